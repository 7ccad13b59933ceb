-- Gathered by bundle.py, this session's own program.
import Derived.Test.YtojimlmflfiijaaBWI1
import Derived.Test.YtojimlmflfiijaaBWI2
import Derived.Test.YtojimlmflfiijaaBWI3
/- Plain laws that FnExactWrapInner stands on, gathered from this session's own texts. -/
set_option linter.unusedSimpArgs false
set_option linter.unusedVariables false
namespace Go.Proofs.Ytojimlmflfiijaa.Q
open Go.RowKit Go.Proofs.Ytojimlmflfiijaa.PA Go.Proofs.YtojimlmflfiijaaW.PrintWords Go.Proofs.YtojimlmflfiijaaW.PrintLast Go.Proofs.YtojimlmflfiijaaW.PrintMore

theorem wrap_id {x : Int} (h0 : -9223372036854775808 ≤ x) (h1 : x ≤ 9223372036854775807) : wrap64 x = x := by
  unfold wrap64
  omega
/-- The list's numbers are bytes. -/
def Bytes (l : List Int) : Prop := ∀ x ∈ l, 0 ≤ x ∧ x ≤ 255
/-- What came in as bytes is bytes. -/
theorem bytes_of_wf {l : List Int} (h : ∀ x ∈ l, (Lit.int .u8 x).wf = true) : Bytes l := fun x hx => by
  have h1 := h x hx
  have h2 : decide ((0 : Int) ≤ x) = true ∧ decide (x ≤ 255) = true := by simpa [Lit.wf, IntKind.min, IntKind.max, IntKind.signed, IntKind.bits] using h1
  exact ⟨of_decide_eq_true h2.1, of_decide_eq_true h2.2⟩
theorem in_eq (a b c : Int) : impl_in.f a b c = some (decide (b ≤ a ∧ a ≤ c)) := by
  unfold impl_in.f
  by_cases h : a ≥ b
  · rw [if_pos h]
    congr 1
    simp; omega
  · rw [if_neg h]
    congr 1
    simp; omega
theorem l1In_eq (a b c : Int) : spec_l1In.f a b c = some (decide (b ≤ a ∧ a ≤ c)) := by
  unfold spec_l1In.f
  by_cases h : a ≥ b
  · rw [if_pos h]
    congr 1
    simp; omega
  · rw [if_neg h]
    congr 1
    simp; omega
theorem clone_eq (l : List Int) (h : l.length < 140737488355328) : slices_Clone_byte_byte.f l = some l := by
  unfold slices_Clone_byte_byte.f
  simp [h]
/-- As few bytes as are wanted for whole blocks. -/
def need (n s : Int) : Int := (s - (n + 2) % s) % s
theorem cases16 {s : Int} (h0 : 1 ≤ s) (h1 : s ≤ 16) : s = 1 ∨ s = 2 ∨ s = 3 ∨ s = 4 ∨ s = 5 ∨ s = 6 ∨ s = 7 ∨ s = 8 ∨ s = 9 ∨ s = 10 ∨ s = 11 ∨ s = 12 ∨ s = 13 ∨ s = 14 ∨ s = 15 ∨ s = 16 := by omega
theorem need_range {n s : Int} (h0 : 1 ≤ s) : 0 ≤ need n s ∧ need n s < s := ⟨Int.emod_nonneg _ (by omega), Int.emod_lt_of_pos _ (by omega)⟩
theorem need_iff {n s m : Int} (h0 : 1 ≤ s) (h1 : s ≤ 16) (_hn : 0 ≤ n) (hm : 0 ≤ m) (hle : m ≤ need n s) : (n + m + 2) % s = 0 ↔ m = need n s := by
  unfold need at *
  rcases cases16 h0 h1 with rfl | rfl | rfl | rfl | rfl | rfl | rfl | rfl | rfl | rfl | rfl | rfl | rfl | rfl | rfl | rfl <;> omega
/-- 1, 2, 3 and so on, so many. -/
def ups (n : Nat) : List Int := (List.range n).map fun (i : Nat) => (i : Int) + 1
theorem ups_length (n : Nat) : (ups n).length = n := by simp [ups]
theorem ups_succ (n : Nat) : ups (n + 1) = ups n ++ [(n : Int) + 1] := by simp [ups, List.range_succ]
theorem ups_zero : ups 0 = [] := rfl
/-- The bytes, padded to a multiple of s. -/
def padded (l : List Int) (s nx : Int) : List Int := l ++ ups (need l.length s).toNat ++ [need l.length s, nx]
theorem padded_length (l : List Int) (s nx : Int) (h : 1 ≤ s) : ((padded l s nx).length : Int) = l.length + need l.length s + 2 := by
  have := (need_range (n := l.length) h).1
  simp [padded, ups_length]
  omega
theorem padded_small (l : List Int) (s nx : Int) (h : 1 ≤ s) (h1 : s ≤ 16) : ((padded l s nx).length : Int) ≤ l.length + 17 := by
  rw [padded_length l s nx h]
  have := (need_range (n := l.length) h).2
  omega
theorem pad_loop (l : List Int) (s nx : Int) (h0 : 1 ≤ s) (h1 : s ≤ 16) (hl : l.length ≤ 100000) (d : Nat) : ∀ m : Nat, (m : Int) + d = need l.length s →
    Ev (fun k => impl_pad.l0 k s nx (l ++ ups m) (m : Int)) (padded l s nx) := by
  have hr := need_range (n := l.length) h0
  induction d with
  | zero =>
    intro m hm
    have hm' : (m : Int) = need l.length s := by omega
    refine Ev.step (f := fun _ => some (padded l s nx)) (fun k => ?_) (Ev.now _)
    simp only [impl_pad.l0]
    have hlen : ((l ++ ups m).length : Int) = l.length + m := by simp [ups_length]
    rw [if_neg (by omega), hlen, wrap_id (by omega) (by omega), Int.tmod_eq_emod_of_nonneg (by omega), if_pos ((need_iff h0 h1 (by omega) (by omega) (by omega)).2 hm')]
    simp only [Option.bind_some]
    rw [if_pos (by simp [ups_length]; omega)]
    have : (m : Int) % 256 = m := by omega
    rw [this]
    congr 1
    unfold padded
    rw [← hm', Int.toNat_natCast]
  | succ d ih =>
    intro m hm
    refine Ev.step (f := fun k => impl_pad.l0 k s nx (l ++ ups (m + 1)) ((m + 1 : Nat) : Int)) (fun k => ?_) (ih (m + 1) (by omega))
    simp only [impl_pad.l0]
    have hlen : ((l ++ ups m).length : Int) = l.length + m := by simp [ups_length]
    rw [if_neg (by omega), hlen, wrap_id (x := (l.length : Int) + m + 2) (by omega) (by omega), Int.tmod_eq_emod_of_nonneg (by omega), if_neg (fun hq => by
      have := (need_iff h0 h1 (by omega) (by omega) (by omega)).1 hq
      omega), if_pos (by simp [ups_length]; omega), wrap_id (x := (m : Int) + 1) (by omega) (by omega)]
    have e1 : ((m : Int) + 1) % 256 = m + 1 := by omega
    rw [e1, ups_succ, List.append_assoc]
    rfl
theorem pad_ev (l : List Int) (s nx : Int) (h0 : 1 ≤ s) (h1 : s ≤ 16) (hl : l.length ≤ 100000) : Ev (fun k => impl_pad.f k l s nx) (padded l s nx) := by
  have hr := need_range (n := l.length) h0
  unfold impl_pad.f
  rw [clone_eq l (by omega)]
  simp only [Option.bind_some]
  have := pad_loop l s nx h0 h1 hl (need l.length s).toNat 0 (by omega)
  simpa [ups_zero] using this
theorem specPad_loop (l : List Int) (s nx : Int) (h0 : 1 ≤ s) (h1 : s ≤ 16) (hn : 0 ≤ nx ∧ nx ≤ 255) (hl : l.length ≤ 100000) (d : Nat) : ∀ m : Nat, (m : Int) + d = need l.length s →
    Ev (fun k => spec_PadBytes.l0 k s nx (l ++ ups m) (m : Int)) (0, padded l s nx) := by
  have hr := need_range (n := l.length) h0
  have hnx : nx % 256 = nx := by omega
  induction d with
  | zero =>
    intro m hm
    have hm' : (m : Int) = need l.length s := by omega
    refine Ev.step (f := fun _ => some (0, padded l s nx)) (fun k => ?_) (Ev.now _)
    simp only [spec_PadBytes.l0]
    have hlen : ((l ++ ups m).length : Int) = l.length + m := by simp [ups_length]
    rw [if_neg (by omega), hlen, wrap_id (by omega) (by omega), Int.tmod_eq_emod_of_nonneg (by omega), if_pos ((need_iff h0 h1 (by omega) (by omega) (by omega)).2 hm')]
    simp only [Option.bind_some]
    rw [if_pos (by simp [ups_length]; omega)]
    have : (m : Int) % 256 = m := by omega
    rw [this, hnx]
    congr 2
    unfold padded
    rw [← hm', Int.toNat_natCast]
  | succ d ih =>
    intro m hm
    refine Ev.step (f := fun k => spec_PadBytes.l0 k s nx (l ++ ups (m + 1)) ((m + 1 : Nat) : Int)) (fun k => ?_) (ih (m + 1) (by omega))
    simp only [spec_PadBytes.l0]
    have hlen : ((l ++ ups m).length : Int) = l.length + m := by simp [ups_length]
    rw [if_neg (by omega), hlen, wrap_id (x := (l.length : Int) + m + 2) (by omega) (by omega), Int.tmod_eq_emod_of_nonneg (by omega), if_neg (fun hq => by
      have := (need_iff h0 h1 (by omega) (by omega) (by omega)).1 hq
      omega), if_pos (by simp [ups_length]; omega), wrap_id (x := (m : Int) + 1) (by omega) (by omega)]
    have e1 : ((m : Int) + 1) % 256 = m + 1 := by omega
    rw [e1, ups_succ, List.append_assoc]
    rfl
theorem specPad_ok (l : List Int) (s nx : Int) (hs : 1 ≤ s ∧ s ≤ 16) (hn : 0 ≤ nx ∧ nx ≤ 255) (hl : l.length ≤ 400) : Ev (fun k => spec_PadBytes.f k l s nx) (0, padded l s nx) := by
  unfold spec_PadBytes.f
  simp only [l1In_eq, Option.bind_some, decide_eq_true hs, decide_eq_true hn, eq_self, if_true, Bool.false_eq_true, if_false, Bool.not_true, Bool.not_false]
  have hr := need_range (n := l.length) hs.1
  have e := specPad_loop l s nx hs.1 hs.2 hn (by omega) (need l.length s).toNat 0 (by omega)
  refine Ev.step (f := fun k => spec_PadBytes.l0 k s nx (l ++ ups 0) ((0 : Nat) : Int)) (fun k => ?_) e
  simp only [spec_PadBytes.j0]
  rw [if_neg (by decide), if_neg (by omega)]
  simp only [Option.bind_some]
  rw [if_pos (by simp; omega)]
  simp [ups_zero]
theorem rd_app_right (a b : List Int) (i : Int) (h : (a.length : Int) ≤ i) : rd (a ++ b) i = rd b (i - a.length) := by
  unfold rd
  rw [List.getD_eq_getElem?_getD, List.getD_eq_getElem?_getD, List.getElem?_append_right (by omega)]
  congr 2
  omega
def xr (a b : Int) : Int := Go.bits .xor .u8 a b
theorem xr_nat (a b : Nat) (ha : a < 256) (hb : b < 256) : xr (a : Int) (b : Int) = ((a ^^^ b : Nat) : Int) := by
  have h : a ^^^ b < 2 ^ 8 := Nat.xor_lt_two_pow ha hb
  unfold xr
  simp only [bits, BitVec.ofInt_natCast, BitVec.toNat_xor, BitVec.toNat_ofNat, show IntKind.u8.bits = 8 from rfl, Nat.mod_eq_of_lt (show a < 2 ^ 8 from ha), Nat.mod_eq_of_lt (show b < 2 ^ 8 from hb)]
  exact wraps_u8 _ (Int.natCast_nonneg _) (by exact_mod_cast h)
def IsByte (x : Int) : Prop := 0 ≤ x ∧ x ≤ 255
theorem IsByte.nat {x : Int} (h : IsByte x) : ∃ n : Nat, x = (n : Int) ∧ n < 256 := by
  obtain ⟨n, rfl⟩ := Int.eq_ofNat_of_zero_le h.1
  exact ⟨n, rfl, by have := h.2; omega⟩
theorem xr_byte {a b : Int} (ha : IsByte a) (hb : IsByte b) : IsByte (xr a b) := by
  obtain ⟨n, rfl, hn⟩ := ha.nat
  obtain ⟨m, rfl, hm⟩ := hb.nat
  have h : n ^^^ m < 2 ^ 8 := Nat.xor_lt_two_pow hn hm
  rw [xr_nat n m hn hm]
  exact ⟨by omega, by omega⟩
def strm : Int → Nat → List Int
  | _, 0 => []
  | x, n + 1 => ((x * 16807) % 2147483647) % 256 :: strm ((x * 16807) % 2147483647) n
theorem strm_length (n : Nat) : ∀ x, (strm x n).length = n := by
  induction n with
  | zero => intro x; rfl
  | succ n ih => intro x; simp [strm, ih]
theorem strm_bytes (n : Nat) : ∀ x, Bytes (strm x n) := by
  induction n with
  | zero => intro x y hy; simp [strm] at hy
  | succ n ih =>
    intro x y hy
    simp only [strm, List.mem_cons] at hy
    rcases hy with rfl | hy
    · omega
    · exact ih _ y hy
def x0 (key seq : Int) : Int := (key * 31 + seq + 7) % 2147483647
theorem x0_eq {key seq : Int} (hk : 0 ≤ key ∧ key ≤ 4294967295) (hs : 0 ≤ seq ∧ seq ≤ 1099511627776) : Int.tmod (wrap64 ((wrap64 ((wrap64 (key * 31)) + seq)) + 7)) 2147483647 = x0 key seq := by
  rw [wrap_id (x := key * 31) (by omega) (by omega), wrap_id (x := key * 31 + seq) (by omega) (by omega), wrap_id (x := key * 31 + seq + 7) (by omega) (by omega), Int.tmod_eq_emod_of_nonneg (by omega)]
  rfl
theorem x0_range (key seq : Int) : 0 ≤ x0 key seq ∧ x0 key seq < 2147483647 := by unfold x0; omega
theorem stream_loop (N : Nat) (hN : N ≤ 100000) (d : Nat) : ∀ (x : Int) (out : List Int) (i : Nat), i + d = N → 0 ≤ x → x < 2147483647 → out.length ≤ i → Ev (fun k => impl_stream.l0 k x out (N : Int) (i : Int)) (out ++ strm x d) := by
  induction d with
  | zero =>
    intro x out i hi _ _ _
    refine Ev.step (f := fun _ => some (out ++ strm x 0)) (fun k => ?_) (Ev.now _)
    simp only [impl_stream.l0]
    rw [if_neg (by omega)]
    simp [strm]
  | succ d ih =>
    intro x out i hi h0 h1 ho
    have e := ih ((x * 16807) % 2147483647) (out ++ [((x * 16807) % 2147483647) % 256]) (i + 1) (by omega) (by omega) (by omega) (by simp; omega)
    have hs : out ++ strm x (d + 1) = (out ++ [((x * 16807) % 2147483647) % 256]) ++ strm ((x * 16807) % 2147483647) d := by simp [strm]
    rw [hs]
    refine Ev.step (fun k => ?_) e
    simp only [impl_stream.l0]
    rw [if_pos (by omega), if_pos (by omega), wrap_id (x := x * 16807) (by omega) (by omega), Int.tmod_eq_emod_of_nonneg (by omega), wrap_id (x := (i : Int) + 1) (by omega) (by omega)]
    rfl
theorem stream_ev {key seq : Int} (hk : 0 ≤ key ∧ key ≤ 4294967295) (hs : 0 ≤ seq ∧ seq ≤ 1099511627776) (N : Nat) (hN : N ≤ 100000) : Ev (fun k => impl_stream.f k key seq (N : Int)) (strm (x0 key seq) N) := by
  unfold impl_stream.f
  rw [x0_eq hk hs]
  have := stream_loop N hN N (x0 key seq) [] 0 (by omega) (x0_range _ _).1 (x0_range _ _).2 (by simp)
  simpa using this
theorem specStream_loop (d : Nat) (hd : d ≤ 100000) : ∀ (x : Int) (out : List Int), 0 ≤ x → x < 2147483647 → out.length + d ≤ 1000000 → Ev (fun k => spec_l14Stream.l0 k (d : Int) x out) (out ++ strm x d) := by
  induction d with
  | zero =>
    intro x out _ _ _
    refine Ev.step (f := fun _ => some (out ++ strm x 0)) (fun k => ?_) (Ev.now _)
    simp only [spec_l14Stream.l0]
    rw [if_neg (by omega)]
    simp [strm]
  | succ d ih =>
    intro x out h0 h1 ho
    have e := ih (by omega) ((x * 16807) % 2147483647) (out ++ [((x * 16807) % 2147483647) % 256]) (by omega) (by omega) (by simp; omega)
    have hs : out ++ strm x (d + 1) = (out ++ [((x * 16807) % 2147483647) % 256]) ++ strm ((x * 16807) % 2147483647) d := by simp [strm]
    rw [hs]
    refine Ev.step (fun k => ?_) e
    simp only [spec_l14Stream.l0]
    rw [if_pos (by omega), if_pos (by omega), wrap_id (x := x * 16807) (by omega) (by omega), Int.tmod_eq_emod_of_nonneg (show 0 ≤ x * 16807 by omega), wrap_id (x := ((d + 1 : Nat) : Int) - 1) (by omega) (by omega), Int.tmod_eq_emod_of_nonneg (by omega)]
    have e1 : ((d + 1 : Nat) : Int) - 1 = (d : Int) := by omega
    have e2 : x * 16807 % 2147483647 % 256 % 256 = x * 16807 % 2147483647 % 256 := by omega
    rw [e1, e2]
theorem specStream_ev {key seq : Int} (hk : 0 ≤ key ∧ key ≤ 4294967295) (hs : 0 ≤ seq ∧ seq ≤ 1099511627776) (N : Nat) (hN : N ≤ 100000) : Ev (fun k => spec_l14Stream.f k key seq (N : Int)) (strm (x0 key seq) N) := by
  unfold spec_l14Stream.f
  rw [x0_eq hk hs]
  have := specStream_loop N hN (x0 key seq) [] (x0_range _ _).1 (x0_range _ _).2 (by simp; omega)
  simpa using this
def mix : List Int → List Int → List Int
  | a :: l, b :: m => xr a b :: mix l m
  | _, _ => []
theorem mix_length : ∀ l m : List Int, l.length = m.length → (mix l m).length = l.length
  | [], [], _ => rfl
  | [], _ :: _, h => by simp at h
  | _ :: _, [], h => by simp at h
  | a :: l, b :: m, h => by
    simp only [mix, List.length_cons]
    rw [mix_length l m (by simpa using h)]
theorem mix_bytes : ∀ l m : List Int, Bytes l → Bytes m → Bytes (mix l m)
  | [], [], _, _ => fun x hx => by simp [mix] at hx
  | [], _ :: _, _, _ => fun x hx => by simp [mix] at hx
  | _ :: _, [], _, _ => fun x hx => by simp [mix] at hx
  | a :: l, b :: m, h1, h2 => fun x hx => by
    simp only [mix, List.mem_cons] at hx
    rcases hx with rfl | hx
    · exact xr_byte (h1 a (by simp)) (h2 b (by simp))
    · exact mix_bytes l m (fun y hy => h1 y (by simp [hy])) (fun y hy => h2 y (by simp [hy])) x hx
theorem mix_get : ∀ (l m : List Int) (i : Nat) (h1 : i < l.length) (h2 : i < m.length) (h : i < (mix l m).length), (mix l m)[i] = xr l[i] m[i]
  | [], _, _, h1, _, _ => by simp at h1
  | _ :: _, [], _, _, h2, _ => by simp at h2
  | a :: l, b :: m, 0, _, _, _ => rfl
  | a :: l, b :: m, i + 1, h1, h2, h => by
    simp only [mix, List.getElem_cons_succ]
    exact mix_get l m i _ _ _
theorem rd_get (l : List Int) (i : Nat) (h : i < l.length) : rd l (i : Int) = l[i] := by simp [rd, List.getD_eq_getElem?_getD, List.getElem?_eq_getElem h]
theorem half_step (s d : List Int) (i : Nat) (hl : s.length = d.length) (h : i < s.length) : (mix (s.take i) (d.take i) ++ s.drop i).set i (xr (rd (mix (s.take i) (d.take i) ++ s.drop i) (i : Int)) (rd d (i : Int))) = mix (s.take (i + 1)) (d.take (i + 1)) ++ s.drop (i + 1) := by
  have hlen : (mix (s.take i) (d.take i)).length = i := by rw [mix_length _ _ (by simp; omega)]; simp; omega
  have e1 : rd (mix (s.take i) (d.take i) ++ s.drop i) (i : Int) = s[i] := by
    rw [rd_app_right _ _ _ (by omega), hlen, show ((i : Int) - (i : Int)) = ((0 : Nat) : Int) by omega, rd_get _ 0 (by simp; omega)]
    simp
  rw [e1, rd_get d i (by omega)]
  apply List.ext_getElem
  · rw [List.length_set, List.length_append, List.length_append, hlen, mix_length _ _ (by simp; omega)]
    simp; omega
  · intro j hj1 hj2
    have hlen2 : (mix (s.take (i + 1)) (d.take (i + 1))).length = i + 1 := by rw [mix_length _ _ (by simp; omega)]; simp; omega
    rw [List.getElem_set]
    by_cases e : i = j
    · subst e
      rw [if_pos rfl, List.getElem_append_left (by omega), mix_get _ _ _ (by simp; omega) (by simp; omega)]
      simp
    · rw [if_neg e]
      by_cases hlt : j < i
      · rw [List.getElem_append_left (by omega), List.getElem_append_left (by omega), mix_get _ _ _ (by simp; omega) (by simp; omega), mix_get _ _ _ (by simp; omega) (by simp; omega)]
        simp
      · rw [List.getElem_append_right (by omega), List.getElem_append_right (by omega)]
        simp only [List.getElem_drop, hlen, hlen2]
        congr 1
        omega
theorem turned_loop (s d : List Int) (hl : s.length = d.length) (hs : s.length ≤ 100000) (n : Nat) : ∀ i : Nat, i + n = s.length → Ev (fun k => impl_turned.l0 k (mix (s.take i) (d.take i) ++ s.drop i) d (d.length : Int) (i : Int)) (mix s d) := by
  induction n with
  | zero =>
    intro i hi
    refine Ev.step (f := fun _ => some (mix s d)) (fun k => ?_) (Ev.now _)
    simp only [impl_turned.l0]
    rw [if_neg (by omega), List.take_of_length_le (by omega), List.take_of_length_le (by omega), List.drop_eq_nil_of_le (by omega), List.append_nil]
  | succ n ih =>
    intro i hi
    have e := ih (i + 1) (by omega)
    rw [← half_step s d i hl (by omega)] at e
    refine Ev.step (fun k => ?_) e
    simp only [impl_turned.l0]
    have hlen : (mix (s.take i) (d.take i) ++ s.drop i).length = s.length := by rw [List.length_append, mix_length _ _ (by simp; omega)]; simp; omega
    rw [if_pos (by omega), if_pos (by omega), if_pos (by omega), if_pos (by omega), wrap_id (x := (i : Int) + 1) (by omega) (by omega), Int.toNat_natCast]
    rfl
theorem turned_ev {key seq : Int} (hk : 0 ≤ key ∧ key ≤ 4294967295) (hs : 0 ≤ seq ∧ seq ≤ 1099511627776) (d : List Int) (hd : d.length ≤ 100000) : Ev (fun k => impl_turned.f k key seq d) (mix (strm (x0 key seq) d.length) d) := by
  unfold impl_turned.f
  refine Ev.bind (stream_ev hk hs d.length hd) ?_
  have hl := strm_length d.length (x0 key seq)
  have := turned_loop (strm (x0 key seq) d.length) d hl (by omega) d.length 0 (by omega)
  simpa [mix] using this
theorem specMix_loop (s d : List Int) (hl : s.length = d.length) (hs : s.length ≤ 100000) (n : Nat) : ∀ i : Nat, i + n = s.length → Ev (fun k => spec_l14Mix.l0 k d (mix (s.take i) (d.take i) ++ s.drop i) (i : Int)) (mix s d) := by
  induction n with
  | zero =>
    intro i hi
    have hlen : (mix (s.take i) (d.take i) ++ s.drop i).length = s.length := by rw [List.length_append, mix_length _ _ (by simp; omega)]; simp; omega
    refine Ev.step (f := fun _ => some (mix s d)) (fun k => ?_) (Ev.now _)
    simp only [spec_l14Mix.l0]
    rw [if_neg (by omega), List.take_of_length_le (by omega), List.take_of_length_le (by omega), List.drop_eq_nil_of_le (by omega), List.append_nil]
  | succ n ih =>
    intro i hi
    have e := ih (i + 1) (by omega)
    rw [← half_step s d i hl (by omega)] at e
    refine Ev.step (fun k => ?_) e
    simp only [spec_l14Mix.l0]
    have hlen : (mix (s.take i) (d.take i) ++ s.drop i).length = s.length := by rw [List.length_append, mix_length _ _ (by simp; omega)]; simp; omega
    rw [if_pos (by omega), if_pos (by omega), if_pos (by omega), wrap_id (x := (i : Int) + 1) (by omega) (by omega), Int.toNat_natCast]
    rfl
theorem specMix_ev {key seq : Int} (hk : 0 ≤ key ∧ key ≤ 4294967295) (hs : 0 ≤ seq ∧ seq ≤ 1099511627776) (d : List Int) (hd : d.length ≤ 100000) : Ev (fun k => spec_l14Mix.f k key seq d) (mix (strm (x0 key seq) d.length) d) := by
  unfold spec_l14Mix.f
  refine Ev.bind (specStream_ev hk hs d.length hd) ?_
  have hl := strm_length d.length (x0 key seq)
  have := specMix_loop (strm (x0 key seq) d.length) d hl (by omega) d.length 0 (by omega)
  simpa [mix] using this
def tg : Int → List Int → Int
  | h, [] => h
  | h, b :: l => tg ((h * 263 + b + 1) % 1000003) l
def h0 (key seq : Int) : Int := (key * 17 + seq * 3 + 5) % 1000003
theorem h0_eq {key seq : Int} (hk : 0 ≤ key ∧ key ≤ 4294967295) (hs : 0 ≤ seq ∧ seq ≤ 1099511627776) : Int.tmod (wrap64 ((wrap64 ((wrap64 (key * 17)) + (wrap64 (seq * 3)))) + 5)) 1000003 = h0 key seq := by
  rw [wrap_id (x := key * 17) (by omega) (by omega), wrap_id (x := seq * 3) (by omega) (by omega), wrap_id (x := key * 17 + seq * 3) (by omega) (by omega), wrap_id (x := key * 17 + seq * 3 + 5) (by omega) (by omega), Int.tmod_eq_emod_of_nonneg (by omega)]
  rfl
theorem h0_range (key seq : Int) : 0 ≤ h0 key seq ∧ h0 key seq < 1000003 := by unfold h0; omega
theorem tag_loop (d : List Int) (hb : Bytes d) (hd : d.length ≤ 100000) (n : Nat) : ∀ (h : Int) (i : Nat), i + n = d.length → 0 ≤ h → h < 1000003 → Ev (fun k => impl_tag.l0 k h d (d.length : Int) (i : Int)) (tg h (d.drop i)) := by
  induction n with
  | zero =>
    intro h i hi _ _
    refine Ev.step (f := fun _ => some (tg h (d.drop i))) (fun k => ?_) (Ev.now _)
    simp only [impl_tag.l0]
    rw [if_neg (by omega), List.drop_eq_nil_of_le (by omega)]
    rfl
  | succ n ih =>
    intro h i hi a b
    have hlt : i < d.length := by omega
    have hbi := hb d[i] (List.getElem_mem hlt)
    rw [List.drop_eq_getElem_cons hlt]
    have e := ih ((h * 263 + d[i] + 1) % 1000003) (i + 1) (by omega) (by omega) (by omega)
    refine Ev.step (fun k => ?_) e
    simp only [impl_tag.l0]
    rw [if_pos (by omega), if_pos (by omega), if_pos (by omega), rd_get d i hlt, wrap_id (x := d[i]) (by omega) (by omega), wrap_id (x := h * 263) (by omega) (by omega), wrap_id (x := h * 263 + d[i]) (by omega) (by omega), wrap_id (x := h * 263 + d[i] + 1) (by omega) (by omega), Int.tmod_eq_emod_of_nonneg (by omega), wrap_id (x := (i : Int) + 1) (by omega) (by omega)]
    rfl
theorem tag_ev {key seq : Int} (hk : 0 ≤ key ∧ key ≤ 4294967295) (hs : 0 ≤ seq ∧ seq ≤ 1099511627776) (d : List Int) (hb : Bytes d) (hd : d.length ≤ 100000) : Ev (fun k => impl_tag.f k key seq d) (tg (h0 key seq) d) := by
  unfold impl_tag.f
  rw [h0_eq hk hs]
  have := tag_loop d hb hd d.length (h0 key seq) 0 (by omega) (h0_range _ _).1 (h0_range _ _).2
  simpa using this
theorem specTag_loop (d : List Int) (hb : Bytes d) (hd : d.length ≤ 100000) (n : Nat) : ∀ (h : Int) (i : Nat), i + n = d.length → 0 ≤ h → h < 1000003 → Ev (fun k => spec_l14Tag.l0 k d h (i : Int)) (tg h (d.drop i)) := by
  induction n with
  | zero =>
    intro h i hi _ _
    refine Ev.step (f := fun _ => some (tg h (d.drop i))) (fun k => ?_) (Ev.now _)
    simp only [spec_l14Tag.l0]
    rw [if_neg (by omega), List.drop_eq_nil_of_le (by omega)]
    rfl
  | succ n ih =>
    intro h i hi a b
    have hlt : i < d.length := by omega
    have hbi := hb d[i] (List.getElem_mem hlt)
    rw [List.drop_eq_getElem_cons hlt]
    have e := ih ((h * 263 + d[i] + 1) % 1000003) (i + 1) (by omega) (by omega) (by omega)
    refine Ev.step (fun k => ?_) e
    simp only [spec_l14Tag.l0]
    rw [if_pos (by omega), if_pos (by omega), rd_get d i hlt, wrap_id (x := d[i]) (by omega) (by omega), wrap_id (x := h * 263) (by omega) (by omega), wrap_id (x := h * 263 + d[i]) (by omega) (by omega), wrap_id (x := h * 263 + d[i] + 1) (by omega) (by omega), Int.tmod_eq_emod_of_nonneg (by omega), wrap_id (x := (i : Int) + 1) (by omega) (by omega)]
    rfl
theorem specTag_ev {key seq : Int} (hk : 0 ≤ key ∧ key ≤ 4294967295) (hs : 0 ≤ seq ∧ seq ≤ 1099511627776) (d : List Int) (hb : Bytes d) (hd : d.length ≤ 100000) : Ev (fun k => spec_l14Tag.f k key seq d) (tg (h0 key seq) d) := by
  unfold spec_l14Tag.f
  rw [h0_eq hk hs]
  have := specTag_loop d hb hd d.length (h0 key seq) 0 (by omega) (h0_range _ _).1 (h0_range _ _).2
  simpa using this
/-- A number's lowest four bytes, the highest first. -/
def put4 (t : Int) : List Int := [t / 16777216 % 256, t / 65536 % 256, t / 256 % 256, t % 256]
theorem put4_length (t : Int) : (put4 t).length = 4 := rfl
theorem put4_ev (t : Int) : Ev (fun k => impl_put.f k t 4) (put4 t) := by
  refine ⟨5, fun k hk => ?_⟩
  obtain ⟨m, rfl⟩ : ∃ m, k = m + 5 := ⟨k - 5, by omega⟩
  have e1 : t / 256 / 256 / 256 % 256 = t / 16777216 % 256 := by omega
  have e2 : t / 256 / 256 % 256 = t / 65536 % 256 := by omega
  simp [impl_put.f, impl_put.l0, wrap64, put4, List.replicate, e1, e2]
theorem specBytes4_ev (t : Int) : Ev (fun k => spec_l1Bytes.f k t 4) (put4 t) := by
  refine ⟨5, fun k hk => ?_⟩
  obtain ⟨m, rfl⟩ : ∃ m, k = m + 5 := ⟨k - 5, by omega⟩
  simp [spec_l1Bytes.f, spec_l1Bytes.l0, wrap64, put4, IntKind.wrap, IntKind.bits, IntKind.signed, shr]
def Key (key : Int) : Prop := 0 ≤ key ∧ key ≤ 4294967295
def Seq (seq : Int) : Prop := 0 ≤ seq ∧ seq ≤ 1099511627776
instance (key : Int) : Decidable (Key key) := inferInstanceAs (Decidable (_ ∧ _))
instance (seq : Int) : Decidable (Seq seq) := inferInstanceAs (Decidable (_ ∧ _))
theorem keyed_eq (key seq : Int) : impl_keyed.f key seq = some (decide (Key key ∧ Seq seq)) := by
  unfold impl_keyed.f impl_isKey.f
  simp only [in_eq, Option.bind_some]
  have e : decide (Key key ∧ Seq seq) = (decide (0 ≤ key ∧ key ≤ 4294967295) && decide (0 ≤ seq ∧ seq ≤ 1099511627776)) := by
    rw [← Bool.decide_and]
    rfl
  rw [e]
  by_cases hk : 0 ≤ key ∧ key ≤ 4294967295
  · rw [decide_eq_true hk, if_pos rfl, Bool.true_and]
  · rw [decide_eq_false hk, if_neg (by decide), Bool.false_and]
theorem asked_eq (key seq : Int) : spec_l14Asked.f key seq = some (if Key key ∧ Seq seq then 0 else 3) := by
  unfold spec_l14Asked.f
  simp only [l1In_eq, Option.bind_some]
  by_cases hk : 0 ≤ key ∧ key ≤ 4294967295
  · rw [decide_eq_true hk, if_pos rfl]
    by_cases hs : 0 ≤ seq ∧ seq ≤ 1099511627776
    · rw [decide_eq_true hs, if_pos rfl, if_pos ⟨hk, hs⟩]
    · rw [decide_eq_false hs, if_neg (by decide), if_neg (fun h => hs h.2)]
  · rw [decide_eq_false hk, if_neg (by decide), if_neg (fun h => hk h.1)]
/-- Bytes and their stream; and with their tag behind them. -/
def body (key seq : Int) (d : List Int) : List Int := mix (strm (x0 key seq) d.length) d
def sealed (key seq : Int) (d : List Int) : List Int := body key seq d ++ put4 (tg (h0 key seq) (body key seq d))
theorem body_length (key seq : Int) (d : List Int) : (body key seq d).length = d.length := by
  unfold body
  rw [mix_length _ _ (strm_length _ _), strm_length]
theorem sealed_length (key seq : Int) (d : List Int) : (sealed key seq d).length = d.length + 4 := by simp [sealed, body_length, put4_length]
theorem Seal_ok (key seq : Int) (d : List Int) (h : Key key ∧ Seq seq) (hb : Bytes d) (hl : d.length ≤ 480) : Ev (fun k => impl_SealBytes.f k key seq d) (0, sealed key seq d) := by
  unfold impl_SealBytes.f
  simp only [keyed_eq, Option.bind_some, decide_eq_true h, if_true, if_neg (show ¬ ((d.length : Int) > 480) by omega)]
  refine Ev.bind (turned_ev h.1 h.2 d (by omega)) ?_
  have hl2 : (mix (strm (x0 key seq) d.length) d).length = d.length := body_length key seq d
  refine Ev.bind (tag_ev h.1 h.2 _ (mix_bytes _ _ (strm_bytes _ _) hb) (by omega)) ?_
  refine Ev.bind (put4_ev _) ?_
  simp only [put4_length, hl2, if_pos (show d.length + 4 < 140737488355328 by omega)]
  exact Ev.now _
theorem specSeal_ok (key seq : Int) (d : List Int) (h : Key key ∧ Seq seq) (hb : Bytes d) (hl : d.length ≤ 480) : Ev (fun k => spec_SealBytes.f k key seq d) (0, sealed key seq d) := by
  unfold spec_SealBytes.f
  simp only [asked_eq, Option.bind_some, if_pos h, if_true, if_neg (show ¬ ((d.length : Int) > 480) by omega)]
  refine Ev.bind (specMix_ev h.1 h.2 d (by omega)) ?_
  have hl2 : (mix (strm (x0 key seq) d.length) d).length = d.length := body_length key seq d
  refine Ev.bind (specTag_ev h.1 h.2 _ (mix_bytes _ _ (strm_bytes _ _) hb) (by omega)) ?_
  refine Ev.bind (specBytes4_ev _) ?_
  simp only [put4_length, hl2, if_pos (show d.length + 4 < 140737488355328 by omega)]
  exact Ev.now _
theorem copy_step (l : List Int) (i : Nat) (h : i < l.length) : (l.take i ++ List.replicate (l.length - i) 0).set i (rd l (i : Int)) = l.take (i + 1) ++ List.replicate (l.length - (i + 1)) 0 := by
  rw [rd_get l i h]
  have e : List.replicate (l.length - i) (0 : Int) = 0 :: List.replicate (l.length - (i + 1)) 0 := by
    rw [show l.length - i = (l.length - (i + 1)) + 1 by omega, List.replicate_succ]
  have hlen : (l.take i).length = i := by simp; omega
  rw [e, List.set_append_right _ _ (by omega), hlen, Nat.sub_self, List.set_cons_zero, List.take_succ_eq_append_getElem h, List.append_assoc]
  rfl
theorem copy_loop (l : List Int) (hl : l.length ≤ 2000000) (n : Nat) : ∀ i : Nat, i + n = l.length → Ev (fun k => laws_toByteS.l0 k l (l.take i ++ List.replicate (l.length - i) 0) (i : Int)) l := by
  induction n with
  | zero =>
    intro i hi
    refine Ev.step (f := fun _ => some l) (fun k => ?_) (Ev.now _)
    simp only [laws_toByteS.l0]
    rw [if_neg (by omega), show l.length - i = 0 by omega, List.take_of_length_le (by omega)]
    simp
  | succ n ih =>
    intro i hi
    have e := ih (i + 1) (by omega)
    rw [← copy_step l i (by omega)] at e
    refine Ev.step (fun k => ?_) e
    simp only [laws_toByteS.l0]
    rw [if_pos (by omega), if_pos (by omega), if_pos (by simp; omega), wrap_id (x := (i : Int) + 1) (by omega) (by omega), Int.toNat_natCast]
    rfl
theorem copy_ev (l : List Int) (hl : l.length ≤ 2000000) : Ev (fun k => laws_toByteS.f k l) l := by
  have := copy_loop l hl l.length 0 (by omega)
  refine Ev.congr (fun k => ?_) this
  unfold laws_toByteS.f
  rw [if_pos (by omega), if_pos (by omega), Int.toNat_natCast]
  simp
theorem same_loop (a b : List Int) (hl : a.length = b.length) (ha : a.length ≤ 100000000) (d : Nat) : ∀ i : Nat, i + d = a.length → Ev (fun k => laws_eqByteS.l0 k a b (i : Int)) (decide (a.drop i = b.drop i)) := by
  induction d with
  | zero =>
    intro i hi
    have h1 : a.drop i = [] := List.drop_eq_nil_of_le (by omega)
    have h2 : b.drop i = [] := List.drop_eq_nil_of_le (by omega)
    rw [h1, h2]
    refine Ev.step (f := fun _ => some true) (fun k => ?_) (Ev.now _)
    simp only [laws_eqByteS.l0]
    rw [if_neg (by omega)]
  | succ d ih =>
    intro i hi
    have hia : i < a.length := by omega
    have hib : i < b.length := by omega
    rw [List.drop_eq_getElem_cons hia, List.drop_eq_getElem_cons hib]
    by_cases he : a[i] = b[i]
    · have hd : decide (a[i] :: a.drop (i + 1) = b[i] :: b.drop (i + 1)) = decide (a.drop (i + 1) = b.drop (i + 1)) := by
        simp only [List.cons.injEq, he, true_and]
      rw [hd]
      refine Ev.step (f := fun k => laws_eqByteS.l0 k a b ((i + 1 : Nat) : Int)) (fun k => ?_) (ih (i + 1) (by omega))
      simp only [laws_eqByteS.l0]
      rw [if_pos (by omega), if_pos (by omega), if_pos (by omega), rd_get a i hia, rd_get b i hib, if_pos he, wrap_id (by omega) (by omega)]
      rfl
    · have hd : decide (a[i] :: a.drop (i + 1) = b[i] :: b.drop (i + 1)) = false := by simp only [List.cons.injEq, he, false_and, decide_false]
      rw [hd]
      refine Ev.step (f := fun _ => some false) (fun k => ?_) (Ev.now _)
      simp only [laws_eqByteS.l0]
      rw [if_pos (by omega), if_pos (by omega), if_pos (by omega), rd_get a i hia, rd_get b i hib, if_neg he]
theorem same_ev (a : List Int) (ha : a.length ≤ 100000000) : Ev (fun k => laws_eqByteS.f k a a) true := by
  unfold laws_eqByteS.f
  simp only [if_true]
  have := same_loop a a rfl ha a.length 0 (by omega)
  simpa using this
theorem sameResult_ev (c : Int) (a : List Int) (ha : a.length ≤ 100000000) : Ev (fun k => laws_eqBytesResult.f k c a c a) true := by
  unfold laws_eqBytesResult.f
  simp only [if_true]
  exact Ev.bind (same_ev a ha) (Ev.now _)
/-- So many bytes, from k on. -/
def marks (k : Int) : Nat → List Int
  | 0 => []
  | n + 1 => k % 256 :: marks (k + 1) n
theorem mark_loop (n : Nat) : ∀ (a b : List Int) (k : Int), b.length = n → a.length + n ≤ 100000000 → 0 ≤ k → k + n ≤ 1000000000 → Ev (fun q => laws_markByteS.l0 q (a ++ b) k (a.length : Int)) (k + n, a ++ marks k n) := by
  induction n with
  | zero =>
    intro a b k hb ha h0 h1
    have : b = [] := List.length_eq_zero_iff.1 hb
    subst this
    refine Ev.step (f := fun _ => some (k + 0, a ++ marks k 0)) (fun q => ?_) (by simpa using Ev.now _)
    simp only [laws_markByteS.l0]
    rw [if_neg (by simp)]
    simp [marks]
  | succ n ih =>
    intro a b k hb ha h0 h1
    match b, hb with
    | x :: b, hb =>
      have e := ih (a ++ [k % 256]) b (k + 1) (by simpa using hb) (by simp; omega) (by omega) (by omega)
      have e1 : (a ++ [k % 256]) ++ b = (a ++ x :: b).set a.length (k % 256) := by simp
      have e2 : (k + 1 + (n : Int), (a ++ [k % 256]) ++ marks (k + 1) n) = (k + ((n + 1 : Nat) : Int), a ++ marks k (n + 1)) := by
        simp [marks]; omega
      have e3 : (((a ++ [k % 256]).length : Nat) : Int) = (a.length : Int) + 1 := by simp
      rw [e1, e2, e3] at e
      refine Ev.step (fun q => ?_) e
      simp only [laws_markByteS.l0]
      rw [if_pos (by simp; omega), if_pos (by omega), Int.toNat_natCast, wrap_id (x := k + 1) (by omega) (by omega), wrap_id (x := (a.length : Int) + 1) (by omega) (by omega)]
theorem mark_ev (l : List Int) (k : Int) (hl : l.length ≤ 100000000) (h0 : 0 ≤ k) (h1 : k + l.length ≤ 1000000000) : Ev (fun q => laws_markByteS.f q l k) (k + l.length, marks k l.length) := by
  have := mark_loop l.length [] l k rfl (by simpa using hl) h0 h1
  simpa [laws_markByteS.f] using this
theorem held_loop (n : Nat) : ∀ (a : List Int) (k : Int), a.length + n ≤ 100000000 → 0 ≤ k → k + n ≤ 1000000000 → Ev (fun q => laws_heldByteS.l0 q (a ++ marks k n) k (a.length : Int)) (k + n) := by
  induction n with
  | zero =>
    intro a k ha h0 h1
    refine Ev.step (f := fun _ => some (k + 0)) (fun q => ?_) (by simpa using Ev.now _)
    simp only [laws_heldByteS.l0]
    rw [if_neg (by simp [marks])]
    simp
  | succ n ih =>
    intro a k ha h0 h1
    have e := ih (a ++ [k % 256]) (k + 1) (by simp; omega) (by omega) (by omega)
    have e1 : (a ++ [k % 256]) ++ marks (k + 1) n = a ++ marks k (n + 1) := by simp [marks]
    have e2 : k + 1 + (n : Int) = k + ((n + 1 : Nat) : Int) := by omega
    have e3 : (((a ++ [k % 256]).length : Nat) : Int) = (a.length : Int) + 1 := by simp
    rw [e1, e2, e3] at e
    refine Ev.step (fun q => ?_) e
    simp only [laws_heldByteS.l0]
    have hr : rd (a ++ marks k (n + 1)) (a.length : Int) = k % 256 := by
      rw [rd_app_right _ _ _ (by omega), Int.sub_self]
      simp [marks, rd]
    rw [if_pos (by simp [marks]; omega), if_pos (by omega), hr, if_pos rfl, wrap_id (x := k + 1) (by omega) (by omega), wrap_id (x := (a.length : Int) + 1) (by omega) (by omega)]
theorem held_ev (n : Nat) (k : Int) (hn : n ≤ 100000000) (h0 : 0 ≤ k) (h1 : k + n ≤ 1000000000) : Ev (fun q => laws_heldByteS.f q (marks k n) k) (k + n) := by
  have := held_loop n [] k (by simpa using hn) h0 h1
  simpa [laws_heldByteS.f] using this
theorem markResult_ev (c : Int) (l : List Int) (hl : l.length ≤ 1000000) : Ev (fun q => laws_markBytesResult.f q c l 1) (1 + l.length, marks 1 l.length) := by
  unfold laws_markBytesResult.f
  exact Ev.bind (mark_ev l 1 (by omega) (by omega) (by omega)) (Ev.now _)
theorem heldResult_ev (c : Int) (n : Nat) (hn : n ≤ 1000000) : Ev (fun q => laws_heldBytesResult.f q c (marks 1 n) 1) (1 + (n : Int)) := by
  unfold laws_heldBytesResult.f
  refine Ev.bind (held_ev n 1 (by omega) (by omega) (by omega)) ?_
  simp only [if_neg (show ¬ (1 + (n : Int) < 0) by omega)]
  exact Ev.now _
theorem flat_take (ls : List (List Int)) (i : Nat) (h : i < ls.length) : (ls.take (i + 1)).flatten = (ls.take i).flatten ++ ls[i] := by
  rw [List.take_succ_eq_append_getElem h, List.flatten_append]
  simp
theorem flat_le (ls : List (List Int)) (i : Nat) : (ls.take i).flatten.length ≤ ls.flatten.length := by
  conv => rhs; rw [← List.take_append_drop i ls, List.flatten_append, List.length_append]
  omega
theorem rdL_get (ls : List (List Int)) (i : Nat) (h : i < ls.length) : rd_L2 ls (i : Int) = ls[i] := by simp [rd_L2, List.getD_eq_getElem?_getD, List.getElem?_eq_getElem h]
theorem concat_l1 (ls : List (List Int)) (hf : ls.flatten.length ≤ 1000000) (hn : ls.length ≤ 1000) (n : Nat) : ∀ i : Nat, i + n = ls.length → Ev (fun k => slices_Concat_byte_byte.l1 k (ls.take i).flatten ls (ls.length : Int) (i : Int)) ls.flatten := by
  induction n with
  | zero =>
    intro i hi
    refine Ev.step (f := fun _ => some ls.flatten) (fun k => ?_) (Ev.now _)
    simp only [slices_Concat_byte_byte.l1]
    rw [if_neg (by omega), List.take_of_length_le (by omega)]
  | succ n ih =>
    intro i hi
    have hlt : i < ls.length := by omega
    have e := ih (i + 1) (by omega)
    have h1 := flat_le ls (i + 1)
    rw [flat_take ls i hlt] at e h1
    rw [List.length_append] at h1
    refine Ev.step (fun k => ?_) e
    simp only [slices_Concat_byte_byte.l1]
    rw [if_pos (by omega), if_pos (by omega), if_pos (by omega), rdL_get ls i hlt, if_pos (by omega), wrap_id (x := (i : Int) + 1) (by omega) (by omega)]
    rfl
theorem concat_l0 (ls : List (List Int)) (hf : ls.flatten.length ≤ 1000000) (hn : ls.length ≤ 1000) (n : Nat) : ∀ i : Nat, i + n = ls.length → Ev (fun k => slices_Concat_byte_byte.l0 k ls ((ls.take i).flatten.length : Int) ls (ls.length : Int) (i : Int)) ls.flatten := by
  induction n with
  | zero =>
    intro i hi
    have e := concat_l1 ls hf hn ls.length 0 (by omega)
    have h1 := flat_le ls i
    refine Ev.step (fun k => ?_) e
    simp only [slices_Concat_byte_byte.l0]
    rw [if_neg (by omega)]
    unfold slices_Grow_byte_byte.f
    rw [if_pos ⟨by omega, by omega⟩]
    rfl
  | succ n ih =>
    intro i hi
    have hlt : i < ls.length := by omega
    have e := ih (i + 1) (by omega)
    have h1 := flat_le ls (i + 1)
    rw [flat_take ls i hlt] at e h1
    rw [List.length_append] at h1 e
    refine Ev.step (fun k => ?_) e
    simp only [slices_Concat_byte_byte.l0]
    rw [if_pos (by omega), if_pos (by omega), if_pos (by omega), rdL_get ls i hlt, wrap_id (x := ((ls.take i).flatten.length : Int) + (ls[i].length : Int)) (by omega) (by omega), if_neg (by omega), wrap_id (x := (i : Int) + 1) (by omega) (by omega)]
    simp only [Int.natCast_add]
    rfl
theorem concat_ev (ls : List (List Int)) (hf : ls.flatten.length ≤ 1000000) (hn : ls.length ≤ 1000) : Ev (fun k => slices_Concat_byte_byte.f k ls) ls.flatten := by
  have := concat_l0 ls hf hn ls.length 0 (by omega)
  simpa [slices_Concat_byte_byte.f] using this
theorem put4_mod {t : Int} (h : 0 ≤ t) : put4 (t % 4294967296) = put4 t := by
  simp only [put4]
  congr 1
  · omega
  · congr 1
    · omega
    · congr 1
      · omega
      · congr 1
        omega
theorem padded_bytes {l : List Int} {s nx : Int} (h : 1 ≤ s) (h1 : s ≤ 16) (hn : 0 ≤ nx ∧ nx ≤ 255) (hb : Bytes l) : Bytes (padded l s nx) := fun x hx => by
  have hr := need_range (n := l.length) h
  unfold padded at hx
  rcases List.mem_append.1 hx with hx | hx
  · rcases List.mem_append.1 hx with hx | hx
    · exact hb x hx
    · simp only [ups, List.mem_map, List.mem_range] at hx
      obtain ⟨j, hj, rfl⟩ := hx
      omega
  · simp only [List.mem_cons, List.not_mem_nil, or_false] at hx
    rcases hx with rfl | rfl <;> omega
def RightWrap (spi key seq : Int) : Prop := (1 ≤ spi ∧ spi ≤ 4294967295) ∧ (0 ≤ key ∧ key ≤ 4294967295) ∧ (1 ≤ seq ∧ seq ≤ 1099511627776)
instance (spi key seq : Int) : Decidable (RightWrap spi key seq) := inferInstanceAs (Decidable (_ ∧ _ ∧ _))
def wrapOf (spi key seq : Int) (inner : List Int) : Int × List Int :=
  if RightWrap spi key seq then if inner.length > 240 then (2, []) else (0, put4 spi ++ put4 seq ++ sealed key seq (padded inner 4 4)) else (3, [])
theorem wrap_impl (spi key seq : Int) (inner : List Int) (hb : Bytes inner) (hl : inner.length ≤ 10000000) : Ev (fun k => impl_WrapInner.f k spi key seq inner) (wrapOf spi key seq inner) := by
  unfold impl_WrapInner.f impl_isSpi.f impl_isKey.f impl_isSeq.f
  simp only [in_eq, Option.bind_some]
  by_cases h1 : 1 ≤ spi ∧ spi ≤ 4294967295
  · rw [decide_eq_true h1]
    simp only [if_true]
    by_cases h2 : 0 ≤ key ∧ key ≤ 4294967295
    · rw [decide_eq_true h2]
      simp only [if_true]
      by_cases h3 : 1 ≤ seq ∧ seq ≤ 1099511627776
      · rw [decide_eq_true h3]
        have hw : RightWrap spi key seq := ⟨h1, h2, h3⟩
        unfold wrapOf
        rw [if_pos hw]
        by_cases h4 : inner.length > 240
        · rw [if_pos h4]
          refine Ev.step (f := fun _ => some (2, [])) (fun k => ?_) (Ev.now _)
          simp only [impl_WrapInner.j0]
          rw [if_neg (by decide), if_pos (by omega)]
        · rw [if_neg h4]
          have hp := padded_small inner 4 4 (by omega) (by omega)
          refine Ev.step (f := fun k => (impl_pad.f k inner 4 4).bind fun t440 => ((impl_SealBytes.f k key seq t440).bind fun bt443 => ((impl_put.f k spi 4).bind fun t448 => ((impl_put.f k seq 4).bind fun t451 => ((slices_Concat_byte_byte.f k (([t448, t451, bt443.2] : List (List Int)))).bind fun t457 => (some (0, t457))))))) (fun k => ?_) ?_
          · simp only [impl_WrapInner.j0]
            rw [if_neg (by decide), if_neg (by omega)]
          · refine Ev.bind (pad_ev inner 4 4 (by omega) (by omega) (by omega)) ?_
            refine Ev.bind (Seal_ok key seq _ ⟨h2, ⟨by omega, h3.2⟩⟩ (padded_bytes (by omega) (by omega) (by omega) hb) (by omega)) ?_
            refine Ev.bind (put4_ev spi) ?_
            refine Ev.bind (put4_ev seq) ?_
            have hs := sealed_length key seq (padded inner 4 4)
            refine Ev.bind (concat_ev [put4 spi, put4 seq, sealed key seq (padded inner 4 4)] (by simp [put4_length]; omega) (by simp)) ?_
            have e : [put4 spi, put4 seq, sealed key seq (padded inner 4 4)].flatten = put4 spi ++ put4 seq ++ sealed key seq (padded inner 4 4) := by simp
            rw [e]
            exact Ev.now _
      · rw [decide_eq_false h3]
        have hw : ¬ RightWrap spi key seq := fun h => h3 h.2.2
        unfold wrapOf
        rw [if_neg hw]
        refine Ev.step (f := fun _ => some (3, [])) (fun k => ?_) (Ev.now _)
        simp only [impl_WrapInner.j0]
        rw [if_pos (by decide)]
    · rw [decide_eq_false h2]
      have hw : ¬ RightWrap spi key seq := fun h => h2 h.2.1
      unfold wrapOf
      rw [if_neg hw]
      simp only [Bool.false_eq_true, if_false]
      refine Ev.step (f := fun _ => some (3, [])) (fun k => ?_) (Ev.now _)
      simp only [impl_WrapInner.j0, if_true]
  · rw [decide_eq_false h1]
    have hw : ¬ RightWrap spi key seq := fun h => h1 h.1
    unfold wrapOf
    rw [if_neg hw]
    simp only [Bool.false_eq_true, if_false]
    refine Ev.step (f := fun _ => some (3, [])) (fun k => ?_) (Ev.now _)
    simp only [impl_WrapInner.j0, if_true]

end Go.Proofs.Ytojimlmflfiijaa.Q
