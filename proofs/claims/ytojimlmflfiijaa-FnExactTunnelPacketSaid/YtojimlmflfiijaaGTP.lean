-- Gathered by bundle.py, this session's own program.
import Derived.Test.YtojimlmflfiijaaBTP1
import Derived.Test.YtojimlmflfiijaaBTP2
import Derived.Test.YtojimlmflfiijaaBTP3
import Derived.Test.YtojimlmflfiijaaBTP4
import Derived.Test.YtojimlmflfiijaaBTP5
/- Plain laws that FnExactTunnelPacket stands on, gathered from this session's own texts. -/
set_option linter.unusedSimpArgs false
set_option linter.unusedVariables false
namespace Go.Proofs.Ytojimlmflfiijaa.Q
open Go.RowKit Go.Proofs.Ytojimlmflfiijaa.PA Go.Proofs.YtojimlmflfiijaaW.PrintWords Go.Proofs.YtojimlmflfiijaaW.PrintLast Go.Proofs.YtojimlmflfiijaaW.PrintMore

theorem wrap_id {x : Int} (h0 : -9223372036854775808 ≤ x) (h1 : x ≤ 9223372036854775807) : wrap64 x = x := by
  unfold wrap64
  omega
/-- The list's numbers are bytes. -/
def Bytes (l : List Int) : Prop := ∀ x ∈ l, 0 ≤ x ∧ x ≤ 255
/-- What came in as bytes is bytes. -/
theorem bytes_of_wf {l : List Int} (h : ∀ x ∈ l, (Lit.int .u8 x).wf = true) : Bytes l := fun x hx => by
  have h1 := h x hx
  have h2 : decide ((0 : Int) ≤ x) = true ∧ decide (x ≤ 255) = true := by simpa [Lit.wf, IntKind.min, IntKind.max, IntKind.signed, IntKind.bits] using h1
  exact ⟨of_decide_eq_true h2.1, of_decide_eq_true h2.2⟩
theorem in_eq (a b c : Int) : impl_in.f a b c = some (decide (b ≤ a ∧ a ≤ c)) := by
  unfold impl_in.f
  by_cases h : a ≥ b
  · rw [if_pos h]
    congr 1
    simp; omega
  · rw [if_neg h]
    congr 1
    simp; omega
theorem l1In_eq (a b c : Int) : spec_l1In.f a b c = some (decide (b ≤ a ∧ a ≤ c)) := by
  unfold spec_l1In.f
  by_cases h : a ≥ b
  · rw [if_pos h]
    congr 1
    simp; omega
  · rw [if_neg h]
    congr 1
    simp; omega
theorem clone_eq (l : List Int) (h : l.length < 140737488355328) : slices_Clone_byte_byte.f l = some l := by
  unfold slices_Clone_byte_byte.f
  simp [h]
/-- As few bytes as are wanted for whole blocks. -/
def need (n s : Int) : Int := (s - (n + 2) % s) % s
theorem cases16 {s : Int} (h0 : 1 ≤ s) (h1 : s ≤ 16) : s = 1 ∨ s = 2 ∨ s = 3 ∨ s = 4 ∨ s = 5 ∨ s = 6 ∨ s = 7 ∨ s = 8 ∨ s = 9 ∨ s = 10 ∨ s = 11 ∨ s = 12 ∨ s = 13 ∨ s = 14 ∨ s = 15 ∨ s = 16 := by omega
theorem need_range {n s : Int} (h0 : 1 ≤ s) : 0 ≤ need n s ∧ need n s < s := ⟨Int.emod_nonneg _ (by omega), Int.emod_lt_of_pos _ (by omega)⟩
theorem need_iff {n s m : Int} (h0 : 1 ≤ s) (h1 : s ≤ 16) (_hn : 0 ≤ n) (hm : 0 ≤ m) (hle : m ≤ need n s) : (n + m + 2) % s = 0 ↔ m = need n s := by
  unfold need at *
  rcases cases16 h0 h1 with rfl | rfl | rfl | rfl | rfl | rfl | rfl | rfl | rfl | rfl | rfl | rfl | rfl | rfl | rfl | rfl <;> omega
/-- 1, 2, 3 and so on, so many. -/
def ups (n : Nat) : List Int := (List.range n).map fun (i : Nat) => (i : Int) + 1
theorem ups_length (n : Nat) : (ups n).length = n := by simp [ups]
theorem ups_succ (n : Nat) : ups (n + 1) = ups n ++ [(n : Int) + 1] := by simp [ups, List.range_succ]
theorem ups_zero : ups 0 = [] := rfl
/-- The bytes, padded to a multiple of s. -/
def padded (l : List Int) (s nx : Int) : List Int := l ++ ups (need l.length s).toNat ++ [need l.length s, nx]
theorem padded_length (l : List Int) (s nx : Int) (h : 1 ≤ s) : ((padded l s nx).length : Int) = l.length + need l.length s + 2 := by
  have := (need_range (n := l.length) h).1
  simp [padded, ups_length]
  omega
theorem padded_small (l : List Int) (s nx : Int) (h : 1 ≤ s) (h1 : s ≤ 16) : ((padded l s nx).length : Int) ≤ l.length + 17 := by
  rw [padded_length l s nx h]
  have := (need_range (n := l.length) h).2
  omega
theorem pad_loop (l : List Int) (s nx : Int) (h0 : 1 ≤ s) (h1 : s ≤ 16) (hl : l.length ≤ 100000) (d : Nat) : ∀ m : Nat, (m : Int) + d = need l.length s →
    Ev (fun k => impl_pad.l0 k s nx (l ++ ups m) (m : Int)) (padded l s nx) := by
  have hr := need_range (n := l.length) h0
  induction d with
  | zero =>
    intro m hm
    have hm' : (m : Int) = need l.length s := by omega
    refine Ev.step (f := fun _ => some (padded l s nx)) (fun k => ?_) (Ev.now _)
    simp only [impl_pad.l0]
    have hlen : ((l ++ ups m).length : Int) = l.length + m := by simp [ups_length]
    rw [if_neg (by omega), hlen, wrap_id (by omega) (by omega), Int.tmod_eq_emod_of_nonneg (by omega), if_pos ((need_iff h0 h1 (by omega) (by omega) (by omega)).2 hm')]
    simp only [Option.bind_some]
    rw [if_pos (by simp [ups_length]; omega)]
    have : (m : Int) % 256 = m := by omega
    rw [this]
    congr 1
    unfold padded
    rw [← hm', Int.toNat_natCast]
  | succ d ih =>
    intro m hm
    refine Ev.step (f := fun k => impl_pad.l0 k s nx (l ++ ups (m + 1)) ((m + 1 : Nat) : Int)) (fun k => ?_) (ih (m + 1) (by omega))
    simp only [impl_pad.l0]
    have hlen : ((l ++ ups m).length : Int) = l.length + m := by simp [ups_length]
    rw [if_neg (by omega), hlen, wrap_id (x := (l.length : Int) + m + 2) (by omega) (by omega), Int.tmod_eq_emod_of_nonneg (by omega), if_neg (fun hq => by
      have := (need_iff h0 h1 (by omega) (by omega) (by omega)).1 hq
      omega), if_pos (by simp [ups_length]; omega), wrap_id (x := (m : Int) + 1) (by omega) (by omega)]
    have e1 : ((m : Int) + 1) % 256 = m + 1 := by omega
    rw [e1, ups_succ, List.append_assoc]
    rfl
theorem pad_ev (l : List Int) (s nx : Int) (h0 : 1 ≤ s) (h1 : s ≤ 16) (hl : l.length ≤ 100000) : Ev (fun k => impl_pad.f k l s nx) (padded l s nx) := by
  have hr := need_range (n := l.length) h0
  unfold impl_pad.f
  rw [clone_eq l (by omega)]
  simp only [Option.bind_some]
  have := pad_loop l s nx h0 h1 hl (need l.length s).toNat 0 (by omega)
  simpa [ups_zero] using this
theorem specPad_loop (l : List Int) (s nx : Int) (h0 : 1 ≤ s) (h1 : s ≤ 16) (hn : 0 ≤ nx ∧ nx ≤ 255) (hl : l.length ≤ 100000) (d : Nat) : ∀ m : Nat, (m : Int) + d = need l.length s →
    Ev (fun k => spec_PadBytes.l0 k s nx (l ++ ups m) (m : Int)) (0, padded l s nx) := by
  have hr := need_range (n := l.length) h0
  have hnx : nx % 256 = nx := by omega
  induction d with
  | zero =>
    intro m hm
    have hm' : (m : Int) = need l.length s := by omega
    refine Ev.step (f := fun _ => some (0, padded l s nx)) (fun k => ?_) (Ev.now _)
    simp only [spec_PadBytes.l0]
    have hlen : ((l ++ ups m).length : Int) = l.length + m := by simp [ups_length]
    rw [if_neg (by omega), hlen, wrap_id (by omega) (by omega), Int.tmod_eq_emod_of_nonneg (by omega), if_pos ((need_iff h0 h1 (by omega) (by omega) (by omega)).2 hm')]
    simp only [Option.bind_some]
    rw [if_pos (by simp [ups_length]; omega)]
    have : (m : Int) % 256 = m := by omega
    rw [this, hnx]
    congr 2
    unfold padded
    rw [← hm', Int.toNat_natCast]
  | succ d ih =>
    intro m hm
    refine Ev.step (f := fun k => spec_PadBytes.l0 k s nx (l ++ ups (m + 1)) ((m + 1 : Nat) : Int)) (fun k => ?_) (ih (m + 1) (by omega))
    simp only [spec_PadBytes.l0]
    have hlen : ((l ++ ups m).length : Int) = l.length + m := by simp [ups_length]
    rw [if_neg (by omega), hlen, wrap_id (x := (l.length : Int) + m + 2) (by omega) (by omega), Int.tmod_eq_emod_of_nonneg (by omega), if_neg (fun hq => by
      have := (need_iff h0 h1 (by omega) (by omega) (by omega)).1 hq
      omega), if_pos (by simp [ups_length]; omega), wrap_id (x := (m : Int) + 1) (by omega) (by omega)]
    have e1 : ((m : Int) + 1) % 256 = m + 1 := by omega
    rw [e1, ups_succ, List.append_assoc]
    rfl
theorem specPad_ok (l : List Int) (s nx : Int) (hs : 1 ≤ s ∧ s ≤ 16) (hn : 0 ≤ nx ∧ nx ≤ 255) (hl : l.length ≤ 400) : Ev (fun k => spec_PadBytes.f k l s nx) (0, padded l s nx) := by
  unfold spec_PadBytes.f
  simp only [l1In_eq, Option.bind_some, decide_eq_true hs, decide_eq_true hn, eq_self, if_true, Bool.false_eq_true, if_false, Bool.not_true, Bool.not_false]
  have hr := need_range (n := l.length) hs.1
  have e := specPad_loop l s nx hs.1 hs.2 hn (by omega) (need l.length s).toNat 0 (by omega)
  refine Ev.step (f := fun k => spec_PadBytes.l0 k s nx (l ++ ups 0) ((0 : Nat) : Int)) (fun k => ?_) e
  simp only [spec_PadBytes.j0]
  rw [if_neg (by decide), if_neg (by omega)]
  simp only [Option.bind_some]
  rw [if_pos (by simp; omega)]
  simp [ups_zero]
theorem rd_app_right (a b : List Int) (i : Int) (h : (a.length : Int) ≤ i) : rd (a ++ b) i = rd b (i - a.length) := by
  unfold rd
  rw [List.getD_eq_getElem?_getD, List.getD_eq_getElem?_getD, List.getElem?_append_right (by omega)]
  congr 2
  omega
def xr (a b : Int) : Int := Go.bits .xor .u8 a b
theorem xr_nat (a b : Nat) (ha : a < 256) (hb : b < 256) : xr (a : Int) (b : Int) = ((a ^^^ b : Nat) : Int) := by
  have h : a ^^^ b < 2 ^ 8 := Nat.xor_lt_two_pow ha hb
  unfold xr
  simp only [bits, BitVec.ofInt_natCast, BitVec.toNat_xor, BitVec.toNat_ofNat, show IntKind.u8.bits = 8 from rfl, Nat.mod_eq_of_lt (show a < 2 ^ 8 from ha), Nat.mod_eq_of_lt (show b < 2 ^ 8 from hb)]
  exact wraps_u8 _ (Int.natCast_nonneg _) (by exact_mod_cast h)
def IsByte (x : Int) : Prop := 0 ≤ x ∧ x ≤ 255
theorem IsByte.nat {x : Int} (h : IsByte x) : ∃ n : Nat, x = (n : Int) ∧ n < 256 := by
  obtain ⟨n, rfl⟩ := Int.eq_ofNat_of_zero_le h.1
  exact ⟨n, rfl, by have := h.2; omega⟩
theorem xr_byte {a b : Int} (ha : IsByte a) (hb : IsByte b) : IsByte (xr a b) := by
  obtain ⟨n, rfl, hn⟩ := ha.nat
  obtain ⟨m, rfl, hm⟩ := hb.nat
  have h : n ^^^ m < 2 ^ 8 := Nat.xor_lt_two_pow hn hm
  rw [xr_nat n m hn hm]
  exact ⟨by omega, by omega⟩
def strm : Int → Nat → List Int
  | _, 0 => []
  | x, n + 1 => ((x * 16807) % 2147483647) % 256 :: strm ((x * 16807) % 2147483647) n
theorem strm_length (n : Nat) : ∀ x, (strm x n).length = n := by
  induction n with
  | zero => intro x; rfl
  | succ n ih => intro x; simp [strm, ih]
theorem strm_bytes (n : Nat) : ∀ x, Bytes (strm x n) := by
  induction n with
  | zero => intro x y hy; simp [strm] at hy
  | succ n ih =>
    intro x y hy
    simp only [strm, List.mem_cons] at hy
    rcases hy with rfl | hy
    · omega
    · exact ih _ y hy
def x0 (key seq : Int) : Int := (key * 31 + seq + 7) % 2147483647
theorem x0_eq {key seq : Int} (hk : 0 ≤ key ∧ key ≤ 4294967295) (hs : 0 ≤ seq ∧ seq ≤ 1099511627776) : Int.tmod (wrap64 ((wrap64 ((wrap64 (key * 31)) + seq)) + 7)) 2147483647 = x0 key seq := by
  rw [wrap_id (x := key * 31) (by omega) (by omega), wrap_id (x := key * 31 + seq) (by omega) (by omega), wrap_id (x := key * 31 + seq + 7) (by omega) (by omega), Int.tmod_eq_emod_of_nonneg (by omega)]
  rfl
theorem x0_range (key seq : Int) : 0 ≤ x0 key seq ∧ x0 key seq < 2147483647 := by unfold x0; omega
theorem stream_loop (N : Nat) (hN : N ≤ 100000) (d : Nat) : ∀ (x : Int) (out : List Int) (i : Nat), i + d = N → 0 ≤ x → x < 2147483647 → out.length ≤ i → Ev (fun k => impl_stream.l0 k x out (N : Int) (i : Int)) (out ++ strm x d) := by
  induction d with
  | zero =>
    intro x out i hi _ _ _
    refine Ev.step (f := fun _ => some (out ++ strm x 0)) (fun k => ?_) (Ev.now _)
    simp only [impl_stream.l0]
    rw [if_neg (by omega)]
    simp [strm]
  | succ d ih =>
    intro x out i hi h0 h1 ho
    have e := ih ((x * 16807) % 2147483647) (out ++ [((x * 16807) % 2147483647) % 256]) (i + 1) (by omega) (by omega) (by omega) (by simp; omega)
    have hs : out ++ strm x (d + 1) = (out ++ [((x * 16807) % 2147483647) % 256]) ++ strm ((x * 16807) % 2147483647) d := by simp [strm]
    rw [hs]
    refine Ev.step (fun k => ?_) e
    simp only [impl_stream.l0]
    rw [if_pos (by omega), if_pos (by omega), wrap_id (x := x * 16807) (by omega) (by omega), Int.tmod_eq_emod_of_nonneg (by omega), wrap_id (x := (i : Int) + 1) (by omega) (by omega)]
    rfl
theorem stream_ev {key seq : Int} (hk : 0 ≤ key ∧ key ≤ 4294967295) (hs : 0 ≤ seq ∧ seq ≤ 1099511627776) (N : Nat) (hN : N ≤ 100000) : Ev (fun k => impl_stream.f k key seq (N : Int)) (strm (x0 key seq) N) := by
  unfold impl_stream.f
  rw [x0_eq hk hs]
  have := stream_loop N hN N (x0 key seq) [] 0 (by omega) (x0_range _ _).1 (x0_range _ _).2 (by simp)
  simpa using this
theorem specStream_loop (d : Nat) (hd : d ≤ 100000) : ∀ (x : Int) (out : List Int), 0 ≤ x → x < 2147483647 → out.length + d ≤ 1000000 → Ev (fun k => spec_l14Stream.l0 k (d : Int) x out) (out ++ strm x d) := by
  induction d with
  | zero =>
    intro x out _ _ _
    refine Ev.step (f := fun _ => some (out ++ strm x 0)) (fun k => ?_) (Ev.now _)
    simp only [spec_l14Stream.l0]
    rw [if_neg (by omega)]
    simp [strm]
  | succ d ih =>
    intro x out h0 h1 ho
    have e := ih (by omega) ((x * 16807) % 2147483647) (out ++ [((x * 16807) % 2147483647) % 256]) (by omega) (by omega) (by simp; omega)
    have hs : out ++ strm x (d + 1) = (out ++ [((x * 16807) % 2147483647) % 256]) ++ strm ((x * 16807) % 2147483647) d := by simp [strm]
    rw [hs]
    refine Ev.step (fun k => ?_) e
    simp only [spec_l14Stream.l0]
    rw [if_pos (by omega), if_pos (by omega), wrap_id (x := x * 16807) (by omega) (by omega), Int.tmod_eq_emod_of_nonneg (show 0 ≤ x * 16807 by omega), wrap_id (x := ((d + 1 : Nat) : Int) - 1) (by omega) (by omega), Int.tmod_eq_emod_of_nonneg (by omega)]
    have e1 : ((d + 1 : Nat) : Int) - 1 = (d : Int) := by omega
    have e2 : x * 16807 % 2147483647 % 256 % 256 = x * 16807 % 2147483647 % 256 := by omega
    rw [e1, e2]
theorem specStream_ev {key seq : Int} (hk : 0 ≤ key ∧ key ≤ 4294967295) (hs : 0 ≤ seq ∧ seq ≤ 1099511627776) (N : Nat) (hN : N ≤ 100000) : Ev (fun k => spec_l14Stream.f k key seq (N : Int)) (strm (x0 key seq) N) := by
  unfold spec_l14Stream.f
  rw [x0_eq hk hs]
  have := specStream_loop N hN (x0 key seq) [] (x0_range _ _).1 (x0_range _ _).2 (by simp; omega)
  simpa using this
def mix : List Int → List Int → List Int
  | a :: l, b :: m => xr a b :: mix l m
  | _, _ => []
theorem mix_length : ∀ l m : List Int, l.length = m.length → (mix l m).length = l.length
  | [], [], _ => rfl
  | [], _ :: _, h => by simp at h
  | _ :: _, [], h => by simp at h
  | a :: l, b :: m, h => by
    simp only [mix, List.length_cons]
    rw [mix_length l m (by simpa using h)]
theorem mix_bytes : ∀ l m : List Int, Bytes l → Bytes m → Bytes (mix l m)
  | [], [], _, _ => fun x hx => by simp [mix] at hx
  | [], _ :: _, _, _ => fun x hx => by simp [mix] at hx
  | _ :: _, [], _, _ => fun x hx => by simp [mix] at hx
  | a :: l, b :: m, h1, h2 => fun x hx => by
    simp only [mix, List.mem_cons] at hx
    rcases hx with rfl | hx
    · exact xr_byte (h1 a (by simp)) (h2 b (by simp))
    · exact mix_bytes l m (fun y hy => h1 y (by simp [hy])) (fun y hy => h2 y (by simp [hy])) x hx
theorem mix_get : ∀ (l m : List Int) (i : Nat) (h1 : i < l.length) (h2 : i < m.length) (h : i < (mix l m).length), (mix l m)[i] = xr l[i] m[i]
  | [], _, _, h1, _, _ => by simp at h1
  | _ :: _, [], _, _, h2, _ => by simp at h2
  | a :: l, b :: m, 0, _, _, _ => rfl
  | a :: l, b :: m, i + 1, h1, h2, h => by
    simp only [mix, List.getElem_cons_succ]
    exact mix_get l m i _ _ _
theorem rd_get (l : List Int) (i : Nat) (h : i < l.length) : rd l (i : Int) = l[i] := by simp [rd, List.getD_eq_getElem?_getD, List.getElem?_eq_getElem h]
theorem half_step (s d : List Int) (i : Nat) (hl : s.length = d.length) (h : i < s.length) : (mix (s.take i) (d.take i) ++ s.drop i).set i (xr (rd (mix (s.take i) (d.take i) ++ s.drop i) (i : Int)) (rd d (i : Int))) = mix (s.take (i + 1)) (d.take (i + 1)) ++ s.drop (i + 1) := by
  have hlen : (mix (s.take i) (d.take i)).length = i := by rw [mix_length _ _ (by simp; omega)]; simp; omega
  have e1 : rd (mix (s.take i) (d.take i) ++ s.drop i) (i : Int) = s[i] := by
    rw [rd_app_right _ _ _ (by omega), hlen, show ((i : Int) - (i : Int)) = ((0 : Nat) : Int) by omega, rd_get _ 0 (by simp; omega)]
    simp
  rw [e1, rd_get d i (by omega)]
  apply List.ext_getElem
  · rw [List.length_set, List.length_append, List.length_append, hlen, mix_length _ _ (by simp; omega)]
    simp; omega
  · intro j hj1 hj2
    have hlen2 : (mix (s.take (i + 1)) (d.take (i + 1))).length = i + 1 := by rw [mix_length _ _ (by simp; omega)]; simp; omega
    rw [List.getElem_set]
    by_cases e : i = j
    · subst e
      rw [if_pos rfl, List.getElem_append_left (by omega), mix_get _ _ _ (by simp; omega) (by simp; omega)]
      simp
    · rw [if_neg e]
      by_cases hlt : j < i
      · rw [List.getElem_append_left (by omega), List.getElem_append_left (by omega), mix_get _ _ _ (by simp; omega) (by simp; omega), mix_get _ _ _ (by simp; omega) (by simp; omega)]
        simp
      · rw [List.getElem_append_right (by omega), List.getElem_append_right (by omega)]
        simp only [List.getElem_drop, hlen, hlen2]
        congr 1
        omega
theorem turned_loop (s d : List Int) (hl : s.length = d.length) (hs : s.length ≤ 100000) (n : Nat) : ∀ i : Nat, i + n = s.length → Ev (fun k => impl_turned.l0 k (mix (s.take i) (d.take i) ++ s.drop i) d (d.length : Int) (i : Int)) (mix s d) := by
  induction n with
  | zero =>
    intro i hi
    refine Ev.step (f := fun _ => some (mix s d)) (fun k => ?_) (Ev.now _)
    simp only [impl_turned.l0]
    rw [if_neg (by omega), List.take_of_length_le (by omega), List.take_of_length_le (by omega), List.drop_eq_nil_of_le (by omega), List.append_nil]
  | succ n ih =>
    intro i hi
    have e := ih (i + 1) (by omega)
    rw [← half_step s d i hl (by omega)] at e
    refine Ev.step (fun k => ?_) e
    simp only [impl_turned.l0]
    have hlen : (mix (s.take i) (d.take i) ++ s.drop i).length = s.length := by rw [List.length_append, mix_length _ _ (by simp; omega)]; simp; omega
    rw [if_pos (by omega), if_pos (by omega), if_pos (by omega), if_pos (by omega), wrap_id (x := (i : Int) + 1) (by omega) (by omega), Int.toNat_natCast]
    rfl
theorem turned_ev {key seq : Int} (hk : 0 ≤ key ∧ key ≤ 4294967295) (hs : 0 ≤ seq ∧ seq ≤ 1099511627776) (d : List Int) (hd : d.length ≤ 100000) : Ev (fun k => impl_turned.f k key seq d) (mix (strm (x0 key seq) d.length) d) := by
  unfold impl_turned.f
  refine Ev.bind (stream_ev hk hs d.length hd) ?_
  have hl := strm_length d.length (x0 key seq)
  have := turned_loop (strm (x0 key seq) d.length) d hl (by omega) d.length 0 (by omega)
  simpa [mix] using this
theorem specMix_loop (s d : List Int) (hl : s.length = d.length) (hs : s.length ≤ 100000) (n : Nat) : ∀ i : Nat, i + n = s.length → Ev (fun k => spec_l14Mix.l0 k d (mix (s.take i) (d.take i) ++ s.drop i) (i : Int)) (mix s d) := by
  induction n with
  | zero =>
    intro i hi
    have hlen : (mix (s.take i) (d.take i) ++ s.drop i).length = s.length := by rw [List.length_append, mix_length _ _ (by simp; omega)]; simp; omega
    refine Ev.step (f := fun _ => some (mix s d)) (fun k => ?_) (Ev.now _)
    simp only [spec_l14Mix.l0]
    rw [if_neg (by omega), List.take_of_length_le (by omega), List.take_of_length_le (by omega), List.drop_eq_nil_of_le (by omega), List.append_nil]
  | succ n ih =>
    intro i hi
    have e := ih (i + 1) (by omega)
    rw [← half_step s d i hl (by omega)] at e
    refine Ev.step (fun k => ?_) e
    simp only [spec_l14Mix.l0]
    have hlen : (mix (s.take i) (d.take i) ++ s.drop i).length = s.length := by rw [List.length_append, mix_length _ _ (by simp; omega)]; simp; omega
    rw [if_pos (by omega), if_pos (by omega), if_pos (by omega), wrap_id (x := (i : Int) + 1) (by omega) (by omega), Int.toNat_natCast]
    rfl
theorem specMix_ev {key seq : Int} (hk : 0 ≤ key ∧ key ≤ 4294967295) (hs : 0 ≤ seq ∧ seq ≤ 1099511627776) (d : List Int) (hd : d.length ≤ 100000) : Ev (fun k => spec_l14Mix.f k key seq d) (mix (strm (x0 key seq) d.length) d) := by
  unfold spec_l14Mix.f
  refine Ev.bind (specStream_ev hk hs d.length hd) ?_
  have hl := strm_length d.length (x0 key seq)
  have := specMix_loop (strm (x0 key seq) d.length) d hl (by omega) d.length 0 (by omega)
  simpa [mix] using this
def tg : Int → List Int → Int
  | h, [] => h
  | h, b :: l => tg ((h * 263 + b + 1) % 1000003) l
def h0 (key seq : Int) : Int := (key * 17 + seq * 3 + 5) % 1000003
theorem h0_eq {key seq : Int} (hk : 0 ≤ key ∧ key ≤ 4294967295) (hs : 0 ≤ seq ∧ seq ≤ 1099511627776) : Int.tmod (wrap64 ((wrap64 ((wrap64 (key * 17)) + (wrap64 (seq * 3)))) + 5)) 1000003 = h0 key seq := by
  rw [wrap_id (x := key * 17) (by omega) (by omega), wrap_id (x := seq * 3) (by omega) (by omega), wrap_id (x := key * 17 + seq * 3) (by omega) (by omega), wrap_id (x := key * 17 + seq * 3 + 5) (by omega) (by omega), Int.tmod_eq_emod_of_nonneg (by omega)]
  rfl
theorem h0_range (key seq : Int) : 0 ≤ h0 key seq ∧ h0 key seq < 1000003 := by unfold h0; omega
theorem tag_loop (d : List Int) (hb : Bytes d) (hd : d.length ≤ 100000) (n : Nat) : ∀ (h : Int) (i : Nat), i + n = d.length → 0 ≤ h → h < 1000003 → Ev (fun k => impl_tag.l0 k h d (d.length : Int) (i : Int)) (tg h (d.drop i)) := by
  induction n with
  | zero =>
    intro h i hi _ _
    refine Ev.step (f := fun _ => some (tg h (d.drop i))) (fun k => ?_) (Ev.now _)
    simp only [impl_tag.l0]
    rw [if_neg (by omega), List.drop_eq_nil_of_le (by omega)]
    rfl
  | succ n ih =>
    intro h i hi a b
    have hlt : i < d.length := by omega
    have hbi := hb d[i] (List.getElem_mem hlt)
    rw [List.drop_eq_getElem_cons hlt]
    have e := ih ((h * 263 + d[i] + 1) % 1000003) (i + 1) (by omega) (by omega) (by omega)
    refine Ev.step (fun k => ?_) e
    simp only [impl_tag.l0]
    rw [if_pos (by omega), if_pos (by omega), if_pos (by omega), rd_get d i hlt, wrap_id (x := d[i]) (by omega) (by omega), wrap_id (x := h * 263) (by omega) (by omega), wrap_id (x := h * 263 + d[i]) (by omega) (by omega), wrap_id (x := h * 263 + d[i] + 1) (by omega) (by omega), Int.tmod_eq_emod_of_nonneg (by omega), wrap_id (x := (i : Int) + 1) (by omega) (by omega)]
    rfl
theorem tag_ev {key seq : Int} (hk : 0 ≤ key ∧ key ≤ 4294967295) (hs : 0 ≤ seq ∧ seq ≤ 1099511627776) (d : List Int) (hb : Bytes d) (hd : d.length ≤ 100000) : Ev (fun k => impl_tag.f k key seq d) (tg (h0 key seq) d) := by
  unfold impl_tag.f
  rw [h0_eq hk hs]
  have := tag_loop d hb hd d.length (h0 key seq) 0 (by omega) (h0_range _ _).1 (h0_range _ _).2
  simpa using this
theorem specTag_loop (d : List Int) (hb : Bytes d) (hd : d.length ≤ 100000) (n : Nat) : ∀ (h : Int) (i : Nat), i + n = d.length → 0 ≤ h → h < 1000003 → Ev (fun k => spec_l14Tag.l0 k d h (i : Int)) (tg h (d.drop i)) := by
  induction n with
  | zero =>
    intro h i hi _ _
    refine Ev.step (f := fun _ => some (tg h (d.drop i))) (fun k => ?_) (Ev.now _)
    simp only [spec_l14Tag.l0]
    rw [if_neg (by omega), List.drop_eq_nil_of_le (by omega)]
    rfl
  | succ n ih =>
    intro h i hi a b
    have hlt : i < d.length := by omega
    have hbi := hb d[i] (List.getElem_mem hlt)
    rw [List.drop_eq_getElem_cons hlt]
    have e := ih ((h * 263 + d[i] + 1) % 1000003) (i + 1) (by omega) (by omega) (by omega)
    refine Ev.step (fun k => ?_) e
    simp only [spec_l14Tag.l0]
    rw [if_pos (by omega), if_pos (by omega), rd_get d i hlt, wrap_id (x := d[i]) (by omega) (by omega), wrap_id (x := h * 263) (by omega) (by omega), wrap_id (x := h * 263 + d[i]) (by omega) (by omega), wrap_id (x := h * 263 + d[i] + 1) (by omega) (by omega), Int.tmod_eq_emod_of_nonneg (by omega), wrap_id (x := (i : Int) + 1) (by omega) (by omega)]
    rfl
theorem specTag_ev {key seq : Int} (hk : 0 ≤ key ∧ key ≤ 4294967295) (hs : 0 ≤ seq ∧ seq ≤ 1099511627776) (d : List Int) (hb : Bytes d) (hd : d.length ≤ 100000) : Ev (fun k => spec_l14Tag.f k key seq d) (tg (h0 key seq) d) := by
  unfold spec_l14Tag.f
  rw [h0_eq hk hs]
  have := specTag_loop d hb hd d.length (h0 key seq) 0 (by omega) (h0_range _ _).1 (h0_range _ _).2
  simpa using this
/-- A number's lowest four bytes, the highest first. -/
def put4 (t : Int) : List Int := [t / 16777216 % 256, t / 65536 % 256, t / 256 % 256, t % 256]
theorem put4_length (t : Int) : (put4 t).length = 4 := rfl
theorem put4_ev (t : Int) : Ev (fun k => impl_put.f k t 4) (put4 t) := by
  refine ⟨5, fun k hk => ?_⟩
  obtain ⟨m, rfl⟩ : ∃ m, k = m + 5 := ⟨k - 5, by omega⟩
  have e1 : t / 256 / 256 / 256 % 256 = t / 16777216 % 256 := by omega
  have e2 : t / 256 / 256 % 256 = t / 65536 % 256 := by omega
  simp [impl_put.f, impl_put.l0, wrap64, put4, List.replicate, e1, e2]
theorem specBytes4_ev (t : Int) : Ev (fun k => spec_l1Bytes.f k t 4) (put4 t) := by
  refine ⟨5, fun k hk => ?_⟩
  obtain ⟨m, rfl⟩ : ∃ m, k = m + 5 := ⟨k - 5, by omega⟩
  simp [spec_l1Bytes.f, spec_l1Bytes.l0, wrap64, put4, IntKind.wrap, IntKind.bits, IntKind.signed, shr]
/-- The number of some bytes. -/
def num : Int → List Int → Int
  | x, [] => x
  | x, b :: l => num (x * 256 + b) l
def Key (key : Int) : Prop := 0 ≤ key ∧ key ≤ 4294967295
def Seq (seq : Int) : Prop := 0 ≤ seq ∧ seq ≤ 1099511627776
instance (key : Int) : Decidable (Key key) := inferInstanceAs (Decidable (_ ∧ _))
instance (seq : Int) : Decidable (Seq seq) := inferInstanceAs (Decidable (_ ∧ _))
theorem keyed_eq (key seq : Int) : impl_keyed.f key seq = some (decide (Key key ∧ Seq seq)) := by
  unfold impl_keyed.f impl_isKey.f
  simp only [in_eq, Option.bind_some]
  have e : decide (Key key ∧ Seq seq) = (decide (0 ≤ key ∧ key ≤ 4294967295) && decide (0 ≤ seq ∧ seq ≤ 1099511627776)) := by
    rw [← Bool.decide_and]
    rfl
  rw [e]
  by_cases hk : 0 ≤ key ∧ key ≤ 4294967295
  · rw [decide_eq_true hk, if_pos rfl, Bool.true_and]
  · rw [decide_eq_false hk, if_neg (by decide), Bool.false_and]
theorem asked_eq (key seq : Int) : spec_l14Asked.f key seq = some (if Key key ∧ Seq seq then 0 else 3) := by
  unfold spec_l14Asked.f
  simp only [l1In_eq, Option.bind_some]
  by_cases hk : 0 ≤ key ∧ key ≤ 4294967295
  · rw [decide_eq_true hk, if_pos rfl]
    by_cases hs : 0 ≤ seq ∧ seq ≤ 1099511627776
    · rw [decide_eq_true hs, if_pos rfl, if_pos ⟨hk, hs⟩]
    · rw [decide_eq_false hs, if_neg (by decide), if_neg (fun h => hs h.2)]
  · rw [decide_eq_false hk, if_neg (by decide), if_neg (fun h => hk h.1)]
/-- Bytes and their stream; and with their tag behind them. -/
def body (key seq : Int) (d : List Int) : List Int := mix (strm (x0 key seq) d.length) d
def sealed (key seq : Int) (d : List Int) : List Int := body key seq d ++ put4 (tg (h0 key seq) (body key seq d))
theorem body_length (key seq : Int) (d : List Int) : (body key seq d).length = d.length := by
  unfold body
  rw [mix_length _ _ (strm_length _ _), strm_length]
theorem sealed_length (key seq : Int) (d : List Int) : (sealed key seq d).length = d.length + 4 := by simp [sealed, body_length, put4_length]
theorem Seal_ok (key seq : Int) (d : List Int) (h : Key key ∧ Seq seq) (hb : Bytes d) (hl : d.length ≤ 480) : Ev (fun k => impl_SealBytes.f k key seq d) (0, sealed key seq d) := by
  unfold impl_SealBytes.f
  simp only [keyed_eq, Option.bind_some, decide_eq_true h, if_true, if_neg (show ¬ ((d.length : Int) > 480) by omega)]
  refine Ev.bind (turned_ev h.1 h.2 d (by omega)) ?_
  have hl2 : (mix (strm (x0 key seq) d.length) d).length = d.length := body_length key seq d
  refine Ev.bind (tag_ev h.1 h.2 _ (mix_bytes _ _ (strm_bytes _ _) hb) (by omega)) ?_
  refine Ev.bind (put4_ev _) ?_
  simp only [put4_length, hl2, if_pos (show d.length + 4 < 140737488355328 by omega)]
  exact Ev.now _
theorem specSeal_ok (key seq : Int) (d : List Int) (h : Key key ∧ Seq seq) (hb : Bytes d) (hl : d.length ≤ 480) : Ev (fun k => spec_SealBytes.f k key seq d) (0, sealed key seq d) := by
  unfold spec_SealBytes.f
  simp only [asked_eq, Option.bind_some, if_pos h, if_true, if_neg (show ¬ ((d.length : Int) > 480) by omega)]
  refine Ev.bind (specMix_ev h.1 h.2 d (by omega)) ?_
  have hl2 : (mix (strm (x0 key seq) d.length) d).length = d.length := body_length key seq d
  refine Ev.bind (specTag_ev h.1 h.2 _ (mix_bytes _ _ (strm_bytes _ _) hb) (by omega)) ?_
  refine Ev.bind (specBytes4_ev _) ?_
  simp only [put4_length, hl2, if_pos (show d.length + 4 < 140737488355328 by omega)]
  exact Ev.now _
/-- What OpenBytes answers, at a right key and number, of bytes that are neither too few nor too many. -/
def opened (key seq : Int) (a b : List Int) : Int × List Int := if num 0 b = tg (h0 key seq) a then (0, body key seq a) else (6, [])
theorem copy_step (l : List Int) (i : Nat) (h : i < l.length) : (l.take i ++ List.replicate (l.length - i) 0).set i (rd l (i : Int)) = l.take (i + 1) ++ List.replicate (l.length - (i + 1)) 0 := by
  rw [rd_get l i h]
  have e : List.replicate (l.length - i) (0 : Int) = 0 :: List.replicate (l.length - (i + 1)) 0 := by
    rw [show l.length - i = (l.length - (i + 1)) + 1 by omega, List.replicate_succ]
  have hlen : (l.take i).length = i := by simp; omega
  rw [e, List.set_append_right _ _ (by omega), hlen, Nat.sub_self, List.set_cons_zero, List.take_succ_eq_append_getElem h, List.append_assoc]
  rfl
theorem copy_loop (l : List Int) (hl : l.length ≤ 2000000) (n : Nat) : ∀ i : Nat, i + n = l.length → Ev (fun k => laws_toByteS.l0 k l (l.take i ++ List.replicate (l.length - i) 0) (i : Int)) l := by
  induction n with
  | zero =>
    intro i hi
    refine Ev.step (f := fun _ => some l) (fun k => ?_) (Ev.now _)
    simp only [laws_toByteS.l0]
    rw [if_neg (by omega), show l.length - i = 0 by omega, List.take_of_length_le (by omega)]
    simp
  | succ n ih =>
    intro i hi
    have e := ih (i + 1) (by omega)
    rw [← copy_step l i (by omega)] at e
    refine Ev.step (fun k => ?_) e
    simp only [laws_toByteS.l0]
    rw [if_pos (by omega), if_pos (by omega), if_pos (by simp; omega), wrap_id (x := (i : Int) + 1) (by omega) (by omega), Int.toNat_natCast]
    rfl
theorem copy_ev (l : List Int) (hl : l.length ≤ 2000000) : Ev (fun k => laws_toByteS.f k l) l := by
  have := copy_loop l hl l.length 0 (by omega)
  refine Ev.congr (fun k => ?_) this
  unfold laws_toByteS.f
  rw [if_pos (by omega), if_pos (by omega), Int.toNat_natCast]
  simp
theorem same_loop (a b : List Int) (hl : a.length = b.length) (ha : a.length ≤ 100000000) (d : Nat) : ∀ i : Nat, i + d = a.length → Ev (fun k => laws_eqByteS.l0 k a b (i : Int)) (decide (a.drop i = b.drop i)) := by
  induction d with
  | zero =>
    intro i hi
    have h1 : a.drop i = [] := List.drop_eq_nil_of_le (by omega)
    have h2 : b.drop i = [] := List.drop_eq_nil_of_le (by omega)
    rw [h1, h2]
    refine Ev.step (f := fun _ => some true) (fun k => ?_) (Ev.now _)
    simp only [laws_eqByteS.l0]
    rw [if_neg (by omega)]
  | succ d ih =>
    intro i hi
    have hia : i < a.length := by omega
    have hib : i < b.length := by omega
    rw [List.drop_eq_getElem_cons hia, List.drop_eq_getElem_cons hib]
    by_cases he : a[i] = b[i]
    · have hd : decide (a[i] :: a.drop (i + 1) = b[i] :: b.drop (i + 1)) = decide (a.drop (i + 1) = b.drop (i + 1)) := by
        simp only [List.cons.injEq, he, true_and]
      rw [hd]
      refine Ev.step (f := fun k => laws_eqByteS.l0 k a b ((i + 1 : Nat) : Int)) (fun k => ?_) (ih (i + 1) (by omega))
      simp only [laws_eqByteS.l0]
      rw [if_pos (by omega), if_pos (by omega), if_pos (by omega), rd_get a i hia, rd_get b i hib, if_pos he, wrap_id (by omega) (by omega)]
      rfl
    · have hd : decide (a[i] :: a.drop (i + 1) = b[i] :: b.drop (i + 1)) = false := by simp only [List.cons.injEq, he, false_and, decide_false]
      rw [hd]
      refine Ev.step (f := fun _ => some false) (fun k => ?_) (Ev.now _)
      simp only [laws_eqByteS.l0]
      rw [if_pos (by omega), if_pos (by omega), if_pos (by omega), rd_get a i hia, rd_get b i hib, if_neg he]
theorem same_ev (a : List Int) (ha : a.length ≤ 100000000) : Ev (fun k => laws_eqByteS.f k a a) true := by
  unfold laws_eqByteS.f
  simp only [if_true]
  have := same_loop a a rfl ha a.length 0 (by omega)
  simpa using this
theorem sameResult_ev (c : Int) (a : List Int) (ha : a.length ≤ 100000000) : Ev (fun k => laws_eqBytesResult.f k c a c a) true := by
  unfold laws_eqBytesResult.f
  simp only [if_true]
  exact Ev.bind (same_ev a ha) (Ev.now _)
/-- So many bytes, from k on. -/
def marks (k : Int) : Nat → List Int
  | 0 => []
  | n + 1 => k % 256 :: marks (k + 1) n
theorem mark_loop (n : Nat) : ∀ (a b : List Int) (k : Int), b.length = n → a.length + n ≤ 100000000 → 0 ≤ k → k + n ≤ 1000000000 → Ev (fun q => laws_markByteS.l0 q (a ++ b) k (a.length : Int)) (k + n, a ++ marks k n) := by
  induction n with
  | zero =>
    intro a b k hb ha h0 h1
    have : b = [] := List.length_eq_zero_iff.1 hb
    subst this
    refine Ev.step (f := fun _ => some (k + 0, a ++ marks k 0)) (fun q => ?_) (by simpa using Ev.now _)
    simp only [laws_markByteS.l0]
    rw [if_neg (by simp)]
    simp [marks]
  | succ n ih =>
    intro a b k hb ha h0 h1
    match b, hb with
    | x :: b, hb =>
      have e := ih (a ++ [k % 256]) b (k + 1) (by simpa using hb) (by simp; omega) (by omega) (by omega)
      have e1 : (a ++ [k % 256]) ++ b = (a ++ x :: b).set a.length (k % 256) := by simp
      have e2 : (k + 1 + (n : Int), (a ++ [k % 256]) ++ marks (k + 1) n) = (k + ((n + 1 : Nat) : Int), a ++ marks k (n + 1)) := by
        simp [marks]; omega
      have e3 : (((a ++ [k % 256]).length : Nat) : Int) = (a.length : Int) + 1 := by simp
      rw [e1, e2, e3] at e
      refine Ev.step (fun q => ?_) e
      simp only [laws_markByteS.l0]
      rw [if_pos (by simp; omega), if_pos (by omega), Int.toNat_natCast, wrap_id (x := k + 1) (by omega) (by omega), wrap_id (x := (a.length : Int) + 1) (by omega) (by omega)]
theorem mark_ev (l : List Int) (k : Int) (hl : l.length ≤ 100000000) (h0 : 0 ≤ k) (h1 : k + l.length ≤ 1000000000) : Ev (fun q => laws_markByteS.f q l k) (k + l.length, marks k l.length) := by
  have := mark_loop l.length [] l k rfl (by simpa using hl) h0 h1
  simpa [laws_markByteS.f] using this
theorem held_loop (n : Nat) : ∀ (a : List Int) (k : Int), a.length + n ≤ 100000000 → 0 ≤ k → k + n ≤ 1000000000 → Ev (fun q => laws_heldByteS.l0 q (a ++ marks k n) k (a.length : Int)) (k + n) := by
  induction n with
  | zero =>
    intro a k ha h0 h1
    refine Ev.step (f := fun _ => some (k + 0)) (fun q => ?_) (by simpa using Ev.now _)
    simp only [laws_heldByteS.l0]
    rw [if_neg (by simp [marks])]
    simp
  | succ n ih =>
    intro a k ha h0 h1
    have e := ih (a ++ [k % 256]) (k + 1) (by simp; omega) (by omega) (by omega)
    have e1 : (a ++ [k % 256]) ++ marks (k + 1) n = a ++ marks k (n + 1) := by simp [marks]
    have e2 : k + 1 + (n : Int) = k + ((n + 1 : Nat) : Int) := by omega
    have e3 : (((a ++ [k % 256]).length : Nat) : Int) = (a.length : Int) + 1 := by simp
    rw [e1, e2, e3] at e
    refine Ev.step (fun q => ?_) e
    simp only [laws_heldByteS.l0]
    have hr : rd (a ++ marks k (n + 1)) (a.length : Int) = k % 256 := by
      rw [rd_app_right _ _ _ (by omega), Int.sub_self]
      simp [marks, rd]
    rw [if_pos (by simp [marks]; omega), if_pos (by omega), hr, if_pos rfl, wrap_id (x := k + 1) (by omega) (by omega), wrap_id (x := (a.length : Int) + 1) (by omega) (by omega)]
theorem held_ev (n : Nat) (k : Int) (hn : n ≤ 100000000) (h0 : 0 ≤ k) (h1 : k + n ≤ 1000000000) : Ev (fun q => laws_heldByteS.f q (marks k n) k) (k + n) := by
  have := held_loop n [] k (by simpa using hn) h0 h1
  simpa [laws_heldByteS.f] using this
theorem markResult_ev (c : Int) (l : List Int) (hl : l.length ≤ 1000000) : Ev (fun q => laws_markBytesResult.f q c l 1) (1 + l.length, marks 1 l.length) := by
  unfold laws_markBytesResult.f
  exact Ev.bind (mark_ev l 1 (by omega) (by omega) (by omega)) (Ev.now _)
theorem heldResult_ev (c : Int) (n : Nat) (hn : n ≤ 1000000) : Ev (fun q => laws_heldBytesResult.f q c (marks 1 n) 1) (1 + (n : Int)) := by
  unfold laws_heldBytesResult.f
  refine Ev.bind (held_ev n 1 (by omega) (by omega) (by omega)) ?_
  simp only [if_neg (show ¬ (1 + (n : Int) < 0) by omega)]
  exact Ev.now _
theorem flat_take (ls : List (List Int)) (i : Nat) (h : i < ls.length) : (ls.take (i + 1)).flatten = (ls.take i).flatten ++ ls[i] := by
  rw [List.take_succ_eq_append_getElem h, List.flatten_append]
  simp
theorem flat_le (ls : List (List Int)) (i : Nat) : (ls.take i).flatten.length ≤ ls.flatten.length := by
  conv => rhs; rw [← List.take_append_drop i ls, List.flatten_append, List.length_append]
  omega
theorem rdL_get (ls : List (List Int)) (i : Nat) (h : i < ls.length) : rd_L2 ls (i : Int) = ls[i] := by simp [rd_L2, List.getD_eq_getElem?_getD, List.getElem?_eq_getElem h]
theorem concat_l1 (ls : List (List Int)) (hf : ls.flatten.length ≤ 1000000) (hn : ls.length ≤ 1000) (n : Nat) : ∀ i : Nat, i + n = ls.length → Ev (fun k => slices_Concat_byte_byte.l1 k (ls.take i).flatten ls (ls.length : Int) (i : Int)) ls.flatten := by
  induction n with
  | zero =>
    intro i hi
    refine Ev.step (f := fun _ => some ls.flatten) (fun k => ?_) (Ev.now _)
    simp only [slices_Concat_byte_byte.l1]
    rw [if_neg (by omega), List.take_of_length_le (by omega)]
  | succ n ih =>
    intro i hi
    have hlt : i < ls.length := by omega
    have e := ih (i + 1) (by omega)
    have h1 := flat_le ls (i + 1)
    rw [flat_take ls i hlt] at e h1
    rw [List.length_append] at h1
    refine Ev.step (fun k => ?_) e
    simp only [slices_Concat_byte_byte.l1]
    rw [if_pos (by omega), if_pos (by omega), if_pos (by omega), rdL_get ls i hlt, if_pos (by omega), wrap_id (x := (i : Int) + 1) (by omega) (by omega)]
    rfl
theorem concat_l0 (ls : List (List Int)) (hf : ls.flatten.length ≤ 1000000) (hn : ls.length ≤ 1000) (n : Nat) : ∀ i : Nat, i + n = ls.length → Ev (fun k => slices_Concat_byte_byte.l0 k ls ((ls.take i).flatten.length : Int) ls (ls.length : Int) (i : Int)) ls.flatten := by
  induction n with
  | zero =>
    intro i hi
    have e := concat_l1 ls hf hn ls.length 0 (by omega)
    have h1 := flat_le ls i
    refine Ev.step (fun k => ?_) e
    simp only [slices_Concat_byte_byte.l0]
    rw [if_neg (by omega)]
    unfold slices_Grow_byte_byte.f
    rw [if_pos ⟨by omega, by omega⟩]
    rfl
  | succ n ih =>
    intro i hi
    have hlt : i < ls.length := by omega
    have e := ih (i + 1) (by omega)
    have h1 := flat_le ls (i + 1)
    rw [flat_take ls i hlt] at e h1
    rw [List.length_append] at h1 e
    refine Ev.step (fun k => ?_) e
    simp only [slices_Concat_byte_byte.l0]
    rw [if_pos (by omega), if_pos (by omega), if_pos (by omega), rdL_get ls i hlt, wrap_id (x := ((ls.take i).flatten.length : Int) + (ls[i].length : Int)) (by omega) (by omega), if_neg (by omega), wrap_id (x := (i : Int) + 1) (by omega) (by omega)]
    simp only [Int.natCast_add]
    rfl
theorem concat_ev (ls : List (List Int)) (hf : ls.flatten.length ≤ 1000000) (hn : ls.length ≤ 1000) : Ev (fun k => slices_Concat_byte_byte.f k ls) ls.flatten := by
  have := concat_l0 ls hf hn ls.length 0 (by omega)
  simpa [slices_Concat_byte_byte.f] using this
theorem put4_mod {t : Int} (h : 0 ≤ t) : put4 (t % 4294967296) = put4 t := by
  simp only [put4]
  congr 1
  · omega
  · congr 1
    · omega
    · congr 1
      · omega
      · congr 1
        omega
theorem padded_bytes {l : List Int} {s nx : Int} (h : 1 ≤ s) (h1 : s ≤ 16) (hn : 0 ≤ nx ∧ nx ≤ 255) (hb : Bytes l) : Bytes (padded l s nx) := fun x hx => by
  have hr := need_range (n := l.length) h
  unfold padded at hx
  rcases List.mem_append.1 hx with hx | hx
  · rcases List.mem_append.1 hx with hx | hx
    · exact hb x hx
    · simp only [ups, List.mem_map, List.mem_range] at hx
      obtain ⟨j, hj, rfl⟩ := hx
      omega
  · simp only [List.mem_cons, List.not_mem_nil, or_false] at hx
    rcases hx with rfl | rfl <;> omega
def RightWrap (spi key seq : Int) : Prop := (1 ≤ spi ∧ spi ≤ 4294967295) ∧ (0 ≤ key ∧ key ≤ 4294967295) ∧ (1 ≤ seq ∧ seq ≤ 1099511627776)
instance (spi key seq : Int) : Decidable (RightWrap spi key seq) := inferInstanceAs (Decidable (_ ∧ _ ∧ _))
def wrapOf (spi key seq : Int) (inner : List Int) : Int × List Int :=
  if RightWrap spi key seq then if inner.length > 240 then (2, []) else (0, put4 spi ++ put4 seq ++ sealed key seq (padded inner 4 4)) else (3, [])
theorem wrap_impl (spi key seq : Int) (inner : List Int) (hb : Bytes inner) (hl : inner.length ≤ 10000000) : Ev (fun k => impl_WrapInner.f k spi key seq inner) (wrapOf spi key seq inner) := by
  unfold impl_WrapInner.f impl_isSpi.f impl_isKey.f impl_isSeq.f
  simp only [in_eq, Option.bind_some]
  by_cases h1 : 1 ≤ spi ∧ spi ≤ 4294967295
  · rw [decide_eq_true h1]
    simp only [if_true]
    by_cases h2 : 0 ≤ key ∧ key ≤ 4294967295
    · rw [decide_eq_true h2]
      simp only [if_true]
      by_cases h3 : 1 ≤ seq ∧ seq ≤ 1099511627776
      · rw [decide_eq_true h3]
        have hw : RightWrap spi key seq := ⟨h1, h2, h3⟩
        unfold wrapOf
        rw [if_pos hw]
        by_cases h4 : inner.length > 240
        · rw [if_pos h4]
          refine Ev.step (f := fun _ => some (2, [])) (fun k => ?_) (Ev.now _)
          simp only [impl_WrapInner.j0]
          rw [if_neg (by decide), if_pos (by omega)]
        · rw [if_neg h4]
          have hp := padded_small inner 4 4 (by omega) (by omega)
          refine Ev.step (f := fun k => (impl_pad.f k inner 4 4).bind fun t440 => ((impl_SealBytes.f k key seq t440).bind fun bt443 => ((impl_put.f k spi 4).bind fun t448 => ((impl_put.f k seq 4).bind fun t451 => ((slices_Concat_byte_byte.f k (([t448, t451, bt443.2] : List (List Int)))).bind fun t457 => (some (0, t457))))))) (fun k => ?_) ?_
          · simp only [impl_WrapInner.j0]
            rw [if_neg (by decide), if_neg (by omega)]
          · refine Ev.bind (pad_ev inner 4 4 (by omega) (by omega) (by omega)) ?_
            refine Ev.bind (Seal_ok key seq _ ⟨h2, ⟨by omega, h3.2⟩⟩ (padded_bytes (by omega) (by omega) (by omega) hb) (by omega)) ?_
            refine Ev.bind (put4_ev spi) ?_
            refine Ev.bind (put4_ev seq) ?_
            have hs := sealed_length key seq (padded inner 4 4)
            refine Ev.bind (concat_ev [put4 spi, put4 seq, sealed key seq (padded inner 4 4)] (by simp [put4_length]; omega) (by simp)) ?_
            have e : [put4 spi, put4 seq, sealed key seq (padded inner 4 4)].flatten = put4 spi ++ put4 seq ++ sealed key seq (padded inner 4 4) := by simp
            rw [e]
            exact Ev.now _
      · rw [decide_eq_false h3]
        have hw : ¬ RightWrap spi key seq := fun h => h3 h.2.2
        unfold wrapOf
        rw [if_neg hw]
        refine Ev.step (f := fun _ => some (3, [])) (fun k => ?_) (Ev.now _)
        simp only [impl_WrapInner.j0]
        rw [if_pos (by decide)]
    · rw [decide_eq_false h2]
      have hw : ¬ RightWrap spi key seq := fun h => h2 h.2.1
      unfold wrapOf
      rw [if_neg hw]
      simp only [Bool.false_eq_true, if_false]
      refine Ev.step (f := fun _ => some (3, [])) (fun k => ?_) (Ev.now _)
      simp only [impl_WrapInner.j0, if_true]
  · rw [decide_eq_false h1]
    have hw : ¬ RightWrap spi key seq := fun h => h1 h.1
    unfold wrapOf
    rw [if_neg hw]
    simp only [Bool.false_eq_true, if_false]
    refine Ev.step (f := fun _ => some (3, [])) (fun k => ?_) (Ev.now _)
    simp only [impl_WrapInner.j0, if_true]
/-- Four bytes from a place on. -/
def b4 (l : List Int) (p : Nat) : List Int := [rd l p, rd l (p + 1 : Nat), rd l (p + 2 : Nat), rd l (p + 3 : Nat)]
instance (key seq : Int) : Decidable (Key key ∧ Seq seq) := inferInstanceAs (Decidable ((_ ∧ _) ∧ (_ ∧ _)))
theorem range15_eq (spi key seq : Int) : spec_l15Range.f spi key seq = some (decide (RightWrap spi key seq)) := by
  unfold spec_l15Range.f
  simp only [l1In_eq, Option.bind_some]
  by_cases h1 : 1 ≤ spi ∧ spi ≤ 4294967295
  · rw [decide_eq_true h1, if_pos rfl]
    by_cases h2 : 0 ≤ key ∧ key ≤ 4294967295
    · rw [decide_eq_true h2, if_pos rfl]
      by_cases h3 : 1 ≤ seq ∧ seq ≤ 1099511627776
      · rw [decide_eq_true h3, decide_eq_true (show RightWrap spi key seq from ⟨h1, h2, h3⟩)]
      · rw [decide_eq_false h3, decide_eq_false (show ¬ RightWrap spi key seq from fun h => h3 h.2.2)]
    · rw [decide_eq_false h2, if_neg (by decide), decide_eq_false (show ¬ RightWrap spi key seq from fun h => h2 h.2.1)]
  · rw [decide_eq_false h1, if_neg (by decide), decide_eq_false (show ¬ RightWrap spi key seq from fun h => h1 h.1)]
def Ports (p : Int) : Prop := p = 6 ∨ p = 17
instance (p : Int) : Decidable (Ports p) := inferInstanceAs (Decidable (_ ∨ _))
theorem ports_impl (p : Int) : impl_HasPorts.f p = some (decide (Ports p)) := by
  unfold impl_HasPorts.f
  by_cases h : p = 6
  · rw [if_pos h, decide_eq_true (show Ports p from .inl h)]
  · rw [if_neg h]
    by_cases h2 : p = 17
    · rw [decide_eq_true (show Ports p from .inr h2), h2]; rfl
    · rw [decide_eq_false (show ¬ Ports p from fun q => q.elim h h2), beq_false_of_ne h2]
theorem ports_spec (p : Int) : spec_HasPorts.f p = some (decide (Ports p)) := ports_impl p
def InRange (f t p ttl fp tp : Int) : Prop := (0 ≤ f ∧ f ≤ 4294967295) ∧ (0 ≤ t ∧ t ≤ 4294967295) ∧ (1 ≤ p ∧ p ≤ 255) ∧ (1 ≤ ttl ∧ ttl ≤ 255) ∧ (0 ≤ fp ∧ fp ≤ 65535) ∧ (0 ≤ tp ∧ tp ≤ 65535)
instance (f t p ttl fp tp : Int) : Decidable (InRange f t p ttl fp tp) := inferInstanceAs (Decidable ((_ ∧ _) ∧ (_ ∧ _) ∧ (_ ∧ _) ∧ (_ ∧ _) ∧ (_ ∧ _) ∧ (_ ∧ _)))
def faultOf (f t p ttl fp tp : Int) (l : List Int) : Int :=
  if InRange f t p ttl fp tp then if ¬ Ports p ∧ (fp ≠ 0 ∨ tp ≠ 0) then 1 else if (l.length : Int) > 200 then 2 else 0 else 3
theorem fault_impl_j1 (b : Bool) (f t p ttl fp tp : Int) (l : List Int) : Ev (fun k => impl_PacketFault.j1 k b f t p ttl fp tp l) (if b = true then 1 else if (l.length : Int) > 200 then 2 else 0) := by
  refine Ev.step (f := fun _ => some (if b = true then 1 else if (l.length : Int) > 200 then 2 else 0)) (fun k => ?_) (Ev.now _)
  simp only [impl_PacketFault.j1]
  repeat' first
    | rfl
    | split
theorem fault_impl_j0 (f t p ttl fp tp : Int) (l : List Int) : Ev (fun k => impl_PacketFault.j0 k false f t p ttl fp tp l) (if ¬ Ports p ∧ (fp ≠ 0 ∨ tp ≠ 0) then 1 else if (l.length : Int) > 200 then 2 else 0) := by
  refine Ev.step (fun k => by simp only [impl_PacketFault.j0, Bool.false_eq_true, if_false, ports_impl, Option.bind_some]; rfl) ?_
  by_cases hp : Ports p
  · simp only [decide_eq_true hp, if_true]
    have e := fault_impl_j1 false f t p ttl fp tp l
    rw [if_neg (show ¬ (¬ Ports p ∧ (fp ≠ 0 ∨ tp ≠ 0)) from fun h => h.1 hp)]
    simpa using e
  · simp only [decide_eq_false hp, Bool.false_eq_true, if_false]
    by_cases h0 : fp = 0
    · simp only [if_pos h0]
      by_cases h1 : tp = 0
      · have e := fault_impl_j1 false f t p ttl fp tp l
        rw [if_neg (show ¬ (¬ Ports p ∧ (fp ≠ 0 ∨ tp ≠ 0)) from fun h => h.2.elim (fun q => q h0) (fun q => q h1))]
        have e2 : (tp != 0) = false := by rw [h1]; rfl
        rw [e2]
        simpa using e
      · have e := fault_impl_j1 true f t p ttl fp tp l
        rw [if_pos (show ¬ Ports p ∧ (fp ≠ 0 ∨ tp ≠ 0) from ⟨hp, .inr h1⟩)]
        have e2 : (tp != 0) = true := by simpa using h1
        rw [e2]
        simpa using e
    · simp only [if_neg h0]
      have e := fault_impl_j1 true f t p ttl fp tp l
      rw [if_pos (show ¬ Ports p ∧ (fp ≠ 0 ∨ tp ≠ 0) from ⟨hp, .inl h0⟩)]
      simpa using e
theorem fault_impl_bad (f t p ttl fp tp : Int) (l : List Int) : Ev (fun k => impl_PacketFault.j0 k true f t p ttl fp tp l) 3 :=
  Ev.step (f := fun _ => some 3) (fun k => by simp only [impl_PacketFault.j0, if_true]) (Ev.now _)
theorem fault_impl (f t p ttl fp tp : Int) (l : List Int) : Ev (fun k => impl_PacketFault.f k f t p ttl fp tp l) (faultOf f t p ttl fp tp l) := by
  unfold impl_PacketFault.f impl_isAddress.f impl_isPort.f faultOf
  simp only [in_eq, Option.bind_some]
  have bad := fault_impl_bad f t p ttl fp tp l
  by_cases h : InRange f t p ttl fp tp
  · obtain ⟨h0, h1, h2, h3, h4, h5⟩ := h
    simp only [decide_eq_true h0, decide_eq_true h1, decide_eq_true h2, decide_eq_true h3, decide_eq_true h4, decide_eq_true h5, if_true, Bool.not_true, if_pos (show InRange f t p ttl fp tp from ⟨h0, h1, h2, h3, h4, h5⟩)]
    exact fault_impl_j0 f t p ttl fp tp l
  · simp only [if_neg h]
    by_cases h0 : 0 ≤ f ∧ f ≤ 4294967295
    · simp only [decide_eq_true h0, if_true]
      by_cases h1 : 0 ≤ t ∧ t ≤ 4294967295
      · simp only [decide_eq_true h1, if_true]
        by_cases h2 : 1 ≤ p ∧ p ≤ 255
        · simp only [decide_eq_true h2, if_true]
          by_cases h3 : 1 ≤ ttl ∧ ttl ≤ 255
          · simp only [decide_eq_true h3, if_true]
            by_cases h4 : 0 ≤ fp ∧ fp ≤ 65535
            · simp only [decide_eq_true h4, if_true]
              by_cases h5 : 0 ≤ tp ∧ tp ≤ 65535
              · exact absurd ⟨h0, h1, h2, h3, h4, h5⟩ h
              · simp only [decide_eq_false h5, Bool.not_false]; exact bad
            · simp only [decide_eq_false h4, Bool.false_eq_true, if_false]; exact bad
          · simp only [decide_eq_false h3, Bool.false_eq_true, if_false]; exact bad
        · simp only [decide_eq_false h2, Bool.false_eq_true, if_false]; exact bad
      · simp only [decide_eq_false h1, Bool.false_eq_true, if_false]; exact bad
    · simp only [decide_eq_false h0, Bool.false_eq_true, if_false]; exact bad
theorem fault_spec_j1 (b : Bool) (f t p ttl fp tp : Int) (l : List Int) : Ev (fun k => spec_PacketFault.j1 k b f t p ttl fp tp l) (if b = true then 1 else if (l.length : Int) > 200 then 2 else 0) := by
  refine Ev.step (f := fun _ => some (if b = true then 1 else if (l.length : Int) > 200 then 2 else 0)) (fun k => ?_) (Ev.now _)
  simp only [spec_PacketFault.j1]
  repeat' first
    | rfl
    | split
theorem fault_spec_j0 (f t p ttl fp tp : Int) (l : List Int) : Ev (fun k => spec_PacketFault.j0 k false f t p ttl fp tp l) (if ¬ Ports p ∧ (fp ≠ 0 ∨ tp ≠ 0) then 1 else if (l.length : Int) > 200 then 2 else 0) := by
  refine Ev.step (fun k => by simp only [spec_PacketFault.j0, Bool.false_eq_true, if_false, ports_spec, Option.bind_some]; rfl) ?_
  by_cases hp : Ports p
  · simp only [decide_eq_true hp, if_true]
    have e := fault_spec_j1 false f t p ttl fp tp l
    rw [if_neg (show ¬ (¬ Ports p ∧ (fp ≠ 0 ∨ tp ≠ 0)) from fun h => h.1 hp)]
    simpa using e
  · simp only [decide_eq_false hp, Bool.false_eq_true, if_false]
    by_cases h0 : fp = 0
    · simp only [if_pos h0]
      by_cases h1 : tp = 0
      · have e := fault_spec_j1 false f t p ttl fp tp l
        rw [if_neg (show ¬ (¬ Ports p ∧ (fp ≠ 0 ∨ tp ≠ 0)) from fun h => h.2.elim (fun q => q h0) (fun q => q h1))]
        have e2 : (tp != 0) = false := by rw [h1]; rfl
        rw [e2]
        simpa using e
      · have e := fault_spec_j1 true f t p ttl fp tp l
        rw [if_pos (show ¬ Ports p ∧ (fp ≠ 0 ∨ tp ≠ 0) from ⟨hp, .inr h1⟩)]
        have e2 : (tp != 0) = true := by simpa using h1
        rw [e2]
        simpa using e
    · simp only [if_neg h0]
      have e := fault_spec_j1 true f t p ttl fp tp l
      rw [if_pos (show ¬ Ports p ∧ (fp ≠ 0 ∨ tp ≠ 0) from ⟨hp, .inl h0⟩)]
      simpa using e
theorem fault_spec_bad (f t p ttl fp tp : Int) (l : List Int) : Ev (fun k => spec_PacketFault.j0 k true f t p ttl fp tp l) 3 :=
  Ev.step (f := fun _ => some 3) (fun k => by simp only [spec_PacketFault.j0, if_true]) (Ev.now _)
theorem fault_spec (f t p ttl fp tp : Int) (l : List Int) : Ev (fun k => spec_PacketFault.f k f t p ttl fp tp l) (faultOf f t p ttl fp tp l) := by
  unfold spec_PacketFault.f spec_l2Address.f spec_l2Port.f faultOf
  simp only [l1In_eq, Option.bind_some]
  have bad := fault_spec_bad f t p ttl fp tp l
  by_cases h : InRange f t p ttl fp tp
  · obtain ⟨h0, h1, h2, h3, h4, h5⟩ := h
    simp only [decide_eq_true h0, decide_eq_true h1, decide_eq_true h2, decide_eq_true h3, decide_eq_true h4, decide_eq_true h5, if_true, Bool.not_true, if_pos (show InRange f t p ttl fp tp from ⟨h0, h1, h2, h3, h4, h5⟩)]
    exact fault_spec_j0 f t p ttl fp tp l
  · simp only [if_neg h]
    by_cases h0 : 0 ≤ f ∧ f ≤ 4294967295
    · simp only [decide_eq_true h0, if_true]
      by_cases h1 : 0 ≤ t ∧ t ≤ 4294967295
      · simp only [decide_eq_true h1, if_true]
        by_cases h2 : 1 ≤ p ∧ p ≤ 255
        · simp only [decide_eq_true h2, if_true]
          by_cases h3 : 1 ≤ ttl ∧ ttl ≤ 255
          · simp only [decide_eq_true h3, if_true]
            by_cases h4 : 0 ≤ fp ∧ fp ≤ 65535
            · simp only [decide_eq_true h4, if_true]
              by_cases h5 : 0 ≤ tp ∧ tp ≤ 65535
              · exact absurd ⟨h0, h1, h2, h3, h4, h5⟩ h
              · simp only [decide_eq_false h5, Bool.not_false]; exact bad
            · simp only [decide_eq_false h4, Bool.false_eq_true, if_false]; exact bad
          · simp only [decide_eq_false h3, Bool.false_eq_true, if_false]; exact bad
        · simp only [decide_eq_false h2, Bool.false_eq_true, if_false]; exact bad
      · simp only [decide_eq_false h1, Bool.false_eq_true, if_false]; exact bad
    · simp only [decide_eq_false h0, Bool.false_eq_true, if_false]; exact bad
def foldOf (x : Int) : Int := if x = 0 then 0 else (x - 1) % 65535 + 1
theorem foldOf_range {x : Int} (h : 0 ≤ x) : 0 ≤ foldOf x ∧ foldOf x ≤ 65535 := by
  unfold foldOf
  split <;> omega
theorem foldOf_small {x : Int} (h : 0 ≤ x) (h1 : x ≤ 65535) : foldOf x = x := by
  unfold foldOf
  split <;> omega
theorem foldOf_step {x : Int} (h : 65535 < x) : foldOf (x % 65536 + x / 65536) = foldOf x := by
  unfold foldOf
  rw [if_neg (by omega), if_neg (by omega)]
  omega
theorem foldOf_add {a b : Int} (ha : 0 ≤ a) (hb : 0 ≤ b) : foldOf (foldOf a + b) = foldOf (a + b) := by
  unfold foldOf
  by_cases h : a = 0
  · rw [if_pos h, h]
  · rw [if_neg h]
    rw [if_neg (by omega), if_neg (by omega)]
    omega
theorem fold_impl (n : Nat) : ∀ x : Int, x.toNat ≤ n → 0 ≤ x → x ≤ 1000000000000 → Ev (fun k => impl_fold.l0 k x) (foldOf x) := by
  induction n with
  | zero =>
    intro x hx h0 h1
    refine Ev.step (f := fun _ => some (foldOf x)) (fun k => ?_) (Ev.now _)
    simp only [impl_fold.l0]
    rw [if_neg (by omega), foldOf_small h0 (by omega)]
  | succ n ih =>
    intro x hx h0 h1
    by_cases h : x ≥ 65536
    · have e := ih (x % 65536 + x / 65536) (by omega) (by omega) (by omega)
      rw [foldOf_step (by omega)] at e
      refine Ev.step (fun k => ?_) e
      simp only [impl_fold.l0]
      rw [if_pos h, Int.tmod_eq_emod_of_nonneg h0, Int.tdiv_eq_ediv_of_nonneg h0, wrap_id (x := x / 65536) (by omega) (by omega), wrap_id (by omega) (by omega)]
    · refine Ev.step (f := fun _ => some (foldOf x)) (fun k => ?_) (Ev.now _)
      simp only [impl_fold.l0]
      rw [if_neg h, foldOf_small h0 (by omega)]
theorem fold_spec (n : Nat) : ∀ x : Int, x.toNat ≤ n → 0 ≤ x → x ≤ 1000000000000 → Ev (fun k => spec_l1Fold.l0 k x) (foldOf x) := by
  induction n with
  | zero =>
    intro x hx h0 h1
    refine Ev.step (f := fun _ => some (foldOf x)) (fun k => ?_) (Ev.now _)
    simp only [spec_l1Fold.l0]
    rw [if_neg (by omega), foldOf_small h0 (by omega)]
  | succ n ih =>
    intro x hx h0 h1
    by_cases h : x > 65535
    · have e := ih (x % 65536 + x / 65536) (by omega) (by omega) (by omega)
      rw [foldOf_step (by omega)] at e
      refine Ev.step (fun k => ?_) e
      simp only [spec_l1Fold.l0]
      rw [if_pos h, Int.tmod_eq_emod_of_nonneg h0, Int.tdiv_eq_ediv_of_nonneg h0, wrap_id (x := x / 65536) (by omega) (by omega), wrap_id (by omega) (by omega)]
    · refine Ev.step (f := fun _ => some (foldOf x)) (fun k => ?_) (Ev.now _)
      simp only [spec_l1Fold.l0]
      rw [if_neg h, foldOf_small h0 (by omega)]
/-- The sum of words of bytes that begin a word (false) or end one (true). -/
def wsp : Bool → List Int → Int
  | _, [] => 0
  | false, a :: l => 256 * a + wsp true l
  | true, a :: l => a + wsp false l
theorem wsp_range : ∀ (l : List Int), Bytes l → ∀ b, 0 ≤ wsp b l ∧ wsp b l ≤ 65280 * l.length := by
  intro l
  induction l with
  | nil => intro _ b; cases b <;> simp [wsp]
  | cons a l ih =>
    intro hb b
    have ha := hb a (by simp)
    have hr := ih (fun x hx => hb x (List.mem_cons_of_mem _ hx))
    have h1 := hr true; have h2 := hr false
    cases b <;> simp only [wsp, List.length_cons] <;> omega
def sumOf (l : List Int) : Int := 65535 - foldOf (wsp false l)
theorem sum_impl_loop (l : List Int) (hb : Bytes l) (hl : l.length ≤ 100000) (n : Nat) : ∀ (s : Int) (i : Nat), i + n = l.length → 0 ≤ s → s ≤ 65280 * i → Ev (fun k => impl_SumWords.l0 k s l (l.length : Int) (i : Int)) (65535 - foldOf (s + wsp (decide (i % 2 = 1)) (l.drop i))) := by
  induction n with
  | zero =>
    intro s i hi h0 h1
    refine Ev.step (fun k => by simp only [impl_SumWords.l0]; rw [if_neg (by omega)]) ?_
    rw [List.drop_eq_nil_of_le (by omega)]
    have e : s + wsp (decide (i % 2 = 1)) [] = s := by cases (decide (i % 2 = 1)) <;> simp [wsp]
    rw [e]
    unfold impl_fold.f
    refine Ev.bind (fold_impl s.toNat s (Nat.le_refl _) h0 (by omega)) ?_
    have := foldOf_range h0
    refine Ev.congr (f := fun _ => some (65535 - foldOf s)) (fun k => ?_) (Ev.now _)
    rw [wrap_id (by omega) (by omega)]
  | succ n ih =>
    intro s i hi h0 h1
    have hlt : i < l.length := by omega
    have hbi := hb l[i] (List.getElem_mem hlt)
    rw [List.drop_eq_getElem_cons hlt]
    by_cases hp : i % 2 = 1
    · have e := ih (s + l[i]) (i + 1) (by omega) (by omega) (by omega)
      rw [decide_eq_true hp]
      rw [decide_eq_false (show ¬ (i + 1) % 2 = 1 by omega), Int.add_assoc] at e
      refine Ev.step (fun k => ?_) e
      simp only [impl_SumWords.l0]
      rw [if_pos (by omega), if_pos (by omega), if_pos (by omega), Int.tmod_eq_emod_of_nonneg (by omega), if_neg (by omega), rd_get l i hlt, wrap_id (x := l[i]) (by omega) (by omega), wrap_id (x := s + l[i]) (by omega) (by omega), wrap_id (x := (i : Int) + 1) (by omega) (by omega)]
      rfl
    · have e := ih (s + 256 * l[i]) (i + 1) (by omega) (by omega) (by omega)
      rw [decide_eq_false hp]
      rw [decide_eq_true (show (i + 1) % 2 = 1 by omega), Int.add_assoc] at e
      refine Ev.step (fun k => ?_) e
      simp only [impl_SumWords.l0]
      rw [if_pos (by omega), if_pos (by omega), if_pos (by omega), Int.tmod_eq_emod_of_nonneg (by omega), if_pos (by omega), rd_get l i hlt, wrap_id (x := l[i]) (by omega) (by omega), wrap_id (x := 256 * l[i]) (by omega) (by omega), wrap_id (x := s + 256 * l[i]) (by omega) (by omega), wrap_id (x := (i : Int) + 1) (by omega) (by omega)]
      rfl
theorem sum_impl (l : List Int) (hb : Bytes l) (hl : l.length ≤ 100000) : Ev (fun k => impl_SumWords.f k l) (sumOf l) := by
  have := sum_impl_loop l hb hl l.length 0 0 (by omega) (by omega) (by omega)
  simpa [impl_SumWords.f, sumOf] using this
theorem sum_spec_loop (l : List Int) (hb : Bytes l) (hl : l.length ≤ 100000) (n : Nat) : ∀ (s : Int) (i : Nat), l.length ≤ i + 2 * n → i ≤ l.length + 1 → 0 ≤ s → s ≤ 65535 → Ev (fun k => spec_SumWords.l0 k l s (i : Int)) (65535 - foldOf (s + wsp false (l.drop i))) := by
  induction n with
  | zero =>
    intro s i hi hi2 h0 h1
    refine Ev.step (f := fun _ => some (65535 - foldOf (s + wsp false (l.drop i)))) (fun k => ?_) (Ev.now _)
    simp only [spec_SumWords.l0]
    rw [if_neg (by omega), List.drop_eq_nil_of_le (by omega)]
    have e : s + wsp false [] = s := by simp [wsp]
    rw [e, foldOf_small h0 h1, wrap_id (by omega) (by omega)]
  | succ n ih =>
    intro s i hi hi2 h0 h1
    by_cases hlt : i < l.length
    · have hbi := hb l[i] (List.getElem_mem hlt)
      rw [List.drop_eq_getElem_cons hlt]
      by_cases hlt2 : i + 1 < l.length
      · have hbj := hb l[i + 1] (List.getElem_mem hlt2)
        rw [List.drop_eq_getElem_cons hlt2]
        have hw := wsp_range (l.drop (i + 1 + 1)) (fun x hx => hb x (List.mem_of_mem_drop hx)) false
        have hf := foldOf_range (x := s + 256 * l[i] + l[i + 1]) (by omega)
        have e := ih (foldOf (s + 256 * l[i] + l[i + 1])) (i + 2) (by omega) (by omega) hf.1 hf.2
        rw [foldOf_add (by omega) hw.1] at e
        have e2 : s + wsp false (l[i] :: l[i + 1] :: l.drop (i + 1 + 1)) = s + 256 * l[i] + l[i + 1] + wsp false (l.drop (i + 1 + 1)) := by simp only [wsp]; omega
        rw [e2]
        refine Ev.step (fun k => ?_) (Ev.bind (f := fun k y => spec_SumWords.l0 k l y ((i + 2 : Nat) : Int)) (fold_spec _ (s + 256 * l[i] + l[i + 1]) (Nat.le_refl _) (by omega) (by omega)) e)
        simp only [spec_SumWords.l0, spec_l1Fold.f]
        rw [wrap_id (x := (i : Int) + 1) (by omega) (by omega), if_pos (by omega), if_pos (by omega), if_pos (by omega), if_pos (by omega), rd_get l i hlt, show (i : Int) + 1 = ((i + 1 : Nat) : Int) by omega, rd_get l (i + 1) hlt2, wrap_id (x := l[i]) (by omega) (by omega), wrap_id (x := l[i + 1]) (by omega) (by omega), wrap_id (x := 256 * l[i]) (by omega) (by omega), wrap_id (x := s + 256 * l[i]) (by omega) (by omega), wrap_id (x := s + 256 * l[i] + l[i + 1]) (by omega) (by omega), wrap_id (x := (i : Int) + 2) (by omega) (by omega)]
        rfl
      · have hf := foldOf_range (x := s + 256 * l[i]) (by omega)
        have e := ih (foldOf (s + 256 * l[i])) (i + 2) (by omega) (by omega) hf.1 hf.2
        rw [List.drop_eq_nil_of_le (show l.length ≤ i + 2 by omega)] at e
        have e2 : s + wsp false (l[i] :: l.drop (i + 1)) = s + 256 * l[i] := by
          rw [List.drop_eq_nil_of_le (by omega)]
          simp [wsp]
        rw [e2]
        have e3 : foldOf (foldOf (s + 256 * l[i]) + wsp false []) = foldOf (s + 256 * l[i]) := by
          rw [foldOf_add (by omega) (by simp [wsp])]
          simp [wsp]
        rw [e3] at e
        refine Ev.step (fun k => ?_) (Ev.bind (f := fun k y => spec_SumWords.l0 k l y ((i + 2 : Nat) : Int)) (fold_spec _ (s + 256 * l[i]) (Nat.le_refl _) (by omega) (by omega)) e)
        simp only [spec_SumWords.l0, spec_l1Fold.f]
        rw [wrap_id (x := (i : Int) + 1) (by omega) (by omega), if_pos (by omega), if_pos (by omega), if_neg (by omega), rd_get l i hlt, wrap_id (x := l[i]) (by omega) (by omega), wrap_id (x := 256 * l[i]) (by omega) (by omega), wrap_id (x := s + 256 * l[i]) (by omega) (by omega), wrap_id (x := (i : Int) + 2) (by omega) (by omega)]
        rfl
    · refine Ev.step (f := fun _ => some (65535 - foldOf (s + wsp false (l.drop i)))) (fun k => ?_) (Ev.now _)
      simp only [spec_SumWords.l0]
      rw [if_neg (by omega), List.drop_eq_nil_of_le (by omega)]
      have e : s + wsp false [] = s := by simp [wsp]
      rw [e, foldOf_small h0 h1, wrap_id (by omega) (by omega)]
theorem sum_spec (l : List Int) (hb : Bytes l) (hl : l.length ≤ 100000) : Ev (fun k => spec_SumWords.f k l) (sumOf l) := by
  have := sum_spec_loop l hb hl l.length 0 0 (by omega) (by omega) (by omega) (by omega)
  simpa [spec_SumWords.f, sumOf] using this
/-- A number's lowest two bytes, the highest first. -/
def put2 (t : Int) : List Int := [t / 256 % 256, t % 256]
theorem put2_length (t : Int) : (put2 t).length = 2 := rfl
theorem put2_bytes (t : Int) : Bytes (put2 t) := fun x hx => by
  simp only [put2, List.mem_cons, List.not_mem_nil, or_false] at hx
  rcases hx with rfl | rfl <;> omega
theorem put2_ev (t : Int) : Ev (fun k => impl_put.f k t 2) (put2 t) := by
  refine ⟨5, fun k hk => ?_⟩
  obtain ⟨m, rfl⟩ : ∃ m, k = m + 5 := ⟨k - 5, by omega⟩
  simp [impl_put.f, impl_put.l0, wrap64, put2, IntKind.wrap, IntKind.bits, IntKind.signed, shr]
theorem specBytes2_ev (t : Int) : Ev (fun k => spec_l1Bytes.f k t 2) (put2 t) := by
  refine ⟨5, fun k hk => ?_⟩
  obtain ⟨m, rfl⟩ : ∃ m, k = m + 5 := ⟨k - 5, by omega⟩
  simp [spec_l1Bytes.f, spec_l1Bytes.l0, wrap64, put2, IntKind.wrap, IntKind.bits, IntKind.signed, shr]
def portsOf (p fp tp : Int) : List Int := if Ports p then put2 fp ++ put2 tp else []
theorem portsOf_small (p fp tp : Int) : (portsOf p fp tp).length ≤ 4 := by
  unfold portsOf
  split <;> simp [put2_length]
theorem portsOf_bytes (p fp tp : Int) : Bytes (portsOf p fp tp) := by
  unfold portsOf
  split
  · exact fun x hx => (List.mem_append.1 hx).elim (put2_bytes _ x) (put2_bytes _ x)
  · exact fun x hx => by simp at hx
/-- A packet's head ahead of its sum. -/
def headOf (n p ttl : Int) : List Int := [69, 0] ++ put2 n ++ [0, 0, 64, 0, ttl % 256, p % 256]
def endsOf (f t : Int) : List Int := put4 f ++ put4 t
def bareHead (f t p ttl n : Int) : List Int := headOf n p ttl ++ [0, 0] ++ endsOf f t
theorem bareHead_length (f t p ttl n : Int) : (bareHead f t p ttl n).length = 20 := rfl
theorem bareHead_bytes (f t p ttl n : Int) : Bytes (bareHead f t p ttl n) := fun x hx => by
  simp only [bareHead, headOf, endsOf, put2, put4, List.cons_append, List.nil_append, List.append_nil, List.mem_cons, List.not_mem_nil, or_false] at hx
  omega
def buildOf (f t p ttl fp tp : Int) (l : List Int) : List Int :=
  let n : Int := 20 + (((portsOf p fp tp ++ l).length : Nat) : Int)
  headOf n p ttl ++ put2 (sumOf (bareHead f t p ttl n)) ++ endsOf f t ++ (portsOf p fp tp ++ l)
theorem buildOf_length (f t p ttl fp tp : Int) (l : List Int) : (buildOf f t p ttl fp tp l).length = 20 + ((portsOf p fp tp).length + l.length) := by
  simp only [buildOf, headOf, endsOf, List.length_append, put2_length, put4_length, List.length_cons, List.length_nil]
theorem buildOf_bytes (f t p ttl fp tp : Int) {l : List Int} (hb : Bytes l) : Bytes (buildOf f t p ttl fp tp l) := fun x hx => by
  simp only [buildOf] at hx
  rcases List.mem_append.1 hx with hx | hx
  · simp only [headOf, endsOf, put2, put4, List.cons_append, List.nil_append, List.append_nil, List.mem_cons, List.not_mem_nil, or_false] at hx
    omega
  · rcases List.mem_append.1 hx with hx | hx
    · exact portsOf_bytes _ _ _ x hx
    · exact hb x hx
theorem build_impl_j0 (f t p ttl fp tp : Int) (l : List Int) (hl : l.length ≤ 1000) : Ev (fun k => impl_build.j0 k (portsOf p fp tp) f t p ttl fp tp l) (buildOf f t p ttl fp tp l) := by
  have hps := portsOf_small p fp tp
  have hn : wrap64 (wrap64 (20 + ((portsOf p fp tp).length : Int)) + (l.length : Int)) = 20 + (((portsOf p fp tp ++ l).length : Nat) : Int) := by
    rw [wrap_id (x := 20 + ((portsOf p fp tp).length : Int)) (by omega) (by omega), wrap_id (by omega) (by omega), List.length_append]
    omega
  generalize hN : 20 + (((portsOf p fp tp ++ l).length : Nat) : Int) = N at hn
  refine Ev.step (fun k => by simp only [impl_build.j0, hn]; rfl) ?_
  refine Ev.bind (put2_ev N) ?_
  refine Ev.bind (put4_ev f) ?_
  refine Ev.bind (put4_ev t) ?_
  have e1 := concat_ev [[69, 0], put2 N, [0, 0, 64, 0, ttl % 256, p % 256, 0, 0], put4 f, put4 t] (by simp [put2_length, put4_length]) (by simp)
  have e2 : ([[69, 0], put2 N, [0, 0, 64, 0, ttl % 256, p % 256, 0, 0], put4 f, put4 t] : List (List Int)).flatten = bareHead f t p ttl N := rfl
  rw [e2] at e1
  refine Ev.bind e1 ?_
  simp only [bareHead_length, if_pos (show (10 : Int) ≤ ((20 : Nat) : Int) by omega)]
  refine Ev.bind (sum_impl _ (bareHead_bytes f t p ttl N) (by rw [bareHead_length]; omega)) ?_
  refine Ev.bind (put2_ev _) ?_
  have e3 : cpi (bareHead f t p ttl N) 10 (put2 (sumOf (bareHead f t p ttl N))) = headOf N p ttl ++ put2 (sumOf (bareHead f t p ttl N)) ++ endsOf f t := rfl
  have e4 := concat_ev [cpi (bareHead f t p ttl N) 10 (put2 (sumOf (bareHead f t p ttl N))), portsOf p fp tp, l] (by simp [e3, headOf, endsOf, put2_length, put4_length]; omega) (by simp)
  have e5 : ([cpi (bareHead f t p ttl N) 10 (put2 (sumOf (bareHead f t p ttl N))), portsOf p fp tp, l] : List (List Int)).flatten = buildOf f t p ttl fp tp l := by
    rw [e3]
    simp only [buildOf, hN, List.flatten_cons, List.flatten_nil, List.append_nil]
  rw [e5] at e4
  refine Ev.bind e4 (Ev.now _)
theorem build_impl (f t p ttl fp tp : Int) (l : List Int) (hl : l.length ≤ 1000) : Ev (fun k => impl_build.f k f t p ttl fp tp l) (buildOf f t p ttl fp tp l) := by
  unfold impl_build.f
  simp only [ports_impl, Option.bind_some]
  have e := build_impl_j0 f t p ttl fp tp l hl
  by_cases hp : Ports p
  · simp only [decide_eq_true hp, if_true]
    refine Ev.bind (put2_ev fp) ?_
    refine Ev.bind (put2_ev tp) ?_
    refine Ev.bind (concat_ev [put2 fp, put2 tp] (by simp [put2_length]) (by simp)) ?_
    have e2 : ([put2 fp, put2 tp] : List (List Int)).flatten = portsOf p fp tp := by simp [portsOf, if_pos hp]
    rw [e2]
    exact e
  · simp only [decide_eq_false hp, Bool.false_eq_true, if_false]
    have e2 : ([] : List Int) = portsOf p fp tp := by simp [portsOf, if_neg hp]
    rw [e2]
    exact e
theorem build_spec_j0 (f t p ttl fp tp : Int) (l : List Int) (hl : l.length ≤ 1000) : Ev (fun k => spec_l2Build.j0 k (portsOf p fp tp ++ l) f t p ttl fp tp l) (buildOf f t p ttl fp tp l) := by
  have hps := portsOf_small p fp tp
  have hlen : (portsOf p fp tp ++ l).length = (portsOf p fp tp).length + l.length := List.length_append
  have hn : wrap64 (20 + (((portsOf p fp tp ++ l).length : Nat) : Int)) = 20 + (((portsOf p fp tp ++ l).length : Nat) : Int) := wrap_id (by omega) (by omega)
  have hB : buildOf f t p ttl fp tp l = headOf (20 + (((portsOf p fp tp ++ l).length : Nat) : Int)) p ttl ++ put2 (sumOf (bareHead f t p ttl (20 + (((portsOf p fp tp ++ l).length : Nat) : Int)))) ++ endsOf f t ++ (portsOf p fp tp ++ l) := rfl
  rw [hB]
  generalize portsOf p fp tp ++ l = T at hn hlen ⊢
  obtain ⟨N, hN⟩ : ∃ N, N = 20 + ((T.length : Nat) : Int) := ⟨_, rfl⟩
  rw [← hN]
  replace hn := hn.trans hN.symm
  refine Ev.step (fun k => by simp only [spec_l2Build.j0, hn, Option.bind_some]; rfl) ?_
  refine Ev.bind (specBytes2_ev N) ?_
  have hsum := sum_spec (bareHead f t p ttl N) (bareHead_bytes f t p ttl N) (by rw [bareHead_length]; omega)
  simp only [put2_length, put4_length, List.length_append, List.length_cons, List.length_nil, Nat.reduceAdd, Nat.reduceLT, if_true]
  refine Ev.bind (specBytes4_ev f) ?_
  refine Ev.bind (specBytes4_ev t) ?_
  simp only [put2_length, put4_length, List.length_append, List.length_cons, List.length_nil, Nat.reduceAdd, Nat.reduceLT, if_true]
  refine Ev.bind hsum ?_
  refine Ev.bind (specBytes2_ev _) ?_
  simp only [put2_length, put4_length, List.length_append, List.length_cons, List.length_nil, Nat.reduceAdd, Nat.reduceLT, if_true]
  exact Ev.congr (fun k => if_pos (show 20 + T.length < 140737488355328 by omega)) (Ev.now _)
theorem build_spec (f t p ttl fp tp : Int) (l : List Int) (hl : l.length ≤ 1000) : Ev (fun k => spec_l2Build.f k f t p ttl fp tp l) (buildOf f t p ttl fp tp l) := by
  unfold spec_l2Build.f
  simp only [ports_spec, Option.bind_some, List.length_nil, List.nil_append, if_pos (show 0 + l.length < 140737488355328 by omega)]
  have e := build_spec_j0 f t p ttl fp tp l hl
  by_cases hp : Ports p
  · simp only [decide_eq_true hp, if_true]
    refine Ev.bind (specBytes2_ev fp) ?_
    refine Ev.bind (specBytes2_ev tp) ?_
    simp only [put2_length, List.length_append, Nat.reduceAdd, Nat.reduceLT, if_true]
    have e2 : portsOf p fp tp = put2 fp ++ put2 tp := by simp [portsOf, if_pos hp]
    rw [e2] at e
    exact Ev.congr (fun k => if_pos (show 4 + l.length < 140737488355328 by omega)) e
  · simp only [decide_eq_false hp, Bool.false_eq_true, if_false]
    have e2 : portsOf p fp tp = [] := by simp [portsOf, if_neg hp]
    rw [e2, List.nil_append] at e
    exact e
def packetOf (f t p ttl fp tp : Int) (l : List Int) : Int × List Int := if faultOf f t p ttl fp tp l = 0 then (0, buildOf f t p ttl fp tp l) else (faultOf f t p ttl fp tp l, [])
theorem fault_small {f t p ttl fp tp : Int} {l : List Int} (h : faultOf f t p ttl fp tp l = 0) : l.length ≤ 200 := by
  unfold faultOf at h
  split at h
  · split at h
    · omega
    · split at h <;> omega
  · omega
theorem packet_impl (f t p ttl fp tp : Int) (l : List Int) : Ev (fun k => impl_BuildPacket.f k f t p ttl fp tp l) (packetOf f t p ttl fp tp l) := by
  unfold impl_BuildPacket.f packetOf
  refine Ev.bind (fault_impl f t p ttl fp tp l) ?_
  by_cases h : faultOf f t p ttl fp tp l = 0
  · simp only [if_pos h]
    exact Ev.bind (build_impl f t p ttl fp tp l (by have := fault_small h; omega)) (Ev.now _)
  · simp only [if_neg h]
    exact Ev.now _
theorem packet_spec (f t p ttl fp tp : Int) (l : List Int) : Ev (fun k => spec_BuildPacket.f k f t p ttl fp tp l) (packetOf f t p ttl fp tp l) := by
  unfold spec_BuildPacket.f packetOf
  refine Ev.bind (fault_spec f t p ttl fp tp l) ?_
  by_cases h : faultOf f t p ttl fp tp l = 0
  · simp only [if_pos h]
    exact Ev.bind (build_spec f t p ttl fp tp l (by have := fault_small h; omega)) (Ev.now _)
  · simp only [if_neg h]
    exact Ev.now _
theorem wrap_spec (spi key seq : Int) (inner : List Int) (hb : Bytes inner) (hl : inner.length ≤ 10000000) : Ev (fun k => spec_WrapInner.f k spi key seq inner) (wrapOf spi key seq inner) := by
  unfold spec_WrapInner.f wrapOf
  simp only [range15_eq, Option.bind_some]
  by_cases hw : RightWrap spi key seq
  · simp only [decide_eq_true hw, if_true, if_pos hw]
    by_cases h4 : inner.length > 240
    · simp only [if_pos h4, if_pos (show (inner.length : Int) > 240 by omega)]
      exact Ev.now _
    · simp only [if_neg h4, if_neg (show ¬ ((inner.length : Int) > 240) by omega)]
      have hp := padded_small inner 4 4 (by omega) (by omega)
      have hs := sealed_length key seq (padded inner 4 4)
      refine Ev.bind (specBytes4_ev spi) ?_
      rw [Int.tmod_eq_emod_of_nonneg (by have := hw.2.2.1; omega)]
      have e4 := specBytes4_ev (seq % 4294967296)
      rw [put4_mod (by have := hw.2.2.1; omega)] at e4
      refine Ev.bind e4 ?_
      simp only [put4_length, if_pos (show 4 + 4 < 140737488355328 by decide), Option.bind_some]
      refine Ev.bind (specPad_ok inner 4 4 ⟨by omega, by omega⟩ ⟨by omega, by omega⟩ (by omega)) ?_
      refine Ev.bind (specSeal_ok key seq _ ⟨hw.2.1, ⟨by have := hw.2.2.1; omega, hw.2.2.2⟩⟩ (padded_bytes (by omega) (by omega) (by omega) hb) (show (padded inner 4 4).length ≤ 480 by omega)) ?_
      simp only [List.length_append, put4_length, hs]
      simp only [if_pos (show 4 + 4 + ((padded inner 4 4).length + 4) < 140737488355328 by omega)]
      exact Ev.now _
  · simp only [decide_eq_false hw, Bool.false_eq_true, if_false, if_neg hw]
    exact Ev.now _
theorem wrapOf_small (spi key seq : Int) (inner : List Int) : (wrapOf spi key seq inner).2.length ≤ 1000 := by
  unfold wrapOf
  by_cases hw : RightWrap spi key seq
  · rw [if_pos hw]
    by_cases h4 : inner.length > 240
    · rw [if_pos h4]; simp
    · rw [if_neg h4]
      have hp := padded_small inner 4 4 (by omega) (by omega)
      have hs := sealed_length key seq (padded inner 4 4)
      simp only [List.length_append, put4_length, hs]
      omega
  · rw [if_neg hw]; simp
def tunnelOf (a0 a1 spi key seq f t p ttl fp tp : Int) (l : List Int) : Int × List Int :=
  if (packetOf f t p ttl fp tp l).1 = 0 then if ((packetOf f t p ttl fp tp l).2.length : Int) > 170 then (2, []) else if (wrapOf spi key seq (packetOf f t p ttl fp tp l).2).1 = 0 then packetOf a0 a1 50 64 0 0 (wrapOf spi key seq (packetOf f t p ttl fp tp l).2).2 else wrapOf spi key seq (packetOf f t p ttl fp tp l).2 else packetOf f t p ttl fp tp l
theorem packetOf_bytes (f t p ttl fp tp : Int) {l : List Int} (hb : Bytes l) : Bytes (packetOf f t p ttl fp tp l).2 := by
  unfold packetOf
  split
  · exact buildOf_bytes f t p ttl fp tp hb
  · exact fun x hx => by simp at hx
theorem packetOf_small (f t p ttl fp tp : Int) (l : List Int) : (packetOf f t p ttl fp tp l).2.length ≤ 1000 := by
  unfold packetOf
  split
  · rename_i h
    have h1 := fault_small h
    have h2 := portsOf_small p fp tp
    show (buildOf f t p ttl fp tp l).length ≤ 1000
    rw [buildOf_length]
    omega
  · simp
theorem tunnel_spec (a0 a1 spi key seq f t p ttl fp tp : Int) (l : List Int) (hb : Bytes l) : Ev (fun k => spec_TunnelPacket.f k a0 a1 spi key seq f t p ttl fp tp l) (tunnelOf a0 a1 spi key seq f t p ttl fp tp l) := by
  unfold spec_TunnelPacket.f tunnelOf
  have hs := packetOf_small f t p ttl fp tp l
  refine Ev.bind (packet_spec f t p ttl fp tp l) ?_
  by_cases h : (packetOf f t p ttl fp tp l).1 = 0
  · simp only [if_pos h]
    by_cases h2 : ((packetOf f t p ttl fp tp l).2.length : Int) > 170
    · simp only [if_pos h2]
      exact Ev.now _
    · simp only [if_neg h2]
      refine Ev.bind (wrap_spec spi key seq _ (packetOf_bytes f t p ttl fp tp hb) (by omega)) ?_
      by_cases h3 : (wrapOf spi key seq (packetOf f t p ttl fp tp l).2).1 = 0
      · simp only [if_pos h3]
        exact Ev.bind (packet_spec a0 a1 50 64 0 0 _) (Ev.now _)
      · simp only [if_neg h3]
        exact Ev.now _
  · simp only [if_neg h]
    exact Ev.now _
theorem tunnel_impl (a0 a1 spi key seq f t p ttl fp tp : Int) (l : List Int) (hb : Bytes l) : Ev (fun k => impl_TunnelPacket.f k a0 a1 spi key seq f t p ttl fp tp l) (tunnelOf a0 a1 spi key seq f t p ttl fp tp l) := by
  unfold impl_TunnelPacket.f tunnelOf
  have hs := packetOf_small f t p ttl fp tp l
  refine Ev.bind (fault_impl f t p ttl fp tp l) ?_
  have hbb := packetOf_bytes f t p ttl fp tp hb
  unfold packetOf at hs hbb ⊢
  by_cases h : faultOf f t p ttl fp tp l = 0
  · simp only [if_pos h, if_true] at hs hbb ⊢
    refine Ev.bind (build_impl f t p ttl fp tp l (by have := fault_small h; omega)) ?_
    by_cases h2 : ((buildOf f t p ttl fp tp l).length : Int) > 170
    · simp only [if_pos h2]
      exact Ev.now _
    · simp only [if_neg h2]
      refine Ev.bind (wrap_impl spi key seq _ hbb (by omega)) ?_
      by_cases h3 : (wrapOf spi key seq (buildOf f t p ttl fp tp l)).1 = 0
      · simp only [if_pos h3]
        exact Ev.bind (packet_impl a0 a1 50 64 0 0 _) (Ev.now _)
      · simp only [if_neg h3]
        exact Ev.now _
  · simp only [if_neg h]
    exact Ev.now _
theorem tunnelOf_small (a0 a1 spi key seq f t p ttl fp tp : Int) (l : List Int) : (tunnelOf a0 a1 spi key seq f t p ttl fp tp l).2.length ≤ 1000 := by
  have h1 := packetOf_small f t p ttl fp tp l
  unfold tunnelOf
  split
  · split
    · simp
    · split
      · exact packetOf_small _ _ _ _ _ _ _
      · exact wrapOf_small _ _ _ _
  · exact h1
theorem toPacket_ev (f t p ttl fp tp : Int) (l : List Int) (hl : l.length ≤ 2000000) : Ev (fun k => laws_toPacket.f k f t p ttl fp tp l) (f, t, p, ttl, fp, tp, l) := by
  unfold laws_toPacket.f
  exact Ev.bind (copy_ev l hl) (Ev.now _)
theorem eqPacket_ev (f t p ttl fp tp : Int) (l : List Int) (hl : l.length ≤ 100000000) : Ev (fun k => laws_eqPacket.f k f t p ttl fp tp l f t p ttl fp tp l) true := by
  unfold laws_eqPacket.f
  simp only [if_true]
  exact Ev.bind (same_ev l hl) (Ev.now _)
theorem markPacket_ev (f t p ttl fp tp : Int) (l : List Int) (hl : l.length ≤ 100000000) : Ev (fun k => laws_markPacket.f k f t p ttl fp tp l 1) (1 + l.length, marks 1 l.length) := by
  unfold laws_markPacket.f
  exact Ev.bind (mark_ev l 1 hl (by omega) (by omega)) (Ev.now _)

end Go.Proofs.Ytojimlmflfiijaa.Q
