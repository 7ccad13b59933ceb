-- Gathered by bundle.py, this session's own program.
import Derived.Test.YtojimlmflfiijaaBUO1
import Derived.Test.YtojimlmflfiijaaBUO2
import Derived.Test.YtojimlmflfiijaaBUO3
import Derived.Test.YtojimlmflfiijaaBUO4
import Derived.Test.YtojimlmflfiijaaBUO5
/- Plain laws that FnExactUnwrapOuter stands on, gathered from this session's own texts. -/
set_option linter.unusedSimpArgs false
set_option linter.unusedVariables false
namespace Go.Proofs.Ytojimlmflfiijaa.Q
open Go.RowKit Go.Proofs.Ytojimlmflfiijaa.PA Go.Proofs.YtojimlmflfiijaaW.PrintWords Go.Proofs.YtojimlmflfiijaaW.PrintLast Go.Proofs.YtojimlmflfiijaaW.PrintMore

theorem wrap_id {x : Int} (h0 : -9223372036854775808 ≤ x) (h1 : x ≤ 9223372036854775807) : wrap64 x = x := by
  unfold wrap64
  omega
/-- The list's numbers are bytes. -/
def Bytes (l : List Int) : Prop := ∀ x ∈ l, 0 ≤ x ∧ x ≤ 255
theorem rd_mem {l : List Int} {i : Int} (h0 : 0 ≤ i) (h1 : i < (l.length : Int)) : rd l i ∈ l := by
  unfold rd
  have h : i.toNat < l.length := by omega
  rw [List.getD_eq_getElem?_getD, List.getElem?_eq_getElem h]
  exact List.getElem_mem h
theorem rd_byte {l : List Int} (hb : Bytes l) {i : Int} (h0 : 0 ≤ i) (h1 : i < (l.length : Int)) : 0 ≤ rd l i ∧ rd l i ≤ 255 := hb _ (rd_mem h0 h1)
/-- What came in as bytes is bytes. -/
theorem bytes_of_wf {l : List Int} (h : ∀ x ∈ l, (Lit.int .u8 x).wf = true) : Bytes l := fun x hx => by
  have h1 := h x hx
  have h2 : decide ((0 : Int) ≤ x) = true ∧ decide (x ≤ 255) = true := by simpa [Lit.wf, IntKind.min, IntKind.max, IntKind.signed, IntKind.bits] using h1
  exact ⟨of_decide_eq_true h2.1, of_decide_eq_true h2.2⟩
theorem in_eq (a b c : Int) : impl_in.f a b c = some (decide (b ≤ a ∧ a ≤ c)) := by
  unfold impl_in.f
  by_cases h : a ≥ b
  · rw [if_pos h]
    congr 1
    simp; omega
  · rw [if_neg h]
    congr 1
    simp; omega
theorem l1In_eq (a b c : Int) : spec_l1In.f a b c = some (decide (b ≤ a ∧ a ≤ c)) := by
  unfold spec_l1In.f
  by_cases h : a ≥ b
  · rw [if_pos h]
    congr 1
    simp; omega
  · rw [if_neg h]
    congr 1
    simp; omega
theorem clone_eq (l : List Int) (h : l.length < 140737488355328) : slices_Clone_byte_byte.f l = some l := by
  unfold slices_Clone_byte_byte.f
  simp [h]
/-- As few bytes as are wanted for whole blocks. -/
def need (n s : Int) : Int := (s - (n + 2) % s) % s
theorem cases16 {s : Int} (h0 : 1 ≤ s) (h1 : s ≤ 16) : s = 1 ∨ s = 2 ∨ s = 3 ∨ s = 4 ∨ s = 5 ∨ s = 6 ∨ s = 7 ∨ s = 8 ∨ s = 9 ∨ s = 10 ∨ s = 11 ∨ s = 12 ∨ s = 13 ∨ s = 14 ∨ s = 15 ∨ s = 16 := by omega
theorem need_range {n s : Int} (h0 : 1 ≤ s) : 0 ≤ need n s ∧ need n s < s := ⟨Int.emod_nonneg _ (by omega), Int.emod_lt_of_pos _ (by omega)⟩
theorem need_iff {n s m : Int} (h0 : 1 ≤ s) (h1 : s ≤ 16) (_hn : 0 ≤ n) (hm : 0 ≤ m) (hle : m ≤ need n s) : (n + m + 2) % s = 0 ↔ m = need n s := by
  unfold need at *
  rcases cases16 h0 h1 with rfl | rfl | rfl | rfl | rfl | rfl | rfl | rfl | rfl | rfl | rfl | rfl | rfl | rfl | rfl | rfl <;> omega
/-- 1, 2, 3 and so on, so many. -/
def ups (n : Nat) : List Int := (List.range n).map fun (i : Nat) => (i : Int) + 1
theorem ups_length (n : Nat) : (ups n).length = n := by simp [ups]
theorem ups_succ (n : Nat) : ups (n + 1) = ups n ++ [(n : Int) + 1] := by simp [ups, List.range_succ]
theorem ups_zero : ups 0 = [] := rfl
/-- The bytes, padded to a multiple of s. -/
def padded (l : List Int) (s nx : Int) : List Int := l ++ ups (need l.length s).toNat ++ [need l.length s, nx]
theorem padded_length (l : List Int) (s nx : Int) (h : 1 ≤ s) : ((padded l s nx).length : Int) = l.length + need l.length s + 2 := by
  have := (need_range (n := l.length) h).1
  simp [padded, ups_length]
  omega
theorem padded_mod (l : List Int) (s nx : Int) (h : 1 ≤ s) (h1 : s ≤ 16) : ((padded l s nx).length : Int) % s = 0 := by
  rw [padded_length l s nx h]
  exact (need_iff h h1 (by omega) (need_range h).1 (Int.le_refl _)).2 rfl
theorem padded_small (l : List Int) (s nx : Int) (h : 1 ≤ s) (h1 : s ≤ 16) : ((padded l s nx).length : Int) ≤ l.length + 17 := by
  rw [padded_length l s nx h]
  have := (need_range (n := l.length) h).2
  omega
theorem pad_loop (l : List Int) (s nx : Int) (h0 : 1 ≤ s) (h1 : s ≤ 16) (hl : l.length ≤ 100000) (d : Nat) : ∀ m : Nat, (m : Int) + d = need l.length s →
    Ev (fun k => impl_pad.l0 k s nx (l ++ ups m) (m : Int)) (padded l s nx) := by
  have hr := need_range (n := l.length) h0
  induction d with
  | zero =>
    intro m hm
    have hm' : (m : Int) = need l.length s := by omega
    refine Ev.step (f := fun _ => some (padded l s nx)) (fun k => ?_) (Ev.now _)
    simp only [impl_pad.l0]
    have hlen : ((l ++ ups m).length : Int) = l.length + m := by simp [ups_length]
    rw [if_neg (by omega), hlen, wrap_id (by omega) (by omega), Int.tmod_eq_emod_of_nonneg (by omega), if_pos ((need_iff h0 h1 (by omega) (by omega) (by omega)).2 hm')]
    simp only [Option.bind_some]
    rw [if_pos (by simp [ups_length]; omega)]
    have : (m : Int) % 256 = m := by omega
    rw [this]
    congr 1
    unfold padded
    rw [← hm', Int.toNat_natCast]
  | succ d ih =>
    intro m hm
    refine Ev.step (f := fun k => impl_pad.l0 k s nx (l ++ ups (m + 1)) ((m + 1 : Nat) : Int)) (fun k => ?_) (ih (m + 1) (by omega))
    simp only [impl_pad.l0]
    have hlen : ((l ++ ups m).length : Int) = l.length + m := by simp [ups_length]
    rw [if_neg (by omega), hlen, wrap_id (x := (l.length : Int) + m + 2) (by omega) (by omega), Int.tmod_eq_emod_of_nonneg (by omega), if_neg (fun hq => by
      have := (need_iff h0 h1 (by omega) (by omega) (by omega)).1 hq
      omega), if_pos (by simp [ups_length]; omega), wrap_id (x := (m : Int) + 1) (by omega) (by omega)]
    have e1 : ((m : Int) + 1) % 256 = m + 1 := by omega
    rw [e1, ups_succ, List.append_assoc]
    rfl
theorem pad_ev (l : List Int) (s nx : Int) (h0 : 1 ≤ s) (h1 : s ≤ 16) (hl : l.length ≤ 100000) : Ev (fun k => impl_pad.f k l s nx) (padded l s nx) := by
  have hr := need_range (n := l.length) h0
  unfold impl_pad.f
  rw [clone_eq l (by omega)]
  simp only [Option.bind_some]
  have := pad_loop l s nx h0 h1 hl (need l.length s).toNat 0 (by omega)
  simpa [ups_zero] using this
theorem equal_loop (a b : List Int) (hl : a.length = b.length) (ha : a.length ≤ 100000000) (d : Nat) : ∀ i : Nat, i + d = a.length → Ev (fun k => slices_Equal_byte_byte.l0 k a b (a.length : Int) (i : Int)) (decide (a.drop i = b.drop i)) := by
  induction d with
  | zero =>
    intro i hi
    have h1 : a.drop i = [] := List.drop_eq_nil_of_le (by omega)
    have h2 : b.drop i = [] := List.drop_eq_nil_of_le (by omega)
    rw [h1, h2]
    refine Ev.step (f := fun _ => some true) (fun k => ?_) (Ev.now _)
    simp only [slices_Equal_byte_byte.l0]
    rw [if_neg (by omega)]
  | succ d ih =>
    intro i hi
    have hia : i < a.length := by omega
    have hib : i < b.length := by omega
    have e1 : rd a (i : Int) = a[i] := by simp [rd, List.getD_eq_getElem?_getD, List.getElem?_eq_getElem hia]
    have e2 : rd b (i : Int) = b[i] := by simp [rd, List.getD_eq_getElem?_getD, List.getElem?_eq_getElem hib]
    rw [List.drop_eq_getElem_cons hia, List.drop_eq_getElem_cons hib]
    by_cases he : a[i] = b[i]
    · have hd : decide (a[i] :: a.drop (i + 1) = b[i] :: b.drop (i + 1)) = decide (a.drop (i + 1) = b.drop (i + 1)) := by
        simp only [List.cons.injEq, he, true_and]
      rw [hd]
      refine Ev.step (f := fun k => slices_Equal_byte_byte.l0 k a b (a.length : Int) ((i + 1 : Nat) : Int)) (fun k => ?_) (ih (i + 1) (by omega))
      simp only [slices_Equal_byte_byte.l0]
      rw [if_pos (by omega), if_pos (by omega), if_pos (by omega), if_pos (by omega), e1, e2, if_pos he, wrap_id (by omega) (by omega)]
      rfl
    · have hd : decide (a[i] :: a.drop (i + 1) = b[i] :: b.drop (i + 1)) = false := by simp only [List.cons.injEq, he, false_and, decide_false]
      rw [hd]
      refine Ev.step (f := fun _ => some false) (fun k => ?_) (Ev.now _)
      simp only [slices_Equal_byte_byte.l0]
      rw [if_pos (by omega), if_pos (by omega), if_pos (by omega), if_pos (by omega), e1, e2, if_neg he]
theorem equal_ev (a b : List Int) (ha : a.length ≤ 100000000) : Ev (fun k => slices_Equal_byte_byte.f k a b) (decide (a = b)) := by
  unfold slices_Equal_byte_byte.f
  by_cases hl : (a.length : Int) = b.length
  · simp only [if_pos hl]
    have := equal_loop a b (by omega) ha a.length 0 (by omega)
    simpa using this
  · simp only [if_neg hl]
    have : decide (a = b) = false := by
      refine decide_eq_false (fun h => hl (by rw [h]))
    rw [this]
    exact Ev.now _
theorem rd_app_left (a b : List Int) (i : Nat) (h : i < a.length) : rd (a ++ b) (i : Int) = rd a (i : Int) := by
  simp [rd, List.getD_eq_getElem?_getD, List.getElem?_append_left h]
theorem rd_app_right (a b : List Int) (i : Int) (h : (a.length : Int) ≤ i) : rd (a ++ b) i = rd b (i - a.length) := by
  unfold rd
  rw [List.getD_eq_getElem?_getD, List.getD_eq_getElem?_getD, List.getElem?_append_right (by omega)]
  congr 2
  omega
def xr (a b : Int) : Int := Go.bits .xor .u8 a b
theorem xr_nat (a b : Nat) (ha : a < 256) (hb : b < 256) : xr (a : Int) (b : Int) = ((a ^^^ b : Nat) : Int) := by
  have h : a ^^^ b < 2 ^ 8 := Nat.xor_lt_two_pow ha hb
  unfold xr
  simp only [bits, BitVec.ofInt_natCast, BitVec.toNat_xor, BitVec.toNat_ofNat, show IntKind.u8.bits = 8 from rfl, Nat.mod_eq_of_lt (show a < 2 ^ 8 from ha), Nat.mod_eq_of_lt (show b < 2 ^ 8 from hb)]
  exact wraps_u8 _ (Int.natCast_nonneg _) (by exact_mod_cast h)
def IsByte (x : Int) : Prop := 0 ≤ x ∧ x ≤ 255
theorem IsByte.nat {x : Int} (h : IsByte x) : ∃ n : Nat, x = (n : Int) ∧ n < 256 := by
  obtain ⟨n, rfl⟩ := Int.eq_ofNat_of_zero_le h.1
  exact ⟨n, rfl, by have := h.2; omega⟩
theorem xr_byte {a b : Int} (ha : IsByte a) (hb : IsByte b) : IsByte (xr a b) := by
  obtain ⟨n, rfl, hn⟩ := ha.nat
  obtain ⟨m, rfl, hm⟩ := hb.nat
  have h : n ^^^ m < 2 ^ 8 := Nat.xor_lt_two_pow hn hm
  rw [xr_nat n m hn hm]
  exact ⟨by omega, by omega⟩
def strm : Int → Nat → List Int
  | _, 0 => []
  | x, n + 1 => ((x * 16807) % 2147483647) % 256 :: strm ((x * 16807) % 2147483647) n
theorem strm_length (n : Nat) : ∀ x, (strm x n).length = n := by
  induction n with
  | zero => intro x; rfl
  | succ n ih => intro x; simp [strm, ih]
theorem strm_bytes (n : Nat) : ∀ x, Bytes (strm x n) := by
  induction n with
  | zero => intro x y hy; simp [strm] at hy
  | succ n ih =>
    intro x y hy
    simp only [strm, List.mem_cons] at hy
    rcases hy with rfl | hy
    · omega
    · exact ih _ y hy
def x0 (key seq : Int) : Int := (key * 31 + seq + 7) % 2147483647
theorem x0_eq {key seq : Int} (hk : 0 ≤ key ∧ key ≤ 4294967295) (hs : 0 ≤ seq ∧ seq ≤ 1099511627776) : Int.tmod (wrap64 ((wrap64 ((wrap64 (key * 31)) + seq)) + 7)) 2147483647 = x0 key seq := by
  rw [wrap_id (x := key * 31) (by omega) (by omega), wrap_id (x := key * 31 + seq) (by omega) (by omega), wrap_id (x := key * 31 + seq + 7) (by omega) (by omega), Int.tmod_eq_emod_of_nonneg (by omega)]
  rfl
theorem x0_range (key seq : Int) : 0 ≤ x0 key seq ∧ x0 key seq < 2147483647 := by unfold x0; omega
theorem stream_loop (N : Nat) (hN : N ≤ 100000) (d : Nat) : ∀ (x : Int) (out : List Int) (i : Nat), i + d = N → 0 ≤ x → x < 2147483647 → out.length ≤ i → Ev (fun k => impl_stream.l0 k x out (N : Int) (i : Int)) (out ++ strm x d) := by
  induction d with
  | zero =>
    intro x out i hi _ _ _
    refine Ev.step (f := fun _ => some (out ++ strm x 0)) (fun k => ?_) (Ev.now _)
    simp only [impl_stream.l0]
    rw [if_neg (by omega)]
    simp [strm]
  | succ d ih =>
    intro x out i hi h0 h1 ho
    have e := ih ((x * 16807) % 2147483647) (out ++ [((x * 16807) % 2147483647) % 256]) (i + 1) (by omega) (by omega) (by omega) (by simp; omega)
    have hs : out ++ strm x (d + 1) = (out ++ [((x * 16807) % 2147483647) % 256]) ++ strm ((x * 16807) % 2147483647) d := by simp [strm]
    rw [hs]
    refine Ev.step (fun k => ?_) e
    simp only [impl_stream.l0]
    rw [if_pos (by omega), if_pos (by omega), wrap_id (x := x * 16807) (by omega) (by omega), Int.tmod_eq_emod_of_nonneg (by omega), wrap_id (x := (i : Int) + 1) (by omega) (by omega)]
    rfl
theorem stream_ev {key seq : Int} (hk : 0 ≤ key ∧ key ≤ 4294967295) (hs : 0 ≤ seq ∧ seq ≤ 1099511627776) (N : Nat) (hN : N ≤ 100000) : Ev (fun k => impl_stream.f k key seq (N : Int)) (strm (x0 key seq) N) := by
  unfold impl_stream.f
  rw [x0_eq hk hs]
  have := stream_loop N hN N (x0 key seq) [] 0 (by omega) (x0_range _ _).1 (x0_range _ _).2 (by simp)
  simpa using this
theorem specStream_loop (d : Nat) (hd : d ≤ 100000) : ∀ (x : Int) (out : List Int), 0 ≤ x → x < 2147483647 → out.length + d ≤ 1000000 → Ev (fun k => spec_l14Stream.l0 k (d : Int) x out) (out ++ strm x d) := by
  induction d with
  | zero =>
    intro x out _ _ _
    refine Ev.step (f := fun _ => some (out ++ strm x 0)) (fun k => ?_) (Ev.now _)
    simp only [spec_l14Stream.l0]
    rw [if_neg (by omega)]
    simp [strm]
  | succ d ih =>
    intro x out h0 h1 ho
    have e := ih (by omega) ((x * 16807) % 2147483647) (out ++ [((x * 16807) % 2147483647) % 256]) (by omega) (by omega) (by simp; omega)
    have hs : out ++ strm x (d + 1) = (out ++ [((x * 16807) % 2147483647) % 256]) ++ strm ((x * 16807) % 2147483647) d := by simp [strm]
    rw [hs]
    refine Ev.step (fun k => ?_) e
    simp only [spec_l14Stream.l0]
    rw [if_pos (by omega), if_pos (by omega), wrap_id (x := x * 16807) (by omega) (by omega), Int.tmod_eq_emod_of_nonneg (show 0 ≤ x * 16807 by omega), wrap_id (x := ((d + 1 : Nat) : Int) - 1) (by omega) (by omega), Int.tmod_eq_emod_of_nonneg (by omega)]
    have e1 : ((d + 1 : Nat) : Int) - 1 = (d : Int) := by omega
    have e2 : x * 16807 % 2147483647 % 256 % 256 = x * 16807 % 2147483647 % 256 := by omega
    rw [e1, e2]
theorem specStream_ev {key seq : Int} (hk : 0 ≤ key ∧ key ≤ 4294967295) (hs : 0 ≤ seq ∧ seq ≤ 1099511627776) (N : Nat) (hN : N ≤ 100000) : Ev (fun k => spec_l14Stream.f k key seq (N : Int)) (strm (x0 key seq) N) := by
  unfold spec_l14Stream.f
  rw [x0_eq hk hs]
  have := specStream_loop N hN (x0 key seq) [] (x0_range _ _).1 (x0_range _ _).2 (by simp; omega)
  simpa using this
def mix : List Int → List Int → List Int
  | a :: l, b :: m => xr a b :: mix l m
  | _, _ => []
theorem mix_length : ∀ l m : List Int, l.length = m.length → (mix l m).length = l.length
  | [], [], _ => rfl
  | [], _ :: _, h => by simp at h
  | _ :: _, [], h => by simp at h
  | a :: l, b :: m, h => by
    simp only [mix, List.length_cons]
    rw [mix_length l m (by simpa using h)]
theorem mix_bytes : ∀ l m : List Int, Bytes l → Bytes m → Bytes (mix l m)
  | [], [], _, _ => fun x hx => by simp [mix] at hx
  | [], _ :: _, _, _ => fun x hx => by simp [mix] at hx
  | _ :: _, [], _, _ => fun x hx => by simp [mix] at hx
  | a :: l, b :: m, h1, h2 => fun x hx => by
    simp only [mix, List.mem_cons] at hx
    rcases hx with rfl | hx
    · exact xr_byte (h1 a (by simp)) (h2 b (by simp))
    · exact mix_bytes l m (fun y hy => h1 y (by simp [hy])) (fun y hy => h2 y (by simp [hy])) x hx
theorem mix_get : ∀ (l m : List Int) (i : Nat) (h1 : i < l.length) (h2 : i < m.length) (h : i < (mix l m).length), (mix l m)[i] = xr l[i] m[i]
  | [], _, _, h1, _, _ => by simp at h1
  | _ :: _, [], _, _, h2, _ => by simp at h2
  | a :: l, b :: m, 0, _, _, _ => rfl
  | a :: l, b :: m, i + 1, h1, h2, h => by
    simp only [mix, List.getElem_cons_succ]
    exact mix_get l m i _ _ _
theorem rd_get (l : List Int) (i : Nat) (h : i < l.length) : rd l (i : Int) = l[i] := by simp [rd, List.getD_eq_getElem?_getD, List.getElem?_eq_getElem h]
theorem half_step (s d : List Int) (i : Nat) (hl : s.length = d.length) (h : i < s.length) : (mix (s.take i) (d.take i) ++ s.drop i).set i (xr (rd (mix (s.take i) (d.take i) ++ s.drop i) (i : Int)) (rd d (i : Int))) = mix (s.take (i + 1)) (d.take (i + 1)) ++ s.drop (i + 1) := by
  have hlen : (mix (s.take i) (d.take i)).length = i := by rw [mix_length _ _ (by simp; omega)]; simp; omega
  have e1 : rd (mix (s.take i) (d.take i) ++ s.drop i) (i : Int) = s[i] := by
    rw [rd_app_right _ _ _ (by omega), hlen, show ((i : Int) - (i : Int)) = ((0 : Nat) : Int) by omega, rd_get _ 0 (by simp; omega)]
    simp
  rw [e1, rd_get d i (by omega)]
  apply List.ext_getElem
  · rw [List.length_set, List.length_append, List.length_append, hlen, mix_length _ _ (by simp; omega)]
    simp; omega
  · intro j hj1 hj2
    have hlen2 : (mix (s.take (i + 1)) (d.take (i + 1))).length = i + 1 := by rw [mix_length _ _ (by simp; omega)]; simp; omega
    rw [List.getElem_set]
    by_cases e : i = j
    · subst e
      rw [if_pos rfl, List.getElem_append_left (by omega), mix_get _ _ _ (by simp; omega) (by simp; omega)]
      simp
    · rw [if_neg e]
      by_cases hlt : j < i
      · rw [List.getElem_append_left (by omega), List.getElem_append_left (by omega), mix_get _ _ _ (by simp; omega) (by simp; omega), mix_get _ _ _ (by simp; omega) (by simp; omega)]
        simp
      · rw [List.getElem_append_right (by omega), List.getElem_append_right (by omega)]
        simp only [List.getElem_drop, hlen, hlen2]
        congr 1
        omega
theorem turned_loop (s d : List Int) (hl : s.length = d.length) (hs : s.length ≤ 100000) (n : Nat) : ∀ i : Nat, i + n = s.length → Ev (fun k => impl_turned.l0 k (mix (s.take i) (d.take i) ++ s.drop i) d (d.length : Int) (i : Int)) (mix s d) := by
  induction n with
  | zero =>
    intro i hi
    refine Ev.step (f := fun _ => some (mix s d)) (fun k => ?_) (Ev.now _)
    simp only [impl_turned.l0]
    rw [if_neg (by omega), List.take_of_length_le (by omega), List.take_of_length_le (by omega), List.drop_eq_nil_of_le (by omega), List.append_nil]
  | succ n ih =>
    intro i hi
    have e := ih (i + 1) (by omega)
    rw [← half_step s d i hl (by omega)] at e
    refine Ev.step (fun k => ?_) e
    simp only [impl_turned.l0]
    have hlen : (mix (s.take i) (d.take i) ++ s.drop i).length = s.length := by rw [List.length_append, mix_length _ _ (by simp; omega)]; simp; omega
    rw [if_pos (by omega), if_pos (by omega), if_pos (by omega), if_pos (by omega), wrap_id (x := (i : Int) + 1) (by omega) (by omega), Int.toNat_natCast]
    rfl
theorem turned_ev {key seq : Int} (hk : 0 ≤ key ∧ key ≤ 4294967295) (hs : 0 ≤ seq ∧ seq ≤ 1099511627776) (d : List Int) (hd : d.length ≤ 100000) : Ev (fun k => impl_turned.f k key seq d) (mix (strm (x0 key seq) d.length) d) := by
  unfold impl_turned.f
  refine Ev.bind (stream_ev hk hs d.length hd) ?_
  have hl := strm_length d.length (x0 key seq)
  have := turned_loop (strm (x0 key seq) d.length) d hl (by omega) d.length 0 (by omega)
  simpa [mix] using this
theorem specMix_loop (s d : List Int) (hl : s.length = d.length) (hs : s.length ≤ 100000) (n : Nat) : ∀ i : Nat, i + n = s.length → Ev (fun k => spec_l14Mix.l0 k d (mix (s.take i) (d.take i) ++ s.drop i) (i : Int)) (mix s d) := by
  induction n with
  | zero =>
    intro i hi
    have hlen : (mix (s.take i) (d.take i) ++ s.drop i).length = s.length := by rw [List.length_append, mix_length _ _ (by simp; omega)]; simp; omega
    refine Ev.step (f := fun _ => some (mix s d)) (fun k => ?_) (Ev.now _)
    simp only [spec_l14Mix.l0]
    rw [if_neg (by omega), List.take_of_length_le (by omega), List.take_of_length_le (by omega), List.drop_eq_nil_of_le (by omega), List.append_nil]
  | succ n ih =>
    intro i hi
    have e := ih (i + 1) (by omega)
    rw [← half_step s d i hl (by omega)] at e
    refine Ev.step (fun k => ?_) e
    simp only [spec_l14Mix.l0]
    have hlen : (mix (s.take i) (d.take i) ++ s.drop i).length = s.length := by rw [List.length_append, mix_length _ _ (by simp; omega)]; simp; omega
    rw [if_pos (by omega), if_pos (by omega), if_pos (by omega), wrap_id (x := (i : Int) + 1) (by omega) (by omega), Int.toNat_natCast]
    rfl
theorem specMix_ev {key seq : Int} (hk : 0 ≤ key ∧ key ≤ 4294967295) (hs : 0 ≤ seq ∧ seq ≤ 1099511627776) (d : List Int) (hd : d.length ≤ 100000) : Ev (fun k => spec_l14Mix.f k key seq d) (mix (strm (x0 key seq) d.length) d) := by
  unfold spec_l14Mix.f
  refine Ev.bind (specStream_ev hk hs d.length hd) ?_
  have hl := strm_length d.length (x0 key seq)
  have := specMix_loop (strm (x0 key seq) d.length) d hl (by omega) d.length 0 (by omega)
  simpa [mix] using this
def tg : Int → List Int → Int
  | h, [] => h
  | h, b :: l => tg ((h * 263 + b + 1) % 1000003) l
def h0 (key seq : Int) : Int := (key * 17 + seq * 3 + 5) % 1000003
theorem h0_eq {key seq : Int} (hk : 0 ≤ key ∧ key ≤ 4294967295) (hs : 0 ≤ seq ∧ seq ≤ 1099511627776) : Int.tmod (wrap64 ((wrap64 ((wrap64 (key * 17)) + (wrap64 (seq * 3)))) + 5)) 1000003 = h0 key seq := by
  rw [wrap_id (x := key * 17) (by omega) (by omega), wrap_id (x := seq * 3) (by omega) (by omega), wrap_id (x := key * 17 + seq * 3) (by omega) (by omega), wrap_id (x := key * 17 + seq * 3 + 5) (by omega) (by omega), Int.tmod_eq_emod_of_nonneg (by omega)]
  rfl
theorem h0_range (key seq : Int) : 0 ≤ h0 key seq ∧ h0 key seq < 1000003 := by unfold h0; omega
theorem tag_loop (d : List Int) (hb : Bytes d) (hd : d.length ≤ 100000) (n : Nat) : ∀ (h : Int) (i : Nat), i + n = d.length → 0 ≤ h → h < 1000003 → Ev (fun k => impl_tag.l0 k h d (d.length : Int) (i : Int)) (tg h (d.drop i)) := by
  induction n with
  | zero =>
    intro h i hi _ _
    refine Ev.step (f := fun _ => some (tg h (d.drop i))) (fun k => ?_) (Ev.now _)
    simp only [impl_tag.l0]
    rw [if_neg (by omega), List.drop_eq_nil_of_le (by omega)]
    rfl
  | succ n ih =>
    intro h i hi a b
    have hlt : i < d.length := by omega
    have hbi := hb d[i] (List.getElem_mem hlt)
    rw [List.drop_eq_getElem_cons hlt]
    have e := ih ((h * 263 + d[i] + 1) % 1000003) (i + 1) (by omega) (by omega) (by omega)
    refine Ev.step (fun k => ?_) e
    simp only [impl_tag.l0]
    rw [if_pos (by omega), if_pos (by omega), if_pos (by omega), rd_get d i hlt, wrap_id (x := d[i]) (by omega) (by omega), wrap_id (x := h * 263) (by omega) (by omega), wrap_id (x := h * 263 + d[i]) (by omega) (by omega), wrap_id (x := h * 263 + d[i] + 1) (by omega) (by omega), Int.tmod_eq_emod_of_nonneg (by omega), wrap_id (x := (i : Int) + 1) (by omega) (by omega)]
    rfl
theorem tag_ev {key seq : Int} (hk : 0 ≤ key ∧ key ≤ 4294967295) (hs : 0 ≤ seq ∧ seq ≤ 1099511627776) (d : List Int) (hb : Bytes d) (hd : d.length ≤ 100000) : Ev (fun k => impl_tag.f k key seq d) (tg (h0 key seq) d) := by
  unfold impl_tag.f
  rw [h0_eq hk hs]
  have := tag_loop d hb hd d.length (h0 key seq) 0 (by omega) (h0_range _ _).1 (h0_range _ _).2
  simpa using this
theorem specTag_loop (d : List Int) (hb : Bytes d) (hd : d.length ≤ 100000) (n : Nat) : ∀ (h : Int) (i : Nat), i + n = d.length → 0 ≤ h → h < 1000003 → Ev (fun k => spec_l14Tag.l0 k d h (i : Int)) (tg h (d.drop i)) := by
  induction n with
  | zero =>
    intro h i hi _ _
    refine Ev.step (f := fun _ => some (tg h (d.drop i))) (fun k => ?_) (Ev.now _)
    simp only [spec_l14Tag.l0]
    rw [if_neg (by omega), List.drop_eq_nil_of_le (by omega)]
    rfl
  | succ n ih =>
    intro h i hi a b
    have hlt : i < d.length := by omega
    have hbi := hb d[i] (List.getElem_mem hlt)
    rw [List.drop_eq_getElem_cons hlt]
    have e := ih ((h * 263 + d[i] + 1) % 1000003) (i + 1) (by omega) (by omega) (by omega)
    refine Ev.step (fun k => ?_) e
    simp only [spec_l14Tag.l0]
    rw [if_pos (by omega), if_pos (by omega), rd_get d i hlt, wrap_id (x := d[i]) (by omega) (by omega), wrap_id (x := h * 263) (by omega) (by omega), wrap_id (x := h * 263 + d[i]) (by omega) (by omega), wrap_id (x := h * 263 + d[i] + 1) (by omega) (by omega), Int.tmod_eq_emod_of_nonneg (by omega), wrap_id (x := (i : Int) + 1) (by omega) (by omega)]
    rfl
theorem specTag_ev {key seq : Int} (hk : 0 ≤ key ∧ key ≤ 4294967295) (hs : 0 ≤ seq ∧ seq ≤ 1099511627776) (d : List Int) (hb : Bytes d) (hd : d.length ≤ 100000) : Ev (fun k => spec_l14Tag.f k key seq d) (tg (h0 key seq) d) := by
  unfold spec_l14Tag.f
  rw [h0_eq hk hs]
  have := specTag_loop d hb hd d.length (h0 key seq) 0 (by omega) (h0_range _ _).1 (h0_range _ _).2
  simpa using this
/-- The number of some bytes. -/
def num : Int → List Int → Int
  | x, [] => x
  | x, b :: l => num (x * 256 + b) l
theorem or_byte {x b : Int} (h0 : 0 ≤ x) (h1 : x ≤ 1000000000000) (hb : IsByte b) : Go.bits .or .i64 (x * 256) b = x * 256 + b := by
  have := hb.1; have := hb.2
  exact bits_join .i64 60 (by decide) (fun n a c => by rw [IntKind.wrap_i64]; omega) 8 (x * 256) b (by omega) (by omega) (by omega) (by omega) (by omega) (by omega)
theorem take_loop (l : List Int) (hb : Bytes l) (hl : l.length ≤ 5) (n : Nat) : ∀ (x : Int) (i : Nat), i + n = l.length → 0 ≤ x → (i = 0 → x = 0) → (i = 1 → x < 256) → (i = 2 → x < 65536) → (i = 3 → x < 16777216) → (i = 4 → x < 4294967296) → Ev (fun k => impl_take.l0 k x l (l.length : Int) (i : Int)) (num x (l.drop i)) := by
  induction n with
  | zero =>
    intro x i hi _ _ _ _ _ _
    refine Ev.step (f := fun _ => some (num x (l.drop i))) (fun k => ?_) (Ev.now _)
    simp only [impl_take.l0]
    rw [if_neg (by omega), List.drop_eq_nil_of_le (by omega)]
    rfl
  | succ n ih =>
    intro x i hi h0 a0 a1 a2 a3 a4
    have hlt : i < l.length := by omega
    have hbi := hb l[i] (List.getElem_mem hlt)
    have hx : x ≤ 4294967296 := by
      have : i = 0 ∨ i = 1 ∨ i = 2 ∨ i = 3 ∨ i = 4 := by omega
      rcases this with h | h | h | h | h
      · have := a0 h; omega
      · have := a1 h; omega
      · have := a2 h; omega
      · have := a3 h; omega
      · have := a4 h; omega
    rw [List.drop_eq_getElem_cons hlt]
    have e := ih (x * 256 + l[i]) (i + 1) (by omega) (by omega) (by omega) (fun h => by have := a0 (by omega); omega) (fun h => by have := a1 (by omega); omega) (fun h => by have := a2 (by omega); omega) (fun h => by have := a3 (by omega); omega)
    refine Ev.step (fun k => ?_) e
    simp only [impl_take.l0]
    rw [if_pos (by omega), if_pos (by omega), if_pos (by omega), rd_get l i hlt, wrap_id (x := l[i]) (by omega) (by omega), wrap_id (x := x * 256) (by omega) (by omega), or_byte h0 (by omega) hbi, wrap_id (x := (i : Int) + 1) (by omega) (by omega)]
    rfl
theorem take_ev (l : List Int) (hb : Bytes l) (hl : l.length ≤ 5) : Ev (fun k => impl_take.f k l) (num 0 l) := by
  unfold impl_take.f
  have := take_loop l hb hl l.length 0 0 (by omega) (by omega) (by omega) (by omega) (by omega) (by omega) (by omega)
  simpa using this
def Key (key : Int) : Prop := 0 ≤ key ∧ key ≤ 4294967295
def Seq (seq : Int) : Prop := 0 ≤ seq ∧ seq ≤ 1099511627776
instance (key : Int) : Decidable (Key key) := inferInstanceAs (Decidable (_ ∧ _))
instance (seq : Int) : Decidable (Seq seq) := inferInstanceAs (Decidable (_ ∧ _))
theorem keyed_eq (key seq : Int) : impl_keyed.f key seq = some (decide (Key key ∧ Seq seq)) := by
  unfold impl_keyed.f impl_isKey.f
  simp only [in_eq, Option.bind_some]
  have e : decide (Key key ∧ Seq seq) = (decide (0 ≤ key ∧ key ≤ 4294967295) && decide (0 ≤ seq ∧ seq ≤ 1099511627776)) := by
    rw [← Bool.decide_and]
    rfl
  rw [e]
  by_cases hk : 0 ≤ key ∧ key ≤ 4294967295
  · rw [decide_eq_true hk, if_pos rfl, Bool.true_and]
  · rw [decide_eq_false hk, if_neg (by decide), Bool.false_and]
theorem asked_eq (key seq : Int) : spec_l14Asked.f key seq = some (if Key key ∧ Seq seq then 0 else 3) := by
  unfold spec_l14Asked.f
  simp only [l1In_eq, Option.bind_some]
  by_cases hk : 0 ≤ key ∧ key ≤ 4294967295
  · rw [decide_eq_true hk, if_pos rfl]
    by_cases hs : 0 ≤ seq ∧ seq ≤ 1099511627776
    · rw [decide_eq_true hs, if_pos rfl, if_pos ⟨hk, hs⟩]
    · rw [decide_eq_false hs, if_neg (by decide), if_neg (fun h => hs h.2)]
  · rw [decide_eq_false hk, if_neg (by decide), if_neg (fun h => hk h.1)]
/-- Bytes and their stream; and with their tag behind them. -/
def body (key seq : Int) (d : List Int) : List Int := mix (strm (x0 key seq) d.length) d
theorem body_length (key seq : Int) (d : List Int) : (body key seq d).length = d.length := by
  unfold body
  rw [mix_length _ _ (strm_length _ _), strm_length]
theorem body_bytes (key seq : Int) {d : List Int} (h : Bytes d) : Bytes (body key seq d) := mix_bytes _ _ (strm_bytes _ _) h
/-- What OpenBytes answers, at a right key and number, of bytes that are neither too few nor too many. -/
def opened (key seq : Int) (a b : List Int) : Int × List Int := if num 0 b = tg (h0 key seq) a then (0, body key seq a) else (6, [])
theorem Open_bad (key seq : Int) (d : List Int) (hl : d.length ≤ 100000) (h : ¬ (Key key ∧ Seq seq)) : Ev (fun k => impl_OpenBytes.f k key seq d) (3, []) := by
  unfold impl_OpenBytes.f
  simp only [keyed_eq, Option.bind_some, decide_eq_false h, Bool.false_eq_true, if_false]
  exact Ev.now _
theorem Open_text (key seq : Int) (d : List Int) (h : Key key ∧ Seq seq) (hl : d.length ≤ 100000) (hn : (d.length : Int) < 4 ∨ (d.length : Int) > 484) : Ev (fun k => impl_OpenBytes.f k key seq d) (5, []) := by
  unfold impl_OpenBytes.f
  simp only [keyed_eq, Option.bind_some, decide_eq_true h, if_true, in_eq]
  rw [wrap_id (x := (d.length : Int) - 4) (by omega) (by omega)]
  simp only [decide_eq_false (show ¬ (0 ≤ (d.length : Int) - 4 ∧ (d.length : Int) - 4 ≤ 480) by omega), Bool.false_eq_true, if_false]
  exact Ev.now _
theorem Open_ev (key seq : Int) (a b : List Int) (h : Key key ∧ Seq seq) (ha : Bytes a) (hb : Bytes b) (hl : a.length ≤ 480) (h4 : b.length = 4) : Ev (fun k => impl_OpenBytes.f k key seq (a ++ b)) (opened key seq a b) := by
  unfold impl_OpenBytes.f
  have hlen : ((a ++ b).length : Int) = a.length + 4 := by simp [h4]
  have hw : wrap64 ((((a ++ b).length : Nat) : Int) - 4) = a.length := by rw [hlen, wrap_id (by omega) (by omega)]; omega
  simp only [keyed_eq, Option.bind_some, decide_eq_true h, if_true, in_eq, hw, decide_eq_true (show 0 ≤ (a.length : Int) ∧ (a.length : Int) ≤ 480 by omega), if_pos (show 0 ≤ (a.length : Int) by omega), if_pos (show (a.length : Int) ≤ ((a ++ b).length : Int) by omega), Int.toNat_natCast, List.drop_left, List.take_left]
  refine Ev.bind (take_ev b hb (by omega)) ?_
  refine Ev.bind (tag_ev h.1 h.2 a ha (by omega)) ?_
  unfold opened
  by_cases e : num 0 b = tg (h0 key seq) a
  · simp only [if_pos e]
    exact Ev.bind (turned_ev h.1 h.2 a (by omega)) (Ev.now _)
  · simp only [if_neg e]
    exact Ev.now _
theorem copy_step (l : List Int) (i : Nat) (h : i < l.length) : (l.take i ++ List.replicate (l.length - i) 0).set i (rd l (i : Int)) = l.take (i + 1) ++ List.replicate (l.length - (i + 1)) 0 := by
  rw [rd_get l i h]
  have e : List.replicate (l.length - i) (0 : Int) = 0 :: List.replicate (l.length - (i + 1)) 0 := by
    rw [show l.length - i = (l.length - (i + 1)) + 1 by omega, List.replicate_succ]
  have hlen : (l.take i).length = i := by simp; omega
  rw [e, List.set_append_right _ _ (by omega), hlen, Nat.sub_self, List.set_cons_zero, List.take_succ_eq_append_getElem h, List.append_assoc]
  rfl
theorem copy_loop (l : List Int) (hl : l.length ≤ 2000000) (n : Nat) : ∀ i : Nat, i + n = l.length → Ev (fun k => laws_toByteS.l0 k l (l.take i ++ List.replicate (l.length - i) 0) (i : Int)) l := by
  induction n with
  | zero =>
    intro i hi
    refine Ev.step (f := fun _ => some l) (fun k => ?_) (Ev.now _)
    simp only [laws_toByteS.l0]
    rw [if_neg (by omega), show l.length - i = 0 by omega, List.take_of_length_le (by omega)]
    simp
  | succ n ih =>
    intro i hi
    have e := ih (i + 1) (by omega)
    rw [← copy_step l i (by omega)] at e
    refine Ev.step (fun k => ?_) e
    simp only [laws_toByteS.l0]
    rw [if_pos (by omega), if_pos (by omega), if_pos (by simp; omega), wrap_id (x := (i : Int) + 1) (by omega) (by omega), Int.toNat_natCast]
    rfl
theorem copy_ev (l : List Int) (hl : l.length ≤ 2000000) : Ev (fun k => laws_toByteS.f k l) l := by
  have := copy_loop l hl l.length 0 (by omega)
  refine Ev.congr (fun k => ?_) this
  unfold laws_toByteS.f
  rw [if_pos (by omega), if_pos (by omega), Int.toNat_natCast]
  simp
theorem same_loop (a b : List Int) (hl : a.length = b.length) (ha : a.length ≤ 100000000) (d : Nat) : ∀ i : Nat, i + d = a.length → Ev (fun k => laws_eqByteS.l0 k a b (i : Int)) (decide (a.drop i = b.drop i)) := by
  induction d with
  | zero =>
    intro i hi
    have h1 : a.drop i = [] := List.drop_eq_nil_of_le (by omega)
    have h2 : b.drop i = [] := List.drop_eq_nil_of_le (by omega)
    rw [h1, h2]
    refine Ev.step (f := fun _ => some true) (fun k => ?_) (Ev.now _)
    simp only [laws_eqByteS.l0]
    rw [if_neg (by omega)]
  | succ d ih =>
    intro i hi
    have hia : i < a.length := by omega
    have hib : i < b.length := by omega
    rw [List.drop_eq_getElem_cons hia, List.drop_eq_getElem_cons hib]
    by_cases he : a[i] = b[i]
    · have hd : decide (a[i] :: a.drop (i + 1) = b[i] :: b.drop (i + 1)) = decide (a.drop (i + 1) = b.drop (i + 1)) := by
        simp only [List.cons.injEq, he, true_and]
      rw [hd]
      refine Ev.step (f := fun k => laws_eqByteS.l0 k a b ((i + 1 : Nat) : Int)) (fun k => ?_) (ih (i + 1) (by omega))
      simp only [laws_eqByteS.l0]
      rw [if_pos (by omega), if_pos (by omega), if_pos (by omega), rd_get a i hia, rd_get b i hib, if_pos he, wrap_id (by omega) (by omega)]
      rfl
    · have hd : decide (a[i] :: a.drop (i + 1) = b[i] :: b.drop (i + 1)) = false := by simp only [List.cons.injEq, he, false_and, decide_false]
      rw [hd]
      refine Ev.step (f := fun _ => some false) (fun k => ?_) (Ev.now _)
      simp only [laws_eqByteS.l0]
      rw [if_pos (by omega), if_pos (by omega), if_pos (by omega), rd_get a i hia, rd_get b i hib, if_neg he]
theorem same_ev (a : List Int) (ha : a.length ≤ 100000000) : Ev (fun k => laws_eqByteS.f k a a) true := by
  unfold laws_eqByteS.f
  simp only [if_true]
  have := same_loop a a rfl ha a.length 0 (by omega)
  simpa using this
/-- So many bytes, from k on. -/
def marks (k : Int) : Nat → List Int
  | 0 => []
  | n + 1 => k % 256 :: marks (k + 1) n
theorem mark_loop (n : Nat) : ∀ (a b : List Int) (k : Int), b.length = n → a.length + n ≤ 100000000 → 0 ≤ k → k + n ≤ 1000000000 → Ev (fun q => laws_markByteS.l0 q (a ++ b) k (a.length : Int)) (k + n, a ++ marks k n) := by
  induction n with
  | zero =>
    intro a b k hb ha h0 h1
    have : b = [] := List.length_eq_zero_iff.1 hb
    subst this
    refine Ev.step (f := fun _ => some (k + 0, a ++ marks k 0)) (fun q => ?_) (by simpa using Ev.now _)
    simp only [laws_markByteS.l0]
    rw [if_neg (by simp)]
    simp [marks]
  | succ n ih =>
    intro a b k hb ha h0 h1
    match b, hb with
    | x :: b, hb =>
      have e := ih (a ++ [k % 256]) b (k + 1) (by simpa using hb) (by simp; omega) (by omega) (by omega)
      have e1 : (a ++ [k % 256]) ++ b = (a ++ x :: b).set a.length (k % 256) := by simp
      have e2 : (k + 1 + (n : Int), (a ++ [k % 256]) ++ marks (k + 1) n) = (k + ((n + 1 : Nat) : Int), a ++ marks k (n + 1)) := by
        simp [marks]; omega
      have e3 : (((a ++ [k % 256]).length : Nat) : Int) = (a.length : Int) + 1 := by simp
      rw [e1, e2, e3] at e
      refine Ev.step (fun q => ?_) e
      simp only [laws_markByteS.l0]
      rw [if_pos (by simp; omega), if_pos (by omega), Int.toNat_natCast, wrap_id (x := k + 1) (by omega) (by omega), wrap_id (x := (a.length : Int) + 1) (by omega) (by omega)]
theorem mark_ev (l : List Int) (k : Int) (hl : l.length ≤ 100000000) (h0 : 0 ≤ k) (h1 : k + l.length ≤ 1000000000) : Ev (fun q => laws_markByteS.f q l k) (k + l.length, marks k l.length) := by
  have := mark_loop l.length [] l k rfl (by simpa using hl) h0 h1
  simpa [laws_markByteS.f] using this
theorem held_loop (n : Nat) : ∀ (a : List Int) (k : Int), a.length + n ≤ 100000000 → 0 ≤ k → k + n ≤ 1000000000 → Ev (fun q => laws_heldByteS.l0 q (a ++ marks k n) k (a.length : Int)) (k + n) := by
  induction n with
  | zero =>
    intro a k ha h0 h1
    refine Ev.step (f := fun _ => some (k + 0)) (fun q => ?_) (by simpa using Ev.now _)
    simp only [laws_heldByteS.l0]
    rw [if_neg (by simp [marks])]
    simp
  | succ n ih =>
    intro a k ha h0 h1
    have e := ih (a ++ [k % 256]) (k + 1) (by simp; omega) (by omega) (by omega)
    have e1 : (a ++ [k % 256]) ++ marks (k + 1) n = a ++ marks k (n + 1) := by simp [marks]
    have e2 : k + 1 + (n : Int) = k + ((n + 1 : Nat) : Int) := by omega
    have e3 : (((a ++ [k % 256]).length : Nat) : Int) = (a.length : Int) + 1 := by simp
    rw [e1, e2, e3] at e
    refine Ev.step (fun q => ?_) e
    simp only [laws_heldByteS.l0]
    have hr : rd (a ++ marks k (n + 1)) (a.length : Int) = k % 256 := by
      rw [rd_app_right _ _ _ (by omega), Int.sub_self]
      simp [marks, rd]
    rw [if_pos (by simp [marks]; omega), if_pos (by omega), hr, if_pos rfl, wrap_id (x := k + 1) (by omega) (by omega), wrap_id (x := (a.length : Int) + 1) (by omega) (by omega)]
theorem held_ev (n : Nat) (k : Int) (hn : n ≤ 100000000) (h0 : 0 ≤ k) (h1 : k + n ≤ 1000000000) : Ev (fun q => laws_heldByteS.f q (marks k n) k) (k + n) := by
  have := held_loop n [] k (by simpa using hn) h0 h1
  simpa [laws_heldByteS.f] using this
def RightWrap (spi key seq : Int) : Prop := (1 ≤ spi ∧ spi ≤ 4294967295) ∧ (0 ≤ key ∧ key ≤ 4294967295) ∧ (1 ≤ seq ∧ seq ≤ 1099511627776)
instance (spi key seq : Int) : Decidable (RightWrap spi key seq) := inferInstanceAs (Decidable (_ ∧ _ ∧ _))
/-- One of two, by what is so. -/
noncomputable def sel {α : Type} (p : Prop) (a b : α) : α := @ite α p (Classical.propDecidable p) a b
theorem sel_pos {α : Type} {p : Prop} (h : p) (a b : α) : sel p a b = a := if_pos h
theorem sel_neg {α : Type} {p : Prop} (h : ¬ p) (a b : α) : sel p a b = b := if_neg h
theorem sel_iff {α : Type} {p q : Prop} (h : p ↔ q) (a b : α) : sel p a b = sel q a b := by rw [propext h]
theorem need_only {n s m : Int} (h0 : 1 ≤ s) (h1 : s ≤ 16) (hn : 0 ≤ n) (hm : 0 ≤ m) (hlt : m < s) (h : (n + m + 2) % s = 0) : need n s = m := by
  unfold need
  rcases cases16 h0 h1 with rfl | rfl | rfl | rfl | rfl | rfl | rfl | rfl | rfl | rfl | rfl | rfl | rfl | rfl | rfl | rfl <;> omega
def manyOf (d : List Int) : Int := rd d ((d.length : Int) - 2)
def nextOf (d : List Int) : Int := rd d ((d.length : Int) - 1)
def ownOf (d : List Int) : List Int := d.take ((d.length : Int) - 2 - manyOf d).toNat
/-- What UnpadBytes takes. -/
def Good (d : List Int) : Prop := 2 ≤ d.length ∧ manyOf d ≤ (d.length : Int) - 2 ∧ (ownOf d).length ≤ 400 ∧ ∃ s : Int, 1 ≤ s ∧ s ≤ 16 ∧ padded (ownOf d) s (nextOf d) = d
noncomputable def unpadOf (d : List Int) : Int × List Int × Int × Int := if d.length > 418 then (2, [], 0, 0) else sel (Good d) (0, ownOf d, nextOf d, manyOf d) (5, [], 0, 0)
theorem many_byte {d : List Int} (hb : Bytes d) (h : 2 ≤ d.length) : 0 ≤ manyOf d ∧ manyOf d ≤ 255 := rd_byte hb (by omega) (by omega)
theorem next_byte {d : List Int} (hb : Bytes d) (h : 2 ≤ d.length) : 0 ≤ nextOf d ∧ nextOf d ≤ 255 := rd_byte hb (by omega) (by omega)
theorem own_length {d : List Int} (hb : Bytes d) (h : 2 ≤ d.length) (hm : manyOf d ≤ (d.length : Int) - 2) : ((ownOf d).length : Int) = (d.length : Int) - 2 - manyOf d := by
  have := (many_byte hb h).1
  unfold ownOf
  rw [List.length_take]
  omega
theorem unpad_any (d : List Int) (hb : Bytes d) (hl : d.length ≤ 418) (h2 : 2 ≤ d.length) (hm : manyOf d ≤ (d.length : Int) - 2) (n : Nat) : ∀ q : Int, 1 ≤ q → q + n = 17 →
    Ev (fun k => impl_UnpadBytes.l0 k d (manyOf d) (nextOf d) (ownOf d) q) (sel ((ownOf d).length ≤ 400 ∧ ∃ s : Int, q ≤ s ∧ s ≤ 16 ∧ padded (ownOf d) s (nextOf d) = d) (0, ownOf d, nextOf d, manyOf d) (5, [], 0, 0)) := by
  have hn := next_byte hb h2
  induction n with
  | zero =>
    intro q hq hn
    rw [sel_neg (fun ⟨_, s, a, b, _⟩ => by omega)]
    refine Ev.step (f := fun _ => some (5, [], 0, 0)) (fun k => ?_) (Ev.now _)
    simp only [impl_UnpadBytes.l0]
    rw [if_neg (by omega)]
  | succ n ih =>
    intro q hq hn'
    have e := ih (q + 1) (by omega) (by omega)
    by_cases hs : (ownOf d).length ≤ 400
    · have e1 := pad_ev (ownOf d) q (nextOf d) hq (by omega) (by omega)
      have e2 := equal_ev (padded (ownOf d) q (nextOf d)) d (by have := padded_small (ownOf d) q (nextOf d) hq (by omega); omega)
      refine Ev.step (f := fun k => (impl_pad.f k (ownOf d) q (nextOf d)).bind fun t => (slices_Equal_byte_byte.f k t d).bind fun u => if u = true then (slices_Clone_byte_byte.f (ownOf d)).bind fun z => some (0, z, wrap64 (nextOf d), manyOf d) else impl_UnpadBytes.l0 k d (manyOf d) (nextOf d) (ownOf d) (wrap64 (q + 1))) (fun k => ?_) ?_
      · simp only [impl_UnpadBytes.l0]
        rw [if_pos (by omega), if_pos (by omega)]
      · refine Ev.bind e1 (Ev.bind e2 ?_)
        by_cases hp : padded (ownOf d) q (nextOf d) = d
        · rw [sel_pos ⟨hs, q, Int.le_refl _, by omega, hp⟩]
          simp only [hp, decide_true, if_true]
          rw [clone_eq (ownOf d) (by omega), wrap_id (by omega) (by omega)]
          exact Ev.now _
        · simp only [hp, decide_false, Bool.false_eq_true, if_false]
          rw [wrap_id (x := q + 1) (by omega) (by omega)]
          have hiff : ((ownOf d).length ≤ 400 ∧ ∃ s : Int, q ≤ s ∧ s ≤ 16 ∧ padded (ownOf d) s (nextOf d) = d) ↔ ((ownOf d).length ≤ 400 ∧ ∃ s : Int, q + 1 ≤ s ∧ s ≤ 16 ∧ padded (ownOf d) s (nextOf d) = d) := by
            constructor
            · rintro ⟨a, s, b, c, e⟩
              refine ⟨a, s, ?_, c, e⟩
              rcases Int.lt_or_eq_of_le b with b | b
              · omega
              · subst b; exact absurd e hp
            · rintro ⟨a, s, b, c, e⟩
              exact ⟨a, s, by omega, c, e⟩
          rw [sel_iff hiff]
          exact e
    · rw [sel_neg (fun h => hs h.1)] at e ⊢
      refine Ev.step (fun k => ?_) e
      simp only [impl_UnpadBytes.l0]
      rw [if_pos (by omega), if_neg (by omega), wrap_id (x := q + 1) (by omega) (by omega)]
theorem unpad_impl (d : List Int) (hb : Bytes d) (hlen : d.length ≤ 10000000) : Ev (fun k => impl_UnpadBytes.f k d) (unpadOf d) := by
  unfold unpadOf
  by_cases hl : d.length > 418
  · rw [if_pos hl]
    refine Ev.congr (f := fun _ => some (2, [], 0, 0)) (fun k => ?_) (Ev.now _)
    unfold impl_UnpadBytes.f
    rw [if_pos (by omega)]
  · rw [if_neg hl]
    have hN : wrap64 ((d.length : Int) - 2) = (d.length : Int) - 2 := wrap_id (by omega) (by omega)
    by_cases h2 : 2 ≤ d.length
    · have hm := many_byte hb h2
      have hn := next_byte hb h2
      have hmr : wrap64 (manyOf d) = manyOf d := wrap_id (by omega) (by omega)
      refine Ev.congr (f := fun k => impl_UnpadBytes.j0 k d ((d.length : Int) - 2) (decide (manyOf d > (d.length : Int) - 2))) (fun k => by
        unfold impl_UnpadBytes.f
        rw [if_neg (by omega), hN, if_neg (by omega), if_pos (by omega), if_pos (by omega)]
        show impl_UnpadBytes.j0 k d _ (decide (wrap64 (manyOf d) > _)) = _
        rw [hmr]) ?_
      by_cases hle : manyOf d ≤ (d.length : Int) - 2
      · have e := unpad_any d hb (by omega) h2 hle 16 1 (by omega) (by omega)
        have hiff : Good d ↔ ((ownOf d).length ≤ 400 ∧ ∃ s : Int, 1 ≤ s ∧ s ≤ 16 ∧ padded (ownOf d) s (nextOf d) = d) := ⟨fun h => h.2.2, fun h => ⟨h2, hle, h⟩⟩
        rw [sel_iff hiff]
        refine Ev.step (fun k => ?_) e
        simp only [impl_UnpadBytes.j0]
        rw [if_neg (by simp only [decide_eq_true_eq]; omega), if_pos (by omega), if_pos (by omega), wrap_id (x := (d.length : Int) - 2 + 1) (by omega) (by omega), if_pos (by omega), if_pos (by omega)]
        have e1 : (d.length : Int) - 2 + 1 = (d.length : Int) - 1 := by omega
        rw [e1]
        show (if 0 ≤ wrap64 ((d.length : Int) - 2 - wrap64 (manyOf d)) then if wrap64 ((d.length : Int) - 2 - wrap64 (manyOf d)) ≤ (d.length : Int) then impl_UnpadBytes.l0 k d (wrap64 (manyOf d)) (nextOf d) (d.take (wrap64 ((d.length : Int) - 2 - wrap64 (manyOf d))).toNat) 1 else none else none) = _
        rw [hmr, wrap_id (x := (d.length : Int) - 2 - manyOf d) (by omega) (by omega), if_pos (by omega), if_pos (by omega)]
        rfl
      · rw [sel_neg (fun h => hle h.2.1)]
        refine Ev.step (f := fun _ => some (5, [], 0, 0)) (fun k => ?_) (Ev.now _)
        simp only [impl_UnpadBytes.j0]
        rw [if_pos (by simp only [decide_eq_true_eq]; omega)]
    · rw [sel_neg (fun h => h2 h.1)]
      refine Ev.congr (f := fun k => impl_UnpadBytes.j0 k d ((d.length : Int) - 2) true) (fun k => by
        unfold impl_UnpadBytes.f
        rw [if_neg (by omega), hN, if_pos (by omega)]) ?_
      refine Ev.step (f := fun _ => some (5, [], 0, 0)) (fun k => ?_) (Ev.now _)
      simp only [impl_UnpadBytes.j0, if_true]
def Rises (d : List Int) : Prop := ∀ j : Int, 1 ≤ j → j ≤ manyOf d → rd d ((d.length : Int) - 2 - manyOf d + j - 1) = j
def Fits (d : List Int) : Prop := ∃ s : Int, 1 ≤ s ∧ s ≤ 16 ∧ (d.length : Int) % s = 0 ∧ manyOf d < s
theorem rd_pad_mid (l : List Int) (s nx : Int) (h0 : 1 ≤ s) (j : Int) (h1 : (l.length : Int) ≤ j) (h2 : j < l.length + need l.length s) : rd (padded l s nx) j = j - l.length + 1 := by
  have hr := (need_range (n := l.length) h0).1
  unfold padded
  rw [List.append_assoc, rd_app_right _ _ _ h1]
  obtain ⟨i, hi⟩ := Int.eq_ofNat_of_zero_le (show 0 ≤ j - l.length by omega)
  rw [hi, rd_app_left _ _ _ (by rw [ups_length]; omega), rd_get _ _ (by rw [ups_length]; omega)]
  simp [ups]
theorem rd_pad_many (l : List Int) (s nx : Int) (h0 : 1 ≤ s) : rd (padded l s nx) (l.length + need l.length s) = need l.length s := by
  have hr := (need_range (n := l.length) h0).1
  have hb : ((l ++ ups (need l.length s).toNat).length : Int) = l.length + need l.length s := by simp [ups_length]; omega
  unfold padded
  rw [rd_app_right _ _ _ (by omega), hb]
  simp [rd]
theorem rd_pad_next (l : List Int) (s nx : Int) (h0 : 1 ≤ s) : rd (padded l s nx) (l.length + need l.length s + 1) = nx := by
  have hr := (need_range (n := l.length) h0).1
  have hb : ((l ++ ups (need l.length s).toNat).length : Int) = l.length + need l.length s := by simp [ups_length]; omega
  unfold padded
  rw [rd_app_right _ _ _ (by omega), hb]
  have : (l.length : Int) + need l.length s + 1 - (l.length + need l.length s) = 1 := by omega
  rw [this]
  simp [rd]
theorem good_iff (d : List Int) (hb : Bytes d) : Good d ↔ (2 ≤ d.length ∧ manyOf d ≤ 15 ∧ manyOf d ≤ (d.length : Int) - 2 ∧ Rises d ∧ Fits d ∧ (d.length : Int) - 2 - manyOf d ≤ 400) := by
  constructor
  · rintro ⟨h2, hm, ho, s, s0, s1, e⟩
    have hmb := many_byte hb h2
    have hol := own_length hb h2 hm
    have hr := need_range (n := (ownOf d).length) s0
    have hpl := padded_length (ownOf d) s (nextOf d) s0
    rw [e] at hpl
    have hneed : need (ownOf d).length s = manyOf d := by omega
    refine ⟨h2, by omega, hm, ?_, ⟨s, s0, s1, ?_, by omega⟩, by omega⟩
    · intro j j0 j1
      have h := rd_pad_mid (ownOf d) s (nextOf d) s0 ((d.length : Int) - 2 - manyOf d + j - 1) (by omega) (by omega)
      rw [e] at h
      rw [h]
      omega
    · have h := padded_mod (ownOf d) s (nextOf d) s0 s1
      rwa [e] at h
  · rintro ⟨h2, h15, hm, hri, ⟨s, s0, s1, hmod, hlt⟩, h400⟩
    have hmb := many_byte hb h2
    have hol := own_length hb h2 hm
    have hneed : need (ownOf d).length s = manyOf d := by
      refine need_only s0 s1 (by omega) hmb.1 hlt ?_
      rw [hol, show (d.length : Int) - 2 - manyOf d + manyOf d + 2 = d.length by omega]
      exact hmod
    refine ⟨h2, hm, by omega, s, s0, s1, ?_⟩
    have hpl := padded_length (ownOf d) s (nextOf d) s0
    apply List.ext_getElem
    · omega
    · intro j h1 h3
      rw [← rd_get _ j h1, ← rd_get _ j h3]
      by_cases c1 : j < (ownOf d).length
      · unfold padded
        rw [List.append_assoc, rd_app_left _ _ _ c1, rd_get _ _ c1, rd_get _ _ h3]
        simp [ownOf]
      · by_cases c2 : (j : Int) < (ownOf d).length + need (ownOf d).length s
        · rw [rd_pad_mid _ _ _ s0 _ (by omega) c2]
          have := hri ((j : Int) - (ownOf d).length + 1) (by omega) (by omega)
          rw [show (d.length : Int) - 2 - manyOf d + ((j : Int) - (ownOf d).length + 1) - 1 = j by omega] at this
          exact this.symm
        · by_cases c3 : (j : Int) = (ownOf d).length + need (ownOf d).length s
          · rw [c3, rd_pad_many _ _ _ s0, hneed, hol]
            show manyOf d = rd d ((d.length : Int) - 2 - manyOf d + manyOf d)
            rw [show (d.length : Int) - 2 - manyOf d + manyOf d = (d.length : Int) - 2 by omega]
            rfl
          · have c4 : (j : Int) = (ownOf d).length + need (ownOf d).length s + 1 := by omega
            rw [c4, rd_pad_next _ _ _ s0, hneed, hol]
            show nextOf d = rd d ((d.length : Int) - 2 - manyOf d + manyOf d + 1)
            rw [show (d.length : Int) - 2 - manyOf d + manyOf d + 1 = (d.length : Int) - 1 by omega]
            rfl
theorem fit_loop (d : List Int) (hb : Bytes d) (hl : d.length ≤ 418) (h2 : 2 ≤ d.length) (h15 : manyOf d ≤ 15) (hm : manyOf d ≤ (d.length : Int) - 2) (n : Nat) : ∀ (f : Bool) (q : Int), 1 ≤ q → q + n = 17 →
    Ev (fun k => spec_l14Unpad.l1 k d (d.length : Int) (manyOf d) f q) (sel ((f = true ∨ ∃ s : Int, q ≤ s ∧ s ≤ 16 ∧ (d.length : Int) % s = 0 ∧ manyOf d < s) ∧ (d.length : Int) - 2 - manyOf d ≤ 400) (ownOf d, nextOf d, manyOf d, true) ([], 0, 0, false)) := by
  have hmb := many_byte hb h2
  have hn := next_byte hb h2
  induction n with
  | zero =>
    intro f q hq hn'
    have hw1 : wrap64 ((d.length : Int) - 2) = (d.length : Int) - 2 := wrap_id (by omega) (by omega)
    have hw2 : wrap64 ((d.length : Int) - 2 - manyOf d) = (d.length : Int) - 2 - manyOf d := wrap_id (by omega) (by omega)
    have hw3 : wrap64 ((d.length : Int) - 1) = (d.length : Int) - 1 := wrap_id (by omega) (by omega)
    have hno : ¬ ∃ s : Int, q ≤ s ∧ s ≤ 16 ∧ (d.length : Int) % s = 0 ∧ manyOf d < s := fun ⟨s, a, b, _⟩ => by omega
    by_cases hf : f = true
    · by_cases h4 : (d.length : Int) - 2 - manyOf d ≤ 400
      · rw [sel_pos ⟨.inl hf, h4⟩]
        refine Ev.step (f := fun _ => some (ownOf d, nextOf d, manyOf d, true)) (fun k => ?_) (Ev.now _)
        simp only [spec_l14Unpad.l1]
        rw [if_neg (by omega), if_pos hf, hw1, hw2, if_neg (by omega)]
        simp only [Option.bind_some]
        rw [if_pos (by omega), if_pos (by omega), if_pos (by simp; omega), hw3, if_pos (by omega), if_pos (by omega)]
        show some (([] : List Int) ++ ownOf d, wrap64 (nextOf d), manyOf d, true) = _
        rw [wrap_id (by omega) (by omega)]
        rfl
      · rw [sel_neg (fun h => h4 h.2)]
        refine Ev.step (f := fun _ => some ([], 0, 0, false)) (fun k => ?_) (Ev.now _)
        simp only [spec_l14Unpad.l1]
        rw [if_neg (by omega), if_pos hf, hw1, hw2, if_pos (by omega)]
    · rw [sel_neg (fun h => h.1.elim hf hno)]
      refine Ev.step (f := fun _ => some ([], 0, 0, false)) (fun k => ?_) (Ev.now _)
      simp only [spec_l14Unpad.l1]
      rw [if_neg (by omega), if_neg hf]
  | succ n ih =>
    intro f q hq hn'
    by_cases hf : f = true
    · have e := ih true (q + 1) (by omega) (by omega)
      have hiff : (f = true ∨ ∃ s : Int, q ≤ s ∧ s ≤ 16 ∧ (d.length : Int) % s = 0 ∧ manyOf d < s) ↔ (true = true ∨ ∃ s : Int, q + 1 ≤ s ∧ s ≤ 16 ∧ (d.length : Int) % s = 0 ∧ manyOf d < s) := ⟨fun _ => .inl rfl, fun _ => .inl hf⟩
      rw [sel_iff (and_congr hiff Iff.rfl)]
      refine Ev.step (fun k => ?_) e
      simp only [spec_l14Unpad.l1]
      rw [if_pos (by omega), if_pos hf, wrap_id (x := q + 1) (by omega) (by omega)]
    · have hff : f = false := by simpa using hf
      by_cases hmod : (d.length : Int) % q = 0
      · have e := ih (decide (manyOf d < q)) (q + 1) (by omega) (by omega)
        have hiff : (f = true ∨ ∃ s : Int, q ≤ s ∧ s ≤ 16 ∧ (d.length : Int) % s = 0 ∧ manyOf d < s) ↔ (decide (manyOf d < q) = true ∨ ∃ s : Int, q + 1 ≤ s ∧ s ≤ 16 ∧ (d.length : Int) % s = 0 ∧ manyOf d < s) := by
          constructor
          · rintro (h | ⟨s, a, b, c, g⟩)
            · exact absurd h hf
            · rcases Int.lt_or_eq_of_le a with a | a
              · exact .inr ⟨s, by omega, b, c, g⟩
              · subst a; exact .inl (decide_eq_true g)
          · rintro (h | ⟨s, a, b, c, g⟩)
            · exact .inr ⟨q, Int.le_refl _, by omega, hmod, of_decide_eq_true h⟩
            · exact .inr ⟨s, by omega, b, c, g⟩
        rw [sel_iff (and_congr hiff Iff.rfl)]
        refine Ev.step (fun k => ?_) e
        simp only [spec_l14Unpad.l1]
        rw [if_pos (by omega), if_neg hf, if_neg (by omega), Int.tmod_eq_emod_of_nonneg (by omega), if_pos hmod, wrap_id (x := q + 1) (by omega) (by omega)]
      · have e := ih false (q + 1) (by omega) (by omega)
        have hiff : (f = true ∨ ∃ s : Int, q ≤ s ∧ s ≤ 16 ∧ (d.length : Int) % s = 0 ∧ manyOf d < s) ↔ (false = true ∨ ∃ s : Int, q + 1 ≤ s ∧ s ≤ 16 ∧ (d.length : Int) % s = 0 ∧ manyOf d < s) := by
          constructor
          · rintro (h | ⟨s, a, b, c, g⟩)
            · exact absurd h hf
            · rcases Int.lt_or_eq_of_le a with a | a
              · exact .inr ⟨s, by omega, b, c, g⟩
              · subst a; exact absurd c hmod
          · rintro (h | ⟨s, a, b, c, g⟩)
            · exact absurd h (by decide)
            · exact .inr ⟨s, by omega, b, c, g⟩
        rw [sel_iff (and_congr hiff Iff.rfl)]
        refine Ev.step (fun k => ?_) e
        simp only [spec_l14Unpad.l1]
        rw [if_pos (by omega), if_neg hf, if_neg (by omega), Int.tmod_eq_emod_of_nonneg (by omega), if_neg hmod, wrap_id (x := q + 1) (by omega) (by omega)]
theorem rise_loop (d : List Int) (hb : Bytes d) (hl : d.length ≤ 418) (h2 : 2 ≤ d.length) (h15 : manyOf d ≤ 15) (hm : manyOf d ≤ (d.length : Int) - 2) (n : Nat) : ∀ q : Int, 1 ≤ q → q + n = manyOf d + 1 →
    Ev (fun k => spec_l14Unpad.l0 k d (d.length : Int) (manyOf d) q) (sel ((∀ j : Int, q ≤ j → j ≤ manyOf d → rd d ((d.length : Int) - 2 - manyOf d + j - 1) = j) ∧ Fits d ∧ (d.length : Int) - 2 - manyOf d ≤ 400) (ownOf d, nextOf d, manyOf d, true) ([], 0, 0, false)) := by
  have hmb := many_byte hb h2
  induction n with
  | zero =>
    intro q hq hn'
    have e := fit_loop d hb hl h2 h15 hm 16 false 1 (by omega) (by omega)
    have hiff : ((∀ j : Int, q ≤ j → j ≤ manyOf d → rd d ((d.length : Int) - 2 - manyOf d + j - 1) = j) ∧ Fits d ∧ (d.length : Int) - 2 - manyOf d ≤ 400) ↔ ((false = true ∨ ∃ s : Int, 1 ≤ s ∧ s ≤ 16 ∧ (d.length : Int) % s = 0 ∧ manyOf d < s) ∧ (d.length : Int) - 2 - manyOf d ≤ 400) := by
      constructor
      · rintro ⟨_, h, h4⟩
        exact ⟨.inr h, h4⟩
      · rintro ⟨h | h, h4⟩
        · exact absurd h (by decide)
        · exact ⟨fun j a b => by omega, h, h4⟩
    rw [sel_iff hiff]
    refine Ev.step (fun k => ?_) e
    simp only [spec_l14Unpad.l0]
    rw [if_neg (by omega)]
  | succ n ih =>
    intro q hq hn'
    have e := ih (q + 1) (by omega) (by omega)
    have hw1 : wrap64 ((d.length : Int) - 2) = (d.length : Int) - 2 := wrap_id (by omega) (by omega)
    have hw2 : wrap64 ((d.length : Int) - 2 - manyOf d) = (d.length : Int) - 2 - manyOf d := wrap_id (by omega) (by omega)
    have hw3 : wrap64 ((d.length : Int) - 2 - manyOf d + q) = (d.length : Int) - 2 - manyOf d + q := wrap_id (by omega) (by omega)
    have hw4 : wrap64 ((d.length : Int) - 2 - manyOf d + q - 1) = (d.length : Int) - 2 - manyOf d + q - 1 := wrap_id (by omega) (by omega)
    have hby := rd_byte hb (i := (d.length : Int) - 2 - manyOf d + q - 1) (by omega) (by omega)
    by_cases hq2 : rd d ((d.length : Int) - 2 - manyOf d + q - 1) = q
    · have hiff : (∀ j : Int, q ≤ j → j ≤ manyOf d → rd d ((d.length : Int) - 2 - manyOf d + j - 1) = j) ↔ (∀ j : Int, q + 1 ≤ j → j ≤ manyOf d → rd d ((d.length : Int) - 2 - manyOf d + j - 1) = j) := by
        constructor
        · intro h j a b
          exact h j (by omega) b
        · intro h j a b
          rcases Int.lt_or_eq_of_le a with a | a
          · exact h j (by omega) b
          · subst a; exact hq2
      rw [sel_iff (and_congr hiff Iff.rfl)]
      refine Ev.step (fun k => ?_) e
      simp only [spec_l14Unpad.l0]
      rw [if_pos (by omega), hw1, hw2, hw3, hw4, if_pos (by omega), if_pos (by omega), wrap_id (x := rd d _) (by omega) (by omega), if_pos hq2, wrap_id (x := q + 1) (by omega) (by omega)]
    · rw [sel_neg (fun h => hq2 (h.1 q (Int.le_refl _) (by omega)))]
      refine Ev.step (f := fun _ => some ([], 0, 0, false)) (fun k => ?_) (Ev.now _)
      simp only [spec_l14Unpad.l0]
      rw [if_pos (by omega), hw1, hw2, hw3, hw4, if_pos (by omega), if_pos (by omega), wrap_id (x := rd d _) (by omega) (by omega), if_neg hq2]
theorem unpad_spec (d : List Int) (hb : Bytes d) (hlen : d.length ≤ 10000000) : Ev (fun k => spec_UnpadBytes.f k d) (unpadOf d) := by
  unfold unpadOf
  by_cases hl : d.length > 418
  · rw [if_pos hl]
    refine Ev.congr (f := fun _ => some (2, [], 0, 0)) (fun k => ?_) (Ev.now _)
    unfold spec_UnpadBytes.f
    rw [if_pos (by omega)]
  · rw [if_neg hl]
    refine Ev.congr (f := fun k => (spec_l14Unpad.f k d).bind fun t => if t.2.2.2 = true then some ((0 : Int), t.1, t.2.1, t.2.2.1) else some (5, [], 0, 0)) (fun k => by
      unfold spec_UnpadBytes.f
      rw [if_neg (by omega)]) ?_
    have hgood := good_iff d hb
    have bad : ¬ Good d → Ev (fun k => spec_l14Unpad.f k d) ([], 0, 0, false) → Ev (fun k => (spec_l14Unpad.f k d).bind fun t => if t.2.2.2 = true then some ((0 : Int), t.1, t.2.1, t.2.2.1) else some (5, [], 0, 0)) (sel (Good d) (0, ownOf d, nextOf d, manyOf d) (5, [], 0, 0)) := by
      intro h e
      rw [sel_neg h]
      refine Ev.bind e ?_
      simp only [Bool.false_eq_true, if_false]
      exact Ev.now _
    have hN : wrap64 ((d.length : Int) - 2) = (d.length : Int) - 2 := wrap_id (by omega) (by omega)
    by_cases h2 : 2 ≤ d.length
    · have hmb := many_byte hb h2
      have hmr : wrap64 (manyOf d) = manyOf d := wrap_id (by omega) (by omega)
      have hrd : wrap64 (rd d ((d.length : Int) - 2)) = manyOf d := hmr
      by_cases h15 : manyOf d ≤ 15
      · have hf : ∀ k, spec_l14Unpad.f k d = spec_l14Unpad.j0 k d (d.length : Int) (manyOf d) (decide (manyOf d > (d.length : Int) - 2)) := by
          intro k
          unfold spec_l14Unpad.f
          rw [if_neg (by omega), hN, if_pos (by omega), if_pos (by omega), hrd, if_neg (by omega)]
        by_cases hm : manyOf d ≤ (d.length : Int) - 2
        · have e := rise_loop d hb (by omega) h2 h15 hm (manyOf d).toNat 1 (by omega) (by omega)
          have e2 : Ev (fun k => spec_l14Unpad.f k d) (sel (Good d) (ownOf d, nextOf d, manyOf d, true) ([], 0, 0, false)) := by
            have hiff : Good d ↔ ((∀ j : Int, 1 ≤ j → j ≤ manyOf d → rd d ((d.length : Int) - 2 - manyOf d + j - 1) = j) ∧ Fits d ∧ (d.length : Int) - 2 - manyOf d ≤ 400) := by
              rw [hgood]
              exact ⟨fun h => ⟨h.2.2.2.1, h.2.2.2.2.1, h.2.2.2.2.2⟩, fun h => ⟨h2, h15, hm, h.1, h.2.1, h.2.2⟩⟩
            rw [sel_iff hiff]
            refine Ev.congr hf (Ev.step (fun k => ?_) e)
            simp only [spec_l14Unpad.j0]
            rw [if_neg (by simp only [decide_eq_true_eq]; omega)]
          refine Ev.bind e2 ?_
          by_cases hg : Good d
          · rw [sel_pos hg, sel_pos hg]
            simp only [if_true]
            exact Ev.now _
          · rw [sel_neg hg, sel_neg hg]
            simp only [Bool.false_eq_true, if_false]
            exact Ev.now _
        · refine bad (fun h => hm h.2.1) (Ev.congr hf (Ev.step (f := fun _ => some ([], 0, 0, false)) (fun k => ?_) (Ev.now _)))
          simp only [spec_l14Unpad.j0]
          rw [if_pos (by simp only [decide_eq_true_eq]; omega)]
      · refine bad (fun h => h15 (hgood.1 h).2.1) (Ev.congr (f := fun k => spec_l14Unpad.j0 k d (d.length : Int) (manyOf d) true) (fun k => by
          unfold spec_l14Unpad.f
          rw [if_neg (by omega), hN, if_pos (by omega), if_pos (by omega), hrd, if_pos (by omega)]) (Ev.step (f := fun _ => some ([], 0, 0, false)) (fun k => ?_) (Ev.now _)))
        simp only [spec_l14Unpad.j0, if_true]
    · refine bad (fun h => h2 h.1) (Ev.congr (f := fun _ => some ([], 0, 0, false)) (fun k => ?_) (Ev.now _))
      unfold spec_l14Unpad.f
      rw [if_pos (by omega)]
/-- Four bytes from a place on. -/
def b4 (l : List Int) (p : Nat) : List Int := [rd l p, rd l (p + 1 : Nat), rd l (p + 2 : Nat), rd l (p + 3 : Nat)]
theorem take4 (l : List Int) (p : Nat) (h : p + 4 ≤ l.length) : (l.drop p).take 4 = b4 l p := by
  rw [List.drop_eq_getElem_cons (by omega), List.drop_eq_getElem_cons (by omega), List.drop_eq_getElem_cons (by omega), List.drop_eq_getElem_cons (by omega)]
  simp only [List.take_succ_cons, List.take_zero, b4]
  rw [rd_get l p (by omega), rd_get l (p + 1) (by omega), rd_get l (p + 2) (by omega), rd_get l (p + 3) (by omega)]
theorem b4_bytes {l : List Int} (hb : Bytes l) (p : Nat) (h : p + 4 ≤ l.length) : Bytes (b4 l p) := by
  rw [← take4 l p h]
  exact fun x hx => hb x (List.mem_of_mem_drop (List.mem_of_mem_take hx))
theorem b4_length (l : List Int) (p : Nat) : (b4 l p).length = 4 := rfl
theorem specTake4 (l : List Int) (hb : Bytes l) (p : Nat) (h : p + 4 ≤ l.length) (hl : l.length ≤ 10000000) : Ev (fun k => spec_l1Take.f k l (p : Int) 4) (num 0 (b4 l p)) := by
  have h0 := rd_byte hb (i := (p : Int)) (by omega) (by omega)
  have h1 := rd_byte hb (i := ((p + 1 : Nat) : Int)) (by omega) (by omega)
  have h2 := rd_byte hb (i := ((p + 2 : Nat) : Int)) (by omega) (by omega)
  have h3 := rd_byte hb (i := ((p + 3 : Nat) : Int)) (by omega) (by omega)
  unfold spec_l1Take.f
  refine Ev.step (f := fun k => spec_l1Take.l0 k l p 4 (rd l p) 1) (fun k => ?_) ?_
  · simp only [spec_l1Take.l0]
    rw [wrap_id (x := (p : Int) + 0) (by omega) (by omega), Int.add_zero, wrap_id (x := rd l p) (by omega) (by omega), if_pos (by omega), if_pos (by omega), if_pos (by omega)]
    rw [wrap_id (x := 0 * 256) (by omega) (by omega), wrap_id (x := 0 + 1) (by omega) (by omega), wrap_id (by omega) (by omega)]
    simp
  refine Ev.step (f := fun k => spec_l1Take.l0 k l p 4 (rd l p * 256 + rd l (p + 1 : Nat)) 2) (fun k => ?_) ?_
  · simp only [spec_l1Take.l0]
    rw [show (p : Int) + 1 = ((p + 1 : Nat) : Int) by omega, wrap_id (x := ((p + 1 : Nat) : Int)) (by omega) (by omega), wrap_id (x := rd l (p + 1 : Nat)) (by omega) (by omega), if_pos (by omega), if_pos (by omega), if_pos (by omega)]
    rw [wrap_id (x := (rd l p) * 256) (by omega) (by omega), wrap_id (x := 1 + 1) (by omega) (by omega), wrap_id (by omega) (by omega)]
    rfl
  refine Ev.step (f := fun k => spec_l1Take.l0 k l p 4 ((rd l p * 256 + rd l (p + 1 : Nat)) * 256 + rd l (p + 2 : Nat)) 3) (fun k => ?_) ?_
  · simp only [spec_l1Take.l0]
    rw [show (p : Int) + 2 = ((p + 2 : Nat) : Int) by omega, wrap_id (x := ((p + 2 : Nat) : Int)) (by omega) (by omega), wrap_id (x := rd l (p + 2 : Nat)) (by omega) (by omega), if_pos (by omega), if_pos (by omega), if_pos (by omega)]
    rw [wrap_id (x := (rd l p * 256 + rd l (p + 1 : Nat)) * 256) (by omega) (by omega), wrap_id (x := 2 + 1) (by omega) (by omega), wrap_id (by omega) (by omega)]
    rfl
  refine Ev.step (f := fun k => spec_l1Take.l0 k l p 4 (((rd l p * 256 + rd l (p + 1 : Nat)) * 256 + rd l (p + 2 : Nat)) * 256 + rd l (p + 3 : Nat)) 4) (fun k => ?_) ?_
  · simp only [spec_l1Take.l0]
    rw [show (p : Int) + 3 = ((p + 3 : Nat) : Int) by omega, wrap_id (x := ((p + 3 : Nat) : Int)) (by omega) (by omega), wrap_id (x := rd l (p + 3 : Nat)) (by omega) (by omega), if_pos (by omega), if_pos (by omega), if_pos (by omega)]
    rw [wrap_id (x := ((rd l p * 256 + rd l (p + 1 : Nat)) * 256 + rd l (p + 2 : Nat)) * 256) (by omega) (by omega), wrap_id (x := 3 + 1) (by omega) (by omega), wrap_id (by omega) (by omega)]
    rfl
  refine Ev.step (f := fun _ => some (num 0 (b4 l p))) (fun k => ?_) (Ev.now _)
  simp only [spec_l1Take.l0]
  rw [if_neg (by omega)]
  simp [b4, num]
def peekOf (l : List Int) : Int × Int × Int := if 14 ≤ l.length ∧ l.length ≤ 300 then if num 0 (b4 l 0) = 0 then (5, 0, 0) else (0, num 0 (b4 l 0), num 0 (b4 l 4)) else (5, 0, 0)
theorem peek_impl (l : List Int) (hb : Bytes l) : Ev (fun k => impl_PeekOuter.f k l) (peekOf l) := by
  unfold impl_PeekOuter.f peekOf
  simp only [in_eq, Option.bind_some]
  by_cases h : 14 ≤ l.length ∧ l.length ≤ 300
  · simp only [decide_eq_true (show 14 ≤ (l.length : Int) ∧ (l.length : Int) ≤ 300 by omega), if_true, if_pos h, if_pos (show 4 ≤ (l.length : Int) by omega)]
    have e0 : l.take 4 = b4 l 0 := take4 l 0 (by omega)
    have e4 : (l.take 8).drop 4 = b4 l 4 := by rw [List.drop_take]; exact take4 l 4 (by omega)
    rw [e0]
    refine Ev.bind (take_ev _ (b4_bytes hb 0 (by omega)) (by rw [b4_length]; omega)) ?_
    by_cases hz : num 0 (b4 l 0) = 0
    · simp only [hz, if_true, beq_self_eq_true]
      exact Ev.step (f := fun _ => some (5, 0, 0)) (fun k => by simp only [impl_PeekOuter.j0, if_true]) (Ev.now _)
    · have hz' : (num 0 (b4 l 0) == 0) = false := beq_false_of_ne hz
      simp only [hz', if_neg hz]
      refine Ev.step (fun k => by simp only [impl_PeekOuter.j0, Bool.false_eq_true, if_false, if_pos (show 4 ≤ (l.length : Int) by omega), if_pos (show 8 ≤ (l.length : Int) by omega), if_pos (show 4 ≤ 8 by omega), e0, e4]; rfl) ?_
      refine Ev.bind (take_ev _ (b4_bytes hb 0 (by omega)) (by rw [b4_length]; omega)) ?_
      refine Ev.bind (take_ev _ (b4_bytes hb 4 (by omega)) (by rw [b4_length]; omega)) ?_
      exact Ev.now _
  · simp only [decide_eq_false (show ¬ (14 ≤ (l.length : Int) ∧ (l.length : Int) ≤ 300) by omega), Bool.false_eq_true, if_false, if_neg h]
    exact Ev.step (f := fun _ => some (5, 0, 0)) (fun k => by simp only [impl_PeekOuter.j0, if_true]) (Ev.now _)
theorem peek_spec (l : List Int) (hb : Bytes l) : Ev (fun k => spec_PeekOuter.f k l) (peekOf l) := by
  unfold spec_PeekOuter.f peekOf
  simp only [l1In_eq, Option.bind_some]
  by_cases h : 14 ≤ l.length ∧ l.length ≤ 300
  · simp only [decide_eq_true (show 14 ≤ (l.length : Int) ∧ (l.length : Int) ≤ 300 by omega), if_true, if_pos h]
    have t0 := specTake4 l hb 0 (by omega) (by omega)
    have t4 := specTake4 l hb 4 (by omega) (by omega)
    refine Ev.bind t0 ?_
    by_cases hz : num 0 (b4 l 0) = 0
    · simp only [hz, if_true, beq_self_eq_true]
      exact Ev.step (f := fun _ => some (5, 0, 0)) (fun k => by simp only [spec_PeekOuter.j0, if_true]) (Ev.now _)
    · have hz' : (num 0 (b4 l 0) == 0) = false := beq_false_of_ne hz
      simp only [hz', if_neg hz]
      refine Ev.step (fun k => by simp only [spec_PeekOuter.j0, Bool.false_eq_true, if_false]; rfl) ?_
      refine Ev.bind t0 ?_
      refine Ev.bind t4 ?_
      exact Ev.now _
  · simp only [decide_eq_false (show ¬ (14 ≤ (l.length : Int) ∧ (l.length : Int) ≤ 300) by omega), Bool.false_eq_true, if_false, if_neg h]
    exact Ev.step (f := fun _ => some (5, 0, 0)) (fun k => by simp only [spec_PeekOuter.j0, if_true]) (Ev.now _)
instance (key seq : Int) : Decidable (Key key ∧ Seq seq) := inferInstanceAs (Decidable ((_ ∧ _) ∧ (_ ∧ _)))
def openOf (key seq : Int) (d : List Int) : Int × List Int :=
  if Key key ∧ Seq seq then if 4 ≤ d.length ∧ d.length ≤ 484 then opened key seq (d.take (d.length - 4)) (d.drop (d.length - 4)) else (5, []) else (3, [])
theorem open_impl (key seq : Int) (d : List Int) (hb : Bytes d) (hl : d.length ≤ 100000) : Ev (fun k => impl_OpenBytes.f k key seq d) (openOf key seq d) := by
  unfold openOf
  by_cases h : Key key ∧ Seq seq
  · rw [if_pos h]
    by_cases hn : 4 ≤ d.length ∧ d.length ≤ 484
    · rw [if_pos hn]
      have := Open_ev key seq (d.take (d.length - 4)) (d.drop (d.length - 4)) h (fun x hx => hb x (List.mem_of_mem_take hx)) (fun x hx => hb x (List.mem_of_mem_drop hx)) (by rw [List.length_take]; omega) (by rw [List.length_drop]; omega)
      rwa [List.take_append_drop] at this
    · rw [if_neg hn]
      exact Open_text key seq d h hl (by omega)
  · rw [if_neg h]
    exact Open_bad key seq d hl h
theorem open_spec (key seq : Int) (d : List Int) (hb : Bytes d) (hl : d.length ≤ 100000) : Ev (fun k => spec_OpenBytes.f k key seq d) (openOf key seq d) := by
  unfold openOf spec_OpenBytes.f
  simp only [asked_eq, l1In_eq, Option.bind_some]
  rw [wrap_id (x := (d.length : Int) - 4) (by omega) (by omega)]
  by_cases h : Key key ∧ Seq seq
  · simp only [if_pos h, if_true]
    by_cases hn : 4 ≤ d.length ∧ d.length ≤ 484
    · simp only [decide_eq_true (show 4 ≤ (d.length : Int) ∧ (d.length : Int) ≤ 484 by omega), if_true, if_pos hn, if_pos (show 0 ≤ (d.length : Int) - 4 by omega), if_pos (show (d.length : Int) - 4 ≤ (d.length : Int) by omega)]
      have e : (d.length : Int) - 4 = ((d.length - 4 : Nat) : Int) := by omega
      rw [e, Int.toNat_natCast]
      have t := specTake4 d hb (d.length - 4) (by omega) (by omega)
      have e2 : b4 d (d.length - 4) = d.drop (d.length - 4) := by
        rw [← take4 d (d.length - 4) (by omega)]
        exact List.take_of_length_le (by rw [List.length_drop]; omega)
      rw [e2] at t
      have hb2 : Bytes (d.take (d.length - 4)) := fun x hx => hb x (List.mem_of_mem_take hx)
      have hl2 : (d.take (d.length - 4)).length ≤ 100000 := by rw [List.length_take]; omega
      refine Ev.bind t ?_
      refine Ev.bind (specTag_ev h.1 h.2 _ hb2 hl2) ?_
      unfold opened
      by_cases e3 : num 0 (d.drop (d.length - 4)) = tg (h0 key seq) (d.take (d.length - 4))
      · simp only [if_pos e3]
        exact Ev.bind (specMix_ev h.1 h.2 _ hl2) (Ev.now _)
      · simp only [if_neg e3]
        exact Ev.now _
    · simp only [decide_eq_false (show ¬ (4 ≤ (d.length : Int) ∧ (d.length : Int) ≤ 484) by omega), Bool.false_eq_true, if_false, if_neg hn]
      exact Ev.now _
  · simp only [if_neg h, if_neg (show ¬ (3 : Int) = 0 by decide)]
    exact Ev.now _
theorem openOf_bytes (key seq : Int) {d : List Int} (hb : Bytes d) : Bytes (openOf key seq d).2 := by
  have hn : Bytes ([] : List Int) := fun x hx => by simp at hx
  unfold openOf opened
  split
  · split
    · split
      · exact body_bytes _ _ (fun x hx => hb x (List.mem_of_mem_take hx))
      · exact hn
    · exact hn
  · exact hn
theorem openOf_small (key seq : Int) (d : List Int) : (openOf key seq d).2.length ≤ 480 := by
  unfold openOf opened
  split
  · split
    · split
      · rw [body_length, List.length_take]; omega
      · simp
    · simp
  · simp
noncomputable def bareOf (seq : Int) (o : Int × List Int) : Int × Int × List Int :=
  if o.1 = 0 then if (unpadOf o.2).1 = 0 then if (unpadOf o.2).2.2.1 = 4 then if ((o.2.length : Int) % 4) = 0 then if (unpadOf o.2).2.2.2 > 3 then (1, 0, []) else (0, seq, (unpadOf o.2).2.1) else (1, 0, []) else (1, 0, []) else ((unpadOf o.2).1, 0, []) else (o.1, 0, [])
noncomputable def unwrapOf (l : List Int) (key seq : Int) : Int × Int × List Int :=
  if (peekOf l).1 = 0 then if RightWrap 1 key seq then if (peekOf l).2.2 = Int.tmod seq 4294967296 then bareOf seq (openOf key seq (l.drop 8)) else (1, 0, []) else (3, 0, []) else ((peekOf l).1, 0, [])
theorem peekOf_some {l : List Int} (h : (peekOf l).1 = 0) : 14 ≤ l.length ∧ l.length ≤ 300 := by
  unfold peekOf at h
  split at h
  · assumption
  · simp at h
theorem bare_ev {g : Nat → List Int → Option (Int × List Int × Int × Int)} (seq : Int) (o : Int × List Int) (hg : Ev (fun k => g k o.2) (unpadOf o.2)) :
    Ev (fun k => if o.1 = 0 then ((g k o.2).bind fun bt581 => (if bt581.1 = 0 then (if bt581.2.2.1 = 4 then (if ((o.2.length : Int) % 4) = 0 then (if bt581.2.2.2 > 3 then (some (1, 0, ([] : List Int))) else (some (0, seq, bt581.2.1))) else (some (1, 0, ([] : List Int)))) else (some (1, 0, ([] : List Int)))) else (some (bt581.1, 0, ([] : List Int))))) else (some (o.1, 0, ([] : List Int)))) (bareOf seq o) := by
  unfold bareOf
  by_cases h : o.1 = 0
  · simp only [if_pos h]
    refine Ev.bind hg ?_
    refine Ev.congr (f := fun _ => some (if (unpadOf o.2).1 = 0 then if (unpadOf o.2).2.2.1 = 4 then if ((o.2.length : Int) % 4) = 0 then if (unpadOf o.2).2.2.2 > 3 then (1, 0, []) else (0, seq, (unpadOf o.2).2.1) else (1, 0, []) else (1, 0, []) else ((unpadOf o.2).1, 0, []))) (fun k => ?_) (Ev.now _)
    repeat' first
      | rfl
      | split
  · simp only [if_neg h]
    exact Ev.now _
theorem unwrap_impl (l : List Int) (key seq : Int) (hb : Bytes l) : Ev (fun k => impl_UnwrapOuter.f k l key seq) (unwrapOf l key seq) := by
  unfold impl_UnwrapOuter.f unwrapOf
  refine Ev.bind (peek_impl l hb) ?_
  by_cases h0 : (peekOf l).1 = 0
  · have hl := peekOf_some h0
    simp only [if_pos h0]
    have hb2 : Bytes (l.drop 8) := fun x hx => hb x (List.mem_of_mem_drop hx)
    have hsm := openOf_small key seq (l.drop 8)
    have e := open_impl key seq (l.drop 8) hb2 (by rw [List.length_drop]; omega)
    unfold impl_isKey.f impl_isSeq.f
    simp only [in_eq, Option.bind_some]
    by_cases h2 : 0 ≤ key ∧ key ≤ 4294967295
    · simp only [decide_eq_true h2, if_true]
      by_cases h3 : 1 ≤ seq ∧ seq ≤ 1099511627776
      · have hw : RightWrap 1 key seq := ⟨⟨by omega, by omega⟩, h2, h3⟩
        simp only [decide_eq_true h3, if_pos hw, Bool.not_true]
        refine Ev.step (fun k => by simp only [impl_UnwrapOuter.j0, Bool.false_eq_true, if_false, if_pos (show 8 ≤ (l.length : Int) by omega)]; rfl) ?_
        by_cases h4 : (peekOf l).2.2 = Int.tmod seq 4294967296
        · simp only [if_pos h4]
          exact Ev.bind e (bare_ev seq _ (unpad_impl _ (openOf_bytes key seq hb2) (by omega)))
        · simp only [if_neg h4]
          exact Ev.now _
      · have hw : ¬ RightWrap 1 key seq := fun h => h3 h.2.2
        simp only [decide_eq_false h3, if_neg hw, Bool.not_false]
        exact Ev.step (f := fun _ => some (3, 0, [])) (fun k => by simp only [impl_UnwrapOuter.j0, if_true]) (Ev.now _)
    · have hw : ¬ RightWrap 1 key seq := fun h => h2 h.2.1
      simp only [decide_eq_false h2, if_neg hw, Bool.false_eq_true, if_false]
      exact Ev.step (f := fun _ => some (3, 0, [])) (fun k => by simp only [impl_UnwrapOuter.j0, if_true]) (Ev.now _)
  · simp only [if_neg h0]
    exact Ev.now _
theorem range15_eq (spi key seq : Int) : spec_l15Range.f spi key seq = some (decide (RightWrap spi key seq)) := by
  unfold spec_l15Range.f
  simp only [l1In_eq, Option.bind_some]
  by_cases h1 : 1 ≤ spi ∧ spi ≤ 4294967295
  · rw [decide_eq_true h1, if_pos rfl]
    by_cases h2 : 0 ≤ key ∧ key ≤ 4294967295
    · rw [decide_eq_true h2, if_pos rfl]
      by_cases h3 : 1 ≤ seq ∧ seq ≤ 1099511627776
      · rw [decide_eq_true h3, decide_eq_true (show RightWrap spi key seq from ⟨h1, h2, h3⟩)]
      · rw [decide_eq_false h3, decide_eq_false (show ¬ RightWrap spi key seq from fun h => h3 h.2.2)]
    · rw [decide_eq_false h2, if_neg (by decide), decide_eq_false (show ¬ RightWrap spi key seq from fun h => h2 h.2.1)]
  · rw [decide_eq_false h1, if_neg (by decide), decide_eq_false (show ¬ RightWrap spi key seq from fun h => h1 h.1)]
theorem unwrap_spec (l : List Int) (key seq : Int) (hb : Bytes l) : Ev (fun k => spec_UnwrapOuter.f k l key seq) (unwrapOf l key seq) := by
  unfold spec_UnwrapOuter.f unwrapOf
  refine Ev.bind (peek_spec l hb) ?_
  by_cases h0 : (peekOf l).1 = 0
  · have hl := peekOf_some h0
    simp only [if_pos h0, range15_eq, Option.bind_some]
    have hb2 : Bytes (l.drop 8) := fun x hx => hb x (List.mem_of_mem_drop hx)
    have hsm := openOf_small key seq (l.drop 8)
    have e := open_spec key seq (l.drop 8) hb2 (by rw [List.length_drop]; omega)
    by_cases hw : RightWrap 1 key seq
    · simp only [decide_eq_true hw, if_true, if_pos hw, if_pos (show 8 ≤ (l.length : Int) by omega)]
      by_cases h4 : (peekOf l).2.2 = Int.tmod seq 4294967296
      · simp only [if_pos h4]
        exact Ev.bind e (bare_ev seq _ (unpad_spec _ (openOf_bytes key seq hb2) (by omega)))
      · simp only [if_neg h4]
        exact Ev.now _
    · simp only [decide_eq_false hw, if_neg hw, Bool.false_eq_true, if_false]
      exact Ev.now _
  · simp only [if_neg h0]
    exact Ev.now _
theorem unwrapOf_small (l : List Int) (key seq : Int) : (unwrapOf l key seq).2.2.length ≤ 1000 := by
  have hsm := openOf_small key seq (l.drop 8)
  unfold unwrapOf bareOf
  split
  · split
    · split
      · split
        · split
          · split
            · split
              · split
                · simp
                · show (unpadOf _).2.1.length ≤ 1000
                  unfold unpadOf
                  split
                  · simp
                  · by_cases hg : Good (openOf key seq (l.drop 8)).2
                    · rw [sel_pos hg]
                      show (ownOf _).length ≤ 1000
                      unfold ownOf
                      rw [List.length_take]; omega
                    · rw [sel_neg hg]; simp
              · simp
            · simp
          · simp
        · simp
      · simp
    · simp
  · simp
theorem eqInner_ev (c s : Int) (a : List Int) (ha : a.length ≤ 100000000) : Ev (fun k => laws_eqInner.f k c s a c s a) true := by
  unfold laws_eqInner.f
  simp only [if_true]
  exact Ev.bind (same_ev a ha) (Ev.now _)
theorem markInner_ev (c s : Int) (l : List Int) (hl : l.length ≤ 1000000) : Ev (fun q => laws_markInner.f q c s l 1) (1 + l.length, marks 1 l.length) := by
  unfold laws_markInner.f
  exact Ev.bind (mark_ev l 1 (by omega) (by omega) (by omega)) (Ev.now _)
theorem heldInner_ev (c s : Int) (n : Nat) (hn : n ≤ 1000000) : Ev (fun q => laws_heldInner.f q c s (marks 1 n) 1) (1 + (n : Int)) := by
  unfold laws_heldInner.f
  refine Ev.bind (held_ev n 1 (by omega) (by omega) (by omega)) ?_
  simp only [if_neg (show ¬ (1 + (n : Int) < 0) by omega)]
  exact Ev.now _

end Go.Proofs.Ytojimlmflfiijaa.Q
