/- Plain laws of padding: what is padded, what is unpadded, and when two lists of bytes are the same. -/
import Derived.Test.YtojimlmflfiijaaQ1
import Derived.Test.YtojimlmflfiijaaPA2
set_option linter.unusedSimpArgs false
set_option linter.unusedVariables false
namespace Go.Proofs.Ytojimlmflfiijaa.Q
open Go.RowKit Go.Proofs.Ytojimlmflfiijaa.PA Go.Proofs.YtojimlmflfiijaaW.PrintWords Go.Proofs.YtojimlmflfiijaaW.PrintLast

theorem in_eq (a b c : Int) : impl_in.f a b c = some (decide (b ≤ a ∧ a ≤ c)) := by
  unfold impl_in.f
  by_cases h : a ≥ b
  · rw [if_pos h]
    congr 1
    simp; omega
  · rw [if_neg h]
    congr 1
    simp; omega
theorem l1In_eq (a b c : Int) : spec_l1In.f a b c = some (decide (b ≤ a ∧ a ≤ c)) := by
  unfold spec_l1In.f
  by_cases h : a ≥ b
  · rw [if_pos h]
    congr 1
    simp; omega
  · rw [if_neg h]
    congr 1
    simp; omega
theorem clone_eq (l : List Int) (h : l.length < 140737488355328) : slices_Clone_byte_byte.f l = some l := by
  unfold slices_Clone_byte_byte.f
  simp [h]

/-- As few bytes as are wanted for whole blocks. -/
def need (n s : Int) : Int := (s - (n + 2) % s) % s
theorem cases16 {s : Int} (h0 : 1 ≤ s) (h1 : s ≤ 16) : s = 1 ∨ s = 2 ∨ s = 3 ∨ s = 4 ∨ s = 5 ∨ s = 6 ∨ s = 7 ∨ s = 8 ∨ s = 9 ∨ s = 10 ∨ s = 11 ∨ s = 12 ∨ s = 13 ∨ s = 14 ∨ s = 15 ∨ s = 16 := by omega
theorem need_range {n s : Int} (h0 : 1 ≤ s) : 0 ≤ need n s ∧ need n s < s := ⟨Int.emod_nonneg _ (by omega), Int.emod_lt_of_pos _ (by omega)⟩
theorem need_iff {n s m : Int} (h0 : 1 ≤ s) (h1 : s ≤ 16) (_hn : 0 ≤ n) (hm : 0 ≤ m) (hle : m ≤ need n s) : (n + m + 2) % s = 0 ↔ m = need n s := by
  unfold need at *
  rcases cases16 h0 h1 with rfl | rfl | rfl | rfl | rfl | rfl | rfl | rfl | rfl | rfl | rfl | rfl | rfl | rfl | rfl | rfl <;> omega
/-- 1, 2, 3 and so on, so many. -/
def ups (n : Nat) : List Int := (List.range n).map fun (i : Nat) => (i : Int) + 1
theorem ups_length (n : Nat) : (ups n).length = n := by simp [ups]
theorem ups_succ (n : Nat) : ups (n + 1) = ups n ++ [(n : Int) + 1] := by simp [ups, List.range_succ]
theorem ups_zero : ups 0 = [] := rfl
/-- The bytes, padded to a multiple of s. -/
def padded (l : List Int) (s nx : Int) : List Int := l ++ ups (need l.length s).toNat ++ [need l.length s, nx]
theorem padded_length (l : List Int) (s nx : Int) (h : 1 ≤ s) : ((padded l s nx).length : Int) = l.length + need l.length s + 2 := by
  have := (need_range (n := l.length) h).1
  simp [padded, ups_length]
  omega
theorem padded_mod (l : List Int) (s nx : Int) (h : 1 ≤ s) (h1 : s ≤ 16) : ((padded l s nx).length : Int) % s = 0 := by
  rw [padded_length l s nx h]
  exact (need_iff h h1 (by omega) (need_range h).1 (Int.le_refl _)).2 rfl
theorem padded_small (l : List Int) (s nx : Int) (h : 1 ≤ s) (h1 : s ≤ 16) : ((padded l s nx).length : Int) ≤ l.length + 17 := by
  rw [padded_length l s nx h]
  have := (need_range (n := l.length) h).2
  omega

theorem pad_loop (l : List Int) (s nx : Int) (h0 : 1 ≤ s) (h1 : s ≤ 16) (hl : l.length ≤ 100000) (d : Nat) : ∀ m : Nat, (m : Int) + d = need l.length s →
    Ev (fun k => impl_pad.l0 k s nx (l ++ ups m) (m : Int)) (padded l s nx) := by
  have hr := need_range (n := l.length) h0
  induction d with
  | zero =>
    intro m hm
    have hm' : (m : Int) = need l.length s := by omega
    refine Ev.step (f := fun _ => some (padded l s nx)) (fun k => ?_) (Ev.now _)
    simp only [impl_pad.l0]
    have hlen : ((l ++ ups m).length : Int) = l.length + m := by simp [ups_length]
    rw [if_neg (by omega), hlen, wrap_id (by omega) (by omega), Int.tmod_eq_emod_of_nonneg (by omega), if_pos ((need_iff h0 h1 (by omega) (by omega) (by omega)).2 hm')]
    simp only [Option.bind_some]
    rw [if_pos (by simp [ups_length]; omega)]
    have : (m : Int) % 256 = m := by omega
    rw [this]
    congr 1
    unfold padded
    rw [← hm', Int.toNat_natCast]
  | succ d ih =>
    intro m hm
    refine Ev.step (f := fun k => impl_pad.l0 k s nx (l ++ ups (m + 1)) ((m + 1 : Nat) : Int)) (fun k => ?_) (ih (m + 1) (by omega))
    simp only [impl_pad.l0]
    have hlen : ((l ++ ups m).length : Int) = l.length + m := by simp [ups_length]
    rw [if_neg (by omega), hlen, wrap_id (x := (l.length : Int) + m + 2) (by omega) (by omega), Int.tmod_eq_emod_of_nonneg (by omega), if_neg (fun hq => by
      have := (need_iff h0 h1 (by omega) (by omega) (by omega)).1 hq
      omega), if_pos (by simp [ups_length]; omega), wrap_id (x := (m : Int) + 1) (by omega) (by omega)]
    have e1 : ((m : Int) + 1) % 256 = m + 1 := by omega
    rw [e1, ups_succ, List.append_assoc]
    rfl
theorem pad_ev (l : List Int) (s nx : Int) (h0 : 1 ≤ s) (h1 : s ≤ 16) (hl : l.length ≤ 100000) : Ev (fun k => impl_pad.f k l s nx) (padded l s nx) := by
  have hr := need_range (n := l.length) h0
  unfold impl_pad.f
  rw [clone_eq l (by omega)]
  simp only [Option.bind_some]
  have := pad_loop l s nx h0 h1 hl (need l.length s).toNat 0 (by omega)
  simpa [ups_zero] using this

theorem PadBytes_bad (l : List Int) (s nx : Int) (h : ¬ (1 ≤ s ∧ s ≤ 16) ∨ ¬ (0 ≤ nx ∧ nx ≤ 255)) : Ev (fun k => impl_PadBytes.f k l s nx) (3, []) := by
  unfold impl_PadBytes.f
  simp only [in_eq, Option.bind_some]
  by_cases hs : 1 ≤ s ∧ s ≤ 16
  · have hn : ¬ (0 ≤ nx ∧ nx ≤ 255) := h.resolve_left (fun h => h hs)
    simp only [decide_eq_true hs, decide_eq_false hn, eq_self, if_true, Bool.false_eq_true, if_false, Bool.not_true, Bool.not_false]
    refine Ev.step (f := fun _ => some (3, [])) (fun k => ?_) (Ev.now _)
    simp only [impl_PadBytes.j0, if_true]
  · simp only [decide_eq_false hs, eq_self, if_true, Bool.false_eq_true, if_false, Bool.not_true, Bool.not_false]
    refine Ev.step (f := fun _ => some (3, [])) (fun k => ?_) (Ev.now _)
    simp only [impl_PadBytes.j0, if_true]
theorem PadBytes_many (l : List Int) (s nx : Int) (hs : 1 ≤ s ∧ s ≤ 16) (hn : 0 ≤ nx ∧ nx ≤ 255) (hl : (l.length : Int) > 400) : Ev (fun k => impl_PadBytes.f k l s nx) (2, []) := by
  unfold impl_PadBytes.f
  simp only [in_eq, Option.bind_some, decide_eq_true hs, decide_eq_true hn, eq_self, if_true, Bool.false_eq_true, if_false, Bool.not_true, Bool.not_false]
  refine Ev.step (f := fun _ => some (2, [])) (fun k => ?_) (Ev.now _)
  simp only [impl_PadBytes.j0]
  rw [if_neg (by decide), if_pos hl]
theorem PadBytes_ok (l : List Int) (s nx : Int) (hs : 1 ≤ s ∧ s ≤ 16) (hn : 0 ≤ nx ∧ nx ≤ 255) (hl : l.length ≤ 400) : Ev (fun k => impl_PadBytes.f k l s nx) (0, padded l s nx) := by
  unfold impl_PadBytes.f
  simp only [in_eq, Option.bind_some, decide_eq_true hs, decide_eq_true hn, eq_self, if_true, Bool.false_eq_true, if_false, Bool.not_true, Bool.not_false]
  have e := pad_ev l s nx hs.1 hs.2 (by omega)
  refine Ev.step (f := fun k => (impl_pad.f k l s nx).bind fun t => some (0, t)) (fun k => ?_) (Ev.bind e (Ev.now _))
  simp only [impl_PadBytes.j0]
  have : nx % 256 = nx := by omega
  rw [if_neg (by decide), if_neg (by omega), this]
theorem specPad_bad (l : List Int) (s nx : Int) (h : ¬ (1 ≤ s ∧ s ≤ 16) ∨ ¬ (0 ≤ nx ∧ nx ≤ 255)) : Ev (fun k => spec_PadBytes.f k l s nx) (3, []) := by
  unfold spec_PadBytes.f
  simp only [l1In_eq, Option.bind_some]
  by_cases hs : 1 ≤ s ∧ s ≤ 16
  · have hn : ¬ (0 ≤ nx ∧ nx ≤ 255) := h.resolve_left (fun h => h hs)
    simp only [decide_eq_true hs, decide_eq_false hn, eq_self, if_true, Bool.false_eq_true, if_false, Bool.not_true, Bool.not_false]
    refine Ev.step (f := fun _ => some (3, [])) (fun k => ?_) (Ev.now _)
    simp only [spec_PadBytes.j0, if_true]
  · simp only [decide_eq_false hs, eq_self, if_true, Bool.false_eq_true, if_false, Bool.not_true, Bool.not_false]
    refine Ev.step (f := fun _ => some (3, [])) (fun k => ?_) (Ev.now _)
    simp only [spec_PadBytes.j0, if_true]
theorem specPad_many (l : List Int) (s nx : Int) (hs : 1 ≤ s ∧ s ≤ 16) (hn : 0 ≤ nx ∧ nx ≤ 255) (hl : (l.length : Int) > 400) : Ev (fun k => spec_PadBytes.f k l s nx) (2, []) := by
  unfold spec_PadBytes.f
  simp only [l1In_eq, Option.bind_some, decide_eq_true hs, decide_eq_true hn, eq_self, if_true, Bool.false_eq_true, if_false, Bool.not_true, Bool.not_false]
  refine Ev.step (f := fun _ => some (2, [])) (fun k => ?_) (Ev.now _)
  simp only [spec_PadBytes.j0]
  rw [if_neg (by decide), if_pos hl]
theorem specPad_loop (l : List Int) (s nx : Int) (h0 : 1 ≤ s) (h1 : s ≤ 16) (hn : 0 ≤ nx ∧ nx ≤ 255) (hl : l.length ≤ 100000) (d : Nat) : ∀ m : Nat, (m : Int) + d = need l.length s →
    Ev (fun k => spec_PadBytes.l0 k s nx (l ++ ups m) (m : Int)) (0, padded l s nx) := by
  have hr := need_range (n := l.length) h0
  have hnx : nx % 256 = nx := by omega
  induction d with
  | zero =>
    intro m hm
    have hm' : (m : Int) = need l.length s := by omega
    refine Ev.step (f := fun _ => some (0, padded l s nx)) (fun k => ?_) (Ev.now _)
    simp only [spec_PadBytes.l0]
    have hlen : ((l ++ ups m).length : Int) = l.length + m := by simp [ups_length]
    rw [if_neg (by omega), hlen, wrap_id (by omega) (by omega), Int.tmod_eq_emod_of_nonneg (by omega), if_pos ((need_iff h0 h1 (by omega) (by omega) (by omega)).2 hm')]
    simp only [Option.bind_some]
    rw [if_pos (by simp [ups_length]; omega)]
    have : (m : Int) % 256 = m := by omega
    rw [this, hnx]
    congr 2
    unfold padded
    rw [← hm', Int.toNat_natCast]
  | succ d ih =>
    intro m hm
    refine Ev.step (f := fun k => spec_PadBytes.l0 k s nx (l ++ ups (m + 1)) ((m + 1 : Nat) : Int)) (fun k => ?_) (ih (m + 1) (by omega))
    simp only [spec_PadBytes.l0]
    have hlen : ((l ++ ups m).length : Int) = l.length + m := by simp [ups_length]
    rw [if_neg (by omega), hlen, wrap_id (x := (l.length : Int) + m + 2) (by omega) (by omega), Int.tmod_eq_emod_of_nonneg (by omega), if_neg (fun hq => by
      have := (need_iff h0 h1 (by omega) (by omega) (by omega)).1 hq
      omega), if_pos (by simp [ups_length]; omega), wrap_id (x := (m : Int) + 1) (by omega) (by omega)]
    have e1 : ((m : Int) + 1) % 256 = m + 1 := by omega
    rw [e1, ups_succ, List.append_assoc]
    rfl
theorem specPad_ok (l : List Int) (s nx : Int) (hs : 1 ≤ s ∧ s ≤ 16) (hn : 0 ≤ nx ∧ nx ≤ 255) (hl : l.length ≤ 400) : Ev (fun k => spec_PadBytes.f k l s nx) (0, padded l s nx) := by
  unfold spec_PadBytes.f
  simp only [l1In_eq, Option.bind_some, decide_eq_true hs, decide_eq_true hn, eq_self, if_true, Bool.false_eq_true, if_false, Bool.not_true, Bool.not_false]
  have hr := need_range (n := l.length) hs.1
  have e := specPad_loop l s nx hs.1 hs.2 hn (by omega) (need l.length s).toNat 0 (by omega)
  refine Ev.step (f := fun k => spec_PadBytes.l0 k s nx (l ++ ups 0) ((0 : Nat) : Int)) (fun k => ?_) e
  simp only [spec_PadBytes.j0]
  rw [if_neg (by decide), if_neg (by omega)]
  simp only [Option.bind_some]
  rw [if_pos (by simp; omega)]
  simp [ups_zero]

theorem equal_loop (a b : List Int) (hl : a.length = b.length) (ha : a.length ≤ 100000000) (d : Nat) : ∀ i : Nat, i + d = a.length → Ev (fun k => slices_Equal_byte_byte.l0 k a b (a.length : Int) (i : Int)) (decide (a.drop i = b.drop i)) := by
  induction d with
  | zero =>
    intro i hi
    have h1 : a.drop i = [] := List.drop_eq_nil_of_le (by omega)
    have h2 : b.drop i = [] := List.drop_eq_nil_of_le (by omega)
    rw [h1, h2]
    refine Ev.step (f := fun _ => some true) (fun k => ?_) (Ev.now _)
    simp only [slices_Equal_byte_byte.l0]
    rw [if_neg (by omega)]
  | succ d ih =>
    intro i hi
    have hia : i < a.length := by omega
    have hib : i < b.length := by omega
    have e1 : rd a (i : Int) = a[i] := by simp [rd, List.getD_eq_getElem?_getD, List.getElem?_eq_getElem hia]
    have e2 : rd b (i : Int) = b[i] := by simp [rd, List.getD_eq_getElem?_getD, List.getElem?_eq_getElem hib]
    rw [List.drop_eq_getElem_cons hia, List.drop_eq_getElem_cons hib]
    by_cases he : a[i] = b[i]
    · have hd : decide (a[i] :: a.drop (i + 1) = b[i] :: b.drop (i + 1)) = decide (a.drop (i + 1) = b.drop (i + 1)) := by
        simp only [List.cons.injEq, he, true_and]
      rw [hd]
      refine Ev.step (f := fun k => slices_Equal_byte_byte.l0 k a b (a.length : Int) ((i + 1 : Nat) : Int)) (fun k => ?_) (ih (i + 1) (by omega))
      simp only [slices_Equal_byte_byte.l0]
      rw [if_pos (by omega), if_pos (by omega), if_pos (by omega), if_pos (by omega), e1, e2, if_pos he, wrap_id (by omega) (by omega)]
      rfl
    · have hd : decide (a[i] :: a.drop (i + 1) = b[i] :: b.drop (i + 1)) = false := by simp only [List.cons.injEq, he, false_and, decide_false]
      rw [hd]
      refine Ev.step (f := fun _ => some false) (fun k => ?_) (Ev.now _)
      simp only [slices_Equal_byte_byte.l0]
      rw [if_pos (by omega), if_pos (by omega), if_pos (by omega), if_pos (by omega), e1, e2, if_neg he]
theorem equal_ev (a b : List Int) (ha : a.length ≤ 100000000) : Ev (fun k => slices_Equal_byte_byte.f k a b) (decide (a = b)) := by
  unfold slices_Equal_byte_byte.f
  by_cases hl : (a.length : Int) = b.length
  · simp only [if_pos hl]
    have := equal_loop a b (by omega) ha a.length 0 (by omega)
    simpa using this
  · simp only [if_neg hl]
    have : decide (a = b) = false := by
      refine decide_eq_false (fun h => hl (by rw [h]))
    rw [this]
    exact Ev.now _

theorem rd_app_left (a b : List Int) (i : Nat) (h : i < a.length) : rd (a ++ b) (i : Int) = rd a (i : Int) := by
  simp [rd, List.getD_eq_getElem?_getD, List.getElem?_append_left h]
theorem rd_app_right (a b : List Int) (i : Int) (h : (a.length : Int) ≤ i) : rd (a ++ b) i = rd b (i - a.length) := by
  unfold rd
  rw [List.getD_eq_getElem?_getD, List.getD_eq_getElem?_getD, List.getElem?_append_right (by omega)]
  congr 2
  omega
theorem unpad_loop (l : List Int) (s nx : Int) (hs : 1 ≤ s ∧ s ≤ 16) (hn : 0 ≤ nx ∧ nx ≤ 255) (hl : l.length ≤ 400) (many : Int) (d : Nat) : ∀ q : Int, 1 ≤ q → q + d = s →
    Ev (fun k => impl_UnpadBytes.l0 k (padded l s nx) many nx l q) (0, l, nx, many) := by
  induction d with
  | zero =>
    intro q hq hd
    obtain rfl : q = s := by omega
    have e1 := pad_ev l q nx hs.1 hs.2 (by omega)
    have e2 := equal_ev (padded l q nx) (padded l q nx) (by have := padded_small l q nx hs.1 hs.2; omega)
    rw [show decide (padded l q nx = padded l q nx) = true from decide_eq_true rfl] at e2
    refine Ev.step (f := fun k => (impl_pad.f k l q nx).bind fun t => (slices_Equal_byte_byte.f k t (padded l q nx)).bind fun u => if u = true then (slices_Clone_byte_byte.f l).bind fun z => some (0, z, wrap64 nx, many) else impl_UnpadBytes.l0 k (padded l q nx) many nx l (wrap64 (q + 1))) (fun k => ?_) ?_
    · simp only [impl_UnpadBytes.l0]
      rw [if_pos (by omega), if_pos (by omega)]
    · refine Ev.bind e1 (Ev.bind e2 ?_)
      simp only [if_true]
      rw [clone_eq l (by omega), wrap_id (by omega) (by omega)]
      exact Ev.now _
  | succ d ih =>
    intro q hq hd
    have e1 := pad_ev l q nx hq (by omega) (by omega)
    have e2 := equal_ev (padded l q nx) (padded l s nx) (by have := padded_small l q nx hq (by omega); omega)
    refine Ev.step (f := fun k => (impl_pad.f k l q nx).bind fun t => (slices_Equal_byte_byte.f k t (padded l s nx)).bind fun u => if u = true then (slices_Clone_byte_byte.f l).bind fun z => some (0, z, wrap64 nx, many) else impl_UnpadBytes.l0 k (padded l s nx) many nx l (wrap64 (q + 1))) (fun k => ?_) ?_
    · simp only [impl_UnpadBytes.l0]
      rw [if_pos (by omega), if_pos (by omega)]
    · refine Ev.bind e1 (Ev.bind e2 ?_)
      by_cases hp : padded l q nx = padded l s nx
      · simp only [hp, decide_true, if_true]
        rw [clone_eq l (by omega), wrap_id (by omega) (by omega)]
        exact Ev.now _
      · simp only [hp, decide_false]
        rw [wrap_id (x := q + 1) (by omega) (by omega)]
        exact ih (q + 1) (by omega) (by omega)
theorem unpad_ok (l : List Int) (s nx : Int) (hs : 1 ≤ s ∧ s ≤ 16) (hn : 0 ≤ nx ∧ nx ≤ 255) (hl : l.length ≤ 400) :
    Ev (fun k => impl_UnpadBytes.f k (padded l s nx)) (0, l, nx, need l.length s) := by
  have hr := need_range (n := l.length) hs.1
  have hlen := padded_length l s nx hs.1
  have hN : wrap64 (((padded l s nx).length : Int) - 2) = l.length + need l.length s := by rw [wrap_id (by omega) (by omega)]; omega
  have hb : ((l ++ ups (need l.length s).toNat).length : Int) = l.length + need l.length s := by simp [ups_length]; omega
  have hm : rd (padded l s nx) (l.length + need l.length s) = need l.length s := by
    unfold padded
    rw [rd_app_right _ _ _ (by omega), hb]
    simp [rd]
  have hx : rd (padded l s nx) (l.length + need l.length s + 1) = nx := by
    unfold padded
    rw [rd_app_right _ _ _ (by omega), hb]
    have : (l.length : Int) + need l.length s + 1 - (l.length + need l.length s) = 1 := by omega
    rw [this]
    simp [rd]
  refine Ev.congr (f := fun k => impl_UnpadBytes.j0 k (padded l s nx) (l.length + need l.length s) (decide (need l.length s > l.length + need l.length s))) (fun k => by
    unfold impl_UnpadBytes.f
    rw [if_neg (by omega), hN, if_neg (by omega), if_pos (by omega), if_pos (by omega), hm, wrap_id (x := need l.length s) (by omega) (by omega)]) ?_
  have e := unpad_loop l s nx hs hn hl (need l.length s) (s - 1).toNat 1 (by omega) (by omega)
  refine Ev.step (f := fun k => impl_UnpadBytes.l0 k (padded l s nx) (need l.length s) nx l 1) (fun k => ?_) e
  simp only [impl_UnpadBytes.j0]
  rw [if_neg (by simp only [decide_eq_true_eq]; omega), if_pos (by omega), if_pos (by omega), wrap_id (x := (l.length : Int) + need l.length s + 1) (by omega) (by omega), if_pos (by omega), if_pos (by omega), hm, wrap_id (x := need l.length s) (by omega) (by omega)]
  have hsub : (l.length : Int) + need l.length s - need l.length s = l.length := by omega
  rw [hsub, wrap_id (x := (l.length : Int)) (by omega) (by omega), if_pos (by omega), if_pos (by omega), hx, Int.toNat_natCast]
  have : (padded l s nx).take l.length = l := by
    unfold padded
    rw [List.append_assoc, List.take_left]
  rw [this]
end Go.Proofs.Ytojimlmflfiijaa.Q
