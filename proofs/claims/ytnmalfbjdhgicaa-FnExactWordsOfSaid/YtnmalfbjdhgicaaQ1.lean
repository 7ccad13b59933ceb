/- Plain laws of the pieces of a line between blanks: as Go's FieldsFunc goes, rune by rune, and byte by byte, it is the same. No program in sight. -/
import Derived.Lib.FieldsP
import Derived.Lib.DecodeN
set_option linter.unusedSimpArgs false
set_option linter.unusedVariables false
namespace Go.Proofs.Ytnmalfbjdhgicaa.Q
open Go.Lib
/-- Byte by byte: the spans between blanks that are closed, and the one that is open. -/
def bsp (s : ByteArray) : Nat → Nat → Option Nat → List (Nat × Nat) → List (Nat × Nat) × Option Nat
  | 0, _, st, acc => (acc, st)
  | f + 1, i, st, acc =>
    if i < s.size then
      if (s.get! i).toNat = 32 then
        (match st with
         | some a => bsp s f (i + 1) none (acc ++ [(a, i)])
         | none => bsp s f (i + 1) none acc)
      else bsp s f (i + 1) (some (st.getD i)) acc
    else (acc, st)
theorem bsp_zero (s : ByteArray) (i : Nat) (st : Option Nat) (acc : List (Nat × Nat)) : bsp s 0 i st acc = (acc, st) := rfl
theorem bsp_some (s : ByteArray) (f i a : Nat) (acc : List (Nat × Nat)) : bsp s (f + 1) i (some a) acc = if i < s.size then if (s.get! i).toNat = 32 then bsp s f (i + 1) none (acc ++ [(a, i)]) else bsp s f (i + 1) (some a) acc else (acc, some a) := rfl
theorem bsp_none (s : ByteArray) (f i : Nat) (acc : List (Nat × Nat)) : bsp s (f + 1) i none acc = if i < s.size then if (s.get! i).toNat = 32 then bsp s f (i + 1) none acc else bsp s f (i + 1) (some i) acc else (acc, none) := rfl
theorem spans_some (p : Nat → Bool) (s : ByteArray) (f i a : Nat) (acc : List (Nat × Nat)) : spansFromP p s (f + 1) i (some a) acc = if i < s.size then if p (Utf8.decode s i).1 then spansFromP p s f (i + (Utf8.decode s i).2) none (acc ++ [(a, i)]) else spansFromP p s f (i + (Utf8.decode s i).2) (some a) acc else (acc, some a) := rfl
theorem spans_none (p : Nat → Bool) (s : ByteArray) (f i : Nat) (acc : List (Nat × Nat)) : spansFromP p s (f + 1) i none acc = if i < s.size then if p (Utf8.decode s i).1 then spansFromP p s f (i + (Utf8.decode s i).2) none acc else spansFromP p s f (i + (Utf8.decode s i).2) (some i) acc else (acc, none) := rfl
theorem bsp_end (s : ByteArray) (f i : Nat) (st : Option Nat) (acc : List (Nat × Nat)) (h : s.size ≤ i) : bsp s f i st acc = (acc, st) := by
  cases f with
  | zero => rfl
  | succ f => cases st with
    | none => rw [bsp_none, if_neg (by omega)]
    | some a => rw [bsp_some, if_neg (by omega)]
theorem bsp_fuel (s : ByteArray) (f : Nat) : ∀ (i : Nat) (st : Option Nat) (acc : List (Nat × Nat)), s.size ≤ i + f → bsp s f i st acc = bsp s (f + 1) i st acc := by
  induction f with
  | zero => intro i st acc h; rw [bsp_end s 0 i st acc (by omega), bsp_end s 1 i st acc (by omega)]
  | succ f ih =>
    intro i st acc h
    cases st with
    | none =>
      rw [bsp_none, bsp_none]
      by_cases hi : i < s.size
      · rw [if_pos hi, if_pos hi, ih _ _ _ (by omega), ih _ _ _ (by omega)]
      · rw [if_neg hi, if_neg hi]
    | some a =>
      rw [bsp_some, bsp_some]
      by_cases hi : i < s.size
      · rw [if_pos hi, if_pos hi, ih _ _ _ (by omega), ih _ _ _ (by omega)]
      · rw [if_neg hi, if_neg hi]
theorem bsp_more (s : ByteArray) (f i : Nat) (st : Option Nat) (acc : List (Nat × Nat)) (h : s.size ≤ i + f) (d : Nat) : bsp s (f + d) i st acc = bsp s f i st acc := by
  induction d with
  | zero => rfl
  | succ d ih => rw [← Nat.add_assoc, ← bsp_fuel s (f + d) i st acc (by omega), ih]
/-- A byte that is no blank: the span stays open. -/
theorem bsp_step (s : ByteArray) (f i : Nat) (st : Option Nat) (acc : List (Nat × Nat)) (hi : i < s.size) (hb : (s.get! i).toNat ≠ 32) : bsp s (f + 1) i st acc = bsp s f (i + 1) (some (st.getD i)) acc := by
  cases st with
  | none => rw [bsp_none, if_pos hi, if_neg hb]; rfl
  | some a => rw [bsp_some, if_pos hi, if_neg hb]; rfl
/-- What one rune says of its bytes. -/
theorem rune_shape (s : ByteArray) (i : Nat) (hi : i < s.size) :
    ((s.get! i).toNat = 32 ∧ Utf8.decode s i = (32, 1)) ∨
    ((Utf8.decode s i).1 ≠ 32 ∧ 1 ≤ (Utf8.decode s i).2 ∧ i + (Utf8.decode s i).2 ≤ s.size ∧ (s.get! i).toNat ≠ 32 ∧ (1 < (Utf8.decode s i).2 → (s.get! (i + 1)).toNat ≠ 32) ∧ (2 < (Utf8.decode s i).2 → (s.get! (i + 2)).toNat ≠ 32) ∧ (3 < (Utf8.decode s i).2 → (s.get! (i + 3)).toNat ≠ 32) ∧ (Utf8.decode s i).2 ≤ 4) := by
  rw [decode_at]
  generalize (s.get! i).toNat = b0
  generalize (s.get! (i + 1)).toNat = b1
  generalize (s.get! (i + 2)).toNat = b2
  generalize (s.get! (i + 3)).toNat = b3
  by_cases h32 : b0 = 32
  · subst h32
    exact .inl ⟨rfl, by unfold decodeN; simp⟩
  · right
    unfold decodeN
    repeat' split
    all_goals
      dsimp only
      refine ⟨by omega, by omega, by omega, h32, fun _ => by omega, fun _ => by omega, fun _ => by omega, by omega⟩
theorem spans_eq (s : ByteArray) (f : Nat) : ∀ (i : Nat) (st : Option Nat) (acc : List (Nat × Nat)), s.size ≤ i + f → spansFromP (fun r => r == 32) s f i st acc = bsp s f i st acc := by
  induction f with
  | zero => intro i st acc _; rfl
  | succ f ih =>
    intro i st acc h
    by_cases hi : i < s.size
    · rcases rune_shape s i hi with ⟨hb, hd⟩ | ⟨hd, hw, hle, hb0, hb1, hb2, hb3, hw4⟩
      · cases st with
        | none =>
          rw [spans_none, bsp_none, if_pos hi, if_pos hi, if_pos hb, hd]
          simp only [beq_self_eq_true, if_true]
          exact ih _ _ _ (by omega)
        | some a =>
          rw [spans_some, bsp_some, if_pos hi, if_pos hi, if_pos hb, hd]
          simp only [beq_self_eq_true, if_true]
          exact ih _ _ _ (by omega)
      · have hr : ((Utf8.decode s i).1 == 32) = false := beq_eq_false_iff_ne.2 hd
        have e1 : spansFromP (fun r => r == 32) s (f + 1) i st acc = bsp s f (i + (Utf8.decode s i).2) (some (st.getD i)) acc := by
          cases st with
          | none => rw [spans_none, if_pos hi]; simp only [hr, Bool.false_eq_true, if_false]; exact ih _ _ _ (by omega)
          | some a => rw [spans_some, if_pos hi]; simp only [hr, Bool.false_eq_true, if_false]; exact ih _ _ _ (by omega)
        generalize (Utf8.decode s i).2 = w at *
        refine e1.trans ?_
        have k := bsp_more s (s.size - i) i st acc (by omega) (f + 1 - (s.size - i))
        have k2 := bsp_more s (s.size - (i + w)) (i + w) (some (st.getD i)) acc (by omega) (f - (s.size - (i + w)))
        rw [show s.size - i + (f + 1 - (s.size - i)) = f + 1 by omega] at k
        rw [show s.size - (i + w) + (f - (s.size - (i + w))) = f by omega] at k2
        rw [k, k2]
        obtain ⟨g, hg⟩ : ∃ g, s.size - (i + w) = g := ⟨_, rfl⟩
        rw [hg]
        have hcase : w = 1 ∨ w = 2 ∨ w = 3 ∨ w = 4 := by omega
        rcases hcase with rfl | rfl | rfl | rfl
        · rw [show s.size - i = g + 1 by omega, bsp_step s g i st acc hi hb0]
        · rw [show s.size - i = g + 1 + 1 by omega, bsp_step s _ i st acc hi hb0, bsp_step s _ (i + 1) _ acc (by omega) (hb1 (by omega))]
          rfl
        · rw [show s.size - i = g + 1 + 1 + 1 by omega, bsp_step s _ i st acc hi hb0, bsp_step s _ (i + 1) _ acc (by omega) (hb1 (by omega)), bsp_step s _ (i + 1 + 1) _ acc (by omega) (hb2 (by omega))]
          rfl
        · rw [show s.size - i = g + 1 + 1 + 1 + 1 by omega, bsp_step s _ i st acc hi hb0, bsp_step s _ (i + 1) _ acc (by omega) (hb1 (by omega)), bsp_step s _ (i + 1 + 1) _ acc (by omega) (hb2 (by omega)), bsp_step s _ (i + 1 + 1 + 1) _ acc (by omega) (hb3 (by omega))]
          rfl
    · cases st with
      | none => rw [spans_none, bsp_none, if_neg hi, if_neg hi]
      | some a => rw [spans_some, bsp_some, if_neg hi, if_neg hi]
end Go.Proofs.Ytnmalfbjdhgicaa.Q
