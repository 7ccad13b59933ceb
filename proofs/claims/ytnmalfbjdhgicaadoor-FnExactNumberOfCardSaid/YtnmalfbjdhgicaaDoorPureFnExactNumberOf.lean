/- The plain law of FnExactNumberOf: digit by digit and by the library's Trim and ParseInt, a word reads as the same number, or as none. -/
import Derived.Test.YtnmalfbjdhgicaaDoorGNO
set_option linter.unusedSimpArgs false
set_option linter.unusedVariables false
namespace Go.Proofs.YtnmalfbjdhgicaaDoor.Pure
open Go.RowKit Go.Proofs.YtnmalfbjdhgicaaDoor.PA Go.Proofs.YtnmalfbjdhgicaaDoorW.PrintWords Go.Proofs.YtnmalfbjdhgicaaDoorW.PrintLast
theorem wrap_id {x : Int} (h0 : -9223372036854775808 ≤ x) (h1 : x ≤ 9223372036854775807) : wrap64 x = x := by
  unfold wrap64
  omega
theorem bt_get (s : ByteArray) (i : Nat) (h : i < s.data.toList.length) : bt s (i : Int) = ((s.data.toList[i]).toNat : Int) := by
  have h' : i < s.size := by rw [data_length] at h; exact h
  unfold bt
  rw [dif_pos (by simpa using h')]
  simp [ByteArray.getElem_eq_getElem_data]
theorem pow_le (i : Nat) (h : i ≤ 9) : 10 ^ i ≤ 1000000000 := by
  have : 10 ^ i ≤ 10 ^ 9 := Nat.pow_le_pow_right (by omega) h
  omega
theorem loop_ev (s : ByteArray) (hs : s.size ≤ 9) (d : Nat) : ∀ (i n : Nat), i + d = s.size → n < 10 ^ i →
    Ev (fun k => spec_l18Number.l0 k s (n : Int) (i : Int)) (if ∀ c ∈ s.data.toList.drop i, isDig c = true then ((numL (s.data.toList.drop i) n : Int), true) else (0, false)) := by
  have hl := data_length s
  induction d with
  | zero =>
    intro i n hi hn
    rw [List.drop_eq_nil_of_le (by omega), if_pos (by simp)]
    refine Ev.step (f := fun _ => some ((numL [] n : Int), true)) (fun k => ?_) (Ev.now _)
    simp only [spec_l18Number.l0]
    rw [if_neg (by omega)]
    rfl
  | succ d ih =>
    intro i n hi hn
    have hlt : i < s.data.toList.length := by omega
    have hb := bt_get s i hlt
    have h255 := (s.data.toList[i]).toNat_lt
    have hp := pow_le i (by omega)
    rw [List.drop_eq_getElem_cons hlt]
    by_cases h48 : (bt s (i : Int)) < 48
    · rw [if_neg (fun h => by
        have := h _ (List.mem_cons_self ..)
        unfold isDig at this
        rw [Bool.and_eq_true, decide_eq_true_iff, decide_eq_true_iff] at this
        omega)]
      refine Ev.step (f := fun _ => some (0, false)) (fun k => ?_) (Ev.now _)
      simp only [spec_l18Number.l0]
      rw [if_pos (by omega), if_pos (by omega), if_pos h48]
    · by_cases h57 : (bt s (i : Int)) > 57
      · rw [if_neg (fun h => by
          have := h _ (List.mem_cons_self ..)
          unfold isDig at this
          rw [Bool.and_eq_true, decide_eq_true_iff, decide_eq_true_iff] at this
          omega)]
        refine Ev.step (f := fun _ => some (0, false)) (fun k => ?_) (Ev.now _)
        simp only [spec_l18Number.l0]
        rw [if_pos (by omega), if_pos (by omega), if_neg h48, if_pos h57]
      · have hd : isDig s.data.toList[i] = true := by
          unfold isDig
          rw [Bool.and_eq_true, decide_eq_true_iff, decide_eq_true_iff]
          omega
        have hn' : n * 10 + ((s.data.toList[i]).toNat - 48) < 10 ^ (i + 1) := by rw [Nat.pow_succ]; omega
        have e := ih (i + 1) (n * 10 + ((s.data.toList[i]).toNat - 48)) (by omega) hn'
        have hall : (∀ c ∈ s.data.toList[i] :: s.data.toList.drop (i + 1), isDig c = true) ↔ (∀ c ∈ s.data.toList.drop (i + 1), isDig c = true) := by
          simp only [List.forall_mem_cons, hd, true_and]
        rw [show numL (s.data.toList[i] :: s.data.toList.drop (i + 1)) n = numL (s.data.toList.drop (i + 1)) (n * 10 + ((s.data.toList[i]).toNat - 48)) from rfl]
        simp only [hall]
        refine Ev.step (f := fun k => spec_l18Number.l0 k s ((n * 10 + ((s.data.toList[i]).toNat - 48) : Nat) : Int) ((i + 1 : Nat) : Int)) (fun k => ?_) e
        simp only [spec_l18Number.l0]
        rw [if_pos (by omega), if_pos (by omega), if_neg h48, if_neg h57, hb]
        have e1 : wrap64 ((wrap64 ((n : Int) * 10)) + ((((s.data.toList[i]).toNat : Int) - 48) % 256)) = ((n * 10 + ((s.data.toList[i]).toNat - 48) : Nat) : Int) := by
          rw [wrap_id (x := (n : Int) * 10) (by omega) (by omega), wrap_id (by omega) (by omega)]
          omega
        rw [e1, wrap_id (by omega) (by omega)]
        rfl
theorem spec_ev (s : ByteArray) : Ev (fun k => spec_NumberOf.f k s) (if (1 ≤ s.size ∧ s.size ≤ 9) ∧ ∀ c ∈ s.data.toList, isDig c = true then (0, (numL s.data.toList 0 : Int)) else (5, 0)) := by
  unfold spec_NumberOf.f spec_l18Number.f
  have no : ¬ (1 ≤ s.size ∧ s.size ≤ 9) → Ev (fun k => ((some (0, false) : Option (Int × Bool))).bind (fun bt102 : Int × Bool => (if bt102.2 = true then (some (0, bt102.1)) else (some (5, 0)) : Option (Int × Int)))) (if (1 ≤ s.size ∧ s.size ≤ 9) ∧ ∀ c ∈ s.data.toList, isDig c = true then (0, (numL s.data.toList 0 : Int)) else (5, 0)) := fun h => by
    rw [if_neg (fun h' => h h'.1)]
    simp only [Option.bind_some, Bool.false_eq_true, if_false]
    exact Ev.now _
  by_cases h1 : (s.size : Int) < 1
  · simp only [if_pos h1]
    refine Ev.step (f := fun _ => (some (0, false) : Option (Int × Bool)).bind (fun bt102 : Int × Bool => (if bt102.2 = true then (some (0, bt102.1)) else (some (5, 0)) : Option (Int × Int)))) (fun k => ?_) (no (by omega))
    simp only [spec_l18Number.j0, if_true]
  · simp only [if_neg h1]
    by_cases h9 : (s.size : Int) > 9
    · simp only [decide_eq_true h9]
      refine Ev.step (f := fun _ => (some (0, false) : Option (Int × Bool)).bind (fun bt102 : Int × Bool => (if bt102.2 = true then (some (0, bt102.1)) else (some (5, 0)) : Option (Int × Int)))) (fun k => ?_) (no (by omega))
      simp only [spec_l18Number.j0, if_true]
    · simp only [decide_eq_false h9]
      have e := loop_ev s (by omega) s.size 0 0 (by omega) (by simp)
      rw [List.drop_zero] at e
      refine Ev.step (f := fun k => (spec_l18Number.l0 k s 0 0).bind fun bt102 => (if bt102.2 = true then (some (0, bt102.1)) else (some (5, 0)))) (fun k => ?_) ?_
      · simp only [spec_l18Number.j0, Bool.false_eq_true, if_false]
      · refine Ev.bind e ?_
        by_cases hd : ∀ c ∈ s.data.toList, isDig c = true
        · simp only [if_pos hd, if_pos (show (1 ≤ s.size ∧ s.size ≤ 9) ∧ ∀ c ∈ s.data.toList, isDig c = true from ⟨⟨by omega, by omega⟩, hd⟩), if_true]
          exact Ev.now _
        · simp only [if_neg hd, if_neg (show ¬ ((1 ≤ s.size ∧ s.size ≤ 9) ∧ ∀ c ∈ s.data.toList, isDig c = true) from fun h => hd h.2), Bool.false_eq_true, if_false]
          exact Ev.now _
theorem FnExactNumberOf : laws_FnExactNumberOf.Pure := by
  intro s _
  refine Ev.rounds ?_
  unfold laws_FnExactNumberOf.f
  by_cases big : (s.size : Int) > 1048576
  · simp only [if_pos big]
    exact Ev.now _
  · simp only [if_neg big]
    refine Ev.bind (spec_ev s) ?_
    have e : impl_NumberOf.f s = some (if (1 ≤ s.size ∧ s.size ≤ 9) ∧ ∀ c ∈ s.data.toList, isDig c = true then (0, (numL s.data.toList 0 : Int)) else (5, 0)) := by
      unfold impl_NumberOf.f
      split <;> rfl
    rw [e]
    simp only [Option.bind_some, laws_eqIntResult.f, if_true]
    exact Ev.now _
end Go.Proofs.YtnmalfbjdhgicaaDoor.Pure
