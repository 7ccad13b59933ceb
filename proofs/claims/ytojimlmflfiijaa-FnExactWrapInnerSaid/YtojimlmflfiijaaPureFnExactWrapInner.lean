/- For all arguments WrapInner answers as the reference, leaves its argument alone and owns its answer. No condition beyond those of the statement. -/
import Derived.Test.YtojimlmflfiijaaGWI
set_option linter.unusedSimpArgs false
set_option linter.unusedVariables false
namespace Go.Proofs.Ytojimlmflfiijaa.Pure
open Go.RowKit Go.Proofs.Ytojimlmflfiijaa.PA Go.Proofs.Ytojimlmflfiijaa.Q Go.Proofs.YtojimlmflfiijaaW.PrintWords Go.Proofs.YtojimlmflfiijaaW.PrintLast

theorem range15_eq (spi key seq : Int) : spec_l15Range.f spi key seq = some (decide (RightWrap spi key seq)) := by
  unfold spec_l15Range.f
  simp only [l1In_eq, Option.bind_some]
  by_cases h1 : 1 ≤ spi ∧ spi ≤ 4294967295
  · rw [decide_eq_true h1, if_pos rfl]
    by_cases h2 : 0 ≤ key ∧ key ≤ 4294967295
    · rw [decide_eq_true h2, if_pos rfl]
      by_cases h3 : 1 ≤ seq ∧ seq ≤ 1099511627776
      · rw [decide_eq_true h3, decide_eq_true (show RightWrap spi key seq from ⟨h1, h2, h3⟩)]
      · rw [decide_eq_false h3, decide_eq_false (show ¬ RightWrap spi key seq from fun h => h3 h.2.2)]
    · rw [decide_eq_false h2, if_neg (by decide), decide_eq_false (show ¬ RightWrap spi key seq from fun h => h2 h.2.1)]
  · rw [decide_eq_false h1, if_neg (by decide), decide_eq_false (show ¬ RightWrap spi key seq from fun h => h1 h.1)]
theorem wrap_spec (spi key seq : Int) (inner : List Int) (hb : Bytes inner) (hl : inner.length ≤ 10000000) : Ev (fun k => spec_WrapInner.f k spi key seq inner) (wrapOf spi key seq inner) := by
  unfold spec_WrapInner.f wrapOf
  simp only [range15_eq, Option.bind_some]
  by_cases hw : RightWrap spi key seq
  · simp only [decide_eq_true hw, if_true, if_pos hw]
    by_cases h4 : inner.length > 240
    · simp only [if_pos h4, if_pos (show (inner.length : Int) > 240 by omega)]
      exact Ev.now _
    · simp only [if_neg h4, if_neg (show ¬ ((inner.length : Int) > 240) by omega)]
      have hp := padded_small inner 4 4 (by omega) (by omega)
      have hs := sealed_length key seq (padded inner 4 4)
      refine Ev.bind (specBytes4_ev spi) ?_
      rw [Int.tmod_eq_emod_of_nonneg (by have := hw.2.2.1; omega)]
      have e4 := specBytes4_ev (seq % 4294967296)
      rw [put4_mod (by have := hw.2.2.1; omega)] at e4
      refine Ev.bind e4 ?_
      simp only [put4_length, if_pos (show 4 + 4 < 140737488355328 by decide), Option.bind_some]
      refine Ev.bind (specPad_ok inner 4 4 ⟨by omega, by omega⟩ ⟨by omega, by omega⟩ (by omega)) ?_
      refine Ev.bind (specSeal_ok key seq _ ⟨hw.2.1, ⟨by have := hw.2.2.1; omega, hw.2.2.2⟩⟩ (padded_bytes (by omega) (by omega) (by omega) hb) (show (padded inner 4 4).length ≤ 480 by omega)) ?_
      simp only [List.length_append, put4_length, hs]
      simp only [if_pos (show 4 + 4 + ((padded inner 4 4).length + 4) < 140737488355328 by omega)]
      exact Ev.now _
  · simp only [decide_eq_false hw, Bool.false_eq_true, if_false, if_neg hw]
    exact Ev.now _
theorem wrapOf_small (spi key seq : Int) (inner : List Int) : (wrapOf spi key seq inner).2.length ≤ 1000 := by
  unfold wrapOf
  by_cases hw : RightWrap spi key seq
  · rw [if_pos hw]
    by_cases h4 : inner.length > 240
    · rw [if_pos h4]; simp
    · rw [if_neg h4]
      have hp := padded_small inner 4 4 (by omega) (by omega)
      have hs := sealed_length key seq (padded inner 4 4)
      simp only [List.length_append, put4_length, hs]
      omega
  · rw [if_neg hw]; simp

theorem FnExactWrapInner : laws_FnExactWrapInner.Pure := by
  intro spi key seq l h1 h2 h3 hm hl hw
  have hb := bytes_of_wf hw
  refine Ev.rounds ?_
  unfold laws_FnExactWrapInner.f
  by_cases big : (l.length : Int) > 1048576
  · simp only [if_pos big]
    exact Ev.now _
  · simp only [if_neg big]
    have hsm := wrapOf_small spi key seq l
    have hc := copy_ev l (by omega)
    refine Ev.bind hc ?_
    refine Ev.bind (wrap_spec spi key seq l hb (by omega)) ?_
    refine Ev.bind hc ?_
    refine Ev.bind (wrap_impl spi key seq l hb (by omega)) ?_
    have hr := sameResult_ev (wrapOf spi key seq l).1 (wrapOf spi key seq l).2 (by omega)
    refine Ev.bind hr ?_
    simp only [if_true]
    refine Ev.bind hc ?_
    refine Ev.bind (same_ev l (by omega)) ?_
    simp only [if_true]
    refine Ev.bind (mark_ev l 1 (by omega) (by omega) (by omega)) ?_
    simp only [if_neg (show ¬ (1 + (l.length : Int) < 0) by omega)]
    refine Ev.bind hr ?_
    simp only [Bool.not_true]
    refine Ev.step (fun k => by simp only [laws_FnExactWrapInner.j0, Bool.false_eq_true, if_false]; rfl) ?_
    have hmk := markResult_ev (wrapOf spi key seq l).1 (wrapOf spi key seq l).2 (by omega)
    have hhd := heldResult_ev (wrapOf spi key seq l).1 (wrapOf spi key seq l).2.length (by omega)
    refine Ev.bind hmk ?_
    refine Ev.bind hhd ?_
    simp only [if_neg (show ¬ (1 + ((wrapOf spi key seq l).2.length : Int) < 0) by omega), if_true]
    refine Ev.bind hc ?_
    refine Ev.bind (wrap_impl spi key seq l hb (by omega)) ?_
    refine Ev.bind hr ?_
    simp only [if_true]
    refine Ev.bind hhd ?_
    simp only [if_neg (show ¬ (1 + ((wrapOf spi key seq l).2.length : Int) < 0) by omega), if_true]
    exact Ev.now _

end Go.Proofs.Ytojimlmflfiijaa.Pure
