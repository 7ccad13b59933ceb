/- For all arguments UnwrapOuter answers as the reference, leaves its argument alone and owns its answer. No condition beyond those of the statement. -/
import Derived.Test.YtojimlmflfiijaaGUO
set_option linter.unusedSimpArgs false
set_option linter.unusedVariables false
namespace Go.Proofs.Ytojimlmflfiijaa.Pure
open Go.RowKit Go.Proofs.Ytojimlmflfiijaa.PA Go.Proofs.Ytojimlmflfiijaa.Q Go.Proofs.YtojimlmflfiijaaW.PrintWords Go.Proofs.YtojimlmflfiijaaW.PrintLast

theorem FnExactUnwrapOuter : laws_FnExactUnwrapOuter.Pure := by
  intro l key seq hm hl hw h1 h2
  have hb := bytes_of_wf hw
  refine Ev.rounds ?_
  unfold laws_FnExactUnwrapOuter.f
  by_cases big : (l.length : Int) > 1048576
  · simp only [if_pos big]
    exact Ev.now _
  · simp only [if_neg big]
    have hsm := unwrapOf_small l key seq
    have hc := copy_ev l (by omega)
    refine Ev.bind hc ?_
    refine Ev.bind (unwrap_spec l key seq hb) ?_
    refine Ev.bind hc ?_
    refine Ev.bind (unwrap_impl l key seq hb) ?_
    have hr := eqInner_ev (unwrapOf l key seq).1 (unwrapOf l key seq).2.1 (unwrapOf l key seq).2.2 (by omega)
    refine Ev.bind hr ?_
    simp only [if_true]
    refine Ev.bind hc ?_
    refine Ev.bind (same_ev l (by omega)) ?_
    simp only [if_true]
    refine Ev.bind (mark_ev l 1 (by omega) (by omega) (by omega)) ?_
    simp only [if_neg (show ¬ (1 + (l.length : Int) < 0) by omega)]
    refine Ev.bind hr ?_
    simp only [Bool.not_true]
    refine Ev.step (fun k => by simp only [laws_FnExactUnwrapOuter.j0, Bool.false_eq_true, if_false]; rfl) ?_
    have hmk := markInner_ev (unwrapOf l key seq).1 (unwrapOf l key seq).2.1 (unwrapOf l key seq).2.2 (by omega)
    have hhd := heldInner_ev (unwrapOf l key seq).1 (unwrapOf l key seq).2.1 (unwrapOf l key seq).2.2.length (by omega)
    refine Ev.bind hmk ?_
    refine Ev.bind hhd ?_
    simp only [if_neg (show ¬ (1 + ((unwrapOf l key seq).2.2.length : Int) < 0) by omega), if_true]
    refine Ev.bind hc ?_
    refine Ev.bind (unwrap_impl l key seq hb) ?_
    refine Ev.bind hr ?_
    simp only [if_true]
    refine Ev.bind hhd ?_
    simp only [if_neg (show ¬ (1 + ((unwrapOf l key seq).2.2.length : Int) < 0) by omega), if_true]
    exact Ev.now _

end Go.Proofs.Ytojimlmflfiijaa.Pure
