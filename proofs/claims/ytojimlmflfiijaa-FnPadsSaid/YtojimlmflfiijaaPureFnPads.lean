/- For every code: what is padded is unpadded, and comes out in whole blocks. No condition beyond those of the statement. -/
import Derived.Test.YtojimlmflfiijaaPA3
import Derived.Test.YtojimlmflfiijaaQ2
namespace Go.Proofs.Ytojimlmflfiijaa.Pure
open Go.RowKit Go.Proofs.Ytojimlmflfiijaa.PA Go.Proofs.Ytojimlmflfiijaa.Q Go.Proofs.YtojimlmflfiijaaW.PrintWords Go.Proofs.YtojimlmflfiijaaW.PrintLast

theorem draw_pad (code : List Int) (hc : Bytes code) (hl : code.length ≤ 1048576) : ∃ data s nx, Ev (fun k => spec_DrawPadBytes.f k code) (data, s, nx) ∧ data.length ≤ 401 := by
  obtain ⟨r, at1, e, hr, hlen, g0, g1⟩ := data_ok code hc hl 0 (by omega) (by omega)
  obtain ⟨s, hs, es⟩ := pick_ok code at1 [4, 8, 1, 16, 0, 17] hc hl (by omega) (by omega) (by simp) (by simp)
  obtain ⟨n, hn, en⟩ := pick_ok code (at1 + 1) [4, 0, 255, 256] hc hl (by omega) (by omega) (by simp) (by simp)
  refine ⟨r, s, n, ?_, hlen⟩
  unfold spec_DrawPadBytes.f
  rw [source_eq]
  simp only [Option.bind_some]
  refine Ev.bind e ?_
  simp only [es, Option.bind_some, en]
  exact Ev.now _

theorem FnPads : laws_FnPads.Pure := by
  intro l0 hm hl hw
  have hb := bytes_of_wf hw
  refine Ev.rounds ?_
  unfold laws_FnPads.f
  rw [big_eq]
  simp only [Option.bind_some]
  by_cases big : (l0.length : Int) > 1048576
  · simp only [decide_eq_true big, if_true]
    exact Ev.now _
  · simp only [decide_eq_false big, Bool.false_eq_true, if_false]
    obtain ⟨data, s, nx, ed, hdl⟩ := draw_pad l0 hb (by omega)
    refine Ev.bind ed ?_
    simp only
    by_cases hs : 1 ≤ s ∧ s ≤ 16
    · by_cases hn : 0 ≤ nx ∧ nx ≤ 255
      · by_cases hq : data.length ≤ 400
        · refine Ev.bind (PadBytes_ok data s nx hs hn hq) ?_
          simp only [if_true]
          refine Ev.bind (unpad_ok data s nx hs hn hq) ?_
          have hr := need_range (n := data.length) hs.1
          simp only [if_neg (show ¬ s = 0 by omega), padded_mod data s nx hs.1 hs.2, if_true, decide_eq_true hr.2]
          exact Ev.now _
        · refine Ev.bind (PadBytes_many data s nx hs hn (by omega)) ?_
          simp only [if_neg (show ¬ (2 : Int) = 0 by decide)]
          refine Ev.bind (specPad_many data s nx hs hn (by omega)) ?_
          exact Ev.now _
      · refine Ev.bind (PadBytes_bad data s nx (.inr hn)) ?_
        simp only [if_neg (show ¬ (3 : Int) = 0 by decide)]
        refine Ev.bind (specPad_bad data s nx (.inr hn)) ?_
        exact Ev.now _
    · refine Ev.bind (PadBytes_bad data s nx (.inl hs)) ?_
      simp only [if_neg (show ¬ (3 : Int) = 0 by decide)]
      refine Ev.bind (specPad_bad data s nx (.inl hs)) ?_
      exact Ev.now _

end Go.Proofs.Ytojimlmflfiijaa.Pure
