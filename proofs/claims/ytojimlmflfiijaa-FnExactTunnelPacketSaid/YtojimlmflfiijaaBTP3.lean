-- Written by plus.py and bundle.py, this session's own programs.
import Derived.Test.YtojimlmflfiijaaBTP0
import Derived.Test.YtojimlmflfiijaaBTPU
import Derived.Test.YtojimlmflfiijaaBTP1
import Derived.Test.YtojimlmflfiijaaBTP2
namespace Go.Proofs.Ytojimlmflfiijaa.PA
open Go.RowKit Go.Proofs.YtojimlmflfiijaaW.PrintWords Go.Proofs.YtojimlmflfiijaaW.PrintLast Go.Proofs.YtojimlmflfiijaaW.PrintMore
attribute [local go_sem] max2_int min2_int max_two min_two max_three min_three max_four min_four   -- for this text's walks alone
set_option linter.unusedVariables false
set_option linter.unusedSimpArgs false

/-! ### spec_TunnelPacket: function 34 -/
def spec_TunnelPacket.f (k : Nat) (a0 : Int) (a1 : Int) (a2 : Int) (a3 : Int) (a4 : Int) (a5_0 : Int) (a5_1 : Int) (a5_2 : Int) (a5_3 : Int) (a5_4 : Int) (a5_5 : Int) (l5_6 : List Int) : Option (Int × List Int) := (spec_BuildPacket.f k a5_0 a5_1 a5_2 a5_3 a5_4 a5_5 l5_6).bind fun bt738 => (if bt738.1 = 0 then (if (bt738.2.length : Int) > 170 then (some (2, ([] : List Int))) else ((spec_WrapInner.f k a2 a3 a4 bt738.2).bind fun bt743 => (if bt743.1 = 0 then ((spec_BuildPacket.f k a0 a1 50 64 0 0 bt743.2).bind fun bt748 => (some (bt748.1, bt748.2))) else (some (bt743.1, bt743.2))))) else (some (bt738.1, bt738.2)))
theorem spec_TunnelPacket.mono : ∀ a0 a1 a2 a3 a4 a5 a6 a7 a8 a9 a10 a11 k, LeO (spec_TunnelPacket.f k a0 a1 a2 a3 a4 a5 a6 a7 a8 a9 a10 a11) (spec_TunnelPacket.f (k + 1) a0 a1 a2 a3 a4 a5 a6 a7 a8 a9 a10 a11) := by
 intro a0 a1 a2 a3 a4 a5 a6 a7 a8 a9 a10 a11 k
 unfold spec_TunnelPacket.f
 repeat' first
  | (with_reducible exact spec_BuildPacket.mono _ _ _ _ _ _ _ _)
  | (with_reducible exact spec_WrapInner.mono _ _ _ _ _)
  | (with_reducible exact LeO.refl _)
  | (with_reducible exact LeO.none _)
  | (with_reducible refine LeO.ite ?_ ?_)
  | (with_reducible refine LeO.bind ?_ (fun _ => ?_))
  | exact spec_BuildPacket.mono _ _ _ _ _ _ _ _
  | exact spec_WrapInner.mono _ _ _ _ _
  | exact LeO.none _
  | refine LeO.ite ?_ ?_
  | refine LeO.bind ?_ (fun _ => ?_)
set_option maxHeartbeats 8000000 in
set_option maxRecDepth 100000 in
theorem spec_TunnelPacket.calls (k : Nat) (a0 : Int) (a1 : Int) (a2 : Int) (a3 : Int) (a4 : Int) (a5_0 : Int) (a5_1 : Int) (a5_2 : Int) (a5_3 : Int) (a5_4 : Int) (a5_5 : Int) (A5_6 : Option Addr) (c5_6 : Nat) (l5_6 : List Int) (r1 : Int) (r2 : List Int) (w : World) (hr5_6 : Kd.C (Kd.int .u8) w A5_6 l5_6.length l5_6) (hc5_6 : l5_6.length ≤ c5_6) (h : spec_TunnelPacket.f k a0 a1 a2 a3 a4 a5_0 a5_1 a5_2 a5_3 a5_4 a5_5 l5_6 = some (r1, r2)) :
 Calls Try.prog 34 #[.int .i64 a0, .int .i64 a1, .int .i64 a2, .int .i64 a3, .int .i64 a4, .agg #[.int .i64 a5_0, .int .i64 a5_1, .int .i64 a5_2, .int .i64 a5_3, .int .i64 a5_4, .int .i64 a5_5, .slice A5_6 l5_6.length c5_6]] w fun e w' => ∃ v1_ : Value, e = .returned (.agg #[.int .i64 r1, v1_]) ∧ Kd.R (Kd.int .u8) 5 w' w.heap.size (fun _ => True) v1_ r2 ∧ Below w.heap.size w w' := by
 have hu53 := Try.underlying53
 have hu27 := Try.underlying27
 have HR5_6 := Aside0.mk hr5_6
 have HC5_6 := Aside0.mk hc5_6
 clear hr5_6 hc5_6
 have HB := Aside0.mk (Below.refl w.heap.size w)
 have H : ((spec_BuildPacket.f k a5_0 a5_1 a5_2 a5_3 a5_4 a5_5 l5_6).bind fun bt738 => (if bt738.1 = 0 then (if (bt738.2.length : Int) > 170 then (some (2, ([] : List Int))) else ((spec_WrapInner.f k a2 a3 a4 bt738.2).bind fun bt743 => (if bt743.1 = 0 then ((spec_BuildPacket.f k a0 a1 50 64 0 0 bt743.2).bind fun bt748 => (some (bt748.1, bt748.2))) else (some (bt743.1, bt743.2))))) else (some (bt738.1, bt738.2)))) = some (r1, r2) := h
 clear h
 replace H := Option.bind_eq_some_iff.mp H
 obtain ⟨⟨t738, t739⟩, A70, H⟩ := H
 replace H : (if t738 = 0 then (if (t739.length : Int) > 170 then (some (2, ([] : List Int))) else ((spec_WrapInner.f k a2 a3 a4 t739).bind fun bt743 => (if bt743.1 = 0 then ((spec_BuildPacket.f k a0 a1 50 64 0 0 bt743.2).bind fun bt748 => (some (bt748.1, bt748.2))) else (some (bt743.1, bt743.2))))) else (some (t738, t739))) = some (r1, r2) := H
 have A7 := Aside0.mk A70
 clear A70
 by_cases c8 : t738 = 0
 · rw [if_pos c8] at H
   have c8b0 : (t738 == 0) = true := beq_iff_eq.mpr c8
   have c8b1 : (t738 != 0) = false := bne_eq_false_iff_eq.mpr c8
   clear c8
   by_cases c9 : (t739.length : Int) > 170
   · rw [if_pos c9] at H
     have c9b0 : decide (170 < (t739.length : Int)) = true := decide_eq_true c9
     have c9b1 : decide (170 < t739.length) = true := decide_eq_true (by omega)
     clear c9
     simp only [Option.some.injEq, Prod.mk.injEq] at H
     obtain ⟨rfl, rfl⟩ := H
     go_enter Try.func34, Try.ntmps34
     go_wp2_with (first | ((with_reducible refine gate_dst (N := 11) rfl ?_); refine box_event ?hg (N := 11) ?hd (cs := #[.int .i64 a5_0, .int .i64 a5_1, .int .i64 a5_2, .int .i64 a5_3, .int .i64 a5_4, .int .i64 a5_5, .slice A5_6 l5_6.length c5_6]) (t := 53) ?hr ?_; (case hd => rfl); (case hg => rfl); (case hr => first | (go_simp; done) | (go_simp; rfl)); intro gb736 hg w10 hbox hb; have BK736 := Aside0.mk (hbox); have GW736 := Aside0.mk ((by rw [hg]; exact below_size pb : w.heap.size ≤ gb736)); have GE736 := GW736; replace HB := Aside0.mk (below_step pb hb); clear hb hbox hg) | ((with_reducible refine gate_dst (N := 12) rfl ?_); refine box_event ?hg (N := 12) ?hd (cs := #[.int .i64 0, .slice none 0 0]) (t := 27) ?hr ?_; (case hd => rfl); (case hg => rfl); (case hr => first | (go_simp; done) | (go_simp; rfl)); intro gb737 hg w11 hbox hb; have BK737 := Aside0.mk (hbox); have GW737 := Aside0.mk ((by rw [hg]; exact below_size pb : w.heap.size ≤ gb737)); have GE737 := GW737; have NB736_737 := Aside0.mk ((by rw [hg]; exact Nat.ne_of_lt (blk_lt (up BK736.out)) : gb736 ≠ gb737)); have NB737_736 := Aside0.mk (Ne.symm NB736_737.out); replace BK736 := Aside0.mk (blk_below (up BK736.out) hb); replace HB := Aside0.mk (below_step pb hb); clear hb hbox hg; have hnb12 := NB736_737.out; have hnc12 := NB737_736.out; have hcz13_0 : w11.cell? ⟨gb736, 0, none⟩ = some (.int .i64 a5_0) := (blk_cell BK736.out 0).trans rfl; have hcz13_1 : w11.cell? ⟨gb736, 1, none⟩ = some (.int .i64 a5_1) := (blk_cell BK736.out 1).trans rfl; have hcz13_2 : w11.cell? ⟨gb736, 2, none⟩ = some (.int .i64 a5_2) := (blk_cell BK736.out 2).trans rfl; have hcz13_3 : w11.cell? ⟨gb736, 3, none⟩ = some (.int .i64 a5_3) := (blk_cell BK736.out 3).trans rfl; have hcz13_4 : w11.cell? ⟨gb736, 4, none⟩ = some (.int .i64 a5_4) := (blk_cell BK736.out 4).trans rfl; have hcz13_5 : w11.cell? ⟨gb736, 5, none⟩ = some (.int .i64 a5_5) := (blk_cell BK736.out 5).trans rfl; have hcz13_6 : w11.cell? ⟨gb736, 6, none⟩ = some (.slice A5_6 l5_6.length c5_6) := (blk_cell BK736.out 6).trans rfl; have hfz13_0 := blk_frozen BK736.out 0; have hfz13_1 := blk_frozen BK736.out 1; have hfz13_2 := blk_frozen BK736.out 2; have hfz13_3 := blk_frozen BK736.out 3; have hfz13_4 := blk_frozen BK736.out 4; have hfz13_5 := blk_frozen BK736.out 5; have hfz13_6 := blk_frozen BK736.out 6) | ((with_reducible refine gate_callee (f := 79) rfl ?_); refine goesL_ (some 16) rfl rfl Try.func79 (by kernel_rfl) rfl #[.agg #[.int .i64 a5_0, .int .i64 a5_1, .int .i64 a5_2, .int .i64 a5_3, .int .i64 a5_4, .int .i64 a5_5, .slice A5_6 l5_6.length c5_6]] rfl (by (try simp only [List.map_toArray, List.map_cons, List.map_nil]); first | done | rfl | (simp only [List.length_drop, List.length_take]; rfl)) ?_; (with_reducible refine (spec_BuildPacket.calls k a5_0 a5_1 a5_2 a5_3 a5_4 a5_5 _ _ l5_6 t738 t739 _ ?side1 ?side2 A7.out).mono ?_); (case side1 => exact upC (Kd.C_below HR5_6.out HB.out)); (case side2 => exact HC5_6.out); rintro e w14 ⟨v740, rfl, ho0, hb⟩; refine ⟨_, rfl, ?_⟩; have HO741 := Aside0.mk (Kd.R_lower ho0 (below_size pb)); replace BK736 := Aside0.mk (blk_below (up BK736.out) hb); replace BK737 := Aside0.mk (blk_below (up BK737.out) hb); replace HB := Aside0.mk (below_step pb hb); (try clear hb); (try clear hb2); (try clear hk); (try clear hi); (try clear ho0)) | ((with_reducible refine gate_dst (N := 13) rfl ?_); refine box_event ?hg (N := 13) ?hd (cs := #[.int .i64 0, .slice none 0 0]) (t := 27) ?hr ?_; (case hd => rfl); (case hg => rfl); (case hr => first | (go_simp; done) | (go_simp; rfl)); intro gb742 hg w15 hbox hb; have BK742 := Aside0.mk (hbox); have GW742 := Aside0.mk ((by rw [hg]; exact below_size pb : w.heap.size ≤ gb742)); have GE742 := GW742; have NB736_742 := Aside0.mk ((by rw [hg]; exact Nat.ne_of_lt (blk_lt (up BK736.out)) : gb736 ≠ gb742)); have NB742_736 := Aside0.mk (Ne.symm NB736_742.out); have NB737_742 := Aside0.mk ((by rw [hg]; exact Nat.ne_of_lt (blk_lt (up BK737.out)) : gb737 ≠ gb742)); have NB742_737 := Aside0.mk (Ne.symm NB737_742.out); replace HO741 := Aside0.mk (Kd.R_below (upR HO741.out) hb); replace BK736 := Aside0.mk (blk_below (up BK736.out) hb); replace BK737 := Aside0.mk (blk_below (up BK737.out) hb); replace HB := Aside0.mk (below_step pb hb); clear hb hbox hg; have hnb16 := NB742_736.out; have hnc16 := NB736_742.out; have hnb17 := NB742_737.out; have hnc17 := NB737_742.out; have hcz18_0 : w15.cell? ⟨gb742, 0, none⟩ = some (.int .i64 0) := (blk_cell BK742.out 0).trans rfl; have hcz18_1 : w15.cell? ⟨gb742, 1, none⟩ = some (.slice none 0 0) := (blk_cell BK742.out 1).trans rfl; have hfz18_0 := blk_frozen BK742.out 0; have hfz18_1 := blk_frozen BK742.out 1; obtain ⟨Ao19, co19, eo19⟩ := Kd.R_slice HO741.out; subst eo19; have hcz20_0 : w15.cell? ⟨gb737, 0, none⟩ = some (.int .i64 0) := (blk_cell BK737.out 0).trans rfl; have hcz20_1 : w15.cell? ⟨gb737, 1, none⟩ = some (.slice none 0 0) := (blk_cell BK737.out 1).trans rfl; have hfz20_0 := blk_frozen BK737.out 0; have hfz20_1 := blk_frozen BK737.out 1))
     refine bodyPost_ret (results_cell_row rfl _ _ gb737 27 #[.int .i64 2, .slice none 0 0] (0, 0) _ rfl (by refine up ?_; refine blk_put (cs := #[.int .i64 2, .slice none 0 0]) ?_ 1 _ rfl; refine up ?_; refine blk_put (cs := #[.int .i64 0, .slice none 0 0]) ?_ 0 _ rfl; refine up ?_; refine blk_far ?_ NB737_742.out _; refine up ?_; refine blk_far ?_ NB737_742.out _; exact up BK737.out) Try.underlying27 rfl (by kernel_rfl)) rfl ?_
     exact ⟨_, by first | rfl | (simp [errW_none, errW_some] <;> rfl) | (simp [*, errW_none, errW_some] <;> rfl), by first | exact Kd.R_nil _ _ _ _ _ | exact Kd.N_nil _ _ _ _ _ | exact Kd.V_nil _ _ _ _ _ | exact Kd.Q_nil _ _ _ _ _ | exact Kd.S_nil _ _ _ _ _, by repeat (first | (with_reducible first | exact HB.out | apply below_alloc | apply pw_below_drewN | apply below_drew1 | refine below_set ?_ GE736.out | refine below_set ?_ GE737.out | refine below_set ?_ GE742.out) | exact HB.out)⟩
   · rw [if_neg c9] at H
     have c9b0 : decide (170 < (t739.length : Int)) = false := decide_eq_false c9
     have c9b1 : decide (170 < t739.length) = false := decide_eq_false (by omega)
     clear c9
     replace H := Option.bind_eq_some_iff.mp H
     obtain ⟨⟨t743, t744⟩, A210, H⟩ := H
     replace H : (if t743 = 0 then ((spec_BuildPacket.f k a0 a1 50 64 0 0 t744).bind fun bt748 => (some (bt748.1, bt748.2))) else (some (t743, t744))) = some (r1, r2) := H
     have A21 := Aside0.mk A210
     clear A210
     by_cases c22 : t743 = 0
     · rw [if_pos c22] at H
       have c22b0 : (t743 == 0) = true := beq_iff_eq.mpr c22
       have c22b1 : (t743 != 0) = false := bne_eq_false_iff_eq.mpr c22
       clear c22
       replace H := Option.bind_eq_some_iff.mp H
       obtain ⟨⟨t748, t749⟩, A230, H⟩ := H
       replace H : (some (t748, t749)) = some (r1, r2) := H
       have A23 := Aside0.mk A230
       clear A230
       simp only [Option.some.injEq, Prod.mk.injEq] at H
       obtain ⟨rfl, rfl⟩ := H
       go_enter Try.func34, Try.ntmps34
       go_wp2_with (first | ((with_reducible refine gate_dst (N := 11) rfl ?_); refine box_event ?hg (N := 11) ?hd (cs := #[.int .i64 a5_0, .int .i64 a5_1, .int .i64 a5_2, .int .i64 a5_3, .int .i64 a5_4, .int .i64 a5_5, .slice A5_6 l5_6.length c5_6]) (t := 53) ?hr ?_; (case hd => rfl); (case hg => rfl); (case hr => first | (go_simp; done) | (go_simp; rfl)); intro gb736 hg w24 hbox hb; have BK736 := Aside0.mk (hbox); have GW736 := Aside0.mk ((by rw [hg]; exact below_size pb : w.heap.size ≤ gb736)); have GE736 := GW736; replace HB := Aside0.mk (below_step pb hb); clear hb hbox hg) | ((with_reducible refine gate_dst (N := 12) rfl ?_); refine box_event ?hg (N := 12) ?hd (cs := #[.int .i64 0, .slice none 0 0]) (t := 27) ?hr ?_; (case hd => rfl); (case hg => rfl); (case hr => first | (go_simp; done) | (go_simp; rfl)); intro gb737 hg w25 hbox hb; have BK737 := Aside0.mk (hbox); have GW737 := Aside0.mk ((by rw [hg]; exact below_size pb : w.heap.size ≤ gb737)); have GE737 := GW737; have NB736_737 := Aside0.mk ((by rw [hg]; exact Nat.ne_of_lt (blk_lt (up BK736.out)) : gb736 ≠ gb737)); have NB737_736 := Aside0.mk (Ne.symm NB736_737.out); replace BK736 := Aside0.mk (blk_below (up BK736.out) hb); replace HB := Aside0.mk (below_step pb hb); clear hb hbox hg; have hnb26 := NB736_737.out; have hnc26 := NB737_736.out; have hcz27_0 : w25.cell? ⟨gb736, 0, none⟩ = some (.int .i64 a5_0) := (blk_cell BK736.out 0).trans rfl; have hcz27_1 : w25.cell? ⟨gb736, 1, none⟩ = some (.int .i64 a5_1) := (blk_cell BK736.out 1).trans rfl; have hcz27_2 : w25.cell? ⟨gb736, 2, none⟩ = some (.int .i64 a5_2) := (blk_cell BK736.out 2).trans rfl; have hcz27_3 : w25.cell? ⟨gb736, 3, none⟩ = some (.int .i64 a5_3) := (blk_cell BK736.out 3).trans rfl; have hcz27_4 : w25.cell? ⟨gb736, 4, none⟩ = some (.int .i64 a5_4) := (blk_cell BK736.out 4).trans rfl; have hcz27_5 : w25.cell? ⟨gb736, 5, none⟩ = some (.int .i64 a5_5) := (blk_cell BK736.out 5).trans rfl; have hcz27_6 : w25.cell? ⟨gb736, 6, none⟩ = some (.slice A5_6 l5_6.length c5_6) := (blk_cell BK736.out 6).trans rfl; have hfz27_0 := blk_frozen BK736.out 0; have hfz27_1 := blk_frozen BK736.out 1; have hfz27_2 := blk_frozen BK736.out 2; have hfz27_3 := blk_frozen BK736.out 3; have hfz27_4 := blk_frozen BK736.out 4; have hfz27_5 := blk_frozen BK736.out 5; have hfz27_6 := blk_frozen BK736.out 6) | ((with_reducible refine gate_callee (f := 79) rfl ?_); refine goesL_ (some 16) rfl rfl Try.func79 (by kernel_rfl) rfl #[.agg #[.int .i64 a5_0, .int .i64 a5_1, .int .i64 a5_2, .int .i64 a5_3, .int .i64 a5_4, .int .i64 a5_5, .slice A5_6 l5_6.length c5_6]] rfl (by (try simp only [List.map_toArray, List.map_cons, List.map_nil]); first | done | rfl | (simp only [List.length_drop, List.length_take]; rfl)) ?_; (with_reducible refine (spec_BuildPacket.calls k a5_0 a5_1 a5_2 a5_3 a5_4 a5_5 _ _ l5_6 t738 t739 _ ?side1 ?side2 A7.out).mono ?_); (case side1 => exact upC (Kd.C_below HR5_6.out HB.out)); (case side2 => exact HC5_6.out); rintro e w28 ⟨v740, rfl, ho0, hb⟩; refine ⟨_, rfl, ?_⟩; have HO741 := Aside0.mk (Kd.R_lower ho0 (below_size pb)); replace BK736 := Aside0.mk (blk_below (up BK736.out) hb); replace BK737 := Aside0.mk (blk_below (up BK737.out) hb); replace HB := Aside0.mk (below_step pb hb); (try clear hb); (try clear hb2); (try clear hk); (try clear hi); (try clear ho0)) | ((with_reducible refine gate_dst (N := 13) rfl ?_); refine box_event ?hg (N := 13) ?hd (cs := #[.int .i64 0, .slice none 0 0]) (t := 27) ?hr ?_; (case hd => rfl); (case hg => rfl); (case hr => first | (go_simp; done) | (go_simp; rfl)); intro gb742 hg w29 hbox hb; have BK742 := Aside0.mk (hbox); have GW742 := Aside0.mk ((by rw [hg]; exact below_size pb : w.heap.size ≤ gb742)); have GE742 := GW742; have NB736_742 := Aside0.mk ((by rw [hg]; exact Nat.ne_of_lt (blk_lt (up BK736.out)) : gb736 ≠ gb742)); have NB742_736 := Aside0.mk (Ne.symm NB736_742.out); have NB737_742 := Aside0.mk ((by rw [hg]; exact Nat.ne_of_lt (blk_lt (up BK737.out)) : gb737 ≠ gb742)); have NB742_737 := Aside0.mk (Ne.symm NB737_742.out); replace HO741 := Aside0.mk (Kd.R_below (upR HO741.out) hb); replace BK736 := Aside0.mk (blk_below (up BK736.out) hb); replace BK737 := Aside0.mk (blk_below (up BK737.out) hb); replace HB := Aside0.mk (below_step pb hb); clear hb hbox hg; have hnb30 := NB742_736.out; have hnc30 := NB736_742.out; have hnb31 := NB742_737.out; have hnc31 := NB737_742.out; have hcz32_0 : w29.cell? ⟨gb742, 0, none⟩ = some (.int .i64 0) := (blk_cell BK742.out 0).trans rfl; have hcz32_1 : w29.cell? ⟨gb742, 1, none⟩ = some (.slice none 0 0) := (blk_cell BK742.out 1).trans rfl; have hfz32_0 := blk_frozen BK742.out 0; have hfz32_1 := blk_frozen BK742.out 1; obtain ⟨Ao33, co33, eo33⟩ := Kd.R_slice HO741.out; subst eo33) | ((with_reducible refine gate_callee (f := 20) rfl ?_); refine goesL_ (some 31) rfl rfl Try.func20 (by kernel_rfl) rfl #[.int .i64 a2, .int .i64 a3, .int .i64 a4, .slice Ao33 t739.length co33] rfl (by (try simp only [List.map_toArray, List.map_cons, List.map_nil]); first | done | rfl | (simp only [List.length_drop, List.length_take]; rfl)) ?_; (with_reducible refine (spec_WrapInner.calls k a2 a3 a4 _ _ t739 t743 t744 _ ?side1 ?side2 A21.out).mono ?_); (case side1 => refine (Kd.R_reads' (e := 5) (base := w.heap.size) (ok := fun k_ => True) (n := t739.length) (c := co33) ?_).2.2; exact (by (with_reducible repeat (first | apply Kd.R_alloc | apply Kd.R_drewN | apply Kd.R_drew)); exact (Kd.R_mono (Kd.R_far (p := ⟨gb742, 1, none⟩) (Kd.R_far (p := ⟨gb742, 0, none⟩) (Kd.R_types HO741.out BK742.out (by decide)) (fun _ hk => hk.2) (.int .i64 t738)) (fun _ hk => hk.2) (.slice Ao33 t739.length co33)) (fun _ h_ => h_.1)))); (case side2 => exact (Kd.R_reads' HO741.out).2.1); rintro e w34 ⟨v745, rfl, ho0, hb⟩; refine ⟨_, rfl, ?_⟩; have HO746 := Aside0.mk (Kd.R_lower (Kd.R_new' ho0 (Kd.R_lt (by (with_reducible repeat (first | apply Kd.R_alloc | apply Kd.R_drewN | apply Kd.R_drew)); exact (Kd.R_mono (Kd.R_far (p := ⟨gb742, 1, none⟩) (Kd.R_far (p := ⟨gb742, 0, none⟩) (Kd.R_types HO741.out BK742.out (by decide)) (fun _ hk => hk.2) (.int .i64 t738)) (fun _ hk => hk.2) (.slice Ao33 t739.length co33)) (fun _ h_ => h_.1))))) (below_size pb)); replace HO741 := Aside0.mk (Kd.R_elder' (by (with_reducible repeat (first | apply Kd.R_alloc | apply Kd.R_drewN | apply Kd.R_drew)); exact (Kd.R_mono (Kd.R_far (p := ⟨gb742, 1, none⟩) (Kd.R_far (p := ⟨gb742, 0, none⟩) (Kd.R_types HO741.out BK742.out (by decide)) (fun _ hk => hk.2) (.int .i64 t738)) (fun _ hk => hk.2) (.slice Ao33 t739.length co33)) (fun _ h_ => h_.1))) (Kd.R_base ho0) hb); replace BK736 := Aside0.mk (blk_below (g := gb736) (o := .cells #[.int .i64 a5_0, .int .i64 a5_1, .int .i64 a5_2, .int .i64 a5_3, .int .i64 a5_4, .int .i64 a5_5, .slice A5_6 l5_6.length c5_6] 53 (0, 0)) (by refine up ?_; refine blk_far ?_ NB736_742.out _; refine up ?_; refine blk_far ?_ NB736_742.out _; exact up BK736.out) hb); replace BK737 := Aside0.mk (blk_below (g := gb737) (o := .cells #[.int .i64 0, .slice none 0 0] 27 (0, 0)) (by refine up ?_; refine blk_far ?_ NB737_742.out _; refine up ?_; refine blk_far ?_ NB737_742.out _; exact up BK737.out) hb); replace BK742 := Aside0.mk (blk_below (g := gb742) (o := .cells #[.int .i64 t738, .slice Ao33 t739.length co33] 27 (0, 0)) (by refine up ?_; refine blk_put (cs := #[.int .i64 t738, .slice none 0 0]) ?_ 1 _ rfl; refine up ?_; refine blk_put (cs := #[.int .i64 0, .slice none 0 0]) ?_ 0 _ rfl; exact up BK742.out) hb); replace HB := Aside0.mk (below_step pb hb); (try clear hb); (try clear hb2); (try clear hk); (try clear hi); (try clear ho0)) | ((with_reducible refine gate_dst (N := 14) rfl ?_); refine box_event ?hg (N := 14) ?hd (cs := #[.int .i64 0, .slice none 0 0]) (t := 27) ?hr ?_; (case hd => rfl); (case hg => rfl); (case hr => first | (go_simp; done) | (go_simp; rfl)); intro gb747 hg w35 hbox hb; have BK747 := Aside0.mk (hbox); have GW747 := Aside0.mk ((by rw [hg]; exact below_size pb : w.heap.size ≤ gb747)); have GE747 := GW747; have NB736_747 := Aside0.mk ((by rw [hg]; exact Nat.ne_of_lt (blk_lt (up BK736.out)) : gb736 ≠ gb747)); have NB747_736 := Aside0.mk (Ne.symm NB736_747.out); have NB737_747 := Aside0.mk ((by rw [hg]; exact Nat.ne_of_lt (blk_lt (up BK737.out)) : gb737 ≠ gb747)); have NB747_737 := Aside0.mk (Ne.symm NB737_747.out); have NB742_747 := Aside0.mk ((by rw [hg]; exact Nat.ne_of_lt (blk_lt (up BK742.out)) : gb742 ≠ gb747)); have NB747_742 := Aside0.mk (Ne.symm NB742_747.out); replace HO741 := Aside0.mk (Kd.R_below (upR HO741.out) hb); replace HO746 := Aside0.mk (Kd.R_below (upR HO746.out) hb); replace BK736 := Aside0.mk (blk_below (up BK736.out) hb); replace BK737 := Aside0.mk (blk_below (up BK737.out) hb); replace BK742 := Aside0.mk (blk_below (up BK742.out) hb); replace HB := Aside0.mk (below_step pb hb); clear hb hbox hg; have hnb36 := NB747_736.out; have hnc36 := NB736_747.out; have hnb37 := NB747_737.out; have hnc37 := NB737_747.out; have hnb38 := NB747_742.out; have hnc38 := NB742_747.out; have hcz39_0 : w35.cell? ⟨gb747, 0, none⟩ = some (.int .i64 0) := (blk_cell BK747.out 0).trans rfl; have hcz39_1 : w35.cell? ⟨gb747, 1, none⟩ = some (.slice none 0 0) := (blk_cell BK747.out 1).trans rfl; have hfz39_0 := blk_frozen BK747.out 0; have hfz39_1 := blk_frozen BK747.out 1; obtain ⟨Ao40, co40, eo40⟩ := Kd.R_slice HO746.out; subst eo40) | ((with_reducible refine gate_callee (f := 79) rfl ?_); refine goesL_ (some 41) rfl rfl Try.func79 (by kernel_rfl) rfl #[.agg #[.int .i64 a0, .int .i64 a1, .int .i64 50, .int .i64 64, .int .i64 0, .int .i64 0, .slice Ao40 t744.length co40]] rfl (by (try simp only [List.map_toArray, List.map_cons, List.map_nil]); first | done | rfl | (simp only [List.length_drop, List.length_take]; rfl)) ?_; (with_reducible refine (spec_BuildPacket.calls k a0 a1 50 64 0 0 _ _ t744 t748 t749 _ ?side1 ?side2 A23.out).mono ?_); (case side1 => refine (Kd.R_reads' (e := 5) (base := w.heap.size) (ok := fun k_ => (True ∧ some k_ ≠ (.slice Ao33 t739.length co33 : Value).ownBlock)) (n := t744.length) (c := co40) ?_).2.2; exact (by (with_reducible repeat (first | apply Kd.R_alloc | apply Kd.R_drewN | apply Kd.R_drew)); exact (Kd.R_mono (Kd.R_far (p := ⟨gb747, 1, none⟩) (Kd.R_far (p := ⟨gb747, 0, none⟩) (Kd.R_types HO746.out BK747.out (by decide)) (fun _ hk => hk.2) (.int .i64 t743)) (fun _ hk => hk.2) (.slice Ao40 t744.length co40)) (fun _ h_ => h_.1)))); (case side2 => exact (Kd.R_reads' HO746.out).2.1); rintro e w41 ⟨v750, rfl, ho0, hb⟩; refine ⟨_, rfl, ?_⟩; have HO751 := Aside0.mk (Kd.R_lower (Kd.R_new' (Kd.R_new' ho0 (Kd.R_lt (by (with_reducible repeat (first | apply Kd.R_alloc | apply Kd.R_drewN | apply Kd.R_drew)); exact (Kd.R_mono (Kd.R_far (p := ⟨gb747, 1, none⟩) (Kd.R_far (p := ⟨gb747, 0, none⟩) (Kd.R_types HO741.out BK747.out (by decide)) (fun _ hk => hk.2) (.int .i64 t743)) (fun _ hk => hk.2) (.slice Ao40 t744.length co40)) (fun _ h_ => h_.1))))) (Kd.R_lt (by (with_reducible repeat (first | apply Kd.R_alloc | apply Kd.R_drewN | apply Kd.R_drew)); exact (Kd.R_mono (Kd.R_far (p := ⟨gb747, 1, none⟩) (Kd.R_far (p := ⟨gb747, 0, none⟩) (Kd.R_types HO746.out BK747.out (by decide)) (fun _ hk => hk.2) (.int .i64 t743)) (fun _ hk => hk.2) (.slice Ao40 t744.length co40)) (fun _ h_ => h_.1))))) (below_size pb)); replace HO741 := Aside0.mk (Kd.R_elder' (by (with_reducible repeat (first | apply Kd.R_alloc | apply Kd.R_drewN | apply Kd.R_drew)); exact (Kd.R_mono (Kd.R_far (p := ⟨gb747, 1, none⟩) (Kd.R_far (p := ⟨gb747, 0, none⟩) (Kd.R_types HO741.out BK747.out (by decide)) (fun _ hk => hk.2) (.int .i64 t743)) (fun _ hk => hk.2) (.slice Ao40 t744.length co40)) (fun _ h_ => h_.1))) (Kd.R_base ho0) hb); replace HO746 := Aside0.mk (Kd.R_elder' (by (with_reducible repeat (first | apply Kd.R_alloc | apply Kd.R_drewN | apply Kd.R_drew)); exact (Kd.R_mono (Kd.R_far (p := ⟨gb747, 1, none⟩) (Kd.R_far (p := ⟨gb747, 0, none⟩) (Kd.R_types HO746.out BK747.out (by decide)) (fun _ hk => hk.2) (.int .i64 t743)) (fun _ hk => hk.2) (.slice Ao40 t744.length co40)) (fun _ h_ => h_.1))) (Kd.R_base ho0) hb); replace BK736 := Aside0.mk (blk_below (g := gb736) (o := .cells #[.int .i64 a5_0, .int .i64 a5_1, .int .i64 a5_2, .int .i64 a5_3, .int .i64 a5_4, .int .i64 a5_5, .slice A5_6 l5_6.length c5_6] 53 (0, 0)) (by refine up ?_; refine blk_far ?_ NB736_747.out _; refine up ?_; refine blk_far ?_ NB736_747.out _; exact up BK736.out) hb); replace BK737 := Aside0.mk (blk_below (g := gb737) (o := .cells #[.int .i64 0, .slice none 0 0] 27 (0, 0)) (by refine up ?_; refine blk_far ?_ NB737_747.out _; refine up ?_; refine blk_far ?_ NB737_747.out _; exact up BK737.out) hb); replace BK742 := Aside0.mk (blk_below (g := gb742) (o := .cells #[.int .i64 t738, .slice Ao33 t739.length co33] 27 (0, 0)) (by refine up ?_; refine blk_far ?_ NB742_747.out _; refine up ?_; refine blk_far ?_ NB742_747.out _; exact up BK742.out) hb); replace BK747 := Aside0.mk (blk_below (g := gb747) (o := .cells #[.int .i64 t743, .slice Ao40 t744.length co40] 27 (0, 0)) (by refine up ?_; refine blk_put (cs := #[.int .i64 t743, .slice none 0 0]) ?_ 1 _ rfl; refine up ?_; refine blk_put (cs := #[.int .i64 0, .slice none 0 0]) ?_ 0 _ rfl; exact up BK747.out) hb); replace HB := Aside0.mk (below_step pb hb); (try clear hb); (try clear hb2); (try clear hk); (try clear hi); (try clear ho0); have hcz42_0 : w41.cell? ⟨gb737, 0, none⟩ = some (.int .i64 0) := (blk_cell BK737.out 0).trans rfl; have hcz42_1 : w41.cell? ⟨gb737, 1, none⟩ = some (.slice none 0 0) := (blk_cell BK737.out 1).trans rfl; have hfz42_0 := blk_frozen BK737.out 0; have hfz42_1 := blk_frozen BK737.out 1; obtain ⟨Ao43, co43, eo43⟩ := Kd.R_slice HO751.out; subst eo43))
       refine bodyPost_ret (results_cell_row rfl _ _ gb737 27 #[.int .i64 t748, .slice Ao43 t749.length co43] (0, 0) _ rfl (by refine up ?_; refine blk_put (cs := #[.int .i64 t748, .slice none 0 0]) ?_ 1 _ rfl; refine up ?_; refine blk_put (cs := #[.int .i64 0, .slice none 0 0]) ?_ 0 _ rfl; exact up BK737.out) Try.underlying27 rfl (by kernel_rfl)) rfl ?_
       exact ⟨_, by first | rfl | (simp [errW_none, errW_some] <;> rfl) | (simp [*, errW_none, errW_some] <;> rfl), by (with_reducible repeat (first | apply Kd.R_alloc | apply Kd.R_drewN | apply Kd.R_drew)); exact Kd.R_mono (Kd.R_far (p := ⟨gb737, 1, none⟩) (Kd.R_far (p := ⟨gb737, 0, none⟩) (Kd.R_types HO751.out BK737.out (by decide)) (fun _ hk => hk.2) (.int .i64 t748)) (fun _ hk => hk.2) (.slice Ao43 t749.length co43)) (fun _ hk => trivial), by repeat (first | (with_reducible first | exact HB.out | apply below_alloc | apply pw_below_drewN | apply below_drew1 | refine below_set ?_ GE736.out | refine below_set ?_ GE737.out | refine below_set ?_ GE742.out | refine below_set ?_ GE747.out) | exact HB.out)⟩
     · rw [if_neg c22] at H
       have c22b0 : (t743 == 0) = false := beq_eq_false_iff_ne.mpr c22
       have c22b1 : (t743 != 0) = true := bne_iff_ne.mpr c22
       simp only [Option.some.injEq, Prod.mk.injEq] at H
       obtain ⟨rfl, rfl⟩ := H
       go_enter Try.func34, Try.ntmps34
       go_wp2_with (first | ((with_reducible refine gate_dst (N := 11) rfl ?_); refine box_event ?hg (N := 11) ?hd (cs := #[.int .i64 a5_0, .int .i64 a5_1, .int .i64 a5_2, .int .i64 a5_3, .int .i64 a5_4, .int .i64 a5_5, .slice A5_6 l5_6.length c5_6]) (t := 53) ?hr ?_; (case hd => rfl); (case hg => rfl); (case hr => first | (go_simp; done) | (go_simp; rfl)); intro gb736 hg w44 hbox hb; have BK736 := Aside0.mk (hbox); have GW736 := Aside0.mk ((by rw [hg]; exact below_size pb : w.heap.size ≤ gb736)); have GE736 := GW736; replace HB := Aside0.mk (below_step pb hb); clear hb hbox hg) | ((with_reducible refine gate_dst (N := 12) rfl ?_); refine box_event ?hg (N := 12) ?hd (cs := #[.int .i64 0, .slice none 0 0]) (t := 27) ?hr ?_; (case hd => rfl); (case hg => rfl); (case hr => first | (go_simp; done) | (go_simp; rfl)); intro gb737 hg w45 hbox hb; have BK737 := Aside0.mk (hbox); have GW737 := Aside0.mk ((by rw [hg]; exact below_size pb : w.heap.size ≤ gb737)); have GE737 := GW737; have NB736_737 := Aside0.mk ((by rw [hg]; exact Nat.ne_of_lt (blk_lt (up BK736.out)) : gb736 ≠ gb737)); have NB737_736 := Aside0.mk (Ne.symm NB736_737.out); replace BK736 := Aside0.mk (blk_below (up BK736.out) hb); replace HB := Aside0.mk (below_step pb hb); clear hb hbox hg; have hnb46 := NB736_737.out; have hnc46 := NB737_736.out; have hcz47_0 : w45.cell? ⟨gb736, 0, none⟩ = some (.int .i64 a5_0) := (blk_cell BK736.out 0).trans rfl; have hcz47_1 : w45.cell? ⟨gb736, 1, none⟩ = some (.int .i64 a5_1) := (blk_cell BK736.out 1).trans rfl; have hcz47_2 : w45.cell? ⟨gb736, 2, none⟩ = some (.int .i64 a5_2) := (blk_cell BK736.out 2).trans rfl; have hcz47_3 : w45.cell? ⟨gb736, 3, none⟩ = some (.int .i64 a5_3) := (blk_cell BK736.out 3).trans rfl; have hcz47_4 : w45.cell? ⟨gb736, 4, none⟩ = some (.int .i64 a5_4) := (blk_cell BK736.out 4).trans rfl; have hcz47_5 : w45.cell? ⟨gb736, 5, none⟩ = some (.int .i64 a5_5) := (blk_cell BK736.out 5).trans rfl; have hcz47_6 : w45.cell? ⟨gb736, 6, none⟩ = some (.slice A5_6 l5_6.length c5_6) := (blk_cell BK736.out 6).trans rfl; have hfz47_0 := blk_frozen BK736.out 0; have hfz47_1 := blk_frozen BK736.out 1; have hfz47_2 := blk_frozen BK736.out 2; have hfz47_3 := blk_frozen BK736.out 3; have hfz47_4 := blk_frozen BK736.out 4; have hfz47_5 := blk_frozen BK736.out 5; have hfz47_6 := blk_frozen BK736.out 6) | ((with_reducible refine gate_callee (f := 79) rfl ?_); refine goesL_ (some 16) rfl rfl Try.func79 (by kernel_rfl) rfl #[.agg #[.int .i64 a5_0, .int .i64 a5_1, .int .i64 a5_2, .int .i64 a5_3, .int .i64 a5_4, .int .i64 a5_5, .slice A5_6 l5_6.length c5_6]] rfl (by (try simp only [List.map_toArray, List.map_cons, List.map_nil]); first | done | rfl | (simp only [List.length_drop, List.length_take]; rfl)) ?_; (with_reducible refine (spec_BuildPacket.calls k a5_0 a5_1 a5_2 a5_3 a5_4 a5_5 _ _ l5_6 t738 t739 _ ?side1 ?side2 A7.out).mono ?_); (case side1 => exact upC (Kd.C_below HR5_6.out HB.out)); (case side2 => exact HC5_6.out); rintro e w48 ⟨v740, rfl, ho0, hb⟩; refine ⟨_, rfl, ?_⟩; have HO741 := Aside0.mk (Kd.R_lower ho0 (below_size pb)); replace BK736 := Aside0.mk (blk_below (up BK736.out) hb); replace BK737 := Aside0.mk (blk_below (up BK737.out) hb); replace HB := Aside0.mk (below_step pb hb); (try clear hb); (try clear hb2); (try clear hk); (try clear hi); (try clear ho0)) | ((with_reducible refine gate_dst (N := 13) rfl ?_); refine box_event ?hg (N := 13) ?hd (cs := #[.int .i64 0, .slice none 0 0]) (t := 27) ?hr ?_; (case hd => rfl); (case hg => rfl); (case hr => first | (go_simp; done) | (go_simp; rfl)); intro gb742 hg w49 hbox hb; have BK742 := Aside0.mk (hbox); have GW742 := Aside0.mk ((by rw [hg]; exact below_size pb : w.heap.size ≤ gb742)); have GE742 := GW742; have NB736_742 := Aside0.mk ((by rw [hg]; exact Nat.ne_of_lt (blk_lt (up BK736.out)) : gb736 ≠ gb742)); have NB742_736 := Aside0.mk (Ne.symm NB736_742.out); have NB737_742 := Aside0.mk ((by rw [hg]; exact Nat.ne_of_lt (blk_lt (up BK737.out)) : gb737 ≠ gb742)); have NB742_737 := Aside0.mk (Ne.symm NB737_742.out); replace HO741 := Aside0.mk (Kd.R_below (upR HO741.out) hb); replace BK736 := Aside0.mk (blk_below (up BK736.out) hb); replace BK737 := Aside0.mk (blk_below (up BK737.out) hb); replace HB := Aside0.mk (below_step pb hb); clear hb hbox hg; have hnb50 := NB742_736.out; have hnc50 := NB736_742.out; have hnb51 := NB742_737.out; have hnc51 := NB737_742.out; have hcz52_0 : w49.cell? ⟨gb742, 0, none⟩ = some (.int .i64 0) := (blk_cell BK742.out 0).trans rfl; have hcz52_1 : w49.cell? ⟨gb742, 1, none⟩ = some (.slice none 0 0) := (blk_cell BK742.out 1).trans rfl; have hfz52_0 := blk_frozen BK742.out 0; have hfz52_1 := blk_frozen BK742.out 1; obtain ⟨Ao53, co53, eo53⟩ := Kd.R_slice HO741.out; subst eo53) | ((with_reducible refine gate_callee (f := 20) rfl ?_); refine goesL_ (some 31) rfl rfl Try.func20 (by kernel_rfl) rfl #[.int .i64 a2, .int .i64 a3, .int .i64 a4, .slice Ao53 t739.length co53] rfl (by (try simp only [List.map_toArray, List.map_cons, List.map_nil]); first | done | rfl | (simp only [List.length_drop, List.length_take]; rfl)) ?_; (with_reducible refine (spec_WrapInner.calls k a2 a3 a4 _ _ t739 t743 t744 _ ?side1 ?side2 A21.out).mono ?_); (case side1 => refine (Kd.R_reads' (e := 5) (base := w.heap.size) (ok := fun k_ => True) (n := t739.length) (c := co53) ?_).2.2; exact (by (with_reducible repeat (first | apply Kd.R_alloc | apply Kd.R_drewN | apply Kd.R_drew)); exact (Kd.R_mono (Kd.R_far (p := ⟨gb742, 1, none⟩) (Kd.R_far (p := ⟨gb742, 0, none⟩) (Kd.R_types HO741.out BK742.out (by decide)) (fun _ hk => hk.2) (.int .i64 t738)) (fun _ hk => hk.2) (.slice Ao53 t739.length co53)) (fun _ h_ => h_.1)))); (case side2 => exact (Kd.R_reads' HO741.out).2.1); rintro e w54 ⟨v745, rfl, ho0, hb⟩; refine ⟨_, rfl, ?_⟩; have HO746 := Aside0.mk (Kd.R_lower (Kd.R_new' ho0 (Kd.R_lt (by (with_reducible repeat (first | apply Kd.R_alloc | apply Kd.R_drewN | apply Kd.R_drew)); exact (Kd.R_mono (Kd.R_far (p := ⟨gb742, 1, none⟩) (Kd.R_far (p := ⟨gb742, 0, none⟩) (Kd.R_types HO741.out BK742.out (by decide)) (fun _ hk => hk.2) (.int .i64 t738)) (fun _ hk => hk.2) (.slice Ao53 t739.length co53)) (fun _ h_ => h_.1))))) (below_size pb)); replace HO741 := Aside0.mk (Kd.R_elder' (by (with_reducible repeat (first | apply Kd.R_alloc | apply Kd.R_drewN | apply Kd.R_drew)); exact (Kd.R_mono (Kd.R_far (p := ⟨gb742, 1, none⟩) (Kd.R_far (p := ⟨gb742, 0, none⟩) (Kd.R_types HO741.out BK742.out (by decide)) (fun _ hk => hk.2) (.int .i64 t738)) (fun _ hk => hk.2) (.slice Ao53 t739.length co53)) (fun _ h_ => h_.1))) (Kd.R_base ho0) hb); replace BK736 := Aside0.mk (blk_below (g := gb736) (o := .cells #[.int .i64 a5_0, .int .i64 a5_1, .int .i64 a5_2, .int .i64 a5_3, .int .i64 a5_4, .int .i64 a5_5, .slice A5_6 l5_6.length c5_6] 53 (0, 0)) (by refine up ?_; refine blk_far ?_ NB736_742.out _; refine up ?_; refine blk_far ?_ NB736_742.out _; exact up BK736.out) hb); replace BK737 := Aside0.mk (blk_below (g := gb737) (o := .cells #[.int .i64 0, .slice none 0 0] 27 (0, 0)) (by refine up ?_; refine blk_far ?_ NB737_742.out _; refine up ?_; refine blk_far ?_ NB737_742.out _; exact up BK737.out) hb); replace BK742 := Aside0.mk (blk_below (g := gb742) (o := .cells #[.int .i64 t738, .slice Ao53 t739.length co53] 27 (0, 0)) (by refine up ?_; refine blk_put (cs := #[.int .i64 t738, .slice none 0 0]) ?_ 1 _ rfl; refine up ?_; refine blk_put (cs := #[.int .i64 0, .slice none 0 0]) ?_ 0 _ rfl; exact up BK742.out) hb); replace HB := Aside0.mk (below_step pb hb); (try clear hb); (try clear hb2); (try clear hk); (try clear hi); (try clear ho0)) | ((with_reducible refine gate_dst (N := 14) rfl ?_); refine box_event ?hg (N := 14) ?hd (cs := #[.int .i64 0, .slice none 0 0]) (t := 27) ?hr ?_; (case hd => rfl); (case hg => rfl); (case hr => first | (go_simp; done) | (go_simp; rfl)); intro gb747 hg w55 hbox hb; have BK747 := Aside0.mk (hbox); have GW747 := Aside0.mk ((by rw [hg]; exact below_size pb : w.heap.size ≤ gb747)); have GE747 := GW747; have NB736_747 := Aside0.mk ((by rw [hg]; exact Nat.ne_of_lt (blk_lt (up BK736.out)) : gb736 ≠ gb747)); have NB747_736 := Aside0.mk (Ne.symm NB736_747.out); have NB737_747 := Aside0.mk ((by rw [hg]; exact Nat.ne_of_lt (blk_lt (up BK737.out)) : gb737 ≠ gb747)); have NB747_737 := Aside0.mk (Ne.symm NB737_747.out); have NB742_747 := Aside0.mk ((by rw [hg]; exact Nat.ne_of_lt (blk_lt (up BK742.out)) : gb742 ≠ gb747)); have NB747_742 := Aside0.mk (Ne.symm NB742_747.out); replace HO741 := Aside0.mk (Kd.R_below (upR HO741.out) hb); replace HO746 := Aside0.mk (Kd.R_below (upR HO746.out) hb); replace BK736 := Aside0.mk (blk_below (up BK736.out) hb); replace BK737 := Aside0.mk (blk_below (up BK737.out) hb); replace BK742 := Aside0.mk (blk_below (up BK742.out) hb); replace HB := Aside0.mk (below_step pb hb); clear hb hbox hg; have hnb56 := NB747_736.out; have hnc56 := NB736_747.out; have hnb57 := NB747_737.out; have hnc57 := NB737_747.out; have hnb58 := NB747_742.out; have hnc58 := NB742_747.out; have hcz59_0 : w55.cell? ⟨gb747, 0, none⟩ = some (.int .i64 0) := (blk_cell BK747.out 0).trans rfl; have hcz59_1 : w55.cell? ⟨gb747, 1, none⟩ = some (.slice none 0 0) := (blk_cell BK747.out 1).trans rfl; have hfz59_0 := blk_frozen BK747.out 0; have hfz59_1 := blk_frozen BK747.out 1; obtain ⟨Ao60, co60, eo60⟩ := Kd.R_slice HO746.out; subst eo60; have hcz61_0 : w55.cell? ⟨gb737, 0, none⟩ = some (.int .i64 0) := (blk_cell BK737.out 0).trans rfl; have hcz61_1 : w55.cell? ⟨gb737, 1, none⟩ = some (.slice none 0 0) := (blk_cell BK737.out 1).trans rfl; have hfz61_0 := blk_frozen BK737.out 0; have hfz61_1 := blk_frozen BK737.out 1))
       refine bodyPost_ret (results_cell_row rfl _ _ gb737 27 #[.int .i64 t743, .slice Ao60 t744.length co60] (0, 0) _ rfl (by refine up ?_; refine blk_put (cs := #[.int .i64 t743, .slice none 0 0]) ?_ 1 _ rfl; refine up ?_; refine blk_put (cs := #[.int .i64 0, .slice none 0 0]) ?_ 0 _ rfl; refine up ?_; refine blk_far ?_ NB737_747.out _; refine up ?_; refine blk_far ?_ NB737_747.out _; exact up BK737.out) Try.underlying27 rfl (by kernel_rfl)) rfl ?_
       exact ⟨_, by first | rfl | (simp [errW_none, errW_some] <;> rfl) | (simp [*, errW_none, errW_some] <;> rfl), by (with_reducible repeat (first | apply Kd.R_alloc | apply Kd.R_drewN | apply Kd.R_drew)); exact Kd.R_mono (Kd.R_far (p := ⟨gb737, 1, none⟩) (Kd.R_far (p := ⟨gb737, 0, none⟩) (Kd.R_far (p := ⟨gb747, 1, none⟩) (Kd.R_far (p := ⟨gb747, 0, none⟩) (Kd.R_types (Kd.R_types HO746.out BK747.out (by decide)) BK737.out (by decide)) (fun _ hk => hk.1.2) (.int .i64 t743)) (fun _ hk => hk.1.2) (.slice Ao60 t744.length co60)) (fun _ hk => hk.2) (.int .i64 t743)) (fun _ hk => hk.2) (.slice Ao60 t744.length co60)) (fun _ hk => trivial), by repeat (first | (with_reducible first | exact HB.out | apply below_alloc | apply pw_below_drewN | apply below_drew1 | refine below_set ?_ GE736.out | refine below_set ?_ GE737.out | refine below_set ?_ GE742.out | refine below_set ?_ GE747.out) | exact HB.out)⟩
 · rw [if_neg c8] at H
   have c8b0 : (t738 == 0) = false := beq_eq_false_iff_ne.mpr c8
   have c8b1 : (t738 != 0) = true := bne_iff_ne.mpr c8
   simp only [Option.some.injEq, Prod.mk.injEq] at H
   obtain ⟨rfl, rfl⟩ := H
   go_enter Try.func34, Try.ntmps34
   go_wp2_with (first | ((with_reducible refine gate_dst (N := 11) rfl ?_); refine box_event ?hg (N := 11) ?hd (cs := #[.int .i64 a5_0, .int .i64 a5_1, .int .i64 a5_2, .int .i64 a5_3, .int .i64 a5_4, .int .i64 a5_5, .slice A5_6 l5_6.length c5_6]) (t := 53) ?hr ?_; (case hd => rfl); (case hg => rfl); (case hr => first | (go_simp; done) | (go_simp; rfl)); intro gb736 hg w62 hbox hb; have BK736 := Aside0.mk (hbox); have GW736 := Aside0.mk ((by rw [hg]; exact below_size pb : w.heap.size ≤ gb736)); have GE736 := GW736; replace HB := Aside0.mk (below_step pb hb); clear hb hbox hg) | ((with_reducible refine gate_dst (N := 12) rfl ?_); refine box_event ?hg (N := 12) ?hd (cs := #[.int .i64 0, .slice none 0 0]) (t := 27) ?hr ?_; (case hd => rfl); (case hg => rfl); (case hr => first | (go_simp; done) | (go_simp; rfl)); intro gb737 hg w63 hbox hb; have BK737 := Aside0.mk (hbox); have GW737 := Aside0.mk ((by rw [hg]; exact below_size pb : w.heap.size ≤ gb737)); have GE737 := GW737; have NB736_737 := Aside0.mk ((by rw [hg]; exact Nat.ne_of_lt (blk_lt (up BK736.out)) : gb736 ≠ gb737)); have NB737_736 := Aside0.mk (Ne.symm NB736_737.out); replace BK736 := Aside0.mk (blk_below (up BK736.out) hb); replace HB := Aside0.mk (below_step pb hb); clear hb hbox hg; have hnb64 := NB736_737.out; have hnc64 := NB737_736.out; have hcz65_0 : w63.cell? ⟨gb736, 0, none⟩ = some (.int .i64 a5_0) := (blk_cell BK736.out 0).trans rfl; have hcz65_1 : w63.cell? ⟨gb736, 1, none⟩ = some (.int .i64 a5_1) := (blk_cell BK736.out 1).trans rfl; have hcz65_2 : w63.cell? ⟨gb736, 2, none⟩ = some (.int .i64 a5_2) := (blk_cell BK736.out 2).trans rfl; have hcz65_3 : w63.cell? ⟨gb736, 3, none⟩ = some (.int .i64 a5_3) := (blk_cell BK736.out 3).trans rfl; have hcz65_4 : w63.cell? ⟨gb736, 4, none⟩ = some (.int .i64 a5_4) := (blk_cell BK736.out 4).trans rfl; have hcz65_5 : w63.cell? ⟨gb736, 5, none⟩ = some (.int .i64 a5_5) := (blk_cell BK736.out 5).trans rfl; have hcz65_6 : w63.cell? ⟨gb736, 6, none⟩ = some (.slice A5_6 l5_6.length c5_6) := (blk_cell BK736.out 6).trans rfl; have hfz65_0 := blk_frozen BK736.out 0; have hfz65_1 := blk_frozen BK736.out 1; have hfz65_2 := blk_frozen BK736.out 2; have hfz65_3 := blk_frozen BK736.out 3; have hfz65_4 := blk_frozen BK736.out 4; have hfz65_5 := blk_frozen BK736.out 5; have hfz65_6 := blk_frozen BK736.out 6) | ((with_reducible refine gate_callee (f := 79) rfl ?_); refine goesL_ (some 16) rfl rfl Try.func79 (by kernel_rfl) rfl #[.agg #[.int .i64 a5_0, .int .i64 a5_1, .int .i64 a5_2, .int .i64 a5_3, .int .i64 a5_4, .int .i64 a5_5, .slice A5_6 l5_6.length c5_6]] rfl (by (try simp only [List.map_toArray, List.map_cons, List.map_nil]); first | done | rfl | (simp only [List.length_drop, List.length_take]; rfl)) ?_; (with_reducible refine (spec_BuildPacket.calls k a5_0 a5_1 a5_2 a5_3 a5_4 a5_5 _ _ l5_6 t738 t739 _ ?side1 ?side2 A7.out).mono ?_); (case side1 => exact upC (Kd.C_below HR5_6.out HB.out)); (case side2 => exact HC5_6.out); rintro e w66 ⟨v740, rfl, ho0, hb⟩; refine ⟨_, rfl, ?_⟩; have HO741 := Aside0.mk (Kd.R_lower ho0 (below_size pb)); replace BK736 := Aside0.mk (blk_below (up BK736.out) hb); replace BK737 := Aside0.mk (blk_below (up BK737.out) hb); replace HB := Aside0.mk (below_step pb hb); (try clear hb); (try clear hb2); (try clear hk); (try clear hi); (try clear ho0)) | ((with_reducible refine gate_dst (N := 13) rfl ?_); refine box_event ?hg (N := 13) ?hd (cs := #[.int .i64 0, .slice none 0 0]) (t := 27) ?hr ?_; (case hd => rfl); (case hg => rfl); (case hr => first | (go_simp; done) | (go_simp; rfl)); intro gb742 hg w67 hbox hb; have BK742 := Aside0.mk (hbox); have GW742 := Aside0.mk ((by rw [hg]; exact below_size pb : w.heap.size ≤ gb742)); have GE742 := GW742; have NB736_742 := Aside0.mk ((by rw [hg]; exact Nat.ne_of_lt (blk_lt (up BK736.out)) : gb736 ≠ gb742)); have NB742_736 := Aside0.mk (Ne.symm NB736_742.out); have NB737_742 := Aside0.mk ((by rw [hg]; exact Nat.ne_of_lt (blk_lt (up BK737.out)) : gb737 ≠ gb742)); have NB742_737 := Aside0.mk (Ne.symm NB737_742.out); replace HO741 := Aside0.mk (Kd.R_below (upR HO741.out) hb); replace BK736 := Aside0.mk (blk_below (up BK736.out) hb); replace BK737 := Aside0.mk (blk_below (up BK737.out) hb); replace HB := Aside0.mk (below_step pb hb); clear hb hbox hg; have hnb68 := NB742_736.out; have hnc68 := NB736_742.out; have hnb69 := NB742_737.out; have hnc69 := NB737_742.out; have hcz70_0 : w67.cell? ⟨gb742, 0, none⟩ = some (.int .i64 0) := (blk_cell BK742.out 0).trans rfl; have hcz70_1 : w67.cell? ⟨gb742, 1, none⟩ = some (.slice none 0 0) := (blk_cell BK742.out 1).trans rfl; have hfz70_0 := blk_frozen BK742.out 0; have hfz70_1 := blk_frozen BK742.out 1; obtain ⟨Ao71, co71, eo71⟩ := Kd.R_slice HO741.out; subst eo71; have hcz72_0 : w67.cell? ⟨gb737, 0, none⟩ = some (.int .i64 0) := (blk_cell BK737.out 0).trans rfl; have hcz72_1 : w67.cell? ⟨gb737, 1, none⟩ = some (.slice none 0 0) := (blk_cell BK737.out 1).trans rfl; have hfz72_0 := blk_frozen BK737.out 0; have hfz72_1 := blk_frozen BK737.out 1))
   refine bodyPost_ret (results_cell_row rfl _ _ gb737 27 #[.int .i64 t738, .slice Ao71 t739.length co71] (0, 0) _ rfl (by refine up ?_; refine blk_put (cs := #[.int .i64 t738, .slice none 0 0]) ?_ 1 _ rfl; refine up ?_; refine blk_put (cs := #[.int .i64 0, .slice none 0 0]) ?_ 0 _ rfl; refine up ?_; refine blk_far ?_ NB737_742.out _; refine up ?_; refine blk_far ?_ NB737_742.out _; exact up BK737.out) Try.underlying27 rfl (by kernel_rfl)) rfl ?_
   exact ⟨_, by first | rfl | (simp [errW_none, errW_some] <;> rfl) | (simp [*, errW_none, errW_some] <;> rfl), by (with_reducible repeat (first | apply Kd.R_alloc | apply Kd.R_drewN | apply Kd.R_drew)); exact Kd.R_mono (Kd.R_far (p := ⟨gb737, 1, none⟩) (Kd.R_far (p := ⟨gb737, 0, none⟩) (Kd.R_far (p := ⟨gb742, 1, none⟩) (Kd.R_far (p := ⟨gb742, 0, none⟩) (Kd.R_types (Kd.R_types HO741.out BK742.out (by decide)) BK737.out (by decide)) (fun _ hk => hk.1.2) (.int .i64 t738)) (fun _ hk => hk.1.2) (.slice Ao71 t739.length co71)) (fun _ hk => hk.2) (.int .i64 t738)) (fun _ hk => hk.2) (.slice Ao71 t739.length co71)) (fun _ hk => trivial), by repeat (first | (with_reducible first | exact HB.out | apply below_alloc | apply pw_below_drewN | apply below_drew1 | refine below_set ?_ GE736.out | refine below_set ?_ GE737.out | refine below_set ?_ GE742.out) | exact HB.out)⟩

/-! ### laws_toPacket: function 35 -/
def laws_toPacket.f (k : Nat) (a0_0 : Int) (a0_1 : Int) (a0_2 : Int) (a0_3 : Int) (a0_4 : Int) (a0_5 : Int) (l0_6 : List Int) : Option (Int × Int × Int × Int × Int × Int × List Int) := (laws_toByteS.f k l0_6).bind fun t755 => (some (a0_0, a0_1, a0_2, a0_3, a0_4, a0_5, t755))
theorem laws_toPacket.mono : ∀ a0 a1 a2 a3 a4 a5 a6 k, LeO (laws_toPacket.f k a0 a1 a2 a3 a4 a5 a6) (laws_toPacket.f (k + 1) a0 a1 a2 a3 a4 a5 a6) := by
 intro a0 a1 a2 a3 a4 a5 a6 k
 unfold laws_toPacket.f
 repeat' first
  | (with_reducible exact laws_toByteS.mono _ _)
  | (with_reducible exact LeO.refl _)
  | (with_reducible exact LeO.none _)
  | (with_reducible refine LeO.ite ?_ ?_)
  | (with_reducible refine LeO.bind ?_ (fun _ => ?_))
  | exact laws_toByteS.mono _ _
  | exact LeO.none _
  | refine LeO.ite ?_ ?_
  | refine LeO.bind ?_ (fun _ => ?_)
set_option maxHeartbeats 8000000 in
set_option maxRecDepth 100000 in
theorem laws_toPacket.calls (k : Nat) (a0_0 : Int) (a0_1 : Int) (a0_2 : Int) (a0_3 : Int) (a0_4 : Int) (a0_5 : Int) (A0_6 : Option Addr) (c0_6 : Nat) (l0_6 : List Int) (r1 : Int) (r2 : Int) (r3 : Int) (r4 : Int) (r5 : Int) (r6 : Int) (r7 : List Int) (w : World) (hr0_6 : Kd.C (Kd.int .u8) w A0_6 l0_6.length l0_6) (hc0_6 : l0_6.length ≤ c0_6) (h : laws_toPacket.f k a0_0 a0_1 a0_2 a0_3 a0_4 a0_5 l0_6 = some (r1, r2, r3, r4, r5, r6, r7)) :
 Calls Try.prog 35 #[.agg #[.int .i64 a0_0, .int .i64 a0_1, .int .i64 a0_2, .int .i64 a0_3, .int .i64 a0_4, .int .i64 a0_5, .slice A0_6 l0_6.length c0_6]] w fun e w' => ∃ v6_ : Value, e = .returned (.agg #[.int .i64 r1, .int .i64 r2, .int .i64 r3, .int .i64 r4, .int .i64 r5, .int .i64 r6, v6_]) ∧ Kd.R (Kd.int .u8) 5 w' w.heap.size (fun _ => True) v6_ r7 ∧ Below w.heap.size w w' := by
 have hu50 := Try.underlying50
 have hu53 := Try.underlying53
 have HR0_6 := Aside0.mk hr0_6
 have HC0_6 := Aside0.mk hc0_6
 clear hr0_6 hc0_6
 have HB := Aside0.mk (Below.refl w.heap.size w)
 have H : ((laws_toByteS.f k l0_6).bind fun t755 => (some (a0_0, a0_1, a0_2, a0_3, a0_4, a0_5, t755))) = some (r1, r2, r3, r4, r5, r6, r7) := h
 clear h
 replace H := Option.bind_eq_some_iff.mp H
 obtain ⟨t755, A20, H⟩ := H
 replace H : (some (a0_0, a0_1, a0_2, a0_3, a0_4, a0_5, t755)) = some (r1, r2, r3, r4, r5, r6, r7) := H
 have A2 := Aside0.mk A20
 clear A20
 simp only [Option.some.injEq, Prod.mk.injEq] at H
 obtain ⟨rfl, rfl, rfl, rfl, rfl, rfl, rfl⟩ := H
 go_enter Try.func35, Try.ntmps35
 go_wp2_with (first | ((with_reducible refine gate_dst (N := 1) rfl ?_); refine box_event ?hg (N := 1) ?hd (cs := #[.int .i64 a0_0, .int .i64 a0_1, .int .i64 a0_2, .int .i64 a0_3, .int .i64 a0_4, .int .i64 a0_5, .slice A0_6 l0_6.length c0_6]) (t := 50) ?hr ?_; (case hd => rfl); (case hg => rfl); (case hr => first | (go_simp; done) | (go_simp; rfl)); intro gb752 hg w3 hbox hb; have BK752 := Aside0.mk (hbox); have GW752 := Aside0.mk ((by rw [hg]; exact below_size pb : w.heap.size ≤ gb752)); have GE752 := GW752; replace HB := Aside0.mk (below_step pb hb); clear hb hbox hg) | ((with_reducible refine gate_dst (N := 2) rfl ?_); refine box_event ?hg (N := 2) ?hd (cs := #[.int .i64 0, .int .i64 0, .int .i64 0, .int .i64 0, .int .i64 0, .int .i64 0, .slice none 0 0]) (t := 53) ?hr ?_; (case hd => rfl); (case hg => rfl); (case hr => first | (go_simp; done) | (go_simp; rfl)); intro gb753 hg w4 hbox hb; have BK753 := Aside0.mk (hbox); have GW753 := Aside0.mk ((by rw [hg]; exact below_size pb : w.heap.size ≤ gb753)); have GE753 := GW753; have NB752_753 := Aside0.mk ((by rw [hg]; exact Nat.ne_of_lt (blk_lt (up BK752.out)) : gb752 ≠ gb753)); have NB753_752 := Aside0.mk (Ne.symm NB752_753.out); replace BK752 := Aside0.mk (blk_below (up BK752.out) hb); replace HB := Aside0.mk (below_step pb hb); clear hb hbox hg) | ((with_reducible refine gate_dst (N := 3) rfl ?_); refine box_event ?hg (N := 3) ?hd (cs := #[.int .i64 0, .int .i64 0, .int .i64 0, .int .i64 0, .int .i64 0, .int .i64 0, .slice none 0 0]) (t := 53) ?hr ?_; (case hd => rfl); (case hg => rfl); (case hr => first | (go_simp; done) | (go_simp; rfl)); intro gb754 hg w5 hbox hb; have BK754 := Aside0.mk (hbox); have GW754 := Aside0.mk ((by rw [hg]; exact below_size pb : w.heap.size ≤ gb754)); have GE754 := GW754; have NB752_754 := Aside0.mk ((by rw [hg]; exact Nat.ne_of_lt (blk_lt (up BK752.out)) : gb752 ≠ gb754)); have NB754_752 := Aside0.mk (Ne.symm NB752_754.out); have NB753_754 := Aside0.mk ((by rw [hg]; exact Nat.ne_of_lt (blk_lt (up BK753.out)) : gb753 ≠ gb754)); have NB754_753 := Aside0.mk (Ne.symm NB753_754.out); replace BK752 := Aside0.mk (blk_below (up BK752.out) hb); replace BK753 := Aside0.mk (blk_below (up BK753.out) hb); replace HB := Aside0.mk (below_step pb hb); clear hb hbox hg; have hnb6 := NB752_753.out; have hnc6 := NB753_752.out; have hnb7 := NB752_754.out; have hnc7 := NB754_752.out; have hcz8_0 : w5.cell? ⟨gb752, 0, none⟩ = some (.int .i64 a0_0) := (blk_cell BK752.out 0).trans rfl; have hcz8_1 : w5.cell? ⟨gb752, 1, none⟩ = some (.int .i64 a0_1) := (blk_cell BK752.out 1).trans rfl; have hcz8_2 : w5.cell? ⟨gb752, 2, none⟩ = some (.int .i64 a0_2) := (blk_cell BK752.out 2).trans rfl; have hcz8_3 : w5.cell? ⟨gb752, 3, none⟩ = some (.int .i64 a0_3) := (blk_cell BK752.out 3).trans rfl; have hcz8_4 : w5.cell? ⟨gb752, 4, none⟩ = some (.int .i64 a0_4) := (blk_cell BK752.out 4).trans rfl; have hcz8_5 : w5.cell? ⟨gb752, 5, none⟩ = some (.int .i64 a0_5) := (blk_cell BK752.out 5).trans rfl; have hcz8_6 : w5.cell? ⟨gb752, 6, none⟩ = some (.slice A0_6 l0_6.length c0_6) := (blk_cell BK752.out 6).trans rfl; have hfz8_0 := blk_frozen BK752.out 0; have hfz8_1 := blk_frozen BK752.out 1; have hfz8_2 := blk_frozen BK752.out 2; have hfz8_3 := blk_frozen BK752.out 3; have hfz8_4 := blk_frozen BK752.out 4; have hfz8_5 := blk_frozen BK752.out 5; have hfz8_6 := blk_frozen BK752.out 6; have hnb9 := NB754_753.out; have hnc9 := NB753_754.out; have hcz10_0 : w5.cell? ⟨gb754, 0, none⟩ = some (.int .i64 0) := (blk_cell BK754.out 0).trans rfl; have hcz10_1 : w5.cell? ⟨gb754, 1, none⟩ = some (.int .i64 0) := (blk_cell BK754.out 1).trans rfl; have hcz10_2 : w5.cell? ⟨gb754, 2, none⟩ = some (.int .i64 0) := (blk_cell BK754.out 2).trans rfl; have hcz10_3 : w5.cell? ⟨gb754, 3, none⟩ = some (.int .i64 0) := (blk_cell BK754.out 3).trans rfl; have hcz10_4 : w5.cell? ⟨gb754, 4, none⟩ = some (.int .i64 0) := (blk_cell BK754.out 4).trans rfl; have hcz10_5 : w5.cell? ⟨gb754, 5, none⟩ = some (.int .i64 0) := (blk_cell BK754.out 5).trans rfl; have hcz10_6 : w5.cell? ⟨gb754, 6, none⟩ = some (.slice none 0 0) := (blk_cell BK754.out 6).trans rfl; have hfz10_0 := blk_frozen BK754.out 0; have hfz10_1 := blk_frozen BK754.out 1; have hfz10_2 := blk_frozen BK754.out 2; have hfz10_3 := blk_frozen BK754.out 3; have hfz10_4 := blk_frozen BK754.out 4; have hfz10_5 := blk_frozen BK754.out 5; have hfz10_6 := blk_frozen BK754.out 6) | ((with_reducible refine gate_callee (f := 21) rfl ?_); refine goesL_ (some 24) rfl rfl Try.func21 (by kernel_rfl) rfl #[.slice A0_6 l0_6.length c0_6] rfl (by (try simp only [List.map_toArray, List.map_cons, List.map_nil]); first | done | rfl | (simp only [List.length_drop, List.length_take]; rfl)) ?_; (with_reducible refine (laws_toByteS.calls k _ _ l0_6 t755 _ ?side1 ?side2 A2.out).mono ?_); (case side1 => exact Kd.C_below HR0_6.out pb); (case side2 => exact HC0_6.out); rintro e w11 ⟨v756, rfl, ho0, hb⟩; refine ⟨_, rfl, ?_⟩; have HO757 := Aside0.mk (Kd.R_lower ho0 (below_size pb)); replace BK752 := Aside0.mk (blk_below (g := gb752) (o := .cells #[.int .i64 a0_0, .int .i64 a0_1, .int .i64 a0_2, .int .i64 a0_3, .int .i64 a0_4, .int .i64 a0_5, .slice A0_6 l0_6.length c0_6] 50 (0, 0)) (by refine up ?_; refine blk_far ?_ NB752_754.out _; refine up ?_; refine blk_far ?_ NB752_754.out _; refine up ?_; refine blk_far ?_ NB752_754.out _; refine up ?_; refine blk_far ?_ NB752_754.out _; refine up ?_; refine blk_far ?_ NB752_754.out _; refine up ?_; refine blk_far ?_ NB752_754.out _; exact up BK752.out) hb); replace BK753 := Aside0.mk (blk_below (g := gb753) (o := .cells #[.int .i64 0, .int .i64 0, .int .i64 0, .int .i64 0, .int .i64 0, .int .i64 0, .slice none 0 0] 53 (0, 0)) (by refine up ?_; refine blk_far ?_ NB753_754.out _; refine up ?_; refine blk_far ?_ NB753_754.out _; refine up ?_; refine blk_far ?_ NB753_754.out _; refine up ?_; refine blk_far ?_ NB753_754.out _; refine up ?_; refine blk_far ?_ NB753_754.out _; refine up ?_; refine blk_far ?_ NB753_754.out _; exact up BK753.out) hb); replace BK754 := Aside0.mk (blk_below (g := gb754) (o := .cells #[.int .i64 a0_0, .int .i64 a0_1, .int .i64 a0_2, .int .i64 a0_3, .int .i64 a0_4, .int .i64 a0_5, .slice none 0 0] 53 (0, 0)) (by refine up ?_; refine blk_put (cs := #[.int .i64 a0_0, .int .i64 a0_1, .int .i64 a0_2, .int .i64 a0_3, .int .i64 a0_4, .int .i64 0, .slice none 0 0]) ?_ 5 _ rfl; refine up ?_; refine blk_put (cs := #[.int .i64 a0_0, .int .i64 a0_1, .int .i64 a0_2, .int .i64 a0_3, .int .i64 0, .int .i64 0, .slice none 0 0]) ?_ 4 _ rfl; refine up ?_; refine blk_put (cs := #[.int .i64 a0_0, .int .i64 a0_1, .int .i64 a0_2, .int .i64 0, .int .i64 0, .int .i64 0, .slice none 0 0]) ?_ 3 _ rfl; refine up ?_; refine blk_put (cs := #[.int .i64 a0_0, .int .i64 a0_1, .int .i64 0, .int .i64 0, .int .i64 0, .int .i64 0, .slice none 0 0]) ?_ 2 _ rfl; refine up ?_; refine blk_put (cs := #[.int .i64 a0_0, .int .i64 0, .int .i64 0, .int .i64 0, .int .i64 0, .int .i64 0, .slice none 0 0]) ?_ 1 _ rfl; refine up ?_; refine blk_put (cs := #[.int .i64 0, .int .i64 0, .int .i64 0, .int .i64 0, .int .i64 0, .int .i64 0, .slice none 0 0]) ?_ 0 _ rfl; exact up BK754.out) hb); replace HB := Aside0.mk (below_step pb hb); (try clear hb); (try clear hb2); (try clear hk); (try clear hi); (try clear ho0); obtain ⟨Ao12, co12, eo12⟩ := Kd.R_slice HO757.out; subst eo12; have hcz13_0 : w11.cell? ⟨gb754, 0, none⟩ = some (.int .i64 a0_0) := (blk_cell BK754.out 0).trans rfl; have hcz13_1 : w11.cell? ⟨gb754, 1, none⟩ = some (.int .i64 a0_1) := (blk_cell BK754.out 1).trans rfl; have hcz13_2 : w11.cell? ⟨gb754, 2, none⟩ = some (.int .i64 a0_2) := (blk_cell BK754.out 2).trans rfl; have hcz13_3 : w11.cell? ⟨gb754, 3, none⟩ = some (.int .i64 a0_3) := (blk_cell BK754.out 3).trans rfl; have hcz13_4 : w11.cell? ⟨gb754, 4, none⟩ = some (.int .i64 a0_4) := (blk_cell BK754.out 4).trans rfl; have hcz13_5 : w11.cell? ⟨gb754, 5, none⟩ = some (.int .i64 a0_5) := (blk_cell BK754.out 5).trans rfl; have hcz13_6 : w11.cell? ⟨gb754, 6, none⟩ = some (.slice none 0 0) := (blk_cell BK754.out 6).trans rfl; have hfz13_0 := blk_frozen BK754.out 0; have hfz13_1 := blk_frozen BK754.out 1; have hfz13_2 := blk_frozen BK754.out 2; have hfz13_3 := blk_frozen BK754.out 3; have hfz13_4 := blk_frozen BK754.out 4; have hfz13_5 := blk_frozen BK754.out 5; have hfz13_6 := blk_frozen BK754.out 6; have hcz14_0 : w11.cell? ⟨gb753, 0, none⟩ = some (.int .i64 0) := (blk_cell BK753.out 0).trans rfl; have hcz14_1 : w11.cell? ⟨gb753, 1, none⟩ = some (.int .i64 0) := (blk_cell BK753.out 1).trans rfl; have hcz14_2 : w11.cell? ⟨gb753, 2, none⟩ = some (.int .i64 0) := (blk_cell BK753.out 2).trans rfl; have hcz14_3 : w11.cell? ⟨gb753, 3, none⟩ = some (.int .i64 0) := (blk_cell BK753.out 3).trans rfl; have hcz14_4 : w11.cell? ⟨gb753, 4, none⟩ = some (.int .i64 0) := (blk_cell BK753.out 4).trans rfl; have hcz14_5 : w11.cell? ⟨gb753, 5, none⟩ = some (.int .i64 0) := (blk_cell BK753.out 5).trans rfl; have hcz14_6 : w11.cell? ⟨gb753, 6, none⟩ = some (.slice none 0 0) := (blk_cell BK753.out 6).trans rfl; have hfz14_0 := blk_frozen BK753.out 0; have hfz14_1 := blk_frozen BK753.out 1; have hfz14_2 := blk_frozen BK753.out 2; have hfz14_3 := blk_frozen BK753.out 3; have hfz14_4 := blk_frozen BK753.out 4; have hfz14_5 := blk_frozen BK753.out 5; have hfz14_6 := blk_frozen BK753.out 6))
 refine bodyPost_ret (results_cell_row rfl _ _ gb753 53 #[.int .i64 a0_0, .int .i64 a0_1, .int .i64 a0_2, .int .i64 a0_3, .int .i64 a0_4, .int .i64 a0_5, .slice Ao12 t755.length co12] (0, 0) _ rfl (by refine up ?_; refine blk_put (cs := #[.int .i64 a0_0, .int .i64 a0_1, .int .i64 a0_2, .int .i64 a0_3, .int .i64 a0_4, .int .i64 a0_5, .slice none 0 0]) ?_ 6 _ rfl; refine up ?_; refine blk_put (cs := #[.int .i64 a0_0, .int .i64 a0_1, .int .i64 a0_2, .int .i64 a0_3, .int .i64 a0_4, .int .i64 0, .slice none 0 0]) ?_ 5 _ rfl; refine up ?_; refine blk_put (cs := #[.int .i64 a0_0, .int .i64 a0_1, .int .i64 a0_2, .int .i64 a0_3, .int .i64 0, .int .i64 0, .slice none 0 0]) ?_ 4 _ rfl; refine up ?_; refine blk_put (cs := #[.int .i64 a0_0, .int .i64 a0_1, .int .i64 a0_2, .int .i64 0, .int .i64 0, .int .i64 0, .slice none 0 0]) ?_ 3 _ rfl; refine up ?_; refine blk_put (cs := #[.int .i64 a0_0, .int .i64 a0_1, .int .i64 0, .int .i64 0, .int .i64 0, .int .i64 0, .slice none 0 0]) ?_ 2 _ rfl; refine up ?_; refine blk_put (cs := #[.int .i64 a0_0, .int .i64 0, .int .i64 0, .int .i64 0, .int .i64 0, .int .i64 0, .slice none 0 0]) ?_ 1 _ rfl; refine up ?_; refine blk_put (cs := #[.int .i64 0, .int .i64 0, .int .i64 0, .int .i64 0, .int .i64 0, .int .i64 0, .slice none 0 0]) ?_ 0 _ rfl; refine up ?_; refine blk_far ?_ NB753_754.out _; exact up BK753.out) Try.underlying53 rfl (by kernel_rfl)) rfl ?_
 exact ⟨_, by first | rfl | (simp [errW_none, errW_some] <;> rfl) | (simp [*, errW_none, errW_some] <;> rfl), by (with_reducible repeat (first | apply Kd.R_alloc | apply Kd.R_drewN | apply Kd.R_drew)); exact Kd.R_mono (Kd.R_far (p := ⟨gb753, 6, none⟩) (Kd.R_far (p := ⟨gb753, 5, none⟩) (Kd.R_far (p := ⟨gb753, 4, none⟩) (Kd.R_far (p := ⟨gb753, 3, none⟩) (Kd.R_far (p := ⟨gb753, 2, none⟩) (Kd.R_far (p := ⟨gb753, 1, none⟩) (Kd.R_far (p := ⟨gb753, 0, none⟩) (Kd.R_far (p := ⟨gb754, 6, none⟩) (Kd.R_types (Kd.R_types HO757.out BK754.out (by decide)) BK753.out (by decide)) (fun _ hk => hk.1.2) (.slice Ao12 t755.length co12)) (fun _ hk => hk.2) (.int .i64 a0_0)) (fun _ hk => hk.2) (.int .i64 a0_1)) (fun _ hk => hk.2) (.int .i64 a0_2)) (fun _ hk => hk.2) (.int .i64 a0_3)) (fun _ hk => hk.2) (.int .i64 a0_4)) (fun _ hk => hk.2) (.int .i64 a0_5)) (fun _ hk => hk.2) (.slice Ao12 t755.length co12)) (fun _ hk => trivial), by repeat (first | (with_reducible first | exact HB.out | apply below_alloc | apply pw_below_drewN | apply below_drew1 | refine below_set ?_ GE752.out | refine below_set ?_ GE753.out | refine below_set ?_ GE754.out) | exact HB.out)⟩

/-! ### impl_HasPorts: function 91 -/
def impl_HasPorts.f (a0 : Int) : Option (Bool) := if a0 = 6 then (some true) else (some (a0 == 17))
set_option maxHeartbeats 8000000 in
set_option maxRecDepth 100000 in
theorem impl_HasPorts.calls (a0 : Int) (r : Bool) (w : World) (h : impl_HasPorts.f a0 = some r) :
 Calls Try.prog 91 #[.int .i64 a0] w fun e w' => e = .returned (.bool r) ∧ Drawn0 w w' := by
 have H : (if a0 = 6 then (some true) else (some (a0 == 17))) = some r := h
 clear h
 by_cases c2 : a0 = 6
 · rw [if_pos c2] at H
   have c2b0 : (a0 == 6) = true := beq_iff_eq.mpr c2
   have c2b1 : (a0 != 6) = false := bne_eq_false_iff_eq.mpr c2
   clear c2
   obtain rfl := Option.some.inj H
   go_enter Try.func91, Try.ntmps91
   go_wp2
   go_ret
   exact ⟨by first | rfl | (simp; done) | (simp [*]; done), by repeat (first | exact Drawn0.refl _ | apply Drawn0.step)⟩
 · rw [if_neg c2] at H
   have c2b0 : (a0 == 6) = false := beq_eq_false_iff_ne.mpr c2
   have c2b1 : (a0 != 6) = true := bne_iff_ne.mpr c2
   obtain rfl := Option.some.inj H
   go_enter Try.func91, Try.ntmps91
   go_wp2
   go_ret
   exact ⟨by first | rfl | (simp; done) | (simp [*]; done), by repeat (first | exact Drawn0.refl _ | apply Drawn0.step)⟩

/-! ### impl_isAddress: function 111 -/
def impl_isAddress.f (a0 : Int) : Option (Bool) := (impl_in.f a0 0 4294967295).bind fun t758 => (some t758)
set_option maxHeartbeats 8000000 in
set_option maxRecDepth 100000 in
theorem impl_isAddress.calls (a0 : Int) (r : Bool) (w : World) (h : impl_isAddress.f a0 = some r) :
 Calls Try.prog 111 #[.int .i64 a0] w fun e w' => e = .returned (.bool r) ∧ Drawn0 w w' := by
 have H : ((impl_in.f a0 0 4294967295).bind fun t758 => (some t758)) = some r := h
 clear h
 replace H := Option.bind_eq_some_iff.mp H
 obtain ⟨t758, A20, H⟩ := H
 replace H : (some t758) = some r := H
 have A2 := Aside0.mk A20
 clear A20
 obtain rfl := Option.some.inj H
 go_enter Try.func111, Try.ntmps111
 go_wp2_with (first | ((with_reducible refine gate_callee (f := 52) rfl ?_); refine goesL_ (some 4) rfl rfl Try.func52 (by kernel_rfl) rfl #[.int .i64 a0, .int .i64 0, .int .i64 4294967295] rfl (by (try simp only [List.map_toArray, List.map_cons, List.map_nil]); first | done | rfl | (simp only [List.length_drop, List.length_take]; rfl)) ?_; (with_reducible refine (impl_in.calls a0 0 4294967295 t758 _ A2.out).mono ?_); rintro e w' ⟨rfl, ⟨nd, rfl⟩⟩; refine ⟨_, rfl, ?_⟩))
 go_ret
 exact ⟨by first | rfl | (simp; done) | (simp [*]; done), by repeat (first | exact Drawn0.refl _ | apply Drawn0.step)⟩

/-! ### impl_isPort: function 112 -/
def impl_isPort.f (a0 : Int) : Option (Bool) := (impl_in.f a0 0 65535).bind fun t759 => (some t759)
set_option maxHeartbeats 8000000 in
set_option maxRecDepth 100000 in
theorem impl_isPort.calls (a0 : Int) (r : Bool) (w : World) (h : impl_isPort.f a0 = some r) :
 Calls Try.prog 112 #[.int .i64 a0] w fun e w' => e = .returned (.bool r) ∧ Drawn0 w w' := by
 have H : ((impl_in.f a0 0 65535).bind fun t759 => (some t759)) = some r := h
 clear h
 replace H := Option.bind_eq_some_iff.mp H
 obtain ⟨t759, A20, H⟩ := H
 replace H : (some t759) = some r := H
 have A2 := Aside0.mk A20
 clear A20
 obtain rfl := Option.some.inj H
 go_enter Try.func112, Try.ntmps112
 go_wp2_with (first | ((with_reducible refine gate_callee (f := 52) rfl ?_); refine goesL_ (some 4) rfl rfl Try.func52 (by kernel_rfl) rfl #[.int .i64 a0, .int .i64 0, .int .i64 65535] rfl (by (try simp only [List.map_toArray, List.map_cons, List.map_nil]); first | done | rfl | (simp only [List.length_drop, List.length_take]; rfl)) ?_; (with_reducible refine (impl_in.calls a0 0 65535 t759 _ A2.out).mono ?_); rintro e w' ⟨rfl, ⟨nd, rfl⟩⟩; refine ⟨_, rfl, ?_⟩))
 go_ret
 exact ⟨by first | rfl | (simp; done) | (simp [*]; done), by repeat (first | exact Drawn0.refl _ | apply Drawn0.step)⟩

/-! ### impl_PacketFault: function 80 -/
mutual
def impl_PacketFault.j0 : Nat → Bool → Int → Int → Int → Int → Int → Int → List Int → Option (Int)
 | 0, _, _, _, _, _, _, _, _ => none
 | k + 1, x3, x761000, x761001, x761002, x761003, x761004, x761005, x761006 => if x3 = true then (some 3) else ((impl_HasPorts.f x761002).bind fun t767 => (if t767 = true then (impl_PacketFault.j1 k false x761000 x761001 x761002 x761003 x761004 x761005 x761006) else (if x761004 = 0 then (impl_PacketFault.j1 k (x761005 != 0) x761000 x761001 x761002 x761003 x761004 x761005 x761006) else (impl_PacketFault.j1 k true x761000 x761001 x761002 x761003 x761004 x761005 x761006))))
def impl_PacketFault.j1 : Nat → Bool → Int → Int → Int → Int → Int → Int → List Int → Option (Int)
 | 0, _, _, _, _, _, _, _, _ => none
 | k + 1, x38, x761000, x761001, x761002, x761003, x761004, x761005, x761006 => if x38 = true then (some 1) else (if (x761006.length : Int) > 200 then (some 2) else (some 0))
end
def impl_PacketFault.f (k : Nat) (a0_0 : Int) (a0_1 : Int) (a0_2 : Int) (a0_3 : Int) (a0_4 : Int) (a0_5 : Int) (l0_6 : List Int) : Option (Int) := (impl_isAddress.f a0_0).bind fun t761 => (if t761 = true then ((impl_isAddress.f a0_1).bind fun t762 => (if t762 = true then ((impl_in.f a0_2 1 255).bind fun t763 => (if t763 = true then ((impl_in.f a0_3 1 255).bind fun t764 => (if t764 = true then ((impl_isPort.f a0_4).bind fun t765 => (if t765 = true then ((impl_isPort.f a0_5).bind fun t766 => (impl_PacketFault.j0 k (!t766) a0_0 a0_1 a0_2 a0_3 a0_4 a0_5 l0_6)) else (impl_PacketFault.j0 k true a0_0 a0_1 a0_2 a0_3 a0_4 a0_5 l0_6))) else (impl_PacketFault.j0 k true a0_0 a0_1 a0_2 a0_3 a0_4 a0_5 l0_6))) else (impl_PacketFault.j0 k true a0_0 a0_1 a0_2 a0_3 a0_4 a0_5 l0_6))) else (impl_PacketFault.j0 k true a0_0 a0_1 a0_2 a0_3 a0_4 a0_5 l0_6))) else (impl_PacketFault.j0 k true a0_0 a0_1 a0_2 a0_3 a0_4 a0_5 l0_6))
theorem impl_PacketFault.mono_l : ∀ k, (∀ y0 y1 y2 y3 y4 y5 y6 y7, LeO (impl_PacketFault.j0 k y0 y1 y2 y3 y4 y5 y6 y7) (impl_PacketFault.j0 (k + 1) y0 y1 y2 y3 y4 y5 y6 y7)) ∧ (∀ y0 y1 y2 y3 y4 y5 y6 y7, LeO (impl_PacketFault.j1 k y0 y1 y2 y3 y4 y5 y6 y7) (impl_PacketFault.j1 (k + 1) y0 y1 y2 y3 y4 y5 y6 y7))
 | 0 => ⟨fun _ _ _ _ _ _ _ _ r h => by simp [impl_PacketFault.j0] at h, fun _ _ _ _ _ _ _ _ r h => by simp [impl_PacketFault.j1] at h⟩
 | k + 1 => by
  obtain ⟨ih0, ih1⟩ := impl_PacketFault.mono_l k
  refine ⟨?_, ?_⟩
  · intro y0 y1 y2 y3 y4 y5 y6 y7
    unfold impl_PacketFault.j0
    repeat' first
    | (with_reducible exact ih0 _ _ _ _ _ _ _ _)
    | (with_reducible exact ih1 _ _ _ _ _ _ _ _)
    | (with_reducible exact LeO.refl _)
    | (with_reducible exact LeO.none _)
    | (with_reducible refine LeO.ite ?_ ?_)
    | (with_reducible refine LeO.bind ?_ (fun _ => ?_))
    | exact ih0 _ _ _ _ _ _ _ _
    | exact ih1 _ _ _ _ _ _ _ _
    | exact LeO.none _
    | refine LeO.ite ?_ ?_
    | refine LeO.bind ?_ (fun _ => ?_)
  · intro y0 y1 y2 y3 y4 y5 y6 y7
    unfold impl_PacketFault.j1
    repeat' first
    | (with_reducible exact ih0 _ _ _ _ _ _ _ _)
    | (with_reducible exact ih1 _ _ _ _ _ _ _ _)
    | (with_reducible exact LeO.refl _)
    | (with_reducible exact LeO.none _)
    | (with_reducible refine LeO.ite ?_ ?_)
    | (with_reducible refine LeO.bind ?_ (fun _ => ?_))
    | exact ih0 _ _ _ _ _ _ _ _
    | exact ih1 _ _ _ _ _ _ _ _
    | exact LeO.none _
    | refine LeO.ite ?_ ?_
    | refine LeO.bind ?_ (fun _ => ?_)
theorem impl_PacketFault.mono : ∀ a0 a1 a2 a3 a4 a5 a6 k, LeO (impl_PacketFault.f k a0 a1 a2 a3 a4 a5 a6) (impl_PacketFault.f (k + 1) a0 a1 a2 a3 a4 a5 a6) := by
 intro a0 a1 a2 a3 a4 a5 a6 k
 obtain ⟨ih0, ih1⟩ := impl_PacketFault.mono_l k
 unfold impl_PacketFault.f
 repeat' first
  | (with_reducible exact ih0 _ _ _ _ _ _ _ _)
  | (with_reducible exact ih1 _ _ _ _ _ _ _ _)
  | (with_reducible exact LeO.refl _)
  | (with_reducible exact LeO.none _)
  | (with_reducible refine LeO.ite ?_ ?_)
  | (with_reducible refine LeO.bind ?_ (fun _ => ?_))
  | exact ih0 _ _ _ _ _ _ _ _
  | exact ih1 _ _ _ _ _ _ _ _
  | exact LeO.none _
  | refine LeO.ite ?_ ?_
  | refine LeO.bind ?_ (fun _ => ?_)
set_option maxHeartbeats 8000000 in
set_option maxRecDepth 100000 in
theorem impl_PacketFault.calls (k : Nat) (a0_0 : Int) (a0_1 : Int) (a0_2 : Int) (a0_3 : Int) (a0_4 : Int) (a0_5 : Int) (A0_6 : Option Addr) (c0_6 : Nat) (l0_6 : List Int) (r : Int) (w : World) (hr0_6 : Kd.C (Kd.int .u8) w A0_6 l0_6.length l0_6) (hc0_6 : l0_6.length ≤ c0_6) (h : impl_PacketFault.f k a0_0 a0_1 a0_2 a0_3 a0_4 a0_5 l0_6 = some r) :
 Calls Try.prog 80 #[.agg #[.int .i64 a0_0, .int .i64 a0_1, .int .i64 a0_2, .int .i64 a0_3, .int .i64 a0_4, .int .i64 a0_5, .slice A0_6 l0_6.length c0_6]] w fun e w' => e = .returned (.int .i64 r) ∧ Below w.heap.size w w' := by
 have hu53 := Try.underlying53
 have HR0_6 := Aside0.mk hr0_6
 have HC0_6 := Aside0.mk hc0_6
 clear hr0_6 hc0_6
 have HB := Aside0.mk (Below.refl w.heap.size w)
 have H : ((impl_isAddress.f a0_0).bind fun t761 => (if t761 = true then ((impl_isAddress.f a0_1).bind fun t762 => (if t762 = true then ((impl_in.f a0_2 1 255).bind fun t763 => (if t763 = true then ((impl_in.f a0_3 1 255).bind fun t764 => (if t764 = true then ((impl_isPort.f a0_4).bind fun t765 => (if t765 = true then ((impl_isPort.f a0_5).bind fun t766 => (impl_PacketFault.j0 k (!t766) a0_0 a0_1 a0_2 a0_3 a0_4 a0_5 l0_6)) else (impl_PacketFault.j0 k true a0_0 a0_1 a0_2 a0_3 a0_4 a0_5 l0_6))) else (impl_PacketFault.j0 k true a0_0 a0_1 a0_2 a0_3 a0_4 a0_5 l0_6))) else (impl_PacketFault.j0 k true a0_0 a0_1 a0_2 a0_3 a0_4 a0_5 l0_6))) else (impl_PacketFault.j0 k true a0_0 a0_1 a0_2 a0_3 a0_4 a0_5 l0_6))) else (impl_PacketFault.j0 k true a0_0 a0_1 a0_2 a0_3 a0_4 a0_5 l0_6))) = some r := h
 clear h
 have HC2 := Aside0.mk H
 clear H
 go_enter Try.func80, Try.ntmps80
 go_upto_region 1 with (first | ((with_reducible refine gate_dst (N := 1) rfl ?_); refine box_event ?hg (N := 1) ?hd (cs := #[.int .i64 a0_0, .int .i64 a0_1, .int .i64 a0_2, .int .i64 a0_3, .int .i64 a0_4, .int .i64 a0_5, .slice A0_6 l0_6.length c0_6]) (t := 53) ?hr ?_; (case hd => rfl); (case hg => rfl); (case hr => first | (go_simp; done) | (go_simp; rfl)); intro gb760 hg w3 hbox hb; have BK760 := Aside0.mk (hbox); have GW760 := Aside0.mk ((by rw [hg]; exact below_size pb : w.heap.size ≤ gb760)); have GE760 := GW760; replace HB := Aside0.mk (below_step pb hb); clear hb hbox hg))
 (try simp only [Act.put, List.setIfInBounds_toArray, List.set_cons_zero, List.set_cons_succ])
 go_cut [3] (fun v3 wc => ∃ (kq : Nat) (x3_1 : Bool), v3 = .bool x3_1 ∧ Aside0 (impl_PacketFault.j0 kq x3_1 a0_0 a0_1 a0_2 a0_3 a0_4 a0_5 l0_6 = some r) ∧ Aside0 (kq ≤ k) ∧ Aside0 (wc.heap[gb760]? = some (.cells #[.int .i64 a0_0, .int .i64 a0_1, .int .i64 a0_2, .int .i64 a0_3, .int .i64 a0_4, .int .i64 a0_5, (.slice A0_6 l0_6.length c0_6)] 53 (0, 0))) ∧ Aside0 (Below w.heap.size w wc))
 case first =>
  have H := HC2.out
  clear HC2
  replace H := Option.bind_eq_some_iff.mp H
  obtain ⟨t761, A40, H⟩ := H
  replace H : (if t761 = true then ((impl_isAddress.f a0_1).bind fun t762 => (if t762 = true then ((impl_in.f a0_2 1 255).bind fun t763 => (if t763 = true then ((impl_in.f a0_3 1 255).bind fun t764 => (if t764 = true then ((impl_isPort.f a0_4).bind fun t765 => (if t765 = true then ((impl_isPort.f a0_5).bind fun t766 => (impl_PacketFault.j0 k (!t766) a0_0 a0_1 a0_2 a0_3 a0_4 a0_5 l0_6)) else (impl_PacketFault.j0 k true a0_0 a0_1 a0_2 a0_3 a0_4 a0_5 l0_6))) else (impl_PacketFault.j0 k true a0_0 a0_1 a0_2 a0_3 a0_4 a0_5 l0_6))) else (impl_PacketFault.j0 k true a0_0 a0_1 a0_2 a0_3 a0_4 a0_5 l0_6))) else (impl_PacketFault.j0 k true a0_0 a0_1 a0_2 a0_3 a0_4 a0_5 l0_6))) else (impl_PacketFault.j0 k true a0_0 a0_1 a0_2 a0_3 a0_4 a0_5 l0_6)) = some r := H
  have A4 := Aside0.mk A40
  clear A40
  by_cases c5 : t761 = true
  · subst c5
    have H1 : ((impl_isAddress.f a0_1).bind fun t762 => (if t762 = true then ((impl_in.f a0_2 1 255).bind fun t763 => (if t763 = true then ((impl_in.f a0_3 1 255).bind fun t764 => (if t764 = true then ((impl_isPort.f a0_4).bind fun t765 => (if t765 = true then ((impl_isPort.f a0_5).bind fun t766 => (impl_PacketFault.j0 k (!t766) a0_0 a0_1 a0_2 a0_3 a0_4 a0_5 l0_6)) else (impl_PacketFault.j0 k true a0_0 a0_1 a0_2 a0_3 a0_4 a0_5 l0_6))) else (impl_PacketFault.j0 k true a0_0 a0_1 a0_2 a0_3 a0_4 a0_5 l0_6))) else (impl_PacketFault.j0 k true a0_0 a0_1 a0_2 a0_3 a0_4 a0_5 l0_6))) else (impl_PacketFault.j0 k true a0_0 a0_1 a0_2 a0_3 a0_4 a0_5 l0_6))) = some r := by rw [if_pos rfl] at H; exact H
    clear H
    have H := H1
    clear H1
    replace H := Option.bind_eq_some_iff.mp H
    obtain ⟨t762, A60, H⟩ := H
    replace H : (if t762 = true then ((impl_in.f a0_2 1 255).bind fun t763 => (if t763 = true then ((impl_in.f a0_3 1 255).bind fun t764 => (if t764 = true then ((impl_isPort.f a0_4).bind fun t765 => (if t765 = true then ((impl_isPort.f a0_5).bind fun t766 => (impl_PacketFault.j0 k (!t766) a0_0 a0_1 a0_2 a0_3 a0_4 a0_5 l0_6)) else (impl_PacketFault.j0 k true a0_0 a0_1 a0_2 a0_3 a0_4 a0_5 l0_6))) else (impl_PacketFault.j0 k true a0_0 a0_1 a0_2 a0_3 a0_4 a0_5 l0_6))) else (impl_PacketFault.j0 k true a0_0 a0_1 a0_2 a0_3 a0_4 a0_5 l0_6))) else (impl_PacketFault.j0 k true a0_0 a0_1 a0_2 a0_3 a0_4 a0_5 l0_6)) = some r := H
    have A6 := Aside0.mk A60
    clear A60
    by_cases c7 : t762 = true
    · subst c7
      have H1 : ((impl_in.f a0_2 1 255).bind fun t763 => (if t763 = true then ((impl_in.f a0_3 1 255).bind fun t764 => (if t764 = true then ((impl_isPort.f a0_4).bind fun t765 => (if t765 = true then ((impl_isPort.f a0_5).bind fun t766 => (impl_PacketFault.j0 k (!t766) a0_0 a0_1 a0_2 a0_3 a0_4 a0_5 l0_6)) else (impl_PacketFault.j0 k true a0_0 a0_1 a0_2 a0_3 a0_4 a0_5 l0_6))) else (impl_PacketFault.j0 k true a0_0 a0_1 a0_2 a0_3 a0_4 a0_5 l0_6))) else (impl_PacketFault.j0 k true a0_0 a0_1 a0_2 a0_3 a0_4 a0_5 l0_6))) = some r := by rw [if_pos rfl] at H; exact H
      clear H
      have H := H1
      clear H1
      replace H := Option.bind_eq_some_iff.mp H
      obtain ⟨t763, A80, H⟩ := H
      replace H : (if t763 = true then ((impl_in.f a0_3 1 255).bind fun t764 => (if t764 = true then ((impl_isPort.f a0_4).bind fun t765 => (if t765 = true then ((impl_isPort.f a0_5).bind fun t766 => (impl_PacketFault.j0 k (!t766) a0_0 a0_1 a0_2 a0_3 a0_4 a0_5 l0_6)) else (impl_PacketFault.j0 k true a0_0 a0_1 a0_2 a0_3 a0_4 a0_5 l0_6))) else (impl_PacketFault.j0 k true a0_0 a0_1 a0_2 a0_3 a0_4 a0_5 l0_6))) else (impl_PacketFault.j0 k true a0_0 a0_1 a0_2 a0_3 a0_4 a0_5 l0_6)) = some r := H
      have A8 := Aside0.mk A80
      clear A80
      by_cases c9 : t763 = true
      · subst c9
        have H1 : ((impl_in.f a0_3 1 255).bind fun t764 => (if t764 = true then ((impl_isPort.f a0_4).bind fun t765 => (if t765 = true then ((impl_isPort.f a0_5).bind fun t766 => (impl_PacketFault.j0 k (!t766) a0_0 a0_1 a0_2 a0_3 a0_4 a0_5 l0_6)) else (impl_PacketFault.j0 k true a0_0 a0_1 a0_2 a0_3 a0_4 a0_5 l0_6))) else (impl_PacketFault.j0 k true a0_0 a0_1 a0_2 a0_3 a0_4 a0_5 l0_6))) = some r := by rw [if_pos rfl] at H; exact H
        clear H
        have H := H1
        clear H1
        replace H := Option.bind_eq_some_iff.mp H
        obtain ⟨t764, A100, H⟩ := H
        replace H : (if t764 = true then ((impl_isPort.f a0_4).bind fun t765 => (if t765 = true then ((impl_isPort.f a0_5).bind fun t766 => (impl_PacketFault.j0 k (!t766) a0_0 a0_1 a0_2 a0_3 a0_4 a0_5 l0_6)) else (impl_PacketFault.j0 k true a0_0 a0_1 a0_2 a0_3 a0_4 a0_5 l0_6))) else (impl_PacketFault.j0 k true a0_0 a0_1 a0_2 a0_3 a0_4 a0_5 l0_6)) = some r := H
        have A10 := Aside0.mk A100
        clear A100
        by_cases c11 : t764 = true
        · subst c11
          have H1 : ((impl_isPort.f a0_4).bind fun t765 => (if t765 = true then ((impl_isPort.f a0_5).bind fun t766 => (impl_PacketFault.j0 k (!t766) a0_0 a0_1 a0_2 a0_3 a0_4 a0_5 l0_6)) else (impl_PacketFault.j0 k true a0_0 a0_1 a0_2 a0_3 a0_4 a0_5 l0_6))) = some r := by rw [if_pos rfl] at H; exact H
          clear H
          have H := H1
          clear H1
          replace H := Option.bind_eq_some_iff.mp H
          obtain ⟨t765, A120, H⟩ := H
          replace H : (if t765 = true then ((impl_isPort.f a0_5).bind fun t766 => (impl_PacketFault.j0 k (!t766) a0_0 a0_1 a0_2 a0_3 a0_4 a0_5 l0_6)) else (impl_PacketFault.j0 k true a0_0 a0_1 a0_2 a0_3 a0_4 a0_5 l0_6)) = some r := H
          have A12 := Aside0.mk A120
          clear A120
          by_cases c13 : t765 = true
          · subst c13
            have H1 : ((impl_isPort.f a0_5).bind fun t766 => (impl_PacketFault.j0 k (!t766) a0_0 a0_1 a0_2 a0_3 a0_4 a0_5 l0_6)) = some r := by rw [if_pos rfl] at H; exact H
            clear H
            have H := H1
            clear H1
            replace H := Option.bind_eq_some_iff.mp H
            obtain ⟨t766, A140, H⟩ := H
            replace H : (impl_PacketFault.j0 k (!t766) a0_0 a0_1 a0_2 a0_3 a0_4 a0_5 l0_6) = some r := H
            have A14 := Aside0.mk A140
            clear A140
            have H' := Aside0.mk H
            clear H
            have hcz15_0 : w3.cell? ⟨gb760, 0, none⟩ = some (.int .i64 a0_0) := (blk_cell BK760.out 0).trans rfl
            have hcz15_1 : w3.cell? ⟨gb760, 1, none⟩ = some (.int .i64 a0_1) := (blk_cell BK760.out 1).trans rfl
            have hcz15_2 : w3.cell? ⟨gb760, 2, none⟩ = some (.int .i64 a0_2) := (blk_cell BK760.out 2).trans rfl
            have hcz15_3 : w3.cell? ⟨gb760, 3, none⟩ = some (.int .i64 a0_3) := (blk_cell BK760.out 3).trans rfl
            have hcz15_4 : w3.cell? ⟨gb760, 4, none⟩ = some (.int .i64 a0_4) := (blk_cell BK760.out 4).trans rfl
            have hcz15_5 : w3.cell? ⟨gb760, 5, none⟩ = some (.int .i64 a0_5) := (blk_cell BK760.out 5).trans rfl
            have hcz15_6 : w3.cell? ⟨gb760, 6, none⟩ = some (.slice A0_6 l0_6.length c0_6) := (blk_cell BK760.out 6).trans rfl
            have hfz15_0 := blk_frozen BK760.out 0
            have hfz15_1 := blk_frozen BK760.out 1
            have hfz15_2 := blk_frozen BK760.out 2
            have hfz15_3 := blk_frozen BK760.out 3
            have hfz15_4 := blk_frozen BK760.out 4
            have hfz15_5 := blk_frozen BK760.out 5
            have hfz15_6 := blk_frozen BK760.out 6
            go_wp2_with (first | ((with_reducible refine gate_callee (f := 111) rfl ?_); refine goesL_ (some 6) rfl rfl Try.func111 (by kernel_rfl) rfl #[.int .i64 a0_0] rfl (by (try simp only [List.map_toArray, List.map_cons, List.map_nil]); first | done | rfl | (simp only [List.length_drop, List.length_take]; rfl)) ?_; (with_reducible refine (impl_isAddress.calls a0_0 true _ A4.out).mono ?_); rintro e w' ⟨rfl, ⟨nd, rfl⟩⟩; refine ⟨_, rfl, ?_⟩) | (go_at_call 111; (with_reducible refine (impl_isAddress.calls a0_1 true _ A6.out).mono ?_); rintro e w' ⟨rfl, ⟨nd, rfl⟩⟩) | (go_at_call 52; (with_reducible refine (impl_in.calls a0_2 1 255 true _ A8.out).mono ?_); rintro e w' ⟨rfl, ⟨nd, rfl⟩⟩) | (go_at_call 52; (with_reducible refine (impl_in.calls a0_3 1 255 true _ A10.out).mono ?_); rintro e w' ⟨rfl, ⟨nd, rfl⟩⟩) | (go_at_call 112; (with_reducible refine (impl_isPort.calls a0_4 true _ A12.out).mono ?_); rintro e w' ⟨rfl, ⟨nd, rfl⟩⟩) | (go_at_call 112; (with_reducible refine (impl_isPort.calls a0_5 t766 _ A14.out).mono ?_); rintro e w' ⟨rfl, ⟨nd, rfl⟩⟩))
            go_meet
            case rel => exact ⟨_, (!t766), (by first | rfl | (simp; done) | (simp [*]; done)), H', ⟨by first | omega | exact Nat.le_refl _⟩, ⟨up BK760.out⟩, ⟨by repeat (first | (with_reducible first | exact HB.out | apply below_alloc | apply pw_below_drewN | apply below_drew1 | refine below_set ?_ GE760.out) | exact HB.out)⟩⟩
          · replace c13 := Bool.eq_false_iff.mpr c13
            subst c13
            have H1 : (impl_PacketFault.j0 k true a0_0 a0_1 a0_2 a0_3 a0_4 a0_5 l0_6) = some r := by rw [if_neg (show ¬ (false = true) by decide)] at H; exact H
            clear H
            have H := H1
            clear H1
            have H' := Aside0.mk H
            clear H
            have hcz16_0 : w3.cell? ⟨gb760, 0, none⟩ = some (.int .i64 a0_0) := (blk_cell BK760.out 0).trans rfl
            have hcz16_1 : w3.cell? ⟨gb760, 1, none⟩ = some (.int .i64 a0_1) := (blk_cell BK760.out 1).trans rfl
            have hcz16_2 : w3.cell? ⟨gb760, 2, none⟩ = some (.int .i64 a0_2) := (blk_cell BK760.out 2).trans rfl
            have hcz16_3 : w3.cell? ⟨gb760, 3, none⟩ = some (.int .i64 a0_3) := (blk_cell BK760.out 3).trans rfl
            have hcz16_4 : w3.cell? ⟨gb760, 4, none⟩ = some (.int .i64 a0_4) := (blk_cell BK760.out 4).trans rfl
            have hcz16_5 : w3.cell? ⟨gb760, 5, none⟩ = some (.int .i64 a0_5) := (blk_cell BK760.out 5).trans rfl
            have hcz16_6 : w3.cell? ⟨gb760, 6, none⟩ = some (.slice A0_6 l0_6.length c0_6) := (blk_cell BK760.out 6).trans rfl
            have hfz16_0 := blk_frozen BK760.out 0
            have hfz16_1 := blk_frozen BK760.out 1
            have hfz16_2 := blk_frozen BK760.out 2
            have hfz16_3 := blk_frozen BK760.out 3
            have hfz16_4 := blk_frozen BK760.out 4
            have hfz16_5 := blk_frozen BK760.out 5
            have hfz16_6 := blk_frozen BK760.out 6
            go_wp2_with (first | ((with_reducible refine gate_callee (f := 111) rfl ?_); refine goesL_ (some 6) rfl rfl Try.func111 (by kernel_rfl) rfl #[.int .i64 a0_0] rfl (by (try simp only [List.map_toArray, List.map_cons, List.map_nil]); first | done | rfl | (simp only [List.length_drop, List.length_take]; rfl)) ?_; (with_reducible refine (impl_isAddress.calls a0_0 true _ A4.out).mono ?_); rintro e w' ⟨rfl, ⟨nd, rfl⟩⟩; refine ⟨_, rfl, ?_⟩) | (go_at_call 111; (with_reducible refine (impl_isAddress.calls a0_1 true _ A6.out).mono ?_); rintro e w' ⟨rfl, ⟨nd, rfl⟩⟩) | (go_at_call 52; (with_reducible refine (impl_in.calls a0_2 1 255 true _ A8.out).mono ?_); rintro e w' ⟨rfl, ⟨nd, rfl⟩⟩) | (go_at_call 52; (with_reducible refine (impl_in.calls a0_3 1 255 true _ A10.out).mono ?_); rintro e w' ⟨rfl, ⟨nd, rfl⟩⟩) | (go_at_call 112; (with_reducible refine (impl_isPort.calls a0_4 false _ A12.out).mono ?_); rintro e w' ⟨rfl, ⟨nd, rfl⟩⟩))
            go_meet
            case rel => exact ⟨_, (true), (by first | rfl | (simp; done) | (simp [*]; done)), H', ⟨by first | omega | exact Nat.le_refl _⟩, ⟨up BK760.out⟩, ⟨by repeat (first | (with_reducible first | exact HB.out | apply below_alloc | apply pw_below_drewN | apply below_drew1 | refine below_set ?_ GE760.out) | exact HB.out)⟩⟩
        · replace c11 := Bool.eq_false_iff.mpr c11
          subst c11
          have H1 : (impl_PacketFault.j0 k true a0_0 a0_1 a0_2 a0_3 a0_4 a0_5 l0_6) = some r := by rw [if_neg (show ¬ (false = true) by decide)] at H; exact H
          clear H
          have H := H1
          clear H1
          have H' := Aside0.mk H
          clear H
          have hcz17_0 : w3.cell? ⟨gb760, 0, none⟩ = some (.int .i64 a0_0) := (blk_cell BK760.out 0).trans rfl
          have hcz17_1 : w3.cell? ⟨gb760, 1, none⟩ = some (.int .i64 a0_1) := (blk_cell BK760.out 1).trans rfl
          have hcz17_2 : w3.cell? ⟨gb760, 2, none⟩ = some (.int .i64 a0_2) := (blk_cell BK760.out 2).trans rfl
          have hcz17_3 : w3.cell? ⟨gb760, 3, none⟩ = some (.int .i64 a0_3) := (blk_cell BK760.out 3).trans rfl
          have hcz17_4 : w3.cell? ⟨gb760, 4, none⟩ = some (.int .i64 a0_4) := (blk_cell BK760.out 4).trans rfl
          have hcz17_5 : w3.cell? ⟨gb760, 5, none⟩ = some (.int .i64 a0_5) := (blk_cell BK760.out 5).trans rfl
          have hcz17_6 : w3.cell? ⟨gb760, 6, none⟩ = some (.slice A0_6 l0_6.length c0_6) := (blk_cell BK760.out 6).trans rfl
          have hfz17_0 := blk_frozen BK760.out 0
          have hfz17_1 := blk_frozen BK760.out 1
          have hfz17_2 := blk_frozen BK760.out 2
          have hfz17_3 := blk_frozen BK760.out 3
          have hfz17_4 := blk_frozen BK760.out 4
          have hfz17_5 := blk_frozen BK760.out 5
          have hfz17_6 := blk_frozen BK760.out 6
          go_wp2_with (first | ((with_reducible refine gate_callee (f := 111) rfl ?_); refine goesL_ (some 6) rfl rfl Try.func111 (by kernel_rfl) rfl #[.int .i64 a0_0] rfl (by (try simp only [List.map_toArray, List.map_cons, List.map_nil]); first | done | rfl | (simp only [List.length_drop, List.length_take]; rfl)) ?_; (with_reducible refine (impl_isAddress.calls a0_0 true _ A4.out).mono ?_); rintro e w' ⟨rfl, ⟨nd, rfl⟩⟩; refine ⟨_, rfl, ?_⟩) | (go_at_call 111; (with_reducible refine (impl_isAddress.calls a0_1 true _ A6.out).mono ?_); rintro e w' ⟨rfl, ⟨nd, rfl⟩⟩) | (go_at_call 52; (with_reducible refine (impl_in.calls a0_2 1 255 true _ A8.out).mono ?_); rintro e w' ⟨rfl, ⟨nd, rfl⟩⟩) | (go_at_call 52; (with_reducible refine (impl_in.calls a0_3 1 255 false _ A10.out).mono ?_); rintro e w' ⟨rfl, ⟨nd, rfl⟩⟩))
          go_meet
          case rel => exact ⟨_, (true), (by first | rfl | (simp; done) | (simp [*]; done)), H', ⟨by first | omega | exact Nat.le_refl _⟩, ⟨up BK760.out⟩, ⟨by repeat (first | (with_reducible first | exact HB.out | apply below_alloc | apply pw_below_drewN | apply below_drew1 | refine below_set ?_ GE760.out) | exact HB.out)⟩⟩
      · replace c9 := Bool.eq_false_iff.mpr c9
        subst c9
        have H1 : (impl_PacketFault.j0 k true a0_0 a0_1 a0_2 a0_3 a0_4 a0_5 l0_6) = some r := by rw [if_neg (show ¬ (false = true) by decide)] at H; exact H
        clear H
        have H := H1
        clear H1
        have H' := Aside0.mk H
        clear H
        have hcz18_0 : w3.cell? ⟨gb760, 0, none⟩ = some (.int .i64 a0_0) := (blk_cell BK760.out 0).trans rfl
        have hcz18_1 : w3.cell? ⟨gb760, 1, none⟩ = some (.int .i64 a0_1) := (blk_cell BK760.out 1).trans rfl
        have hcz18_2 : w3.cell? ⟨gb760, 2, none⟩ = some (.int .i64 a0_2) := (blk_cell BK760.out 2).trans rfl
        have hcz18_3 : w3.cell? ⟨gb760, 3, none⟩ = some (.int .i64 a0_3) := (blk_cell BK760.out 3).trans rfl
        have hcz18_4 : w3.cell? ⟨gb760, 4, none⟩ = some (.int .i64 a0_4) := (blk_cell BK760.out 4).trans rfl
        have hcz18_5 : w3.cell? ⟨gb760, 5, none⟩ = some (.int .i64 a0_5) := (blk_cell BK760.out 5).trans rfl
        have hcz18_6 : w3.cell? ⟨gb760, 6, none⟩ = some (.slice A0_6 l0_6.length c0_6) := (blk_cell BK760.out 6).trans rfl
        have hfz18_0 := blk_frozen BK760.out 0
        have hfz18_1 := blk_frozen BK760.out 1
        have hfz18_2 := blk_frozen BK760.out 2
        have hfz18_3 := blk_frozen BK760.out 3
        have hfz18_4 := blk_frozen BK760.out 4
        have hfz18_5 := blk_frozen BK760.out 5
        have hfz18_6 := blk_frozen BK760.out 6
        go_wp2_with (first | ((with_reducible refine gate_callee (f := 111) rfl ?_); refine goesL_ (some 6) rfl rfl Try.func111 (by kernel_rfl) rfl #[.int .i64 a0_0] rfl (by (try simp only [List.map_toArray, List.map_cons, List.map_nil]); first | done | rfl | (simp only [List.length_drop, List.length_take]; rfl)) ?_; (with_reducible refine (impl_isAddress.calls a0_0 true _ A4.out).mono ?_); rintro e w' ⟨rfl, ⟨nd, rfl⟩⟩; refine ⟨_, rfl, ?_⟩) | (go_at_call 111; (with_reducible refine (impl_isAddress.calls a0_1 true _ A6.out).mono ?_); rintro e w' ⟨rfl, ⟨nd, rfl⟩⟩) | (go_at_call 52; (with_reducible refine (impl_in.calls a0_2 1 255 false _ A8.out).mono ?_); rintro e w' ⟨rfl, ⟨nd, rfl⟩⟩))
        go_meet
        case rel => exact ⟨_, (true), (by first | rfl | (simp; done) | (simp [*]; done)), H', ⟨by first | omega | exact Nat.le_refl _⟩, ⟨up BK760.out⟩, ⟨by repeat (first | (with_reducible first | exact HB.out | apply below_alloc | apply pw_below_drewN | apply below_drew1 | refine below_set ?_ GE760.out) | exact HB.out)⟩⟩
    · replace c7 := Bool.eq_false_iff.mpr c7
      subst c7
      have H1 : (impl_PacketFault.j0 k true a0_0 a0_1 a0_2 a0_3 a0_4 a0_5 l0_6) = some r := by rw [if_neg (show ¬ (false = true) by decide)] at H; exact H
      clear H
      have H := H1
      clear H1
      have H' := Aside0.mk H
      clear H
      have hcz19_0 : w3.cell? ⟨gb760, 0, none⟩ = some (.int .i64 a0_0) := (blk_cell BK760.out 0).trans rfl
      have hcz19_1 : w3.cell? ⟨gb760, 1, none⟩ = some (.int .i64 a0_1) := (blk_cell BK760.out 1).trans rfl
      have hcz19_2 : w3.cell? ⟨gb760, 2, none⟩ = some (.int .i64 a0_2) := (blk_cell BK760.out 2).trans rfl
      have hcz19_3 : w3.cell? ⟨gb760, 3, none⟩ = some (.int .i64 a0_3) := (blk_cell BK760.out 3).trans rfl
      have hcz19_4 : w3.cell? ⟨gb760, 4, none⟩ = some (.int .i64 a0_4) := (blk_cell BK760.out 4).trans rfl
      have hcz19_5 : w3.cell? ⟨gb760, 5, none⟩ = some (.int .i64 a0_5) := (blk_cell BK760.out 5).trans rfl
      have hcz19_6 : w3.cell? ⟨gb760, 6, none⟩ = some (.slice A0_6 l0_6.length c0_6) := (blk_cell BK760.out 6).trans rfl
      have hfz19_0 := blk_frozen BK760.out 0
      have hfz19_1 := blk_frozen BK760.out 1
      have hfz19_2 := blk_frozen BK760.out 2
      have hfz19_3 := blk_frozen BK760.out 3
      have hfz19_4 := blk_frozen BK760.out 4
      have hfz19_5 := blk_frozen BK760.out 5
      have hfz19_6 := blk_frozen BK760.out 6
      go_wp2_with (first | ((with_reducible refine gate_callee (f := 111) rfl ?_); refine goesL_ (some 6) rfl rfl Try.func111 (by kernel_rfl) rfl #[.int .i64 a0_0] rfl (by (try simp only [List.map_toArray, List.map_cons, List.map_nil]); first | done | rfl | (simp only [List.length_drop, List.length_take]; rfl)) ?_; (with_reducible refine (impl_isAddress.calls a0_0 true _ A4.out).mono ?_); rintro e w' ⟨rfl, ⟨nd, rfl⟩⟩; refine ⟨_, rfl, ?_⟩) | (go_at_call 111; (with_reducible refine (impl_isAddress.calls a0_1 false _ A6.out).mono ?_); rintro e w' ⟨rfl, ⟨nd, rfl⟩⟩))
      go_meet
      case rel => exact ⟨_, (true), (by first | rfl | (simp; done) | (simp [*]; done)), H', ⟨by first | omega | exact Nat.le_refl _⟩, ⟨up BK760.out⟩, ⟨by repeat (first | (with_reducible first | exact HB.out | apply below_alloc | apply pw_below_drewN | apply below_drew1 | refine below_set ?_ GE760.out) | exact HB.out)⟩⟩
  · replace c5 := Bool.eq_false_iff.mpr c5
    subst c5
    have H1 : (impl_PacketFault.j0 k true a0_0 a0_1 a0_2 a0_3 a0_4 a0_5 l0_6) = some r := by rw [if_neg (show ¬ (false = true) by decide)] at H; exact H
    clear H
    have H := H1
    clear H1
    have H' := Aside0.mk H
    clear H
    have hcz20_0 : w3.cell? ⟨gb760, 0, none⟩ = some (.int .i64 a0_0) := (blk_cell BK760.out 0).trans rfl
    have hcz20_1 : w3.cell? ⟨gb760, 1, none⟩ = some (.int .i64 a0_1) := (blk_cell BK760.out 1).trans rfl
    have hcz20_2 : w3.cell? ⟨gb760, 2, none⟩ = some (.int .i64 a0_2) := (blk_cell BK760.out 2).trans rfl
    have hcz20_3 : w3.cell? ⟨gb760, 3, none⟩ = some (.int .i64 a0_3) := (blk_cell BK760.out 3).trans rfl
    have hcz20_4 : w3.cell? ⟨gb760, 4, none⟩ = some (.int .i64 a0_4) := (blk_cell BK760.out 4).trans rfl
    have hcz20_5 : w3.cell? ⟨gb760, 5, none⟩ = some (.int .i64 a0_5) := (blk_cell BK760.out 5).trans rfl
    have hcz20_6 : w3.cell? ⟨gb760, 6, none⟩ = some (.slice A0_6 l0_6.length c0_6) := (blk_cell BK760.out 6).trans rfl
    have hfz20_0 := blk_frozen BK760.out 0
    have hfz20_1 := blk_frozen BK760.out 1
    have hfz20_2 := blk_frozen BK760.out 2
    have hfz20_3 := blk_frozen BK760.out 3
    have hfz20_4 := blk_frozen BK760.out 4
    have hfz20_5 := blk_frozen BK760.out 5
    have hfz20_6 := blk_frozen BK760.out 6
    go_wp2_with (first | ((with_reducible refine gate_callee (f := 111) rfl ?_); refine goesL_ (some 6) rfl rfl Try.func111 (by kernel_rfl) rfl #[.int .i64 a0_0] rfl (by (try simp only [List.map_toArray, List.map_cons, List.map_nil]); first | done | rfl | (simp only [List.length_drop, List.length_take]; rfl)) ?_; (with_reducible refine (impl_isAddress.calls a0_0 false _ A4.out).mono ?_); rintro e w' ⟨rfl, ⟨nd, rfl⟩⟩; refine ⟨_, rfl, ?_⟩))
    go_meet
    case rel => exact ⟨_, (true), (by first | rfl | (simp; done) | (simp [*]; done)), H', ⟨by first | omega | exact Nat.le_refl _⟩, ⟨up BK760.out⟩, ⟨by repeat (first | (with_reducible first | exact HB.out | apply below_alloc | apply pw_below_drewN | apply below_drew1 | refine below_set ?_ GE760.out) | exact HB.out)⟩⟩
 case rest =>
  clear HC2
  try clear c1
  try clear p2
  try clear c5
  try clear c7
  try clear c8
  try clear c9
  try clear c11
  try clear c13
  try clear hcz15_0
  try clear hcz15_1
  try clear hcz15_2
  try clear hcz15_3
  try clear hcz15_4
  try clear hcz15_5
  try clear hcz15_6
  try clear hcz16_0
  try clear hcz16_1
  try clear hcz16_2
  try clear hcz16_3
  try clear hcz16_4
  try clear hcz16_5
  try clear hcz16_6
  try clear hcz17_0
  try clear hcz17_1
  try clear hcz17_2
  try clear hcz17_3
  try clear hcz17_4
  try clear hcz17_5
  try clear hcz17_6
  try clear hcz18_0
  try clear hcz18_1
  try clear hcz18_2
  try clear hcz18_3
  try clear hcz18_4
  try clear hcz18_5
  try clear hcz18_6
  try clear hcz19_0
  try clear hcz19_1
  try clear hcz19_2
  try clear hcz19_3
  try clear hcz19_4
  try clear hcz19_5
  try clear hcz19_6
  try clear hcz20_0
  try clear hcz20_1
  try clear hcz20_2
  try clear hcz20_3
  try clear hcz20_4
  try clear hcz20_5
  try clear hcz20_6
  try clear hfz15_0
  try clear hfz15_1
  try clear hfz15_2
  try clear hfz15_3
  try clear hfz15_4
  try clear hfz15_5
  try clear hfz15_6
  try clear hfz16_0
  try clear hfz16_1
  try clear hfz16_2
  try clear hfz16_3
  try clear hfz16_4
  try clear hfz16_5
  try clear hfz16_6
  try clear hfz17_0
  try clear hfz17_1
  try clear hfz17_2
  try clear hfz17_3
  try clear hfz17_4
  try clear hfz17_5
  try clear hfz17_6
  try clear hfz18_0
  try clear hfz18_1
  try clear hfz18_2
  try clear hfz18_3
  try clear hfz18_4
  try clear hfz18_5
  try clear hfz18_6
  try clear hfz19_0
  try clear hfz19_1
  try clear hfz19_2
  try clear hfz19_3
  try clear hfz19_4
  try clear hfz19_5
  try clear hfz19_6
  try clear hfz20_0
  try clear hfz20_1
  try clear hfz20_2
  try clear hfz20_3
  try clear hfz20_4
  try clear hfz20_5
  try clear hfz20_6
  obtain ⟨kq, x3_1, rfl, HA, HJ1, BK760, HB⟩ := hcut
  cases kq with
  | zero => exact absurd HA.out (by simp [impl_PacketFault.j0])
  | succ kj1 =>
   have H := HA.out
   clear HA
   simp only [impl_PacketFault.j0] at H
   by_cases c21 : x3_1 = true
   · subst c21
     have H1 : (some 3) = some r := by rw [if_pos rfl] at H; exact H
     clear H
     have H := H1
     clear H1
     obtain rfl := Option.some.inj H
     go_wp2
     go_ret
     exact ⟨by first | rfl | (simp [errW_none, errW_some] <;> rfl) | (simp [*, errW_none, errW_some] <;> rfl), by repeat (first | (with_reducible first | exact HB.out | apply below_alloc | apply pw_below_drewN | apply below_drew1 | refine below_set ?_ GE760.out) | exact HB.out)⟩
   · replace c21 := Bool.eq_false_iff.mpr c21
     subst c21
     have H1 : ((impl_HasPorts.f a0_2).bind fun t767 => (if t767 = true then (impl_PacketFault.j1 kj1 false a0_0 a0_1 a0_2 a0_3 a0_4 a0_5 l0_6) else (if a0_4 = 0 then (impl_PacketFault.j1 kj1 (a0_5 != 0) a0_0 a0_1 a0_2 a0_3 a0_4 a0_5 l0_6) else (impl_PacketFault.j1 kj1 true a0_0 a0_1 a0_2 a0_3 a0_4 a0_5 l0_6)))) = some r := by rw [if_neg (show ¬ (false = true) by decide)] at H; exact H
     clear H
     have H := H1
     clear H1
     have HC22 := Aside0.mk H
     clear H
     go_upto_region 3 with (fail)
     go_cut [38] (fun v38 wc => ∃ (kq : Nat) (x38_21 : Bool), v38 = .bool x38_21 ∧ Aside0 (impl_PacketFault.j1 kq x38_21 a0_0 a0_1 a0_2 a0_3 a0_4 a0_5 l0_6 = some r) ∧ Aside0 (kq ≤ kj1) ∧ Aside0 (wc.heap[gb760]? = some (.cells #[.int .i64 a0_0, .int .i64 a0_1, .int .i64 a0_2, .int .i64 a0_3, .int .i64 a0_4, .int .i64 a0_5, (.slice A0_6 l0_6.length c0_6)] 53 (0, 0))) ∧ Aside0 (Below w.heap.size w wc))
     case first =>
      have H := HC22.out
      clear HC22
      replace H := Option.bind_eq_some_iff.mp H
      obtain ⟨t767, A230, H⟩ := H
      replace H : (if t767 = true then (impl_PacketFault.j1 kj1 false a0_0 a0_1 a0_2 a0_3 a0_4 a0_5 l0_6) else (if a0_4 = 0 then (impl_PacketFault.j1 kj1 (a0_5 != 0) a0_0 a0_1 a0_2 a0_3 a0_4 a0_5 l0_6) else (impl_PacketFault.j1 kj1 true a0_0 a0_1 a0_2 a0_3 a0_4 a0_5 l0_6))) = some r := H
      have A23 := Aside0.mk A230
      clear A230
      by_cases c24 : t767 = true
      · subst c24
        have H1 : (impl_PacketFault.j1 kj1 false a0_0 a0_1 a0_2 a0_3 a0_4 a0_5 l0_6) = some r := by rw [if_pos rfl] at H; exact H
        clear H
        have H := H1
        clear H1
        have H' := Aside0.mk H
        clear H
        have hcz25_0 : wc.cell? ⟨gb760, 0, none⟩ = some (.int .i64 a0_0) := (blk_cell BK760.out 0).trans rfl
        have hcz25_1 : wc.cell? ⟨gb760, 1, none⟩ = some (.int .i64 a0_1) := (blk_cell BK760.out 1).trans rfl
        have hcz25_2 : wc.cell? ⟨gb760, 2, none⟩ = some (.int .i64 a0_2) := (blk_cell BK760.out 2).trans rfl
        have hcz25_3 : wc.cell? ⟨gb760, 3, none⟩ = some (.int .i64 a0_3) := (blk_cell BK760.out 3).trans rfl
        have hcz25_4 : wc.cell? ⟨gb760, 4, none⟩ = some (.int .i64 a0_4) := (blk_cell BK760.out 4).trans rfl
        have hcz25_5 : wc.cell? ⟨gb760, 5, none⟩ = some (.int .i64 a0_5) := (blk_cell BK760.out 5).trans rfl
        have hcz25_6 : wc.cell? ⟨gb760, 6, none⟩ = some (.slice A0_6 l0_6.length c0_6) := (blk_cell BK760.out 6).trans rfl
        have hfz25_0 := blk_frozen BK760.out 0
        have hfz25_1 := blk_frozen BK760.out 1
        have hfz25_2 := blk_frozen BK760.out 2
        have hfz25_3 := blk_frozen BK760.out 3
        have hfz25_4 := blk_frozen BK760.out 4
        have hfz25_5 := blk_frozen BK760.out 5
        have hfz25_6 := blk_frozen BK760.out 6
        go_wp2_with (first | ((with_reducible refine gate_callee (f := 91) rfl ?_); refine goesL_ (some 41) rfl rfl Try.func91 (by kernel_rfl) rfl #[.int .i64 a0_2] rfl (by (try simp only [List.map_toArray, List.map_cons, List.map_nil]); first | done | rfl | (simp only [List.length_drop, List.length_take]; rfl)) ?_; (with_reducible refine (impl_HasPorts.calls a0_2 true _ A23.out).mono ?_); rintro e w' ⟨rfl, ⟨nd, rfl⟩⟩; refine ⟨_, rfl, ?_⟩))
        go_meet
        case rel => exact ⟨_, (false), (by first | rfl | (simp; done) | (simp [*]; done)), H', ⟨by have := HJ1.out; first | omega | exact Nat.le_refl _⟩, ⟨up BK760.out⟩, ⟨by repeat (first | (with_reducible first | exact HB.out | apply below_alloc | apply pw_below_drewN | apply below_drew1 | refine below_set ?_ GE760.out) | exact HB.out)⟩⟩
      · replace c24 := Bool.eq_false_iff.mpr c24
        subst c24
        have H1 : (if a0_4 = 0 then (impl_PacketFault.j1 kj1 (a0_5 != 0) a0_0 a0_1 a0_2 a0_3 a0_4 a0_5 l0_6) else (impl_PacketFault.j1 kj1 true a0_0 a0_1 a0_2 a0_3 a0_4 a0_5 l0_6)) = some r := by rw [if_neg (show ¬ (false = true) by decide)] at H; exact H
        clear H
        have H := H1
        clear H1
        by_cases c26 : a0_4 = 0
        · rw [if_pos c26] at H
          have c26b0 : (a0_4 == 0) = true := beq_iff_eq.mpr c26
          have c26b1 : (a0_4 != 0) = false := bne_eq_false_iff_eq.mpr c26
          clear c26
          (first | rw [c26b0] | (simp only [i64_w, i32_w]; rw [c26b0]) | skip)
          have H' := Aside0.mk H
          clear H
          have hcz27_0 : wc.cell? ⟨gb760, 0, none⟩ = some (.int .i64 a0_0) := (blk_cell BK760.out 0).trans rfl
          have hcz27_1 : wc.cell? ⟨gb760, 1, none⟩ = some (.int .i64 a0_1) := (blk_cell BK760.out 1).trans rfl
          have hcz27_2 : wc.cell? ⟨gb760, 2, none⟩ = some (.int .i64 a0_2) := (blk_cell BK760.out 2).trans rfl
          have hcz27_3 : wc.cell? ⟨gb760, 3, none⟩ = some (.int .i64 a0_3) := (blk_cell BK760.out 3).trans rfl
          have hcz27_4 : wc.cell? ⟨gb760, 4, none⟩ = some (.int .i64 a0_4) := (blk_cell BK760.out 4).trans rfl
          have hcz27_5 : wc.cell? ⟨gb760, 5, none⟩ = some (.int .i64 a0_5) := (blk_cell BK760.out 5).trans rfl
          have hcz27_6 : wc.cell? ⟨gb760, 6, none⟩ = some (.slice A0_6 l0_6.length c0_6) := (blk_cell BK760.out 6).trans rfl
          have hfz27_0 := blk_frozen BK760.out 0
          have hfz27_1 := blk_frozen BK760.out 1
          have hfz27_2 := blk_frozen BK760.out 2
          have hfz27_3 := blk_frozen BK760.out 3
          have hfz27_4 := blk_frozen BK760.out 4
          have hfz27_5 := blk_frozen BK760.out 5
          have hfz27_6 := blk_frozen BK760.out 6
          go_wp2_with (first | ((with_reducible refine gate_callee (f := 91) rfl ?_); refine goesL_ (some 41) rfl rfl Try.func91 (by kernel_rfl) rfl #[.int .i64 a0_2] rfl (by (try simp only [List.map_toArray, List.map_cons, List.map_nil]); first | done | rfl | (simp only [List.length_drop, List.length_take]; rfl)) ?_; (with_reducible refine (impl_HasPorts.calls a0_2 false _ A23.out).mono ?_); rintro e w' ⟨rfl, ⟨nd, rfl⟩⟩; refine ⟨_, rfl, ?_⟩))
          go_meet
          case rel => exact ⟨_, ((a0_5 != 0)), (by first | rfl | (simp; done) | (simp [*]; done)), H', ⟨by have := HJ1.out; first | omega | exact Nat.le_refl _⟩, ⟨up BK760.out⟩, ⟨by repeat (first | (with_reducible first | exact HB.out | apply below_alloc | apply pw_below_drewN | apply below_drew1 | refine below_set ?_ GE760.out) | exact HB.out)⟩⟩
        · rw [if_neg c26] at H
          have c26b0 : (a0_4 == 0) = false := beq_eq_false_iff_ne.mpr c26
          have c26b1 : (a0_4 != 0) = true := bne_iff_ne.mpr c26
          (first | rw [c26b0] | (simp only [i64_w, i32_w]; rw [c26b0]) | skip)
          have H' := Aside0.mk H
          clear H
          have hcz28_0 : wc.cell? ⟨gb760, 0, none⟩ = some (.int .i64 a0_0) := (blk_cell BK760.out 0).trans rfl
          have hcz28_1 : wc.cell? ⟨gb760, 1, none⟩ = some (.int .i64 a0_1) := (blk_cell BK760.out 1).trans rfl
          have hcz28_2 : wc.cell? ⟨gb760, 2, none⟩ = some (.int .i64 a0_2) := (blk_cell BK760.out 2).trans rfl
          have hcz28_3 : wc.cell? ⟨gb760, 3, none⟩ = some (.int .i64 a0_3) := (blk_cell BK760.out 3).trans rfl
          have hcz28_4 : wc.cell? ⟨gb760, 4, none⟩ = some (.int .i64 a0_4) := (blk_cell BK760.out 4).trans rfl
          have hcz28_5 : wc.cell? ⟨gb760, 5, none⟩ = some (.int .i64 a0_5) := (blk_cell BK760.out 5).trans rfl
          have hcz28_6 : wc.cell? ⟨gb760, 6, none⟩ = some (.slice A0_6 l0_6.length c0_6) := (blk_cell BK760.out 6).trans rfl
          have hfz28_0 := blk_frozen BK760.out 0
          have hfz28_1 := blk_frozen BK760.out 1
          have hfz28_2 := blk_frozen BK760.out 2
          have hfz28_3 := blk_frozen BK760.out 3
          have hfz28_4 := blk_frozen BK760.out 4
          have hfz28_5 := blk_frozen BK760.out 5
          have hfz28_6 := blk_frozen BK760.out 6
          go_wp2_with (first | ((with_reducible refine gate_callee (f := 91) rfl ?_); refine goesL_ (some 41) rfl rfl Try.func91 (by kernel_rfl) rfl #[.int .i64 a0_2] rfl (by (try simp only [List.map_toArray, List.map_cons, List.map_nil]); first | done | rfl | (simp only [List.length_drop, List.length_take]; rfl)) ?_; (with_reducible refine (impl_HasPorts.calls a0_2 false _ A23.out).mono ?_); rintro e w' ⟨rfl, ⟨nd, rfl⟩⟩; refine ⟨_, rfl, ?_⟩))
          go_meet
          case rel => exact ⟨_, (true), (by first | rfl | (simp; done) | (simp [*]; done)), H', ⟨by have := HJ1.out; first | omega | exact Nat.le_refl _⟩, ⟨up BK760.out⟩, ⟨by repeat (first | (with_reducible first | exact HB.out | apply below_alloc | apply pw_below_drewN | apply below_drew1 | refine below_set ?_ GE760.out) | exact HB.out)⟩⟩
     case rest =>
      clear HC22
      try clear c1
      try clear c2
      try clear p2
      try clear c5
      try clear c7
      try clear c8
      try clear c9
      try clear c11
      try clear c13
      try clear c21
      try clear c24
      try clear c26
      try clear c26b0
      try clear c26b1
      try clear hcz15_0
      try clear hcz15_1
      try clear hcz15_2
      try clear hcz15_3
      try clear hcz15_4
      try clear hcz15_5
      try clear hcz15_6
      try clear hcz16_0
      try clear hcz16_1
      try clear hcz16_2
      try clear hcz16_3
      try clear hcz16_4
      try clear hcz16_5
      try clear hcz16_6
      try clear hcz17_0
      try clear hcz17_1
      try clear hcz17_2
      try clear hcz17_3
      try clear hcz17_4
      try clear hcz17_5
      try clear hcz17_6
      try clear hcz18_0
      try clear hcz18_1
      try clear hcz18_2
      try clear hcz18_3
      try clear hcz18_4
      try clear hcz18_5
      try clear hcz18_6
      try clear hcz19_0
      try clear hcz19_1
      try clear hcz19_2
      try clear hcz19_3
      try clear hcz19_4
      try clear hcz19_5
      try clear hcz19_6
      try clear hcz20_0
      try clear hcz20_1
      try clear hcz20_2
      try clear hcz20_3
      try clear hcz20_4
      try clear hcz20_5
      try clear hcz20_6
      try clear hcz25_0
      try clear hcz25_1
      try clear hcz25_2
      try clear hcz25_3
      try clear hcz25_4
      try clear hcz25_5
      try clear hcz25_6
      try clear hcz27_0
      try clear hcz27_1
      try clear hcz27_2
      try clear hcz27_3
      try clear hcz27_4
      try clear hcz27_5
      try clear hcz27_6
      try clear hcz28_0
      try clear hcz28_1
      try clear hcz28_2
      try clear hcz28_3
      try clear hcz28_4
      try clear hcz28_5
      try clear hcz28_6
      try clear hfz15_0
      try clear hfz15_1
      try clear hfz15_2
      try clear hfz15_3
      try clear hfz15_4
      try clear hfz15_5
      try clear hfz15_6
      try clear hfz16_0
      try clear hfz16_1
      try clear hfz16_2
      try clear hfz16_3
      try clear hfz16_4
      try clear hfz16_5
      try clear hfz16_6
      try clear hfz17_0
      try clear hfz17_1
      try clear hfz17_2
      try clear hfz17_3
      try clear hfz17_4
      try clear hfz17_5
      try clear hfz17_6
      try clear hfz18_0
      try clear hfz18_1
      try clear hfz18_2
      try clear hfz18_3
      try clear hfz18_4
      try clear hfz18_5
      try clear hfz18_6
      try clear hfz19_0
      try clear hfz19_1
      try clear hfz19_2
      try clear hfz19_3
      try clear hfz19_4
      try clear hfz19_5
      try clear hfz19_6
      try clear hfz20_0
      try clear hfz20_1
      try clear hfz20_2
      try clear hfz20_3
      try clear hfz20_4
      try clear hfz20_5
      try clear hfz20_6
      try clear hfz25_0
      try clear hfz25_1
      try clear hfz25_2
      try clear hfz25_3
      try clear hfz25_4
      try clear hfz25_5
      try clear hfz25_6
      try clear hfz27_0
      try clear hfz27_1
      try clear hfz27_2
      try clear hfz27_3
      try clear hfz27_4
      try clear hfz27_5
      try clear hfz27_6
      try clear hfz28_0
      try clear hfz28_1
      try clear hfz28_2
      try clear hfz28_3
      try clear hfz28_4
      try clear hfz28_5
      try clear hfz28_6
      try clear p2
      obtain ⟨kq, x38_21, rfl, HA, HJ21, BK760, HB⟩ := hcut
      cases kq with
      | zero => exact absurd HA.out (by simp [impl_PacketFault.j1])
      | succ kj21 =>
       have H := HA.out
       clear HA
       simp only [impl_PacketFault.j1] at H
       by_cases c29 : x38_21 = true
       · subst c29
         have H1 : (some 1) = some r := by rw [if_pos rfl] at H; exact H
         clear H
         have H := H1
         clear H1
         obtain rfl := Option.some.inj H
         go_wp2
         go_ret
         exact ⟨by first | rfl | (simp [errW_none, errW_some] <;> rfl) | (simp [*, errW_none, errW_some] <;> rfl), by repeat (first | (with_reducible first | exact HB.out | apply below_alloc | apply pw_below_drewN | apply below_drew1 | refine below_set ?_ GE760.out) | exact HB.out)⟩
       · replace c29 := Bool.eq_false_iff.mpr c29
         subst c29
         have H1 : (if (l0_6.length : Int) > 200 then (some 2) else (some 0)) = some r := by rw [if_neg (show ¬ (false = true) by decide)] at H; exact H
         clear H
         have H := H1
         clear H1
         by_cases c30 : (l0_6.length : Int) > 200
         · rw [if_pos c30] at H
           have c30b0 : decide (200 < (l0_6.length : Int)) = true := decide_eq_true c30
           have c30b1 : decide (200 < l0_6.length) = true := decide_eq_true (by omega)
           clear c30
           obtain rfl := Option.some.inj H
           have hcz31_0 : wc.cell? ⟨gb760, 0, none⟩ = some (.int .i64 a0_0) := (blk_cell BK760.out 0).trans rfl
           have hcz31_1 : wc.cell? ⟨gb760, 1, none⟩ = some (.int .i64 a0_1) := (blk_cell BK760.out 1).trans rfl
           have hcz31_2 : wc.cell? ⟨gb760, 2, none⟩ = some (.int .i64 a0_2) := (blk_cell BK760.out 2).trans rfl
           have hcz31_3 : wc.cell? ⟨gb760, 3, none⟩ = some (.int .i64 a0_3) := (blk_cell BK760.out 3).trans rfl
           have hcz31_4 : wc.cell? ⟨gb760, 4, none⟩ = some (.int .i64 a0_4) := (blk_cell BK760.out 4).trans rfl
           have hcz31_5 : wc.cell? ⟨gb760, 5, none⟩ = some (.int .i64 a0_5) := (blk_cell BK760.out 5).trans rfl
           have hcz31_6 : wc.cell? ⟨gb760, 6, none⟩ = some (.slice A0_6 l0_6.length c0_6) := (blk_cell BK760.out 6).trans rfl
           have hfz31_0 := blk_frozen BK760.out 0
           have hfz31_1 := blk_frozen BK760.out 1
           have hfz31_2 := blk_frozen BK760.out 2
           have hfz31_3 := blk_frozen BK760.out 3
           have hfz31_4 := blk_frozen BK760.out 4
           have hfz31_5 := blk_frozen BK760.out 5
           have hfz31_6 := blk_frozen BK760.out 6
           go_wp2
           go_ret
           exact ⟨by first | rfl | (simp [errW_none, errW_some] <;> rfl) | (simp [*, errW_none, errW_some] <;> rfl), by repeat (first | (with_reducible first | exact HB.out | apply below_alloc | apply pw_below_drewN | apply below_drew1 | refine below_set ?_ GE760.out) | exact HB.out)⟩
         · rw [if_neg c30] at H
           have c30b0 : decide (200 < (l0_6.length : Int)) = false := decide_eq_false c30
           have c30b1 : decide (200 < l0_6.length) = false := decide_eq_false (by omega)
           clear c30
           obtain rfl := Option.some.inj H
           have hcz32_0 : wc.cell? ⟨gb760, 0, none⟩ = some (.int .i64 a0_0) := (blk_cell BK760.out 0).trans rfl
           have hcz32_1 : wc.cell? ⟨gb760, 1, none⟩ = some (.int .i64 a0_1) := (blk_cell BK760.out 1).trans rfl
           have hcz32_2 : wc.cell? ⟨gb760, 2, none⟩ = some (.int .i64 a0_2) := (blk_cell BK760.out 2).trans rfl
           have hcz32_3 : wc.cell? ⟨gb760, 3, none⟩ = some (.int .i64 a0_3) := (blk_cell BK760.out 3).trans rfl
           have hcz32_4 : wc.cell? ⟨gb760, 4, none⟩ = some (.int .i64 a0_4) := (blk_cell BK760.out 4).trans rfl
           have hcz32_5 : wc.cell? ⟨gb760, 5, none⟩ = some (.int .i64 a0_5) := (blk_cell BK760.out 5).trans rfl
           have hcz32_6 : wc.cell? ⟨gb760, 6, none⟩ = some (.slice A0_6 l0_6.length c0_6) := (blk_cell BK760.out 6).trans rfl
           have hfz32_0 := blk_frozen BK760.out 0
           have hfz32_1 := blk_frozen BK760.out 1
           have hfz32_2 := blk_frozen BK760.out 2
           have hfz32_3 := blk_frozen BK760.out 3
           have hfz32_4 := blk_frozen BK760.out 4
           have hfz32_5 := blk_frozen BK760.out 5
           have hfz32_6 := blk_frozen BK760.out 6
           go_wp2
           go_ret
           exact ⟨by first | rfl | (simp [errW_none, errW_some] <;> rfl) | (simp [*, errW_none, errW_some] <;> rfl), by repeat (first | (with_reducible first | exact HB.out | apply below_alloc | apply pw_below_drewN | apply below_drew1 | refine below_set ?_ GE760.out) | exact HB.out)⟩

/-! ### impl_fold: function 125 -/
def impl_fold.l0 : Nat → Int → Option (Int)
 | 0, _ => none
 | k + 1, x0 => if x0 ≥ 65536 then (impl_fold.l0 k (wrap64 ((Int.tmod x0 65536) + (wrap64 (Int.tdiv x0 65536))))) else (some x0)
def impl_fold.f (k : Nat) (a0 : Int) : Option (Int) := impl_fold.l0 k a0
theorem impl_fold.mono_l : ∀ k, (∀ y0, LeO (impl_fold.l0 k y0) (impl_fold.l0 (k + 1) y0))
 | 0 => fun _ r h => by simp [impl_fold.l0] at h
 | k + 1 => by
  have ih0 := impl_fold.mono_l k
  · intro y0
    unfold impl_fold.l0
    repeat' first
    | (with_reducible exact ih0 _)
    | (with_reducible exact LeO.refl _)
    | (with_reducible exact LeO.none _)
    | (with_reducible refine LeO.ite ?_ ?_)
    | (with_reducible refine LeO.bind ?_ (fun _ => ?_))
    | exact ih0 _
    | exact LeO.none _
    | refine LeO.ite ?_ ?_
    | refine LeO.bind ?_ (fun _ => ?_)
theorem impl_fold.mono : ∀ a0 k, LeO (impl_fold.f k a0) (impl_fold.f (k + 1) a0) := by
 intro a0 k
 have ih0 := impl_fold.mono_l k
 unfold impl_fold.f
 repeat' first
  | (with_reducible exact ih0 _)
  | (with_reducible exact LeO.refl _)
  | (with_reducible exact LeO.none _)
  | (with_reducible refine LeO.ite ?_ ?_)
  | (with_reducible refine LeO.bind ?_ (fun _ => ?_))
  | exact ih0 _
  | exact LeO.none _
  | refine LeO.ite ?_ ?_
  | refine LeO.bind ?_ (fun _ => ?_)
set_option maxHeartbeats 8000000 in
set_option maxRecDepth 100000 in
theorem impl_fold.calls (k : Nat) (a0 : Int) (r : Int) (w : World) (h : impl_fold.f k a0 = some r) :
 Calls Try.prog 125 #[.int .i64 a0] w fun e w' => e = .returned (.int .i64 r) ∧ Drawn0 w w' := by
 have H : (impl_fold.l0 k a0) = some r := h
 clear h
 have H' := Aside0.mk H
 clear H
 go_enter Try.func125, Try.ntmps125
 go_wp2
 go_loopg [0] k (fun kq v0 w' => ∃ (x0_1 : Int), v0 = .int .i64 x0_1 ∧ Aside0 (impl_fold.l0 kq x0_1 = some r) ∧ Aside0 (kq ≤ k) ∧ Drawn0 w w')
 case atStart => exact ⟨(a0), (by first | rfl | (simp; done) | (simp [*]; done)), H', ⟨Nat.le_refl _⟩, by repeat (first | exact Drawn0.refl _ | apply Drawn0.step)⟩
 case round =>
  clear H'
  try clear c1
  obtain ⟨x0_1, rfl, HA, HK1, ⟨m1, rfl⟩⟩ := hrel
  cases gk with
  | zero => exact absurd HA.out (by simp [impl_fold.l0])
  | succ k1 =>
   have H := HA.out
   clear HA
   simp only [impl_fold.l0] at H
   by_cases c2 : x0_1 ≥ 65536
   · rw [if_pos c2] at H
     have c2b0 : decide (65536 ≤ x0_1) = true := decide_eq_true c2
     clear c2
     have H' := Aside0.mk H
     clear H
     go_wp2
     go_roundg k1
     case measure => have := HK1.out; omega
     case rel => exact ⟨(wrap64 ((Int.tmod x0_1 65536) + (wrap64 (Int.tdiv x0_1 65536)))), (by first | rfl | (simp; done) | (simp [*]; done)), H', ⟨by have := HK1.out; omega⟩, by repeat (first | exact Drawn0.refl _ | apply Drawn0.step)⟩
   · rw [if_neg c2] at H
     have c2b0 : decide (65536 ≤ x0_1) = false := decide_eq_false c2
     clear c2
     obtain rfl := Option.some.inj H
     go_wp2
     go_ret
     exact ⟨by first | rfl | (simp; done) | (simp [*]; done), by repeat (first | exact Drawn0.refl _ | apply Drawn0.step)⟩

/-! ### impl_SumWords: function 113 -/
def impl_SumWords.l0 : Nat → Int → List Int → Int → Int → Option (Int)
 | 0, _, _, _, _ => none
 | k + 1, x3, x6, x7, x8 => if x8 < x7 then (if 0 ≤ x8 then (if x8 < (x6.length : Int) then (if (Int.tmod x8 2) = 0 then (impl_SumWords.l0 k (wrap64 (x3 + (wrap64 (256 * (wrap64 (rd x6 x8)))))) x6 x7 (wrap64 (x8 + 1))) else (impl_SumWords.l0 k (wrap64 (x3 + (wrap64 (rd x6 x8)))) x6 x7 (wrap64 (x8 + 1)))) else (none)) else (none)) else ((impl_fold.f k x3).bind fun t769 => (some (wrap64 (65535 - t769))))
def impl_SumWords.f (k : Nat) (l0 : List Int) : Option (Int) := impl_SumWords.l0 k 0 l0 (l0.length : Int) 0
theorem impl_SumWords.mono_l : ∀ k, (∀ y0 y1 y2 y3, LeO (impl_SumWords.l0 k y0 y1 y2 y3) (impl_SumWords.l0 (k + 1) y0 y1 y2 y3))
 | 0 => fun _ _ _ _ r h => by simp [impl_SumWords.l0] at h
 | k + 1 => by
  have ih0 := impl_SumWords.mono_l k
  · intro y0 y1 y2 y3
    unfold impl_SumWords.l0
    repeat' first
    | (with_reducible exact ih0 _ _ _ _)
    | (with_reducible exact impl_fold.mono _ _)
    | (with_reducible exact LeO.refl _)
    | (with_reducible exact LeO.none _)
    | (with_reducible refine LeO.ite ?_ ?_)
    | (with_reducible refine LeO.bind ?_ (fun _ => ?_))
    | exact ih0 _ _ _ _
    | exact impl_fold.mono _ _
    | exact LeO.none _
    | refine LeO.ite ?_ ?_
    | refine LeO.bind ?_ (fun _ => ?_)
theorem impl_SumWords.mono : ∀ a0 k, LeO (impl_SumWords.f k a0) (impl_SumWords.f (k + 1) a0) := by
 intro a0 k
 have ih0 := impl_SumWords.mono_l k
 unfold impl_SumWords.f
 repeat' first
  | (with_reducible exact ih0 _ _ _ _)
  | (with_reducible exact impl_fold.mono _ _)
  | (with_reducible exact LeO.refl _)
  | (with_reducible exact LeO.none _)
  | (with_reducible refine LeO.ite ?_ ?_)
  | (with_reducible refine LeO.bind ?_ (fun _ => ?_))
  | exact ih0 _ _ _ _
  | exact impl_fold.mono _ _
  | exact LeO.none _
  | refine LeO.ite ?_ ?_
  | refine LeO.bind ?_ (fun _ => ?_)
set_option maxHeartbeats 8000000 in
set_option maxRecDepth 100000 in
theorem impl_SumWords.calls (k : Nat) (A0 : Option Addr) (c0 : Nat) (l0 : List Int) (r : Int) (w : World) (hr0 : Kd.C (Kd.int .u8) w A0 l0.length l0) (hc0 : l0.length ≤ c0) (h : impl_SumWords.f k l0 = some r) :
 Calls Try.prog 113 #[.slice A0 l0.length c0] w fun e w' => e = .returned (.int .i64 r) ∧ Drawn0 w w' := by
 have HR0 := Aside0.mk hr0
 have HC0 := Aside0.mk hc0
 clear hr0 hc0
 have H : (impl_SumWords.l0 k 0 l0 (l0.length : Int) 0) = some r := h
 clear h
 have H' := Aside0.mk H
 clear H
 go_enter Try.func113, Try.ntmps113
 go_wp2
 go_loopg [3, 8] k (fun kq v3 v8 w' => ∃ (x3_1 : Int) (x8_1 : Int), v3 = .int .i64 x3_1 ∧ v8 = .int .i64 x8_1 ∧ Aside0 (impl_SumWords.l0 kq x3_1 l0 (l0.length : Int) x8_1 = some r) ∧ Aside0 (kq ≤ k) ∧ Drawn0 w w')
 case atStart => exact ⟨(0), (0), (by first | rfl | (simp; done) | (simp [*]; done)), (by first | rfl | (simp; done) | (simp [*]; done)), H', ⟨Nat.le_refl _⟩, by repeat (first | exact Drawn0.refl _ | apply Drawn0.step)⟩
 case round =>
  clear H'
  try clear c1
  obtain ⟨x3_1, x8_1, rfl, rfl, HA, HK1, ⟨m1, rfl⟩⟩ := hrel
  cases gk with
  | zero => exact absurd HA.out (by simp [impl_SumWords.l0])
  | succ k1 =>
   have H := HA.out
   clear HA
   simp only [impl_SumWords.l0] at H
   by_cases c2 : x8_1 < (l0.length : Int)
   · rw [if_pos c2] at H
     have c2b0 : decide (x8_1 < (l0.length : Int)) = true := decide_eq_true c2
     clear c2
     by_cases c3 : 0 ≤ x8_1
     · rw [if_pos c3] at H
       have c3b0 : decide (0 ≤ x8_1) = true := decide_eq_true c3
       clear c3
       by_cases c4 : x8_1 < (l0.length : Int)
       · rw [if_pos c4] at H
         have c4b0 : decide (x8_1 < (l0.length : Int)) = true := decide_eq_true c4
         clear c4
         by_cases c5 : (Int.tmod x8_1 2) = 0
         · rw [if_pos c5] at H
           have c5b0 : ((Int.tmod x8_1 2) == 0) = true := beq_iff_eq.mpr c5
           have c5b1 : ((Int.tmod x8_1 2) != 0) = false := bne_eq_false_iff_eq.mpr c5
           clear c5
           have H' := Aside0.mk H
           clear H
           have p768 : 0 ≤ (x8_1 : Int) := of_decide_eq_true (by first | (with_reducible assumption) | assumption)
           have q768 : x8_1 < (l0.length : Int) := of_decide_eq_true (by first | (with_reducible assumption) | assumption)
           obtain ⟨ad768, e768, hx768_0⟩ := Kd.at_int HR0.out x8_1 p768 q768
           cases e768
           replace p768 := eq_true p768
           replace q768 := eq_true q768
           go_wp2
           go_roundg k1
           case measure => have := HK1.out; omega
           case rel => exact ⟨(wrap64 (x3_1 + (wrap64 (256 * (wrap64 (rd l0 x8_1)))))), (wrap64 (x8_1 + 1)), (by first | rfl | (simp; done) | (simp [*]; done)), (by first | rfl | (simp; done) | (simp [*]; done)), H', ⟨by have := HK1.out; omega⟩, by repeat (first | exact Drawn0.refl _ | apply Drawn0.step)⟩
         · rw [if_neg c5] at H
           have c5b0 : ((Int.tmod x8_1 2) == 0) = false := beq_eq_false_iff_ne.mpr c5
           have c5b1 : ((Int.tmod x8_1 2) != 0) = true := bne_iff_ne.mpr c5
           have H' := Aside0.mk H
           clear H
           have p768 : 0 ≤ (x8_1 : Int) := of_decide_eq_true (by first | (with_reducible assumption) | assumption)
           have q768 : x8_1 < (l0.length : Int) := of_decide_eq_true (by first | (with_reducible assumption) | assumption)
           obtain ⟨ad768, e768, hx768_0⟩ := Kd.at_int HR0.out x8_1 p768 q768
           cases e768
           replace p768 := eq_true p768
           replace q768 := eq_true q768
           go_wp2
           go_roundg k1
           case measure => have := HK1.out; omega
           case rel => exact ⟨(wrap64 (x3_1 + (wrap64 (rd l0 x8_1)))), (wrap64 (x8_1 + 1)), (by first | rfl | (simp; done) | (simp [*]; done)), (by first | rfl | (simp; done) | (simp [*]; done)), H', ⟨by have := HK1.out; omega⟩, by repeat (first | exact Drawn0.refl _ | apply Drawn0.step)⟩
       · rw [if_neg c4] at H
         exact absurd H (by simp)
     · rw [if_neg c3] at H
       exact absurd H (by simp)
   · rw [if_neg c2] at H
     have c2b0 : decide (x8_1 < (l0.length : Int)) = false := decide_eq_false c2
     clear c2
     replace H := Option.bind_eq_some_iff.mp H
     obtain ⟨t769, A60, H⟩ := H
     replace H : (some (wrap64 (65535 - t769))) = some r := H
     have A6 := Aside0.mk A60
     clear A60
     obtain rfl := Option.some.inj H
     go_wp2_with (first | ((with_reducible refine gate_callee (f := 125) rfl ?_); refine goesL_ (some 27) rfl rfl Try.func125 (by kernel_rfl) rfl #[.int .i64 x3_1] rfl (by (try simp only [List.map_toArray, List.map_cons, List.map_nil]); first | done | rfl | (simp only [List.length_drop, List.length_take]; rfl)) ?_; (with_reducible refine (impl_fold.calls k1 x3_1 t769 _ A6.out).mono ?_); rintro e w' ⟨rfl, ⟨nd, rfl⟩⟩; refine ⟨_, rfl, ?_⟩))
     go_ret
     exact ⟨by first | rfl | (simp; done) | (simp [*]; done), by repeat (first | exact Drawn0.refl _ | apply Drawn0.step)⟩

/-! ### impl_build: function 81 -/
theorem impl_build.anyk {p : Prop} (h : p := by first | exact hk | (and_intros <;> first | trivial | exact hk | exact hk.1 | exact hk.2 | exact hk.1.1 | exact hk.1.2 | exact hk.2.1 | exact hk.2.2 | exact hk.1.1.1 | exact hk.1.1.2 | exact hk.1.2.1 | exact hk.1.2.2 | exact hk.2.1.1 | exact hk.2.1.2 | exact hk.2.2.1 | exact hk.2.2.2 | exact hk.1.1.1.1 | exact hk.1.1.1.2 | exact hk.1.1.2.1 | exact hk.1.1.2.2 | exact hk.1.2.1.1 | exact hk.1.2.1.2 | exact hk.1.2.2.1 | exact hk.1.2.2.2 | exact hk.2.1.1.1 | exact hk.2.1.1.2 | exact hk.2.1.2.1 | exact hk.2.1.2.2 | exact hk.2.2.1.1 | exact hk.2.2.1.2 | exact hk.2.2.2.1 | exact hk.2.2.2.2 | exact hk.1.1.1.1.1 | exact hk.1.1.1.1.2 | exact hk.1.1.1.2.1 | exact hk.1.1.1.2.2 | exact hk.1.1.2.1.1 | exact hk.1.1.2.1.2 | exact hk.1.1.2.2.1 | exact hk.1.1.2.2.2 | exact hk.1.2.1.1.1 | exact hk.1.2.1.1.2 | exact hk.1.2.1.2.1 | exact hk.1.2.1.2.2 | exact hk.1.2.2.1.1 | exact hk.1.2.2.1.2 | exact hk.1.2.2.2.1 | exact hk.1.2.2.2.2 | exact hk.2.1.1.1.1 | exact hk.2.1.1.1.2 | exact hk.2.1.1.2.1 | exact hk.2.1.1.2.2 | exact hk.2.1.2.1.1 | exact hk.2.1.2.1.2 | exact hk.2.1.2.2.1 | exact hk.2.1.2.2.2 | exact hk.2.2.1.1.1 | exact hk.2.2.1.1.2 | exact hk.2.2.1.2.1 | exact hk.2.2.1.2.2 | exact hk.2.2.2.1.1 | exact hk.2.2.2.1.2 | exact hk.2.2.2.2.1 | exact hk.2.2.2.2.2 | exact .inr hk | exact .inr hk.1 | exact .inr hk.2 | exact .inr hk.1.1 | exact .inr hk.1.2 | exact .inr hk.2.1 | exact .inr hk.2.2 | exact .inr hk.1.1.1 | exact .inr hk.1.1.2 | exact .inr hk.1.2.1 | exact .inr hk.1.2.2 | exact .inr hk.2.1.1 | exact .inr hk.2.1.2 | exact .inr hk.2.2.1 | exact .inr hk.2.2.2 | exact .inl hk | exact .inl hk.1 | exact .inl hk.2 | exact .inl hk.1.1 | exact .inl hk.1.2 | exact .inl hk.2.1 | exact .inl hk.2.2 | exact .inl hk.1.1.1 | exact .inl hk.1.1.2 | exact .inl hk.1.2.1 | exact .inl hk.1.2.2 | exact .inl hk.2.1.1 | exact .inl hk.2.1.2 | exact .inl hk.2.2.1 | exact .inl hk.2.2.2 | exact fun h_ => absurd ((hoff 16 (by kernel_rfl)).symm.trans h_) (by decide) | exact fun _ => hk | exact fun _ => hk.1 | exact fun _ => hk.2 | exact fun _ => hk.1.1 | exact fun _ => hk.1.2 | exact fun _ => hk.2.1 | exact fun _ => hk.2.2 | exact fun _ => hk.1.1.1 | exact fun _ => hk.1.1.2 | exact fun _ => hk.1.2.1 | exact fun _ => hk.1.2.2 | exact fun _ => hk.2.1.1 | exact fun _ => hk.2.1.2 | exact fun _ => hk.2.2.1 | exact fun _ => hk.2.2.2 | exact fun _ => hk (hon 16 (by kernel_rfl)) | exact fun _ => hk.1 (hon 16 (by kernel_rfl)) | exact fun _ => hk.2 (hon 16 (by kernel_rfl)) | exact fun _ => hk.1.1 (hon 16 (by kernel_rfl)) | exact fun _ => hk.1.2 (hon 16 (by kernel_rfl)) | exact fun _ => hk.2.1 (hon 16 (by kernel_rfl)) | exact fun _ => hk.2.2 (hon 16 (by kernel_rfl)) | exact fun _ => hk.1.1.1 (hon 16 (by kernel_rfl)) | exact fun _ => hk.1.1.2 (hon 16 (by kernel_rfl)) | exact fun _ => hk.1.2.1 (hon 16 (by kernel_rfl)) | exact fun _ => hk.1.2.2 (hon 16 (by kernel_rfl)) | exact fun _ => hk.2.1.1 (hon 16 (by kernel_rfl)) | exact fun _ => hk.2.1.2 (hon 16 (by kernel_rfl)) | exact fun _ => hk.2.2.1 (hon 16 (by kernel_rfl)) | exact fun _ => hk.2.2.2 (hon 16 (by kernel_rfl)) | exact hk.1 (hon 16 (by kernel_rfl)) | exact hk.2 (hon 16 (by kernel_rfl)) | exact hk.1.1 (hon 16 (by kernel_rfl)) | exact hk.1.2 (hon 16 (by kernel_rfl)) | exact hk.2.1 (hon 16 (by kernel_rfl)) | exact hk.2.2 (hon 16 (by kernel_rfl)) | exact hk.1.1.1 (hon 16 (by kernel_rfl)) | exact hk.1.1.2 (hon 16 (by kernel_rfl)) | exact hk.1.2.1 (hon 16 (by kernel_rfl)) | exact hk.1.2.2 (hon 16 (by kernel_rfl)) | exact hk.2.1.1 (hon 16 (by kernel_rfl)) | exact hk.2.1.2 (hon 16 (by kernel_rfl)) | exact hk.2.2.1 (hon 16 (by kernel_rfl)) | exact hk.2.2.2 (hon 16 (by kernel_rfl)) | exact hk.1 hb16_ | exact hk.2 hb16_ | exact hk.1.1 hb16_ | exact hk.1.2 hb16_ | exact hk.2.1 hb16_ | exact hk.2.2 hb16_ | exact hk.1.1.1 hb16_ | exact hk.1.1.2 hb16_ | exact hk.1.2.1 hb16_ | exact hk.1.2.2 hb16_ | exact hk.2.1.1 hb16_ | exact hk.2.1.2 hb16_ | exact hk.2.2.1 hb16_ | exact hk.2.2.2 hb16_)) : p := h
def impl_build.j0 : Nat → List Int → Int → Int → Int → Int → Int → Int → List Int → Option (List Int)
 | 0, _, _, _, _, _, _, _, _ => none
 | k + 1, x3, x771000, x771001, x771002, x771003, x771004, x771005, x771006 => (impl_put.f k (wrap64 ((wrap64 (20 + (x3.length : Int))) + (x771006.length : Int))) 2).bind fun t787 => ((impl_put.f k x771000 4).bind fun t796 => ((impl_put.f k x771001 4).bind fun t799 => ((slices_Concat_byte_byte.f k (([(([69, 0] : List Int)), t787, (([0, 0, 64, 0, (x771003) % 256, (x771002) % 256, 0, 0] : List Int)), t796, t799] : List (List Int)))).bind fun t805 => (if 10 ≤ (t805.length : Int) then ((impl_SumWords.f k t805).bind fun t813 => ((impl_put.f k t813 2).bind fun t814 => ((slices_Concat_byte_byte.f k (([(cpi t805 10 t814), x3, x771006] : List (List Int)))).bind fun t823 => (some t823)))) else (none)))))
def impl_build.f (k : Nat) (a0_0 : Int) (a0_1 : Int) (a0_2 : Int) (a0_3 : Int) (a0_4 : Int) (a0_5 : Int) (l0_6 : List Int) : Option (List Int) := (impl_HasPorts.f a0_2).bind fun t774 => (if t774 = true then ((impl_put.f k a0_4 2).bind fun t775 => ((impl_put.f k a0_5 2).bind fun t778 => ((slices_Concat_byte_byte.f k (([t775, t778] : List (List Int)))).bind fun t784 => (impl_build.j0 k t784 a0_0 a0_1 a0_2 a0_3 a0_4 a0_5 l0_6)))) else (impl_build.j0 k (([] : List Int)) a0_0 a0_1 a0_2 a0_3 a0_4 a0_5 l0_6))
theorem impl_build.mono_l : ∀ k, (∀ y0 y1 y2 y3 y4 y5 y6 y7, LeO (impl_build.j0 k y0 y1 y2 y3 y4 y5 y6 y7) (impl_build.j0 (k + 1) y0 y1 y2 y3 y4 y5 y6 y7))
 | 0 => fun _ _ _ _ _ _ _ _ r h => by simp [impl_build.j0] at h
 | k + 1 => by
  have ih0 := impl_build.mono_l k
  · intro y0 y1 y2 y3 y4 y5 y6 y7
    unfold impl_build.j0
    repeat' first
    | (with_reducible exact ih0 _ _ _ _ _ _ _ _)
    | (with_reducible exact impl_SumWords.mono _ _)
    | (with_reducible exact impl_put.mono _ _ _)
    | (with_reducible exact slices_Concat_byte_byte.mono _ _)
    | (with_reducible exact LeO.refl _)
    | (with_reducible exact LeO.none _)
    | (with_reducible refine LeO.ite ?_ ?_)
    | (with_reducible refine LeO.bind ?_ (fun _ => ?_))
    | exact ih0 _ _ _ _ _ _ _ _
    | exact impl_SumWords.mono _ _
    | exact impl_put.mono _ _ _
    | exact slices_Concat_byte_byte.mono _ _
    | exact LeO.none _
    | refine LeO.ite ?_ ?_
    | refine LeO.bind ?_ (fun _ => ?_)
theorem impl_build.mono : ∀ a0 a1 a2 a3 a4 a5 a6 k, LeO (impl_build.f k a0 a1 a2 a3 a4 a5 a6) (impl_build.f (k + 1) a0 a1 a2 a3 a4 a5 a6) := by
 intro a0 a1 a2 a3 a4 a5 a6 k
 have ih0 := impl_build.mono_l k
 unfold impl_build.f
 repeat' first
  | (with_reducible exact ih0 _ _ _ _ _ _ _ _)
  | (with_reducible exact impl_SumWords.mono _ _)
  | (with_reducible exact impl_put.mono _ _ _)
  | (with_reducible exact slices_Concat_byte_byte.mono _ _)
  | (with_reducible exact LeO.refl _)
  | (with_reducible exact LeO.none _)
  | (with_reducible refine LeO.ite ?_ ?_)
  | (with_reducible refine LeO.bind ?_ (fun _ => ?_))
  | exact ih0 _ _ _ _ _ _ _ _
  | exact impl_SumWords.mono _ _
  | exact impl_put.mono _ _ _
  | exact slices_Concat_byte_byte.mono _ _
  | exact LeO.none _
  | refine LeO.ite ?_ ?_
  | refine LeO.bind ?_ (fun _ => ?_)
def impl_build.T3 : Bool × List (List Nat × List Nat) := (true, [([], []), ([0], [0]), ([1], [1]), ([], []), ([3], [3]), ([4, 2], [4]), ([2, 5], [2, 5]), ([6, 5], [6]), ([7, 7, 0, 1, 2, 3, 4, 5, 6, 7], [7])])
def impl_build.B3 : List Nat := [0, 1, 3, 0, 8, 31, 63, 127, 255]
theorem impl_build.tab3 : rtab .any (opsOf Try.f81 3) = impl_build.T3 := by kernel_rfl
theorem impl_build.bits3 : waitsOk impl_build.T3.2 impl_build.B3 = true := by kernel_rfl
def impl_build.T5 : Bool × List (List Nat × List Nat) := (true, [([], []), ([], []), ([], []), ([2], [2]), ([3], [3]), ([], []), ([5], [5]), ([6], [6]), ([4, 7], [4, 7]), ([], []), ([9], [9]), ([10], [10]), ([], []), ([12], [12]), ([13, 11], [13]), ([0, 1, 8, 11, 14], [0, 1, 8, 11, 14]), ([15, 14], [15]), ([16, 16, 0, 1, 2, 3, 4, 5, 6, 7, 8, 9, 10, 11, 12, 13, 14, 15, 16], [16])])
def impl_build.B5 : List Nat := [0, 0, 0, 4, 12, 0, 32, 96, 252, 0, 512, 1536, 0, 4096, 15872, 32767, 65535, 131071]
theorem impl_build.tab5 : rtab .any (opsOf Try.f81 5) = impl_build.T5 := by kernel_rfl
theorem impl_build.bits5 : waitsOk impl_build.T5.2 impl_build.B5 = true := by kernel_rfl
set_option maxHeartbeats 8000000 in
set_option maxRecDepth 100000 in
theorem impl_build.calls (k : Nat) (a0_0 : Int) (a0_1 : Int) (a0_2 : Int) (a0_3 : Int) (a0_4 : Int) (a0_5 : Int) (P0_6_ : Nat → Prop) (A0_6 : Option Addr) (c0_6 : Nat) (l0_6 : List Int) (r : List Int) (w : World) (hs0_6 : Kd.V (Kd.int .u8) 5 w w.heap.size (fun k_ => P0_6_ k_) (.slice A0_6 l0_6.length c0_6) l0_6) (h : impl_build.f k a0_0 a0_1 a0_2 a0_3 a0_4 a0_5 l0_6 = some r) :
 Calls Try.prog 81 #[.agg #[.int .i64 a0_0, .int .i64 a0_1, .int .i64 a0_2, .int .i64 a0_3, .int .i64 a0_4, .int .i64 a0_5, .slice A0_6 l0_6.length c0_6]] w fun e w' => ∃ v0_ : Value, e = .returned (v0_) ∧ Kd.R (Kd.int .u8) 5 w' w.heap.size (fun k_ => (w.heap.size ≤ k_)) v0_ r ∧ Below w.heap.size w w' := by
 have hu53 := Try.underlying53
 have HO0_6 := Aside0.mk (show Kd.V (Kd.int .u8) 5 w w.heap.size (fun k_ => (P0_6_ k_ ∨ w.heap.size ≤ k_)) (.slice A0_6 l0_6.length c0_6) l0_6 from Kd.V_mono hs0_6 (fun k_ hk => .inl hk))
 have HB := Aside0.mk (Below.refl w.heap.size w)
 have H : ((impl_HasPorts.f a0_2).bind fun t774 => (if t774 = true then ((impl_put.f k a0_4 2).bind fun t775 => ((impl_put.f k a0_5 2).bind fun t778 => ((slices_Concat_byte_byte.f k (([t775, t778] : List (List Int)))).bind fun t784 => (impl_build.j0 k t784 a0_0 a0_1 a0_2 a0_3 a0_4 a0_5 l0_6)))) else (impl_build.j0 k (([] : List Int)) a0_0 a0_1 a0_2 a0_3 a0_4 a0_5 l0_6))) = some r := h
 clear h
 obtain ⟨y771, hy771⟩ : ∃ y_ : List Int, y_ = (([] : List Int)) := ⟨_, rfl⟩
 replace H : ((impl_HasPorts.f a0_2).bind fun t774 => (if t774 = true then ((impl_put.f k a0_4 2).bind fun t775 => ((impl_put.f k a0_5 2).bind fun t778 => ((slices_Concat_byte_byte.f k (([t775, t778] : List (List Int)))).bind fun t784 => (impl_build.j0 k t784 a0_0 a0_1 a0_2 a0_3 a0_4 a0_5 l0_6)))) else (impl_build.j0 k y771 a0_0 a0_1 a0_2 a0_3 a0_4 a0_5 l0_6))) = some r := by first | (rw [hy771]; with_reducible exact H) | (have H2_ := (Option.bind_some _ _).symm.trans H; rw [hy771]; with_reducible exact H2_) | (have H2_ := (Option.bind_some _ _).symm.trans H; with_reducible exact H2_) | with_reducible exact H | (rw [hy771]; exact H) | exact H
 have Ny771 := Aside0.mk hy771
 clear hy771
 replace H := Option.bind_eq_some_iff.mp H
 obtain ⟨t774, A20, H⟩ := H
 replace H : (if t774 = true then ((impl_put.f k a0_4 2).bind fun t775 => ((impl_put.f k a0_5 2).bind fun t778 => ((slices_Concat_byte_byte.f k (([t775, t778] : List (List Int)))).bind fun t784 => (impl_build.j0 k t784 a0_0 a0_1 a0_2 a0_3 a0_4 a0_5 l0_6)))) else (impl_build.j0 k y771 a0_0 a0_1 a0_2 a0_3 a0_4 a0_5 l0_6)) = some r := H
 have A2 := Aside0.mk A20
 clear A20
 have HC3 := Aside0.mk H
 clear H
 go_enter Try.func81, Try.ntmps81
 go_upto_if 9 with (first | ((with_reducible refine gate_dst (N := 1) rfl ?_); refine box_event ?hg (N := 1) ?hd (cs := #[.int .i64 a0_0, .int .i64 a0_1, .int .i64 a0_2, .int .i64 a0_3, .int .i64 a0_4, .int .i64 a0_5, .slice A0_6 l0_6.length c0_6]) (t := 53) ?hr ?_; (case hd => rfl); (case hg => rfl); (case hr => first | (go_simp; done) | (go_simp; rfl)); intro gb770 hg w4 hbox hb; have BK770 := Aside0.mk (hbox); have GW770 := Aside0.mk ((by rw [hg]; exact below_size pb : w.heap.size ≤ gb770)); have GE770 := GW770; replace HO0_6 := Aside0.mk (Kd.V_below (Kd.V_elderB (by (with_reducible repeat (first | apply Kd.V_alloc | apply Kd.V_drewN | apply Kd.V_drew)); exact (by first | exact HO0_6.out | exact Kd.R_mono HO0_6.out (fun _ hk => impl_build.anyk) | exact Kd.V_mono HO0_6.out (fun _ hk => impl_build.anyk) | exact Kd.N_mono HO0_6.out (fun _ hk => impl_build.anyk))) gb770 (Nat.le_of_eq hg.symm)) hb); replace HB := Aside0.mk (below_step pb hb); clear hb hbox hg) | ((with_reducible refine gate_dst (N := 6) rfl ?_); refine Kd.R_lit (Kd.int .u8) _ 5 ?hg (N := 6) ?hd (xs := ([] : List Int)) (inner := []) (ok := fun _ => True) (okp := fun _ => True) ?hr ?hp (fun _ hk => by first | exact hk | exact impl_build.anyk) trivial (Below.refl _ _) (Nat.le_refl _) (by simp) ?_; (case hd => rfl); (case hg => rfl); (case hr => first | (go_simp; done) | (go_simp; rfl)); (case hp => exact (Reps.none _ _)); intro v772 w5 ho6 hb hg_ hnew_; clear hg_ hnew_; (first | rw [← Ny771.out] at ho6 | (simp only [Int.reduceToNat] at ho6; rw [← Ny771.out] at ho6)); have HO773 := Aside0.mk (Kd.R_lower (Kd.R_newM (M := fun k_ => (w.heap.size ≤ k_)) ho6 (below_size pb) (fun k_ h_ => h_)) (below_size pb)); replace HO0_6 := Aside0.mk (Kd.V_elder' (by (with_reducible repeat (first | apply Kd.V_alloc | apply Kd.V_drewN | apply Kd.V_drew)); exact (by first | exact HO0_6.out | exact Kd.R_mono HO0_6.out (fun _ hk => impl_build.anyk) | exact Kd.V_mono HO0_6.out (fun _ hk => impl_build.anyk) | exact Kd.N_mono HO0_6.out (fun _ hk => impl_build.anyk))) (Kd.R_base ho6) hb); replace BK770 := Aside0.mk (blk_below (up BK770.out) hb); replace HB := Aside0.mk (below_step pb hb); clear hb ho6; have hcz7_0 : w5.cell? ⟨gb770, 0, none⟩ = some (.int .i64 a0_0) := (blk_cell BK770.out 0).trans rfl; have hcz7_1 : w5.cell? ⟨gb770, 1, none⟩ = some (.int .i64 a0_1) := (blk_cell BK770.out 1).trans rfl; have hcz7_2 : w5.cell? ⟨gb770, 2, none⟩ = some (.int .i64 a0_2) := (blk_cell BK770.out 2).trans rfl; have hcz7_3 : w5.cell? ⟨gb770, 3, none⟩ = some (.int .i64 a0_3) := (blk_cell BK770.out 3).trans rfl; have hcz7_4 : w5.cell? ⟨gb770, 4, none⟩ = some (.int .i64 a0_4) := (blk_cell BK770.out 4).trans rfl; have hcz7_5 : w5.cell? ⟨gb770, 5, none⟩ = some (.int .i64 a0_5) := (blk_cell BK770.out 5).trans rfl; have hcz7_6 : w5.cell? ⟨gb770, 6, none⟩ = some (.slice A0_6 l0_6.length c0_6) := (blk_cell BK770.out 6).trans rfl; have hfz7_0 := blk_frozen BK770.out 0; have hfz7_1 := blk_frozen BK770.out 1; have hfz7_2 := blk_frozen BK770.out 2; have hfz7_3 := blk_frozen BK770.out 3; have hfz7_4 := blk_frozen BK770.out 4; have hfz7_5 := blk_frozen BK770.out 5; have hfz7_6 := blk_frozen BK770.out 6) | ((with_reducible refine gate_callee (f := 91) rfl ?_); refine goesL_ (some 9) rfl rfl Try.func91 (by kernel_rfl) rfl #[.int .i64 a0_2] rfl (by (try simp only [List.map_toArray, List.map_cons, List.map_nil]); first | done | rfl | (simp only [List.length_drop, List.length_take]; rfl)) ?_; (with_reducible refine (impl_HasPorts.calls a0_2 t774 _ A2.out).mono ?_); rintro e w' ⟨rfl, ⟨nd, rfl⟩⟩; refine ⟨_, rfl, ?_⟩))
 (try simp only [Act.put, List.setIfInBounds_toArray, List.set_cons_zero, List.set_cons_succ])
 go_cut [3] (fun v3 wc => ∃ (kq : Nat) (x3_2 : List Int), Aside0 (impl_build.j0 kq x3_2 a0_0 a0_1 a0_2 a0_3 a0_4 a0_5 l0_6 = some r) ∧ Aside0 (kq ≤ k) ∧ Aside0 (Kd.R (Kd.int .u8) 5 wc w.heap.size (fun k_ => (w.heap.size ≤ k_)) v3 x3_2) ∧ Aside0 (Kd.V (Kd.int .u8) 5 wc w.heap.size (fun k_ => (P0_6_ k_ ∨ w.heap.size ≤ k_) ∧ some k_ ≠ (v3 : Value).ownBlock ∧ k_ ≠ gb770) (.slice A0_6 l0_6.length c0_6) l0_6) ∧ Aside0 (wc.heap[gb770]? = some (.cells #[.int .i64 a0_0, .int .i64 a0_1, .int .i64 a0_2, .int .i64 a0_3, .int .i64 a0_4, .int .i64 a0_5, (.slice A0_6 l0_6.length c0_6)] 53 (0, 0))) ∧ Aside0 (Below w.heap.size w wc))
 case first =>
  have H := HC3.out
  clear HC3
  by_cases c8 : t774 = true
  · subst c8
    have H1 : ((impl_put.f k a0_4 2).bind fun t775 => ((impl_put.f k a0_5 2).bind fun t778 => ((slices_Concat_byte_byte.f k (([t775, t778] : List (List Int)))).bind fun t784 => (impl_build.j0 k t784 a0_0 a0_1 a0_2 a0_3 a0_4 a0_5 l0_6)))) = some r := by rw [if_pos rfl] at H; exact H
    clear H
    have H := H1
    clear H1
    replace H := Option.bind_eq_some_iff.mp H
    obtain ⟨t775, A90, H⟩ := H
    replace H : ((impl_put.f k a0_5 2).bind fun t778 => ((slices_Concat_byte_byte.f k (([t775, t778] : List (List Int)))).bind fun t784 => (impl_build.j0 k t784 a0_0 a0_1 a0_2 a0_3 a0_4 a0_5 l0_6))) = some r := H
    have A9 := Aside0.mk A90
    clear A90
    replace H := Option.bind_eq_some_iff.mp H
    obtain ⟨t778, A100, H⟩ := H
    replace H : ((slices_Concat_byte_byte.f k (([t775, t778] : List (List Int)))).bind fun t784 => (impl_build.j0 k t784 a0_0 a0_1 a0_2 a0_3 a0_4 a0_5 l0_6)) = some r := H
    have A10 := Aside0.mk A100
    clear A100
    obtain ⟨y781, hy781⟩ : ∃ y_ : List (List Int), y_ = (([t775, t778] : List (List Int))) := ⟨_, rfl⟩
    replace H : ((slices_Concat_byte_byte.f k y781).bind fun t784 => (impl_build.j0 k t784 a0_0 a0_1 a0_2 a0_3 a0_4 a0_5 l0_6)) = some r := by first | (rw [hy781]; with_reducible exact H) | (have H2_ := (Option.bind_some _ _).symm.trans H; rw [hy781]; with_reducible exact H2_) | (have H2_ := (Option.bind_some _ _).symm.trans H; with_reducible exact H2_) | with_reducible exact H | (rw [hy781]; exact H) | exact H
    have Ny781 := Aside0.mk hy781
    clear hy781
    replace H := Option.bind_eq_some_iff.mp H
    obtain ⟨t784, A110, H⟩ := H
    replace H : (impl_build.j0 k t784 a0_0 a0_1 a0_2 a0_3 a0_4 a0_5 l0_6) = some r := H
    have A11 := Aside0.mk A110
    clear A110
    have H' := Aside0.mk H
    clear H
    try go_wp2
    replace HO0_6 := Aside0.mk (Kd.V_drew (Kd.V_drewN HO0_6.out nd)); replace HO773 := Aside0.mk (Kd.R_drew (Kd.R_drewN HO773.out nd)); replace BK770 := Aside0.mk (blk_drew (blk_drewN BK770.out nd)); replace HB := Aside0.mk (below_drew1 (pw_below_drewN HB.out nd))
    refine start_ (n := 9) (S := fun w' => w'.cell? ⟨gb770, 0, none⟩ = some (.int .i64 a0_0) ∧ w'.cell? ⟨gb770, 1, none⟩ = some (.int .i64 a0_1) ∧ w'.cell? ⟨gb770, 2, none⟩ = some (.int .i64 a0_2) ∧ w'.cell? ⟨gb770, 3, none⟩ = some (.int .i64 a0_3) ∧ w'.cell? ⟨gb770, 4, none⟩ = some (.int .i64 a0_4) ∧ w'.cell? ⟨gb770, 5, none⟩ = some (.int .i64 a0_5) ∧ w'.cell? ⟨gb770, 6, none⟩ = some (.slice A0_6 l0_6.length c0_6)) (ds := []) #[false, false, false, false, false, false, false, false, false] (by kernel_rfl) rfl rfl ⟨(blk_cell BK770.out 0).trans rfl, (blk_cell BK770.out 1).trans rfl, (blk_cell BK770.out 2).trans rfl, (blk_cell BK770.out 3).trans rfl, (blk_cell BK770.out 4).trans rfl, (blk_cell BK770.out 5).trans rfl, (blk_cell BK770.out 6).trans rfl⟩ (fun hHeld => ?_); refine with_tabW impl_build.tab3 impl_build.bits3 (fun HT_ HW_ => ?_)
    generalize (w5.drewN nd).drew = w12 at HO0_6 HO773 BK770 HB hHeld ⊢
    refine pure_ (i := 0) (N := some 10) (v := ?_) (a' := ?_) #[true, false, false, false, false, false, false, false, false] rfl rfl (any_of HT_.out (by kernel_rfl)) (fun _ _ _ h => h) (Or.inl ⟨by rfl, ?_⟩) ?_ ?_
    rotate_left
    · intro w'
      go_simp
      with_reducible rfl
    rotate_left
    · simp only [Act.put, List.setIfInBounds_toArray, List.set_cons_zero, List.set_cons_succ, i64_w, i32_w]
      rfl
    refine pure_ (i := 3) (N := some 13) (v := ?_) (a' := ?_) #[true, false, false, true, false, false, false, false, false] rfl rfl (any_of HT_.out (by kernel_rfl)) (fun _ _ _ h => h) (Or.inl ⟨by rfl, ?_⟩) ?_ ?_
    rotate_left
    · intro w'
      go_simp
      with_reducible rfl
    rotate_left
    · simp only [Act.put, List.setIfInBounds_toArray, List.set_cons_zero, List.set_cons_succ, i64_w, i32_w]
      rfl
    refine take_ (i := 1) (N := some 11) (v := ?_) (a' := ?_) #[true, true, false, true, false, false, false, false, false] rfl rfl (take_ofW HT_.out HW_.out (by kernel_rfl)) (fun _ _ _ h => h) (Or.inl ⟨by rfl, ?_⟩) hHeld ?_ ?_
    rotate_left
    · rintro w' ⟨s0, s1, s2, s3, s4, s5, s6⟩
      go_simp
      with_reducible rfl
    rotate_left
    · simp only [Act.put, List.setIfInBounds_toArray, List.set_cons_zero, List.set_cons_succ, i64_w, i32_w]
      rfl
    refine take_ (i := 4) (N := some 14) (v := ?_) (a' := ?_) #[true, true, false, true, true, false, false, false, false] rfl rfl (take_ofW HT_.out HW_.out (by kernel_rfl)) (fun _ _ _ h => h) (Or.inl ⟨by rfl, ?_⟩) hHeld ?_ ?_
    rotate_left
    · rintro w' ⟨s0, s1, s2, s3, s4, s5, s6⟩
      go_simp
      with_reducible rfl
    rotate_left
    · simp only [Act.put, List.setIfInBounds_toArray, List.set_cons_zero, List.set_cons_succ, i64_w, i32_w]
      rfl
    refine one_ (i := 2) (N := some 12) #[true, true, true, true, true, false, false, false, false] rfl rfl (one_of HT_.out (by kernel_rfl)) (by decide) (fun K hK => ?_)
    refine goes_ Try.func62 (by kernel_rfl) rfl #[.int .i64 a0_4, .int .i64 2] (by rfl) rfl rfl (by (try simp only [List.map_toArray, List.map_cons, List.map_nil]); first | done | rfl | (simp only [List.length_drop, List.length_take]; rfl)) ?_
    with_reducible refine (impl_put.calls k a0_4 2 t775 _ A9.out).mono ?_
    rintro e w13 ⟨v776, rfl, ho0, hb⟩
    refine ⟨_, rfl, ?_⟩
    have HO777 := Aside0.mk (Kd.R_lower (Kd.R_new' (Kd.R_newM (M := fun k_ => (w.heap.size ≤ k_)) ho0 (below_size pb) (fun k_ h_ => h_)) (Kd.R_lt (by (with_reducible repeat (first | apply Kd.R_alloc | apply Kd.R_drewN | apply Kd.R_drew)); exact (by first | exact HO773.out | exact Kd.R_mono HO773.out (fun _ hk => impl_build.anyk) | exact Kd.V_mono HO773.out (fun _ hk => impl_build.anyk) | exact Kd.N_mono HO773.out (fun _ hk => impl_build.anyk))))) (below_size pb)); replace HO0_6 := Aside0.mk (Kd.V_elder' (by (with_reducible repeat (first | apply Kd.V_alloc | apply Kd.V_drewN | apply Kd.V_drew)); exact (by first | exact HO0_6.out | exact Kd.R_mono HO0_6.out (fun _ hk => impl_build.anyk) | exact Kd.V_mono HO0_6.out (fun _ hk => impl_build.anyk) | exact Kd.N_mono HO0_6.out (fun _ hk => impl_build.anyk))) (Kd.R_base ho0) hb); replace HO773 := Aside0.mk (Kd.R_elder' (by (with_reducible repeat (first | apply Kd.R_alloc | apply Kd.R_drewN | apply Kd.R_drew)); exact (by first | exact HO773.out | exact Kd.R_mono HO773.out (fun _ hk => impl_build.anyk) | exact Kd.V_mono HO773.out (fun _ hk => impl_build.anyk) | exact Kd.N_mono HO773.out (fun _ hk => impl_build.anyk))) (Kd.R_base ho0) hb); replace BK770 := Aside0.mk (blk_below (up BK770.out) hb); replace HB := Aside0.mk (below_step pb hb)
    (try clear hb)
    (try clear hb2)
    (try clear hk)
    (try clear hi)
    (try clear ho0)
    refine hK.out _ _ ⟨(blk_cell BK770.out 0).trans rfl, (blk_cell BK770.out 1).trans rfl, (blk_cell BK770.out 2).trans rfl, (blk_cell BK770.out 3).trans rfl, (blk_cell BK770.out 4).trans rfl, (blk_cell BK770.out 5).trans rfl, (blk_cell BK770.out 6).trans rfl⟩ (fun hHeld => ?_)
    clear hK K
    refine norm_ (a' := ?_) ?_ ?_
    rotate_left
    · show Act.put _ (some 12) _ = _
      simp only [Act.put, List.setIfInBounds_toArray, List.set_cons_zero, List.set_cons_succ, i64_w, i32_w]
      rfl
    refine one_ (i := 5) (N := some 15) #[true, true, true, true, true, true, false, false, false] rfl rfl (one_of HT_.out (by kernel_rfl)) (by decide) (fun K hK => ?_)
    refine goes_ Try.func62 (by kernel_rfl) rfl #[.int .i64 a0_5, .int .i64 2] (by rfl) rfl rfl (by (try simp only [List.map_toArray, List.map_cons, List.map_nil]); first | done | rfl | (simp only [List.length_drop, List.length_take]; rfl)) ?_
    with_reducible refine (impl_put.calls k a0_5 2 t778 _ A10.out).mono ?_
    rintro e w14 ⟨v779, rfl, ho0, hb⟩
    refine ⟨_, rfl, ?_⟩
    have HO780 := Aside0.mk (Kd.R_lower (Kd.R_new' (Kd.R_new' (Kd.R_newM (M := fun k_ => (w.heap.size ≤ k_)) ho0 (below_size pb) (fun k_ h_ => h_)) (Kd.R_lt (by (with_reducible repeat (first | apply Kd.R_alloc | apply Kd.R_drewN | apply Kd.R_drew)); exact (by first | exact HO773.out | exact Kd.R_mono HO773.out (fun _ hk => impl_build.anyk) | exact Kd.V_mono HO773.out (fun _ hk => impl_build.anyk) | exact Kd.N_mono HO773.out (fun _ hk => impl_build.anyk))))) (Kd.R_lt (by (with_reducible repeat (first | apply Kd.R_alloc | apply Kd.R_drewN | apply Kd.R_drew)); exact (by first | exact HO777.out | exact Kd.R_mono HO777.out (fun _ hk => impl_build.anyk) | exact Kd.V_mono HO777.out (fun _ hk => impl_build.anyk) | exact Kd.N_mono HO777.out (fun _ hk => impl_build.anyk))))) (below_size pb)); replace HO0_6 := Aside0.mk (Kd.V_elder' (by (with_reducible repeat (first | apply Kd.V_alloc | apply Kd.V_drewN | apply Kd.V_drew)); exact (by first | exact HO0_6.out | exact Kd.R_mono HO0_6.out (fun _ hk => impl_build.anyk) | exact Kd.V_mono HO0_6.out (fun _ hk => impl_build.anyk) | exact Kd.N_mono HO0_6.out (fun _ hk => impl_build.anyk))) (Kd.R_base ho0) hb); replace HO773 := Aside0.mk (Kd.R_elder' (by (with_reducible repeat (first | apply Kd.R_alloc | apply Kd.R_drewN | apply Kd.R_drew)); exact (by first | exact HO773.out | exact Kd.R_mono HO773.out (fun _ hk => impl_build.anyk) | exact Kd.V_mono HO773.out (fun _ hk => impl_build.anyk) | exact Kd.N_mono HO773.out (fun _ hk => impl_build.anyk))) (Kd.R_base ho0) hb); replace HO777 := Aside0.mk (Kd.R_elder' (by (with_reducible repeat (first | apply Kd.R_alloc | apply Kd.R_drewN | apply Kd.R_drew)); exact (by first | exact HO777.out | exact Kd.R_mono HO777.out (fun _ hk => impl_build.anyk) | exact Kd.V_mono HO777.out (fun _ hk => impl_build.anyk) | exact Kd.N_mono HO777.out (fun _ hk => impl_build.anyk))) (Kd.R_base ho0) hb); replace BK770 := Aside0.mk (blk_below (up BK770.out) hb); replace HB := Aside0.mk (below_step pb hb)
    (try clear hb)
    (try clear hb2)
    (try clear hk)
    (try clear hi)
    (try clear ho0)
    obtain ⟨Ao15, co15, eo15⟩ := Kd.R_slice HO777.out
    (first | subst eo15 | (injection eo15 with f1_ f2_ f3_; have f4_ := f1_.symm; have f5_ := f3_.symm; clear f1_ f2_ f3_; subst f4_; subst f5_))
    obtain ⟨Ao16, co16, eo16⟩ := Kd.R_slice HO780.out
    (first | subst eo16 | (injection eo16 with f1_ f2_ f3_; have f4_ := f1_.symm; have f5_ := f3_.symm; clear f1_ f2_ f3_; subst f4_; subst f5_))
    refine hK.out _ _ ⟨(blk_cell BK770.out 0).trans rfl, (blk_cell BK770.out 1).trans rfl, (blk_cell BK770.out 2).trans rfl, (blk_cell BK770.out 3).trans rfl, (blk_cell BK770.out 4).trans rfl, (blk_cell BK770.out 5).trans rfl, (blk_cell BK770.out 6).trans rfl⟩ (fun hHeld => ?_)
    clear hK K
    refine norm_ (a' := ?_) ?_ ?_
    rotate_left
    · show Act.put _ (some 15) _ = _
      simp only [Act.put, List.setIfInBounds_toArray, List.set_cons_zero, List.set_cons_succ, i64_w, i32_w]
      rfl
    refine one_ (i := 6) (N := some 16) #[true, true, true, true, true, true, true, false, false] rfl rfl (one_of HT_.out (by kernel_rfl)) (by decide) (fun K hK => ?_)
    refine Kd.N_lit_step (Kd.slice 5 (Kd.int .u8)) _ 22 ?hg (N' := 16) ?hd (xs := ([t775, t778] : List (List Int))) (inner := [.slice Ao15 t775.length co15, .slice Ao16 t778.length co16]) (ok := (fun k_ => (P0_6_ k_ ∨ w.heap.size ≤ k_) ∧ some k_ ≠ (v772 : Value).ownBlock ∧ k_ ≠ gb770)) (okp := (fun k_ => (P0_6_ k_ ∨ w.heap.size ≤ k_) ∧ some k_ ≠ (v772 : Value).ownBlock ∧ k_ ≠ gb770)) ?hr ?hp (fun _ hk => by first | exact hk | exact impl_build.anyk) ((show ∀ k_, w14.heap.size ≤ k_ → (fun k_ => (P0_6_ k_ ∨ w.heap.size ≤ k_) ∧ some k_ ≠ (v772 : Value).ownBlock ∧ k_ ≠ gb770) k_ from fun k_ hk => ⟨(.inr (Nat.le_trans (below_size pb) hk)), Kd.fresh' (Kd.R_lt (by (with_reducible repeat (first | apply Kd.R_alloc | apply Kd.R_drewN | apply Kd.R_drew)); exact (by first | exact HO773.out | exact Kd.R_mono HO773.out (fun _ hk => impl_build.anyk) | exact Kd.V_mono HO773.out (fun _ hk => impl_build.anyk) | exact Kd.N_mono HO773.out (fun _ hk => impl_build.anyk)))) k_ hk, Kd.freshB (g := gb770) (o := .cells #[.int .i64 a0_0, .int .i64 a0_1, .int .i64 a0_2, .int .i64 a0_3, .int .i64 a0_4, .int .i64 a0_5, .slice A0_6 l0_6.length c0_6] 53 (0, 0)) (up BK770.out) k_ hk⟩) _ (Nat.le_refl _)) (Below.refl _ _) (Nat.le_refl _) (by simp) ?_; (case hd => rfl); (case hg => rfl); (case hr => first | (go_simp; done) | (go_simp; rfl)); (case hp => exact (Reps.one (show Kd.FK (Kd.slice 5 (Kd.int .u8)) _ _ t775 [.slice Ao15 t775.length co15] from (Kd.FK_slice_mk (Kd.R_reads' (Kd.R_mono (ok' := (fun k_ => (P0_6_ k_ ∨ w.heap.size ≤ k_) ∧ some k_ ≠ (v772 : Value).ownBlock ∧ k_ ≠ gb770)) (Kd.R_types (HO777.out) BK770.out (by decide)) (fun k_ hk => by first | exact ⟨(.inr (hk.1.1.1.1)), ⟨hk.1.1.2, hk.2⟩⟩ | exact impl_build.anyk))).2.1 (Kd.R_F (Kd.R_mono (ok' := (fun k_ => (P0_6_ k_ ∨ w.heap.size ≤ k_) ∧ some k_ ≠ (v772 : Value).ownBlock ∧ k_ ≠ gb770)) (Kd.R_types (HO777.out) BK770.out (by decide)) (fun k_ hk => by first | exact ⟨(.inr (hk.1.1.1.1)), ⟨hk.1.1.2, hk.2⟩⟩ | exact impl_build.anyk))))) (Reps.one (show Kd.FK (Kd.slice 5 (Kd.int .u8)) _ _ t778 [.slice Ao16 t778.length co16] from (Kd.FK_slice_mk (Kd.R_reads' (Kd.R_mono (ok' := (fun k_ => (P0_6_ k_ ∨ w.heap.size ≤ k_) ∧ some k_ ≠ (v772 : Value).ownBlock ∧ k_ ≠ gb770)) (Kd.R_types (HO780.out) BK770.out (by decide)) (fun k_ hk => by first | exact ⟨(.inr (hk.1.1.1.1)), ⟨hk.1.1.2, hk.2⟩⟩ | exact impl_build.anyk))).2.1 (Kd.R_F (Kd.R_mono (ok' := (fun k_ => (P0_6_ k_ ∨ w.heap.size ≤ k_) ∧ some k_ ≠ (v772 : Value).ownBlock ∧ k_ ≠ gb770)) (Kd.R_types (HO780.out) BK770.out (by decide)) (fun k_ hk => by first | exact ⟨(.inr (hk.1.1.1.1)), ⟨hk.1.1.2, hk.2⟩⟩ | exact impl_build.anyk))))) (Reps.none _ _))))
    intro v782 w17 ho18 hb hg_ hnew_
    clear hg_ hnew_
    (first | rw [← Ny781.out] at ho18 | (simp only [Int.reduceToNat] at ho18; rw [← Ny781.out] at ho18))
    have HO783 := Aside0.mk (Kd.N_lower ho18 (below_size pb)); replace HO0_6 := Aside0.mk (Kd.V_elder' (by (with_reducible repeat (first | apply Kd.V_alloc | apply Kd.V_drewN | apply Kd.V_drew)); exact (by first | exact HO0_6.out | exact Kd.R_mono HO0_6.out (fun _ hk => impl_build.anyk) | exact Kd.V_mono HO0_6.out (fun _ hk => impl_build.anyk) | exact Kd.N_mono HO0_6.out (fun _ hk => impl_build.anyk))) (Kd.N_base ho18) hb); replace HO773 := Aside0.mk (Kd.R_below (by (with_reducible repeat (first | apply Kd.R_alloc | apply Kd.R_drewN | apply Kd.R_drew)); exact (by first | exact HO773.out | exact Kd.R_mono HO773.out (fun _ hk => impl_build.anyk) | exact Kd.V_mono HO773.out (fun _ hk => impl_build.anyk) | exact Kd.N_mono HO773.out (fun _ hk => impl_build.anyk))) hb); replace BK770 := Aside0.mk (blk_below (up BK770.out) hb); replace HB := Aside0.mk (below_step pb hb); clear HO777 HO780
    clear hb ho18
    obtain ⟨Ao19, co19, eo19⟩ := Kd.N_slice HO783.out
    (first | subst eo19 | (injection eo19 with f1_ f2_ f3_; have f4_ := f1_.symm; have f5_ := f3_.symm; clear f1_ f2_ f3_; subst f4_; subst f5_))
    refine hK.out _ _ ⟨(blk_cell BK770.out 0).trans rfl, (blk_cell BK770.out 1).trans rfl, (blk_cell BK770.out 2).trans rfl, (blk_cell BK770.out 3).trans rfl, (blk_cell BK770.out 4).trans rfl, (blk_cell BK770.out 5).trans rfl, (blk_cell BK770.out 6).trans rfl⟩ (fun hHeld => ?_)
    clear hK K
    refine norm_ (a' := ?_) ?_ ?_
    rotate_left
    · show Act.put _ (some 16) _ = _
      simp only [Act.put, List.setIfInBounds_toArray, List.set_cons_zero, List.set_cons_succ, i64_w, i32_w]
      rfl
    refine one_ (i := 7) (N := some 17) #[true, true, true, true, true, true, true, true, false] rfl rfl (one_of HT_.out (by kernel_rfl)) (by decide) (fun K hK => ?_)
    refine goes_ Try.func73 (by kernel_rfl) rfl #[.slice Ao19 y781.length co19] (by rfl) rfl rfl (by (try simp only [List.map_toArray, List.map_cons, List.map_nil]); first | done | rfl | (simp only [List.length_drop, List.length_take]; rfl)) ?_
    with_reducible refine (slices_Concat_byte_byte.calls k _ _ y781 t784 _ ?side1 ?side2 A11.out).mono ?_
    (case side1 => exact upC (Kd.N_reads' HO783.out).2.2)
    (case side2 => exact (Kd.N_reads' HO783.out).2.1)
    rintro e w20 ⟨v785, rfl, ho0, hb⟩
    refine ⟨_, rfl, ?_⟩
    have HO786 := Aside0.mk (Kd.R_lower (Kd.R_new' (Kd.R_newM (M := fun k_ => (w.heap.size ≤ k_)) ho0 (below_size pb) (fun k_ h_ => h_)) (Kd.R_lt (by (with_reducible repeat (first | apply Kd.R_alloc | apply Kd.R_drewN | apply Kd.R_drew)); exact (by first | exact HO773.out | exact Kd.R_mono HO773.out (fun _ hk => impl_build.anyk) | exact Kd.V_mono HO773.out (fun _ hk => impl_build.anyk) | exact Kd.N_mono HO773.out (fun _ hk => impl_build.anyk))))) (below_size pb)); replace HO0_6 := Aside0.mk (Kd.V_elder' (by (with_reducible repeat (first | apply Kd.V_alloc | apply Kd.V_drewN | apply Kd.V_drew)); exact (by first | exact HO0_6.out | exact Kd.R_mono HO0_6.out (fun _ hk => impl_build.anyk) | exact Kd.V_mono HO0_6.out (fun _ hk => impl_build.anyk) | exact Kd.N_mono HO0_6.out (fun _ hk => impl_build.anyk))) (Kd.R_base ho0) hb); replace HO773 := Aside0.mk (Kd.R_elder' (by (with_reducible repeat (first | apply Kd.R_alloc | apply Kd.R_drewN | apply Kd.R_drew)); exact (by first | exact HO773.out | exact Kd.R_mono HO773.out (fun _ hk => impl_build.anyk) | exact Kd.V_mono HO773.out (fun _ hk => impl_build.anyk) | exact Kd.N_mono HO773.out (fun _ hk => impl_build.anyk))) (Kd.R_base ho0) hb); replace HO783 := Aside0.mk (Kd.N_elder' (by (with_reducible repeat (first | apply Kd.N_alloc | apply Kd.N_drewN | apply Kd.N_drew)); exact (by first | exact HO783.out | exact Kd.R_mono HO783.out (fun _ hk => impl_build.anyk) | exact Kd.V_mono HO783.out (fun _ hk => impl_build.anyk) | exact Kd.N_mono HO783.out (fun _ hk => impl_build.anyk))) (Kd.R_base ho0) hb); replace BK770 := Aside0.mk (blk_below (up BK770.out) hb); replace HB := Aside0.mk (below_step pb hb)
    (try clear hb)
    (try clear hb2)
    (try clear hk)
    (try clear hi)
    (try clear ho0)
    refine hK.out _ _ ⟨(blk_cell BK770.out 0).trans rfl, (blk_cell BK770.out 1).trans rfl, (blk_cell BK770.out 2).trans rfl, (blk_cell BK770.out 3).trans rfl, (blk_cell BK770.out 4).trans rfl, (blk_cell BK770.out 5).trans rfl, (blk_cell BK770.out 6).trans rfl⟩ (fun hHeld => ?_)
    clear hK K
    refine norm_ (a' := ?_) ?_ ?_
    rotate_left
    · show Act.put _ (some 17) _ = _
      simp only [Act.put, List.setIfInBounds_toArray, List.set_cons_zero, List.set_cons_succ, i64_w, i32_w]
      rfl
    refine pure_ (i := 8) (N := some 3) (v := ?_) (a' := ?_) #[true, true, true, true, true, true, true, true, true] rfl rfl (any_of HT_.out (by kernel_rfl)) (fun _ _ _ h => h) (Or.inl ⟨by rfl, ?_⟩) ?_ ?_
    rotate_left
    · intro w'
      go_simp
      with_reducible rfl
    rotate_left
    · simp only [Act.put, List.setIfInBounds_toArray, List.set_cons_zero, List.set_cons_succ, i64_w, i32_w]
      rfl
    refine done_ (done_of HT_.out (by kernel_rfl)) ?_
    try go_wp2
    go_meet
    case rel => exact ⟨_, (t784), H', ⟨by first | omega | exact Nat.le_refl _⟩, ⟨by (with_reducible repeat (first | apply Kd.R_alloc | apply Kd.R_drewN | apply Kd.R_drew)); exact Kd.R_mono HO786.out (fun _ hk => by first | exact hk.1.1 | exact impl_build.anyk)⟩, ⟨by (with_reducible repeat (first | apply Kd.V_alloc | apply Kd.V_drewN | apply Kd.V_drew)); exact Kd.V_mono HO0_6.out (fun _ hk => by first | exact ⟨hk.1.1.1.1.1.1, ⟨hk.2, hk.1.1.1.1.1.2⟩⟩ | exact impl_build.anyk)⟩, ⟨up BK770.out⟩, ⟨by repeat (first | (with_reducible first | exact HB.out | apply below_alloc | apply pw_below_drewN | apply below_drew1 | refine below_set ?_ GE770.out) | exact HB.out)⟩⟩
  · replace c8 := Bool.eq_false_iff.mpr c8
    subst c8
    have H1 : (impl_build.j0 k y771 a0_0 a0_1 a0_2 a0_3 a0_4 a0_5 l0_6) = some r := by rw [if_neg (show ¬ (false = true) by decide)] at H; exact H
    clear H
    have H := H1
    clear H1
    have H' := Aside0.mk H
    clear H
    go_wp2
    go_meet
    case rel => exact ⟨_, (y771), H', ⟨by first | omega | exact Nat.le_refl _⟩, ⟨by (with_reducible repeat (first | apply Kd.R_alloc | apply Kd.R_drewN | apply Kd.R_drew)); exact Kd.R_mono HO773.out (fun _ hk => by first | exact hk.1 | exact impl_build.anyk)⟩, ⟨by (with_reducible repeat (first | apply Kd.V_alloc | apply Kd.V_drewN | apply Kd.V_drew)); exact Kd.V_mono HO0_6.out (fun _ hk => by first | exact ⟨hk.1.1, ⟨hk.2, hk.1.2⟩⟩ | exact impl_build.anyk)⟩, ⟨up BK770.out⟩, ⟨by repeat (first | (with_reducible first | exact HB.out | apply below_alloc | apply pw_below_drewN | apply below_drew1 | refine below_set ?_ GE770.out) | exact HB.out)⟩⟩
 case rest =>
  clear HC3
  try clear p2
  try clear c6
  try clear c7
  try clear c8
  try clear c9
  try clear hcz7_0
  try clear hcz7_1
  try clear hcz7_2
  try clear hcz7_3
  try clear hcz7_4
  try clear hcz7_5
  try clear hcz7_6
  try clear hfz7_0
  try clear hfz7_1
  try clear hfz7_2
  try clear hfz7_3
  try clear hfz7_4
  try clear hfz7_5
  try clear hfz7_6
  obtain ⟨kq, x3_2, HA, HJ2, HO_3, HO_771006, BK770, HB⟩ := hcut
  cases kq with
  | zero => exact absurd HA.out (by simp [impl_build.j0])
  | succ kj2 =>
   have H := HA.out
   clear HA
   simp only [impl_build.j0] at H
   replace H := Option.bind_eq_some_iff.mp H
   obtain ⟨t787, A210, H⟩ := H
   replace H : ((impl_put.f kj2 a0_0 4).bind fun t796 => ((impl_put.f kj2 a0_1 4).bind fun t799 => ((slices_Concat_byte_byte.f kj2 (([(([69, 0] : List Int)), t787, (([0, 0, 64, 0, (a0_3) % 256, (a0_2) % 256, 0, 0] : List Int)), t796, t799] : List (List Int)))).bind fun t805 => (if 10 ≤ (t805.length : Int) then ((impl_SumWords.f kj2 t805).bind fun t813 => ((impl_put.f kj2 t813 2).bind fun t814 => ((slices_Concat_byte_byte.f kj2 (([(cpi t805 10 t814), x3_2, l0_6] : List (List Int)))).bind fun t823 => (some t823)))) else (none))))) = some r := H
   have A21 := Aside0.mk A210
   clear A210
   obtain ⟨y790, hy790⟩ : ∃ y_ : List Int, y_ = (([69, 0] : List Int)) := ⟨_, rfl⟩
   replace H : ((impl_put.f kj2 a0_0 4).bind fun t796 => ((impl_put.f kj2 a0_1 4).bind fun t799 => ((slices_Concat_byte_byte.f kj2 (([y790, t787, (([0, 0, 64, 0, (a0_3) % 256, (a0_2) % 256, 0, 0] : List Int)), t796, t799] : List (List Int)))).bind fun t805 => (if 10 ≤ (t805.length : Int) then ((impl_SumWords.f kj2 t805).bind fun t813 => ((impl_put.f kj2 t813 2).bind fun t814 => ((slices_Concat_byte_byte.f kj2 (([(cpi t805 10 t814), x3_2, l0_6] : List (List Int)))).bind fun t823 => (some t823)))) else (none))))) = some r := by first | (rw [hy790]; with_reducible exact H) | (have H2_ := (Option.bind_some _ _).symm.trans H; rw [hy790]; with_reducible exact H2_) | (have H2_ := (Option.bind_some _ _).symm.trans H; with_reducible exact H2_) | with_reducible exact H | (rw [hy790]; exact H) | exact H
   have Ny790 := Aside0.mk hy790
   clear hy790
   obtain ⟨y793, hy793⟩ : ∃ y_ : List Int, y_ = (([0, 0, 64, 0, (a0_3) % 256, (a0_2) % 256, 0, 0] : List Int)) := ⟨_, rfl⟩
   replace H : ((impl_put.f kj2 a0_0 4).bind fun t796 => ((impl_put.f kj2 a0_1 4).bind fun t799 => ((slices_Concat_byte_byte.f kj2 (([y790, t787, y793, t796, t799] : List (List Int)))).bind fun t805 => (if 10 ≤ (t805.length : Int) then ((impl_SumWords.f kj2 t805).bind fun t813 => ((impl_put.f kj2 t813 2).bind fun t814 => ((slices_Concat_byte_byte.f kj2 (([(cpi t805 10 t814), x3_2, l0_6] : List (List Int)))).bind fun t823 => (some t823)))) else (none))))) = some r := by first | (rw [hy793]; with_reducible exact H) | (have H2_ := (Option.bind_some _ _).symm.trans H; rw [hy793]; with_reducible exact H2_) | (have H2_ := (Option.bind_some _ _).symm.trans H; with_reducible exact H2_) | with_reducible exact H | (rw [hy793]; exact H) | exact H
   have Ny793 := Aside0.mk hy793
   clear hy793
   replace H := Option.bind_eq_some_iff.mp H
   obtain ⟨t796, A220, H⟩ := H
   replace H : ((impl_put.f kj2 a0_1 4).bind fun t799 => ((slices_Concat_byte_byte.f kj2 (([y790, t787, y793, t796, t799] : List (List Int)))).bind fun t805 => (if 10 ≤ (t805.length : Int) then ((impl_SumWords.f kj2 t805).bind fun t813 => ((impl_put.f kj2 t813 2).bind fun t814 => ((slices_Concat_byte_byte.f kj2 (([(cpi t805 10 t814), x3_2, l0_6] : List (List Int)))).bind fun t823 => (some t823)))) else (none)))) = some r := H
   have A22 := Aside0.mk A220
   clear A220
   replace H := Option.bind_eq_some_iff.mp H
   obtain ⟨t799, A230, H⟩ := H
   replace H : ((slices_Concat_byte_byte.f kj2 (([y790, t787, y793, t796, t799] : List (List Int)))).bind fun t805 => (if 10 ≤ (t805.length : Int) then ((impl_SumWords.f kj2 t805).bind fun t813 => ((impl_put.f kj2 t813 2).bind fun t814 => ((slices_Concat_byte_byte.f kj2 (([(cpi t805 10 t814), x3_2, l0_6] : List (List Int)))).bind fun t823 => (some t823)))) else (none))) = some r := H
   have A23 := Aside0.mk A230
   clear A230
   obtain ⟨y802, hy802⟩ : ∃ y_ : List (List Int), y_ = (([y790, t787, y793, t796, t799] : List (List Int))) := ⟨_, rfl⟩
   replace H : ((slices_Concat_byte_byte.f kj2 y802).bind fun t805 => (if 10 ≤ (t805.length : Int) then ((impl_SumWords.f kj2 t805).bind fun t813 => ((impl_put.f kj2 t813 2).bind fun t814 => ((slices_Concat_byte_byte.f kj2 (([(cpi t805 10 t814), x3_2, l0_6] : List (List Int)))).bind fun t823 => (some t823)))) else (none))) = some r := by first | (rw [hy802]; with_reducible exact H) | (have H2_ := (Option.bind_some _ _).symm.trans H; rw [hy802]; with_reducible exact H2_) | (have H2_ := (Option.bind_some _ _).symm.trans H; with_reducible exact H2_) | with_reducible exact H | (rw [hy802]; exact H) | exact H
   have Ny802 := Aside0.mk hy802
   clear hy802
   replace H := Option.bind_eq_some_iff.mp H
   obtain ⟨t805, A240, H⟩ := H
   replace H : (if 10 ≤ (t805.length : Int) then ((impl_SumWords.f kj2 t805).bind fun t813 => ((impl_put.f kj2 t813 2).bind fun t814 => ((slices_Concat_byte_byte.f kj2 (([(cpi t805 10 t814), x3_2, l0_6] : List (List Int)))).bind fun t823 => (some t823)))) else (none)) = some r := H
   have A24 := Aside0.mk A240
   clear A240
   by_cases c25 : 10 ≤ (t805.length : Int)
   · rw [if_pos c25] at H
     have c25b0 := eq_true c25
     have c25b1 : decide (10 ≤ (t805.length : Int)) = true := decide_eq_true c25
     clear c25
     obtain ⟨y808, hy808⟩ : ∃ y_ : List Int, y_ = (t805.drop 10) := ⟨_, rfl⟩
     replace H : ((impl_SumWords.f kj2 t805).bind fun t813 => ((impl_put.f kj2 t813 2).bind fun t814 => ((slices_Concat_byte_byte.f kj2 (([(cpi t805 10 t814), x3_2, l0_6] : List (List Int)))).bind fun t823 => (some t823)))) = some r := by first | (rw [hy808]; with_reducible exact H) | (have H2_ := (Option.bind_some _ _).symm.trans H; rw [hy808]; with_reducible exact H2_) | (have H2_ := (Option.bind_some _ _).symm.trans H; with_reducible exact H2_) | with_reducible exact H | (rw [hy808]; exact H) | exact H
     have Ny808 := Aside0.mk hy808
     clear hy808
     replace H := Option.bind_eq_some_iff.mp H
     obtain ⟨t813, A260, H⟩ := H
     replace H : ((impl_put.f kj2 t813 2).bind fun t814 => ((slices_Concat_byte_byte.f kj2 (([(cpi t805 10 t814), x3_2, l0_6] : List (List Int)))).bind fun t823 => (some t823))) = some r := H
     have A26 := Aside0.mk A260
     clear A260
     replace H := Option.bind_eq_some_iff.mp H
     obtain ⟨t814, A270, H⟩ := H
     replace H : ((slices_Concat_byte_byte.f kj2 (([(cpi t805 10 t814), x3_2, l0_6] : List (List Int)))).bind fun t823 => (some t823)) = some r := H
     have A27 := Aside0.mk A270
     clear A270
     obtain ⟨y817, hy817⟩ : ∃ y_ : List Int, y_ = (cpi t805 10 t814) := ⟨_, rfl⟩
     replace H : ((slices_Concat_byte_byte.f kj2 (([y817, x3_2, l0_6] : List (List Int)))).bind fun t823 => (some t823)) = some r := by first | (rw [hy817]; with_reducible exact H) | (have H2_ := (Option.bind_some _ _).symm.trans H; rw [hy817]; with_reducible exact H2_) | (have H2_ := (Option.bind_some _ _).symm.trans H; with_reducible exact H2_) | with_reducible exact H | (rw [hy817]; exact H) | exact H
     have Ny817 := Aside0.mk hy817
     clear hy817
     obtain ⟨y820, hy820⟩ : ∃ y_ : List (List Int), y_ = (([y817, x3_2, l0_6] : List (List Int))) := ⟨_, rfl⟩
     replace H : ((slices_Concat_byte_byte.f kj2 y820).bind fun t823 => (some t823)) = some r := by first | (rw [hy820]; with_reducible exact H) | (have H2_ := (Option.bind_some _ _).symm.trans H; rw [hy820]; with_reducible exact H2_) | (have H2_ := (Option.bind_some _ _).symm.trans H; with_reducible exact H2_) | with_reducible exact H | (rw [hy820]; exact H) | exact H
     have Ny820 := Aside0.mk hy820
     clear hy820
     replace H := Option.bind_eq_some_iff.mp H
     obtain ⟨t823, A280, H⟩ := H
     replace H : (some t823) = some r := H
     have A28 := Aside0.mk A280
     clear A280
     obtain rfl := Option.some.inj H
     obtain ⟨Ao29, co29, eo29⟩ := Kd.R_slice HO_3.out
     subst eo29
     have hcz30_0 : wc.cell? ⟨gb770, 0, none⟩ = some (.int .i64 a0_0) := (blk_cell BK770.out 0).trans rfl
     have hcz30_1 : wc.cell? ⟨gb770, 1, none⟩ = some (.int .i64 a0_1) := (blk_cell BK770.out 1).trans rfl
     have hcz30_2 : wc.cell? ⟨gb770, 2, none⟩ = some (.int .i64 a0_2) := (blk_cell BK770.out 2).trans rfl
     have hcz30_3 : wc.cell? ⟨gb770, 3, none⟩ = some (.int .i64 a0_3) := (blk_cell BK770.out 3).trans rfl
     have hcz30_4 : wc.cell? ⟨gb770, 4, none⟩ = some (.int .i64 a0_4) := (blk_cell BK770.out 4).trans rfl
     have hcz30_5 : wc.cell? ⟨gb770, 5, none⟩ = some (.int .i64 a0_5) := (blk_cell BK770.out 5).trans rfl
     have hcz30_6 : wc.cell? ⟨gb770, 6, none⟩ = some (.slice A0_6 l0_6.length c0_6) := (blk_cell BK770.out 6).trans rfl
     have hfz30_0 := blk_frozen BK770.out 0
     have hfz30_1 := blk_frozen BK770.out 1
     have hfz30_2 := blk_frozen BK770.out 2
     have hfz30_3 := blk_frozen BK770.out 3
     have hfz30_4 := blk_frozen BK770.out 4
     have hfz30_5 := blk_frozen BK770.out 5
     have hfz30_6 := blk_frozen BK770.out 6
     try go_wp2_with (first | ((with_reducible refine gate_callee (f := 62) rfl ?_); refine goesL_ (some 25) rfl rfl Try.func62 (by kernel_rfl) rfl #[.int .i64 (wrap64 ((wrap64 (20 + (x3_2.length : Int))) + (l0_6.length : Int))), .int .i64 2] rfl (by (try simp only [List.map_toArray, List.map_cons, List.map_nil]); first | done | rfl | (simp only [List.length_drop, List.length_take]; rfl)) ?_; (with_reducible refine (impl_put.calls kj2 (wrap64 ((wrap64 (20 + (x3_2.length : Int))) + (l0_6.length : Int))) 2 t787 _ A21.out).mono ?_); rintro e w31 ⟨v788, rfl, ho0, hb⟩; refine ⟨_, rfl, ?_⟩; have HO789 := Aside0.mk (Kd.R_lower (Kd.R_new' (Kd.R_newM (M := fun k_ => (w.heap.size ≤ k_)) ho0 (below_size pb) (fun k_ h_ => h_)) (Kd.R_lt (by (with_reducible repeat (first | apply Kd.R_alloc | apply Kd.R_drewN | apply Kd.R_drew)); exact (by first | exact HO_3.out | exact Kd.R_mono HO_3.out (fun _ hk => impl_build.anyk) | exact Kd.V_mono HO_3.out (fun _ hk => impl_build.anyk) | exact Kd.N_mono HO_3.out (fun _ hk => impl_build.anyk))))) (below_size pb)); replace HO_3 := Aside0.mk (Kd.R_elder' (by (with_reducible repeat (first | apply Kd.R_alloc | apply Kd.R_drewN | apply Kd.R_drew)); exact (by first | exact HO_3.out | exact Kd.R_mono HO_3.out (fun _ hk => impl_build.anyk) | exact Kd.V_mono HO_3.out (fun _ hk => impl_build.anyk) | exact Kd.N_mono HO_3.out (fun _ hk => impl_build.anyk))) (Kd.R_base ho0) hb); replace HO_771006 := Aside0.mk (Kd.V_elder' (by (with_reducible repeat (first | apply Kd.V_alloc | apply Kd.V_drewN | apply Kd.V_drew)); exact (by first | exact HO_771006.out | exact Kd.R_mono HO_771006.out (fun _ hk => impl_build.anyk) | exact Kd.V_mono HO_771006.out (fun _ hk => impl_build.anyk) | exact Kd.N_mono HO_771006.out (fun _ hk => impl_build.anyk))) (Kd.R_base ho0) hb); replace BK770 := Aside0.mk (blk_below (up BK770.out) hb); replace HB := Aside0.mk (below_step pb hb); (try clear hb); (try clear hb2); (try clear hk); (try clear hi); (try clear ho0)))
     replace HO_3 := Aside0.mk (Kd.R_drew HO_3.out); replace HO_771006 := Aside0.mk (Kd.V_drew HO_771006.out); replace HO789 := Aside0.mk (Kd.R_drew HO789.out); replace BK770 := Aside0.mk (blk_drew BK770.out); replace HB := Aside0.mk (below_drew1 HB.out)
     refine start_ (n := 18) (S := fun w' => True) (ds := []) #[false, false, false, false, false, false, false, false, false, false, false, false, false, false, false, false, false, false] (by kernel_rfl) rfl rfl trivial (fun hHeld => ?_); refine with_tabW impl_build.tab5 impl_build.bits5 (fun HT_ HW_ => ?_)
     generalize w31.drew = w32 at HO_3 HO_771006 HO789 BK770 HB hHeld ⊢
     refine pure_ (i := 1) (N := some 27) (v := ?_) (a' := ?_) #[false, true, false, false, false, false, false, false, false, false, false, false, false, false, false, false, false, false] rfl rfl (any_of HT_.out (by kernel_rfl)) (fun _ _ _ h => h) (Or.inl ⟨by rfl, ?_⟩) ?_ ?_
     rotate_left
     · intro w'
       go_simp
       with_reducible rfl
     rotate_left
     · simp only [Act.put, List.setIfInBounds_toArray, List.set_cons_zero, List.set_cons_succ, i64_w, i32_w]
       rfl
     refine pure_ (i := 2) (N := some 28) (v := ?_) (a' := ?_) #[false, true, true, false, false, false, false, false, false, false, false, false, false, false, false, false, false, false] rfl rfl (any_of HT_.out (by kernel_rfl)) (fun _ _ _ h => h) (Or.inl ⟨by rfl, ?_⟩) ?_ ?_
     rotate_left
     · intro w'
       go_simp
       with_reducible rfl
     rotate_left
     · simp only [Act.put, List.setIfInBounds_toArray, List.set_cons_zero, List.set_cons_succ, i64_w, i32_w]
       rfl
     refine pure_ (i := 5) (N := some 31) (v := ?_) (a' := ?_) #[false, true, true, false, false, true, false, false, false, false, false, false, false, false, false, false, false, false] rfl rfl (any_of HT_.out (by kernel_rfl)) (fun _ _ _ h => h) (Or.inl ⟨by rfl, ?_⟩) ?_ ?_
     rotate_left
     · intro w'
       go_simp
       with_reducible rfl
     rotate_left
     · simp only [Act.put, List.setIfInBounds_toArray, List.set_cons_zero, List.set_cons_succ, i64_w, i32_w]
       rfl
     refine pure_ (i := 9) (N := some 35) (v := ?_) (a' := ?_) #[false, true, true, false, false, true, false, false, false, true, false, false, false, false, false, false, false, false] rfl rfl (any_of HT_.out (by kernel_rfl)) (fun _ _ _ h => h) (Or.inl ⟨by rfl, ?_⟩) ?_ ?_
     rotate_left
     · intro w'
       go_simp
       with_reducible rfl
     rotate_left
     · simp only [Act.put, List.setIfInBounds_toArray, List.set_cons_zero, List.set_cons_succ, i64_w, i32_w]
       rfl
     refine pure_ (i := 12) (N := some 38) (v := ?_) (a' := ?_) #[false, true, true, false, false, true, false, false, false, true, false, false, true, false, false, false, false, false] rfl rfl (any_of HT_.out (by kernel_rfl)) (fun _ _ _ h => h) (Or.inl ⟨by rfl, ?_⟩) ?_ ?_
     rotate_left
     · intro w'
       go_simp
       with_reducible rfl
     rotate_left
     · simp only [Act.put, List.setIfInBounds_toArray, List.set_cons_zero, List.set_cons_succ, i64_w, i32_w]
       rfl
     refine inv_at [0, 3, 4, 6, 7, 8, 10, 11, 13, 14, 15, 16, 17] (fun a0_ b a w' => ∃ (v791 : Value) (v794 : Value) (v797 : Value) (v800 : Value) (v803 : Value) (v806 : Value) (m17_ : Value), a = putSel a0_ b [(0, 26, v791), (3, 29, .int .i64 a0_3), (4, 30, .int .u8 ((a0_3) % 256)), (6, 32, .int .i64 a0_2), (7, 33, .int .u8 ((a0_2) % 256)), (8, 34, v794), (10, 36, .int .i64 a0_0), (11, 37, v797), (13, 39, .int .i64 a0_1), (14, 40, v800), (15, 41, v803), (16, 42, v806), (17, 5, m17_)] ∧ (b 15 = false → Kd.R (Kd.int .u8) 5 w' w.heap.size (fun k_ => (w.heap.size ≤ k_) ∧ some k_ ≠ (.slice Ao29 x3_2.length co29 : Value).ownBlock) v788 t787) ∧ (b 15 = false → Kd.R (Kd.int .u8) 5 w' w.heap.size (fun k_ => (w.heap.size ≤ k_) ∧ some k_ ≠ (v788 : Value).ownBlock) (.slice Ao29 x3_2.length co29) x3_2) ∧ (b 15 = false → Kd.V (Kd.int .u8) 5 w' w.heap.size (fun k_ => (P0_6_ k_ ∨ w.heap.size ≤ k_) ∧ some k_ ≠ (v788 : Value).ownBlock ∧ some k_ ≠ (.slice Ao29 x3_2.length co29 : Value).ownBlock ∧ k_ ≠ gb770) (.slice A0_6 l0_6.length c0_6) l0_6) ∧ (w'.heap[gb770]? = some (.cells #[.int .i64 a0_0, .int .i64 a0_1, .int .i64 a0_2, .int .i64 a0_3, .int .i64 a0_4, .int .i64 a0_5, .slice A0_6 l0_6.length c0_6] 53 (0, 0))) ∧ (Below w.heap.size w w') ∧ (b 0 = true → b 15 = false → Kd.R (Kd.int .u8) 5 w' w.heap.size (fun k_ => (w.heap.size ≤ k_) ∧ some k_ ≠ (v788 : Value).ownBlock ∧ some k_ ≠ (.slice Ao29 x3_2.length co29 : Value).ownBlock) v791 y790) ∧ (b 8 = true → b 15 = false → Kd.R (Kd.int .u8) 5 w' w.heap.size (fun k_ => (w.heap.size ≤ k_) ∧ some k_ ≠ (v788 : Value).ownBlock ∧ some k_ ≠ (.slice Ao29 x3_2.length co29 : Value).ownBlock) v794 y793) ∧ (b 11 = true → b 15 = false → Kd.R (Kd.int .u8) 5 w' w.heap.size (fun k_ => (w.heap.size ≤ k_) ∧ some k_ ≠ (v788 : Value).ownBlock ∧ some k_ ≠ (.slice Ao29 x3_2.length co29 : Value).ownBlock) v797 t796) ∧ (b 14 = true → b 15 = false → Kd.R (Kd.int .u8) 5 w' w.heap.size (fun k_ => (w.heap.size ≤ k_) ∧ some k_ ≠ (v788 : Value).ownBlock ∧ some k_ ≠ (.slice Ao29 x3_2.length co29 : Value).ownBlock) v800 t799) ∧ (b 15 = true → Kd.N (Kd.slice 5 (Kd.int .u8)) 22 w' w.heap.size (fun k_ => (P0_6_ k_ ∨ w.heap.size ≤ k_) ∧ some k_ ≠ (.slice Ao29 x3_2.length co29 : Value).ownBlock ∧ k_ ≠ gb770 ∧ (b 16 = true → some k_ ≠ (v806 : Value).ownBlock)) v803 y802) ∧ (b 15 = true → Kd.R (Kd.int .u8) 5 w' w.heap.size (fun k_ => (w.heap.size ≤ k_) ∧ (b 16 = true → some k_ ≠ (v806 : Value).ownBlock)) (.slice Ao29 x3_2.length co29) x3_2) ∧ (b 15 = true → Kd.V (Kd.int .u8) 5 w' w.heap.size (fun k_ => (P0_6_ k_ ∨ w.heap.size ≤ k_) ∧ some k_ ≠ (.slice Ao29 x3_2.length co29 : Value).ownBlock ∧ k_ ≠ gb770 ∧ some k_ ≠ (v803 : Value).ownBlock ∧ (b 16 = true → some k_ ≠ (v806 : Value).ownBlock)) (.slice A0_6 l0_6.length c0_6) l0_6) ∧ (b 16 = true → Kd.R (Kd.int .u8) 5 w' w.heap.size (fun k_ => (w.heap.size ≤ k_) ∧ some k_ ≠ (.slice Ao29 x3_2.length co29 : Value).ownBlock) v806 t805) ∧ (b 17 = true → (m17_ : Value) = v806)) HT_.out HW_.out (by kernel_rfl) (by kernel_rfl) ?_ ?_ ?_
     · exact ⟨.bool false, .bool false, .bool false, .bool false, .bool false, .bool false, .bool false, by simp only [putSel, Bool.false_eq_true, if_false], fun _ => (by first | exact HO789.out | exact Kd.R_mono HO789.out (fun _ hk => impl_build.anyk) | exact Kd.V_mono HO789.out (fun _ hk => impl_build.anyk) | exact Kd.N_mono HO789.out (fun _ hk => impl_build.anyk)), fun _ => (by first | exact HO_3.out | exact Kd.R_mono HO_3.out (fun _ hk => impl_build.anyk) | exact Kd.V_mono HO_3.out (fun _ hk => impl_build.anyk) | exact Kd.N_mono HO_3.out (fun _ hk => impl_build.anyk)), fun _ => (by first | exact HO_771006.out | exact Kd.R_mono HO_771006.out (fun _ hk => impl_build.anyk) | exact Kd.V_mono HO_771006.out (fun _ hk => impl_build.anyk) | exact Kd.N_mono HO_771006.out (fun _ hk => impl_build.anyk)), BK770.out, HB.out, fun h_ => absurd h_ (by decide), fun h_ => absurd h_ (by decide), fun h_ => absurd h_ (by decide), fun h_ => absurd h_ (by decide), fun h_ => absurd h_ (by decide), fun h_ => absurd h_ (by decide), fun h_ => absurd h_ (by decide), fun h_ => absurd h_ (by decide), fun h_ => absurd h_ (by decide)⟩
     · skip
       clear BK770 HB HO789 HO_3 HO_771006
       refine steps_cons ?_ ?_
       · rintro b a w' ⟨v791, v794, v797, v800, v803, v806, m17_, ha, Q_HO789, Q_HO_3, Q_HO_771006, Q_BK770, Q_HB, Q_HO792, Q_HO795, Q_HO798, Q_HO801, Q_HO804, Q_HO_3_e15, Q_HO_771006_e15, Q_HO807, Q_X17_⟩ hb_ hon hoff
         refine ⟨_, rfl, fun K hK => ?_⟩
         replace ha := Aside0.mk ha
         have HO789 := Aside0.mk (Q_HO789 (hoff 15 (by kernel_rfl)))
         have HO_3 := Aside0.mk (Q_HO_3 (hoff 15 (by kernel_rfl)))
         have HO_771006 := Aside0.mk (Q_HO_771006 (hoff 15 (by kernel_rfl)))
         have BK770 := Aside0.mk Q_BK770
         have HB := Aside0.mk Q_HB
         refine Kd.R_lit_step (Kd.int .u8) _ 5 ?hg (N := 26) ?hd (xs := ([69, 0] : List Int)) (inner := [.int .u8 69, .int .u8 0]) (ok := fun _ => True) (okp := fun _ => True) ?hr ?hp (fun _ hk => by first | exact hk | exact impl_build.anyk) trivial (Below.refl _ _) (Nat.le_refl _) (by simp) ?_; (case hd => rfl); (case hg => rfl); (case hr => first | (go_simp; done) | (go_simp; rfl)); (case hp => exact (Reps.one (show Kd.M (Kd.int .u8) _ _ _ 69 [.int .u8 69] from rfl) (Reps.one (show Kd.M (Kd.int .u8) _ _ _ 0 [.int .u8 0] from rfl) (Reps.none _ _))))
         intro v791 w33 ho34 hb hg_ hnew_
         clear hg_ hnew_
         (first | rw [← Ny790.out] at ho34 | (simp only [Int.reduceToNat] at ho34; rw [← Ny790.out] at ho34))
         have n0_ := Aside0.mk (Kd.R_elder' (by (with_reducible repeat (first | apply Kd.R_alloc | apply Kd.R_drewN | apply Kd.R_drew)); exact (by first | exact HO_3.out | exact Kd.R_mono HO_3.out (fun _ hk => impl_build.anyk) | exact Kd.V_mono HO_3.out (fun _ hk => impl_build.anyk) | exact Kd.N_mono HO_3.out (fun _ hk => impl_build.anyk))) (Kd.R_base ho34) hb); have n1_ := Aside0.mk (Kd.V_elder' (by (with_reducible repeat (first | apply Kd.V_alloc | apply Kd.V_drewN | apply Kd.V_drew)); exact (by first | exact HO_771006.out | exact Kd.R_mono HO_771006.out (fun _ hk => impl_build.anyk) | exact Kd.V_mono HO_771006.out (fun _ hk => impl_build.anyk) | exact Kd.N_mono HO_771006.out (fun _ hk => impl_build.anyk))) (Kd.R_base ho34) hb); have n2_ := Aside0.mk (Kd.R_elder' (by (with_reducible repeat (first | apply Kd.R_alloc | apply Kd.R_drewN | apply Kd.R_drew)); exact (by first | exact HO789.out | exact Kd.R_mono HO789.out (fun _ hk => impl_build.anyk) | exact Kd.V_mono HO789.out (fun _ hk => impl_build.anyk) | exact Kd.N_mono HO789.out (fun _ hk => impl_build.anyk))) (Kd.R_base ho34) hb); have n3_ := Aside0.mk (Kd.R_lower (Kd.R_new' (Kd.R_new' (Kd.R_newM (M := fun k_ => (w.heap.size ≤ k_)) ho34 (below_size pb) (fun k_ h_ => h_)) (Kd.R_lt (by (with_reducible repeat (first | apply Kd.R_alloc | apply Kd.R_drewN | apply Kd.R_drew)); exact (by first | exact HO_3.out | exact Kd.R_mono HO_3.out (fun _ hk => impl_build.anyk) | exact Kd.V_mono HO_3.out (fun _ hk => impl_build.anyk) | exact Kd.N_mono HO_3.out (fun _ hk => impl_build.anyk))))) (Kd.R_lt (by (with_reducible repeat (first | apply Kd.R_alloc | apply Kd.R_drewN | apply Kd.R_drew)); exact (by first | exact HO789.out | exact Kd.R_mono HO789.out (fun _ hk => impl_build.anyk) | exact Kd.V_mono HO789.out (fun _ hk => impl_build.anyk) | exact Kd.N_mono HO789.out (fun _ hk => impl_build.anyk))))) (below_size pb)); have n4_ := Aside0.mk (blk_below (up BK770.out) hb); have n5_ := Aside0.mk (below_step pb hb)
         have z_HO795 := fun (h0_ : b 8 = true) (h1_ : b 15 = false) => (show Kd.R (Kd.int .u8) 5 w33 w.heap.size (fun k_ => (w.heap.size ≤ k_) ∧ some k_ ≠ (v788 : Value).ownBlock ∧ some k_ ≠ (.slice Ao29 x3_2.length co29 : Value).ownBlock) v794 y793 from by first | exact (Kd.R_elder' (by (with_reducible repeat (first | apply Kd.R_alloc | apply Kd.R_drewN | apply Kd.R_drew)); exact (Q_HO795 h0_ h1_)) (Kd.R_base ho34) hb) | exact Kd.R_mono (Kd.R_elder' (by (with_reducible repeat (first | apply Kd.R_alloc | apply Kd.R_drewN | apply Kd.R_drew)); exact (Q_HO795 h0_ h1_)) (Kd.R_base ho34) hb) (fun _ h_ => by first | trivial | exact h_ | exact h_.1))
         have z_HO798 := fun (h0_ : b 11 = true) (h1_ : b 15 = false) => (show Kd.R (Kd.int .u8) 5 w33 w.heap.size (fun k_ => (w.heap.size ≤ k_) ∧ some k_ ≠ (v788 : Value).ownBlock ∧ some k_ ≠ (.slice Ao29 x3_2.length co29 : Value).ownBlock) v797 t796 from by first | exact (Kd.R_elder' (by (with_reducible repeat (first | apply Kd.R_alloc | apply Kd.R_drewN | apply Kd.R_drew)); exact (Q_HO798 h0_ h1_)) (Kd.R_base ho34) hb) | exact Kd.R_mono (Kd.R_elder' (by (with_reducible repeat (first | apply Kd.R_alloc | apply Kd.R_drewN | apply Kd.R_drew)); exact (Q_HO798 h0_ h1_)) (Kd.R_base ho34) hb) (fun _ h_ => by first | trivial | exact h_ | exact h_.1))
         have z_HO801 := fun (h0_ : b 14 = true) (h1_ : b 15 = false) => (show Kd.R (Kd.int .u8) 5 w33 w.heap.size (fun k_ => (w.heap.size ≤ k_) ∧ some k_ ≠ (v788 : Value).ownBlock ∧ some k_ ≠ (.slice Ao29 x3_2.length co29 : Value).ownBlock) v800 t799 from by first | exact (Kd.R_elder' (by (with_reducible repeat (first | apply Kd.R_alloc | apply Kd.R_drewN | apply Kd.R_drew)); exact (Q_HO801 h0_ h1_)) (Kd.R_base ho34) hb) | exact Kd.R_mono (Kd.R_elder' (by (with_reducible repeat (first | apply Kd.R_alloc | apply Kd.R_drewN | apply Kd.R_drew)); exact (Q_HO801 h0_ h1_)) (Kd.R_base ho34) hb) (fun _ h_ => by first | trivial | exact h_ | exact h_.1))
         clear HO_3
         clear HO_771006
         clear HO789
         clear BK770
         clear HB
         have HO_3 := n0_
         have HO_771006 := n1_
         have HO789 := n2_
         have HO792 := n3_
         have BK770 := n4_
         have HB := n5_
         clear n0_ n1_ n2_ n3_ n4_ n5_
         clear hb ho34
         refine hK.out _ _ ⟨v791, v794, v797, v800, v803, v806, m17_, (by rw [ha.out]; exact putSel_upk 0 hb_ rfl rfl rfl), fun _ => (by (with_reducible repeat (first | apply Kd.R_alloc | apply Kd.R_drewN | apply Kd.R_drew)); exact Kd.R_mono HO789.out (fun _ hk => by first | exact ⟨hk.1.1.1, ⟨hk.2, hk.1.2⟩⟩ | exact impl_build.anyk)), fun _ => (by (with_reducible repeat (first | apply Kd.R_alloc | apply Kd.R_drewN | apply Kd.R_drew)); exact Kd.R_mono HO_3.out (fun _ hk => by first | exact ⟨hk.1.1, ⟨hk.1.2, hk.2⟩⟩ | exact impl_build.anyk)), fun _ => (by (with_reducible repeat (first | apply Kd.V_alloc | apply Kd.V_drewN | apply Kd.V_drew)); exact Kd.V_mono HO_771006.out (fun _ hk => by first | exact ⟨hk.1.1.1, ⟨hk.1.2, ⟨hk.2, ⟨hk.1.1.2.1, hk.1.1.2.2⟩⟩⟩⟩ | exact impl_build.anyk)), (up BK770.out), pb, fun _ _ => (by (with_reducible repeat (first | apply Kd.R_alloc | apply Kd.R_drewN | apply Kd.R_drew)); exact Kd.R_mono HO792.out (fun _ hk => by first | exact ⟨hk.1.1.1, ⟨hk.2, hk.1.2⟩⟩ | exact impl_build.anyk)), z_HO795, z_HO798, z_HO801, fun h0_ => absurd ((hoff 15 (by kernel_rfl)).symm.trans h0_) (by decide), fun h0_ => absurd ((hoff 15 (by kernel_rfl)).symm.trans h0_) (by decide), fun h0_ => absurd ((hoff 15 (by kernel_rfl)).symm.trans h0_) (by decide), fun h0_ => absurd ((hoff 16 (by kernel_rfl)).symm.trans h0_) (by decide), fun h0_ => absurd ((hoff 17 (by kernel_rfl)).symm.trans h0_) (by decide)⟩
       refine steps_cons ?_ ?_
       · rintro b a w' ⟨v791, v794, v797, v800, v803, v806, m17_, ha, Q_HO789, Q_HO_3, Q_HO_771006, Q_BK770, Q_HB, Q_HO792, Q_HO795, Q_HO798, Q_HO801, Q_HO804, Q_HO_3_e15, Q_HO_771006_e15, Q_HO807, Q_X17_⟩ hb_ hon hoff
         refine ⟨_, rfl, fun K hK => ?_⟩
         have e28 : a.tmps[28]? = some (.pointer (some ⟨gb770, 3, none⟩)) := by rw [ha]; exact (putSel_off rfl).trans rfl
         replace ha := Aside0.mk ha
         have HO789 := Aside0.mk (Q_HO789 (hoff 15 (by kernel_rfl)))
         have HO_3 := Aside0.mk (Q_HO_3 (hoff 15 (by kernel_rfl)))
         have HO_771006 := Aside0.mk (Q_HO_771006 (hoff 15 (by kernel_rfl)))
         have BK770 := Aside0.mk Q_BK770
         have HB := Aside0.mk Q_HB
         have hc0_ : w'.cell? ⟨gb770, 0, none⟩ = some (.int .i64 a0_0) := (blk_cell BK770.out 0).trans rfl
         have hc1_ : w'.cell? ⟨gb770, 1, none⟩ = some (.int .i64 a0_1) := (blk_cell BK770.out 1).trans rfl
         have hc2_ : w'.cell? ⟨gb770, 2, none⟩ = some (.int .i64 a0_2) := (blk_cell BK770.out 2).trans rfl
         have hc3_ : w'.cell? ⟨gb770, 3, none⟩ = some (.int .i64 a0_3) := (blk_cell BK770.out 3).trans rfl
         have hc4_ : w'.cell? ⟨gb770, 4, none⟩ = some (.int .i64 a0_4) := (blk_cell BK770.out 4).trans rfl
         have hc5_ : w'.cell? ⟨gb770, 5, none⟩ = some (.int .i64 a0_5) := (blk_cell BK770.out 5).trans rfl
         have hc6_ : w'.cell? ⟨gb770, 6, none⟩ = some (.slice A0_6 l0_6.length c0_6) := (blk_cell BK770.out 6).trans rfl
         refine value_ (w1 := w') (v := .int .i64 a0_3) (by rfl) rfl ?_ ?_
         · go_simp
           (try simp only [i64_w])
           try rfl
         refine hK.out _ _ ⟨v791, v794, v797, v800, v803, v806, m17_, (by rw [ha.out]; exact putSel_upk 1 hb_ rfl rfl rfl), Q_HO789, Q_HO_3, Q_HO_771006, Q_BK770, Q_HB, Q_HO792, fun h0_ _ => absurd ((hoff 8 (by kernel_rfl)).symm.trans h0_) (by decide), Q_HO798, Q_HO801, fun h0_ => absurd ((hoff 15 (by kernel_rfl)).symm.trans h0_) (by decide), fun h0_ => absurd ((hoff 15 (by kernel_rfl)).symm.trans h0_) (by decide), fun h0_ => absurd ((hoff 15 (by kernel_rfl)).symm.trans h0_) (by decide), fun h0_ => absurd ((hoff 16 (by kernel_rfl)).symm.trans h0_) (by decide), fun h0_ => absurd ((hoff 17 (by kernel_rfl)).symm.trans h0_) (by decide)⟩
       refine steps_cons ?_ ?_
       · rintro b a w' ⟨v791, v794, v797, v800, v803, v806, m17_, ha, Q_HO789, Q_HO_3, Q_HO_771006, Q_BK770, Q_HB, Q_HO792, Q_HO795, Q_HO798, Q_HO801, Q_HO804, Q_HO_3_e15, Q_HO_771006_e15, Q_HO807, Q_X17_⟩ hb_ hon hoff
         refine ⟨_, rfl, fun K hK => ?_⟩
         have e29 : a.tmps[29]? = some (.int .i64 a0_3) := by rw [ha]; exact putSel_on (e := (3, 29, .int .i64 a0_3)) 1 rfl rfl (hon 3 (by kernel_rfl)) rfl
         replace ha := Aside0.mk ha
         have HO789 := Aside0.mk (Q_HO789 (hoff 15 (by kernel_rfl)))
         have HO_3 := Aside0.mk (Q_HO_3 (hoff 15 (by kernel_rfl)))
         have HO_771006 := Aside0.mk (Q_HO_771006 (hoff 15 (by kernel_rfl)))
         have BK770 := Aside0.mk Q_BK770
         have HB := Aside0.mk Q_HB
         refine value_ (w1 := w') (v := .int .u8 ((a0_3) % 256)) (by rfl) rfl ?_ ?_
         · go_simp
           (try simp only [i64_w])
           try rfl
         refine hK.out _ _ ⟨v791, v794, v797, v800, v803, v806, m17_, (by rw [ha.out]; exact putSel_upk 2 hb_ rfl rfl rfl), Q_HO789, Q_HO_3, Q_HO_771006, Q_BK770, Q_HB, Q_HO792, fun h0_ _ => absurd ((hoff 8 (by kernel_rfl)).symm.trans h0_) (by decide), Q_HO798, Q_HO801, fun h0_ => absurd ((hoff 15 (by kernel_rfl)).symm.trans h0_) (by decide), fun h0_ => absurd ((hoff 15 (by kernel_rfl)).symm.trans h0_) (by decide), fun h0_ => absurd ((hoff 15 (by kernel_rfl)).symm.trans h0_) (by decide), fun h0_ => absurd ((hoff 16 (by kernel_rfl)).symm.trans h0_) (by decide), fun h0_ => absurd ((hoff 17 (by kernel_rfl)).symm.trans h0_) (by decide)⟩
       refine steps_cons ?_ ?_
       · rintro b a w' ⟨v791, v794, v797, v800, v803, v806, m17_, ha, Q_HO789, Q_HO_3, Q_HO_771006, Q_BK770, Q_HB, Q_HO792, Q_HO795, Q_HO798, Q_HO801, Q_HO804, Q_HO_3_e15, Q_HO_771006_e15, Q_HO807, Q_X17_⟩ hb_ hon hoff
         refine ⟨_, rfl, fun K hK => ?_⟩
         have e31 : a.tmps[31]? = some (.pointer (some ⟨gb770, 2, none⟩)) := by rw [ha]; exact (putSel_off rfl).trans rfl
         replace ha := Aside0.mk ha
         have HO789 := Aside0.mk (Q_HO789 (hoff 15 (by kernel_rfl)))
         have HO_3 := Aside0.mk (Q_HO_3 (hoff 15 (by kernel_rfl)))
         have HO_771006 := Aside0.mk (Q_HO_771006 (hoff 15 (by kernel_rfl)))
         have BK770 := Aside0.mk Q_BK770
         have HB := Aside0.mk Q_HB
         have hc0_ : w'.cell? ⟨gb770, 0, none⟩ = some (.int .i64 a0_0) := (blk_cell BK770.out 0).trans rfl
         have hc1_ : w'.cell? ⟨gb770, 1, none⟩ = some (.int .i64 a0_1) := (blk_cell BK770.out 1).trans rfl
         have hc2_ : w'.cell? ⟨gb770, 2, none⟩ = some (.int .i64 a0_2) := (blk_cell BK770.out 2).trans rfl
         have hc3_ : w'.cell? ⟨gb770, 3, none⟩ = some (.int .i64 a0_3) := (blk_cell BK770.out 3).trans rfl
         have hc4_ : w'.cell? ⟨gb770, 4, none⟩ = some (.int .i64 a0_4) := (blk_cell BK770.out 4).trans rfl
         have hc5_ : w'.cell? ⟨gb770, 5, none⟩ = some (.int .i64 a0_5) := (blk_cell BK770.out 5).trans rfl
         have hc6_ : w'.cell? ⟨gb770, 6, none⟩ = some (.slice A0_6 l0_6.length c0_6) := (blk_cell BK770.out 6).trans rfl
         refine value_ (w1 := w') (v := .int .i64 a0_2) (by rfl) rfl ?_ ?_
         · go_simp
           (try simp only [i64_w])
           try rfl
         refine hK.out _ _ ⟨v791, v794, v797, v800, v803, v806, m17_, (by rw [ha.out]; exact putSel_upk 3 hb_ rfl rfl rfl), Q_HO789, Q_HO_3, Q_HO_771006, Q_BK770, Q_HB, Q_HO792, fun h0_ _ => absurd ((hoff 8 (by kernel_rfl)).symm.trans h0_) (by decide), Q_HO798, Q_HO801, fun h0_ => absurd ((hoff 15 (by kernel_rfl)).symm.trans h0_) (by decide), fun h0_ => absurd ((hoff 15 (by kernel_rfl)).symm.trans h0_) (by decide), fun h0_ => absurd ((hoff 15 (by kernel_rfl)).symm.trans h0_) (by decide), fun h0_ => absurd ((hoff 16 (by kernel_rfl)).symm.trans h0_) (by decide), fun h0_ => absurd ((hoff 17 (by kernel_rfl)).symm.trans h0_) (by decide)⟩
       refine steps_cons ?_ ?_
       · rintro b a w' ⟨v791, v794, v797, v800, v803, v806, m17_, ha, Q_HO789, Q_HO_3, Q_HO_771006, Q_BK770, Q_HB, Q_HO792, Q_HO795, Q_HO798, Q_HO801, Q_HO804, Q_HO_3_e15, Q_HO_771006_e15, Q_HO807, Q_X17_⟩ hb_ hon hoff
         refine ⟨_, rfl, fun K hK => ?_⟩
         have e32 : a.tmps[32]? = some (.int .i64 a0_2) := by rw [ha]; exact putSel_on (e := (6, 32, .int .i64 a0_2)) 3 rfl rfl (hon 6 (by kernel_rfl)) rfl
         replace ha := Aside0.mk ha
         have HO789 := Aside0.mk (Q_HO789 (hoff 15 (by kernel_rfl)))
         have HO_3 := Aside0.mk (Q_HO_3 (hoff 15 (by kernel_rfl)))
         have HO_771006 := Aside0.mk (Q_HO_771006 (hoff 15 (by kernel_rfl)))
         have BK770 := Aside0.mk Q_BK770
         have HB := Aside0.mk Q_HB
         refine value_ (w1 := w') (v := .int .u8 ((a0_2) % 256)) (by rfl) rfl ?_ ?_
         · go_simp
           (try simp only [i64_w])
           try rfl
         refine hK.out _ _ ⟨v791, v794, v797, v800, v803, v806, m17_, (by rw [ha.out]; exact putSel_upk 4 hb_ rfl rfl rfl), Q_HO789, Q_HO_3, Q_HO_771006, Q_BK770, Q_HB, Q_HO792, fun h0_ _ => absurd ((hoff 8 (by kernel_rfl)).symm.trans h0_) (by decide), Q_HO798, Q_HO801, fun h0_ => absurd ((hoff 15 (by kernel_rfl)).symm.trans h0_) (by decide), fun h0_ => absurd ((hoff 15 (by kernel_rfl)).symm.trans h0_) (by decide), fun h0_ => absurd ((hoff 15 (by kernel_rfl)).symm.trans h0_) (by decide), fun h0_ => absurd ((hoff 16 (by kernel_rfl)).symm.trans h0_) (by decide), fun h0_ => absurd ((hoff 17 (by kernel_rfl)).symm.trans h0_) (by decide)⟩
       refine steps_cons ?_ ?_
       · rintro b a w' ⟨v791, v794, v797, v800, v803, v806, m17_, ha, Q_HO789, Q_HO_3, Q_HO_771006, Q_BK770, Q_HB, Q_HO792, Q_HO795, Q_HO798, Q_HO801, Q_HO804, Q_HO_3_e15, Q_HO_771006_e15, Q_HO807, Q_X17_⟩ hb_ hon hoff
         refine ⟨_, rfl, fun K hK => ?_⟩
         have e30 : a.tmps[30]? = some (.int .u8 ((a0_3) % 256)) := by rw [ha]; exact putSel_on (e := (4, 30, .int .u8 ((a0_3) % 256))) 2 rfl rfl (hon 4 (by kernel_rfl)) rfl
         have e33 : a.tmps[33]? = some (.int .u8 ((a0_2) % 256)) := by rw [ha]; exact putSel_on (e := (7, 33, .int .u8 ((a0_2) % 256))) 4 rfl rfl (hon 7 (by kernel_rfl)) rfl
         replace ha := Aside0.mk ha
         have HO789 := Aside0.mk (Q_HO789 (hoff 15 (by kernel_rfl)))
         have HO_3 := Aside0.mk (Q_HO_3 (hoff 15 (by kernel_rfl)))
         have HO_771006 := Aside0.mk (Q_HO_771006 (hoff 15 (by kernel_rfl)))
         have BK770 := Aside0.mk Q_BK770
         have HB := Aside0.mk Q_HB
         refine Kd.R_lit_step (Kd.int .u8) _ 5 ?hg (N := 34) ?hd (xs := ([0, 0, 64, 0, (a0_3) % 256, (a0_2) % 256, 0, 0] : List Int)) (inner := [.int .u8 0, .int .u8 0, .int .u8 64, .int .u8 0, .int .u8 ((a0_3) % 256), .int .u8 ((a0_2) % 256), .int .u8 0, .int .u8 0]) (ok := fun _ => True) (okp := fun _ => True) ?hr ?hp (fun _ hk => by first | exact hk | exact impl_build.anyk) trivial (Below.refl _ _) (Nat.le_refl _) (by simp) ?_; (case hd => rfl); (case hg => rfl); (case hr => first | (go_simp; done) | (go_simp; rfl)); (case hp => exact (Reps.one (show Kd.M (Kd.int .u8) _ _ _ 0 [.int .u8 0] from rfl) (Reps.one (show Kd.M (Kd.int .u8) _ _ _ 0 [.int .u8 0] from rfl) (Reps.one (show Kd.M (Kd.int .u8) _ _ _ 64 [.int .u8 64] from rfl) (Reps.one (show Kd.M (Kd.int .u8) _ _ _ 0 [.int .u8 0] from rfl) (Reps.one (show Kd.M (Kd.int .u8) _ _ _ ((a0_3) % 256) [.int .u8 ((a0_3) % 256)] from rfl) (Reps.one (show Kd.M (Kd.int .u8) _ _ _ ((a0_2) % 256) [.int .u8 ((a0_2) % 256)] from rfl) (Reps.one (show Kd.M (Kd.int .u8) _ _ _ 0 [.int .u8 0] from rfl) (Reps.one (show Kd.M (Kd.int .u8) _ _ _ 0 [.int .u8 0] from rfl) (Reps.none _ _))))))))))
         intro v794 w33 ho34 hb hg_ hnew_
         clear hg_ hnew_
         (first | rw [← Ny793.out] at ho34 | (simp only [Int.reduceToNat] at ho34; rw [← Ny793.out] at ho34))
         have n0_ := Aside0.mk (Kd.R_elder' (by (with_reducible repeat (first | apply Kd.R_alloc | apply Kd.R_drewN | apply Kd.R_drew)); exact (by first | exact HO_3.out | exact Kd.R_mono HO_3.out (fun _ hk => impl_build.anyk) | exact Kd.V_mono HO_3.out (fun _ hk => impl_build.anyk) | exact Kd.N_mono HO_3.out (fun _ hk => impl_build.anyk))) (Kd.R_base ho34) hb); have n1_ := Aside0.mk (Kd.V_elder' (by (with_reducible repeat (first | apply Kd.V_alloc | apply Kd.V_drewN | apply Kd.V_drew)); exact (by first | exact HO_771006.out | exact Kd.R_mono HO_771006.out (fun _ hk => impl_build.anyk) | exact Kd.V_mono HO_771006.out (fun _ hk => impl_build.anyk) | exact Kd.N_mono HO_771006.out (fun _ hk => impl_build.anyk))) (Kd.R_base ho34) hb); have n2_ := Aside0.mk (Kd.R_elder' (by (with_reducible repeat (first | apply Kd.R_alloc | apply Kd.R_drewN | apply Kd.R_drew)); exact (by first | exact HO789.out | exact Kd.R_mono HO789.out (fun _ hk => impl_build.anyk) | exact Kd.V_mono HO789.out (fun _ hk => impl_build.anyk) | exact Kd.N_mono HO789.out (fun _ hk => impl_build.anyk))) (Kd.R_base ho34) hb); have n3_ := Aside0.mk (Kd.R_lower (Kd.R_new' (Kd.R_new' (Kd.R_newM (M := fun k_ => (w.heap.size ≤ k_)) ho34 (below_size pb) (fun k_ h_ => h_)) (Kd.R_lt (by (with_reducible repeat (first | apply Kd.R_alloc | apply Kd.R_drewN | apply Kd.R_drew)); exact (by first | exact HO_3.out | exact Kd.R_mono HO_3.out (fun _ hk => impl_build.anyk) | exact Kd.V_mono HO_3.out (fun _ hk => impl_build.anyk) | exact Kd.N_mono HO_3.out (fun _ hk => impl_build.anyk))))) (Kd.R_lt (by (with_reducible repeat (first | apply Kd.R_alloc | apply Kd.R_drewN | apply Kd.R_drew)); exact (by first | exact HO789.out | exact Kd.R_mono HO789.out (fun _ hk => impl_build.anyk) | exact Kd.V_mono HO789.out (fun _ hk => impl_build.anyk) | exact Kd.N_mono HO789.out (fun _ hk => impl_build.anyk))))) (below_size pb)); have n4_ := Aside0.mk (blk_below (up BK770.out) hb); have n5_ := Aside0.mk (below_step pb hb)
         have z_HO792 := fun (h0_ : b 0 = true) (h1_ : b 15 = false) => (show Kd.R (Kd.int .u8) 5 w33 w.heap.size (fun k_ => (w.heap.size ≤ k_) ∧ some k_ ≠ (v788 : Value).ownBlock ∧ some k_ ≠ (.slice Ao29 x3_2.length co29 : Value).ownBlock) v791 y790 from by first | exact (Kd.R_elder' (by (with_reducible repeat (first | apply Kd.R_alloc | apply Kd.R_drewN | apply Kd.R_drew)); exact (Q_HO792 h0_ h1_)) (Kd.R_base ho34) hb) | exact Kd.R_mono (Kd.R_elder' (by (with_reducible repeat (first | apply Kd.R_alloc | apply Kd.R_drewN | apply Kd.R_drew)); exact (Q_HO792 h0_ h1_)) (Kd.R_base ho34) hb) (fun _ h_ => by first | trivial | exact h_ | exact h_.1))
         have z_HO798 := fun (h0_ : b 11 = true) (h1_ : b 15 = false) => (show Kd.R (Kd.int .u8) 5 w33 w.heap.size (fun k_ => (w.heap.size ≤ k_) ∧ some k_ ≠ (v788 : Value).ownBlock ∧ some k_ ≠ (.slice Ao29 x3_2.length co29 : Value).ownBlock) v797 t796 from by first | exact (Kd.R_elder' (by (with_reducible repeat (first | apply Kd.R_alloc | apply Kd.R_drewN | apply Kd.R_drew)); exact (Q_HO798 h0_ h1_)) (Kd.R_base ho34) hb) | exact Kd.R_mono (Kd.R_elder' (by (with_reducible repeat (first | apply Kd.R_alloc | apply Kd.R_drewN | apply Kd.R_drew)); exact (Q_HO798 h0_ h1_)) (Kd.R_base ho34) hb) (fun _ h_ => by first | trivial | exact h_ | exact h_.1))
         have z_HO801 := fun (h0_ : b 14 = true) (h1_ : b 15 = false) => (show Kd.R (Kd.int .u8) 5 w33 w.heap.size (fun k_ => (w.heap.size ≤ k_) ∧ some k_ ≠ (v788 : Value).ownBlock ∧ some k_ ≠ (.slice Ao29 x3_2.length co29 : Value).ownBlock) v800 t799 from by first | exact (Kd.R_elder' (by (with_reducible repeat (first | apply Kd.R_alloc | apply Kd.R_drewN | apply Kd.R_drew)); exact (Q_HO801 h0_ h1_)) (Kd.R_base ho34) hb) | exact Kd.R_mono (Kd.R_elder' (by (with_reducible repeat (first | apply Kd.R_alloc | apply Kd.R_drewN | apply Kd.R_drew)); exact (Q_HO801 h0_ h1_)) (Kd.R_base ho34) hb) (fun _ h_ => by first | trivial | exact h_ | exact h_.1))
         clear HO_3
         clear HO_771006
         clear HO789
         clear BK770
         clear HB
         have HO_3 := n0_
         have HO_771006 := n1_
         have HO789 := n2_
         have HO795 := n3_
         have BK770 := n4_
         have HB := n5_
         clear n0_ n1_ n2_ n3_ n4_ n5_
         clear hb ho34
         refine hK.out _ _ ⟨v791, v794, v797, v800, v803, v806, m17_, (by rw [ha.out]; exact putSel_upk 5 hb_ rfl rfl rfl), fun _ => (by (with_reducible repeat (first | apply Kd.R_alloc | apply Kd.R_drewN | apply Kd.R_drew)); exact Kd.R_mono HO789.out (fun _ hk => by first | exact ⟨hk.1.1.1, ⟨hk.2, hk.1.2⟩⟩ | exact impl_build.anyk)), fun _ => (by (with_reducible repeat (first | apply Kd.R_alloc | apply Kd.R_drewN | apply Kd.R_drew)); exact Kd.R_mono HO_3.out (fun _ hk => by first | exact ⟨hk.1.1, ⟨hk.1.2, hk.2⟩⟩ | exact impl_build.anyk)), fun _ => (by (with_reducible repeat (first | apply Kd.V_alloc | apply Kd.V_drewN | apply Kd.V_drew)); exact Kd.V_mono HO_771006.out (fun _ hk => by first | exact ⟨hk.1.1.1, ⟨hk.1.2, ⟨hk.2, ⟨hk.1.1.2.1, hk.1.1.2.2⟩⟩⟩⟩ | exact impl_build.anyk)), (up BK770.out), pb, z_HO792, fun _ _ => (by (with_reducible repeat (first | apply Kd.R_alloc | apply Kd.R_drewN | apply Kd.R_drew)); exact Kd.R_mono HO795.out (fun _ hk => by first | exact ⟨hk.1.1.1, ⟨hk.2, hk.1.2⟩⟩ | exact impl_build.anyk)), z_HO798, z_HO801, fun h0_ => absurd ((hoff 15 (by kernel_rfl)).symm.trans h0_) (by decide), fun h0_ => absurd ((hoff 15 (by kernel_rfl)).symm.trans h0_) (by decide), fun h0_ => absurd ((hoff 15 (by kernel_rfl)).symm.trans h0_) (by decide), fun h0_ => absurd ((hoff 16 (by kernel_rfl)).symm.trans h0_) (by decide), fun h0_ => absurd ((hoff 17 (by kernel_rfl)).symm.trans h0_) (by decide)⟩
       refine steps_cons ?_ ?_
       · rintro b a w' ⟨v791, v794, v797, v800, v803, v806, m17_, ha, Q_HO789, Q_HO_3, Q_HO_771006, Q_BK770, Q_HB, Q_HO792, Q_HO795, Q_HO798, Q_HO801, Q_HO804, Q_HO_3_e15, Q_HO_771006_e15, Q_HO807, Q_X17_⟩ hb_ hon hoff
         refine ⟨_, rfl, fun K hK => ?_⟩
         have e35 : a.tmps[35]? = some (.pointer (some ⟨gb770, 0, none⟩)) := by rw [ha]; exact (putSel_off rfl).trans rfl
         replace ha := Aside0.mk ha
         have HO789 := Aside0.mk (Q_HO789 (hoff 15 (by kernel_rfl)))
         have HO_3 := Aside0.mk (Q_HO_3 (hoff 15 (by kernel_rfl)))
         have HO_771006 := Aside0.mk (Q_HO_771006 (hoff 15 (by kernel_rfl)))
         have BK770 := Aside0.mk Q_BK770
         have HB := Aside0.mk Q_HB
         have hc0_ : w'.cell? ⟨gb770, 0, none⟩ = some (.int .i64 a0_0) := (blk_cell BK770.out 0).trans rfl
         have hc1_ : w'.cell? ⟨gb770, 1, none⟩ = some (.int .i64 a0_1) := (blk_cell BK770.out 1).trans rfl
         have hc2_ : w'.cell? ⟨gb770, 2, none⟩ = some (.int .i64 a0_2) := (blk_cell BK770.out 2).trans rfl
         have hc3_ : w'.cell? ⟨gb770, 3, none⟩ = some (.int .i64 a0_3) := (blk_cell BK770.out 3).trans rfl
         have hc4_ : w'.cell? ⟨gb770, 4, none⟩ = some (.int .i64 a0_4) := (blk_cell BK770.out 4).trans rfl
         have hc5_ : w'.cell? ⟨gb770, 5, none⟩ = some (.int .i64 a0_5) := (blk_cell BK770.out 5).trans rfl
         have hc6_ : w'.cell? ⟨gb770, 6, none⟩ = some (.slice A0_6 l0_6.length c0_6) := (blk_cell BK770.out 6).trans rfl
         refine value_ (w1 := w') (v := .int .i64 a0_0) (by rfl) rfl ?_ ?_
         · go_simp
           (try simp only [i64_w])
           try rfl
         refine hK.out _ _ ⟨v791, v794, v797, v800, v803, v806, m17_, (by rw [ha.out]; exact putSel_upk 6 hb_ rfl rfl rfl), Q_HO789, Q_HO_3, Q_HO_771006, Q_BK770, Q_HB, Q_HO792, Q_HO795, fun h0_ _ => absurd ((hoff 11 (by kernel_rfl)).symm.trans h0_) (by decide), fun h0_ _ => absurd ((hoff 14 (by kernel_rfl)).symm.trans h0_) (by decide), fun h0_ => absurd ((hoff 15 (by kernel_rfl)).symm.trans h0_) (by decide), fun h0_ => absurd ((hoff 15 (by kernel_rfl)).symm.trans h0_) (by decide), fun h0_ => absurd ((hoff 15 (by kernel_rfl)).symm.trans h0_) (by decide), fun h0_ => absurd ((hoff 16 (by kernel_rfl)).symm.trans h0_) (by decide), fun h0_ => absurd ((hoff 17 (by kernel_rfl)).symm.trans h0_) (by decide)⟩
       refine steps_cons ?_ ?_
       · rintro b a w' ⟨v791, v794, v797, v800, v803, v806, m17_, ha, Q_HO789, Q_HO_3, Q_HO_771006, Q_BK770, Q_HB, Q_HO792, Q_HO795, Q_HO798, Q_HO801, Q_HO804, Q_HO_3_e15, Q_HO_771006_e15, Q_HO807, Q_X17_⟩ hb_ hon hoff
         refine ⟨_, rfl, fun K hK => ?_⟩
         have e36 : a.tmps[36]? = some (.int .i64 a0_0) := by rw [ha]; exact putSel_on (e := (10, 36, .int .i64 a0_0)) 6 rfl rfl (hon 10 (by kernel_rfl)) rfl
         replace ha := Aside0.mk ha
         have HO789 := Aside0.mk (Q_HO789 (hoff 15 (by kernel_rfl)))
         have HO_3 := Aside0.mk (Q_HO_3 (hoff 15 (by kernel_rfl)))
         have HO_771006 := Aside0.mk (Q_HO_771006 (hoff 15 (by kernel_rfl)))
         have BK770 := Aside0.mk Q_BK770
         have HB := Aside0.mk Q_HB
         refine goes_ Try.func62 (by kernel_rfl) rfl #[.int .i64 a0_0, .int .i64 4] (by rfl) rfl rfl (by first | (simp only [List.map_toArray, List.map_cons, List.map_nil, Act.eval, Array.getD_eq_getD_getElem?, Option.getD_some, e36]; done) | (simp only [List.map_toArray, List.map_cons, List.map_nil, Act.eval, Array.getD_eq_getD_getElem?, Option.getD_some, e36]; rfl)) ?_
         with_reducible refine (impl_put.calls kj2 a0_0 4 t796 _ A22.out).mono ?_
         rintro e w33 ⟨v797, rfl, ho0, hb⟩
         refine ⟨_, rfl, ?_⟩
         have n0_ := Aside0.mk (Kd.R_elder' (by (with_reducible repeat (first | apply Kd.R_alloc | apply Kd.R_drewN | apply Kd.R_drew)); exact (by first | exact HO_3.out | exact Kd.R_mono HO_3.out (fun _ hk => impl_build.anyk) | exact Kd.V_mono HO_3.out (fun _ hk => impl_build.anyk) | exact Kd.N_mono HO_3.out (fun _ hk => impl_build.anyk))) (Kd.R_base ho0) hb); have n1_ := Aside0.mk (Kd.V_elder' (by (with_reducible repeat (first | apply Kd.V_alloc | apply Kd.V_drewN | apply Kd.V_drew)); exact (by first | exact HO_771006.out | exact Kd.R_mono HO_771006.out (fun _ hk => impl_build.anyk) | exact Kd.V_mono HO_771006.out (fun _ hk => impl_build.anyk) | exact Kd.N_mono HO_771006.out (fun _ hk => impl_build.anyk))) (Kd.R_base ho0) hb); have n2_ := Aside0.mk (Kd.R_elder' (by (with_reducible repeat (first | apply Kd.R_alloc | apply Kd.R_drewN | apply Kd.R_drew)); exact (by first | exact HO789.out | exact Kd.R_mono HO789.out (fun _ hk => impl_build.anyk) | exact Kd.V_mono HO789.out (fun _ hk => impl_build.anyk) | exact Kd.N_mono HO789.out (fun _ hk => impl_build.anyk))) (Kd.R_base ho0) hb); have n3_ := Aside0.mk (Kd.R_lower (Kd.R_new' (Kd.R_new' (Kd.R_newM (M := fun k_ => (w.heap.size ≤ k_)) ho0 (below_size pb) (fun k_ h_ => h_)) (Kd.R_lt (by (with_reducible repeat (first | apply Kd.R_alloc | apply Kd.R_drewN | apply Kd.R_drew)); exact (by first | exact HO_3.out | exact Kd.R_mono HO_3.out (fun _ hk => impl_build.anyk) | exact Kd.V_mono HO_3.out (fun _ hk => impl_build.anyk) | exact Kd.N_mono HO_3.out (fun _ hk => impl_build.anyk))))) (Kd.R_lt (by (with_reducible repeat (first | apply Kd.R_alloc | apply Kd.R_drewN | apply Kd.R_drew)); exact (by first | exact HO789.out | exact Kd.R_mono HO789.out (fun _ hk => impl_build.anyk) | exact Kd.V_mono HO789.out (fun _ hk => impl_build.anyk) | exact Kd.N_mono HO789.out (fun _ hk => impl_build.anyk))))) (below_size pb)); have n4_ := Aside0.mk (blk_below (up BK770.out) hb); have n5_ := Aside0.mk (below_step pb hb)
         have z_HO792 := fun (h0_ : b 0 = true) (h1_ : b 15 = false) => (show Kd.R (Kd.int .u8) 5 w33 w.heap.size (fun k_ => (w.heap.size ≤ k_) ∧ some k_ ≠ (v788 : Value).ownBlock ∧ some k_ ≠ (.slice Ao29 x3_2.length co29 : Value).ownBlock) v791 y790 from by first | exact (Kd.R_elder' (by (with_reducible repeat (first | apply Kd.R_alloc | apply Kd.R_drewN | apply Kd.R_drew)); exact (Q_HO792 h0_ h1_)) (Kd.R_base ho0) hb) | exact Kd.R_mono (Kd.R_elder' (by (with_reducible repeat (first | apply Kd.R_alloc | apply Kd.R_drewN | apply Kd.R_drew)); exact (Q_HO792 h0_ h1_)) (Kd.R_base ho0) hb) (fun _ h_ => by first | trivial | exact h_ | exact h_.1))
         have z_HO795 := fun (h0_ : b 8 = true) (h1_ : b 15 = false) => (show Kd.R (Kd.int .u8) 5 w33 w.heap.size (fun k_ => (w.heap.size ≤ k_) ∧ some k_ ≠ (v788 : Value).ownBlock ∧ some k_ ≠ (.slice Ao29 x3_2.length co29 : Value).ownBlock) v794 y793 from by first | exact (Kd.R_elder' (by (with_reducible repeat (first | apply Kd.R_alloc | apply Kd.R_drewN | apply Kd.R_drew)); exact (Q_HO795 h0_ h1_)) (Kd.R_base ho0) hb) | exact Kd.R_mono (Kd.R_elder' (by (with_reducible repeat (first | apply Kd.R_alloc | apply Kd.R_drewN | apply Kd.R_drew)); exact (Q_HO795 h0_ h1_)) (Kd.R_base ho0) hb) (fun _ h_ => by first | trivial | exact h_ | exact h_.1))
         clear HO_3
         clear HO_771006
         clear HO789
         clear BK770
         clear HB
         have HO_3 := n0_
         have HO_771006 := n1_
         have HO789 := n2_
         have HO798 := n3_
         have BK770 := n4_
         have HB := n5_
         clear n0_ n1_ n2_ n3_ n4_ n5_
         (try clear hb)
         (try clear hb2)
         (try clear hk)
         (try clear hi)
         (try clear ho0)
         refine hK.out _ _ ⟨v791, v794, v797, v800, v803, v806, m17_, (by rw [ha.out]; exact putSel_upk 7 hb_ rfl rfl rfl), fun _ => (by (with_reducible repeat (first | apply Kd.R_alloc | apply Kd.R_drewN | apply Kd.R_drew)); exact Kd.R_mono HO789.out (fun _ hk => by first | exact ⟨hk.1.1.1, ⟨hk.2, hk.1.2⟩⟩ | exact impl_build.anyk)), fun _ => (by (with_reducible repeat (first | apply Kd.R_alloc | apply Kd.R_drewN | apply Kd.R_drew)); exact Kd.R_mono HO_3.out (fun _ hk => by first | exact ⟨hk.1.1, ⟨hk.1.2, hk.2⟩⟩ | exact impl_build.anyk)), fun _ => (by (with_reducible repeat (first | apply Kd.V_alloc | apply Kd.V_drewN | apply Kd.V_drew)); exact Kd.V_mono HO_771006.out (fun _ hk => by first | exact ⟨hk.1.1.1, ⟨hk.1.2, ⟨hk.2, ⟨hk.1.1.2.1, hk.1.1.2.2⟩⟩⟩⟩ | exact impl_build.anyk)), (up BK770.out), pb, z_HO792, z_HO795, fun _ _ => (by (with_reducible repeat (first | apply Kd.R_alloc | apply Kd.R_drewN | apply Kd.R_drew)); exact Kd.R_mono HO798.out (fun _ hk => by first | exact ⟨hk.1.1.1, ⟨hk.2, hk.1.2⟩⟩ | exact impl_build.anyk)), fun h0_ _ => absurd ((hoff 14 (by kernel_rfl)).symm.trans h0_) (by decide), fun h0_ => absurd ((hoff 15 (by kernel_rfl)).symm.trans h0_) (by decide), fun h0_ => absurd ((hoff 15 (by kernel_rfl)).symm.trans h0_) (by decide), fun h0_ => absurd ((hoff 15 (by kernel_rfl)).symm.trans h0_) (by decide), fun h0_ => absurd ((hoff 16 (by kernel_rfl)).symm.trans h0_) (by decide), fun h0_ => absurd ((hoff 17 (by kernel_rfl)).symm.trans h0_) (by decide)⟩
       refine steps_cons ?_ ?_
       · rintro b a w' ⟨v791, v794, v797, v800, v803, v806, m17_, ha, Q_HO789, Q_HO_3, Q_HO_771006, Q_BK770, Q_HB, Q_HO792, Q_HO795, Q_HO798, Q_HO801, Q_HO804, Q_HO_3_e15, Q_HO_771006_e15, Q_HO807, Q_X17_⟩ hb_ hon hoff
         refine ⟨_, rfl, fun K hK => ?_⟩
         have e38 : a.tmps[38]? = some (.pointer (some ⟨gb770, 1, none⟩)) := by rw [ha]; exact (putSel_off rfl).trans rfl
         replace ha := Aside0.mk ha
         have HO789 := Aside0.mk (Q_HO789 (hoff 15 (by kernel_rfl)))
         have HO_3 := Aside0.mk (Q_HO_3 (hoff 15 (by kernel_rfl)))
         have HO_771006 := Aside0.mk (Q_HO_771006 (hoff 15 (by kernel_rfl)))
         have BK770 := Aside0.mk Q_BK770
         have HB := Aside0.mk Q_HB
         have hc0_ : w'.cell? ⟨gb770, 0, none⟩ = some (.int .i64 a0_0) := (blk_cell BK770.out 0).trans rfl
         have hc1_ : w'.cell? ⟨gb770, 1, none⟩ = some (.int .i64 a0_1) := (blk_cell BK770.out 1).trans rfl
         have hc2_ : w'.cell? ⟨gb770, 2, none⟩ = some (.int .i64 a0_2) := (blk_cell BK770.out 2).trans rfl
         have hc3_ : w'.cell? ⟨gb770, 3, none⟩ = some (.int .i64 a0_3) := (blk_cell BK770.out 3).trans rfl
         have hc4_ : w'.cell? ⟨gb770, 4, none⟩ = some (.int .i64 a0_4) := (blk_cell BK770.out 4).trans rfl
         have hc5_ : w'.cell? ⟨gb770, 5, none⟩ = some (.int .i64 a0_5) := (blk_cell BK770.out 5).trans rfl
         have hc6_ : w'.cell? ⟨gb770, 6, none⟩ = some (.slice A0_6 l0_6.length c0_6) := (blk_cell BK770.out 6).trans rfl
         refine value_ (w1 := w') (v := .int .i64 a0_1) (by rfl) rfl ?_ ?_
         · go_simp
           (try simp only [i64_w])
           try rfl
         refine hK.out _ _ ⟨v791, v794, v797, v800, v803, v806, m17_, (by rw [ha.out]; exact putSel_upk 8 hb_ rfl rfl rfl), Q_HO789, Q_HO_3, Q_HO_771006, Q_BK770, Q_HB, Q_HO792, Q_HO795, Q_HO798, fun h0_ _ => absurd ((hoff 14 (by kernel_rfl)).symm.trans h0_) (by decide), fun h0_ => absurd ((hoff 15 (by kernel_rfl)).symm.trans h0_) (by decide), fun h0_ => absurd ((hoff 15 (by kernel_rfl)).symm.trans h0_) (by decide), fun h0_ => absurd ((hoff 15 (by kernel_rfl)).symm.trans h0_) (by decide), fun h0_ => absurd ((hoff 16 (by kernel_rfl)).symm.trans h0_) (by decide), fun h0_ => absurd ((hoff 17 (by kernel_rfl)).symm.trans h0_) (by decide)⟩
       refine steps_cons ?_ ?_
       · rintro b a w' ⟨v791, v794, v797, v800, v803, v806, m17_, ha, Q_HO789, Q_HO_3, Q_HO_771006, Q_BK770, Q_HB, Q_HO792, Q_HO795, Q_HO798, Q_HO801, Q_HO804, Q_HO_3_e15, Q_HO_771006_e15, Q_HO807, Q_X17_⟩ hb_ hon hoff
         refine ⟨_, rfl, fun K hK => ?_⟩
         have e39 : a.tmps[39]? = some (.int .i64 a0_1) := by rw [ha]; exact putSel_on (e := (13, 39, .int .i64 a0_1)) 8 rfl rfl (hon 13 (by kernel_rfl)) rfl
         replace ha := Aside0.mk ha
         have HO789 := Aside0.mk (Q_HO789 (hoff 15 (by kernel_rfl)))
         have HO_3 := Aside0.mk (Q_HO_3 (hoff 15 (by kernel_rfl)))
         have HO_771006 := Aside0.mk (Q_HO_771006 (hoff 15 (by kernel_rfl)))
         have BK770 := Aside0.mk Q_BK770
         have HB := Aside0.mk Q_HB
         have HO798 := Aside0.mk (Q_HO798 (hon 11 (by kernel_rfl)) (hoff 15 (by kernel_rfl)))
         refine goes_ Try.func62 (by kernel_rfl) rfl #[.int .i64 a0_1, .int .i64 4] (by rfl) rfl rfl (by first | (simp only [List.map_toArray, List.map_cons, List.map_nil, Act.eval, Array.getD_eq_getD_getElem?, Option.getD_some, e39]; done) | (simp only [List.map_toArray, List.map_cons, List.map_nil, Act.eval, Array.getD_eq_getD_getElem?, Option.getD_some, e39]; rfl)) ?_
         with_reducible refine (impl_put.calls kj2 a0_1 4 t799 _ A23.out).mono ?_
         rintro e w35 ⟨v800, rfl, ho0, hb⟩
         refine ⟨_, rfl, ?_⟩
         have n0_ := Aside0.mk (Kd.R_elder' (by (with_reducible repeat (first | apply Kd.R_alloc | apply Kd.R_drewN | apply Kd.R_drew)); exact (by first | exact HO_3.out | exact Kd.R_mono HO_3.out (fun _ hk => impl_build.anyk) | exact Kd.V_mono HO_3.out (fun _ hk => impl_build.anyk) | exact Kd.N_mono HO_3.out (fun _ hk => impl_build.anyk))) (Kd.R_base ho0) hb); have n1_ := Aside0.mk (Kd.V_elder' (by (with_reducible repeat (first | apply Kd.V_alloc | apply Kd.V_drewN | apply Kd.V_drew)); exact (by first | exact HO_771006.out | exact Kd.R_mono HO_771006.out (fun _ hk => impl_build.anyk) | exact Kd.V_mono HO_771006.out (fun _ hk => impl_build.anyk) | exact Kd.N_mono HO_771006.out (fun _ hk => impl_build.anyk))) (Kd.R_base ho0) hb); have n2_ := Aside0.mk (Kd.R_elder' (by (with_reducible repeat (first | apply Kd.R_alloc | apply Kd.R_drewN | apply Kd.R_drew)); exact (by first | exact HO789.out | exact Kd.R_mono HO789.out (fun _ hk => impl_build.anyk) | exact Kd.V_mono HO789.out (fun _ hk => impl_build.anyk) | exact Kd.N_mono HO789.out (fun _ hk => impl_build.anyk))) (Kd.R_base ho0) hb); have n3_ := Aside0.mk (Kd.R_elder' (by (with_reducible repeat (first | apply Kd.R_alloc | apply Kd.R_drewN | apply Kd.R_drew)); exact (by first | exact HO798.out | exact Kd.R_mono HO798.out (fun _ hk => impl_build.anyk) | exact Kd.V_mono HO798.out (fun _ hk => impl_build.anyk) | exact Kd.N_mono HO798.out (fun _ hk => impl_build.anyk))) (Kd.R_base ho0) hb); have n4_ := Aside0.mk (Kd.R_lower (Kd.R_new' (Kd.R_new' (Kd.R_new' (Kd.R_newM (M := fun k_ => (w.heap.size ≤ k_)) ho0 (below_size pb) (fun k_ h_ => h_)) (Kd.R_lt (by (with_reducible repeat (first | apply Kd.R_alloc | apply Kd.R_drewN | apply Kd.R_drew)); exact (by first | exact HO_3.out | exact Kd.R_mono HO_3.out (fun _ hk => impl_build.anyk) | exact Kd.V_mono HO_3.out (fun _ hk => impl_build.anyk) | exact Kd.N_mono HO_3.out (fun _ hk => impl_build.anyk))))) (Kd.R_lt (by (with_reducible repeat (first | apply Kd.R_alloc | apply Kd.R_drewN | apply Kd.R_drew)); exact (by first | exact HO789.out | exact Kd.R_mono HO789.out (fun _ hk => impl_build.anyk) | exact Kd.V_mono HO789.out (fun _ hk => impl_build.anyk) | exact Kd.N_mono HO789.out (fun _ hk => impl_build.anyk))))) (Kd.R_lt (by (with_reducible repeat (first | apply Kd.R_alloc | apply Kd.R_drewN | apply Kd.R_drew)); exact (by first | exact HO798.out | exact Kd.R_mono HO798.out (fun _ hk => impl_build.anyk) | exact Kd.V_mono HO798.out (fun _ hk => impl_build.anyk) | exact Kd.N_mono HO798.out (fun _ hk => impl_build.anyk))))) (below_size pb)); have n5_ := Aside0.mk (blk_below (up BK770.out) hb); have n6_ := Aside0.mk (below_step pb hb)
         have z_HO792 := fun (h0_ : b 0 = true) (h1_ : b 15 = false) => (show Kd.R (Kd.int .u8) 5 w35 w.heap.size (fun k_ => (w.heap.size ≤ k_) ∧ some k_ ≠ (v788 : Value).ownBlock ∧ some k_ ≠ (.slice Ao29 x3_2.length co29 : Value).ownBlock) v791 y790 from by first | exact (Kd.R_elder' (by (with_reducible repeat (first | apply Kd.R_alloc | apply Kd.R_drewN | apply Kd.R_drew)); exact (Q_HO792 h0_ h1_)) (Kd.R_base ho0) hb) | exact Kd.R_mono (Kd.R_elder' (by (with_reducible repeat (first | apply Kd.R_alloc | apply Kd.R_drewN | apply Kd.R_drew)); exact (Q_HO792 h0_ h1_)) (Kd.R_base ho0) hb) (fun _ h_ => by first | trivial | exact h_ | exact h_.1))
         have z_HO795 := fun (h0_ : b 8 = true) (h1_ : b 15 = false) => (show Kd.R (Kd.int .u8) 5 w35 w.heap.size (fun k_ => (w.heap.size ≤ k_) ∧ some k_ ≠ (v788 : Value).ownBlock ∧ some k_ ≠ (.slice Ao29 x3_2.length co29 : Value).ownBlock) v794 y793 from by first | exact (Kd.R_elder' (by (with_reducible repeat (first | apply Kd.R_alloc | apply Kd.R_drewN | apply Kd.R_drew)); exact (Q_HO795 h0_ h1_)) (Kd.R_base ho0) hb) | exact Kd.R_mono (Kd.R_elder' (by (with_reducible repeat (first | apply Kd.R_alloc | apply Kd.R_drewN | apply Kd.R_drew)); exact (Q_HO795 h0_ h1_)) (Kd.R_base ho0) hb) (fun _ h_ => by first | trivial | exact h_ | exact h_.1))
         clear HO_3
         clear HO_771006
         clear HO789
         clear HO798
         clear BK770
         clear HB
         have HO_3 := n0_
         have HO_771006 := n1_
         have HO789 := n2_
         have HO798 := n3_
         have HO801 := n4_
         have BK770 := n5_
         have HB := n6_
         clear n0_ n1_ n2_ n3_ n4_ n5_ n6_
         (try clear hb)
         (try clear hb2)
         (try clear hk)
         (try clear hi)
         (try clear ho0)
         refine hK.out _ _ ⟨v791, v794, v797, v800, v803, v806, m17_, (by rw [ha.out]; exact putSel_upk 9 hb_ rfl rfl rfl), fun _ => (by (with_reducible repeat (first | apply Kd.R_alloc | apply Kd.R_drewN | apply Kd.R_drew)); exact Kd.R_mono HO789.out (fun _ hk => by first | exact ⟨hk.1.1, ⟨hk.1.2.1, ⟨hk.2, hk.1.2.2⟩⟩⟩ | exact impl_build.anyk)), fun _ => (by (with_reducible repeat (first | apply Kd.R_alloc | apply Kd.R_drewN | apply Kd.R_drew)); exact Kd.R_mono HO_3.out (fun _ hk => by first | exact ⟨hk.1.1, ⟨hk.1.2.1, ⟨hk.1.2.2, hk.2⟩⟩⟩ | exact impl_build.anyk)), fun _ => (by (with_reducible repeat (first | apply Kd.V_alloc | apply Kd.V_drewN | apply Kd.V_drew)); exact Kd.V_mono HO_771006.out (fun _ hk => by first | exact ⟨hk.1.1, ⟨hk.1.2.1, ⟨hk.1.2.2.1, ⟨hk.2, ⟨hk.1.2.2.2.1, hk.1.2.2.2.2⟩⟩⟩⟩⟩ | exact impl_build.anyk)), (up BK770.out), pb, z_HO792, z_HO795, fun _ _ => (by (with_reducible repeat (first | apply Kd.R_alloc | apply Kd.R_drewN | apply Kd.R_drew)); exact Kd.R_mono HO798.out (fun _ hk => by first | exact ⟨hk.1.1, ⟨hk.1.2.1, ⟨hk.2, hk.1.2.2⟩⟩⟩ | exact impl_build.anyk)), fun _ _ => (by (with_reducible repeat (first | apply Kd.R_alloc | apply Kd.R_drewN | apply Kd.R_drew)); exact Kd.R_mono HO801.out (fun _ hk => by first | exact ⟨hk.1.1.1.1, ⟨hk.1.2, ⟨hk.2, hk.1.1.2⟩⟩⟩ | exact impl_build.anyk)), fun h0_ => absurd ((hoff 15 (by kernel_rfl)).symm.trans h0_) (by decide), fun h0_ => absurd ((hoff 15 (by kernel_rfl)).symm.trans h0_) (by decide), fun h0_ => absurd ((hoff 15 (by kernel_rfl)).symm.trans h0_) (by decide), fun h0_ => absurd ((hoff 16 (by kernel_rfl)).symm.trans h0_) (by decide), fun h0_ => absurd ((hoff 17 (by kernel_rfl)).symm.trans h0_) (by decide)⟩
       refine steps_cons ?_ ?_
       · rintro b a w' ⟨v791, v794, v797, v800, v803, v806, m17_, ha, Q_HO789, Q_HO_3, Q_HO_771006, Q_BK770, Q_HB, Q_HO792, Q_HO795, Q_HO798, Q_HO801, Q_HO804, Q_HO_3_e15, Q_HO_771006_e15, Q_HO807, Q_X17_⟩ hb_ hon hoff
         refine ⟨_, rfl, fun K hK => ?_⟩
         have e26 : a.tmps[26]? = some (v791) := by rw [ha]; exact putSel_on (e := (0, 26, v791)) 0 rfl rfl (hon 0 (by kernel_rfl)) rfl
         have e27 : a.tmps[27]? = some (v788) := by rw [ha]; exact (putSel_off rfl).trans rfl
         have e34 : a.tmps[34]? = some (v794) := by rw [ha]; exact putSel_on (e := (8, 34, v794)) 5 rfl rfl (hon 8 (by kernel_rfl)) rfl
         have e37 : a.tmps[37]? = some (v797) := by rw [ha]; exact putSel_on (e := (11, 37, v797)) 7 rfl rfl (hon 11 (by kernel_rfl)) rfl
         have e40 : a.tmps[40]? = some (v800) := by rw [ha]; exact putSel_on (e := (14, 40, v800)) 9 rfl rfl (hon 14 (by kernel_rfl)) rfl
         replace ha := Aside0.mk ha
         have HO789 := Aside0.mk (Q_HO789 hb_)
         have HO_3 := Aside0.mk (Q_HO_3 hb_)
         have HO_771006 := Aside0.mk (Q_HO_771006 hb_)
         have BK770 := Aside0.mk Q_BK770
         have HB := Aside0.mk Q_HB
         have HO792 := Aside0.mk (Q_HO792 (hon 0 (by kernel_rfl)) hb_)
         have HO795 := Aside0.mk (Q_HO795 (hon 8 (by kernel_rfl)) hb_)
         have HO798 := Aside0.mk (Q_HO798 (hon 11 (by kernel_rfl)) hb_)
         have HO801 := Aside0.mk (Q_HO801 (hon 14 (by kernel_rfl)) hb_)
         obtain ⟨Ao40, co40, eo40⟩ := Kd.R_slice HO792.out
         (first | subst eo40 | (injection eo40 with f1_ f2_ f3_; have f4_ := f1_.symm; have f5_ := f3_.symm; clear f1_ f2_ f3_; subst f4_; subst f5_))
         obtain ⟨Ao41, co41, eo41⟩ := Kd.R_slice HO789.out
         (first | subst eo41 | (injection eo41 with f1_ f2_ f3_; have f4_ := f1_.symm; have f5_ := f3_.symm; clear f1_ f2_ f3_; subst f4_; subst f5_))
         obtain ⟨Ao42, co42, eo42⟩ := Kd.R_slice HO795.out
         (first | subst eo42 | (injection eo42 with f1_ f2_ f3_; have f4_ := f1_.symm; have f5_ := f3_.symm; clear f1_ f2_ f3_; subst f4_; subst f5_))
         obtain ⟨Ao43, co43, eo43⟩ := Kd.R_slice HO798.out
         (first | subst eo43 | (injection eo43 with f1_ f2_ f3_; have f4_ := f1_.symm; have f5_ := f3_.symm; clear f1_ f2_ f3_; subst f4_; subst f5_))
         obtain ⟨Ao44, co44, eo44⟩ := Kd.R_slice HO801.out
         (first | subst eo44 | (injection eo44 with f1_ f2_ f3_; have f4_ := f1_.symm; have f5_ := f3_.symm; clear f1_ f2_ f3_; subst f4_; subst f5_))
         refine Kd.N_lit_step (Kd.slice 5 (Kd.int .u8)) _ 22 ?hg (N' := 41) ?hd (xs := ([y790, t787, y793, t796, t799] : List (List Int))) (inner := [.slice Ao40 y790.length co40, .slice Ao41 t787.length co41, .slice Ao42 y793.length co42, .slice Ao43 t796.length co43, .slice Ao44 t799.length co44]) (ok := (fun k_ => (P0_6_ k_ ∨ w.heap.size ≤ k_) ∧ some k_ ≠ (.slice Ao29 x3_2.length co29 : Value).ownBlock ∧ k_ ≠ gb770)) (okp := (fun k_ => (P0_6_ k_ ∨ w.heap.size ≤ k_) ∧ some k_ ≠ (.slice Ao29 x3_2.length co29 : Value).ownBlock ∧ k_ ≠ gb770)) ?hr ?hp (fun _ hk => by first | exact hk | exact impl_build.anyk) ((show ∀ k_, w'.heap.size ≤ k_ → (fun k_ => (P0_6_ k_ ∨ w.heap.size ≤ k_) ∧ some k_ ≠ (.slice Ao29 x3_2.length co29 : Value).ownBlock ∧ k_ ≠ gb770) k_ from fun k_ hk => ⟨(.inr (Nat.le_trans (below_size pb) hk)), Kd.fresh' (Kd.R_lt (by (with_reducible repeat (first | apply Kd.R_alloc | apply Kd.R_drewN | apply Kd.R_drew)); exact (by first | exact HO_3.out | exact Kd.R_mono HO_3.out (fun _ hk => impl_build.anyk) | exact Kd.V_mono HO_3.out (fun _ hk => impl_build.anyk) | exact Kd.N_mono HO_3.out (fun _ hk => impl_build.anyk)))) k_ hk, Kd.freshB (g := gb770) (o := .cells #[.int .i64 a0_0, .int .i64 a0_1, .int .i64 a0_2, .int .i64 a0_3, .int .i64 a0_4, .int .i64 a0_5, .slice A0_6 l0_6.length c0_6] 53 (0, 0)) (up BK770.out) k_ hk⟩) _ (Nat.le_refl _)) (Below.refl _ _) (Nat.le_refl _) (by simp) ?_; (case hd => rfl); (case hg => rfl); (case hr => first | (go_simp; done) | (go_simp; rfl)); (case hp => exact (Reps.one (show Kd.FK (Kd.slice 5 (Kd.int .u8)) _ _ y790 [.slice Ao40 y790.length co40] from (Kd.FK_slice_mk (Kd.R_reads' (Kd.R_mono (ok' := (fun k_ => (P0_6_ k_ ∨ w.heap.size ≤ k_) ∧ some k_ ≠ (.slice Ao29 x3_2.length co29 : Value).ownBlock ∧ k_ ≠ gb770)) (Kd.R_types (HO792.out) BK770.out (by decide)) (fun k_ hk => by first | exact ⟨(.inr (hk.1.1)), ⟨hk.1.2.2.2.2.2, hk.2⟩⟩ | exact impl_build.anyk))).2.1 (Kd.R_F (Kd.R_mono (ok' := (fun k_ => (P0_6_ k_ ∨ w.heap.size ≤ k_) ∧ some k_ ≠ (.slice Ao29 x3_2.length co29 : Value).ownBlock ∧ k_ ≠ gb770)) (Kd.R_types (HO792.out) BK770.out (by decide)) (fun k_ hk => by first | exact ⟨(.inr (hk.1.1)), ⟨hk.1.2.2.2.2.2, hk.2⟩⟩ | exact impl_build.anyk))))) (Reps.one (show Kd.FK (Kd.slice 5 (Kd.int .u8)) _ _ t787 [.slice Ao41 t787.length co41] from (Kd.FK_slice_mk (Kd.R_reads' (Kd.R_mono (ok' := (fun k_ => (P0_6_ k_ ∨ w.heap.size ≤ k_) ∧ some k_ ≠ (.slice Ao29 x3_2.length co29 : Value).ownBlock ∧ k_ ≠ gb770)) (Kd.R_types (HO789.out) BK770.out (by decide)) (fun k_ hk => by first | exact ⟨(.inr (hk.1.1)), ⟨hk.1.2.2.2.2.2, hk.2⟩⟩ | exact impl_build.anyk))).2.1 (Kd.R_F (Kd.R_mono (ok' := (fun k_ => (P0_6_ k_ ∨ w.heap.size ≤ k_) ∧ some k_ ≠ (.slice Ao29 x3_2.length co29 : Value).ownBlock ∧ k_ ≠ gb770)) (Kd.R_types (HO789.out) BK770.out (by decide)) (fun k_ hk => by first | exact ⟨(.inr (hk.1.1)), ⟨hk.1.2.2.2.2.2, hk.2⟩⟩ | exact impl_build.anyk))))) (Reps.one (show Kd.FK (Kd.slice 5 (Kd.int .u8)) _ _ y793 [.slice Ao42 y793.length co42] from (Kd.FK_slice_mk (Kd.R_reads' (Kd.R_mono (ok' := (fun k_ => (P0_6_ k_ ∨ w.heap.size ≤ k_) ∧ some k_ ≠ (.slice Ao29 x3_2.length co29 : Value).ownBlock ∧ k_ ≠ gb770)) (Kd.R_types (HO795.out) BK770.out (by decide)) (fun k_ hk => by first | exact ⟨(.inr (hk.1.1)), ⟨hk.1.2.2.2.2.2, hk.2⟩⟩ | exact impl_build.anyk))).2.1 (Kd.R_F (Kd.R_mono (ok' := (fun k_ => (P0_6_ k_ ∨ w.heap.size ≤ k_) ∧ some k_ ≠ (.slice Ao29 x3_2.length co29 : Value).ownBlock ∧ k_ ≠ gb770)) (Kd.R_types (HO795.out) BK770.out (by decide)) (fun k_ hk => by first | exact ⟨(.inr (hk.1.1)), ⟨hk.1.2.2.2.2.2, hk.2⟩⟩ | exact impl_build.anyk))))) (Reps.one (show Kd.FK (Kd.slice 5 (Kd.int .u8)) _ _ t796 [.slice Ao43 t796.length co43] from (Kd.FK_slice_mk (Kd.R_reads' (Kd.R_mono (ok' := (fun k_ => (P0_6_ k_ ∨ w.heap.size ≤ k_) ∧ some k_ ≠ (.slice Ao29 x3_2.length co29 : Value).ownBlock ∧ k_ ≠ gb770)) (Kd.R_types (HO798.out) BK770.out (by decide)) (fun k_ hk => by first | exact ⟨(.inr (hk.1.1)), ⟨hk.1.2.2.2.2.2, hk.2⟩⟩ | exact impl_build.anyk))).2.1 (Kd.R_F (Kd.R_mono (ok' := (fun k_ => (P0_6_ k_ ∨ w.heap.size ≤ k_) ∧ some k_ ≠ (.slice Ao29 x3_2.length co29 : Value).ownBlock ∧ k_ ≠ gb770)) (Kd.R_types (HO798.out) BK770.out (by decide)) (fun k_ hk => by first | exact ⟨(.inr (hk.1.1)), ⟨hk.1.2.2.2.2.2, hk.2⟩⟩ | exact impl_build.anyk))))) (Reps.one (show Kd.FK (Kd.slice 5 (Kd.int .u8)) _ _ t799 [.slice Ao44 t799.length co44] from (Kd.FK_slice_mk (Kd.R_reads' (Kd.R_mono (ok' := (fun k_ => (P0_6_ k_ ∨ w.heap.size ≤ k_) ∧ some k_ ≠ (.slice Ao29 x3_2.length co29 : Value).ownBlock ∧ k_ ≠ gb770)) (Kd.R_types (HO801.out) BK770.out (by decide)) (fun k_ hk => by first | exact ⟨(.inr (hk.1.1)), ⟨hk.1.2.2.2.2.2, hk.2⟩⟩ | exact impl_build.anyk))).2.1 (Kd.R_F (Kd.R_mono (ok' := (fun k_ => (P0_6_ k_ ∨ w.heap.size ≤ k_) ∧ some k_ ≠ (.slice Ao29 x3_2.length co29 : Value).ownBlock ∧ k_ ≠ gb770)) (Kd.R_types (HO801.out) BK770.out (by decide)) (fun k_ hk => by first | exact ⟨(.inr (hk.1.1)), ⟨hk.1.2.2.2.2.2, hk.2⟩⟩ | exact impl_build.anyk))))) (Reps.none _ _)))))))
         intro v803 w45 ho46 hb hg_ hnew_
         clear hg_ hnew_
         (first | rw [← Ny802.out] at ho46 | (simp only [Int.reduceToNat] at ho46; rw [← Ny802.out] at ho46))
         have HO804 := Aside0.mk (Kd.N_lower ho46 (below_size pb)); replace HO_3 := Aside0.mk (Kd.R_below (by (with_reducible repeat (first | apply Kd.R_alloc | apply Kd.R_drewN | apply Kd.R_drew)); exact (by first | exact HO_3.out | exact Kd.R_mono HO_3.out (fun _ hk => impl_build.anyk) | exact Kd.V_mono HO_3.out (fun _ hk => impl_build.anyk) | exact Kd.N_mono HO_3.out (fun _ hk => impl_build.anyk))) hb); replace HO_771006 := Aside0.mk (Kd.V_elder' (by (with_reducible repeat (first | apply Kd.V_alloc | apply Kd.V_drewN | apply Kd.V_drew)); exact (by first | exact HO_771006.out | exact Kd.R_mono HO_771006.out (fun _ hk => impl_build.anyk) | exact Kd.V_mono HO_771006.out (fun _ hk => impl_build.anyk) | exact Kd.N_mono HO_771006.out (fun _ hk => impl_build.anyk))) (Kd.N_base ho46) hb); replace BK770 := Aside0.mk (blk_below (up BK770.out) hb); replace HB := Aside0.mk (below_step pb hb); clear HO789 HO792 HO795 HO798 HO801
         clear hb ho46
         refine hK.out _ _ ⟨.slice Ao40 y790.length co40, .slice Ao42 y793.length co42, .slice Ao43 t796.length co43, .slice Ao44 t799.length co44, v803, v806, m17_, (by rw [ha.out]; exact putSel_upk 10 hb_ rfl rfl rfl), fun h0_ => absurd ((up_self b 15).symm.trans h0_) (by decide), fun h0_ => absurd ((up_self b 15).symm.trans h0_) (by decide), fun h0_ => absurd ((up_self b 15).symm.trans h0_) (by decide), (up BK770.out), pb, fun _ h1_ => absurd ((up_self b 15).symm.trans h1_) (by decide), fun _ h1_ => absurd ((up_self b 15).symm.trans h1_) (by decide), fun _ h1_ => absurd ((up_self b 15).symm.trans h1_) (by decide), fun _ h1_ => absurd ((up_self b 15).symm.trans h1_) (by decide), fun _ => (by (with_reducible repeat (first | apply Kd.N_alloc | apply Kd.N_drewN | apply Kd.N_drew)); exact (by first | exact HO804.out | exact Kd.R_mono HO804.out (fun _ hk => impl_build.anyk) | exact Kd.V_mono HO804.out (fun _ hk => impl_build.anyk) | exact Kd.N_mono HO804.out (fun _ hk => impl_build.anyk))), fun _ => (by (with_reducible repeat (first | apply Kd.R_alloc | apply Kd.R_drewN | apply Kd.R_drew)); exact Kd.R_mono HO_3.out (fun _ hk => by first | exact hk.1 | exact impl_build.anyk)), fun _ => (by (with_reducible repeat (first | apply Kd.V_alloc | apply Kd.V_drewN | apply Kd.V_drew)); exact Kd.V_mono HO_771006.out (fun _ hk => by first | exact ⟨hk.1.1, ⟨hk.2, ⟨hk.1.2.2.2.2.2.2.1, hk.1.2.2.2.2.2.2.2⟩⟩⟩ | exact impl_build.anyk)), fun h0_ => absurd ((hoff 16 (by kernel_rfl)).symm.trans h0_) (by decide), fun h0_ => absurd ((hoff 17 (by kernel_rfl)).symm.trans h0_) (by decide)⟩
       refine steps_cons ?_ ?_
       · rintro b a w' ⟨v791, v794, v797, v800, v803, v806, m17_, ha, Q_HO789, Q_HO_3, Q_HO_771006, Q_BK770, Q_HB, Q_HO792, Q_HO795, Q_HO798, Q_HO801, Q_HO804, Q_HO_3_e15, Q_HO_771006_e15, Q_HO807, Q_X17_⟩ hb_ hon hoff
         refine ⟨_, rfl, fun K hK => ?_⟩
         have e41 : a.tmps[41]? = some (v803) := by rw [ha]; exact putSel_on (e := (15, 41, v803)) 10 rfl rfl (hon 15 (by kernel_rfl)) rfl
         replace ha := Aside0.mk ha
         have BK770 := Aside0.mk Q_BK770
         have HB := Aside0.mk Q_HB
         have HO804 := Aside0.mk (Q_HO804 (hon 15 (by kernel_rfl)))
         have HO_3 := Aside0.mk (Q_HO_3_e15 (hon 15 (by kernel_rfl)))
         have HO_771006 := Aside0.mk (Q_HO_771006_e15 (hon 15 (by kernel_rfl)))
         obtain ⟨Ao47, co47, eo47⟩ := Kd.N_slice HO804.out
         (first | subst eo47 | (injection eo47 with f1_ f2_ f3_; have f4_ := f1_.symm; have f5_ := f3_.symm; clear f1_ f2_ f3_; subst f4_; subst f5_))
         refine goes_ Try.func73 (by kernel_rfl) rfl #[.slice Ao47 y802.length co47] (by rfl) rfl rfl (by first | (simp only [List.map_toArray, List.map_cons, List.map_nil, Act.eval, Array.getD_eq_getD_getElem?, Option.getD_some, e41]; done) | (simp only [List.map_toArray, List.map_cons, List.map_nil, Act.eval, Array.getD_eq_getD_getElem?, Option.getD_some, e41]; rfl)) ?_
         with_reducible refine (slices_Concat_byte_byte.calls kj2 _ _ y802 t805 _ ?side1 ?side2 A24.out).mono ?_
         (case side1 => exact upC (Kd.N_reads' HO804.out).2.2)
         (case side2 => exact (Kd.N_reads' HO804.out).2.1)
         rintro e w48 ⟨v806, rfl, ho0, hb⟩
         refine ⟨_, rfl, ?_⟩
         have HO807 := Aside0.mk (Kd.R_lower (Kd.R_new' (Kd.R_newM (M := fun k_ => (w.heap.size ≤ k_)) ho0 (below_size pb) (fun k_ h_ => h_)) (Kd.R_lt (by (with_reducible repeat (first | apply Kd.R_alloc | apply Kd.R_drewN | apply Kd.R_drew)); exact (by first | exact HO_3.out | exact Kd.R_mono HO_3.out (fun _ hk => impl_build.anyk) | exact Kd.V_mono HO_3.out (fun _ hk => impl_build.anyk) | exact Kd.N_mono HO_3.out (fun _ hk => impl_build.anyk))))) (below_size pb)); replace HO_3 := Aside0.mk (Kd.R_elder' (by (with_reducible repeat (first | apply Kd.R_alloc | apply Kd.R_drewN | apply Kd.R_drew)); exact (by first | exact HO_3.out | exact Kd.R_mono HO_3.out (fun _ hk => impl_build.anyk) | exact Kd.V_mono HO_3.out (fun _ hk => impl_build.anyk) | exact Kd.N_mono HO_3.out (fun _ hk => impl_build.anyk))) (Kd.R_base ho0) hb); replace HO_771006 := Aside0.mk (Kd.V_elder' (by (with_reducible repeat (first | apply Kd.V_alloc | apply Kd.V_drewN | apply Kd.V_drew)); exact (by first | exact HO_771006.out | exact Kd.R_mono HO_771006.out (fun _ hk => impl_build.anyk) | exact Kd.V_mono HO_771006.out (fun _ hk => impl_build.anyk) | exact Kd.N_mono HO_771006.out (fun _ hk => impl_build.anyk))) (Kd.R_base ho0) hb); replace HO804 := Aside0.mk (Kd.N_elder' (by (with_reducible repeat (first | apply Kd.N_alloc | apply Kd.N_drewN | apply Kd.N_drew)); exact (by first | exact HO804.out | exact Kd.R_mono HO804.out (fun _ hk => impl_build.anyk) | exact Kd.V_mono HO804.out (fun _ hk => impl_build.anyk) | exact Kd.N_mono HO804.out (fun _ hk => impl_build.anyk))) (Kd.R_base ho0) hb); replace BK770 := Aside0.mk (blk_below (up BK770.out) hb); replace HB := Aside0.mk (below_step pb hb)
         (try clear hb)
         (try clear hb2)
         (try clear hk)
         (try clear hi)
         (try clear ho0)
         refine hK.out _ _ ⟨v791, v794, v797, v800, .slice Ao47 y802.length co47, v806, m17_, (by rw [ha.out]; exact putSel_upk 11 hb_ rfl rfl rfl), fun h0_ => absurd ((hon 15 (by kernel_rfl)).symm.trans h0_) (by decide), fun h0_ => absurd ((hon 15 (by kernel_rfl)).symm.trans h0_) (by decide), fun h0_ => absurd ((hon 15 (by kernel_rfl)).symm.trans h0_) (by decide), (up BK770.out), pb, fun _ h1_ => absurd ((hon 15 (by kernel_rfl)).symm.trans h1_) (by decide), fun _ h1_ => absurd ((hon 15 (by kernel_rfl)).symm.trans h1_) (by decide), fun _ h1_ => absurd ((hon 15 (by kernel_rfl)).symm.trans h1_) (by decide), fun _ h1_ => absurd ((hon 15 (by kernel_rfl)).symm.trans h1_) (by decide), fun _ => (by (with_reducible repeat (first | apply Kd.N_alloc | apply Kd.N_drewN | apply Kd.N_drew)); exact Kd.N_mono HO804.out (fun _ hk => by first | exact ⟨hk.1.1, ⟨hk.2, ⟨hk.1.2.1, hk.1.2.2⟩⟩⟩ | exact impl_build.anyk)), fun _ => (by (with_reducible repeat (first | apply Kd.R_alloc | apply Kd.R_drewN | apply Kd.R_drew)); exact (by first | exact HO_3.out | exact Kd.R_mono HO_3.out (fun _ hk => impl_build.anyk) | exact Kd.V_mono HO_3.out (fun _ hk => impl_build.anyk) | exact Kd.N_mono HO_3.out (fun _ hk => impl_build.anyk))), fun _ => (by (with_reducible repeat (first | apply Kd.V_alloc | apply Kd.V_drewN | apply Kd.V_drew)); exact Kd.V_mono HO_771006.out (fun _ hk => by first | exact ⟨hk.1.1, ⟨hk.1.2.1, ⟨hk.2, ⟨hk.1.2.2.1, hk.1.2.2.2⟩⟩⟩⟩ | exact impl_build.anyk)), fun _ => (by (with_reducible repeat (first | apply Kd.R_alloc | apply Kd.R_drewN | apply Kd.R_drew)); exact Kd.R_mono HO807.out (fun _ hk => by first | exact ⟨hk.1.1, hk.2⟩ | exact impl_build.anyk)), fun h0_ => absurd ((hoff 17 (by kernel_rfl)).symm.trans h0_) (by decide)⟩
       refine steps_cons ?_ ?_
       · rintro b a w' ⟨v791, v794, v797, v800, v803, v806, m17_, ha, Q_HO789, Q_HO_3, Q_HO_771006, Q_BK770, Q_HB, Q_HO792, Q_HO795, Q_HO798, Q_HO801, Q_HO804, Q_HO_3_e15, Q_HO_771006_e15, Q_HO807, Q_X17_⟩ hb_ hon hoff
         refine ⟨_, rfl, fun K hK => ?_⟩
         have e42 : a.tmps[42]? = some (v806) := by rw [ha]; exact putSel_on (e := (16, 42, v806)) 11 rfl rfl (hon 16 (by kernel_rfl)) rfl
         replace ha := Aside0.mk ha
         have BK770 := Aside0.mk Q_BK770
         have HB := Aside0.mk Q_HB
         have HO804 := Aside0.mk (Q_HO804 (hon 15 (by kernel_rfl)))
         have HO_3 := Aside0.mk (Q_HO_3_e15 (hon 15 (by kernel_rfl)))
         have HO_771006 := Aside0.mk (Q_HO_771006_e15 (hon 15 (by kernel_rfl)))
         have HO807 := Aside0.mk (Q_HO807 (hon 16 (by kernel_rfl)))
         refine value_ (w1 := w') (v := v806) (by rfl) rfl ?_ ?_
         · go_simp
           (try simp only [i64_w])
           try rfl
         refine hK.out _ _ ⟨v791, v794, v797, v800, v803, v806, (v806), (by rw [ha.out]; exact putSel_upk 12 hb_ rfl rfl rfl), fun h0_ => absurd ((hon 15 (by kernel_rfl)).symm.trans h0_) (by decide), fun h0_ => absurd ((hon 15 (by kernel_rfl)).symm.trans h0_) (by decide), fun h0_ => absurd ((hon 15 (by kernel_rfl)).symm.trans h0_) (by decide), Q_BK770, Q_HB, fun _ h1_ => absurd ((hon 15 (by kernel_rfl)).symm.trans h1_) (by decide), fun _ h1_ => absurd ((hon 15 (by kernel_rfl)).symm.trans h1_) (by decide), fun _ h1_ => absurd ((hon 15 (by kernel_rfl)).symm.trans h1_) (by decide), fun _ h1_ => absurd ((hon 15 (by kernel_rfl)).symm.trans h1_) (by decide), Q_HO804, Q_HO_3_e15, Q_HO_771006_e15, Q_HO807, fun _ => rfl⟩
       exact steps_nil
     rintro b a w48 hall ⟨v791, v794, v797, v800, v803, v806, m17_, ha, Q_HO789, Q_HO_3, Q_HO_771006, Q_BK770, Q_HB, Q_HO792, Q_HO795, Q_HO798, Q_HO801, Q_HO804, Q_HO_3_e15, Q_HO_771006_e15, Q_HO807, Q_X17_⟩
     clear BK770 HB HO789 HO_3 HO_771006
     have hb0_ := hall 0 (by kernel_rfl)
     have hb3_ := hall 3 (by kernel_rfl)
     have hb4_ := hall 4 (by kernel_rfl)
     have hb6_ := hall 6 (by kernel_rfl)
     have hb7_ := hall 7 (by kernel_rfl)
     have hb8_ := hall 8 (by kernel_rfl)
     have hb10_ := hall 10 (by kernel_rfl)
     have hb11_ := hall 11 (by kernel_rfl)
     have hb13_ := hall 13 (by kernel_rfl)
     have hb14_ := hall 14 (by kernel_rfl)
     have hb15_ := hall 15 (by kernel_rfl)
     have hb16_ := hall 16 (by kernel_rfl)
     have hb17_ := hall 17 (by kernel_rfl)
     subst ha
     obtain rfl := Q_X17_ hb17_
     simp only [putSel, hb0_, hb3_, hb4_, hb6_, hb7_, hb8_, hb10_, hb11_, hb13_, hb14_, hb15_, hb16_, hb17_, if_true, Act.put, List.setIfInBounds_toArray, List.set_cons_zero, List.set_cons_succ]
     clear Q_HO789
     clear Q_HO_3
     clear Q_HO_771006
     have BK770 := Aside0.mk Q_BK770
     clear Q_BK770
     have HB := Aside0.mk Q_HB
     clear Q_HB
     clear Q_HO792
     clear Q_HO795
     clear Q_HO798
     clear Q_HO801
     have HO804 := Aside0.mk (Kd.N_mono (ok' := fun k_ => (P0_6_ k_ ∨ w.heap.size ≤ k_) ∧ some k_ ≠ (.slice Ao29 x3_2.length co29 : Value).ownBlock ∧ some k_ ≠ (m17_ : Value).ownBlock ∧ k_ ≠ gb770) (Q_HO804 hb15_) (fun _ hk => by first | exact ⟨hk.1, hk.2.1, hk.2.2.2 hb16_, hk.2.2.1⟩ | exact impl_build.anyk))
     clear Q_HO804
     have HO_3 := Aside0.mk (Kd.R_mono (ok' := fun k_ => w.heap.size ≤ k_ ∧ some k_ ≠ (m17_ : Value).ownBlock) (Q_HO_3_e15 hb15_) (fun _ hk => by first | exact ⟨hk.1, hk.2 hb16_⟩ | exact impl_build.anyk))
     clear Q_HO_3_e15
     have HO_771006 := Aside0.mk (Kd.V_mono (ok' := fun k_ => (P0_6_ k_ ∨ w.heap.size ≤ k_) ∧ some k_ ≠ (.slice Ao29 x3_2.length co29 : Value).ownBlock ∧ some k_ ≠ (v803 : Value).ownBlock ∧ some k_ ≠ (m17_ : Value).ownBlock ∧ k_ ≠ gb770) (Q_HO_771006_e15 hb15_) (fun _ hk => by first | exact ⟨hk.1, hk.2.1, hk.2.2.2.1, hk.2.2.2.2 hb16_, hk.2.2.1⟩ | exact impl_build.anyk))
     clear Q_HO_771006_e15
     have HO807 := Aside0.mk (Q_HO807 hb16_)
     clear Q_HO807
     clear hall hb0_ hb3_ hb4_ hb6_ hb7_ hb8_ hb10_ hb11_ hb13_ hb14_ hb15_ hb16_ hb17_
     try go_wp2
     replace HO_3 := Aside0.mk (Kd.R_drew HO_3.out); replace HO_771006 := Aside0.mk (Kd.V_drew HO_771006.out); replace HO804 := Aside0.mk (Kd.N_drew HO804.out); replace HO807 := Aside0.mk (Kd.R_drew HO807.out); replace BK770 := Aside0.mk (blk_drew BK770.out); replace HB := Aside0.mk (below_drew1 HB.out)
     obtain ⟨Ao51, co51, eo51⟩ := Kd.R_slice HO807.out
     (first | subst eo51 | (injection eo51 with f1_ f2_ f3_; have f4_ := f1_.symm; have f5_ := f3_.symm; clear f1_ f2_ f3_; subst f4_; subst f5_))
     have q50 : (10 : Int) ≤ ((t805.length : Int) : Int) := of_decide_eq_true (by first | (with_reducible assumption) | assumption)
     obtain ⟨i050, hi050, _, hsz50, _⟩ := info_parts info5
     have hroom50 : t805.length ≤ co51 := (Kd.R_reads' HO807.out).2.1
     have hC50 : Kd.F (Kd.int .u8) _ _ Ao51 t805.length t805 := (Kd.V_at (base := w.heap.size) (Kd.V_mono (ok' := (fun k_ => ((((P0_6_ k_ ∨ w.heap.size ≤ k_) ∧ some k_ ≠ (.slice Ao29 x3_2.length co29 : Value).ownBlock) ∧ some k_ ≠ (v803 : Value).ownBlock) ∧ k_ ≠ gb770))) (Kd.R_V (Kd.R_types (Kd.R_apart' (HO807.out) (Kd.N_typed HO804.out) (by decide)) BK770.out (by decide))) (fun k_ hk => by first | exact ⟨⟨⟨(.inr (hk.1.1.1)), hk.1.1.2⟩, hk.1.2⟩, hk.2⟩ | exact impl_build.anyk))).2.2
     have hcut50 := cut_from (P := Try.prog) 22 5 .i64 Try.underlying22 hi050 1 hsz50 Ao51 t805.length co51 10 (by omega) q50
     have hr50 := Kd.F_cut (m := (10 : Int).toNat) (c := co51) hC50 (by omega) hroom50
     obtain ⟨A50, hA50⟩ : ∃ A1, A1 = (if co51 = (10 : Int).toNat then Ao51 else (Ao51 : Option Addr).map (·.add ((10 : Int).toNat * 1))) := ⟨_, rfl⟩
     obtain ⟨c50, hc50⟩ : ∃ c1, c1 = co51 - (10 : Int).toNat := ⟨_, rfl⟩
     have hy50 : y808.length = t805.length - (10 : Int).toNat := (by rw [Ny808.out, List.length_drop] <;> omega)
     rw [show (t805).drop (10 : Int).toNat = y808 from Ny808.out.symm] at hr50
     replace hr50 : Kd.F (Kd.int .u8) _ _ A50 y808.length y808 := (by rw [hA50]; exact hr50)
     rw [← hy50, ← hA50, ← hc50] at hcut50
     have HO812 := Aside0.mk (show Kd.V (Kd.int .u8) 5 _ w.heap.size _ (.slice A50 y808.length c50) y808 from Kd.V_mk (by rw [hy50, hc50]; exact Nat.sub_le_sub_right hroom50 _) hr50)
     have HC812 := Aside0.mk (show y808.length ≤ c50 from by rw [hy50, hc50]; exact Nat.sub_le_sub_right hroom50 _)
     clear hr50 hC50 hroom50 hi050 hsz50 hc50
     have KY50 := Aside0.mk hy50
     have KA50 := Aside0.mk hA50
     clear hy50 hA50
     replace q50 := eq_true q50
     refine start_ (n := 6) (S := fun w' => True) (ds := []) #[false, false, false, false, false, false] (by kernel_rfl) rfl rfl trivial (fun hHeld => ?_)
     generalize w48.drew = w49 at HO_3 HO_771006 HO804 HO807 BK770 HB HO812 hHeld ⊢
     refine pure_ (i := 0) (N := some 43) (v := ?_) (a' := ?_) #[true, false, false, false, false, false] rfl rfl (by kernel_rfl) (fun _ _ _ h => h) (Or.inl ⟨by rfl, ?_⟩) ?_ ?_
     rotate_left
     · intro w'
       go_simp
       with_reducible rfl
     rotate_left
     · simp only [Act.put, List.setIfInBounds_toArray, List.set_cons_zero, List.set_cons_succ, i64_w, i32_w]
       rfl
     refine pure_ (i := 1) (N := some 44) (v := ?_) (a' := ?_) #[true, true, false, false, false, false] rfl rfl (by kernel_rfl) (fun _ _ _ h => h) (Or.inl ⟨by rfl, ?_⟩) ?_ ?_
     rotate_left
     · intro w'
       go_simp
       with_reducible rfl
     rotate_left
     · simp only [Act.put, List.setIfInBounds_toArray, List.set_cons_zero, List.set_cons_succ, i64_w, i32_w]
       rfl
     refine pure_ (i := 2) (N := some 45) (v := ?_) (a' := ?_) #[true, true, true, false, false, false] rfl rfl (by kernel_rfl) (fun _ _ _ h => h) (Or.inl ⟨by rfl, ?_⟩) ?_ ?_
     rotate_left
     · intro w'
       go_simp
       with_reducible rfl
     rotate_left
     · simp only [Act.put, List.setIfInBounds_toArray, List.set_cons_zero, List.set_cons_succ, i64_w, i32_w]
       rfl
     refine one_ (i := 3) (N := some 46) #[true, true, true, true, false, false] rfl rfl (by kernel_rfl) (by decide) (fun K hK => ?_)
     refine goes_ Try.func113 (by kernel_rfl) rfl #[.slice Ao51 t805.length co51] (by rfl) rfl rfl (by (try simp only [List.map_toArray, List.map_cons, List.map_nil]); first | done | rfl | (simp only [List.length_drop, List.length_take]; rfl)) ?_
     with_reducible refine (impl_SumWords.calls kj2 _ _ t805 t813 _ ?side1 ?side2 A26.out).mono ?_
     (case side1 => exact upC (Kd.R_reads' HO807.out).2.2)
     (case side2 => exact (Kd.R_reads' HO807.out).2.1)
     rintro e w' ⟨rfl, ⟨nd, rfl⟩⟩
     refine ⟨_, rfl, ?_⟩
     refine hK.out _ _ trivial (fun hHeld => ?_)
     clear hK K
     refine norm_ (a' := ?_) ?_ ?_
     rotate_left
     · show Act.put _ (some 46) _ = _
       simp only [Act.put, List.setIfInBounds_toArray, List.set_cons_zero, List.set_cons_succ, i64_w, i32_w]
       rfl
     refine one_ (i := 4) (N := some 47) #[true, true, true, true, true, false] rfl rfl (by kernel_rfl) (by decide) (fun K hK => ?_)
     refine goes_ Try.func62 (by kernel_rfl) rfl #[.int .i64 t813, .int .i64 2] (by rfl) rfl rfl (by (try simp only [List.map_toArray, List.map_cons, List.map_nil]); first | done | rfl | (simp only [List.length_drop, List.length_take]; rfl)) ?_
     with_reducible refine (impl_put.calls kj2 t813 2 t814 _ A27.out).mono ?_
     rintro e w52 ⟨v815, rfl, ho0, hb⟩
     refine ⟨_, rfl, ?_⟩
     have HO816 := Aside0.mk (Kd.R_lower (Kd.R_new' (Kd.R_new' (Kd.R_newM (M := fun k_ => (w.heap.size ≤ k_)) ho0 (below_size pb) (fun k_ h_ => h_)) (Kd.R_lt (by (with_reducible repeat (first | apply Kd.R_alloc | apply Kd.R_drewN | apply Kd.R_drew)); exact (by first | exact HO_3.out | exact Kd.R_mono HO_3.out (fun _ hk => impl_build.anyk) | exact Kd.V_mono HO_3.out (fun _ hk => impl_build.anyk) | exact Kd.N_mono HO_3.out (fun _ hk => impl_build.anyk))))) (Kd.R_lt (by (with_reducible repeat (first | apply Kd.R_alloc | apply Kd.R_drewN | apply Kd.R_drew)); exact (by first | exact HO807.out | exact Kd.R_mono HO807.out (fun _ hk => impl_build.anyk) | exact Kd.V_mono HO807.out (fun _ hk => impl_build.anyk) | exact Kd.N_mono HO807.out (fun _ hk => impl_build.anyk))))) (below_size pb)); replace HO_3 := Aside0.mk (Kd.R_elder' (by (with_reducible repeat (first | apply Kd.R_alloc | apply Kd.R_drewN | apply Kd.R_drew)); exact (by first | exact HO_3.out | exact Kd.R_mono HO_3.out (fun _ hk => impl_build.anyk) | exact Kd.V_mono HO_3.out (fun _ hk => impl_build.anyk) | exact Kd.N_mono HO_3.out (fun _ hk => impl_build.anyk))) (Kd.R_base ho0) hb); replace HO_771006 := Aside0.mk (Kd.V_elder' (by (with_reducible repeat (first | apply Kd.V_alloc | apply Kd.V_drewN | apply Kd.V_drew)); exact (by first | exact HO_771006.out | exact Kd.R_mono HO_771006.out (fun _ hk => impl_build.anyk) | exact Kd.V_mono HO_771006.out (fun _ hk => impl_build.anyk) | exact Kd.N_mono HO_771006.out (fun _ hk => impl_build.anyk))) (Kd.R_base ho0) hb); replace HO804 := Aside0.mk (Kd.N_elder' (by (with_reducible repeat (first | apply Kd.N_alloc | apply Kd.N_drewN | apply Kd.N_drew)); exact (by first | exact HO804.out | exact Kd.R_mono HO804.out (fun _ hk => impl_build.anyk) | exact Kd.V_mono HO804.out (fun _ hk => impl_build.anyk) | exact Kd.N_mono HO804.out (fun _ hk => impl_build.anyk))) (Kd.R_base ho0) hb); replace HO807 := Aside0.mk (Kd.R_elder' (by (with_reducible repeat (first | apply Kd.R_alloc | apply Kd.R_drewN | apply Kd.R_drew)); exact (by first | exact HO807.out | exact Kd.R_mono HO807.out (fun _ hk => impl_build.anyk) | exact Kd.V_mono HO807.out (fun _ hk => impl_build.anyk) | exact Kd.N_mono HO807.out (fun _ hk => impl_build.anyk))) (Kd.R_base ho0) hb); replace HO812 := Aside0.mk (Kd.V_elder' (by (with_reducible repeat (first | apply Kd.V_alloc | apply Kd.V_drewN | apply Kd.V_drew)); exact (by first | exact HO812.out | exact Kd.R_mono HO812.out (fun _ hk => impl_build.anyk) | exact Kd.V_mono HO812.out (fun _ hk => impl_build.anyk) | exact Kd.N_mono HO812.out (fun _ hk => impl_build.anyk))) (Kd.R_base ho0) hb); replace BK770 := Aside0.mk (blk_below (up BK770.out) hb); replace HB := Aside0.mk (below_step pb hb)
     (try clear hb)
     (try clear hb2)
     (try clear hk)
     (try clear hi)
     (try clear ho0)
     obtain ⟨Ao55, co55, eo55⟩ := Kd.R_slice HO816.out
     (first | subst eo55 | (injection eo55 with f1_ f2_ f3_; have f4_ := f1_.symm; have f5_ := f3_.symm; clear f1_ f2_ f3_; subst f4_; subst f5_))
     have n_ := Aside0.mk (Kd.R_mono (ok' := (fun k_ => (w.heap.size ≤ k_) ∧ some k_ ≠ (.slice Ao29 x3_2.length co29 : Value).ownBlock ∧ some k_ ≠ (.slice Ao55 t814.length co55 : Value).ownBlock)) HO807.out (fun k_ hk => by first | exact ⟨hk.1.1, ⟨hk.1.2, hk.2⟩⟩ | exact impl_build.anyk))
     clear HO807
     have HO807 := n_
     clear n_
     refine hK.out _ _ trivial (fun hHeld => ?_)
     clear hK K
     refine norm_ (a' := ?_) ?_ ?_
     rotate_left
     · show Act.put _ (some 47) _ = _
       simp only [Act.put, List.setIfInBounds_toArray, List.set_cons_zero, List.set_cons_succ, i64_w, i32_w]
       rfl
     refine one_ (i := 5) (N := some 48) #[true, true, true, true, true, true] rfl rfl (by kernel_rfl) (by decide) (fun K hK => ?_)
     refine R_copyin_step (w0 := w) w.heap.size (by rfl) (.tmp 44) (.tmp 47) 22 5 rfl Try.underlying22 (by kernel_rfl) (n := t805.length) (c := co51) (k := 10) (ys := t814) rfl rfl ?hA ?hm (by (with_reducible repeat (first | apply Kd.R_alloc | apply Kd.R_drewN | apply Kd.R_drew)); exact (by first | exact HO807.out | exact Kd.R_mono HO807.out (fun _ hk => impl_build.anyk) | exact Kd.V_mono HO807.out (fun _ hk => impl_build.anyk) | exact Kd.N_mono HO807.out (fun _ hk => impl_build.anyk))) ?hk ((Kd.R_reads' (by (with_reducible repeat (first | apply Kd.R_alloc | apply Kd.R_drewN | apply Kd.R_drew)); exact (by first | exact HO816.out | exact Kd.R_mono HO816.out (fun _ hk => impl_build.anyk) | exact Kd.V_mono HO816.out (fun _ hk => impl_build.anyk) | exact Kd.N_mono HO816.out (fun _ hk => impl_build.anyk)))).2.2) pb (below_size pb) ?_
     (case hA => have ha_ := KA50.out; first | exact ha_ | (simpa using ha_))
     (case hm => have ha_ := KY50.out; first | exact ha_ | omega)
     (case hk => first | omega | (have ha_ : (10 : Int) ≤ (t805.length : Int) := of_decide_eq_true (by first | (with_reducible assumption) | assumption); omega) | (have ha_ := KL50.out; omega))
     intro w53 ho hb hg
     rw [← Ny817.out] at ho
     have hn_ : t805.length = y817.length := (by have := (Kd.R_reads' ho).1; omega)
     rw [hn_] at ho ⊢
     clear hn_
     replace HO_3 := Aside0.mk (Kd.R_after (v := (.slice Ao51 t805.length co51)) (v1 := (.slice Ao51 y817.length co51)) (ok := (fun k_ => (w.heap.size ≤ k_) ∧ some k_ ≠ (.slice Ao55 t814.length co55 : Value).ownBlock)) (by (with_reducible repeat (first | apply Kd.R_alloc | apply Kd.R_drewN | apply Kd.R_drew)); exact Kd.R_mono HO_3.out (fun _ hk => by first | exact ⟨⟨hk.1.1, hk.2⟩, hk.1.2⟩ | exact impl_build.anyk)) hg (.inl (by generalize (Ao51 : Option Addr) = z_; cases z_ <;> rfl))); replace HO_771006 := Aside0.mk (Kd.V_afterv (v := (.slice Ao51 t805.length co51)) (v1 := (.slice Ao51 y817.length co51)) (ok := (fun k_ => (P0_6_ k_ ∨ w.heap.size ≤ k_) ∧ some k_ ≠ (.slice Ao29 x3_2.length co29 : Value).ownBlock ∧ some k_ ≠ (v803 : Value).ownBlock ∧ some k_ ≠ (.slice Ao55 t814.length co55 : Value).ownBlock ∧ k_ ≠ gb770)) (by (with_reducible repeat (first | apply Kd.V_alloc | apply Kd.V_drewN | apply Kd.V_drew)); exact Kd.V_mono HO_771006.out (fun _ hk => by first | exact ⟨⟨hk.1.1, ⟨hk.1.2.2.2.1, ⟨hk.1.2.1, ⟨hk.2, hk.1.2.2.2.2⟩⟩⟩⟩, hk.1.2.2.1⟩ | exact impl_build.anyk)) hg (.inl (by generalize (Ao51 : Option Addr) = z_; cases z_ <;> rfl))); replace BK770 := Aside0.mk (blk_grown (g := gb770) (o := .cells #[.int .i64 a0_0, .int .i64 a0_1, .int .i64 a0_2, .int .i64 a0_3, .int .i64 a0_4, .int .i64 a0_5, .slice A0_6 l0_6.length c0_6] 53 (0, 0)) (up BK770.out) hg (Kd.R_ne HO807.out BK770.out (by decide))); replace HO804 := Aside0.mk (Kd.N_afterv (v := (.slice Ao51 t805.length co51)) (v1 := (.slice Ao51 y817.length co51)) (ok := (fun k_ => (P0_6_ k_ ∨ w.heap.size ≤ k_) ∧ some k_ ≠ (.slice Ao29 x3_2.length co29 : Value).ownBlock ∧ some k_ ≠ (.slice Ao55 t814.length co55 : Value).ownBlock ∧ k_ ≠ gb770)) (by (with_reducible repeat (first | apply Kd.N_alloc | apply Kd.N_drewN | apply Kd.N_drew)); exact Kd.N_mono HO804.out (fun _ hk => by first | exact ⟨⟨hk.1.1, ⟨hk.1.2.2.1, ⟨hk.2, hk.1.2.2.2⟩⟩⟩, hk.1.2.1⟩ | exact impl_build.anyk)) hg (.inl (by generalize (Ao51 : Option Addr) = z_; cases z_ <;> rfl))); replace HO807 := Aside0.mk (ho); replace HO816 := Aside0.mk (Kd.R_after (v := (.slice Ao51 t805.length co51)) (v1 := (.slice Ao51 y817.length co51)) (ok := (fun k_ => (w.heap.size ≤ k_) ∧ some k_ ≠ (.slice Ao29 x3_2.length co29 : Value).ownBlock)) (by (with_reducible repeat (first | apply Kd.R_alloc | apply Kd.R_drewN | apply Kd.R_drew)); exact Kd.R_mono HO816.out (fun _ hk => by first | exact ⟨⟨hk.1.1.1, hk.1.2⟩, hk.2⟩ | exact impl_build.anyk)) hg (.inl (by generalize (Ao51 : Option Addr) = z_; cases z_ <;> rfl))); replace HB := Aside0.mk (hb)
     clear ho hb hg
     refine hK.out _ _ trivial (fun hHeld => ?_)
     clear hK K
     refine norm_ (a' := ?_) ?_ ?_
     rotate_left
     · show Act.put _ (some 48) _ = _
       simp only [Act.put, List.setIfInBounds_toArray, List.set_cons_zero, List.set_cons_succ, i64_w, i32_w]
       rfl
     refine done_ (by kernel_rfl) ?_
     have hcz56_0 : w53.cell? ⟨gb770, 0, none⟩ = some (.int .i64 a0_0) := (blk_cell BK770.out 0).trans rfl
     have hcz56_1 : w53.cell? ⟨gb770, 1, none⟩ = some (.int .i64 a0_1) := (blk_cell BK770.out 1).trans rfl
     have hcz56_2 : w53.cell? ⟨gb770, 2, none⟩ = some (.int .i64 a0_2) := (blk_cell BK770.out 2).trans rfl
     have hcz56_3 : w53.cell? ⟨gb770, 3, none⟩ = some (.int .i64 a0_3) := (blk_cell BK770.out 3).trans rfl
     have hcz56_4 : w53.cell? ⟨gb770, 4, none⟩ = some (.int .i64 a0_4) := (blk_cell BK770.out 4).trans rfl
     have hcz56_5 : w53.cell? ⟨gb770, 5, none⟩ = some (.int .i64 a0_5) := (blk_cell BK770.out 5).trans rfl
     have hcz56_6 : w53.cell? ⟨gb770, 6, none⟩ = some (.slice A0_6 l0_6.length c0_6) := (blk_cell BK770.out 6).trans rfl
     have hfz56_0 := blk_frozen BK770.out 0
     have hfz56_1 := blk_frozen BK770.out 1
     have hfz56_2 := blk_frozen BK770.out 2
     have hfz56_3 := blk_frozen BK770.out 3
     have hfz56_4 := blk_frozen BK770.out 4
     have hfz56_5 := blk_frozen BK770.out 5
     have hfz56_6 := blk_frozen BK770.out 6
     try go_wp2_with (first | ((with_reducible refine gate_dst (N := 53) rfl ?_); refine Kd.N_lit (Kd.slice 5 (Kd.int .u8)) _ 22 ?hg (N' := 53) ?hd (xs := ([y817, x3_2, l0_6] : List (List Int))) (inner := [.slice Ao51 y817.length co51, .slice Ao29 x3_2.length co29, .slice A0_6 l0_6.length c0_6]) (ok := (fun k_ => (P0_6_ k_ ∨ w.heap.size ≤ k_) ∧ some k_ ≠ (v803 : Value).ownBlock ∧ some k_ ≠ (.slice Ao55 t814.length co55 : Value).ownBlock ∧ k_ ≠ gb770)) (okp := (fun k_ => (P0_6_ k_ ∨ w.heap.size ≤ k_) ∧ some k_ ≠ (v803 : Value).ownBlock ∧ some k_ ≠ (.slice Ao55 t814.length co55 : Value).ownBlock ∧ k_ ≠ gb770)) ?hr ?hp (fun _ hk => by first | exact hk | exact impl_build.anyk) ((show ∀ k_, w53.heap.size ≤ k_ → (fun k_ => (P0_6_ k_ ∨ w.heap.size ≤ k_) ∧ some k_ ≠ (v803 : Value).ownBlock ∧ some k_ ≠ (.slice Ao55 t814.length co55 : Value).ownBlock ∧ k_ ≠ gb770) k_ from fun k_ hk => ⟨(.inr (Nat.le_trans (below_size pb) hk)), Kd.fresh' (Kd.N_lt (by (with_reducible repeat (first | apply Kd.N_alloc | apply Kd.N_drewN | apply Kd.N_drew)); exact (by first | exact HO804.out | exact Kd.R_mono HO804.out (fun _ hk => impl_build.anyk) | exact Kd.V_mono HO804.out (fun _ hk => impl_build.anyk) | exact Kd.N_mono HO804.out (fun _ hk => impl_build.anyk)))) k_ hk, Kd.fresh' (Kd.R_lt (by (with_reducible repeat (first | apply Kd.R_alloc | apply Kd.R_drewN | apply Kd.R_drew)); exact (by first | exact HO816.out | exact Kd.R_mono HO816.out (fun _ hk => impl_build.anyk) | exact Kd.V_mono HO816.out (fun _ hk => impl_build.anyk) | exact Kd.N_mono HO816.out (fun _ hk => impl_build.anyk)))) k_ hk, Kd.freshB (g := gb770) (o := .cells #[.int .i64 a0_0, .int .i64 a0_1, .int .i64 a0_2, .int .i64 a0_3, .int .i64 a0_4, .int .i64 a0_5, .slice A0_6 l0_6.length c0_6] 53 (0, 0)) (up BK770.out) k_ hk⟩) _ (Nat.le_refl _)) (Below.refl _ _) (Nat.le_refl _) (by simp) ?_; (case hd => rfl); (case hg => rfl); (case hr => first | (go_simp; done) | (go_simp; rfl)); (case hp => exact (Reps.one (show Kd.FK (Kd.slice 5 (Kd.int .u8)) _ _ y817 [.slice Ao51 y817.length co51] from (Kd.FK_slice_mk (Kd.R_reads' (Kd.R_mono (ok' := (fun k_ => (P0_6_ k_ ∨ w.heap.size ≤ k_) ∧ some k_ ≠ (v803 : Value).ownBlock ∧ some k_ ≠ (.slice Ao55 t814.length co55 : Value).ownBlock ∧ k_ ≠ gb770)) (Kd.R_types (Kd.R_apart' (HO807.out) (Kd.N_typed HO804.out) (by decide)) BK770.out (by decide)) (fun k_ hk => by first | exact ⟨(.inr (hk.1.1.1)), ⟨hk.1.2, ⟨hk.1.1.2.2, hk.2⟩⟩⟩ | exact impl_build.anyk))).2.1 (Kd.R_F (Kd.R_mono (ok' := (fun k_ => (P0_6_ k_ ∨ w.heap.size ≤ k_) ∧ some k_ ≠ (v803 : Value).ownBlock ∧ some k_ ≠ (.slice Ao55 t814.length co55 : Value).ownBlock ∧ k_ ≠ gb770)) (Kd.R_types (Kd.R_apart' (HO807.out) (Kd.N_typed HO804.out) (by decide)) BK770.out (by decide)) (fun k_ hk => by first | exact ⟨(.inr (hk.1.1.1)), ⟨hk.1.2, ⟨hk.1.1.2.2, hk.2⟩⟩⟩ | exact impl_build.anyk))))) (Reps.one (show Kd.FK (Kd.slice 5 (Kd.int .u8)) _ _ x3_2 [.slice Ao29 x3_2.length co29] from (Kd.FK_slice_mk (Kd.R_reads' (Kd.R_mono (ok' := (fun k_ => (P0_6_ k_ ∨ w.heap.size ≤ k_) ∧ some k_ ≠ (v803 : Value).ownBlock ∧ some k_ ≠ (.slice Ao55 t814.length co55 : Value).ownBlock ∧ k_ ≠ gb770)) (Kd.R_types (Kd.R_apart' (HO_3.out) (Kd.N_typed HO804.out) (by decide)) BK770.out (by decide)) (fun k_ hk => by first | exact ⟨(.inr (hk.1.1.1.1)), ⟨hk.1.2, ⟨hk.1.1.1.2, hk.2⟩⟩⟩ | exact impl_build.anyk))).2.1 (Kd.R_F (Kd.R_mono (ok' := (fun k_ => (P0_6_ k_ ∨ w.heap.size ≤ k_) ∧ some k_ ≠ (v803 : Value).ownBlock ∧ some k_ ≠ (.slice Ao55 t814.length co55 : Value).ownBlock ∧ k_ ≠ gb770)) (Kd.R_types (Kd.R_apart' (HO_3.out) (Kd.N_typed HO804.out) (by decide)) BK770.out (by decide)) (fun k_ hk => by first | exact ⟨(.inr (hk.1.1.1.1)), ⟨hk.1.2, ⟨hk.1.1.1.2, hk.2⟩⟩⟩ | exact impl_build.anyk))))) (Reps.one (show Kd.FK (Kd.slice 5 (Kd.int .u8)) _ _ l0_6 [.slice A0_6 l0_6.length c0_6] from (Kd.FK_slice_mk (Kd.V_reads' (Kd.V_mono (ok' := (fun k_ => (P0_6_ k_ ∨ w.heap.size ≤ k_) ∧ some k_ ≠ (v803 : Value).ownBlock ∧ some k_ ≠ (.slice Ao55 t814.length co55 : Value).ownBlock ∧ k_ ≠ gb770)) (HO_771006.out) (fun k_ hk => by first | exact ⟨hk.1.1, ⟨hk.1.2.2.1, ⟨hk.1.2.2.2.1, hk.1.2.2.2.2⟩⟩⟩ | exact impl_build.anyk))).2.1 (Kd.V_F (Kd.V_mono (ok' := (fun k_ => (P0_6_ k_ ∨ w.heap.size ≤ k_) ∧ some k_ ≠ (v803 : Value).ownBlock ∧ some k_ ≠ (.slice Ao55 t814.length co55 : Value).ownBlock ∧ k_ ≠ gb770)) (HO_771006.out) (fun k_ hk => by first | exact ⟨hk.1.1, ⟨hk.1.2.2.1, ⟨hk.1.2.2.2.1, hk.1.2.2.2.2⟩⟩⟩ | exact impl_build.anyk))))) (Reps.none _ _))))); intro v821 w57 ho58 hb hg_ hnew_; clear hg_ hnew_; (first | rw [← Ny820.out] at ho58 | (simp only [Int.reduceToNat] at ho58; rw [← Ny820.out] at ho58)); have HO822 := Aside0.mk (Kd.N_lower ho58 (below_size pb)); replace HO_771006 := Aside0.mk (Kd.V_elder' (by (with_reducible repeat (first | apply Kd.V_alloc | apply Kd.V_drewN | apply Kd.V_drew)); exact (by first | exact HO_771006.out | exact Kd.R_mono HO_771006.out (fun _ hk => impl_build.anyk) | exact Kd.V_mono HO_771006.out (fun _ hk => impl_build.anyk) | exact Kd.N_mono HO_771006.out (fun _ hk => impl_build.anyk))) (Kd.N_base ho58) hb); replace HO804 := Aside0.mk (Kd.N_elder' (by (with_reducible repeat (first | apply Kd.N_alloc | apply Kd.N_drewN | apply Kd.N_drew)); exact (by first | exact HO804.out | exact Kd.R_mono HO804.out (fun _ hk => impl_build.anyk) | exact Kd.V_mono HO804.out (fun _ hk => impl_build.anyk) | exact Kd.N_mono HO804.out (fun _ hk => impl_build.anyk))) (Kd.N_base ho58) hb); replace HO816 := Aside0.mk (Kd.R_below (by (with_reducible repeat (first | apply Kd.R_alloc | apply Kd.R_drewN | apply Kd.R_drew)); exact (by first | exact HO816.out | exact Kd.R_mono HO816.out (fun _ hk => impl_build.anyk) | exact Kd.V_mono HO816.out (fun _ hk => impl_build.anyk) | exact Kd.N_mono HO816.out (fun _ hk => impl_build.anyk))) hb); replace BK770 := Aside0.mk (blk_below (up BK770.out) hb); replace HB := Aside0.mk (below_step pb hb); clear HO807 HO_3; clear hb ho58; obtain ⟨Ao59, co59, eo59⟩ := Kd.N_slice HO822.out; subst eo59) | ((with_reducible refine gate_callee (f := 73) rfl ?_); refine goesL_ (some 54) rfl rfl Try.func73 (by kernel_rfl) rfl #[.slice Ao59 y820.length co59] rfl (by (try simp only [List.map_toArray, List.map_cons, List.map_nil]); first | done | rfl | (simp only [List.length_drop, List.length_take]; rfl)) ?_; (with_reducible refine (slices_Concat_byte_byte.calls kj2 _ _ y820 t823 _ ?side1 ?side2 A28.out).mono ?_); (case side1 => exact upC (Kd.N_reads' HO822.out).2.2); (case side2 => exact (Kd.N_reads' HO822.out).2.1); rintro e w60 ⟨v824, rfl, ho0, hb⟩; refine ⟨_, rfl, ?_⟩; have HO825 := Aside0.mk (Kd.R_lower (Kd.R_new' (Kd.R_newM (M := fun k_ => (w.heap.size ≤ k_)) ho0 (below_size pb) (fun k_ h_ => h_)) (Kd.R_lt (by (with_reducible repeat (first | apply Kd.R_alloc | apply Kd.R_drewN | apply Kd.R_drew)); exact (by first | exact HO816.out | exact Kd.R_mono HO816.out (fun _ hk => impl_build.anyk) | exact Kd.V_mono HO816.out (fun _ hk => impl_build.anyk) | exact Kd.N_mono HO816.out (fun _ hk => impl_build.anyk))))) (below_size pb)); replace HO_771006 := Aside0.mk (Kd.V_elder' (by (with_reducible repeat (first | apply Kd.V_alloc | apply Kd.V_drewN | apply Kd.V_drew)); exact (by first | exact HO_771006.out | exact Kd.R_mono HO_771006.out (fun _ hk => impl_build.anyk) | exact Kd.V_mono HO_771006.out (fun _ hk => impl_build.anyk) | exact Kd.N_mono HO_771006.out (fun _ hk => impl_build.anyk))) (Kd.R_base ho0) hb); replace HO804 := Aside0.mk (Kd.N_elder' (by (with_reducible repeat (first | apply Kd.N_alloc | apply Kd.N_drewN | apply Kd.N_drew)); exact (by first | exact HO804.out | exact Kd.R_mono HO804.out (fun _ hk => impl_build.anyk) | exact Kd.V_mono HO804.out (fun _ hk => impl_build.anyk) | exact Kd.N_mono HO804.out (fun _ hk => impl_build.anyk))) (Kd.R_base ho0) hb); replace HO816 := Aside0.mk (Kd.R_elder' (by (with_reducible repeat (first | apply Kd.R_alloc | apply Kd.R_drewN | apply Kd.R_drew)); exact (by first | exact HO816.out | exact Kd.R_mono HO816.out (fun _ hk => impl_build.anyk) | exact Kd.V_mono HO816.out (fun _ hk => impl_build.anyk) | exact Kd.N_mono HO816.out (fun _ hk => impl_build.anyk))) (Kd.R_base ho0) hb); replace HO822 := Aside0.mk (Kd.N_elder' (by (with_reducible repeat (first | apply Kd.N_alloc | apply Kd.N_drewN | apply Kd.N_drew)); exact (by first | exact HO822.out | exact Kd.R_mono HO822.out (fun _ hk => impl_build.anyk) | exact Kd.V_mono HO822.out (fun _ hk => impl_build.anyk) | exact Kd.N_mono HO822.out (fun _ hk => impl_build.anyk))) (Kd.R_base ho0) hb); replace BK770 := Aside0.mk (blk_below (up BK770.out) hb); replace HB := Aside0.mk (below_step pb hb); (try clear hb); (try clear hb2); (try clear hk); (try clear hi); (try clear ho0)))
     go_ret
     exact ⟨_, by first | rfl | (simp [errW_none, errW_some] <;> rfl) | (simp [*, errW_none, errW_some] <;> rfl), by (with_reducible repeat (first | apply Kd.R_alloc | apply Kd.R_drewN | apply Kd.R_drew)); exact Kd.R_mono HO825.out (fun _ hk => by first | exact hk.1.1 | exact impl_build.anyk), by repeat (first | (with_reducible first | exact HB.out | apply below_alloc | apply pw_below_drewN | apply below_drew1 | refine below_set ?_ GE770.out) | exact HB.out)⟩
   · rw [if_neg c25] at H
     exact absurd H (by simp)

/-! ### impl_BuildPacket: function 82 -/
def impl_BuildPacket.f (k : Nat) (a0_0 : Int) (a0_1 : Int) (a0_2 : Int) (a0_3 : Int) (a0_4 : Int) (a0_5 : Int) (l0_6 : List Int) : Option (Int × List Int) := (impl_PacketFault.f k a0_0 a0_1 a0_2 a0_3 a0_4 a0_5 l0_6).bind fun t828 => (if t828 = 0 then ((impl_build.f k a0_0 a0_1 a0_2 a0_3 a0_4 a0_5 l0_6).bind fun t829 => (some (0, t829))) else (some (t828, ([] : List Int))))
theorem impl_BuildPacket.mono : ∀ a0 a1 a2 a3 a4 a5 a6 k, LeO (impl_BuildPacket.f k a0 a1 a2 a3 a4 a5 a6) (impl_BuildPacket.f (k + 1) a0 a1 a2 a3 a4 a5 a6) := by
 intro a0 a1 a2 a3 a4 a5 a6 k
 unfold impl_BuildPacket.f
 repeat' first
  | (with_reducible exact impl_PacketFault.mono _ _ _ _ _ _ _ _)
  | (with_reducible exact impl_build.mono _ _ _ _ _ _ _ _)
  | (with_reducible exact LeO.refl _)
  | (with_reducible exact LeO.none _)
  | (with_reducible refine LeO.ite ?_ ?_)
  | (with_reducible refine LeO.bind ?_ (fun _ => ?_))
  | exact impl_PacketFault.mono _ _ _ _ _ _ _ _
  | exact impl_build.mono _ _ _ _ _ _ _ _
  | exact LeO.none _
  | refine LeO.ite ?_ ?_
  | refine LeO.bind ?_ (fun _ => ?_)
set_option maxHeartbeats 8000000 in
set_option maxRecDepth 100000 in
theorem impl_BuildPacket.calls (k : Nat) (a0_0 : Int) (a0_1 : Int) (a0_2 : Int) (a0_3 : Int) (a0_4 : Int) (a0_5 : Int) (A0_6 : Option Addr) (c0_6 : Nat) (l0_6 : List Int) (r1 : Int) (r2 : List Int) (w : World) (hr0_6 : Kd.C (Kd.int .u8) w A0_6 l0_6.length l0_6) (hc0_6 : l0_6.length ≤ c0_6) (h : impl_BuildPacket.f k a0_0 a0_1 a0_2 a0_3 a0_4 a0_5 l0_6 = some (r1, r2)) :
 Calls Try.prog 82 #[.agg #[.int .i64 a0_0, .int .i64 a0_1, .int .i64 a0_2, .int .i64 a0_3, .int .i64 a0_4, .int .i64 a0_5, .slice A0_6 l0_6.length c0_6]] w fun e w' => ∃ v1_ : Value, e = .returned (.agg #[.int .i64 r1, v1_]) ∧ Kd.R (Kd.int .u8) 5 w' w.heap.size (fun _ => True) v1_ r2 ∧ Below w.heap.size w w' := by
 have hu53 := Try.underlying53
 have hu27 := Try.underlying27
 have HR0_6 := Aside0.mk hr0_6
 have HC0_6 := Aside0.mk hc0_6
 clear hr0_6 hc0_6
 have HB := Aside0.mk (Below.refl w.heap.size w)
 have H : ((impl_PacketFault.f k a0_0 a0_1 a0_2 a0_3 a0_4 a0_5 l0_6).bind fun t828 => (if t828 = 0 then ((impl_build.f k a0_0 a0_1 a0_2 a0_3 a0_4 a0_5 l0_6).bind fun t829 => (some (0, t829))) else (some (t828, ([] : List Int))))) = some (r1, r2) := h
 clear h
 replace H := Option.bind_eq_some_iff.mp H
 obtain ⟨t828, A20, H⟩ := H
 replace H : (if t828 = 0 then ((impl_build.f k a0_0 a0_1 a0_2 a0_3 a0_4 a0_5 l0_6).bind fun t829 => (some (0, t829))) else (some (t828, ([] : List Int)))) = some (r1, r2) := H
 have A2 := Aside0.mk A20
 clear A20
 by_cases c3 : t828 = 0
 · rw [if_pos c3] at H
   have c3b0 : (t828 == 0) = true := beq_iff_eq.mpr c3
   have c3b1 : (t828 != 0) = false := bne_eq_false_iff_eq.mpr c3
   clear c3
   replace H := Option.bind_eq_some_iff.mp H
   obtain ⟨t829, A40, H⟩ := H
   replace H : (some (0, t829)) = some (r1, r2) := H
   have A4 := Aside0.mk A40
   clear A40
   simp only [Option.some.injEq, Prod.mk.injEq] at H
   obtain ⟨rfl, rfl⟩ := H
   go_enter Try.func82, Try.ntmps82
   go_wp2_with (first | ((with_reducible refine gate_dst (N := 1) rfl ?_); refine box_event ?hg (N := 1) ?hd (cs := #[.int .i64 a0_0, .int .i64 a0_1, .int .i64 a0_2, .int .i64 a0_3, .int .i64 a0_4, .int .i64 a0_5, .slice A0_6 l0_6.length c0_6]) (t := 53) ?hr ?_; (case hd => rfl); (case hg => rfl); (case hr => first | (go_simp; done) | (go_simp; rfl)); intro gb826 hg w5 hbox hb; have BK826 := Aside0.mk (hbox); have GW826 := Aside0.mk ((by rw [hg]; exact below_size pb : w.heap.size ≤ gb826)); have GE826 := GW826; replace HB := Aside0.mk (below_step pb hb); clear hb hbox hg) | ((with_reducible refine gate_dst (N := 2) rfl ?_); refine box_event ?hg (N := 2) ?hd (cs := #[.int .i64 0, .slice none 0 0]) (t := 27) ?hr ?_; (case hd => rfl); (case hg => rfl); (case hr => first | (go_simp; done) | (go_simp; rfl)); intro gb827 hg w6 hbox hb; have BK827 := Aside0.mk (hbox); have GW827 := Aside0.mk ((by rw [hg]; exact below_size pb : w.heap.size ≤ gb827)); have GE827 := GW827; have NB826_827 := Aside0.mk ((by rw [hg]; exact Nat.ne_of_lt (blk_lt (up BK826.out)) : gb826 ≠ gb827)); have NB827_826 := Aside0.mk (Ne.symm NB826_827.out); replace BK826 := Aside0.mk (blk_below (up BK826.out) hb); replace HB := Aside0.mk (below_step pb hb); clear hb hbox hg; have hnb7 := NB826_827.out; have hnc7 := NB827_826.out; have hcz8_0 : w6.cell? ⟨gb826, 0, none⟩ = some (.int .i64 a0_0) := (blk_cell BK826.out 0).trans rfl; have hcz8_1 : w6.cell? ⟨gb826, 1, none⟩ = some (.int .i64 a0_1) := (blk_cell BK826.out 1).trans rfl; have hcz8_2 : w6.cell? ⟨gb826, 2, none⟩ = some (.int .i64 a0_2) := (blk_cell BK826.out 2).trans rfl; have hcz8_3 : w6.cell? ⟨gb826, 3, none⟩ = some (.int .i64 a0_3) := (blk_cell BK826.out 3).trans rfl; have hcz8_4 : w6.cell? ⟨gb826, 4, none⟩ = some (.int .i64 a0_4) := (blk_cell BK826.out 4).trans rfl; have hcz8_5 : w6.cell? ⟨gb826, 5, none⟩ = some (.int .i64 a0_5) := (blk_cell BK826.out 5).trans rfl; have hcz8_6 : w6.cell? ⟨gb826, 6, none⟩ = some (.slice A0_6 l0_6.length c0_6) := (blk_cell BK826.out 6).trans rfl; have hfz8_0 := blk_frozen BK826.out 0; have hfz8_1 := blk_frozen BK826.out 1; have hfz8_2 := blk_frozen BK826.out 2; have hfz8_3 := blk_frozen BK826.out 3; have hfz8_4 := blk_frozen BK826.out 4; have hfz8_5 := blk_frozen BK826.out 5; have hfz8_6 := blk_frozen BK826.out 6) | ((with_reducible refine gate_callee (f := 80) rfl ?_); refine goesL_ (some 5) rfl rfl Try.func80 (by kernel_rfl) rfl #[.agg #[.int .i64 a0_0, .int .i64 a0_1, .int .i64 a0_2, .int .i64 a0_3, .int .i64 a0_4, .int .i64 a0_5, .slice A0_6 l0_6.length c0_6]] rfl (by (try simp only [List.map_toArray, List.map_cons, List.map_nil]); first | done | rfl | (simp only [List.length_drop, List.length_take]; rfl)) ?_; (with_reducible refine (impl_PacketFault.calls k a0_0 a0_1 a0_2 a0_3 a0_4 a0_5 _ _ l0_6 t828 _ ?side1 ?side2 A2.out).mono ?_); (case side1 => exact upC (Kd.C_below HR0_6.out HB.out)); (case side2 => exact HC0_6.out); rintro e w9 ⟨rfl, hb⟩; refine ⟨_, rfl, ?_⟩; replace BK826 := Aside0.mk (blk_below (up BK826.out) hb); replace BK827 := Aside0.mk (blk_below (up BK827.out) hb); replace HB := Aside0.mk (below_step pb hb); (try clear hb); (try clear hb2); (try clear hk); (try clear hi); have hcz10_0 : w9.cell? ⟨gb826, 0, none⟩ = some (.int .i64 a0_0) := (blk_cell BK826.out 0).trans rfl; have hcz10_1 : w9.cell? ⟨gb826, 1, none⟩ = some (.int .i64 a0_1) := (blk_cell BK826.out 1).trans rfl; have hcz10_2 : w9.cell? ⟨gb826, 2, none⟩ = some (.int .i64 a0_2) := (blk_cell BK826.out 2).trans rfl; have hcz10_3 : w9.cell? ⟨gb826, 3, none⟩ = some (.int .i64 a0_3) := (blk_cell BK826.out 3).trans rfl; have hcz10_4 : w9.cell? ⟨gb826, 4, none⟩ = some (.int .i64 a0_4) := (blk_cell BK826.out 4).trans rfl; have hcz10_5 : w9.cell? ⟨gb826, 5, none⟩ = some (.int .i64 a0_5) := (blk_cell BK826.out 5).trans rfl; have hcz10_6 : w9.cell? ⟨gb826, 6, none⟩ = some (.slice A0_6 l0_6.length c0_6) := (blk_cell BK826.out 6).trans rfl; have hfz10_0 := blk_frozen BK826.out 0; have hfz10_1 := blk_frozen BK826.out 1; have hfz10_2 := blk_frozen BK826.out 2; have hfz10_3 := blk_frozen BK826.out 3; have hfz10_4 := blk_frozen BK826.out 4; have hfz10_5 := blk_frozen BK826.out 5; have hfz10_6 := blk_frozen BK826.out 6) | ((with_reducible refine gate_callee (f := 81) rfl ?_); refine goesL_ (some 11) rfl rfl Try.func81 (by kernel_rfl) rfl #[.agg #[.int .i64 a0_0, .int .i64 a0_1, .int .i64 a0_2, .int .i64 a0_3, .int .i64 a0_4, .int .i64 a0_5, .slice A0_6 l0_6.length c0_6]] rfl (by (try simp only [List.map_toArray, List.map_cons, List.map_nil]); first | done | rfl | (simp only [List.length_drop, List.length_take]; rfl)) ?_; (with_reducible refine (impl_build.calls k a0_0 a0_1 a0_2 a0_3 a0_4 a0_5 (fun k_ => k_ < w.heap.size) _ _ l0_6 t829 _ ?side1 A4.out).mono ?_); (case side1 => exact Kd.V_mk HC0_6.out (Kd.F_below (Kd.C_F (Kd.heap_int .u8) HR0_6.out) pb)); rintro e w11 ⟨v830, rfl, ho0, hb⟩; refine ⟨_, rfl, ?_⟩; have HO831 := Aside0.mk (Kd.R_lower (Kd.R_mono (ok' := fun k_ => True) ho0 (fun _ hk_ => trivial)) (below_size pb)); replace BK826 := Aside0.mk (blk_below (up BK826.out) hb); replace BK827 := Aside0.mk (blk_below (up BK827.out) hb); replace HB := Aside0.mk (below_step pb hb); (try clear hb); (try clear hb2); (try clear hk); (try clear hi); (try clear ho0); obtain ⟨Ao12, co12, eo12⟩ := Kd.R_slice HO831.out; subst eo12; have hcz13_0 : w11.cell? ⟨gb827, 0, none⟩ = some (.int .i64 0) := (blk_cell BK827.out 0).trans rfl; have hcz13_1 : w11.cell? ⟨gb827, 1, none⟩ = some (.slice none 0 0) := (blk_cell BK827.out 1).trans rfl; have hfz13_0 := blk_frozen BK827.out 0; have hfz13_1 := blk_frozen BK827.out 1))
   refine bodyPost_ret (results_cell_row rfl _ _ gb827 27 #[.int .i64 0, .slice Ao12 t829.length co12] (0, 0) _ rfl (by refine up ?_; refine blk_put (cs := #[.int .i64 0, .slice none 0 0]) ?_ 1 _ rfl; refine up ?_; refine blk_put (cs := #[.int .i64 0, .slice none 0 0]) ?_ 0 _ rfl; exact up BK827.out) Try.underlying27 rfl (by kernel_rfl)) rfl ?_
   exact ⟨_, by first | rfl | (simp [errW_none, errW_some] <;> rfl) | (simp [*, errW_none, errW_some] <;> rfl), by (with_reducible repeat (first | apply Kd.R_alloc | apply Kd.R_drewN | apply Kd.R_drew)); exact Kd.R_mono (Kd.R_far (p := ⟨gb827, 1, none⟩) (Kd.R_far (p := ⟨gb827, 0, none⟩) (Kd.R_types HO831.out BK827.out (by decide)) (fun _ hk => hk.2) (.int .i64 0)) (fun _ hk => hk.2) (.slice Ao12 t829.length co12)) (fun _ hk => trivial), by repeat (first | (with_reducible first | exact HB.out | apply below_alloc | apply pw_below_drewN | apply below_drew1 | refine below_set ?_ GE826.out | refine below_set ?_ GE827.out) | exact HB.out)⟩
 · rw [if_neg c3] at H
   have c3b0 : (t828 == 0) = false := beq_eq_false_iff_ne.mpr c3
   have c3b1 : (t828 != 0) = true := bne_iff_ne.mpr c3
   simp only [Option.some.injEq, Prod.mk.injEq] at H
   obtain ⟨rfl, rfl⟩ := H
   go_enter Try.func82, Try.ntmps82
   go_wp2_with (first | ((with_reducible refine gate_dst (N := 1) rfl ?_); refine box_event ?hg (N := 1) ?hd (cs := #[.int .i64 a0_0, .int .i64 a0_1, .int .i64 a0_2, .int .i64 a0_3, .int .i64 a0_4, .int .i64 a0_5, .slice A0_6 l0_6.length c0_6]) (t := 53) ?hr ?_; (case hd => rfl); (case hg => rfl); (case hr => first | (go_simp; done) | (go_simp; rfl)); intro gb826 hg w14 hbox hb; have BK826 := Aside0.mk (hbox); have GW826 := Aside0.mk ((by rw [hg]; exact below_size pb : w.heap.size ≤ gb826)); have GE826 := GW826; replace HB := Aside0.mk (below_step pb hb); clear hb hbox hg) | ((with_reducible refine gate_dst (N := 2) rfl ?_); refine box_event ?hg (N := 2) ?hd (cs := #[.int .i64 0, .slice none 0 0]) (t := 27) ?hr ?_; (case hd => rfl); (case hg => rfl); (case hr => first | (go_simp; done) | (go_simp; rfl)); intro gb827 hg w15 hbox hb; have BK827 := Aside0.mk (hbox); have GW827 := Aside0.mk ((by rw [hg]; exact below_size pb : w.heap.size ≤ gb827)); have GE827 := GW827; have NB826_827 := Aside0.mk ((by rw [hg]; exact Nat.ne_of_lt (blk_lt (up BK826.out)) : gb826 ≠ gb827)); have NB827_826 := Aside0.mk (Ne.symm NB826_827.out); replace BK826 := Aside0.mk (blk_below (up BK826.out) hb); replace HB := Aside0.mk (below_step pb hb); clear hb hbox hg; have hnb16 := NB826_827.out; have hnc16 := NB827_826.out; have hcz17_0 : w15.cell? ⟨gb826, 0, none⟩ = some (.int .i64 a0_0) := (blk_cell BK826.out 0).trans rfl; have hcz17_1 : w15.cell? ⟨gb826, 1, none⟩ = some (.int .i64 a0_1) := (blk_cell BK826.out 1).trans rfl; have hcz17_2 : w15.cell? ⟨gb826, 2, none⟩ = some (.int .i64 a0_2) := (blk_cell BK826.out 2).trans rfl; have hcz17_3 : w15.cell? ⟨gb826, 3, none⟩ = some (.int .i64 a0_3) := (blk_cell BK826.out 3).trans rfl; have hcz17_4 : w15.cell? ⟨gb826, 4, none⟩ = some (.int .i64 a0_4) := (blk_cell BK826.out 4).trans rfl; have hcz17_5 : w15.cell? ⟨gb826, 5, none⟩ = some (.int .i64 a0_5) := (blk_cell BK826.out 5).trans rfl; have hcz17_6 : w15.cell? ⟨gb826, 6, none⟩ = some (.slice A0_6 l0_6.length c0_6) := (blk_cell BK826.out 6).trans rfl; have hfz17_0 := blk_frozen BK826.out 0; have hfz17_1 := blk_frozen BK826.out 1; have hfz17_2 := blk_frozen BK826.out 2; have hfz17_3 := blk_frozen BK826.out 3; have hfz17_4 := blk_frozen BK826.out 4; have hfz17_5 := blk_frozen BK826.out 5; have hfz17_6 := blk_frozen BK826.out 6) | ((with_reducible refine gate_callee (f := 80) rfl ?_); refine goesL_ (some 5) rfl rfl Try.func80 (by kernel_rfl) rfl #[.agg #[.int .i64 a0_0, .int .i64 a0_1, .int .i64 a0_2, .int .i64 a0_3, .int .i64 a0_4, .int .i64 a0_5, .slice A0_6 l0_6.length c0_6]] rfl (by (try simp only [List.map_toArray, List.map_cons, List.map_nil]); first | done | rfl | (simp only [List.length_drop, List.length_take]; rfl)) ?_; (with_reducible refine (impl_PacketFault.calls k a0_0 a0_1 a0_2 a0_3 a0_4 a0_5 _ _ l0_6 t828 _ ?side1 ?side2 A2.out).mono ?_); (case side1 => exact upC (Kd.C_below HR0_6.out HB.out)); (case side2 => exact HC0_6.out); rintro e w18 ⟨rfl, hb⟩; refine ⟨_, rfl, ?_⟩; replace BK826 := Aside0.mk (blk_below (up BK826.out) hb); replace BK827 := Aside0.mk (blk_below (up BK827.out) hb); replace HB := Aside0.mk (below_step pb hb); (try clear hb); (try clear hb2); (try clear hk); (try clear hi); have hcz19_0 : w18.cell? ⟨gb827, 0, none⟩ = some (.int .i64 0) := (blk_cell BK827.out 0).trans rfl; have hcz19_1 : w18.cell? ⟨gb827, 1, none⟩ = some (.slice none 0 0) := (blk_cell BK827.out 1).trans rfl; have hfz19_0 := blk_frozen BK827.out 0; have hfz19_1 := blk_frozen BK827.out 1))
   refine bodyPost_ret (results_cell_row rfl _ _ gb827 27 #[.int .i64 t828, .slice none 0 0] (0, 0) _ rfl (by refine up ?_; refine blk_put (cs := #[.int .i64 t828, .slice none 0 0]) ?_ 1 _ rfl; refine up ?_; refine blk_put (cs := #[.int .i64 0, .slice none 0 0]) ?_ 0 _ rfl; exact up BK827.out) Try.underlying27 rfl (by kernel_rfl)) rfl ?_
   exact ⟨_, by first | rfl | (simp [errW_none, errW_some] <;> rfl) | (simp [*, errW_none, errW_some] <;> rfl), by first | exact Kd.R_nil _ _ _ _ _ | exact Kd.N_nil _ _ _ _ _ | exact Kd.V_nil _ _ _ _ _ | exact Kd.Q_nil _ _ _ _ _ | exact Kd.S_nil _ _ _ _ _, by repeat (first | (with_reducible first | exact HB.out | apply below_alloc | apply pw_below_drewN | apply below_drew1 | refine below_set ?_ GE826.out | refine below_set ?_ GE827.out) | exact HB.out)⟩


end Go.Proofs.Ytojimlmflfiijaa.PA
