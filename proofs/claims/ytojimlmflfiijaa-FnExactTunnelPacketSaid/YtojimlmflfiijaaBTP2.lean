-- Written by plus.py and bundle.py, this session's own programs.
import Derived.Test.YtojimlmflfiijaaBTP0
import Derived.Test.YtojimlmflfiijaaBTPU
import Derived.Test.YtojimlmflfiijaaBTP1
namespace Go.Proofs.Ytojimlmflfiijaa.PA
open Go.RowKit Go.Proofs.YtojimlmflfiijaaW.PrintWords Go.Proofs.YtojimlmflfiijaaW.PrintLast Go.Proofs.YtojimlmflfiijaaW.PrintMore
attribute [local go_sem] max2_int min2_int max_two min_two max_three min_three max_four min_four   -- for this text's walks alone
set_option linter.unusedVariables false
set_option linter.unusedSimpArgs false

/-! ### laws_markBytesResult: function 26 -/
def laws_markBytesResult.f (k : Nat) (a0_0 : Int) (l0_1 : List Int) (a1 : Int) : Option (Int × List Int) := (laws_markByteS.f k l0_1 a1).bind fun bt467 => (some (bt467.1, bt467.2))
theorem laws_markBytesResult.mono : ∀ a0 a1 a2 k, LeO (laws_markBytesResult.f k a0 a1 a2) (laws_markBytesResult.f (k + 1) a0 a1 a2) := by
 intro a0 a1 a2 k
 unfold laws_markBytesResult.f
 repeat' first
  | (with_reducible exact laws_markByteS.mono _ _ _)
  | (with_reducible exact LeO.refl _)
  | (with_reducible exact LeO.none _)
  | (with_reducible refine LeO.ite ?_ ?_)
  | (with_reducible refine LeO.bind ?_ (fun _ => ?_))
  | exact laws_markByteS.mono _ _ _
  | exact LeO.none _
  | refine LeO.ite ?_ ?_
  | refine LeO.bind ?_ (fun _ => ?_)
set_option maxHeartbeats 8000000 in
set_option maxRecDepth 100000 in
theorem laws_markBytesResult.calls (k : Nat) (a0_0 : Int) (P0_1_ : Nat → Prop) (u9000_ : Value) (l0_1 : List Int) (a1 : Int) (r1 : Int) (r2 : List Int) (w0 w : World) (hB : Below w0.heap.size w0 w) (ho0_1 : Kd.R (Kd.int .u8) 5 w w0.heap.size P0_1_ u9000_ l0_1) (h : laws_markBytesResult.f k a0_0 l0_1 a1 = some (r1, r2)) :
 Calls Try.prog 26 #[.agg #[.int .i64 a0_0, u9000_], .int .i64 a1] w fun e w' => e = .returned (.int .i64 r1) ∧ Kd.R (Kd.int .u8) 5 w' w0.heap.size (fun k_ => (P0_1_ k_ ∨ w.heap.size ≤ k_)) u9000_ r2 ∧ Below w0.heap.size w0 w' ∧ Kept w w' (fun k_ => P0_1_ k_) := by
 have hu27 := Try.underlying27
 have HO0_1 := Aside0.mk (show Kd.R (Kd.int .u8) 5 w w0.heap.size (fun k_ => (P0_1_ k_ ∨ w.heap.size ≤ k_)) u9000_ l0_1 from Kd.R_mono ho0_1 (fun k_ hk => (.inl hk)))
 have HK := Aside0.mk (Kept.refl w (fun k_ => P0_1_ k_))
 have HW0 := Aside0.mk hB.size
 have HB := Aside0.mk hB
 clear hB
 have H : ((laws_markByteS.f k l0_1 a1).bind fun bt467 => (some (bt467.1, bt467.2))) = some (r1, r2) := h
 clear h
 replace H := Option.bind_eq_some_iff.mp H
 obtain ⟨⟨t467, t468⟩, A30, H⟩ := H
 replace H : (some (t467, t468)) = some (r1, r2) := H
 have A3 := Aside0.mk A30
 clear A30
 simp only [Option.some.injEq, Prod.mk.injEq] at H
 obtain ⟨rfl, rfl⟩ := H
 obtain ⟨Ao4, co4, eo4⟩ := Kd.R_slice HO0_1.out
 subst eo4
 go_enter Try.func26, Try.ntmps26
 go_wp2_with (first | ((with_reducible refine gate_dst (N := 2) rfl ?_); refine box_event ?hg (N := 2) ?hd (cs := #[.int .i64 a0_0, .slice Ao4 l0_1.length co4]) (t := 27) ?hr ?_; (case hd => rfl); (case hg => rfl); (case hr => first | (go_simp; done) | (go_simp; rfl)); intro gb466 hg w5 hbox hb; have BK466 := Aside0.mk (hbox); have GW466 := Aside0.mk ((by rw [hg]; exact (by first | exact HK.out.1 | exact (show Kept w _ (fun k_ => P0_1_ k_) from by repeat (first | (with_reducible first | exact HK.out | apply Kept.alloc | apply Kept.drewN | apply Kept.drew) | exact HK.out)).1) : w.heap.size ≤ gb466)); have GE466 := Aside0.mk ((by rw [hg]; exact (below_size pb) : w0.heap.size ≤ gb466)); replace HO0_1 := Aside0.mk (Kd.R_below (by (with_reducible repeat (first | apply Kd.R_alloc | apply Kd.R_drewN | apply Kd.R_drew)); exact HO0_1.out) hb); replace HK := Aside0.mk (Kept.below (S := (fun k_ => P0_1_ k_)) (by repeat (first | (with_reducible first | exact HK.out | apply Kept.alloc | apply Kept.drewN | apply Kept.drew) | exact HK.out)) hb); replace HB := Aside0.mk (below_step pb hb); clear hb hbox hg; have hcz6_0 : w5.cell? ⟨gb466, 0, none⟩ = some (.int .i64 a0_0) := (blk_cell BK466.out 0).trans rfl; have hcz6_1 : w5.cell? ⟨gb466, 1, none⟩ = some (.slice Ao4 l0_1.length co4) := (blk_cell BK466.out 1).trans rfl; have hfz6_0 := blk_frozen BK466.out 0; have hfz6_1 := blk_frozen BK466.out 1) | ((with_reducible refine gate_callee (f := 25) rfl ?_); refine goesL_ (some 8) rfl rfl Try.func25 (by kernel_rfl) rfl #[.slice Ao4 l0_1.length co4, .int .i64 a1] rfl (by (try simp only [List.map_toArray, List.map_cons, List.map_nil]); first | done | rfl | (simp only [List.length_drop, List.length_take]; rfl)) ?_; (with_reducible refine (laws_markByteS.calls k (fun k_ => some k_ = (.slice Ao4 l0_1.length co4 : Value).ownBlock) (.slice Ao4 l0_1.length co4) l0_1 a1 t467 t468 w0 _ ?side1 ?side2 A3.out).mono ?_); (case side1 => repeat (first | (with_reducible first | exact HB.out | apply below_alloc | apply pw_below_drewN | apply below_drew1 | refine below_set ?_ GE466.out) | exact HB.out)); (case side2 => exact Kd.R_tight rfl HO0_1.out); rintro e w7 ⟨rfl, hy0, hb, hkp⟩; refine ⟨_, rfl, ?_⟩; replace BK466 := Aside0.mk (blk_kept (up BK466.out) hkp (fun hs_ => (fun e_ => (Kd.R_ne HO0_1.out BK466.out (by decide)) e_) hs_)); replace HK := Aside0.mk (Kept.then_ (S := (fun k_ => P0_1_ k_)) (by repeat (first | (with_reducible first | exact HK.out | apply Kept.alloc | apply Kept.drewN | apply Kept.drew | refine Kept.setCell ?_ (.inr GW466.out) _) | exact HK.out)) hkp (fun k_ hs_ => (fun e_ => (HO0_1.out.1 k_ e_.symm)) hs_)); replace HO0_1 := Aside0.mk (Kd.R_reok rfl hy0 (fun k_ e_ => HO0_1.out.1 k_ e_)); replace HB := Aside0.mk (hb); (try clear hb); (try clear hkp); (try clear hy0)))
 go_ret
 exact ⟨by first | rfl | (simp [errW_none, errW_some] <;> rfl) | (simp [*, errW_none, errW_some] <;> rfl), by (with_reducible repeat (first | apply Kd.R_alloc | apply Kd.R_drewN | apply Kd.R_drew)); exact HO0_1.out, by repeat (first | (with_reducible first | exact HB.out | apply below_alloc | apply pw_below_drewN | apply below_drew1 | refine below_set ?_ GE466.out) | exact HB.out), by repeat (first | (with_reducible first | exact HK.out | apply Kept.alloc | apply Kept.drewN | apply Kept.drew | refine Kept.setCell ?_ (.inr GW466.out) _) | exact HK.out)⟩

/-! ### laws_heldByteS: function 74 -/
def laws_heldByteS.l0 : Nat → List Int → Int → Int → Option (Int)
 | 0, _, _, _ => none
 | k + 1, x0, x1, x5 => if x5 < (x0.length : Int) then (if 0 ≤ x5 then (if (rd x0 x5) = ((x1) % 256) then (laws_heldByteS.l0 k x0 (wrap64 (x1 + 1)) (wrap64 (x5 + 1))) else (some (-1))) else (none)) else (some x1)
def laws_heldByteS.f (k : Nat) (l0 : List Int) (a1 : Int) : Option (Int) := laws_heldByteS.l0 k l0 a1 0
theorem laws_heldByteS.mono_l : ∀ k, (∀ y0 y1 y2, LeO (laws_heldByteS.l0 k y0 y1 y2) (laws_heldByteS.l0 (k + 1) y0 y1 y2))
 | 0 => fun _ _ _ r h => by simp [laws_heldByteS.l0] at h
 | k + 1 => by
  have ih0 := laws_heldByteS.mono_l k
  · intro y0 y1 y2
    unfold laws_heldByteS.l0
    repeat' first
    | (with_reducible exact ih0 _ _ _)
    | (with_reducible exact LeO.refl _)
    | (with_reducible exact LeO.none _)
    | (with_reducible refine LeO.ite ?_ ?_)
    | (with_reducible refine LeO.bind ?_ (fun _ => ?_))
    | exact ih0 _ _ _
    | exact LeO.none _
    | refine LeO.ite ?_ ?_
    | refine LeO.bind ?_ (fun _ => ?_)
theorem laws_heldByteS.mono : ∀ a0 a1 k, LeO (laws_heldByteS.f k a0 a1) (laws_heldByteS.f (k + 1) a0 a1) := by
 intro a0 a1 k
 have ih0 := laws_heldByteS.mono_l k
 unfold laws_heldByteS.f
 repeat' first
  | (with_reducible exact ih0 _ _ _)
  | (with_reducible exact LeO.refl _)
  | (with_reducible exact LeO.none _)
  | (with_reducible refine LeO.ite ?_ ?_)
  | (with_reducible refine LeO.bind ?_ (fun _ => ?_))
  | exact ih0 _ _ _
  | exact LeO.none _
  | refine LeO.ite ?_ ?_
  | refine LeO.bind ?_ (fun _ => ?_)
set_option maxHeartbeats 8000000 in
set_option maxRecDepth 100000 in
theorem laws_heldByteS.calls (k : Nat) (A0 : Option Addr) (c0 : Nat) (l0 : List Int) (a1 : Int) (r : Int) (w : World) (hr0 : Kd.C (Kd.int .u8) w A0 l0.length l0) (hc0 : l0.length ≤ c0) (h : laws_heldByteS.f k l0 a1 = some r) :
 Calls Try.prog 74 #[.slice A0 l0.length c0, .int .i64 a1] w fun e w' => e = .returned (.int .i64 r) ∧ Drawn0 w w' := by
 have HR0 := Aside0.mk hr0
 have HC0 := Aside0.mk hc0
 clear hr0 hc0
 have H : (laws_heldByteS.l0 k l0 a1 0) = some r := h
 clear h
 have H' := Aside0.mk H
 clear H
 go_enter Try.func74, Try.ntmps74
 go_wp2
 go_loopg [1, 5] k (fun kq v1 v5 w' => ∃ (x1_1 : Int) (x5_1 : Int), v1 = .int .i64 x1_1 ∧ v5 = .int .i64 x5_1 ∧ Aside0 (laws_heldByteS.l0 kq l0 x1_1 x5_1 = some r) ∧ Aside0 (kq ≤ k) ∧ Drawn0 w w')
 case atStart => exact ⟨(a1), (0), (by first | rfl | (simp; done) | (simp [*]; done)), (by first | rfl | (simp; done) | (simp [*]; done)), H', ⟨Nat.le_refl _⟩, by repeat (first | exact Drawn0.refl _ | apply Drawn0.step)⟩
 case round =>
  clear H'
  try clear p2
  obtain ⟨x1_1, x5_1, rfl, rfl, HA, HK1, ⟨m1, rfl⟩⟩ := hrel
  cases gk with
  | zero => exact absurd HA.out (by simp [laws_heldByteS.l0])
  | succ k1 =>
   have H := HA.out
   clear HA
   simp only [laws_heldByteS.l0] at H
   by_cases c3 : x5_1 < (l0.length : Int)
   · rw [if_pos c3] at H
     have c3b0 : decide (x5_1 < (l0.length : Int)) = true := decide_eq_true c3
     clear c3
     by_cases c4 : 0 ≤ x5_1
     · rw [if_pos c4] at H
       have c4b0 : decide (0 ≤ x5_1) = true := decide_eq_true c4
       clear c4
       by_cases c5 : (rd l0 x5_1) = ((x1_1) % 256)
       · rw [if_pos c5] at H
         have c5b0 : ((rd l0 x5_1) == ((x1_1) % 256)) = true := beq_iff_eq.mpr c5
         have c5b1 : ((rd l0 x5_1) != ((x1_1) % 256)) = false := bne_eq_false_iff_eq.mpr c5
         clear c5
         have H' := Aside0.mk H
         clear H
         have p469 : 0 ≤ (x5_1 : Int) := of_decide_eq_true (by first | (with_reducible assumption) | assumption)
         have q469 : x5_1 < (l0.length : Int) := of_decide_eq_true (by first | (with_reducible assumption) | assumption)
         obtain ⟨ad469, e469, hx469_0⟩ := Kd.at_int HR0.out x5_1 p469 q469
         cases e469
         replace p469 := eq_true p469
         replace q469 := eq_true q469
         go_wp2
         go_roundg k1
         case measure => have := HK1.out; omega
         case rel => exact ⟨(wrap64 (x1_1 + 1)), (wrap64 (x5_1 + 1)), (by first | rfl | (simp; done) | (simp [*]; done)), (by first | rfl | (simp; done) | (simp [*]; done)), H', ⟨by have := HK1.out; omega⟩, by repeat (first | exact Drawn0.refl _ | apply Drawn0.step)⟩
       · rw [if_neg c5] at H
         have c5b0 : ((rd l0 x5_1) == ((x1_1) % 256)) = false := beq_eq_false_iff_ne.mpr c5
         have c5b1 : ((rd l0 x5_1) != ((x1_1) % 256)) = true := bne_iff_ne.mpr c5
         obtain rfl := Option.some.inj H
         have p469 : 0 ≤ (x5_1 : Int) := of_decide_eq_true (by first | (with_reducible assumption) | assumption)
         have q469 : x5_1 < (l0.length : Int) := of_decide_eq_true (by first | (with_reducible assumption) | assumption)
         obtain ⟨ad469, e469, hx469_0⟩ := Kd.at_int HR0.out x5_1 p469 q469
         cases e469
         replace p469 := eq_true p469
         replace q469 := eq_true q469
         go_wp2
         go_ret
         exact ⟨by first | rfl | (simp; done) | (simp [*]; done), by repeat (first | exact Drawn0.refl _ | apply Drawn0.step)⟩
     · rw [if_neg c4] at H
       exact absurd H (by simp)
   · rw [if_neg c3] at H
     have c3b0 : decide (x5_1 < (l0.length : Int)) = false := decide_eq_false c3
     clear c3
     obtain rfl := Option.some.inj H
     go_wp2
     go_ret
     exact ⟨by first | rfl | (simp; done) | (simp [*]; done), by repeat (first | exact Drawn0.refl _ | apply Drawn0.step)⟩

/-! ### laws_heldBytesResult: function 27 -/
def laws_heldBytesResult.f (k : Nat) (a0_0 : Int) (l0_1 : List Int) (a1 : Int) : Option (Int) := (laws_heldByteS.f k l0_1 a1).bind fun t471 => (if t471 < 0 then (some (-1)) else (some t471))
theorem laws_heldBytesResult.mono : ∀ a0 a1 a2 k, LeO (laws_heldBytesResult.f k a0 a1 a2) (laws_heldBytesResult.f (k + 1) a0 a1 a2) := by
 intro a0 a1 a2 k
 unfold laws_heldBytesResult.f
 repeat' first
  | (with_reducible exact laws_heldByteS.mono _ _ _)
  | (with_reducible exact LeO.refl _)
  | (with_reducible exact LeO.none _)
  | (with_reducible refine LeO.ite ?_ ?_)
  | (with_reducible refine LeO.bind ?_ (fun _ => ?_))
  | exact laws_heldByteS.mono _ _ _
  | exact LeO.none _
  | refine LeO.ite ?_ ?_
  | refine LeO.bind ?_ (fun _ => ?_)
set_option maxHeartbeats 8000000 in
set_option maxRecDepth 100000 in
theorem laws_heldBytesResult.calls (k : Nat) (a0_0 : Int) (A0_1 : Option Addr) (c0_1 : Nat) (l0_1 : List Int) (a1 : Int) (r : Int) (w : World) (hr0_1 : Kd.C (Kd.int .u8) w A0_1 l0_1.length l0_1) (hc0_1 : l0_1.length ≤ c0_1) (h : laws_heldBytesResult.f k a0_0 l0_1 a1 = some r) :
 Calls Try.prog 27 #[.agg #[.int .i64 a0_0, .slice A0_1 l0_1.length c0_1], .int .i64 a1] w fun e w' => e = .returned (.int .i64 r) ∧ Below w.heap.size w w' := by
 have hu27 := Try.underlying27
 have HR0_1 := Aside0.mk hr0_1
 have HC0_1 := Aside0.mk hc0_1
 clear hr0_1 hc0_1
 have HB := Aside0.mk (Below.refl w.heap.size w)
 have H : ((laws_heldByteS.f k l0_1 a1).bind fun t471 => (if t471 < 0 then (some (-1)) else (some t471))) = some r := h
 clear h
 replace H := Option.bind_eq_some_iff.mp H
 obtain ⟨t471, A30, H⟩ := H
 replace H : (if t471 < 0 then (some (-1)) else (some t471)) = some r := H
 have A3 := Aside0.mk A30
 clear A30
 by_cases c4 : t471 < 0
 · rw [if_pos c4] at H
   have c4b0 : decide (t471 < 0) = true := decide_eq_true c4
   clear c4
   obtain rfl := Option.some.inj H
   go_enter Try.func27, Try.ntmps27
   go_wp2_with (first | ((with_reducible refine gate_dst (N := 2) rfl ?_); refine box_event ?hg (N := 2) ?hd (cs := #[.int .i64 a0_0, .slice A0_1 l0_1.length c0_1]) (t := 27) ?hr ?_; (case hd => rfl); (case hg => rfl); (case hr => first | (go_simp; done) | (go_simp; rfl)); intro gb470 hg w5 hbox hb; have BK470 := Aside0.mk (hbox); have GW470 := Aside0.mk ((by rw [hg]; exact below_size pb : w.heap.size ≤ gb470)); have GE470 := GW470; replace HB := Aside0.mk (below_step pb hb); clear hb hbox hg; have hcz6_0 : w5.cell? ⟨gb470, 0, none⟩ = some (.int .i64 a0_0) := (blk_cell BK470.out 0).trans rfl; have hcz6_1 : w5.cell? ⟨gb470, 1, none⟩ = some (.slice A0_1 l0_1.length c0_1) := (blk_cell BK470.out 1).trans rfl; have hfz6_0 := blk_frozen BK470.out 0; have hfz6_1 := blk_frozen BK470.out 1) | ((with_reducible refine gate_callee (f := 74) rfl ?_); refine goesL_ (some 8) rfl rfl Try.func74 (by kernel_rfl) rfl #[.slice A0_1 l0_1.length c0_1, .int .i64 a1] rfl (by (try simp only [List.map_toArray, List.map_cons, List.map_nil]); first | done | rfl | (simp only [List.length_drop, List.length_take]; rfl)) ?_; (with_reducible refine (laws_heldByteS.calls k _ _ l0_1 a1 t471 _ ?side1 ?side2 A3.out).mono ?_); (case side1 => exact upC (Kd.C_below HR0_1.out HB.out)); (case side2 => exact HC0_1.out); rintro e w' ⟨rfl, ⟨nd, rfl⟩⟩; refine ⟨_, rfl, ?_⟩))
   go_ret
   exact ⟨by first | rfl | (simp [errW_none, errW_some] <;> rfl) | (simp [*, errW_none, errW_some] <;> rfl), by repeat (first | (with_reducible first | exact HB.out | apply below_alloc | apply pw_below_drewN | apply below_drew1 | refine below_set ?_ GE470.out) | exact HB.out)⟩
 · rw [if_neg c4] at H
   have c4b0 : decide (t471 < 0) = false := decide_eq_false c4
   clear c4
   obtain rfl := Option.some.inj H
   go_enter Try.func27, Try.ntmps27
   go_wp2_with (first | ((with_reducible refine gate_dst (N := 2) rfl ?_); refine box_event ?hg (N := 2) ?hd (cs := #[.int .i64 a0_0, .slice A0_1 l0_1.length c0_1]) (t := 27) ?hr ?_; (case hd => rfl); (case hg => rfl); (case hr => first | (go_simp; done) | (go_simp; rfl)); intro gb470 hg w7 hbox hb; have BK470 := Aside0.mk (hbox); have GW470 := Aside0.mk ((by rw [hg]; exact below_size pb : w.heap.size ≤ gb470)); have GE470 := GW470; replace HB := Aside0.mk (below_step pb hb); clear hb hbox hg; have hcz8_0 : w7.cell? ⟨gb470, 0, none⟩ = some (.int .i64 a0_0) := (blk_cell BK470.out 0).trans rfl; have hcz8_1 : w7.cell? ⟨gb470, 1, none⟩ = some (.slice A0_1 l0_1.length c0_1) := (blk_cell BK470.out 1).trans rfl; have hfz8_0 := blk_frozen BK470.out 0; have hfz8_1 := blk_frozen BK470.out 1) | ((with_reducible refine gate_callee (f := 74) rfl ?_); refine goesL_ (some 8) rfl rfl Try.func74 (by kernel_rfl) rfl #[.slice A0_1 l0_1.length c0_1, .int .i64 a1] rfl (by (try simp only [List.map_toArray, List.map_cons, List.map_nil]); first | done | rfl | (simp only [List.length_drop, List.length_take]; rfl)) ?_; (with_reducible refine (laws_heldByteS.calls k _ _ l0_1 a1 t471 _ ?side1 ?side2 A3.out).mono ?_); (case side1 => exact upC (Kd.C_below HR0_1.out HB.out)); (case side2 => exact HC0_1.out); rintro e w' ⟨rfl, ⟨nd, rfl⟩⟩; refine ⟨_, rfl, ?_⟩))
   go_ret
   exact ⟨by first | rfl | (simp [errW_none, errW_some] <;> rfl) | (simp [*, errW_none, errW_some] <;> rfl), by repeat (first | (with_reducible first | exact HB.out | apply below_alloc | apply pw_below_drewN | apply below_drew1 | refine below_set ?_ GE470.out) | exact HB.out)⟩

/-! ### laws_szByteS: function 78 -/
def laws_szByteS.f (l0 : List Int) (a1 : Int) : Option (Int) := if (wrap64 (a1 - (l0.length : Int))) < 0 then (some (-1)) else (some (wrap64 (a1 - (l0.length : Int))))
set_option maxHeartbeats 8000000 in
set_option maxRecDepth 100000 in
theorem laws_szByteS.calls (A0 : Option Addr) (c0 : Nat) (l0 : List Int) (a1 : Int) (r : Int) (w : World) (hr0 : Kd.C (Kd.int .u8) w A0 l0.length l0) (hc0 : l0.length ≤ c0) (h : laws_szByteS.f l0 a1 = some r) :
 Calls Try.prog 78 #[.slice A0 l0.length c0, .int .i64 a1] w fun e w' => e = .returned (.int .i64 r) ∧ Drawn0 w w' := by
 have HR0 := Aside0.mk hr0
 have HC0 := Aside0.mk hc0
 clear hr0 hc0
 have H : (if (wrap64 (a1 - (l0.length : Int))) < 0 then (some (-1)) else (some (wrap64 (a1 - (l0.length : Int))))) = some r := h
 clear h
 by_cases c3 : (wrap64 (a1 - (l0.length : Int))) < 0
 · rw [if_pos c3] at H
   have c3b0 : decide ((wrap64 (a1 - (l0.length : Int))) < 0) = true := decide_eq_true c3
   clear c3
   obtain rfl := Option.some.inj H
   go_enter Try.func78, Try.ntmps78
   go_wp2
   go_ret
   exact ⟨by first | rfl | (simp; done) | (simp [*]; done), by repeat (first | exact Drawn0.refl _ | apply Drawn0.step)⟩
 · rw [if_neg c3] at H
   have c3b0 : decide ((wrap64 (a1 - (l0.length : Int))) < 0) = false := decide_eq_false c3
   clear c3
   obtain rfl := Option.some.inj H
   go_enter Try.func78, Try.ntmps78
   go_wp2
   go_ret
   exact ⟨by first | rfl | (simp; done) | (simp [*]; done), by repeat (first | exact Drawn0.refl _ | apply Drawn0.step)⟩

/-! ### laws_szPacket: function 33 -/
def laws_szPacket.f (a0_0 : Int) (a0_1 : Int) (a0_2 : Int) (a0_3 : Int) (a0_4 : Int) (a0_5 : Int) (l0_6 : List Int) (a1 : Int) : Option (Int) := (laws_szByteS.f l0_6 a1).bind fun t637 => (if t637 < 0 then (some (-1)) else (some t637))
set_option maxHeartbeats 8000000 in
set_option maxRecDepth 100000 in
theorem laws_szPacket.calls (a0_0 : Int) (a0_1 : Int) (a0_2 : Int) (a0_3 : Int) (a0_4 : Int) (a0_5 : Int) (A0_6 : Option Addr) (c0_6 : Nat) (l0_6 : List Int) (a1 : Int) (r : Int) (w : World) (hr0_6 : Kd.C (Kd.int .u8) w A0_6 l0_6.length l0_6) (hc0_6 : l0_6.length ≤ c0_6) (h : laws_szPacket.f a0_0 a0_1 a0_2 a0_3 a0_4 a0_5 l0_6 a1 = some r) :
 Calls Try.prog 33 #[.agg #[.int .i64 a0_0, .int .i64 a0_1, .int .i64 a0_2, .int .i64 a0_3, .int .i64 a0_4, .int .i64 a0_5, .slice A0_6 l0_6.length c0_6], .int .i64 a1] w fun e w' => e = .returned (.int .i64 r) ∧ Below w.heap.size w w' := by
 have hu50 := Try.underlying50
 have HR0_6 := Aside0.mk hr0_6
 have HC0_6 := Aside0.mk hc0_6
 clear hr0_6 hc0_6
 have HB := Aside0.mk (Below.refl w.heap.size w)
 have H : ((laws_szByteS.f l0_6 a1).bind fun t637 => (if t637 < 0 then (some (-1)) else (some t637))) = some r := h
 clear h
 replace H := Option.bind_eq_some_iff.mp H
 obtain ⟨t637, A30, H⟩ := H
 replace H : (if t637 < 0 then (some (-1)) else (some t637)) = some r := H
 have A3 := Aside0.mk A30
 clear A30
 by_cases c4 : t637 < 0
 · rw [if_pos c4] at H
   have c4b0 : decide (t637 < 0) = true := decide_eq_true c4
   clear c4
   obtain rfl := Option.some.inj H
   go_enter Try.func33, Try.ntmps33
   go_wp2_with (first | ((with_reducible refine gate_dst (N := 2) rfl ?_); refine box_event ?hg (N := 2) ?hd (cs := #[.int .i64 a0_0, .int .i64 a0_1, .int .i64 a0_2, .int .i64 a0_3, .int .i64 a0_4, .int .i64 a0_5, .slice A0_6 l0_6.length c0_6]) (t := 50) ?hr ?_; (case hd => rfl); (case hg => rfl); (case hr => first | (go_simp; done) | (go_simp; rfl)); intro gb636 hg w5 hbox hb; have BK636 := Aside0.mk (hbox); have GW636 := Aside0.mk ((by rw [hg]; exact below_size pb : w.heap.size ≤ gb636)); have GE636 := GW636; replace HB := Aside0.mk (below_step pb hb); clear hb hbox hg; have hcz6_0 : w5.cell? ⟨gb636, 0, none⟩ = some (.int .i64 a0_0) := (blk_cell BK636.out 0).trans rfl; have hcz6_1 : w5.cell? ⟨gb636, 1, none⟩ = some (.int .i64 a0_1) := (blk_cell BK636.out 1).trans rfl; have hcz6_2 : w5.cell? ⟨gb636, 2, none⟩ = some (.int .i64 a0_2) := (blk_cell BK636.out 2).trans rfl; have hcz6_3 : w5.cell? ⟨gb636, 3, none⟩ = some (.int .i64 a0_3) := (blk_cell BK636.out 3).trans rfl; have hcz6_4 : w5.cell? ⟨gb636, 4, none⟩ = some (.int .i64 a0_4) := (blk_cell BK636.out 4).trans rfl; have hcz6_5 : w5.cell? ⟨gb636, 5, none⟩ = some (.int .i64 a0_5) := (blk_cell BK636.out 5).trans rfl; have hcz6_6 : w5.cell? ⟨gb636, 6, none⟩ = some (.slice A0_6 l0_6.length c0_6) := (blk_cell BK636.out 6).trans rfl; have hfz6_0 := blk_frozen BK636.out 0; have hfz6_1 := blk_frozen BK636.out 1; have hfz6_2 := blk_frozen BK636.out 2; have hfz6_3 := blk_frozen BK636.out 3; have hfz6_4 := blk_frozen BK636.out 4; have hfz6_5 := blk_frozen BK636.out 5; have hfz6_6 := blk_frozen BK636.out 6) | ((with_reducible refine gate_callee (f := 78) rfl ?_); refine goesL_ (some 8) rfl rfl Try.func78 (by kernel_rfl) rfl #[.slice A0_6 l0_6.length c0_6, .int .i64 a1] rfl (by (try simp only [List.map_toArray, List.map_cons, List.map_nil]); first | done | rfl | (simp only [List.length_drop, List.length_take]; rfl)) ?_; (with_reducible refine (laws_szByteS.calls _ _ l0_6 a1 t637 _ ?side1 ?side2 A3.out).mono ?_); (case side1 => exact upC (Kd.C_below HR0_6.out HB.out)); (case side2 => exact HC0_6.out); rintro e w' ⟨rfl, ⟨nd, rfl⟩⟩; refine ⟨_, rfl, ?_⟩))
   go_ret
   exact ⟨by first | rfl | (simp [errW_none, errW_some] <;> rfl) | (simp [*, errW_none, errW_some] <;> rfl), by repeat (first | (with_reducible first | exact HB.out | apply below_alloc | apply pw_below_drewN | apply below_drew1 | refine below_set ?_ GE636.out) | exact HB.out)⟩
 · rw [if_neg c4] at H
   have c4b0 : decide (t637 < 0) = false := decide_eq_false c4
   clear c4
   obtain rfl := Option.some.inj H
   go_enter Try.func33, Try.ntmps33
   go_wp2_with (first | ((with_reducible refine gate_dst (N := 2) rfl ?_); refine box_event ?hg (N := 2) ?hd (cs := #[.int .i64 a0_0, .int .i64 a0_1, .int .i64 a0_2, .int .i64 a0_3, .int .i64 a0_4, .int .i64 a0_5, .slice A0_6 l0_6.length c0_6]) (t := 50) ?hr ?_; (case hd => rfl); (case hg => rfl); (case hr => first | (go_simp; done) | (go_simp; rfl)); intro gb636 hg w7 hbox hb; have BK636 := Aside0.mk (hbox); have GW636 := Aside0.mk ((by rw [hg]; exact below_size pb : w.heap.size ≤ gb636)); have GE636 := GW636; replace HB := Aside0.mk (below_step pb hb); clear hb hbox hg; have hcz8_0 : w7.cell? ⟨gb636, 0, none⟩ = some (.int .i64 a0_0) := (blk_cell BK636.out 0).trans rfl; have hcz8_1 : w7.cell? ⟨gb636, 1, none⟩ = some (.int .i64 a0_1) := (blk_cell BK636.out 1).trans rfl; have hcz8_2 : w7.cell? ⟨gb636, 2, none⟩ = some (.int .i64 a0_2) := (blk_cell BK636.out 2).trans rfl; have hcz8_3 : w7.cell? ⟨gb636, 3, none⟩ = some (.int .i64 a0_3) := (blk_cell BK636.out 3).trans rfl; have hcz8_4 : w7.cell? ⟨gb636, 4, none⟩ = some (.int .i64 a0_4) := (blk_cell BK636.out 4).trans rfl; have hcz8_5 : w7.cell? ⟨gb636, 5, none⟩ = some (.int .i64 a0_5) := (blk_cell BK636.out 5).trans rfl; have hcz8_6 : w7.cell? ⟨gb636, 6, none⟩ = some (.slice A0_6 l0_6.length c0_6) := (blk_cell BK636.out 6).trans rfl; have hfz8_0 := blk_frozen BK636.out 0; have hfz8_1 := blk_frozen BK636.out 1; have hfz8_2 := blk_frozen BK636.out 2; have hfz8_3 := blk_frozen BK636.out 3; have hfz8_4 := blk_frozen BK636.out 4; have hfz8_5 := blk_frozen BK636.out 5; have hfz8_6 := blk_frozen BK636.out 6) | ((with_reducible refine gate_callee (f := 78) rfl ?_); refine goesL_ (some 8) rfl rfl Try.func78 (by kernel_rfl) rfl #[.slice A0_6 l0_6.length c0_6, .int .i64 a1] rfl (by (try simp only [List.map_toArray, List.map_cons, List.map_nil]); first | done | rfl | (simp only [List.length_drop, List.length_take]; rfl)) ?_; (with_reducible refine (laws_szByteS.calls _ _ l0_6 a1 t637 _ ?side1 ?side2 A3.out).mono ?_); (case side1 => exact upC (Kd.C_below HR0_6.out HB.out)); (case side2 => exact HC0_6.out); rintro e w' ⟨rfl, ⟨nd, rfl⟩⟩; refine ⟨_, rfl, ?_⟩))
   go_ret
   exact ⟨by first | rfl | (simp [errW_none, errW_some] <;> rfl) | (simp [*, errW_none, errW_some] <;> rfl), by repeat (first | (with_reducible first | exact HB.out | apply below_alloc | apply pw_below_drewN | apply below_drew1 | refine below_set ?_ GE636.out) | exact HB.out)⟩

/-! ### spec_HasPorts: function 118 -/
def spec_HasPorts.f (a0 : Int) : Option (Bool) := if a0 = 6 then (some true) else (some (a0 == 17))
set_option maxHeartbeats 8000000 in
set_option maxRecDepth 100000 in
theorem spec_HasPorts.calls (a0 : Int) (r : Bool) (w : World) (h : spec_HasPorts.f a0 = some r) :
 Calls Try.prog 118 #[.int .i64 a0] w fun e w' => e = .returned (.bool r) ∧ Drawn0 w w' := by
 have H : (if a0 = 6 then (some true) else (some (a0 == 17))) = some r := h
 clear h
 by_cases c2 : a0 = 6
 · rw [if_pos c2] at H
   have c2b0 : (a0 == 6) = true := beq_iff_eq.mpr c2
   have c2b1 : (a0 != 6) = false := bne_eq_false_iff_eq.mpr c2
   clear c2
   obtain rfl := Option.some.inj H
   go_enter Try.func118, Try.ntmps118
   go_wp2
   go_ret
   exact ⟨by first | rfl | (simp; done) | (simp [*]; done), by repeat (first | exact Drawn0.refl _ | apply Drawn0.step)⟩
 · rw [if_neg c2] at H
   have c2b0 : (a0 == 6) = false := beq_eq_false_iff_ne.mpr c2
   have c2b1 : (a0 != 6) = true := bne_iff_ne.mpr c2
   obtain rfl := Option.some.inj H
   go_enter Try.func118, Try.ntmps118
   go_wp2
   go_ret
   exact ⟨by first | rfl | (simp; done) | (simp [*]; done), by repeat (first | exact Drawn0.refl _ | apply Drawn0.step)⟩

/-! ### spec_l2Address: function 122 -/
def spec_l2Address.f (a0 : Int) : Option (Bool) := (spec_l1In.f a0 0 4294967295).bind fun t638 => (some t638)
set_option maxHeartbeats 8000000 in
set_option maxRecDepth 100000 in
theorem spec_l2Address.calls (a0 : Int) (r : Bool) (w : World) (h : spec_l2Address.f a0 = some r) :
 Calls Try.prog 122 #[.int .i64 a0] w fun e w' => e = .returned (.bool r) ∧ Drawn0 w w' := by
 have H : ((spec_l1In.f a0 0 4294967295).bind fun t638 => (some t638)) = some r := h
 clear h
 replace H := Option.bind_eq_some_iff.mp H
 obtain ⟨t638, A20, H⟩ := H
 replace H : (some t638) = some r := H
 have A2 := Aside0.mk A20
 clear A20
 obtain rfl := Option.some.inj H
 go_enter Try.func122, Try.ntmps122
 go_wp2_with (first | ((with_reducible refine gate_callee (f := 54) rfl ?_); refine goesL_ (some 4) rfl rfl Try.func54 (by kernel_rfl) rfl #[.int .i64 a0, .int .i64 0, .int .i64 4294967295] rfl (by (try simp only [List.map_toArray, List.map_cons, List.map_nil]); first | done | rfl | (simp only [List.length_drop, List.length_take]; rfl)) ?_; (with_reducible refine (spec_l1In.calls a0 0 4294967295 t638 _ A2.out).mono ?_); rintro e w' ⟨rfl, ⟨nd, rfl⟩⟩; refine ⟨_, rfl, ?_⟩))
 go_ret
 exact ⟨by first | rfl | (simp; done) | (simp [*]; done), by repeat (first | exact Drawn0.refl _ | apply Drawn0.step)⟩

/-! ### spec_l2Port: function 123 -/
def spec_l2Port.f (a0 : Int) : Option (Bool) := (spec_l1In.f a0 0 65535).bind fun t639 => (some t639)
set_option maxHeartbeats 8000000 in
set_option maxRecDepth 100000 in
theorem spec_l2Port.calls (a0 : Int) (r : Bool) (w : World) (h : spec_l2Port.f a0 = some r) :
 Calls Try.prog 123 #[.int .i64 a0] w fun e w' => e = .returned (.bool r) ∧ Drawn0 w w' := by
 have H : ((spec_l1In.f a0 0 65535).bind fun t639 => (some t639)) = some r := h
 clear h
 replace H := Option.bind_eq_some_iff.mp H
 obtain ⟨t639, A20, H⟩ := H
 replace H : (some t639) = some r := H
 have A2 := Aside0.mk A20
 clear A20
 obtain rfl := Option.some.inj H
 go_enter Try.func123, Try.ntmps123
 go_wp2_with (first | ((with_reducible refine gate_callee (f := 54) rfl ?_); refine goesL_ (some 4) rfl rfl Try.func54 (by kernel_rfl) rfl #[.int .i64 a0, .int .i64 0, .int .i64 65535] rfl (by (try simp only [List.map_toArray, List.map_cons, List.map_nil]); first | done | rfl | (simp only [List.length_drop, List.length_take]; rfl)) ?_; (with_reducible refine (spec_l1In.calls a0 0 65535 t639 _ A2.out).mono ?_); rintro e w' ⟨rfl, ⟨nd, rfl⟩⟩; refine ⟨_, rfl, ?_⟩))
 go_ret
 exact ⟨by first | rfl | (simp; done) | (simp [*]; done), by repeat (first | exact Drawn0.refl _ | apply Drawn0.step)⟩

/-! ### spec_PacketFault: function 109 -/
mutual
def spec_PacketFault.j0 : Nat → Bool → Int → Int → Int → Int → Int → Int → List Int → Option (Int)
 | 0, _, _, _, _, _, _, _, _ => none
 | k + 1, x36, x641000, x641001, x641002, x641003, x641004, x641005, x641006 => if x36 = true then (some 3) else ((spec_HasPorts.f x641002).bind fun t647 => (if t647 = true then (spec_PacketFault.j1 k false x641000 x641001 x641002 x641003 x641004 x641005 x641006) else (if x641004 = 0 then (spec_PacketFault.j1 k (x641005 != 0) x641000 x641001 x641002 x641003 x641004 x641005 x641006) else (spec_PacketFault.j1 k true x641000 x641001 x641002 x641003 x641004 x641005 x641006))))
def spec_PacketFault.j1 : Nat → Bool → Int → Int → Int → Int → Int → Int → List Int → Option (Int)
 | 0, _, _, _, _, _, _, _, _ => none
 | k + 1, x50, x641000, x641001, x641002, x641003, x641004, x641005, x641006 => if x50 = true then (some 1) else (if (x641006.length : Int) > 200 then (some 2) else (some 0))
end
def spec_PacketFault.f (k : Nat) (a0_0 : Int) (a0_1 : Int) (a0_2 : Int) (a0_3 : Int) (a0_4 : Int) (a0_5 : Int) (l0_6 : List Int) : Option (Int) := (spec_l2Address.f a0_0).bind fun t641 => (if t641 = true then ((spec_l2Address.f a0_1).bind fun t642 => (if t642 = true then ((spec_l1In.f a0_2 1 255).bind fun t643 => (if t643 = true then ((spec_l1In.f a0_3 1 255).bind fun t644 => (if t644 = true then ((spec_l2Port.f a0_4).bind fun t645 => (if t645 = true then ((spec_l2Port.f a0_5).bind fun t646 => (spec_PacketFault.j0 k (!t646) a0_0 a0_1 a0_2 a0_3 a0_4 a0_5 l0_6)) else (spec_PacketFault.j0 k true a0_0 a0_1 a0_2 a0_3 a0_4 a0_5 l0_6))) else (spec_PacketFault.j0 k true a0_0 a0_1 a0_2 a0_3 a0_4 a0_5 l0_6))) else (spec_PacketFault.j0 k true a0_0 a0_1 a0_2 a0_3 a0_4 a0_5 l0_6))) else (spec_PacketFault.j0 k true a0_0 a0_1 a0_2 a0_3 a0_4 a0_5 l0_6))) else (spec_PacketFault.j0 k true a0_0 a0_1 a0_2 a0_3 a0_4 a0_5 l0_6))
theorem spec_PacketFault.mono_l : ∀ k, (∀ y0 y1 y2 y3 y4 y5 y6 y7, LeO (spec_PacketFault.j0 k y0 y1 y2 y3 y4 y5 y6 y7) (spec_PacketFault.j0 (k + 1) y0 y1 y2 y3 y4 y5 y6 y7)) ∧ (∀ y0 y1 y2 y3 y4 y5 y6 y7, LeO (spec_PacketFault.j1 k y0 y1 y2 y3 y4 y5 y6 y7) (spec_PacketFault.j1 (k + 1) y0 y1 y2 y3 y4 y5 y6 y7))
 | 0 => ⟨fun _ _ _ _ _ _ _ _ r h => by simp [spec_PacketFault.j0] at h, fun _ _ _ _ _ _ _ _ r h => by simp [spec_PacketFault.j1] at h⟩
 | k + 1 => by
  obtain ⟨ih0, ih1⟩ := spec_PacketFault.mono_l k
  refine ⟨?_, ?_⟩
  · intro y0 y1 y2 y3 y4 y5 y6 y7
    unfold spec_PacketFault.j0
    repeat' first
    | (with_reducible exact ih0 _ _ _ _ _ _ _ _)
    | (with_reducible exact ih1 _ _ _ _ _ _ _ _)
    | (with_reducible exact LeO.refl _)
    | (with_reducible exact LeO.none _)
    | (with_reducible refine LeO.ite ?_ ?_)
    | (with_reducible refine LeO.bind ?_ (fun _ => ?_))
    | exact ih0 _ _ _ _ _ _ _ _
    | exact ih1 _ _ _ _ _ _ _ _
    | exact LeO.none _
    | refine LeO.ite ?_ ?_
    | refine LeO.bind ?_ (fun _ => ?_)
  · intro y0 y1 y2 y3 y4 y5 y6 y7
    unfold spec_PacketFault.j1
    repeat' first
    | (with_reducible exact ih0 _ _ _ _ _ _ _ _)
    | (with_reducible exact ih1 _ _ _ _ _ _ _ _)
    | (with_reducible exact LeO.refl _)
    | (with_reducible exact LeO.none _)
    | (with_reducible refine LeO.ite ?_ ?_)
    | (with_reducible refine LeO.bind ?_ (fun _ => ?_))
    | exact ih0 _ _ _ _ _ _ _ _
    | exact ih1 _ _ _ _ _ _ _ _
    | exact LeO.none _
    | refine LeO.ite ?_ ?_
    | refine LeO.bind ?_ (fun _ => ?_)
theorem spec_PacketFault.mono : ∀ a0 a1 a2 a3 a4 a5 a6 k, LeO (spec_PacketFault.f k a0 a1 a2 a3 a4 a5 a6) (spec_PacketFault.f (k + 1) a0 a1 a2 a3 a4 a5 a6) := by
 intro a0 a1 a2 a3 a4 a5 a6 k
 obtain ⟨ih0, ih1⟩ := spec_PacketFault.mono_l k
 unfold spec_PacketFault.f
 repeat' first
  | (with_reducible exact ih0 _ _ _ _ _ _ _ _)
  | (with_reducible exact ih1 _ _ _ _ _ _ _ _)
  | (with_reducible exact LeO.refl _)
  | (with_reducible exact LeO.none _)
  | (with_reducible refine LeO.ite ?_ ?_)
  | (with_reducible refine LeO.bind ?_ (fun _ => ?_))
  | exact ih0 _ _ _ _ _ _ _ _
  | exact ih1 _ _ _ _ _ _ _ _
  | exact LeO.none _
  | refine LeO.ite ?_ ?_
  | refine LeO.bind ?_ (fun _ => ?_)
set_option maxHeartbeats 8000000 in
set_option maxRecDepth 100000 in
theorem spec_PacketFault.calls (k : Nat) (a0_0 : Int) (a0_1 : Int) (a0_2 : Int) (a0_3 : Int) (a0_4 : Int) (a0_5 : Int) (A0_6 : Option Addr) (c0_6 : Nat) (l0_6 : List Int) (r : Int) (w : World) (hr0_6 : Kd.C (Kd.int .u8) w A0_6 l0_6.length l0_6) (hc0_6 : l0_6.length ≤ c0_6) (h : spec_PacketFault.f k a0_0 a0_1 a0_2 a0_3 a0_4 a0_5 l0_6 = some r) :
 Calls Try.prog 109 #[.agg #[.int .i64 a0_0, .int .i64 a0_1, .int .i64 a0_2, .int .i64 a0_3, .int .i64 a0_4, .int .i64 a0_5, .slice A0_6 l0_6.length c0_6]] w fun e w' => e = .returned (.int .i64 r) ∧ Below w.heap.size w w' := by
 have hu53 := Try.underlying53
 have HR0_6 := Aside0.mk hr0_6
 have HC0_6 := Aside0.mk hc0_6
 clear hr0_6 hc0_6
 have HB := Aside0.mk (Below.refl w.heap.size w)
 have H : ((spec_l2Address.f a0_0).bind fun t641 => (if t641 = true then ((spec_l2Address.f a0_1).bind fun t642 => (if t642 = true then ((spec_l1In.f a0_2 1 255).bind fun t643 => (if t643 = true then ((spec_l1In.f a0_3 1 255).bind fun t644 => (if t644 = true then ((spec_l2Port.f a0_4).bind fun t645 => (if t645 = true then ((spec_l2Port.f a0_5).bind fun t646 => (spec_PacketFault.j0 k (!t646) a0_0 a0_1 a0_2 a0_3 a0_4 a0_5 l0_6)) else (spec_PacketFault.j0 k true a0_0 a0_1 a0_2 a0_3 a0_4 a0_5 l0_6))) else (spec_PacketFault.j0 k true a0_0 a0_1 a0_2 a0_3 a0_4 a0_5 l0_6))) else (spec_PacketFault.j0 k true a0_0 a0_1 a0_2 a0_3 a0_4 a0_5 l0_6))) else (spec_PacketFault.j0 k true a0_0 a0_1 a0_2 a0_3 a0_4 a0_5 l0_6))) else (spec_PacketFault.j0 k true a0_0 a0_1 a0_2 a0_3 a0_4 a0_5 l0_6))) = some r := h
 clear h
 have HC2 := Aside0.mk H
 clear H
 go_enter Try.func109, Try.ntmps109
 go_upto_region 1 with (first | ((with_reducible refine gate_dst (N := 1) rfl ?_); refine box_event ?hg (N := 1) ?hd (cs := #[.int .i64 a0_0, .int .i64 a0_1, .int .i64 a0_2, .int .i64 a0_3, .int .i64 a0_4, .int .i64 a0_5, .slice A0_6 l0_6.length c0_6]) (t := 53) ?hr ?_; (case hd => rfl); (case hg => rfl); (case hr => first | (go_simp; done) | (go_simp; rfl)); intro gb640 hg w3 hbox hb; have BK640 := Aside0.mk (hbox); have GW640 := Aside0.mk ((by rw [hg]; exact below_size pb : w.heap.size ≤ gb640)); have GE640 := GW640; replace HB := Aside0.mk (below_step pb hb); clear hb hbox hg))
 (try simp only [Act.put, List.setIfInBounds_toArray, List.set_cons_zero, List.set_cons_succ])
 go_cut [36] (fun v36 wc => ∃ (kq : Nat) (x36_1 : Bool), v36 = .bool x36_1 ∧ Aside0 (spec_PacketFault.j0 kq x36_1 a0_0 a0_1 a0_2 a0_3 a0_4 a0_5 l0_6 = some r) ∧ Aside0 (kq ≤ k) ∧ Aside0 (wc.heap[gb640]? = some (.cells #[.int .i64 a0_0, .int .i64 a0_1, .int .i64 a0_2, .int .i64 a0_3, .int .i64 a0_4, .int .i64 a0_5, (.slice A0_6 l0_6.length c0_6)] 53 (0, 0))) ∧ Aside0 (Below w.heap.size w wc))
 case first =>
  have H := HC2.out
  clear HC2
  replace H := Option.bind_eq_some_iff.mp H
  obtain ⟨t641, A40, H⟩ := H
  replace H : (if t641 = true then ((spec_l2Address.f a0_1).bind fun t642 => (if t642 = true then ((spec_l1In.f a0_2 1 255).bind fun t643 => (if t643 = true then ((spec_l1In.f a0_3 1 255).bind fun t644 => (if t644 = true then ((spec_l2Port.f a0_4).bind fun t645 => (if t645 = true then ((spec_l2Port.f a0_5).bind fun t646 => (spec_PacketFault.j0 k (!t646) a0_0 a0_1 a0_2 a0_3 a0_4 a0_5 l0_6)) else (spec_PacketFault.j0 k true a0_0 a0_1 a0_2 a0_3 a0_4 a0_5 l0_6))) else (spec_PacketFault.j0 k true a0_0 a0_1 a0_2 a0_3 a0_4 a0_5 l0_6))) else (spec_PacketFault.j0 k true a0_0 a0_1 a0_2 a0_3 a0_4 a0_5 l0_6))) else (spec_PacketFault.j0 k true a0_0 a0_1 a0_2 a0_3 a0_4 a0_5 l0_6))) else (spec_PacketFault.j0 k true a0_0 a0_1 a0_2 a0_3 a0_4 a0_5 l0_6)) = some r := H
  have A4 := Aside0.mk A40
  clear A40
  by_cases c5 : t641 = true
  · subst c5
    have H1 : ((spec_l2Address.f a0_1).bind fun t642 => (if t642 = true then ((spec_l1In.f a0_2 1 255).bind fun t643 => (if t643 = true then ((spec_l1In.f a0_3 1 255).bind fun t644 => (if t644 = true then ((spec_l2Port.f a0_4).bind fun t645 => (if t645 = true then ((spec_l2Port.f a0_5).bind fun t646 => (spec_PacketFault.j0 k (!t646) a0_0 a0_1 a0_2 a0_3 a0_4 a0_5 l0_6)) else (spec_PacketFault.j0 k true a0_0 a0_1 a0_2 a0_3 a0_4 a0_5 l0_6))) else (spec_PacketFault.j0 k true a0_0 a0_1 a0_2 a0_3 a0_4 a0_5 l0_6))) else (spec_PacketFault.j0 k true a0_0 a0_1 a0_2 a0_3 a0_4 a0_5 l0_6))) else (spec_PacketFault.j0 k true a0_0 a0_1 a0_2 a0_3 a0_4 a0_5 l0_6))) = some r := by rw [if_pos rfl] at H; exact H
    clear H
    have H := H1
    clear H1
    replace H := Option.bind_eq_some_iff.mp H
    obtain ⟨t642, A60, H⟩ := H
    replace H : (if t642 = true then ((spec_l1In.f a0_2 1 255).bind fun t643 => (if t643 = true then ((spec_l1In.f a0_3 1 255).bind fun t644 => (if t644 = true then ((spec_l2Port.f a0_4).bind fun t645 => (if t645 = true then ((spec_l2Port.f a0_5).bind fun t646 => (spec_PacketFault.j0 k (!t646) a0_0 a0_1 a0_2 a0_3 a0_4 a0_5 l0_6)) else (spec_PacketFault.j0 k true a0_0 a0_1 a0_2 a0_3 a0_4 a0_5 l0_6))) else (spec_PacketFault.j0 k true a0_0 a0_1 a0_2 a0_3 a0_4 a0_5 l0_6))) else (spec_PacketFault.j0 k true a0_0 a0_1 a0_2 a0_3 a0_4 a0_5 l0_6))) else (spec_PacketFault.j0 k true a0_0 a0_1 a0_2 a0_3 a0_4 a0_5 l0_6)) = some r := H
    have A6 := Aside0.mk A60
    clear A60
    by_cases c7 : t642 = true
    · subst c7
      have H1 : ((spec_l1In.f a0_2 1 255).bind fun t643 => (if t643 = true then ((spec_l1In.f a0_3 1 255).bind fun t644 => (if t644 = true then ((spec_l2Port.f a0_4).bind fun t645 => (if t645 = true then ((spec_l2Port.f a0_5).bind fun t646 => (spec_PacketFault.j0 k (!t646) a0_0 a0_1 a0_2 a0_3 a0_4 a0_5 l0_6)) else (spec_PacketFault.j0 k true a0_0 a0_1 a0_2 a0_3 a0_4 a0_5 l0_6))) else (spec_PacketFault.j0 k true a0_0 a0_1 a0_2 a0_3 a0_4 a0_5 l0_6))) else (spec_PacketFault.j0 k true a0_0 a0_1 a0_2 a0_3 a0_4 a0_5 l0_6))) = some r := by rw [if_pos rfl] at H; exact H
      clear H
      have H := H1
      clear H1
      replace H := Option.bind_eq_some_iff.mp H
      obtain ⟨t643, A80, H⟩ := H
      replace H : (if t643 = true then ((spec_l1In.f a0_3 1 255).bind fun t644 => (if t644 = true then ((spec_l2Port.f a0_4).bind fun t645 => (if t645 = true then ((spec_l2Port.f a0_5).bind fun t646 => (spec_PacketFault.j0 k (!t646) a0_0 a0_1 a0_2 a0_3 a0_4 a0_5 l0_6)) else (spec_PacketFault.j0 k true a0_0 a0_1 a0_2 a0_3 a0_4 a0_5 l0_6))) else (spec_PacketFault.j0 k true a0_0 a0_1 a0_2 a0_3 a0_4 a0_5 l0_6))) else (spec_PacketFault.j0 k true a0_0 a0_1 a0_2 a0_3 a0_4 a0_5 l0_6)) = some r := H
      have A8 := Aside0.mk A80
      clear A80
      by_cases c9 : t643 = true
      · subst c9
        have H1 : ((spec_l1In.f a0_3 1 255).bind fun t644 => (if t644 = true then ((spec_l2Port.f a0_4).bind fun t645 => (if t645 = true then ((spec_l2Port.f a0_5).bind fun t646 => (spec_PacketFault.j0 k (!t646) a0_0 a0_1 a0_2 a0_3 a0_4 a0_5 l0_6)) else (spec_PacketFault.j0 k true a0_0 a0_1 a0_2 a0_3 a0_4 a0_5 l0_6))) else (spec_PacketFault.j0 k true a0_0 a0_1 a0_2 a0_3 a0_4 a0_5 l0_6))) = some r := by rw [if_pos rfl] at H; exact H
        clear H
        have H := H1
        clear H1
        replace H := Option.bind_eq_some_iff.mp H
        obtain ⟨t644, A100, H⟩ := H
        replace H : (if t644 = true then ((spec_l2Port.f a0_4).bind fun t645 => (if t645 = true then ((spec_l2Port.f a0_5).bind fun t646 => (spec_PacketFault.j0 k (!t646) a0_0 a0_1 a0_2 a0_3 a0_4 a0_5 l0_6)) else (spec_PacketFault.j0 k true a0_0 a0_1 a0_2 a0_3 a0_4 a0_5 l0_6))) else (spec_PacketFault.j0 k true a0_0 a0_1 a0_2 a0_3 a0_4 a0_5 l0_6)) = some r := H
        have A10 := Aside0.mk A100
        clear A100
        by_cases c11 : t644 = true
        · subst c11
          have H1 : ((spec_l2Port.f a0_4).bind fun t645 => (if t645 = true then ((spec_l2Port.f a0_5).bind fun t646 => (spec_PacketFault.j0 k (!t646) a0_0 a0_1 a0_2 a0_3 a0_4 a0_5 l0_6)) else (spec_PacketFault.j0 k true a0_0 a0_1 a0_2 a0_3 a0_4 a0_5 l0_6))) = some r := by rw [if_pos rfl] at H; exact H
          clear H
          have H := H1
          clear H1
          replace H := Option.bind_eq_some_iff.mp H
          obtain ⟨t645, A120, H⟩ := H
          replace H : (if t645 = true then ((spec_l2Port.f a0_5).bind fun t646 => (spec_PacketFault.j0 k (!t646) a0_0 a0_1 a0_2 a0_3 a0_4 a0_5 l0_6)) else (spec_PacketFault.j0 k true a0_0 a0_1 a0_2 a0_3 a0_4 a0_5 l0_6)) = some r := H
          have A12 := Aside0.mk A120
          clear A120
          by_cases c13 : t645 = true
          · subst c13
            have H1 : ((spec_l2Port.f a0_5).bind fun t646 => (spec_PacketFault.j0 k (!t646) a0_0 a0_1 a0_2 a0_3 a0_4 a0_5 l0_6)) = some r := by rw [if_pos rfl] at H; exact H
            clear H
            have H := H1
            clear H1
            replace H := Option.bind_eq_some_iff.mp H
            obtain ⟨t646, A140, H⟩ := H
            replace H : (spec_PacketFault.j0 k (!t646) a0_0 a0_1 a0_2 a0_3 a0_4 a0_5 l0_6) = some r := H
            have A14 := Aside0.mk A140
            clear A140
            have H' := Aside0.mk H
            clear H
            have hcz15_0 : w3.cell? ⟨gb640, 0, none⟩ = some (.int .i64 a0_0) := (blk_cell BK640.out 0).trans rfl
            have hcz15_1 : w3.cell? ⟨gb640, 1, none⟩ = some (.int .i64 a0_1) := (blk_cell BK640.out 1).trans rfl
            have hcz15_2 : w3.cell? ⟨gb640, 2, none⟩ = some (.int .i64 a0_2) := (blk_cell BK640.out 2).trans rfl
            have hcz15_3 : w3.cell? ⟨gb640, 3, none⟩ = some (.int .i64 a0_3) := (blk_cell BK640.out 3).trans rfl
            have hcz15_4 : w3.cell? ⟨gb640, 4, none⟩ = some (.int .i64 a0_4) := (blk_cell BK640.out 4).trans rfl
            have hcz15_5 : w3.cell? ⟨gb640, 5, none⟩ = some (.int .i64 a0_5) := (blk_cell BK640.out 5).trans rfl
            have hcz15_6 : w3.cell? ⟨gb640, 6, none⟩ = some (.slice A0_6 l0_6.length c0_6) := (blk_cell BK640.out 6).trans rfl
            have hfz15_0 := blk_frozen BK640.out 0
            have hfz15_1 := blk_frozen BK640.out 1
            have hfz15_2 := blk_frozen BK640.out 2
            have hfz15_3 := blk_frozen BK640.out 3
            have hfz15_4 := blk_frozen BK640.out 4
            have hfz15_5 := blk_frozen BK640.out 5
            have hfz15_6 := blk_frozen BK640.out 6
            go_wp2_with (first | ((with_reducible refine gate_callee (f := 122) rfl ?_); refine goesL_ (some 5) rfl rfl Try.func122 (by kernel_rfl) rfl #[.int .i64 a0_0] rfl (by (try simp only [List.map_toArray, List.map_cons, List.map_nil]); first | done | rfl | (simp only [List.length_drop, List.length_take]; rfl)) ?_; (with_reducible refine (spec_l2Address.calls a0_0 true _ A4.out).mono ?_); rintro e w' ⟨rfl, ⟨nd, rfl⟩⟩; refine ⟨_, rfl, ?_⟩) | (go_at_call 122; (with_reducible refine (spec_l2Address.calls a0_1 true _ A6.out).mono ?_); rintro e w' ⟨rfl, ⟨nd, rfl⟩⟩) | (go_at_call 54; (with_reducible refine (spec_l1In.calls a0_2 1 255 true _ A8.out).mono ?_); rintro e w' ⟨rfl, ⟨nd, rfl⟩⟩) | (go_at_call 54; (with_reducible refine (spec_l1In.calls a0_3 1 255 true _ A10.out).mono ?_); rintro e w' ⟨rfl, ⟨nd, rfl⟩⟩) | (go_at_call 123; (with_reducible refine (spec_l2Port.calls a0_4 true _ A12.out).mono ?_); rintro e w' ⟨rfl, ⟨nd, rfl⟩⟩) | (go_at_call 123; (with_reducible refine (spec_l2Port.calls a0_5 t646 _ A14.out).mono ?_); rintro e w' ⟨rfl, ⟨nd, rfl⟩⟩))
            go_meet
            case rel => exact ⟨_, (!t646), (by first | rfl | (simp; done) | (simp [*]; done)), H', ⟨by first | omega | exact Nat.le_refl _⟩, ⟨up BK640.out⟩, ⟨by repeat (first | (with_reducible first | exact HB.out | apply below_alloc | apply pw_below_drewN | apply below_drew1 | refine below_set ?_ GE640.out) | exact HB.out)⟩⟩
          · replace c13 := Bool.eq_false_iff.mpr c13
            subst c13
            have H1 : (spec_PacketFault.j0 k true a0_0 a0_1 a0_2 a0_3 a0_4 a0_5 l0_6) = some r := by rw [if_neg (show ¬ (false = true) by decide)] at H; exact H
            clear H
            have H := H1
            clear H1
            have H' := Aside0.mk H
            clear H
            have hcz16_0 : w3.cell? ⟨gb640, 0, none⟩ = some (.int .i64 a0_0) := (blk_cell BK640.out 0).trans rfl
            have hcz16_1 : w3.cell? ⟨gb640, 1, none⟩ = some (.int .i64 a0_1) := (blk_cell BK640.out 1).trans rfl
            have hcz16_2 : w3.cell? ⟨gb640, 2, none⟩ = some (.int .i64 a0_2) := (blk_cell BK640.out 2).trans rfl
            have hcz16_3 : w3.cell? ⟨gb640, 3, none⟩ = some (.int .i64 a0_3) := (blk_cell BK640.out 3).trans rfl
            have hcz16_4 : w3.cell? ⟨gb640, 4, none⟩ = some (.int .i64 a0_4) := (blk_cell BK640.out 4).trans rfl
            have hcz16_5 : w3.cell? ⟨gb640, 5, none⟩ = some (.int .i64 a0_5) := (blk_cell BK640.out 5).trans rfl
            have hcz16_6 : w3.cell? ⟨gb640, 6, none⟩ = some (.slice A0_6 l0_6.length c0_6) := (blk_cell BK640.out 6).trans rfl
            have hfz16_0 := blk_frozen BK640.out 0
            have hfz16_1 := blk_frozen BK640.out 1
            have hfz16_2 := blk_frozen BK640.out 2
            have hfz16_3 := blk_frozen BK640.out 3
            have hfz16_4 := blk_frozen BK640.out 4
            have hfz16_5 := blk_frozen BK640.out 5
            have hfz16_6 := blk_frozen BK640.out 6
            go_wp2_with (first | ((with_reducible refine gate_callee (f := 122) rfl ?_); refine goesL_ (some 5) rfl rfl Try.func122 (by kernel_rfl) rfl #[.int .i64 a0_0] rfl (by (try simp only [List.map_toArray, List.map_cons, List.map_nil]); first | done | rfl | (simp only [List.length_drop, List.length_take]; rfl)) ?_; (with_reducible refine (spec_l2Address.calls a0_0 true _ A4.out).mono ?_); rintro e w' ⟨rfl, ⟨nd, rfl⟩⟩; refine ⟨_, rfl, ?_⟩) | (go_at_call 122; (with_reducible refine (spec_l2Address.calls a0_1 true _ A6.out).mono ?_); rintro e w' ⟨rfl, ⟨nd, rfl⟩⟩) | (go_at_call 54; (with_reducible refine (spec_l1In.calls a0_2 1 255 true _ A8.out).mono ?_); rintro e w' ⟨rfl, ⟨nd, rfl⟩⟩) | (go_at_call 54; (with_reducible refine (spec_l1In.calls a0_3 1 255 true _ A10.out).mono ?_); rintro e w' ⟨rfl, ⟨nd, rfl⟩⟩) | (go_at_call 123; (with_reducible refine (spec_l2Port.calls a0_4 false _ A12.out).mono ?_); rintro e w' ⟨rfl, ⟨nd, rfl⟩⟩))
            go_meet
            case rel => exact ⟨_, (true), (by first | rfl | (simp; done) | (simp [*]; done)), H', ⟨by first | omega | exact Nat.le_refl _⟩, ⟨up BK640.out⟩, ⟨by repeat (first | (with_reducible first | exact HB.out | apply below_alloc | apply pw_below_drewN | apply below_drew1 | refine below_set ?_ GE640.out) | exact HB.out)⟩⟩
        · replace c11 := Bool.eq_false_iff.mpr c11
          subst c11
          have H1 : (spec_PacketFault.j0 k true a0_0 a0_1 a0_2 a0_3 a0_4 a0_5 l0_6) = some r := by rw [if_neg (show ¬ (false = true) by decide)] at H; exact H
          clear H
          have H := H1
          clear H1
          have H' := Aside0.mk H
          clear H
          have hcz17_0 : w3.cell? ⟨gb640, 0, none⟩ = some (.int .i64 a0_0) := (blk_cell BK640.out 0).trans rfl
          have hcz17_1 : w3.cell? ⟨gb640, 1, none⟩ = some (.int .i64 a0_1) := (blk_cell BK640.out 1).trans rfl
          have hcz17_2 : w3.cell? ⟨gb640, 2, none⟩ = some (.int .i64 a0_2) := (blk_cell BK640.out 2).trans rfl
          have hcz17_3 : w3.cell? ⟨gb640, 3, none⟩ = some (.int .i64 a0_3) := (blk_cell BK640.out 3).trans rfl
          have hcz17_4 : w3.cell? ⟨gb640, 4, none⟩ = some (.int .i64 a0_4) := (blk_cell BK640.out 4).trans rfl
          have hcz17_5 : w3.cell? ⟨gb640, 5, none⟩ = some (.int .i64 a0_5) := (blk_cell BK640.out 5).trans rfl
          have hcz17_6 : w3.cell? ⟨gb640, 6, none⟩ = some (.slice A0_6 l0_6.length c0_6) := (blk_cell BK640.out 6).trans rfl
          have hfz17_0 := blk_frozen BK640.out 0
          have hfz17_1 := blk_frozen BK640.out 1
          have hfz17_2 := blk_frozen BK640.out 2
          have hfz17_3 := blk_frozen BK640.out 3
          have hfz17_4 := blk_frozen BK640.out 4
          have hfz17_5 := blk_frozen BK640.out 5
          have hfz17_6 := blk_frozen BK640.out 6
          go_wp2_with (first | ((with_reducible refine gate_callee (f := 122) rfl ?_); refine goesL_ (some 5) rfl rfl Try.func122 (by kernel_rfl) rfl #[.int .i64 a0_0] rfl (by (try simp only [List.map_toArray, List.map_cons, List.map_nil]); first | done | rfl | (simp only [List.length_drop, List.length_take]; rfl)) ?_; (with_reducible refine (spec_l2Address.calls a0_0 true _ A4.out).mono ?_); rintro e w' ⟨rfl, ⟨nd, rfl⟩⟩; refine ⟨_, rfl, ?_⟩) | (go_at_call 122; (with_reducible refine (spec_l2Address.calls a0_1 true _ A6.out).mono ?_); rintro e w' ⟨rfl, ⟨nd, rfl⟩⟩) | (go_at_call 54; (with_reducible refine (spec_l1In.calls a0_2 1 255 true _ A8.out).mono ?_); rintro e w' ⟨rfl, ⟨nd, rfl⟩⟩) | (go_at_call 54; (with_reducible refine (spec_l1In.calls a0_3 1 255 false _ A10.out).mono ?_); rintro e w' ⟨rfl, ⟨nd, rfl⟩⟩))
          go_meet
          case rel => exact ⟨_, (true), (by first | rfl | (simp; done) | (simp [*]; done)), H', ⟨by first | omega | exact Nat.le_refl _⟩, ⟨up BK640.out⟩, ⟨by repeat (first | (with_reducible first | exact HB.out | apply below_alloc | apply pw_below_drewN | apply below_drew1 | refine below_set ?_ GE640.out) | exact HB.out)⟩⟩
      · replace c9 := Bool.eq_false_iff.mpr c9
        subst c9
        have H1 : (spec_PacketFault.j0 k true a0_0 a0_1 a0_2 a0_3 a0_4 a0_5 l0_6) = some r := by rw [if_neg (show ¬ (false = true) by decide)] at H; exact H
        clear H
        have H := H1
        clear H1
        have H' := Aside0.mk H
        clear H
        have hcz18_0 : w3.cell? ⟨gb640, 0, none⟩ = some (.int .i64 a0_0) := (blk_cell BK640.out 0).trans rfl
        have hcz18_1 : w3.cell? ⟨gb640, 1, none⟩ = some (.int .i64 a0_1) := (blk_cell BK640.out 1).trans rfl
        have hcz18_2 : w3.cell? ⟨gb640, 2, none⟩ = some (.int .i64 a0_2) := (blk_cell BK640.out 2).trans rfl
        have hcz18_3 : w3.cell? ⟨gb640, 3, none⟩ = some (.int .i64 a0_3) := (blk_cell BK640.out 3).trans rfl
        have hcz18_4 : w3.cell? ⟨gb640, 4, none⟩ = some (.int .i64 a0_4) := (blk_cell BK640.out 4).trans rfl
        have hcz18_5 : w3.cell? ⟨gb640, 5, none⟩ = some (.int .i64 a0_5) := (blk_cell BK640.out 5).trans rfl
        have hcz18_6 : w3.cell? ⟨gb640, 6, none⟩ = some (.slice A0_6 l0_6.length c0_6) := (blk_cell BK640.out 6).trans rfl
        have hfz18_0 := blk_frozen BK640.out 0
        have hfz18_1 := blk_frozen BK640.out 1
        have hfz18_2 := blk_frozen BK640.out 2
        have hfz18_3 := blk_frozen BK640.out 3
        have hfz18_4 := blk_frozen BK640.out 4
        have hfz18_5 := blk_frozen BK640.out 5
        have hfz18_6 := blk_frozen BK640.out 6
        go_wp2_with (first | ((with_reducible refine gate_callee (f := 122) rfl ?_); refine goesL_ (some 5) rfl rfl Try.func122 (by kernel_rfl) rfl #[.int .i64 a0_0] rfl (by (try simp only [List.map_toArray, List.map_cons, List.map_nil]); first | done | rfl | (simp only [List.length_drop, List.length_take]; rfl)) ?_; (with_reducible refine (spec_l2Address.calls a0_0 true _ A4.out).mono ?_); rintro e w' ⟨rfl, ⟨nd, rfl⟩⟩; refine ⟨_, rfl, ?_⟩) | (go_at_call 122; (with_reducible refine (spec_l2Address.calls a0_1 true _ A6.out).mono ?_); rintro e w' ⟨rfl, ⟨nd, rfl⟩⟩) | (go_at_call 54; (with_reducible refine (spec_l1In.calls a0_2 1 255 false _ A8.out).mono ?_); rintro e w' ⟨rfl, ⟨nd, rfl⟩⟩))
        go_meet
        case rel => exact ⟨_, (true), (by first | rfl | (simp; done) | (simp [*]; done)), H', ⟨by first | omega | exact Nat.le_refl _⟩, ⟨up BK640.out⟩, ⟨by repeat (first | (with_reducible first | exact HB.out | apply below_alloc | apply pw_below_drewN | apply below_drew1 | refine below_set ?_ GE640.out) | exact HB.out)⟩⟩
    · replace c7 := Bool.eq_false_iff.mpr c7
      subst c7
      have H1 : (spec_PacketFault.j0 k true a0_0 a0_1 a0_2 a0_3 a0_4 a0_5 l0_6) = some r := by rw [if_neg (show ¬ (false = true) by decide)] at H; exact H
      clear H
      have H := H1
      clear H1
      have H' := Aside0.mk H
      clear H
      have hcz19_0 : w3.cell? ⟨gb640, 0, none⟩ = some (.int .i64 a0_0) := (blk_cell BK640.out 0).trans rfl
      have hcz19_1 : w3.cell? ⟨gb640, 1, none⟩ = some (.int .i64 a0_1) := (blk_cell BK640.out 1).trans rfl
      have hcz19_2 : w3.cell? ⟨gb640, 2, none⟩ = some (.int .i64 a0_2) := (blk_cell BK640.out 2).trans rfl
      have hcz19_3 : w3.cell? ⟨gb640, 3, none⟩ = some (.int .i64 a0_3) := (blk_cell BK640.out 3).trans rfl
      have hcz19_4 : w3.cell? ⟨gb640, 4, none⟩ = some (.int .i64 a0_4) := (blk_cell BK640.out 4).trans rfl
      have hcz19_5 : w3.cell? ⟨gb640, 5, none⟩ = some (.int .i64 a0_5) := (blk_cell BK640.out 5).trans rfl
      have hcz19_6 : w3.cell? ⟨gb640, 6, none⟩ = some (.slice A0_6 l0_6.length c0_6) := (blk_cell BK640.out 6).trans rfl
      have hfz19_0 := blk_frozen BK640.out 0
      have hfz19_1 := blk_frozen BK640.out 1
      have hfz19_2 := blk_frozen BK640.out 2
      have hfz19_3 := blk_frozen BK640.out 3
      have hfz19_4 := blk_frozen BK640.out 4
      have hfz19_5 := blk_frozen BK640.out 5
      have hfz19_6 := blk_frozen BK640.out 6
      go_wp2_with (first | ((with_reducible refine gate_callee (f := 122) rfl ?_); refine goesL_ (some 5) rfl rfl Try.func122 (by kernel_rfl) rfl #[.int .i64 a0_0] rfl (by (try simp only [List.map_toArray, List.map_cons, List.map_nil]); first | done | rfl | (simp only [List.length_drop, List.length_take]; rfl)) ?_; (with_reducible refine (spec_l2Address.calls a0_0 true _ A4.out).mono ?_); rintro e w' ⟨rfl, ⟨nd, rfl⟩⟩; refine ⟨_, rfl, ?_⟩) | (go_at_call 122; (with_reducible refine (spec_l2Address.calls a0_1 false _ A6.out).mono ?_); rintro e w' ⟨rfl, ⟨nd, rfl⟩⟩))
      go_meet
      case rel => exact ⟨_, (true), (by first | rfl | (simp; done) | (simp [*]; done)), H', ⟨by first | omega | exact Nat.le_refl _⟩, ⟨up BK640.out⟩, ⟨by repeat (first | (with_reducible first | exact HB.out | apply below_alloc | apply pw_below_drewN | apply below_drew1 | refine below_set ?_ GE640.out) | exact HB.out)⟩⟩
  · replace c5 := Bool.eq_false_iff.mpr c5
    subst c5
    have H1 : (spec_PacketFault.j0 k true a0_0 a0_1 a0_2 a0_3 a0_4 a0_5 l0_6) = some r := by rw [if_neg (show ¬ (false = true) by decide)] at H; exact H
    clear H
    have H := H1
    clear H1
    have H' := Aside0.mk H
    clear H
    have hcz20_0 : w3.cell? ⟨gb640, 0, none⟩ = some (.int .i64 a0_0) := (blk_cell BK640.out 0).trans rfl
    have hcz20_1 : w3.cell? ⟨gb640, 1, none⟩ = some (.int .i64 a0_1) := (blk_cell BK640.out 1).trans rfl
    have hcz20_2 : w3.cell? ⟨gb640, 2, none⟩ = some (.int .i64 a0_2) := (blk_cell BK640.out 2).trans rfl
    have hcz20_3 : w3.cell? ⟨gb640, 3, none⟩ = some (.int .i64 a0_3) := (blk_cell BK640.out 3).trans rfl
    have hcz20_4 : w3.cell? ⟨gb640, 4, none⟩ = some (.int .i64 a0_4) := (blk_cell BK640.out 4).trans rfl
    have hcz20_5 : w3.cell? ⟨gb640, 5, none⟩ = some (.int .i64 a0_5) := (blk_cell BK640.out 5).trans rfl
    have hcz20_6 : w3.cell? ⟨gb640, 6, none⟩ = some (.slice A0_6 l0_6.length c0_6) := (blk_cell BK640.out 6).trans rfl
    have hfz20_0 := blk_frozen BK640.out 0
    have hfz20_1 := blk_frozen BK640.out 1
    have hfz20_2 := blk_frozen BK640.out 2
    have hfz20_3 := blk_frozen BK640.out 3
    have hfz20_4 := blk_frozen BK640.out 4
    have hfz20_5 := blk_frozen BK640.out 5
    have hfz20_6 := blk_frozen BK640.out 6
    go_wp2_with (first | ((with_reducible refine gate_callee (f := 122) rfl ?_); refine goesL_ (some 5) rfl rfl Try.func122 (by kernel_rfl) rfl #[.int .i64 a0_0] rfl (by (try simp only [List.map_toArray, List.map_cons, List.map_nil]); first | done | rfl | (simp only [List.length_drop, List.length_take]; rfl)) ?_; (with_reducible refine (spec_l2Address.calls a0_0 false _ A4.out).mono ?_); rintro e w' ⟨rfl, ⟨nd, rfl⟩⟩; refine ⟨_, rfl, ?_⟩))
    go_meet
    case rel => exact ⟨_, (true), (by first | rfl | (simp; done) | (simp [*]; done)), H', ⟨by first | omega | exact Nat.le_refl _⟩, ⟨up BK640.out⟩, ⟨by repeat (first | (with_reducible first | exact HB.out | apply below_alloc | apply pw_below_drewN | apply below_drew1 | refine below_set ?_ GE640.out) | exact HB.out)⟩⟩
 case rest =>
  clear HC2
  try clear c1
  try clear p2
  try clear c5
  try clear c7
  try clear c9
  try clear c10
  try clear c11
  try clear c12
  try clear c13
  try clear hcz15_0
  try clear hcz15_1
  try clear hcz15_2
  try clear hcz15_3
  try clear hcz15_4
  try clear hcz15_5
  try clear hcz15_6
  try clear hcz16_0
  try clear hcz16_1
  try clear hcz16_2
  try clear hcz16_3
  try clear hcz16_4
  try clear hcz16_5
  try clear hcz16_6
  try clear hcz17_0
  try clear hcz17_1
  try clear hcz17_2
  try clear hcz17_3
  try clear hcz17_4
  try clear hcz17_5
  try clear hcz17_6
  try clear hcz18_0
  try clear hcz18_1
  try clear hcz18_2
  try clear hcz18_3
  try clear hcz18_4
  try clear hcz18_5
  try clear hcz18_6
  try clear hcz19_0
  try clear hcz19_1
  try clear hcz19_2
  try clear hcz19_3
  try clear hcz19_4
  try clear hcz19_5
  try clear hcz19_6
  try clear hcz20_0
  try clear hcz20_1
  try clear hcz20_2
  try clear hcz20_3
  try clear hcz20_4
  try clear hcz20_5
  try clear hcz20_6
  try clear hfz15_0
  try clear hfz15_1
  try clear hfz15_2
  try clear hfz15_3
  try clear hfz15_4
  try clear hfz15_5
  try clear hfz15_6
  try clear hfz16_0
  try clear hfz16_1
  try clear hfz16_2
  try clear hfz16_3
  try clear hfz16_4
  try clear hfz16_5
  try clear hfz16_6
  try clear hfz17_0
  try clear hfz17_1
  try clear hfz17_2
  try clear hfz17_3
  try clear hfz17_4
  try clear hfz17_5
  try clear hfz17_6
  try clear hfz18_0
  try clear hfz18_1
  try clear hfz18_2
  try clear hfz18_3
  try clear hfz18_4
  try clear hfz18_5
  try clear hfz18_6
  try clear hfz19_0
  try clear hfz19_1
  try clear hfz19_2
  try clear hfz19_3
  try clear hfz19_4
  try clear hfz19_5
  try clear hfz19_6
  try clear hfz20_0
  try clear hfz20_1
  try clear hfz20_2
  try clear hfz20_3
  try clear hfz20_4
  try clear hfz20_5
  try clear hfz20_6
  obtain ⟨kq, x36_1, rfl, HA, HJ1, BK640, HB⟩ := hcut
  cases kq with
  | zero => exact absurd HA.out (by simp [spec_PacketFault.j0])
  | succ kj1 =>
   have H := HA.out
   clear HA
   simp only [spec_PacketFault.j0] at H
   by_cases c21 : x36_1 = true
   · subst c21
     have H1 : (some 3) = some r := by rw [if_pos rfl] at H; exact H
     clear H
     have H := H1
     clear H1
     obtain rfl := Option.some.inj H
     go_wp2
     go_ret
     exact ⟨by first | rfl | (simp [errW_none, errW_some] <;> rfl) | (simp [*, errW_none, errW_some] <;> rfl), by repeat (first | (with_reducible first | exact HB.out | apply below_alloc | apply pw_below_drewN | apply below_drew1 | refine below_set ?_ GE640.out) | exact HB.out)⟩
   · replace c21 := Bool.eq_false_iff.mpr c21
     subst c21
     have H1 : ((spec_HasPorts.f a0_2).bind fun t647 => (if t647 = true then (spec_PacketFault.j1 kj1 false a0_0 a0_1 a0_2 a0_3 a0_4 a0_5 l0_6) else (if a0_4 = 0 then (spec_PacketFault.j1 kj1 (a0_5 != 0) a0_0 a0_1 a0_2 a0_3 a0_4 a0_5 l0_6) else (spec_PacketFault.j1 kj1 true a0_0 a0_1 a0_2 a0_3 a0_4 a0_5 l0_6)))) = some r := by rw [if_neg (show ¬ (false = true) by decide)] at H; exact H
     clear H
     have H := H1
     clear H1
     have HC22 := Aside0.mk H
     clear H
     go_upto_region 3 with (fail)
     go_cut [50] (fun v50 wc => ∃ (kq : Nat) (x50_21 : Bool), v50 = .bool x50_21 ∧ Aside0 (spec_PacketFault.j1 kq x50_21 a0_0 a0_1 a0_2 a0_3 a0_4 a0_5 l0_6 = some r) ∧ Aside0 (kq ≤ kj1) ∧ Aside0 (wc.heap[gb640]? = some (.cells #[.int .i64 a0_0, .int .i64 a0_1, .int .i64 a0_2, .int .i64 a0_3, .int .i64 a0_4, .int .i64 a0_5, (.slice A0_6 l0_6.length c0_6)] 53 (0, 0))) ∧ Aside0 (Below w.heap.size w wc))
     case first =>
      have H := HC22.out
      clear HC22
      replace H := Option.bind_eq_some_iff.mp H
      obtain ⟨t647, A230, H⟩ := H
      replace H : (if t647 = true then (spec_PacketFault.j1 kj1 false a0_0 a0_1 a0_2 a0_3 a0_4 a0_5 l0_6) else (if a0_4 = 0 then (spec_PacketFault.j1 kj1 (a0_5 != 0) a0_0 a0_1 a0_2 a0_3 a0_4 a0_5 l0_6) else (spec_PacketFault.j1 kj1 true a0_0 a0_1 a0_2 a0_3 a0_4 a0_5 l0_6))) = some r := H
      have A23 := Aside0.mk A230
      clear A230
      by_cases c24 : t647 = true
      · subst c24
        have H1 : (spec_PacketFault.j1 kj1 false a0_0 a0_1 a0_2 a0_3 a0_4 a0_5 l0_6) = some r := by rw [if_pos rfl] at H; exact H
        clear H
        have H := H1
        clear H1
        have H' := Aside0.mk H
        clear H
        have hcz25_0 : wc.cell? ⟨gb640, 0, none⟩ = some (.int .i64 a0_0) := (blk_cell BK640.out 0).trans rfl
        have hcz25_1 : wc.cell? ⟨gb640, 1, none⟩ = some (.int .i64 a0_1) := (blk_cell BK640.out 1).trans rfl
        have hcz25_2 : wc.cell? ⟨gb640, 2, none⟩ = some (.int .i64 a0_2) := (blk_cell BK640.out 2).trans rfl
        have hcz25_3 : wc.cell? ⟨gb640, 3, none⟩ = some (.int .i64 a0_3) := (blk_cell BK640.out 3).trans rfl
        have hcz25_4 : wc.cell? ⟨gb640, 4, none⟩ = some (.int .i64 a0_4) := (blk_cell BK640.out 4).trans rfl
        have hcz25_5 : wc.cell? ⟨gb640, 5, none⟩ = some (.int .i64 a0_5) := (blk_cell BK640.out 5).trans rfl
        have hcz25_6 : wc.cell? ⟨gb640, 6, none⟩ = some (.slice A0_6 l0_6.length c0_6) := (blk_cell BK640.out 6).trans rfl
        have hfz25_0 := blk_frozen BK640.out 0
        have hfz25_1 := blk_frozen BK640.out 1
        have hfz25_2 := blk_frozen BK640.out 2
        have hfz25_3 := blk_frozen BK640.out 3
        have hfz25_4 := blk_frozen BK640.out 4
        have hfz25_5 := blk_frozen BK640.out 5
        have hfz25_6 := blk_frozen BK640.out 6
        go_wp2_with (first | ((with_reducible refine gate_callee (f := 118) rfl ?_); refine goesL_ (some 39) rfl rfl Try.func118 (by kernel_rfl) rfl #[.int .i64 a0_2] rfl (by (try simp only [List.map_toArray, List.map_cons, List.map_nil]); first | done | rfl | (simp only [List.length_drop, List.length_take]; rfl)) ?_; (with_reducible refine (spec_HasPorts.calls a0_2 true _ A23.out).mono ?_); rintro e w' ⟨rfl, ⟨nd, rfl⟩⟩; refine ⟨_, rfl, ?_⟩))
        go_meet
        case rel => exact ⟨_, (false), (by first | rfl | (simp; done) | (simp [*]; done)), H', ⟨by have := HJ1.out; first | omega | exact Nat.le_refl _⟩, ⟨up BK640.out⟩, ⟨by repeat (first | (with_reducible first | exact HB.out | apply below_alloc | apply pw_below_drewN | apply below_drew1 | refine below_set ?_ GE640.out) | exact HB.out)⟩⟩
      · replace c24 := Bool.eq_false_iff.mpr c24
        subst c24
        have H1 : (if a0_4 = 0 then (spec_PacketFault.j1 kj1 (a0_5 != 0) a0_0 a0_1 a0_2 a0_3 a0_4 a0_5 l0_6) else (spec_PacketFault.j1 kj1 true a0_0 a0_1 a0_2 a0_3 a0_4 a0_5 l0_6)) = some r := by rw [if_neg (show ¬ (false = true) by decide)] at H; exact H
        clear H
        have H := H1
        clear H1
        by_cases c26 : a0_4 = 0
        · rw [if_pos c26] at H
          have c26b0 : (a0_4 == 0) = true := beq_iff_eq.mpr c26
          have c26b1 : (a0_4 != 0) = false := bne_eq_false_iff_eq.mpr c26
          clear c26
          (first | rw [c26b0] | (simp only [i64_w, i32_w]; rw [c26b0]) | skip)
          have H' := Aside0.mk H
          clear H
          have hcz27_0 : wc.cell? ⟨gb640, 0, none⟩ = some (.int .i64 a0_0) := (blk_cell BK640.out 0).trans rfl
          have hcz27_1 : wc.cell? ⟨gb640, 1, none⟩ = some (.int .i64 a0_1) := (blk_cell BK640.out 1).trans rfl
          have hcz27_2 : wc.cell? ⟨gb640, 2, none⟩ = some (.int .i64 a0_2) := (blk_cell BK640.out 2).trans rfl
          have hcz27_3 : wc.cell? ⟨gb640, 3, none⟩ = some (.int .i64 a0_3) := (blk_cell BK640.out 3).trans rfl
          have hcz27_4 : wc.cell? ⟨gb640, 4, none⟩ = some (.int .i64 a0_4) := (blk_cell BK640.out 4).trans rfl
          have hcz27_5 : wc.cell? ⟨gb640, 5, none⟩ = some (.int .i64 a0_5) := (blk_cell BK640.out 5).trans rfl
          have hcz27_6 : wc.cell? ⟨gb640, 6, none⟩ = some (.slice A0_6 l0_6.length c0_6) := (blk_cell BK640.out 6).trans rfl
          have hfz27_0 := blk_frozen BK640.out 0
          have hfz27_1 := blk_frozen BK640.out 1
          have hfz27_2 := blk_frozen BK640.out 2
          have hfz27_3 := blk_frozen BK640.out 3
          have hfz27_4 := blk_frozen BK640.out 4
          have hfz27_5 := blk_frozen BK640.out 5
          have hfz27_6 := blk_frozen BK640.out 6
          go_wp2_with (first | ((with_reducible refine gate_callee (f := 118) rfl ?_); refine goesL_ (some 39) rfl rfl Try.func118 (by kernel_rfl) rfl #[.int .i64 a0_2] rfl (by (try simp only [List.map_toArray, List.map_cons, List.map_nil]); first | done | rfl | (simp only [List.length_drop, List.length_take]; rfl)) ?_; (with_reducible refine (spec_HasPorts.calls a0_2 false _ A23.out).mono ?_); rintro e w' ⟨rfl, ⟨nd, rfl⟩⟩; refine ⟨_, rfl, ?_⟩))
          go_meet
          case rel => exact ⟨_, ((a0_5 != 0)), (by first | rfl | (simp; done) | (simp [*]; done)), H', ⟨by have := HJ1.out; first | omega | exact Nat.le_refl _⟩, ⟨up BK640.out⟩, ⟨by repeat (first | (with_reducible first | exact HB.out | apply below_alloc | apply pw_below_drewN | apply below_drew1 | refine below_set ?_ GE640.out) | exact HB.out)⟩⟩
        · rw [if_neg c26] at H
          have c26b0 : (a0_4 == 0) = false := beq_eq_false_iff_ne.mpr c26
          have c26b1 : (a0_4 != 0) = true := bne_iff_ne.mpr c26
          (first | rw [c26b0] | (simp only [i64_w, i32_w]; rw [c26b0]) | skip)
          have H' := Aside0.mk H
          clear H
          have hcz28_0 : wc.cell? ⟨gb640, 0, none⟩ = some (.int .i64 a0_0) := (blk_cell BK640.out 0).trans rfl
          have hcz28_1 : wc.cell? ⟨gb640, 1, none⟩ = some (.int .i64 a0_1) := (blk_cell BK640.out 1).trans rfl
          have hcz28_2 : wc.cell? ⟨gb640, 2, none⟩ = some (.int .i64 a0_2) := (blk_cell BK640.out 2).trans rfl
          have hcz28_3 : wc.cell? ⟨gb640, 3, none⟩ = some (.int .i64 a0_3) := (blk_cell BK640.out 3).trans rfl
          have hcz28_4 : wc.cell? ⟨gb640, 4, none⟩ = some (.int .i64 a0_4) := (blk_cell BK640.out 4).trans rfl
          have hcz28_5 : wc.cell? ⟨gb640, 5, none⟩ = some (.int .i64 a0_5) := (blk_cell BK640.out 5).trans rfl
          have hcz28_6 : wc.cell? ⟨gb640, 6, none⟩ = some (.slice A0_6 l0_6.length c0_6) := (blk_cell BK640.out 6).trans rfl
          have hfz28_0 := blk_frozen BK640.out 0
          have hfz28_1 := blk_frozen BK640.out 1
          have hfz28_2 := blk_frozen BK640.out 2
          have hfz28_3 := blk_frozen BK640.out 3
          have hfz28_4 := blk_frozen BK640.out 4
          have hfz28_5 := blk_frozen BK640.out 5
          have hfz28_6 := blk_frozen BK640.out 6
          go_wp2_with (first | ((with_reducible refine gate_callee (f := 118) rfl ?_); refine goesL_ (some 39) rfl rfl Try.func118 (by kernel_rfl) rfl #[.int .i64 a0_2] rfl (by (try simp only [List.map_toArray, List.map_cons, List.map_nil]); first | done | rfl | (simp only [List.length_drop, List.length_take]; rfl)) ?_; (with_reducible refine (spec_HasPorts.calls a0_2 false _ A23.out).mono ?_); rintro e w' ⟨rfl, ⟨nd, rfl⟩⟩; refine ⟨_, rfl, ?_⟩))
          go_meet
          case rel => exact ⟨_, (true), (by first | rfl | (simp; done) | (simp [*]; done)), H', ⟨by have := HJ1.out; first | omega | exact Nat.le_refl _⟩, ⟨up BK640.out⟩, ⟨by repeat (first | (with_reducible first | exact HB.out | apply below_alloc | apply pw_below_drewN | apply below_drew1 | refine below_set ?_ GE640.out) | exact HB.out)⟩⟩
     case rest =>
      clear HC22
      try clear c1
      try clear c2
      try clear p2
      try clear c5
      try clear c7
      try clear c9
      try clear c10
      try clear c11
      try clear c12
      try clear c13
      try clear c21
      try clear c24
      try clear c26
      try clear c26b0
      try clear c26b1
      try clear hcz15_0
      try clear hcz15_1
      try clear hcz15_2
      try clear hcz15_3
      try clear hcz15_4
      try clear hcz15_5
      try clear hcz15_6
      try clear hcz16_0
      try clear hcz16_1
      try clear hcz16_2
      try clear hcz16_3
      try clear hcz16_4
      try clear hcz16_5
      try clear hcz16_6
      try clear hcz17_0
      try clear hcz17_1
      try clear hcz17_2
      try clear hcz17_3
      try clear hcz17_4
      try clear hcz17_5
      try clear hcz17_6
      try clear hcz18_0
      try clear hcz18_1
      try clear hcz18_2
      try clear hcz18_3
      try clear hcz18_4
      try clear hcz18_5
      try clear hcz18_6
      try clear hcz19_0
      try clear hcz19_1
      try clear hcz19_2
      try clear hcz19_3
      try clear hcz19_4
      try clear hcz19_5
      try clear hcz19_6
      try clear hcz20_0
      try clear hcz20_1
      try clear hcz20_2
      try clear hcz20_3
      try clear hcz20_4
      try clear hcz20_5
      try clear hcz20_6
      try clear hcz25_0
      try clear hcz25_1
      try clear hcz25_2
      try clear hcz25_3
      try clear hcz25_4
      try clear hcz25_5
      try clear hcz25_6
      try clear hcz27_0
      try clear hcz27_1
      try clear hcz27_2
      try clear hcz27_3
      try clear hcz27_4
      try clear hcz27_5
      try clear hcz27_6
      try clear hcz28_0
      try clear hcz28_1
      try clear hcz28_2
      try clear hcz28_3
      try clear hcz28_4
      try clear hcz28_5
      try clear hcz28_6
      try clear hfz15_0
      try clear hfz15_1
      try clear hfz15_2
      try clear hfz15_3
      try clear hfz15_4
      try clear hfz15_5
      try clear hfz15_6
      try clear hfz16_0
      try clear hfz16_1
      try clear hfz16_2
      try clear hfz16_3
      try clear hfz16_4
      try clear hfz16_5
      try clear hfz16_6
      try clear hfz17_0
      try clear hfz17_1
      try clear hfz17_2
      try clear hfz17_3
      try clear hfz17_4
      try clear hfz17_5
      try clear hfz17_6
      try clear hfz18_0
      try clear hfz18_1
      try clear hfz18_2
      try clear hfz18_3
      try clear hfz18_4
      try clear hfz18_5
      try clear hfz18_6
      try clear hfz19_0
      try clear hfz19_1
      try clear hfz19_2
      try clear hfz19_3
      try clear hfz19_4
      try clear hfz19_5
      try clear hfz19_6
      try clear hfz20_0
      try clear hfz20_1
      try clear hfz20_2
      try clear hfz20_3
      try clear hfz20_4
      try clear hfz20_5
      try clear hfz20_6
      try clear hfz25_0
      try clear hfz25_1
      try clear hfz25_2
      try clear hfz25_3
      try clear hfz25_4
      try clear hfz25_5
      try clear hfz25_6
      try clear hfz27_0
      try clear hfz27_1
      try clear hfz27_2
      try clear hfz27_3
      try clear hfz27_4
      try clear hfz27_5
      try clear hfz27_6
      try clear hfz28_0
      try clear hfz28_1
      try clear hfz28_2
      try clear hfz28_3
      try clear hfz28_4
      try clear hfz28_5
      try clear hfz28_6
      try clear p2
      obtain ⟨kq, x50_21, rfl, HA, HJ21, BK640, HB⟩ := hcut
      cases kq with
      | zero => exact absurd HA.out (by simp [spec_PacketFault.j1])
      | succ kj21 =>
       have H := HA.out
       clear HA
       simp only [spec_PacketFault.j1] at H
       by_cases c29 : x50_21 = true
       · subst c29
         have H1 : (some 1) = some r := by rw [if_pos rfl] at H; exact H
         clear H
         have H := H1
         clear H1
         obtain rfl := Option.some.inj H
         go_wp2
         go_ret
         exact ⟨by first | rfl | (simp [errW_none, errW_some] <;> rfl) | (simp [*, errW_none, errW_some] <;> rfl), by repeat (first | (with_reducible first | exact HB.out | apply below_alloc | apply pw_below_drewN | apply below_drew1 | refine below_set ?_ GE640.out) | exact HB.out)⟩
       · replace c29 := Bool.eq_false_iff.mpr c29
         subst c29
         have H1 : (if (l0_6.length : Int) > 200 then (some 2) else (some 0)) = some r := by rw [if_neg (show ¬ (false = true) by decide)] at H; exact H
         clear H
         have H := H1
         clear H1
         by_cases c30 : (l0_6.length : Int) > 200
         · rw [if_pos c30] at H
           have c30b0 : decide (200 < (l0_6.length : Int)) = true := decide_eq_true c30
           have c30b1 : decide (200 < l0_6.length) = true := decide_eq_true (by omega)
           clear c30
           obtain rfl := Option.some.inj H
           have hcz31_0 : wc.cell? ⟨gb640, 0, none⟩ = some (.int .i64 a0_0) := (blk_cell BK640.out 0).trans rfl
           have hcz31_1 : wc.cell? ⟨gb640, 1, none⟩ = some (.int .i64 a0_1) := (blk_cell BK640.out 1).trans rfl
           have hcz31_2 : wc.cell? ⟨gb640, 2, none⟩ = some (.int .i64 a0_2) := (blk_cell BK640.out 2).trans rfl
           have hcz31_3 : wc.cell? ⟨gb640, 3, none⟩ = some (.int .i64 a0_3) := (blk_cell BK640.out 3).trans rfl
           have hcz31_4 : wc.cell? ⟨gb640, 4, none⟩ = some (.int .i64 a0_4) := (blk_cell BK640.out 4).trans rfl
           have hcz31_5 : wc.cell? ⟨gb640, 5, none⟩ = some (.int .i64 a0_5) := (blk_cell BK640.out 5).trans rfl
           have hcz31_6 : wc.cell? ⟨gb640, 6, none⟩ = some (.slice A0_6 l0_6.length c0_6) := (blk_cell BK640.out 6).trans rfl
           have hfz31_0 := blk_frozen BK640.out 0
           have hfz31_1 := blk_frozen BK640.out 1
           have hfz31_2 := blk_frozen BK640.out 2
           have hfz31_3 := blk_frozen BK640.out 3
           have hfz31_4 := blk_frozen BK640.out 4
           have hfz31_5 := blk_frozen BK640.out 5
           have hfz31_6 := blk_frozen BK640.out 6
           go_wp2
           go_ret
           exact ⟨by first | rfl | (simp [errW_none, errW_some] <;> rfl) | (simp [*, errW_none, errW_some] <;> rfl), by repeat (first | (with_reducible first | exact HB.out | apply below_alloc | apply pw_below_drewN | apply below_drew1 | refine below_set ?_ GE640.out) | exact HB.out)⟩
         · rw [if_neg c30] at H
           have c30b0 : decide (200 < (l0_6.length : Int)) = false := decide_eq_false c30
           have c30b1 : decide (200 < l0_6.length) = false := decide_eq_false (by omega)
           clear c30
           obtain rfl := Option.some.inj H
           have hcz32_0 : wc.cell? ⟨gb640, 0, none⟩ = some (.int .i64 a0_0) := (blk_cell BK640.out 0).trans rfl
           have hcz32_1 : wc.cell? ⟨gb640, 1, none⟩ = some (.int .i64 a0_1) := (blk_cell BK640.out 1).trans rfl
           have hcz32_2 : wc.cell? ⟨gb640, 2, none⟩ = some (.int .i64 a0_2) := (blk_cell BK640.out 2).trans rfl
           have hcz32_3 : wc.cell? ⟨gb640, 3, none⟩ = some (.int .i64 a0_3) := (blk_cell BK640.out 3).trans rfl
           have hcz32_4 : wc.cell? ⟨gb640, 4, none⟩ = some (.int .i64 a0_4) := (blk_cell BK640.out 4).trans rfl
           have hcz32_5 : wc.cell? ⟨gb640, 5, none⟩ = some (.int .i64 a0_5) := (blk_cell BK640.out 5).trans rfl
           have hcz32_6 : wc.cell? ⟨gb640, 6, none⟩ = some (.slice A0_6 l0_6.length c0_6) := (blk_cell BK640.out 6).trans rfl
           have hfz32_0 := blk_frozen BK640.out 0
           have hfz32_1 := blk_frozen BK640.out 1
           have hfz32_2 := blk_frozen BK640.out 2
           have hfz32_3 := blk_frozen BK640.out 3
           have hfz32_4 := blk_frozen BK640.out 4
           have hfz32_5 := blk_frozen BK640.out 5
           have hfz32_6 := blk_frozen BK640.out 6
           go_wp2
           go_ret
           exact ⟨by first | rfl | (simp [errW_none, errW_some] <;> rfl) | (simp [*, errW_none, errW_some] <;> rfl), by repeat (first | (with_reducible first | exact HB.out | apply below_alloc | apply pw_below_drewN | apply below_drew1 | refine below_set ?_ GE640.out) | exact HB.out)⟩

/-! ### spec_l1Fold: function 127 -/
def spec_l1Fold.l0 : Nat → Int → Option (Int)
 | 0, _ => none
 | k + 1, x0 => if x0 > 65535 then (spec_l1Fold.l0 k (wrap64 ((Int.tmod x0 65536) + (wrap64 (Int.tdiv x0 65536))))) else (some x0)
def spec_l1Fold.f (k : Nat) (a0 : Int) : Option (Int) := spec_l1Fold.l0 k a0
theorem spec_l1Fold.mono_l : ∀ k, (∀ y0, LeO (spec_l1Fold.l0 k y0) (spec_l1Fold.l0 (k + 1) y0))
 | 0 => fun _ r h => by simp [spec_l1Fold.l0] at h
 | k + 1 => by
  have ih0 := spec_l1Fold.mono_l k
  · intro y0
    unfold spec_l1Fold.l0
    repeat' first
    | (with_reducible exact ih0 _)
    | (with_reducible exact LeO.refl _)
    | (with_reducible exact LeO.none _)
    | (with_reducible refine LeO.ite ?_ ?_)
    | (with_reducible refine LeO.bind ?_ (fun _ => ?_))
    | exact ih0 _
    | exact LeO.none _
    | refine LeO.ite ?_ ?_
    | refine LeO.bind ?_ (fun _ => ?_)
theorem spec_l1Fold.mono : ∀ a0 k, LeO (spec_l1Fold.f k a0) (spec_l1Fold.f (k + 1) a0) := by
 intro a0 k
 have ih0 := spec_l1Fold.mono_l k
 unfold spec_l1Fold.f
 repeat' first
  | (with_reducible exact ih0 _)
  | (with_reducible exact LeO.refl _)
  | (with_reducible exact LeO.none _)
  | (with_reducible refine LeO.ite ?_ ?_)
  | (with_reducible refine LeO.bind ?_ (fun _ => ?_))
  | exact ih0 _
  | exact LeO.none _
  | refine LeO.ite ?_ ?_
  | refine LeO.bind ?_ (fun _ => ?_)
set_option maxHeartbeats 8000000 in
set_option maxRecDepth 100000 in
theorem spec_l1Fold.calls (k : Nat) (a0 : Int) (r : Int) (w : World) (h : spec_l1Fold.f k a0 = some r) :
 Calls Try.prog 127 #[.int .i64 a0] w fun e w' => e = .returned (.int .i64 r) ∧ Drawn0 w w' := by
 have H : (spec_l1Fold.l0 k a0) = some r := h
 clear h
 have H' := Aside0.mk H
 clear H
 go_enter Try.func127, Try.ntmps127
 go_wp2
 go_loopg [0] k (fun kq v0 w' => ∃ (x0_1 : Int), v0 = .int .i64 x0_1 ∧ Aside0 (spec_l1Fold.l0 kq x0_1 = some r) ∧ Aside0 (kq ≤ k) ∧ Drawn0 w w')
 case atStart => exact ⟨(a0), (by first | rfl | (simp; done) | (simp [*]; done)), H', ⟨Nat.le_refl _⟩, by repeat (first | exact Drawn0.refl _ | apply Drawn0.step)⟩
 case round =>
  clear H'
  try clear c1
  obtain ⟨x0_1, rfl, HA, HK1, ⟨m1, rfl⟩⟩ := hrel
  cases gk with
  | zero => exact absurd HA.out (by simp [spec_l1Fold.l0])
  | succ k1 =>
   have H := HA.out
   clear HA
   simp only [spec_l1Fold.l0] at H
   by_cases c2 : x0_1 > 65535
   · rw [if_pos c2] at H
     have c2b0 : decide (65535 < x0_1) = true := decide_eq_true c2
     clear c2
     have H' := Aside0.mk H
     clear H
     go_wp2
     go_roundg k1
     case measure => have := HK1.out; omega
     case rel => exact ⟨(wrap64 ((Int.tmod x0_1 65536) + (wrap64 (Int.tdiv x0_1 65536)))), (by first | rfl | (simp; done) | (simp [*]; done)), H', ⟨by have := HK1.out; omega⟩, by repeat (first | exact Drawn0.refl _ | apply Drawn0.step)⟩
   · rw [if_neg c2] at H
     have c2b0 : decide (65535 < x0_1) = false := decide_eq_false c2
     clear c2
     obtain rfl := Option.some.inj H
     go_wp2
     go_ret
     exact ⟨by first | rfl | (simp; done) | (simp [*]; done), by repeat (first | exact Drawn0.refl _ | apply Drawn0.step)⟩

/-! ### spec_SumWords: function 124 -/
def spec_SumWords.l0 : Nat → List Int → Int → Int → Option (Int)
 | 0, _, _, _ => none
 | k + 1, x0, x3, x4 => if x4 < (x0.length : Int) then (if 0 ≤ x4 then (if (wrap64 (x4 + 1)) < (x0.length : Int) then (if 0 ≤ (wrap64 (x4 + 1)) then ((spec_l1Fold.f k (wrap64 ((wrap64 (x3 + (wrap64 (256 * (wrap64 (rd x0 x4)))))) + (wrap64 (rd x0 (wrap64 (x4 + 1))))))).bind fun t650 => (spec_SumWords.l0 k x0 t650 (wrap64 (x4 + 2)))) else (none)) else ((spec_l1Fold.f k (wrap64 (x3 + (wrap64 (256 * (wrap64 (rd x0 x4))))))).bind fun t651 => (spec_SumWords.l0 k x0 t651 (wrap64 (x4 + 2))))) else (none)) else (some (wrap64 (65535 - x3)))
def spec_SumWords.f (k : Nat) (l0 : List Int) : Option (Int) := spec_SumWords.l0 k l0 0 0
theorem spec_SumWords.mono_l : ∀ k, (∀ y0 y1 y2, LeO (spec_SumWords.l0 k y0 y1 y2) (spec_SumWords.l0 (k + 1) y0 y1 y2))
 | 0 => fun _ _ _ r h => by simp [spec_SumWords.l0] at h
 | k + 1 => by
  have ih0 := spec_SumWords.mono_l k
  · intro y0 y1 y2
    unfold spec_SumWords.l0
    repeat' first
    | (with_reducible exact ih0 _ _ _)
    | (with_reducible exact spec_l1Fold.mono _ _)
    | (with_reducible exact LeO.refl _)
    | (with_reducible exact LeO.none _)
    | (with_reducible refine LeO.ite ?_ ?_)
    | (with_reducible refine LeO.bind ?_ (fun _ => ?_))
    | exact ih0 _ _ _
    | exact spec_l1Fold.mono _ _
    | exact LeO.none _
    | refine LeO.ite ?_ ?_
    | refine LeO.bind ?_ (fun _ => ?_)
theorem spec_SumWords.mono : ∀ a0 k, LeO (spec_SumWords.f k a0) (spec_SumWords.f (k + 1) a0) := by
 intro a0 k
 have ih0 := spec_SumWords.mono_l k
 unfold spec_SumWords.f
 repeat' first
  | (with_reducible exact ih0 _ _ _)
  | (with_reducible exact spec_l1Fold.mono _ _)
  | (with_reducible exact LeO.refl _)
  | (with_reducible exact LeO.none _)
  | (with_reducible refine LeO.ite ?_ ?_)
  | (with_reducible refine LeO.bind ?_ (fun _ => ?_))
  | exact ih0 _ _ _
  | exact spec_l1Fold.mono _ _
  | exact LeO.none _
  | refine LeO.ite ?_ ?_
  | refine LeO.bind ?_ (fun _ => ?_)
set_option maxHeartbeats 8000000 in
set_option maxRecDepth 100000 in
theorem spec_SumWords.calls (k : Nat) (A0 : Option Addr) (c0 : Nat) (l0 : List Int) (r : Int) (w : World) (hr0 : Kd.C (Kd.int .u8) w A0 l0.length l0) (hc0 : l0.length ≤ c0) (h : spec_SumWords.f k l0 = some r) :
 Calls Try.prog 124 #[.slice A0 l0.length c0] w fun e w' => e = .returned (.int .i64 r) ∧ Drawn0 w w' := by
 have HR0 := Aside0.mk hr0
 have HC0 := Aside0.mk hc0
 clear hr0 hc0
 have H : (spec_SumWords.l0 k l0 0 0) = some r := h
 clear h
 have H' := Aside0.mk H
 clear H
 go_enter Try.func124, Try.ntmps124
 go_wp2
 go_loopg [3, 4] k (fun kq v3 v4 w' => ∃ (x3_1 : Int) (x4_1 : Int), v3 = .int .i64 x3_1 ∧ v4 = .int .i64 x4_1 ∧ Aside0 (spec_SumWords.l0 kq l0 x3_1 x4_1 = some r) ∧ Aside0 (kq ≤ k) ∧ Drawn0 w w')
 case atStart => exact ⟨(0), (0), (by first | rfl | (simp; done) | (simp [*]; done)), (by first | rfl | (simp; done) | (simp [*]; done)), H', ⟨Nat.le_refl _⟩, by repeat (first | exact Drawn0.refl _ | apply Drawn0.step)⟩
 case round =>
  clear H'
  try clear c1
  obtain ⟨x3_1, x4_1, rfl, rfl, HA, HK1, ⟨m1, rfl⟩⟩ := hrel
  cases gk with
  | zero => exact absurd HA.out (by simp [spec_SumWords.l0])
  | succ k1 =>
   have H := HA.out
   clear HA
   simp only [spec_SumWords.l0] at H
   by_cases c2 : x4_1 < (l0.length : Int)
   · rw [if_pos c2] at H
     have c2b0 : decide (x4_1 < (l0.length : Int)) = true := decide_eq_true c2
     clear c2
     by_cases c3 : 0 ≤ x4_1
     · rw [if_pos c3] at H
       have c3b0 : decide (0 ≤ x4_1) = true := decide_eq_true c3
       clear c3
       by_cases c4 : (wrap64 (x4_1 + 1)) < (l0.length : Int)
       · rw [if_pos c4] at H
         have c4b0 : decide ((wrap64 (x4_1 + 1)) < (l0.length : Int)) = true := decide_eq_true c4
         clear c4
         obtain ⟨ji5, hji5⟩ : ∃ j_ : Int, (wrap64 (x4_1 + 1)) = j_ := ⟨_, rfl⟩
         replace H : (if 0 ≤ (ji5) then ((spec_l1Fold.f k1 (wrap64 ((wrap64 (x3_1 + (wrap64 (256 * (wrap64 (rd l0 x4_1)))))) + (wrap64 (rd l0 (ji5)))))).bind fun t650 => (spec_SumWords.l0 k1 l0 t650 (wrap64 (x4_1 + 2)))) else (none)) = some r := by first | (rw [hji5] at H; exact H) | (simp only [hji5] at H ⊢; exact H)
         (try rw [hji5] at c4b0)
         have hji5w : (IntKind.i64.wrap (x4_1 + 1)) = ji5 := (i64_w _).trans hji5
         by_cases c6 : 0 ≤ (ji5)
         · rw [if_pos c6] at H
           have c6b0 : decide (0 ≤ (ji5)) = true := decide_eq_true c6
           clear c6
           replace H := Option.bind_eq_some_iff.mp H
           obtain ⟨t650, A70, H⟩ := H
           replace H : (spec_SumWords.l0 k1 l0 t650 (wrap64 (x4_1 + 2))) = some r := H
           have A7 := Aside0.mk A70
           clear A70
           have H' := Aside0.mk H
           clear H
           have p648 : 0 ≤ (x4_1 : Int) := of_decide_eq_true (by first | (with_reducible assumption) | assumption)
           have q648 : x4_1 < (l0.length : Int) := of_decide_eq_true (by first | (with_reducible assumption) | assumption)
           obtain ⟨ad648, e648, hx648_0⟩ := Kd.at_int HR0.out x4_1 p648 q648
           cases e648
           replace p648 := eq_true p648
           replace q648 := eq_true q648
           have p649 : 0 ≤ ((ji5) : Int) := of_decide_eq_true (by first | (with_reducible assumption) | assumption)
           have q649 : (ji5) < (l0.length : Int) := of_decide_eq_true (by first | (with_reducible assumption) | assumption)
           obtain ⟨ad649, e649, hx649_0⟩ := Kd.at_int HR0.out (ji5) p649 q649
           obtain rfl : ad648 = ad649 := (by injection e649)
           replace p649 := eq_true p649
           replace q649 := eq_true q649
           go_wp2_with (first | ((with_reducible refine gate_callee (f := 127) rfl ?_); refine goesL_ (some 33) rfl rfl Try.func127 (by kernel_rfl) rfl #[.int .i64 (wrap64 ((wrap64 (x3_1 + (wrap64 (256 * (wrap64 (rd l0 x4_1)))))) + (wrap64 (rd l0 (ji5)))))] rfl (by (try simp only [List.map_toArray, List.map_cons, List.map_nil]); first | done | (simp only [hji5]; rfl) | rfl | (simp only [List.length_drop, List.length_take]; rfl)) ?_; (with_reducible refine (spec_l1Fold.calls k1 (wrap64 ((wrap64 (x3_1 + (wrap64 (256 * (wrap64 (rd l0 x4_1)))))) + (wrap64 (rd l0 (ji5))))) t650 _ A7.out).mono ?_); rintro e w' ⟨rfl, ⟨nd, rfl⟩⟩; refine ⟨_, rfl, ?_⟩))
           go_roundg k1
           case measure => have := HK1.out; omega
           case rel => exact ⟨(t650), (wrap64 (x4_1 + 2)), (by first | rfl | (simp; done) | (simp [*]; done)), (by first | rfl | (simp; done) | (simp [*]; done)), H', ⟨by have := HK1.out; omega⟩, by repeat (first | exact Drawn0.refl _ | apply Drawn0.step)⟩
         · rw [if_neg c6] at H
           exact absurd H (by simp)
       · rw [if_neg c4] at H
         have c4b0 : decide ((wrap64 (x4_1 + 1)) < (l0.length : Int)) = false := decide_eq_false c4
         clear c4
         replace H := Option.bind_eq_some_iff.mp H
         obtain ⟨t651, A80, H⟩ := H
         replace H : (spec_SumWords.l0 k1 l0 t651 (wrap64 (x4_1 + 2))) = some r := H
         have A8 := Aside0.mk A80
         clear A80
         have H' := Aside0.mk H
         clear H
         have p648 : 0 ≤ (x4_1 : Int) := of_decide_eq_true (by first | (with_reducible assumption) | assumption)
         have q648 : x4_1 < (l0.length : Int) := of_decide_eq_true (by first | (with_reducible assumption) | assumption)
         obtain ⟨ad648, e648, hx648_0⟩ := Kd.at_int HR0.out x4_1 p648 q648
         cases e648
         replace p648 := eq_true p648
         replace q648 := eq_true q648
         go_wp2_with (first | ((with_reducible refine gate_callee (f := 127) rfl ?_); refine goesL_ (some 33) rfl rfl Try.func127 (by kernel_rfl) rfl #[.int .i64 (wrap64 (x3_1 + (wrap64 (256 * (wrap64 (rd l0 x4_1))))))] rfl (by (try simp only [List.map_toArray, List.map_cons, List.map_nil]); first | done | rfl | (simp only [List.length_drop, List.length_take]; rfl)) ?_; (with_reducible refine (spec_l1Fold.calls k1 (wrap64 (x3_1 + (wrap64 (256 * (wrap64 (rd l0 x4_1)))))) t651 _ A8.out).mono ?_); rintro e w' ⟨rfl, ⟨nd, rfl⟩⟩; refine ⟨_, rfl, ?_⟩))
         go_roundg k1
         case measure => have := HK1.out; omega
         case rel => exact ⟨(t651), (wrap64 (x4_1 + 2)), (by first | rfl | (simp; done) | (simp [*]; done)), (by first | rfl | (simp; done) | (simp [*]; done)), H', ⟨by have := HK1.out; omega⟩, by repeat (first | exact Drawn0.refl _ | apply Drawn0.step)⟩
     · rw [if_neg c3] at H
       exact absurd H (by simp)
   · rw [if_neg c2] at H
     have c2b0 : decide (x4_1 < (l0.length : Int)) = false := decide_eq_false c2
     clear c2
     obtain rfl := Option.some.inj H
     go_wp2
     go_ret
     exact ⟨by first | rfl | (simp; done) | (simp [*]; done), by repeat (first | exact Drawn0.refl _ | apply Drawn0.step)⟩

/-! ### spec_l2Build: function 110 -/
def spec_l2Build.j0 : Nat → List Int → Int → Int → Int → Int → Int → Int → List Int → Option (List Int)
 | 0, _, _, _, _, _, _, _, _ => none
 | k + 1, x3, x653000, x653001, x653002, x653003, x653004, x653005, x653006 => (some (([69, 0] : List Int) : List Int)).bind fun y672 => ((spec_l1Bytes.f k (wrap64 (20 + (x3.length : Int))) 2).bind fun t675 => (if y672.length + t675.length < 140737488355328 then ((some (y672 ++ t675 : List Int)).bind fun y678 => ((some (([0, 0, 64, 0, (x653003) % 256, (x653002) % 256] : List Int) : List Int)).bind fun y681 => (if y678.length + y681.length < 140737488355328 then ((some (y678 ++ y681 : List Int)).bind fun y684 => ((spec_l1Bytes.f k x653000 4).bind fun t687 => ((spec_l1Bytes.f k x653001 4).bind fun t690 => (if t687.length + t690.length < 140737488355328 then ((some (t687 ++ t690 : List Int)).bind fun y693 => ((some (([] : List Int) : List Int)).bind fun y696 => (if y696.length + y684.length < 140737488355328 then ((some (y696 ++ y684 : List Int)).bind fun y699 => ((some (([0, 0] : List Int) : List Int)).bind fun y702 => (if y699.length + y702.length < 140737488355328 then ((some (y699 ++ y702 : List Int)).bind fun y705 => (if y705.length + y693.length < 140737488355328 then ((some (([] : List Int) : List Int)).bind fun y711 => (if y711.length + y684.length < 140737488355328 then ((some (y711 ++ y684 : List Int)).bind fun y714 => ((spec_SumWords.f k (y705 ++ y693)).bind fun t717 => ((spec_l1Bytes.f k t717 2).bind fun t718 => (if y714.length + t718.length < 140737488355328 then ((some (y714 ++ t718 : List Int)).bind fun y721 => (if y721.length + y693.length < 140737488355328 then ((some (y721 ++ y693 : List Int)).bind fun y724 => (if y724.length + x3.length < 140737488355328 then (some (y724 ++ x3)) else (none))) else (none))) else (none))))) else (none))) else (none))) else (none)))) else (none)))) else (none))))) else (none)))) else (none)))
def spec_l2Build.f (k : Nat) (a0_0 : Int) (a0_1 : Int) (a0_2 : Int) (a0_3 : Int) (a0_4 : Int) (a0_5 : Int) (l0_6 : List Int) : Option (List Int) := (some (([] : List Int) : List Int)).bind fun y653 => (if y653.length + l0_6.length < 140737488355328 then ((some (y653 ++ l0_6 : List Int)).bind fun y656 => ((spec_HasPorts.f a0_2).bind fun t659 => (if t659 = true then ((spec_l1Bytes.f k a0_4 2).bind fun t660 => ((spec_l1Bytes.f k a0_5 2).bind fun t663 => (if t660.length + t663.length < 140737488355328 then ((some (t660 ++ t663 : List Int)).bind fun y666 => (if y666.length + y656.length < 140737488355328 then (spec_l2Build.j0 k (y666 ++ y656) a0_0 a0_1 a0_2 a0_3 a0_4 a0_5 l0_6) else (none))) else (none)))) else (spec_l2Build.j0 k y656 a0_0 a0_1 a0_2 a0_3 a0_4 a0_5 l0_6)))) else (none))
theorem spec_l2Build.mono_l : ∀ k, (∀ y0 y1 y2 y3 y4 y5 y6 y7, LeO (spec_l2Build.j0 k y0 y1 y2 y3 y4 y5 y6 y7) (spec_l2Build.j0 (k + 1) y0 y1 y2 y3 y4 y5 y6 y7))
 | 0 => fun _ _ _ _ _ _ _ _ r h => by simp [spec_l2Build.j0] at h
 | k + 1 => by
  have ih0 := spec_l2Build.mono_l k
  · intro y0 y1 y2 y3 y4 y5 y6 y7
    unfold spec_l2Build.j0
    repeat' first
    | (with_reducible exact ih0 _ _ _ _ _ _ _ _)
    | (with_reducible exact spec_SumWords.mono _ _)
    | (with_reducible exact spec_l1Bytes.mono _ _ _)
    | (with_reducible exact LeO.refl _)
    | (with_reducible exact LeO.none _)
    | (with_reducible refine LeO.ite ?_ ?_)
    | (with_reducible refine LeO.bind ?_ (fun _ => ?_))
    | exact ih0 _ _ _ _ _ _ _ _
    | exact spec_SumWords.mono _ _
    | exact spec_l1Bytes.mono _ _ _
    | exact LeO.none _
    | refine LeO.ite ?_ ?_
    | refine LeO.bind ?_ (fun _ => ?_)
theorem spec_l2Build.mono : ∀ a0 a1 a2 a3 a4 a5 a6 k, LeO (spec_l2Build.f k a0 a1 a2 a3 a4 a5 a6) (spec_l2Build.f (k + 1) a0 a1 a2 a3 a4 a5 a6) := by
 intro a0 a1 a2 a3 a4 a5 a6 k
 have ih0 := spec_l2Build.mono_l k
 unfold spec_l2Build.f
 repeat' first
  | (with_reducible exact ih0 _ _ _ _ _ _ _ _)
  | (with_reducible exact spec_SumWords.mono _ _)
  | (with_reducible exact spec_l1Bytes.mono _ _ _)
  | (with_reducible exact LeO.refl _)
  | (with_reducible exact LeO.none _)
  | (with_reducible refine LeO.ite ?_ ?_)
  | (with_reducible refine LeO.bind ?_ (fun _ => ?_))
  | exact ih0 _ _ _ _ _ _ _ _
  | exact spec_SumWords.mono _ _
  | exact spec_l1Bytes.mono _ _ _
  | exact LeO.none _
  | refine LeO.ite ?_ ?_
  | refine LeO.bind ?_ (fun _ => ?_)
def spec_l2Build.T3 : Bool × List (List Nat × List Nat) := (true, [([], []), ([0], [0]), ([1], [1]), ([], []), ([3], [3]), ([4, 2], [4]), ([2, 5, 5], [2, 5]), ([], []), ([6, 7, 6], [6, 7]), ([8, 8, 0, 1, 2, 3, 4, 5, 6, 7, 8], [7, 8])])
def spec_l2Build.B3 : List Nat := [0, 1, 3, 0, 8, 31, 63, 0, 255, 511]
theorem spec_l2Build.tab3 : rtab .any (opsOf Try.f110 3) = spec_l2Build.T3 := by kernel_rfl
theorem spec_l2Build.bits3 : waitsOk spec_l2Build.T3.2 spec_l2Build.B3 = true := by kernel_rfl
def spec_l2Build.T6 : Bool × List (List Nat × List Nat) := (true, [([], []), ([0], [0]), ([1], [1]), ([], []), ([3], [3]), ([4, 2], [4]), ([2, 5, 5], [2, 5]), ([6, 6, 0, 1, 2, 3, 4, 5, 6], [6])])
def spec_l2Build.B6 : List Nat := [0, 1, 3, 0, 8, 31, 63, 127]
theorem spec_l2Build.tab6 : rtab .any (opsOf Try.f110 6) = spec_l2Build.T6 := by kernel_rfl
theorem spec_l2Build.bits6 : waitsOk spec_l2Build.T6.2 spec_l2Build.B6 = true := by kernel_rfl
set_option maxHeartbeats 8000000 in
set_option maxRecDepth 100000 in
theorem spec_l2Build.calls (k : Nat) (a0_0 : Int) (a0_1 : Int) (a0_2 : Int) (a0_3 : Int) (a0_4 : Int) (a0_5 : Int) (A0_6 : Option Addr) (c0_6 : Nat) (l0_6 : List Int) (r : List Int) (w : World) (hr0_6 : Kd.C (Kd.int .u8) w A0_6 l0_6.length l0_6) (hc0_6 : l0_6.length ≤ c0_6) (h : spec_l2Build.f k a0_0 a0_1 a0_2 a0_3 a0_4 a0_5 l0_6 = some r) :
 Calls Try.prog 110 #[.agg #[.int .i64 a0_0, .int .i64 a0_1, .int .i64 a0_2, .int .i64 a0_3, .int .i64 a0_4, .int .i64 a0_5, .slice A0_6 l0_6.length c0_6]] w fun e w' => ∃ v0_ : Value, e = .returned (v0_) ∧ Kd.R (Kd.int .u8) 5 w' w.heap.size (fun _ => True) v0_ r ∧ Below w.heap.size w w' := by
 have hu53 := Try.underlying53
 have HR0_6 := Aside0.mk hr0_6
 have HC0_6 := Aside0.mk hc0_6
 clear hr0_6 hc0_6
 have HB := Aside0.mk (Below.refl w.heap.size w)
 have H : ((some (([] : List Int) : List Int)).bind fun y653 => (if y653.length + l0_6.length < 140737488355328 then ((some (y653 ++ l0_6 : List Int)).bind fun y656 => ((spec_HasPorts.f a0_2).bind fun t659 => (if t659 = true then ((spec_l1Bytes.f k a0_4 2).bind fun t660 => ((spec_l1Bytes.f k a0_5 2).bind fun t663 => (if t660.length + t663.length < 140737488355328 then ((some (t660 ++ t663 : List Int)).bind fun y666 => (if y666.length + y656.length < 140737488355328 then (spec_l2Build.j0 k (y666 ++ y656) a0_0 a0_1 a0_2 a0_3 a0_4 a0_5 l0_6) else (none))) else (none)))) else (spec_l2Build.j0 k y656 a0_0 a0_1 a0_2 a0_3 a0_4 a0_5 l0_6)))) else (none))) = some r := h
 clear h
 obtain ⟨y653, hy653⟩ : ∃ y_ : List Int, y_ = (([] : List Int)) := ⟨_, rfl⟩
 replace H : (if y653.length + l0_6.length < 140737488355328 then ((some (y653 ++ l0_6 : List Int)).bind fun y656 => ((spec_HasPorts.f a0_2).bind fun t659 => (if t659 = true then ((spec_l1Bytes.f k a0_4 2).bind fun t660 => ((spec_l1Bytes.f k a0_5 2).bind fun t663 => (if t660.length + t663.length < 140737488355328 then ((some (t660 ++ t663 : List Int)).bind fun y666 => (if y666.length + y656.length < 140737488355328 then (spec_l2Build.j0 k (y666 ++ y656) a0_0 a0_1 a0_2 a0_3 a0_4 a0_5 l0_6) else (none))) else (none)))) else (spec_l2Build.j0 k y656 a0_0 a0_1 a0_2 a0_3 a0_4 a0_5 l0_6)))) else (none)) = some r := by first | (rw [hy653]; with_reducible exact H) | (have H2_ := (Option.bind_some _ _).symm.trans H; rw [hy653]; with_reducible exact H2_) | (have H2_ := (Option.bind_some _ _).symm.trans H; with_reducible exact H2_) | with_reducible exact H | (rw [hy653]; exact H) | exact H
 have Ny653 := Aside0.mk hy653
 clear hy653
 by_cases c2 : y653.length + l0_6.length < 140737488355328
 · rw [if_pos c2] at H
   have LMc2 := Aside0.mk c2
   clear c2
   obtain ⟨y656, hy656⟩ : ∃ y_ : List Int, y_ = (y653 ++ l0_6) := ⟨_, rfl⟩
   replace H : ((spec_HasPorts.f a0_2).bind fun t659 => (if t659 = true then ((spec_l1Bytes.f k a0_4 2).bind fun t660 => ((spec_l1Bytes.f k a0_5 2).bind fun t663 => (if t660.length + t663.length < 140737488355328 then ((some (t660 ++ t663 : List Int)).bind fun y666 => (if y666.length + y656.length < 140737488355328 then (spec_l2Build.j0 k (y666 ++ y656) a0_0 a0_1 a0_2 a0_3 a0_4 a0_5 l0_6) else (none))) else (none)))) else (spec_l2Build.j0 k y656 a0_0 a0_1 a0_2 a0_3 a0_4 a0_5 l0_6))) = some r := by first | (rw [hy656]; with_reducible exact H) | (have H2_ := (Option.bind_some _ _).symm.trans H; rw [hy656]; with_reducible exact H2_) | (have H2_ := (Option.bind_some _ _).symm.trans H; with_reducible exact H2_) | with_reducible exact H | (rw [hy656]; exact H) | exact H
   have Ny656 := Aside0.mk hy656
   clear hy656
   replace H := Option.bind_eq_some_iff.mp H
   obtain ⟨t659, A30, H⟩ := H
   replace H : (if t659 = true then ((spec_l1Bytes.f k a0_4 2).bind fun t660 => ((spec_l1Bytes.f k a0_5 2).bind fun t663 => (if t660.length + t663.length < 140737488355328 then ((some (t660 ++ t663 : List Int)).bind fun y666 => (if y666.length + y656.length < 140737488355328 then (spec_l2Build.j0 k (y666 ++ y656) a0_0 a0_1 a0_2 a0_3 a0_4 a0_5 l0_6) else (none))) else (none)))) else (spec_l2Build.j0 k y656 a0_0 a0_1 a0_2 a0_3 a0_4 a0_5 l0_6)) = some r := H
   have A3 := Aside0.mk A30
   clear A30
   have HC4 := Aside0.mk H
   clear H
   go_enter Try.func110, Try.ntmps110
   go_upto_if 14 with (first | ((with_reducible refine gate_dst (N := 1) rfl ?_); refine box_event ?hg (N := 1) ?hd (cs := #[.int .i64 a0_0, .int .i64 a0_1, .int .i64 a0_2, .int .i64 a0_3, .int .i64 a0_4, .int .i64 a0_5, .slice A0_6 l0_6.length c0_6]) (t := 53) ?hr ?_; (case hd => rfl); (case hg => rfl); (case hr => first | (go_simp; done) | (go_simp; rfl)); intro gb652 hg w5 hbox hb; have BK652 := Aside0.mk (hbox); have GW652 := Aside0.mk ((by rw [hg]; exact below_size pb : w.heap.size ≤ gb652)); have GE652 := GW652; replace HB := Aside0.mk (below_step pb hb); clear hb hbox hg) | ((with_reducible refine gate_dst (N := 8) rfl ?_); refine Kd.R_lit (Kd.int .u8) _ 5 ?hg (N := 8) ?hd (xs := ([] : List Int)) (inner := []) (ok := fun _ => True) (okp := fun _ => True) ?hr ?hp (fun _ hk => hk) trivial (Below.refl _ _) (Nat.le_refl _) (by simp) ?_; (case hd => rfl); (case hg => rfl); (case hr => first | (go_simp; done) | (go_simp; rfl)); (case hp => exact (Reps.none _ _)); intro v654 w6 ho7 hb hg_ hnew_; clear hg_ hnew_; (first | rw [← Ny653.out] at ho7 | (simp only [Int.reduceToNat] at ho7; rw [← Ny653.out] at ho7)); have HO655 := Aside0.mk (Kd.R_lower ho7 (below_size pb)); replace BK652 := Aside0.mk (blk_below (up BK652.out) hb); replace HB := Aside0.mk (below_step pb hb); clear hb ho7; have hcz8_0 : w6.cell? ⟨gb652, 0, none⟩ = some (.int .i64 a0_0) := (blk_cell BK652.out 0).trans rfl; have hcz8_1 : w6.cell? ⟨gb652, 1, none⟩ = some (.int .i64 a0_1) := (blk_cell BK652.out 1).trans rfl; have hcz8_2 : w6.cell? ⟨gb652, 2, none⟩ = some (.int .i64 a0_2) := (blk_cell BK652.out 2).trans rfl; have hcz8_3 : w6.cell? ⟨gb652, 3, none⟩ = some (.int .i64 a0_3) := (blk_cell BK652.out 3).trans rfl; have hcz8_4 : w6.cell? ⟨gb652, 4, none⟩ = some (.int .i64 a0_4) := (blk_cell BK652.out 4).trans rfl; have hcz8_5 : w6.cell? ⟨gb652, 5, none⟩ = some (.int .i64 a0_5) := (blk_cell BK652.out 5).trans rfl; have hcz8_6 : w6.cell? ⟨gb652, 6, none⟩ = some (.slice A0_6 l0_6.length c0_6) := (blk_cell BK652.out 6).trans rfl; have hfz8_0 := blk_frozen BK652.out 0; have hfz8_1 := blk_frozen BK652.out 1; have hfz8_2 := blk_frozen BK652.out 2; have hfz8_3 := blk_frozen BK652.out 3; have hfz8_4 := blk_frozen BK652.out 4; have hfz8_5 := blk_frozen BK652.out 5; have hfz8_6 := blk_frozen BK652.out 6) | ((with_reducible refine gate_builtin (b := .append) (xs := #[.tmp 8, .tmp 10]) rfl ?_); at_builtin; refine Kd.R_append_rows (Kd.int .u8) (w0 := w) w.heap.size rfl (.tmp 8) (.tmp 10) 22 5 (.int .u8 0) 1 rfl Try.underlying22 info5 rfl (by decide) (by omega) v654 y653 l0_6 _ _ _ (fun _ => True) (fun _ => False) rfl rfl ?aO ?aR (fun _ _ h => h) (fun _ h => h.elim) ?aF ?aB ?aS ?aL ?_; (case aR => exact upC (Kd.C_below HR0_6.out HB.out)); (case aB => exact pb); (case aF => exact (fun _ _ => trivial)); (case aO => exact (upR HO655.out)); (case aS => exact (below_size pb)); (case aL => have := LMc2.out; omega); intro v657 w9 ho hb hg hat; rw [← Ny656.out] at ho; have HO658 := Aside0.mk (ho); replace BK652 := Aside0.mk (blk_grown (g := gb652) (o := .cells #[.int .i64 a0_0, .int .i64 a0_1, .int .i64 a0_2, .int .i64 a0_3, .int .i64 a0_4, .int .i64 a0_5, .slice A0_6 l0_6.length c0_6] 53 (0, 0)) (up BK652.out) hg (Kd.R_ne HO655.out BK652.out (by decide))); replace HB := Aside0.mk (hb); clear HO655; clear ho hb hg hat; have hcz10_0 : w9.cell? ⟨gb652, 0, none⟩ = some (.int .i64 a0_0) := (blk_cell BK652.out 0).trans rfl; have hcz10_1 : w9.cell? ⟨gb652, 1, none⟩ = some (.int .i64 a0_1) := (blk_cell BK652.out 1).trans rfl; have hcz10_2 : w9.cell? ⟨gb652, 2, none⟩ = some (.int .i64 a0_2) := (blk_cell BK652.out 2).trans rfl; have hcz10_3 : w9.cell? ⟨gb652, 3, none⟩ = some (.int .i64 a0_3) := (blk_cell BK652.out 3).trans rfl; have hcz10_4 : w9.cell? ⟨gb652, 4, none⟩ = some (.int .i64 a0_4) := (blk_cell BK652.out 4).trans rfl; have hcz10_5 : w9.cell? ⟨gb652, 5, none⟩ = some (.int .i64 a0_5) := (blk_cell BK652.out 5).trans rfl; have hcz10_6 : w9.cell? ⟨gb652, 6, none⟩ = some (.slice A0_6 l0_6.length c0_6) := (blk_cell BK652.out 6).trans rfl; have hfz10_0 := blk_frozen BK652.out 0; have hfz10_1 := blk_frozen BK652.out 1; have hfz10_2 := blk_frozen BK652.out 2; have hfz10_3 := blk_frozen BK652.out 3; have hfz10_4 := blk_frozen BK652.out 4; have hfz10_5 := blk_frozen BK652.out 5; have hfz10_6 := blk_frozen BK652.out 6) | ((with_reducible refine gate_callee (f := 118) rfl ?_); refine goesL_ (some 14) rfl rfl Try.func118 (by kernel_rfl) rfl #[.int .i64 a0_2] rfl (by (try simp only [List.map_toArray, List.map_cons, List.map_nil]); first | done | rfl | (simp only [List.length_drop, List.length_take]; rfl)) ?_; (with_reducible refine (spec_HasPorts.calls a0_2 t659 _ A3.out).mono ?_); rintro e w' ⟨rfl, ⟨nd, rfl⟩⟩; refine ⟨_, rfl, ?_⟩))
   (try simp only [Act.put, List.setIfInBounds_toArray, List.set_cons_zero, List.set_cons_succ])
   go_cut [3] (fun v3 wc => ∃ (kq : Nat) (x3_3 : List Int), Aside0 (spec_l2Build.j0 kq x3_3 a0_0 a0_1 a0_2 a0_3 a0_4 a0_5 l0_6 = some r) ∧ Aside0 (kq ≤ k) ∧ Aside0 (Kd.R (Kd.int .u8) 5 wc w.heap.size (fun _ => True) v3 x3_3) ∧ Aside0 (wc.heap[gb652]? = some (.cells #[.int .i64 a0_0, .int .i64 a0_1, .int .i64 a0_2, .int .i64 a0_3, .int .i64 a0_4, .int .i64 a0_5, (.slice A0_6 l0_6.length c0_6)] 53 (0, 0))) ∧ Aside0 (Below w.heap.size w wc))
   case first =>
    have H := HC4.out
    clear HC4
    by_cases c11 : t659 = true
    · subst c11
      have H1 : ((spec_l1Bytes.f k a0_4 2).bind fun t660 => ((spec_l1Bytes.f k a0_5 2).bind fun t663 => (if t660.length + t663.length < 140737488355328 then ((some (t660 ++ t663 : List Int)).bind fun y666 => (if y666.length + y656.length < 140737488355328 then (spec_l2Build.j0 k (y666 ++ y656) a0_0 a0_1 a0_2 a0_3 a0_4 a0_5 l0_6) else (none))) else (none)))) = some r := by rw [if_pos rfl] at H; exact H
      clear H
      have H := H1
      clear H1
      replace H := Option.bind_eq_some_iff.mp H
      obtain ⟨t660, A120, H⟩ := H
      replace H : ((spec_l1Bytes.f k a0_5 2).bind fun t663 => (if t660.length + t663.length < 140737488355328 then ((some (t660 ++ t663 : List Int)).bind fun y666 => (if y666.length + y656.length < 140737488355328 then (spec_l2Build.j0 k (y666 ++ y656) a0_0 a0_1 a0_2 a0_3 a0_4 a0_5 l0_6) else (none))) else (none))) = some r := H
      have A12 := Aside0.mk A120
      clear A120
      replace H := Option.bind_eq_some_iff.mp H
      obtain ⟨t663, A130, H⟩ := H
      replace H : (if t660.length + t663.length < 140737488355328 then ((some (t660 ++ t663 : List Int)).bind fun y666 => (if y666.length + y656.length < 140737488355328 then (spec_l2Build.j0 k (y666 ++ y656) a0_0 a0_1 a0_2 a0_3 a0_4 a0_5 l0_6) else (none))) else (none)) = some r := H
      have A13 := Aside0.mk A130
      clear A130
      by_cases c14 : t660.length + t663.length < 140737488355328
      · rw [if_pos c14] at H
        have LMc14 := Aside0.mk c14
        clear c14
        obtain ⟨y666, hy666⟩ : ∃ y_ : List Int, y_ = (t660 ++ t663) := ⟨_, rfl⟩
        replace H : (if y666.length + y656.length < 140737488355328 then (spec_l2Build.j0 k (y666 ++ y656) a0_0 a0_1 a0_2 a0_3 a0_4 a0_5 l0_6) else (none)) = some r := by first | (rw [hy666]; with_reducible exact H) | (have H2_ := (Option.bind_some _ _).symm.trans H; rw [hy666]; with_reducible exact H2_) | (have H2_ := (Option.bind_some _ _).symm.trans H; with_reducible exact H2_) | with_reducible exact H | (rw [hy666]; exact H) | exact H
        have Ny666 := Aside0.mk hy666
        clear hy666
        by_cases c15 : y666.length + y656.length < 140737488355328
        · rw [if_pos c15] at H
          have LMc15 := Aside0.mk c15
          clear c15
          obtain ⟨y669, hy669⟩ : ∃ y_ : List Int, y_ = (y666 ++ y656) := ⟨_, rfl⟩
          replace H : (spec_l2Build.j0 k y669 a0_0 a0_1 a0_2 a0_3 a0_4 a0_5 l0_6) = some r := by first | (rw [hy669]; with_reducible exact H) | (have H2_ := (Option.bind_some _ _).symm.trans H; rw [hy669]; with_reducible exact H2_) | (have H2_ := (Option.bind_some _ _).symm.trans H; with_reducible exact H2_) | with_reducible exact H | (rw [hy669]; exact H) | exact H
          have Ny669 := Aside0.mk hy669
          clear hy669
          have H' := Aside0.mk H
          clear H
          try go_wp2
          replace HO658 := Aside0.mk (Kd.R_drew (Kd.R_drewN HO658.out nd)); replace BK652 := Aside0.mk (blk_drew (blk_drewN BK652.out nd)); replace HB := Aside0.mk (below_drew1 (pw_below_drewN HB.out nd))
          refine start_ (n := 10) (S := fun w' => w'.cell? ⟨gb652, 0, none⟩ = some (.int .i64 a0_0) ∧ w'.cell? ⟨gb652, 1, none⟩ = some (.int .i64 a0_1) ∧ w'.cell? ⟨gb652, 2, none⟩ = some (.int .i64 a0_2) ∧ w'.cell? ⟨gb652, 3, none⟩ = some (.int .i64 a0_3) ∧ w'.cell? ⟨gb652, 4, none⟩ = some (.int .i64 a0_4) ∧ w'.cell? ⟨gb652, 5, none⟩ = some (.int .i64 a0_5) ∧ w'.cell? ⟨gb652, 6, none⟩ = some (.slice A0_6 l0_6.length c0_6)) (ds := []) #[false, false, false, false, false, false, false, false, false, false] (by kernel_rfl) rfl rfl ⟨(blk_cell BK652.out 0).trans rfl, (blk_cell BK652.out 1).trans rfl, (blk_cell BK652.out 2).trans rfl, (blk_cell BK652.out 3).trans rfl, (blk_cell BK652.out 4).trans rfl, (blk_cell BK652.out 5).trans rfl, (blk_cell BK652.out 6).trans rfl⟩ (fun hHeld => ?_); refine with_tabW spec_l2Build.tab3 spec_l2Build.bits3 (fun HT_ HW_ => ?_)
          generalize (w9.drewN nd).drew = w16 at HO658 BK652 HB hHeld ⊢
          refine pure_ (i := 0) (N := some 15) (v := ?_) (a' := ?_) #[true, false, false, false, false, false, false, false, false, false] rfl rfl (any_of HT_.out (by kernel_rfl)) (fun _ _ _ h => h) (Or.inl ⟨by rfl, ?_⟩) ?_ ?_
          rotate_left
          · intro w'
            go_simp
            with_reducible rfl
          rotate_left
          · simp only [Act.put, List.setIfInBounds_toArray, List.set_cons_zero, List.set_cons_succ, i64_w, i32_w]
            rfl
          refine pure_ (i := 3) (N := some 18) (v := ?_) (a' := ?_) #[true, false, false, true, false, false, false, false, false, false] rfl rfl (any_of HT_.out (by kernel_rfl)) (fun _ _ _ h => h) (Or.inl ⟨by rfl, ?_⟩) ?_ ?_
          rotate_left
          · intro w'
            go_simp
            with_reducible rfl
          rotate_left
          · simp only [Act.put, List.setIfInBounds_toArray, List.set_cons_zero, List.set_cons_succ, i64_w, i32_w]
            rfl
          refine pure_ (i := 7) (N := some 22) (v := ?_) (a' := ?_) #[true, false, false, true, false, false, false, true, false, false] rfl rfl (any_of HT_.out (by kernel_rfl)) (fun _ _ _ h => h) (Or.inl ⟨by rfl, ?_⟩) ?_ ?_
          rotate_left
          · intro w'
            go_simp
            with_reducible rfl
          rotate_left
          · simp only [Act.put, List.setIfInBounds_toArray, List.set_cons_zero, List.set_cons_succ, i64_w, i32_w]
            rfl
          refine take_ (i := 1) (N := some 16) (v := ?_) (a' := ?_) #[true, true, false, true, false, false, false, true, false, false] rfl rfl (take_ofW HT_.out HW_.out (by kernel_rfl)) (fun _ _ _ h => h) (Or.inl ⟨by rfl, ?_⟩) hHeld ?_ ?_
          rotate_left
          · rintro w' ⟨s0, s1, s2, s3, s4, s5, s6⟩
            go_simp
            with_reducible rfl
          rotate_left
          · simp only [Act.put, List.setIfInBounds_toArray, List.set_cons_zero, List.set_cons_succ, i64_w, i32_w]
            rfl
          refine take_ (i := 4) (N := some 19) (v := ?_) (a' := ?_) #[true, true, false, true, true, false, false, true, false, false] rfl rfl (take_ofW HT_.out HW_.out (by kernel_rfl)) (fun _ _ _ h => h) (Or.inl ⟨by rfl, ?_⟩) hHeld ?_ ?_
          rotate_left
          · rintro w' ⟨s0, s1, s2, s3, s4, s5, s6⟩
            go_simp
            with_reducible rfl
          rotate_left
          · simp only [Act.put, List.setIfInBounds_toArray, List.set_cons_zero, List.set_cons_succ, i64_w, i32_w]
            rfl
          refine one_ (i := 2) (N := some 17) #[true, true, true, true, true, false, false, true, false, false] rfl rfl (one_of HT_.out (by kernel_rfl)) (by decide) (fun K hK => ?_)
          refine goes_ Try.func66 (by kernel_rfl) rfl #[.int .i64 a0_4, .int .i64 2] (by rfl) rfl rfl (by (try simp only [List.map_toArray, List.map_cons, List.map_nil]); first | done | rfl | (simp only [List.length_drop, List.length_take]; rfl)) ?_
          with_reducible refine (spec_l1Bytes.calls k a0_4 2 t660 _ A12.out).mono ?_
          rintro e w17 ⟨v661, rfl, ho0, hb⟩
          refine ⟨_, rfl, ?_⟩
          have HO662 := Aside0.mk (Kd.R_lower (Kd.R_new' ho0 (Kd.R_lt (upR HO658.out))) (below_size pb)); replace HO658 := Aside0.mk (Kd.R_elder' (upR HO658.out) (Kd.R_base ho0) hb); replace BK652 := Aside0.mk (blk_below (up BK652.out) hb); replace HB := Aside0.mk (below_step pb hb)
          (try clear hb)
          (try clear hb2)
          (try clear hk)
          (try clear hi)
          (try clear ho0)
          refine hK.out _ _ ⟨(blk_cell BK652.out 0).trans rfl, (blk_cell BK652.out 1).trans rfl, (blk_cell BK652.out 2).trans rfl, (blk_cell BK652.out 3).trans rfl, (blk_cell BK652.out 4).trans rfl, (blk_cell BK652.out 5).trans rfl, (blk_cell BK652.out 6).trans rfl⟩ (fun hHeld => ?_)
          clear hK K
          refine norm_ (a' := ?_) ?_ ?_
          rotate_left
          · show Act.put _ (some 17) _ = _
            simp only [Act.put, List.setIfInBounds_toArray, List.set_cons_zero, List.set_cons_succ, i64_w, i32_w]
            rfl
          refine one_ (i := 5) (N := some 20) #[true, true, true, true, true, true, false, true, false, false] rfl rfl (one_of HT_.out (by kernel_rfl)) (by decide) (fun K hK => ?_)
          refine goes_ Try.func66 (by kernel_rfl) rfl #[.int .i64 a0_5, .int .i64 2] (by rfl) rfl rfl (by (try simp only [List.map_toArray, List.map_cons, List.map_nil]); first | done | rfl | (simp only [List.length_drop, List.length_take]; rfl)) ?_
          with_reducible refine (spec_l1Bytes.calls k a0_5 2 t663 _ A13.out).mono ?_
          rintro e w18 ⟨v664, rfl, ho0, hb⟩
          refine ⟨_, rfl, ?_⟩
          have HO665 := Aside0.mk (Kd.R_lower (Kd.R_new' (Kd.R_new' ho0 (Kd.R_lt (upR HO658.out))) (Kd.R_lt (upR HO662.out))) (below_size pb)); replace HO658 := Aside0.mk (Kd.R_elder' (upR HO658.out) (Kd.R_base ho0) hb); replace HO662 := Aside0.mk (Kd.R_elder' (upR HO662.out) (Kd.R_base ho0) hb); replace BK652 := Aside0.mk (blk_below (up BK652.out) hb); replace HB := Aside0.mk (below_step pb hb)
          (try clear hb)
          (try clear hb2)
          (try clear hk)
          (try clear hi)
          (try clear ho0)
          obtain ⟨Ao20, co20, eo20⟩ := Kd.R_slice HO665.out
          (first | subst eo20 | (injection eo20 with f1_ f2_ f3_; have f4_ := f1_.symm; have f5_ := f3_.symm; clear f1_ f2_ f3_; subst f4_; subst f5_))
          refine hK.out _ _ ⟨(blk_cell BK652.out 0).trans rfl, (blk_cell BK652.out 1).trans rfl, (blk_cell BK652.out 2).trans rfl, (blk_cell BK652.out 3).trans rfl, (blk_cell BK652.out 4).trans rfl, (blk_cell BK652.out 5).trans rfl, (blk_cell BK652.out 6).trans rfl⟩ (fun hHeld => ?_)
          clear hK K
          refine norm_ (a' := ?_) ?_ ?_
          rotate_left
          · show Act.put _ (some 20) _ = _
            simp only [Act.put, List.setIfInBounds_toArray, List.set_cons_zero, List.set_cons_succ, i64_w, i32_w]
            rfl
          refine one_ (i := 6) (N := some 21) #[true, true, true, true, true, true, true, true, false, false] rfl rfl (one_of HT_.out (by kernel_rfl)) (by decide) (fun K hK => ?_)
          refine Kd.R_append_rows_step (Kd.int .u8) (w0 := w) w.heap.size (by rfl) (.tmp 17) (.tmp 20) 22 5 (.int .u8 0) 1 rfl Try.underlying22 info5 rfl (by decide) (by omega) v661 t660 t663 _ _ _ (fun k_ => some k_ ≠ (v657 : Value).ownBlock ∧ some k_ ≠ (.slice Ao20 t663.length co20 : Value).ownBlock) (fun _ => False) rfl rfl ?aO ?aR (fun _ _ h => h) (fun _ h => h.elim) ?aF ?aB ?aS ?aL ?_
          (case aR => exact upC (Kd.R_reads' HO665.out).2.2)
          (case aB => exact pb)
          (case aF => exact (fun k_ hk => ⟨Kd.fresh' (Kd.R_lt (upR HO658.out)) k_ hk, Kd.fresh' (Kd.R_lt (upR HO665.out)) k_ hk⟩))
          (case aO => exact (by (with_reducible repeat (first | apply Kd.R_alloc | apply Kd.R_drewN | apply Kd.R_drew)); exact Kd.R_mono HO662.out (fun _ hk => ⟨hk.1.2, hk.2⟩)))
          (case aS => exact (below_size pb))
          (case aL => have := LMc14.out; omega)
          intro v667 w19 ho hb hg hat
          rw [← Ny666.out] at ho
          have HO668 := Aside0.mk (ho); replace BK652 := Aside0.mk (blk_grown (g := gb652) (o := .cells #[.int .i64 a0_0, .int .i64 a0_1, .int .i64 a0_2, .int .i64 a0_3, .int .i64 a0_4, .int .i64 a0_5, .slice A0_6 l0_6.length c0_6] 53 (0, 0)) (up BK652.out) hg (Kd.R_ne HO662.out BK652.out (by decide))); replace HO658 := Aside0.mk (Kd.R_after (ok := (fun k_ => some k_ ≠ (.slice Ao20 t663.length co20 : Value).ownBlock)) (by (with_reducible repeat (first | apply Kd.R_alloc | apply Kd.R_drewN | apply Kd.R_drew)); exact Kd.R_mono HO658.out (fun _ hk => ⟨hk.2, hk.1.2⟩)) hg hat); replace HO665 := Aside0.mk (Kd.R_after (ok := (fun k_ => some k_ ≠ (v657 : Value).ownBlock)) (by (with_reducible repeat (first | apply Kd.R_alloc | apply Kd.R_drewN | apply Kd.R_drew)); exact Kd.R_mono HO665.out (fun _ hk => ⟨hk.1.2, hk.2⟩)) hg hat); replace HB := Aside0.mk (hb); clear HO662
          clear ho hb hg hat
          obtain ⟨Ao22, co22, eo22⟩ := Kd.R_slice HO658.out
          (first | subst eo22 | (injection eo22 with f1_ f2_ f3_; have f4_ := f1_.symm; have f5_ := f3_.symm; clear f1_ f2_ f3_; subst f4_; subst f5_))
          refine hK.out _ _ ⟨(blk_cell BK652.out 0).trans rfl, (blk_cell BK652.out 1).trans rfl, (blk_cell BK652.out 2).trans rfl, (blk_cell BK652.out 3).trans rfl, (blk_cell BK652.out 4).trans rfl, (blk_cell BK652.out 5).trans rfl, (blk_cell BK652.out 6).trans rfl⟩ (fun hHeld => ?_)
          clear hK K
          refine norm_ (a' := ?_) ?_ ?_
          rotate_left
          · show Act.put _ (some 21) _ = _
            simp only [Act.put, List.setIfInBounds_toArray, List.set_cons_zero, List.set_cons_succ, i64_w, i32_w]
            rfl
          refine one_ (i := 8) (N := some 23) #[true, true, true, true, true, true, true, true, true, false] rfl rfl (one_of HT_.out (by kernel_rfl)) (by decide) (fun K hK => ?_)
          refine Kd.R_append_rows_step (Kd.int .u8) (w0 := w) w.heap.size (by rfl) (.tmp 21) (.tmp 22) 22 5 (.int .u8 0) 1 rfl Try.underlying22 info5 rfl (by decide) (by omega) v667 y666 y656 _ _ _ (fun k_ => some k_ ≠ (.slice Ao22 y656.length co22 : Value).ownBlock ∧ some k_ ≠ (.slice Ao20 t663.length co20 : Value).ownBlock) (fun _ => False) rfl rfl ?aO ?aR (fun _ _ h => h) (fun _ h => h.elim) ?aF ?aB ?aS ?aL ?_
          (case aR => exact upC (Kd.R_reads' HO658.out).2.2)
          (case aB => exact pb)
          (case aF => exact (fun k_ hk => ⟨Kd.fresh' (Kd.R_lt (upR HO658.out)) k_ hk, Kd.fresh' (Kd.R_lt (upR HO665.out)) k_ hk⟩))
          (case aO => exact (upR HO668.out))
          (case aS => exact (below_size pb))
          (case aL => have := LMc15.out; omega)
          intro v670 w21 ho hb hg hat
          rw [← Ny669.out] at ho
          have HO671 := Aside0.mk (ho); replace BK652 := Aside0.mk (blk_grown (g := gb652) (o := .cells #[.int .i64 a0_0, .int .i64 a0_1, .int .i64 a0_2, .int .i64 a0_3, .int .i64 a0_4, .int .i64 a0_5, .slice A0_6 l0_6.length c0_6] 53 (0, 0)) (up BK652.out) hg (Kd.R_ne HO668.out BK652.out (by decide))); replace HO658 := Aside0.mk (Kd.R_after (ok := (fun k_ => some k_ ≠ (.slice Ao20 t663.length co20 : Value).ownBlock)) (upR HO658.out) hg hat); replace HO665 := Aside0.mk (Kd.R_after (ok := (fun k_ => some k_ ≠ (.slice Ao22 y656.length co22 : Value).ownBlock)) (upR HO665.out) hg hat); replace HB := Aside0.mk (hb); clear HO668
          clear ho hb hg hat
          refine hK.out _ _ ⟨(blk_cell BK652.out 0).trans rfl, (blk_cell BK652.out 1).trans rfl, (blk_cell BK652.out 2).trans rfl, (blk_cell BK652.out 3).trans rfl, (blk_cell BK652.out 4).trans rfl, (blk_cell BK652.out 5).trans rfl, (blk_cell BK652.out 6).trans rfl⟩ (fun hHeld => ?_)
          clear hK K
          refine norm_ (a' := ?_) ?_ ?_
          rotate_left
          · show Act.put _ (some 23) _ = _
            simp only [Act.put, List.setIfInBounds_toArray, List.set_cons_zero, List.set_cons_succ, i64_w, i32_w]
            rfl
          refine pure_ (i := 9) (N := some 3) (v := ?_) (a' := ?_) #[true, true, true, true, true, true, true, true, true, true] rfl rfl (any_of HT_.out (by kernel_rfl)) (fun _ _ _ h => h) (Or.inl ⟨by rfl, ?_⟩) ?_ ?_
          rotate_left
          · intro w'
            go_simp
            with_reducible rfl
          rotate_left
          · simp only [Act.put, List.setIfInBounds_toArray, List.set_cons_zero, List.set_cons_succ, i64_w, i32_w]
            rfl
          refine done_ (done_of HT_.out (by kernel_rfl)) ?_
          try go_wp2
          go_meet
          case rel => exact ⟨_, (y669), H', ⟨by first | omega | exact Nat.le_refl _⟩, ⟨by (with_reducible repeat (first | apply Kd.R_alloc | apply Kd.R_drewN | apply Kd.R_drew)); exact Kd.R_mono HO671.out (fun _ hk => trivial)⟩, ⟨up BK652.out⟩, ⟨by repeat (first | (with_reducible first | exact HB.out | apply below_alloc | apply pw_below_drewN | apply below_drew1 | refine below_set ?_ GE652.out) | exact HB.out)⟩⟩
        · rw [if_neg c15] at H
          exact absurd H (by simp)
      · rw [if_neg c14] at H
        exact absurd H (by simp)
    · replace c11 := Bool.eq_false_iff.mpr c11
      subst c11
      have H1 : (spec_l2Build.j0 k y656 a0_0 a0_1 a0_2 a0_3 a0_4 a0_5 l0_6) = some r := by rw [if_neg (show ¬ (false = true) by decide)] at H; exact H
      clear H
      have H := H1
      clear H1
      have H' := Aside0.mk H
      clear H
      go_wp2
      go_meet
      case rel => exact ⟨_, (y656), H', ⟨by first | omega | exact Nat.le_refl _⟩, ⟨by (with_reducible repeat (first | apply Kd.R_alloc | apply Kd.R_drewN | apply Kd.R_drew)); exact HO658.out⟩, ⟨up BK652.out⟩, ⟨by repeat (first | (with_reducible first | exact HB.out | apply below_alloc | apply pw_below_drewN | apply below_drew1 | refine below_set ?_ GE652.out) | exact HB.out)⟩⟩
   case rest =>
    clear HC4
    try clear c1
    try clear c2
    try clear p2
    try clear c6
    try clear c11
    try clear c14
    try clear c15
    try clear hcz10_0
    try clear hcz10_1
    try clear hcz10_2
    try clear hcz10_3
    try clear hcz10_4
    try clear hcz10_5
    try clear hcz10_6
    try clear hcz8_0
    try clear hcz8_1
    try clear hcz8_2
    try clear hcz8_3
    try clear hcz8_4
    try clear hcz8_5
    try clear hcz8_6
    try clear hfz10_0
    try clear hfz10_1
    try clear hfz10_2
    try clear hfz10_3
    try clear hfz10_4
    try clear hfz10_5
    try clear hfz10_6
    try clear hfz8_0
    try clear hfz8_1
    try clear hfz8_2
    try clear hfz8_3
    try clear hfz8_4
    try clear hfz8_5
    try clear hfz8_6
    obtain ⟨kq, x3_3, HA, HJ3, HO_3, BK652, HB⟩ := hcut
    cases kq with
    | zero => exact absurd HA.out (by simp [spec_l2Build.j0])
    | succ kj3 =>
     have H := HA.out
     clear HA
     simp only [spec_l2Build.j0] at H
     obtain ⟨y672, hy672⟩ : ∃ y_ : List Int, y_ = (([69, 0] : List Int)) := ⟨_, rfl⟩
     replace H : ((spec_l1Bytes.f kj3 (wrap64 (20 + (x3_3.length : Int))) 2).bind fun t675 => (if y672.length + t675.length < 140737488355328 then ((some (y672 ++ t675 : List Int)).bind fun y678 => ((some (([0, 0, 64, 0, (a0_3) % 256, (a0_2) % 256] : List Int) : List Int)).bind fun y681 => (if y678.length + y681.length < 140737488355328 then ((some (y678 ++ y681 : List Int)).bind fun y684 => ((spec_l1Bytes.f kj3 a0_0 4).bind fun t687 => ((spec_l1Bytes.f kj3 a0_1 4).bind fun t690 => (if t687.length + t690.length < 140737488355328 then ((some (t687 ++ t690 : List Int)).bind fun y693 => ((some (([] : List Int) : List Int)).bind fun y696 => (if y696.length + y684.length < 140737488355328 then ((some (y696 ++ y684 : List Int)).bind fun y699 => ((some (([0, 0] : List Int) : List Int)).bind fun y702 => (if y699.length + y702.length < 140737488355328 then ((some (y699 ++ y702 : List Int)).bind fun y705 => (if y705.length + y693.length < 140737488355328 then ((some (([] : List Int) : List Int)).bind fun y711 => (if y711.length + y684.length < 140737488355328 then ((some (y711 ++ y684 : List Int)).bind fun y714 => ((spec_SumWords.f kj3 (y705 ++ y693)).bind fun t717 => ((spec_l1Bytes.f kj3 t717 2).bind fun t718 => (if y714.length + t718.length < 140737488355328 then ((some (y714 ++ t718 : List Int)).bind fun y721 => (if y721.length + y693.length < 140737488355328 then ((some (y721 ++ y693 : List Int)).bind fun y724 => (if y724.length + x3_3.length < 140737488355328 then (some (y724 ++ x3_3)) else (none))) else (none))) else (none))))) else (none))) else (none))) else (none)))) else (none)))) else (none))))) else (none)))) else (none))) = some r := by first | (rw [hy672]; with_reducible exact H) | (have H2_ := (Option.bind_some _ _).symm.trans H; rw [hy672]; with_reducible exact H2_) | (have H2_ := (Option.bind_some _ _).symm.trans H; with_reducible exact H2_) | with_reducible exact H | (rw [hy672]; exact H) | exact H
     have Ny672 := Aside0.mk hy672
     clear hy672
     replace H := Option.bind_eq_some_iff.mp H
     obtain ⟨t675, A230, H⟩ := H
     replace H : (if y672.length + t675.length < 140737488355328 then ((some (y672 ++ t675 : List Int)).bind fun y678 => ((some (([0, 0, 64, 0, (a0_3) % 256, (a0_2) % 256] : List Int) : List Int)).bind fun y681 => (if y678.length + y681.length < 140737488355328 then ((some (y678 ++ y681 : List Int)).bind fun y684 => ((spec_l1Bytes.f kj3 a0_0 4).bind fun t687 => ((spec_l1Bytes.f kj3 a0_1 4).bind fun t690 => (if t687.length + t690.length < 140737488355328 then ((some (t687 ++ t690 : List Int)).bind fun y693 => ((some (([] : List Int) : List Int)).bind fun y696 => (if y696.length + y684.length < 140737488355328 then ((some (y696 ++ y684 : List Int)).bind fun y699 => ((some (([0, 0] : List Int) : List Int)).bind fun y702 => (if y699.length + y702.length < 140737488355328 then ((some (y699 ++ y702 : List Int)).bind fun y705 => (if y705.length + y693.length < 140737488355328 then ((some (([] : List Int) : List Int)).bind fun y711 => (if y711.length + y684.length < 140737488355328 then ((some (y711 ++ y684 : List Int)).bind fun y714 => ((spec_SumWords.f kj3 (y705 ++ y693)).bind fun t717 => ((spec_l1Bytes.f kj3 t717 2).bind fun t718 => (if y714.length + t718.length < 140737488355328 then ((some (y714 ++ t718 : List Int)).bind fun y721 => (if y721.length + y693.length < 140737488355328 then ((some (y721 ++ y693 : List Int)).bind fun y724 => (if y724.length + x3_3.length < 140737488355328 then (some (y724 ++ x3_3)) else (none))) else (none))) else (none))))) else (none))) else (none))) else (none)))) else (none)))) else (none))))) else (none)))) else (none)) = some r := H
     have A23 := Aside0.mk A230
     clear A230
     by_cases c24 : y672.length + t675.length < 140737488355328
     · rw [if_pos c24] at H
       have LMc24 := Aside0.mk c24
       clear c24
       obtain ⟨y678, hy678⟩ : ∃ y_ : List Int, y_ = (y672 ++ t675) := ⟨_, rfl⟩
       replace H : ((some (([0, 0, 64, 0, (a0_3) % 256, (a0_2) % 256] : List Int) : List Int)).bind fun y681 => (if y678.length + y681.length < 140737488355328 then ((some (y678 ++ y681 : List Int)).bind fun y684 => ((spec_l1Bytes.f kj3 a0_0 4).bind fun t687 => ((spec_l1Bytes.f kj3 a0_1 4).bind fun t690 => (if t687.length + t690.length < 140737488355328 then ((some (t687 ++ t690 : List Int)).bind fun y693 => ((some (([] : List Int) : List Int)).bind fun y696 => (if y696.length + y684.length < 140737488355328 then ((some (y696 ++ y684 : List Int)).bind fun y699 => ((some (([0, 0] : List Int) : List Int)).bind fun y702 => (if y699.length + y702.length < 140737488355328 then ((some (y699 ++ y702 : List Int)).bind fun y705 => (if y705.length + y693.length < 140737488355328 then ((some (([] : List Int) : List Int)).bind fun y711 => (if y711.length + y684.length < 140737488355328 then ((some (y711 ++ y684 : List Int)).bind fun y714 => ((spec_SumWords.f kj3 (y705 ++ y693)).bind fun t717 => ((spec_l1Bytes.f kj3 t717 2).bind fun t718 => (if y714.length + t718.length < 140737488355328 then ((some (y714 ++ t718 : List Int)).bind fun y721 => (if y721.length + y693.length < 140737488355328 then ((some (y721 ++ y693 : List Int)).bind fun y724 => (if y724.length + x3_3.length < 140737488355328 then (some (y724 ++ x3_3)) else (none))) else (none))) else (none))))) else (none))) else (none))) else (none)))) else (none)))) else (none))))) else (none))) = some r := by first | (rw [hy678]; with_reducible exact H) | (have H2_ := (Option.bind_some _ _).symm.trans H; rw [hy678]; with_reducible exact H2_) | (have H2_ := (Option.bind_some _ _).symm.trans H; with_reducible exact H2_) | with_reducible exact H | (rw [hy678]; exact H) | exact H
       have Ny678 := Aside0.mk hy678
       clear hy678
       obtain ⟨y681, hy681⟩ : ∃ y_ : List Int, y_ = (([0, 0, 64, 0, (a0_3) % 256, (a0_2) % 256] : List Int)) := ⟨_, rfl⟩
       replace H : (if y678.length + y681.length < 140737488355328 then ((some (y678 ++ y681 : List Int)).bind fun y684 => ((spec_l1Bytes.f kj3 a0_0 4).bind fun t687 => ((spec_l1Bytes.f kj3 a0_1 4).bind fun t690 => (if t687.length + t690.length < 140737488355328 then ((some (t687 ++ t690 : List Int)).bind fun y693 => ((some (([] : List Int) : List Int)).bind fun y696 => (if y696.length + y684.length < 140737488355328 then ((some (y696 ++ y684 : List Int)).bind fun y699 => ((some (([0, 0] : List Int) : List Int)).bind fun y702 => (if y699.length + y702.length < 140737488355328 then ((some (y699 ++ y702 : List Int)).bind fun y705 => (if y705.length + y693.length < 140737488355328 then ((some (([] : List Int) : List Int)).bind fun y711 => (if y711.length + y684.length < 140737488355328 then ((some (y711 ++ y684 : List Int)).bind fun y714 => ((spec_SumWords.f kj3 (y705 ++ y693)).bind fun t717 => ((spec_l1Bytes.f kj3 t717 2).bind fun t718 => (if y714.length + t718.length < 140737488355328 then ((some (y714 ++ t718 : List Int)).bind fun y721 => (if y721.length + y693.length < 140737488355328 then ((some (y721 ++ y693 : List Int)).bind fun y724 => (if y724.length + x3_3.length < 140737488355328 then (some (y724 ++ x3_3)) else (none))) else (none))) else (none))))) else (none))) else (none))) else (none)))) else (none)))) else (none))))) else (none)) = some r := by first | (rw [hy681]; with_reducible exact H) | (have H2_ := (Option.bind_some _ _).symm.trans H; rw [hy681]; with_reducible exact H2_) | (have H2_ := (Option.bind_some _ _).symm.trans H; with_reducible exact H2_) | with_reducible exact H | (rw [hy681]; exact H) | exact H
       have Ny681 := Aside0.mk hy681
       clear hy681
       by_cases c25 : y678.length + y681.length < 140737488355328
       · rw [if_pos c25] at H
         have LMc25 := Aside0.mk c25
         clear c25
         obtain ⟨y684, hy684⟩ : ∃ y_ : List Int, y_ = (y678 ++ y681) := ⟨_, rfl⟩
         replace H : ((spec_l1Bytes.f kj3 a0_0 4).bind fun t687 => ((spec_l1Bytes.f kj3 a0_1 4).bind fun t690 => (if t687.length + t690.length < 140737488355328 then ((some (t687 ++ t690 : List Int)).bind fun y693 => ((some (([] : List Int) : List Int)).bind fun y696 => (if y696.length + y684.length < 140737488355328 then ((some (y696 ++ y684 : List Int)).bind fun y699 => ((some (([0, 0] : List Int) : List Int)).bind fun y702 => (if y699.length + y702.length < 140737488355328 then ((some (y699 ++ y702 : List Int)).bind fun y705 => (if y705.length + y693.length < 140737488355328 then ((some (([] : List Int) : List Int)).bind fun y711 => (if y711.length + y684.length < 140737488355328 then ((some (y711 ++ y684 : List Int)).bind fun y714 => ((spec_SumWords.f kj3 (y705 ++ y693)).bind fun t717 => ((spec_l1Bytes.f kj3 t717 2).bind fun t718 => (if y714.length + t718.length < 140737488355328 then ((some (y714 ++ t718 : List Int)).bind fun y721 => (if y721.length + y693.length < 140737488355328 then ((some (y721 ++ y693 : List Int)).bind fun y724 => (if y724.length + x3_3.length < 140737488355328 then (some (y724 ++ x3_3)) else (none))) else (none))) else (none))))) else (none))) else (none))) else (none)))) else (none)))) else (none)))) = some r := by first | (rw [hy684]; with_reducible exact H) | (have H2_ := (Option.bind_some _ _).symm.trans H; rw [hy684]; with_reducible exact H2_) | (have H2_ := (Option.bind_some _ _).symm.trans H; with_reducible exact H2_) | with_reducible exact H | (rw [hy684]; exact H) | exact H
         have Ny684 := Aside0.mk hy684
         clear hy684
         replace H := Option.bind_eq_some_iff.mp H
         obtain ⟨t687, A260, H⟩ := H
         replace H : ((spec_l1Bytes.f kj3 a0_1 4).bind fun t690 => (if t687.length + t690.length < 140737488355328 then ((some (t687 ++ t690 : List Int)).bind fun y693 => ((some (([] : List Int) : List Int)).bind fun y696 => (if y696.length + y684.length < 140737488355328 then ((some (y696 ++ y684 : List Int)).bind fun y699 => ((some (([0, 0] : List Int) : List Int)).bind fun y702 => (if y699.length + y702.length < 140737488355328 then ((some (y699 ++ y702 : List Int)).bind fun y705 => (if y705.length + y693.length < 140737488355328 then ((some (([] : List Int) : List Int)).bind fun y711 => (if y711.length + y684.length < 140737488355328 then ((some (y711 ++ y684 : List Int)).bind fun y714 => ((spec_SumWords.f kj3 (y705 ++ y693)).bind fun t717 => ((spec_l1Bytes.f kj3 t717 2).bind fun t718 => (if y714.length + t718.length < 140737488355328 then ((some (y714 ++ t718 : List Int)).bind fun y721 => (if y721.length + y693.length < 140737488355328 then ((some (y721 ++ y693 : List Int)).bind fun y724 => (if y724.length + x3_3.length < 140737488355328 then (some (y724 ++ x3_3)) else (none))) else (none))) else (none))))) else (none))) else (none))) else (none)))) else (none)))) else (none))) = some r := H
         have A26 := Aside0.mk A260
         clear A260
         replace H := Option.bind_eq_some_iff.mp H
         obtain ⟨t690, A270, H⟩ := H
         replace H : (if t687.length + t690.length < 140737488355328 then ((some (t687 ++ t690 : List Int)).bind fun y693 => ((some (([] : List Int) : List Int)).bind fun y696 => (if y696.length + y684.length < 140737488355328 then ((some (y696 ++ y684 : List Int)).bind fun y699 => ((some (([0, 0] : List Int) : List Int)).bind fun y702 => (if y699.length + y702.length < 140737488355328 then ((some (y699 ++ y702 : List Int)).bind fun y705 => (if y705.length + y693.length < 140737488355328 then ((some (([] : List Int) : List Int)).bind fun y711 => (if y711.length + y684.length < 140737488355328 then ((some (y711 ++ y684 : List Int)).bind fun y714 => ((spec_SumWords.f kj3 (y705 ++ y693)).bind fun t717 => ((spec_l1Bytes.f kj3 t717 2).bind fun t718 => (if y714.length + t718.length < 140737488355328 then ((some (y714 ++ t718 : List Int)).bind fun y721 => (if y721.length + y693.length < 140737488355328 then ((some (y721 ++ y693 : List Int)).bind fun y724 => (if y724.length + x3_3.length < 140737488355328 then (some (y724 ++ x3_3)) else (none))) else (none))) else (none))))) else (none))) else (none))) else (none)))) else (none)))) else (none)) = some r := H
         have A27 := Aside0.mk A270
         clear A270
         by_cases c28 : t687.length + t690.length < 140737488355328
         · rw [if_pos c28] at H
           have LMc28 := Aside0.mk c28
           clear c28
           obtain ⟨y693, hy693⟩ : ∃ y_ : List Int, y_ = (t687 ++ t690) := ⟨_, rfl⟩
           replace H : ((some (([] : List Int) : List Int)).bind fun y696 => (if y696.length + y684.length < 140737488355328 then ((some (y696 ++ y684 : List Int)).bind fun y699 => ((some (([0, 0] : List Int) : List Int)).bind fun y702 => (if y699.length + y702.length < 140737488355328 then ((some (y699 ++ y702 : List Int)).bind fun y705 => (if y705.length + y693.length < 140737488355328 then ((some (([] : List Int) : List Int)).bind fun y711 => (if y711.length + y684.length < 140737488355328 then ((some (y711 ++ y684 : List Int)).bind fun y714 => ((spec_SumWords.f kj3 (y705 ++ y693)).bind fun t717 => ((spec_l1Bytes.f kj3 t717 2).bind fun t718 => (if y714.length + t718.length < 140737488355328 then ((some (y714 ++ t718 : List Int)).bind fun y721 => (if y721.length + y693.length < 140737488355328 then ((some (y721 ++ y693 : List Int)).bind fun y724 => (if y724.length + x3_3.length < 140737488355328 then (some (y724 ++ x3_3)) else (none))) else (none))) else (none))))) else (none))) else (none))) else (none)))) else (none))) = some r := by first | (rw [hy693]; with_reducible exact H) | (have H2_ := (Option.bind_some _ _).symm.trans H; rw [hy693]; with_reducible exact H2_) | (have H2_ := (Option.bind_some _ _).symm.trans H; with_reducible exact H2_) | with_reducible exact H | (rw [hy693]; exact H) | exact H
           have Ny693 := Aside0.mk hy693
           clear hy693
           obtain ⟨y696, hy696⟩ : ∃ y_ : List Int, y_ = (([] : List Int)) := ⟨_, rfl⟩
           replace H : (if y696.length + y684.length < 140737488355328 then ((some (y696 ++ y684 : List Int)).bind fun y699 => ((some (([0, 0] : List Int) : List Int)).bind fun y702 => (if y699.length + y702.length < 140737488355328 then ((some (y699 ++ y702 : List Int)).bind fun y705 => (if y705.length + y693.length < 140737488355328 then ((some (([] : List Int) : List Int)).bind fun y711 => (if y711.length + y684.length < 140737488355328 then ((some (y711 ++ y684 : List Int)).bind fun y714 => ((spec_SumWords.f kj3 (y705 ++ y693)).bind fun t717 => ((spec_l1Bytes.f kj3 t717 2).bind fun t718 => (if y714.length + t718.length < 140737488355328 then ((some (y714 ++ t718 : List Int)).bind fun y721 => (if y721.length + y693.length < 140737488355328 then ((some (y721 ++ y693 : List Int)).bind fun y724 => (if y724.length + x3_3.length < 140737488355328 then (some (y724 ++ x3_3)) else (none))) else (none))) else (none))))) else (none))) else (none))) else (none)))) else (none)) = some r := by first | (rw [hy696]; with_reducible exact H) | (have H2_ := (Option.bind_some _ _).symm.trans H; rw [hy696]; with_reducible exact H2_) | (have H2_ := (Option.bind_some _ _).symm.trans H; with_reducible exact H2_) | with_reducible exact H | (rw [hy696]; exact H) | exact H
           have Ny696 := Aside0.mk hy696
           clear hy696
           by_cases c29 : y696.length + y684.length < 140737488355328
           · rw [if_pos c29] at H
             have LMc29 := Aside0.mk c29
             clear c29
             obtain ⟨y699, hy699⟩ : ∃ y_ : List Int, y_ = (y696 ++ y684) := ⟨_, rfl⟩
             replace H : ((some (([0, 0] : List Int) : List Int)).bind fun y702 => (if y699.length + y702.length < 140737488355328 then ((some (y699 ++ y702 : List Int)).bind fun y705 => (if y705.length + y693.length < 140737488355328 then ((some (([] : List Int) : List Int)).bind fun y711 => (if y711.length + y684.length < 140737488355328 then ((some (y711 ++ y684 : List Int)).bind fun y714 => ((spec_SumWords.f kj3 (y705 ++ y693)).bind fun t717 => ((spec_l1Bytes.f kj3 t717 2).bind fun t718 => (if y714.length + t718.length < 140737488355328 then ((some (y714 ++ t718 : List Int)).bind fun y721 => (if y721.length + y693.length < 140737488355328 then ((some (y721 ++ y693 : List Int)).bind fun y724 => (if y724.length + x3_3.length < 140737488355328 then (some (y724 ++ x3_3)) else (none))) else (none))) else (none))))) else (none))) else (none))) else (none))) = some r := by first | (rw [hy699]; with_reducible exact H) | (have H2_ := (Option.bind_some _ _).symm.trans H; rw [hy699]; with_reducible exact H2_) | (have H2_ := (Option.bind_some _ _).symm.trans H; with_reducible exact H2_) | with_reducible exact H | (rw [hy699]; exact H) | exact H
             have Ny699 := Aside0.mk hy699
             clear hy699
             obtain ⟨y702, hy702⟩ : ∃ y_ : List Int, y_ = (([0, 0] : List Int)) := ⟨_, rfl⟩
             replace H : (if y699.length + y702.length < 140737488355328 then ((some (y699 ++ y702 : List Int)).bind fun y705 => (if y705.length + y693.length < 140737488355328 then ((some (([] : List Int) : List Int)).bind fun y711 => (if y711.length + y684.length < 140737488355328 then ((some (y711 ++ y684 : List Int)).bind fun y714 => ((spec_SumWords.f kj3 (y705 ++ y693)).bind fun t717 => ((spec_l1Bytes.f kj3 t717 2).bind fun t718 => (if y714.length + t718.length < 140737488355328 then ((some (y714 ++ t718 : List Int)).bind fun y721 => (if y721.length + y693.length < 140737488355328 then ((some (y721 ++ y693 : List Int)).bind fun y724 => (if y724.length + x3_3.length < 140737488355328 then (some (y724 ++ x3_3)) else (none))) else (none))) else (none))))) else (none))) else (none))) else (none)) = some r := by first | (rw [hy702]; with_reducible exact H) | (have H2_ := (Option.bind_some _ _).symm.trans H; rw [hy702]; with_reducible exact H2_) | (have H2_ := (Option.bind_some _ _).symm.trans H; with_reducible exact H2_) | with_reducible exact H | (rw [hy702]; exact H) | exact H
             have Ny702 := Aside0.mk hy702
             clear hy702
             by_cases c30 : y699.length + y702.length < 140737488355328
             · rw [if_pos c30] at H
               have LMc30 := Aside0.mk c30
               clear c30
               obtain ⟨y705, hy705⟩ : ∃ y_ : List Int, y_ = (y699 ++ y702) := ⟨_, rfl⟩
               replace H : (if y705.length + y693.length < 140737488355328 then ((some (([] : List Int) : List Int)).bind fun y711 => (if y711.length + y684.length < 140737488355328 then ((some (y711 ++ y684 : List Int)).bind fun y714 => ((spec_SumWords.f kj3 (y705 ++ y693)).bind fun t717 => ((spec_l1Bytes.f kj3 t717 2).bind fun t718 => (if y714.length + t718.length < 140737488355328 then ((some (y714 ++ t718 : List Int)).bind fun y721 => (if y721.length + y693.length < 140737488355328 then ((some (y721 ++ y693 : List Int)).bind fun y724 => (if y724.length + x3_3.length < 140737488355328 then (some (y724 ++ x3_3)) else (none))) else (none))) else (none))))) else (none))) else (none)) = some r := by first | (rw [hy705]; with_reducible exact H) | (have H2_ := (Option.bind_some _ _).symm.trans H; rw [hy705]; with_reducible exact H2_) | (have H2_ := (Option.bind_some _ _).symm.trans H; with_reducible exact H2_) | with_reducible exact H | (rw [hy705]; exact H) | exact H
               have Ny705 := Aside0.mk hy705
               clear hy705
               by_cases c31 : y705.length + y693.length < 140737488355328
               · rw [if_pos c31] at H
                 have LMc31 := Aside0.mk c31
                 clear c31
                 obtain ⟨y708, hy708⟩ : ∃ y_ : List Int, y_ = (y705 ++ y693) := ⟨_, rfl⟩
                 replace H : ((some (([] : List Int) : List Int)).bind fun y711 => (if y711.length + y684.length < 140737488355328 then ((some (y711 ++ y684 : List Int)).bind fun y714 => ((spec_SumWords.f kj3 y708).bind fun t717 => ((spec_l1Bytes.f kj3 t717 2).bind fun t718 => (if y714.length + t718.length < 140737488355328 then ((some (y714 ++ t718 : List Int)).bind fun y721 => (if y721.length + y693.length < 140737488355328 then ((some (y721 ++ y693 : List Int)).bind fun y724 => (if y724.length + x3_3.length < 140737488355328 then (some (y724 ++ x3_3)) else (none))) else (none))) else (none))))) else (none))) = some r := by first | (rw [hy708]; with_reducible exact H) | (have H2_ := (Option.bind_some _ _).symm.trans H; rw [hy708]; with_reducible exact H2_) | (have H2_ := (Option.bind_some _ _).symm.trans H; with_reducible exact H2_) | with_reducible exact H | (rw [hy708]; exact H) | exact H
                 have Ny708 := Aside0.mk hy708
                 clear hy708
                 obtain ⟨y711, hy711⟩ : ∃ y_ : List Int, y_ = (([] : List Int)) := ⟨_, rfl⟩
                 replace H : (if y711.length + y684.length < 140737488355328 then ((some (y711 ++ y684 : List Int)).bind fun y714 => ((spec_SumWords.f kj3 y708).bind fun t717 => ((spec_l1Bytes.f kj3 t717 2).bind fun t718 => (if y714.length + t718.length < 140737488355328 then ((some (y714 ++ t718 : List Int)).bind fun y721 => (if y721.length + y693.length < 140737488355328 then ((some (y721 ++ y693 : List Int)).bind fun y724 => (if y724.length + x3_3.length < 140737488355328 then (some (y724 ++ x3_3)) else (none))) else (none))) else (none))))) else (none)) = some r := by first | (rw [hy711]; with_reducible exact H) | (have H2_ := (Option.bind_some _ _).symm.trans H; rw [hy711]; with_reducible exact H2_) | (have H2_ := (Option.bind_some _ _).symm.trans H; with_reducible exact H2_) | with_reducible exact H | (rw [hy711]; exact H) | exact H
                 have Ny711 := Aside0.mk hy711
                 clear hy711
                 by_cases c32 : y711.length + y684.length < 140737488355328
                 · rw [if_pos c32] at H
                   have LMc32 := Aside0.mk c32
                   clear c32
                   obtain ⟨y714, hy714⟩ : ∃ y_ : List Int, y_ = (y711 ++ y684) := ⟨_, rfl⟩
                   replace H : ((spec_SumWords.f kj3 y708).bind fun t717 => ((spec_l1Bytes.f kj3 t717 2).bind fun t718 => (if y714.length + t718.length < 140737488355328 then ((some (y714 ++ t718 : List Int)).bind fun y721 => (if y721.length + y693.length < 140737488355328 then ((some (y721 ++ y693 : List Int)).bind fun y724 => (if y724.length + x3_3.length < 140737488355328 then (some (y724 ++ x3_3)) else (none))) else (none))) else (none)))) = some r := by first | (rw [hy714]; with_reducible exact H) | (have H2_ := (Option.bind_some _ _).symm.trans H; rw [hy714]; with_reducible exact H2_) | (have H2_ := (Option.bind_some _ _).symm.trans H; with_reducible exact H2_) | with_reducible exact H | (rw [hy714]; exact H) | exact H
                   have Ny714 := Aside0.mk hy714
                   clear hy714
                   replace H := Option.bind_eq_some_iff.mp H
                   obtain ⟨t717, A330, H⟩ := H
                   replace H : ((spec_l1Bytes.f kj3 t717 2).bind fun t718 => (if y714.length + t718.length < 140737488355328 then ((some (y714 ++ t718 : List Int)).bind fun y721 => (if y721.length + y693.length < 140737488355328 then ((some (y721 ++ y693 : List Int)).bind fun y724 => (if y724.length + x3_3.length < 140737488355328 then (some (y724 ++ x3_3)) else (none))) else (none))) else (none))) = some r := H
                   have A33 := Aside0.mk A330
                   clear A330
                   replace H := Option.bind_eq_some_iff.mp H
                   obtain ⟨t718, A340, H⟩ := H
                   replace H : (if y714.length + t718.length < 140737488355328 then ((some (y714 ++ t718 : List Int)).bind fun y721 => (if y721.length + y693.length < 140737488355328 then ((some (y721 ++ y693 : List Int)).bind fun y724 => (if y724.length + x3_3.length < 140737488355328 then (some (y724 ++ x3_3)) else (none))) else (none))) else (none)) = some r := H
                   have A34 := Aside0.mk A340
                   clear A340
                   by_cases c35 : y714.length + t718.length < 140737488355328
                   · rw [if_pos c35] at H
                     have LMc35 := Aside0.mk c35
                     clear c35
                     obtain ⟨y721, hy721⟩ : ∃ y_ : List Int, y_ = (y714 ++ t718) := ⟨_, rfl⟩
                     replace H : (if y721.length + y693.length < 140737488355328 then ((some (y721 ++ y693 : List Int)).bind fun y724 => (if y724.length + x3_3.length < 140737488355328 then (some (y724 ++ x3_3)) else (none))) else (none)) = some r := by first | (rw [hy721]; with_reducible exact H) | (have H2_ := (Option.bind_some _ _).symm.trans H; rw [hy721]; with_reducible exact H2_) | (have H2_ := (Option.bind_some _ _).symm.trans H; with_reducible exact H2_) | with_reducible exact H | (rw [hy721]; exact H) | exact H
                     have Ny721 := Aside0.mk hy721
                     clear hy721
                     by_cases c36 : y721.length + y693.length < 140737488355328
                     · rw [if_pos c36] at H
                       have LMc36 := Aside0.mk c36
                       clear c36
                       obtain ⟨y724, hy724⟩ : ∃ y_ : List Int, y_ = (y721 ++ y693) := ⟨_, rfl⟩
                       replace H : (if y724.length + x3_3.length < 140737488355328 then (some (y724 ++ x3_3)) else (none)) = some r := by first | (rw [hy724]; with_reducible exact H) | (have H2_ := (Option.bind_some _ _).symm.trans H; rw [hy724]; with_reducible exact H2_) | (have H2_ := (Option.bind_some _ _).symm.trans H; with_reducible exact H2_) | with_reducible exact H | (rw [hy724]; exact H) | exact H
                       have Ny724 := Aside0.mk hy724
                       clear hy724
                       by_cases c37 : y724.length + x3_3.length < 140737488355328
                       · rw [if_pos c37] at H
                         have LMc37 := Aside0.mk c37
                         clear c37
                         obtain ⟨y727, hy727⟩ : ∃ y_ : List Int, y_ = (y724 ++ x3_3) := ⟨_, rfl⟩
                         replace H : (some y727) = some r := by first | (rw [hy727]; with_reducible exact H) | (have H2_ := (Option.bind_some _ _).symm.trans H; rw [hy727]; with_reducible exact H2_) | (have H2_ := (Option.bind_some _ _).symm.trans H; with_reducible exact H2_) | with_reducible exact H | (rw [hy727]; exact H) | exact H
                         have Ny727 := Aside0.mk hy727
                         clear hy727
                         obtain rfl := Option.some.inj H
                         try go_wp2_with (first | ((with_reducible refine gate_dst (N := 24) rfl ?_); refine Kd.R_lit (Kd.int .u8) _ 5 ?hg (N := 24) ?hd (xs := ([69, 0] : List Int)) (inner := [.int .u8 69, .int .u8 0]) (ok := fun _ => True) (okp := fun _ => True) ?hr ?hp (fun _ hk => hk) trivial (Below.refl _ _) (Nat.le_refl _) (by simp) ?_; (case hd => rfl); (case hg => rfl); (case hr => first | (go_simp; done) | (go_simp; rfl)); (case hp => exact (Reps.one (show Kd.M (Kd.int .u8) _ _ _ 69 [.int .u8 69] from rfl) (Reps.one (show Kd.M (Kd.int .u8) _ _ _ 0 [.int .u8 0] from rfl) (Reps.none _ _)))); intro v673 w38 ho39 hb hg_ hnew_; clear hg_ hnew_; (first | rw [← Ny672.out] at ho39 | (simp only [Int.reduceToNat] at ho39; rw [← Ny672.out] at ho39)); have HO674 := Aside0.mk (Kd.R_lower (Kd.R_new' ho39 (Kd.R_lt (by (with_reducible repeat (first | apply Kd.R_alloc | apply Kd.R_drewN | apply Kd.R_drew)); exact HO_3.out))) (below_size pb)); replace HO_3 := Aside0.mk (Kd.R_elder' (by (with_reducible repeat (first | apply Kd.R_alloc | apply Kd.R_drewN | apply Kd.R_drew)); exact HO_3.out) (Kd.R_base ho39) hb); replace BK652 := Aside0.mk (blk_below (up BK652.out) hb); replace HB := Aside0.mk (below_step pb hb); clear hb ho39; obtain ⟨Ao40, co40, eo40⟩ := Kd.R_slice HO_3.out; subst eo40) | ((with_reducible refine gate_callee (f := 66) rfl ?_); refine goesL_ (some 28) rfl rfl Try.func66 (by kernel_rfl) rfl #[.int .i64 (wrap64 (20 + (x3_3.length : Int))), .int .i64 2] rfl (by (try simp only [List.map_toArray, List.map_cons, List.map_nil]); first | done | rfl | (simp only [List.length_drop, List.length_take]; rfl)) ?_; (with_reducible refine (spec_l1Bytes.calls kj3 (wrap64 (20 + (x3_3.length : Int))) 2 t675 _ A23.out).mono ?_); rintro e w41 ⟨v676, rfl, ho0, hb⟩; refine ⟨_, rfl, ?_⟩; have HO677 := Aside0.mk (Kd.R_lower (Kd.R_new' (Kd.R_new' ho0 (Kd.R_lt (by (with_reducible repeat (first | apply Kd.R_alloc | apply Kd.R_drewN | apply Kd.R_drew)); exact HO_3.out))) (Kd.R_lt (upR HO674.out))) (below_size pb)); replace HO_3 := Aside0.mk (Kd.R_elder' (by (with_reducible repeat (first | apply Kd.R_alloc | apply Kd.R_drewN | apply Kd.R_drew)); exact HO_3.out) (Kd.R_base ho0) hb); replace HO674 := Aside0.mk (Kd.R_elder' (upR HO674.out) (Kd.R_base ho0) hb); replace BK652 := Aside0.mk (blk_below (up BK652.out) hb); replace HB := Aside0.mk (below_step pb hb); (try clear hb); (try clear hb2); (try clear hk); (try clear hi); (try clear ho0); obtain ⟨Ao43, co43, eo43⟩ := Kd.R_slice HO677.out; subst eo43) | ((with_reducible refine gate_builtin (b := .append) (xs := #[.tmp 24, .tmp 28]) rfl ?_); at_builtin; refine Kd.R_append_rows (Kd.int .u8) (w0 := w) w.heap.size rfl (.tmp 24) (.tmp 28) 22 5 (.int .u8 0) 1 rfl Try.underlying22 info5 rfl (by decide) (by omega) v673 y672 t675 _ _ _ (fun k_ => some k_ ≠ (.slice Ao40 x3_3.length co40 : Value).ownBlock ∧ some k_ ≠ (.slice Ao43 t675.length co43 : Value).ownBlock) (fun _ => False) rfl rfl ?aO ?aR (fun _ _ h => h) (fun _ h => h.elim) ?aF ?aB ?aS ?aL ?_; (case aR => exact upC (Kd.R_reads' HO677.out).2.2); (case aB => exact pb); (case aF => exact (fun k_ hk => ⟨Kd.fresh' (Kd.R_lt (by (with_reducible repeat (first | apply Kd.R_alloc | apply Kd.R_drewN | apply Kd.R_drew)); exact HO_3.out)) k_ hk, Kd.fresh' (Kd.R_lt (upR HO677.out)) k_ hk⟩)); (case aO => exact (by (with_reducible repeat (first | apply Kd.R_alloc | apply Kd.R_drewN | apply Kd.R_drew)); exact Kd.R_mono HO674.out (fun _ hk => ⟨hk.1.2, hk.2⟩))); (case aS => exact (below_size pb)); (case aL => have := LMc24.out; omega); intro v679 w42 ho hb hg hat; rw [← Ny678.out] at ho; have HO680 := Aside0.mk (ho); replace HO_3 := Aside0.mk (Kd.R_after (ok := (fun k_ => some k_ ≠ (.slice Ao43 t675.length co43 : Value).ownBlock)) (by (with_reducible repeat (first | apply Kd.R_alloc | apply Kd.R_drewN | apply Kd.R_drew)); exact Kd.R_mono HO_3.out (fun _ hk => ⟨hk.2, hk.1.2⟩)) hg hat); replace BK652 := Aside0.mk (blk_grown (g := gb652) (o := .cells #[.int .i64 a0_0, .int .i64 a0_1, .int .i64 a0_2, .int .i64 a0_3, .int .i64 a0_4, .int .i64 a0_5, .slice A0_6 l0_6.length c0_6] 53 (0, 0)) (up BK652.out) hg (Kd.R_ne HO674.out BK652.out (by decide))); replace HO677 := Aside0.mk (Kd.R_after (ok := (fun k_ => some k_ ≠ (.slice Ao40 x3_3.length co40 : Value).ownBlock)) (by (with_reducible repeat (first | apply Kd.R_alloc | apply Kd.R_drewN | apply Kd.R_drew)); exact Kd.R_mono HO677.out (fun _ hk => ⟨hk.1.2, hk.2⟩)) hg hat); replace HB := Aside0.mk (hb); clear HO674; clear ho hb hg hat; have hcz44_0 : w42.cell? ⟨gb652, 0, none⟩ = some (.int .i64 a0_0) := (blk_cell BK652.out 0).trans rfl; have hcz44_1 : w42.cell? ⟨gb652, 1, none⟩ = some (.int .i64 a0_1) := (blk_cell BK652.out 1).trans rfl; have hcz44_2 : w42.cell? ⟨gb652, 2, none⟩ = some (.int .i64 a0_2) := (blk_cell BK652.out 2).trans rfl; have hcz44_3 : w42.cell? ⟨gb652, 3, none⟩ = some (.int .i64 a0_3) := (blk_cell BK652.out 3).trans rfl; have hcz44_4 : w42.cell? ⟨gb652, 4, none⟩ = some (.int .i64 a0_4) := (blk_cell BK652.out 4).trans rfl; have hcz44_5 : w42.cell? ⟨gb652, 5, none⟩ = some (.int .i64 a0_5) := (blk_cell BK652.out 5).trans rfl; have hcz44_6 : w42.cell? ⟨gb652, 6, none⟩ = some (.slice A0_6 l0_6.length c0_6) := (blk_cell BK652.out 6).trans rfl; have hfz44_0 := blk_frozen BK652.out 0; have hfz44_1 := blk_frozen BK652.out 1; have hfz44_2 := blk_frozen BK652.out 2; have hfz44_3 := blk_frozen BK652.out 3; have hfz44_4 := blk_frozen BK652.out 4; have hfz44_5 := blk_frozen BK652.out 5; have hfz44_6 := blk_frozen BK652.out 6) | ((with_reducible refine gate_dst (N := 37) rfl ?_); refine Kd.R_lit (Kd.int .u8) _ 5 ?hg (N := 37) ?hd (xs := ([0, 0, 64, 0, (a0_3) % 256, (a0_2) % 256] : List Int)) (inner := [.int .u8 0, .int .u8 0, .int .u8 64, .int .u8 0, .int .u8 ((a0_3) % 256), .int .u8 ((a0_2) % 256)]) (ok := fun _ => True) (okp := fun _ => True) ?hr ?hp (fun _ hk => hk) trivial (Below.refl _ _) (Nat.le_refl _) (by simp) ?_; (case hd => rfl); (case hg => rfl); (case hr => first | (go_simp; done) | (go_simp; rfl)); (case hp => exact (Reps.one (show Kd.M (Kd.int .u8) _ _ _ 0 [.int .u8 0] from rfl) (Reps.one (show Kd.M (Kd.int .u8) _ _ _ 0 [.int .u8 0] from rfl) (Reps.one (show Kd.M (Kd.int .u8) _ _ _ 64 [.int .u8 64] from rfl) (Reps.one (show Kd.M (Kd.int .u8) _ _ _ 0 [.int .u8 0] from rfl) (Reps.one (show Kd.M (Kd.int .u8) _ _ _ ((a0_3) % 256) [.int .u8 ((a0_3) % 256)] from rfl) (Reps.one (show Kd.M (Kd.int .u8) _ _ _ ((a0_2) % 256) [.int .u8 ((a0_2) % 256)] from rfl) (Reps.none _ _)))))))); intro v682 w45 ho46 hb hg_ hnew_; clear hg_ hnew_; (first | rw [← Ny681.out] at ho46 | (simp only [Int.reduceToNat] at ho46; rw [← Ny681.out] at ho46)); have HO683 := Aside0.mk (Kd.R_lower (Kd.R_new' (Kd.R_new' (Kd.R_new' ho46 (Kd.R_lt (by (with_reducible repeat (first | apply Kd.R_alloc | apply Kd.R_drewN | apply Kd.R_drew)); exact HO_3.out))) (Kd.R_lt (upR HO677.out))) (Kd.R_lt (upR HO680.out))) (below_size pb)); replace HO_3 := Aside0.mk (Kd.R_elder' (by (with_reducible repeat (first | apply Kd.R_alloc | apply Kd.R_drewN | apply Kd.R_drew)); exact HO_3.out) (Kd.R_base ho46) hb); replace HO677 := Aside0.mk (Kd.R_elder' (upR HO677.out) (Kd.R_base ho46) hb); replace HO680 := Aside0.mk (Kd.R_elder' (upR HO680.out) (Kd.R_base ho46) hb); replace BK652 := Aside0.mk (blk_below (up BK652.out) hb); replace HB := Aside0.mk (below_step pb hb); clear hb ho46; obtain ⟨Ao48, co48, eo48⟩ := Kd.R_slice HO683.out; subst eo48) | ((with_reducible refine gate_builtin (b := .append) (xs := #[.tmp 30, .tmp 37]) rfl ?_); at_builtin; refine Kd.R_append_rows (Kd.int .u8) (w0 := w) w.heap.size rfl (.tmp 30) (.tmp 37) 22 5 (.int .u8 0) 1 rfl Try.underlying22 info5 rfl (by decide) (by omega) v679 y678 y681 _ _ _ (fun k_ => some k_ ≠ (.slice Ao40 x3_3.length co40 : Value).ownBlock ∧ some k_ ≠ (.slice Ao43 t675.length co43 : Value).ownBlock ∧ some k_ ≠ (.slice Ao48 y681.length co48 : Value).ownBlock) (fun _ => False) rfl rfl ?aO ?aR (fun _ _ h => h) (fun _ h => h.elim) ?aF ?aB ?aS ?aL ?_; (case aR => exact upC (Kd.R_reads' HO683.out).2.2); (case aB => exact pb); (case aF => exact (fun k_ hk => ⟨Kd.fresh' (Kd.R_lt (by (with_reducible repeat (first | apply Kd.R_alloc | apply Kd.R_drewN | apply Kd.R_drew)); exact HO_3.out)) k_ hk, Kd.fresh' (Kd.R_lt (upR HO677.out)) k_ hk, Kd.fresh' (Kd.R_lt (upR HO683.out)) k_ hk⟩)); (case aO => exact (by (with_reducible repeat (first | apply Kd.R_alloc | apply Kd.R_drewN | apply Kd.R_drew)); exact Kd.R_mono HO680.out (fun _ hk => ⟨hk.1.1, ⟨hk.1.2, hk.2⟩⟩))); (case aS => exact (below_size pb)); (case aL => have := LMc25.out; omega); intro v685 w47 ho hb hg hat; rw [← Ny684.out] at ho; have HO686 := Aside0.mk (ho); replace HO_3 := Aside0.mk (Kd.R_after (ok := (fun k_ => some k_ ≠ (.slice Ao43 t675.length co43 : Value).ownBlock ∧ some k_ ≠ (.slice Ao48 y681.length co48 : Value).ownBlock)) (by (with_reducible repeat (first | apply Kd.R_alloc | apply Kd.R_drewN | apply Kd.R_drew)); exact Kd.R_mono HO_3.out (fun _ hk => ⟨⟨hk.1.1, hk.2⟩, hk.1.2⟩)) hg hat); replace BK652 := Aside0.mk (blk_grown (g := gb652) (o := .cells #[.int .i64 a0_0, .int .i64 a0_1, .int .i64 a0_2, .int .i64 a0_3, .int .i64 a0_4, .int .i64 a0_5, .slice A0_6 l0_6.length c0_6] 53 (0, 0)) (up BK652.out) hg (Kd.R_ne HO680.out BK652.out (by decide))); replace HO677 := Aside0.mk (Kd.R_after (ok := (fun k_ => some k_ ≠ (.slice Ao40 x3_3.length co40 : Value).ownBlock ∧ some k_ ≠ (.slice Ao48 y681.length co48 : Value).ownBlock)) (by (with_reducible repeat (first | apply Kd.R_alloc | apply Kd.R_drewN | apply Kd.R_drew)); exact Kd.R_mono HO677.out (fun _ hk => ⟨⟨hk.1.1, hk.2⟩, hk.1.2⟩)) hg hat); replace HO683 := Aside0.mk (Kd.R_after (ok := (fun k_ => some k_ ≠ (.slice Ao40 x3_3.length co40 : Value).ownBlock ∧ some k_ ≠ (.slice Ao43 t675.length co43 : Value).ownBlock)) (by (with_reducible repeat (first | apply Kd.R_alloc | apply Kd.R_drewN | apply Kd.R_drew)); exact Kd.R_mono HO683.out (fun _ hk => ⟨⟨hk.1.1.2, hk.1.2⟩, hk.2⟩)) hg hat); replace HB := Aside0.mk (hb); clear HO680; clear ho hb hg hat))
                         replace HO_3 := Aside0.mk (Kd.R_drew HO_3.out); replace HO677 := Aside0.mk (Kd.R_drew HO677.out); replace HO683 := Aside0.mk (Kd.R_drew HO683.out); replace HO686 := Aside0.mk (Kd.R_drew HO686.out); replace BK652 := Aside0.mk (blk_drew BK652.out); replace HB := Aside0.mk (below_drew1 HB.out)
                         refine start_ (n := 8) (S := fun w' => w'.cell? ⟨gb652, 0, none⟩ = some (.int .i64 a0_0) ∧ w'.cell? ⟨gb652, 1, none⟩ = some (.int .i64 a0_1) ∧ w'.cell? ⟨gb652, 2, none⟩ = some (.int .i64 a0_2) ∧ w'.cell? ⟨gb652, 3, none⟩ = some (.int .i64 a0_3) ∧ w'.cell? ⟨gb652, 4, none⟩ = some (.int .i64 a0_4) ∧ w'.cell? ⟨gb652, 5, none⟩ = some (.int .i64 a0_5) ∧ w'.cell? ⟨gb652, 6, none⟩ = some (.slice A0_6 l0_6.length c0_6)) (ds := []) #[false, false, false, false, false, false, false, false] (by kernel_rfl) rfl rfl ⟨(blk_cell BK652.out 0).trans rfl, (blk_cell BK652.out 1).trans rfl, (blk_cell BK652.out 2).trans rfl, (blk_cell BK652.out 3).trans rfl, (blk_cell BK652.out 4).trans rfl, (blk_cell BK652.out 5).trans rfl, (blk_cell BK652.out 6).trans rfl⟩ (fun hHeld => ?_); refine with_tabW spec_l2Build.tab6 spec_l2Build.bits6 (fun HT_ HW_ => ?_)
                         generalize w47.drew = w49 at HO_3 HO677 HO683 HO686 BK652 HB hHeld ⊢
                         refine pure_ (i := 0) (N := some 39) (v := ?_) (a' := ?_) #[true, false, false, false, false, false, false, false] rfl rfl (any_of HT_.out (by kernel_rfl)) (fun _ _ _ h => h) (Or.inl ⟨by rfl, ?_⟩) ?_ ?_
                         rotate_left
                         · intro w'
                           go_simp
                           with_reducible rfl
                         rotate_left
                         · simp only [Act.put, List.setIfInBounds_toArray, List.set_cons_zero, List.set_cons_succ, i64_w, i32_w]
                           rfl
                         refine pure_ (i := 3) (N := some 42) (v := ?_) (a' := ?_) #[true, false, false, true, false, false, false, false] rfl rfl (any_of HT_.out (by kernel_rfl)) (fun _ _ _ h => h) (Or.inl ⟨by rfl, ?_⟩) ?_ ?_
                         rotate_left
                         · intro w'
                           go_simp
                           with_reducible rfl
                         rotate_left
                         · simp only [Act.put, List.setIfInBounds_toArray, List.set_cons_zero, List.set_cons_succ, i64_w, i32_w]
                           rfl
                         refine take_ (i := 1) (N := some 40) (v := ?_) (a' := ?_) #[true, true, false, true, false, false, false, false] rfl rfl (take_ofW HT_.out HW_.out (by kernel_rfl)) (fun _ _ _ h => h) (Or.inl ⟨by rfl, ?_⟩) hHeld ?_ ?_
                         rotate_left
                         · rintro w' ⟨s0, s1, s2, s3, s4, s5, s6⟩
                           go_simp
                           with_reducible rfl
                         rotate_left
                         · simp only [Act.put, List.setIfInBounds_toArray, List.set_cons_zero, List.set_cons_succ, i64_w, i32_w]
                           rfl
                         refine take_ (i := 4) (N := some 43) (v := ?_) (a' := ?_) #[true, true, false, true, true, false, false, false] rfl rfl (take_ofW HT_.out HW_.out (by kernel_rfl)) (fun _ _ _ h => h) (Or.inl ⟨by rfl, ?_⟩) hHeld ?_ ?_
                         rotate_left
                         · rintro w' ⟨s0, s1, s2, s3, s4, s5, s6⟩
                           go_simp
                           with_reducible rfl
                         rotate_left
                         · simp only [Act.put, List.setIfInBounds_toArray, List.set_cons_zero, List.set_cons_succ, i64_w, i32_w]
                           rfl
                         refine one_ (i := 2) (N := some 41) #[true, true, true, true, true, false, false, false] rfl rfl (one_of HT_.out (by kernel_rfl)) (by decide) (fun K hK => ?_)
                         refine goes_ Try.func66 (by kernel_rfl) rfl #[.int .i64 a0_0, .int .i64 4] (by rfl) rfl rfl (by (try simp only [List.map_toArray, List.map_cons, List.map_nil]); first | done | rfl | (simp only [List.length_drop, List.length_take]; rfl)) ?_
                         with_reducible refine (spec_l1Bytes.calls kj3 a0_0 4 t687 _ A26.out).mono ?_
                         rintro e w50 ⟨v688, rfl, ho0, hb⟩
                         refine ⟨_, rfl, ?_⟩
                         have HO689 := Aside0.mk (Kd.R_lower (Kd.R_new' (Kd.R_new' (Kd.R_new' (Kd.R_new' ho0 (Kd.R_lt (by (with_reducible repeat (first | apply Kd.R_alloc | apply Kd.R_drewN | apply Kd.R_drew)); exact HO_3.out))) (Kd.R_lt (upR HO677.out))) (Kd.R_lt (upR HO683.out))) (Kd.R_lt (upR HO686.out))) (below_size pb)); replace HO_3 := Aside0.mk (Kd.R_elder' (by (with_reducible repeat (first | apply Kd.R_alloc | apply Kd.R_drewN | apply Kd.R_drew)); exact HO_3.out) (Kd.R_base ho0) hb); replace HO677 := Aside0.mk (Kd.R_elder' (upR HO677.out) (Kd.R_base ho0) hb); replace HO683 := Aside0.mk (Kd.R_elder' (upR HO683.out) (Kd.R_base ho0) hb); replace HO686 := Aside0.mk (Kd.R_elder' (upR HO686.out) (Kd.R_base ho0) hb); replace BK652 := Aside0.mk (blk_below (up BK652.out) hb); replace HB := Aside0.mk (below_step pb hb)
                         (try clear hb)
                         (try clear hb2)
                         (try clear hk)
                         (try clear hi)
                         (try clear ho0)
                         refine hK.out _ _ ⟨(blk_cell BK652.out 0).trans rfl, (blk_cell BK652.out 1).trans rfl, (blk_cell BK652.out 2).trans rfl, (blk_cell BK652.out 3).trans rfl, (blk_cell BK652.out 4).trans rfl, (blk_cell BK652.out 5).trans rfl, (blk_cell BK652.out 6).trans rfl⟩ (fun hHeld => ?_)
                         clear hK K
                         refine norm_ (a' := ?_) ?_ ?_
                         rotate_left
                         · show Act.put _ (some 41) _ = _
                           simp only [Act.put, List.setIfInBounds_toArray, List.set_cons_zero, List.set_cons_succ, i64_w, i32_w]
                           rfl
                         refine one_ (i := 5) (N := some 44) #[true, true, true, true, true, true, false, false] rfl rfl (one_of HT_.out (by kernel_rfl)) (by decide) (fun K hK => ?_)
                         refine goes_ Try.func66 (by kernel_rfl) rfl #[.int .i64 a0_1, .int .i64 4] (by rfl) rfl rfl (by (try simp only [List.map_toArray, List.map_cons, List.map_nil]); first | done | rfl | (simp only [List.length_drop, List.length_take]; rfl)) ?_
                         with_reducible refine (spec_l1Bytes.calls kj3 a0_1 4 t690 _ A27.out).mono ?_
                         rintro e w51 ⟨v691, rfl, ho0, hb⟩
                         refine ⟨_, rfl, ?_⟩
                         have HO692 := Aside0.mk (Kd.R_lower (Kd.R_new' (Kd.R_new' (Kd.R_new' (Kd.R_new' (Kd.R_new' ho0 (Kd.R_lt (by (with_reducible repeat (first | apply Kd.R_alloc | apply Kd.R_drewN | apply Kd.R_drew)); exact HO_3.out))) (Kd.R_lt (upR HO677.out))) (Kd.R_lt (upR HO683.out))) (Kd.R_lt (upR HO686.out))) (Kd.R_lt (upR HO689.out))) (below_size pb)); replace HO_3 := Aside0.mk (Kd.R_elder' (by (with_reducible repeat (first | apply Kd.R_alloc | apply Kd.R_drewN | apply Kd.R_drew)); exact HO_3.out) (Kd.R_base ho0) hb); replace HO677 := Aside0.mk (Kd.R_elder' (upR HO677.out) (Kd.R_base ho0) hb); replace HO683 := Aside0.mk (Kd.R_elder' (upR HO683.out) (Kd.R_base ho0) hb); replace HO686 := Aside0.mk (Kd.R_elder' (upR HO686.out) (Kd.R_base ho0) hb); replace HO689 := Aside0.mk (Kd.R_elder' (upR HO689.out) (Kd.R_base ho0) hb); replace BK652 := Aside0.mk (blk_below (up BK652.out) hb); replace HB := Aside0.mk (below_step pb hb)
                         (try clear hb)
                         (try clear hb2)
                         (try clear hk)
                         (try clear hi)
                         (try clear ho0)
                         obtain ⟨Ao53, co53, eo53⟩ := Kd.R_slice HO692.out
                         (first | subst eo53 | (injection eo53 with f1_ f2_ f3_; have f4_ := f1_.symm; have f5_ := f3_.symm; clear f1_ f2_ f3_; subst f4_; subst f5_))
                         refine hK.out _ _ ⟨(blk_cell BK652.out 0).trans rfl, (blk_cell BK652.out 1).trans rfl, (blk_cell BK652.out 2).trans rfl, (blk_cell BK652.out 3).trans rfl, (blk_cell BK652.out 4).trans rfl, (blk_cell BK652.out 5).trans rfl, (blk_cell BK652.out 6).trans rfl⟩ (fun hHeld => ?_)
                         clear hK K
                         refine norm_ (a' := ?_) ?_ ?_
                         rotate_left
                         · show Act.put _ (some 44) _ = _
                           simp only [Act.put, List.setIfInBounds_toArray, List.set_cons_zero, List.set_cons_succ, i64_w, i32_w]
                           rfl
                         refine one_ (i := 6) (N := some 45) #[true, true, true, true, true, true, true, false] rfl rfl (one_of HT_.out (by kernel_rfl)) (by decide) (fun K hK => ?_)
                         refine Kd.R_append_rows_step (Kd.int .u8) (w0 := w) w.heap.size (by rfl) (.tmp 41) (.tmp 44) 22 5 (.int .u8 0) 1 rfl Try.underlying22 info5 rfl (by decide) (by omega) v688 t687 t690 _ _ _ (fun k_ => some k_ ≠ (.slice Ao40 x3_3.length co40 : Value).ownBlock ∧ some k_ ≠ (.slice Ao43 t675.length co43 : Value).ownBlock ∧ some k_ ≠ (.slice Ao48 y681.length co48 : Value).ownBlock ∧ some k_ ≠ (v685 : Value).ownBlock ∧ some k_ ≠ (.slice Ao53 t690.length co53 : Value).ownBlock) (fun _ => False) rfl rfl ?aO ?aR (fun _ _ h => h) (fun _ h => h.elim) ?aF ?aB ?aS ?aL ?_
                         (case aR => exact upC (Kd.R_reads' HO692.out).2.2)
                         (case aB => exact pb)
                         (case aF => exact (fun k_ hk => ⟨Kd.fresh' (Kd.R_lt (by (with_reducible repeat (first | apply Kd.R_alloc | apply Kd.R_drewN | apply Kd.R_drew)); exact HO_3.out)) k_ hk, Kd.fresh' (Kd.R_lt (upR HO677.out)) k_ hk, Kd.fresh' (Kd.R_lt (upR HO683.out)) k_ hk, Kd.fresh' (Kd.R_lt (upR HO686.out)) k_ hk, Kd.fresh' (Kd.R_lt (upR HO692.out)) k_ hk⟩))
                         (case aO => exact (by (with_reducible repeat (first | apply Kd.R_alloc | apply Kd.R_drewN | apply Kd.R_drew)); exact Kd.R_mono HO689.out (fun _ hk => ⟨hk.1.1.1.1.2, ⟨hk.1.1.1.2, ⟨hk.1.1.2, ⟨hk.1.2, hk.2⟩⟩⟩⟩)))
                         (case aS => exact (below_size pb))
                         (case aL => have := LMc28.out; omega)
                         intro v694 w52 ho hb hg hat
                         rw [← Ny693.out] at ho
                         have HO695 := Aside0.mk (ho); replace HO_3 := Aside0.mk (Kd.R_after (ok := (fun k_ => some k_ ≠ (.slice Ao43 t675.length co43 : Value).ownBlock ∧ some k_ ≠ (.slice Ao48 y681.length co48 : Value).ownBlock ∧ some k_ ≠ (v685 : Value).ownBlock ∧ some k_ ≠ (.slice Ao53 t690.length co53 : Value).ownBlock)) (by (with_reducible repeat (first | apply Kd.R_alloc | apply Kd.R_drewN | apply Kd.R_drew)); exact Kd.R_mono HO_3.out (fun _ hk => ⟨⟨hk.1.1.1.1, ⟨hk.1.1.1.2, ⟨hk.1.1.2, hk.2⟩⟩⟩, hk.1.2⟩)) hg hat); replace BK652 := Aside0.mk (blk_grown (g := gb652) (o := .cells #[.int .i64 a0_0, .int .i64 a0_1, .int .i64 a0_2, .int .i64 a0_3, .int .i64 a0_4, .int .i64 a0_5, .slice A0_6 l0_6.length c0_6] 53 (0, 0)) (up BK652.out) hg (Kd.R_ne HO689.out BK652.out (by decide))); replace HO677 := Aside0.mk (Kd.R_after (ok := (fun k_ => some k_ ≠ (.slice Ao40 x3_3.length co40 : Value).ownBlock ∧ some k_ ≠ (.slice Ao48 y681.length co48 : Value).ownBlock ∧ some k_ ≠ (v685 : Value).ownBlock ∧ some k_ ≠ (.slice Ao53 t690.length co53 : Value).ownBlock)) (by (with_reducible repeat (first | apply Kd.R_alloc | apply Kd.R_drewN | apply Kd.R_drew)); exact Kd.R_mono HO677.out (fun _ hk => ⟨⟨hk.1.1.1.1, ⟨hk.1.1.1.2, ⟨hk.1.1.2, hk.2⟩⟩⟩, hk.1.2⟩)) hg hat); replace HO683 := Aside0.mk (Kd.R_after (ok := (fun k_ => some k_ ≠ (.slice Ao40 x3_3.length co40 : Value).ownBlock ∧ some k_ ≠ (.slice Ao43 t675.length co43 : Value).ownBlock ∧ some k_ ≠ (v685 : Value).ownBlock ∧ some k_ ≠ (.slice Ao53 t690.length co53 : Value).ownBlock)) (by (with_reducible repeat (first | apply Kd.R_alloc | apply Kd.R_drewN | apply Kd.R_drew)); exact Kd.R_mono HO683.out (fun _ hk => ⟨⟨hk.1.1.1.1, ⟨hk.1.1.1.2, ⟨hk.1.1.2, hk.2⟩⟩⟩, hk.1.2⟩)) hg hat); replace HO686 := Aside0.mk (Kd.R_after (ok := (fun k_ => some k_ ≠ (.slice Ao40 x3_3.length co40 : Value).ownBlock ∧ some k_ ≠ (.slice Ao43 t675.length co43 : Value).ownBlock ∧ some k_ ≠ (.slice Ao48 y681.length co48 : Value).ownBlock ∧ some k_ ≠ (.slice Ao53 t690.length co53 : Value).ownBlock)) (by (with_reducible repeat (first | apply Kd.R_alloc | apply Kd.R_drewN | apply Kd.R_drew)); exact Kd.R_mono HO686.out (fun _ hk => ⟨⟨hk.1.1.1, ⟨hk.1.1.2.1, ⟨hk.1.1.2.2, hk.2⟩⟩⟩, hk.1.2⟩)) hg hat); replace HO692 := Aside0.mk (Kd.R_after (ok := (fun k_ => some k_ ≠ (.slice Ao40 x3_3.length co40 : Value).ownBlock ∧ some k_ ≠ (.slice Ao43 t675.length co43 : Value).ownBlock ∧ some k_ ≠ (.slice Ao48 y681.length co48 : Value).ownBlock ∧ some k_ ≠ (v685 : Value).ownBlock)) (by (with_reducible repeat (first | apply Kd.R_alloc | apply Kd.R_drewN | apply Kd.R_drew)); exact Kd.R_mono HO692.out (fun _ hk => ⟨⟨hk.1.1.1.1.2, ⟨hk.1.1.1.2, ⟨hk.1.1.2, hk.1.2⟩⟩⟩, hk.2⟩)) hg hat); replace HB := Aside0.mk (hb); clear HO689
                         clear ho hb hg hat
                         refine hK.out _ _ ⟨(blk_cell BK652.out 0).trans rfl, (blk_cell BK652.out 1).trans rfl, (blk_cell BK652.out 2).trans rfl, (blk_cell BK652.out 3).trans rfl, (blk_cell BK652.out 4).trans rfl, (blk_cell BK652.out 5).trans rfl, (blk_cell BK652.out 6).trans rfl⟩ (fun hHeld => ?_)
                         clear hK K
                         refine norm_ (a' := ?_) ?_ ?_
                         rotate_left
                         · show Act.put _ (some 45) _ = _
                           simp only [Act.put, List.setIfInBounds_toArray, List.set_cons_zero, List.set_cons_succ, i64_w, i32_w]
                           rfl
                         refine pure_ (i := 7) (N := some 5) (v := ?_) (a' := ?_) #[true, true, true, true, true, true, true, true] rfl rfl (any_of HT_.out (by kernel_rfl)) (fun _ _ _ h => h) (Or.inl ⟨by rfl, ?_⟩) ?_ ?_
                         rotate_left
                         · intro w'
                           go_simp
                           with_reducible rfl
                         rotate_left
                         · simp only [Act.put, List.setIfInBounds_toArray, List.set_cons_zero, List.set_cons_succ, i64_w, i32_w]
                           rfl
                         refine done_ (done_of HT_.out (by kernel_rfl)) ?_
                         try go_wp2_with (first | ((with_reducible refine gate_dst (N := 46) rfl ?_); refine Kd.R_lit (Kd.int .u8) _ 5 ?hg (N := 46) ?hd (xs := ([] : List Int)) (inner := []) (ok := fun _ => True) (okp := fun _ => True) ?hr ?hp (fun _ hk => hk) trivial (Below.refl _ _) (Nat.le_refl _) (by simp) ?_; (case hd => rfl); (case hg => rfl); (case hr => first | (go_simp; done) | (go_simp; rfl)); (case hp => exact (Reps.none _ _)); intro v697 w54 ho55 hb hg_ hnew_; clear hg_ hnew_; (first | rw [← Ny696.out] at ho55 | (simp only [Int.reduceToNat] at ho55; rw [← Ny696.out] at ho55)); have HO698 := Aside0.mk (Kd.R_lower (Kd.R_new' (Kd.R_new' (Kd.R_new' (Kd.R_new' (Kd.R_new' (Kd.R_new' ho55 (Kd.R_lt (by (with_reducible repeat (first | apply Kd.R_alloc | apply Kd.R_drewN | apply Kd.R_drew)); exact HO_3.out))) (Kd.R_lt (upR HO677.out))) (Kd.R_lt (upR HO683.out))) (Kd.R_lt (upR HO686.out))) (Kd.R_lt (upR HO692.out))) (Kd.R_lt (upR HO695.out))) (below_size pb)); replace HO_3 := Aside0.mk (Kd.R_elder' (by (with_reducible repeat (first | apply Kd.R_alloc | apply Kd.R_drewN | apply Kd.R_drew)); exact HO_3.out) (Kd.R_base ho55) hb); replace HO677 := Aside0.mk (Kd.R_elder' (upR HO677.out) (Kd.R_base ho55) hb); replace HO683 := Aside0.mk (Kd.R_elder' (upR HO683.out) (Kd.R_base ho55) hb); replace HO686 := Aside0.mk (Kd.R_elder' (upR HO686.out) (Kd.R_base ho55) hb); replace HO692 := Aside0.mk (Kd.R_elder' (upR HO692.out) (Kd.R_base ho55) hb); replace HO695 := Aside0.mk (Kd.R_elder' (upR HO695.out) (Kd.R_base ho55) hb); replace BK652 := Aside0.mk (blk_below (up BK652.out) hb); replace HB := Aside0.mk (below_step pb hb); clear hb ho55; obtain ⟨Ao57, co57, eo57⟩ := Kd.R_slice HO686.out; subst eo57) | ((with_reducible refine gate_builtin (b := .append) (xs := #[.tmp 46, .tmp 47]) rfl ?_); at_builtin; refine Kd.R_append_rows (Kd.int .u8) (w0 := w) w.heap.size rfl (.tmp 46) (.tmp 47) 22 5 (.int .u8 0) 1 rfl Try.underlying22 info5 rfl (by decide) (by omega) v697 y696 y684 _ _ _ (fun k_ => some k_ ≠ (.slice Ao40 x3_3.length co40 : Value).ownBlock ∧ some k_ ≠ (.slice Ao43 t675.length co43 : Value).ownBlock ∧ some k_ ≠ (.slice Ao48 y681.length co48 : Value).ownBlock ∧ some k_ ≠ (.slice Ao57 y684.length co57 : Value).ownBlock ∧ some k_ ≠ (.slice Ao53 t690.length co53 : Value).ownBlock ∧ some k_ ≠ (v694 : Value).ownBlock) (fun _ => False) rfl rfl ?aO ?aR (fun _ _ h => h) (fun _ h => h.elim) ?aF ?aB ?aS ?aL ?_; (case aR => exact upC (Kd.R_reads' HO686.out).2.2); (case aB => exact pb); (case aF => exact (fun k_ hk => ⟨Kd.fresh' (Kd.R_lt (by (with_reducible repeat (first | apply Kd.R_alloc | apply Kd.R_drewN | apply Kd.R_drew)); exact HO_3.out)) k_ hk, Kd.fresh' (Kd.R_lt (upR HO677.out)) k_ hk, Kd.fresh' (Kd.R_lt (upR HO683.out)) k_ hk, Kd.fresh' (Kd.R_lt (upR HO686.out)) k_ hk, Kd.fresh' (Kd.R_lt (upR HO692.out)) k_ hk, Kd.fresh' (Kd.R_lt (upR HO695.out)) k_ hk⟩)); (case aO => exact (by (with_reducible repeat (first | apply Kd.R_alloc | apply Kd.R_drewN | apply Kd.R_drew)); exact Kd.R_mono HO698.out (fun _ hk => ⟨hk.1.1.1.1.1.2, ⟨hk.1.1.1.1.2, ⟨hk.1.1.1.2, ⟨hk.1.1.2, ⟨hk.1.2, hk.2⟩⟩⟩⟩⟩))); (case aS => exact (below_size pb)); (case aL => have := LMc29.out; omega); intro v700 w56 ho hb hg hat; rw [← Ny699.out] at ho; have HO701 := Aside0.mk (ho); replace HO_3 := Aside0.mk (Kd.R_after (ok := (fun k_ => some k_ ≠ (.slice Ao43 t675.length co43 : Value).ownBlock ∧ some k_ ≠ (.slice Ao48 y681.length co48 : Value).ownBlock ∧ some k_ ≠ (.slice Ao57 y684.length co57 : Value).ownBlock ∧ some k_ ≠ (.slice Ao53 t690.length co53 : Value).ownBlock ∧ some k_ ≠ (v694 : Value).ownBlock)) (by (with_reducible repeat (first | apply Kd.R_alloc | apply Kd.R_drewN | apply Kd.R_drew)); exact Kd.R_mono HO_3.out (fun _ hk => ⟨⟨hk.1.1.1, ⟨hk.1.1.2.1, ⟨hk.1.1.2.2.1, ⟨hk.1.1.2.2.2, hk.1.2⟩⟩⟩⟩, hk.2⟩)) hg hat); replace BK652 := Aside0.mk (blk_grown (g := gb652) (o := .cells #[.int .i64 a0_0, .int .i64 a0_1, .int .i64 a0_2, .int .i64 a0_3, .int .i64 a0_4, .int .i64 a0_5, .slice A0_6 l0_6.length c0_6] 53 (0, 0)) (up BK652.out) hg (Kd.R_ne HO698.out BK652.out (by decide))); replace HO677 := Aside0.mk (Kd.R_after (ok := (fun k_ => some k_ ≠ (.slice Ao40 x3_3.length co40 : Value).ownBlock ∧ some k_ ≠ (.slice Ao48 y681.length co48 : Value).ownBlock ∧ some k_ ≠ (.slice Ao57 y684.length co57 : Value).ownBlock ∧ some k_ ≠ (.slice Ao53 t690.length co53 : Value).ownBlock ∧ some k_ ≠ (v694 : Value).ownBlock)) (by (with_reducible repeat (first | apply Kd.R_alloc | apply Kd.R_drewN | apply Kd.R_drew)); exact Kd.R_mono HO677.out (fun _ hk => ⟨⟨hk.1.1.1, ⟨hk.1.1.2.1, ⟨hk.1.1.2.2.1, ⟨hk.1.1.2.2.2, hk.1.2⟩⟩⟩⟩, hk.2⟩)) hg hat); replace HO683 := Aside0.mk (Kd.R_after (ok := (fun k_ => some k_ ≠ (.slice Ao40 x3_3.length co40 : Value).ownBlock ∧ some k_ ≠ (.slice Ao43 t675.length co43 : Value).ownBlock ∧ some k_ ≠ (.slice Ao57 y684.length co57 : Value).ownBlock ∧ some k_ ≠ (.slice Ao53 t690.length co53 : Value).ownBlock ∧ some k_ ≠ (v694 : Value).ownBlock)) (by (with_reducible repeat (first | apply Kd.R_alloc | apply Kd.R_drewN | apply Kd.R_drew)); exact Kd.R_mono HO683.out (fun _ hk => ⟨⟨hk.1.1.1, ⟨hk.1.1.2.1, ⟨hk.1.1.2.2.1, ⟨hk.1.1.2.2.2, hk.1.2⟩⟩⟩⟩, hk.2⟩)) hg hat); replace HO686 := Aside0.mk (Kd.R_after (ok := (fun k_ => some k_ ≠ (.slice Ao40 x3_3.length co40 : Value).ownBlock ∧ some k_ ≠ (.slice Ao43 t675.length co43 : Value).ownBlock ∧ some k_ ≠ (.slice Ao48 y681.length co48 : Value).ownBlock ∧ some k_ ≠ (.slice Ao53 t690.length co53 : Value).ownBlock ∧ some k_ ≠ (v694 : Value).ownBlock)) (by (with_reducible repeat (first | apply Kd.R_alloc | apply Kd.R_drewN | apply Kd.R_drew)); exact Kd.R_mono HO686.out (fun _ hk => ⟨⟨hk.1.1.1, ⟨hk.1.1.2.1, ⟨hk.1.1.2.2.1, ⟨hk.1.1.2.2.2, hk.1.2⟩⟩⟩⟩, hk.2⟩)) hg hat); replace HO692 := Aside0.mk (Kd.R_after (ok := (fun k_ => some k_ ≠ (.slice Ao40 x3_3.length co40 : Value).ownBlock ∧ some k_ ≠ (.slice Ao43 t675.length co43 : Value).ownBlock ∧ some k_ ≠ (.slice Ao48 y681.length co48 : Value).ownBlock ∧ some k_ ≠ (.slice Ao57 y684.length co57 : Value).ownBlock ∧ some k_ ≠ (v694 : Value).ownBlock)) (by (with_reducible repeat (first | apply Kd.R_alloc | apply Kd.R_drewN | apply Kd.R_drew)); exact Kd.R_mono HO692.out (fun _ hk => ⟨⟨hk.1.1.1, ⟨hk.1.1.2.1, ⟨hk.1.1.2.2.1, ⟨hk.1.1.2.2.2, hk.1.2⟩⟩⟩⟩, hk.2⟩)) hg hat); replace HO695 := Aside0.mk (Kd.R_after (ok := (fun k_ => some k_ ≠ (.slice Ao40 x3_3.length co40 : Value).ownBlock ∧ some k_ ≠ (.slice Ao43 t675.length co43 : Value).ownBlock ∧ some k_ ≠ (.slice Ao48 y681.length co48 : Value).ownBlock ∧ some k_ ≠ (.slice Ao57 y684.length co57 : Value).ownBlock ∧ some k_ ≠ (.slice Ao53 t690.length co53 : Value).ownBlock)) (upR HO695.out) hg hat); replace HB := Aside0.mk (hb); clear HO698; clear ho hb hg hat) | ((with_reducible refine gate_dst (N := 49) rfl ?_); refine Kd.R_lit (Kd.int .u8) _ 5 ?hg (N := 49) ?hd (xs := ([0, 0] : List Int)) (inner := [.int .u8 0, .int .u8 0]) (ok := fun _ => True) (okp := fun _ => True) ?hr ?hp (fun _ hk => hk) trivial (Below.refl _ _) (Nat.le_refl _) (by simp) ?_; (case hd => rfl); (case hg => rfl); (case hr => first | (go_simp; done) | (go_simp; rfl)); (case hp => exact (Reps.one (show Kd.M (Kd.int .u8) _ _ _ 0 [.int .u8 0] from rfl) (Reps.one (show Kd.M (Kd.int .u8) _ _ _ 0 [.int .u8 0] from rfl) (Reps.none _ _)))); intro v703 w58 ho59 hb hg_ hnew_; clear hg_ hnew_; (first | rw [← Ny702.out] at ho59 | (simp only [Int.reduceToNat] at ho59; rw [← Ny702.out] at ho59)); have HO704 := Aside0.mk (Kd.R_lower (Kd.R_new' (Kd.R_new' (Kd.R_new' (Kd.R_new' (Kd.R_new' (Kd.R_new' (Kd.R_new' ho59 (Kd.R_lt (by (with_reducible repeat (first | apply Kd.R_alloc | apply Kd.R_drewN | apply Kd.R_drew)); exact HO_3.out))) (Kd.R_lt (upR HO677.out))) (Kd.R_lt (upR HO683.out))) (Kd.R_lt (upR HO686.out))) (Kd.R_lt (upR HO692.out))) (Kd.R_lt (upR HO695.out))) (Kd.R_lt (upR HO701.out))) (below_size pb)); replace HO_3 := Aside0.mk (Kd.R_elder' (by (with_reducible repeat (first | apply Kd.R_alloc | apply Kd.R_drewN | apply Kd.R_drew)); exact HO_3.out) (Kd.R_base ho59) hb); replace HO677 := Aside0.mk (Kd.R_elder' (upR HO677.out) (Kd.R_base ho59) hb); replace HO683 := Aside0.mk (Kd.R_elder' (upR HO683.out) (Kd.R_base ho59) hb); replace HO686 := Aside0.mk (Kd.R_elder' (upR HO686.out) (Kd.R_base ho59) hb); replace HO692 := Aside0.mk (Kd.R_elder' (upR HO692.out) (Kd.R_base ho59) hb); replace HO695 := Aside0.mk (Kd.R_elder' (upR HO695.out) (Kd.R_base ho59) hb); replace HO701 := Aside0.mk (Kd.R_elder' (upR HO701.out) (Kd.R_base ho59) hb); replace BK652 := Aside0.mk (blk_below (up BK652.out) hb); replace HB := Aside0.mk (below_step pb hb); clear hb ho59; obtain ⟨Ao61, co61, eo61⟩ := Kd.R_slice HO704.out; subst eo61) | ((with_reducible refine gate_builtin (b := .append) (xs := #[.tmp 48, .tmp 49]) rfl ?_); at_builtin; refine Kd.R_append_rows (Kd.int .u8) (w0 := w) w.heap.size rfl (.tmp 48) (.tmp 49) 22 5 (.int .u8 0) 1 rfl Try.underlying22 info5 rfl (by decide) (by omega) v700 y699 y702 _ _ _ (fun k_ => some k_ ≠ (.slice Ao40 x3_3.length co40 : Value).ownBlock ∧ some k_ ≠ (.slice Ao43 t675.length co43 : Value).ownBlock ∧ some k_ ≠ (.slice Ao48 y681.length co48 : Value).ownBlock ∧ some k_ ≠ (.slice Ao57 y684.length co57 : Value).ownBlock ∧ some k_ ≠ (.slice Ao53 t690.length co53 : Value).ownBlock ∧ some k_ ≠ (v694 : Value).ownBlock ∧ some k_ ≠ (.slice Ao61 y702.length co61 : Value).ownBlock) (fun _ => False) rfl rfl ?aO ?aR (fun _ _ h => h) (fun _ h => h.elim) ?aF ?aB ?aS ?aL ?_; (case aR => exact upC (Kd.R_reads' HO704.out).2.2); (case aB => exact pb); (case aF => exact (fun k_ hk => ⟨Kd.fresh' (Kd.R_lt (by (with_reducible repeat (first | apply Kd.R_alloc | apply Kd.R_drewN | apply Kd.R_drew)); exact HO_3.out)) k_ hk, Kd.fresh' (Kd.R_lt (upR HO677.out)) k_ hk, Kd.fresh' (Kd.R_lt (upR HO683.out)) k_ hk, Kd.fresh' (Kd.R_lt (upR HO686.out)) k_ hk, Kd.fresh' (Kd.R_lt (upR HO692.out)) k_ hk, Kd.fresh' (Kd.R_lt (upR HO695.out)) k_ hk, Kd.fresh' (Kd.R_lt (upR HO704.out)) k_ hk⟩)); (case aO => exact (by (with_reducible repeat (first | apply Kd.R_alloc | apply Kd.R_drewN | apply Kd.R_drew)); exact Kd.R_mono HO701.out (fun _ hk => ⟨hk.1.1, ⟨hk.1.2.1, ⟨hk.1.2.2.1, ⟨hk.1.2.2.2.1, ⟨hk.1.2.2.2.2.1, ⟨hk.1.2.2.2.2.2, hk.2⟩⟩⟩⟩⟩⟩))); (case aS => exact (below_size pb)); (case aL => have := LMc30.out; omega); intro v706 w60 ho hb hg hat; rw [← Ny705.out] at ho; have HO707 := Aside0.mk (ho); replace HO_3 := Aside0.mk (Kd.R_after (ok := (fun k_ => some k_ ≠ (.slice Ao43 t675.length co43 : Value).ownBlock ∧ some k_ ≠ (.slice Ao48 y681.length co48 : Value).ownBlock ∧ some k_ ≠ (.slice Ao57 y684.length co57 : Value).ownBlock ∧ some k_ ≠ (.slice Ao53 t690.length co53 : Value).ownBlock ∧ some k_ ≠ (v694 : Value).ownBlock ∧ some k_ ≠ (.slice Ao61 y702.length co61 : Value).ownBlock)) (by (with_reducible repeat (first | apply Kd.R_alloc | apply Kd.R_drewN | apply Kd.R_drew)); exact Kd.R_mono HO_3.out (fun _ hk => ⟨⟨hk.1.1.1, ⟨hk.1.1.2.1, ⟨hk.1.1.2.2.1, ⟨hk.1.1.2.2.2.1, ⟨hk.1.1.2.2.2.2, hk.2⟩⟩⟩⟩⟩, hk.1.2⟩)) hg hat); replace BK652 := Aside0.mk (blk_grown (g := gb652) (o := .cells #[.int .i64 a0_0, .int .i64 a0_1, .int .i64 a0_2, .int .i64 a0_3, .int .i64 a0_4, .int .i64 a0_5, .slice A0_6 l0_6.length c0_6] 53 (0, 0)) (up BK652.out) hg (Kd.R_ne HO701.out BK652.out (by decide))); replace HO677 := Aside0.mk (Kd.R_after (ok := (fun k_ => some k_ ≠ (.slice Ao40 x3_3.length co40 : Value).ownBlock ∧ some k_ ≠ (.slice Ao48 y681.length co48 : Value).ownBlock ∧ some k_ ≠ (.slice Ao57 y684.length co57 : Value).ownBlock ∧ some k_ ≠ (.slice Ao53 t690.length co53 : Value).ownBlock ∧ some k_ ≠ (v694 : Value).ownBlock ∧ some k_ ≠ (.slice Ao61 y702.length co61 : Value).ownBlock)) (by (with_reducible repeat (first | apply Kd.R_alloc | apply Kd.R_drewN | apply Kd.R_drew)); exact Kd.R_mono HO677.out (fun _ hk => ⟨⟨hk.1.1.1, ⟨hk.1.1.2.1, ⟨hk.1.1.2.2.1, ⟨hk.1.1.2.2.2.1, ⟨hk.1.1.2.2.2.2, hk.2⟩⟩⟩⟩⟩, hk.1.2⟩)) hg hat); replace HO683 := Aside0.mk (Kd.R_after (ok := (fun k_ => some k_ ≠ (.slice Ao40 x3_3.length co40 : Value).ownBlock ∧ some k_ ≠ (.slice Ao43 t675.length co43 : Value).ownBlock ∧ some k_ ≠ (.slice Ao57 y684.length co57 : Value).ownBlock ∧ some k_ ≠ (.slice Ao53 t690.length co53 : Value).ownBlock ∧ some k_ ≠ (v694 : Value).ownBlock ∧ some k_ ≠ (.slice Ao61 y702.length co61 : Value).ownBlock)) (by (with_reducible repeat (first | apply Kd.R_alloc | apply Kd.R_drewN | apply Kd.R_drew)); exact Kd.R_mono HO683.out (fun _ hk => ⟨⟨hk.1.1.1, ⟨hk.1.1.2.1, ⟨hk.1.1.2.2.1, ⟨hk.1.1.2.2.2.1, ⟨hk.1.1.2.2.2.2, hk.2⟩⟩⟩⟩⟩, hk.1.2⟩)) hg hat); replace HO686 := Aside0.mk (Kd.R_after (ok := (fun k_ => some k_ ≠ (.slice Ao40 x3_3.length co40 : Value).ownBlock ∧ some k_ ≠ (.slice Ao43 t675.length co43 : Value).ownBlock ∧ some k_ ≠ (.slice Ao48 y681.length co48 : Value).ownBlock ∧ some k_ ≠ (.slice Ao53 t690.length co53 : Value).ownBlock ∧ some k_ ≠ (v694 : Value).ownBlock ∧ some k_ ≠ (.slice Ao61 y702.length co61 : Value).ownBlock)) (by (with_reducible repeat (first | apply Kd.R_alloc | apply Kd.R_drewN | apply Kd.R_drew)); exact Kd.R_mono HO686.out (fun _ hk => ⟨⟨hk.1.1.1, ⟨hk.1.1.2.1, ⟨hk.1.1.2.2.1, ⟨hk.1.1.2.2.2.1, ⟨hk.1.1.2.2.2.2, hk.2⟩⟩⟩⟩⟩, hk.1.2⟩)) hg hat); replace HO692 := Aside0.mk (Kd.R_after (ok := (fun k_ => some k_ ≠ (.slice Ao40 x3_3.length co40 : Value).ownBlock ∧ some k_ ≠ (.slice Ao43 t675.length co43 : Value).ownBlock ∧ some k_ ≠ (.slice Ao48 y681.length co48 : Value).ownBlock ∧ some k_ ≠ (.slice Ao57 y684.length co57 : Value).ownBlock ∧ some k_ ≠ (v694 : Value).ownBlock ∧ some k_ ≠ (.slice Ao61 y702.length co61 : Value).ownBlock)) (by (with_reducible repeat (first | apply Kd.R_alloc | apply Kd.R_drewN | apply Kd.R_drew)); exact Kd.R_mono HO692.out (fun _ hk => ⟨⟨hk.1.1.1, ⟨hk.1.1.2.1, ⟨hk.1.1.2.2.1, ⟨hk.1.1.2.2.2.1, ⟨hk.1.1.2.2.2.2, hk.2⟩⟩⟩⟩⟩, hk.1.2⟩)) hg hat); replace HO695 := Aside0.mk (Kd.R_after (ok := (fun k_ => some k_ ≠ (.slice Ao40 x3_3.length co40 : Value).ownBlock ∧ some k_ ≠ (.slice Ao43 t675.length co43 : Value).ownBlock ∧ some k_ ≠ (.slice Ao48 y681.length co48 : Value).ownBlock ∧ some k_ ≠ (.slice Ao57 y684.length co57 : Value).ownBlock ∧ some k_ ≠ (.slice Ao53 t690.length co53 : Value).ownBlock ∧ some k_ ≠ (.slice Ao61 y702.length co61 : Value).ownBlock)) (by (with_reducible repeat (first | apply Kd.R_alloc | apply Kd.R_drewN | apply Kd.R_drew)); exact Kd.R_mono HO695.out (fun _ hk => ⟨⟨hk.1.1.1, ⟨hk.1.1.2.1, ⟨hk.1.1.2.2.1, ⟨hk.1.1.2.2.2.1, ⟨hk.1.1.2.2.2.2, hk.2⟩⟩⟩⟩⟩, hk.1.2⟩)) hg hat); replace HO704 := Aside0.mk (Kd.R_after (ok := (fun k_ => some k_ ≠ (.slice Ao40 x3_3.length co40 : Value).ownBlock ∧ some k_ ≠ (.slice Ao43 t675.length co43 : Value).ownBlock ∧ some k_ ≠ (.slice Ao48 y681.length co48 : Value).ownBlock ∧ some k_ ≠ (.slice Ao57 y684.length co57 : Value).ownBlock ∧ some k_ ≠ (.slice Ao53 t690.length co53 : Value).ownBlock ∧ some k_ ≠ (v694 : Value).ownBlock)) (by (with_reducible repeat (first | apply Kd.R_alloc | apply Kd.R_drewN | apply Kd.R_drew)); exact Kd.R_mono HO704.out (fun _ hk => ⟨⟨hk.1.1.1.1.1.1.2, ⟨hk.1.1.1.1.1.2, ⟨hk.1.1.1.1.2, ⟨hk.1.1.1.2, ⟨hk.1.1.2, hk.1.2⟩⟩⟩⟩⟩, hk.2⟩)) hg hat); replace HB := Aside0.mk (hb); clear HO701; clear ho hb hg hat; obtain ⟨Ao63, co63, eo63⟩ := Kd.R_slice HO695.out; subst eo63) | ((with_reducible refine gate_builtin (b := .append) (xs := #[.tmp 50, .tmp 51]) rfl ?_); at_builtin; refine Kd.R_append_rows (Kd.int .u8) (w0 := w) w.heap.size rfl (.tmp 50) (.tmp 51) 22 5 (.int .u8 0) 1 rfl Try.underlying22 info5 rfl (by decide) (by omega) v706 y705 y693 _ _ _ (fun k_ => some k_ ≠ (.slice Ao40 x3_3.length co40 : Value).ownBlock ∧ some k_ ≠ (.slice Ao43 t675.length co43 : Value).ownBlock ∧ some k_ ≠ (.slice Ao48 y681.length co48 : Value).ownBlock ∧ some k_ ≠ (.slice Ao57 y684.length co57 : Value).ownBlock ∧ some k_ ≠ (.slice Ao53 t690.length co53 : Value).ownBlock ∧ some k_ ≠ (.slice Ao63 y693.length co63 : Value).ownBlock ∧ some k_ ≠ (.slice Ao61 y702.length co61 : Value).ownBlock) (fun _ => False) rfl rfl ?aO ?aR (fun _ _ h => h) (fun _ h => h.elim) ?aF ?aB ?aS ?aL ?_; (case aR => exact upC (Kd.R_reads' HO695.out).2.2); (case aB => exact pb); (case aF => exact (fun k_ hk => ⟨Kd.fresh' (Kd.R_lt (by (with_reducible repeat (first | apply Kd.R_alloc | apply Kd.R_drewN | apply Kd.R_drew)); exact HO_3.out)) k_ hk, Kd.fresh' (Kd.R_lt (upR HO677.out)) k_ hk, Kd.fresh' (Kd.R_lt (upR HO683.out)) k_ hk, Kd.fresh' (Kd.R_lt (upR HO686.out)) k_ hk, Kd.fresh' (Kd.R_lt (upR HO692.out)) k_ hk, Kd.fresh' (Kd.R_lt (upR HO695.out)) k_ hk, Kd.fresh' (Kd.R_lt (upR HO704.out)) k_ hk⟩)); (case aO => exact (upR HO707.out)); (case aS => exact (below_size pb)); (case aL => have := LMc31.out; omega); intro v709 w62 ho hb hg hat; rw [← Ny708.out] at ho; have HO710 := Aside0.mk (ho); replace HO_3 := Aside0.mk (Kd.R_after (ok := (fun k_ => some k_ ≠ (.slice Ao43 t675.length co43 : Value).ownBlock ∧ some k_ ≠ (.slice Ao48 y681.length co48 : Value).ownBlock ∧ some k_ ≠ (.slice Ao57 y684.length co57 : Value).ownBlock ∧ some k_ ≠ (.slice Ao53 t690.length co53 : Value).ownBlock ∧ some k_ ≠ (.slice Ao63 y693.length co63 : Value).ownBlock ∧ some k_ ≠ (.slice Ao61 y702.length co61 : Value).ownBlock)) (by (with_reducible repeat (first | apply Kd.R_alloc | apply Kd.R_drewN | apply Kd.R_drew)); exact HO_3.out) hg hat); replace BK652 := Aside0.mk (blk_grown (g := gb652) (o := .cells #[.int .i64 a0_0, .int .i64 a0_1, .int .i64 a0_2, .int .i64 a0_3, .int .i64 a0_4, .int .i64 a0_5, .slice A0_6 l0_6.length c0_6] 53 (0, 0)) (up BK652.out) hg (Kd.R_ne HO707.out BK652.out (by decide))); replace HO677 := Aside0.mk (Kd.R_after (ok := (fun k_ => some k_ ≠ (.slice Ao40 x3_3.length co40 : Value).ownBlock ∧ some k_ ≠ (.slice Ao48 y681.length co48 : Value).ownBlock ∧ some k_ ≠ (.slice Ao57 y684.length co57 : Value).ownBlock ∧ some k_ ≠ (.slice Ao53 t690.length co53 : Value).ownBlock ∧ some k_ ≠ (.slice Ao63 y693.length co63 : Value).ownBlock ∧ some k_ ≠ (.slice Ao61 y702.length co61 : Value).ownBlock)) (upR HO677.out) hg hat); replace HO683 := Aside0.mk (Kd.R_after (ok := (fun k_ => some k_ ≠ (.slice Ao40 x3_3.length co40 : Value).ownBlock ∧ some k_ ≠ (.slice Ao43 t675.length co43 : Value).ownBlock ∧ some k_ ≠ (.slice Ao57 y684.length co57 : Value).ownBlock ∧ some k_ ≠ (.slice Ao53 t690.length co53 : Value).ownBlock ∧ some k_ ≠ (.slice Ao63 y693.length co63 : Value).ownBlock ∧ some k_ ≠ (.slice Ao61 y702.length co61 : Value).ownBlock)) (upR HO683.out) hg hat); replace HO686 := Aside0.mk (Kd.R_after (ok := (fun k_ => some k_ ≠ (.slice Ao40 x3_3.length co40 : Value).ownBlock ∧ some k_ ≠ (.slice Ao43 t675.length co43 : Value).ownBlock ∧ some k_ ≠ (.slice Ao48 y681.length co48 : Value).ownBlock ∧ some k_ ≠ (.slice Ao53 t690.length co53 : Value).ownBlock ∧ some k_ ≠ (.slice Ao63 y693.length co63 : Value).ownBlock ∧ some k_ ≠ (.slice Ao61 y702.length co61 : Value).ownBlock)) (upR HO686.out) hg hat); replace HO692 := Aside0.mk (Kd.R_after (ok := (fun k_ => some k_ ≠ (.slice Ao40 x3_3.length co40 : Value).ownBlock ∧ some k_ ≠ (.slice Ao43 t675.length co43 : Value).ownBlock ∧ some k_ ≠ (.slice Ao48 y681.length co48 : Value).ownBlock ∧ some k_ ≠ (.slice Ao57 y684.length co57 : Value).ownBlock ∧ some k_ ≠ (.slice Ao63 y693.length co63 : Value).ownBlock ∧ some k_ ≠ (.slice Ao61 y702.length co61 : Value).ownBlock)) (upR HO692.out) hg hat); replace HO695 := Aside0.mk (Kd.R_after (ok := (fun k_ => some k_ ≠ (.slice Ao40 x3_3.length co40 : Value).ownBlock ∧ some k_ ≠ (.slice Ao43 t675.length co43 : Value).ownBlock ∧ some k_ ≠ (.slice Ao48 y681.length co48 : Value).ownBlock ∧ some k_ ≠ (.slice Ao57 y684.length co57 : Value).ownBlock ∧ some k_ ≠ (.slice Ao53 t690.length co53 : Value).ownBlock ∧ some k_ ≠ (.slice Ao61 y702.length co61 : Value).ownBlock)) (upR HO695.out) hg hat); replace HO704 := Aside0.mk (Kd.R_after (ok := (fun k_ => some k_ ≠ (.slice Ao40 x3_3.length co40 : Value).ownBlock ∧ some k_ ≠ (.slice Ao43 t675.length co43 : Value).ownBlock ∧ some k_ ≠ (.slice Ao48 y681.length co48 : Value).ownBlock ∧ some k_ ≠ (.slice Ao57 y684.length co57 : Value).ownBlock ∧ some k_ ≠ (.slice Ao53 t690.length co53 : Value).ownBlock ∧ some k_ ≠ (.slice Ao63 y693.length co63 : Value).ownBlock)) (upR HO704.out) hg hat); replace HB := Aside0.mk (hb); clear HO707; clear ho hb hg hat) | ((with_reducible refine gate_dst (N := 53) rfl ?_); refine Kd.R_lit (Kd.int .u8) _ 5 ?hg (N := 53) ?hd (xs := ([] : List Int)) (inner := []) (ok := fun _ => True) (okp := fun _ => True) ?hr ?hp (fun _ hk => hk) trivial (Below.refl _ _) (Nat.le_refl _) (by simp) ?_; (case hd => rfl); (case hg => rfl); (case hr => first | (go_simp; done) | (go_simp; rfl)); (case hp => exact (Reps.none _ _)); intro v712 w64 ho65 hb hg_ hnew_; clear hg_ hnew_; (first | rw [← Ny711.out] at ho65 | (simp only [Int.reduceToNat] at ho65; rw [← Ny711.out] at ho65)); have HO713 := Aside0.mk (Kd.R_lower (Kd.R_new' (Kd.R_new' (Kd.R_new' (Kd.R_new' (Kd.R_new' (Kd.R_new' (Kd.R_new' (Kd.R_new' ho65 (Kd.R_lt (by (with_reducible repeat (first | apply Kd.R_alloc | apply Kd.R_drewN | apply Kd.R_drew)); exact HO_3.out))) (Kd.R_lt (upR HO677.out))) (Kd.R_lt (upR HO683.out))) (Kd.R_lt (upR HO686.out))) (Kd.R_lt (upR HO692.out))) (Kd.R_lt (upR HO695.out))) (Kd.R_lt (upR HO704.out))) (Kd.R_lt (upR HO710.out))) (below_size pb)); replace HO_3 := Aside0.mk (Kd.R_elder' (by (with_reducible repeat (first | apply Kd.R_alloc | apply Kd.R_drewN | apply Kd.R_drew)); exact HO_3.out) (Kd.R_base ho65) hb); replace HO677 := Aside0.mk (Kd.R_elder' (upR HO677.out) (Kd.R_base ho65) hb); replace HO683 := Aside0.mk (Kd.R_elder' (upR HO683.out) (Kd.R_base ho65) hb); replace HO686 := Aside0.mk (Kd.R_elder' (upR HO686.out) (Kd.R_base ho65) hb); replace HO692 := Aside0.mk (Kd.R_elder' (upR HO692.out) (Kd.R_base ho65) hb); replace HO695 := Aside0.mk (Kd.R_elder' (upR HO695.out) (Kd.R_base ho65) hb); replace HO704 := Aside0.mk (Kd.R_elder' (upR HO704.out) (Kd.R_base ho65) hb); replace HO710 := Aside0.mk (Kd.R_elder' (upR HO710.out) (Kd.R_base ho65) hb); replace BK652 := Aside0.mk (blk_below (up BK652.out) hb); replace HB := Aside0.mk (below_step pb hb); clear hb ho65) | ((with_reducible refine gate_builtin (b := .append) (xs := #[.tmp 53, .tmp 54]) rfl ?_); at_builtin; refine Kd.R_append_rows (Kd.int .u8) (w0 := w) w.heap.size rfl (.tmp 53) (.tmp 54) 22 5 (.int .u8 0) 1 rfl Try.underlying22 info5 rfl (by decide) (by omega) v712 y711 y684 _ _ _ (fun k_ => some k_ ≠ (.slice Ao40 x3_3.length co40 : Value).ownBlock ∧ some k_ ≠ (.slice Ao43 t675.length co43 : Value).ownBlock ∧ some k_ ≠ (.slice Ao48 y681.length co48 : Value).ownBlock ∧ some k_ ≠ (.slice Ao57 y684.length co57 : Value).ownBlock ∧ some k_ ≠ (.slice Ao53 t690.length co53 : Value).ownBlock ∧ some k_ ≠ (.slice Ao63 y693.length co63 : Value).ownBlock ∧ some k_ ≠ (.slice Ao61 y702.length co61 : Value).ownBlock ∧ some k_ ≠ (v709 : Value).ownBlock) (fun _ => False) rfl rfl ?aO ?aR (fun _ _ h => h) (fun _ h => h.elim) ?aF ?aB ?aS ?aL ?_; (case aR => exact upC (Kd.R_reads' HO686.out).2.2); (case aB => exact pb); (case aF => exact (fun k_ hk => ⟨Kd.fresh' (Kd.R_lt (by (with_reducible repeat (first | apply Kd.R_alloc | apply Kd.R_drewN | apply Kd.R_drew)); exact HO_3.out)) k_ hk, Kd.fresh' (Kd.R_lt (upR HO677.out)) k_ hk, Kd.fresh' (Kd.R_lt (upR HO683.out)) k_ hk, Kd.fresh' (Kd.R_lt (upR HO686.out)) k_ hk, Kd.fresh' (Kd.R_lt (upR HO692.out)) k_ hk, Kd.fresh' (Kd.R_lt (upR HO695.out)) k_ hk, Kd.fresh' (Kd.R_lt (upR HO704.out)) k_ hk, Kd.fresh' (Kd.R_lt (upR HO710.out)) k_ hk⟩)); (case aO => exact (by (with_reducible repeat (first | apply Kd.R_alloc | apply Kd.R_drewN | apply Kd.R_drew)); exact Kd.R_mono HO713.out (fun _ hk => ⟨hk.1.1.1.1.1.1.1.2, ⟨hk.1.1.1.1.1.1.2, ⟨hk.1.1.1.1.1.2, ⟨hk.1.1.1.1.2, ⟨hk.1.1.1.2, ⟨hk.1.1.2, ⟨hk.1.2, hk.2⟩⟩⟩⟩⟩⟩⟩))); (case aS => exact (below_size pb)); (case aL => have := LMc32.out; omega); intro v715 w66 ho hb hg hat; rw [← Ny714.out] at ho; have HO716 := Aside0.mk (ho); replace HO_3 := Aside0.mk (Kd.R_after (ok := (fun k_ => some k_ ≠ (.slice Ao43 t675.length co43 : Value).ownBlock ∧ some k_ ≠ (.slice Ao48 y681.length co48 : Value).ownBlock ∧ some k_ ≠ (.slice Ao57 y684.length co57 : Value).ownBlock ∧ some k_ ≠ (.slice Ao53 t690.length co53 : Value).ownBlock ∧ some k_ ≠ (.slice Ao63 y693.length co63 : Value).ownBlock ∧ some k_ ≠ (.slice Ao61 y702.length co61 : Value).ownBlock ∧ some k_ ≠ (v709 : Value).ownBlock)) (by (with_reducible repeat (first | apply Kd.R_alloc | apply Kd.R_drewN | apply Kd.R_drew)); exact Kd.R_mono HO_3.out (fun _ hk => ⟨⟨hk.1.1.1, ⟨hk.1.1.2.1, ⟨hk.1.1.2.2.1, ⟨hk.1.1.2.2.2.1, ⟨hk.1.1.2.2.2.2.1, ⟨hk.1.1.2.2.2.2.2, hk.1.2⟩⟩⟩⟩⟩⟩, hk.2⟩)) hg hat); replace BK652 := Aside0.mk (blk_grown (g := gb652) (o := .cells #[.int .i64 a0_0, .int .i64 a0_1, .int .i64 a0_2, .int .i64 a0_3, .int .i64 a0_4, .int .i64 a0_5, .slice A0_6 l0_6.length c0_6] 53 (0, 0)) (up BK652.out) hg (Kd.R_ne HO713.out BK652.out (by decide))); replace HO677 := Aside0.mk (Kd.R_after (ok := (fun k_ => some k_ ≠ (.slice Ao40 x3_3.length co40 : Value).ownBlock ∧ some k_ ≠ (.slice Ao48 y681.length co48 : Value).ownBlock ∧ some k_ ≠ (.slice Ao57 y684.length co57 : Value).ownBlock ∧ some k_ ≠ (.slice Ao53 t690.length co53 : Value).ownBlock ∧ some k_ ≠ (.slice Ao63 y693.length co63 : Value).ownBlock ∧ some k_ ≠ (.slice Ao61 y702.length co61 : Value).ownBlock ∧ some k_ ≠ (v709 : Value).ownBlock)) (by (with_reducible repeat (first | apply Kd.R_alloc | apply Kd.R_drewN | apply Kd.R_drew)); exact Kd.R_mono HO677.out (fun _ hk => ⟨⟨hk.1.1.1, ⟨hk.1.1.2.1, ⟨hk.1.1.2.2.1, ⟨hk.1.1.2.2.2.1, ⟨hk.1.1.2.2.2.2.1, ⟨hk.1.1.2.2.2.2.2, hk.1.2⟩⟩⟩⟩⟩⟩, hk.2⟩)) hg hat); replace HO683 := Aside0.mk (Kd.R_after (ok := (fun k_ => some k_ ≠ (.slice Ao40 x3_3.length co40 : Value).ownBlock ∧ some k_ ≠ (.slice Ao43 t675.length co43 : Value).ownBlock ∧ some k_ ≠ (.slice Ao57 y684.length co57 : Value).ownBlock ∧ some k_ ≠ (.slice Ao53 t690.length co53 : Value).ownBlock ∧ some k_ ≠ (.slice Ao63 y693.length co63 : Value).ownBlock ∧ some k_ ≠ (.slice Ao61 y702.length co61 : Value).ownBlock ∧ some k_ ≠ (v709 : Value).ownBlock)) (by (with_reducible repeat (first | apply Kd.R_alloc | apply Kd.R_drewN | apply Kd.R_drew)); exact Kd.R_mono HO683.out (fun _ hk => ⟨⟨hk.1.1.1, ⟨hk.1.1.2.1, ⟨hk.1.1.2.2.1, ⟨hk.1.1.2.2.2.1, ⟨hk.1.1.2.2.2.2.1, ⟨hk.1.1.2.2.2.2.2, hk.1.2⟩⟩⟩⟩⟩⟩, hk.2⟩)) hg hat); replace HO686 := Aside0.mk (Kd.R_after (ok := (fun k_ => some k_ ≠ (.slice Ao40 x3_3.length co40 : Value).ownBlock ∧ some k_ ≠ (.slice Ao43 t675.length co43 : Value).ownBlock ∧ some k_ ≠ (.slice Ao48 y681.length co48 : Value).ownBlock ∧ some k_ ≠ (.slice Ao53 t690.length co53 : Value).ownBlock ∧ some k_ ≠ (.slice Ao63 y693.length co63 : Value).ownBlock ∧ some k_ ≠ (.slice Ao61 y702.length co61 : Value).ownBlock ∧ some k_ ≠ (v709 : Value).ownBlock)) (by (with_reducible repeat (first | apply Kd.R_alloc | apply Kd.R_drewN | apply Kd.R_drew)); exact Kd.R_mono HO686.out (fun _ hk => ⟨⟨hk.1.1.1, ⟨hk.1.1.2.1, ⟨hk.1.1.2.2.1, ⟨hk.1.1.2.2.2.1, ⟨hk.1.1.2.2.2.2.1, ⟨hk.1.1.2.2.2.2.2, hk.1.2⟩⟩⟩⟩⟩⟩, hk.2⟩)) hg hat); replace HO692 := Aside0.mk (Kd.R_after (ok := (fun k_ => some k_ ≠ (.slice Ao40 x3_3.length co40 : Value).ownBlock ∧ some k_ ≠ (.slice Ao43 t675.length co43 : Value).ownBlock ∧ some k_ ≠ (.slice Ao48 y681.length co48 : Value).ownBlock ∧ some k_ ≠ (.slice Ao57 y684.length co57 : Value).ownBlock ∧ some k_ ≠ (.slice Ao63 y693.length co63 : Value).ownBlock ∧ some k_ ≠ (.slice Ao61 y702.length co61 : Value).ownBlock ∧ some k_ ≠ (v709 : Value).ownBlock)) (by (with_reducible repeat (first | apply Kd.R_alloc | apply Kd.R_drewN | apply Kd.R_drew)); exact Kd.R_mono HO692.out (fun _ hk => ⟨⟨hk.1.1.1, ⟨hk.1.1.2.1, ⟨hk.1.1.2.2.1, ⟨hk.1.1.2.2.2.1, ⟨hk.1.1.2.2.2.2.1, ⟨hk.1.1.2.2.2.2.2, hk.1.2⟩⟩⟩⟩⟩⟩, hk.2⟩)) hg hat); replace HO695 := Aside0.mk (Kd.R_after (ok := (fun k_ => some k_ ≠ (.slice Ao40 x3_3.length co40 : Value).ownBlock ∧ some k_ ≠ (.slice Ao43 t675.length co43 : Value).ownBlock ∧ some k_ ≠ (.slice Ao48 y681.length co48 : Value).ownBlock ∧ some k_ ≠ (.slice Ao57 y684.length co57 : Value).ownBlock ∧ some k_ ≠ (.slice Ao53 t690.length co53 : Value).ownBlock ∧ some k_ ≠ (.slice Ao61 y702.length co61 : Value).ownBlock ∧ some k_ ≠ (v709 : Value).ownBlock)) (by (with_reducible repeat (first | apply Kd.R_alloc | apply Kd.R_drewN | apply Kd.R_drew)); exact Kd.R_mono HO695.out (fun _ hk => ⟨⟨hk.1.1.1, ⟨hk.1.1.2.1, ⟨hk.1.1.2.2.1, ⟨hk.1.1.2.2.2.1, ⟨hk.1.1.2.2.2.2.1, ⟨hk.1.1.2.2.2.2.2, hk.1.2⟩⟩⟩⟩⟩⟩, hk.2⟩)) hg hat); replace HO704 := Aside0.mk (Kd.R_after (ok := (fun k_ => some k_ ≠ (.slice Ao40 x3_3.length co40 : Value).ownBlock ∧ some k_ ≠ (.slice Ao43 t675.length co43 : Value).ownBlock ∧ some k_ ≠ (.slice Ao48 y681.length co48 : Value).ownBlock ∧ some k_ ≠ (.slice Ao57 y684.length co57 : Value).ownBlock ∧ some k_ ≠ (.slice Ao53 t690.length co53 : Value).ownBlock ∧ some k_ ≠ (.slice Ao63 y693.length co63 : Value).ownBlock ∧ some k_ ≠ (v709 : Value).ownBlock)) (by (with_reducible repeat (first | apply Kd.R_alloc | apply Kd.R_drewN | apply Kd.R_drew)); exact Kd.R_mono HO704.out (fun _ hk => ⟨⟨hk.1.1.1, ⟨hk.1.1.2.1, ⟨hk.1.1.2.2.1, ⟨hk.1.1.2.2.2.1, ⟨hk.1.1.2.2.2.2.1, ⟨hk.1.1.2.2.2.2.2, hk.1.2⟩⟩⟩⟩⟩⟩, hk.2⟩)) hg hat); replace HO710 := Aside0.mk (Kd.R_after (ok := (fun k_ => some k_ ≠ (.slice Ao40 x3_3.length co40 : Value).ownBlock ∧ some k_ ≠ (.slice Ao43 t675.length co43 : Value).ownBlock ∧ some k_ ≠ (.slice Ao48 y681.length co48 : Value).ownBlock ∧ some k_ ≠ (.slice Ao57 y684.length co57 : Value).ownBlock ∧ some k_ ≠ (.slice Ao53 t690.length co53 : Value).ownBlock ∧ some k_ ≠ (.slice Ao63 y693.length co63 : Value).ownBlock ∧ some k_ ≠ (.slice Ao61 y702.length co61 : Value).ownBlock)) (upR HO710.out) hg hat); replace HB := Aside0.mk (hb); clear HO713; clear ho hb hg hat; obtain ⟨Ao67, co67, eo67⟩ := Kd.R_slice HO710.out; subst eo67) | ((with_reducible refine gate_callee (f := 124) rfl ?_); refine goesL_ (some 57) rfl rfl Try.func124 (by kernel_rfl) rfl #[.slice Ao67 y708.length co67] rfl (by (try simp only [List.map_toArray, List.map_cons, List.map_nil]); first | done | rfl | (simp only [List.length_drop, List.length_take]; rfl)) ?_; (with_reducible refine (spec_SumWords.calls kj3 _ _ y708 t717 _ ?side1 ?side2 A33.out).mono ?_); (case side1 => exact upC (Kd.R_reads' HO710.out).2.2); (case side2 => exact (Kd.R_reads' HO710.out).2.1); rintro e w' ⟨rfl, ⟨nd, rfl⟩⟩; refine ⟨_, rfl, ?_⟩) | ((with_reducible refine gate_callee (f := 66) rfl ?_); refine goesL_ (some 58) rfl rfl Try.func66 (by kernel_rfl) rfl #[.int .i64 t717, .int .i64 2] rfl (by (try simp only [List.map_toArray, List.map_cons, List.map_nil]); first | done | rfl | (simp only [List.length_drop, List.length_take]; rfl)) ?_; (with_reducible refine (spec_l1Bytes.calls kj3 t717 2 t718 _ A34.out).mono ?_); rintro e w68 ⟨v719, rfl, ho0, hb⟩; refine ⟨_, rfl, ?_⟩; have HO720 := Aside0.mk (Kd.R_lower (Kd.R_new' (Kd.R_new' (Kd.R_new' (Kd.R_new' (Kd.R_new' (Kd.R_new' (Kd.R_new' (Kd.R_new' (Kd.R_new' ho0 (Kd.R_lt (by (with_reducible repeat (first | apply Kd.R_alloc | apply Kd.R_drewN | apply Kd.R_drew)); exact HO_3.out))) (Kd.R_lt (upR HO677.out))) (Kd.R_lt (upR HO683.out))) (Kd.R_lt (upR HO686.out))) (Kd.R_lt (upR HO692.out))) (Kd.R_lt (upR HO695.out))) (Kd.R_lt (upR HO704.out))) (Kd.R_lt (upR HO710.out))) (Kd.R_lt (upR HO716.out))) (below_size pb)); replace HO_3 := Aside0.mk (Kd.R_elder' (by (with_reducible repeat (first | apply Kd.R_alloc | apply Kd.R_drewN | apply Kd.R_drew)); exact HO_3.out) (Kd.R_base ho0) hb); replace HO677 := Aside0.mk (Kd.R_elder' (upR HO677.out) (Kd.R_base ho0) hb); replace HO683 := Aside0.mk (Kd.R_elder' (upR HO683.out) (Kd.R_base ho0) hb); replace HO686 := Aside0.mk (Kd.R_elder' (upR HO686.out) (Kd.R_base ho0) hb); replace HO692 := Aside0.mk (Kd.R_elder' (upR HO692.out) (Kd.R_base ho0) hb); replace HO695 := Aside0.mk (Kd.R_elder' (upR HO695.out) (Kd.R_base ho0) hb); replace HO704 := Aside0.mk (Kd.R_elder' (upR HO704.out) (Kd.R_base ho0) hb); replace HO710 := Aside0.mk (Kd.R_elder' (upR HO710.out) (Kd.R_base ho0) hb); replace HO716 := Aside0.mk (Kd.R_elder' (upR HO716.out) (Kd.R_base ho0) hb); replace BK652 := Aside0.mk (blk_below (up BK652.out) hb); replace HB := Aside0.mk (below_step pb hb); (try clear hb); (try clear hb2); (try clear hk); (try clear hi); (try clear ho0); obtain ⟨Ao70, co70, eo70⟩ := Kd.R_slice HO720.out; subst eo70) | ((with_reducible refine gate_builtin (b := .append) (xs := #[.tmp 55, .tmp 58]) rfl ?_); at_builtin; refine Kd.R_append_rows (Kd.int .u8) (w0 := w) w.heap.size rfl (.tmp 55) (.tmp 58) 22 5 (.int .u8 0) 1 rfl Try.underlying22 info5 rfl (by decide) (by omega) v715 y714 t718 _ _ _ (fun k_ => some k_ ≠ (.slice Ao40 x3_3.length co40 : Value).ownBlock ∧ some k_ ≠ (.slice Ao43 t675.length co43 : Value).ownBlock ∧ some k_ ≠ (.slice Ao48 y681.length co48 : Value).ownBlock ∧ some k_ ≠ (.slice Ao57 y684.length co57 : Value).ownBlock ∧ some k_ ≠ (.slice Ao53 t690.length co53 : Value).ownBlock ∧ some k_ ≠ (.slice Ao63 y693.length co63 : Value).ownBlock ∧ some k_ ≠ (.slice Ao61 y702.length co61 : Value).ownBlock ∧ some k_ ≠ (.slice Ao67 y708.length co67 : Value).ownBlock ∧ some k_ ≠ (.slice Ao70 t718.length co70 : Value).ownBlock) (fun _ => False) rfl rfl ?aO ?aR (fun _ _ h => h) (fun _ h => h.elim) ?aF ?aB ?aS ?aL ?_; (case aR => exact upC (Kd.R_reads' HO720.out).2.2); (case aB => exact pb); (case aF => exact (fun k_ hk => ⟨Kd.fresh' (Kd.R_lt (by (with_reducible repeat (first | apply Kd.R_alloc | apply Kd.R_drewN | apply Kd.R_drew)); exact HO_3.out)) k_ hk, Kd.fresh' (Kd.R_lt (upR HO677.out)) k_ hk, Kd.fresh' (Kd.R_lt (upR HO683.out)) k_ hk, Kd.fresh' (Kd.R_lt (upR HO686.out)) k_ hk, Kd.fresh' (Kd.R_lt (upR HO692.out)) k_ hk, Kd.fresh' (Kd.R_lt (upR HO695.out)) k_ hk, Kd.fresh' (Kd.R_lt (upR HO704.out)) k_ hk, Kd.fresh' (Kd.R_lt (upR HO710.out)) k_ hk, Kd.fresh' (Kd.R_lt (upR HO720.out)) k_ hk⟩)); (case aO => exact (by (with_reducible repeat (first | apply Kd.R_alloc | apply Kd.R_drewN | apply Kd.R_drew)); exact Kd.R_mono HO716.out (fun _ hk => ⟨hk.1.1, ⟨hk.1.2.1, ⟨hk.1.2.2.1, ⟨hk.1.2.2.2.1, ⟨hk.1.2.2.2.2.1, ⟨hk.1.2.2.2.2.2.1, ⟨hk.1.2.2.2.2.2.2.1, ⟨hk.1.2.2.2.2.2.2.2, hk.2⟩⟩⟩⟩⟩⟩⟩⟩))); (case aS => exact (below_size pb)); (case aL => have := LMc35.out; omega); intro v722 w69 ho hb hg hat; rw [← Ny721.out] at ho; have HO723 := Aside0.mk (ho); replace HO_3 := Aside0.mk (Kd.R_after (ok := (fun k_ => some k_ ≠ (.slice Ao43 t675.length co43 : Value).ownBlock ∧ some k_ ≠ (.slice Ao48 y681.length co48 : Value).ownBlock ∧ some k_ ≠ (.slice Ao57 y684.length co57 : Value).ownBlock ∧ some k_ ≠ (.slice Ao53 t690.length co53 : Value).ownBlock ∧ some k_ ≠ (.slice Ao63 y693.length co63 : Value).ownBlock ∧ some k_ ≠ (.slice Ao61 y702.length co61 : Value).ownBlock ∧ some k_ ≠ (.slice Ao67 y708.length co67 : Value).ownBlock ∧ some k_ ≠ (.slice Ao70 t718.length co70 : Value).ownBlock)) (by (with_reducible repeat (first | apply Kd.R_alloc | apply Kd.R_drewN | apply Kd.R_drew)); exact Kd.R_mono HO_3.out (fun _ hk => ⟨⟨hk.1.1.1, ⟨hk.1.1.2.1, ⟨hk.1.1.2.2.1, ⟨hk.1.1.2.2.2.1, ⟨hk.1.1.2.2.2.2.1, ⟨hk.1.1.2.2.2.2.2.1, ⟨hk.1.1.2.2.2.2.2.2, hk.2⟩⟩⟩⟩⟩⟩⟩, hk.1.2⟩)) hg hat); replace BK652 := Aside0.mk (blk_grown (g := gb652) (o := .cells #[.int .i64 a0_0, .int .i64 a0_1, .int .i64 a0_2, .int .i64 a0_3, .int .i64 a0_4, .int .i64 a0_5, .slice A0_6 l0_6.length c0_6] 53 (0, 0)) (up BK652.out) hg (Kd.R_ne HO716.out BK652.out (by decide))); replace HO677 := Aside0.mk (Kd.R_after (ok := (fun k_ => some k_ ≠ (.slice Ao40 x3_3.length co40 : Value).ownBlock ∧ some k_ ≠ (.slice Ao48 y681.length co48 : Value).ownBlock ∧ some k_ ≠ (.slice Ao57 y684.length co57 : Value).ownBlock ∧ some k_ ≠ (.slice Ao53 t690.length co53 : Value).ownBlock ∧ some k_ ≠ (.slice Ao63 y693.length co63 : Value).ownBlock ∧ some k_ ≠ (.slice Ao61 y702.length co61 : Value).ownBlock ∧ some k_ ≠ (.slice Ao67 y708.length co67 : Value).ownBlock ∧ some k_ ≠ (.slice Ao70 t718.length co70 : Value).ownBlock)) (by (with_reducible repeat (first | apply Kd.R_alloc | apply Kd.R_drewN | apply Kd.R_drew)); exact Kd.R_mono HO677.out (fun _ hk => ⟨⟨hk.1.1.1, ⟨hk.1.1.2.1, ⟨hk.1.1.2.2.1, ⟨hk.1.1.2.2.2.1, ⟨hk.1.1.2.2.2.2.1, ⟨hk.1.1.2.2.2.2.2.1, ⟨hk.1.1.2.2.2.2.2.2, hk.2⟩⟩⟩⟩⟩⟩⟩, hk.1.2⟩)) hg hat); replace HO683 := Aside0.mk (Kd.R_after (ok := (fun k_ => some k_ ≠ (.slice Ao40 x3_3.length co40 : Value).ownBlock ∧ some k_ ≠ (.slice Ao43 t675.length co43 : Value).ownBlock ∧ some k_ ≠ (.slice Ao57 y684.length co57 : Value).ownBlock ∧ some k_ ≠ (.slice Ao53 t690.length co53 : Value).ownBlock ∧ some k_ ≠ (.slice Ao63 y693.length co63 : Value).ownBlock ∧ some k_ ≠ (.slice Ao61 y702.length co61 : Value).ownBlock ∧ some k_ ≠ (.slice Ao67 y708.length co67 : Value).ownBlock ∧ some k_ ≠ (.slice Ao70 t718.length co70 : Value).ownBlock)) (by (with_reducible repeat (first | apply Kd.R_alloc | apply Kd.R_drewN | apply Kd.R_drew)); exact Kd.R_mono HO683.out (fun _ hk => ⟨⟨hk.1.1.1, ⟨hk.1.1.2.1, ⟨hk.1.1.2.2.1, ⟨hk.1.1.2.2.2.1, ⟨hk.1.1.2.2.2.2.1, ⟨hk.1.1.2.2.2.2.2.1, ⟨hk.1.1.2.2.2.2.2.2, hk.2⟩⟩⟩⟩⟩⟩⟩, hk.1.2⟩)) hg hat); replace HO686 := Aside0.mk (Kd.R_after (ok := (fun k_ => some k_ ≠ (.slice Ao40 x3_3.length co40 : Value).ownBlock ∧ some k_ ≠ (.slice Ao43 t675.length co43 : Value).ownBlock ∧ some k_ ≠ (.slice Ao48 y681.length co48 : Value).ownBlock ∧ some k_ ≠ (.slice Ao53 t690.length co53 : Value).ownBlock ∧ some k_ ≠ (.slice Ao63 y693.length co63 : Value).ownBlock ∧ some k_ ≠ (.slice Ao61 y702.length co61 : Value).ownBlock ∧ some k_ ≠ (.slice Ao67 y708.length co67 : Value).ownBlock ∧ some k_ ≠ (.slice Ao70 t718.length co70 : Value).ownBlock)) (by (with_reducible repeat (first | apply Kd.R_alloc | apply Kd.R_drewN | apply Kd.R_drew)); exact Kd.R_mono HO686.out (fun _ hk => ⟨⟨hk.1.1.1, ⟨hk.1.1.2.1, ⟨hk.1.1.2.2.1, ⟨hk.1.1.2.2.2.1, ⟨hk.1.1.2.2.2.2.1, ⟨hk.1.1.2.2.2.2.2.1, ⟨hk.1.1.2.2.2.2.2.2, hk.2⟩⟩⟩⟩⟩⟩⟩, hk.1.2⟩)) hg hat); replace HO692 := Aside0.mk (Kd.R_after (ok := (fun k_ => some k_ ≠ (.slice Ao40 x3_3.length co40 : Value).ownBlock ∧ some k_ ≠ (.slice Ao43 t675.length co43 : Value).ownBlock ∧ some k_ ≠ (.slice Ao48 y681.length co48 : Value).ownBlock ∧ some k_ ≠ (.slice Ao57 y684.length co57 : Value).ownBlock ∧ some k_ ≠ (.slice Ao63 y693.length co63 : Value).ownBlock ∧ some k_ ≠ (.slice Ao61 y702.length co61 : Value).ownBlock ∧ some k_ ≠ (.slice Ao67 y708.length co67 : Value).ownBlock ∧ some k_ ≠ (.slice Ao70 t718.length co70 : Value).ownBlock)) (by (with_reducible repeat (first | apply Kd.R_alloc | apply Kd.R_drewN | apply Kd.R_drew)); exact Kd.R_mono HO692.out (fun _ hk => ⟨⟨hk.1.1.1, ⟨hk.1.1.2.1, ⟨hk.1.1.2.2.1, ⟨hk.1.1.2.2.2.1, ⟨hk.1.1.2.2.2.2.1, ⟨hk.1.1.2.2.2.2.2.1, ⟨hk.1.1.2.2.2.2.2.2, hk.2⟩⟩⟩⟩⟩⟩⟩, hk.1.2⟩)) hg hat); replace HO695 := Aside0.mk (Kd.R_after (ok := (fun k_ => some k_ ≠ (.slice Ao40 x3_3.length co40 : Value).ownBlock ∧ some k_ ≠ (.slice Ao43 t675.length co43 : Value).ownBlock ∧ some k_ ≠ (.slice Ao48 y681.length co48 : Value).ownBlock ∧ some k_ ≠ (.slice Ao57 y684.length co57 : Value).ownBlock ∧ some k_ ≠ (.slice Ao53 t690.length co53 : Value).ownBlock ∧ some k_ ≠ (.slice Ao61 y702.length co61 : Value).ownBlock ∧ some k_ ≠ (.slice Ao67 y708.length co67 : Value).ownBlock ∧ some k_ ≠ (.slice Ao70 t718.length co70 : Value).ownBlock)) (by (with_reducible repeat (first | apply Kd.R_alloc | apply Kd.R_drewN | apply Kd.R_drew)); exact Kd.R_mono HO695.out (fun _ hk => ⟨⟨hk.1.1.1, ⟨hk.1.1.2.1, ⟨hk.1.1.2.2.1, ⟨hk.1.1.2.2.2.1, ⟨hk.1.1.2.2.2.2.1, ⟨hk.1.1.2.2.2.2.2.1, ⟨hk.1.1.2.2.2.2.2.2, hk.2⟩⟩⟩⟩⟩⟩⟩, hk.1.2⟩)) hg hat); replace HO704 := Aside0.mk (Kd.R_after (ok := (fun k_ => some k_ ≠ (.slice Ao40 x3_3.length co40 : Value).ownBlock ∧ some k_ ≠ (.slice Ao43 t675.length co43 : Value).ownBlock ∧ some k_ ≠ (.slice Ao48 y681.length co48 : Value).ownBlock ∧ some k_ ≠ (.slice Ao57 y684.length co57 : Value).ownBlock ∧ some k_ ≠ (.slice Ao53 t690.length co53 : Value).ownBlock ∧ some k_ ≠ (.slice Ao63 y693.length co63 : Value).ownBlock ∧ some k_ ≠ (.slice Ao67 y708.length co67 : Value).ownBlock ∧ some k_ ≠ (.slice Ao70 t718.length co70 : Value).ownBlock)) (by (with_reducible repeat (first | apply Kd.R_alloc | apply Kd.R_drewN | apply Kd.R_drew)); exact Kd.R_mono HO704.out (fun _ hk => ⟨⟨hk.1.1.1, ⟨hk.1.1.2.1, ⟨hk.1.1.2.2.1, ⟨hk.1.1.2.2.2.1, ⟨hk.1.1.2.2.2.2.1, ⟨hk.1.1.2.2.2.2.2.1, ⟨hk.1.1.2.2.2.2.2.2, hk.2⟩⟩⟩⟩⟩⟩⟩, hk.1.2⟩)) hg hat); replace HO710 := Aside0.mk (Kd.R_after (ok := (fun k_ => some k_ ≠ (.slice Ao40 x3_3.length co40 : Value).ownBlock ∧ some k_ ≠ (.slice Ao43 t675.length co43 : Value).ownBlock ∧ some k_ ≠ (.slice Ao48 y681.length co48 : Value).ownBlock ∧ some k_ ≠ (.slice Ao57 y684.length co57 : Value).ownBlock ∧ some k_ ≠ (.slice Ao53 t690.length co53 : Value).ownBlock ∧ some k_ ≠ (.slice Ao63 y693.length co63 : Value).ownBlock ∧ some k_ ≠ (.slice Ao61 y702.length co61 : Value).ownBlock ∧ some k_ ≠ (.slice Ao70 t718.length co70 : Value).ownBlock)) (by (with_reducible repeat (first | apply Kd.R_alloc | apply Kd.R_drewN | apply Kd.R_drew)); exact Kd.R_mono HO710.out (fun _ hk => ⟨⟨hk.1.1.1, ⟨hk.1.1.2.1, ⟨hk.1.1.2.2.1, ⟨hk.1.1.2.2.2.1, ⟨hk.1.1.2.2.2.2.1, ⟨hk.1.1.2.2.2.2.2.1, ⟨hk.1.1.2.2.2.2.2.2, hk.2⟩⟩⟩⟩⟩⟩⟩, hk.1.2⟩)) hg hat); replace HO720 := Aside0.mk (Kd.R_after (ok := (fun k_ => some k_ ≠ (.slice Ao40 x3_3.length co40 : Value).ownBlock ∧ some k_ ≠ (.slice Ao43 t675.length co43 : Value).ownBlock ∧ some k_ ≠ (.slice Ao48 y681.length co48 : Value).ownBlock ∧ some k_ ≠ (.slice Ao57 y684.length co57 : Value).ownBlock ∧ some k_ ≠ (.slice Ao53 t690.length co53 : Value).ownBlock ∧ some k_ ≠ (.slice Ao63 y693.length co63 : Value).ownBlock ∧ some k_ ≠ (.slice Ao61 y702.length co61 : Value).ownBlock ∧ some k_ ≠ (.slice Ao67 y708.length co67 : Value).ownBlock)) (by (with_reducible repeat (first | apply Kd.R_alloc | apply Kd.R_drewN | apply Kd.R_drew)); exact Kd.R_mono HO720.out (fun _ hk => ⟨⟨hk.1.1.1.1.1.1.1.1.2, ⟨hk.1.1.1.1.1.1.1.2, ⟨hk.1.1.1.1.1.1.2, ⟨hk.1.1.1.1.1.2, ⟨hk.1.1.1.1.2, ⟨hk.1.1.1.2, ⟨hk.1.1.2, hk.1.2⟩⟩⟩⟩⟩⟩⟩, hk.2⟩)) hg hat); replace HB := Aside0.mk (hb); clear HO716; clear ho hb hg hat) | ((with_reducible refine gate_builtin (b := .append) (xs := #[.tmp 59, .tmp 60]) rfl ?_); at_builtin; refine Kd.R_append_rows (Kd.int .u8) (w0 := w) w.heap.size rfl (.tmp 59) (.tmp 60) 22 5 (.int .u8 0) 1 rfl Try.underlying22 info5 rfl (by decide) (by omega) v722 y721 y693 _ _ _ (fun k_ => some k_ ≠ (.slice Ao40 x3_3.length co40 : Value).ownBlock ∧ some k_ ≠ (.slice Ao43 t675.length co43 : Value).ownBlock ∧ some k_ ≠ (.slice Ao48 y681.length co48 : Value).ownBlock ∧ some k_ ≠ (.slice Ao57 y684.length co57 : Value).ownBlock ∧ some k_ ≠ (.slice Ao53 t690.length co53 : Value).ownBlock ∧ some k_ ≠ (.slice Ao63 y693.length co63 : Value).ownBlock ∧ some k_ ≠ (.slice Ao61 y702.length co61 : Value).ownBlock ∧ some k_ ≠ (.slice Ao67 y708.length co67 : Value).ownBlock ∧ some k_ ≠ (.slice Ao70 t718.length co70 : Value).ownBlock) (fun _ => False) rfl rfl ?aO ?aR (fun _ _ h => h) (fun _ h => h.elim) ?aF ?aB ?aS ?aL ?_; (case aR => exact upC (Kd.R_reads' HO695.out).2.2); (case aB => exact pb); (case aF => exact (fun k_ hk => ⟨Kd.fresh' (Kd.R_lt (by (with_reducible repeat (first | apply Kd.R_alloc | apply Kd.R_drewN | apply Kd.R_drew)); exact HO_3.out)) k_ hk, Kd.fresh' (Kd.R_lt (upR HO677.out)) k_ hk, Kd.fresh' (Kd.R_lt (upR HO683.out)) k_ hk, Kd.fresh' (Kd.R_lt (upR HO686.out)) k_ hk, Kd.fresh' (Kd.R_lt (upR HO692.out)) k_ hk, Kd.fresh' (Kd.R_lt (upR HO695.out)) k_ hk, Kd.fresh' (Kd.R_lt (upR HO704.out)) k_ hk, Kd.fresh' (Kd.R_lt (upR HO710.out)) k_ hk, Kd.fresh' (Kd.R_lt (upR HO720.out)) k_ hk⟩)); (case aO => exact (upR HO723.out)); (case aS => exact (below_size pb)); (case aL => have := LMc36.out; omega); intro v725 w71 ho hb hg hat; rw [← Ny724.out] at ho; have HO726 := Aside0.mk (ho); replace HO_3 := Aside0.mk (Kd.R_after (ok := (fun k_ => some k_ ≠ (.slice Ao43 t675.length co43 : Value).ownBlock ∧ some k_ ≠ (.slice Ao48 y681.length co48 : Value).ownBlock ∧ some k_ ≠ (.slice Ao57 y684.length co57 : Value).ownBlock ∧ some k_ ≠ (.slice Ao53 t690.length co53 : Value).ownBlock ∧ some k_ ≠ (.slice Ao63 y693.length co63 : Value).ownBlock ∧ some k_ ≠ (.slice Ao61 y702.length co61 : Value).ownBlock ∧ some k_ ≠ (.slice Ao67 y708.length co67 : Value).ownBlock ∧ some k_ ≠ (.slice Ao70 t718.length co70 : Value).ownBlock)) (by (with_reducible repeat (first | apply Kd.R_alloc | apply Kd.R_drewN | apply Kd.R_drew)); exact HO_3.out) hg hat); replace BK652 := Aside0.mk (blk_grown (g := gb652) (o := .cells #[.int .i64 a0_0, .int .i64 a0_1, .int .i64 a0_2, .int .i64 a0_3, .int .i64 a0_4, .int .i64 a0_5, .slice A0_6 l0_6.length c0_6] 53 (0, 0)) (up BK652.out) hg (Kd.R_ne HO723.out BK652.out (by decide))); replace HO677 := Aside0.mk (Kd.R_after (ok := (fun k_ => some k_ ≠ (.slice Ao40 x3_3.length co40 : Value).ownBlock ∧ some k_ ≠ (.slice Ao48 y681.length co48 : Value).ownBlock ∧ some k_ ≠ (.slice Ao57 y684.length co57 : Value).ownBlock ∧ some k_ ≠ (.slice Ao53 t690.length co53 : Value).ownBlock ∧ some k_ ≠ (.slice Ao63 y693.length co63 : Value).ownBlock ∧ some k_ ≠ (.slice Ao61 y702.length co61 : Value).ownBlock ∧ some k_ ≠ (.slice Ao67 y708.length co67 : Value).ownBlock ∧ some k_ ≠ (.slice Ao70 t718.length co70 : Value).ownBlock)) (upR HO677.out) hg hat); replace HO683 := Aside0.mk (Kd.R_after (ok := (fun k_ => some k_ ≠ (.slice Ao40 x3_3.length co40 : Value).ownBlock ∧ some k_ ≠ (.slice Ao43 t675.length co43 : Value).ownBlock ∧ some k_ ≠ (.slice Ao57 y684.length co57 : Value).ownBlock ∧ some k_ ≠ (.slice Ao53 t690.length co53 : Value).ownBlock ∧ some k_ ≠ (.slice Ao63 y693.length co63 : Value).ownBlock ∧ some k_ ≠ (.slice Ao61 y702.length co61 : Value).ownBlock ∧ some k_ ≠ (.slice Ao67 y708.length co67 : Value).ownBlock ∧ some k_ ≠ (.slice Ao70 t718.length co70 : Value).ownBlock)) (upR HO683.out) hg hat); replace HO686 := Aside0.mk (Kd.R_after (ok := (fun k_ => some k_ ≠ (.slice Ao40 x3_3.length co40 : Value).ownBlock ∧ some k_ ≠ (.slice Ao43 t675.length co43 : Value).ownBlock ∧ some k_ ≠ (.slice Ao48 y681.length co48 : Value).ownBlock ∧ some k_ ≠ (.slice Ao53 t690.length co53 : Value).ownBlock ∧ some k_ ≠ (.slice Ao63 y693.length co63 : Value).ownBlock ∧ some k_ ≠ (.slice Ao61 y702.length co61 : Value).ownBlock ∧ some k_ ≠ (.slice Ao67 y708.length co67 : Value).ownBlock ∧ some k_ ≠ (.slice Ao70 t718.length co70 : Value).ownBlock)) (upR HO686.out) hg hat); replace HO692 := Aside0.mk (Kd.R_after (ok := (fun k_ => some k_ ≠ (.slice Ao40 x3_3.length co40 : Value).ownBlock ∧ some k_ ≠ (.slice Ao43 t675.length co43 : Value).ownBlock ∧ some k_ ≠ (.slice Ao48 y681.length co48 : Value).ownBlock ∧ some k_ ≠ (.slice Ao57 y684.length co57 : Value).ownBlock ∧ some k_ ≠ (.slice Ao63 y693.length co63 : Value).ownBlock ∧ some k_ ≠ (.slice Ao61 y702.length co61 : Value).ownBlock ∧ some k_ ≠ (.slice Ao67 y708.length co67 : Value).ownBlock ∧ some k_ ≠ (.slice Ao70 t718.length co70 : Value).ownBlock)) (upR HO692.out) hg hat); replace HO695 := Aside0.mk (Kd.R_after (ok := (fun k_ => some k_ ≠ (.slice Ao40 x3_3.length co40 : Value).ownBlock ∧ some k_ ≠ (.slice Ao43 t675.length co43 : Value).ownBlock ∧ some k_ ≠ (.slice Ao48 y681.length co48 : Value).ownBlock ∧ some k_ ≠ (.slice Ao57 y684.length co57 : Value).ownBlock ∧ some k_ ≠ (.slice Ao53 t690.length co53 : Value).ownBlock ∧ some k_ ≠ (.slice Ao61 y702.length co61 : Value).ownBlock ∧ some k_ ≠ (.slice Ao67 y708.length co67 : Value).ownBlock ∧ some k_ ≠ (.slice Ao70 t718.length co70 : Value).ownBlock)) (upR HO695.out) hg hat); replace HO704 := Aside0.mk (Kd.R_after (ok := (fun k_ => some k_ ≠ (.slice Ao40 x3_3.length co40 : Value).ownBlock ∧ some k_ ≠ (.slice Ao43 t675.length co43 : Value).ownBlock ∧ some k_ ≠ (.slice Ao48 y681.length co48 : Value).ownBlock ∧ some k_ ≠ (.slice Ao57 y684.length co57 : Value).ownBlock ∧ some k_ ≠ (.slice Ao53 t690.length co53 : Value).ownBlock ∧ some k_ ≠ (.slice Ao63 y693.length co63 : Value).ownBlock ∧ some k_ ≠ (.slice Ao67 y708.length co67 : Value).ownBlock ∧ some k_ ≠ (.slice Ao70 t718.length co70 : Value).ownBlock)) (upR HO704.out) hg hat); replace HO710 := Aside0.mk (Kd.R_after (ok := (fun k_ => some k_ ≠ (.slice Ao40 x3_3.length co40 : Value).ownBlock ∧ some k_ ≠ (.slice Ao43 t675.length co43 : Value).ownBlock ∧ some k_ ≠ (.slice Ao48 y681.length co48 : Value).ownBlock ∧ some k_ ≠ (.slice Ao57 y684.length co57 : Value).ownBlock ∧ some k_ ≠ (.slice Ao53 t690.length co53 : Value).ownBlock ∧ some k_ ≠ (.slice Ao63 y693.length co63 : Value).ownBlock ∧ some k_ ≠ (.slice Ao61 y702.length co61 : Value).ownBlock ∧ some k_ ≠ (.slice Ao70 t718.length co70 : Value).ownBlock)) (upR HO710.out) hg hat); replace HO720 := Aside0.mk (Kd.R_after (ok := (fun k_ => some k_ ≠ (.slice Ao40 x3_3.length co40 : Value).ownBlock ∧ some k_ ≠ (.slice Ao43 t675.length co43 : Value).ownBlock ∧ some k_ ≠ (.slice Ao48 y681.length co48 : Value).ownBlock ∧ some k_ ≠ (.slice Ao57 y684.length co57 : Value).ownBlock ∧ some k_ ≠ (.slice Ao53 t690.length co53 : Value).ownBlock ∧ some k_ ≠ (.slice Ao63 y693.length co63 : Value).ownBlock ∧ some k_ ≠ (.slice Ao61 y702.length co61 : Value).ownBlock ∧ some k_ ≠ (.slice Ao67 y708.length co67 : Value).ownBlock)) (upR HO720.out) hg hat); replace HB := Aside0.mk (hb); clear HO723; clear ho hb hg hat) | ((with_reducible refine gate_builtin (b := .append) (xs := #[.tmp 62, .tmp 63]) rfl ?_); at_builtin; refine Kd.R_append_rows (Kd.int .u8) (w0 := w) w.heap.size rfl (.tmp 62) (.tmp 63) 22 5 (.int .u8 0) 1 rfl Try.underlying22 info5 rfl (by decide) (by omega) v725 y724 x3_3 _ _ _ (fun k_ => some k_ ≠ (.slice Ao40 x3_3.length co40 : Value).ownBlock ∧ some k_ ≠ (.slice Ao43 t675.length co43 : Value).ownBlock ∧ some k_ ≠ (.slice Ao48 y681.length co48 : Value).ownBlock ∧ some k_ ≠ (.slice Ao57 y684.length co57 : Value).ownBlock ∧ some k_ ≠ (.slice Ao53 t690.length co53 : Value).ownBlock ∧ some k_ ≠ (.slice Ao63 y693.length co63 : Value).ownBlock ∧ some k_ ≠ (.slice Ao61 y702.length co61 : Value).ownBlock ∧ some k_ ≠ (.slice Ao67 y708.length co67 : Value).ownBlock ∧ some k_ ≠ (.slice Ao70 t718.length co70 : Value).ownBlock) (fun _ => False) rfl rfl ?aO ?aR (fun _ _ h => h) (fun _ h => h.elim) ?aF ?aB ?aS ?aL ?_; (case aR => exact upC (Kd.R_reads' HO_3.out).2.2); (case aB => exact pb); (case aF => exact (fun k_ hk => ⟨Kd.fresh' (Kd.R_lt (by (with_reducible repeat (first | apply Kd.R_alloc | apply Kd.R_drewN | apply Kd.R_drew)); exact HO_3.out)) k_ hk, Kd.fresh' (Kd.R_lt (upR HO677.out)) k_ hk, Kd.fresh' (Kd.R_lt (upR HO683.out)) k_ hk, Kd.fresh' (Kd.R_lt (upR HO686.out)) k_ hk, Kd.fresh' (Kd.R_lt (upR HO692.out)) k_ hk, Kd.fresh' (Kd.R_lt (upR HO695.out)) k_ hk, Kd.fresh' (Kd.R_lt (upR HO704.out)) k_ hk, Kd.fresh' (Kd.R_lt (upR HO710.out)) k_ hk, Kd.fresh' (Kd.R_lt (upR HO720.out)) k_ hk⟩)); (case aO => exact (upR HO726.out)); (case aS => exact (below_size pb)); (case aL => have := LMc37.out; omega); intro v728 w72 ho hb hg hat; rw [← Ny727.out] at ho; have HO729 := Aside0.mk (ho); replace HO_3 := Aside0.mk (Kd.R_after (ok := (fun k_ => some k_ ≠ (.slice Ao43 t675.length co43 : Value).ownBlock ∧ some k_ ≠ (.slice Ao48 y681.length co48 : Value).ownBlock ∧ some k_ ≠ (.slice Ao57 y684.length co57 : Value).ownBlock ∧ some k_ ≠ (.slice Ao53 t690.length co53 : Value).ownBlock ∧ some k_ ≠ (.slice Ao63 y693.length co63 : Value).ownBlock ∧ some k_ ≠ (.slice Ao61 y702.length co61 : Value).ownBlock ∧ some k_ ≠ (.slice Ao67 y708.length co67 : Value).ownBlock ∧ some k_ ≠ (.slice Ao70 t718.length co70 : Value).ownBlock)) (by (with_reducible repeat (first | apply Kd.R_alloc | apply Kd.R_drewN | apply Kd.R_drew)); exact HO_3.out) hg hat); replace BK652 := Aside0.mk (blk_grown (g := gb652) (o := .cells #[.int .i64 a0_0, .int .i64 a0_1, .int .i64 a0_2, .int .i64 a0_3, .int .i64 a0_4, .int .i64 a0_5, .slice A0_6 l0_6.length c0_6] 53 (0, 0)) (up BK652.out) hg (Kd.R_ne HO726.out BK652.out (by decide))); replace HO677 := Aside0.mk (Kd.R_after (ok := (fun k_ => some k_ ≠ (.slice Ao40 x3_3.length co40 : Value).ownBlock ∧ some k_ ≠ (.slice Ao48 y681.length co48 : Value).ownBlock ∧ some k_ ≠ (.slice Ao57 y684.length co57 : Value).ownBlock ∧ some k_ ≠ (.slice Ao53 t690.length co53 : Value).ownBlock ∧ some k_ ≠ (.slice Ao63 y693.length co63 : Value).ownBlock ∧ some k_ ≠ (.slice Ao61 y702.length co61 : Value).ownBlock ∧ some k_ ≠ (.slice Ao67 y708.length co67 : Value).ownBlock ∧ some k_ ≠ (.slice Ao70 t718.length co70 : Value).ownBlock)) (upR HO677.out) hg hat); replace HO683 := Aside0.mk (Kd.R_after (ok := (fun k_ => some k_ ≠ (.slice Ao40 x3_3.length co40 : Value).ownBlock ∧ some k_ ≠ (.slice Ao43 t675.length co43 : Value).ownBlock ∧ some k_ ≠ (.slice Ao57 y684.length co57 : Value).ownBlock ∧ some k_ ≠ (.slice Ao53 t690.length co53 : Value).ownBlock ∧ some k_ ≠ (.slice Ao63 y693.length co63 : Value).ownBlock ∧ some k_ ≠ (.slice Ao61 y702.length co61 : Value).ownBlock ∧ some k_ ≠ (.slice Ao67 y708.length co67 : Value).ownBlock ∧ some k_ ≠ (.slice Ao70 t718.length co70 : Value).ownBlock)) (upR HO683.out) hg hat); replace HO686 := Aside0.mk (Kd.R_after (ok := (fun k_ => some k_ ≠ (.slice Ao40 x3_3.length co40 : Value).ownBlock ∧ some k_ ≠ (.slice Ao43 t675.length co43 : Value).ownBlock ∧ some k_ ≠ (.slice Ao48 y681.length co48 : Value).ownBlock ∧ some k_ ≠ (.slice Ao53 t690.length co53 : Value).ownBlock ∧ some k_ ≠ (.slice Ao63 y693.length co63 : Value).ownBlock ∧ some k_ ≠ (.slice Ao61 y702.length co61 : Value).ownBlock ∧ some k_ ≠ (.slice Ao67 y708.length co67 : Value).ownBlock ∧ some k_ ≠ (.slice Ao70 t718.length co70 : Value).ownBlock)) (upR HO686.out) hg hat); replace HO692 := Aside0.mk (Kd.R_after (ok := (fun k_ => some k_ ≠ (.slice Ao40 x3_3.length co40 : Value).ownBlock ∧ some k_ ≠ (.slice Ao43 t675.length co43 : Value).ownBlock ∧ some k_ ≠ (.slice Ao48 y681.length co48 : Value).ownBlock ∧ some k_ ≠ (.slice Ao57 y684.length co57 : Value).ownBlock ∧ some k_ ≠ (.slice Ao63 y693.length co63 : Value).ownBlock ∧ some k_ ≠ (.slice Ao61 y702.length co61 : Value).ownBlock ∧ some k_ ≠ (.slice Ao67 y708.length co67 : Value).ownBlock ∧ some k_ ≠ (.slice Ao70 t718.length co70 : Value).ownBlock)) (upR HO692.out) hg hat); replace HO695 := Aside0.mk (Kd.R_after (ok := (fun k_ => some k_ ≠ (.slice Ao40 x3_3.length co40 : Value).ownBlock ∧ some k_ ≠ (.slice Ao43 t675.length co43 : Value).ownBlock ∧ some k_ ≠ (.slice Ao48 y681.length co48 : Value).ownBlock ∧ some k_ ≠ (.slice Ao57 y684.length co57 : Value).ownBlock ∧ some k_ ≠ (.slice Ao53 t690.length co53 : Value).ownBlock ∧ some k_ ≠ (.slice Ao61 y702.length co61 : Value).ownBlock ∧ some k_ ≠ (.slice Ao67 y708.length co67 : Value).ownBlock ∧ some k_ ≠ (.slice Ao70 t718.length co70 : Value).ownBlock)) (upR HO695.out) hg hat); replace HO704 := Aside0.mk (Kd.R_after (ok := (fun k_ => some k_ ≠ (.slice Ao40 x3_3.length co40 : Value).ownBlock ∧ some k_ ≠ (.slice Ao43 t675.length co43 : Value).ownBlock ∧ some k_ ≠ (.slice Ao48 y681.length co48 : Value).ownBlock ∧ some k_ ≠ (.slice Ao57 y684.length co57 : Value).ownBlock ∧ some k_ ≠ (.slice Ao53 t690.length co53 : Value).ownBlock ∧ some k_ ≠ (.slice Ao63 y693.length co63 : Value).ownBlock ∧ some k_ ≠ (.slice Ao67 y708.length co67 : Value).ownBlock ∧ some k_ ≠ (.slice Ao70 t718.length co70 : Value).ownBlock)) (upR HO704.out) hg hat); replace HO710 := Aside0.mk (Kd.R_after (ok := (fun k_ => some k_ ≠ (.slice Ao40 x3_3.length co40 : Value).ownBlock ∧ some k_ ≠ (.slice Ao43 t675.length co43 : Value).ownBlock ∧ some k_ ≠ (.slice Ao48 y681.length co48 : Value).ownBlock ∧ some k_ ≠ (.slice Ao57 y684.length co57 : Value).ownBlock ∧ some k_ ≠ (.slice Ao53 t690.length co53 : Value).ownBlock ∧ some k_ ≠ (.slice Ao63 y693.length co63 : Value).ownBlock ∧ some k_ ≠ (.slice Ao61 y702.length co61 : Value).ownBlock ∧ some k_ ≠ (.slice Ao70 t718.length co70 : Value).ownBlock)) (upR HO710.out) hg hat); replace HO720 := Aside0.mk (Kd.R_after (ok := (fun k_ => some k_ ≠ (.slice Ao40 x3_3.length co40 : Value).ownBlock ∧ some k_ ≠ (.slice Ao43 t675.length co43 : Value).ownBlock ∧ some k_ ≠ (.slice Ao48 y681.length co48 : Value).ownBlock ∧ some k_ ≠ (.slice Ao57 y684.length co57 : Value).ownBlock ∧ some k_ ≠ (.slice Ao53 t690.length co53 : Value).ownBlock ∧ some k_ ≠ (.slice Ao63 y693.length co63 : Value).ownBlock ∧ some k_ ≠ (.slice Ao61 y702.length co61 : Value).ownBlock ∧ some k_ ≠ (.slice Ao67 y708.length co67 : Value).ownBlock)) (upR HO720.out) hg hat); replace HB := Aside0.mk (hb); clear HO726; clear ho hb hg hat))
                         go_ret
                         exact ⟨_, by first | rfl | (simp [errW_none, errW_some] <;> rfl) | (simp [*, errW_none, errW_some] <;> rfl), by (with_reducible repeat (first | apply Kd.R_alloc | apply Kd.R_drewN | apply Kd.R_drew)); exact Kd.R_mono HO729.out (fun _ hk => trivial), by repeat (first | (with_reducible first | exact HB.out | apply below_alloc | apply pw_below_drewN | apply below_drew1 | refine below_set ?_ GE652.out) | exact HB.out)⟩
                       · rw [if_neg c37] at H
                         exact absurd H (by simp)
                     · rw [if_neg c36] at H
                       exact absurd H (by simp)
                   · rw [if_neg c35] at H
                     exact absurd H (by simp)
                 · rw [if_neg c32] at H
                   exact absurd H (by simp)
               · rw [if_neg c31] at H
                 exact absurd H (by simp)
             · rw [if_neg c30] at H
               exact absurd H (by simp)
           · rw [if_neg c29] at H
             exact absurd H (by simp)
         · rw [if_neg c28] at H
           exact absurd H (by simp)
       · rw [if_neg c25] at H
         exact absurd H (by simp)
     · rw [if_neg c24] at H
       exact absurd H (by simp)
 · rw [if_neg c2] at H
   exact absurd H (by simp)

/-! ### spec_BuildPacket: function 79 -/
def spec_BuildPacket.f (k : Nat) (a0_0 : Int) (a0_1 : Int) (a0_2 : Int) (a0_3 : Int) (a0_4 : Int) (a0_5 : Int) (l0_6 : List Int) : Option (Int × List Int) := (spec_PacketFault.f k a0_0 a0_1 a0_2 a0_3 a0_4 a0_5 l0_6).bind fun t732 => (if t732 = 0 then ((spec_l2Build.f k a0_0 a0_1 a0_2 a0_3 a0_4 a0_5 l0_6).bind fun t733 => (some (0, t733))) else (some (t732, ([] : List Int))))
theorem spec_BuildPacket.mono : ∀ a0 a1 a2 a3 a4 a5 a6 k, LeO (spec_BuildPacket.f k a0 a1 a2 a3 a4 a5 a6) (spec_BuildPacket.f (k + 1) a0 a1 a2 a3 a4 a5 a6) := by
 intro a0 a1 a2 a3 a4 a5 a6 k
 unfold spec_BuildPacket.f
 repeat' first
  | (with_reducible exact spec_PacketFault.mono _ _ _ _ _ _ _ _)
  | (with_reducible exact spec_l2Build.mono _ _ _ _ _ _ _ _)
  | (with_reducible exact LeO.refl _)
  | (with_reducible exact LeO.none _)
  | (with_reducible refine LeO.ite ?_ ?_)
  | (with_reducible refine LeO.bind ?_ (fun _ => ?_))
  | exact spec_PacketFault.mono _ _ _ _ _ _ _ _
  | exact spec_l2Build.mono _ _ _ _ _ _ _ _
  | exact LeO.none _
  | refine LeO.ite ?_ ?_
  | refine LeO.bind ?_ (fun _ => ?_)
set_option maxHeartbeats 8000000 in
set_option maxRecDepth 100000 in
theorem spec_BuildPacket.calls (k : Nat) (a0_0 : Int) (a0_1 : Int) (a0_2 : Int) (a0_3 : Int) (a0_4 : Int) (a0_5 : Int) (A0_6 : Option Addr) (c0_6 : Nat) (l0_6 : List Int) (r1 : Int) (r2 : List Int) (w : World) (hr0_6 : Kd.C (Kd.int .u8) w A0_6 l0_6.length l0_6) (hc0_6 : l0_6.length ≤ c0_6) (h : spec_BuildPacket.f k a0_0 a0_1 a0_2 a0_3 a0_4 a0_5 l0_6 = some (r1, r2)) :
 Calls Try.prog 79 #[.agg #[.int .i64 a0_0, .int .i64 a0_1, .int .i64 a0_2, .int .i64 a0_3, .int .i64 a0_4, .int .i64 a0_5, .slice A0_6 l0_6.length c0_6]] w fun e w' => ∃ v1_ : Value, e = .returned (.agg #[.int .i64 r1, v1_]) ∧ Kd.R (Kd.int .u8) 5 w' w.heap.size (fun _ => True) v1_ r2 ∧ Below w.heap.size w w' := by
 have hu53 := Try.underlying53
 have hu27 := Try.underlying27
 have HR0_6 := Aside0.mk hr0_6
 have HC0_6 := Aside0.mk hc0_6
 clear hr0_6 hc0_6
 have HB := Aside0.mk (Below.refl w.heap.size w)
 have H : ((spec_PacketFault.f k a0_0 a0_1 a0_2 a0_3 a0_4 a0_5 l0_6).bind fun t732 => (if t732 = 0 then ((spec_l2Build.f k a0_0 a0_1 a0_2 a0_3 a0_4 a0_5 l0_6).bind fun t733 => (some (0, t733))) else (some (t732, ([] : List Int))))) = some (r1, r2) := h
 clear h
 replace H := Option.bind_eq_some_iff.mp H
 obtain ⟨t732, A20, H⟩ := H
 replace H : (if t732 = 0 then ((spec_l2Build.f k a0_0 a0_1 a0_2 a0_3 a0_4 a0_5 l0_6).bind fun t733 => (some (0, t733))) else (some (t732, ([] : List Int)))) = some (r1, r2) := H
 have A2 := Aside0.mk A20
 clear A20
 by_cases c3 : t732 = 0
 · rw [if_pos c3] at H
   have c3b0 : (t732 == 0) = true := beq_iff_eq.mpr c3
   have c3b1 : (t732 != 0) = false := bne_eq_false_iff_eq.mpr c3
   clear c3
   replace H := Option.bind_eq_some_iff.mp H
   obtain ⟨t733, A40, H⟩ := H
   replace H : (some (0, t733)) = some (r1, r2) := H
   have A4 := Aside0.mk A40
   clear A40
   simp only [Option.some.injEq, Prod.mk.injEq] at H
   obtain ⟨rfl, rfl⟩ := H
   go_enter Try.func79, Try.ntmps79
   go_wp2_with (first | ((with_reducible refine gate_dst (N := 1) rfl ?_); refine box_event ?hg (N := 1) ?hd (cs := #[.int .i64 a0_0, .int .i64 a0_1, .int .i64 a0_2, .int .i64 a0_3, .int .i64 a0_4, .int .i64 a0_5, .slice A0_6 l0_6.length c0_6]) (t := 53) ?hr ?_; (case hd => rfl); (case hg => rfl); (case hr => first | (go_simp; done) | (go_simp; rfl)); intro gb730 hg w5 hbox hb; have BK730 := Aside0.mk (hbox); have GW730 := Aside0.mk ((by rw [hg]; exact below_size pb : w.heap.size ≤ gb730)); have GE730 := GW730; replace HB := Aside0.mk (below_step pb hb); clear hb hbox hg) | ((with_reducible refine gate_dst (N := 2) rfl ?_); refine box_event ?hg (N := 2) ?hd (cs := #[.int .i64 0, .slice none 0 0]) (t := 27) ?hr ?_; (case hd => rfl); (case hg => rfl); (case hr => first | (go_simp; done) | (go_simp; rfl)); intro gb731 hg w6 hbox hb; have BK731 := Aside0.mk (hbox); have GW731 := Aside0.mk ((by rw [hg]; exact below_size pb : w.heap.size ≤ gb731)); have GE731 := GW731; have NB730_731 := Aside0.mk ((by rw [hg]; exact Nat.ne_of_lt (blk_lt (up BK730.out)) : gb730 ≠ gb731)); have NB731_730 := Aside0.mk (Ne.symm NB730_731.out); replace BK730 := Aside0.mk (blk_below (up BK730.out) hb); replace HB := Aside0.mk (below_step pb hb); clear hb hbox hg; have hnb7 := NB730_731.out; have hnc7 := NB731_730.out; have hcz8_0 : w6.cell? ⟨gb730, 0, none⟩ = some (.int .i64 a0_0) := (blk_cell BK730.out 0).trans rfl; have hcz8_1 : w6.cell? ⟨gb730, 1, none⟩ = some (.int .i64 a0_1) := (blk_cell BK730.out 1).trans rfl; have hcz8_2 : w6.cell? ⟨gb730, 2, none⟩ = some (.int .i64 a0_2) := (blk_cell BK730.out 2).trans rfl; have hcz8_3 : w6.cell? ⟨gb730, 3, none⟩ = some (.int .i64 a0_3) := (blk_cell BK730.out 3).trans rfl; have hcz8_4 : w6.cell? ⟨gb730, 4, none⟩ = some (.int .i64 a0_4) := (blk_cell BK730.out 4).trans rfl; have hcz8_5 : w6.cell? ⟨gb730, 5, none⟩ = some (.int .i64 a0_5) := (blk_cell BK730.out 5).trans rfl; have hcz8_6 : w6.cell? ⟨gb730, 6, none⟩ = some (.slice A0_6 l0_6.length c0_6) := (blk_cell BK730.out 6).trans rfl; have hfz8_0 := blk_frozen BK730.out 0; have hfz8_1 := blk_frozen BK730.out 1; have hfz8_2 := blk_frozen BK730.out 2; have hfz8_3 := blk_frozen BK730.out 3; have hfz8_4 := blk_frozen BK730.out 4; have hfz8_5 := blk_frozen BK730.out 5; have hfz8_6 := blk_frozen BK730.out 6) | ((with_reducible refine gate_callee (f := 109) rfl ?_); refine goesL_ (some 5) rfl rfl Try.func109 (by kernel_rfl) rfl #[.agg #[.int .i64 a0_0, .int .i64 a0_1, .int .i64 a0_2, .int .i64 a0_3, .int .i64 a0_4, .int .i64 a0_5, .slice A0_6 l0_6.length c0_6]] rfl (by (try simp only [List.map_toArray, List.map_cons, List.map_nil]); first | done | rfl | (simp only [List.length_drop, List.length_take]; rfl)) ?_; (with_reducible refine (spec_PacketFault.calls k a0_0 a0_1 a0_2 a0_3 a0_4 a0_5 _ _ l0_6 t732 _ ?side1 ?side2 A2.out).mono ?_); (case side1 => exact upC (Kd.C_below HR0_6.out HB.out)); (case side2 => exact HC0_6.out); rintro e w9 ⟨rfl, hb⟩; refine ⟨_, rfl, ?_⟩; replace BK730 := Aside0.mk (blk_below (up BK730.out) hb); replace BK731 := Aside0.mk (blk_below (up BK731.out) hb); replace HB := Aside0.mk (below_step pb hb); (try clear hb); (try clear hb2); (try clear hk); (try clear hi); have hcz10_0 : w9.cell? ⟨gb730, 0, none⟩ = some (.int .i64 a0_0) := (blk_cell BK730.out 0).trans rfl; have hcz10_1 : w9.cell? ⟨gb730, 1, none⟩ = some (.int .i64 a0_1) := (blk_cell BK730.out 1).trans rfl; have hcz10_2 : w9.cell? ⟨gb730, 2, none⟩ = some (.int .i64 a0_2) := (blk_cell BK730.out 2).trans rfl; have hcz10_3 : w9.cell? ⟨gb730, 3, none⟩ = some (.int .i64 a0_3) := (blk_cell BK730.out 3).trans rfl; have hcz10_4 : w9.cell? ⟨gb730, 4, none⟩ = some (.int .i64 a0_4) := (blk_cell BK730.out 4).trans rfl; have hcz10_5 : w9.cell? ⟨gb730, 5, none⟩ = some (.int .i64 a0_5) := (blk_cell BK730.out 5).trans rfl; have hcz10_6 : w9.cell? ⟨gb730, 6, none⟩ = some (.slice A0_6 l0_6.length c0_6) := (blk_cell BK730.out 6).trans rfl; have hfz10_0 := blk_frozen BK730.out 0; have hfz10_1 := blk_frozen BK730.out 1; have hfz10_2 := blk_frozen BK730.out 2; have hfz10_3 := blk_frozen BK730.out 3; have hfz10_4 := blk_frozen BK730.out 4; have hfz10_5 := blk_frozen BK730.out 5; have hfz10_6 := blk_frozen BK730.out 6) | ((with_reducible refine gate_callee (f := 110) rfl ?_); refine goesL_ (some 11) rfl rfl Try.func110 (by kernel_rfl) rfl #[.agg #[.int .i64 a0_0, .int .i64 a0_1, .int .i64 a0_2, .int .i64 a0_3, .int .i64 a0_4, .int .i64 a0_5, .slice A0_6 l0_6.length c0_6]] rfl (by (try simp only [List.map_toArray, List.map_cons, List.map_nil]); first | done | rfl | (simp only [List.length_drop, List.length_take]; rfl)) ?_; (with_reducible refine (spec_l2Build.calls k a0_0 a0_1 a0_2 a0_3 a0_4 a0_5 _ _ l0_6 t733 _ ?side1 ?side2 A4.out).mono ?_); (case side1 => exact upC (Kd.C_below HR0_6.out HB.out)); (case side2 => exact HC0_6.out); rintro e w11 ⟨v734, rfl, ho0, hb⟩; refine ⟨_, rfl, ?_⟩; have HO735 := Aside0.mk (Kd.R_lower ho0 (below_size pb)); replace BK730 := Aside0.mk (blk_below (up BK730.out) hb); replace BK731 := Aside0.mk (blk_below (up BK731.out) hb); replace HB := Aside0.mk (below_step pb hb); (try clear hb); (try clear hb2); (try clear hk); (try clear hi); (try clear ho0); obtain ⟨Ao12, co12, eo12⟩ := Kd.R_slice HO735.out; subst eo12; have hcz13_0 : w11.cell? ⟨gb731, 0, none⟩ = some (.int .i64 0) := (blk_cell BK731.out 0).trans rfl; have hcz13_1 : w11.cell? ⟨gb731, 1, none⟩ = some (.slice none 0 0) := (blk_cell BK731.out 1).trans rfl; have hfz13_0 := blk_frozen BK731.out 0; have hfz13_1 := blk_frozen BK731.out 1))
   refine bodyPost_ret (results_cell_row rfl _ _ gb731 27 #[.int .i64 0, .slice Ao12 t733.length co12] (0, 0) _ rfl (by refine up ?_; refine blk_put (cs := #[.int .i64 0, .slice none 0 0]) ?_ 1 _ rfl; refine up ?_; refine blk_put (cs := #[.int .i64 0, .slice none 0 0]) ?_ 0 _ rfl; exact up BK731.out) Try.underlying27 rfl (by kernel_rfl)) rfl ?_
   exact ⟨_, by first | rfl | (simp [errW_none, errW_some] <;> rfl) | (simp [*, errW_none, errW_some] <;> rfl), by (with_reducible repeat (first | apply Kd.R_alloc | apply Kd.R_drewN | apply Kd.R_drew)); exact Kd.R_mono (Kd.R_far (p := ⟨gb731, 1, none⟩) (Kd.R_far (p := ⟨gb731, 0, none⟩) (Kd.R_types HO735.out BK731.out (by decide)) (fun _ hk => hk.2) (.int .i64 0)) (fun _ hk => hk.2) (.slice Ao12 t733.length co12)) (fun _ hk => trivial), by repeat (first | (with_reducible first | exact HB.out | apply below_alloc | apply pw_below_drewN | apply below_drew1 | refine below_set ?_ GE730.out | refine below_set ?_ GE731.out) | exact HB.out)⟩
 · rw [if_neg c3] at H
   have c3b0 : (t732 == 0) = false := beq_eq_false_iff_ne.mpr c3
   have c3b1 : (t732 != 0) = true := bne_iff_ne.mpr c3
   simp only [Option.some.injEq, Prod.mk.injEq] at H
   obtain ⟨rfl, rfl⟩ := H
   go_enter Try.func79, Try.ntmps79
   go_wp2_with (first | ((with_reducible refine gate_dst (N := 1) rfl ?_); refine box_event ?hg (N := 1) ?hd (cs := #[.int .i64 a0_0, .int .i64 a0_1, .int .i64 a0_2, .int .i64 a0_3, .int .i64 a0_4, .int .i64 a0_5, .slice A0_6 l0_6.length c0_6]) (t := 53) ?hr ?_; (case hd => rfl); (case hg => rfl); (case hr => first | (go_simp; done) | (go_simp; rfl)); intro gb730 hg w14 hbox hb; have BK730 := Aside0.mk (hbox); have GW730 := Aside0.mk ((by rw [hg]; exact below_size pb : w.heap.size ≤ gb730)); have GE730 := GW730; replace HB := Aside0.mk (below_step pb hb); clear hb hbox hg) | ((with_reducible refine gate_dst (N := 2) rfl ?_); refine box_event ?hg (N := 2) ?hd (cs := #[.int .i64 0, .slice none 0 0]) (t := 27) ?hr ?_; (case hd => rfl); (case hg => rfl); (case hr => first | (go_simp; done) | (go_simp; rfl)); intro gb731 hg w15 hbox hb; have BK731 := Aside0.mk (hbox); have GW731 := Aside0.mk ((by rw [hg]; exact below_size pb : w.heap.size ≤ gb731)); have GE731 := GW731; have NB730_731 := Aside0.mk ((by rw [hg]; exact Nat.ne_of_lt (blk_lt (up BK730.out)) : gb730 ≠ gb731)); have NB731_730 := Aside0.mk (Ne.symm NB730_731.out); replace BK730 := Aside0.mk (blk_below (up BK730.out) hb); replace HB := Aside0.mk (below_step pb hb); clear hb hbox hg; have hnb16 := NB730_731.out; have hnc16 := NB731_730.out; have hcz17_0 : w15.cell? ⟨gb730, 0, none⟩ = some (.int .i64 a0_0) := (blk_cell BK730.out 0).trans rfl; have hcz17_1 : w15.cell? ⟨gb730, 1, none⟩ = some (.int .i64 a0_1) := (blk_cell BK730.out 1).trans rfl; have hcz17_2 : w15.cell? ⟨gb730, 2, none⟩ = some (.int .i64 a0_2) := (blk_cell BK730.out 2).trans rfl; have hcz17_3 : w15.cell? ⟨gb730, 3, none⟩ = some (.int .i64 a0_3) := (blk_cell BK730.out 3).trans rfl; have hcz17_4 : w15.cell? ⟨gb730, 4, none⟩ = some (.int .i64 a0_4) := (blk_cell BK730.out 4).trans rfl; have hcz17_5 : w15.cell? ⟨gb730, 5, none⟩ = some (.int .i64 a0_5) := (blk_cell BK730.out 5).trans rfl; have hcz17_6 : w15.cell? ⟨gb730, 6, none⟩ = some (.slice A0_6 l0_6.length c0_6) := (blk_cell BK730.out 6).trans rfl; have hfz17_0 := blk_frozen BK730.out 0; have hfz17_1 := blk_frozen BK730.out 1; have hfz17_2 := blk_frozen BK730.out 2; have hfz17_3 := blk_frozen BK730.out 3; have hfz17_4 := blk_frozen BK730.out 4; have hfz17_5 := blk_frozen BK730.out 5; have hfz17_6 := blk_frozen BK730.out 6) | ((with_reducible refine gate_callee (f := 109) rfl ?_); refine goesL_ (some 5) rfl rfl Try.func109 (by kernel_rfl) rfl #[.agg #[.int .i64 a0_0, .int .i64 a0_1, .int .i64 a0_2, .int .i64 a0_3, .int .i64 a0_4, .int .i64 a0_5, .slice A0_6 l0_6.length c0_6]] rfl (by (try simp only [List.map_toArray, List.map_cons, List.map_nil]); first | done | rfl | (simp only [List.length_drop, List.length_take]; rfl)) ?_; (with_reducible refine (spec_PacketFault.calls k a0_0 a0_1 a0_2 a0_3 a0_4 a0_5 _ _ l0_6 t732 _ ?side1 ?side2 A2.out).mono ?_); (case side1 => exact upC (Kd.C_below HR0_6.out HB.out)); (case side2 => exact HC0_6.out); rintro e w18 ⟨rfl, hb⟩; refine ⟨_, rfl, ?_⟩; replace BK730 := Aside0.mk (blk_below (up BK730.out) hb); replace BK731 := Aside0.mk (blk_below (up BK731.out) hb); replace HB := Aside0.mk (below_step pb hb); (try clear hb); (try clear hb2); (try clear hk); (try clear hi); have hcz19_0 : w18.cell? ⟨gb731, 0, none⟩ = some (.int .i64 0) := (blk_cell BK731.out 0).trans rfl; have hcz19_1 : w18.cell? ⟨gb731, 1, none⟩ = some (.slice none 0 0) := (blk_cell BK731.out 1).trans rfl; have hfz19_0 := blk_frozen BK731.out 0; have hfz19_1 := blk_frozen BK731.out 1))
   refine bodyPost_ret (results_cell_row rfl _ _ gb731 27 #[.int .i64 t732, .slice none 0 0] (0, 0) _ rfl (by refine up ?_; refine blk_put (cs := #[.int .i64 t732, .slice none 0 0]) ?_ 1 _ rfl; refine up ?_; refine blk_put (cs := #[.int .i64 0, .slice none 0 0]) ?_ 0 _ rfl; exact up BK731.out) Try.underlying27 rfl (by kernel_rfl)) rfl ?_
   exact ⟨_, by first | rfl | (simp [errW_none, errW_some] <;> rfl) | (simp [*, errW_none, errW_some] <;> rfl), by first | exact Kd.R_nil _ _ _ _ _ | exact Kd.N_nil _ _ _ _ _ | exact Kd.V_nil _ _ _ _ _ | exact Kd.Q_nil _ _ _ _ _ | exact Kd.S_nil _ _ _ _ _, by repeat (first | (with_reducible first | exact HB.out | apply below_alloc | apply pw_below_drewN | apply below_drew1 | refine below_set ?_ GE730.out | refine below_set ?_ GE731.out) | exact HB.out)⟩


end Go.Proofs.Ytojimlmflfiijaa.PA
