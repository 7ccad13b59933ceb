/- The row of FnExactTunnelPacket, out of its plain law (Pure) and its walk: the arguments are opened here, a packet's fields too. No condition beyond those of the statement. -/
import Derived.Test.YtojimlmflfiijaaRows
import Derived.Test.YtojimlmflfiijaaGTP
import Derived.Test.YtojimlmflfiijaaPureFnExactTunnelPacket
import Derived.WalkKit
import Derived.ProofKit
import Derived.OpenShut
import Derived.ShutString
import Derived.ChangeOld
import Derived.Below
import Derived.SizedLaws
import Derived.Lib.SmallJoins
import Derived.Test.YtojimlmflfiijaaVTPSized
namespace Go.Proofs.Ytojimlmflfiijaa.fnExactTunnelPacket
open Go.ChangeShapes Go.WideShapes Go.ChangeAt Go.RowKit Go.Deep Go.Proofs.YtojimlmflfiijaaW.PrintWords
open Go.ChangeMaps (open_string shut_string)
set_option linter.unusedVariables false
theorem own : ownKnob Try.prog.godebug = none := by kernel_rfl
theorem laidOut : laidOutB Try.prog = true := by kernel_rfl
def IsRow (k : IntKind) (w : World) (a : Option Addr) (len cap : Nat) (zs : List Int) : Prop :=
  (a = none ∧ len = 0 ∧ cap = 0 ∧ zs = []) ∨
  ∃ x, a = some x ∧ len ≤ cap ∧ cap ≤ maxLen ∧ zs.length = cap ∧ (∀ i, i < zs.length → w.cell? (x.add i) = some (.int k (zs.getD i 0))) ∧ ∀ n ∈ zs, (Lit.int k n).wf = true
section
variable {H : Type} {enc : TypeId × Value → H} {P : Program} {w : World} {base : Nat} {held : Bool} {spare : Nat → Bool}
theorem array7 {α : Type} {cs : Array α} (h : cs.size = 7) : ∃ c0 c1 c2 c3 c4 c5 c6, cs = #[c0, c1, c2, c3, c4, c5, c6] := by
  obtain ⟨l⟩ := cs
  match l, h with
  | [c0, c1, c2, c3, c4, c5, c6], _ => exact ⟨c0, c1, c2, c3, c4, c5, c6, rfl⟩
/-- A struct of six whole numbers and a slice of bytes, by value, opened. -/
theorem open_six {r : Reach} {b0 : Nat} {t : TypeId} {f0 f1 f2 f3 f4 f5 f6 : Field} {v : Value} {d : DataW H} {p : List MemPlace} (hs : P.underlying t = some (.struct #[f0, f1, f2, f3, f4, f5, f6])) (hone : oneCellFields P #[f0, f1, f2, f3, f4, f5, f6] = true) (hC : P.cellsOf t = 7)
    (hv : Value.okWide P w r b0 t v) (h : DataW.Trod enc P w base spare held t v d p)
    (u0 : P.underlying f0.type = some (.int .i64)) (u1 : P.underlying f1.type = some (.int .i64)) (u2 : P.underlying f2.type = some (.int .i64)) (u3 : P.underlying f3.type = some (.int .i64)) (u4 : P.underlying f4.type = some (.int .i64)) (u5 : P.underlying f5.type = some (.int .i64))
    {e : TypeId} (u6 : P.underlying f6.type = some (.slice e)) (ue : P.underlying e = some (.int .u8)) (hc : P.cellsOf e = 1) (hsp : ∀ k, spare k = true) :
    ∃ (a0 a1 a2 a3 a4 a5 : Int) (A : Option Addr) (len cap : Nat) (zs : List Int), v = .agg #[.int .i64 a0, .int .i64 a1, .int .i64 a2, .int .i64 a3, .int .i64 a4, .int .i64 a5, .slice A len cap] ∧
      (Lit.int .i64 a0).wf = true ∧ (Lit.int .i64 a1).wf = true ∧ (Lit.int .i64 a2).wf = true ∧ (Lit.int .i64 a3).wf = true ∧ (Lit.int .i64 a4).wf = true ∧ (Lit.int .i64 a5).wf = true ∧ IsRow .u8 w A len cap zs := by
  obtain ⟨cs, rfl, hsz⟩ := okWide_struct hs hv
  obtain ⟨c0, c1, c2, c3, c4, c5, c6, rfl⟩ := array7 (hsz.trans hC)
  obtain ⟨fuel, hf⟩ := h
  obtain ⟨xs, n, _, _, _, hlen, hg⟩ := DataW.trod_struct hs hf
  have each : ∀ (i : Nat) (f : Field) (c : Value), (#[f0, f1, f2, f3, f4, f5, f6] : Array Field)[i]? = some f → [c0, c1, c2, c3, c4, c5, c6][i]? = some c → ∃ y, DataW.trod enc P w base spare held n f.type [c] = some y := by
    intro i f c hi hci
    have hil : i < xs.length := by
      have := (Array.getElem?_eq_some_iff.1 hi).1
      simp at this hlen
      omega
    have q := hg i f hi
    obtain ⟨o, k⟩ := hone_of hone i f hi
    rw [o, k] at q
    have e1 : ((Value.agg #[c0, c1, c2, c3, c4, c5, c6]).cells.toList.drop i).take 1 = [c] := by
      have hlt := (List.getElem?_eq_some_iff.1 hci)
      obtain ⟨hlt, hce⟩ := hlt
      show (List.drop i [c0, c1, c2, c3, c4, c5, c6]).take 1 = [c]
      rw [List.drop_eq_getElem_cons hlt, hce]
      rfl
    rw [e1] at q
    exact ⟨_, q.trans (List.getElem?_eq_getElem hil)⟩
  obtain ⟨y0, h0⟩ := each 0 f0 c0 rfl rfl
  obtain ⟨y1, h1⟩ := each 1 f1 c1 rfl rfl
  obtain ⟨y2, h2⟩ := each 2 f2 c2 rfl rfl
  obtain ⟨y3, h3⟩ := each 3 f3 c3 rfl rfl
  obtain ⟨y4, h4⟩ := each 4 f4 c4 rfl rfl
  obtain ⟨y5, h5⟩ := each 5 f5 c5 rfl rfl
  obtain ⟨y6, h6⟩ := each 6 f6 c6 rfl rfl
  obtain ⟨n0, e0, _, w0⟩ := DataW.trod_int u0 h0
  obtain ⟨n1, e1, _, w1⟩ := DataW.trod_int u1 h1
  obtain ⟨n2, e2, _, w2⟩ := DataW.trod_int u2 h2
  obtain ⟨n3, e3, _, w3⟩ := DataW.trod_int u3 h3
  obtain ⟨n4, e4, _, w4⟩ := DataW.trod_int u4 h4
  obtain ⟨n5, e5, _, w5⟩ := DataW.trod_int u5 h5
  injection e0 with e0; injection e1 with e1; injection e2 with e2; injection e3 with e3; injection e4 with e4; injection e5 with e5
  subst e0; subst e1; subst e2; subst e3; subst e4; subst e5
  rcases open_ints u6 ue hc h6 with ⟨hcs, _⟩ | ⟨x, l, c, zs, hcs, _, hlc, hm, hz, _, hcell, hwz⟩
  · injection hcs with hcs
    subst hcs
    exact ⟨n0, n1, n2, n3, n4, n5, none, 0, 0, [], rfl, w0, w1, w2, w3, w4, w5, .inl ⟨rfl, rfl, rfl, rfl⟩⟩
  · injection hcs with hcs
    subst hcs
    exact ⟨n0, n1, n2, n3, n4, n5, some x, l, c, zs, rfl, w0, w1, w2, w3, w4, w5, .inr ⟨_, rfl, hlc, hm, by rw [hz, if_pos (hsp _)], hcell, hwz⟩⟩
end
set_option maxRecDepth 100000 in
theorem lifted (os : Os) (started : os.Started) (H : Type) (enc : TypeId × Value → H) :
    ReturnsInHanded {} Try.checked os 7 .any (Rows.fnExactTunnelPacketSpec.pre6 enc Try.prog Try.f7 Rows.fnExactTunnelPacketRow.domain false) (Rows.fnExactTunnelPacketSpec.post enc Try.prog Try.f7 false true false false) := by
  refine returnsInHanded_of_change_sized (C := Try.checked) own started (by kernel_rfl) Try.func7
    (ChangeSpec.witness6 (enc := enc) (C := Try.checked) false ⟨#[], #[.int .i64 0, .int .i64 0, .int .i64 0, .int .i64 0, .int .i64 0, .agg #[.int .i64 0, .int .i64 0, .int .i64 0, .int .i64 0, .int .i64 0, .int .i64 0, .slice none 0 0]], []⟩ 8 (by kernel_rfl) (by kernel_rfl) (by kernel_rfl) (by kernel_rfl)) ?_
  intro W base args ds gs before hval0 hW hcnd hsz0 _
  have hval : ∀ (j : Nat) t v, Try.f7.params[j]? = some t → args[j]? = some v → Value.okWide Try.prog W .any base t v := hval0
  have hW' := hW
  obtain ⟨p, q, hA0, hV, rfl, hfz, hnd⟩ := hW
  have hA : DataW.TrodAll enc Try.prog W 0 (fun _ => true) true Try.f7.params.toList args.toList ds p := hA0
  rw [Try.params7] at hA hval
  obtain ⟨v0, vs0, d0, ds0, p0, q0, hargs, rfl, rfl, h0, r0⟩ := trodAll_cons hA
  obtain ⟨v1, vs1, d1, ds1, p1, q1, rfl, rfl, rfl, h1, r1⟩ := trodAll_cons r0
  obtain ⟨v2, vs2, d2, ds2, p2, q2, rfl, rfl, rfl, h2, r2⟩ := trodAll_cons r1
  obtain ⟨v3, vs3, d3, ds3, p3, q3, rfl, rfl, rfl, h3, r3⟩ := trodAll_cons r2
  obtain ⟨v4, vs4, d4, ds4, p4, q4, rfl, rfl, rfl, h4, r4⟩ := trodAll_cons r3
  obtain ⟨v5, vs5, d5, ds5, p5, q5, rfl, rfl, rfl, h5, r5⟩ := trodAll_cons r4
  obtain ⟨rfl, rfl, rfl⟩ := trodAll_nil r5
  obtain rfl : args = #[v0, v1, v2, v3, v4, v5] := by cases args; simp_all
  obtain ⟨rfl, rfl⟩ := trodVars_none hV
  have k5 := h5
  have lt5 : ∀ x ∈ p5, x.block < W.heap.size := by obtain ⟨m, hm⟩ := k5; exact DataW.trod_lt m _ _ _ hm
  obtain ⟨a0, rfl, rfl, rfl, w0⟩ := open_int Try.underlying2 (hval 0 2 v0 rfl rfl) h0
  obtain ⟨a1, rfl, rfl, rfl, w1⟩ := open_int Try.underlying2 (hval 1 2 v1 rfl rfl) h1
  obtain ⟨a2, rfl, rfl, rfl, w2⟩ := open_int Try.underlying2 (hval 2 2 v2 rfl rfl) h2
  obtain ⟨a3, rfl, rfl, rfl, w3⟩ := open_int Try.underlying2 (hval 3 2 v3 rfl rfl) h3
  obtain ⟨a4, rfl, rfl, rfl, w4⟩ := open_int Try.underlying2 (hval 4 2 v4 rfl rfl) h4
  obtain ⟨b0, b1, b2, b3, b4, b5, A, len, cap, zs, rfl, _, _, _, _, _, _, z⟩ := open_six Try.underlying50 (by kernel_rfl) (by kernel_rfl) (hval 5 50 v5 rfl rfl) h5 Try.underlying2 Try.underlying2 Try.underlying2 Try.underlying2 Try.underlying2 Try.underlying2 Try.underlying22 Try.underlying5 (by kernel_rfl) (fun _ => rfl)
  clear hA0 hval0 hsz0
  obtain ⟨l, rfl, hr, hm, hw, hc⟩ := ReadsInt.ofRowC z
  obtain ⟨k, h⟩ := Pure.FnExactTunnelPacket a0 a1 a2 a3 a4 b0 b1 b2 b3 b4 b5 l hm hw
  refine (PA.laws_FnExactTunnelPacket.calls k a0 a1 a2 a3 a4 b0 b1 b2 b3 b4 b5 _ _ l true W (Kd.C_of_reads (d := (0 : Int)) (h1 := fun _ => rfl) hr) hc h).mono fun e W' ⟨he, bel⟩ => ?_
  subst he
  exact ⟨_, rfl, _, _, _, [], _, [], hW', trodAll_mk1 (shut_bool Try.underlying4 _), (trodAll_cons_mk (shut_int Try.underlying2 w0) (trodAll_cons_mk (shut_int Try.underlying2 w1) (trodAll_cons_mk (shut_int Try.underlying2 w2) (trodAll_cons_mk (shut_int Try.underlying2 w3) (trodAll_cons_mk (shut_int Try.underlying2 w4) (trodAll_cons_mk (Below.trod laidOut (by kernel_rfl) (of_decide_eq_true (by kernel_rfl)) k5 bel lt5) trodAll_mk0)))))), rfl, bel.frame _, fun h => by cases h⟩
theorem over : Rows.fnExactTunnelPacketRow.holds Try.pinned (OpenSpec.ofChange Rows.fnExactTunnelPacketSpec) :=
  OpenClaim.holds_of_wide 7 Try.f7 rfl rfl rfl rfl rfl rfl rfl ⟨rfl, rfl, rfl, rfl, rfl⟩ rfl rfl rfl rfl rfl (by kernel_rfl) Try.func7 (by kernel_rfl)
    (of_decide_eq_true (by kernel_rfl)) (by unfold Func.isWrapper; first | (rw [if_pos (by decide +kernel)]; kernel_rfl) | (rw [if_neg (by decide +kernel)]; exact ⟨rfl, rfl⟩))
    (fun os started H enc _ => lifted os started H enc)
theorem proved : Rows.FnExactTunnelPacketSaid := over
#print axioms proved
end Go.Proofs.Ytojimlmflfiijaa.fnExactTunnelPacket
namespace Go.Proofs.Ytojimlmflfiijaa
/-- The row, under a short name, for the claim. -/
theorem fnExactTunnelPacket_holds : Rows.FnExactTunnelPacketSaid := fnExactTunnelPacket.proved
end Go.Proofs.Ytojimlmflfiijaa
