/- For all arguments TunnelPacket answers as the reference, leaves its argument alone and owns its answer. No condition beyond those of the statement. -/
import Derived.Test.YtojimlmflfiijaaGTP
set_option linter.unusedSimpArgs false
set_option linter.unusedVariables false
namespace Go.Proofs.Ytojimlmflfiijaa.Pure
open Go.RowKit Go.Proofs.Ytojimlmflfiijaa.PA Go.Proofs.Ytojimlmflfiijaa.Q Go.Proofs.YtojimlmflfiijaaW.PrintWords Go.Proofs.YtojimlmflfiijaaW.PrintLast
theorem FnExactTunnelPacket : ∀ (a0 a1 a2 a3 a4 b0 b1 b2 b3 b4 b5 : Int) (l : List Int), l.length ≤ maxLen → (∀ x ∈ l, (Lit.int .u8 x).wf = true) → ∃ k, laws_FnExactTunnelPacket.f k a0 a1 a2 a3 a4 b0 b1 b2 b3 b4 b5 l = some true := by
  intro a0 a1 spi key seq f t p ttl fp tp l hm hw
  have hb := bytes_of_wf hw
  have hm' : (l.length : Int) ≤ 9223372036854775807 := by
    have : l.length ≤ 9223372036854775807 := hm
    omega
  refine Ev.rounds ?_
  unfold laws_FnExactTunnelPacket.f laws_szPacket.f laws_szByteS.f
  rw [wrap_id (x := 1048576 - (l.length : Int)) (by omega) (by omega)]
  by_cases big : (1048576 - (l.length : Int)) < 0
  · simp only [if_pos big, Option.bind_some, if_pos (show (-1 : Int) < 0 by decide)]
    exact Ev.now _
  · simp only [if_neg big, Option.bind_some]
    have hsm := tunnelOf_small a0 a1 spi key seq f t p ttl fp tp l
    have hc := toPacket_ev f t p ttl fp tp l (by omega)
    refine Ev.bind hc ?_
    refine Ev.bind (tunnel_spec a0 a1 spi key seq f t p ttl fp tp l hb) ?_
    refine Ev.bind hc ?_
    refine Ev.bind (tunnel_impl a0 a1 spi key seq f t p ttl fp tp l hb) ?_
    have hr := sameResult_ev (tunnelOf a0 a1 spi key seq f t p ttl fp tp l).1 (tunnelOf a0 a1 spi key seq f t p ttl fp tp l).2 (by omega)
    refine Ev.bind hr ?_
    simp only [if_true]
    refine Ev.bind hc ?_
    refine Ev.bind (eqPacket_ev f t p ttl fp tp l (by omega)) ?_
    simp only [if_true]
    refine Ev.bind (markPacket_ev f t p ttl fp tp l (by omega)) ?_
    simp only [if_neg (show ¬ (1 + (l.length : Int) < 0) by omega)]
    refine Ev.bind hr ?_
    simp only [Bool.not_true]
    refine Ev.step (fun k => by simp only [laws_FnExactTunnelPacket.j0, Bool.false_eq_true, if_false]; rfl) ?_
    have hmk := markResult_ev (tunnelOf a0 a1 spi key seq f t p ttl fp tp l).1 (tunnelOf a0 a1 spi key seq f t p ttl fp tp l).2 (by omega)
    have hhd := heldResult_ev (tunnelOf a0 a1 spi key seq f t p ttl fp tp l).1 (tunnelOf a0 a1 spi key seq f t p ttl fp tp l).2.length (by omega)
    refine Ev.bind hmk ?_
    refine Ev.bind hhd ?_
    simp only [if_neg (show ¬ (1 + ((tunnelOf a0 a1 spi key seq f t p ttl fp tp l).2.length : Int) < 0) by omega), if_true]
    refine Ev.bind hc ?_
    refine Ev.bind (tunnel_impl a0 a1 spi key seq f t p ttl fp tp l hb) ?_
    refine Ev.bind hr ?_
    simp only [if_true]
    refine Ev.bind hhd ?_
    simp only [if_neg (show ¬ (1 + ((tunnelOf a0 a1 spi key seq f t p ttl fp tp l).2.length : Int) < 0) by omega), if_true]
    exact Ev.now _
end Go.Proofs.Ytojimlmflfiijaa.Pure
