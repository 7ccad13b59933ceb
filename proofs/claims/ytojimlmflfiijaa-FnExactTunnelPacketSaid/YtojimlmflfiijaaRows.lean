/-
  No cell of these rows narrows 'for every input' (looked for: loops, veiled, ifaces, maps, wideKeys, modest, calm, conditions, laid).
  DERIVED. THE GIVEN ROWS OF THIS SEAT. 7 by the template 'for every input the law returns true; each argument reads behind the call as it read before'; 0 by the template 'total and deterministic' (their statements: YtojimlmflfiijaaTotals.lean).
  GIVEN WITH THE SEED: the statements are not yours to turn. If you find one false, say at which input.
  Laid BY PROGRAM, IN A SANDBOX (cutbox-rows.mjs): the forced cells as the released guide's own fill.sh prints them over the translation c83083c4ef5f9051… (all of the seat's roots in one cut). By AI agents, Wed Nov 11 2026. No macro, syntax, notation, axiom, sorry.
-/
import Derived.Test.YtojimlmflfiijaaChecked
import GoSem.Claim
import GoSem.ClaimJoined
import GoSem.ClaimMapViews
import Derived.JoinedTies
import Derived.KernelRfl
namespace Go.Proofs.Ytojimlmflfiijaa
/- THE CELL 'sum', in the pinned program and in every row, IS THE sha256 OF THE DUMP (.gsa) THAT YtojimlmflfiijaaProg.lean LOADS. Nothing in Lean hashes anything: it is a label: what it is worth is what the hold of that sum in a sandbox is worth. -/
noncomputable def Try.pinned : Pinned := { name := "ytojimlmflfiijaa", sum := "c83083c4ef5f90510e2a64d9521c6b029a5d9f1eeee30bb010148f28e5a8f3fd", checked := Try.checked }
namespace Rows
def none {H : Type} : Left H := { results := [], args := [] }

/-- 'laws.FnPads': WHATEVER THE INPUT: true; the input reads as it did. -/
def fnPadsSpec : ChangeSpec := { name := "fnPads", fn := fun _ => fun
  | [d] => { results := [.lit (.bool true)], args := [d] }
  | _ => none }
def fnPadsRow : OpenClaim := { program := "ytojimlmflfiijaa", sum := "c83083c4ef5f90510e2a64d9521c6b029a5d9f1eeee30bb010148f28e5a8f3fd", func := "loop.example/g00205/laws.FnPads", spec := "fnPads", apart := false }
def FnPadsSaid : Prop := fnPadsRow.holds Try.pinned (OpenSpec.ofChange fnPadsSpec)

/-- ITS FALSE NEIGHBOUR: 'it returns false'. Refute it at one input. -/
def fnPadsWrong : ChangeSpec := { name := "fnPads", fn := fun _ => fun
  | [d] => { results := [.lit (.bool false)], args := [d] }
  | _ => none }
def FnPadsWrongFalsely : Prop := fnPadsRow.holds Try.pinned (OpenSpec.ofChange fnPadsWrong)

/-- 'laws.FnSeals': WHATEVER THE INPUT: true; the input reads as it did. -/
def fnSealsSpec : ChangeSpec := { name := "fnSeals", fn := fun _ => fun
  | [d] => { results := [.lit (.bool true)], args := [d] }
  | _ => none }
def fnSealsRow : OpenClaim := { program := "ytojimlmflfiijaa", sum := "c83083c4ef5f90510e2a64d9521c6b029a5d9f1eeee30bb010148f28e5a8f3fd", func := "loop.example/g00205/laws.FnSeals", spec := "fnSeals", apart := false }
def FnSealsSaid : Prop := fnSealsRow.holds Try.pinned (OpenSpec.ofChange fnSealsSpec)

/-- ITS FALSE NEIGHBOUR: 'it returns false'. Refute it at one input. -/
def fnSealsWrong : ChangeSpec := { name := "fnSeals", fn := fun _ => fun
  | [d] => { results := [.lit (.bool false)], args := [d] }
  | _ => none }
def FnSealsWrongFalsely : Prop := fnSealsRow.holds Try.pinned (OpenSpec.ofChange fnSealsWrong)

/-- 'laws.FnExactWrapInner': WHATEVER THE INPUT: true; the input reads as it did. -/
def fnExactWrapInnerSpec : ChangeSpec := { name := "fnExactWrapInner", fn := fun _ => fun
  | [d1, d2, d3, d4] => { results := [.lit (.bool true)], args := [d1, d2, d3, d4] }
  | _ => none }
def fnExactWrapInnerRow : OpenClaim := { program := "ytojimlmflfiijaa", sum := "c83083c4ef5f90510e2a64d9521c6b029a5d9f1eeee30bb010148f28e5a8f3fd", func := "loop.example/g00205/laws.FnExactWrapInner", spec := "fnExactWrapInner", apart := false }
def FnExactWrapInnerSaid : Prop := fnExactWrapInnerRow.holds Try.pinned (OpenSpec.ofChange fnExactWrapInnerSpec)

/-- ITS FALSE NEIGHBOUR: 'it returns false'. Refute it at one input. -/
def fnExactWrapInnerWrong : ChangeSpec := { name := "fnExactWrapInner", fn := fun _ => fun
  | [d1, d2, d3, d4] => { results := [.lit (.bool false)], args := [d1, d2, d3, d4] }
  | _ => none }
def FnExactWrapInnerWrongFalsely : Prop := fnExactWrapInnerRow.holds Try.pinned (OpenSpec.ofChange fnExactWrapInnerWrong)

/-- 'laws.FnExactUnwrapOuter': WHATEVER THE INPUT: true; the input reads as it did. -/
def fnExactUnwrapOuterSpec : ChangeSpec := { name := "fnExactUnwrapOuter", fn := fun _ => fun
  | [d1, d2, d3] => { results := [.lit (.bool true)], args := [d1, d2, d3] }
  | _ => none }
def fnExactUnwrapOuterRow : OpenClaim := { program := "ytojimlmflfiijaa", sum := "c83083c4ef5f90510e2a64d9521c6b029a5d9f1eeee30bb010148f28e5a8f3fd", func := "loop.example/g00205/laws.FnExactUnwrapOuter", spec := "fnExactUnwrapOuter", apart := false }
def FnExactUnwrapOuterSaid : Prop := fnExactUnwrapOuterRow.holds Try.pinned (OpenSpec.ofChange fnExactUnwrapOuterSpec)

/-- ITS FALSE NEIGHBOUR: 'it returns false'. Refute it at one input. -/
def fnExactUnwrapOuterWrong : ChangeSpec := { name := "fnExactUnwrapOuter", fn := fun _ => fun
  | [d1, d2, d3] => { results := [.lit (.bool false)], args := [d1, d2, d3] }
  | _ => none }
def FnExactUnwrapOuterWrongFalsely : Prop := fnExactUnwrapOuterRow.holds Try.pinned (OpenSpec.ofChange fnExactUnwrapOuterWrong)

/-- 'laws.FnExactTunnelPacket': WHATEVER THE INPUT: true; the input reads as it did. -/
def fnExactTunnelPacketSpec : ChangeSpec := { name := "fnExactTunnelPacket", fn := fun _ => fun
  | [d1, d2, d3, d4, d5, d6] => { results := [.lit (.bool true)], args := [d1, d2, d3, d4, d5, d6] }
  | _ => none }
def fnExactTunnelPacketRow : OpenClaim := { program := "ytojimlmflfiijaa", sum := "c83083c4ef5f90510e2a64d9521c6b029a5d9f1eeee30bb010148f28e5a8f3fd", func := "loop.example/g00205/laws.FnExactTunnelPacket", spec := "fnExactTunnelPacket", apart := false }
def FnExactTunnelPacketSaid : Prop := fnExactTunnelPacketRow.holds Try.pinned (OpenSpec.ofChange fnExactTunnelPacketSpec)

/-- ITS FALSE NEIGHBOUR: 'it returns false'. Refute it at one input. -/
def fnExactTunnelPacketWrong : ChangeSpec := { name := "fnExactTunnelPacket", fn := fun _ => fun
  | [d1, d2, d3, d4, d5, d6] => { results := [.lit (.bool false)], args := [d1, d2, d3, d4, d5, d6] }
  | _ => none }
def FnExactTunnelPacketWrongFalsely : Prop := fnExactTunnelPacketRow.holds Try.pinned (OpenSpec.ofChange fnExactTunnelPacketWrong)

/-- 'laws.FnTunnels': WHATEVER THE INPUT: true; the input reads as it did. -/
def fnTunnelsSpec : ChangeSpec := { name := "fnTunnels", fn := fun _ => fun
  | [d] => { results := [.lit (.bool true)], args := [d] }
  | _ => none }
def fnTunnelsRow : OpenClaim := { program := "ytojimlmflfiijaa", sum := "c83083c4ef5f90510e2a64d9521c6b029a5d9f1eeee30bb010148f28e5a8f3fd", func := "loop.example/g00205/laws.FnTunnels", spec := "fnTunnels", apart := false }
def FnTunnelsSaid : Prop := fnTunnelsRow.holds Try.pinned (OpenSpec.ofChange fnTunnelsSpec)

/-- ITS FALSE NEIGHBOUR: 'it returns false'. Refute it at one input. -/
def fnTunnelsWrong : ChangeSpec := { name := "fnTunnels", fn := fun _ => fun
  | [d] => { results := [.lit (.bool false)], args := [d] }
  | _ => none }
def FnTunnelsWrongFalsely : Prop := fnTunnelsRow.holds Try.pinned (OpenSpec.ofChange fnTunnelsWrong)

/-- 'laws.FnExactUntunnelPacket': WHATEVER THE INPUT: true; the input reads as it did. -/
def fnExactUntunnelPacketSpec : ChangeSpec := { name := "fnExactUntunnelPacket", fn := fun _ => fun
  | [d1, d2, d3] => { results := [.lit (.bool true)], args := [d1, d2, d3] }
  | _ => none }
def fnExactUntunnelPacketRow : OpenClaim := { program := "ytojimlmflfiijaa", sum := "c83083c4ef5f90510e2a64d9521c6b029a5d9f1eeee30bb010148f28e5a8f3fd", func := "loop.example/g00205/laws.FnExactUntunnelPacket", spec := "fnExactUntunnelPacket", apart := false }
def FnExactUntunnelPacketSaid : Prop := fnExactUntunnelPacketRow.holds Try.pinned (OpenSpec.ofChange fnExactUntunnelPacketSpec)

/-- ITS FALSE NEIGHBOUR: 'it returns false'. Refute it at one input. -/
def fnExactUntunnelPacketWrong : ChangeSpec := { name := "fnExactUntunnelPacket", fn := fun _ => fun
  | [d1, d2, d3] => { results := [.lit (.bool false)], args := [d1, d2, d3] }
  | _ => none }
def FnExactUntunnelPacketWrongFalsely : Prop := fnExactUntunnelPacketRow.holds Try.pinned (OpenSpec.ofChange fnExactUntunnelPacketWrong)

/- THE SECOND FORM. 'bulk': how many values and letters a reading holds, each counted each time it is reached (what is shared counts as often as it is met; a slice's spare places count too). A statement '..UptoSaid' is the law's where the arguments, and the package variables that the reading takes, are together of bulk at most 1048576: NARROWER than '..Said'. Prove '..Said' where nothing that the law and all that it calls make is longer than what came in: it says more and counts as full. Else prove '..UptoSaid'. A law counts once. -/
mutual
def uptoBulk {H : Type} : DataW H → Nat
  | .lit (.string bytes) => bytes.length + 1
  | .lit _ => 1
  | .nil => 1
  | .ptr d => uptoBulk d + 1
  | .slice elems spare => uptoBulkAll elems + uptoBulkAll spare + 1
  | .agg parts => uptoBulkAll parts + 1
  | .iface _ d => uptoBulk d + 1
  | .map entries => uptoBulkEntries entries + 1
  | .held _ => 1
def uptoBulkAll {H : Type} : List (DataW H) → Nat
  | [] => 0
  | d :: r => uptoBulk d + uptoBulkAll r
def uptoBulkEntries {H : Type} : List (Lit × DataW H) → Nat
  | [] => 0
  | x :: r => uptoBulkEntry x + uptoBulkEntries r
def uptoBulkEntry {H : Type} : Lit × DataW H → Nat
  | (.string bytes, d) => bytes.length + uptoBulk d + 1
  | (_, d) => uptoBulk d + 1
 end
def uptoSmall : (H : Type) → List (DataW H) → Bool := fun _ ds => decide (uptoBulkAll ds ≤ 1048576)
def OpenSpec.upto (s : _root_.Go.ChangeSpec) : _root_.Go.OpenSpec := { _root_.Go.OpenSpec.ofChange s with cond := some uptoSmall }

/-- 'laws.FnPads', WHERE WHAT IT READS IS OF BULK AT MOST 1048576: true; the input reads as it did. -/
def fnPadsUptoRow : OpenClaim := { program := "ytojimlmflfiijaa", sum := "c83083c4ef5f90510e2a64d9521c6b029a5d9f1eeee30bb010148f28e5a8f3fd", func := "loop.example/g00205/laws.FnPads", spec := "fnPads", apart := false, narrowed := true }
def FnPadsUptoSaid : Prop := fnPadsUptoRow.holds Try.pinned (OpenSpec.upto fnPadsSpec)

/-- 'laws.FnSeals', WHERE WHAT IT READS IS OF BULK AT MOST 1048576: true; the input reads as it did. -/
def fnSealsUptoRow : OpenClaim := { program := "ytojimlmflfiijaa", sum := "c83083c4ef5f90510e2a64d9521c6b029a5d9f1eeee30bb010148f28e5a8f3fd", func := "loop.example/g00205/laws.FnSeals", spec := "fnSeals", apart := false, narrowed := true }
def FnSealsUptoSaid : Prop := fnSealsUptoRow.holds Try.pinned (OpenSpec.upto fnSealsSpec)

/-- 'laws.FnExactWrapInner', WHERE WHAT IT READS IS OF BULK AT MOST 1048576: true; the input reads as it did. -/
def fnExactWrapInnerUptoRow : OpenClaim := { program := "ytojimlmflfiijaa", sum := "c83083c4ef5f90510e2a64d9521c6b029a5d9f1eeee30bb010148f28e5a8f3fd", func := "loop.example/g00205/laws.FnExactWrapInner", spec := "fnExactWrapInner", apart := false, narrowed := true }
def FnExactWrapInnerUptoSaid : Prop := fnExactWrapInnerUptoRow.holds Try.pinned (OpenSpec.upto fnExactWrapInnerSpec)

/-- 'laws.FnExactUnwrapOuter', WHERE WHAT IT READS IS OF BULK AT MOST 1048576: true; the input reads as it did. -/
def fnExactUnwrapOuterUptoRow : OpenClaim := { program := "ytojimlmflfiijaa", sum := "c83083c4ef5f90510e2a64d9521c6b029a5d9f1eeee30bb010148f28e5a8f3fd", func := "loop.example/g00205/laws.FnExactUnwrapOuter", spec := "fnExactUnwrapOuter", apart := false, narrowed := true }
def FnExactUnwrapOuterUptoSaid : Prop := fnExactUnwrapOuterUptoRow.holds Try.pinned (OpenSpec.upto fnExactUnwrapOuterSpec)

/-- 'laws.FnExactTunnelPacket', WHERE WHAT IT READS IS OF BULK AT MOST 1048576: true; the input reads as it did. -/
def fnExactTunnelPacketUptoRow : OpenClaim := { program := "ytojimlmflfiijaa", sum := "c83083c4ef5f90510e2a64d9521c6b029a5d9f1eeee30bb010148f28e5a8f3fd", func := "loop.example/g00205/laws.FnExactTunnelPacket", spec := "fnExactTunnelPacket", apart := false, narrowed := true }
def FnExactTunnelPacketUptoSaid : Prop := fnExactTunnelPacketUptoRow.holds Try.pinned (OpenSpec.upto fnExactTunnelPacketSpec)

/-- 'laws.FnTunnels', WHERE WHAT IT READS IS OF BULK AT MOST 1048576: true; the input reads as it did. -/
def fnTunnelsUptoRow : OpenClaim := { program := "ytojimlmflfiijaa", sum := "c83083c4ef5f90510e2a64d9521c6b029a5d9f1eeee30bb010148f28e5a8f3fd", func := "loop.example/g00205/laws.FnTunnels", spec := "fnTunnels", apart := false, narrowed := true }
def FnTunnelsUptoSaid : Prop := fnTunnelsUptoRow.holds Try.pinned (OpenSpec.upto fnTunnelsSpec)

/-- 'laws.FnExactUntunnelPacket', WHERE WHAT IT READS IS OF BULK AT MOST 1048576: true; the input reads as it did. -/
def fnExactUntunnelPacketUptoRow : OpenClaim := { program := "ytojimlmflfiijaa", sum := "c83083c4ef5f90510e2a64d9521c6b029a5d9f1eeee30bb010148f28e5a8f3fd", func := "loop.example/g00205/laws.FnExactUntunnelPacket", spec := "fnExactUntunnelPacket", apart := false, narrowed := true }
def FnExactUntunnelPacketUptoSaid : Prop := fnExactUntunnelPacketUptoRow.holds Try.pinned (OpenSpec.upto fnExactUntunnelPacketSpec)

end Rows
end Go.Proofs.Ytojimlmflfiijaa
