-- Short words for what the printed proofs say over and over. Written by this session's own program.
import Derived.Test.YtojimlmflfiijaaBTP0
namespace Go.Proofs.Ytojimlmflfiijaa.PA
open Go.RowKit Go.Proofs.YtojimlmflfiijaaW.PrintWords Go.Proofs.YtojimlmflfiijaaW.PrintLast
/-- What a world becomes by draws and new blocks alone. -/
class Up (w' : World) (w : outParam World) : Prop where
  below : Below w.heap.size w w'
instance (priority := low) upSame (w : World) : Up w w := ⟨Below.refl _ _⟩
instance upDrewN (w' w : World) (n : Nat) [u : Up w' w] : Up (w'.drewN n) w := ⟨pw_below_drewN u.below n⟩
instance upDrew (w' w : World) [u : Up w' w] : Up w'.drew w := ⟨below_drew1 u.below⟩
instance upAlloc (w' w : World) (o : Obj) [u : Up w' w] : Up (w'.alloc o) w := ⟨below_alloc u.below o⟩
theorem up {w w' : World} [u : Up w' w] {g : Nat} {o : Obj} (h : w.heap[g]? = some o) : w'.heap[g]? = some o := blk_below h u.below
theorem upR {α : Type} {d : Kd α} {e : Nat} {w w' : World} [u : Up w' w] {base : Nat} {ok : Nat → Prop} {v : Value} {xs : List α} (h : d.R e w base ok v xs) : d.R e w' base ok v xs := Kd.R_below h u.below
theorem upC {α : Type} {d : Kd α} {w w' : World} [u : Up w' w] {A : Option Addr} {n : Nat} {xs : List α} (h : d.C w A n xs) : d.C w' A n xs := Kd.C_below h u.below
theorem pb {p : Prop} (h : p := by repeat (first | (with_reducible first | exact HB.out | apply below_alloc | apply pw_below_drewN | apply below_drew1 | refine below_set ?_ (Aside0.out (by assumption))) | exact HB.out)) : p := h
end Go.Proofs.Ytojimlmflfiijaa.PA
