-- Written by plus.py, this session's own program.
import Derived.Test.YtojimlmflfiijaaProg
import Derived.Below
import Derived.Deep.Draws
import Derived.Deep.AppendLies
import Derived.Maps.AppendAt
import Derived.OwnWalk
import Derived.Laws.BytesArg
import Derived.Laws.MakeOwn
import Derived.Laws.OwnMore
import Derived.Deep.OwnRows
import Derived.Tactics
import Derived.Lib.ConvBytes
import Derived.Laws.Slices
import Derived.WalkKit
import Derived.KernelRfl
import Derived.RowKit3
import Derived.Deep.LoopGhost
import Derived.Deep.QuietTactic
import Derived.BigQuiet
import Derived.WideLaws
import Derived.Deep.DeepCutAuto
import Derived.Deep.CutBlock
import Derived.Deep.RegionHeld3
import Derived.Laws.Rows
import Derived.Lib.AppendStr
import Derived.ArgAppend
import Derived.Laws.IdiomCopy
import Derived.OrdersHeld
import Derived.Laws.BitsLemmas
import Derived.RowKit
import Derived.Lib.SliceRun
import Derived.Test.YtojimlmflfiijaaVTPWords
import Derived.Test.YtojimlmflfiijaaVTPLast
import Derived.Test.YtojimlmflfiijaaVTPTab
import Derived.Test.YtojimlmflfiijaaVTPFour
import Derived.Test.YtojimlmflfiijaaVTPQPut
import Derived.Test.YtojimlmflfiijaaVTPApart
import Derived.Test.YtojimlmflfiijaaVTPArr
import Derived.Test.YtojimlmflfiijaaVTPZeros
import Derived.Test.YtojimlmflfiijaaVTPFoot
import Derived.Test.YtojimlmflfiijaaVTPKept
import Derived.Test.YtojimlmflfiijaaVTPShare
import Derived.Test.YtojimlmflfiijaaVTPN
import Derived.Test.YtojimlmflfiijaaVTPFootNe
import Derived.Test.YtojimlmflfiijaaVTPAt
import Derived.Test.YtojimlmflfiijaaVTPEqStruct
import Derived.Test.YtojimlmflfiijaaVTPRepsOne
import Derived.Test.YtojimlmflfiijaaVTPInv
import Derived.Test.YtojimlmflfiijaaVTPInvWords
import Derived.Test.YtojimlmflfiijaaVTPGuard
import Derived.Test.YtojimlmflfiijaaVTPNEv
import Derived.Test.YtojimlmflfiijaaVTPMore
namespace Go.Proofs.Ytojimlmflfiijaa.PA
open Go.RowKit Go.Proofs.YtojimlmflfiijaaW.PrintWords Go.Proofs.YtojimlmflfiijaaW.PrintLast Go.Proofs.YtojimlmflfiijaaW.PrintMore
attribute [local go_sem] max2_int min2_int max_two min_two max_three min_three max_four min_four   -- for this text's walks alone
set_option linter.unusedVariables false
set_option linter.unusedSimpArgs false



def errW : Option Int → Value
  | none => .nilIface
  | some c => .iface 0 (.int .i64 c)
theorem errW_none : errW none = .nilIface := rfl
theorem errW_some (c : Int) : errW (some c) = .iface 0 (.int .i64 c) := rfl

theorem info2 : (Try.prog.info? 2).map (fun i => (i.zero, i.size, i.bytes)) = some (some (.int .i64 0), 1, 8) := by kernel_rfl
theorem info5 : (Try.prog.info? 5).map (fun i => (i.zero, i.size, i.bytes)) = some (some (.int .u8 0), 1, 1) := by kernel_rfl
theorem info22 : (Try.prog.info? 22).map (fun i => (i.zero, i.size, i.bytes)) = some (some (.slice none 0 0), 1, 24) := by kernel_rfl
-- the values' own types
def rd_L2 (xs : List (List Int)) (i : Int) : (List Int) := xs.getD i.toNat ([] : List Int)
theorem at_L2 {w : World} {A : Option Addr} {n : Nat} {xs : List (List Int)} (h : Kd.C (Kd.slice 5 (Kd.int .u8)) w A n xs) (i : Int) (h0 : 0 ≤ i) (h1 : i < n) : ∃ ad A0 c0, A = some ad ∧ w.cell? (ad.add i.toNat) = some (.slice A0 (rd_L2 xs i).length c0) ∧ (rd_L2 xs i).length ≤ c0 ∧ (Kd.int .u8).C w A0 (rd_L2 xs i).length (rd_L2 xs i) := by
  obtain ⟨ad, c, e, _, hK, hc0⟩ := Kd.C_get h ([] : List Int) i h0 h1
  have hc : ∀ j u, c[j]? = some u → w.cell? (ad.add (i.toNat * 1 + j)) = some u := hc0
  obtain ⟨A0, c0, rfl, l0, g0⟩ := hK
  exact ⟨ad, A0, c0, e, by have hq := hc 0 _ rfl; rwa [Nat.mul_one, Nat.add_zero] at hq, l0, g0⟩

theorem drewN_setCell (w : World) (n : Nat) (a : Addr) (v : Value) : (w.drewN n).setCell a v = (w.setCell a v).drewN n := by
  unfold World.setCell World.drewN
  cases h : w.heap[a.block]? with
  | none => simp
  | some o => cases o <;> simp

-- the builtin copy of bytes into a row of the call's own, from a place on
def cpi (l : List Int) (k : Nat) (s : List Int) : List Int := l.take k ++ s.take (l.length - k) ++ l.drop (k + s.length)
theorem cpi_length (l : List Int) (k : Nat) (s : List Int) (h : k ≤ l.length) : (cpi l k s).length = l.length := by
  simp only [cpi, List.length_append, List.length_take, List.length_drop]
  omega
theorem R_copyin_run {P : Program} {W : World} (base : Nat) (t ty e : TypeId) (ht : P.underlying t = some (.slice e)) (hs : (P.info? e).map (·.size) = some 1)
    {g n c k : Nat} {xs : List Int} {ok : Nat → Prop} (HO : (Kd.int .u8).R e W base ok (.slice (some ⟨g, 0, none⟩) n c) xs) (hk : k ≤ n) (c1 : Nat) {A S : Option Addr} {m c2 : Nat} {ys : List Int} (hA : A = if c = k then some ⟨g, 0, none⟩ else (some (⟨g, 0, none⟩ : Addr)).map (·.add (k * 1))) (HS : (Kd.int .u8).C W S m ys) :
    ∃ w1, (Builtin.copy_ #[t, t] ty #[.slice A (n - k) c1, .slice S m c2]).run P W = .ok (goInt (Nat.min m (n - k))) w1 ∧ (Kd.int .u8).R e w1 base ok (.slice (some ⟨g, 0, none⟩) n c) (cpi xs k ys) ∧ W.grownBy w1 (some g) := by
  obtain ⟨hn, hnc, _⟩ := Kd.R_reads' HO
  have hRS := Kd.reads_of_C (enc := Value.int .u8) (d := (0 : Int)) (h1 := fun _ => rfl) HS
  have hyl := hRS.1
  by_cases hz : Nat.min m (n - k) = 0
  · refine ⟨W, ?_, ?_, World.grownBy.refl _ _⟩
    · have := run_copy_none (P := P) W t t ty e A S (n - k) c1 m c2 ht hs hz
      rw [this, hz]
      rfl
    · have hz' : min m (n - k) = 0 := hz
      have : cpi xs k ys = xs := by
        unfold cpi
        by_cases h0 : ys = []
        · subst h0; simp
        · have : 0 < ys.length := List.length_pos_iff.2 h0
          have h1 : xs.length - k = 0 := by omega
          rw [h1, List.take_zero, List.append_nil, List.take_of_length_le (by omega), List.drop_eq_nil_of_le (by omega), List.append_nil]
      rw [this]; exact HO
  · have hz' : ¬ min m (n - k) = 0 := hz
    have hm : 0 < m := by omega
    have hAe : A = some (Addr.add ⟨g, 0, none⟩ (k * 1)) := by rw [hA, if_neg (by omega)]; rfl
    subst hAe
    obtain ⟨ad, rfl, hcell⟩ := hRS.2.2 hm
    have hown := Kd.own_of_R HO
    obtain ⟨hin, hown2⟩ := hown
    rcases hown2 with ⟨hv, _⟩ | ⟨g', cap', cur, hv, hb, hh, _, hcm, hcs, htake⟩
    · cases hv
    injection hv with ha _ hc
    injection ha with ha
    injection ha with hg
    subst hg; subst hc
    obtain ⟨news, hnews⟩ : ∃ news, news = (encs (Value.int .u8) ys).take (n - k) := ⟨_, rfl⟩
    have hnl : news.length = Nat.min m (n - k) := by
      rw [hnews, List.length_take, encs_length, hyl]; exact Nat.min_comm _ _
    have hnk : news.length ≤ n - k := by rw [hnl]; exact Nat.min_le_right _ _
    have hone : ∀ u ∈ news, u.oneCell' = true := by
      intro u hu
      rw [hnews] at hu
      obtain ⟨x, _, rfl⟩ := List.mem_map.1 (List.mem_of_mem_take hu)
      rfl
    have hsrc : ∀ j v, news[j]? = some v → W.cell? (ad.add j) = some v := by
      intro j v hj
      rw [hnews, List.getElem?_take] at hj
      split at hj
      · have hjl : j < ys.length := by
          have := (List.getElem?_eq_some_iff.1 hj).1
          rwa [encs_length] at this
        rw [encs_get (d := (0 : Int)) ys j hjl] at hj
        rw [← hj]
        exact hcell j (by omega)
      · cases hj
    have hfit : 0 + k + news.length ≤ cur.size := by rw [hcs]; omega
    have hrun := run_copy_cells (P := P) W t t ty e g (0 + k * 1) (n - k) c1 ad m c2 news ht hs hnl hsrc
      (fun j hj => by rw [cell_of_row W g _ cur e (0, 0) hh]; simp; omega) (fun j _ => blk_frozen hh _) hone
    obtain ⟨cur', h3, h4, h5⟩ := setCells_row news (0 + k * 1) W cur hh (by omega)
    obtain ⟨s1, s2, s3, s4⟩ := setCells_same g news (0 + k * 1) W
    have hfar : ∀ k', k' ≠ g → (W.setCells g (0 + k * 1) news).heap[k']? = W.heap[k']? := fun k' hk' => setCells_far news _ k' hk'
    have hlen := cpi_length xs k ys (by omega)
    have hle : xs.length * 1 ≤ cur.toList.length := by simp; omega
    refine ⟨_, ?_, Kd.R_of_own ⟨?_, .inr ⟨g, c, cur', by rw [hlen, hn], hb, h3, by omega, hcm, by rw [h4, hcs], ?_⟩⟩ HO.1, ⟨s1, s2, s3, by rw [s4]; exact Nat.le_refl _, fun k' _ hk' => hfar k' (fun he => hk' (by rw [he]))⟩⟩
    · rw [← hnl, add_at]; exact hrun
    · rw [encs_length, Nat.mul_one]
    · have hen : encs (Value.int .u8) (cpi xs k ys) = (encs (Value.int .u8) xs).take k ++ (encs (Value.int .u8) ys).take (n - k) ++ (encs (Value.int .u8) xs).drop (k + ys.length) := by
        simp only [cpi, encs, List.map_append, List.map_take, List.map_drop, hn]
      rw [hen, hlen, h5, Nat.zero_add, Nat.mul_one, Nat.mul_one, ← hnews]
      rw [Nat.mul_one] at htake hle
      have e1 : cur.toList.take k = (encs (Value.int .u8) xs).take k := by rw [← htake, List.take_take, Nat.min_eq_left (by omega)]
      rw [e1, List.append_assoc, List.append_assoc]
      have l1 : ((encs (Value.int .u8) xs).take k).length = k := by rw [List.length_take, encs_length]; omega
      rw [List.take_append, l1, List.take_of_length_le (by omega)]
      congr 1
      rw [List.take_append, List.take_of_length_le (by omega)]
      congr 1
      rw [← htake]
      rw [List.drop_take]
      have hml : news.length = min m (n - k) := hnl
      by_cases h : m ≤ n - k
      · have h2 : news.length = ys.length := by omega
        rw [h2, Nat.sub_sub]
      · have h2 : xs.length - k - news.length = 0 := by omega
        have h3 : xs.length - (k + ys.length) = 0 := by omega
        rw [h2, h3, List.take_zero, List.take_zero]
theorem R_copyin_any {P : Program} {W : World} (base : Nat) (t ty e : TypeId) (ht : P.underlying t = some (.slice e)) (hs : (P.info? e).map (·.size) = some 1)
    {A0 : Option Addr} {n c k : Nat} {xs : List Int} {ok : Nat → Prop} (HO : (Kd.int .u8).R e W base ok (.slice A0 n c) xs) (hk : k ≤ n) (c1 : Nat) {A S : Option Addr} {m c2 : Nat} {ys : List Int} (hA : A = if c = k then A0 else A0.map (·.add (k * 1))) (HS : (Kd.int .u8).C W S m ys) :
    ∃ w1, (Builtin.copy_ #[t, t] ty #[.slice A (n - k) c1, .slice S m c2]).run P W = .ok (goInt (Nat.min m (n - k))) w1 ∧ (Kd.int .u8).R e w1 base ok (.slice A0 n c) (cpi xs k ys) ∧ W.grownBy w1 (Value.slice A0 n c).ownBlock := by
  obtain ⟨hn, _⟩ := Kd.R_reads' HO
  rcases (Kd.own_of_R HO).2 with ⟨hv, h0⟩ | ⟨g, cap, cur, hv, _⟩
  · injection hv with ha hn0 hc
    subst ha
    refine ⟨W, ?_, ?_, World.grownBy.refl _ _⟩
    · have := run_copy_none (P := P) W t t ty e A S (n - k) c1 m c2 ht hs (by rw [hn0, Nat.zero_sub]; exact Nat.min_zero _)
      rw [this, hn0, Nat.zero_sub, show Nat.min m 0 = 0 from Nat.min_zero _]
      rfl
    · have h1 : xs = [] := List.eq_nil_of_length_eq_zero h0
      have : cpi xs k ys = xs := by rw [h1]; simp [cpi]
      rw [this]; exact HO
  · injection hv with ha _ hc
    subst ha
    obtain ⟨w1, h1, h2, h3⟩ := R_copyin_run (P := P) base t ty e ht hs HO hk c1 (c2 := c2) hA HS
    exact ⟨w1, h1, h2, h3⟩
section
variable {P : Program} {ops : Array Oper} {rest : List Oper} {o : Oper} {a : Act} {Q : Exit → Act → World → Prop} {Kc : Act → World → Prop}
theorem R_copyin {w0 W : World} (base : Nat) (hgd : o.guard = none) (s x : Operand) (t e : TypeId) (ho : o.op = .call { callee := .builtin .copy, args := #[s, x], argTypes := #[t, t] })
    (ht : P.underlying t = some (.slice e)) (hinfo : (P.info? e).map (·.size) = some 1) {n c k k2 c1 m c2 : Nat} {A A0 S : Option Addr} {xs ys : List Int} {ok : Nat → Prop}
    (hs : a.eval s = .slice A k2 c1) (hx : a.eval x = .slice S m c2) (hA : A = if c = k then A0 else A0.map (·.add (k * 1))) (hm : k2 = n - k)
    (HO : (Kd.int .u8).R e W base ok (.slice A0 n c) xs) (hk : k ≤ n) (HS : (Kd.int .u8).C W S m ys) (HB : Below base w0 W) (hbase : base ≤ W.heap.size)
    (h : ∀ w1, (Kd.int .u8).R e w1 base ok (.slice A0 n c) (cpi xs k ys) → Below base w0 w1 → W.grownBy w1 (Value.slice A0 n c).ownBlock → wpList P ops Q rest (a.put o.dst (goInt (Nat.min m (n - k)))) w1) : wpList P ops Q (o :: rest) a W := by
  subst hm
  obtain ⟨w1, hr, h1, h2⟩ := R_copyin_any (P := P) base t o.type e ht hinfo HO hk c1 (c2 := c2) hA HS
  refine wpList_plain hgd fun K hK => ?_
  unfold Oper.wp execOp
  simp only [ho, resolve, invoke, builtin, Sem.run_bind, Sem.run_pure, Result.andThen_ok, List.map_toArray, List.map_cons, List.map_nil, hs, hx, hr]
  exact hK _ _ (h w1 h1 (HB.grown h2 hbase (fun k hk => Kd.R_base HO _ hk)) h2)
theorem R_copyin_step {w0 W : World} (base : Nat) (hw : Region.wanted o (yielded ops a.tmps) = true) (s x : Operand) (t e : TypeId) (ho : o.op = .call { callee := .builtin .copy, args := #[s, x], argTypes := #[t, t] })
    (ht : P.underlying t = some (.slice e)) (hinfo : (P.info? e).map (·.size) = some 1) {n c k k2 c1 m c2 : Nat} {A A0 S : Option Addr} {xs ys : List Int} {ok : Nat → Prop}
    (hs : a.eval s = .slice A k2 c1) (hx : a.eval x = .slice S m c2) (hA : A = if c = k then A0 else A0.map (·.add (k * 1))) (hm : k2 = n - k)
    (HO : (Kd.int .u8).R e W base ok (.slice A0 n c) xs) (hk : k ≤ n) (HS : (Kd.int .u8).C W S m ys) (HB : Below base w0 W) (hbase : base ≤ W.heap.size)
    (h : ∀ w1, (Kd.int .u8).R e w1 base ok (.slice A0 n c) (cpi xs k ys) → Below base w0 w1 → W.grownBy w1 (Value.slice A0 n c).ownBlock → Kc (a.put o.dst (goInt (Nat.min m (n - k)))) w1) :
    if Region.wanted o (yielded ops a.tmps) = true then Oper.wp P o a W Kc Q else Kc (a.put o.dst undef) W := by
  subst hm
  obtain ⟨w1, hr, h1, h2⟩ := R_copyin_any (P := P) base t o.type e ht hinfo HO hk c1 (c2 := c2) hA HS
  rw [if_pos hw]
  unfold Oper.wp execOp
  simp only [ho, resolve, invoke, builtin, Sem.run_bind, Sem.run_pure, Result.andThen_ok, List.map_toArray, List.map_cons, List.map_nil, hs, hx, hr]
  exact h w1 h1 (HB.grown h2 hbase (fun k hk => Kd.R_base HO _ hk)) h2
end

end Go.Proofs.Ytojimlmflfiijaa.PA
