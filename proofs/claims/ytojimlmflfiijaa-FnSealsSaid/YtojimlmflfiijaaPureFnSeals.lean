/- For every code: what is sealed is opened, and one byte turned is seen. No condition beyond those of the statement. -/
import Derived.Test.YtojimlmflfiijaaPA6
import Derived.Test.YtojimlmflfiijaaQ4
set_option linter.unusedSimpArgs false
set_option linter.unusedVariables false
namespace Go.Proofs.Ytojimlmflfiijaa.Pure
open Go.RowKit Go.Proofs.Ytojimlmflfiijaa.PA Go.Proofs.Ytojimlmflfiijaa.Q Go.Proofs.YtojimlmflfiijaaW.PrintWords Go.Proofs.YtojimlmflfiijaaW.PrintLast

theorem at_ok (code : List Int) (i n : Int) (hc : Bytes code) (hl : code.length ≤ 1048576) (h0 : 0 ≤ i) (h1 : i ≤ 1000000000) (hp : 1 ≤ n) (hn : n ≤ 8589934592) : ∃ v, laws_lwAt.f code i n = some v ∧ 0 ≤ v ∧ v < n := by
  unfold laws_lwAt.f
  by_cases hn1 : n ≤ 1
  · rw [if_pos hn1]
    exact ⟨0, rfl, by omega, by omega⟩
  · rw [if_neg hn1]
    by_cases hk : (code.length : Int) = 0
    · rw [if_pos hk, if_neg (by omega), wrap_id (x := i * 7) (by omega) (by omega), Int.tmod_eq_emod_of_nonneg (by omega)]
      exact ⟨_, rfl, Int.emod_nonneg _ (by omega), Int.emod_lt_of_pos _ (by omega)⟩
    · rw [if_neg hk]
      have hkp : 0 < (code.length : Int) := by omega
      rw [Int.tmod_eq_emod_of_nonneg h0, Int.tdiv_eq_ediv_of_nonneg h0]
      have m0 := Int.emod_nonneg i hk
      have m1 := Int.emod_lt_of_pos i hkp
      rw [if_pos m0, if_pos m1]
      obtain ⟨b0, b1⟩ := rd_byte hc m0 m1
      have d0 : 0 ≤ i / (code.length : Int) := Int.ediv_nonneg h0 (by omega)
      have d1 : i / (code.length : Int) ≤ i := Int.ediv_le_self _ h0
      generalize i / (code.length : Int) = q at d0 d1 ⊢
      generalize rd code (i % (code.length : Int)) = b at b0 b1 ⊢
      rw [wrap_id (x := b) (by omega) (by omega), wrap_id (x := q) (by omega) (by omega), wrap_id (x := q * 3) (by omega) (by omega), wrap_id (x := b + q * 3) (by omega) (by omega), wrap_id (x := i + 1) (by omega) (by omega)]
      by_cases hbig : n > 200
      · rw [if_pos hbig, Int.tmod_eq_emod_of_nonneg (show 0 ≤ i + 1 by omega)]
        have e0 := Int.emod_nonneg (i + 1) hk
        have e1 := Int.emod_lt_of_pos (i + 1) hkp
        rw [if_pos e0, if_pos e1, if_neg (by omega)]
        obtain ⟨c0, c1⟩ := rd_byte hc e0 e1
        generalize rd code ((i + 1) % (code.length : Int)) = c at c0 c1 ⊢
        rw [wrap_id (x := c) (by omega) (by omega), wrap_id (x := (b + q * 3) * 251) (by omega) (by omega), wrap_id (x := (b + q * 3) * 251 + c) (by omega) (by omega), Int.tmod_eq_emod_of_nonneg (by omega)]
        exact ⟨_, rfl, Int.emod_nonneg _ (by omega), Int.emod_lt_of_pos _ (by omega)⟩
      · rw [if_neg hbig, if_neg (by omega), Int.tmod_eq_emod_of_nonneg (by omega)]
        exact ⟨_, rfl, Int.emod_nonneg _ (by omega), Int.emod_lt_of_pos _ (by omega)⟩

theorem zeros_bytes (n : Nat) : Bytes (List.replicate n (0 : Int)) := fun x hx => by
  rw [(List.mem_replicate.1 hx).2]
  omega
theorem key_ok (code : List Int) (at_ : Int) (hc : Bytes code) (hl : code.length ≤ 1048576) (h0 : 0 ≤ at_) (h1 : at_ ≤ 100000000) : ∃ v, spec_l14Key.f code at_ = some (v, at_ + 1 + 1 + 1) := by
  obtain ⟨a, ea, _⟩ := next_ok code at_ 99 hc hl h0 (by omega) (by omega)
  obtain ⟨b, eb, _⟩ := next_ok code (at_ + 1) 99 hc hl (by omega) (by omega) (by omega)
  obtain ⟨v, _, ev⟩ := pick_ok code (at_ + 1 + 1) [a, b, 4294967295, 4294967296, 0, (-1)] hc hl (by omega) (by omega) (by simp) (by simp)
  refine ⟨v, ?_⟩
  unfold spec_l14Key.f
  simp only [ea, eb, ev, Option.bind_some]
theorem seq_ok (code : List Int) (at_ : Int) (hc : Bytes code) (hl : code.length ≤ 1048576) (h0 : 0 ≤ at_) (h1 : at_ ≤ 100000000) : ∃ v, spec_l14Seq.f code at_ = some (v, at_ + 1 + 1 + 1) := by
  obtain ⟨a, ea, _⟩ := next_ok code at_ 99 hc hl h0 (by omega) (by omega)
  obtain ⟨b, eb, _⟩ := next_ok code (at_ + 1) 99 hc hl (by omega) (by omega) (by omega)
  obtain ⟨v, _, ev⟩ := pick_ok code (at_ + 1 + 1) [a, b, 1099511627776, 1099511627777, 1, (-1)] hc hl (by omega) (by omega) (by simp) (by simp)
  refine ⟨v, ?_⟩
  unfold spec_l14Seq.f
  simp only [ea, eb, ev, Option.bind_some]
theorem draw_tag (code : List Int) (hc : Bytes code) (hl : code.length ≤ 1048576) : ∃ key seq data, Ev (fun k => spec_DrawTagOf.f k code) (key, seq, data) ∧ Bytes data ∧ data.length ≤ 501 := by
  obtain ⟨key, ek⟩ := key_ok code 0 hc hl (by omega) (by omega)
  obtain ⟨seq, es⟩ := seq_ok code (0 + 1 + 1 + 1) hc hl (by omega) (by omega)
  obtain ⟨r, at1, e, hr, hlen, g0, g1⟩ := data_ok code hc hl (0 + 1 + 1 + 1 + 1 + 1 + 1) (by omega) (by omega)
  obtain ⟨b, eb⟩ := chance_ok code at1 20 hc hl (by omega) (by omega) (by omega)
  by_cases hb : b = 0
  · refine ⟨key, seq, List.replicate 501 0, ?_, zeros_bytes _, by rw [List.length_replicate]; exact Nat.le_refl _⟩
    unfold spec_DrawTagOf.f
    simp only [source_eq, ek, es, Option.bind_some]
    refine Ev.bind e ?_
    simp only [spec_l1Chance.f, eb, Option.bind_some, hb, beq_self_eq_true, if_true]
    rw [if_pos (by decide)]
    exact Ev.now _
  · refine ⟨key, seq, r, ?_, hr, by omega⟩
    unfold spec_DrawTagOf.f
    simp only [source_eq, ek, es, Option.bind_some]
    refine Ev.bind e ?_
    simp only [spec_l1Chance.f, eb, Option.bind_some, beq_eq_false_iff_ne.2 hb, Bool.false_eq_true, if_false]
    exact Ev.now _
theorem draw_seal (code : List Int) (hc : Bytes code) (hl : code.length ≤ 1048576) : ∃ key seq data, Ev (fun k => spec_DrawSealBytes.f k code) (key, seq, data) ∧ Bytes data ∧ data.length ≤ 501 := by
  obtain ⟨key, seq, r, e, hr, hlen⟩ := draw_tag code hc hl
  obtain ⟨b, eb⟩ := chance_ok code 0 12 hc hl (by omega) (by omega) (by omega)
  by_cases hb : b = 0
  · obtain ⟨c, ec, c0, c1, _⟩ := next_ok code (0 + 1) 2 hc hl (by omega) (by omega) (by omega)
    have c2 := c1 (by omega)
    refine ⟨key, seq, List.replicate (480 + c).toNat 0, ?_, zeros_bytes _, by simp; omega⟩
    unfold spec_DrawSealBytes.f
    simp only [source_eq, Option.bind_some]
    refine Ev.bind e ?_
    simp only [spec_l1Chance.f, eb, Option.bind_some, hb, beq_self_eq_true, if_true, ec]
    rw [wrap_id (by omega) (by omega), if_pos (by omega), if_pos (by omega)]
    exact Ev.now _
  · refine ⟨key, seq, r, ?_, hr, hlen⟩
    unfold spec_DrawSealBytes.f
    simp only [source_eq, Option.bind_some]
    refine Ev.bind e ?_
    simp only [spec_l1Chance.f, eb, Option.bind_some, beq_eq_false_iff_ne.2 hb, Bool.false_eq_true, if_false]
    exact Ev.now _

theorem FnSeals : laws_FnSeals.Pure := by
  intro l0 hm hl hw
  have hb := bytes_of_wf hw
  refine Ev.rounds ?_
  unfold laws_FnSeals.f
  rw [big_eq]
  simp only [Option.bind_some]
  by_cases big : (l0.length : Int) > 1048576
  · simp only [decide_eq_true big, if_true]
    exact Ev.now _
  · simp only [decide_eq_false big, Bool.false_eq_true, if_false]
    obtain ⟨key, seq, data, ed, hd, hdl⟩ := draw_seal l0 hb (by omega)
    refine Ev.bind ed ?_
    simp only
    by_cases hk : Key key ∧ Seq seq
    · by_cases hq : data.length ≤ 480
      · refine Ev.bind (Seal_ok key seq data hk hd hq) ?_
        simp only [if_true]
        have ho := Open_ev key seq (body key seq data) (put4 (tg (h0 key seq) (body key seq data))) hk (body_bytes key seq hd) (put4_bytes _) (by rw [body_length]; omega) rfl
        rw [opened_sealed key seq hd] at ho
        refine Ev.bind ho ?_
        simp only [if_true]
        have hsl := sealed_length key seq data
        have hsb := sealed_bytes key seq hd
        obtain ⟨i, ei, i0, i1⟩ := at_ok l0 1 ((sealed key seq data).length : Int) hb (by omega) (by omega) (by omega) (by omega) (by omega)
        obtain ⟨j, ej, j0, j1⟩ := at_ok l0 2 255 hb (by omega) (by omega) (by omega) (by omega) (by omega)
        have hbyte : IsByte (1 + j) := ⟨by omega, by omega⟩
        have hri := rd_byte hsb i0 i1
        have hx : IsByte (xr (rd (sealed key seq data) i) (1 + j)) := xr_byte hri hbyte
        have hin : i.toNat < (sealed key seq data).length := by omega
        have hg : rd (sealed key seq data) i = (sealed key seq data)[i.toNat] := by
          have := rd_get (sealed key seq data) i.toNat hin
          rwa [Int.toNat_of_nonneg i0] at this
        have ht := turned_seen key seq hk hd hq i.toNat (xr (rd (sealed key seq data) i) (1 + j)) hin hx (by rw [← hg]; exact xr_ne hri hbyte (by omega))
        refine Ev.step (f := fun k => (impl_OpenBytes.f k key seq ((sealed key seq data).set i.toNat (xr (rd (sealed key seq data) i) (1 + j)))).bind fun t => some (t.1 == 6)) (fun k => ?_) (Ev.bind ht (Ev.now _))
        simp only [laws_FnSeals.j0]
        have hw4 : wrap64 ((data.length : Int) + 4) = data.length + 4 := wrap_id (by omega) (by omega)
        rw [if_neg (by rw [hw4]; simp; omega)]
        simp only [Option.bind_some, List.nil_append]
        rw [if_pos (by simp; omega), ei]
        simp only [Option.bind_some]
        rw [if_pos i0, if_pos i1, ej]
        simp only [Option.bind_some]
        have hw1 : wrap64 (1 + j) % 256 = 1 + j := by rw [wrap_id (by omega) (by omega)]; omega
        rw [hw1]
        rfl
      · refine Ev.bind (Seal_many key seq data hk (by omega)) ?_
        simp only [if_neg (show ¬ (2 : Int) = 0 by decide)]
        refine Ev.bind (specSeal_many key seq data hk (by omega)) ?_
        exact Ev.now _
    · refine Ev.bind (Seal_bad key seq data hk) ?_
      simp only [if_neg (show ¬ (3 : Int) = 0 by decide)]
      refine Ev.bind (specSeal_bad key seq data hk) ?_
      exact Ev.now _

end Go.Proofs.Ytojimlmflfiijaa.Pure
