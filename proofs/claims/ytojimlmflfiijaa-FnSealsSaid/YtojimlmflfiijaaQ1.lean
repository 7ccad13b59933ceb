/- Plain laws of the draws: what reads the code's bytes answers, and what comes of it lies in its bounds. -/
import Derived.Test.YtojimlmflfiijaaPA1
set_option linter.unusedSimpArgs false
set_option linter.unusedVariables false
namespace Go.Proofs.Ytojimlmflfiijaa.Q
open Go.RowKit Go.Proofs.Ytojimlmflfiijaa.PA Go.Proofs.YtojimlmflfiijaaW.PrintWords Go.Proofs.YtojimlmflfiijaaW.PrintLast

theorem wrap_id {x : Int} (h0 : -9223372036854775808 ≤ x) (h1 : x ≤ 9223372036854775807) : wrap64 x = x := by
  unfold wrap64
  omega
/-- The list's numbers are bytes. -/
def Bytes (l : List Int) : Prop := ∀ x ∈ l, 0 ≤ x ∧ x ≤ 255
theorem rd_mem {l : List Int} {i : Int} (h0 : 0 ≤ i) (h1 : i < (l.length : Int)) : rd l i ∈ l := by
  unfold rd
  have h : i.toNat < l.length := by omega
  rw [List.getD_eq_getElem?_getD, List.getElem?_eq_getElem h]
  exact List.getElem_mem h
theorem rd_byte {l : List Int} (hb : Bytes l) {i : Int} (h0 : 0 ≤ i) (h1 : i < (l.length : Int)) : 0 ≤ rd l i ∧ rd l i ≤ 255 := hb _ (rd_mem h0 h1)

theorem next_ok (code : List Int) (at_ n : Int) (hc : Bytes code) (hl : code.length ≤ 1048576) (h0 : 0 ≤ at_) (h1 : at_ ≤ 1000000000) (hn : n ≤ 8589934592) :
    ∃ v, spec_l1Next.f code at_ n = some (v, at_ + 1) ∧ 0 ≤ v ∧ (1 ≤ n → v < n) ∧ (n < 1 → v = 0) := by
  unfold spec_l1Next.f
  have w1 : wrap64 (at_ + 1) = at_ + 1 := wrap_id (by omega) (by omega)
  have w2 : wrap64 (at_ + 1 - 1) = at_ := by rw [wrap_id (by omega) (by omega)]; omega
  rw [w1, w2]
  by_cases hn1 : n < 1
  · rw [if_pos hn1]
    exact ⟨0, rfl, by omega, by omega, fun _ => rfl⟩
  · rw [if_neg hn1]
    have hnp : 0 < n := by omega
    by_cases hk : (code.length : Int) = 0
    · rw [if_pos hk, if_neg (by omega)]
      rw [wrap_id (x := at_ * 7) (by omega) (by omega), Int.tmod_eq_emod_of_nonneg (by omega)]
      exact ⟨_, rfl, Int.emod_nonneg _ (by omega), fun _ => Int.emod_lt_of_pos _ hnp, by omega⟩
    · rw [if_neg hk]
      have hkp : 0 < (code.length : Int) := by omega
      rw [Int.tmod_eq_emod_of_nonneg h0, Int.tdiv_eq_ediv_of_nonneg h0]
      have m0 := Int.emod_nonneg at_ hk
      have m1 := Int.emod_lt_of_pos at_ hkp
      rw [if_pos m0, if_pos m1]
      obtain ⟨b0, b1⟩ := rd_byte hc m0 m1
      have d0 : 0 ≤ at_ / (code.length : Int) := Int.ediv_nonneg h0 (by omega)
      have d1 : at_ / (code.length : Int) ≤ at_ := Int.ediv_le_self _ h0
      generalize at_ / (code.length : Int) = q at d0 d1 ⊢
      generalize rd code (at_ % (code.length : Int)) = b at b0 b1 ⊢
      rw [wrap_id (x := b) (by omega) (by omega), wrap_id (x := q) (by omega) (by omega), wrap_id (x := q * 37) (by omega) (by omega), wrap_id (x := b + q * 37) (by omega) (by omega)]
      by_cases hbig : n > 200
      · rw [if_pos hbig, w1, Int.tmod_eq_emod_of_nonneg (show 0 ≤ at_ + 1 by omega)]
        have e0 := Int.emod_nonneg (at_ + 1) hk
        have e1 := Int.emod_lt_of_pos (at_ + 1) hkp
        rw [if_pos e0, if_pos e1, if_neg (by omega)]
        obtain ⟨c0, c1⟩ := rd_byte hc e0 e1
        generalize rd code ((at_ + 1) % (code.length : Int)) = c at c0 c1 ⊢
        rw [wrap_id (x := c) (by omega) (by omega), wrap_id (x := (b + q * 37) * 251) (by omega) (by omega), wrap_id (x := c * 13) (by omega) (by omega), wrap_id (x := (b + q * 37) * 251 + c * 13) (by omega) (by omega), wrap_id (x := (b + q * 37) * 251 + c * 13 + at_) (by omega) (by omega), Int.tmod_eq_emod_of_nonneg (by omega)]
        exact ⟨_, rfl, Int.emod_nonneg _ (by omega), fun _ => Int.emod_lt_of_pos _ hnp, by omega⟩
      · rw [if_neg hbig, if_neg (by omega), Int.tmod_eq_emod_of_nonneg (by omega)]
        exact ⟨_, rfl, Int.emod_nonneg _ (by omega), fun _ => Int.emod_lt_of_pos _ hnp, by omega⟩

theorem pick_ok (code : List Int) (at_ : Int) (l : List Int) (hc : Bytes code) (hl : code.length ≤ 1048576) (h0 : 0 ≤ at_) (h1 : at_ ≤ 1000000000) (hp : 0 < l.length) (hq : l.length ≤ 1000) :
    ∃ v, v ∈ l ∧ spec_l1Pick.f code at_ l = some (v, at_ + 1) := by
  obtain ⟨j, e, j0, j1, _⟩ := next_ok code at_ (l.length : Int) hc hl h0 h1 (by omega)
  have j2 := j1 (by omega)
  refine ⟨rd l j, rd_mem j0 j2, ?_⟩
  unfold spec_l1Pick.f
  rw [e]
  simp only [Option.bind_some]
  rw [if_pos j0, if_pos j2]

theorem chance_ok (code : List Int) (at_ n : Int) (hc : Bytes code) (hl : code.length ≤ 1048576) (h0 : 0 ≤ at_) (h1 : at_ ≤ 1000000000) (hn : n ≤ 8589934592) :
    ∃ b, spec_l1Next.f code at_ n = some (b, at_ + 1) := by
  obtain ⟨j, e, _⟩ := next_ok code at_ n hc hl h0 h1 hn
  exact ⟨j, e⟩

theorem some_loop (code : List Int) (hc : Bytes code) (hl : code.length ≤ 1048576) (d : Nat) : ∀ (n : Int) (out : List Int) (at_ : Int), n = d → (out.length : Int) + n ≤ 2000 → Bytes out → 0 ≤ at_ → at_ + 3 * n ≤ 900000000 →
    ∃ r, Ev (fun k => spec_l1Some.l0 k n out code at_) (r, at_ + 3 * n) ∧ Bytes r ∧ r.length = out.length + d := by
  induction d with
  | zero =>
    intro n out at_ hn _ hb h0 h1
    refine ⟨out, ?_, hb, by omega⟩
    refine Ev.step (f := fun _ => some (out, at_)) (fun k => ?_) ?_
    · simp only [spec_l1Some.l0]
      rw [if_neg (by omega)]
    · have : at_ + 3 * n = at_ := by omega
      rw [this]
      exact Ev.now _
  | succ d ih =>
    intro n out at_ hn hm hb h0 h1
    obtain ⟨a, ea, a0, a1, _⟩ := next_ok code at_ 256 hc hl h0 (by omega) (by omega)
    obtain ⟨b, eb, b0, b1, _⟩ := next_ok code (at_ + 1) 256 hc hl (by omega) (by omega) (by omega)
    obtain ⟨v, hv, ev⟩ := pick_ok code (at_ + 1 + 1) [a, b, 0, 255] hc hl (by omega) (by omega) (by simp) (by simp)
    have hv2 : 0 ≤ v ∧ v ≤ 255 := by
      simp only [List.mem_cons, List.not_mem_nil, or_false] at hv
      rcases hv with rfl | rfl | rfl | rfl <;> omega
    have hvm : v % 256 = v := by omega
    obtain ⟨r, er, hr, hlen⟩ := ih (n - 1) (out ++ [v]) (at_ + 3) (by omega) (by simp; omega) (by
      intro x hx
      rcases List.mem_append.1 hx with hx | hx
      · exact hb x hx
      · rw [List.mem_singleton.1 hx]; exact hv2) (by omega) (by omega)
    refine ⟨r, ?_, hr, by simp at hlen; omega⟩
    refine Ev.step (f := fun k => spec_l1Some.l0 k (n - 1) (out ++ [v]) code (at_ + 3)) (fun k => ?_) ?_
    · simp only [spec_l1Some.l0]
      rw [if_pos (by omega), ea]
      simp only [Option.bind_some]
      rw [eb]
      simp only [Option.bind_some]
      rw [ev]
      simp only [Option.bind_some]
      rw [if_pos (by omega), wrap_id (by omega) (by omega), hvm]
      have : at_ + 1 + 1 + 1 = at_ + 3 := by omega
      rw [this]
    · have : at_ + 3 * n = at_ + 3 + 3 * (n - 1) := by omega
      rw [this]
      exact er

theorem some_ok (code : List Int) (hc : Bytes code) (hl : code.length ≤ 1048576) (n at_ : Int) (hn : n ≤ 1000) (h0 : 0 ≤ at_) (h1 : at_ ≤ 500000000) :
    ∃ r at1, Ev (fun k => spec_l1Some.f k code at_ n) (r, at1) ∧ Bytes r ∧ (r.length : Int) = max n 0 ∧ at_ ≤ at1 ∧ at1 ≤ at_ + 3000 := by
  by_cases hp : 0 ≤ n
  · obtain ⟨d, rfl⟩ := Int.eq_ofNat_of_zero_le hp
    obtain ⟨r, e, hr, hlen⟩ := some_loop code hc hl d (d : Int) [] at_ rfl (by simp; omega) (fun x hx => by simp at hx) h0 (by omega)
    exact ⟨r, _, e, hr, by simp at hlen; omega, by omega, by omega⟩
  · refine ⟨[], at_, ?_, fun x hx => by simp at hx, by simp; omega, by omega, by omega⟩
    refine Ev.step (g := fun k => spec_l1Some.l0 k n [] code at_) (f := fun _ => some ([], at_)) (fun k => ?_) (Ev.now _)
    simp only [spec_l1Some.l0]
    rw [if_neg (by omega)]

theorem data_ok (code : List Int) (hc : Bytes code) (hl : code.length ≤ 1048576) (at_ : Int) (h0 : 0 ≤ at_) (h1 : at_ ≤ 400000000) :
    ∃ r at1, Ev (fun k => spec_l1Data.f k code at_) (r, at1) ∧ Bytes r ∧ r.length ≤ 401 ∧ at_ ≤ at1 ∧ at1 ≤ at_ + 4000 := by
  obtain ⟨a, ea, a0, a1, _⟩ := next_ok code at_ 9 hc hl h0 (by omega) (by omega)
  obtain ⟨b, eb, b0, b1, _⟩ := next_ok code (at_ + 1) 30 hc hl (by omega) (by omega) (by omega)
  obtain ⟨c, ec, c0, c1, _⟩ := next_ok code (at_ + 1 + 1) 30 hc hl (by omega) (by omega) (by omega)
  obtain ⟨v, hv, ev⟩ := pick_ok code (at_ + 1 + 1 + 1) [a, b, c, 0, 400, 401] hc hl (by omega) (by omega) (by simp) (by simp)
  have hv2 : 0 ≤ v ∧ v ≤ 401 := by
    have a2 := a1 (by omega); have b2 := b1 (by omega); have c2 := c1 (by omega)
    simp only [List.mem_cons, List.not_mem_nil, or_false] at hv
    rcases hv with rfl | rfl | rfl | rfl | rfl | rfl <;> omega
  obtain ⟨r, at1, er, hr, hlen, g0, g1⟩ := some_ok code hc hl v (at_ + 1 + 1 + 1 + 1) (by omega) (by omega) (by omega)
  refine ⟨r, at1, ?_, hr, by omega, by omega, by omega⟩
  unfold spec_l1Data.f
  rw [ea]; simp only [Option.bind_some]
  rw [eb]; simp only [Option.bind_some]
  rw [ec]; simp only [Option.bind_some]
  rw [ev]; simp only [Option.bind_some]
  exact Ev.bind er (Ev.now _)

theorem source_eq (l : List Int) : spec_l1Source.f l = some (l, 0) := rfl
theorem big_eq (l : List Int) : laws_lwBig.f l = some (decide ((l.length : Int) > 1048576)) := rfl
/-- What came in as bytes is bytes. -/
theorem bytes_of_wf {l : List Int} (h : ∀ x ∈ l, (Lit.int .u8 x).wf = true) : Bytes l := fun x hx => by
  have h1 := h x hx
  have h2 : decide ((0 : Int) ≤ x) = true ∧ decide (x ≤ 255) = true := by simpa [Lit.wf, IntKind.min, IntKind.max, IntKind.signed, IntKind.bits] using h1
  exact ⟨of_decide_eq_true h2.1, of_decide_eq_true h2.2⟩
end Go.Proofs.Ytojimlmflfiijaa.Q
