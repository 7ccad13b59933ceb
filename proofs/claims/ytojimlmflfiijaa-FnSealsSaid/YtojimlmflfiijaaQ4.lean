/- Plain laws of sealing: numbers in four bytes and back, what is sealed, what is opened, and that one turned byte is seen. -/
import Derived.Test.YtojimlmflfiijaaQ3
set_option linter.unusedSimpArgs false
set_option linter.unusedVariables false
namespace Go.Proofs.Ytojimlmflfiijaa.Q
open Go.RowKit Go.Proofs.Ytojimlmflfiijaa.PA Go.Proofs.YtojimlmflfiijaaW.PrintWords Go.Proofs.YtojimlmflfiijaaW.PrintLast Go.Proofs.YtojimlmflfiijaaW.PrintMore

/-- A number's lowest four bytes, the highest first. -/
def put4 (t : Int) : List Int := [t / 16777216 % 256, t / 65536 % 256, t / 256 % 256, t % 256]
theorem put4_length (t : Int) : (put4 t).length = 4 := rfl
theorem put4_bytes (t : Int) : Bytes (put4 t) := fun x hx => by
  simp only [put4, List.mem_cons, List.not_mem_nil, or_false] at hx
  rcases hx with rfl | rfl | rfl | rfl <;> omega
theorem put4_ev (t : Int) : Ev (fun k => impl_put.f k t 4) (put4 t) := by
  refine ⟨5, fun k hk => ?_⟩
  obtain ⟨m, rfl⟩ : ∃ m, k = m + 5 := ⟨k - 5, by omega⟩
  have e1 : t / 256 / 256 / 256 % 256 = t / 16777216 % 256 := by omega
  have e2 : t / 256 / 256 % 256 = t / 65536 % 256 := by omega
  simp [impl_put.f, impl_put.l0, wrap64, put4, List.replicate, e1, e2]
theorem specBytes4_ev (t : Int) : Ev (fun k => spec_l1Bytes.f k t 4) (put4 t) := by
  refine ⟨5, fun k hk => ?_⟩
  obtain ⟨m, rfl⟩ : ∃ m, k = m + 5 := ⟨k - 5, by omega⟩
  simp [spec_l1Bytes.f, spec_l1Bytes.l0, wrap64, put4, IntKind.wrap, IntKind.bits, IntKind.signed, shr]

/-- The number of some bytes. -/
def num : Int → List Int → Int
  | x, [] => x
  | x, b :: l => num (x * 256 + b) l
theorem or_byte {x b : Int} (h0 : 0 ≤ x) (h1 : x ≤ 1000000000000) (hb : IsByte b) : Go.bits .or .i64 (x * 256) b = x * 256 + b := by
  have := hb.1; have := hb.2
  exact bits_join .i64 60 (by decide) (fun n a c => by rw [IntKind.wrap_i64]; omega) 8 (x * 256) b (by omega) (by omega) (by omega) (by omega) (by omega) (by omega)
theorem take_loop (l : List Int) (hb : Bytes l) (hl : l.length ≤ 5) (n : Nat) : ∀ (x : Int) (i : Nat), i + n = l.length → 0 ≤ x → (i = 0 → x = 0) → (i = 1 → x < 256) → (i = 2 → x < 65536) → (i = 3 → x < 16777216) → (i = 4 → x < 4294967296) → Ev (fun k => impl_take.l0 k x l (l.length : Int) (i : Int)) (num x (l.drop i)) := by
  induction n with
  | zero =>
    intro x i hi _ _ _ _ _ _
    refine Ev.step (f := fun _ => some (num x (l.drop i))) (fun k => ?_) (Ev.now _)
    simp only [impl_take.l0]
    rw [if_neg (by omega), List.drop_eq_nil_of_le (by omega)]
    rfl
  | succ n ih =>
    intro x i hi h0 a0 a1 a2 a3 a4
    have hlt : i < l.length := by omega
    have hbi := hb l[i] (List.getElem_mem hlt)
    have hx : x ≤ 4294967296 := by
      have : i = 0 ∨ i = 1 ∨ i = 2 ∨ i = 3 ∨ i = 4 := by omega
      rcases this with h | h | h | h | h
      · have := a0 h; omega
      · have := a1 h; omega
      · have := a2 h; omega
      · have := a3 h; omega
      · have := a4 h; omega
    rw [List.drop_eq_getElem_cons hlt]
    have e := ih (x * 256 + l[i]) (i + 1) (by omega) (by omega) (by omega) (fun h => by have := a0 (by omega); omega) (fun h => by have := a1 (by omega); omega) (fun h => by have := a2 (by omega); omega) (fun h => by have := a3 (by omega); omega)
    refine Ev.step (fun k => ?_) e
    simp only [impl_take.l0]
    rw [if_pos (by omega), if_pos (by omega), if_pos (by omega), rd_get l i hlt, wrap_id (x := l[i]) (by omega) (by omega), wrap_id (x := x * 256) (by omega) (by omega), or_byte h0 (by omega) hbi, wrap_id (x := (i : Int) + 1) (by omega) (by omega)]
    rfl
theorem take_ev (l : List Int) (hb : Bytes l) (hl : l.length ≤ 5) : Ev (fun k => impl_take.f k l) (num 0 l) := by
  unfold impl_take.f
  have := take_loop l hb hl l.length 0 0 (by omega) (by omega) (by omega) (by omega) (by omega) (by omega) (by omega)
  simpa using this
theorem num_put4 {t : Int} (h0 : 0 ≤ t) (h1 : t < 4294967296) : num 0 (put4 t) = t := by
  simp only [put4, num]
  omega
/-- A list of four bytes is what its number is put into. -/
theorem put4_num {l : List Int} (hb : Bytes l) (hl : l.length = 4) : put4 (num 0 l) = l := by
  match l, hl with
  | [a, b, c, d], _ =>
    have ha := hb a (by simp); have hb' := hb b (by simp); have hc := hb c (by simp); have hd := hb d (by simp)
    simp only [num, put4]
    congr 1
    · omega
    · congr 1
      · omega
      · congr 1
        · omega
        · congr 1
          omega

def Key (key : Int) : Prop := 0 ≤ key ∧ key ≤ 4294967295
def Seq (seq : Int) : Prop := 0 ≤ seq ∧ seq ≤ 1099511627776
instance (key : Int) : Decidable (Key key) := inferInstanceAs (Decidable (_ ∧ _))
instance (seq : Int) : Decidable (Seq seq) := inferInstanceAs (Decidable (_ ∧ _))
theorem keyed_eq (key seq : Int) : impl_keyed.f key seq = some (decide (Key key ∧ Seq seq)) := by
  unfold impl_keyed.f impl_isKey.f
  simp only [in_eq, Option.bind_some]
  have e : decide (Key key ∧ Seq seq) = (decide (0 ≤ key ∧ key ≤ 4294967295) && decide (0 ≤ seq ∧ seq ≤ 1099511627776)) := by
    rw [← Bool.decide_and]
    rfl
  rw [e]
  by_cases hk : 0 ≤ key ∧ key ≤ 4294967295
  · rw [decide_eq_true hk, if_pos rfl, Bool.true_and]
  · rw [decide_eq_false hk, if_neg (by decide), Bool.false_and]
theorem asked_eq (key seq : Int) : spec_l14Asked.f key seq = some (if Key key ∧ Seq seq then 0 else 3) := by
  unfold spec_l14Asked.f
  simp only [l1In_eq, Option.bind_some]
  by_cases hk : 0 ≤ key ∧ key ≤ 4294967295
  · rw [decide_eq_true hk, if_pos rfl]
    by_cases hs : 0 ≤ seq ∧ seq ≤ 1099511627776
    · rw [decide_eq_true hs, if_pos rfl, if_pos ⟨hk, hs⟩]
    · rw [decide_eq_false hs, if_neg (by decide), if_neg (fun h => hs h.2)]
  · rw [decide_eq_false hk, if_neg (by decide), if_neg (fun h => hk h.1)]

/-- Bytes and their stream; and with their tag behind them. -/
def body (key seq : Int) (d : List Int) : List Int := mix (strm (x0 key seq) d.length) d
def sealed (key seq : Int) (d : List Int) : List Int := body key seq d ++ put4 (tg (h0 key seq) (body key seq d))
theorem body_length (key seq : Int) (d : List Int) : (body key seq d).length = d.length := by
  unfold body
  rw [mix_length _ _ (strm_length _ _), strm_length]
theorem body_bytes (key seq : Int) {d : List Int} (h : Bytes d) : Bytes (body key seq d) := mix_bytes _ _ (strm_bytes _ _) h
theorem body_back (key seq : Int) {d : List Int} (h : Bytes d) : body key seq (body key seq d) = d := by
  have h1 : body key seq (body key seq d) = mix (strm (x0 key seq) d.length) (mix (strm (x0 key seq) d.length) d) := by
    show mix (strm (x0 key seq) (body key seq d).length) (body key seq d) = _
    rw [body_length]
    rfl
  rw [h1]
  exact mix_back _ _ (strm_length _ _) (strm_bytes _ _) h
theorem sealed_length (key seq : Int) (d : List Int) : (sealed key seq d).length = d.length + 4 := by simp [sealed, body_length, put4_length]
theorem sealed_bytes (key seq : Int) {d : List Int} (h : Bytes d) : Bytes (sealed key seq d) := fun x hx => by
  rcases List.mem_append.1 hx with hx | hx
  · exact body_bytes key seq h x hx
  · exact put4_bytes _ x hx

theorem Seal_bad (key seq : Int) (d : List Int) (h : ¬ (Key key ∧ Seq seq)) : Ev (fun k => impl_SealBytes.f k key seq d) (3, []) := by
  unfold impl_SealBytes.f
  simp only [keyed_eq, Option.bind_some, decide_eq_false h, Bool.false_eq_true, if_false]
  exact Ev.now _
theorem Seal_many (key seq : Int) (d : List Int) (h : Key key ∧ Seq seq) (hl : (d.length : Int) > 480) : Ev (fun k => impl_SealBytes.f k key seq d) (2, []) := by
  unfold impl_SealBytes.f
  simp only [keyed_eq, Option.bind_some, decide_eq_true h, if_true, if_pos hl]
  exact Ev.now _
theorem Seal_ok (key seq : Int) (d : List Int) (h : Key key ∧ Seq seq) (hb : Bytes d) (hl : d.length ≤ 480) : Ev (fun k => impl_SealBytes.f k key seq d) (0, sealed key seq d) := by
  unfold impl_SealBytes.f
  simp only [keyed_eq, Option.bind_some, decide_eq_true h, if_true, if_neg (show ¬ ((d.length : Int) > 480) by omega)]
  refine Ev.bind (turned_ev h.1 h.2 d (by omega)) ?_
  have hl2 : (mix (strm (x0 key seq) d.length) d).length = d.length := body_length key seq d
  refine Ev.bind (tag_ev h.1 h.2 _ (mix_bytes _ _ (strm_bytes _ _) hb) (by omega)) ?_
  refine Ev.bind (put4_ev _) ?_
  simp only [put4_length, hl2, if_pos (show d.length + 4 < 140737488355328 by omega)]
  exact Ev.now _
theorem specSeal_bad (key seq : Int) (d : List Int) (h : ¬ (Key key ∧ Seq seq)) : Ev (fun k => spec_SealBytes.f k key seq d) (3, []) := by
  unfold spec_SealBytes.f
  simp only [asked_eq, Option.bind_some, if_neg h, if_neg (show ¬ (3 : Int) = 0 by decide)]
  exact Ev.now _
theorem specSeal_many (key seq : Int) (d : List Int) (h : Key key ∧ Seq seq) (hl : (d.length : Int) > 480) : Ev (fun k => spec_SealBytes.f k key seq d) (2, []) := by
  unfold spec_SealBytes.f
  simp only [asked_eq, Option.bind_some, if_pos h, if_true, if_pos hl]
  exact Ev.now _
theorem specSeal_ok (key seq : Int) (d : List Int) (h : Key key ∧ Seq seq) (hb : Bytes d) (hl : d.length ≤ 480) : Ev (fun k => spec_SealBytes.f k key seq d) (0, sealed key seq d) := by
  unfold spec_SealBytes.f
  simp only [asked_eq, Option.bind_some, if_pos h, if_true, if_neg (show ¬ ((d.length : Int) > 480) by omega)]
  refine Ev.bind (specMix_ev h.1 h.2 d (by omega)) ?_
  have hl2 : (mix (strm (x0 key seq) d.length) d).length = d.length := body_length key seq d
  refine Ev.bind (specTag_ev h.1 h.2 _ (mix_bytes _ _ (strm_bytes _ _) hb) (by omega)) ?_
  refine Ev.bind (specBytes4_ev _) ?_
  simp only [put4_length, hl2, if_pos (show d.length + 4 < 140737488355328 by omega)]
  exact Ev.now _

/-- What OpenBytes answers, at a right key and number, of bytes that are neither too few nor too many. -/
def opened (key seq : Int) (a b : List Int) : Int × List Int := if num 0 b = tg (h0 key seq) a then (0, body key seq a) else (6, [])
theorem Open_bad (key seq : Int) (d : List Int) (hl : d.length ≤ 100000) (h : ¬ (Key key ∧ Seq seq)) : Ev (fun k => impl_OpenBytes.f k key seq d) (3, []) := by
  unfold impl_OpenBytes.f
  simp only [keyed_eq, Option.bind_some, decide_eq_false h, Bool.false_eq_true, if_false]
  exact Ev.now _
theorem Open_text (key seq : Int) (d : List Int) (h : Key key ∧ Seq seq) (hl : d.length ≤ 100000) (hn : (d.length : Int) < 4 ∨ (d.length : Int) > 484) : Ev (fun k => impl_OpenBytes.f k key seq d) (5, []) := by
  unfold impl_OpenBytes.f
  simp only [keyed_eq, Option.bind_some, decide_eq_true h, if_true, in_eq]
  rw [wrap_id (x := (d.length : Int) - 4) (by omega) (by omega)]
  simp only [decide_eq_false (show ¬ (0 ≤ (d.length : Int) - 4 ∧ (d.length : Int) - 4 ≤ 480) by omega), Bool.false_eq_true, if_false]
  exact Ev.now _
theorem Open_ev (key seq : Int) (a b : List Int) (h : Key key ∧ Seq seq) (ha : Bytes a) (hb : Bytes b) (hl : a.length ≤ 480) (h4 : b.length = 4) : Ev (fun k => impl_OpenBytes.f k key seq (a ++ b)) (opened key seq a b) := by
  unfold impl_OpenBytes.f
  have hlen : ((a ++ b).length : Int) = a.length + 4 := by simp [h4]
  have hw : wrap64 ((((a ++ b).length : Nat) : Int) - 4) = a.length := by rw [hlen, wrap_id (by omega) (by omega)]; omega
  simp only [keyed_eq, Option.bind_some, decide_eq_true h, if_true, in_eq, hw, decide_eq_true (show 0 ≤ (a.length : Int) ∧ (a.length : Int) ≤ 480 by omega), if_pos (show 0 ≤ (a.length : Int) by omega), if_pos (show (a.length : Int) ≤ ((a ++ b).length : Int) by omega), Int.toNat_natCast, List.drop_left, List.take_left]
  refine Ev.bind (take_ev b hb (by omega)) ?_
  refine Ev.bind (tag_ev h.1 h.2 a ha (by omega)) ?_
  unfold opened
  by_cases e : num 0 b = tg (h0 key seq) a
  · simp only [if_pos e]
    exact Ev.bind (turned_ev h.1 h.2 a (by omega)) (Ev.now _)
  · simp only [if_neg e]
    exact Ev.now _
theorem opened_sealed (key seq : Int) {d : List Int} (hb : Bytes d) : opened key seq (body key seq d) (put4 (tg (h0 key seq) (body key seq d))) = (0, d) := by
  have hr := tg_range (body key seq d) (h0 key seq) (h0_range _ _).1 (h0_range _ _).2
  unfold opened
  rw [if_pos (num_put4 hr.1 (by omega)), body_back key seq hb]
theorem split_at {l : List Int} (h : 4 ≤ l.length) : l = l.take (l.length - 4) ++ l.drop (l.length - 4) := (List.take_append_drop _ _).symm
/-- One byte turned is seen. -/
theorem turned_seen (key seq : Int) {d : List Int} (h : Key key ∧ Seq seq) (hb : Bytes d) (hl : d.length ≤ 480) (i : Nat) (v : Int) (hi : i < (sealed key seq d).length) (hv : IsByte v) (hne : v ≠ (sealed key seq d)[i]) :
    Ev (fun k => impl_OpenBytes.f k key seq ((sealed key seq d).set i v)) (6, []) := by
  have hr := tg_range (body key seq d) (h0 key seq) (h0_range _ _).1 (h0_range _ _).2
  have hbl := body_length key seq d
  have hbb := body_bytes key seq hb
  by_cases hlt : i < (body key seq d).length
  · have e : (sealed key seq d).set i v = (body key seq d).set i v ++ put4 (tg (h0 key seq) (body key seq d)) := by
      unfold sealed
      rw [List.set_append_left _ _ hlt]
    have hg : (sealed key seq d)[i] = (body key seq d)[i] := List.getElem_append_left hlt
    have hbs : Bytes ((body key seq d).set i v) := fun x hx => by
      rcases List.mem_or_eq_of_mem_set hx with hx | rfl
      · exact hbb x hx
      · exact hv
    have o := Open_ev key seq ((body key seq d).set i v) (put4 (tg (h0 key seq) (body key seq d))) h hbs (put4_bytes _) (by simp; omega) rfl
    rw [e]
    have hs := tg_set (body key seq d) (h0 key seq) i v hlt (h0_range _ _).1 (h0_range _ _).2 (hbb _ (List.getElem_mem hlt)) hv (by rw [← hg]; exact hne)
    unfold opened at o
    rw [if_neg (by rw [num_put4 hr.1 (by omega)]; exact fun e => hs e.symm)] at o
    exact o
  · have hl2 : i - (body key seq d).length < (put4 (tg (h0 key seq) (body key seq d))).length := by
      have := sealed_length key seq d
      rw [put4_length]
      omega
    have e : (sealed key seq d).set i v = body key seq d ++ (put4 (tg (h0 key seq) (body key seq d))).set (i - (body key seq d).length) v := by
      unfold sealed
      rw [List.set_append_right _ _ (by omega)]
    have hg : (sealed key seq d)[i] = (put4 (tg (h0 key seq) (body key seq d)))[i - (body key seq d).length] := List.getElem_append_right (by omega)
    have hbs : Bytes ((put4 (tg (h0 key seq) (body key seq d))).set (i - (body key seq d).length) v) := fun x hx => by
      rcases List.mem_or_eq_of_mem_set hx with hx | rfl
      · exact put4_bytes _ x hx
      · exact hv
    have o := Open_ev key seq (body key seq d) _ h hbb hbs (by omega) (by simp [put4_length])
    rw [e]
    unfold opened at o
    rw [if_neg (fun q => by
      have h1 := put4_num hbs (by simp [put4_length])
      rw [q] at h1
      have h2 : (put4 (tg (h0 key seq) (body key seq d)))[i - (body key seq d).length] = ((put4 (tg (h0 key seq) (body key seq d))).set (i - (body key seq d).length) v)[i - (body key seq d).length]'(by simpa using hl2) := List.getElem_of_eq h1 hl2
      rw [List.getElem_set_self] at h2
      rw [hg, h2] at hne
      exact hne rfl)] at o
    exact o
end Go.Proofs.Ytojimlmflfiijaa.Q
