/- The plain law of FnExactWordsOf: byte by byte and by the library's FieldsFunc a line has the same words; what is marked is held. -/
import Derived.Test.YtnmalfbjdhgicaaPA2
import Derived.Test.YtnmalfbjdhgicaaQ1
set_option linter.unusedSimpArgs false
set_option linter.unusedVariables false
namespace Go.Proofs.Ytnmalfbjdhgicaa.Pure
open Go.RowKit Go.Proofs.Ytnmalfbjdhgicaa.PA Go.Proofs.Ytnmalfbjdhgicaa.Q Go.Lib Go.Proofs.YtnmalfbjdhgicaaW.PrintWords Go.Proofs.YtnmalfbjdhgicaaW.PrintLast
theorem wrap_id {x : Int} (h0 : -9223372036854775808 ≤ x) (h1 : x ≤ 9223372036854775807) : wrap64 x = x := by
  unfold wrap64
  omega
/-- The pieces between blanks, the empty ones too: from where the piece began, at where it stands, so many bytes left. -/
def cutFrom (s : ByteArray) : Nat → Nat → Nat → List ByteArray
  | 0, a, i => [s.extract a i]
  | d + 1, a, i => if (s.get! i).toNat = 32 then s.extract a i :: cutFrom s d (i + 1) (i + 1) else cutFrom s d a (i + 1)
theorem cutFrom_zero (s : ByteArray) (a i : Nat) : cutFrom s 0 a i = [s.extract a i] := rfl
theorem cutFrom_succ (s : ByteArray) (d a i : Nat) : cutFrom s (d + 1) a i = if (s.get! i).toNat = 32 then s.extract a i :: cutFrom s d (i + 1) (i + 1) else cutFrom s d a (i + 1) := rfl
def full (b : ByteArray) : Bool := !decide (b.toList = [])
theorem toList_nil (b : ByteArray) : b.toList = [] ↔ b.size = 0 := by
  rw [ByteArray.toList_eq]
  constructor
  · intro h
    have := congrArg List.length h
    rw [data_length] at this
    exact this
  · intro h
    exact List.eq_nil_of_length_eq_zero (by rw [data_length]; exact h)
theorem full_extract (s : ByteArray) (a i : Nat) (h : a < i) (hi : i ≤ s.size) : full (s.extract a i) = true := by
  unfold full
  have : ¬ (s.extract a i).toList = [] := by rw [toList_nil, ByteArray.size_extract]; omega
  rw [decide_eq_false this]; rfl
theorem full_same (s : ByteArray) (a : Nat) : full (s.extract a a) = false := by
  unfold full
  have : (s.extract a a).toList = [] := by rw [toList_nil, ByteArray.size_extract]; omega
  rw [decide_eq_true this]; rfl
theorem cutFrom_length (s : ByteArray) (d : Nat) : ∀ a i, (cutFrom s d a i).length ≤ d + 1 := by
  induction d with
  | zero => intro a i; simp [cutFrom_zero]
  | succ d ih =>
    intro a i
    rw [cutFrom_succ]
    split
    · have := ih (i + 1) (i + 1); simp only [List.length_cons]; omega
    · have := ih a (i + 1); omega
/-- The spans' pieces are the full ones of the cut. -/
theorem words_eq (s : ByteArray) (d : Nat) : ∀ (i : Nat) (st : Option Nat) (acc : List (Nat × Nat)), i + d = s.size → (∀ a, st = some a → a < i) →
    (closeSpans s (bsp s d i st acc)).map (fun x => s.extract x.1 x.2) = acc.map (fun x => s.extract x.1 x.2) ++ (cutFrom s d (st.getD i) i).filter full := by
  induction d with
  | zero =>
    intro i st acc hi hst
    rw [bsp_zero, cutFrom_zero]
    cases st with
    | none => simp only [closeSpans, Option.getD_none, List.filter_cons, full_same, Bool.false_eq_true, if_false, List.filter_nil, List.append_nil]
    | some a =>
      have ha := hst a rfl
      have hf := full_extract s a i ha (by omega)
      have hsz : s.size = i := by omega
      simp only [closeSpans, Option.getD_some, List.filter_cons, hf, if_true, List.filter_nil, List.map_append, List.map_cons, List.map_nil, hsz]
  | succ d ih =>
    intro i st acc hi hst
    rw [cutFrom_succ]
    cases st with
    | none =>
      rw [bsp_none, if_pos (by omega)]
      by_cases hb : (s.get! i).toNat = 32
      · rw [if_pos hb, if_pos hb, ih _ _ _ (by omega) (fun a h => by cases h)]
        simp only [Option.getD_none, List.filter_cons, full_same, Bool.false_eq_true, if_false]
      · rw [if_neg hb, if_neg hb, ih _ _ _ (by omega) (fun a h => by cases h; omega)]
        simp only [Option.getD_none, Option.getD_some]
    | some a =>
      have ha := hst a rfl
      rw [bsp_some, if_pos (by omega)]
      by_cases hb : (s.get! i).toNat = 32
      · rw [if_pos hb, if_pos hb, ih _ _ _ (by omega) (fun a h => by cases h)]
        simp only [Option.getD_none, Option.getD_some, List.filter_cons, full_extract s a i ha (by omega), if_true, List.map_append, List.map_cons, List.map_nil, List.append_assoc, List.cons_append, List.nil_append]
      · rw [if_neg hb, if_neg hb, ih _ _ _ (by omega) (fun b h => by cases h; omega)]
        simp only [Option.getD_some]
/-- The words of a line. -/
def wordsL (s : ByteArray) : List ByteArray := (cutFrom s s.size 0 0).filter full
theorem fields_eq (s : ByteArray) : goFieldsP (fun r => r == 32) s = wordsL s := by
  unfold goFieldsP spansOfP wordsL
  rw [Go.Proofs.Ytnmalfbjdhgicaa.Q.spans_eq s s.size 0 none [] (by omega), words_eq s s.size 0 none [] (by omega) (fun a h => by cases h)]
  rfl
theorem bt_get (s : ByteArray) (i : Nat) (h : i < s.size) : bt s (i : Int) = ((s.get! i).toNat : Int) := by
  unfold bt
  rw [dif_pos (by simpa using h)]
  have : s.get! i = s[i] := by
    simp [ByteArray.get!, ByteArray.getElem_eq_getElem_data, h]
  rw [this]
  rfl
theorem cut_ev (s : ByteArray) (hs : s.size ≤ 1048576) (d : Nat) : ∀ (a i : Nat) (out : List ByteArray), i + d = s.size → a ≤ i → out.length + d ≤ 2000000 →
    Ev (fun k => spec_l18Cut.l0 k s 32 out (a : Int) (i : Int)) (out ++ cutFrom s d a i) := by
  induction d with
  | zero =>
    intro a i out hi ha ho
    refine Ev.step (f := fun k => spec_l18Cut.l0 k s 32 (out ++ [s.extract a i]) ((i + 1 : Nat) : Int) ((i + 1 : Nat) : Int)) (fun k => ?_) ?_
    · simp only [spec_l18Cut.l0]
      rw [if_pos (by omega), if_pos (by omega), if_pos (by omega), if_pos (by omega), if_pos (by omega), wrap_id (by omega) (by omega)]
      rfl
    · rw [cutFrom_zero]
      refine Ev.step (f := fun _ => some (out ++ [s.extract a i])) (fun k => ?_) (Ev.now _)
      simp only [spec_l18Cut.l0]
      rw [if_neg (by omega)]
  | succ d ih =>
    intro a i out hi ha ho
    rw [cutFrom_succ]
    have hb := bt_get s i (by omega)
    by_cases h : (s.get! i).toNat = 32
    · rw [if_pos h]
      refine Ev.step (f := fun k => spec_l18Cut.l0 k s 32 (out ++ [s.extract a i]) ((i + 1 : Nat) : Int) ((i + 1 : Nat) : Int)) (fun k => ?_) ?_
      · simp only [spec_l18Cut.l0]
        rw [if_pos (by omega), if_neg (by omega), if_pos (by omega), if_pos (by omega), if_pos (by omega), if_pos (by omega), if_pos (by omega), if_pos (by omega), wrap_id (by omega) (by omega)]
        rfl
      · have := ih (i + 1) (i + 1) (out ++ [s.extract a i]) (by omega) (by omega) (by simp; omega)
        rw [List.append_assoc] at this
        exact this
    · rw [if_neg h]
      refine Ev.step (f := fun k => spec_l18Cut.l0 k s 32 out (a : Int) ((i + 1 : Nat) : Int)) (fun k => ?_) ?_
      · simp only [spec_l18Cut.l0]
        rw [if_pos (by omega), if_neg (by omega), if_pos (by omega), if_pos (by omega), if_neg (by omega), wrap_id (by omega) (by omega)]
        rfl
      · exact ih a (i + 1) out (by omega) (by omega) (by omega)
theorem rdOf_get (l : List ByteArray) (i : Nat) (h : i < l.length) : rdOf ByteArray.empty l (i : Int) = l[i] := by
  unfold rdOf
  rw [List.getD_eq_getElem?_getD]
  simp [h]
theorem filter_ev (l : List ByteArray) (hl : l.length ≤ 2000000) (d : Nat) : ∀ (i : Nat) (out : List ByteArray), i + d = l.length → out.length + d ≤ 2000000 →
    Ev (fun k => spec_WordsOf.l0 k l (i : Int) 0 out) (0, out ++ (l.drop i).filter full) := by
  induction d with
  | zero =>
    intro i out hi ho
    refine Ev.step (f := fun _ => some (0, out)) (fun k => ?_) ?_
    · simp only [spec_WordsOf.l0]
      rw [if_neg (by omega)]
    · rw [List.drop_eq_nil_of_le (by omega), List.filter_nil, List.append_nil]
      exact Ev.now _
  | succ d ih =>
    intro i out hi ho
    have hlt : i < l.length := by omega
    have hr := rdOf_get l i hlt
    rw [List.drop_eq_getElem_cons hlt, List.filter_cons]
    by_cases h : l[i].toList = []
    · have hf : full l[i] = false := by unfold full; rw [decide_eq_true h]; rfl
      rw [hf]
      refine Ev.step (f := fun k => spec_WordsOf.l0 k l ((i + 1 : Nat) : Int) 0 out) (fun k => ?_) ?_
      · simp only [spec_WordsOf.l0]
        rw [if_pos (by omega), if_pos (by omega), hr, if_pos h, wrap_id (by omega) (by omega)]
        rfl
      · exact ih (i + 1) out (by omega) (by omega)
    · have hf : full l[i] = true := by unfold full; rw [decide_eq_false h]; rfl
      rw [hf]
      refine Ev.step (f := fun k => spec_WordsOf.l0 k l ((i + 1 : Nat) : Int) 0 (out ++ [l[i]])) (fun k => ?_) ?_
      · simp only [spec_WordsOf.l0]
        rw [if_pos (by omega), if_pos (by omega), hr, if_neg h, if_pos (by omega), wrap_id (by omega) (by omega)]
        rfl
      · have := ih (i + 1) (out ++ [l[i]]) (by omega) (by simp; omega)
        rw [List.append_assoc] at this
        exact this
theorem spec_ev (s : ByteArray) (hs : s.size ≤ 1048576) : Ev (fun k => spec_WordsOf.f k s) (0, wordsL s) := by
  unfold spec_WordsOf.f spec_l18Cut.f
  have h1 := cut_ev s hs s.size 0 0 [] (by omega) (by omega) (by simp; omega)
  refine Ev.bind h1 ?_
  have hl := cutFrom_length s s.size 0 0
  have h2 := filter_ev (cutFrom s s.size 0 0) (by omega) (cutFrom s s.size 0 0).length 0 [] (by omega) (by simp; omega)
  exact h2
theorem wordsL_length (s : ByteArray) (hs : s.size ≤ 1048576) : (wordsL s).length ≤ 1048577 := by
  have h1 := cutFrom_length s s.size 0 0
  have h2 := List.length_filter_le full (cutFrom s s.size 0 0)
  unfold wordsL
  omega
theorem eq_loop (l : List ByteArray) (hl : l.length ≤ 2000000) (d : Nat) : ∀ i : Nat, i + d = l.length → Ev (fun k => laws_eqStringS.l0 k l l (i : Int)) true := by
  induction d with
  | zero =>
    intro i hi
    refine Ev.step (f := fun _ => some true) (fun k => ?_) (Ev.now _)
    simp only [laws_eqStringS.l0]
    rw [if_neg (by omega)]
  | succ d ih =>
    intro i hi
    refine Ev.step (f := fun k => laws_eqStringS.l0 k l l ((i + 1 : Nat) : Int)) (fun k => ?_) (ih (i + 1) (by omega))
    simp only [laws_eqStringS.l0]
    rw [if_pos (by omega), if_pos (by omega), if_pos (by omega), if_pos trivial, wrap_id (by omega) (by omega)]
    rfl
theorem eq_ev (l : List ByteArray) (hl : l.length ≤ 2000000) : Ev (fun k => laws_eqWordsResult.f k 0 l 0 l) true := by
  unfold laws_eqWordsResult.f laws_eqStringS.f
  simp only [if_true]
  exact Ev.bind (eq_loop l hl l.length 0 (by omega)) (by simp only [if_true]; exact Ev.now _)
theorem text_loop (x : Nat) : ∀ (out : ByteArray), x ≤ 9000000 → out.size + x ≤ 1000000000 → ∃ t, Ev (fun k => laws_markText.l0 k (x : Int) out) t := by
  induction x using Nat.strongRecOn with
  | _ x ih =>
    intro out hx ho
    by_cases h0 : x = 0
    · subst h0
      refine ⟨(⟨#[109]⟩ : ByteArray) ++ out, Ev.step (f := fun _ => some ((⟨#[109]⟩ : ByteArray) ++ out)) (fun k => ?_) (Ev.now _)⟩
      simp only [laws_markText.l0]
      rw [if_neg (by omega), if_pos (by omega)]
    · have hsz : (strOfNums [(wrap64 (48 + (Int.tmod (x : Int) 10))) % 256] ++ out).size = 1 + out.size := by
        rw [ByteArray.size_append]; rfl
      have hone : (strOfNums [(wrap64 (48 + (Int.tmod (x : Int) 10))) % 256]).size = 1 := rfl
      obtain ⟨t, ht⟩ := ih (x / 10) (by omega) (strOfNums [(wrap64 (48 + (Int.tmod (x : Int) 10))) % 256] ++ out) (by omega) (by rw [hsz]; omega)
      refine ⟨t, Ev.step (f := fun k => laws_markText.l0 k ((x / 10 : Nat) : Int) (strOfNums [(wrap64 (48 + (Int.tmod (x : Int) 10))) % 256] ++ out)) (fun k => ?_) ht⟩
      simp only [laws_markText.l0]
      rw [if_pos (by omega)]
      simp only [Option.bind_some]
      rw [if_pos (by rw [hone]; omega)]
      have : wrap64 (Int.tdiv (x : Int) 10) = ((x / 10 : Nat) : Int) := by
        rw [Int.tdiv_eq_ediv_of_nonneg (by omega), wrap_id (by omega) (by omega)]; omega
      rw [this]
theorem text_ok (x : Nat) (h0 : 0 < x) (hx : x ≤ 9000000) : ∃ t, Ev (fun k => laws_markText.f k (x : Int)) t := by
  unfold laws_markText.f
  simp only [if_neg (show ¬ (x : Int) ≤ 0 by omega)]
  exact text_loop x ⟨#[]⟩ hx (by have : (⟨#[]⟩ : ByteArray).size = 0 := rfl; omega)
open Classical in
/-- The mark of a number. -/
noncomputable def mt (x : Nat) : ByteArray := if h : ∃ t, Ev (fun k => laws_markText.f k (x : Int)) t then h.choose else ByteArray.empty
theorem mt_ev (x : Nat) (h0 : 0 < x) (hx : x ≤ 9000000) : Ev (fun k => laws_markText.f k (x : Int)) (mt x) := by
  have h := text_ok x h0 hx
  unfold mt
  rw [dif_pos h]
  exact h.choose_spec
noncomputable def marks (n : Nat) : List ByteArray := (List.range n).map fun j => mt (1 + j)
theorem marks_length (n : Nat) : (marks n).length = n := by simp [marks]
theorem marks_get (n j : Nat) (h : j < n) : (marks n)[j]'(by rw [marks_length]; exact h) = mt (1 + j) := by simp [marks]
theorem marks_succ (n : Nat) : marks (n + 1) = marks n ++ [mt (1 + n)] := by simp [marks, List.range_succ]
theorem mark_loop (l : List ByteArray) (hl : l.length ≤ 2000000) (d : Nat) : ∀ i : Nat, i + d = l.length →
    Ev (fun k => laws_markStringS.l0 k (marks i ++ l.drop i) ((1 + i : Nat) : Int) (i : Int)) (((1 + l.length : Nat) : Int), marks l.length) := by
  induction d with
  | zero =>
    intro i hi
    obtain rfl : i = l.length := by omega
    refine Ev.step (f := fun _ => some (((1 + l.length : Nat) : Int), marks l.length)) (fun k => ?_) (Ev.now _)
    simp only [laws_markStringS.l0]
    rw [List.drop_eq_nil_of_le (Nat.le_refl _), List.append_nil, marks_length, if_neg (by omega)]
  | succ d ih =>
    intro i hi
    have hlt : i < l.length := by omega
    have hlen : (marks i ++ l.drop i).length = l.length := by rw [List.length_append, marks_length, List.length_drop]; omega
    refine Ev.step (f := fun k => (laws_markText.f k ((1 + i : Nat) : Int)).bind fun t => laws_markStringS.l0 k ((marks i ++ l.drop i).set i t) ((1 + (i + 1) : Nat) : Int) ((i + 1 : Nat) : Int)) (fun k => ?_) ?_
    · simp only [laws_markStringS.l0]
      rw [hlen, if_pos (by omega)]
      congr 1
      funext t
      rw [if_pos (by omega), wrap_id (by omega) (by omega), wrap_id (by omega) (by omega)]
      rfl
    · refine Ev.bind (mt_ev (1 + i) (by omega) (by omega)) ?_
      have := ih (i + 1) (by omega)
      have hset : (marks i ++ l.drop i).set i (mt (1 + i)) = marks (i + 1) ++ l.drop (i + 1) := by
        rw [List.set_append_right _ _ (by rw [marks_length]; omega), marks_length, Nat.sub_self, List.drop_eq_getElem_cons hlt, List.set_cons_zero, marks_succ, List.append_assoc]
        rfl
      rw [hset]
      exact this
theorem mark_ev (l : List ByteArray) (hl : l.length ≤ 2000000) : Ev (fun k => laws_markWordsResult.f k 0 l 1) (((1 + l.length : Nat) : Int), marks l.length) := by
  unfold laws_markWordsResult.f laws_markStringS.f
  have h := mark_loop l hl l.length 0 (by omega)
  simp only [marks, List.range_zero, List.map_nil, List.nil_append, List.drop_zero] at h
  refine Ev.bind h ?_
  exact Ev.now _
theorem held_loop (n : Nat) (hn : n ≤ 2000000) (d : Nat) : ∀ i : Nat, i + d = n → Ev (fun k => laws_heldStringS.l0 k (marks n) ((1 + i : Nat) : Int) (i : Int)) ((1 + n : Nat) : Int) := by
  induction d with
  | zero =>
    intro i hi
    obtain rfl : i = n := by omega
    refine Ev.step (f := fun _ => some ((1 + i : Nat) : Int)) (fun k => ?_) (Ev.now _)
    simp only [laws_heldStringS.l0]
    rw [marks_length, if_neg (by omega)]
  | succ d ih =>
    intro i hi
    refine Ev.step (f := fun k => (laws_markText.f k ((1 + i : Nat) : Int)).bind fun t => (if (mt (1 + i)).toList = t.toList then laws_heldStringS.l0 k (marks n) ((1 + (i + 1) : Nat) : Int) ((i + 1 : Nat) : Int) else some (-1))) (fun k => ?_) ?_
    · simp only [laws_heldStringS.l0]
      rw [marks_length, if_pos (by omega), if_pos (by omega)]
      congr 1
      funext t
      rw [rdOf_get _ _ (by rw [marks_length]; omega), marks_get n i (by omega), wrap_id (by omega) (by omega), wrap_id (by omega) (by omega)]
      rfl
    · refine Ev.bind (mt_ev (1 + i) (by omega) (by omega)) ?_
      simp only [if_true]
      exact ih (i + 1) (by omega)
theorem held_ev (n : Nat) (hn : n ≤ 2000000) : Ev (fun k => laws_heldWordsResult.f k 0 (marks n) 1) ((1 + n : Nat) : Int) := by
  unfold laws_heldWordsResult.f laws_heldStringS.f
  refine Ev.bind (held_loop n hn n 0 (by omega)) ?_
  simp only [if_neg (show ¬ ((1 + n : Nat) : Int) < 0 by omega)]
  exact Ev.now _
theorem impl_ok (s : ByteArray) (hs : s.size ≤ 1048576) : impl_WordsOf.f s = some (0, wordsL s) := by
  unfold impl_WordsOf.f impl_wordsOf.f
  rw [if_pos (by omega), fields_eq]
  rfl
theorem FnExactWordsOf : laws_FnExactWordsOf.Pure := by
  intro s _
  refine Ev.rounds ?_
  unfold laws_FnExactWordsOf.f
  by_cases big : (s.size : Int) > 1048576
  · simp only [if_pos big]
    exact Ev.now _
  · simp only [if_neg big]
    have hs : s.size ≤ 1048576 := by omega
    have hl := wordsL_length s hs
    refine Ev.bind (spec_ev s hs) ?_
    simp only [impl_ok s hs, Option.bind_some]
    refine Ev.bind (eq_ev _ (by omega)) ?_
    simp only [if_true]
    refine Ev.bind (mark_ev _ (by omega)) ?_
    refine Ev.bind (held_ev _ (by omega)) ?_
    simp only [if_neg (show ¬ ((1 + (wordsL s).length : Nat) : Int) < 0 by omega), if_true]
    refine Ev.bind (eq_ev _ (by omega)) ?_
    simp only [if_true]
    refine Ev.bind (held_ev _ (by omega)) ?_
    simp only [if_neg (show ¬ ((1 + (wordsL s).length : Nat) : Int) < 0 by omega), if_true]
    exact Ev.now _
end Go.Proofs.Ytnmalfbjdhgicaa.Pure
