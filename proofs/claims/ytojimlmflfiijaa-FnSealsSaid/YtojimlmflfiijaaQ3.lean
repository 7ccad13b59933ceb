/- Plain laws of sealing: streams, tags, numbers in four bytes, and what one turned byte does to a tag. -/
import Derived.Test.YtojimlmflfiijaaQ2
import Derived.Test.YtojimlmflfiijaaPA5
set_option linter.unusedSimpArgs false
set_option linter.unusedVariables false
namespace Go.Proofs.Ytojimlmflfiijaa.Q
open Go.RowKit Go.Proofs.Ytojimlmflfiijaa.PA Go.Proofs.YtojimlmflfiijaaW.PrintWords Go.Proofs.YtojimlmflfiijaaW.PrintLast

/-! xor of bytes -/
def xr (a b : Int) : Int := Go.bits .xor .u8 a b
theorem xr_nat (a b : Nat) (ha : a < 256) (hb : b < 256) : xr (a : Int) (b : Int) = ((a ^^^ b : Nat) : Int) := by
  have h : a ^^^ b < 2 ^ 8 := Nat.xor_lt_two_pow ha hb
  unfold xr
  simp only [bits, BitVec.ofInt_natCast, BitVec.toNat_xor, BitVec.toNat_ofNat, show IntKind.u8.bits = 8 from rfl, Nat.mod_eq_of_lt (show a < 2 ^ 8 from ha), Nat.mod_eq_of_lt (show b < 2 ^ 8 from hb)]
  exact wraps_u8 _ (Int.natCast_nonneg _) (by exact_mod_cast h)
def IsByte (x : Int) : Prop := 0 ≤ x ∧ x ≤ 255
theorem IsByte.nat {x : Int} (h : IsByte x) : ∃ n : Nat, x = (n : Int) ∧ n < 256 := by
  obtain ⟨n, rfl⟩ := Int.eq_ofNat_of_zero_le h.1
  exact ⟨n, rfl, by have := h.2; omega⟩
theorem xr_byte {a b : Int} (ha : IsByte a) (hb : IsByte b) : IsByte (xr a b) := by
  obtain ⟨n, rfl, hn⟩ := ha.nat
  obtain ⟨m, rfl, hm⟩ := hb.nat
  have h : n ^^^ m < 2 ^ 8 := Nat.xor_lt_two_pow hn hm
  rw [xr_nat n m hn hm]
  exact ⟨by omega, by omega⟩
theorem xr_back {a b : Int} (ha : IsByte a) (hb : IsByte b) : xr a (xr a b) = b := by
  obtain ⟨n, rfl, hn⟩ := ha.nat
  obtain ⟨m, rfl, hm⟩ := hb.nat
  have h : n ^^^ m < 256 := Nat.xor_lt_two_pow (n := 8) hn hm
  rw [xr_nat n m hn hm, xr_nat n _ hn h, ← Nat.xor_assoc, Nat.xor_self, Nat.zero_xor]
theorem xr_ne {a b : Int} (ha : IsByte a) (hb : IsByte b) (h : b ≠ 0) : xr a b ≠ a := by
  intro e
  have h1 := xr_back ha hb
  rw [e] at h1
  obtain ⟨n, rfl, hn⟩ := ha.nat
  rw [xr_nat n n hn hn, Nat.xor_self] at h1
  exact h h1.symm

/-! the stream -/
def strm : Int → Nat → List Int
  | _, 0 => []
  | x, n + 1 => ((x * 16807) % 2147483647) % 256 :: strm ((x * 16807) % 2147483647) n
theorem strm_length (n : Nat) : ∀ x, (strm x n).length = n := by
  induction n with
  | zero => intro x; rfl
  | succ n ih => intro x; simp [strm, ih]
theorem strm_bytes (n : Nat) : ∀ x, Bytes (strm x n) := by
  induction n with
  | zero => intro x y hy; simp [strm] at hy
  | succ n ih =>
    intro x y hy
    simp only [strm, List.mem_cons] at hy
    rcases hy with rfl | hy
    · omega
    · exact ih _ y hy
def x0 (key seq : Int) : Int := (key * 31 + seq + 7) % 2147483647
theorem x0_eq {key seq : Int} (hk : 0 ≤ key ∧ key ≤ 4294967295) (hs : 0 ≤ seq ∧ seq ≤ 1099511627776) : Int.tmod (wrap64 ((wrap64 ((wrap64 (key * 31)) + seq)) + 7)) 2147483647 = x0 key seq := by
  rw [wrap_id (x := key * 31) (by omega) (by omega), wrap_id (x := key * 31 + seq) (by omega) (by omega), wrap_id (x := key * 31 + seq + 7) (by omega) (by omega), Int.tmod_eq_emod_of_nonneg (by omega)]
  rfl
theorem x0_range (key seq : Int) : 0 ≤ x0 key seq ∧ x0 key seq < 2147483647 := by unfold x0; omega
theorem stream_loop (N : Nat) (hN : N ≤ 100000) (d : Nat) : ∀ (x : Int) (out : List Int) (i : Nat), i + d = N → 0 ≤ x → x < 2147483647 → out.length ≤ i → Ev (fun k => impl_stream.l0 k x out (N : Int) (i : Int)) (out ++ strm x d) := by
  induction d with
  | zero =>
    intro x out i hi _ _ _
    refine Ev.step (f := fun _ => some (out ++ strm x 0)) (fun k => ?_) (Ev.now _)
    simp only [impl_stream.l0]
    rw [if_neg (by omega)]
    simp [strm]
  | succ d ih =>
    intro x out i hi h0 h1 ho
    have e := ih ((x * 16807) % 2147483647) (out ++ [((x * 16807) % 2147483647) % 256]) (i + 1) (by omega) (by omega) (by omega) (by simp; omega)
    have hs : out ++ strm x (d + 1) = (out ++ [((x * 16807) % 2147483647) % 256]) ++ strm ((x * 16807) % 2147483647) d := by simp [strm]
    rw [hs]
    refine Ev.step (fun k => ?_) e
    simp only [impl_stream.l0]
    rw [if_pos (by omega), if_pos (by omega), wrap_id (x := x * 16807) (by omega) (by omega), Int.tmod_eq_emod_of_nonneg (by omega), wrap_id (x := (i : Int) + 1) (by omega) (by omega)]
    rfl
theorem stream_ev {key seq : Int} (hk : 0 ≤ key ∧ key ≤ 4294967295) (hs : 0 ≤ seq ∧ seq ≤ 1099511627776) (N : Nat) (hN : N ≤ 100000) : Ev (fun k => impl_stream.f k key seq (N : Int)) (strm (x0 key seq) N) := by
  unfold impl_stream.f
  rw [x0_eq hk hs]
  have := stream_loop N hN N (x0 key seq) [] 0 (by omega) (x0_range _ _).1 (x0_range _ _).2 (by simp)
  simpa using this
theorem specStream_loop (d : Nat) (hd : d ≤ 100000) : ∀ (x : Int) (out : List Int), 0 ≤ x → x < 2147483647 → out.length + d ≤ 1000000 → Ev (fun k => spec_l14Stream.l0 k (d : Int) x out) (out ++ strm x d) := by
  induction d with
  | zero =>
    intro x out _ _ _
    refine Ev.step (f := fun _ => some (out ++ strm x 0)) (fun k => ?_) (Ev.now _)
    simp only [spec_l14Stream.l0]
    rw [if_neg (by omega)]
    simp [strm]
  | succ d ih =>
    intro x out h0 h1 ho
    have e := ih (by omega) ((x * 16807) % 2147483647) (out ++ [((x * 16807) % 2147483647) % 256]) (by omega) (by omega) (by simp; omega)
    have hs : out ++ strm x (d + 1) = (out ++ [((x * 16807) % 2147483647) % 256]) ++ strm ((x * 16807) % 2147483647) d := by simp [strm]
    rw [hs]
    refine Ev.step (fun k => ?_) e
    simp only [spec_l14Stream.l0]
    rw [if_pos (by omega), if_pos (by omega), wrap_id (x := x * 16807) (by omega) (by omega), Int.tmod_eq_emod_of_nonneg (show 0 ≤ x * 16807 by omega), wrap_id (x := ((d + 1 : Nat) : Int) - 1) (by omega) (by omega), Int.tmod_eq_emod_of_nonneg (by omega)]
    have e1 : ((d + 1 : Nat) : Int) - 1 = (d : Int) := by omega
    have e2 : x * 16807 % 2147483647 % 256 % 256 = x * 16807 % 2147483647 % 256 := by omega
    rw [e1, e2]
theorem specStream_ev {key seq : Int} (hk : 0 ≤ key ∧ key ≤ 4294967295) (hs : 0 ≤ seq ∧ seq ≤ 1099511627776) (N : Nat) (hN : N ≤ 100000) : Ev (fun k => spec_l14Stream.f k key seq (N : Int)) (strm (x0 key seq) N) := by
  unfold spec_l14Stream.f
  rw [x0_eq hk hs]
  have := specStream_loop N hN (x0 key seq) [] (x0_range _ _).1 (x0_range _ _).2 (by simp; omega)
  simpa using this

/-! bytes and a stream, bit by bit unlike -/
def mix : List Int → List Int → List Int
  | a :: l, b :: m => xr a b :: mix l m
  | _, _ => []
theorem mix_length : ∀ l m : List Int, l.length = m.length → (mix l m).length = l.length
  | [], [], _ => rfl
  | [], _ :: _, h => by simp at h
  | _ :: _, [], h => by simp at h
  | a :: l, b :: m, h => by
    simp only [mix, List.length_cons]
    rw [mix_length l m (by simpa using h)]
theorem mix_bytes : ∀ l m : List Int, Bytes l → Bytes m → Bytes (mix l m)
  | [], [], _, _ => fun x hx => by simp [mix] at hx
  | [], _ :: _, _, _ => fun x hx => by simp [mix] at hx
  | _ :: _, [], _, _ => fun x hx => by simp [mix] at hx
  | a :: l, b :: m, h1, h2 => fun x hx => by
    simp only [mix, List.mem_cons] at hx
    rcases hx with rfl | hx
    · exact xr_byte (h1 a (by simp)) (h2 b (by simp))
    · exact mix_bytes l m (fun y hy => h1 y (by simp [hy])) (fun y hy => h2 y (by simp [hy])) x hx
theorem mix_back : ∀ l m : List Int, l.length = m.length → Bytes l → Bytes m → mix l (mix l m) = m
  | [], [], _, _, _ => rfl
  | [], _ :: _, h, _, _ => by simp at h
  | _ :: _, [], h, _, _ => by simp at h
  | a :: l, b :: m, h, h1, h2 => by
    simp only [mix]
    rw [xr_back (h1 a (by simp)) (h2 b (by simp)), mix_back l m (by simpa using h) (fun y hy => h1 y (by simp [hy])) (fun y hy => h2 y (by simp [hy]))]
theorem mix_get : ∀ (l m : List Int) (i : Nat) (h1 : i < l.length) (h2 : i < m.length) (h : i < (mix l m).length), (mix l m)[i] = xr l[i] m[i]
  | [], _, _, h1, _, _ => by simp at h1
  | _ :: _, [], _, _, h2, _ => by simp at h2
  | a :: l, b :: m, 0, _, _, _ => rfl
  | a :: l, b :: m, i + 1, h1, h2, h => by
    simp only [mix, List.getElem_cons_succ]
    exact mix_get l m i _ _ _
theorem rd_get (l : List Int) (i : Nat) (h : i < l.length) : rd l (i : Int) = l[i] := by simp [rd, List.getD_eq_getElem?_getD, List.getElem?_eq_getElem h]
theorem half_step (s d : List Int) (i : Nat) (hl : s.length = d.length) (h : i < s.length) : (mix (s.take i) (d.take i) ++ s.drop i).set i (xr (rd (mix (s.take i) (d.take i) ++ s.drop i) (i : Int)) (rd d (i : Int))) = mix (s.take (i + 1)) (d.take (i + 1)) ++ s.drop (i + 1) := by
  have hlen : (mix (s.take i) (d.take i)).length = i := by rw [mix_length _ _ (by simp; omega)]; simp; omega
  have e1 : rd (mix (s.take i) (d.take i) ++ s.drop i) (i : Int) = s[i] := by
    rw [rd_app_right _ _ _ (by omega), hlen, show ((i : Int) - (i : Int)) = ((0 : Nat) : Int) by omega, rd_get _ 0 (by simp; omega)]
    simp
  rw [e1, rd_get d i (by omega)]
  apply List.ext_getElem
  · rw [List.length_set, List.length_append, List.length_append, hlen, mix_length _ _ (by simp; omega)]
    simp; omega
  · intro j hj1 hj2
    have hlen2 : (mix (s.take (i + 1)) (d.take (i + 1))).length = i + 1 := by rw [mix_length _ _ (by simp; omega)]; simp; omega
    rw [List.getElem_set]
    by_cases e : i = j
    · subst e
      rw [if_pos rfl, List.getElem_append_left (by omega), mix_get _ _ _ (by simp; omega) (by simp; omega)]
      simp
    · rw [if_neg e]
      by_cases hlt : j < i
      · rw [List.getElem_append_left (by omega), List.getElem_append_left (by omega), mix_get _ _ _ (by simp; omega) (by simp; omega), mix_get _ _ _ (by simp; omega) (by simp; omega)]
        simp
      · rw [List.getElem_append_right (by omega), List.getElem_append_right (by omega)]
        simp only [List.getElem_drop, hlen, hlen2]
        congr 1
        omega
theorem turned_loop (s d : List Int) (hl : s.length = d.length) (hs : s.length ≤ 100000) (n : Nat) : ∀ i : Nat, i + n = s.length → Ev (fun k => impl_turned.l0 k (mix (s.take i) (d.take i) ++ s.drop i) d (d.length : Int) (i : Int)) (mix s d) := by
  induction n with
  | zero =>
    intro i hi
    refine Ev.step (f := fun _ => some (mix s d)) (fun k => ?_) (Ev.now _)
    simp only [impl_turned.l0]
    rw [if_neg (by omega), List.take_of_length_le (by omega), List.take_of_length_le (by omega), List.drop_eq_nil_of_le (by omega), List.append_nil]
  | succ n ih =>
    intro i hi
    have e := ih (i + 1) (by omega)
    rw [← half_step s d i hl (by omega)] at e
    refine Ev.step (fun k => ?_) e
    simp only [impl_turned.l0]
    have hlen : (mix (s.take i) (d.take i) ++ s.drop i).length = s.length := by rw [List.length_append, mix_length _ _ (by simp; omega)]; simp; omega
    rw [if_pos (by omega), if_pos (by omega), if_pos (by omega), if_pos (by omega), wrap_id (x := (i : Int) + 1) (by omega) (by omega), Int.toNat_natCast]
    rfl
theorem turned_ev {key seq : Int} (hk : 0 ≤ key ∧ key ≤ 4294967295) (hs : 0 ≤ seq ∧ seq ≤ 1099511627776) (d : List Int) (hd : d.length ≤ 100000) : Ev (fun k => impl_turned.f k key seq d) (mix (strm (x0 key seq) d.length) d) := by
  unfold impl_turned.f
  refine Ev.bind (stream_ev hk hs d.length hd) ?_
  have hl := strm_length d.length (x0 key seq)
  have := turned_loop (strm (x0 key seq) d.length) d hl (by omega) d.length 0 (by omega)
  simpa [mix] using this
theorem specMix_loop (s d : List Int) (hl : s.length = d.length) (hs : s.length ≤ 100000) (n : Nat) : ∀ i : Nat, i + n = s.length → Ev (fun k => spec_l14Mix.l0 k d (mix (s.take i) (d.take i) ++ s.drop i) (i : Int)) (mix s d) := by
  induction n with
  | zero =>
    intro i hi
    have hlen : (mix (s.take i) (d.take i) ++ s.drop i).length = s.length := by rw [List.length_append, mix_length _ _ (by simp; omega)]; simp; omega
    refine Ev.step (f := fun _ => some (mix s d)) (fun k => ?_) (Ev.now _)
    simp only [spec_l14Mix.l0]
    rw [if_neg (by omega), List.take_of_length_le (by omega), List.take_of_length_le (by omega), List.drop_eq_nil_of_le (by omega), List.append_nil]
  | succ n ih =>
    intro i hi
    have e := ih (i + 1) (by omega)
    rw [← half_step s d i hl (by omega)] at e
    refine Ev.step (fun k => ?_) e
    simp only [spec_l14Mix.l0]
    have hlen : (mix (s.take i) (d.take i) ++ s.drop i).length = s.length := by rw [List.length_append, mix_length _ _ (by simp; omega)]; simp; omega
    rw [if_pos (by omega), if_pos (by omega), if_pos (by omega), wrap_id (x := (i : Int) + 1) (by omega) (by omega), Int.toNat_natCast]
    rfl
theorem specMix_ev {key seq : Int} (hk : 0 ≤ key ∧ key ≤ 4294967295) (hs : 0 ≤ seq ∧ seq ≤ 1099511627776) (d : List Int) (hd : d.length ≤ 100000) : Ev (fun k => spec_l14Mix.f k key seq d) (mix (strm (x0 key seq) d.length) d) := by
  unfold spec_l14Mix.f
  refine Ev.bind (specStream_ev hk hs d.length hd) ?_
  have hl := strm_length d.length (x0 key seq)
  have := specMix_loop (strm (x0 key seq) d.length) d hl (by omega) d.length 0 (by omega)
  simpa [mix] using this

/-! the tag -/
def tg : Int → List Int → Int
  | h, [] => h
  | h, b :: l => tg ((h * 263 + b + 1) % 1000003) l
def h0 (key seq : Int) : Int := (key * 17 + seq * 3 + 5) % 1000003
theorem h0_eq {key seq : Int} (hk : 0 ≤ key ∧ key ≤ 4294967295) (hs : 0 ≤ seq ∧ seq ≤ 1099511627776) : Int.tmod (wrap64 ((wrap64 ((wrap64 (key * 17)) + (wrap64 (seq * 3)))) + 5)) 1000003 = h0 key seq := by
  rw [wrap_id (x := key * 17) (by omega) (by omega), wrap_id (x := seq * 3) (by omega) (by omega), wrap_id (x := key * 17 + seq * 3) (by omega) (by omega), wrap_id (x := key * 17 + seq * 3 + 5) (by omega) (by omega), Int.tmod_eq_emod_of_nonneg (by omega)]
  rfl
theorem h0_range (key seq : Int) : 0 ≤ h0 key seq ∧ h0 key seq < 1000003 := by unfold h0; omega
theorem tg_range : ∀ (l : List Int) (h : Int), 0 ≤ h → h < 1000003 → 0 ≤ tg h l ∧ tg h l < 1000003
  | [], h, a, b => ⟨a, b⟩
  | x :: l, h, _, _ => tg_range l _ (by omega) (by omega)
theorem tag_loop (d : List Int) (hb : Bytes d) (hd : d.length ≤ 100000) (n : Nat) : ∀ (h : Int) (i : Nat), i + n = d.length → 0 ≤ h → h < 1000003 → Ev (fun k => impl_tag.l0 k h d (d.length : Int) (i : Int)) (tg h (d.drop i)) := by
  induction n with
  | zero =>
    intro h i hi _ _
    refine Ev.step (f := fun _ => some (tg h (d.drop i))) (fun k => ?_) (Ev.now _)
    simp only [impl_tag.l0]
    rw [if_neg (by omega), List.drop_eq_nil_of_le (by omega)]
    rfl
  | succ n ih =>
    intro h i hi a b
    have hlt : i < d.length := by omega
    have hbi := hb d[i] (List.getElem_mem hlt)
    rw [List.drop_eq_getElem_cons hlt]
    have e := ih ((h * 263 + d[i] + 1) % 1000003) (i + 1) (by omega) (by omega) (by omega)
    refine Ev.step (fun k => ?_) e
    simp only [impl_tag.l0]
    rw [if_pos (by omega), if_pos (by omega), if_pos (by omega), rd_get d i hlt, wrap_id (x := d[i]) (by omega) (by omega), wrap_id (x := h * 263) (by omega) (by omega), wrap_id (x := h * 263 + d[i]) (by omega) (by omega), wrap_id (x := h * 263 + d[i] + 1) (by omega) (by omega), Int.tmod_eq_emod_of_nonneg (by omega), wrap_id (x := (i : Int) + 1) (by omega) (by omega)]
    rfl
theorem tag_ev {key seq : Int} (hk : 0 ≤ key ∧ key ≤ 4294967295) (hs : 0 ≤ seq ∧ seq ≤ 1099511627776) (d : List Int) (hb : Bytes d) (hd : d.length ≤ 100000) : Ev (fun k => impl_tag.f k key seq d) (tg (h0 key seq) d) := by
  unfold impl_tag.f
  rw [h0_eq hk hs]
  have := tag_loop d hb hd d.length (h0 key seq) 0 (by omega) (h0_range _ _).1 (h0_range _ _).2
  simpa using this
theorem specTag_loop (d : List Int) (hb : Bytes d) (hd : d.length ≤ 100000) (n : Nat) : ∀ (h : Int) (i : Nat), i + n = d.length → 0 ≤ h → h < 1000003 → Ev (fun k => spec_l14Tag.l0 k d h (i : Int)) (tg h (d.drop i)) := by
  induction n with
  | zero =>
    intro h i hi _ _
    refine Ev.step (f := fun _ => some (tg h (d.drop i))) (fun k => ?_) (Ev.now _)
    simp only [spec_l14Tag.l0]
    rw [if_neg (by omega), List.drop_eq_nil_of_le (by omega)]
    rfl
  | succ n ih =>
    intro h i hi a b
    have hlt : i < d.length := by omega
    have hbi := hb d[i] (List.getElem_mem hlt)
    rw [List.drop_eq_getElem_cons hlt]
    have e := ih ((h * 263 + d[i] + 1) % 1000003) (i + 1) (by omega) (by omega) (by omega)
    refine Ev.step (fun k => ?_) e
    simp only [spec_l14Tag.l0]
    rw [if_pos (by omega), if_pos (by omega), rd_get d i hlt, wrap_id (x := d[i]) (by omega) (by omega), wrap_id (x := h * 263) (by omega) (by omega), wrap_id (x := h * 263 + d[i]) (by omega) (by omega), wrap_id (x := h * 263 + d[i] + 1) (by omega) (by omega), Int.tmod_eq_emod_of_nonneg (by omega), wrap_id (x := (i : Int) + 1) (by omega) (by omega)]
    rfl
theorem specTag_ev {key seq : Int} (hk : 0 ≤ key ∧ key ≤ 4294967295) (hs : 0 ≤ seq ∧ seq ≤ 1099511627776) (d : List Int) (hb : Bytes d) (hd : d.length ≤ 100000) : Ev (fun k => spec_l14Tag.f k key seq d) (tg (h0 key seq) d) := by
  unfold spec_l14Tag.f
  rw [h0_eq hk hs]
  have := specTag_loop d hb hd d.length (h0 key seq) 0 (by omega) (h0_range _ _).1 (h0_range _ _).2
  simpa using this
/-- A difference stays: 263 has an inverse. -/
theorem tg_inj : ∀ (l : List Int) (h g : Int), 0 ≤ h → h < 1000003 → 0 ≤ g → g < 1000003 → tg h l = tg g l → h = g
  | [], h, g, _, _, _, _, e => e
  | b :: l, h, g, a1, a2, b1, b2, e => by
    have h1 := tg_inj l _ _ (by omega) (by omega) (by omega) (by omega) e
    omega
theorem tg_set : ∀ (l : List Int) (h : Int) (i : Nat) (v : Int) (hi : i < l.length), 0 ≤ h → h < 1000003 → IsByte l[i] → IsByte v → v ≠ l[i] → tg h (l.set i v) ≠ tg h l
  | [], _, _, _, hi, _, _, _, _, _ => by simp at hi
  | b :: l, h, 0, v, _, a1, a2, hb, hv, hne => by
    simp only [List.set_cons_zero, tg]
    intro e
    have h1 := tg_inj l _ _ (by omega) (by omega) (by omega) (by omega) e
    simp only [List.getElem_cons_zero] at hb hne
    have := hb.1; have := hb.2; have := hv.1; have := hv.2
    omega
  | b :: l, h, i + 1, v, hi, a1, a2, hb, hv, hne => by
    simp only [List.set_cons_succ, tg]
    exact tg_set l _ i v (by simpa using hi) (by omega) (by omega) (by simpa using hb) hv (by simpa using hne)
end Go.Proofs.Ytojimlmflfiijaa.Q
