/- FnExactSpread: the plain law: what the printed functions tell answers true at every input. No condition. -/
import Derived.Test.YtkejojcjmlnpgaaQFnExactSpreadx3
import Derived.Test.YtkejojcjmlnpgaaAid
namespace Go.Proofs.Ytkejojcjmlnpgaa.Pure
open Go.RowKit Go.Proofs.Ytkejojcjmlnpgaa.QFnExactSpread Go.Proofs.YtkejojcjmlnpgaaW.PrintWords Go.Proofs.YtkejojcjmlnpgaaW.PrintLast Go.Proofs.YtkejojcjmlnpgaaW.PrintMore Go.Proofs.Ytkejojcjmlnpgaa.Aid
set_option linter.unusedVariables false
set_option linter.unusedSimpArgs false

theorem impl_from.eq (a b c : Int) : impl_from.f a b c = some (decide (b ≤ a ∧ a ≤ c)) := by
  unfold impl_from.f
  by_cases h : b ≤ a
  · rw [if_pos h]; simp [h]
  · rw [if_neg h]; simp [h]
def copyF : Nat → Nat → List Int → List Int
  | 0, _, o => o
  | d + 1, y, o => copyF d y (o ++ [o.getD (o.length - y) 0])
theorem copyF_length : ∀ (d y : Nat) (o : List Int), (copyF d y o).length = o.length + d
  | 0, y, o => rfl
  | d + 1, y, o => by rw [copyF, copyF_length d y]; simp; omega
def sprF : List Int → List Int → Option (List Int)
  | [], o => some o
  | [x], o => if 1 ≤ x ∧ x ≤ 127 then some (o ++ [x]) else none
  | x :: y :: l, o => if 1 ≤ x ∧ x ≤ 127 then sprF (y :: l) (o ++ [x])
      else if x = 0 then if 1 ≤ y ∧ y ≤ 127 then none else sprF l (o ++ [y])
      else if 131 ≤ x ∧ x ≤ 228 then if 1 ≤ y ∧ y ≤ o.length then sprF l (copyF (x - 128).toNat y.toNat o) else none
      else none
def sprR : Option (List Int) → List Int × Bool
  | none => ([], false)
  | some o => if o.length > 3000 then ([], false) else (o, true)
/-- Spread. -/
def sprP (b : List Int) : List Int × Bool := sprR (sprF b [])
theorem sprF_lit (x : Int) (l o : List Int) (h : 1 ≤ x ∧ x ≤ 127) : sprF (x :: l) o = sprF l (o ++ [x]) := by
  cases l with
  | nil => simp only [sprF]; rw [if_pos h]
  | cons y l => rw [sprF, if_pos h]
theorem sprF_grows : ∀ (n : Nat) (l o r : List Int), l.length ≤ n → sprF l o = some r → o.length ≤ r.length
  | 0, l, o, r, hn, h => by
    have : l = [] := List.eq_nil_of_length_eq_zero (by omega)
    subst this
    rw [sprF] at h
    cases h
    exact Nat.le_refl _
  | n + 1, l, o, r, hn, h => by
    match l, hn, h with
    | [], hn, h => rw [sprF] at h; cases h; exact Nat.le_refl _
    | [x], hn, h =>
      rw [sprF] at h
      by_cases hx : 1 ≤ x ∧ x ≤ 127
      · rw [if_pos hx] at h; cases h; simp
      · rw [if_neg hx] at h; cases h
    | x :: y :: l, hn, h =>
      simp only [List.length_cons] at hn
      rw [sprF] at h
      by_cases hx : 1 ≤ x ∧ x ≤ 127
      · rw [if_pos hx] at h
        have := sprF_grows n (y :: l) _ r (by simp; omega) h
        simp only [List.length_append, List.length_cons, List.length_nil] at this
        omega
      rw [if_neg hx] at h
      by_cases h0 : x = 0
      · rw [if_pos h0] at h
        by_cases hy : 1 ≤ y ∧ y ≤ 127
        · rw [if_pos hy] at h; cases h
        · rw [if_neg hy] at h
          have := sprF_grows n l _ r (by omega) h
          simp only [List.length_append, List.length_cons, List.length_nil] at this
          omega
      rw [if_neg h0] at h
      by_cases h1 : 131 ≤ x ∧ x ≤ 228
      · rw [if_pos h1] at h
        by_cases hy : 1 ≤ y ∧ y ≤ o.length
        · rw [if_pos hy] at h
          have := sprF_grows n l _ r (by omega) h
          rw [copyF_length] at this
          omega
        · rw [if_neg hy] at h; cases h
      · rw [if_neg h1] at h; cases h
theorem sprR_long (l o : List Int) (h : o.length > 3000) : sprR (sprF l o) = ([], false) := by
  cases e : sprF l o with
  | none => rfl
  | some r =>
    have := sprF_grows _ l o r (Nat.le_refl _) e
    rw [sprR, if_pos (by omega)]
theorem sprR_none : sprR none = ([], false) := rfl
theorem sprR_length (x : Option (List Int)) : (sprR x).1.length ≤ 3000 := by
  cases x with
  | none => simp [sprR]
  | some o => rw [sprR]; by_cases h : o.length > 3000
              · rw [if_pos h]; simp
              · rw [if_neg h]; simp only; omega
theorem sprP_length (b : List Int) : (sprP b).1.length ≤ 3000 := sprR_length _
theorem copyF_idx (o : List Int) (y : Int) (h1 : 1 ≤ y) (h2 : y ≤ o.length) (h3 : o.length < 140737488355328) :
    0 ≤ wrap64 ((o.length : Int) - y) ∧ wrap64 ((o.length : Int) - y) < o.length ∧ rd o (wrap64 ((o.length : Int) - y)) = o.getD (o.length - y.toNat) 0 := by
  have e : wrap64 ((o.length : Int) - y) = ((o.length - y.toNat : Nat) : Int) := by rw [w64 (by omega) (by omega)]; omega
  rw [e, rd_nat]
  exact ⟨by omega, by omega, rfl⟩
theorem sprF_one (x : Int) (o : List Int) (h : ¬ (1 ≤ x ∧ x ≤ 127)) : sprF [x] o = none := by rw [sprF, if_neg h]
theorem sprF_zero (y : Int) (l o : List Int) : sprF (0 :: y :: l) o = if 1 ≤ y ∧ y ≤ 127 then none else sprF l (o ++ [y]) := by
  rw [sprF, if_neg (by omega), if_pos rfl]
theorem sprF_bad (x y : Int) (l o : List Int) (h : ¬ (1 ≤ x ∧ x ≤ 127)) (h0 : x ≠ 0) (h1 : ¬ (131 ≤ x ∧ x ≤ 228)) : sprF (x :: y :: l) o = none := by
  rw [sprF, if_neg h, if_neg h0, if_neg h1]
theorem sprF_copy (x y : Int) (l o : List Int) (h1 : 131 ≤ x ∧ x ≤ 228) : sprF (x :: y :: l) o = if 1 ≤ y ∧ y ≤ o.length then sprF l (copyF (x - 128).toNat y.toNat o) else none := by
  rw [sprF, if_neg (by omega), if_neg (by omega), if_pos h1]
theorem impl_Spread.ev_c (b : List Int) (i : Nat) (hi : i < 1048576) (x y : Int) (hx : 131 ≤ x ∧ x ≤ 228) (hy : 1 ≤ y) (r : List Int × Bool) : ∀ (d c : Nat) (o : List Int), (c : Int) + d = x - 128 → y ≤ o.length → o.length + d < 140737488355328 →
    Ev (fun k => impl_Spread.l0 k b (copyF d y.toNat o) ((i + 1 : Nat) : Int)) r → Ev (fun k => impl_Spread.l1 k b o i y (x - 128) c) r
  | 0, c, o, hc, ho, hl, H => by
    refine ev_succ ?_
    simp only [impl_Spread.l1]
    have e1 : wrap64 ((i : Int) + 1) = ((i + 1 : Nat) : Int) := w64 (by omega) (by omega)
    rw [e1]
    exact ev_neg (by omega) H
  | d + 1, c, o, hc, ho, hl, H => by
    refine ev_succ ?_
    simp only [impl_Spread.l1]
    have e1 : wrap64 ((c : Int) + 1) = ((c + 1 : Nat) : Int) := w64 (by omega) (by omega)
    obtain ⟨q1, q2, q3⟩ := copyF_idx o y hy ho (by omega)
    refine ev_pos (by omega) (ev_pos q1 (ev_pos q2 (ev_pos (by omega) ?_)))
    rw [q3, e1]
    exact impl_Spread.ev_c b i hi x y hx hy r d (c + 1) _ (by omega) (by simp; omega) (by simp; omega) H
theorem impl_Spread.ev_l (b : List Int) (hb : ∀ z ∈ b, 0 ≤ z ∧ z ≤ 255) (hn : b.length ≤ 1048576) : ∀ (d i : Nat) (o : List Int), b.length ≤ i + d → i ≤ b.length → o.length ≤ 100 * i → Ev (fun k => impl_Spread.l0 k b o i) (sprR (sprF (b.drop i) o))
  | 0, i, o, hd, hi, ho => by
    refine ev_succ ?_
    simp only [impl_Spread.l0]
    rw [List.drop_of_length_le (by omega), sprF, sprR]
    refine ev_neg (by omega) ?_
    by_cases h : o.length > 3000
    · rw [if_pos h]; exact ev_pos (by omega) (Ev.now _)
    · rw [if_neg h]; exact ev_neg (by omega) (Ev.now _)
  | d + 1, i, o, hd, hi, ho => by
    refine ev_succ ?_
    simp only [impl_Spread.l0]
    by_cases h : i < b.length
    · refine ev_pos (by omega) (ev_pos (by omega) ?_)
      have hr : rd b (i : Int) = b[i] := rd_lt b i h
      have hz := hb b[i] (List.getElem_mem h)
      have hw : wrap64 ((i : Int) + 1) = ((i + 1 : Nat) : Int) := w64 (by omega) (by omega)
      have hx : wrap64 b[i] = b[i] := w64 (by omega) (by omega)
      rw [List.drop_eq_getElem_cons h]
      rw [hr, hx, hw, impl_from.eq, impl_from.eq]
      generalize b[i] = x at *
      refine ev_bind_some rfl ?_
      by_cases h1 : 1 ≤ x ∧ x ≤ 127
      · rw [sprF_lit _ _ _ h1]
        refine ev_pos (decide_eq_true h1) (ev_pos (by omega) ?_)
        exact impl_Spread.ev_l b hb hn d (i + 1) _ (by omega) (by omega) (by simp; omega)
      refine ev_neg (by simpa using h1) ?_
      by_cases h2 : i + 1 < b.length
      · refine ev_neg (by omega) ?_
        have hr2 : rd b ((i + 1 : Nat) : Int) = b[i + 1] := rd_lt b (i + 1) h2
        have hzy := hb b[i + 1] (List.getElem_mem h2)
        have hy : wrap64 b[i + 1] = b[i + 1] := w64 (by omega) (by omega)
        have hw2 : wrap64 (((i + 1 : Nat) : Int) + 1) = ((i + 2 : Nat) : Int) := by rw [w64 (by omega) (by omega)]; omega
        rw [List.drop_eq_getElem_cons h2]
        have q1 : (0 : Int) ≤ ((i + 1 : Nat) : Int) := Int.natCast_nonneg _
        have q2 : ((i + 1 : Nat) : Int) < (b.length : Int) := by exact_mod_cast h2
        by_cases h0 : x = 0
        · subst h0
          rw [sprF_zero]
          refine ev_pos rfl (ev_succ ?_)
          simp only [impl_Spread.j1]
          rw [hr2, hy, hw2, impl_from.eq]
          generalize b[i + 1] = y at *
          refine ev_neg (by decide) (ev_pos q1 (ev_pos q2 (ev_pos trivial (ev_bind_some rfl ?_))))
          by_cases hy0 : 1 ≤ y ∧ y ≤ 127
          · rw [if_pos hy0]
            exact ev_pos (decide_eq_true hy0) (Ev.now _)
          · rw [if_neg hy0]
            exact ev_neg (by simpa using hy0) (ev_pos (by omega) (impl_Spread.ev_l b hb hn d (i + 2) _ (by omega) (by omega) (by simp; omega)))
        · refine ev_neg h0 (ev_bind_some rfl (ev_succ ?_))
          simp only [impl_Spread.j1]
          by_cases h3 : 131 ≤ x ∧ x ≤ 228
          · refine ev_neg (by simp [h3]) (ev_pos q1 (ev_pos q2 (ev_neg h0 ?_)))
            rw [hr2, hy]
            generalize b[i + 1] = y at *
            rw [sprF_copy _ _ _ _ h3]
            have hd8 : wrap64 (x - 128) = x - 128 := w64 (by omega) (by omega)
            by_cases h4 : 1 ≤ y ∧ y ≤ (o.length : Int)
            · rw [if_pos h4]
              refine ev_neg (by omega) (ev_succ ?_)
              simp only [impl_Spread.j2]
              rw [hd8]
              refine ev_neg (by simp; omega) ?_
              refine impl_Spread.ev_c b (i + 1) (by omega) x y h3 h4.1 _ (x - 128).toNat 0 o (by omega) h4.2 (by omega) ?_
              have hlen := copyF_length (x - 128).toNat y.toNat o
              exact impl_Spread.ev_l b hb hn d (i + 2) _ (by omega) (by omega) (by omega)
            · rw [if_neg h4]
              by_cases h5 : y < 1
              · refine ev_pos h5 (ev_succ ?_)
                simp only [impl_Spread.j2]
                exact ev_pos trivial (Ev.now _)
              · refine ev_neg h5 (ev_succ ?_)
                simp only [impl_Spread.j2]
                exact ev_pos (by simp; omega) (Ev.now _)
          · rw [sprF_bad _ _ _ _ h1 h0 h3]
            exact ev_pos (by simp only [Bool.not_eq_true', decide_eq_false_iff_not]; exact h3) (Ev.now _)
      · rw [List.drop_of_length_le (by omega), sprF_one _ _ h1]
        refine ev_pos (by omega) (ev_succ ?_)
        simp only [impl_Spread.j1]
        exact ev_pos trivial (Ev.now _)
    · rw [List.drop_of_length_le (by omega), sprF, sprR]
      refine ev_neg (by omega) ?_
      by_cases h : o.length > 3000
      · rw [if_pos h]; exact ev_pos (by omega) (Ev.now _)
      · rw [if_neg h]; exact ev_neg (by omega) (Ev.now _)
theorem impl_Spread.ev (b : List Int) (hb : ∀ z ∈ b, 0 ≤ z ∧ z ≤ 255) (hn : b.length ≤ 1048576) : Ev (fun k => impl_Spread.f k b) (sprP b) := by
  unfold impl_Spread.f sprP
  have := impl_Spread.ev_l b hb hn b.length 0 [] (by omega) (by omega) (by simp)
  simpa using this
theorem laws_eqByteS.ev_l (x : List Int) (hn : x.length ≤ 9223372036854775000) : ∀ (d i : Nat), i + d = x.length → Ev (fun k => laws_eqByteS.l0 k x x i) true
  | 0, i, hd => by
    refine Ev.step (f := fun _ => some true) (fun k => ?_) (Ev.now _)
    simp only [laws_eqByteS.l0]
    rw [if_neg (by omega)]
  | d + 1, i, hd => by
    refine Ev.step (fun k => ?_) (laws_eqByteS.ev_l x hn d (i + 1) (by omega))
    simp only [laws_eqByteS.l0]
    rw [if_pos (by omega), if_pos (by omega), if_pos (by omega), w64 (by omega) (by omega)]
    simp
theorem laws_eqByteS.ev (x : List Int) (hn : x.length ≤ 9223372036854775000) : Ev (fun k => laws_eqByteS.f k x x) true := by
  unfold laws_eqByteS.f
  exact ev_pos rfl (laws_eqByteS.ev_l x hn x.length 0 (by omega))
theorem laws_heldByteS.ev_l (a : Int) (ha : 0 ≤ a) (ha1 : a ≤ 4611686018427387904) (n : Nat) (hn : n ≤ 1152921504606846976) : ∀ (d i : Nat), i + d = n → Ev (fun k => laws_heldByteS.l0 k (cnt (fun z => z % 256) a n) (a + i) i) (a + n)
  | 0, i, hd => by
    refine Ev.step (f := fun _ => some (a + n)) (fun k => ?_) (Ev.now _)
    simp only [laws_heldByteS.l0]
    rw [if_neg (by rw [cnt_length]; omega)]
    obtain rfl : i = n := by omega
    rfl
  | d + 1, i, hd => by
    have h := laws_heldByteS.ev_l a ha ha1 n hn d (i + 1) (by omega)
    refine Ev.step (fun k => ?_) h
    simp only [laws_heldByteS.l0]
    rw [if_pos (by rw [cnt_length]; omega), if_pos (by omega), if_pos (by rw [rd_nat, cnt_get _ _ _ _ _ (by omega)]), w64 (x := (i : Int) + 1) (by omega) (by omega), w64 (by omega) (by omega)]
    simp [Int.add_assoc]
theorem laws_heldByteS.ev (a : Int) (ha : 0 ≤ a) (ha1 : a ≤ 4611686018427387904) (n : Nat) (hn : n ≤ 1152921504606846976) : Ev (fun k => laws_heldByteS.f k (cnt (fun z => z % 256) a n) a) (a + n) := by
  unfold laws_heldByteS.f
  have h := laws_heldByteS.ev_l a ha ha1 n hn n 0 (by omega)
  simpa using h
theorem laws_markByteS.ev_l (a : Int) (ha : 0 ≤ a) (ha1 : a ≤ 4611686018427387904) : ∀ (d i : Nat) (y : List Int), i + d = y.length → y.length ≤ 1152921504606846976 → y.take i = cnt (fun z => z % 256) a i → Ev (fun k => laws_markByteS.l0 k y (a + i) i) (a + y.length, cnt (fun z => z % 256) a y.length)
  | 0, i, y, hd, hn, ht => by
    refine Ev.step (f := fun _ => some (a + y.length, cnt (fun z => z % 256) a y.length)) (fun k => ?_) (Ev.now _)
    simp only [laws_markByteS.l0]
    rw [if_neg (by omega)]
    obtain rfl : i = y.length := by omega
    rw [← cnt_all (fun z => z % 256) a y _ rfl ht]
  | d + 1, i, y, hd, hn, ht => by
    have h := laws_markByteS.ev_l a ha ha1 d (i + 1) (y.set i ((fun z => z % 256) (a + i))) (by simp; omega) (by simp; omega) (set_cnt (fun z => z % 256) a y i (by omega) ht)
    rw [List.length_set] at h
    refine Ev.step (fun k => ?_) h
    simp only [laws_markByteS.l0]
    rw [if_pos (by omega), if_pos (by omega), w64 (x := (i : Int) + 1) (by omega) (by omega), w64 (by omega) (by omega)]
    simp [Int.add_assoc]
theorem laws_markByteS.ev (a : Int) (ha : 0 ≤ a) (ha1 : a ≤ 4611686018427387904) (y : List Int) (hn : y.length ≤ 1152921504606846976) : Ev (fun k => laws_markByteS.f k y a) (a + y.length, cnt (fun z => z % 256) a y.length) := by
  unfold laws_markByteS.f
  have h := laws_markByteS.ev_l a ha ha1 y.length 0 y (by omega) hn (by simp [cnt])
  simpa using h
theorem laws_toByteS.ev_l (x : List Int) (hn : x.length ≤ 281474976710656) : ∀ (d i : Nat) (y : List Int), i + d = x.length → y.length = x.length → y.take i = x.take i → Ev (fun k => laws_toByteS.l0 k x y i) x
  | 0, i, y, hd, hy, ht => by
    refine Ev.step (f := fun _ => some x) (fun k => ?_) (Ev.now _)
    simp only [laws_toByteS.l0]
    rw [if_neg (by omega)]
    have hi : i = x.length := by omega
    subst hi
    rw [List.take_of_length_le (by omega), List.take_of_length_le (Nat.le_refl _)] at ht
    rw [ht]
  | d + 1, i, y, hd, hy, ht => by
    refine Ev.step (fun k => ?_) (laws_toByteS.ev_l x hn d (i + 1) (y.set i (x.getD i 0)) (by omega) (by simp [hy]) (set_take 0 x y i (by omega) hy ht))
    simp only [laws_toByteS.l0]
    rw [if_pos (by omega), if_pos (by omega), if_pos (by omega), w64 (by omega) (by omega), rd_nat]
    simp
theorem laws_toByteS.ev (x : List Int) (hn : x.length ≤ 281474976710656) : Ev (fun k => laws_toByteS.f k x) x := by
  unfold laws_toByteS.f
  refine ev_pos (by omega) (ev_pos (by simp; omega) ?_)
  exact laws_toByteS.ev_l x hn x.length 0 _ (by omega) (by simp) (by simp)
theorem spec_l1In.eq (a b c : Int) : spec_l1In.f a b c = some (decide (b ≤ a ∧ a ≤ c)) := by
  unfold spec_l1In.f
  by_cases h : b ≤ a
  · rw [if_pos h]; simp [h]
  · rw [if_neg h]; simp [h]
theorem spec_Spread.ev_c (b : List Int) (i x y : Int) (hx : 131 ≤ x ∧ x ≤ 228) (hy : 1 ≤ y) (r : List Int × Bool) : ∀ (d c : Nat) (o : List Int), (c : Int) + d = x - 128 → y ≤ o.length → o.length + d < 140737488355328 →
    Ev (fun k => if ((copyF d y.toNat o).length : Int) > 3000 then some (([] : List Int), false) else spec_Spread.l0 k b [] (copyF d y.toNat o) i) r → Ev (fun k => spec_Spread.l1 k b [] o i x y c) r
  | 0, c, o, hc, ho, hl, H => by
    refine ev_succ ?_
    simp only [spec_Spread.l1]
    have e := w64 (x := x - 128) (by omega) (by omega)
    exact ev_neg (by rw [e]; omega) H
  | d + 1, c, o, hc, ho, hl, H => by
    refine ev_succ ?_
    simp only [spec_Spread.l1]
    have e := w64 (x := x - 128) (by omega) (by omega)
    have e1 : wrap64 ((c : Int) + 1) = ((c + 1 : Nat) : Int) := w64 (by omega) (by omega)
    obtain ⟨q1, q2, q3⟩ := copyF_idx o y hy ho (by omega)
    refine ev_pos (by rw [e]; omega) (ev_pos q1 (ev_pos q2 (ev_pos (by omega) ?_)))
    rw [q3, e1]
    exact spec_Spread.ev_c b i x y hx hy r d (c + 1) _ (by omega) (by simp; omega) (by simp; omega) H
theorem spec_Spread.ev_l (b : List Int) (hb : ∀ z ∈ b, 0 ≤ z ∧ z ≤ 255) (hn : b.length ≤ 1048576) : ∀ (d i : Nat) (o : List Int), b.length ≤ i + d → i ≤ b.length → o.length ≤ 100 * i → Ev (fun k => spec_Spread.l0 k b [] o i) (sprR (sprF (b.drop i) o))
  | 0, i, o, hd, hi, ho => by
    refine ev_succ ?_
    simp only [spec_Spread.l0]
    rw [List.drop_of_length_le (by omega), sprF, sprR]
    refine ev_neg (by omega) ?_
    by_cases h : o.length > 3000
    · rw [if_pos h]; exact ev_pos (by omega) (Ev.now _)
    · rw [if_neg h]; exact ev_neg (by omega) (Ev.now _)
  | d + 1, i, o, hd, hi, ho => by
    refine ev_succ ?_
    simp only [spec_Spread.l0]
    by_cases h : i < b.length
    · refine ev_pos (by omega) (ev_pos (by omega) ?_)
      have hr : rd b (i : Int) = b[i] := rd_lt b i h
      have hz := hb b[i] (List.getElem_mem h)
      have hw : wrap64 ((i : Int) + 1) = ((i + 1 : Nat) : Int) := w64 (by omega) (by omega)
      have hw2 : wrap64 ((i : Int) + 2) = ((i + 2 : Nat) : Int) := w64 (by omega) (by omega)
      have hx : wrap64 b[i] = b[i] := w64 (by omega) (by omega)
      rw [List.drop_eq_getElem_cons h]
      rw [hr, hx, hw, hw2, spec_l1In.eq]
      generalize b[i] = x at *
      refine ev_bind_some rfl ?_
      by_cases h1 : 1 ≤ x ∧ x ≤ 127
      · rw [sprF_lit _ _ _ h1]
        refine ev_pos (decide_eq_true h1) (ev_pos (by omega) ?_)
        exact spec_Spread.ev_l b hb hn d (i + 1) _ (by omega) (by omega) (by simp; omega)
      refine ev_neg (by simpa using h1) ?_
      by_cases h2 : i + 1 < b.length
      · refine ev_neg (by omega) (ev_pos (by omega) (ev_pos (by omega) ?_))
        have hr2 : rd b ((i + 1 : Nat) : Int) = b[i + 1] := rd_lt b (i + 1) h2
        have hzy := hb b[i + 1] (List.getElem_mem h2)
        have hy : wrap64 b[i + 1] = b[i + 1] := w64 (by omega) (by omega)
        have hm : b[i + 1] % 256 = b[i + 1] := by omega
        rw [List.drop_eq_getElem_cons h2, hr2, hy, hm, spec_l1In.eq, spec_l1In.eq]
        generalize b[i + 1] = y at *
        by_cases h0 : x = 0
        · subst h0
          rw [sprF_zero]
          refine ev_pos rfl ?_
          by_cases hy0 : y = 0
          · rw [if_neg (by omega)]
            exact ev_pos hy0 (ev_pos (by omega) (spec_Spread.ev_l b hb hn d (i + 2) _ (by omega) (by omega) (by simp; omega)))
          · refine ev_neg hy0 ?_
            by_cases hy1 : y < 128
            · rw [if_pos (by omega)]
              exact ev_pos hy1 (Ev.now _)
            · rw [if_neg (by omega)]
              exact ev_neg hy1 (ev_pos (by omega) (spec_Spread.ev_l b hb hn d (i + 2) _ (by omega) (by omega) (by simp; omega)))
        · refine ev_neg h0 (ev_bind_some rfl ?_)
          by_cases h3 : 131 ≤ x ∧ x ≤ 228
          · rw [sprF_copy _ _ _ _ h3]
            refine ev_pos (decide_eq_true h3) (ev_bind_some rfl (ev_succ ?_))
            simp only [spec_Spread.j1]
            by_cases h4 : 1 ≤ y ∧ y ≤ (o.length : Int)
            · rw [if_pos h4]
              refine ev_neg (by simp [h4]) ?_
              refine spec_Spread.ev_c b _ x y h3 h4.1 _ (x - 128).toNat 0 o (by omega) h4.2 (by omega) ?_
              have hlen := copyF_length (x - 128).toNat y.toNat o
              by_cases h5 : (copyF (x - 128).toNat y.toNat o).length > 3000
              · rw [sprR_long _ _ h5]
                exact ev_pos (by omega) (Ev.now _)
              · exact ev_neg (by omega) (spec_Spread.ev_l b hb hn d (i + 2) _ (by omega) (by omega) (by omega))
            · rw [if_neg h4]
              exact ev_pos (by simp only [Bool.not_eq_true', decide_eq_false_iff_not]; exact h4) (Ev.now _)
          · rw [sprF_bad _ _ _ _ h1 h0 h3]
            refine ev_neg (by simpa using h3) (ev_succ ?_)
            simp only [spec_Spread.j1]
            exact ev_pos trivial (Ev.now _)
      · rw [List.drop_of_length_le (by omega), sprF_one _ _ h1]
        exact ev_pos (by omega) (Ev.now _)
    · rw [List.drop_of_length_le (by omega), sprF, sprR]
      refine ev_neg (by omega) ?_
      by_cases h : o.length > 3000
      · rw [if_pos h]; exact ev_pos (by omega) (Ev.now _)
      · rw [if_neg h]; exact ev_neg (by omega) (Ev.now _)
theorem spec_Spread.ev (b : List Int) (hb : ∀ z ∈ b, 0 ≤ z ∧ z ≤ 255) (hn : b.length ≤ 1048576) : Ev (fun k => spec_Spread.f k b) (sprP b) := by
  unfold spec_Spread.f sprP
  have := spec_Spread.ev_l b hb hn b.length 0 [] (by omega) (by omega) (by simp)
  simpa using this
theorem FnExactSpread : laws_FnExactSpread.Pure := by
  intro b _ _ hb
  apply Ev.rounds (g := fun k => laws_FnExactSpread.f k b)
  unfold laws_FnExactSpread.f
  by_cases gb : (b.length : Int) > 1048576
  · exact ev_pos gb (Ev.now _)
  refine ev_neg gb ?_
  have f0_ := laws_toByteS.ev b (by omega)
  have f1_ := laws_eqByteS.ev b (by omega)
  have f2_ := laws_markByteS.ev 1 (by omega) (by omega) b (by omega)
  have f3_ := sprP_length b
  have f4_ := spec_Spread.ev b (fun z hz => wf_u8 (hb z hz)) (by omega)
  have f5_ := impl_Spread.ev b (fun z hz => wf_u8 (hb z hz)) (by omega)
  have f6_ := laws_eqByteS.ev (sprP b).1 (by omega)
  have f7_ := laws_markByteS.ev 1 (by omega) (by omega) (sprP b).1 (by omega)
  have f8_ := laws_heldByteS.ev 1 (by omega) (by omega) (sprP b).1.length (by omega)
  repeat (first
    | exact Ev.now _
    | refine ev_pos rfl ?_
    | (refine ev_neg ?_ ?_; omega)
    | (refine ev_neg ?_ ?_; (focus (simp; done)))
    | refine Ev.bind (by assumption) ?_
    | refine ev_bind_some (by assumption) ?_
    | (refine ev_succ ?_; simp only [laws_FnExactSpread.j0, laws_FnExactSpread.j1, laws_FnExactSpread.j2])
    | dsimp only)

end Go.Proofs.Ytkejojcjmlnpgaa.Pure
