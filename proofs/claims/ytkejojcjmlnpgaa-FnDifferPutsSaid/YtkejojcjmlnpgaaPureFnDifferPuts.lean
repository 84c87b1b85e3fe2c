/- FnDifferPuts: the plain law: what the printed functions tell answers true at every input. No condition. -/
import Derived.Test.YtkejojcjmlnpgaaQFnDifferPutsx3
import Derived.Test.YtkejojcjmlnpgaaAid
namespace Go.Proofs.Ytkejojcjmlnpgaa.Pure
open Go.RowKit Go.Proofs.Ytkejojcjmlnpgaa.QFnDifferPuts Go.Proofs.YtkejojcjmlnpgaaW.PrintWords Go.Proofs.YtkejojcjmlnpgaaW.PrintLast Go.Proofs.YtkejojcjmlnpgaaW.PrintMore Go.Proofs.Ytkejojcjmlnpgaa.Aid
set_option linter.unusedVariables false
set_option linter.unusedSimpArgs false

theorem and255 (x : Int) : 0 ≤ Go.bits .and .i64 x 255 ∧ Go.bits .and .i64 x 255 ≤ 255 := by
  have h : ((BitVec.ofInt 64 x &&& BitVec.ofInt 64 255).toNat : Int) ≤ 255 := by
    have := Nat.and_le_right (n := (BitVec.ofInt 64 x).toNat) (m := 255)
    rw [BitVec.toNat_and]
    have e : (BitVec.ofInt 64 255).toNat = 255 := by decide
    rw [e]
    exact Int.ofNat_le.mpr this
  have e : Go.bits .and .i64 x 255 = IntKind.i64.wrap ((BitVec.ofInt 64 x &&& BitVec.ofInt 64 255).toNat : Int) := rfl
  rw [e, IntKind.wrap_i64]
  generalize (BitVec.ofInt 64 x &&& BitVec.ofInt 64 255).toNat = t at h
  omega
theorem spec_l1Byte.ok (s : List Int) (i h : Int) (h0 : 0 ≤ i) (h1 : i ≤ s.length) (hs : s.length ≤ 1048576) : ∃ x i' h', spec_l1Byte.f s i h = some (x, i', h') ∧ (0 ≤ x ∧ x ≤ 255) ∧ 0 ≤ i' ∧ i' ≤ s.length := by
  unfold spec_l1Byte.f
  by_cases hc : i < (s.length : Int)
  · rw [if_pos hc, if_pos h0]
    exact ⟨_, _, _, rfl, and255 _, by rw [w64 (by omega) (by omega)]; omega, by rw [w64 (by omega) (by omega)]; omega⟩
  · rw [if_neg hc]
    exact ⟨_, _, _, rfl, and255 _, h0, h1⟩
theorem spec_l1Below.ok (s : List Int) (i h n : Int) (h0 : 0 ≤ i) (h1 : i ≤ s.length) (hs : s.length ≤ 1048576) : ∃ x i' h', spec_l1Below.f s i h n = some (x, i', h') ∧ (0 ≤ x ∧ (0 < n → x < n)) ∧ 0 ≤ i' ∧ i' ≤ s.length := by
  unfold spec_l1Below.f
  by_cases hn : n ≤ 0
  · rw [if_pos hn]; exact ⟨0, i, h, rfl, ⟨by omega, fun q => by omega⟩, h0, h1⟩
  rw [if_neg hn]
  obtain ⟨x, i1, g1, e1, ⟨bx0, bx1⟩, a1, b1⟩ := spec_l1Byte.ok s i h h0 h1 hs
  rw [e1]
  simp only [Option.bind_some]
  by_cases hm : n ≤ 256
  · rw [if_pos hm, if_neg (by omega)]
    exact ⟨_, _, _, rfl, ⟨Int.tmod_nonneg _ bx0, fun _ => Int.tmod_lt_of_pos _ (by omega)⟩, a1, b1⟩
  rw [if_neg hm]
  obtain ⟨y, i2, g2, e2, ⟨by0, by1⟩, a2, b2⟩ := spec_l1Byte.ok s i1 g1 a1 b1 hs
  rw [e2]; simp only [Option.bind_some]
  obtain ⟨z, i3, g3, e3, ⟨bz0, bz1⟩, a3, b3⟩ := spec_l1Byte.ok s i2 g2 a2 b2 hs
  rw [e3]; simp only [Option.bind_some]
  obtain ⟨u, i4, g4, e4, ⟨bu0, bu1⟩, a4, b4⟩ := spec_l1Byte.ok s i3 g3 a3 b3 hs
  rw [e4]; simp only [Option.bind_some]
  rw [if_neg (by omega)]
  refine ⟨_, _, _, rfl, ⟨Int.tmod_nonneg _ ?_, fun _ => Int.tmod_lt_of_pos _ (by omega)⟩, a4, b4⟩
  rw [w64 (x := x * 16777216) (by omega) (by omega), w64 (x := y * 65536) (by omega) (by omega), w64 (x := z * 256) (by omega) (by omega), w64 (x := x * 16777216 + y * 65536) (by omega) (by omega), w64 (x := x * 16777216 + y * 65536 + z * 256) (by omega) (by omega), w64 (by omega) (by omega)]
  omega
theorem spec_l1PickInt.ok (s : List Int) (i h : Int) (l : List Int) (hl : 0 < l.length) (h0 : 0 ≤ i) (h1 : i ≤ s.length) (hs : s.length ≤ 1048576) : ∃ x i' h', spec_l1PickInt.f s i h l = some (x, i', h') ∧ x ∈ l ∧ 0 ≤ i' ∧ i' ≤ s.length := by
  unfold spec_l1PickInt.f
  obtain ⟨x, i1, g1, e1, ⟨p0, p1⟩, a1, b1⟩ := spec_l1Below.ok s i h (l.length : Int) h0 h1 hs
  rw [e1]
  simp only [Option.bind_some]
  have hx := p1 (by omega)
  rw [if_pos p0, if_pos hx]
  refine ⟨_, _, _, rfl, ?_, a1, b1⟩
  obtain ⟨n, rfl⟩ := Int.eq_ofNat_of_zero_le p0
  rw [rd_lt l n (by omega)]
  exact List.getElem_mem _
theorem spec_ImageNew.eq : spec_ImageNew.f = some (List.replicate 8 0) := rfl
theorem spec_l2DrawImage.ev_l (s : List Int) (hs : s.length ≤ 1048576) : ∀ (d j : Nat) (m : List Int) (i h : Int), j + d = 7 → m.length = 8 → 0 ≤ i → i ≤ s.length → ∃ m' i' h', Ev (fun k => spec_l2DrawImage.l0 k m j s i h) (m', i', h') ∧ m'.length ≤ 9 ∧ 0 ≤ i' ∧ i' ≤ s.length
  | d, j, m, i, h, hd, hm, h0, h1 => by
    obtain ⟨x, i1, g1, e1, ⟨p0, p1⟩, a1, b1⟩ := spec_l1Below.ok s i h 6 h0 h1 hs
    have hx := p1 (by omega)
    by_cases hc : (j : Int) < x
    · obtain ⟨d, rfl⟩ : ∃ d', d = d' + 1 := ⟨d - 1, by omega⟩
      obtain ⟨y, i2, g2, e2, ⟨q0, q1⟩, a2, b2⟩ := spec_l1Below.ok s i1 g1 8 a1 b1 hs
      obtain ⟨z, i3, g3, e3, ⟨r0, r1⟩, a3, b3⟩ := spec_l1Below.ok s i2 g2 9 a2 b2 hs
      have hy := q1 (by omega)
      obtain ⟨m', i', h', ev, hl, c0, c1⟩ := spec_l2DrawImage.ev_l s hs d (j + 1) (m.set y.toNat z) i3 g3 (by omega) (by simpa using hm) a3 b3
      refine ⟨m', i', h', ev_succ ?_, hl, c0, c1⟩
      simp only [spec_l2DrawImage.l0, e1, e2, e3, Option.bind_some]
      have hw : wrap64 ((j : Int) + 1) = ((j + 1 : Nat) : Int) := w64 (by omega) (by omega)
      rw [hw]
      exact ev_pos hc (ev_pos q0 (ev_pos (by omega) ev))
    · obtain ⟨y, i2, g2, e2, _, a2, b2⟩ := spec_l1Below.ok s i1 g1 12 a1 b1 hs
      obtain ⟨z, i3, g3, e3, _, a3, b3⟩ := spec_l1PickInt.ok s i2 g2 [-1, 200, 201] (by simp) a2 b2 hs
      by_cases c0 : y = 0
      · refine ⟨m ++ [1], i2, g2, ev_succ ?_, by simp; omega, a2, b2⟩
        simp only [spec_l2DrawImage.l0, e1, e2, Option.bind_some]
        exact ev_neg hc (ev_pos c0 (ev_pos (by omega) (Ev.now _)))
      by_cases c1 : y = 1
      · refine ⟨m.set 0 z, i3, g3, ev_succ ?_, by simp; omega, a3, b3⟩
        simp only [spec_l2DrawImage.l0, e1, e2, Option.bind_some]
        refine ev_neg hc (ev_neg c0 (ev_pos c1 ?_))
        simp only [e3, Option.bind_some]
        exact ev_pos (by omega) (Ev.now _)
      by_cases c2 : y = 2
      · refine ⟨m.take 3, i2, g2, ev_succ ?_, by simp; omega, a2, b2⟩
        simp only [spec_l2DrawImage.l0, e1, e2, Option.bind_some]
        exact ev_neg hc (ev_neg c0 (ev_neg c1 (ev_pos c2 (ev_pos (by omega) (Ev.now _)))))
      · refine ⟨m, i2, g2, ev_succ ?_, by omega, a2, b2⟩
        simp only [spec_l2DrawImage.l0, e1, e2, Option.bind_some]
        exact ev_neg hc (ev_neg c0 (ev_neg c1 (ev_neg c2 (Ev.now _))))
theorem spec_l2DrawImage.ev (s : List Int) (hs : s.length ≤ 1048576) (i h : Int) (h0 : 0 ≤ i) (h1 : i ≤ s.length) : ∃ m' i' h', Ev (fun k => spec_l2DrawImage.f k s i h) (m', i', h') ∧ m'.length ≤ 9 ∧ 0 ≤ i' ∧ i' ≤ s.length := by
  unfold spec_l2DrawImage.f
  simp only [spec_ImageNew.eq, Option.bind_some]
  exact spec_l2DrawImage.ev_l s hs 7 0 (List.replicate 8 0) i h (by omega) (by simp) h0 h1
theorem spec_l1New.ev_l (s : List Int) (hs : s.length ≤ 1048576) : ∀ (d i : Nat) (h : Int), i + d = s.length → ∃ h', Ev (fun k => spec_l1New.l0 k s h i) (s, 0, h')
  | 0, i, h, hd => by
    refine ⟨h, ev_succ ?_⟩
    simp only [spec_l1New.l0]
    exact ev_neg (by omega) (Ev.now _)
  | d + 1, i, h, hd => by
    by_cases hc : (i : Int) < 4000
    · obtain ⟨h', e⟩ := spec_l1New.ev_l s hs d (i + 1) (Go.bits .and .i64 (wrap64 ((wrap64 ((wrap64 (h * 131)) + (wrap64 (rd s i)))) + 7)) 1073741823) (by omega)
      refine ⟨h', ev_succ ?_⟩
      simp only [spec_l1New.l0]
      refine ev_pos (by omega) (ev_pos hc (ev_pos (by omega) ?_))
      have hw : wrap64 ((i : Int) + 1) = ((i + 1 : Nat) : Int) := w64 (by omega) (by omega)
      rw [hw]
      exact e
    · refine ⟨h, ev_succ ?_⟩
      simp only [spec_l1New.l0]
      exact ev_pos (by omega) (ev_neg hc (Ev.now _))
theorem spec_l1New.ev (s : List Int) (hs : s.length ≤ 1048576) : ∃ h', Ev (fun k => spec_l1New.f k s) (s, 0, h') := by
  unfold spec_l1New.f
  exact spec_l1New.ev_l s hs s.length 0 _ (by omega)
theorem spec_l1Once.ok (s : List Int) (i h n : Int) (h0 : 0 ≤ i) (h1 : i ≤ s.length) (hs : s.length ≤ 1048576) : ∃ x i' h', spec_l1Once.f s i h n = some (x, i', h') ∧ 0 ≤ i' ∧ i' ≤ s.length := by
  unfold spec_l1Once.f
  obtain ⟨x, i1, g1, e1, _, a1, b1⟩ := spec_l1Below.ok s i h n h0 h1 hs
  rw [e1]
  exact ⟨_, _, _, rfl, a1, b1⟩
/-- Put. -/
def putP (l : List Int) (a n : Int) : List Int := if 0 ≤ a ∧ a ≤ (l.length : Int) - 1 then l.set a.toNat n else l
theorem putP_length (l : List Int) (a n : Int) : (putP l a n).length = l.length := by
  unfold putP; split <;> simp
theorem spec_l1In.eq (a b c : Int) : spec_l1In.f a b c = some (decide (b ≤ a ∧ a ≤ c)) := by
  unfold spec_l1In.f
  by_cases h : b ≤ a
  · rw [if_pos h]; simp [h]
  · rw [if_neg h]; simp [h]
theorem spec_Put.eq (l : List Int) (a n : Int) (h : l.length < 17592186044416) : spec_Put.f l a n = some (putP l a n) := by
  unfold spec_Put.f putP
  simp only [Option.bind_some, spec_l1In.eq, List.nil_append, List.length_nil, Nat.zero_add]
  rw [if_pos h, w64 (x := (l.length : Int) - 1) (by omega) (by omega)]
  by_cases hc : 0 ≤ a ∧ a ≤ (l.length : Int) - 1
  · rw [if_pos hc, decide_eq_true hc, if_pos rfl, if_pos hc.1, if_pos (by omega)]
  · rw [if_neg hc, decide_eq_false hc]
    rfl
theorem spec_DrawDiffer.ev (s : List Int) (hs : s.length ≤ 1048576) : ∃ a b, Ev (fun k => spec_DrawDiffer.f k s) (a, b) ∧ a.length ≤ 9 ∧ b.length ≤ 9 := by
  unfold spec_DrawDiffer.f
  obtain ⟨h0, e0⟩ := spec_l1New.ev s hs
  obtain ⟨m, i1, g1, e1, l1, a1, b1⟩ := spec_l2DrawImage.ev s hs 0 h0 (by omega) (by omega)
  obtain ⟨x, i2, g2, e2, a2, b2⟩ := spec_l1Once.ok s i1 g1 3 a1 b1 hs
  obtain ⟨n, i3, g3, e3, l3, a3, b3⟩ := spec_l2DrawImage.ev s hs i2 g2 a2 b2
  by_cases hx : x = true
  · refine ⟨m, putP m 2 5, Ev.bind e0 (Ev.bind e1 (ev_bind_some e2 (ev_pos hx (ev_bind_some (spec_Put.eq m 2 5 (by omega)) (Ev.now _))))), l1, by rw [putP_length]; exact l1⟩
  · exact ⟨m, n, Ev.bind e0 (Ev.bind e1 (ev_bind_some e2 (ev_neg hx (Ev.bind e3 (Ev.now _))))), l1, l3⟩
def differB (a b : List Int) (i : Nat) : Bool := (decide (i < a.length) != decide (i < b.length)) || (decide (i < a.length) && a.getD i 0 != b.getD i 0)
def differR (a b : List Int) (i d : Nat) : List Int := ((List.range' i d).filter (differB a b)).map fun (j : Nat) => (j : Int)
/-- Differ. -/
def differP (a b : List Int) : List Int := differR a b 0 8
theorem differR_succ (a b : List Int) (i d : Nat) : differR a b i (d + 1) = if differB a b i then (i : Int) :: differR a b (i + 1) d else differR a b (i + 1) d := by
  unfold differR
  rw [List.range'_succ, List.filter_cons]
  split <;> rfl
theorem differR_length (a b : List Int) (i d : Nat) : (differR a b i d).length ≤ d := by
  unfold differR
  rw [List.length_map]
  exact Nat.le_trans (List.length_filter_le _ _) (by simp)
theorem differP_length (a b : List Int) : (differP a b).length ≤ 8 := differR_length a b 0 8
theorem impl_Differ.ev_l (a b : List Int) (ha : a.length ≤ 9223372036854775000) (hb : b.length ≤ 9223372036854775000) : ∀ (d i : Nat) (y : List Int), i + d = 8 → y.length ≤ i → Ev (fun k => impl_Differ.l0 k a b y i) (y ++ differR a b i d)
  | 0, i, y, hd, hy => by
    refine Ev.step (f := fun _ => some (y ++ differR a b i 0)) (fun k => ?_) (Ev.now _)
    simp only [impl_Differ.l0]
    rw [if_neg (by omega)]
    simp [differR]
  | d + 1, i, y, hd, hy => by
    have hw : wrap64 ((i : Int) + 1) = ((i + 1 : Nat) : Int) := w64 (by omega) (by omega)
    have i1 := impl_Differ.ev_l a b ha hb d (i + 1) (y ++ [(i : Int)]) (by omega) (by simp; omega)
    have i2 := impl_Differ.ev_l a b ha hb d (i + 1) y (by omega) (by omega)
    rw [differR_succ]
    by_cases hd1 : (decide (i < a.length) != decide (i < b.length)) = true
    · refine Ev.step (fun k => ?_) (ev_eq i1 (by simp [differB, hd1]))
      simp only [impl_Differ.l0]
      rw [if_pos (by omega), if_pos (by simpa using hd1), if_pos (by omega), hw]
    · have hd2 : (decide (i < a.length) != decide (i < b.length)) = false := by simpa using hd1
      have hne : ¬ ((decide ((i : Int) < (a.length : Int))) != (decide ((i : Int) < (b.length : Int)))) = true := by simpa using hd1
      by_cases h1 : i < a.length
      · have h2 : i < b.length := by simpa [h1] using hd2
        by_cases h3 : a.getD i 0 = b.getD i 0
        · refine Ev.step (fun k => ?_) (ev_eq i2 (by simp only [differB, hd2, h3]; simp))
          simp only [impl_Differ.l0]
          rw [if_pos (by omega), if_neg hne, if_pos (by omega), if_pos (by omega), if_pos (by omega), if_pos (by rw [rd_nat, rd_nat]; exact h3), hw]
        · refine Ev.step (fun k => ?_) (ev_eq i1 (by
            have h4 : differB a b i = true := by
              unfold differB
              rw [hd2, decide_eq_true h1, bne_iff_ne.mpr h3]; rfl
            simp [h4]))
          simp only [impl_Differ.l0]
          rw [if_pos (by omega), if_neg hne, if_pos (by omega), if_pos (by omega), if_pos (by omega), if_neg (by rw [rd_nat, rd_nat]; exact h3), if_pos (by omega), hw]
      · refine Ev.step (fun k => ?_) (ev_eq i2 (by
          have h4 : differB a b i = false := by
            unfold differB
            rw [hd2, decide_eq_false h1]; rfl
          simp [h4]))
        simp only [impl_Differ.l0]
        rw [if_pos (by omega), if_neg hne, if_neg (by omega), hw]
theorem impl_Differ.ev (a b : List Int) (ha : a.length ≤ 9223372036854775000) (hb : b.length ≤ 9223372036854775000) : Ev (fun k => impl_Differ.f k a b) (differP a b) := by
  unfold impl_Differ.f
  exact impl_Differ.ev_l a b ha hb 8 0 [] (by omega) (by simp)
theorem impl_from.eq (a b c : Int) : impl_from.f a b c = some (decide (b ≤ a ∧ a ≤ c)) := by
  unfold impl_from.f
  by_cases h : b ≤ a
  · rw [if_pos h]; simp [h]
  · rw [if_neg h]; simp [h]
/-- ImageOk. -/
def imageP (l : List Int) : Bool := decide (l.length = 8) && l.all fun x => decide (0 ≤ x ∧ x ≤ 200)
def badI : List Int → Int → Int
  | [], _ => -1
  | x :: l, i => if 0 ≤ x ∧ x ≤ 200 then badI l (i + 1) else i
theorem badI_all : ∀ (l : List Int) (i : Int), 0 ≤ i → (badI l i ≥ 0 ↔ (l.all fun x => decide (0 ≤ x ∧ x ≤ 200)) = false)
  | [], i, h => by simp [badI]
  | x :: l, i, h => by
    unfold badI
    by_cases e : 0 ≤ x ∧ x ≤ 200
    · rw [if_pos e, badI_all l (i + 1) (by omega)]; simp only [List.all_cons, decide_eq_true e, Bool.true_and]
    · rw [if_neg e]; simp only [List.all_cons, decide_eq_false e, Bool.false_and, iff_true]; exact h
theorem slices_IndexFunc_int_int_impl_ImageOk_1.ev_l (x : List Int) (hn : x.length ≤ 9223372036854775000) : ∀ (d i : Nat), i + d = x.length → Ev (fun k => slices_IndexFunc_int_int_impl_ImageOk_1.l0 k x (x.length : Int) i) (badI (x.drop i) i)
  | 0, i, hd => by
    refine ev_succ ?_
    simp only [slices_IndexFunc_int_int_impl_ImageOk_1.l0]
    exact ev_neg (by omega) (ev_eq (Ev.now _) (by rw [List.drop_of_length_le (by omega)]; rfl))
  | d + 1, i, hd => by
    have hi : i < x.length := by omega
    have e : x.drop i = x[i] :: x.drop (i + 1) := List.drop_eq_getElem_cons hi
    have ih := slices_IndexFunc_int_int_impl_ImageOk_1.ev_l x hn d (i + 1) (by omega)
    have hw : wrap64 ((i : Int) + 1) = ((i + 1 : Nat) : Int) := w64 (by omega) (by omega)
    refine ev_succ ?_
    simp only [slices_IndexFunc_int_int_impl_ImageOk_1.l0, impl_ImageOk_1.f, impl_from.eq, Option.bind_some]
    rw [rd_lt x i hi, e, badI, hw]
    refine ev_pos (by omega) (ev_pos (by omega) (ev_pos (by omega) ?_))
    by_cases h : 0 ≤ x[i] ∧ x[i] ≤ 200
    · exact ev_neg (by simp [h]) (ev_eq ih (by rw [if_pos h]; simp))
    · exact ev_pos (by rw [decide_eq_false h]; rfl) (ev_eq (Ev.now _) (by rw [if_neg h]))
theorem impl_ImageOk.ev (x : List Int) (hn : x.length ≤ 9223372036854775000) : Ev (fun k => impl_ImageOk.f k x) (imageP x) := by
  unfold impl_ImageOk.f imageP slices_ContainsFunc_int_int_impl_ImageOk_1.f slices_IndexFunc_int_int_impl_ImageOk_1.f
  by_cases h : x.length = 8
  · refine ev_pos (by omega) (Ev.bind (Ev.bind (slices_IndexFunc_int_int_impl_ImageOk_1.ev_l x hn x.length 0 (by omega)) (Ev.now _)) (ev_eq (Ev.now _) ?_))
    have hb := badI_all x 0 (by omega)
    rw [List.drop_zero, decide_eq_true h, Bool.true_and]
    cases hq : (x.all fun x => decide (0 ≤ x ∧ x ≤ 200)) with
    | true =>
      rw [hq] at hb
      have : ¬ badI x 0 ≥ 0 := fun z => by have := hb.mp z; cases this
      simp only [Int.natCast_zero]
      rw [decide_eq_false this]; rfl
    | false =>
      simp only [Int.natCast_zero]
      rw [decide_eq_true (hb.mpr hq)]; rfl
  · refine ev_neg (by omega) (ev_eq (Ev.now _) ?_)
    rw [decide_eq_false h]; rfl
theorem slices_Clone_int_int.eq (l : List Int) (h : l.length < 17592186044416) : slices_Clone_int_int.f l = some l := by
  unfold slices_Clone_int_int.f
  simp [h]
theorem impl_Put.eq (l : List Int) (a n : Int) (h : l.length < 17592186044416) : impl_Put.f l a n = some (putP l a n) := by
  unfold impl_Put.f putP
  rw [slices_Clone_int_int.eq l h]
  simp only [Option.bind_some, impl_from.eq]
  rw [w64 (x := (l.length : Int) - 1) (by omega) (by omega)]
  by_cases hc : 0 ≤ a ∧ a ≤ (l.length : Int) - 1
  · rw [if_pos hc, decide_eq_true hc, if_pos rfl, if_pos hc.1, if_pos (by omega)]
  · rw [if_neg hc, decide_eq_false hc]
    rfl
theorem laws_big.eq (l : List Int) : laws_big.f l = some (decide ((l.length : Int) > 1048576)) := rfl
theorem laws_sameInts.ev_l (x : List Int) (hn : x.length ≤ 9223372036854775000) : ∀ (d i : Nat), i + d = x.length → Ev (fun k => laws_sameInts.l0 k x x i) true
  | 0, i, hd => by
    refine Ev.step (f := fun _ => some true) (fun k => ?_) (Ev.now _)
    simp only [laws_sameInts.l0]
    rw [if_neg (by omega)]
  | d + 1, i, hd => by
    refine Ev.step (fun k => ?_) (laws_sameInts.ev_l x hn d (i + 1) (by omega))
    simp only [laws_sameInts.l0]
    rw [if_pos (by omega), if_pos (by omega), if_pos (by omega), w64 (by omega) (by omega)]
    simp
theorem laws_sameInts.ev (x : List Int) (hn : x.length ≤ 9223372036854775000) : Ev (fun k => laws_sameInts.f k x x) true := by
  unfold laws_sameInts.f
  exact ev_pos rfl (laws_sameInts.ev_l x hn x.length 0 (by omega))
theorem spec_Differ.ev_l (a b : List Int) (ha : a.length ≤ 9223372036854775000) (hb : b.length ≤ 9223372036854775000) : ∀ (d i : Nat) (y : List Int), i + d = 8 → y.length ≤ i → Ev (fun k => spec_Differ.l0 k a b y i) (y ++ differR a b i d)
  | 0, i, y, hd, hy => by
    refine Ev.step (f := fun _ => some (y ++ differR a b i 0)) (fun k => ?_) (Ev.now _)
    simp only [spec_Differ.l0]
    rw [if_neg (by omega)]
    simp [differR]
  | d + 1, i, y, hd, hy => by
    have hw : wrap64 ((i : Int) + 1) = ((i + 1 : Nat) : Int) := w64 (by omega) (by omega)
    have i1 := spec_Differ.ev_l a b ha hb d (i + 1) (y ++ [(i : Int)]) (by omega) (by simp; omega)
    have i2 := spec_Differ.ev_l a b ha hb d (i + 1) y (by omega) (by omega)
    rw [differR_succ]
    by_cases hd1 : (decide (i < a.length) != decide (i < b.length)) = true
    · refine Ev.step (fun k => ?_) (ev_eq i1 (by simp [differB, hd1]))
      simp only [spec_Differ.l0]
      rw [if_pos (by omega), if_pos (by simpa using hd1), if_pos (by omega), hw]
    · have hd2 : (decide (i < a.length) != decide (i < b.length)) = false := by simpa using hd1
      have hne : ¬ ((decide ((i : Int) < (a.length : Int))) != (decide ((i : Int) < (b.length : Int)))) = true := by simpa using hd1
      by_cases h1 : i < a.length
      · have h2 : i < b.length := by simpa [h1] using hd2
        by_cases h3 : a.getD i 0 = b.getD i 0
        · refine Ev.step (fun k => ?_) (ev_eq i2 (by simp only [differB, hd2, h3]; simp))
          simp only [spec_Differ.l0]
          rw [if_pos (by omega), if_neg hne, if_pos (by omega), if_pos (by omega), if_pos (by omega), if_pos (by rw [rd_nat, rd_nat]; exact h3), hw]
        · refine Ev.step (fun k => ?_) (ev_eq i1 (by
            have h4 : differB a b i = true := by
              unfold differB
              rw [hd2, decide_eq_true h1, bne_iff_ne.mpr h3]; rfl
            simp [h4]))
          simp only [spec_Differ.l0]
          rw [if_pos (by omega), if_neg hne, if_pos (by omega), if_pos (by omega), if_pos (by omega), if_neg (by rw [rd_nat, rd_nat]; exact h3), if_pos (by omega), hw]
      · refine Ev.step (fun k => ?_) (ev_eq i2 (by
          have h4 : differB a b i = false := by
            unfold differB
            rw [hd2, decide_eq_false h1]; rfl
          simp [h4]))
        simp only [spec_Differ.l0]
        rw [if_pos (by omega), if_neg hne, if_neg (by omega), hw]
theorem spec_Differ.ev (a b : List Int) (ha : a.length ≤ 9223372036854775000) (hb : b.length ≤ 9223372036854775000) : Ev (fun k => spec_Differ.f k a b) (differP a b) := by
  unfold spec_Differ.f
  exact spec_Differ.ev_l a b ha hb 8 0 [] (by omega) (by simp)
theorem differR_mem (a b : List Int) (i d : Nat) (z : Int) : z ∈ differR a b i d ↔ ∃ j : Nat, z = j ∧ i ≤ j ∧ j < i + d ∧ differB a b j = true := by
  unfold differR
  simp only [List.mem_map, List.mem_filter, List.mem_range'_1]
  constructor
  · rintro ⟨j, ⟨⟨h1, h2⟩, h3⟩, rfl⟩; exact ⟨j, rfl, h1, h2, h3⟩
  · rintro ⟨j, rfl, h1, h2, h3⟩; exact ⟨j, ⟨⟨h1, h2⟩, h3⟩, rfl⟩
def putsP (a : List Int) : List Int → List Int → List Int
  | y, [] => y
  | y, j :: fs => putsP a (putP y j (a.getD j.toNat 0)) fs
theorem putsP_length (a : List Int) : ∀ (fs y : List Int), (putsP a y fs).length = y.length
  | [], y => rfl
  | j :: fs, y => by rw [putsP, putsP_length a fs, putP_length]
theorem putsP_get (a : List Int) : ∀ (fs y : List Int) (i : Nat), i < y.length → (∀ z ∈ fs, 0 ≤ z ∧ z < y.length) → (putsP a y fs).getD i 0 = if (i : Int) ∈ fs then a.getD i 0 else y.getD i 0
  | [], y, i, hi, hf => by simp [putsP]
  | j :: fs, y, i, hi, hf => by
    have hj := hf j (by simp)
    rw [putsP, putsP_get a fs _ i (by rw [putP_length]; exact hi) (fun z hz => by rw [putP_length]; exact hf z (by simp [hz]))]
    obtain ⟨n, rfl⟩ := Int.eq_ofNat_of_zero_le hj.1
    have hp : putP y (n : Int) (a.getD (n : Int).toNat 0) = y.set n (a.getD n 0) := by
      unfold putP; rw [if_pos (by omega)]; simp
    rw [hp]
    by_cases h1 : (i : Int) ∈ fs
    · rw [if_pos h1, if_pos (by simp [h1])]
    · rw [if_neg h1]
      by_cases h2 : i = n
      · subst h2
        rw [if_pos (by simp)]
        simp [List.getD, hi]
      · rw [if_neg (by simp [h1]; omega)]
        simp [List.getD, List.getElem?_set, Ne.symm h2]
theorem puts_differ (x a : List Int) (hx : x.length = 8) (ha : a.length = 8) : putsP a x (differP x a) = a := by
  apply List.ext_getElem
  · rw [putsP_length, hx, ha]
  · intro i h1 h2
    have hi : i < x.length := by rw [putsP_length] at h1; exact h1
    have h := putsP_get a (differP x a) x i hi (fun z hz => by
      obtain ⟨j, rfl, _, h3, _⟩ := (differR_mem x a 0 8 z).mp hz
      omega)
    have e1 : (putsP a x (differP x a)).getD i 0 = (putsP a x (differP x a))[i] := by simp [List.getD, List.getElem?_eq_getElem h1]
    have e2 : a.getD i 0 = a[i] := by simp [List.getD, List.getElem?_eq_getElem h2]
    rw [e1, e2] at h
    rw [h]
    by_cases hm : (i : Int) ∈ differP x a
    · rw [if_pos hm]
    · rw [if_neg hm]
      have hb : differB x a i = false := by
        cases hq : differB x a i with
        | false => rfl
        | true => exact absurd ((differR_mem x a 0 8 i).mpr ⟨i, rfl, by omega, by omega, hq⟩) hm
      unfold differB at hb
      have q1 : decide (i < x.length) = true := decide_eq_true hi
      have q2 : decide (i < a.length) = true := decide_eq_true (by omega)
      rw [q1, q2] at hb
      simp only [bne_self_eq_false, Bool.false_or, Bool.true_and, bne_eq_false_iff_eq] at hb
      rw [hb, e2]
theorem differ_comm (x a : List Int) : differP x a = differP a x := by
  unfold differP differR
  congr 1
  apply List.filter_congr
  intro j _
  unfold differB
  by_cases h1 : j < x.length <;> by_cases h2 : j < a.length <;> simp [h1, h2, bne_comm]
theorem differ_self (a : List Int) : differP a a = [] := by
  unfold differP differR
  rw [List.map_eq_nil_iff, List.filter_eq_nil_iff]
  intro j _
  simp [differB]
theorem puts_ev (x a f : List Int) (hx : x.length = 8) (ha : a.length = 8) (hf : ∀ z ∈ f, 0 ≤ z ∧ z < 8) (hl : f.length ≤ 8) (R : Bool) (hR : Ev (fun k => laws_FnDifferPuts.l0 k x a f (putsP a x f) (f.length : Int)) R) : ∀ (d i : Nat) (y : List Int), i + d = f.length → y.length = 8 → putsP a y (f.drop i) = putsP a x f → Ev (fun k => laws_FnDifferPuts.l0 k x a f y i) R
  | 0, i, y, hd, hy, hp => by
    obtain rfl : i = f.length := by omega
    rw [List.drop_of_length_le (Nat.le_refl _), putsP] at hp
    rw [hp]; exact hR
  | d + 1, i, y, hd, hy, hp => by
    have hi : i < f.length := by omega
    have e : f.drop i = f[i] :: f.drop (i + 1) := List.drop_eq_getElem_cons hi
    have hz := hf f[i] (List.getElem_mem hi)
    rw [e, putsP] at hp
    have hw : wrap64 ((i : Int) + 1) = ((i + 1 : Nat) : Int) := w64 (by omega) (by omega)
    refine ev_succ ?_
    simp only [laws_FnDifferPuts.l0]
    rw [rd_lt f i hi, hw]
    generalize f[i] = j at *
    refine ev_pos (by omega) (ev_pos (by omega) (ev_pos hz.1 (ev_pos (by omega) (ev_bind_some (impl_Put.eq y j (rd a j) (by omega)) ?_))))
    exact puts_ev x a f hx ha hf hl R hR d (i + 1) (putP y j (rd a j)) (by omega) (by rw [putP_length]; exact hy) hp
theorem FnDifferPuts : laws_FnDifferPuts.Pure := by
  intro s _ _ _
  apply Ev.rounds (g := fun k => laws_FnDifferPuts.f k s)
  unfold laws_FnDifferPuts.f
  simp only [laws_big.eq, Option.bind_some]
  by_cases hs : (s.length : Int) > 1048576
  · exact ev_pos (by simpa using hs) (Ev.now _)
  refine ev_neg (by simpa using hs) ?_
  obtain ⟨x, a, e0, lx, la⟩ := spec_DrawDiffer.ev s (by omega)
  have ld := differP_length x a
  refine Ev.bind e0 (Ev.bind (impl_Differ.ev x a (by omega) (by omega)) (Ev.bind (spec_Differ.ev x a (by omega) (by omega)) (Ev.bind (laws_sameInts.ev (differP x a) (by omega)) (ev_pos rfl (Ev.bind (impl_ImageOk.ev x (by omega)) ?_)))))
  have hj : Ev (fun k => laws_FnDifferPuts.j0 k x a (differP x a) true) true := by
    refine ev_succ ?_
    simp only [laws_FnDifferPuts.j0]
    exact ev_pos (by simp) (Ev.now _)
  by_cases h1 : imageP x = true
  · refine ev_pos h1 (Ev.bind (impl_ImageOk.ev a (by omega)) ?_)
    by_cases h2 : imageP a = true
    · rw [h2]
      have hx : x.length = 8 := by unfold imageP at h1; simp only [Bool.and_eq_true, decide_eq_true_eq] at h1; exact h1.1
      have ha : a.length = 8 := by unfold imageP at h2; simp only [Bool.and_eq_true, decide_eq_true_eq] at h2; exact h2.1
      refine ev_succ ?_
      simp only [laws_FnDifferPuts.j0, Option.bind_some, List.nil_append, List.length_nil, Nat.zero_add]
      refine ev_neg (by simp) (ev_pos (by omega) ?_)
      refine puts_ev x a (differP x a) hx ha (fun z hz => ?_) ld true ?_ (differP x a).length 0 x (by omega) hx (by simp)
      · obtain ⟨j, rfl, _, h3, _⟩ := (differR_mem x a 0 8 z).mp hz
        omega
      · rw [puts_differ x a hx ha]
        refine ev_succ ?_
        simp only [laws_FnDifferPuts.l0]
        refine ev_neg (by omega) (Ev.bind (laws_sameInts.ev a (by omega)) (ev_pos rfl (Ev.bind (ev_eq (impl_Differ.ev a x (by omega) (by omega)) (differ_comm a x)) (Ev.bind (laws_sameInts.ev (differP x a) (by omega)) (ev_pos rfl (Ev.bind (ev_eq (impl_Differ.ev a a (by omega) (by omega)) (differ_self a)) (ev_eq (Ev.now _) (by simp))))))))
    · rw [show imageP a = false by simpa using h2]
      exact hj
  · exact ev_neg h1 hj

end Go.Proofs.Ytkejojcjmlnpgaa.Pure
