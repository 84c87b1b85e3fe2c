/- FnExactDiffer: the plain law: what the printed functions tell answers true at every input. No condition. -/
import Derived.Test.YtoodipndmhehmaaQFnExactDifferx2
import Derived.Test.YtoodipndmhehmaaAid
namespace Go.Proofs.Ytoodipndmhehmaa.Pure
open Go.RowKit Go.Proofs.Ytoodipndmhehmaa.QFnExactDiffer Go.Proofs.YtoodipndmhehmaaW.PrintWords Go.Proofs.YtoodipndmhehmaaW.PrintLast Go.Proofs.YtoodipndmhehmaaW.PrintMore Go.Proofs.Ytoodipndmhehmaa.Aid
set_option linter.unusedVariables false
set_option linter.unusedSimpArgs false

def differB (a b : List Int) (i : Nat) : Bool := (decide (i < a.length) != decide (i < b.length)) || (decide (i < a.length) && a.getD i 0 != b.getD i 0)
def differR (a b : List Int) (i d : Nat) : List Int := ((List.range' i d).filter (differB a b)).map fun (j : Nat) => (j : Int)
/-- Differ. -/
def differP (a b : List Int) : List Int := differR a b 0 8
theorem differR_succ (a b : List Int) (i d : Nat) : differR a b i (d + 1) = if differB a b i then (i : Int) :: differR a b (i + 1) d else differR a b (i + 1) d := by
  unfold differR
  rw [List.range'_succ, List.filter_cons]
  split <;> rfl
theorem differR_length (a b : List Int) (i d : Nat) : (differR a b i d).length ≤ d := by
  unfold differR
  rw [List.length_map]
  exact Nat.le_trans (List.length_filter_le _ _) (by simp)
theorem differP_length (a b : List Int) : (differP a b).length ≤ 8 := differR_length a b 0 8
theorem impl_Differ.ev_l (a b : List Int) (ha : a.length ≤ 9223372036854775000) (hb : b.length ≤ 9223372036854775000) : ∀ (d i : Nat) (y : List Int), i + d = 8 → y.length ≤ i → Ev (fun k => impl_Differ.l0 k a b y i) (y ++ differR a b i d)
  | 0, i, y, hd, hy => by
    refine Ev.step (f := fun _ => some (y ++ differR a b i 0)) (fun k => ?_) (Ev.now _)
    simp only [impl_Differ.l0]
    rw [if_neg (by omega)]
    simp [differR]
  | d + 1, i, y, hd, hy => by
    have hw : wrap64 ((i : Int) + 1) = ((i + 1 : Nat) : Int) := w64 (by omega) (by omega)
    have i1 := impl_Differ.ev_l a b ha hb d (i + 1) (y ++ [(i : Int)]) (by omega) (by simp; omega)
    have i2 := impl_Differ.ev_l a b ha hb d (i + 1) y (by omega) (by omega)
    rw [differR_succ]
    by_cases hd1 : (decide (i < a.length) != decide (i < b.length)) = true
    · refine Ev.step (fun k => ?_) (ev_eq i1 (by simp [differB, hd1]))
      simp only [impl_Differ.l0]
      rw [if_pos (by omega), if_pos (by simpa using hd1), if_pos (by omega), hw]
    · have hd2 : (decide (i < a.length) != decide (i < b.length)) = false := by simpa using hd1
      have hne : ¬ ((decide ((i : Int) < (a.length : Int))) != (decide ((i : Int) < (b.length : Int)))) = true := by simpa using hd1
      by_cases h1 : i < a.length
      · have h2 : i < b.length := by simpa [h1] using hd2
        by_cases h3 : a.getD i 0 = b.getD i 0
        · refine Ev.step (fun k => ?_) (ev_eq i2 (by simp only [differB, hd2, h3]; simp))
          simp only [impl_Differ.l0]
          rw [if_pos (by omega), if_neg hne, if_pos (by omega), if_pos (by omega), if_pos (by omega), if_pos (by rw [rd_nat, rd_nat]; exact h3), hw]
        · refine Ev.step (fun k => ?_) (ev_eq i1 (by
            have h4 : differB a b i = true := by
              unfold differB
              rw [hd2, decide_eq_true h1, bne_iff_ne.mpr h3]; rfl
            simp [h4]))
          simp only [impl_Differ.l0]
          rw [if_pos (by omega), if_neg hne, if_pos (by omega), if_pos (by omega), if_pos (by omega), if_neg (by rw [rd_nat, rd_nat]; exact h3), if_pos (by omega), hw]
      · refine Ev.step (fun k => ?_) (ev_eq i2 (by
          have h4 : differB a b i = false := by
            unfold differB
            rw [hd2, decide_eq_false h1]; rfl
          simp [h4]))
        simp only [impl_Differ.l0]
        rw [if_pos (by omega), if_neg hne, if_neg (by omega), hw]
theorem impl_Differ.ev (a b : List Int) (ha : a.length ≤ 9223372036854775000) (hb : b.length ≤ 9223372036854775000) : Ev (fun k => impl_Differ.f k a b) (differP a b) := by
  unfold impl_Differ.f
  exact impl_Differ.ev_l a b ha hb 8 0 [] (by omega) (by simp)
theorem laws_eqIntS.ev_l (x : List Int) (hn : x.length ≤ 9223372036854775000) : ∀ (d i : Nat), i + d = x.length → Ev (fun k => laws_eqIntS.l0 k x x i) true
  | 0, i, hd => by
    refine Ev.step (f := fun _ => some true) (fun k => ?_) (Ev.now _)
    simp only [laws_eqIntS.l0]
    rw [if_neg (by omega)]
  | d + 1, i, hd => by
    refine Ev.step (fun k => ?_) (laws_eqIntS.ev_l x hn d (i + 1) (by omega))
    simp only [laws_eqIntS.l0]
    rw [if_pos (by omega), if_pos (by omega), if_pos (by omega), w64 (by omega) (by omega)]
    simp
theorem laws_eqIntS.ev (x : List Int) (hn : x.length ≤ 9223372036854775000) : Ev (fun k => laws_eqIntS.f k x x) true := by
  unfold laws_eqIntS.f
  exact ev_pos rfl (laws_eqIntS.ev_l x hn x.length 0 (by omega))
theorem laws_heldIntS.ev_l (a : Int) (ha : 0 ≤ a) (ha1 : a ≤ 4611686018427387904) (n : Nat) (hn : n ≤ 1152921504606846976) : ∀ (d i : Nat), i + d = n → Ev (fun k => laws_heldIntS.l0 k (cnt (fun z => z) a n) (a + i) i) (a + n)
  | 0, i, hd => by
    refine Ev.step (f := fun _ => some (a + n)) (fun k => ?_) (Ev.now _)
    simp only [laws_heldIntS.l0]
    rw [if_neg (by rw [cnt_length]; omega)]
    obtain rfl : i = n := by omega
    rfl
  | d + 1, i, hd => by
    have h := laws_heldIntS.ev_l a ha ha1 n hn d (i + 1) (by omega)
    refine Ev.step (fun k => ?_) h
    simp only [laws_heldIntS.l0]
    rw [if_pos (by rw [cnt_length]; omega), if_pos (by omega), if_pos (by rw [rd_nat, cnt_get _ _ _ _ _ (by omega)]), w64 (x := (i : Int) + 1) (by omega) (by omega), w64 (by omega) (by omega)]
    simp [Int.add_assoc]
theorem laws_heldIntS.ev (a : Int) (ha : 0 ≤ a) (ha1 : a ≤ 4611686018427387904) (n : Nat) (hn : n ≤ 1152921504606846976) : Ev (fun k => laws_heldIntS.f k (cnt (fun z => z) a n) a) (a + n) := by
  unfold laws_heldIntS.f
  have h := laws_heldIntS.ev_l a ha ha1 n hn n 0 (by omega)
  simpa using h
theorem laws_markIntS.ev_l (a : Int) (ha : 0 ≤ a) (ha1 : a ≤ 4611686018427387904) : ∀ (d i : Nat) (y : List Int), i + d = y.length → y.length ≤ 1152921504606846976 → y.take i = cnt (fun z => z) a i → Ev (fun k => laws_markIntS.l0 k y (a + i) i) (a + y.length, cnt (fun z => z) a y.length)
  | 0, i, y, hd, hn, ht => by
    refine Ev.step (f := fun _ => some (a + y.length, cnt (fun z => z) a y.length)) (fun k => ?_) (Ev.now _)
    simp only [laws_markIntS.l0]
    rw [if_neg (by omega)]
    obtain rfl : i = y.length := by omega
    rw [← cnt_all (fun z => z) a y _ rfl ht]
  | d + 1, i, y, hd, hn, ht => by
    have h := laws_markIntS.ev_l a ha ha1 d (i + 1) (y.set i ((fun z => z) (a + i))) (by simp; omega) (by simp; omega) (set_cnt (fun z => z) a y i (by omega) ht)
    rw [List.length_set] at h
    refine Ev.step (fun k => ?_) h
    simp only [laws_markIntS.l0]
    rw [if_pos (by omega), if_pos (by omega), w64 (x := (i : Int) + 1) (by omega) (by omega), w64 (by omega) (by omega)]
    simp [Int.add_assoc]
theorem laws_markIntS.ev (a : Int) (ha : 0 ≤ a) (ha1 : a ≤ 4611686018427387904) (y : List Int) (hn : y.length ≤ 1152921504606846976) : Ev (fun k => laws_markIntS.f k y a) (a + y.length, cnt (fun z => z) a y.length) := by
  unfold laws_markIntS.f
  have h := laws_markIntS.ev_l a ha ha1 y.length 0 y (by omega) hn (by simp [cnt])
  simpa using h
theorem laws_toIntS.ev_l (x : List Int) (hn : x.length ≤ 35184372088832) : ∀ (d i : Nat) (y : List Int), i + d = x.length → y.length = x.length → y.take i = x.take i → Ev (fun k => laws_toIntS.l0 k x y i) x
  | 0, i, y, hd, hy, ht => by
    refine Ev.step (f := fun _ => some x) (fun k => ?_) (Ev.now _)
    simp only [laws_toIntS.l0]
    rw [if_neg (by omega)]
    have hi : i = x.length := by omega
    subst hi
    rw [List.take_of_length_le (by omega), List.take_of_length_le (Nat.le_refl _)] at ht
    rw [ht]
  | d + 1, i, y, hd, hy, ht => by
    refine Ev.step (fun k => ?_) (laws_toIntS.ev_l x hn d (i + 1) (y.set i (x.getD i 0)) (by omega) (by simp [hy]) (set_take 0 x y i (by omega) hy ht))
    simp only [laws_toIntS.l0]
    rw [if_pos (by omega), if_pos (by omega), if_pos (by omega), w64 (by omega) (by omega), rd_nat]
    simp
theorem laws_toIntS.ev (x : List Int) (hn : x.length ≤ 35184372088832) : Ev (fun k => laws_toIntS.f k x) x := by
  unfold laws_toIntS.f
  refine ev_pos (by omega) (ev_pos (by simp; omega) ?_)
  exact laws_toIntS.ev_l x hn x.length 0 _ (by omega) (by simp) (by simp)
theorem spec_Differ.ev_l (a b : List Int) (ha : a.length ≤ 9223372036854775000) (hb : b.length ≤ 9223372036854775000) : ∀ (d i : Nat) (y : List Int), i + d = 8 → y.length ≤ i → Ev (fun k => spec_Differ.l0 k a b y i) (y ++ differR a b i d)
  | 0, i, y, hd, hy => by
    refine Ev.step (f := fun _ => some (y ++ differR a b i 0)) (fun k => ?_) (Ev.now _)
    simp only [spec_Differ.l0]
    rw [if_neg (by omega)]
    simp [differR]
  | d + 1, i, y, hd, hy => by
    have hw : wrap64 ((i : Int) + 1) = ((i + 1 : Nat) : Int) := w64 (by omega) (by omega)
    have i1 := spec_Differ.ev_l a b ha hb d (i + 1) (y ++ [(i : Int)]) (by omega) (by simp; omega)
    have i2 := spec_Differ.ev_l a b ha hb d (i + 1) y (by omega) (by omega)
    rw [differR_succ]
    by_cases hd1 : (decide (i < a.length) != decide (i < b.length)) = true
    · refine Ev.step (fun k => ?_) (ev_eq i1 (by simp [differB, hd1]))
      simp only [spec_Differ.l0]
      rw [if_pos (by omega), if_pos (by simpa using hd1), if_pos (by omega), hw]
    · have hd2 : (decide (i < a.length) != decide (i < b.length)) = false := by simpa using hd1
      have hne : ¬ ((decide ((i : Int) < (a.length : Int))) != (decide ((i : Int) < (b.length : Int)))) = true := by simpa using hd1
      by_cases h1 : i < a.length
      · have h2 : i < b.length := by simpa [h1] using hd2
        by_cases h3 : a.getD i 0 = b.getD i 0
        · refine Ev.step (fun k => ?_) (ev_eq i2 (by simp only [differB, hd2, h3]; simp))
          simp only [spec_Differ.l0]
          rw [if_pos (by omega), if_neg hne, if_pos (by omega), if_pos (by omega), if_pos (by omega), if_pos (by rw [rd_nat, rd_nat]; exact h3), hw]
        · refine Ev.step (fun k => ?_) (ev_eq i1 (by
            have h4 : differB a b i = true := by
              unfold differB
              rw [hd2, decide_eq_true h1, bne_iff_ne.mpr h3]; rfl
            simp [h4]))
          simp only [spec_Differ.l0]
          rw [if_pos (by omega), if_neg hne, if_pos (by omega), if_pos (by omega), if_pos (by omega), if_neg (by rw [rd_nat, rd_nat]; exact h3), if_pos (by omega), hw]
      · refine Ev.step (fun k => ?_) (ev_eq i2 (by
          have h4 : differB a b i = false := by
            unfold differB
            rw [hd2, decide_eq_false h1]; rfl
          simp [h4]))
        simp only [spec_Differ.l0]
        rw [if_pos (by omega), if_neg hne, if_neg (by omega), hw]
theorem spec_Differ.ev (a b : List Int) (ha : a.length ≤ 9223372036854775000) (hb : b.length ≤ 9223372036854775000) : Ev (fun k => spec_Differ.f k a b) (differP a b) := by
  unfold spec_Differ.f
  exact spec_Differ.ev_l a b ha hb 8 0 [] (by omega) (by simp)
theorem FnExactDiffer : laws_FnExactDiffer.Pure := by
  intro a b _ _ _ _ _ _
  apply Ev.rounds (g := fun k => laws_FnExactDiffer.f k a b)
  unfold laws_FnExactDiffer.f
  by_cases ga : (a.length : Int) > 1048576
  · exact ev_pos ga (Ev.now _)
  refine ev_neg ga ?_
  by_cases gb : (b.length : Int) > 1048576
  · exact ev_pos gb (Ev.now _)
  refine ev_neg gb ?_
  have f0_ := laws_toIntS.ev a (by omega)
  have f1_ := laws_toIntS.ev b (by omega)
  have f2_ := differP_length a b
  have f3_ := spec_Differ.ev a b (by omega) (by omega)
  have f4_ := impl_Differ.ev a b (by omega) (by omega)
  have f5_ := laws_eqIntS.ev a (by omega)
  have f6_ := laws_eqIntS.ev b (by omega)
  have f7_ := laws_markIntS.ev 1 (by omega) (by omega) a (by omega)
  have f8_ := laws_markIntS.ev (1 + (a.length : Int)) (by omega) (by omega) b (by omega)
  have f9_ := laws_eqIntS.ev (differP a b) (by omega)
  have f10_ := laws_markIntS.ev 1 (by omega) (by omega) (differP a b) (by omega)
  have f11_ := laws_heldIntS.ev 1 (by omega) (by omega) (differP a b).length (by omega)
  repeat (first
    | exact Ev.now _
    | refine ev_pos rfl ?_
    | (refine ev_neg ?_ ?_; omega)
    | (refine ev_neg ?_ ?_; (focus (simp; done)))
    | refine Ev.bind (by assumption) ?_
    | refine ev_bind_some (by assumption) ?_
    | (refine ev_succ ?_; simp only [laws_FnExactDiffer.j0])
    | dsimp only)

end Go.Proofs.Ytoodipndmhehmaa.Pure
