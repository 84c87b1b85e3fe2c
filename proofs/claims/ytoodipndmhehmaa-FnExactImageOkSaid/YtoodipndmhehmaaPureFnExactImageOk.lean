/- FnExactImageOk: the plain law: what the printed functions tell answers true at every input. No condition. -/
import Derived.Test.YtoodipndmhehmaaQFnExactImageOkx1
import Derived.Test.YtoodipndmhehmaaAid
namespace Go.Proofs.Ytoodipndmhehmaa.Pure
open Go.RowKit Go.Proofs.Ytoodipndmhehmaa.QFnExactImageOk Go.Proofs.YtoodipndmhehmaaW.PrintWords Go.Proofs.YtoodipndmhehmaaW.PrintLast Go.Proofs.YtoodipndmhehmaaW.PrintMore Go.Proofs.Ytoodipndmhehmaa.Aid
set_option linter.unusedVariables false
set_option linter.unusedSimpArgs false

theorem impl_from.eq (a b c : Int) : impl_from.f a b c = some (decide (b ≤ a ∧ a ≤ c)) := by
  unfold impl_from.f
  by_cases h : b ≤ a
  · rw [if_pos h]; simp [h]
  · rw [if_neg h]; simp [h]
/-- ImageOk. -/
def imageP (l : List Int) : Bool := decide (l.length = 8) && l.all fun x => decide (0 ≤ x ∧ x ≤ 200)
def badI : List Int → Int → Int
  | [], _ => -1
  | x :: l, i => if 0 ≤ x ∧ x ≤ 200 then badI l (i + 1) else i
theorem badI_all : ∀ (l : List Int) (i : Int), 0 ≤ i → (badI l i ≥ 0 ↔ (l.all fun x => decide (0 ≤ x ∧ x ≤ 200)) = false)
  | [], i, h => by simp [badI]
  | x :: l, i, h => by
    unfold badI
    by_cases e : 0 ≤ x ∧ x ≤ 200
    · rw [if_pos e, badI_all l (i + 1) (by omega)]; simp only [List.all_cons, decide_eq_true e, Bool.true_and]
    · rw [if_neg e]; simp only [List.all_cons, decide_eq_false e, Bool.false_and, iff_true]; exact h
theorem slices_IndexFunc_int_int_impl_ImageOk_1.ev_l (x : List Int) (hn : x.length ≤ 9223372036854775000) : ∀ (d i : Nat), i + d = x.length → Ev (fun k => slices_IndexFunc_int_int_impl_ImageOk_1.l0 k x (x.length : Int) i) (badI (x.drop i) i)
  | 0, i, hd => by
    refine ev_succ ?_
    simp only [slices_IndexFunc_int_int_impl_ImageOk_1.l0]
    exact ev_neg (by omega) (ev_eq (Ev.now _) (by rw [List.drop_of_length_le (by omega)]; rfl))
  | d + 1, i, hd => by
    have hi : i < x.length := by omega
    have e : x.drop i = x[i] :: x.drop (i + 1) := List.drop_eq_getElem_cons hi
    have ih := slices_IndexFunc_int_int_impl_ImageOk_1.ev_l x hn d (i + 1) (by omega)
    have hw : wrap64 ((i : Int) + 1) = ((i + 1 : Nat) : Int) := w64 (by omega) (by omega)
    refine ev_succ ?_
    simp only [slices_IndexFunc_int_int_impl_ImageOk_1.l0, impl_ImageOk_1.f, impl_from.eq, Option.bind_some]
    rw [rd_lt x i hi, e, badI, hw]
    refine ev_pos (by omega) (ev_pos (by omega) (ev_pos (by omega) ?_))
    by_cases h : 0 ≤ x[i] ∧ x[i] ≤ 200
    · exact ev_neg (by simp [h]) (ev_eq ih (by rw [if_pos h]; simp))
    · exact ev_pos (by rw [decide_eq_false h]; rfl) (ev_eq (Ev.now _) (by rw [if_neg h]))
theorem impl_ImageOk.ev (x : List Int) (hn : x.length ≤ 9223372036854775000) : Ev (fun k => impl_ImageOk.f k x) (imageP x) := by
  unfold impl_ImageOk.f imageP slices_ContainsFunc_int_int_impl_ImageOk_1.f slices_IndexFunc_int_int_impl_ImageOk_1.f
  by_cases h : x.length = 8
  · refine ev_pos (by omega) (Ev.bind (Ev.bind (slices_IndexFunc_int_int_impl_ImageOk_1.ev_l x hn x.length 0 (by omega)) (Ev.now _)) (ev_eq (Ev.now _) ?_))
    have hb := badI_all x 0 (by omega)
    rw [List.drop_zero, decide_eq_true h, Bool.true_and]
    cases hq : (x.all fun x => decide (0 ≤ x ∧ x ≤ 200)) with
    | true =>
      rw [hq] at hb
      have : ¬ badI x 0 ≥ 0 := fun z => by have := hb.mp z; cases this
      simp only [Int.natCast_zero]
      rw [decide_eq_false this]; rfl
    | false =>
      simp only [Int.natCast_zero]
      rw [decide_eq_true (hb.mpr hq)]; rfl
  · refine ev_neg (by omega) (ev_eq (Ev.now _) ?_)
    rw [decide_eq_false h]; rfl
theorem laws_eqIntS.ev_l (x : List Int) (hn : x.length ≤ 9223372036854775000) : ∀ (d i : Nat), i + d = x.length → Ev (fun k => laws_eqIntS.l0 k x x i) true
  | 0, i, hd => by
    refine Ev.step (f := fun _ => some true) (fun k => ?_) (Ev.now _)
    simp only [laws_eqIntS.l0]
    rw [if_neg (by omega)]
  | d + 1, i, hd => by
    refine Ev.step (fun k => ?_) (laws_eqIntS.ev_l x hn d (i + 1) (by omega))
    simp only [laws_eqIntS.l0]
    rw [if_pos (by omega), if_pos (by omega), if_pos (by omega), w64 (by omega) (by omega)]
    simp
theorem laws_eqIntS.ev (x : List Int) (hn : x.length ≤ 9223372036854775000) : Ev (fun k => laws_eqIntS.f k x x) true := by
  unfold laws_eqIntS.f
  exact ev_pos rfl (laws_eqIntS.ev_l x hn x.length 0 (by omega))
theorem laws_toIntS.ev_l (x : List Int) (hn : x.length ≤ 35184372088832) : ∀ (d i : Nat) (y : List Int), i + d = x.length → y.length = x.length → y.take i = x.take i → Ev (fun k => laws_toIntS.l0 k x y i) x
  | 0, i, y, hd, hy, ht => by
    refine Ev.step (f := fun _ => some x) (fun k => ?_) (Ev.now _)
    simp only [laws_toIntS.l0]
    rw [if_neg (by omega)]
    have hi : i = x.length := by omega
    subst hi
    rw [List.take_of_length_le (by omega), List.take_of_length_le (Nat.le_refl _)] at ht
    rw [ht]
  | d + 1, i, y, hd, hy, ht => by
    refine Ev.step (fun k => ?_) (laws_toIntS.ev_l x hn d (i + 1) (y.set i (x.getD i 0)) (by omega) (by simp [hy]) (set_take 0 x y i (by omega) hy ht))
    simp only [laws_toIntS.l0]
    rw [if_pos (by omega), if_pos (by omega), if_pos (by omega), w64 (by omega) (by omega), rd_nat]
    simp
theorem laws_toIntS.ev (x : List Int) (hn : x.length ≤ 35184372088832) : Ev (fun k => laws_toIntS.f k x) x := by
  unfold laws_toIntS.f
  refine ev_pos (by omega) (ev_pos (by simp; omega) ?_)
  exact laws_toIntS.ev_l x hn x.length 0 _ (by omega) (by simp) (by simp)
theorem spec_l1In.eq (a b c : Int) : spec_l1In.f a b c = some (decide (b ≤ a ∧ a ≤ c)) := by
  unfold spec_l1In.f
  by_cases h : b ≤ a
  · rw [if_pos h]; simp [h]
  · rw [if_neg h]; simp [h]
theorem spec_ImageOk.ev_l (x : List Int) (hn : x.length ≤ 9223372036854775000) : ∀ (d i : Nat), i + d = x.length → Ev (fun k => spec_ImageOk.l0 k x i) (decide (x.length = 8) && ((x.drop i).all fun x => decide (0 ≤ x ∧ x ≤ 200)))
  | 0, i, hd => by
    refine ev_succ ?_
    simp only [spec_ImageOk.l0]
    rw [List.drop_of_length_le (by omega)]
    refine ev_neg (by omega) (ev_eq (Ev.now _) ?_)
    by_cases h : x.length = 8
    · rw [h]; rfl
    · rw [decide_eq_false h]
      simp
      omega
  | d + 1, i, hd => by
    have hi : i < x.length := by omega
    have hw : wrap64 ((i : Int) + 1) = ((i + 1 : Nat) : Int) := w64 (by omega) (by omega)
    refine ev_succ ?_
    simp only [spec_ImageOk.l0]
    rw [rd_lt x i hi, List.drop_eq_getElem_cons hi, hw, spec_l1In.eq]
    refine ev_pos (by omega) (ev_pos (by omega) (ev_bind_some rfl ?_))
    by_cases h : 0 ≤ x[i] ∧ x[i] ≤ 200
    · refine ev_pos (decide_eq_true h) (ev_eq (spec_ImageOk.ev_l x hn d (i + 1) (by omega)) ?_)
      rw [List.all_cons, decide_eq_true h, Bool.true_and]
    · refine ev_neg (by simpa using h) (ev_eq (Ev.now _) ?_)
      rw [List.all_cons, decide_eq_false h, Bool.false_and, Bool.and_false]
theorem spec_ImageOk.ev (x : List Int) (hn : x.length ≤ 9223372036854775000) : Ev (fun k => spec_ImageOk.f k x) (imageP x) := by
  unfold spec_ImageOk.f imageP
  exact spec_ImageOk.ev_l x hn x.length 0 (by omega)
theorem FnExactImageOk : laws_FnExactImageOk.Pure := by
  intro b _ _ hb
  apply Ev.rounds (g := fun k => laws_FnExactImageOk.f k b)
  unfold laws_FnExactImageOk.f
  by_cases gb : (b.length : Int) > 1048576
  · exact ev_pos gb (Ev.now _)
  refine ev_neg gb ?_
  have f0_ := laws_toIntS.ev b (by omega)
  have f1_ := spec_ImageOk.ev b (by omega)
  have f2_ := impl_ImageOk.ev b (by omega)
  have f3_ := laws_eqIntS.ev b (by omega)
  repeat (first
    | exact Ev.now _
    | refine ev_pos rfl ?_
    | (refine ev_neg ?_ ?_; omega)
    | (refine ev_neg ?_ ?_; (focus (simp; done)))
    | refine Ev.bind (by assumption) ?_
    | refine ev_bind_some (by assumption) ?_
    | (refine ev_succ ?_; simp only [laws_FnExactImageOk.f])
    | dsimp only)

end Go.Proofs.Ytoodipndmhehmaa.Pure
