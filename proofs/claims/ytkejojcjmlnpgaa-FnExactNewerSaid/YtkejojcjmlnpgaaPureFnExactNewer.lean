/- FnExactNewer: the plain law: what the printed functions tell answers true at every input. No condition. -/
import Derived.Test.YtkejojcjmlnpgaaQFnExactNewerx2
import Derived.Test.YtkejojcjmlnpgaaAid
namespace Go.Proofs.Ytkejojcjmlnpgaa.Pure
open Go.RowKit Go.Proofs.Ytkejojcjmlnpgaa.QFnExactNewer Go.Proofs.YtkejojcjmlnpgaaW.PrintWords Go.Proofs.YtkejojcjmlnpgaaW.PrintLast Go.Proofs.YtkejojcjmlnpgaaW.PrintMore Go.Proofs.Ytkejojcjmlnpgaa.Aid
set_option linter.unusedVariables false
set_option linter.unusedSimpArgs false

/-- Newer. -/
def newerP : List Int → List Int → Int
  | [], [] => 0
  | [], _ :: _ => 2
  | _ :: _, [] => 1
  | x :: a, y :: b => if x = y then 0 else if y ∈ x :: a then 1 else if x ∈ y :: b then 2 else 3
def idxP (a : Int) : List Int → Int → Int
  | [], _ => -1
  | x :: l, i => if a = x then i else idxP a l (i + 1)
theorem idxP_mem (a : Int) : ∀ (l : List Int) (i : Int), 0 ≤ i → (idxP a l i ≥ 0 ↔ a ∈ l)
  | [], i, h => by simp [idxP]
  | x :: l, i, h => by
    unfold idxP
    by_cases e : a = x
    · rw [if_pos e]; simp [e, h]
    · rw [if_neg e, idxP_mem a l (i + 1) (by omega)]; simp [e]
theorem slices_Index_int_int.ev_l (x : List Int) (a : Int) (hn : x.length ≤ 9223372036854775000) : ∀ (d i : Nat), i + d = x.length → Ev (fun k => slices_Index_int_int.l0 k x a (x.length : Int) i) (idxP a (x.drop i) i)
  | 0, i, hd => by
    refine Ev.step (f := fun _ => some (-1)) (fun k => ?_) (ev_eq (Ev.now _) (by rw [List.drop_of_length_le (by omega)]; rfl))
    simp only [slices_Index_int_int.l0]
    rw [if_neg (by omega)]
  | d + 1, i, hd => by
    have hi : i < x.length := by omega
    have e : x.drop i = x[i] :: x.drop (i + 1) := List.drop_eq_getElem_cons hi
    have ih := slices_Index_int_int.ev_l x a hn d (i + 1) (by omega)
    rw [e, idxP]
    by_cases h : a = x[i]
    · refine Ev.step (f := fun _ => some (i : Int)) (fun k => ?_) (ev_eq (Ev.now _) (by rw [if_pos h]))
      simp only [slices_Index_int_int.l0]
      rw [if_pos (by omega), if_pos (by omega), if_pos (by omega), rd_lt x i hi, if_pos h]
    · refine Ev.step (fun k => ?_) (ev_eq ih (by rw [if_neg h]; simp))
      simp only [slices_Index_int_int.l0]
      rw [if_pos (by omega), if_pos (by omega), if_pos (by omega), rd_lt x i hi, if_neg h, w64 (by omega) (by omega)]
      simp
theorem slices_Index_int_int.ev (x : List Int) (a : Int) (hn : x.length ≤ 9223372036854775000) : Ev (fun k => slices_Index_int_int.f k x a) (idxP a x 0) := by
  unfold slices_Index_int_int.f
  exact slices_Index_int_int.ev_l x a hn x.length 0 (by omega)
theorem slices_Contains_int_int.ev (x : List Int) (a : Int) (hn : x.length ≤ 9223372036854775000) : Ev (fun k => slices_Contains_int_int.f k x a) (decide (a ∈ x)) := by
  unfold slices_Contains_int_int.f
  refine Ev.bind (slices_Index_int_int.ev x a hn) (ev_eq (Ev.now _) ?_)
  simp only [idxP_mem a x 0 (by omega)]
theorem impl_Newer.ev (a b : List Int) (ha : a.length ≤ 9223372036854775000) (hb : b.length ≤ 9223372036854775000) : Ev (fun k => impl_Newer.f k a b) (newerP a b) := by
  unfold impl_Newer.f newerP
  cases a with
  | nil =>
    refine ev_pos (by simp) ?_
    cases b with
    | nil =>
      refine ev_pos (by simp) ?_
      refine ev_succ ?_; simp only [impl_Newer.j0]
      exact ev_pos (by simp) (Ev.now _)
    | cons y b =>
      refine ev_neg (by simp <;> omega) (ev_neg (by simp) ?_)
      refine ev_succ ?_; simp only [impl_Newer.j0]
      refine ev_neg (by simp) (ev_neg (by simp <;> omega) (ev_pos (by simp <;> omega) ?_))
      refine Ev.bind (slices_Contains_int_int.ev [] _ (by simp)) ?_
      refine ev_succ ?_; simp only [impl_Newer.j1]
      refine ev_neg (by simp) ?_
      exact ev_pos (by simp) (Ev.now _)
  | cons x a =>
    refine ev_neg (by simp <;> omega) (ev_pos (by simp <;> omega) ?_)
    cases b with
    | nil =>
      refine ev_neg (by simp) ?_
      refine ev_succ ?_; simp only [impl_Newer.j0]
      refine ev_neg (by simp) (ev_pos (by simp) ?_)
      refine ev_succ ?_; simp only [impl_Newer.j1]
      exact ev_pos (by simp) (Ev.now _)
    | cons y b =>
      have hx : rd (x :: a) 0 = x := rfl
      have hy : rd (y :: b) 0 = y := rfl
      refine ev_pos (by simp <;> omega) (ev_pos (by simp <;> omega) (ev_pos (by simp <;> omega) ?_))
      refine ev_succ ?_; simp only [impl_Newer.j0, hx, hy]
      by_cases h0 : x = y
      · exact ev_pos (by simp [h0]) (ev_eq (Ev.now _) (by simp [h0]))
      refine ev_neg (by simp [h0]) (ev_neg (by simp <;> omega) (ev_pos (by simp <;> omega) ?_))
      refine Ev.bind (slices_Contains_int_int.ev (x :: a) y ha) ?_
      refine ev_succ ?_; simp only [impl_Newer.j1, hx, hy]
      by_cases h1 : y ∈ x :: a
      · exact ev_pos (by simpa using h1) (ev_eq (Ev.now _) (by rw [if_neg h0, if_pos h1]))
      refine ev_neg (by simpa using h1) (ev_neg (by simp <;> omega) (ev_pos (by simp <;> omega) ?_))
      refine Ev.bind (slices_Contains_int_int.ev (y :: b) x hb) ?_
      by_cases h2 : x ∈ y :: b
      · exact ev_pos (by simpa using h2) (ev_eq (Ev.now _) (by rw [if_neg h0, if_neg h1, if_pos h2]))
      · exact ev_neg (by simpa using h2) (ev_eq (Ev.now _) (by rw [if_neg h0, if_neg h1, if_neg h2]))
theorem laws_eqIntS.ev_l (x : List Int) (hn : x.length ≤ 9223372036854775000) : ∀ (d i : Nat), i + d = x.length → Ev (fun k => laws_eqIntS.l0 k x x i) true
  | 0, i, hd => by
    refine Ev.step (f := fun _ => some true) (fun k => ?_) (Ev.now _)
    simp only [laws_eqIntS.l0]
    rw [if_neg (by omega)]
  | d + 1, i, hd => by
    refine Ev.step (fun k => ?_) (laws_eqIntS.ev_l x hn d (i + 1) (by omega))
    simp only [laws_eqIntS.l0]
    rw [if_pos (by omega), if_pos (by omega), if_pos (by omega), w64 (by omega) (by omega)]
    simp
theorem laws_eqIntS.ev (x : List Int) (hn : x.length ≤ 9223372036854775000) : Ev (fun k => laws_eqIntS.f k x x) true := by
  unfold laws_eqIntS.f
  exact ev_pos rfl (laws_eqIntS.ev_l x hn x.length 0 (by omega))
theorem laws_toIntS.ev_l (x : List Int) (hn : x.length ≤ 35184372088832) : ∀ (d i : Nat) (y : List Int), i + d = x.length → y.length = x.length → y.take i = x.take i → Ev (fun k => laws_toIntS.l0 k x y i) x
  | 0, i, y, hd, hy, ht => by
    refine Ev.step (f := fun _ => some x) (fun k => ?_) (Ev.now _)
    simp only [laws_toIntS.l0]
    rw [if_neg (by omega)]
    have hi : i = x.length := by omega
    subst hi
    rw [List.take_of_length_le (by omega), List.take_of_length_le (Nat.le_refl _)] at ht
    rw [ht]
  | d + 1, i, y, hd, hy, ht => by
    refine Ev.step (fun k => ?_) (laws_toIntS.ev_l x hn d (i + 1) (y.set i (x.getD i 0)) (by omega) (by simp [hy]) (set_take 0 x y i (by omega) hy ht))
    simp only [laws_toIntS.l0]
    rw [if_pos (by omega), if_pos (by omega), if_pos (by omega), w64 (by omega) (by omega), rd_nat]
    simp
theorem laws_toIntS.ev (x : List Int) (hn : x.length ≤ 35184372088832) : Ev (fun k => laws_toIntS.f k x) x := by
  unfold laws_toIntS.f
  refine ev_pos (by omega) (ev_pos (by simp; omega) ?_)
  exact laws_toIntS.ev_l x hn x.length 0 _ (by omega) (by simp) (by simp)
theorem spec_l2Has.ev_l (x : List Int) (a : Int) (hn : x.length ≤ 9223372036854775000) : ∀ (d i : Nat), i + d = x.length → Ev (fun k => spec_l2Has.l0 k x a i) (decide (a ∈ x.drop i))
  | 0, i, hd => by
    refine Ev.step (f := fun _ => some false) (fun k => ?_) (ev_eq (Ev.now _) (by rw [List.drop_of_length_le (by omega)]; simp))
    simp only [spec_l2Has.l0]
    rw [if_neg (by omega)]
  | d + 1, i, hd => by
    have hi : i < x.length := by omega
    have e : x.drop i = x[i] :: x.drop (i + 1) := List.drop_eq_getElem_cons hi
    have ih := spec_l2Has.ev_l x a hn d (i + 1) (by omega)
    by_cases h : x[i] = a
    · refine Ev.step (f := fun _ => some true) (fun k => ?_) (ev_eq (Ev.now _) (by rw [e]; simp [h]))
      simp only [spec_l2Has.l0]
      rw [if_pos (by omega), if_pos (by omega), rd_lt x i hi, if_pos h]
    · have h' : ¬ a = x[i] := fun q => h q.symm
      refine Ev.step (fun k => ?_) (ev_eq ih (by rw [e]; simp only [List.mem_cons, h', false_or]))
      simp only [spec_l2Has.l0]
      rw [if_pos (by omega), if_pos (by omega), rd_lt x i hi, if_neg h, w64 (by omega) (by omega)]
      simp
theorem spec_l2Has.ev (x : List Int) (a : Int) (hn : x.length ≤ 9223372036854775000) : Ev (fun k => spec_l2Has.f k x a) (decide (a ∈ x)) := by
  unfold spec_l2Has.f
  exact spec_l2Has.ev_l x a hn x.length 0 (by omega)
theorem spec_Newer.ev (a b : List Int) (ha : a.length ≤ 9223372036854775000) (hb : b.length ≤ 9223372036854775000) : Ev (fun k => spec_Newer.f k a b) (newerP a b) := by
  unfold spec_Newer.f newerP
  cases a with
  | nil =>
    cases b with
    | nil =>
      refine ev_pos (by simp) ?_
      refine ev_succ ?_; simp only [spec_Newer.j0]
      refine ev_pos (by simp) ?_
      refine ev_succ ?_; simp only [spec_Newer.j1]
      exact ev_pos (by simp) (Ev.now _)
    | cons y b =>
      refine ev_pos (by simp) ?_
      refine ev_succ ?_; simp only [spec_Newer.j0]
      refine ev_neg (by simp <;> omega) ?_
      refine ev_neg (by simp) ?_
      refine ev_succ ?_; simp only [spec_Newer.j1]
      refine ev_neg (by simp) ?_
      refine ev_neg (by simp <;> omega) ?_
      refine ev_pos (by simp <;> omega) ?_
      refine Ev.bind (spec_l2Has.ev [] _ (by simp)) ?_
      refine ev_succ ?_; simp only [spec_Newer.j2]
      refine ev_neg (by simp) ?_
      exact ev_pos (by simp) (Ev.now _)
  | cons x a =>
    refine ev_neg (by simp <;> omega) ?_
    refine ev_succ ?_; simp only [spec_Newer.j0]
    refine ev_neg (by simp) ?_
    refine ev_pos (by simp <;> omega) ?_
    cases b with
    | nil =>
      refine ev_neg (by simp) ?_
      refine ev_succ ?_; simp only [spec_Newer.j1]
      refine ev_neg (by simp) ?_
      refine ev_pos (by simp) ?_
      refine ev_succ ?_; simp only [spec_Newer.j2]
      exact ev_pos (by simp) (Ev.now _)
    | cons y b =>
      have hx : rd (x :: a) 0 = x := rfl
      have hy : rd (y :: b) 0 = y := rfl
      refine ev_pos (by simp <;> omega) (ev_pos (by simp <;> omega) (ev_pos (by simp <;> omega) ?_))
      refine ev_succ ?_; simp only [spec_Newer.j1, hx, hy]
      by_cases h0 : x = y
      · exact ev_pos (by simp [h0]) (ev_eq (Ev.now _) (by simp [h0]))
      refine ev_neg (by simp [h0]) (ev_neg (by simp <;> omega) (ev_pos (by simp <;> omega) ?_))
      refine Ev.bind (spec_l2Has.ev (x :: a) y ha) ?_
      refine ev_succ ?_; simp only [spec_Newer.j2, hx, hy]
      by_cases h1 : y ∈ x :: a
      · exact ev_pos (by simpa using h1) (ev_eq (Ev.now _) (by rw [if_neg h0, if_pos h1]))
      refine ev_neg (by simpa using h1) (ev_neg (by simp <;> omega) (ev_pos (by simp <;> omega) ?_))
      refine Ev.bind (spec_l2Has.ev (y :: b) x hb) ?_
      by_cases h2 : x ∈ y :: b
      · exact ev_pos (by simpa using h2) (ev_eq (Ev.now _) (by rw [if_neg h0, if_neg h1, if_pos h2]))
      · exact ev_neg (by simpa using h2) (ev_eq (Ev.now _) (by rw [if_neg h0, if_neg h1, if_neg h2]))
theorem FnExactNewer : laws_FnExactNewer.Pure := by
  intro a b _ _ _ _ _ _
  apply Ev.rounds (g := fun k => laws_FnExactNewer.f k a b)
  unfold laws_FnExactNewer.f
  by_cases ga : (a.length : Int) > 1048576
  · exact ev_pos ga (Ev.now _)
  refine ev_neg ga ?_
  by_cases gb : (b.length : Int) > 1048576
  · exact ev_pos gb (Ev.now _)
  refine ev_neg gb ?_
  have f0_ := laws_toIntS.ev a (by omega)
  have f1_ := laws_toIntS.ev b (by omega)
  have f2_ := laws_eqIntS.ev a (by omega)
  have f3_ := laws_eqIntS.ev b (by omega)
  have f4_ := spec_Newer.ev a b (by omega) (by omega)
  have f5_ := impl_Newer.ev a b (by omega) (by omega)
  repeat (first
    | exact Ev.now _
    | refine ev_pos rfl ?_
    | (refine ev_neg ?_ ?_; omega)
    | (refine ev_neg ?_ ?_; (focus (simp; done)))
    | refine Ev.bind (by assumption) ?_
    | refine ev_bind_some (by assumption) ?_
    | (refine ev_succ ?_; simp only [laws_FnExactNewer.f])
    | dsimp only)

end Go.Proofs.Ytkejojcjmlnpgaa.Pure
