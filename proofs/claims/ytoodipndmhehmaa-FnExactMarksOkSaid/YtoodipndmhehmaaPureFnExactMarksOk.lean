/- FnExactMarksOk: the plain law: what the printed functions tell answers true at every input. No condition. -/
import Derived.Test.YtoodipndmhehmaaQFnExactMarksOkx3
import Derived.Test.YtoodipndmhehmaaAid
namespace Go.Proofs.Ytoodipndmhehmaa.Pure
open Go.RowKit Go.Proofs.Ytoodipndmhehmaa.QFnExactMarksOk Go.Proofs.YtoodipndmhehmaaW.PrintWords Go.Proofs.YtoodipndmhehmaaW.PrintLast Go.Proofs.YtoodipndmhehmaaW.PrintMore Go.Proofs.Ytoodipndmhehmaa.Aid
set_option linter.unusedVariables false
set_option linter.unusedSimpArgs false

theorem impl_from.eq (a b c : Int) : impl_from.f a b c = some (decide (b ≤ a ∧ a ≤ c)) := by
  unfold impl_from.f
  by_cases h : b ≤ a
  · rw [if_pos h]; simp [h]
  · rw [if_neg h]; simp [h]
theorem impl_isCell.eq (a : Int) : impl_isCell.f a = some (decide (0 ≤ a ∧ a ≤ 7)) := by
  unfold impl_isCell.f
  rw [impl_from.eq]; rfl
def okM : Int → List Int → Bool
  | _, [] => true
  | lo, x :: l => decide (0 ≤ x ∧ x ≤ 7) && (decide (lo < x) && okM x l)
/-- MarksOk. -/
def marksP (l : List Int) : Bool := okM (-1) l
def prevM (x : List Int) (i : Nat) : Int := if i = 0 then -1 else x.getD (i - 1) 0
theorem prevM_succ (x : List Int) (i : Nat) (h : i < x.length) : prevM x (i + 1) = x[i] := by simp [prevM, List.getD, List.getElem?_eq_getElem h]
theorem impl_MarksOk.ev_l (x : List Int) (hn : x.length ≤ 9223372036854775000) : ∀ (d i : Nat), i + d = x.length → Ev (fun k => impl_MarksOk.l0 k x x (x.length : Int) i) (okM (prevM x i) (x.drop i))
  | 0, i, hd => by
    refine Ev.step (f := fun _ => some (okM (prevM x i) (x.drop i))) (fun k => ?_) (Ev.now _)
    simp only [impl_MarksOk.l0]
    rw [if_neg (by omega), List.drop_of_length_le (by omega)]
    rfl
  | d + 1, i, hd => by
    have hi : i < x.length := by omega
    have e : x.drop i = x[i] :: x.drop (i + 1) := List.drop_eq_getElem_cons hi
    have ih := impl_MarksOk.ev_l x hn d (i + 1) (by omega)
    rw [prevM_succ x i hi] at ih
    rw [e, okM]
    by_cases h1 : 0 ≤ x[i] ∧ x[i] ≤ 7
    · by_cases h2 : prevM x i < x[i]
      · refine Ev.step (fun k => ?_) (ev_eq ih (by simp [h1, h2]))
        simp only [impl_MarksOk.l0]
        rw [if_pos (by omega), if_pos (by omega), if_pos (by omega), rd_lt x i hi, impl_isCell.eq, decide_eq_true h1]
        simp only [Option.bind_some, if_true]
        have hw : wrap64 ((i : Int) + 1) = ((i + 1 : Nat) : Int) := w64 (by omega) (by omega)
        rw [hw]
        by_cases h0 : i = 0
        · rw [if_neg (by omega)]
        · rw [if_pos (by omega)]
          obtain ⟨j, rfl⟩ : ∃ j, i = j + 1 := ⟨i - 1, by omega⟩
          have hw2 : wrap64 (((j + 1 : Nat) : Int) - 1) = (j : Int) := (w64 (by omega) (by omega)).trans (by omega)
          rw [hw2, if_pos (by omega), if_pos (by omega), rd_lt x j (by omega), if_neg]
          rw [prevM_succ x j (by omega)] at h2
          omega
      · refine Ev.step (f := fun _ => some false) (fun k => ?_) (ev_eq (Ev.now _) (by simp [h2]))
        simp only [impl_MarksOk.l0]
        rw [if_pos (by omega), if_pos (by omega), if_pos (by omega), rd_lt x i hi, impl_isCell.eq, decide_eq_true h1]
        simp only [Option.bind_some, if_true]
        have h0 : i ≠ 0 := by intro h0; subst h0; simp [prevM] at h2; omega
        rw [if_pos (by omega)]
        obtain ⟨j, rfl⟩ : ∃ j, i = j + 1 := ⟨i - 1, by omega⟩
        have hw2 : wrap64 (((j + 1 : Nat) : Int) - 1) = (j : Int) := (w64 (by omega) (by omega)).trans (by omega)
        rw [hw2, if_pos (by omega), if_pos (by omega), rd_lt x j (by omega), if_pos]
        rw [prevM_succ x j (by omega)] at h2
        omega
    · refine Ev.step (f := fun _ => some false) (fun k => ?_) (ev_eq (Ev.now _) (by simp [h1]))
      simp only [impl_MarksOk.l0]
      rw [if_pos (by omega), if_pos (by omega), if_pos (by omega), rd_lt x i hi, impl_isCell.eq, decide_eq_false h1]
      rfl
theorem impl_MarksOk.ev (x : List Int) (hn : x.length ≤ 9223372036854775000) : Ev (fun k => impl_MarksOk.f k x) (marksP x) := by
  unfold impl_MarksOk.f
  exact impl_MarksOk.ev_l x hn x.length 0 (by omega)
theorem laws_eqIntS.ev_l (x : List Int) (hn : x.length ≤ 9223372036854775000) : ∀ (d i : Nat), i + d = x.length → Ev (fun k => laws_eqIntS.l0 k x x i) true
  | 0, i, hd => by
    refine Ev.step (f := fun _ => some true) (fun k => ?_) (Ev.now _)
    simp only [laws_eqIntS.l0]
    rw [if_neg (by omega)]
  | d + 1, i, hd => by
    refine Ev.step (fun k => ?_) (laws_eqIntS.ev_l x hn d (i + 1) (by omega))
    simp only [laws_eqIntS.l0]
    rw [if_pos (by omega), if_pos (by omega), if_pos (by omega), w64 (by omega) (by omega)]
    simp
theorem laws_eqIntS.ev (x : List Int) (hn : x.length ≤ 9223372036854775000) : Ev (fun k => laws_eqIntS.f k x x) true := by
  unfold laws_eqIntS.f
  exact ev_pos rfl (laws_eqIntS.ev_l x hn x.length 0 (by omega))
theorem laws_toIntS.ev_l (x : List Int) (hn : x.length ≤ 35184372088832) : ∀ (d i : Nat) (y : List Int), i + d = x.length → y.length = x.length → y.take i = x.take i → Ev (fun k => laws_toIntS.l0 k x y i) x
  | 0, i, y, hd, hy, ht => by
    refine Ev.step (f := fun _ => some x) (fun k => ?_) (Ev.now _)
    simp only [laws_toIntS.l0]
    rw [if_neg (by omega)]
    have hi : i = x.length := by omega
    subst hi
    rw [List.take_of_length_le (by omega), List.take_of_length_le (Nat.le_refl _)] at ht
    rw [ht]
  | d + 1, i, y, hd, hy, ht => by
    refine Ev.step (fun k => ?_) (laws_toIntS.ev_l x hn d (i + 1) (y.set i (x.getD i 0)) (by omega) (by simp [hy]) (set_take 0 x y i (by omega) hy ht))
    simp only [laws_toIntS.l0]
    rw [if_pos (by omega), if_pos (by omega), if_pos (by omega), w64 (by omega) (by omega), rd_nat]
    simp
theorem laws_toIntS.ev (x : List Int) (hn : x.length ≤ 35184372088832) : Ev (fun k => laws_toIntS.f k x) x := by
  unfold laws_toIntS.f
  refine ev_pos (by omega) (ev_pos (by simp; omega) ?_)
  exact laws_toIntS.ev_l x hn x.length 0 _ (by omega) (by simp) (by simp)
theorem spec_l1In.eq (a b c : Int) : spec_l1In.f a b c = some (decide (b ≤ a ∧ a ≤ c)) := by
  unfold spec_l1In.f
  by_cases h : b ≤ a
  · rw [if_pos h]; simp [h]
  · rw [if_neg h]; simp [h]
theorem spec_MarksOk.ev_l (x : List Int) (hn : x.length ≤ 9223372036854775000) : ∀ (d i : Nat), i + d = x.length → Ev (fun k => spec_MarksOk.l0 k x i) (okM (prevM x i) (x.drop i))
  | 0, i, hd => by
    refine Ev.step (f := fun _ => some (okM (prevM x i) (x.drop i))) (fun k => ?_) (Ev.now _)
    simp only [spec_MarksOk.l0]
    rw [if_neg (by omega), List.drop_of_length_le (by omega)]
    rfl
  | d + 1, i, hd => by
    have hi : i < x.length := by omega
    have e : x.drop i = x[i] :: x.drop (i + 1) := List.drop_eq_getElem_cons hi
    have ih := spec_MarksOk.ev_l x hn d (i + 1) (by omega)
    rw [prevM_succ x i hi] at ih
    rw [e, okM]
    by_cases h1 : 0 ≤ x[i] ∧ x[i] ≤ 7
    · by_cases h2 : prevM x i < x[i]
      · refine Ev.step (fun k => ?_) (ev_eq ih (by simp [h1, h2]))
        simp only [spec_MarksOk.l0]
        rw [if_pos (by omega), if_pos (by omega), rd_lt x i hi, spec_l1In.eq, decide_eq_true h1]
        simp only [Option.bind_some, if_true]
        have hw : wrap64 ((i : Int) + 1) = ((i + 1 : Nat) : Int) := w64 (by omega) (by omega)
        rw [hw]
        by_cases h0 : i = 0
        · rw [if_neg (by omega)]
        · rw [if_pos (by omega)]
          obtain ⟨j, rfl⟩ : ∃ j, i = j + 1 := ⟨i - 1, by omega⟩
          have hw2 : wrap64 (((j + 1 : Nat) : Int) - 1) = (j : Int) := (w64 (by omega) (by omega)).trans (by omega)
          rw [hw2, if_pos (by omega), if_pos (by omega), rd_lt x j (by omega), if_neg]
          rw [prevM_succ x j (by omega)] at h2
          omega
      · refine Ev.step (f := fun _ => some false) (fun k => ?_) (ev_eq (Ev.now _) (by simp [h2]))
        simp only [spec_MarksOk.l0]
        rw [if_pos (by omega), if_pos (by omega), rd_lt x i hi, spec_l1In.eq, decide_eq_true h1]
        simp only [Option.bind_some, if_true]
        have h0 : i ≠ 0 := by intro h0; subst h0; simp [prevM] at h2; omega
        rw [if_pos (by omega)]
        obtain ⟨j, rfl⟩ : ∃ j, i = j + 1 := ⟨i - 1, by omega⟩
        have hw2 : wrap64 (((j + 1 : Nat) : Int) - 1) = (j : Int) := (w64 (by omega) (by omega)).trans (by omega)
        rw [hw2, if_pos (by omega), if_pos (by omega), rd_lt x j (by omega), if_pos]
        rw [prevM_succ x j (by omega)] at h2
        omega
    · refine Ev.step (f := fun _ => some false) (fun k => ?_) (ev_eq (Ev.now _) (by simp [h1]))
      simp only [spec_MarksOk.l0]
      rw [if_pos (by omega), if_pos (by omega), rd_lt x i hi, spec_l1In.eq, decide_eq_false h1]
      rfl
theorem spec_MarksOk.ev (x : List Int) (hn : x.length ≤ 9223372036854775000) : Ev (fun k => spec_MarksOk.f k x) (marksP x) := by
  unfold spec_MarksOk.f
  exact spec_MarksOk.ev_l x hn x.length 0 (by omega)
theorem FnExactMarksOk : laws_FnExactMarksOk.Pure := by
  intro b _ _ hb
  apply Ev.rounds (g := fun k => laws_FnExactMarksOk.f k b)
  unfold laws_FnExactMarksOk.f
  by_cases gb : (b.length : Int) > 1048576
  · exact ev_pos gb (Ev.now _)
  refine ev_neg gb ?_
  have f0_ := laws_toIntS.ev b (by omega)
  have f1_ := spec_MarksOk.ev b (by omega)
  have f2_ := impl_MarksOk.ev b (by omega)
  have f3_ := laws_eqIntS.ev b (by omega)
  repeat (first
    | exact Ev.now _
    | refine ev_pos rfl ?_
    | (refine ev_neg ?_ ?_; omega)
    | (refine ev_neg ?_ ?_; (focus (simp; done)))
    | refine Ev.bind (by assumption) ?_
    | refine ev_bind_some (by assumption) ?_
    | (refine ev_succ ?_; simp only [laws_FnExactMarksOk.f])
    | dsimp only)

end Go.Proofs.Ytoodipndmhehmaa.Pure
