/- FnExactGensOk: the plain law: what the printed functions tell answers true at every input. No condition. -/
import Derived.Test.YtoodipndmhehmaaQFnExactGensOkx3
import Derived.Test.YtoodipndmhehmaaAid
namespace Go.Proofs.Ytoodipndmhehmaa.Pure
open Go.RowKit Go.Proofs.Ytoodipndmhehmaa.QFnExactGensOk Go.Proofs.YtoodipndmhehmaaW.PrintWords Go.Proofs.YtoodipndmhehmaaW.PrintLast Go.Proofs.YtoodipndmhehmaaW.PrintMore Go.Proofs.Ytoodipndmhehmaa.Aid
set_option linter.unusedVariables false
set_option linter.unusedSimpArgs false

theorem impl_from.eq (a b c : Int) : impl_from.f a b c = some (decide (b ≤ a ∧ a ≤ c)) := by
  unfold impl_from.f
  by_cases h : b ≤ a
  · rw [if_pos h]; simp [h]
  · rw [if_neg h]; simp [h]
def gensF (p : List Int) : List Int → Bool
  | [] => true
  | x :: l => decide (1 ≤ x ∧ x ≤ 100000) && (!decide (x ∈ p) && gensF (p ++ [x]) l)
/-- GensOk. -/
def gensP (l : List Int) : Bool := gensF [] l && decide (l.length ≤ 12)
def idxP (a : Int) : List Int → Int → Int
  | [], _ => -1
  | x :: l, i => if a = x then i else idxP a l (i + 1)
theorem idxP_mem (a : Int) : ∀ (l : List Int) (i : Int), 0 ≤ i → (idxP a l i ≥ 0 ↔ a ∈ l)
  | [], i, h => by simp [idxP]
  | x :: l, i, h => by
    unfold idxP
    by_cases e : a = x
    · rw [if_pos e]; simp [e, h]
    · rw [if_neg e, idxP_mem a l (i + 1) (by omega)]; simp [e]
theorem slices_Index_int_int.ev_l (x : List Int) (a : Int) (hn : x.length ≤ 9223372036854775000) : ∀ (d i : Nat), i + d = x.length → Ev (fun k => slices_Index_int_int.l0 k x a (x.length : Int) i) (idxP a (x.drop i) i)
  | 0, i, hd => by
    refine Ev.step (f := fun _ => some (-1)) (fun k => ?_) (ev_eq (Ev.now _) (by rw [List.drop_of_length_le (by omega)]; rfl))
    simp only [slices_Index_int_int.l0]
    rw [if_neg (by omega)]
  | d + 1, i, hd => by
    have hi : i < x.length := by omega
    have e : x.drop i = x[i] :: x.drop (i + 1) := List.drop_eq_getElem_cons hi
    have ih := slices_Index_int_int.ev_l x a hn d (i + 1) (by omega)
    rw [e, idxP]
    by_cases h : a = x[i]
    · refine Ev.step (f := fun _ => some (i : Int)) (fun k => ?_) (ev_eq (Ev.now _) (by rw [if_pos h]))
      simp only [slices_Index_int_int.l0]
      rw [if_pos (by omega), if_pos (by omega), if_pos (by omega), rd_lt x i hi, if_pos h]
    · refine Ev.step (fun k => ?_) (ev_eq ih (by rw [if_neg h]; simp))
      simp only [slices_Index_int_int.l0]
      rw [if_pos (by omega), if_pos (by omega), if_pos (by omega), rd_lt x i hi, if_neg h, w64 (by omega) (by omega)]
      simp
theorem slices_Index_int_int.ev (x : List Int) (a : Int) (hn : x.length ≤ 9223372036854775000) : Ev (fun k => slices_Index_int_int.f k x a) (idxP a x 0) := by
  unfold slices_Index_int_int.f
  exact slices_Index_int_int.ev_l x a hn x.length 0 (by omega)
theorem slices_Contains_int_int.ev (x : List Int) (a : Int) (hn : x.length ≤ 9223372036854775000) : Ev (fun k => slices_Contains_int_int.f k x a) (decide (a ∈ x)) := by
  unfold slices_Contains_int_int.f
  refine Ev.bind (slices_Index_int_int.ev x a hn) (ev_eq (Ev.now _) ?_)
  simp only [idxP_mem a x 0 (by omega)]
theorem impl_GensOk.ev_l (x : List Int) (hn : x.length ≤ 9223372036854775000) : ∀ (d i : Nat), i + d = x.length → Ev (fun k => impl_GensOk.l0 k x x (x.length : Int) i) (gensF (x.take i) (x.drop i) && decide (x.length ≤ 12))
  | 0, i, hd => by
    refine Ev.step (f := fun _ => some (decide (x.length ≤ 12))) (fun k => ?_) (ev_eq (Ev.now _) (by rw [List.drop_of_length_le (by omega)]; simp [gensF]))
    simp only [impl_GensOk.l0]
    rw [if_neg (by omega)]
    congr 1
    exact decide_eq_decide.mpr (by omega)
  | d + 1, i, hd => by
    have hi : i < x.length := by omega
    have e : x.drop i = x[i] :: x.drop (i + 1) := List.drop_eq_getElem_cons hi
    have et : x.take (i + 1) = x.take i ++ [x[i]] := by rw [List.take_succ_eq_append_getElem hi]
    have ih := impl_GensOk.ev_l x hn d (i + 1) (by omega)
    rw [et] at ih
    rw [e, gensF]
    by_cases h1 : 1 ≤ x[i] ∧ x[i] ≤ 100000
    · have hh := slices_Contains_int_int.ev (x.take i) x[i] (by simp; omega)
      by_cases h2 : x[i] ∈ x.take i
      · refine Ev.step (f := fun k => (slices_Contains_int_int.f k (x.take i) x[i]).bind fun t => if t = true then some false else impl_GensOk.l0 k x x (x.length : Int) ((i + 1 : Nat) : Int)) (fun k => ?_) (Ev.bind hh ?_)
        · simp only [impl_GensOk.l0]
          rw [if_pos (by omega), if_pos (by omega), if_pos (by omega), rd_lt x i hi, impl_from.eq, decide_eq_true h1]
          simp only [Option.bind_some, if_true]
          rw [if_pos (by omega), w64 (by omega) (by omega)]
          simp
        · exact ev_pos (by simpa using h2) (ev_eq (Ev.now _) (by simp [h2]))
      · refine Ev.step (f := fun k => (slices_Contains_int_int.f k (x.take i) x[i]).bind fun t => if t = true then some false else impl_GensOk.l0 k x x (x.length : Int) ((i + 1 : Nat) : Int)) (fun k => ?_) (Ev.bind hh ?_)
        · simp only [impl_GensOk.l0]
          rw [if_pos (by omega), if_pos (by omega), if_pos (by omega), rd_lt x i hi, impl_from.eq, decide_eq_true h1]
          simp only [Option.bind_some, if_true]
          rw [if_pos (by omega), w64 (by omega) (by omega)]
          simp
        · exact ev_neg (by simpa using h2) (ev_eq ih (by simp [h1, h2]))
    · refine Ev.step (f := fun _ => some false) (fun k => ?_) (ev_eq (Ev.now _) (by simp [h1]))
      simp only [impl_GensOk.l0]
      rw [if_pos (by omega), if_pos (by omega), if_pos (by omega), rd_lt x i hi, impl_from.eq, decide_eq_false h1]
      rfl
theorem impl_GensOk.ev (x : List Int) (hn : x.length ≤ 9223372036854775000) : Ev (fun k => impl_GensOk.f k x) (gensP x) := by
  unfold impl_GensOk.f
  exact impl_GensOk.ev_l x hn x.length 0 (by omega)
theorem laws_eqIntS.ev_l (x : List Int) (hn : x.length ≤ 9223372036854775000) : ∀ (d i : Nat), i + d = x.length → Ev (fun k => laws_eqIntS.l0 k x x i) true
  | 0, i, hd => by
    refine Ev.step (f := fun _ => some true) (fun k => ?_) (Ev.now _)
    simp only [laws_eqIntS.l0]
    rw [if_neg (by omega)]
  | d + 1, i, hd => by
    refine Ev.step (fun k => ?_) (laws_eqIntS.ev_l x hn d (i + 1) (by omega))
    simp only [laws_eqIntS.l0]
    rw [if_pos (by omega), if_pos (by omega), if_pos (by omega), w64 (by omega) (by omega)]
    simp
theorem laws_eqIntS.ev (x : List Int) (hn : x.length ≤ 9223372036854775000) : Ev (fun k => laws_eqIntS.f k x x) true := by
  unfold laws_eqIntS.f
  exact ev_pos rfl (laws_eqIntS.ev_l x hn x.length 0 (by omega))
theorem laws_toIntS.ev_l (x : List Int) (hn : x.length ≤ 35184372088832) : ∀ (d i : Nat) (y : List Int), i + d = x.length → y.length = x.length → y.take i = x.take i → Ev (fun k => laws_toIntS.l0 k x y i) x
  | 0, i, y, hd, hy, ht => by
    refine Ev.step (f := fun _ => some x) (fun k => ?_) (Ev.now _)
    simp only [laws_toIntS.l0]
    rw [if_neg (by omega)]
    have hi : i = x.length := by omega
    subst hi
    rw [List.take_of_length_le (by omega), List.take_of_length_le (Nat.le_refl _)] at ht
    rw [ht]
  | d + 1, i, y, hd, hy, ht => by
    refine Ev.step (fun k => ?_) (laws_toIntS.ev_l x hn d (i + 1) (y.set i (x.getD i 0)) (by omega) (by simp [hy]) (set_take 0 x y i (by omega) hy ht))
    simp only [laws_toIntS.l0]
    rw [if_pos (by omega), if_pos (by omega), if_pos (by omega), w64 (by omega) (by omega), rd_nat]
    simp
theorem laws_toIntS.ev (x : List Int) (hn : x.length ≤ 35184372088832) : Ev (fun k => laws_toIntS.f k x) x := by
  unfold laws_toIntS.f
  refine ev_pos (by omega) (ev_pos (by simp; omega) ?_)
  exact laws_toIntS.ev_l x hn x.length 0 _ (by omega) (by simp) (by simp)
theorem spec_l1In.eq (a b c : Int) : spec_l1In.f a b c = some (decide (b ≤ a ∧ a ≤ c)) := by
  unfold spec_l1In.f
  by_cases h : b ≤ a
  · rw [if_pos h]; simp [h]
  · rw [if_neg h]; simp [h]
theorem spec_l2Has.ev_l (x : List Int) (a : Int) (hn : x.length ≤ 9223372036854775000) : ∀ (d i : Nat), i + d = x.length → Ev (fun k => spec_l2Has.l0 k x a i) (decide (a ∈ x.drop i))
  | 0, i, hd => by
    refine Ev.step (f := fun _ => some false) (fun k => ?_) (ev_eq (Ev.now _) (by rw [List.drop_of_length_le (by omega)]; simp))
    simp only [spec_l2Has.l0]
    rw [if_neg (by omega)]
  | d + 1, i, hd => by
    have hi : i < x.length := by omega
    have e : x.drop i = x[i] :: x.drop (i + 1) := List.drop_eq_getElem_cons hi
    have ih := spec_l2Has.ev_l x a hn d (i + 1) (by omega)
    by_cases h : x[i] = a
    · refine Ev.step (f := fun _ => some true) (fun k => ?_) (ev_eq (Ev.now _) (by rw [e]; simp [h]))
      simp only [spec_l2Has.l0]
      rw [if_pos (by omega), if_pos (by omega), rd_lt x i hi, if_pos h]
    · have h' : ¬ a = x[i] := fun q => h q.symm
      refine Ev.step (fun k => ?_) (ev_eq ih (by rw [e]; simp only [List.mem_cons, h', false_or]))
      simp only [spec_l2Has.l0]
      rw [if_pos (by omega), if_pos (by omega), rd_lt x i hi, if_neg h, w64 (by omega) (by omega)]
      simp
theorem spec_l2Has.ev (x : List Int) (a : Int) (hn : x.length ≤ 9223372036854775000) : Ev (fun k => spec_l2Has.f k x a) (decide (a ∈ x)) := by
  unfold spec_l2Has.f
  exact spec_l2Has.ev_l x a hn x.length 0 (by omega)
theorem spec_GensOk.ev_l (x : List Int) (hn : x.length ≤ 9223372036854775000) : ∀ (d i : Nat), i + d = x.length → Ev (fun k => spec_GensOk.l0 k x i) (gensF (x.take i) (x.drop i) && decide (x.length ≤ 12))
  | 0, i, hd => by
    refine Ev.step (f := fun _ => some (decide (x.length ≤ 12))) (fun k => ?_) (ev_eq (Ev.now _) (by rw [List.drop_of_length_le (by omega)]; simp [gensF]))
    simp only [spec_GensOk.l0]
    rw [if_neg (by omega)]
    congr 1
    exact decide_eq_decide.mpr (by omega)
  | d + 1, i, hd => by
    have hi : i < x.length := by omega
    have e : x.drop i = x[i] :: x.drop (i + 1) := List.drop_eq_getElem_cons hi
    have et : x.take (i + 1) = x.take i ++ [x[i]] := by rw [List.take_succ_eq_append_getElem hi]
    have ih := spec_GensOk.ev_l x hn d (i + 1) (by omega)
    rw [et] at ih
    rw [e, gensF]
    by_cases h1 : 1 ≤ x[i] ∧ x[i] ≤ 100000
    · have hh := spec_l2Has.ev (x.take i) x[i] (by simp; omega)
      by_cases h2 : x[i] ∈ x.take i
      · refine Ev.step (f := fun k => (spec_l2Has.f k (x.take i) x[i]).bind fun t => if t = true then some false else spec_GensOk.l0 k x ((i + 1 : Nat) : Int)) (fun k => ?_) (Ev.bind hh ?_)
        · simp only [spec_GensOk.l0]
          rw [if_pos (by omega), if_pos (by omega), rd_lt x i hi, spec_l1In.eq, decide_eq_true h1]
          simp only [Option.bind_some, if_true]
          rw [if_pos (by omega), w64 (by omega) (by omega)]
          simp
        · exact ev_pos (by simpa using h2) (ev_eq (Ev.now _) (by simp [h2]))
      · refine Ev.step (f := fun k => (spec_l2Has.f k (x.take i) x[i]).bind fun t => if t = true then some false else spec_GensOk.l0 k x ((i + 1 : Nat) : Int)) (fun k => ?_) (Ev.bind hh ?_)
        · simp only [spec_GensOk.l0]
          rw [if_pos (by omega), if_pos (by omega), rd_lt x i hi, spec_l1In.eq, decide_eq_true h1]
          simp only [Option.bind_some, if_true]
          rw [if_pos (by omega), w64 (by omega) (by omega)]
          simp
        · exact ev_neg (by simpa using h2) (ev_eq ih (by simp [h1, h2]))
    · refine Ev.step (f := fun _ => some false) (fun k => ?_) (ev_eq (Ev.now _) (by simp [h1]))
      simp only [spec_GensOk.l0]
      rw [if_pos (by omega), if_pos (by omega), rd_lt x i hi, spec_l1In.eq, decide_eq_false h1]
      rfl
theorem spec_GensOk.ev (x : List Int) (hn : x.length ≤ 9223372036854775000) : Ev (fun k => spec_GensOk.f k x) (gensP x) := by
  unfold spec_GensOk.f
  exact spec_GensOk.ev_l x hn x.length 0 (by omega)
theorem FnExactGensOk : laws_FnExactGensOk.Pure := by
  intro b _ _ hb
  apply Ev.rounds (g := fun k => laws_FnExactGensOk.f k b)
  unfold laws_FnExactGensOk.f
  by_cases gb : (b.length : Int) > 1048576
  · exact ev_pos gb (Ev.now _)
  refine ev_neg gb ?_
  have f0_ := laws_toIntS.ev b (by omega)
  have f1_ := spec_GensOk.ev b (by omega)
  have f2_ := impl_GensOk.ev b (by omega)
  have f3_ := laws_eqIntS.ev b (by omega)
  repeat (first
    | exact Ev.now _
    | refine ev_pos rfl ?_
    | (refine ev_neg ?_ ?_; omega)
    | (refine ev_neg ?_ ?_; (focus (simp; done)))
    | refine Ev.bind (by assumption) ?_
    | refine ev_bind_some (by assumption) ?_
    | (refine ev_succ ?_; simp only [laws_FnExactGensOk.f])
    | dsimp only)

end Go.Proofs.Ytoodipndmhehmaa.Pure
