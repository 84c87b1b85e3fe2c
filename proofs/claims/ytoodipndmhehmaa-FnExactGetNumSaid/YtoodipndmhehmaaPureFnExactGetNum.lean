/- FnExactGetNum: the plain law: what the printed functions tell answers true at every input. No condition. -/
import Derived.Test.YtoodipndmhehmaaQFnExactGetNumx2
import Derived.Test.YtoodipndmhehmaaAid
namespace Go.Proofs.Ytoodipndmhehmaa.Pure
open Go.RowKit Go.Proofs.Ytoodipndmhehmaa.QFnExactGetNum Go.Proofs.YtoodipndmhehmaaW.PrintWords Go.Proofs.YtoodipndmhehmaaW.PrintLast Go.Proofs.YtoodipndmhehmaaW.PrintMore Go.Proofs.Ytoodipndmhehmaa.Aid
set_option linter.unusedVariables false
set_option linter.unusedSimpArgs false

/-- The number that such bytes begin with, and how many they are (j: those that were read). -/
def gnumF : Nat → List Int → Int → Int → Nat → Option (Int × Nat)
  | 0, _, _, _, _ => none
  | d + 1, [], _, _, _ => none
  | d + 1, x :: l, n, u, j => if x ≥ 128 then gnumF d l (n + x % 128 * u) (u * 128) (j + 1) else if n + x % 128 * u > 2147483647 then none else if x = 0 ∧ j > 0 then none else some (n + x % 128 * u, j + 1)
/-- GetNum of what is left. -/
def gnum (l : List Int) : Option (Int × Nat) := gnumF 5 l 0 1 0
def gtri (at_ : Int) : Option (Int × Nat) → Int × Int × Bool
  | none => (0, 0, false)
  | some (n, j) => (n, at_ + j, true)
/-- GetNum. -/
def getP (b : List Int) (at_ : Int) : Int × Int × Bool := if 0 ≤ at_ then gtri at_ (gnum (b.drop at_.toNat)) else (0, 0, false)
theorem impl_GetNum.ev_l (b : List Int) (hb : ∀ z ∈ b, 0 ≤ z ∧ z ≤ 255) (hn : b.length ≤ 9223372036854775000) (at_ : Nat) (ha : (at_ : Int) ≤ 9223372036854775807) : ∀ (d j : Nat) (n u : Int), j + d = 5 → u = 128 ^ j → 0 ≤ n → n < u → Ev (fun k => impl_GetNum.l0 k b at_ n u j) (gtri at_ (gnumF d (b.drop (at_ + j)) n u j))
  | 0, j, n, u, hj, hu, h0, h1 => by
    refine Ev.step (f := fun k => impl_GetNum.j1 k b at_ n u j false) (fun k => ?_) (Ev.step (f := fun _ => some (0, 0, false)) (fun k => ?_) (ev_eq (Ev.now _) (by rw [gnumF]; rfl)))
    · simp only [impl_GetNum.l0]
      rw [if_neg (by omega)]
    · simp only [impl_GetNum.j1, if_true, if_false, Bool.false_eq_true]
  | d + 1, j, n, u, hj, hu, h0, h1 => by
    have hw : wrap64 ((b.length : Int) - j) = (b.length : Int) - j := w64 (by omega) (by omega)
    have hu' : u * 128 = 128 ^ (j + 1) := by rw [hu, Int.pow_succ]
    have hp : u ≤ 268435456 ∧ 1 ≤ u := by
      subst hu
      rcases (show j = 0 ∨ j = 1 ∨ j = 2 ∨ j = 3 ∨ j = 4 by omega) with rfl | rfl | rfl | rfl | rfl <;> omega
    by_cases h : at_ + j < b.length
    · have e : b.drop (at_ + j) = b[at_ + j] :: b.drop (at_ + (j + 1)) := List.drop_eq_getElem_cons h
      have hz := hb b[at_ + j] (List.getElem_mem _)
      have hw2 : wrap64 ((at_ : Int) + j) = ((at_ + j : Nat) : Int) := (w64 (by omega) (by omega)).trans (by omega)
      have hx : wrap64 (rd b ((at_ + j : Nat) : Int)) = b[at_ + j] := by rw [rd_lt b _ h]; exact w64 (by omega) (by omega)
      have p3 : (j : Int) < 5 := by omega
      have p4 : decide ((at_ : Int) < (b.length : Int) - j) = true := decide_eq_true (by omega)
      have hj0 : (j : Int) > 0 ↔ j > 0 := by omega
      have p1 : (0 : Int) ≤ ((at_ + j : Nat) : Int) := by omega
      have p2 : ((at_ + j : Nat) : Int) < (b.length : Int) := by omega
      have hw4 : wrap64 (((at_ + j : Nat) : Int) + 1) = (at_ : Int) + ((j + 1 : Nat) : Int) := (w64 (by omega) (by omega)).trans (by omega)
      have hw6 : wrap64 ((j : Int) + 1) = ((j + 1 : Nat) : Int) := w64 (by omega) (by omega)
      have hw7 : wrap64 (u * 128) = u * 128 := w64 (by omega) (by omega)
      rw [e, gnumF]
      generalize b[at_ + j]'h = x at hx hz ⊢
      have hm : 0 ≤ x % 128 * u ∧ x % 128 * u ≤ 127 * u := ⟨Int.mul_nonneg (by omega) (by omega), Int.mul_le_mul_of_nonneg_right (by omega) (by omega)⟩
      have hw3 : wrap64 (n + wrap64 (Int.tmod x 128 * u)) = n + x % 128 * u := by
        rw [Int.tmod_eq_emod_of_nonneg (by omega), w64 (x := x % 128 * u) (by omega) (by omega), w64 (by omega) (by omega)]
      refine Ev.step (f := fun k => impl_GetNum.j1 k b at_ n u j true) (fun k => ?_) ?_
      · simp only [impl_GetNum.l0, p3, if_true, hw, p4]
      by_cases hc : x ≥ 128
      · have ih := impl_GetNum.ev_l b hb hn at_ ha d (j + 1) (n + x % 128 * u) (u * 128) (by omega) hu' (by omega) (by omega)
        refine Ev.step (fun k => ?_) (ev_eq ih (by rw [if_pos hc]))
        simp only [impl_GetNum.j1, if_true, if_false, Bool.false_eq_true]
        rw [hw2, if_pos p1, if_pos p2, hx, if_pos hc, hw3, hw7, hw6]
      · rw [if_neg hc]
        refine Ev.step (f := fun _ => some _) (fun k => ?_) (Ev.now _)
        simp only [impl_GetNum.j1, if_true, if_false, Bool.false_eq_true, hw2, p1, p2, hx, hc, hw3, hw4]
        by_cases h2 : n + x % 128 * u > 2147483647
        · simp only [h2, if_true, gtri]
        · simp only [h2, if_false]
          by_cases h3 : x = 0
          · by_cases h4 : j > 0
            · simp only [h3, hj0.mpr h4, h4, if_true, true_and, gtri]
            · have h5 : ¬ (j : Int) > 0 := fun h => h4 (hj0.mp h)
              simp only [h3, h5, h4, if_true, if_false, and_false, gtri]
          · simp only [h3, if_false, false_and, gtri]
    · rw [List.drop_of_length_le (by omega), gnumF]
      refine Ev.step (f := fun k => impl_GetNum.j1 k b at_ n u j false) (fun k => ?_) (Ev.step (f := fun _ => some (0, 0, false)) (fun k => ?_) (Ev.now _))
      · simp only [impl_GetNum.l0]
        rw [if_pos (by omega), hw, decide_eq_false (by omega)]
      · simp only [impl_GetNum.j1, if_true, if_false, Bool.false_eq_true]
theorem impl_GetNum.ev (b : List Int) (hb : ∀ z ∈ b, 0 ≤ z ∧ z ≤ 255) (hn : b.length ≤ 9223372036854775000) (a : Int) (ha : a ≤ 9223372036854775807) : Ev (fun k => impl_GetNum.f k b a) (getP b a) := by
  unfold impl_GetNum.f getP
  by_cases h : a < 0
  · rw [if_neg (by omega)]
    exact ev_pos h (Ev.now _)
  · rw [if_pos (by omega)]
    refine ev_neg h ?_
    obtain ⟨n, rfl⟩ := Int.eq_ofNat_of_zero_le (by omega : 0 ≤ a)
    have := impl_GetNum.ev_l b hb hn n ha 5 0 0 1 (by omega) (by simp) (by omega) (by omega)
    simpa [gnum] using this
theorem laws_eqByteS.ev_l (x : List Int) (hn : x.length ≤ 9223372036854775000) : ∀ (d i : Nat), i + d = x.length → Ev (fun k => laws_eqByteS.l0 k x x i) true
  | 0, i, hd => by
    refine Ev.step (f := fun _ => some true) (fun k => ?_) (Ev.now _)
    simp only [laws_eqByteS.l0]
    rw [if_neg (by omega)]
  | d + 1, i, hd => by
    refine Ev.step (fun k => ?_) (laws_eqByteS.ev_l x hn d (i + 1) (by omega))
    simp only [laws_eqByteS.l0]
    rw [if_pos (by omega), if_pos (by omega), if_pos (by omega), w64 (by omega) (by omega)]
    simp
theorem laws_eqByteS.ev (x : List Int) (hn : x.length ≤ 9223372036854775000) : Ev (fun k => laws_eqByteS.f k x x) true := by
  unfold laws_eqByteS.f
  exact ev_pos rfl (laws_eqByteS.ev_l x hn x.length 0 (by omega))
theorem laws_toByteS.ev_l (x : List Int) (hn : x.length ≤ 281474976710656) : ∀ (d i : Nat) (y : List Int), i + d = x.length → y.length = x.length → y.take i = x.take i → Ev (fun k => laws_toByteS.l0 k x y i) x
  | 0, i, y, hd, hy, ht => by
    refine Ev.step (f := fun _ => some x) (fun k => ?_) (Ev.now _)
    simp only [laws_toByteS.l0]
    rw [if_neg (by omega)]
    have hi : i = x.length := by omega
    subst hi
    rw [List.take_of_length_le (by omega), List.take_of_length_le (Nat.le_refl _)] at ht
    rw [ht]
  | d + 1, i, y, hd, hy, ht => by
    refine Ev.step (fun k => ?_) (laws_toByteS.ev_l x hn d (i + 1) (y.set i (x.getD i 0)) (by omega) (by simp [hy]) (set_take 0 x y i (by omega) hy ht))
    simp only [laws_toByteS.l0]
    rw [if_pos (by omega), if_pos (by omega), if_pos (by omega), w64 (by omega) (by omega), rd_nat]
    simp
theorem laws_toByteS.ev (x : List Int) (hn : x.length ≤ 281474976710656) : Ev (fun k => laws_toByteS.f k x) x := by
  unfold laws_toByteS.f
  refine ev_pos (by omega) (ev_pos (by simp; omega) ?_)
  exact laws_toByteS.ev_l x hn x.length 0 _ (by omega) (by simp) (by simp)
theorem or_shl (n v : Int) (j : Nat) (hj : j ≤ 4) (h0 : 0 ≤ n) (h1 : n < 128 ^ j) (h2 : 0 ≤ v) (h3 : v < 128) : Go.bits .or .i64 n (shl .i64 v (wrap64 (7 * (j : Int)))) = n + v * 128 ^ j := by
  have hw : wrap64 (7 * (j : Int)) = ((7 * j : Nat) : Int) := (w64 (by omega) (by omega)).trans (by omega)
  have hp : (2 : Int) ^ (7 * j) = 128 ^ j := by rw [Int.pow_mul]; rfl
  have hp1 : (128 : Int) ^ j ≤ 268435456 ∧ 1 ≤ (128 : Int) ^ j := by
    rcases (show j = 0 ∨ j = 1 ∨ j = 2 ∨ j = 3 ∨ j = 4 by omega) with rfl | rfl | rfl | rfl | rfl <;> omega
  have hm : 0 ≤ v * 128 ^ j ∧ v * 128 ^ j ≤ 127 * 128 ^ j := ⟨Int.mul_nonneg (by omega) (by omega), Int.mul_le_mul_of_nonneg_right (by omega) (by omega)⟩
  have hs : shl .i64 v (wrap64 (7 * (j : Int))) = v * 128 ^ j := by
    unfold shl
    rw [hw, Int.toNat_natCast, Nat.min_eq_left (by simp [IntKind.bits]; omega), hp, IntKind.wrap_i64]
    omega
  have hc : ∀ x y : Int, Go.bits .or .i64 x y = Go.bits .or .i64 y x := by
    intro x y
    simp only [Go.bits, BitVec.or_comm]
  rw [hs, hc, bits_join .i64 62 (by decide) (fun z hz0 hz1 => by rw [IntKind.wrap_i64]; omega) (7 * j) _ _ hm.1 (by rw [hp]; exact Int.mul_emod_left _ _) (by omega) h0 (by rw [hp]; exact h1) (by omega)]
  omega
theorem spec_GetNum.ev_l (b : List Int) (hb : ∀ z ∈ b, 0 ≤ z ∧ z ≤ 255) (hn : b.length ≤ 9223372036854775000) (at_ : Nat) (ha : (at_ : Int) ≤ 9223372036854775807) : ∀ (d j : Nat) (n u : Int), j + d = 5 → u = 128 ^ j → 0 ≤ n → n < u → Ev (fun k => spec_GetNum.l0 k b at_ n j) (gtri at_ (gnumF d (b.drop (at_ + j)) n u j))
  | 0, j, n, u, hj, hu, h0, h1 => by
    refine Ev.step (f := fun _ => some (0, 0, false)) (fun k => ?_) (ev_eq (Ev.now _) (by rw [gnumF]; rfl))
    simp only [spec_GetNum.l0]
    rw [if_neg (by omega)]
  | d + 1, j, n, u, hj, hu, h0, h1 => by
    have hw : wrap64 ((b.length : Int) - j) = (b.length : Int) - j := w64 (by omega) (by omega)
    have hu' : u * 128 = 128 ^ (j + 1) := by rw [hu, Int.pow_succ]
    have hp : u ≤ 268435456 ∧ 1 ≤ u := by
      subst hu
      rcases (show j = 0 ∨ j = 1 ∨ j = 2 ∨ j = 3 ∨ j = 4 by omega) with rfl | rfl | rfl | rfl | rfl <;> omega
    by_cases h : at_ + j < b.length
    · have e : b.drop (at_ + j) = b[at_ + j] :: b.drop (at_ + (j + 1)) := List.drop_eq_getElem_cons h
      have hz := hb b[at_ + j] (List.getElem_mem _)
      have hw2 : wrap64 ((at_ : Int) + j) = ((at_ + j : Nat) : Int) := (w64 (by omega) (by omega)).trans (by omega)
      have hx : wrap64 (rd b ((at_ + j : Nat) : Int)) = b[at_ + j] := by rw [rd_lt b _ h]; exact w64 (by omega) (by omega)
      have p3 : (j : Int) < 5 := by omega
      have p6 : j ≤ 4 := by omega
      have h1' : n < 128 ^ j := by rw [← hu]; exact h1
      have hw5 : 0 ≤ wrap64 (7 * (j : Int)) := by rw [w64 (by omega) (by omega)]; omega
      have p4 : decide ((at_ : Int) ≥ (b.length : Int) - j) = false := decide_eq_false (by omega)
      have p5 : ¬ (at_ : Int) < 0 := by omega
      have hj0 : (j : Int) > 0 ↔ j > 0 := by omega
      have p1 : (0 : Int) ≤ ((at_ + j : Nat) : Int) := by omega
      have p2 : ((at_ + j : Nat) : Int) < (b.length : Int) := by omega
      have hw4 : wrap64 (((at_ + j : Nat) : Int) + 1) = (at_ : Int) + ((j + 1 : Nat) : Int) := (w64 (by omega) (by omega)).trans (by omega)
      have hw6 : wrap64 ((j : Int) + 1) = ((j + 1 : Nat) : Int) := w64 (by omega) (by omega)
      have hw7 : wrap64 (u * 128) = u * 128 := w64 (by omega) (by omega)
      rw [e, gnumF]
      generalize b[at_ + j]'h = x at hx hz ⊢
      have hm : 0 ≤ x % 128 * u ∧ x % 128 * u ≤ 127 * u := ⟨Int.mul_nonneg (by omega) (by omega), Int.mul_le_mul_of_nonneg_right (by omega) (by omega)⟩
      have hw3 : Go.bits .or .i64 n (shl .i64 (Int.tmod x 128) (wrap64 (7 * (j : Int)))) = n + x % 128 * u := by
        rw [Int.tmod_eq_emod_of_nonneg hz.1, hu]
        exact or_shl n (x % 128) j p6 h0 h1' (Int.emod_nonneg _ (by decide)) (Int.emod_lt_of_pos _ (by decide))
      refine Ev.step (f := fun k => spec_GetNum.j1 k b at_ n j false) (fun k => ?_) ?_
      · simp only [spec_GetNum.l0, p3, p5, if_true, if_false, hw, p4]
      by_cases hc : x ≥ 128
      · have ih := spec_GetNum.ev_l b hb hn at_ ha d (j + 1) (n + x % 128 * u) (u * 128) (by omega) hu' (by omega) (by omega)
        refine Ev.step (fun k => ?_) (ev_eq ih (by rw [if_pos hc]))
        simp only [spec_GetNum.j1, if_true, if_false, Bool.false_eq_true]
        rw [hw2, if_pos p1, if_pos p2, if_pos hw5, hx, if_neg (Int.not_lt.mpr hc), hw3, hw6]
      · rw [if_neg hc]
        have hc' : x < 128 := Int.not_le.mp hc
        refine Ev.step (f := fun _ => some _) (fun k => ?_) (Ev.now _)
        simp only [spec_GetNum.j1, if_true, if_false, Bool.false_eq_true, hw2, p1, p2, hw5, hx, hc', hw3, hw4]
        by_cases h2 : n + x % 128 * u > 2147483647
        · simp only [h2, if_true, gtri]
          split
          · split <;> rfl
          · rfl
        · simp only [h2, if_false]
          by_cases h4 : (j : Int) > 0
          · by_cases h3 : x = 0
            · simp only [h4, hj0.mp h4, h3, if_true, if_false, and_self, gtri]
            · simp only [h4, h3, if_true, if_false, false_and, gtri]
          · have h5 : ¬ j > 0 := fun h => h4 (hj0.mpr h)
            simp only [h4, h5, if_false, and_false, gtri]
    · rw [List.drop_of_length_le (by omega), gnumF]
      refine Ev.step (f := fun k => spec_GetNum.j1 k b at_ n j true) (fun k => ?_) (Ev.step (f := fun _ => some (0, 0, false)) (fun k => ?_) (Ev.now _))
      · simp only [spec_GetNum.l0]
        rw [if_pos (by omega), if_neg (by omega), hw, decide_eq_true (by omega)]
      · simp only [spec_GetNum.j1, if_true, if_false, Bool.false_eq_true]
theorem spec_GetNum.ev (b : List Int) (hb : ∀ z ∈ b, 0 ≤ z ∧ z ≤ 255) (hn : b.length ≤ 9223372036854775000) (a : Int) (ha : a ≤ 9223372036854775807) : Ev (fun k => spec_GetNum.f k b a) (getP b a) := by
  unfold spec_GetNum.f getP
  by_cases h : a < 0
  · rw [if_neg (by omega)]
    refine Ev.step (f := fun k => spec_GetNum.j1 k b a 0 0 true) (fun k => ?_) (Ev.step (f := fun _ => some (0, 0, false)) (fun k => ?_) (Ev.now _))
    · simp only [spec_GetNum.l0]
      rw [if_pos (by omega), if_pos h]
    · simp only [spec_GetNum.j1, if_true, if_false, Bool.false_eq_true]
  · rw [if_pos (by omega)]
    obtain ⟨n, rfl⟩ := Int.eq_ofNat_of_zero_le (by omega : 0 ≤ a)
    have := spec_GetNum.ev_l b hb hn n ha 5 0 0 1 (by omega) (by simp) (by omega) (by omega)
    simpa [gnum] using this
theorem FnExactGetNum : laws_FnExactGetNum.Pure := by
  intro b a _ _ hb ha
  apply Ev.rounds (g := fun k => laws_FnExactGetNum.f k b a)
  unfold laws_FnExactGetNum.f
  by_cases gb : (b.length : Int) > 1048576
  · exact ev_pos gb (Ev.now _)
  refine ev_neg gb ?_
  have f0_ := laws_toByteS.ev b (by omega)
  have f1_ := spec_GetNum.ev b (fun z hz => wf_u8 (hb z hz)) (by omega) a (wf_i64 ha).2
  have f2_ := impl_GetNum.ev b (fun z hz => wf_u8 (hb z hz)) (by omega) a (wf_i64 ha).2
  have f3_ := laws_eqByteS.ev b (by omega)
  repeat (first
    | exact Ev.now _
    | refine ev_pos rfl ?_
    | (refine ev_neg ?_ ?_; omega)
    | (refine ev_neg ?_ ?_; (focus (simp; done)))
    | refine Ev.bind (by assumption) ?_
    | refine ev_bind_some (by assumption) ?_
    | (refine ev_succ ?_; simp only [laws_FnExactGetNum.j0])
    | dsimp only)

end Go.Proofs.Ytoodipndmhehmaa.Pure
