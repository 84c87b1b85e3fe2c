/- FnExactSumOf: the plain law: what the printed functions tell answers true at every input. No condition. -/
import Derived.Test.YtoodipndmhehmaaQFnExactSumOfx1
import Derived.Test.YtoodipndmhehmaaAid
namespace Go.Proofs.Ytoodipndmhehmaa.Pure
open Go.RowKit Go.Proofs.Ytoodipndmhehmaa.QFnExactSumOf Go.Proofs.YtoodipndmhehmaaW.PrintWords Go.Proofs.YtoodipndmhehmaaW.PrintLast Go.Proofs.YtoodipndmhehmaaW.PrintMore Go.Proofs.Ytoodipndmhehmaa.Aid
set_option linter.unusedVariables false
set_option linter.unusedSimpArgs false

def sumP : List Int → Int → Int → Int
  | [], a, b => b * 65536 + a
  | x :: l, a, b => sumP l ((a + x) % 65521) ((b + (a + x) % 65521) % 65521)
theorem sumP_bound : ∀ (l : List Int) (a b : Int), 0 ≤ a → a < 65521 → 0 ≤ b → b < 65521 → 0 ≤ sumP l a b ∧ sumP l a b < 4294967296
  | [], a, b, h1, h2, h3, h4 => by unfold sumP; omega
  | x :: l, a, b, h1, h2, h3, h4 => sumP_bound l _ _ (by omega) (by omega) (by omega) (by omega)
theorem impl_SumOf.ev_l (x : List Int) (hx : ∀ z ∈ x, 0 ≤ z ∧ z ≤ 255) (hn : x.length ≤ 9223372036854775000) : ∀ (d i : Nat) (a b : Int), i + d = x.length → 0 ≤ a → a < 65521 → 0 ≤ b → b < 65521 → Ev (fun k => impl_SumOf.l0 k a b x (x.length : Int) i) (sumP (x.drop i) a b)
  | 0, i, a, b, hd, h1, h2, h3, h4 => by
    refine Ev.step (f := fun _ => some (sumP (x.drop i) a b)) (fun k => ?_) (Ev.now _)
    simp only [impl_SumOf.l0]
    rw [if_neg (by omega), List.drop_of_length_le (by omega), w64 (x := b * 65536) (by omega) (by omega), w64 (by omega) (by omega)]
    rfl
  | d + 1, i, a, b, hd, h1, h2, h3, h4 => by
    have hi : i < x.length := by omega
    have hz := hx x[i] (List.getElem_mem _)
    have e : x.drop i = x[i] :: x.drop (i + 1) := List.drop_eq_getElem_cons hi
    rw [e, sumP]
    refine Ev.step (fun k => ?_) (impl_SumOf.ev_l x hx hn d (i + 1) _ _ (by omega) (by omega) (by omega) (by omega) (by omega))
    simp only [impl_SumOf.l0]
    rw [if_pos (by omega), if_pos (by omega), if_pos (by omega), rd_lt x i hi]
    rw [w64 (x := x[i]) (by omega) (by omega), w64 (x := a + x[i]) (by omega) (by omega), Int.tmod_eq_emod_of_nonneg (by omega), w64 (x := b + _) (by omega) (by omega), Int.tmod_eq_emod_of_nonneg (by omega), w64 (x := (i : Int) + 1) (by omega) (by omega)]
    simp
theorem impl_SumOf.ev (x : List Int) (hx : ∀ z ∈ x, 0 ≤ z ∧ z ≤ 255) (hn : x.length ≤ 9223372036854775000) : Ev (fun k => impl_SumOf.f k x) (sumP x 1 0) := by
  unfold impl_SumOf.f
  exact impl_SumOf.ev_l x hx hn x.length 0 1 0 (by omega) (by omega) (by omega) (by omega) (by omega)
theorem laws_eqByteS.ev_l (x : List Int) (hn : x.length ≤ 9223372036854775000) : ∀ (d i : Nat), i + d = x.length → Ev (fun k => laws_eqByteS.l0 k x x i) true
  | 0, i, hd => by
    refine Ev.step (f := fun _ => some true) (fun k => ?_) (Ev.now _)
    simp only [laws_eqByteS.l0]
    rw [if_neg (by omega)]
  | d + 1, i, hd => by
    refine Ev.step (fun k => ?_) (laws_eqByteS.ev_l x hn d (i + 1) (by omega))
    simp only [laws_eqByteS.l0]
    rw [if_pos (by omega), if_pos (by omega), if_pos (by omega), w64 (by omega) (by omega)]
    simp
theorem laws_eqByteS.ev (x : List Int) (hn : x.length ≤ 9223372036854775000) : Ev (fun k => laws_eqByteS.f k x x) true := by
  unfold laws_eqByteS.f
  exact ev_pos rfl (laws_eqByteS.ev_l x hn x.length 0 (by omega))
theorem laws_toByteS.ev_l (x : List Int) (hn : x.length ≤ 281474976710656) : ∀ (d i : Nat) (y : List Int), i + d = x.length → y.length = x.length → y.take i = x.take i → Ev (fun k => laws_toByteS.l0 k x y i) x
  | 0, i, y, hd, hy, ht => by
    refine Ev.step (f := fun _ => some x) (fun k => ?_) (Ev.now _)
    simp only [laws_toByteS.l0]
    rw [if_neg (by omega)]
    have hi : i = x.length := by omega
    subst hi
    rw [List.take_of_length_le (by omega), List.take_of_length_le (Nat.le_refl _)] at ht
    rw [ht]
  | d + 1, i, y, hd, hy, ht => by
    refine Ev.step (fun k => ?_) (laws_toByteS.ev_l x hn d (i + 1) (y.set i (x.getD i 0)) (by omega) (by simp [hy]) (set_take 0 x y i (by omega) hy ht))
    simp only [laws_toByteS.l0]
    rw [if_pos (by omega), if_pos (by omega), if_pos (by omega), w64 (by omega) (by omega), rd_nat]
    simp
theorem laws_toByteS.ev (x : List Int) (hn : x.length ≤ 281474976710656) : Ev (fun k => laws_toByteS.f k x) x := by
  unfold laws_toByteS.f
  refine ev_pos (by omega) (ev_pos (by simp; omega) ?_)
  exact laws_toByteS.ev_l x hn x.length 0 _ (by omega) (by simp) (by simp)
theorem spec_SumOf.ev_l (x : List Int) (hx : ∀ z ∈ x, 0 ≤ z ∧ z ≤ 255) (hn : x.length ≤ 9223372036854775000) : ∀ (d i : Nat) (a b : Int), i + d = x.length → 0 ≤ a → a < 65521 → 0 ≤ b → b < 65521 → Ev (fun k => spec_SumOf.l0 k x a b i) (sumP (x.drop i) a b)
  | 0, i, a, b, hd, h1, h2, h3, h4 => by
    refine Ev.step (f := fun _ => some (sumP (x.drop i) a b)) (fun k => ?_) (Ev.now _)
    simp only [spec_SumOf.l0]
    rw [if_neg (by omega), List.drop_of_length_le (by omega), w64 (x := b * 65536) (by omega) (by omega), w64 (by omega) (by omega)]
    rfl
  | d + 1, i, a, b, hd, h1, h2, h3, h4 => by
    have hi : i < x.length := by omega
    have hz := hx x[i] (List.getElem_mem _)
    have e : x.drop i = x[i] :: x.drop (i + 1) := List.drop_eq_getElem_cons hi
    rw [e, sumP]
    refine Ev.step (fun k => ?_) (spec_SumOf.ev_l x hx hn d (i + 1) _ _ (by omega) (by omega) (by omega) (by omega) (by omega))
    simp only [spec_SumOf.l0]
    rw [if_pos (by omega), if_pos (by omega), rd_lt x i hi]
    rw [w64 (x := x[i]) (by omega) (by omega), w64 (x := a + x[i]) (by omega) (by omega), Int.tmod_eq_emod_of_nonneg (by omega), w64 (x := b + _) (by omega) (by omega), Int.tmod_eq_emod_of_nonneg (by omega), w64 (x := (i : Int) + 1) (by omega) (by omega)]
    simp
theorem spec_SumOf.ev (x : List Int) (hx : ∀ z ∈ x, 0 ≤ z ∧ z ≤ 255) (hn : x.length ≤ 9223372036854775000) : Ev (fun k => spec_SumOf.f k x) (sumP x 1 0) := by
  unfold spec_SumOf.f
  exact spec_SumOf.ev_l x hx hn x.length 0 1 0 (by omega) (by omega) (by omega) (by omega) (by omega)
theorem FnExactSumOf : laws_FnExactSumOf.Pure := by
  intro b _ _ hb
  apply Ev.rounds (g := fun k => laws_FnExactSumOf.f k b)
  unfold laws_FnExactSumOf.f
  by_cases gb : (b.length : Int) > 1048576
  · exact ev_pos gb (Ev.now _)
  refine ev_neg gb ?_
  have f0_ := laws_toByteS.ev b (by omega)
  have f1_ := spec_SumOf.ev b (fun z hz => wf_u8 (hb z hz)) (by omega)
  have f2_ := impl_SumOf.ev b (fun z hz => wf_u8 (hb z hz)) (by omega)
  have f3_ := laws_eqByteS.ev b (by omega)
  repeat (first
    | exact Ev.now _
    | refine ev_pos rfl ?_
    | (refine ev_neg ?_ ?_; omega)
    | (refine ev_neg ?_ ?_; (focus (simp; done)))
    | refine Ev.bind (by assumption) ?_
    | refine ev_bind_some (by assumption) ?_
    | (refine ev_succ ?_; simp only [laws_FnExactSumOf.f])
    | dsimp only)

end Go.Proofs.Ytoodipndmhehmaa.Pure
