/- FnExactRun: the plain law: what the printed functions tell answers true at every input. No condition. -/
import Derived.Test.YtoodipndmhehmaaQFnExactRunx2
import Derived.Test.YtoodipndmhehmaaAid
namespace Go.Proofs.Ytoodipndmhehmaa.Pure
open Go.RowKit Go.Proofs.Ytoodipndmhehmaa.QFnExactRun Go.Proofs.YtoodipndmhehmaaW.PrintWords Go.Proofs.YtoodipndmhehmaaW.PrintLast Go.Proofs.YtoodipndmhehmaaW.PrintMore Go.Proofs.Ytoodipndmhehmaa.Aid
set_option linter.unusedVariables false
set_option linter.unusedSimpArgs false

/-- A run from n on (d: how many more it may have). -/
def runF (b : List Int) (at_ back : Nat) : Nat → Nat → Nat
  | 0, n => n
  | d + 1, n => if at_ + n < b.length ∧ b.getD (at_ + n) 0 = b.getD (at_ + n - back) 0 then runF b at_ back d (n + 1) else n
/-- Run. -/
def runP (b : List Int) (at_ back : Nat) : Nat := runF b at_ back 100 0
def runI (b : List Int) (at_ back : Int) : Int := if 1 ≤ back ∧ back ≤ 255 ∧ back ≤ at_ ∧ at_ < b.length then runP b at_.toNat back.toNat else 0
theorem impl_Run.ev_l (b : List Int) (hn : b.length ≤ 9223372036854775000) (at_ back : Nat) (hb1 : 1 ≤ back) (hb2 : back ≤ at_) (ha : at_ < b.length) : ∀ (d n : Nat), n + d = 100 → at_ + n ≤ b.length → Ev (fun k => impl_Run.l0 k b at_ back n) (runF b at_ back d n)
  | 0, n, hd, hl => by
    refine Ev.step (f := fun _ => some (n : Int)) (fun k => ?_) (Ev.now _)
    simp only [impl_Run.l0]
    rw [if_neg (by omega)]
  | d + 1, n, hd, hl => by
    have hw : wrap64 ((at_ : Int) + n) = ((at_ + n : Nat) : Int) := (w64 (by omega) (by omega)).trans (by omega)
    have hw2 : wrap64 (((at_ + n : Nat) : Int) - back) = ((at_ + n - back : Nat) : Int) := (w64 (by omega) (by omega)).trans (by omega)
    unfold runF
    by_cases h : at_ + n < b.length ∧ b.getD (at_ + n) 0 = b.getD (at_ + n - back) 0
    · rw [if_pos h]
      refine Ev.step (fun k => ?_) (impl_Run.ev_l b hn at_ back hb1 hb2 ha d (n + 1) (by omega) (by omega))
      simp only [impl_Run.l0]
      rw [if_pos (by omega), hw, if_pos (by omega), if_pos (by omega), hw2, if_pos (by omega), if_pos (by omega), if_pos (by rw [rd_nat, rd_nat]; exact h.2), w64 (x := (n : Int) + 1) (by omega) (by omega)]
      simp
    · rw [if_neg h]
      refine Ev.step (f := fun _ => some (n : Int)) (fun k => ?_) (Ev.now _)
      simp only [impl_Run.l0]
      rw [if_pos (by omega), hw]
      by_cases h1 : at_ + n < b.length
      · rw [if_pos (by omega), if_pos (by omega), hw2, if_pos (by omega), if_pos (by omega), if_neg]
        rw [rd_nat, rd_nat]
        exact fun h2 => h ⟨h1, h2⟩
      · rw [if_neg (by omega)]
theorem impl_Run.ev (b : List Int) (hn : b.length ≤ 9223372036854775000) (a c : Int) : Ev (fun k => impl_Run.f k b a c) (runI b a c) := by
  unfold impl_Run.f runI
  have hj : Ev (fun k => impl_Run.j0 k b a c true) 0 := by
    refine Ev.step (f := fun _ => some 0) (fun k => ?_) (Ev.now _)
    simp only [impl_Run.j0]
    rw [if_pos trivial]
  by_cases h1 : c < 1
  · rw [if_neg (by omega)]; exact ev_pos h1 hj
  refine ev_neg h1 ?_
  by_cases h2 : c > 255
  · rw [if_neg (by omega)]; exact ev_pos h2 hj
  refine ev_neg h2 ?_
  by_cases h3 : c > a
  · rw [if_neg (by omega)]; exact ev_pos h3 hj
  refine ev_neg h3 ?_
  by_cases h4 : a ≥ (b.length : Int)
  · rw [if_neg (by omega), decide_eq_true h4]; exact hj
  rw [decide_eq_false h4, if_pos (by omega)]
  obtain ⟨n, rfl⟩ := Int.eq_ofNat_of_zero_le (by omega : 0 ≤ a)
  obtain ⟨m, rfl⟩ := Int.eq_ofNat_of_zero_le (by omega : 0 ≤ c)
  refine Ev.step (fun k => ?_) (impl_Run.ev_l b hn n m (by omega) (by omega) (by omega) 100 0 (by omega) (by omega))
  simp only [impl_Run.j0]
  rw [if_neg (by simp)]
  rfl
theorem laws_eqByteS.ev_l (x : List Int) (hn : x.length ≤ 9223372036854775000) : ∀ (d i : Nat), i + d = x.length → Ev (fun k => laws_eqByteS.l0 k x x i) true
  | 0, i, hd => by
    refine Ev.step (f := fun _ => some true) (fun k => ?_) (Ev.now _)
    simp only [laws_eqByteS.l0]
    rw [if_neg (by omega)]
  | d + 1, i, hd => by
    refine Ev.step (fun k => ?_) (laws_eqByteS.ev_l x hn d (i + 1) (by omega))
    simp only [laws_eqByteS.l0]
    rw [if_pos (by omega), if_pos (by omega), if_pos (by omega), w64 (by omega) (by omega)]
    simp
theorem laws_eqByteS.ev (x : List Int) (hn : x.length ≤ 9223372036854775000) : Ev (fun k => laws_eqByteS.f k x x) true := by
  unfold laws_eqByteS.f
  exact ev_pos rfl (laws_eqByteS.ev_l x hn x.length 0 (by omega))
theorem laws_toByteS.ev_l (x : List Int) (hn : x.length ≤ 281474976710656) : ∀ (d i : Nat) (y : List Int), i + d = x.length → y.length = x.length → y.take i = x.take i → Ev (fun k => laws_toByteS.l0 k x y i) x
  | 0, i, y, hd, hy, ht => by
    refine Ev.step (f := fun _ => some x) (fun k => ?_) (Ev.now _)
    simp only [laws_toByteS.l0]
    rw [if_neg (by omega)]
    have hi : i = x.length := by omega
    subst hi
    rw [List.take_of_length_le (by omega), List.take_of_length_le (Nat.le_refl _)] at ht
    rw [ht]
  | d + 1, i, y, hd, hy, ht => by
    refine Ev.step (fun k => ?_) (laws_toByteS.ev_l x hn d (i + 1) (y.set i (x.getD i 0)) (by omega) (by simp [hy]) (set_take 0 x y i (by omega) hy ht))
    simp only [laws_toByteS.l0]
    rw [if_pos (by omega), if_pos (by omega), if_pos (by omega), w64 (by omega) (by omega), rd_nat]
    simp
theorem laws_toByteS.ev (x : List Int) (hn : x.length ≤ 281474976710656) : Ev (fun k => laws_toByteS.f k x) x := by
  unfold laws_toByteS.f
  refine ev_pos (by omega) (ev_pos (by simp; omega) ?_)
  exact laws_toByteS.ev_l x hn x.length 0 _ (by omega) (by simp) (by simp)
theorem spec_l1In.eq (a b c : Int) : spec_l1In.f a b c = some (decide (b ≤ a ∧ a ≤ c)) := by
  unfold spec_l1In.f
  by_cases h : b ≤ a
  · rw [if_pos h]; simp [h]
  · rw [if_neg h]; simp [h]
theorem spec_Run.ev_l (b : List Int) (hn : b.length ≤ 9223372036854775000) (at_ back : Nat) (hb1 : 1 ≤ back) (hb2 : back ≤ at_) (ha : at_ < b.length) : ∀ (d n : Nat), n + d = 100 → at_ + n ≤ b.length → Ev (fun k => spec_Run.l0 k b at_ back n) (runF b at_ back d n)
  | 0, n, hd, hl => by
    refine Ev.step (f := fun _ => some (n : Int)) (fun k => ?_) (Ev.now _)
    simp only [spec_Run.l0]
    rw [if_neg (by omega)]
  | d + 1, n, hd, hl => by
    have hw : wrap64 ((at_ : Int) + n) = ((at_ + n : Nat) : Int) := (w64 (by omega) (by omega)).trans (by omega)
    have hw2 : wrap64 (((at_ + n : Nat) : Int) - back) = ((at_ + n - back : Nat) : Int) := (w64 (by omega) (by omega)).trans (by omega)
    unfold runF
    by_cases h : at_ + n < b.length ∧ b.getD (at_ + n) 0 = b.getD (at_ + n - back) 0
    · rw [if_pos h]
      refine Ev.step (fun k => ?_) (spec_Run.ev_l b hn at_ back hb1 hb2 ha d (n + 1) (by omega) (by omega))
      simp only [spec_Run.l0]
      rw [if_pos (by omega), hw, if_pos (by omega), if_pos (by omega), hw2, if_pos (by omega), if_pos (by omega), if_pos (by rw [rd_nat, rd_nat]; exact h.2), w64 (x := (n : Int) + 1) (by omega) (by omega)]
      simp
    · rw [if_neg h]
      refine Ev.step (f := fun _ => some (n : Int)) (fun k => ?_) (Ev.now _)
      simp only [spec_Run.l0]
      rw [if_pos (by omega), hw]
      by_cases h1 : at_ + n < b.length
      · rw [if_pos (by omega), if_pos (by omega), hw2, if_pos (by omega), if_pos (by omega), if_neg]
        rw [rd_nat, rd_nat]
        exact fun h2 => h ⟨h1, h2⟩
      · rw [if_neg (by omega)]
theorem spec_Run.ev (b : List Int) (hn : b.length ≤ 9223372036854775000) (a c : Int) : Ev (fun k => spec_Run.f k b a c) (runI b a c) := by
  unfold spec_Run.f runI
  rw [w64 (x := (b.length : Int) - 1) (by omega) (by omega)]
  simp only [spec_l1In.eq, Option.bind_some]
  by_cases h1 : 0 ≤ a ∧ a ≤ (b.length : Int) - 1
  · refine ev_pos (by simpa using h1) ?_
    have hm : spec_l1Min.f a 255 = some (if a < 255 then a else 255) := by unfold spec_l1Min.f; split <;> rfl
    simp only [hm, Option.bind_some]
    by_cases h2 : 1 ≤ c ∧ c ≤ (if a < 255 then a else 255)
    · have h3 : 1 ≤ c ∧ c ≤ 255 ∧ c ≤ a ∧ a < b.length := by
        split at h2 <;> omega
      rw [if_pos h3, decide_eq_true h2]
      obtain ⟨n, rfl⟩ := Int.eq_ofNat_of_zero_le h1.1
      obtain ⟨m, rfl⟩ := Int.eq_ofNat_of_zero_le (by omega : 0 ≤ c)
      refine Ev.step (fun k => ?_) (spec_Run.ev_l b hn n m (by omega) (by omega) (by omega) 100 0 (by omega) (by omega))
      simp only [spec_Run.j0]
      rw [if_neg (by simp)]
      rfl
    · have h3 : ¬ (1 ≤ c ∧ c ≤ 255 ∧ c ≤ a ∧ a < b.length) := by
        split at h2 <;> omega
      rw [if_neg h3, decide_eq_false h2]
      refine Ev.step (f := fun _ => some 0) (fun k => ?_) (Ev.now _)
      simp only [spec_Run.j0]
      rw [if_pos (by simp)]
  · refine ev_neg (by simpa using h1) ?_
    rw [if_neg (by omega)]
    refine Ev.step (f := fun _ => some 0) (fun k => ?_) (Ev.now _)
    simp only [spec_Run.j0]
    rw [if_pos trivial]
theorem FnExactRun : laws_FnExactRun.Pure := by
  intro b a c _ _ hb _ _
  apply Ev.rounds (g := fun k => laws_FnExactRun.f k b a c)
  unfold laws_FnExactRun.f
  by_cases gb : (b.length : Int) > 1048576
  · exact ev_pos gb (Ev.now _)
  refine ev_neg gb ?_
  have f0_ := laws_toByteS.ev b (by omega)
  have f1_ := spec_Run.ev b (by omega) a c
  have f2_ := impl_Run.ev b (by omega) a c
  have f3_ := laws_eqByteS.ev b (by omega)
  repeat (first
    | exact Ev.now _
    | refine ev_pos rfl ?_
    | (refine ev_neg ?_ ?_; omega)
    | (refine ev_neg ?_ ?_; (focus (simp; done)))
    | refine Ev.bind (by assumption) ?_
    | refine ev_bind_some (by assumption) ?_
    | (refine ev_succ ?_; simp only [laws_FnExactRun.f])
    | dsimp only)

end Go.Proofs.Ytoodipndmhehmaa.Pure
