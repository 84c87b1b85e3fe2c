/- FnExactPut: the plain law: what the printed functions tell answers true at every input. No condition. -/
import Derived.Test.YtkejojcjmlnpgaaQFnExactPutx2
import Derived.Test.YtkejojcjmlnpgaaAid
namespace Go.Proofs.Ytkejojcjmlnpgaa.Pure
open Go.RowKit Go.Proofs.Ytkejojcjmlnpgaa.QFnExactPut Go.Proofs.YtkejojcjmlnpgaaW.PrintWords Go.Proofs.YtkejojcjmlnpgaaW.PrintLast Go.Proofs.YtkejojcjmlnpgaaW.PrintMore Go.Proofs.Ytkejojcjmlnpgaa.Aid
set_option linter.unusedVariables false
set_option linter.unusedSimpArgs false

theorem impl_from.eq (a b c : Int) : impl_from.f a b c = some (decide (b ≤ a ∧ a ≤ c)) := by
  unfold impl_from.f
  by_cases h : b ≤ a
  · rw [if_pos h]; simp [h]
  · rw [if_neg h]; simp [h]
/-- Put. -/
def putP (l : List Int) (a n : Int) : List Int := if 0 ≤ a ∧ a ≤ (l.length : Int) - 1 then l.set a.toNat n else l
theorem putP_length (l : List Int) (a n : Int) : (putP l a n).length = l.length := by
  unfold putP; split <;> simp
theorem slices_Clone_int_int.eq (l : List Int) (h : l.length < 17592186044416) : slices_Clone_int_int.f l = some l := by
  unfold slices_Clone_int_int.f
  simp [h]
theorem impl_Put.eq (l : List Int) (a n : Int) (h : l.length < 17592186044416) : impl_Put.f l a n = some (putP l a n) := by
  unfold impl_Put.f putP
  rw [slices_Clone_int_int.eq l h]
  simp only [Option.bind_some, impl_from.eq]
  rw [w64 (x := (l.length : Int) - 1) (by omega) (by omega)]
  by_cases hc : 0 ≤ a ∧ a ≤ (l.length : Int) - 1
  · rw [if_pos hc, decide_eq_true hc, if_pos rfl, if_pos hc.1, if_pos (by omega)]
  · rw [if_neg hc, decide_eq_false hc]
    rfl
theorem laws_eqIntS.ev_l (x : List Int) (hn : x.length ≤ 9223372036854775000) : ∀ (d i : Nat), i + d = x.length → Ev (fun k => laws_eqIntS.l0 k x x i) true
  | 0, i, hd => by
    refine Ev.step (f := fun _ => some true) (fun k => ?_) (Ev.now _)
    simp only [laws_eqIntS.l0]
    rw [if_neg (by omega)]
  | d + 1, i, hd => by
    refine Ev.step (fun k => ?_) (laws_eqIntS.ev_l x hn d (i + 1) (by omega))
    simp only [laws_eqIntS.l0]
    rw [if_pos (by omega), if_pos (by omega), if_pos (by omega), w64 (by omega) (by omega)]
    simp
theorem laws_eqIntS.ev (x : List Int) (hn : x.length ≤ 9223372036854775000) : Ev (fun k => laws_eqIntS.f k x x) true := by
  unfold laws_eqIntS.f
  exact ev_pos rfl (laws_eqIntS.ev_l x hn x.length 0 (by omega))
theorem laws_heldIntS.ev_l (a : Int) (ha : 0 ≤ a) (ha1 : a ≤ 4611686018427387904) (n : Nat) (hn : n ≤ 1152921504606846976) : ∀ (d i : Nat), i + d = n → Ev (fun k => laws_heldIntS.l0 k (cnt (fun z => z) a n) (a + i) i) (a + n)
  | 0, i, hd => by
    refine Ev.step (f := fun _ => some (a + n)) (fun k => ?_) (Ev.now _)
    simp only [laws_heldIntS.l0]
    rw [if_neg (by rw [cnt_length]; omega)]
    obtain rfl : i = n := by omega
    rfl
  | d + 1, i, hd => by
    have h := laws_heldIntS.ev_l a ha ha1 n hn d (i + 1) (by omega)
    refine Ev.step (fun k => ?_) h
    simp only [laws_heldIntS.l0]
    rw [if_pos (by rw [cnt_length]; omega), if_pos (by omega), if_pos (by rw [rd_nat, cnt_get _ _ _ _ _ (by omega)]), w64 (x := (i : Int) + 1) (by omega) (by omega), w64 (by omega) (by omega)]
    simp [Int.add_assoc]
theorem laws_heldIntS.ev (a : Int) (ha : 0 ≤ a) (ha1 : a ≤ 4611686018427387904) (n : Nat) (hn : n ≤ 1152921504606846976) : Ev (fun k => laws_heldIntS.f k (cnt (fun z => z) a n) a) (a + n) := by
  unfold laws_heldIntS.f
  have h := laws_heldIntS.ev_l a ha ha1 n hn n 0 (by omega)
  simpa using h
theorem laws_markIntS.ev_l (a : Int) (ha : 0 ≤ a) (ha1 : a ≤ 4611686018427387904) : ∀ (d i : Nat) (y : List Int), i + d = y.length → y.length ≤ 1152921504606846976 → y.take i = cnt (fun z => z) a i → Ev (fun k => laws_markIntS.l0 k y (a + i) i) (a + y.length, cnt (fun z => z) a y.length)
  | 0, i, y, hd, hn, ht => by
    refine Ev.step (f := fun _ => some (a + y.length, cnt (fun z => z) a y.length)) (fun k => ?_) (Ev.now _)
    simp only [laws_markIntS.l0]
    rw [if_neg (by omega)]
    obtain rfl : i = y.length := by omega
    rw [← cnt_all (fun z => z) a y _ rfl ht]
  | d + 1, i, y, hd, hn, ht => by
    have h := laws_markIntS.ev_l a ha ha1 d (i + 1) (y.set i ((fun z => z) (a + i))) (by simp; omega) (by simp; omega) (set_cnt (fun z => z) a y i (by omega) ht)
    rw [List.length_set] at h
    refine Ev.step (fun k => ?_) h
    simp only [laws_markIntS.l0]
    rw [if_pos (by omega), if_pos (by omega), w64 (x := (i : Int) + 1) (by omega) (by omega), w64 (by omega) (by omega)]
    simp [Int.add_assoc]
theorem laws_markIntS.ev (a : Int) (ha : 0 ≤ a) (ha1 : a ≤ 4611686018427387904) (y : List Int) (hn : y.length ≤ 1152921504606846976) : Ev (fun k => laws_markIntS.f k y a) (a + y.length, cnt (fun z => z) a y.length) := by
  unfold laws_markIntS.f
  have h := laws_markIntS.ev_l a ha ha1 y.length 0 y (by omega) hn (by simp [cnt])
  simpa using h
theorem laws_toIntS.ev_l (x : List Int) (hn : x.length ≤ 35184372088832) : ∀ (d i : Nat) (y : List Int), i + d = x.length → y.length = x.length → y.take i = x.take i → Ev (fun k => laws_toIntS.l0 k x y i) x
  | 0, i, y, hd, hy, ht => by
    refine Ev.step (f := fun _ => some x) (fun k => ?_) (Ev.now _)
    simp only [laws_toIntS.l0]
    rw [if_neg (by omega)]
    have hi : i = x.length := by omega
    subst hi
    rw [List.take_of_length_le (by omega), List.take_of_length_le (Nat.le_refl _)] at ht
    rw [ht]
  | d + 1, i, y, hd, hy, ht => by
    refine Ev.step (fun k => ?_) (laws_toIntS.ev_l x hn d (i + 1) (y.set i (x.getD i 0)) (by omega) (by simp [hy]) (set_take 0 x y i (by omega) hy ht))
    simp only [laws_toIntS.l0]
    rw [if_pos (by omega), if_pos (by omega), if_pos (by omega), w64 (by omega) (by omega), rd_nat]
    simp
theorem laws_toIntS.ev (x : List Int) (hn : x.length ≤ 35184372088832) : Ev (fun k => laws_toIntS.f k x) x := by
  unfold laws_toIntS.f
  refine ev_pos (by omega) (ev_pos (by simp; omega) ?_)
  exact laws_toIntS.ev_l x hn x.length 0 _ (by omega) (by simp) (by simp)
theorem spec_l1In.eq (a b c : Int) : spec_l1In.f a b c = some (decide (b ≤ a ∧ a ≤ c)) := by
  unfold spec_l1In.f
  by_cases h : b ≤ a
  · rw [if_pos h]; simp [h]
  · rw [if_neg h]; simp [h]
theorem spec_Put.eq (l : List Int) (a n : Int) (h : l.length < 17592186044416) : spec_Put.f l a n = some (putP l a n) := by
  unfold spec_Put.f putP
  simp only [Option.bind_some, spec_l1In.eq, List.nil_append, List.length_nil, Nat.zero_add]
  rw [if_pos h, w64 (x := (l.length : Int) - 1) (by omega) (by omega)]
  by_cases hc : 0 ≤ a ∧ a ≤ (l.length : Int) - 1
  · rw [if_pos hc, decide_eq_true hc, if_pos rfl, if_pos hc.1, if_pos (by omega)]
  · rw [if_neg hc, decide_eq_false hc]
    rfl
theorem FnExactPut : laws_FnExactPut.Pure := by
  intro m a n _ _ _ _ _
  apply Ev.rounds (g := fun k => laws_FnExactPut.f k m a n)
  unfold laws_FnExactPut.f
  by_cases gm : (m.length : Int) > 1048576
  · exact ev_pos gm (Ev.now _)
  refine ev_neg gm ?_
  have f0_ := laws_toIntS.ev m (by omega)
  have f1_ := laws_eqIntS.ev m (by omega)
  have f2_ := laws_markIntS.ev 1 (by omega) (by omega) m (by omega)
  have f3_ := putP_length m a n
  have f4_ := spec_Put.eq m a n (by omega)
  have f5_ := impl_Put.eq m a n (by omega)
  have f6_ := laws_eqIntS.ev (putP m a n) (by omega)
  have f7_ := laws_markIntS.ev 1 (by omega) (by omega) (putP m a n) (by omega)
  have f8_ := laws_heldIntS.ev 1 (by omega) (by omega) (putP m a n).length (by omega)
  repeat (first
    | exact Ev.now _
    | refine ev_pos rfl ?_
    | (refine ev_neg ?_ ?_; omega)
    | (refine ev_neg ?_ ?_; (focus (simp; done)))
    | refine Ev.bind (by assumption) ?_
    | refine ev_bind_some (by assumption) ?_
    | (refine ev_succ ?_; simp only [laws_FnExactPut.j0])
    | dsimp only)

end Go.Proofs.Ytkejojcjmlnpgaa.Pure
