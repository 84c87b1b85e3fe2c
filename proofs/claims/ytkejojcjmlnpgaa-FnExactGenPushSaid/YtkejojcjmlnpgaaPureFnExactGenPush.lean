/- FnExactGenPush: the plain law: what the printed functions tell answers true at every input. No condition. -/
import Derived.Test.YtkejojcjmlnpgaaQFnExactGenPushx3
import Derived.Test.YtkejojcjmlnpgaaAid
namespace Go.Proofs.Ytkejojcjmlnpgaa.Pure
open Go.RowKit Go.Proofs.Ytkejojcjmlnpgaa.QFnExactGenPush Go.Proofs.YtkejojcjmlnpgaaW.PrintWords Go.Proofs.YtkejojcjmlnpgaaW.PrintLast Go.Proofs.YtkejojcjmlnpgaaW.PrintMore Go.Proofs.Ytkejojcjmlnpgaa.Aid
set_option linter.unusedVariables false
set_option linter.unusedSimpArgs false

theorem impl_from.eq (a b c : Int) : impl_from.f a b c = some (decide (b ≤ a ∧ a ≤ c)) := by
  unfold impl_from.f
  by_cases h : b ≤ a
  · rw [if_pos h]; simp [h]
  · rw [if_neg h]; simp [h]
def gensF (p : List Int) : List Int → Bool
  | [] => true
  | x :: l => decide (1 ≤ x ∧ x ≤ 100000) && (!decide (x ∈ p) && gensF (p ++ [x]) l)
/-- GensOk. -/
def gensP (l : List Int) : Bool := gensF [] l && decide (l.length ≤ 12)
def idxP (a : Int) : List Int → Int → Int
  | [], _ => -1
  | x :: l, i => if a = x then i else idxP a l (i + 1)
theorem idxP_mem (a : Int) : ∀ (l : List Int) (i : Int), 0 ≤ i → (idxP a l i ≥ 0 ↔ a ∈ l)
  | [], i, h => by simp [idxP]
  | x :: l, i, h => by
    unfold idxP
    by_cases e : a = x
    · rw [if_pos e]; simp [e, h]
    · rw [if_neg e, idxP_mem a l (i + 1) (by omega)]; simp [e]
theorem slices_Index_int_int.ev_l (x : List Int) (a : Int) (hn : x.length ≤ 9223372036854775000) : ∀ (d i : Nat), i + d = x.length → Ev (fun k => slices_Index_int_int.l0 k x a (x.length : Int) i) (idxP a (x.drop i) i)
  | 0, i, hd => by
    refine Ev.step (f := fun _ => some (-1)) (fun k => ?_) (ev_eq (Ev.now _) (by rw [List.drop_of_length_le (by omega)]; rfl))
    simp only [slices_Index_int_int.l0]
    rw [if_neg (by omega)]
  | d + 1, i, hd => by
    have hi : i < x.length := by omega
    have e : x.drop i = x[i] :: x.drop (i + 1) := List.drop_eq_getElem_cons hi
    have ih := slices_Index_int_int.ev_l x a hn d (i + 1) (by omega)
    rw [e, idxP]
    by_cases h : a = x[i]
    · refine Ev.step (f := fun _ => some (i : Int)) (fun k => ?_) (ev_eq (Ev.now _) (by rw [if_pos h]))
      simp only [slices_Index_int_int.l0]
      rw [if_pos (by omega), if_pos (by omega), if_pos (by omega), rd_lt x i hi, if_pos h]
    · refine Ev.step (fun k => ?_) (ev_eq ih (by rw [if_neg h]; simp))
      simp only [slices_Index_int_int.l0]
      rw [if_pos (by omega), if_pos (by omega), if_pos (by omega), rd_lt x i hi, if_neg h, w64 (by omega) (by omega)]
      simp
theorem slices_Index_int_int.ev (x : List Int) (a : Int) (hn : x.length ≤ 9223372036854775000) : Ev (fun k => slices_Index_int_int.f k x a) (idxP a x 0) := by
  unfold slices_Index_int_int.f
  exact slices_Index_int_int.ev_l x a hn x.length 0 (by omega)
theorem slices_Contains_int_int.ev (x : List Int) (a : Int) (hn : x.length ≤ 9223372036854775000) : Ev (fun k => slices_Contains_int_int.f k x a) (decide (a ∈ x)) := by
  unfold slices_Contains_int_int.f
  refine Ev.bind (slices_Index_int_int.ev x a hn) (ev_eq (Ev.now _) ?_)
  simp only [idxP_mem a x 0 (by omega)]
theorem impl_GensOk.ev_l (x : List Int) (hn : x.length ≤ 9223372036854775000) : ∀ (d i : Nat), i + d = x.length → Ev (fun k => impl_GensOk.l0 k x x (x.length : Int) i) (gensF (x.take i) (x.drop i) && decide (x.length ≤ 12))
  | 0, i, hd => by
    refine Ev.step (f := fun _ => some (decide (x.length ≤ 12))) (fun k => ?_) (ev_eq (Ev.now _) (by rw [List.drop_of_length_le (by omega)]; simp [gensF]))
    simp only [impl_GensOk.l0]
    rw [if_neg (by omega)]
    congr 1
    exact decide_eq_decide.mpr (by omega)
  | d + 1, i, hd => by
    have hi : i < x.length := by omega
    have e : x.drop i = x[i] :: x.drop (i + 1) := List.drop_eq_getElem_cons hi
    have et : x.take (i + 1) = x.take i ++ [x[i]] := by rw [List.take_succ_eq_append_getElem hi]
    have ih := impl_GensOk.ev_l x hn d (i + 1) (by omega)
    rw [et] at ih
    rw [e, gensF]
    by_cases h1 : 1 ≤ x[i] ∧ x[i] ≤ 100000
    · have hh := slices_Contains_int_int.ev (x.take i) x[i] (by simp; omega)
      by_cases h2 : x[i] ∈ x.take i
      · refine Ev.step (f := fun k => (slices_Contains_int_int.f k (x.take i) x[i]).bind fun t => if t = true then some false else impl_GensOk.l0 k x x (x.length : Int) ((i + 1 : Nat) : Int)) (fun k => ?_) (Ev.bind hh ?_)
        · simp only [impl_GensOk.l0]
          rw [if_pos (by omega), if_pos (by omega), if_pos (by omega), rd_lt x i hi, impl_from.eq, decide_eq_true h1]
          simp only [Option.bind_some, if_true]
          rw [if_pos (by omega), w64 (by omega) (by omega)]
          simp
        · exact ev_pos (by simpa using h2) (ev_eq (Ev.now _) (by simp [h2]))
      · refine Ev.step (f := fun k => (slices_Contains_int_int.f k (x.take i) x[i]).bind fun t => if t = true then some false else impl_GensOk.l0 k x x (x.length : Int) ((i + 1 : Nat) : Int)) (fun k => ?_) (Ev.bind hh ?_)
        · simp only [impl_GensOk.l0]
          rw [if_pos (by omega), if_pos (by omega), if_pos (by omega), rd_lt x i hi, impl_from.eq, decide_eq_true h1]
          simp only [Option.bind_some, if_true]
          rw [if_pos (by omega), w64 (by omega) (by omega)]
          simp
        · exact ev_neg (by simpa using h2) (ev_eq ih (by simp [h1, h2]))
    · refine Ev.step (f := fun _ => some false) (fun k => ?_) (ev_eq (Ev.now _) (by simp [h1]))
      simp only [impl_GensOk.l0]
      rw [if_pos (by omega), if_pos (by omega), if_pos (by omega), rd_lt x i hi, impl_from.eq, decide_eq_false h1]
      rfl
theorem impl_GensOk.ev (x : List Int) (hn : x.length ≤ 9223372036854775000) : Ev (fun k => impl_GensOk.f k x) (gensP x) := by
  unfold impl_GensOk.f
  exact impl_GensOk.ev_l x hn x.length 0 (by omega)
/-- GenPush. -/
def pushP (g : List Int) (n : Int) : List Int := if gensP ((n :: g).take 12) then (n :: g).take 12 else g
theorem pushP_length (g : List Int) (n : Int) : (pushP g n).length ≤ g.length + 1 := by
  unfold pushP
  split
  · simp only [List.length_take, List.length_cons]; omega
  · omega
theorem slices_Clone_int_int.eq (l : List Int) (h : l.length < 17592186044416) : slices_Clone_int_int.f l = some l := by
  unfold slices_Clone_int_int.f
  simp [h]
theorem impl_GenPush.ev (g : List Int) (n : Int) (h : g.length ≤ 17592186044000) : Ev (fun k => impl_GenPush.f k g n) (pushP g n) := by
  unfold impl_GenPush.f pushP
  simp only [Option.bind_some, List.cons_append, List.nil_append, List.length_cons, List.length_nil, Nat.zero_add]
  have hm : ((mn ((g.length + 1 : Nat) : Int) 12) : Int).toNat = min (g.length + 1) 12 := by unfold mn; split <;> omega
  have hm2 : 0 ≤ mn ((g.length + 1 : Nat) : Int) 12 := by unfold mn; split <;> omega
  have hm3 : mn ((g.length + 1 : Nat) : Int) 12 ≤ ((g.length + 1 : Nat) : Int) := by unfold mn; split <;> omega
  have e : (n :: g).take (min (g.length + 1) 12) = (n :: g).take 12 := by
    by_cases hl : g.length + 1 ≤ 12
    · rw [Nat.min_eq_left hl, List.take_of_length_le (by simp), List.take_of_length_le (by simp; omega)]
    · rw [Nat.min_eq_right (by omega)]
  refine ev_pos (by omega) (ev_pos hm2 (ev_pos hm3 ?_))
  rw [hm, e]
  have hg := impl_GensOk.ev ((n :: g).take 12) (by simp only [List.length_take, List.length_cons]; omega)
  refine Ev.bind hg ?_
  by_cases hb : gensP ((n :: g).take 12) = true
  · exact ev_pos hb (ev_eq (Ev.now _) (by rw [if_pos hb]))
  · refine ev_neg hb (ev_bind_some (slices_Clone_int_int.eq g (by omega)) (ev_eq (Ev.now _) (by rw [if_neg hb])))
theorem laws_eqIntS.ev_l (x : List Int) (hn : x.length ≤ 9223372036854775000) : ∀ (d i : Nat), i + d = x.length → Ev (fun k => laws_eqIntS.l0 k x x i) true
  | 0, i, hd => by
    refine Ev.step (f := fun _ => some true) (fun k => ?_) (Ev.now _)
    simp only [laws_eqIntS.l0]
    rw [if_neg (by omega)]
  | d + 1, i, hd => by
    refine Ev.step (fun k => ?_) (laws_eqIntS.ev_l x hn d (i + 1) (by omega))
    simp only [laws_eqIntS.l0]
    rw [if_pos (by omega), if_pos (by omega), if_pos (by omega), w64 (by omega) (by omega)]
    simp
theorem laws_eqIntS.ev (x : List Int) (hn : x.length ≤ 9223372036854775000) : Ev (fun k => laws_eqIntS.f k x x) true := by
  unfold laws_eqIntS.f
  exact ev_pos rfl (laws_eqIntS.ev_l x hn x.length 0 (by omega))
theorem laws_heldIntS.ev_l (a : Int) (ha : 0 ≤ a) (ha1 : a ≤ 4611686018427387904) (n : Nat) (hn : n ≤ 1152921504606846976) : ∀ (d i : Nat), i + d = n → Ev (fun k => laws_heldIntS.l0 k (cnt (fun z => z) a n) (a + i) i) (a + n)
  | 0, i, hd => by
    refine Ev.step (f := fun _ => some (a + n)) (fun k => ?_) (Ev.now _)
    simp only [laws_heldIntS.l0]
    rw [if_neg (by rw [cnt_length]; omega)]
    obtain rfl : i = n := by omega
    rfl
  | d + 1, i, hd => by
    have h := laws_heldIntS.ev_l a ha ha1 n hn d (i + 1) (by omega)
    refine Ev.step (fun k => ?_) h
    simp only [laws_heldIntS.l0]
    rw [if_pos (by rw [cnt_length]; omega), if_pos (by omega), if_pos (by rw [rd_nat, cnt_get _ _ _ _ _ (by omega)]), w64 (x := (i : Int) + 1) (by omega) (by omega), w64 (by omega) (by omega)]
    simp [Int.add_assoc]
theorem laws_heldIntS.ev (a : Int) (ha : 0 ≤ a) (ha1 : a ≤ 4611686018427387904) (n : Nat) (hn : n ≤ 1152921504606846976) : Ev (fun k => laws_heldIntS.f k (cnt (fun z => z) a n) a) (a + n) := by
  unfold laws_heldIntS.f
  have h := laws_heldIntS.ev_l a ha ha1 n hn n 0 (by omega)
  simpa using h
theorem laws_markIntS.ev_l (a : Int) (ha : 0 ≤ a) (ha1 : a ≤ 4611686018427387904) : ∀ (d i : Nat) (y : List Int), i + d = y.length → y.length ≤ 1152921504606846976 → y.take i = cnt (fun z => z) a i → Ev (fun k => laws_markIntS.l0 k y (a + i) i) (a + y.length, cnt (fun z => z) a y.length)
  | 0, i, y, hd, hn, ht => by
    refine Ev.step (f := fun _ => some (a + y.length, cnt (fun z => z) a y.length)) (fun k => ?_) (Ev.now _)
    simp only [laws_markIntS.l0]
    rw [if_neg (by omega)]
    obtain rfl : i = y.length := by omega
    rw [← cnt_all (fun z => z) a y _ rfl ht]
  | d + 1, i, y, hd, hn, ht => by
    have h := laws_markIntS.ev_l a ha ha1 d (i + 1) (y.set i ((fun z => z) (a + i))) (by simp; omega) (by simp; omega) (set_cnt (fun z => z) a y i (by omega) ht)
    rw [List.length_set] at h
    refine Ev.step (fun k => ?_) h
    simp only [laws_markIntS.l0]
    rw [if_pos (by omega), if_pos (by omega), w64 (x := (i : Int) + 1) (by omega) (by omega), w64 (by omega) (by omega)]
    simp [Int.add_assoc]
theorem laws_markIntS.ev (a : Int) (ha : 0 ≤ a) (ha1 : a ≤ 4611686018427387904) (y : List Int) (hn : y.length ≤ 1152921504606846976) : Ev (fun k => laws_markIntS.f k y a) (a + y.length, cnt (fun z => z) a y.length) := by
  unfold laws_markIntS.f
  have h := laws_markIntS.ev_l a ha ha1 y.length 0 y (by omega) hn (by simp [cnt])
  simpa using h
theorem laws_toIntS.ev_l (x : List Int) (hn : x.length ≤ 35184372088832) : ∀ (d i : Nat) (y : List Int), i + d = x.length → y.length = x.length → y.take i = x.take i → Ev (fun k => laws_toIntS.l0 k x y i) x
  | 0, i, y, hd, hy, ht => by
    refine Ev.step (f := fun _ => some x) (fun k => ?_) (Ev.now _)
    simp only [laws_toIntS.l0]
    rw [if_neg (by omega)]
    have hi : i = x.length := by omega
    subst hi
    rw [List.take_of_length_le (by omega), List.take_of_length_le (Nat.le_refl _)] at ht
    rw [ht]
  | d + 1, i, y, hd, hy, ht => by
    refine Ev.step (fun k => ?_) (laws_toIntS.ev_l x hn d (i + 1) (y.set i (x.getD i 0)) (by omega) (by simp [hy]) (set_take 0 x y i (by omega) hy ht))
    simp only [laws_toIntS.l0]
    rw [if_pos (by omega), if_pos (by omega), if_pos (by omega), w64 (by omega) (by omega), rd_nat]
    simp
theorem laws_toIntS.ev (x : List Int) (hn : x.length ≤ 35184372088832) : Ev (fun k => laws_toIntS.f k x) x := by
  unfold laws_toIntS.f
  refine ev_pos (by omega) (ev_pos (by simp; omega) ?_)
  exact laws_toIntS.ev_l x hn x.length 0 _ (by omega) (by simp) (by simp)
theorem spec_l1In.eq (a b c : Int) : spec_l1In.f a b c = some (decide (b ≤ a ∧ a ≤ c)) := by
  unfold spec_l1In.f
  by_cases h : b ≤ a
  · rw [if_pos h]; simp [h]
  · rw [if_neg h]; simp [h]
theorem spec_l2Has.ev_l (x : List Int) (a : Int) (hn : x.length ≤ 9223372036854775000) : ∀ (d i : Nat), i + d = x.length → Ev (fun k => spec_l2Has.l0 k x a i) (decide (a ∈ x.drop i))
  | 0, i, hd => by
    refine Ev.step (f := fun _ => some false) (fun k => ?_) (ev_eq (Ev.now _) (by rw [List.drop_of_length_le (by omega)]; simp))
    simp only [spec_l2Has.l0]
    rw [if_neg (by omega)]
  | d + 1, i, hd => by
    have hi : i < x.length := by omega
    have e : x.drop i = x[i] :: x.drop (i + 1) := List.drop_eq_getElem_cons hi
    have ih := spec_l2Has.ev_l x a hn d (i + 1) (by omega)
    by_cases h : x[i] = a
    · refine Ev.step (f := fun _ => some true) (fun k => ?_) (ev_eq (Ev.now _) (by rw [e]; simp [h]))
      simp only [spec_l2Has.l0]
      rw [if_pos (by omega), if_pos (by omega), rd_lt x i hi, if_pos h]
    · have h' : ¬ a = x[i] := fun q => h q.symm
      refine Ev.step (fun k => ?_) (ev_eq ih (by rw [e]; simp only [List.mem_cons, h', false_or]))
      simp only [spec_l2Has.l0]
      rw [if_pos (by omega), if_pos (by omega), rd_lt x i hi, if_neg h, w64 (by omega) (by omega)]
      simp
theorem spec_l2Has.ev (x : List Int) (a : Int) (hn : x.length ≤ 9223372036854775000) : Ev (fun k => spec_l2Has.f k x a) (decide (a ∈ x)) := by
  unfold spec_l2Has.f
  exact spec_l2Has.ev_l x a hn x.length 0 (by omega)
theorem spec_GensOk.ev_l (x : List Int) (hn : x.length ≤ 9223372036854775000) : ∀ (d i : Nat), i + d = x.length → Ev (fun k => spec_GensOk.l0 k x i) (gensF (x.take i) (x.drop i) && decide (x.length ≤ 12))
  | 0, i, hd => by
    refine Ev.step (f := fun _ => some (decide (x.length ≤ 12))) (fun k => ?_) (ev_eq (Ev.now _) (by rw [List.drop_of_length_le (by omega)]; simp [gensF]))
    simp only [spec_GensOk.l0]
    rw [if_neg (by omega)]
    congr 1
    exact decide_eq_decide.mpr (by omega)
  | d + 1, i, hd => by
    have hi : i < x.length := by omega
    have e : x.drop i = x[i] :: x.drop (i + 1) := List.drop_eq_getElem_cons hi
    have et : x.take (i + 1) = x.take i ++ [x[i]] := by rw [List.take_succ_eq_append_getElem hi]
    have ih := spec_GensOk.ev_l x hn d (i + 1) (by omega)
    rw [et] at ih
    rw [e, gensF]
    by_cases h1 : 1 ≤ x[i] ∧ x[i] ≤ 100000
    · have hh := spec_l2Has.ev (x.take i) x[i] (by simp; omega)
      by_cases h2 : x[i] ∈ x.take i
      · refine Ev.step (f := fun k => (spec_l2Has.f k (x.take i) x[i]).bind fun t => if t = true then some false else spec_GensOk.l0 k x ((i + 1 : Nat) : Int)) (fun k => ?_) (Ev.bind hh ?_)
        · simp only [spec_GensOk.l0]
          rw [if_pos (by omega), if_pos (by omega), rd_lt x i hi, spec_l1In.eq, decide_eq_true h1]
          simp only [Option.bind_some, if_true]
          rw [if_pos (by omega), w64 (by omega) (by omega)]
          simp
        · exact ev_pos (by simpa using h2) (ev_eq (Ev.now _) (by simp [h2]))
      · refine Ev.step (f := fun k => (spec_l2Has.f k (x.take i) x[i]).bind fun t => if t = true then some false else spec_GensOk.l0 k x ((i + 1 : Nat) : Int)) (fun k => ?_) (Ev.bind hh ?_)
        · simp only [spec_GensOk.l0]
          rw [if_pos (by omega), if_pos (by omega), rd_lt x i hi, spec_l1In.eq, decide_eq_true h1]
          simp only [Option.bind_some, if_true]
          rw [if_pos (by omega), w64 (by omega) (by omega)]
          simp
        · exact ev_neg (by simpa using h2) (ev_eq ih (by simp [h1, h2]))
    · refine Ev.step (f := fun _ => some false) (fun k => ?_) (ev_eq (Ev.now _) (by simp [h1]))
      simp only [spec_GensOk.l0]
      rw [if_pos (by omega), if_pos (by omega), rd_lt x i hi, spec_l1In.eq, decide_eq_false h1]
      rfl
theorem spec_GensOk.ev (x : List Int) (hn : x.length ≤ 9223372036854775000) : Ev (fun k => spec_GensOk.f k x) (gensP x) := by
  unfold spec_GensOk.f
  exact spec_GensOk.ev_l x hn x.length 0 (by omega)
theorem spec_GenPush.ev (g : List Int) (n : Int) (h : g.length ≤ 17592186044000) : Ev (fun k => spec_GenPush.f k g n) (pushP g n) := by
  unfold spec_GenPush.f pushP
  simp only [Option.bind_some, List.nil_append, List.length_nil, Nat.zero_add, List.cons_append, List.length_cons, List.length_take]
  refine ev_pos (by omega) ?_
  have hg := spec_GensOk.ev ((n :: g).take 12) (by simp only [List.length_take, List.length_cons]; omega)
  by_cases hl : ((g.length + 1 : Nat) : Int) > 12
  · refine ev_pos hl (ev_pos (by omega) (ev_pos (by omega) (Ev.bind hg ?_)))
    by_cases hb : gensP ((n :: g).take 12) = true
    · exact ev_pos hb (ev_eq (Ev.now _) (by rw [if_pos hb]))
    · exact ev_neg hb (ev_pos (by omega) (ev_eq (Ev.now _) (by rw [if_neg hb])))
  · have e : (n :: g).take 12 = n :: g := List.take_of_length_le (by simp only [List.length_cons]; omega)
    rw [e] at hg ⊢
    refine ev_neg hl (Ev.bind hg ?_)
    by_cases hb : gensP (n :: g) = true
    · exact ev_pos hb (ev_eq (Ev.now _) (by rw [if_pos hb]))
    · exact ev_neg hb (ev_pos (by omega) (ev_eq (Ev.now _) (by rw [if_neg hb])))
theorem FnExactGenPush : laws_FnExactGenPush.Pure := by
  intro m n _ _ _ _
  apply Ev.rounds (g := fun k => laws_FnExactGenPush.f k m n)
  unfold laws_FnExactGenPush.f
  by_cases gm : (m.length : Int) > 1048576
  · exact ev_pos gm (Ev.now _)
  refine ev_neg gm ?_
  have f0_ := laws_toIntS.ev m (by omega)
  have f1_ := laws_eqIntS.ev m (by omega)
  have f2_ := laws_markIntS.ev 1 (by omega) (by omega) m (by omega)
  have f3_ := pushP_length m n
  have f4_ := spec_GenPush.ev m n (by omega)
  have f5_ := impl_GenPush.ev m n (by omega)
  have f6_ := laws_eqIntS.ev (pushP m n) (by omega)
  have f7_ := laws_markIntS.ev 1 (by omega) (by omega) (pushP m n) (by omega)
  have f8_ := laws_heldIntS.ev 1 (by omega) (by omega) (pushP m n).length (by omega)
  repeat (first
    | exact Ev.now _
    | refine ev_pos rfl ?_
    | (refine ev_neg ?_ ?_; omega)
    | (refine ev_neg ?_ ?_; (focus (simp; done)))
    | refine Ev.bind (by assumption) ?_
    | refine ev_bind_some (by assumption) ?_
    | (refine ev_succ ?_; simp only [laws_FnExactGenPush.j0])
    | dsimp only)

end Go.Proofs.Ytkejojcjmlnpgaa.Pure
