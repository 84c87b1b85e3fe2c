/- Plain laws: what the functions come to. No condition. -/
import Derived.Test.YtbhonnfinekpcaaGreatFnExactFallP0
namespace Go.Refl
open Go.RowKit
set_option linter.unusedVariables false
set_option linter.unusedSimpArgs false
theorem heldNode_ok (x : tNode.D) (k : Int) (h : NodeM x) (h0 : 0 ≤ k) (hk : k ≤ 4194304) : laws_heldNode_F (markedN k x, (k, ())) = some ((k7N k x, ()), ((), ((), ()))) := by
  obtain ⟨b1, b2, b3, b4, b5, b6, b7, b8, b9, b10, b11, b12, b13, b14⟩ := kN_bounds h h0 hk
  have a6 := totR_le h.syr
  have a7 : x.2.2.2.2.2.2.2.1.length * 1500000 ≤ 1500000 * 1500000 := Nat.mul_le_mul_right _ h.sy
  have e1 := heldIntS_ok x.2.2.2.1.length k (Nat.le_trans h.im (by omega)) h0 (by omega) (Nat.le_trans h.im (by rw [big47_eq]; omega))
  have e2 := heldMeta_far x.2.2.2.2.1 (k1N k x) h.m b1 (by omega)
  have e3 := heldSlots_ok x.2.2.2.2.2.1 (k2N k x) h.sal h.sbl b3 (by omega)
  have e4 := heldBoolS_ok x.2.2.2.2.2.2.1.length (k3N k x) h.cn b5 (by omega)
  have e5 := heldIntSS_ok x.2.2.2.2.2.2.2.1 (k4N k x) h.sy h.syr b7 (by omega)
  have e6 := heldBoolS_ok x.2.2.2.2.2.2.2.2.1.length (k5N k x) h.cp b9 (by omega)
  have e7 := heldIntS_ok x.2.2.2.2.2.2.2.2.2.1.length (k6N k x) (Nat.le_trans h.wt (by omega)) b11 (by omega) (Nat.le_trans h.wt (by rw [big47_eq]; omega))
  rw [laws_heldNode_main]
  show Option.bind (laws_heldIntS_F (marks id k x.2.2.2.1.length, (k, ()))) _ = _
  rw [e1]
  show brk (decide (k1N k x < 0)) _ _ = _
  rw [brk_nneg b1]
  show Option.bind (laws_heldMeta_F (markedM (k1N k x) x.2.2.2.2.1, (k1N k x, ()))) _ = _
  rw [e2]
  show brk (decide (k2N k x < 0)) _ _ = _
  rw [brk_nneg b3]
  show Option.bind (laws_heldSlots_F (markedS (k2N k x) x.2.2.2.2.2.1, (k2N k x, ()))) _ = _
  rw [e3]
  show brk (decide (k3N k x < 0)) _ _ = _
  rw [brk_nneg b5]
  show Option.bind (laws_heldBoolS_F (markb (k3N k x) x.2.2.2.2.2.2.1.length, (k3N k x, ()))) _ = _
  rw [e4]
  show brk (decide (k4N k x < 0)) _ _ = _
  rw [brk_nneg b7]
  show Option.bind (laws_heldIntSS_F (marksR (k4N k x) x.2.2.2.2.2.2.2.1, (k4N k x, ()))) _ = _
  rw [e5]
  show brk (decide (k5N k x < 0)) _ _ = _
  rw [brk_nneg b9]
  show Option.bind (laws_heldBoolS_F (markb (k5N k x) x.2.2.2.2.2.2.2.2.1.length, (k5N k x, ()))) _ = _
  rw [e6]
  show brk (decide (k6N k x < 0)) _ _ = _
  rw [brk_nneg b11]
  show Option.bind (laws_heldIntS_F (marks id (k6N k x) x.2.2.2.2.2.2.2.2.2.1.length, (k6N k x, ()))) _ = _
  rw [e7]
  show brk (decide (k7N k x < 0)) _ _ = _
  rw [brk_nneg b13]
  rfl
theorem eqNode_selfM (x : tNode.D) (h : NodeM x) : laws_eqNode_F (x, (x, ())) = some ((true, ()), ((), ((), ()))) := by
  have big : ∀ {n : Nat}, n ≤ 1500000 → n ≤ big47 := fun h => Nat.le_trans h (by rw [big47_eq]; omega)
  have e1 := eqIntS_ok x.2.2.2.1 x.2.2.2.1 (big h.im)
  have hM := eqMeta_selfM x.2.2.2.2.1 h.m
  have hS := eqSlots_ok x.2.2.2.2.2.1 x.2.2.2.2.2.1 (Nat.le_trans h.sal (by rw [big47_eq]; omega)) (Nat.le_trans h.sbl (by rw [big47_eq]; omega))
  have e4 := eqBoolS_self x.2.2.2.2.2.2.1 (big h.cn)
  have e5 := eqIntSS_ok x.2.2.2.2.2.2.2.1 x.2.2.2.2.2.2.2.1 (big h.sy) (fun r hr => big (h.syr r hr))
  have e6 := eqBoolS_self x.2.2.2.2.2.2.2.2.1 (big h.cp)
  have e7 := eqIntS_ok x.2.2.2.2.2.2.2.2.2.1 x.2.2.2.2.2.2.2.2.2.1 (big h.wt)
  clear h big
  obtain ⟨id, up, pr, im, ⟨g, l, f, o, hh, a, u⟩, ⟨sa, sb, u'⟩, conn, sync, cop, wt, u''⟩ := x
  cases u
  cases u'
  cases u''
  simp only at e1 hM hS e4 e5 e6 e7
  rw [laws_eqNode_main]
  simp only [decide_true, beq_self_eq_true, Bool.not_true, brk_false]
  rw [e1]
  simp only [Option.bind_some, decide_true, Bool.not_true, brk_false]
  rw [hM]
  simp only [Option.bind_some, decide_true, Bool.not_true, brk_false]
  rw [hS]
  simp only [Option.bind_some, decide_true, and_self, Bool.not_true, brk_false]
  rw [e4]
  simp only [Option.bind_some, decide_true, Bool.not_true, brk_false]
  rw [e5]
  simp only [Option.bind_some, decide_true, Bool.not_true, brk_false]
  rw [e6]
  simp only [Option.bind_some, decide_true, Bool.not_true, brk_false]
  rw [e7]
  simp only [Option.bind_some, decide_true, Bool.not_true, brk_false]
theorem rows_next {l : List (List Int)} {i : Nat} (hi : i < l.length) : l.take i ++ [l.getD i []] = l.take (i + 1) := by
  rw [List.take_succ_eq_append_getElem hi]
  simp [List.getD_eq_getElem?_getD, List.getElem?_eq_getElem hi]
theorem row_le15 {l : List (List Int)} (h : ∀ r ∈ l, r.length ≤ 1500000) {i : Nat} (hi : i < l.length) : (l.getD i []).length ≤ 1500000 := by
  rw [List.getD_eq_getElem?_getD, List.getElem?_eq_getElem hi]
  exact h _ (List.getElem_mem hi)
theorem impl_copyLists_ok (l : List (List Int)) (hl : l.length ≤ 1500000) (hr : ∀ r ∈ l, r.length ≤ 1500000) : impl_copyLists_F (l, ()) = some ((l, ()), ((), ())) := by
  rw [impl_copyLists_main]
  obtain ⟨n, v, h, rfl⟩ := for_loop (σ := List (List Int)) (G := fun n i s => iterG impl_copyLists_t0 impl_copyLists_B0 (impl_copyLists_K0 l) n ((l, ((l.length : Int), ((i : Int), ()))), (s, ()))) l.length (fun i s => s = l.take i) (· = some ((l, ()), ((), ())))
    (fun i s hi hI => .inr ⟨_, (rows_next hi), fun n => by
      subst hI
      dsimp only
      rw [impl_copyLists_r0, brk_lt hi, ck_idx hi, rdD_nat, show tIs.zero = [] from rfl, slices_Clone_int_ok _ (Nat.le_trans (row_le15 hr hi) (by omega))]
      simp only [Option.bind_some]
      rw [ck_pos (decide_eq_true (by rw [big47_eq]; simp only [List.length_take, List.length_cons, List.length_nil]; omega)), step_nat i (by omega)]⟩)
    (fun s hI => ⟨_, rfl, fun n => by
      subst hI
      dsimp only
      rw [impl_copyLists_r0, brk_nlt (by omega), impl_copyLists_e0_0, List.take_length]⟩) [] (by simp)
  exact impl_copyLists_l0 n h ⟨_, rfl⟩
theorem impl_copyMeta_ok (m : tMeta.D) (h : SzM m) : impl_copyMeta_F (m, ()) = some ((m, ()), ((), ())) := by
  rw [impl_copyMeta_main, slices_Clone_int_ok _ (Nat.le_trans h.1 (by omega))]
  simp only [Option.bind_some]
  rw [impl_copyLists_ok _ h.2.1 h.2.2]
  rfl
theorem spec_l5Copy_ok (m : tMeta.D) (h : SzM m) : spec_l5Copy_F (m, ()) = some ((m, ()), ((), ())) := by
  obtain ⟨h1, h2, h3⟩ := h
  obtain ⟨g, l, f, o, hh, a, u⟩ := m
  cases u
  simp only at h1 h2 h3
  rw [spec_l5Copy_main, ck_pos (decide_eq_true (by rw [big47_eq]; simp only [List.length_nil]; omega)), List.nil_append]
  obtain ⟨n, v, h, rfl⟩ := for_loop (σ := List (List Int)) (G := fun n i s => iterG spec_l5Copy_t0 spec_l5Copy_B0 (spec_l5Copy_K0 (g, (l, (f, (o, (hh, (a, ()))))))) n (((i : Int), ()), ((g, (l, (f, (o, (hh, (a, ())))))), ((false, (false, (false, ((0 : Int), ())))), ((f, (o, (hh, (a, ())))), (g, (s, ()))))))) l.length (fun i s => s = l.take i) (· = some (((g, (l, (f, (o, (hh, (a, ())))))), ()), ((), ())))
    (fun i s hi hI => .inr ⟨_, (rows_next hi), fun n => by
      subst hI
      have hw := row_le15 h3 hi
      dsimp only
      rw [spec_l5Copy_r0, brk_lt hi, ck_idx hi, rdD_nat, show tIs.zero = [] from rfl]
      rw [ck_pos (decide_eq_true (by rw [big47_eq]; simp only [List.length_nil]; omega)), ck_pos (decide_eq_true (by rw [big47_eq]; simp only [List.length_take, List.length_cons, List.length_nil]; omega)), step_nat i (by omega), List.nil_append]⟩)
    (fun s hI => ⟨_, rfl, fun n => by
      subst hI
      dsimp only
      rw [spec_l5Copy_r0, brk_nlt (by omega), spec_l5Copy_e0_0, List.take_length]⟩) [] (by simp)
  exact spec_l5Copy_l0 n h ⟨_, rfl⟩
theorem slices_Clone_bool_ok (xs : List Bool) (hb : xs.length ≤ 1500000) : slices_Clone_bool_F (xs, ()) = some ((xs, ()), ((), ())) := by
  rw [slices_Clone_bool_main, ck_pos (decide_eq_true (by rw [big47_eq]; simp only [List.length_nil]; omega)), List.nil_append]
  by_cases h : xs.length = 0
  · obtain rfl := List.length_eq_zero_iff.1 h
    rw [brk_pos (decide_eq_true h), both_same rfl]
  · rw [brk_neg (decide_eq_false h)]
theorem impl_copyNode_ok (x : tNode.D) (h : NodeM x) : impl_copyNode_F (x, ()) = some ((x, ()), ((), ())) := by
  have e1 := slices_Clone_int_ok x.2.2.2.1 (Nat.le_trans h.im (by omega))
  have e2 := impl_copyMeta_ok x.2.2.2.2.1 h.m
  have e3 := impl_copySlots_ok x.2.2.2.2.2.1 (Nat.le_trans h.sal (by rw [big47_eq]; omega)) (Nat.le_trans h.sbl (by rw [big47_eq]; omega))
  have e4 := slices_Clone_bool_ok x.2.2.2.2.2.2.1 h.cn
  have e5 := impl_copyLists_ok x.2.2.2.2.2.2.2.1 h.sy h.syr
  have e6 := slices_Clone_bool_ok x.2.2.2.2.2.2.2.2.1 h.cp
  have e7 := slices_Clone_int_ok x.2.2.2.2.2.2.2.2.2.1 (Nat.le_trans h.wt (by omega))
  clear h
  obtain ⟨id, up, pr, im, ⟨g, l, f, o, hh, a, u⟩, ⟨sa, sb, u'⟩, conn, sync, cop, wt, u''⟩ := x
  cases u
  cases u'
  cases u''
  simp only at e1 e2 e3 e4 e5 e6 e7
  rw [impl_copyNode_main]
  try simp only
  rw [e1]
  simp only [Option.bind_some]
  rw [e2]
  simp only [Option.bind_some]
  rw [e3]
  simp only [Option.bind_some]
  rw [e4]
  simp only [Option.bind_some]
  rw [e5]
  simp only [Option.bind_some]
  rw [e6]
  simp only [Option.bind_some]
  rw [e7]
  simp only [Option.bind_some]
theorem spec_l8Copy_ok (x : tNode.D) (h : NodeM x) : spec_l8Copy_F (x, ()) = some ((x, ()), ((), ())) := by
  have e2 := spec_l5Copy_ok x.2.2.2.2.1 h.m
  have e3 := spec_l6Copy_ok x.2.2.2.2.2.1 (Nat.le_trans h.sal (by rw [big47_eq]; omega)) (Nat.le_trans h.sbl (by rw [big47_eq]; omega))
  obtain ⟨h1, h2, h3, h4, h5, h6, h7, h8, h9⟩ := h
  obtain ⟨id, up, pr, im, ⟨g, l, f, o, hh, a, u⟩, ⟨sa, sb, u'⟩, conn, sync, cop, wt, u''⟩ := x
  cases u
  cases u'
  cases u''
  simp only at h1 h2 h3 h4 h5 h6 h7 h8 h9 e2 e3
  rw [spec_l8Copy_main]
  try simp only
  rw [ck_pos (decide_eq_true (by rw [big47_eq]; simp only [List.length_nil]; omega)), e2]
  simp only [Option.bind_some]
  rw [e3]
  simp only [Option.bind_some]
  rw [ck_pos (decide_eq_true (by rw [big47_eq]; simp only [List.length_nil]; omega)), ck_pos (decide_eq_true (by rw [big47_eq]; simp only [List.length_nil]; omega)), ck_pos (decide_eq_true (by rw [big47_eq]; simp only [List.length_nil]; omega))]
  simp only [List.nil_append]
  obtain ⟨n, v, h, rfl⟩ := for_loop (σ := List (List Int)) (G := fun n i s => iterG spec_l8Copy_t0 spec_l8Copy_B0 (spec_l8Copy_K0 (id, (up, (pr, (im, ((g, (l, (f, (o, (hh, (a, ())))))), ((sa, (sb, ())), (conn, (sync, (cop, (wt, ()))))))))))) n (((i : Int), ()), ((id, (up, (pr, (im, (g, (l, (f, (o, (hh, (a, (sa, (sb, (conn, (sync, (cop, (wt, ())))))))))))))))), (((0 : Int), (false, (false, (false, (false, (false, ((0 : Int), ()))))))), ((id, (up, (pr, (f, (o, (hh, (a, ()))))))), (im, (g, (l, (sa, (sb, (conn, (cop, (wt, (s, ())))))))))))))) sync.length (fun i s => s = sync.take i) (· = some (((id, (up, (pr, (im, ((g, (l, (f, (o, (hh, (a, ())))))), ((sa, (sb, ())), (conn, (sync, (cop, (wt, ())))))))))), ()), ((), ())))
    (fun i s hi hI => .inr ⟨_, (rows_next hi), fun n => by
      subst hI
      have hw := row_le15 h7 hi
      dsimp only
      rw [spec_l8Copy_r0, brk_lt hi, ck_idx hi, rdD_nat, show tIs.zero = [] from rfl]
      rw [ck_pos (decide_eq_true (by rw [big47_eq]; simp only [List.length_nil]; omega)), ck_pos (decide_eq_true (by rw [big47_eq]; simp only [List.length_take, List.length_cons, List.length_nil]; omega)), step_nat i (by omega), List.nil_append]⟩)
    (fun s hI => ⟨_, rfl, fun n => by
      subst hI
      dsimp only
      rw [spec_l8Copy_r0, brk_nlt (by omega), spec_l8Copy_e0_0, List.take_length]⟩) [] (by simp)
  exact spec_l8Copy_l0 n h ⟨_, rfl⟩
theorem NodeM.big {x : tNode.D} (h : NodeM x) (ha : Byte x.2.2.2.2.2.1.1) (hb : Byte x.2.2.2.2.2.1.2.1) : NodeBig x := by
  have big : ∀ {n : Nat}, n ≤ 1500000 → n ≤ big47 := fun h => Nat.le_trans h (by rw [big47_eq]; omega)
  exact ⟨big h.im, big h.m.1, big h.m.2.1, fun r hr => big (h.m.2.2 r hr), ha, hb, Nat.le_trans h.sal (by rw [big47_eq]; omega), Nat.le_trans h.sbl (by rw [big47_eq]; omega), big h.cn, big h.sy, fun r hr => big (h.syr r hr), big h.cp, big h.wt⟩
noncomputable def fallP (x : tNode.D) : tNode.D := if nodeOkB x = true then (x.1, (false, (false, (x.2.2.2.1, (x.2.2.2.2.1, (x.2.2.2.2.2.1, (List.replicate 3 false, (List.replicate 3 ([] : List Int), (List.replicate 3 false, (([] : List Int), ())))))))))) else x
theorem fallP_sz {x : tNode.D} (h : NodeM x) : NodeM (fallP x) := by
  unfold fallP
  split
  · refine ⟨h.im, h.m, h.sal, h.sbl, by simp, by simp, fun r hr => ?_, by simp, by simp⟩
    simp only [List.mem_replicate] at hr
    rw [hr.2]; simp
  · exact h
theorem c3b : (decide (0 ≤ (3 : Int)) && decide ((3 : Int) = (3 : Int)) && decide ((3 : Int) * (1 : Int) ≤ 140737488355328) && decide ((3 : Int) ≤ 140737488355328)) = true := by decide
theorem c3s : (decide (0 ≤ (3 : Int)) && decide ((3 : Int) = (3 : Int)) && decide ((3 : Int) * (24 : Int) ≤ 140737488355328) && decide ((3 : Int) ≤ 140737488355328)) = true := by decide
theorem impl_Fall_ok (x : tNode.D) (h : NodeM x) (ha : Byte x.2.2.2.2.2.1.1) (hb : Byte x.2.2.2.2.2.1.2.1) : impl_Fall_F (x, ()) = some ((fallP x, ()), ((), ())) := by
  have e1 := impl_copyNode_ok x h
  have e2 := impl_NodeOk_ok x (h.big ha hb)
  unfold fallP
  generalize nodeOkB x = ok at *
  clear h ha hb
  obtain ⟨id, up, pr, im, ⟨g, l, f, o, hh, a, u⟩, ⟨sa, sb, u'⟩, conn, sync, cop, wt, u''⟩ := x
  cases u
  cases u'
  cases u''
  try simp only at e1 e2
  rw [impl_Fall_main, c3b, c3s]
  simp only [ck_true]
  try simp only
  rw [e1]
  simp only [Option.bind_some]
  rw [e2]
  simp only [Option.bind_some]
  cases ok <;> rfl
theorem spec_l8Down_ok (x : tNode.D) : spec_l8Down_F (x, ()) = some (((x.1, (false, (false, (x.2.2.2.1, (x.2.2.2.2.1, (x.2.2.2.2.2.1, (List.replicate 3 false, (List.replicate 3 ([] : List Int), (List.replicate 3 false, (([] : List Int), ())))))))))), ()), ((), ())) := by
  rw [spec_l8Down_main, c3b, c3s]
  simp only [ck_true]
  rfl
theorem spec_Fall_ok (x : tNode.D) (h : NodeM x) (ha : Byte x.2.2.2.2.2.1.1) (hb : Byte x.2.2.2.2.2.1.2.1) : spec_Fall_F (x, ()) = some ((fallP x, ()), ((), ())) := by
  have e1 := spec_l8Copy_ok x h
  have e2 := spec_NodeOk_ok x (h.big ha hb)
  have e3 := spec_l8Down_ok x
  unfold fallP
  generalize nodeOkB x = ok at *
  clear h ha hb
  obtain ⟨id, up, pr, im, ⟨g, l, f, o, hh, a, u⟩, ⟨sa, sb, u'⟩, conn, sync, cop, wt, u''⟩ := x
  cases u
  cases u'
  cases u''
  try simp only at e1 e2 e3
  rw [spec_Fall_main]
  try simp only
  rw [e2]
  simp only [Option.bind_some]
  rw [e1]
  simp only [Option.bind_some]
  rw [e3]
  cases ok <;> rfl
theorem node_bytes {x : tNode.D} (h : Ok tNode x) : Byte x.2.2.2.2.2.1.1 ∧ Byte x.2.2.2.2.2.1.2.1 := ⟨(nodeBig_of x h).sa, (nodeBig_of x h).sb⟩
/-- What is marked keeps what is no list. -/
theorem markedN_eq (p : tNode.D) (k : Int) : markedN k p = (p.1, (p.2.1, (p.2.2.1, ((markedN k p).2.2.2.1, (((markedN k p).2.2.2.2.1.1, ((markedN k p).2.2.2.2.1.2.1, p.2.2.2.2.1.2.2)), ((markedN k p).2.2.2.2.2.1, (markedN k p).2.2.2.2.2.2)))))) := rfl
theorem laws_FnExactFall_pure (x : tNode.D) (hX : Ok tNode x) : laws_FnExactFall_F (x, ()) = some ((true, ()), ((), ())) := by
  obtain ⟨r, hz, hr, hsz⟩ := szNode_ok x 1048576 hX (by omega) (by omega)
  obtain ⟨ba, bb⟩ := node_bytes hX
  rw [laws_FnExactFall_main]
  by_cases hn : r < 0
  · clear hX hsz ba bb
    obtain ⟨id, up, pr, im, ⟨g, l, f, o, hh, a, u⟩, ⟨sa, sb, u'⟩, conn, sync, cop, wt, u''⟩ := x
    cases u
    cases u'
    cases u''
    simp only
    rw [hz]
    simp only [Option.bind_some]
    rw [brk_pos (decide_eq_true hn)]
  have hs := hsz (by omega)
  have t1 := toNode_ok x hs
  have t2 := spec_Fall_ok x hs.nodeM ba bb
  have t3 := impl_Fall_ok x hs.nodeM ba bb
  have hp := fallP_sz hs.nodeM
  generalize fallP x = p at *
  have t4 := eqNode_selfM p hp
  have t5 := eqNode_selfM x hs.nodeM
  have t6 := markNode_ok x 1 hs.nodeM (by omega) (by omega)
  have t7 := markNode_ok p 1 hp (by omega) (by omega)
  have t8 := heldNode_ok p 1 hp (by omega) (by omega)
  have b13 := (kN_bounds (k := 1) hp (by omega) (by omega)).2.2.2.2.2.2.2.2.2.2.2.2.1
  have c13 := (kN_bounds (k := 1) hs.nodeM (by omega) (by omega)).2.2.2.2.2.2.2.2.2.2.2.2.1
  generalize hk : k7N 1 p = kk at t7 t8 b13
  generalize hk' : k7N 1 x = kx at t6 c13
  have hq := markedN_eq p 1
  generalize markedN 1 p = q at t7 t8 hq
  generalize markedN 1 x = qx at t6
  clear hk hk' hp hs hsz hX ba bb
  obtain ⟨id, up, pr, im, ⟨g, l, f, o, hh, a, u⟩, ⟨sa, sb, u'⟩, conn, sync, cop, wt, u''⟩ := x
  cases u
  cases u'
  cases u''
  obtain ⟨i1, up1, pr1, im1, ⟨g1, l1, f1, o1, hh1, a1, u⟩, ⟨sa1, sb1, u'⟩, conn1, sync1, cop1, wt1, u''⟩ := p
  cases u
  cases u'
  cases u''
  obtain ⟨j1, jup, jpr, jim, ⟨jg, jl, jf, jo, jhh, ja, ju⟩, ⟨jsa, jsb, ju'⟩, jconn, jsync, jcop, jwt, ju''⟩ := q
  cases ju
  cases ju'
  cases ju''
  simp only [Prod.mk.injEq, and_true, true_and] at hq
  obtain ⟨rfl, rfl, rfl, rfl, rfl, rfl, rfl⟩ := hq
  try simp only
  rw [hz]
  simp only [Option.bind_some]
  rw [brk_neg (decide_eq_false hn), t1]
  simp only [Option.bind_some]
  rw [t2]
  simp only [Option.bind_some]
  rw [t3]
  simp only [Option.bind_some]
  rw [t4]
  simp only [Option.bind_some, Bool.not_true, brk_false]
  rw [t5]
  simp only [Option.bind_some, Bool.not_true, brk_false]
  rw [t6]
  simp only [Option.bind_some]
  rw [brk_nneg c13, t7]
  simp only [Option.bind_some]
  rw [t8]
  simp only [Option.bind_some]
  rw [brk_nneg b13]
  simp only [decide_true, Bool.not_true, brk_false]
  rw [brk_nneg b13]
end Go.Refl
