/- Plain laws: what the functions come to. No condition. -/
import Derived.Test.YtbhonnfinekpcaaGreatFnExactKeepP0
namespace Go.Refl
open Go.RowKit
set_option linter.unusedVariables false
set_option linter.unusedSimpArgs false
theorem impl_Tear_ok (s : tSlots.D) (m : tMeta.D) (n : Int) (ha : Byte s.1) (hb : Byte s.2.1) (h1 : s.1.length ≤ 4194304) (h2 : s.2.1.length ≤ 4194304) (hm : SzM m) : impl_Tear_F (s, (m, (n, ()))) = some ((tearP s m n, ()), ((), ((), ((), ())))) := by
  have e1 := impl_copySlots_ok s (by rw [big47_eq]; omega) (by rw [big47_eq]; omega)
  have e2 := impl_latest_ok s ha hb
  have hw := latest_which s
  have hn := latest_n s
  have e4 := impl_MetaOk_ok m.1 m.2.1 m.2.2.1 m.2.2.2.1 m.2.2.2.2.1 m.2.2.2.2.2.1 hm.big.1 hm.big.2.1 hm.big.2.2
  have e5 := impl_slotBytes_ok m ((latestP s).2.1 + 1) hm (metaB_small m)
  have hl := slotB_len m ((latestP s).2.1 + 1)
  have hk := cutK_le n
  unfold tearP metaOkM
  generalize (latestP s).1 = gm at *
  generalize (latestP s).2.2 = gf at *
  generalize (latestP s).2.1 = q at *
  generalize whichP s = w at *
  generalize slotB m (q + 1) = sb at *
  obtain ⟨A, B, u⟩ := s
  cases u
  obtain ⟨g, l, f, o, h, a, u⟩ := m
  cases u
  simp only at *
  have hA : (A : List Int).length ≤ 4194304 := h1
  have hB : (B : List Int).length ≤ 4194304 := h2
  rw [impl_Tear_main]
  simp only
  rw [e1]
  simp only [Option.bind_some]
  rw [e2]
  simp only [Option.bind_some]
  rw [e4]
  simp only [Option.bind_some]
  cases metaOkB g l o h a with
  | false => rw [Bool.not_false, brk_true, if_neg (fun h => by simp at h)]
  | true =>
    rw [Bool.not_true, brk_false]
    by_cases hn2 : q < 1000000
    · have hq : ¬ ((q : Int) = 1000000) := by omega
      rw [brk_neg (decide_eq_false hq), if_pos ⟨rfl, hn2⟩, wrap64 (x := q + 1) (by omega) (by omega), e5, cutK_impl]
      simp only [Option.bind_some]
      generalize cutK n = K at *
      have side : ∀ X : List Int, X.length ≤ 4194304 → minN (K : Int) (X.length : Int) = ((min K X.length : Nat) : Int) := fun X _ => by unfold minN; split <;> omega
      have torn : ∀ X : List Int, X.length ≤ 4194304 → ([(sb.take ((K : Int)).toNat).drop (0 : Int).toNat, (X.take (X.length : Int).toNat).drop ((min K X.length : Nat) : Int).toNat] : List (List Int)) = [sb.take K, X.drop K] := fun X _ => by
        rw [Int.toNat_natCast, Int.toNat_natCast, Int.toNat_natCast, List.take_length, show (0 : Int).toNat = 0 from rfl, List.drop_zero]
        congr 2
        by_cases hx : K ≤ X.length
        · rw [Nat.min_eq_left hx]
        · rw [Nat.min_eq_right (by omega), List.drop_length, List.drop_of_length_le (by omega)]
      have cat : ∀ X : List Int, X.length ≤ 4194304 → slices_Concat_byte_F ([sb.take K, X.drop K], ()) = some ((tornB X sb K, ()), ((), ())) := fun X hX => slices_Concat_byte_ok _ _ (by rw [List.length_take]; omega) (by rw [List.length_drop]; omega)
      cases gf with
      | true =>
        rw [brk_true, if_pos (hw.1 rfl), side B hB, ck_pos (by simp; omega), ck_pos (by simp; omega), torn B hB, cat B hB]
        rfl
      | false =>
        rw [brk_false, if_neg (fun h => by have := hw.2 h; cases this), side A hA, ck_pos (by simp; omega), ck_pos (by simp; omega), torn A hA, cat A hA]
        rfl
    · have hq : (q : Int) = 1000000 := by omega
      rw [brk_pos (decide_eq_true hq), if_neg (fun h => hn2 h.2)]
theorem impl_SlotPut_ok (s : tSlots.D) (m : tMeta.D) (ha : Byte s.1) (hb : Byte s.2.1) (h1 : s.1.length ≤ 4194304) (h2 : s.2.1.length ≤ 4194304) (hm : SzM m) : impl_SlotPut_F (s, (m, ())) = some ((slotPutP s m, ()), ((), ((), ()))) := by
  have e1 := impl_Tear_ok s m 160 ha hb h1 h2 hm
  have e2 := impl_latest_ok s ha hb
  have hw := latest_which s
  have hn := latest_n s
  have e4 := impl_MetaOk_ok m.1 m.2.1 m.2.2.1 m.2.2.2.1 m.2.2.2.2.1 m.2.2.2.2.2.1 hm.big.1 hm.big.2.1 hm.big.2.2
  have hl := slotB_len m ((latestP s).2.1 + 1)
  unfold tearP metaOkM at e1
  unfold slotPutP metaOkM
  rw [show cutK 160 = 160 from rfl] at e1
  generalize (latestP s).1 = gm at *
  generalize (latestP s).2.2 = gf at *
  generalize (latestP s).2.1 = q at *
  generalize whichP s = w at *
  generalize slotB m (q + 1) = sb at *
  obtain ⟨A, B, u⟩ := s
  cases u
  obtain ⟨g, l, f, o, h, a, u⟩ := m
  cases u
  simp only at *
  have tk : ∀ X : List Int, (tornB X sb 160).take (160 : Int).toNat = sb ∧ 160 ≤ (tornB X sb 160).length := fun X => by
    have e : tornB X sb 160 = sb ++ X.drop 160 := by unfold tornB; rw [List.take_of_length_le (by omega)]
    rw [e]
    exact ⟨by rw [show (160 : Int).toNat = 160 from rfl, List.take_left' hl], by rw [List.length_append]; omega⟩
  rw [impl_SlotPut_main]
  simp only
  rw [e2]
  simp only [Option.bind_some]
  rw [e1]
  simp only [Option.bind_some]
  rw [e4]
  simp only [Option.bind_some]
  cases metaOkB g l o h a with
  | false => rw [Bool.not_false, brk_true, if_neg (fun h => by simp at h), if_neg (fun h => by simp at h)]
  | true =>
    rw [Bool.not_true, brk_false]
    by_cases hn2 : q < 1000000
    · have hq : ¬ ((q : Int) = 1000000) := by omega
      have hc : (true = true ∧ q < 1000000) := ⟨rfl, hn2⟩
      rw [brk_neg (decide_eq_false hq)]
      simp only [hn2, and_self, if_true]
      cases gf with
      | true =>
        have hw0 := hw.1 rfl
        rw [brk_true]
        simp only [if_pos hw0]
        rw [(tk B).1, ck_pos (by have := (tk B).2; simp; omega)]
      | false =>
        have hw0 : ¬ w = 0 := fun h => by have := hw.2 h; cases this
        rw [brk_false]
        simp only [if_neg hw0]
        rw [(tk A).1, ck_pos (by have := (tk A).2; simp; omega)]
    · have hq : (q : Int) = 1000000 := by omega
      rw [brk_pos (decide_eq_true hq), if_neg (fun h => hn2 h.2), if_neg (fun h => hn2 h.2)]
theorem heldSlots_ok (s : tSlots.D) (k : Int) (h1 : s.1.length ≤ 1048576) (h2 : s.2.1.length ≤ 1048576) (h0 : 0 ≤ k) (hk : k ≤ 562949953421312) : laws_heldSlots_F (markedS k s, (k, ())) = some ((k + s.1.length + s.2.1.length, ()), ((), ((), ()))) := by
  unfold markedS
  rw [laws_heldSlots_main]
  simp only
  rw [heldByteS_ok _ _ (by omega) h0 (by omega) (by rw [big47_eq]; omega)]
  simp only [Option.bind_some]
  rw [brk_nneg (by omega), heldByteS_ok _ _ (by omega) (by omega) (by omega) (by rw [big47_eq]; omega)]
  simp only [Option.bind_some]
  rw [brk_nneg (by omega)]
theorem slotPutP_len {s : tSlots.D} {m : tMeta.D} (h1 : s.1.length ≤ 1048576) (h2 : s.2.1.length ≤ 1048576) : (slotPutP s m).1.length ≤ 1048576 ∧ (slotPutP s m).2.1.length ≤ 1048576 := by
  have hl := slotB_len m ((latestP s).2.1 + 1)
  unfold slotPutP
  split
  · split
    · exact ⟨h1, by simp only; omega⟩
    · exact ⟨by simp only; omega, h2⟩
  · exact ⟨h1, h2⟩
/-- Whether they are thirds, from k on. -/
def markb (k : Int) : Nat → List Bool
  | 0 => []
  | n + 1 => decide (k.tmod (3 : Int) = 0) :: markb (k + 1) n
theorem markb_len : ∀ (n : Nat) (k : Int), (markb k n).length = n
  | 0, _ => rfl
  | n + 1, k => by simp [markb, markb_len n]
theorem markb_getD : ∀ (n : Nat) (k : Int) (i : Nat), i < n → (markb k n).getD i false = decide ((k + i).tmod (3 : Int) = 0)
  | 0, _, i, h => by omega
  | n + 1, k, 0, h => by simp [markb]
  | n + 1, k, i + 1, h => by
    rw [markb, List.getD_cons_succ, markb_getD n (k + 1) i (by omega)]
    rw [show k + 1 + (i : Int) = k + ((i + 1 : Nat) : Int) by omega]
theorem markBoolS_loop {R : Type} (K : Ex → AS → Option R) : ∀ (n i : Nat) (k : Int) (xs : List Bool), i + n = xs.length → xs.length ≤ big47 → 0 ≤ k → k + n ≤ 4611686018427387904 →
    iterG laws_markBoolS_t0 laws_markBoolS_B0 K (n + 1) ((k, ((i : Int), ())), (xs, ())) = K (.exit 0) (laws_markBoolS_x0_0 (k + n) (xs.take i ++ markb k n))
  | 0, i, k, xs, h, hb, h0, hk => by
    rw [laws_markBoolS_r0, brk_neg (by simp; omega)]
    rw [List.take_of_length_le (by omega)]
    simp [markb]
  | n + 1, i, k, xs, h, hb, h0, hk => by
    have hi : i < xs.length := by omega
    rw [laws_markBoolS_r0, brk_pos (by simp; omega), ck_pos (by simp; omega)]
    rw [wrap64 (by omega) (by omega), wrap64 (by omega) (by simp only [big47] at hb; omega)]
    rw [show ((i : Int) + 1) = ((i + 1 : Nat) : Int) by simp]
    rw [markBoolS_loop K n (i + 1) (k + 1) _ (by simp; omega) (by simpa using hb) (by omega) (by omega)]
    rw [show ((i : Int)).toNat = i by simp, drop_set_next hi, show k + 1 + (n : Int) = k + ((n + 1 : Nat) : Int) by omega]
    simp [markb]
theorem markBoolS_ok (xs : List Bool) (k : Int) (hbb : xs.length ≤ 1500000) (h0 : 0 ≤ k) (hk : k ≤ 1125899906842624) : laws_markBoolS_F (xs, (k, ())) = some ((k + xs.length, ()), (markb k xs.length, ((), ()))) := by
  rw [laws_markBoolS_main]
  have h : iterG laws_markBoolS_t0 laws_markBoolS_B0 (laws_markBoolS_K0 xs k) (xs.length + 1) ((k, ((0 : Int), ())), (xs, ())) = _ := markBoolS_loop (laws_markBoolS_K0 xs k) xs.length 0 k xs (by omega) (by rw [big47_eq]; omega) h0 (by omega)
  rw [laws_markBoolS_l0 _ h ⟨_, laws_markBoolS_e0_0 _ _ _ _⟩, laws_markBoolS_e0_0]
  simp
theorem heldBoolS_ok (n : Nat) (k : Int) (hb : n ≤ 1500000) (h0 : 0 ≤ k) (hk : k ≤ 1125899906842624) : laws_heldBoolS_F (markb k n, (k, ())) = some ((k + n, ()), ((), ((), ()))) := by
  rw [laws_heldBoolS_main]
  have hl := markb_len n k
  obtain ⟨m, v, hh, rfl⟩ := for_loop (σ := Unit) (G := fun m i _ => iterG laws_heldBoolS_t0 laws_heldBoolS_B0 (laws_heldBoolS_K0 (markb k n) k) m ((markb k n, (k + i, ((i : Int), ()))), ())) n (fun i _ => True) (· = some ((k + n, ()), ((), ((), ()))))
    (fun i _ hi _ => .inr ⟨(), trivial, fun m => by
      dsimp only
      rw [laws_heldBoolS_r0, hl, brk_lt hi, ck_idx hi, rdD_nat, show tB.zero = false from rfl, markb_getD n k i hi, brk_neg (by simp), step_nat i (by omega), wrap64 (by omega) (by omega)]
      rw [show k + (i : Int) + 1 = k + ((i + 1 : Nat) : Int) by omega]⟩)
    (fun _ _ => ⟨_, rfl, fun m => by
      dsimp only
      rw [laws_heldBoolS_r0, hl, brk_nlt (by omega), laws_heldBoolS_e0_1]⟩) () trivial
  rw [show k + ((0 : Nat) : Int) = k by simp] at hh
  exact laws_heldBoolS_l0 m hh ⟨_, rfl⟩
/-- The same, from further on. -/
theorem markMeta_far (x : tMeta.D) (k : Int) (h : SzM x) (h0 : 0 ≤ k) (hk : k ≤ 562949953421312) : laws_markMeta_F (x, (k, ())) = some ((k + x.1.length + totR x.2.1, ()), (markedM k x, ((), ()))) := by
  have ht := h.tot
  have h1 := h.1
  rw [laws_markMeta_main, markIntS_ok _ _ (by omega) h.big.1 h0 (by omega)]
  simp only [Option.bind_some]
  rw [markIntSS_ok _ _ h.2.1 h.2.2 (by omega) (by omega)]
  rfl
theorem heldMeta_far (x : tMeta.D) (k : Int) (h : SzM x) (h0 : 0 ≤ k) (hk : k ≤ 562949953421312) : laws_heldMeta_F (markedM k x, (k, ())) = some ((k + x.1.length + totR x.2.1, ()), ((), ((), ()))) := by
  have ht := h.tot
  have h1 := h.1
  rw [laws_heldMeta_main]
  unfold markedM
  simp only
  rw [heldIntS_ok _ _ (by omega) h0 (by omega) h.big.1]
  simp only [Option.bind_some]
  rw [brk_nneg (by omega), heldIntSS_ok _ _ h.2.1 h.2.2 (by omega) (by omega)]
  simp only [Option.bind_some]
  rw [brk_nneg (by omega)]
structure NodeM (x : tNode.D) : Prop where
  im : x.2.2.2.1.length ≤ 1500000
  m : SzM x.2.2.2.2.1
  sal : x.2.2.2.2.2.1.1.length ≤ 1048576
  sbl : x.2.2.2.2.2.1.2.1.length ≤ 1048576
  cn : x.2.2.2.2.2.2.1.length ≤ 1500000
  sy : x.2.2.2.2.2.2.2.1.length ≤ 1500000
  syr : ∀ r ∈ x.2.2.2.2.2.2.2.1, r.length ≤ 1500000
  cp : x.2.2.2.2.2.2.2.2.1.length ≤ 1500000
  wt : x.2.2.2.2.2.2.2.2.2.1.length ≤ 1500000
theorem NodeSz.nodeM {x : tNode.D} (h : NodeSz x) : NodeM x :=
  ⟨Nat.le_trans h.im (by omega), h.m.m, h.sal, h.sbl, Nat.le_trans h.cn (by omega), Nat.le_trans h.sy (by omega), fun r hr => Nat.le_trans (h.syr r hr) (by omega), Nat.le_trans h.cp (by omega), Nat.le_trans h.wt (by omega)⟩
def k1N (k : Int) (x : tNode.D) : Int := k + x.2.2.2.1.length
def k2N (k : Int) (x : tNode.D) : Int := k1N k x + x.2.2.2.2.1.1.length + totR x.2.2.2.2.1.2.1
def k3N (k : Int) (x : tNode.D) : Int := k2N k x + x.2.2.2.2.2.1.1.length + x.2.2.2.2.2.1.2.1.length
def k4N (k : Int) (x : tNode.D) : Int := k3N k x + x.2.2.2.2.2.2.1.length
def k5N (k : Int) (x : tNode.D) : Int := k4N k x + totR x.2.2.2.2.2.2.2.1
def k6N (k : Int) (x : tNode.D) : Int := k5N k x + x.2.2.2.2.2.2.2.2.1.length
def k7N (k : Int) (x : tNode.D) : Int := k6N k x + x.2.2.2.2.2.2.2.2.2.1.length
def markedN (k : Int) (x : tNode.D) : tNode.D :=
  (x.1, (x.2.1, (x.2.2.1, (marks id k x.2.2.2.1.length, (markedM (k1N k x) x.2.2.2.2.1, (markedS (k2N k x) x.2.2.2.2.2.1, (markb (k3N k x) x.2.2.2.2.2.2.1.length, (marksR (k4N k x) x.2.2.2.2.2.2.2.1, (markb (k5N k x) x.2.2.2.2.2.2.2.2.1.length, (marks id (k6N k x) x.2.2.2.2.2.2.2.2.2.1.length, ()))))))))))
theorem kN_bounds {x : tNode.D} {k : Int} (h : NodeM x) (h0 : 0 ≤ k) (hk : k ≤ 4194304) : 0 ≤ k1N k x ∧ k1N k x ≤ 10000000 ∧ 0 ≤ k2N k x ∧ k2N k x ≤ 2260000000000 ∧ 0 ≤ k3N k x ∧ k3N k x ≤ 2270000000000 ∧ 0 ≤ k4N k x ∧ k4N k x ≤ 2280000000000 ∧ 0 ≤ k5N k x ∧ k5N k x ≤ 4540000000000 ∧ 0 ≤ k6N k x ∧ k6N k x ≤ 4550000000000 ∧ 0 ≤ k7N k x ∧ k7N k x ≤ 4560000000000 := by
  have a1 := h.im
  have a2 := h.m.tot
  have a3 := h.sal
  have a4 := h.sbl
  have a5 := h.cn
  have a6 := totR_le h.syr
  have a7 : x.2.2.2.2.2.2.2.1.length * 1500000 ≤ 1500000 * 1500000 := Nat.mul_le_mul_right _ h.sy
  have a8 := h.cp
  have a9 := h.wt
  unfold k7N k6N k5N k4N k3N k2N k1N
  refine ⟨?_, ?_, ?_, ?_, ?_, ?_, ?_, ?_, ?_, ?_, ?_, ?_, ?_, ?_⟩ <;> omega
theorem markNode_ok (x : tNode.D) (k : Int) (h : NodeM x) (h0 : 0 ≤ k) (hk : k ≤ 4194304) : laws_markNode_F (x, (k, ())) = some ((k7N k x, ()), (markedN k x, ((), ()))) := by
  obtain ⟨b1, b2, b3, b4, b5, b6, b7, b8, b9, b10, b11, b12, b13, b14⟩ := kN_bounds h h0 hk
  have a6 := totR_le h.syr
  have a7 : x.2.2.2.2.2.2.2.1.length * 1500000 ≤ 1500000 * 1500000 := Nat.mul_le_mul_right _ h.sy
  have e1 := markIntS_ok x.2.2.2.1 k (Nat.le_trans h.im (by omega)) (Nat.le_trans h.im (by rw [big47_eq]; omega)) h0 (by omega)
  have e2 := markMeta_far x.2.2.2.2.1 (k1N k x) h.m b1 (by omega)
  have e3 := markSlots_ok x.2.2.2.2.2.1 (k2N k x) h.sal h.sbl b3 (by omega)
  have e4 := markBoolS_ok x.2.2.2.2.2.2.1 (k3N k x) h.cn b5 (by omega)
  have e5 := markIntSS_ok x.2.2.2.2.2.2.2.1 (k4N k x) h.sy h.syr b7 (by omega)
  have e6 := markBoolS_ok x.2.2.2.2.2.2.2.2.1 (k5N k x) h.cp b9 (by omega)
  have e7 := markIntS_ok x.2.2.2.2.2.2.2.2.2.1 (k6N k x) (Nat.le_trans h.wt (by omega)) (Nat.le_trans h.wt (by rw [big47_eq]; omega)) b11 (by omega)
  rw [laws_markNode_main]
  show Option.bind (laws_markIntS_F (x.2.2.2.1, (k, ()))) _ = _
  rw [e1]
  show Option.bind (laws_markMeta_F (x.2.2.2.2.1, (k1N k x, ()))) _ = _
  rw [e2]
  show Option.bind (laws_markSlots_F (x.2.2.2.2.2.1, (k2N k x, ()))) _ = _
  rw [e3]
  show Option.bind (laws_markBoolS_F (x.2.2.2.2.2.2.1, (k3N k x, ()))) _ = _
  rw [e4]
  show Option.bind (laws_markIntSS_F (x.2.2.2.2.2.2.2.1, (k4N k x, ()))) _ = _
  rw [e5]
  show Option.bind (laws_markBoolS_F (x.2.2.2.2.2.2.2.2.1, (k5N k x, ()))) _ = _
  rw [e6]
  show Option.bind (laws_markIntS_F (x.2.2.2.2.2.2.2.2.2.1, (k6N k x, ()))) _ = _
  rw [e7]
  rfl
theorem heldNode_ok (x : tNode.D) (k : Int) (h : NodeM x) (h0 : 0 ≤ k) (hk : k ≤ 4194304) : laws_heldNode_F (markedN k x, (k, ())) = some ((k7N k x, ()), ((), ((), ()))) := by
  obtain ⟨b1, b2, b3, b4, b5, b6, b7, b8, b9, b10, b11, b12, b13, b14⟩ := kN_bounds h h0 hk
  have a6 := totR_le h.syr
  have a7 : x.2.2.2.2.2.2.2.1.length * 1500000 ≤ 1500000 * 1500000 := Nat.mul_le_mul_right _ h.sy
  have e1 := heldIntS_ok x.2.2.2.1.length k (Nat.le_trans h.im (by omega)) h0 (by omega) (Nat.le_trans h.im (by rw [big47_eq]; omega))
  have e2 := heldMeta_far x.2.2.2.2.1 (k1N k x) h.m b1 (by omega)
  have e3 := heldSlots_ok x.2.2.2.2.2.1 (k2N k x) h.sal h.sbl b3 (by omega)
  have e4 := heldBoolS_ok x.2.2.2.2.2.2.1.length (k3N k x) h.cn b5 (by omega)
  have e5 := heldIntSS_ok x.2.2.2.2.2.2.2.1 (k4N k x) h.sy h.syr b7 (by omega)
  have e6 := heldBoolS_ok x.2.2.2.2.2.2.2.2.1.length (k5N k x) h.cp b9 (by omega)
  have e7 := heldIntS_ok x.2.2.2.2.2.2.2.2.2.1.length (k6N k x) (Nat.le_trans h.wt (by omega)) b11 (by omega) (Nat.le_trans h.wt (by rw [big47_eq]; omega))
  rw [laws_heldNode_main]
  show Option.bind (laws_heldIntS_F (marks id k x.2.2.2.1.length, (k, ()))) _ = _
  rw [e1]
  show brk (decide (k1N k x < 0)) _ _ = _
  rw [brk_nneg b1]
  show Option.bind (laws_heldMeta_F (markedM (k1N k x) x.2.2.2.2.1, (k1N k x, ()))) _ = _
  rw [e2]
  show brk (decide (k2N k x < 0)) _ _ = _
  rw [brk_nneg b3]
  show Option.bind (laws_heldSlots_F (markedS (k2N k x) x.2.2.2.2.2.1, (k2N k x, ()))) _ = _
  rw [e3]
  show brk (decide (k3N k x < 0)) _ _ = _
  rw [brk_nneg b5]
  show Option.bind (laws_heldBoolS_F (markb (k3N k x) x.2.2.2.2.2.2.1.length, (k3N k x, ()))) _ = _
  rw [e4]
  show brk (decide (k4N k x < 0)) _ _ = _
  rw [brk_nneg b7]
  show Option.bind (laws_heldIntSS_F (marksR (k4N k x) x.2.2.2.2.2.2.2.1, (k4N k x, ()))) _ = _
  rw [e5]
  show brk (decide (k5N k x < 0)) _ _ = _
  rw [brk_nneg b9]
  show Option.bind (laws_heldBoolS_F (markb (k5N k x) x.2.2.2.2.2.2.2.2.1.length, (k5N k x, ()))) _ = _
  rw [e6]
  show brk (decide (k6N k x < 0)) _ _ = _
  rw [brk_nneg b11]
  show Option.bind (laws_heldIntS_F (marks id (k6N k x) x.2.2.2.2.2.2.2.2.2.1.length, (k6N k x, ()))) _ = _
  rw [e7]
  show brk (decide (k7N k x < 0)) _ _ = _
  rw [brk_nneg b13]
  rfl
theorem eqNode_selfM (x : tNode.D) (h : NodeM x) : laws_eqNode_F (x, (x, ())) = some ((true, ()), ((), ((), ()))) := by
  have big : ∀ {n : Nat}, n ≤ 1500000 → n ≤ big47 := fun h => Nat.le_trans h (by rw [big47_eq]; omega)
  have e1 := eqIntS_ok x.2.2.2.1 x.2.2.2.1 (big h.im)
  have hM := eqMeta_selfM x.2.2.2.2.1 h.m
  have hS := eqSlots_ok x.2.2.2.2.2.1 x.2.2.2.2.2.1 (Nat.le_trans h.sal (by rw [big47_eq]; omega)) (Nat.le_trans h.sbl (by rw [big47_eq]; omega))
  have e4 := eqBoolS_self x.2.2.2.2.2.2.1 (big h.cn)
  have e5 := eqIntSS_ok x.2.2.2.2.2.2.2.1 x.2.2.2.2.2.2.2.1 (big h.sy) (fun r hr => big (h.syr r hr))
  have e6 := eqBoolS_self x.2.2.2.2.2.2.2.2.1 (big h.cp)
  have e7 := eqIntS_ok x.2.2.2.2.2.2.2.2.2.1 x.2.2.2.2.2.2.2.2.2.1 (big h.wt)
  clear h big
  obtain ⟨id, up, pr, im, ⟨g, l, f, o, hh, a, u⟩, ⟨sa, sb, u'⟩, conn, sync, cop, wt, u''⟩ := x
  cases u
  cases u'
  cases u''
  simp only at e1 hM hS e4 e5 e6 e7
  rw [laws_eqNode_main]
  simp only [decide_true, beq_self_eq_true, Bool.not_true, brk_false]
  rw [e1]
  simp only [Option.bind_some, decide_true, Bool.not_true, brk_false]
  rw [hM]
  simp only [Option.bind_some, decide_true, Bool.not_true, brk_false]
  rw [hS]
  simp only [Option.bind_some, decide_true, and_self, Bool.not_true, brk_false]
  rw [e4]
  simp only [Option.bind_some, decide_true, Bool.not_true, brk_false]
  rw [e5]
  simp only [Option.bind_some, decide_true, Bool.not_true, brk_false]
  rw [e6]
  simp only [Option.bind_some, decide_true, Bool.not_true, brk_false]
  rw [e7]
  simp only [Option.bind_some, decide_true, Bool.not_true, brk_false]
theorem Byte.app {a b : List Int} (ha : Byte a) (hb : Byte b) : Byte (a ++ b) := fun x hx => (List.mem_append.1 hx).elim (ha x) (hb x)
theorem wrap8_in (x : Int) : 0 ≤ IntKind.u8.wrap x ∧ IntKind.u8.wrap x ≤ 255 := by rw [wrap8m]; omega
theorem byte_one (x : Int) : Byte [IntKind.u8.wrap x] := fun y hy => by
  simp only [List.mem_singleton] at hy
  rw [hy]; exact wrap8_in x
theorem rows_next {l : List (List Int)} {i : Nat} (hi : i < l.length) : l.take i ++ [l.getD i []] = l.take (i + 1) := by
  rw [List.take_succ_eq_append_getElem hi]
  simp [List.getD_eq_getElem?_getD, List.getElem?_eq_getElem hi]
theorem row_le15 {l : List (List Int)} (h : ∀ r ∈ l, r.length ≤ 1500000) {i : Nat} (hi : i < l.length) : (l.getD i []).length ≤ 1500000 := by
  rw [List.getD_eq_getElem?_getD, List.getElem?_eq_getElem hi]
  exact h _ (List.getElem_mem hi)
theorem impl_copyLists_ok (l : List (List Int)) (hl : l.length ≤ 1500000) (hr : ∀ r ∈ l, r.length ≤ 1500000) : impl_copyLists_F (l, ()) = some ((l, ()), ((), ())) := by
  rw [impl_copyLists_main]
  obtain ⟨n, v, h, rfl⟩ := for_loop (σ := List (List Int)) (G := fun n i s => iterG impl_copyLists_t0 impl_copyLists_B0 (impl_copyLists_K0 l) n ((l, ((l.length : Int), ((i : Int), ()))), (s, ()))) l.length (fun i s => s = l.take i) (· = some ((l, ()), ((), ())))
    (fun i s hi hI => .inr ⟨_, (rows_next hi), fun n => by
      subst hI
      dsimp only
      rw [impl_copyLists_r0, brk_lt hi, ck_idx hi, rdD_nat, show tIs.zero = [] from rfl, slices_Clone_int_ok _ (Nat.le_trans (row_le15 hr hi) (by omega))]
      simp only [Option.bind_some]
      rw [ck_pos (decide_eq_true (by rw [big47_eq]; simp only [List.length_take, List.length_cons, List.length_nil]; omega)), step_nat i (by omega)]⟩)
    (fun s hI => ⟨_, rfl, fun n => by
      subst hI
      dsimp only
      rw [impl_copyLists_r0, brk_nlt (by omega), impl_copyLists_e0_0, List.take_length]⟩) [] (by simp)
  exact impl_copyLists_l0 n h ⟨_, rfl⟩
theorem impl_copyMeta_ok (m : tMeta.D) (h : SzM m) : impl_copyMeta_F (m, ()) = some ((m, ()), ((), ())) := by
  rw [impl_copyMeta_main, slices_Clone_int_ok _ (Nat.le_trans h.1 (by omega))]
  simp only [Option.bind_some]
  rw [impl_copyLists_ok _ h.2.1 h.2.2]
  rfl
theorem spec_l5Copy_ok (m : tMeta.D) (h : SzM m) : spec_l5Copy_F (m, ()) = some ((m, ()), ((), ())) := by
  obtain ⟨h1, h2, h3⟩ := h
  obtain ⟨g, l, f, o, hh, a, u⟩ := m
  cases u
  simp only at h1 h2 h3
  rw [spec_l5Copy_main, ck_pos (decide_eq_true (by rw [big47_eq]; simp only [List.length_nil]; omega)), List.nil_append]
  obtain ⟨n, v, h, rfl⟩ := for_loop (σ := List (List Int)) (G := fun n i s => iterG spec_l5Copy_t0 spec_l5Copy_B0 (spec_l5Copy_K0 (g, (l, (f, (o, (hh, (a, ()))))))) n (((i : Int), ()), ((g, (l, (f, (o, (hh, (a, ())))))), ((false, (false, (false, ((0 : Int), ())))), ((f, (o, (hh, (a, ())))), (g, (s, ()))))))) l.length (fun i s => s = l.take i) (· = some (((g, (l, (f, (o, (hh, (a, ())))))), ()), ((), ())))
    (fun i s hi hI => .inr ⟨_, (rows_next hi), fun n => by
      subst hI
      have hw := row_le15 h3 hi
      dsimp only
      rw [spec_l5Copy_r0, brk_lt hi, ck_idx hi, rdD_nat, show tIs.zero = [] from rfl]
      rw [ck_pos (decide_eq_true (by rw [big47_eq]; simp only [List.length_nil]; omega)), ck_pos (decide_eq_true (by rw [big47_eq]; simp only [List.length_take, List.length_cons, List.length_nil]; omega)), step_nat i (by omega), List.nil_append]⟩)
    (fun s hI => ⟨_, rfl, fun n => by
      subst hI
      dsimp only
      rw [spec_l5Copy_r0, brk_nlt (by omega), spec_l5Copy_e0_0, List.take_length]⟩) [] (by simp)
  exact spec_l5Copy_l0 n h ⟨_, rfl⟩
theorem slices_Clone_bool_ok (xs : List Bool) (hb : xs.length ≤ 1500000) : slices_Clone_bool_F (xs, ()) = some ((xs, ()), ((), ())) := by
  rw [slices_Clone_bool_main, ck_pos (decide_eq_true (by rw [big47_eq]; simp only [List.length_nil]; omega)), List.nil_append]
  by_cases h : xs.length = 0
  · obtain rfl := List.length_eq_zero_iff.1 h
    rw [brk_pos (decide_eq_true h), both_same rfl]
  · rw [brk_neg (decide_eq_false h)]
theorem impl_copyNode_ok (x : tNode.D) (h : NodeM x) : impl_copyNode_F (x, ()) = some ((x, ()), ((), ())) := by
  have e1 := slices_Clone_int_ok x.2.2.2.1 (Nat.le_trans h.im (by omega))
  have e2 := impl_copyMeta_ok x.2.2.2.2.1 h.m
  have e3 := impl_copySlots_ok x.2.2.2.2.2.1 (Nat.le_trans h.sal (by rw [big47_eq]; omega)) (Nat.le_trans h.sbl (by rw [big47_eq]; omega))
  have e4 := slices_Clone_bool_ok x.2.2.2.2.2.2.1 h.cn
  have e5 := impl_copyLists_ok x.2.2.2.2.2.2.2.1 h.sy h.syr
  have e6 := slices_Clone_bool_ok x.2.2.2.2.2.2.2.2.1 h.cp
  have e7 := slices_Clone_int_ok x.2.2.2.2.2.2.2.2.2.1 (Nat.le_trans h.wt (by omega))
  clear h
  obtain ⟨id, up, pr, im, ⟨g, l, f, o, hh, a, u⟩, ⟨sa, sb, u'⟩, conn, sync, cop, wt, u''⟩ := x
  cases u
  cases u'
  cases u''
  simp only at e1 e2 e3 e4 e5 e6 e7
  rw [impl_copyNode_main]
  try simp only
  rw [e1]
  simp only [Option.bind_some]
  rw [e2]
  simp only [Option.bind_some]
  rw [e3]
  simp only [Option.bind_some]
  rw [e4]
  simp only [Option.bind_some]
  rw [e5]
  simp only [Option.bind_some]
  rw [e6]
  simp only [Option.bind_some]
  rw [e7]
  simp only [Option.bind_some]
theorem spec_l8Copy_ok (x : tNode.D) (h : NodeM x) : spec_l8Copy_F (x, ()) = some ((x, ()), ((), ())) := by
  have e2 := spec_l5Copy_ok x.2.2.2.2.1 h.m
  have e3 := spec_l6Copy_ok x.2.2.2.2.2.1 (Nat.le_trans h.sal (by rw [big47_eq]; omega)) (Nat.le_trans h.sbl (by rw [big47_eq]; omega))
  obtain ⟨h1, h2, h3, h4, h5, h6, h7, h8, h9⟩ := h
  obtain ⟨id, up, pr, im, ⟨g, l, f, o, hh, a, u⟩, ⟨sa, sb, u'⟩, conn, sync, cop, wt, u''⟩ := x
  cases u
  cases u'
  cases u''
  simp only at h1 h2 h3 h4 h5 h6 h7 h8 h9 e2 e3
  rw [spec_l8Copy_main]
  try simp only
  rw [ck_pos (decide_eq_true (by rw [big47_eq]; simp only [List.length_nil]; omega)), e2]
  simp only [Option.bind_some]
  rw [e3]
  simp only [Option.bind_some]
  rw [ck_pos (decide_eq_true (by rw [big47_eq]; simp only [List.length_nil]; omega)), ck_pos (decide_eq_true (by rw [big47_eq]; simp only [List.length_nil]; omega)), ck_pos (decide_eq_true (by rw [big47_eq]; simp only [List.length_nil]; omega))]
  simp only [List.nil_append]
  obtain ⟨n, v, h, rfl⟩ := for_loop (σ := List (List Int)) (G := fun n i s => iterG spec_l8Copy_t0 spec_l8Copy_B0 (spec_l8Copy_K0 (id, (up, (pr, (im, ((g, (l, (f, (o, (hh, (a, ())))))), ((sa, (sb, ())), (conn, (sync, (cop, (wt, ()))))))))))) n (((i : Int), ()), ((id, (up, (pr, (im, (g, (l, (f, (o, (hh, (a, (sa, (sb, (conn, (sync, (cop, (wt, ())))))))))))))))), (((0 : Int), (false, (false, (false, (false, (false, ((0 : Int), ()))))))), ((id, (up, (pr, (f, (o, (hh, (a, ()))))))), (im, (g, (l, (sa, (sb, (conn, (cop, (wt, (s, ())))))))))))))) sync.length (fun i s => s = sync.take i) (· = some (((id, (up, (pr, (im, ((g, (l, (f, (o, (hh, (a, ())))))), ((sa, (sb, ())), (conn, (sync, (cop, (wt, ())))))))))), ()), ((), ())))
    (fun i s hi hI => .inr ⟨_, (rows_next hi), fun n => by
      subst hI
      have hw := row_le15 h7 hi
      dsimp only
      rw [spec_l8Copy_r0, brk_lt hi, ck_idx hi, rdD_nat, show tIs.zero = [] from rfl]
      rw [ck_pos (decide_eq_true (by rw [big47_eq]; simp only [List.length_nil]; omega)), ck_pos (decide_eq_true (by rw [big47_eq]; simp only [List.length_take, List.length_cons, List.length_nil]; omega)), step_nat i (by omega), List.nil_append]⟩)
    (fun s hI => ⟨_, rfl, fun n => by
      subst hI
      dsimp only
      rw [spec_l8Copy_r0, brk_nlt (by omega), spec_l8Copy_e0_0, List.take_length]⟩) [] (by simp)
  exact spec_l8Copy_l0 n h ⟨_, rfl⟩
theorem NodeM.big {x : tNode.D} (h : NodeM x) (ha : Byte x.2.2.2.2.2.1.1) (hb : Byte x.2.2.2.2.2.1.2.1) : NodeBig x := by
  have big : ∀ {n : Nat}, n ≤ 1500000 → n ≤ big47 := fun h => Nat.le_trans h (by rw [big47_eq]; omega)
  exact ⟨big h.im, big h.m.1, big h.m.2.1, fun r hr => big (h.m.2.2 r hr), ha, hb, Nat.le_trans h.sal (by rw [big47_eq]; omega), Nat.le_trans h.sbl (by rw [big47_eq]; omega), big h.cn, big h.sy, fun r hr => big (h.syr r hr), big h.cp, big h.wt⟩
noncomputable def keptP (x : tNode.D) (m : tMeta.D) : tNode.D := (x.1, (x.2.1, (x.2.2.1, (x.2.2.2.1, (m, (slotPutP x.2.2.2.2.2.1 m, x.2.2.2.2.2.2))))))
noncomputable def keepP (x : tNode.D) (m : tMeta.D) : tNode.D := if nodeOkB x = true ∧ nodeOkB (keptP x m) = true then keptP x m else x
theorem keptP_sz {x : tNode.D} {m : tMeta.D} (h : NodeM x) (hm : SzM m) : NodeM (keptP x m) := by
  have := slotPutP_len (s := x.2.2.2.2.2.1) (m := m) h.sal h.sbl
  exact ⟨h.im, hm, this.1, this.2, h.cn, h.sy, h.syr, h.cp, h.wt⟩
theorem keepP_sz {x : tNode.D} {m : tMeta.D} (h : NodeM x) (hm : SzM m) : NodeM (keepP x m) := by
  unfold keepP
  split
  · exact keptP_sz h hm
  · exact h
theorem fourB_byte (n : Int) : Byte (fourB n) := fun x hx => by
  unfold fourB at hx
  simp only [List.mem_cons, List.not_mem_nil, or_false] at hx
  omega
theorem metaB_byte (m : tMeta.D) : Byte (metaB m) := fun x hx => by
  unfold metaB at hx
  split at hx
  · simp only [List.mem_append] at hx
    rcases hx with (hx | hx) | hx
    · exact putNs_range _ x hx
    · unfold rowsB at hx
      obtain ⟨r, _, hr⟩ := List.mem_flatMap.1 hx
      exact putNs_range _ x hr
    · exact putNs_range _ x hx
  · cases hx
theorem slotB_byte (m : tMeta.D) (n : Int) : Byte (slotB m n) := by
  unfold slotB
  refine Byte.app (Byte.app (Byte.app (Byte.app (fourB_byte n) (byte_one _)) (metaB_byte m)) fun x hx => ?_) (fourB_byte n)
  simp only [List.mem_replicate] at hx
  omega
theorem slotPutP_byte {s : tSlots.D} {m : tMeta.D} (ha : Byte s.1) (hb : Byte s.2.1) : Byte (slotPutP s m).1 ∧ Byte (slotPutP s m).2.1 := by
  unfold slotPutP
  split
  · split
    · exact ⟨ha, slotB_byte _ _⟩
    · exact ⟨slotB_byte _ _, hb⟩
  · exact ⟨ha, hb⟩
theorem spec_l8Keep_ok (x : tNode.D) (m : tMeta.D) (h : NodeM x) (ha : Byte x.2.2.2.2.2.1.1) (hb : Byte x.2.2.2.2.2.1.2.1) (hm : SzM m) : spec_l8Keep_F (x, (m, ())) = some ((keptP x m, ()), ((), ((), ()))) := by
  have e1 := spec_l5Copy_ok m hm
  have e2 := spec_SlotPut_ok x.2.2.2.2.2.1 m ha hb (Nat.le_trans h.sal (by rw [big47_eq]; omega)) (Nat.le_trans h.sbl (by rw [big47_eq]; omega)) hm
  unfold keptP
  clear h ha hb hm
  obtain ⟨id, up, pr, im, ⟨g, l, f, o, hh, a, u⟩, ⟨sa, sb, u'⟩, conn, sync, cop, wt, u''⟩ := x
  cases u
  cases u'
  cases u''
  obtain ⟨jg, jl, jf, jo, jhh, ja, u⟩ := m
  cases u
  try simp only at e1 e2
  rw [spec_l8Keep_main]
  try simp only
  rw [e1]
  simp only [Option.bind_some]
  rw [e2]
  rfl
theorem impl_keep_ok (x : tNode.D) (m : tMeta.D) (h : NodeM x) (ha : Byte x.2.2.2.2.2.1.1) (hb : Byte x.2.2.2.2.2.1.2.1) (hm : SzM m) : impl_keep_F (x, (m, ())) = some ((keptP x m, (nodeOkB (keptP x m), ())), ((), ((), ()))) := by
  have e1 := impl_copyMeta_ok m hm
  have e2 := impl_SlotPut_ok x.2.2.2.2.2.1 m ha hb (Nat.le_trans h.sal (by omega)) (Nat.le_trans h.sbl (by omega)) hm
  obtain ⟨pa, pb⟩ := slotPutP_byte (m := m) ha hb
  have e3 := impl_NodeOk_ok (keptP x m) ((keptP_sz h hm).big pa pb)
  unfold keptP at *
  clear h ha hb hm pa pb
  obtain ⟨id, up, pr, im, ⟨g, l, f, o, hh, a, u⟩, ⟨sa, sb, u'⟩, conn, sync, cop, wt, u''⟩ := x
  cases u
  cases u'
  cases u''
  obtain ⟨jg, jl, jf, jo, jhh, ja, u⟩ := m
  cases u
  try simp only at e1 e2 e3
  generalize slotPutP (sa, (sb, ())) (jg, (jl, (jf, (jo, (jhh, (ja, ())))))) = q at *
  obtain ⟨qa, qb, u⟩ := q
  cases u
  rw [impl_keep_main]
  try simp only
  rw [e1]
  simp only [Option.bind_some]
  rw [e2]
  simp only [Option.bind_some]
  rw [e3]
  rfl
theorem impl_Keep_ok (x : tNode.D) (m : tMeta.D) (h : NodeM x) (ha : Byte x.2.2.2.2.2.1.1) (hb : Byte x.2.2.2.2.2.1.2.1) (hm : SzM m) : impl_Keep_F (x, (m, ())) = some ((keepP x m, ()), ((), ((), ()))) := by
  have e1 := impl_copyNode_ok x h
  have e2 := impl_NodeOk_ok x (h.big ha hb)
  have e3 := impl_keep_ok x m h ha hb hm
  rw [impl_Keep_main]
  simp only [both_self]
  unfold keepP
  generalize nodeOkB (keptP x m) = ok2 at *
  generalize nodeOkB x = ok at *
  generalize keptP x m = q at *
  clear h ha hb hm
  obtain ⟨id, up, pr, im, ⟨g, l, f, o, hh, a, u⟩, ⟨sa, sb, u'⟩, conn, sync, cop, wt, u''⟩ := x
  cases u
  cases u'
  cases u''
  obtain ⟨jg, jl, jf, jo, jhh, ja, u⟩ := m
  cases u
  try simp only at e1 e2 e3
  try simp only
  rw [e1]
  simp only [Option.bind_some]
  rw [e3]
  simp only [Option.bind_some]
  rw [e2]
  cases ok <;> cases ok2 <;> rfl
theorem spec_Keep_ok (x : tNode.D) (m : tMeta.D) (h : NodeM x) (ha : Byte x.2.2.2.2.2.1.1) (hb : Byte x.2.2.2.2.2.1.2.1) (hm : SzM m) : spec_Keep_F (x, (m, ())) = some ((keepP x m, ()), ((), ((), ()))) := by
  have e1 := spec_l8Copy_ok x h
  have e2 := spec_NodeOk_ok x (h.big ha hb)
  have e3 := spec_l8Keep_ok x m h ha hb hm
  obtain ⟨pa, pb⟩ := slotPutP_byte (m := m) ha hb
  have e4 := spec_NodeOk_ok (keptP x m) ((keptP_sz h hm).big pa pb)
  rw [spec_Keep_main]
  simp only [both_self]
  unfold keepP
  generalize nodeOkB (keptP x m) = ok2 at *
  generalize nodeOkB x = ok at *
  generalize keptP x m = q at *
  clear h ha hb hm pa pb
  obtain ⟨id, up, pr, im, ⟨g, l, f, o, hh, a, u⟩, ⟨sa, sb, u'⟩, conn, sync, cop, wt, u''⟩ := x
  cases u
  cases u'
  cases u''
  obtain ⟨jg, jl, jf, jo, jhh, ja, u⟩ := m
  cases u
  obtain ⟨kid, kup, kpr, kim, ⟨kg, kl, kf, ko, khh, ka, u⟩, ⟨ksa, ksb, u'⟩, kconn, ksync, kcop, kwt, u''⟩ := q
  cases u
  cases u'
  cases u''
  try simp only at e1 e2 e3 e4
  try simp only
  rw [e2]
  simp only [Option.bind_some]
  rw [e1]
  simp only [Option.bind_some]
  rw [e3]
  simp only [Option.bind_some]
  rw [e4]
  cases ok <;> cases ok2 <;> rfl
theorem node_bytes {x : tNode.D} (h : Ok tNode x) : Byte x.2.2.2.2.2.1.1 ∧ Byte x.2.2.2.2.2.1.2.1 := ⟨(nodeBig_of x h).sa, (nodeBig_of x h).sb⟩
/-- What is marked keeps what is no list. -/
theorem markedN_eq (p : tNode.D) (k : Int) : markedN k p = (p.1, (p.2.1, (p.2.2.1, ((markedN k p).2.2.2.1, (((markedN k p).2.2.2.2.1.1, ((markedN k p).2.2.2.2.1.2.1, p.2.2.2.2.1.2.2)), ((markedN k p).2.2.2.2.2.1, (markedN k p).2.2.2.2.2.2)))))) := rfl
theorem laws_FnExactKeep_pure (x : tNode.D) (hX : Ok tNode x) (m : tMeta.D) (hM : Ok tMeta m) : laws_FnExactKeep_F (x, (m, ())) = some ((true, ()), ((), ((), ()))) := by
  obtain ⟨r, hz, hr, hsz⟩ := szNode_ok x 1048576 hX (by omega) (by omega)
  obtain ⟨ba, bb⟩ := node_bytes hX
  rw [laws_FnExactKeep_main]
  simp only [both_self]
  by_cases hn : r < 0
  · clear hX hsz ba bb hM
    obtain ⟨id, up, pr, im, ⟨g, l, f, o, hh, a, u⟩, ⟨sa, sb, u'⟩, conn, sync, cop, wt, u''⟩ := x
    cases u
    cases u'
    cases u''
    simp only
    rw [hz]
    simp only [Option.bind_some]
    rw [brk_pos (decide_eq_true hn)]
  have hs := hsz (by omega)
  obtain ⟨r2, hz2, hr2, hsz2⟩ := szMeta_ok m r hM (by omega) hr
  by_cases hn2 : r2 < 0
  · clear hX hsz ba bb hM hsz2 hs
    obtain ⟨id, up, pr, im, ⟨g, l, f, o, hh, a, u⟩, ⟨sa, sb, u'⟩, conn, sync, cop, wt, u''⟩ := x
    cases u
    cases u'
    cases u''
    obtain ⟨mg, ml, mf, mo, mh, ma, u⟩ := m
    cases u
    simp only
    rw [hz]
    simp only [Option.bind_some]
    rw [brk_neg (decide_eq_false hn), hz2]
    simp only [Option.bind_some]
    rw [brk_pos (decide_eq_true hn2)]
  have hm := hsz2 (by omega)
  have t1 := toNode_ok x hs
  have t1' := toMeta_ok m hm
  have t2 := spec_Keep_ok x m hs.nodeM ba bb hm.m
  have t3 := impl_Keep_ok x m hs.nodeM ba bb hm.m
  have hp := keepP_sz (m := m) hs.nodeM hm.m
  generalize keepP x m = p at *
  have t4 := eqNode_selfM p hp
  have t5 := eqNode_selfM x hs.nodeM
  have t5' := eqMeta_selfM m hm.m
  have t6 := markNode_ok x 1 hs.nodeM (by omega) (by omega)
  have t7 := markNode_ok p 1 hp (by omega) (by omega)
  have t8 := heldNode_ok p 1 hp (by omega) (by omega)
  have b13 := (kN_bounds (k := 1) hp (by omega) (by omega)).2.2.2.2.2.2.2.2.2.2.2.2.1
  have c13 := (kN_bounds (k := 1) hs.nodeM (by omega) (by omega)).2.2.2.2.2.2.2.2.2.2.2.2
  have t6' := markMeta_far m (k7N 1 x) hm.m c13.1 (by omega)
  have c14 := c13.1
  generalize hk : k7N 1 p = kk at t7 t8 b13
  generalize hk' : k7N 1 x = kx at t6 t6' c14
  have hq := markedN_eq p 1
  generalize markedN 1 p = q at t7 t8 hq
  generalize markedN 1 x = qx at t6
  generalize markedM kx m = qm at t6'
  have c15 : 0 ≤ kx + (List.length m.1 : Int) + (totR m.2.1 : Int) := by omega
  generalize kx + (List.length m.1 : Int) + (totR m.2.1 : Int) = km at t6' c15
  clear hk hk' hp hs hsz hX ba bb hM hsz2 hm c13
  obtain ⟨id, up, pr, im, ⟨g, l, f, o, hh, a, u⟩, ⟨sa, sb, u'⟩, conn, sync, cop, wt, u''⟩ := x
  cases u
  cases u'
  cases u''
  obtain ⟨mg, ml, mf, mo, mh, ma, u⟩ := m
  cases u
  obtain ⟨i1, up1, pr1, im1, ⟨g1, l1, f1, o1, hh1, a1, u⟩, ⟨sa1, sb1, u'⟩, conn1, sync1, cop1, wt1, u''⟩ := p
  cases u
  cases u'
  cases u''
  obtain ⟨j1, jup, jpr, jim, ⟨jg, jl, jf, jo, jhh, ja, ju⟩, ⟨jsa, jsb, ju'⟩, jconn, jsync, jcop, jwt, ju''⟩ := q
  cases ju
  cases ju'
  cases ju''
  simp only [Prod.mk.injEq, and_true, true_and] at hq
  obtain ⟨rfl, rfl, rfl, rfl, rfl, rfl, rfl⟩ := hq
  try simp only
  rw [hz]
  simp only [Option.bind_some]
  rw [brk_neg (decide_eq_false hn), hz2]
  simp only [Option.bind_some]
  rw [brk_neg (decide_eq_false hn2), t1]
  simp only [Option.bind_some]
  rw [t1']
  simp only [Option.bind_some]
  rw [t2]
  simp only [Option.bind_some]
  rw [t3]
  simp only [Option.bind_some]
  rw [t4]
  simp only [Option.bind_some, Bool.not_true, brk_false]
  rw [t5]
  simp only [Option.bind_some, Bool.not_true, brk_false]
  rw [t5']
  simp only [Option.bind_some, Bool.not_true, brk_false]
  rw [t6]
  simp only [Option.bind_some]
  rw [t6']
  simp only [Option.bind_some]
  rw [brk_nneg c15, t7]
  simp only [Option.bind_some]
  rw [t8]
  simp only [Option.bind_some]
  rw [brk_nneg b13]
  simp only [decide_true, Bool.not_true, brk_false]
  rw [brk_nneg b13]
end Go.Refl
