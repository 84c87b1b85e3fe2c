/- Plain laws: what the functions come to. No condition. -/
import Derived.Test.YtfikbjbijpbdkaaFnCellsGf
namespace Go.Refl
open Go.RowKit
set_option linter.unusedVariables false
set_option linter.unusedSimpArgs false
theorem drop_set_next {α : Type} {xs : List α} {i : Nat} (hi : i < xs.length) (v : α) : (xs.set i v).take (i + 1) = xs.take i ++ [v] := by
  rw [List.take_succ_eq_append_getElem (by simpa using hi), List.take_set_of_le (Nat.le_refl i)]
  simp
theorem spec_l1In_ok (x lo hi : Int) : spec_l1In_F (x, (lo, (hi, ()))) = some ((decide (lo ≤ x) && decide (x ≤ hi), ()), ((), ((), ((), ())))) := by
  rw [spec_l1In_main]
  by_cases h : lo ≤ x <;> simp [h]
theorem two_has {R : Type} (K : Ex → AS → Option R) (xs : List Int) (v : Int) (hb : xs.length ≤ big47) : ∀ (n i : Nat), i + n = xs.length →
    iterG spec_l2Has_t0 spec_l2Has_B0 K (n + 1) ((xs, (v, ((i : Int), ()))), ()) = if v ∈ xs.drop i then K .ret (spec_l2Has_x0_0 true) else K (.exit 0) spec_l2Has_x0_1
  | 0, i, h => by
    rw [spec_l2Has_r0, brk_neg (by simp; omega), List.drop_of_length_le (by omega)]
    simp
  | n + 1, i, h => by
    have hi : i < xs.length := by omega
    simp only [big47] at hb
    rw [spec_l2Has_r0, brk_pos (by simp; omega), ck_pos (by simp; omega), rdD_get (List.getElem?_eq_getElem hi), List.drop_eq_getElem_cons hi]
    by_cases he : xs[i] = v
    · rw [brk_pos (by simp [he]), if_pos (by rw [he]; exact List.mem_cons_self)]
    · rw [brk_neg (by simp [he]), wrap64 (by omega) (by omega), show ((i : Int) + 1) = ((i + 1 : Nat) : Int) by simp]
      rw [two_has K xs v (by simp only [big47]; omega) n (i + 1) (by omega)]
      have : (v ∈ xs[i] :: xs.drop (i + 1)) ↔ v ∈ xs.drop (i + 1) := by
        rw [List.mem_cons]; exact ⟨fun h => h.resolve_left fun e => he e.symm, .inr⟩
      by_cases hm : v ∈ xs.drop (i + 1)
      · rw [if_pos hm, if_pos (this.2 hm)]
      · rw [if_neg hm, if_neg fun h => hm (this.1 h)]
theorem brk_if {R : Type} (p : Prop) [Decidable p] (a b : Option R) : brk (decide p) a b = if p then a else b := by by_cases h : p <;> simp [h, brk]
theorem n0 : ((0 : Nat) : Int) = 0 := rfl
theorem big47_eq : big47 = 140737488355328 := rfl
theorem spec_l2Has_ok (xs : List Int) (v : Int) (hb : xs.length ≤ big47) : spec_l2Has_F (xs, (v, ())) = some ((decide (v ∈ xs), ()), ((), ((), ()))) := by
  rw [spec_l2Has_main]
  have h := two_has (spec_l2Has_K0 xs v) xs v hb xs.length 0 (by omega)
  rw [List.drop_zero, n0] at h
  by_cases hm : v ∈ xs
  · rw [if_pos hm] at h
    rw [spec_l2Has_l0 _ h ⟨_, spec_l2Has_e0_0 _ _ _⟩, spec_l2Has_e0_0, decide_eq_true hm]
  · rw [if_neg hm] at h
    rw [spec_l2Has_l0 _ h ⟨_, spec_l2Has_e0_1 _ _⟩, spec_l2Has_e0_1, decide_eq_false hm]
theorem Index_loop {R : Type} (K : Ex → AS → Option R) (xs : List Int) (v : Int) (hb : xs.length ≤ big47) : ∀ (n i : Nat), i + n = xs.length →
    (v ∈ xs.drop i ∧ ∃ j : Nat, iterG slices_Index_int_t0 slices_Index_int_B0 K (n + 1) ((xs, (v, ((xs.length : Int), ((i : Int), ())))), ()) = K .ret (slices_Index_int_x0_0 (j : Int))) ∨
    (v ∉ xs.drop i ∧ iterG slices_Index_int_t0 slices_Index_int_B0 K (n + 1) ((xs, (v, ((xs.length : Int), ((i : Int), ())))), ()) = K (.exit 0) slices_Index_int_x0_1)
  | 0, i, h => by
    right
    rw [slices_Index_int_r0, brk_neg (by simp; omega), List.drop_of_length_le (by omega)]
    simp
  | n + 1, i, h => by
    have hi : i < xs.length := by omega
    simp only [big47] at hb
    rw [slices_Index_int_r0, brk_pos (by simp; omega), ck_pos (by simp; omega), rdD_get (List.getElem?_eq_getElem hi), List.drop_eq_getElem_cons hi]
    by_cases he : v = xs[i]
    · left
      rw [brk_pos (by simp [he])]
      exact ⟨by rw [← he]; exact List.mem_cons_self, i, rfl⟩
    · rw [brk_neg (by simp [he]), wrap64 (by omega) (by omega), show ((i : Int) + 1) = ((i + 1 : Nat) : Int) by simp]
      rcases Index_loop K xs v (by simp only [big47]; omega) n (i + 1) (by omega) with ⟨h1, j, h2⟩ | ⟨h1, h2⟩
      · exact .inl ⟨List.mem_cons_of_mem _ h1, j, h2⟩
      · exact .inr ⟨fun hm => (List.mem_cons.1 hm).elim he h1, h2⟩
theorem slices_Index_int_ok (xs : List Int) (v : Int) (hb : xs.length ≤ big47) : ∃ r : Int, slices_Index_int_F (xs, (v, ())) = some ((r, ()), ((), ((), ()))) ∧ (0 ≤ r ↔ v ∈ xs) := by
  rw [slices_Index_int_main]
  rcases Index_loop (slices_Index_int_K0 xs v) xs v hb xs.length 0 (by omega) with ⟨h1, j, h2⟩ | ⟨h1, h2⟩
  · rw [n0] at h2
    exact ⟨j, by rw [slices_Index_int_l0 _ h2 ⟨_, slices_Index_int_e0_0 _ _ _⟩, slices_Index_int_e0_0], by simp at h1; simp [h1]⟩
  · rw [n0] at h2
    exact ⟨-1, by rw [slices_Index_int_l0 _ h2 ⟨_, slices_Index_int_e0_1 _ _⟩, slices_Index_int_e0_1], by simp at h1; simp [h1]⟩
theorem slices_Contains_int_ok (xs : List Int) (v : Int) (hb : xs.length ≤ big47) : slices_Contains_int_F (xs, (v, ())) = some ((decide (v ∈ xs), ()), ((), ((), ()))) := by
  obtain ⟨r, h1, h2⟩ := slices_Index_int_ok xs v hb
  rw [slices_Contains_int_main, h1]
  simp only [Option.bind_some, h2]
theorem impl_from_ok (x lo hi : Int) : impl_from_F (x, (lo, (hi, ()))) = some ((decide (lo ≤ x ∧ x ≤ hi), ()), ((), ((), ((), ())))) := by
  rw [impl_from_main, brk_if]
  by_cases h : lo ≤ x <;> simp [h]
theorem impl_isCell_z (z : PsD [.ro tI]) : impl_isCell_F z = some ((decide (0 ≤ z.1 ∧ z.1 ≤ 7), ()), ((), ())) := by rw [show z = (z.1, ()) from rfl, impl_isCell_main, impl_from_ok]; rfl
theorem impl_isCell_ok (x : Int) : impl_isCell_F (x, ()) = some ((decide (0 ≤ x ∧ x ≤ 7), ()), ((), ())) := by rw [impl_isCell_main, impl_from_ok]; rfl
theorem spec_l1In_ok' (x lo hi : Int) : spec_l1In_F (x, (lo, (hi, ()))) = some ((decide (lo ≤ x ∧ x ≤ hi), ()), ((), ((), ((), ())))) := by
  rw [spec_l1In_ok]
  by_cases h : lo ≤ x <;> simp [h]
theorem spec_l1In_z (z : PsD [.ro tI, .ro tI, .ro tI]) : spec_l1In_F z = some ((decide (z.2.1 ≤ z.1 ∧ z.1 ≤ z.2.2.1), ()), ((), ((), ((), ())))) := spec_l1In_ok' z.1 z.2.1 z.2.2.1
theorem take_next {α : Type} {xs : List α} {i : Nat} (hi : i < xs.length) : xs.take (i + 1) = xs.take i ++ [xs[i]] := List.take_succ_eq_append_getElem hi
/-- A loop that counts up: a round ends it, or goes on. -/
theorem for_loop {R σ : Type} {G : Nat → Nat → σ → Option R} (N : Nat) (Inv : Nat → σ → Prop) (Post : Option R → Prop)
    (hs : ∀ i s, i < N → Inv i s → (∃ v, Post v ∧ ∀ n, G (n + 1) i s = v) ∨ (∃ s', Inv (i + 1) s' ∧ ∀ n, G (n + 1) i s = G n (i + 1) s'))
    (hf : ∀ s, Inv N s → ∃ v, Post v ∧ ∀ n, G (n + 1) N s = v) (s : σ) (h : Inv 0 s) : ∃ n v, G n 0 s = v ∧ Post v := by
  have key : ∀ (k i : Nat) (s : σ), i + k = N → Inv i s → ∃ n v, G n i s = v ∧ Post v := by
    intro k
    induction k with
    | zero =>
      intro i s hi h
      have : i = N := by omega
      subst this
      obtain ⟨v, hv, hg⟩ := hf s h
      exact ⟨1, v, hg 0, hv⟩
    | succ k ih =>
      intro i s hi h
      rcases hs i s (by omega) h with ⟨v, hv, hg⟩ | ⟨s', h', hg⟩
      · exact ⟨1, v, hg 0, hv⟩
      · obtain ⟨n, v, hn, hv⟩ := ih (i + 1) s' (by omega) h'
        exact ⟨n + 1, v, (hg n).trans hn, hv⟩
  exact key N 0 s (by omega) h
theorem step_nat (i : Nat) (h : i ≤ 4611686018427387904) : IntKind.i64.wrap ((i : Int) + 1) = ((i + 1 : Nat) : Int) := by
  rw [wrap64 (by omega) (by omega)]; rfl
theorem rdD_nat {t : Ty} (xs : List t.D) (i : Nat) : rdD t xs (i : Int) = xs.getD i t.zero := rfl
theorem getD_at {α : Type} {xs : List α} {i : Nat} {d : α} (h : i < xs.length) : xs.getD i d = xs[i] := by simp [h]
theorem ck_idx {R : Type} {i n : Nat} (h : i < n) (a : Option R) : ck (decide ((0 : Int) ≤ (i : Int)) && decide ((i : Int) < (n : Int))) a = a := ck_pos (by simp; omega) a
theorem brk_lt {R : Type} {i n : Nat} (h : i < n) (a b : Option R) : brk (decide ((i : Int) < (n : Int))) a b = a := brk_pos (by simp; omega) a b
theorem brk_nlt {R : Type} {i n : Nat} (h : ¬ i < n) (a b : Option R) : brk (decide ((i : Int) < (n : Int))) a b = b := brk_neg (by simp; omega) a b
/-- Is the number at i a cell, and above the one before? -/
def MkP (xs : List Int) (i : Nat) : Prop := (0 ≤ xs.getD i 0 ∧ xs.getD i 0 ≤ 7) ∧ (0 < i → xs.getD (i - 1) 0 < xs.getD i 0)
instance instMkP (xs : List Int) (i : Nat) : Decidable (MkP xs i) := by unfold MkP; infer_instance
def marksB (xs : List Int) : Bool := (List.range xs.length).all fun i => @decide (MkP xs i) (instMkP xs i)
theorem marksB_iff {xs : List Int} : marksB xs = true ↔ ∀ i, i < xs.length → MkP xs i := by
  simp [marksB]
theorem marksB_no {xs : List Int} {i : Nat} (hi : i < xs.length) (h : ¬ MkP xs i) : marksB xs = false := by
  cases hb : marksB xs with
  | false => rfl
  | true => exact absurd (marksB_iff.1 hb i hi) h
theorem pred_nat {i : Nat} (h : 0 < i) (hi : i ≤ 4611686018427387904) : IntKind.i64.wrap ((i : Int) - 1) = ((i - 1 : Nat) : Int) := by
  rw [wrap64 (by omega) (by omega)]; omega
theorem spec_MarksOk_ok (xs : List Int) (hb : xs.length ≤ big47) : spec_MarksOk_F (xs, ()) = some ((marksB xs, ()), ((), ())) := by
  rw [big47_eq] at hb
  rw [spec_MarksOk_main]
  obtain ⟨n, v, h, rfl⟩ := for_loop (σ := Unit) (G := fun n i _ => iterG spec_MarksOk_t0 spec_MarksOk_B0 (spec_MarksOk_K0 xs) n ((xs, ((i : Int), ())), ())) xs.length (fun i _ => ∀ j, j < i → MkP xs j) (· = some ((marksB xs, ()), ((), ())))
    (fun i _ hi hI => by
      by_cases h1 : 0 ≤ xs.getD i 0 ∧ xs.getD i 0 ≤ 7
      · by_cases h0 : 0 < i
        · by_cases h2 : xs.getD (i - 1) 0 < xs.getD i 0
          · refine .inr ⟨(), fun j hj => ?_, fun n => ?_⟩
            · rcases Nat.lt_succ_iff_lt_or_eq.1 hj with h | rfl
              · exact hI j h
              · exact ⟨h1, fun _ => h2⟩
            · dsimp only; rw [spec_MarksOk_r0, brk_lt hi, ck_idx hi]; simp only [spec_l1In_z, Option.bind_some, rdD_nat, Ty.zero, h1, and_self, decide_true, Bool.not_true, brk_false, pred_nat h0 (by omega : i ≤ _), step_nat i (by omega)]
              rw [brk_pos (decide_eq_true (by omega)), ck_idx (by omega), ck_idx hi, brk_neg (decide_eq_false (Int.not_le.2 h2))]
          · refine .inl ⟨_, rfl, fun n => ?_⟩
            dsimp only; rw [spec_MarksOk_r0, brk_lt hi, ck_idx hi]; simp only [spec_l1In_z, Option.bind_some, rdD_nat, Ty.zero, h1, and_self, decide_true, Bool.not_true, brk_false, pred_nat h0 (by omega : i ≤ _), step_nat i (by omega)]
            rw [brk_pos (decide_eq_true (by omega)), ck_idx (by omega), ck_idx hi, brk_pos (decide_eq_true (Int.not_lt.1 h2)), spec_MarksOk_e0_0, marksB_no hi fun h => h2 (h.2 h0)]
        · refine .inr ⟨(), fun j hj => ?_, fun n => ?_⟩
          · rcases Nat.lt_succ_iff_lt_or_eq.1 hj with h | rfl
            · exact hI j h
            · exact ⟨h1, fun h => absurd h h0⟩
          · dsimp only; rw [spec_MarksOk_r0, brk_lt hi, ck_idx hi]; simp only [spec_l1In_z, Option.bind_some, rdD_nat, Ty.zero, h1, and_self, decide_true, Bool.not_true, brk_false, step_nat i (by omega)]
            rw [brk_neg (decide_eq_false (by omega))]
      · refine .inl ⟨_, rfl, fun n => ?_⟩
        dsimp only; rw [spec_MarksOk_r0, brk_lt hi, ck_idx hi]; simp only [spec_l1In_z, Option.bind_some, rdD_nat, Ty.zero, h1, decide_false, Bool.not_false, brk_true]
        rw [spec_MarksOk_e0_0, marksB_no hi fun h => h1 h.1])
    (fun _ hI => ⟨_, rfl, fun n => by
      dsimp only
      rw [spec_MarksOk_r0, brk_nlt (by omega), spec_MarksOk_e0_1, marksB_iff.2 hI]⟩) () (fun j hj => by omega)
  exact spec_MarksOk_l0 n h ⟨_, rfl⟩
theorem impl_MarksOk_ok (xs : List Int) (hb : xs.length ≤ big47) : impl_MarksOk_F (xs, ()) = some ((marksB xs, ()), ((), ())) := by
  rw [big47_eq] at hb
  rw [impl_MarksOk_main]
  obtain ⟨n, v, h, rfl⟩ := for_loop (σ := Unit) (G := fun n i _ => iterG impl_MarksOk_t0 impl_MarksOk_B0 (impl_MarksOk_K0 xs) n ((xs, (xs, ((xs.length : Int), ((i : Int), ())))), ())) xs.length (fun i _ => ∀ j, j < i → MkP xs j) (· = some ((marksB xs, ()), ((), ())))
    (fun i _ hi hI => by
      by_cases h1 : 0 ≤ xs.getD i 0 ∧ xs.getD i 0 ≤ 7
      · by_cases h0 : 0 < i
        · by_cases h2 : xs.getD (i - 1) 0 < xs.getD i 0
          · refine .inr ⟨(), fun j hj => ?_, fun n => ?_⟩
            · rcases Nat.lt_succ_iff_lt_or_eq.1 hj with h | rfl
              · exact hI j h
              · exact ⟨h1, fun _ => h2⟩
            · dsimp only; rw [impl_MarksOk_r0, brk_lt hi, ck_idx hi]; simp only [impl_isCell_z, Option.bind_some, rdD_nat, Ty.zero, h1, and_self, decide_true, Bool.not_true, brk_false, pred_nat h0 (by omega : i ≤ _), step_nat i (by omega)]
              rw [brk_pos (decide_eq_true (by omega)), ck_idx (by omega), brk_neg (decide_eq_false (Int.not_le.2 h2))]
          · refine .inl ⟨_, rfl, fun n => ?_⟩
            dsimp only; rw [impl_MarksOk_r0, brk_lt hi, ck_idx hi]; simp only [impl_isCell_z, Option.bind_some, rdD_nat, Ty.zero, h1, and_self, decide_true, Bool.not_true, brk_false, pred_nat h0 (by omega : i ≤ _), step_nat i (by omega)]
            rw [brk_pos (decide_eq_true (by omega)), ck_idx (by omega), brk_pos (decide_eq_true (Int.not_lt.1 h2)), impl_MarksOk_e0_0, marksB_no hi fun h => h2 (h.2 h0)]
        · refine .inr ⟨(), fun j hj => ?_, fun n => ?_⟩
          · rcases Nat.lt_succ_iff_lt_or_eq.1 hj with h | rfl
            · exact hI j h
            · exact ⟨h1, fun h => absurd h h0⟩
          · dsimp only; rw [impl_MarksOk_r0, brk_lt hi, ck_idx hi]; simp only [impl_isCell_z, Option.bind_some, rdD_nat, Ty.zero, h1, and_self, decide_true, Bool.not_true, brk_false, step_nat i (by omega)]
            rw [brk_neg (decide_eq_false (by omega))]
      · refine .inl ⟨_, rfl, fun n => ?_⟩
        dsimp only; rw [impl_MarksOk_r0, brk_lt hi, ck_idx hi]; simp only [impl_isCell_z, Option.bind_some, rdD_nat, Ty.zero, h1, decide_false, Bool.not_false, brk_true]
        rw [impl_MarksOk_e0_0, marksB_no hi fun h => h1 h.1])
    (fun _ hI => ⟨_, rfl, fun n => by
      dsimp only
      rw [impl_MarksOk_r0, brk_nlt (by omega), impl_MarksOk_e0_1, marksB_iff.2 hI]⟩) () (fun j hj => by omega)
  exact impl_MarksOk_l0 n h ⟨_, rfl⟩
theorem brk_nneg {R : Type} {x : Int} (h : 0 ≤ x) (a b : Option R) : brk (decide (x < 0)) a b = b := brk_neg (decide_eq_false (Int.not_lt.2 h)) a b
theorem c3 {α : Type} (l : List α) : ((l.length : Int) = 3) = (l.length = 3) := propext (by omega)
theorem c0 {α : Type} (l : List α) : ((0 : Int) < (l.length : Int)) = (0 < l.length) := propext (by omega)
theorem both_same {R : Type} {a b : Option R} (h : a = b) : both a b = a := by unfold both; rw [if_pos h]
theorem slices_Clone_int_ok (xs : List Int) (hb : xs.length ≤ 17592186044415) : slices_Clone_int_F (xs, ()) = some ((xs, ()), ((), ())) := by
  rw [slices_Clone_int_main, ck_pos (by simp [big47]; omega), List.nil_append]
  by_cases h : xs.length = 0
  · obtain rfl := List.length_eq_zero_iff.1 h
    rw [brk_pos (decide_eq_true h), both_same rfl]
  · rw [brk_neg (decide_eq_false h)]
theorem impl_Clear_1_ok (x c : Int) : impl_Clear_1_F (x, (c, ())) = some ((decide (x = c), ()), ((), (c, ()))) := impl_Clear_1_main x c
theorem IndexFuncD_ok (xs : List Int) (c : Int) (hb : xs.length ≤ big47) : ∃ r : Int, slices_IndexFunc_intD_F (xs, ((c, ()), ())) = some ((r, ()), ((), ((c, ()), ()))) ∧
    ((r = -1 ∧ ∀ j, j < xs.length → xs.getD j 0 ≠ c) ∨ ∃ k : Nat, r = k ∧ k < xs.length ∧ xs.getD k 0 = c ∧ ∀ j, j < k → xs.getD j 0 ≠ c) := by
  rw [big47_eq] at hb
  rw [slices_IndexFunc_intD_main]
  obtain ⟨n, v, hh, r, rfl, hr⟩ := for_loop (σ := Unit) (G := fun n i s => iterG slices_IndexFunc_intD_t0 slices_IndexFunc_intD_B0 (slices_IndexFunc_intD_K0 xs (c, ())) n ((xs, ((xs.length : Int), ((i : Int), ()))), ((c, ()), ()))) xs.length (fun i s => ∀ j, j < i → xs.getD j 0 ≠ c)
    (fun v => ∃ r : Int, v = some ((r, ()), ((), ((c, ()), ()))) ∧ ((r = -1 ∧ ∀ j, j < xs.length → xs.getD j 0 ≠ c) ∨ ∃ k : Nat, r = k ∧ k < xs.length ∧ xs.getD k 0 = c ∧ ∀ j, j < k → xs.getD j 0 ≠ c))
    (fun i s hi hI => by
      by_cases he : xs.getD i 0 = c
      · refine .inl ⟨_, ⟨(i : Int), rfl, .inr ⟨i, rfl, hi, he, hI⟩⟩, fun n => ?_⟩
        dsimp only
        rw [slices_IndexFunc_intD_r0, brk_lt hi, ck_idx hi, rdD_nat, show tI.zero = 0 from rfl, impl_Clear_1_ok, decide_eq_true he]
        simp only [Option.bind_some, brk_true]
        rw [slices_IndexFunc_intD_e0_0]
      · refine .inr ⟨(), fun j hj => ?_, fun n => ?_⟩
        · rcases Nat.lt_succ_iff_lt_or_eq.1 hj with h | rfl
          · exact hI j h
          · exact he
        · dsimp only
          rw [slices_IndexFunc_intD_r0, brk_lt hi, ck_idx hi, rdD_nat, show tI.zero = 0 from rfl, impl_Clear_1_ok, decide_eq_false he]
          simp only [Option.bind_some, brk_false]
          rw [step_nat i (by omega)])
    (fun s hI => ⟨_, ⟨-1, rfl, .inl ⟨rfl, hI⟩⟩, fun n => by
      dsimp only
      rw [slices_IndexFunc_intD_r0, brk_nlt (by omega), slices_IndexFunc_intD_e0_1]⟩) () (fun j hj => by omega)
  exact ⟨r, slices_IndexFunc_intD_l0 n hh ⟨_, rfl⟩, hr⟩
/-- A list without a number. -/
def clearB (xs : List Int) (c : Int) : List Int := xs.filter fun x => !decide (x = c)
theorem filter_next {xs : List Int} {c : Int} {i : Nat} (hi : i < xs.length) : clearB (xs.take (i + 1)) c = clearB (xs.take i) c ++ (if xs.getD i 0 = c then [] else [xs.getD i 0]) := by
  unfold clearB
  rw [take_next hi, List.filter_append, getD_at hi]
  by_cases h : xs[i] = c <;> simp [h]
theorem slices_DeleteFunc_ok (xs : List Int) (c : Int) (hb : xs.length ≤ big47) : slices_DeleteFunc_int_F (xs, ((c, ()), ())) = some ((clearB xs c, ()), ((), ((c, ()), ()))) := by
  obtain ⟨r, e1, e2⟩ := IndexFuncD_ok xs c hb
  rw [big47_eq] at hb
  rw [slices_DeleteFunc_int_main]
  simp only
  rw [e1]
  simp only [Option.bind_some]
  rcases e2 with ⟨rfl, hno⟩ | ⟨k, rfl, hk, hkc, hbef⟩
  · rw [brk_pos (decide_eq_true rfl)]
    have : clearB xs c = xs := by
      unfold clearB
      rw [List.filter_eq_self]
      intro a ha
      obtain ⟨j, hj, rfl⟩ := List.mem_iff_getElem.1 ha
      have := hno j hj
      rw [getD_at hj] at this
      simp [this]
    rw [this]
  · have htk : clearB (xs.take (k + 1)) c = xs.take k := by
      rw [filter_next hk, if_pos hkc, List.append_nil]
      unfold clearB
      rw [List.filter_eq_self]
      intro a ha
      obtain ⟨j, hj, rfl⟩ := List.mem_iff_getElem.1 ha
      rw [List.length_take] at hj
      have := hbef j (by omega)
      rw [getD_at (by omega)] at this
      rw [List.getElem_take]
      simp [this]
    rw [brk_neg (decide_eq_false (fun h : (k : Int) = -1 => by omega)), step_nat k (by omega)]
    obtain ⟨n, v, hh, rfl⟩ := for_loop (σ := Nat × List Int) (G := fun n m z => iterG slices_DeleteFunc_int_t0 slices_DeleteFunc_int_B0 (slices_DeleteFunc_int_K0 xs (c, ())) n (((z.1 : Int), (((k + 1 + m : Nat) : Int), ())), (z.2, ((c, ()), ())))) (xs.length - (k + 1))
      (fun m z => z.2.length = xs.length ∧ z.1 ≤ k + m ∧ z.2.take z.1 = clearB (xs.take (k + 1 + m)) c ∧ z.2.drop (k + 1 + m) = xs.drop (k + 1 + m)) (· = some ((clearB xs c, ()), ((), ((c, ()), ()))))
      (fun m z hm ⟨h1, h2, h3, h4⟩ => by
        obtain ⟨i, a⟩ := z
        simp only at h1 h2 h3 h4 ⊢
        have hj : k + 1 + m < xs.length := by omega
        have hv : a.getD (k + 1 + m) 0 = xs.getD (k + 1 + m) 0 := by
          rw [getD_at (by omega), getD_at hj]
          rw [List.drop_eq_getElem_cons (by omega), List.drop_eq_getElem_cons hj] at h4
          exact (List.cons.inj h4).1
        have hd : a.drop (k + 1 + (m + 1)) = xs.drop (k + 1 + (m + 1)) := by
          rw [List.drop_eq_getElem_cons (by omega), List.drop_eq_getElem_cons hj] at h4
          exact (List.cons.inj h4).2
        by_cases he : xs.getD (k + 1 + m) 0 = c
        · refine .inr ⟨(i, a), ⟨h1, by simp only; omega, ?_, hd⟩, fun n => ?_⟩
          · simp only
            rw [show k + 1 + (m + 1) = (k + 1 + m) + 1 by omega, filter_next hj, if_pos he, List.append_nil]; exact h3
          · rw [slices_DeleteFunc_int_r0, brk_lt (by omega), ck_idx (by omega), rdD_nat, show tI.zero = 0 from rfl, hv, impl_Clear_1_ok, decide_eq_true he]
            simp only [Option.bind_some, Bool.not_true, brk_false]
            rw [step_nat (k + 1 + m) (by omega)]; rfl
        · refine .inr ⟨(i + 1, a.set i (xs.getD (k + 1 + m) 0)), ⟨by simpa using h1, by simp only; omega, ?_, ?_⟩, fun n => ?_⟩
          · simp only
            rw [show k + 1 + (m + 1) = (k + 1 + m) + 1 by omega, filter_next hj, if_neg he, ← h3, drop_set_next (by omega)]
          · simp only
            rw [List.drop_set_of_lt (by omega)]; exact hd
          · rw [slices_DeleteFunc_int_r0, brk_lt (by omega), ck_idx (by omega), rdD_nat, show tI.zero = 0 from rfl, hv, impl_Clear_1_ok, decide_eq_false he]
            simp only [Option.bind_some, Bool.not_false, brk_true]
            rw [ck_idx (by omega), step_nat i (by omega), step_nat (k + 1 + m) (by omega)]; rfl)
      (fun z ⟨h1, h2, h3, h4⟩ => ⟨_, rfl, fun n => by
        obtain ⟨i, a⟩ := z
        simp only at h1 h2 h3 h4 ⊢
        rw [show k + 1 + (xs.length - (k + 1)) = xs.length by omega] at h3
        rw [List.take_length] at h3
        rw [slices_DeleteFunc_int_r0, brk_nlt (by omega), slices_DeleteFunc_int_e0_0, ck_pos (by simp; omega), ck_pos (by simp; omega)]
        rw [Int.toNat_natCast, List.append_assoc, List.take_append_of_le_length (by simp; omega), List.take_take, Nat.min_self, h3]⟩) (k, xs) ⟨rfl, by simp only; omega, by simp only; rw [htk], rfl⟩
    exact slices_DeleteFunc_int_l0 n hh ⟨_, rfl⟩
theorem impl_Clear_ok (xs : List Int) (c : Int) (hb : xs.length ≤ 17592186044415) : impl_Clear_F (xs, (c, ())) = some ((clearB xs c, ()), ((), ((), ()))) := by
  rw [impl_Clear_main, slices_Clone_int_ok _ hb]
  simp only [Option.bind_some]
  rw [slices_DeleteFunc_ok _ _ (by rw [big47_eq]; omega)]
  rfl
theorem clearB_len (xs : List Int) (c : Int) : (clearB xs c).length ≤ xs.length := List.length_filter_le _ _
theorem spec_Clear_ok (xs : List Int) (c : Int) (hb : xs.length ≤ 17592186044414) : spec_Clear_F (xs, (c, ())) = some ((clearB xs c, ()), ((), ((), ()))) := by
  rw [spec_Clear_main]
  obtain ⟨n, v, hh, rfl⟩ := for_loop (σ := List Int) (G := fun n i s => iterG spec_Clear_t0 spec_Clear_B0 (spec_Clear_K0 xs c) n ((xs, (c, ((i : Int), ()))), (s, ()))) xs.length (fun i s => s = clearB (xs.take i) c) (· = some ((clearB xs c, ()), ((), ((), ()))))
    (fun i s hi hI => by
      have hlen : s.length ≤ xs.length := by rw [hI]; exact Nat.le_trans (clearB_len _ _) (by simp; omega)
      by_cases he : xs.getD i 0 = c
      · refine .inr ⟨s, by rw [filter_next hi, if_pos he, List.append_nil]; exact hI, fun n => ?_⟩
        dsimp only
        rw [spec_Clear_r0, brk_lt hi, ck_idx hi, rdD_nat, show tI.zero = 0 from rfl, decide_eq_true he, Bool.not_true, brk_false, step_nat i (by omega)]
      · refine .inr ⟨s ++ [xs.getD i 0], by rw [filter_next hi, if_neg he, hI], fun n => ?_⟩
        dsimp only
        rw [spec_Clear_r0, brk_lt hi, ck_idx hi, rdD_nat, show tI.zero = 0 from rfl, decide_eq_false he, Bool.not_false, brk_true, ck_idx hi, ck_pos (by simp [big47]; omega), step_nat i (by omega)])
    (fun s hI => ⟨_, rfl, fun n => by
      dsimp only
      rw [spec_Clear_r0, brk_nlt (by omega), spec_Clear_e0_0, hI, List.take_length]⟩) [] rfl
  exact spec_Clear_l0 n hh ⟨_, rfl⟩
def Byte (b : List Int) : Prop := ∀ x ∈ b, (0 : Int) ≤ x ∧ x ≤ 255
def imageB (xs : List Int) : Bool := decide (xs.length = 8) && xs.all fun x => decide (0 ≤ x ∧ x ≤ 200)
def cellsB (xs : List Int) : Bool := xs.all fun x => decide (0 ≤ x ∧ x ≤ 200)
theorem cellsB_iff {xs : List Int} : cellsB xs = true ↔ ∀ i, i < xs.length → 0 ≤ xs.getD i 0 ∧ xs.getD i 0 ≤ 200 := by
  unfold cellsB
  rw [List.all_eq_true]
  constructor
  · intro h i hi
    rw [getD_at hi]; exact of_decide_eq_true (h _ (List.getElem_mem hi))
  · intro h x hx
    obtain ⟨i, hi, rfl⟩ := List.mem_iff_getElem.1 hx
    rw [← getD_at (d := 0) hi]; exact decide_eq_true (h i hi)
theorem cellsB_no {xs : List Int} {i : Nat} (hi : i < xs.length) (h : ¬ (0 ≤ xs.getD i 0 ∧ xs.getD i 0 ≤ 200)) : cellsB xs = false := by
  cases hb : cellsB xs with
  | false => rfl
  | true => exact absurd (cellsB_iff.1 hb i hi) h
theorem imageB_eq (xs : List Int) : imageB xs = (decide (xs.length = 8) && cellsB xs) := rfl
theorem spec_ImageOk_ok (xs : List Int) (hb : xs.length ≤ big47) : spec_ImageOk_F (xs, ()) = some ((imageB xs, ()), ((), ())) := by
  rw [big47_eq] at hb
  rw [spec_ImageOk_main]
  obtain ⟨n, v, hh, rfl⟩ := for_loop (σ := Unit) (G := fun n i _ => iterG spec_ImageOk_t0 spec_ImageOk_B0 (spec_ImageOk_K0 xs) n ((xs, ((i : Int), ())), ())) xs.length (fun i _ => ∀ j, j < i → 0 ≤ xs.getD j 0 ∧ xs.getD j 0 ≤ 200) (· = some ((imageB xs, ()), ((), ())))
    (fun i _ hi hI => by
      by_cases h1 : 0 ≤ xs.getD i 0 ∧ xs.getD i 0 ≤ 200
      · refine .inr ⟨(), fun j hj => ?_, fun n => ?_⟩
        · rcases Nat.lt_succ_iff_lt_or_eq.1 hj with h | rfl
          · exact hI j h
          · exact h1
        · dsimp only
          rw [spec_ImageOk_r0, brk_lt hi, ck_idx hi, rdD_nat, show tI.zero = (0 : Int) from rfl, spec_l1In_ok', decide_eq_true h1]
          simp only [Option.bind_some, Bool.not_true, brk_false, step_nat i (by omega)]
      · refine .inl ⟨_, rfl, fun n => ?_⟩
        dsimp only
        rw [spec_ImageOk_r0, brk_lt hi, ck_idx hi, rdD_nat, show tI.zero = (0 : Int) from rfl, spec_l1In_ok', decide_eq_false h1]
        simp only [Option.bind_some, Bool.not_false, brk_true]
        rw [spec_ImageOk_e0_0, imageB_eq, cellsB_no hi h1, Bool.and_false])
    (fun _ hI => ⟨_, rfl, fun n => by
      dsimp only
      rw [spec_ImageOk_r0, brk_nlt (by omega), spec_ImageOk_e0_1, imageB_eq, cellsB_iff.2 hI, Bool.and_true]
      simp only [show ((xs.length : Int) = 8) = (xs.length = 8) from propext (by omega)]⟩) () (fun j hj => by omega)
  exact spec_ImageOk_l0 n hh ⟨_, rfl⟩
theorem impl_ImageOk_1_ok (x : Int) : impl_ImageOk_1_F (x, ()) = some ((!decide (0 ≤ x ∧ x ≤ 200), ()), ((), ())) := by
  rw [impl_ImageOk_1_main, impl_from_ok]; rfl
theorem IndexFuncO_ok (xs : List Int) (hb : xs.length ≤ big47) : ∃ r : Int, slices_IndexFunc_intO_F (xs, ((), ())) = some ((r, ()), ((), ((), ()))) ∧ decide (0 ≤ r) = !cellsB xs := by
  rw [big47_eq] at hb
  rw [slices_IndexFunc_intO_main]
  obtain ⟨n, v, hh, r, rfl, hr⟩ := for_loop (σ := Unit) (G := fun n i _ => iterG slices_IndexFunc_intO_t0 slices_IndexFunc_intO_B0 (slices_IndexFunc_intO_K0 xs ()) n ((xs, ((xs.length : Int), ((i : Int), ()))), ())) xs.length (fun i _ => ∀ j, j < i → 0 ≤ xs.getD j 0 ∧ xs.getD j 0 ≤ 200) (fun v => ∃ r : Int, v = some ((r, ()), ((), ((), ()))) ∧ decide (0 ≤ r) = !cellsB xs)
    (fun i _ hi hI => by
      by_cases h1 : 0 ≤ xs.getD i 0 ∧ xs.getD i 0 ≤ 200
      · refine .inr ⟨(), fun j hj => ?_, fun n => ?_⟩
        · rcases Nat.lt_succ_iff_lt_or_eq.1 hj with h | rfl
          · exact hI j h
          · exact h1
        · dsimp only
          rw [slices_IndexFunc_intO_r0, brk_lt hi, ck_idx hi, rdD_nat, show tI.zero = (0 : Int) from rfl, impl_ImageOk_1_ok, decide_eq_true h1]
          simp only [Option.bind_some, Bool.not_true, brk_false, step_nat i (by omega)]
      · refine .inl ⟨_, ⟨(i : Int), rfl, by rw [cellsB_no hi h1]; simp⟩, fun n => ?_⟩
        dsimp only
        rw [slices_IndexFunc_intO_r0, brk_lt hi, ck_idx hi, rdD_nat, show tI.zero = (0 : Int) from rfl, impl_ImageOk_1_ok, decide_eq_false h1]
        simp only [Option.bind_some, Bool.not_false, brk_true]
        rw [slices_IndexFunc_intO_e0_0])
    (fun _ hI => ⟨_, ⟨-1, rfl, by rw [cellsB_iff.2 hI]; rfl⟩, fun n => by
      dsimp only
      rw [slices_IndexFunc_intO_r0, brk_nlt (by omega), slices_IndexFunc_intO_e0_1]⟩) () (fun j hj => by omega)
  exact ⟨r, slices_IndexFunc_intO_l0 n hh ⟨_, rfl⟩, hr⟩
theorem impl_ImageOk_ok (xs : List Int) (hb : xs.length ≤ big47) : impl_ImageOk_F (xs, ()) = some ((imageB xs, ()), ((), ())) := by
  obtain ⟨r, h1, h2⟩ := IndexFuncO_ok xs hb
  rw [impl_ImageOk_main, slices_ContainsFunc_int_main, h1]
  simp only [Option.bind_some, h2, Bool.not_not]
  rw [imageB_eq]
  by_cases h : xs.length = 8
  · rw [brk_pos (decide_eq_true (by omega)), decide_eq_true h, Bool.true_and]
  · rw [brk_neg (decide_eq_false (by omega)), decide_eq_false h, Bool.false_and]
theorem spec_ImageNew_ok : spec_ImageNew_F () = some ((List.replicate 8 (0 : Int), ()), ()) := by rw [spec_ImageNew_main]; rfl
theorem impl_ImageNew_ok : impl_ImageNew_F () = some ((List.replicate 8 (0 : Int), ()), ()) := by rw [impl_ImageNew_main]; rfl
def ltB (v : Int) : Int → Bool := fun x => decide (x < v)
/-- A list with a cell where it comes by its size, once. -/
def markB (xs : List Int) (v : Int) : List Int := if v ∈ xs ∨ ¬ (0 ≤ v ∧ v ≤ 7) then xs else xs.takeWhile (ltB v) ++ [v] ++ xs.dropWhile (ltB v)
theorem while_at {p : Int → Bool} : ∀ {xs : List Int} {i : Nat}, i ≤ xs.length → (∀ j, j < i → p (xs.getD j 0) = true) → (i = xs.length ∨ p (xs.getD i 0) = false) → xs.takeWhile p = xs.take i ∧ xs.dropWhile p = xs.drop i
  | [], i, hi, _, _ => by simp
  | x :: xs, 0, hi, _, hn => by
    have : p x = false := by
      rcases hn with hn | hn
      · simp at hn
      · simpa using hn
    simp [this]
  | x :: xs, i + 1, hi, h, hn => by
    have h0 : p x = true := by simpa using h 0 (by omega)
    obtain ⟨a, b⟩ := while_at (xs := xs) (i := i) (by simpa using hi) (fun j hj => by simpa using h (j + 1) (by omega)) (by
      rcases hn with hn | hn
      · left; simpa using hn
      · right; simpa using hn)
    simp [h0, a, b]
theorem markB_len (xs : List Int) (v : Int) : (markB xs v).length ≤ xs.length + 1 := by
  unfold markB
  split
  · omega
  · have := congrArg List.length (List.takeWhile_append_dropWhile (p := ltB v) (l := xs))
    simp only [List.length_append, List.length_cons, List.length_nil] at this ⊢
    omega
theorem markB_at {xs : List Int} {v : Int} {i : Nat} (hv : v ∉ xs) (h7 : 0 ≤ v ∧ v ≤ 7) (hi : i ≤ xs.length) (h : ∀ j, j < i → xs.getD j 0 < v) (hn : i = xs.length ∨ ¬ xs.getD i 0 < v) : markB xs v = xs.take i ++ [v] ++ xs.drop i := by
  obtain ⟨a, b⟩ := while_at (p := ltB v) hi (fun j hj => decide_eq_true (h j hj)) (hn.imp id fun h => decide_eq_false h)
  unfold markB
  rw [if_neg (fun h => h.elim hv fun h => h h7), a, b]
theorem getD_mem {xs : List Int} {i : Nat} (hi : i < xs.length) : xs.getD i 0 ∈ xs := by
  rw [getD_at hi]; exact List.getElem_mem hi
theorem spec_Mark_ok (xs : List Int) (v : Int) (hb : xs.length ≤ 4194304) : spec_Mark_F (xs, (v, ())) = some ((markB xs v, ()), ((), ((), ()))) := by
  rw [spec_Mark_main, spec_l2Has_ok xs v (Nat.le_trans hb (by rw [big47_eq]; omega))]
  simp only [Option.bind_some]
  have hck : ∀ R (a : Option R), ck (decide ((([] : List Int).length + xs.length) * 8 ≤ big47)) a = a := fun R a => ck_pos (decide_eq_true (by rw [big47_eq, List.length_nil]; omega)) a
  by_cases hv : v ∈ xs
  · rw [decide_eq_true hv, brk_true, hck, markB, if_pos (.inl hv)]; rfl
  · rw [decide_eq_false hv, brk_false, spec_l1In_ok']
    simp only [Option.bind_some]
    by_cases h7 : 0 ≤ v ∧ v ≤ 7
    · rw [decide_eq_true h7, Bool.not_true, brk_false]
      have fin : ∀ i : Nat, i ≤ xs.length → (∀ j, j < i → xs.getD j 0 < v) → (i = xs.length ∨ ¬ xs.getD i 0 < v) → spec_Mark_K0 xs v (.exit 0) (spec_Mark_x0_0 xs v i) = some ((markB xs v, ()), ((), ((), ()))) := fun i hi h hn => by
        rw [spec_Mark_e0_0, markB_at hv h7 hi h hn]
        simp only [Int.toNat_natCast, Int.toNat_zero, List.drop_zero, List.take_length, List.nil_append]
        rw [ck_pos (by simp; omega), ck_pos (decide_eq_true (by rw [big47_eq]; simp only [List.length_nil, List.length_take]; omega)), ck_pos (decide_eq_true (by rw [big47_eq]; simp only [List.length_take, List.length_cons, List.length_nil]; omega)), ck_pos (by simp; omega),
          ck_pos (decide_eq_true (by rw [big47_eq]; simp only [List.length_append, List.length_take, List.length_cons, List.length_nil, List.length_drop]; omega))]
      obtain ⟨n, w, h, rfl⟩ := for_loop (σ := Unit) (G := fun n i _ => iterG spec_Mark_t0 spec_Mark_B0 (spec_Mark_K0 xs v) n ((xs, (v, ((i : Int), ()))), ())) xs.length (fun i _ => ∀ j, j < i → xs.getD j 0 < v) (· = some ((markB xs v, ()), ((), ((), ()))))
        (fun i _ hi hI => by
          by_cases hx : xs.getD i 0 < v
          · refine .inr ⟨(), fun j hj => ?_, fun n => ?_⟩
            · rcases Nat.lt_succ_iff_lt_or_eq.1 hj with h | rfl
              · exact hI j h
              · exact hx
            · dsimp only
              rw [spec_Mark_r0, brk_lt hi, ck_idx hi, rdD_nat, show tI.zero = 0 from rfl, decide_eq_true hx, brk_true, step_nat i (by omega)]
          · refine .inl ⟨_, rfl, fun n => ?_⟩
            dsimp only
            rw [spec_Mark_r0, brk_lt hi, ck_idx hi, rdD_nat, show tI.zero = 0 from rfl, decide_eq_false hx, brk_false, fin i (Nat.le_of_lt hi) hI (.inr hx)])
        (fun _ hI => ⟨_, rfl, fun n => by
          dsimp only
          rw [spec_Mark_r0, brk_nlt (by omega), fin xs.length (Nat.le_refl _) hI (.inl rfl)]⟩) () (fun j hj => by omega)
      exact spec_Mark_l0 n h ⟨_, rfl⟩
    · rw [decide_eq_false h7, Bool.not_false, brk_true, hck, markB, if_pos (.inr h7)]; rfl
theorem impl_inserted_1_ok (x c : Int) : impl_inserted_1_F (x, (c, ())) = some ((decide (c < x), ()), ((), (c, ()))) := impl_inserted_1_main x c
theorem IndexFuncI_ok (xs : List Int) (c : Int) (hb : xs.length ≤ big47) : ∃ r : Int, slices_IndexFunc_intI_F (xs, ((c, ()), ())) = some ((r, ()), ((), ((c, ()), ()))) ∧
    ((r = -1 ∧ ∀ j, j < xs.length → ¬ c < xs.getD j 0) ∨ ∃ k : Nat, r = k ∧ k < xs.length ∧ c < xs.getD k 0 ∧ ∀ j, j < k → ¬ c < xs.getD j 0) := by
  rw [big47_eq] at hb
  rw [slices_IndexFunc_intI_main]
  obtain ⟨n, v, hh, r, rfl, hr⟩ := for_loop (σ := Unit) (G := fun n i s => iterG slices_IndexFunc_intI_t0 slices_IndexFunc_intI_B0 (slices_IndexFunc_intI_K0 xs (c, ())) n ((xs, ((xs.length : Int), ((i : Int), ()))), ((c, ()), ()))) xs.length (fun i s => ∀ j, j < i → ¬ c < xs.getD j 0)
    (fun v => ∃ r : Int, v = some ((r, ()), ((), ((c, ()), ()))) ∧ ((r = -1 ∧ ∀ j, j < xs.length → ¬ c < xs.getD j 0) ∨ ∃ k : Nat, r = k ∧ k < xs.length ∧ c < xs.getD k 0 ∧ ∀ j, j < k → ¬ c < xs.getD j 0))
    (fun i s hi hI => by
      by_cases he : c < xs.getD i 0
      · refine .inl ⟨_, ⟨(i : Int), rfl, .inr ⟨i, rfl, hi, he, hI⟩⟩, fun n => ?_⟩
        dsimp only
        rw [slices_IndexFunc_intI_r0, brk_lt hi, ck_idx hi, rdD_nat, show tI.zero = 0 from rfl, impl_inserted_1_ok, decide_eq_true he]
        simp only [Option.bind_some, brk_true]
        rw [slices_IndexFunc_intI_e0_0]
      · refine .inr ⟨(), fun j hj => ?_, fun n => ?_⟩
        · rcases Nat.lt_succ_iff_lt_or_eq.1 hj with h | rfl
          · exact hI j h
          · exact he
        · dsimp only
          rw [slices_IndexFunc_intI_r0, brk_lt hi, ck_idx hi, rdD_nat, show tI.zero = 0 from rfl, impl_inserted_1_ok, decide_eq_false he]
          simp only [Option.bind_some, brk_false]
          rw [step_nat i (by omega)])
    (fun s hI => ⟨_, ⟨-1, rfl, .inl ⟨rfl, hI⟩⟩, fun n => by
      dsimp only
      rw [slices_IndexFunc_intI_r0, brk_nlt (by omega), slices_IndexFunc_intI_e0_1]⟩) () (fun j hj => by omega)
  exact ⟨r, slices_IndexFunc_intI_l0 n hh ⟨_, rfl⟩, hr⟩
theorem insI_ok (xs : List Int) (i : Nat) (v : Int) (hi : i ≤ xs.length) (hb : xs.length ≤ 4194304) : slices_Insert_int_F (xs, ((i : Int), ([v], ()))) = some ((xs.take i ++ [v] ++ xs.drop i, ()), ((), ((), ((), ())))) := by
  show insF xs i [v] = _
  unfold insF
  rw [if_pos ⟨by omega, by show (i : Int) ≤ ((xs.length : Nat) : Int); omega, by simp, by omega, by simp⟩]
  simp
theorem impl_Mark_ok (xs : List Int) (v : Int) (hb : xs.length ≤ 4194304) : impl_Mark_F (xs, (v, ())) = some ((markB xs v, ()), ((), ((), ()))) := by
  have hb2 : xs.length ≤ big47 := Nat.le_trans hb (by rw [big47_eq]; omega)
  rw [impl_Mark_main, impl_isCell_ok]
  simp only [Option.bind_some]
  by_cases h7 : 0 ≤ v ∧ v ≤ 7
  · rw [decide_eq_true h7, Bool.not_true, brk_false, impl_inserted_main, slices_Clone_int_ok xs (by omega), slices_Contains_int_ok xs v hb2]
    simp only [Option.bind_some]
    by_cases hv : v ∈ xs
    · rw [decide_eq_true hv, brk_true, markB, if_pos (.inl hv)]; rfl
    · rw [decide_eq_false hv, brk_false]
      obtain ⟨r, hr, hc⟩ := IndexFuncI_ok xs v hb2
      rw [hr]
      simp only [Option.bind_some]
      have low : ∀ j, j < xs.length → ¬ v < xs.getD j 0 → xs.getD j 0 < v := fun j hj h => by
        have hne : xs.getD j 0 ≠ v := fun he => hv (he ▸ getD_mem hj)
        omega
      rcases hc with ⟨rfl, hall⟩ | ⟨k, rfl, hk, hgt, hall⟩
      · rw [brk_pos (show decide ((-1 : Int) < 0) = true from rfl), insI_ok xs xs.length v (Nat.le_refl _) hb, markB_at hv h7 (Nat.le_refl _) (fun j hj => low j hj (hall j hj)) (.inl rfl)]
        rfl
      · rw [brk_nneg (by omega), insI_ok xs k v (Nat.le_of_lt hk) hb, markB_at hv h7 (Nat.le_of_lt hk) (fun j hj => low j (by omega) (hall j hj)) (.inr (by omega))]
        rfl
  · rw [decide_eq_false h7, Bool.not_false, brk_true, slices_Clone_int_ok xs (by omega), markB, if_pos (.inr h7)]; rfl
theorem growI_ok (n : Int) (h0 : 0 ≤ n) (hn : n ≤ 1099511627776) : slices_Grow_int_F (([] : List Int), (n, ())) = some ((([] : List Int), ()), ((), ((), ()))) := by
  show growF [] n = _
  unfold growF
  rw [if_pos ⟨h0, hn, by simp⟩]
theorem slices_Concat_int_ok (a b : List Int) (ha : a.length ≤ 4194304) (hb : b.length ≤ 4194304) : slices_Concat_int_F ([a, b], ()) = some ((a ++ b, ()), ((), ())) := by
  rw [slices_Concat_int_main]
  have hi0 : (decide ((0 : Int) ≤ 0) && decide ((0 : Int) < (([a, b] : List (List Int)).length : Int))) = true := by simp
  have hi1 : (decide ((0 : Int) ≤ 1) && decide ((1 : Int) < (([a, b] : List (List Int)).length : Int))) = true := by simp
  have hl2 : iterG slices_Concat_int_t2 slices_Concat_int_B2 (slices_Concat_int_K2 [a, b]) 3 (([a, b], ((2 : Int), ((0 : Int), ()))), (([] : List Int), ())) = some ((a ++ b, ()), ((), ())) := by
    rw [slices_Concat_int_r2, brk_pos (by decide), ck_pos hi0, ck_pos (decide_eq_true (by show (([] : List Int).length + a.length) * 8 ≤ big47; rw [big47_eq, List.length_nil]; omega))]
    rw [show IntKind.i64.wrap ((0 : Int) + 1) = 1 from rfl, slices_Concat_int_r2, brk_pos (by decide), ck_pos hi1, ck_pos (decide_eq_true (by show (([] ++ a : List Int).length + b.length) * 8 ≤ big47; rw [big47_eq, List.length_append, List.length_nil]; omega))]
    rw [show IntKind.i64.wrap ((1 : Int) + 1) = 2 from rfl, slices_Concat_int_r2, brk_neg (by decide), slices_Concat_int_e2_0]
    rfl
  have hl0 : iterG slices_Concat_int_t0 slices_Concat_int_B0 (slices_Concat_int_K0 [a, b]) 3 (([a, b], ((0 : Int), ([a, b], ((2 : Int), ((0 : Int), ()))))), ()) = some ((a ++ b, ()), ((), ())) := by
    have e1 : IntKind.i64.wrap ((0 : Int) + ((rdD tIs [a, b] (0 : Int)).length : Int)) = (a.length : Int) := by
      rw [show rdD tIs [a, b] (0 : Int) = a from rfl, wrap64 (by omega) (by omega)]; omega
    have e2 : IntKind.i64.wrap ((a.length : Int) + ((rdD tIs [a, b] (1 : Int)).length : Int)) = (a.length : Int) + (b.length : Int) := by
      rw [show rdD tIs [a, b] (1 : Int) = b from rfl, wrap64 (by omega) (by omega)]
    rw [slices_Concat_int_r0, brk_pos (by decide), ck_pos hi0, e1, brk_nneg (by omega), show IntKind.i64.wrap ((0 : Int) + 1) = 1 from rfl]
    rw [slices_Concat_int_r0, brk_pos (by decide), ck_pos hi1, e2, brk_nneg (by omega), show IntKind.i64.wrap ((1 : Int) + 1) = 2 from rfl]
    rw [slices_Concat_int_r0, brk_neg (by decide), slices_Concat_int_e0_0, growI_ok _ (by omega) (by omega)]
    exact slices_Concat_int_l2 3 hl2 ⟨_, rfl⟩
  exact slices_Concat_int_l0 3 hl0 ⟨_, rfl⟩
/-- Marks put together, one behind the other. -/
def unionB (a b : List Int) : List Int := (a ++ b).foldl markB []
theorem foldl_take {xs : List Int} {i : Nat} (hi : i < xs.length) (acc : List Int) : (xs.take (i + 1)).foldl markB acc = markB ((xs.take i).foldl markB acc) (xs.getD i 0) := by
  rw [take_next hi, List.foldl_append, getD_at hi]; rfl
theorem foldl_len : ∀ (xs acc : List Int), (xs.foldl markB acc).length ≤ acc.length + xs.length
  | [], acc => by simp
  | x :: xs, acc => by
    have h1 := foldl_len xs (markB acc x)
    have h2 := markB_len acc x
    simp only [List.foldl_cons, List.length_cons]
    omega
theorem impl_Union_ok (a b : List Int) (ha : a.length ≤ 1500000) (hb : b.length ≤ 1500000) : impl_Union_F (a, (b, ())) = some ((unionB a b, ()), ((), ((), ()))) := by
  rw [impl_Union_main, slices_Concat_int_ok a b (by omega) (by omega)]
  simp only [Option.bind_some]
  unfold unionB
  have hl : (a ++ b).length ≤ 3000000 := by rw [List.length_append]; omega
  generalize a ++ b = xs at hl
  obtain ⟨n, v, h, rfl⟩ := for_loop (σ := List Int) (G := fun n i s => iterG impl_Union_t0 impl_Union_B0 (impl_Union_K0 a b) n (((xs.length : Int), ((i : Int), ())), (xs, (s, ())))) xs.length (fun i s => s = (xs.take i).foldl markB []) (· = some ((xs.foldl markB [], ()), ((), ((), ()))))
    (fun i s hi hI => .inr ⟨_, (foldl_take hi []).symm, fun n => by
      have hs := foldl_len (xs.take i) []
      rw [← hI] at hs
      simp only [List.length_nil, List.length_take] at hs
      dsimp only
      rw [impl_Union_r0, brk_lt hi, ck_idx hi, rdD_nat, show tI.zero = 0 from rfl, impl_Mark_ok s _ (by omega)]
      simp only [Option.bind_some]
      rw [step_nat i (by omega), hI]⟩)
    (fun s hI => ⟨_, rfl, fun n => by
      dsimp only
      rw [impl_Union_r0, brk_nlt (by omega), impl_Union_e0_0, hI, List.take_length]⟩) ([] : List Int) rfl
  exact impl_Union_l0 n h ⟨_, rfl⟩
theorem spec_Union_ok (a b : List Int) (ha : a.length ≤ 1500000) (hb : b.length ≤ 1500000) : spec_Union_F (a, (b, ())) = some ((unionB a b, ()), ((), ((), ()))) := by
  rw [spec_Union_main]
  unfold unionB
  rw [List.foldl_append]
  have two : ∀ acc : List Int, acc.length ≤ 1500000 → loopG spec_Union_t2 spec_Union_B2 (spec_Union_K2 a b) ((b, ((0 : Int), ())), (acc, ())) = some ((b.foldl markB acc, ()), ((), ((), ()))) := fun acc hacc => by
    obtain ⟨n, v, h, rfl⟩ := for_loop (σ := List Int) (G := fun n i s => iterG spec_Union_t2 spec_Union_B2 (spec_Union_K2 a b) n ((b, ((i : Int), ())), (s, ()))) b.length (fun i s => s = (b.take i).foldl markB acc) (· = some ((b.foldl markB acc, ()), ((), ((), ()))))
      (fun i s hi hI => .inr ⟨_, (foldl_take hi acc).symm, fun n => by
        have hs := foldl_len (b.take i) acc
        rw [← hI] at hs
        simp only [List.length_take] at hs
        dsimp only
        rw [spec_Union_r2, brk_lt hi, ck_idx hi, rdD_nat, show tI.zero = 0 from rfl, spec_Mark_ok s _ (by omega)]
        simp only [Option.bind_some]
        rw [step_nat i (by omega), hI]⟩)
      (fun s hI => ⟨_, rfl, fun n => by
        dsimp only
        rw [spec_Union_r2, brk_nlt (by omega), spec_Union_e2_0, hI, List.take_length]⟩) acc rfl
    exact spec_Union_l2 n h ⟨_, rfl⟩
  obtain ⟨n, v, h, rfl⟩ := for_loop (σ := List Int) (G := fun n i s => iterG spec_Union_t0 spec_Union_B0 (spec_Union_K0 a b) n ((a, (b, ((i : Int), ()))), (s, ()))) a.length (fun i s => s = (a.take i).foldl markB []) (· = some ((b.foldl markB (a.foldl markB []), ()), ((), ((), ()))))
    (fun i s hi hI => .inr ⟨_, (foldl_take hi []).symm, fun n => by
      have hs := foldl_len (a.take i) []
      rw [← hI] at hs
      simp only [List.length_nil, List.length_take] at hs
      dsimp only
      rw [spec_Union_r0, brk_lt hi, ck_idx hi, rdD_nat, show tI.zero = 0 from rfl, spec_Mark_ok s _ (by omega)]
      simp only [Option.bind_some]
      rw [step_nat i (by omega), hI]⟩)
    (fun s hI => ⟨_, rfl, fun n => by
      have hs := foldl_len a []
      rw [List.length_nil] at hs
      dsimp only
      rw [spec_Union_r0, brk_nlt (by omega), spec_Union_e0_0, hI, List.take_length, two _ (by omega)]⟩) ([] : List Int) rfl
  exact spec_Union_l0 n h ⟨_, rfl⟩
/-- A cursor that stands well. -/
structure CurOk (c : tL1Cur.D) : Prop where
  len : List.length c.1 ≤ 1048576
  byte : Byte c.1
  lo : (0 : Int) ≤ c.2.1
  hi : c.2.1 ≤ (1048576 : Int)
theorem and_mask (x : Int) (m : Nat) (hm : m < 9223372036854775808) : 0 ≤ andN .i64 x (m : Int) ∧ andN .i64 x (m : Int) ≤ m := by
  have h : (BitVec.ofInt IntKind.i64.bits x &&& BitVec.ofInt IntKind.i64.bits (m : Int)).toNat ≤ m := by
    rw [BitVec.toNat_and]
    refine Nat.le_trans Nat.and_le_right ?_
    rw [BitVec.ofInt_natCast, BitVec.toNat_ofNat]
    exact Nat.mod_le _ _
  unfold andN
  rw [wrap64 (by omega) (by omega)]
  omega
theorem and_mask' (x m : Int) (h0 : 0 ≤ m) (hm : m < 9223372036854775808) : 0 ≤ andN .i64 x m ∧ andN .i64 x m ≤ m := by
  obtain ⟨n, rfl⟩ := Int.eq_ofNat_of_zero_le h0
  exact and_mask x n (by omega)
theorem spec_l1New_ok (code : List Int) (hl : code.length ≤ 1048576) (hb : Byte code) : ∃ c, CurOk c ∧ spec_l1New_F (code, ()) = some ((c, ()), ((), ())) := by
  rw [spec_l1New_main]
  obtain ⟨n, v, hh, c, hc, rfl⟩ := for_loop (σ := Int) (G := fun n i s => iterG spec_l1New_t0 spec_l1New_B0 (spec_l1New_K0 code) n ((code, (s, ((i : Int), ()))), ())) code.length (fun i s => True) (fun v => ∃ c, CurOk c ∧ v = some ((c, ()), ((), ())))
    (fun i s hi _ => by
      by_cases h4 : (i : Int) < 4000
      · refine .inr ⟨andN IntKind.i64 (IntKind.i64.wrap ((IntKind.i64.wrap ((IntKind.i64.wrap (s * (131 : Int))) + (IntKind.i64.wrap (code.getD i 0)))) + (7 : Int))) (1073741823 : Int), trivial, fun n => ?_⟩
        dsimp only
        rw [spec_l1New_r0, brk_lt hi, brk_pos (decide_eq_true h4), ck_idx hi, rdD_nat, show tY.zero = 0 from rfl, step_nat i (by omega)]
      · refine .inl ⟨_, ⟨(code, ((0 : Int), (s, ()))), ⟨hl, hb, Int.le_refl _, by simp⟩, rfl⟩, fun n => ?_⟩
        dsimp only
        rw [spec_l1New_r0, brk_lt hi, brk_neg (decide_eq_false h4), spec_l1New_e0_0])
    (fun s _ => ⟨_, ⟨(code, ((0 : Int), (s, ()))), ⟨hl, hb, Int.le_refl _, by simp⟩, rfl⟩, fun n => by
      dsimp only
      rw [spec_l1New_r0, brk_nlt (by omega), spec_l1New_e0_0]⟩) _ trivial
  exact ⟨c, hc, spec_l1New_l0 n hh ⟨_, rfl⟩⟩
theorem spec_l1Byte_ok {c : tL1Cur.D} (h : CurOk c) : ∃ x c', CurOk c' ∧ (0 : Int) ≤ x ∧ x ≤ 255 ∧ spec_l1Byte_F (c, ()) = some ((x, ()), (c', ())) := by
  obtain ⟨hl, hb, h0, h1⟩ := h
  obtain ⟨b, i, hh, u⟩ : List Int × Int × Int × Unit := c
  cases u
  simp only at hl hb h0 h1
  rw [spec_l1Byte_main]
  simp only
  by_cases hi : i < (List.length b : Int)
  · rw [brk_pos (decide_eq_true hi), ck_pos (by simp; exact ⟨h0, hi⟩)]
    have hm := fun z => and_mask' z 255 (by omega) (by omega)
    refine ⟨_, (b, (IntKind.i64.wrap (i + 1), (_, ()))), ⟨hl, hb, ?_, ?_⟩, (hm _).1, (hm _).2, rfl⟩
    · show (0 : Int) ≤ IntKind.i64.wrap (i + 1)
      rw [wrap64 (by omega) (by omega)]; omega
    · show IntKind.i64.wrap (i + 1) ≤ (1048576 : Int)
      rw [wrap64 (by omega) (by omega)]; omega
  · rw [brk_neg (decide_eq_false hi)]
    have hm := fun z => and_mask' z 255 (by omega) (by omega)
    exact ⟨_, (b, (i, (_, ()))), ⟨hl, hb, h0, h1⟩, (hm _).1, (hm _).2, rfl⟩
theorem tmod_in {x n : Int} (hx : 0 ≤ x) (hn : 0 < n) : 0 ≤ x.tmod n ∧ x.tmod n < n := ⟨Int.tmod_nonneg _ hx, Int.tmod_lt_of_pos _ hn⟩
theorem spec_l1Below_ok {c : tL1Cur.D} (h : CurOk c) (n : Int) : ∃ x c', CurOk c' ∧ (0 : Int) ≤ x ∧ (0 < n → x < n) ∧ spec_l1Below_F (c, (n, ())) = some ((x, ()), (c', ((), ()))) := by
  rw [spec_l1Below_main]
  by_cases hn : n ≤ 0
  · rw [brk_pos (decide_eq_true hn)]
    exact ⟨0, c, h, by omega, fun h => by omega, rfl⟩
  · rw [brk_neg (decide_eq_false hn)]
    by_cases h2 : n ≤ 256
    · rw [brk_pos (decide_eq_true h2)]
      obtain ⟨x, c1, hc, x0, x1, e⟩ := spec_l1Byte_ok h
      have e : spec_l1Byte_F ((c.1, (c.2.1, (c.2.2.1, ()))), ()) = _ := e
      rw [e]
      simp only [Option.bind_some]
      rw [ck_pos (decide_eq_true (by omega))]
      obtain ⟨a, b⟩ := tmod_in x0 (by omega : 0 < n)
      exact ⟨_, c1, hc, a, fun _ => b, rfl⟩
    · rw [brk_neg (decide_eq_false h2)]
      obtain ⟨x, c1, hc1, x0, x1, e1⟩ := spec_l1Byte_ok h
      obtain ⟨y, c2, hc2, y0, y1, e2⟩ := spec_l1Byte_ok hc1
      obtain ⟨z, c3, hc3, z0, z1, e3⟩ := spec_l1Byte_ok hc2
      obtain ⟨w, c4, hc4, w0, w1, e4⟩ := spec_l1Byte_ok hc3
      have e1 : spec_l1Byte_F ((c.1, (c.2.1, (c.2.2.1, ()))), ()) = _ := e1
      have e2 : spec_l1Byte_F ((c1.1, (c1.2.1, (c1.2.2.1, ()))), ()) = _ := e2
      have e3 : spec_l1Byte_F ((c2.1, (c2.2.1, (c2.2.2.1, ()))), ()) = _ := e3
      have e4 : spec_l1Byte_F ((c3.1, (c3.2.1, (c3.2.2.1, ()))), ()) = _ := e4
      rw [e1]
      simp only [Option.bind_some]
      rw [e2]
      simp only [Option.bind_some]
      rw [e3]
      simp only [Option.bind_some]
      rw [e4]
      simp only [Option.bind_some]
      have w1 : IntKind.i64.wrap (x * (16777216 : Int)) = x * 16777216 := wrap64 (by omega) (by omega)
      have w2 : IntKind.i64.wrap (y * (65536 : Int)) = y * 65536 := wrap64 (by omega) (by omega)
      have w3 : IntKind.i64.wrap (x * 16777216 + y * 65536) = x * 16777216 + y * 65536 := wrap64 (by omega) (by omega)
      have w4 : IntKind.i64.wrap (z * (256 : Int)) = z * 256 := wrap64 (by omega) (by omega)
      have w5 : IntKind.i64.wrap (x * 16777216 + y * 65536 + z * 256) = x * 16777216 + y * 65536 + z * 256 := wrap64 (by omega) (by omega)
      have w6 : IntKind.i64.wrap (x * 16777216 + y * 65536 + z * 256 + w) = x * 16777216 + y * 65536 + z * 256 + w := wrap64 (by omega) (by omega)
      rw [w1, w2, w3, w4, w5, w6, ck_pos (decide_eq_true (by omega))]
      obtain ⟨a, b⟩ := tmod_in (x := x * 16777216 + y * 65536 + z * 256 + w) (by omega) (by omega : 0 < n)
      exact ⟨_, c4, hc4, a, fun _ => b, rfl⟩
/-- As the program's text has it, a cursor cell by cell. -/
theorem below_cut {c : tL1Cur.D} (h : CurOk c) (n : Int) : ∃ x c', CurOk c' ∧ (0 : Int) ≤ x ∧ (0 < n → x < n) ∧ spec_l1Below_F ((c.1, (c.2.1, (c.2.2.1, ()))), (n, ())) = some ((x, ()), (c', ((), ()))) := spec_l1Below_ok h n
theorem spec_l1PickInt_ok {c : tL1Cur.D} (h : CurOk c) (l : List Int) (hl : 0 < l.length) (hb : l.length ≤ 1000) : ∃ x c', CurOk c' ∧ x ∈ l ∧ spec_l1PickInt_F (c, (l, ())) = some ((x, ()), (c', ((), ()))) := by
  obtain ⟨x, c1, hc, x0, x1, e⟩ := below_cut h (l.length : Int)
  rw [spec_l1PickInt_main, e]
  simp only [Option.bind_some]
  have x1 := x1 (by omega)
  rw [ck_pos (by simp; exact ⟨x0, x1⟩)]
  obtain ⟨i, rfl⟩ := Int.eq_ofNat_of_zero_le x0
  exact ⟨_, c1, hc, getD_mem (by omega : i < l.length), rfl⟩
theorem pick_cut {c : tL1Cur.D} (h : CurOk c) (l : List Int) (hl : 0 < l.length) (hb : l.length ≤ 1000) : ∃ x c', CurOk c' ∧ x ∈ l ∧ spec_l1PickInt_F ((c.1, (c.2.1, (c.2.2.1, ()))), (l, ())) = some ((x, ()), (c', ((), ()))) := spec_l1PickInt_ok h l hl hb
theorem spec_l1Once_ok {c : tL1Cur.D} (h : CurOk c) (n : Int) : ∃ x c', CurOk c' ∧ spec_l1Once_F (c, (n, ())) = some ((x, ()), (c', ((), ()))) := by
  obtain ⟨x, c1, hc, x0, x1, e⟩ := below_cut h n
  rw [spec_l1Once_main, e]
  exact ⟨_, c1, hc, rfl⟩
theorem once_cut {c : tL1Cur.D} (h : CurOk c) (n : Int) : ∃ x c', CurOk c' ∧ spec_l1Once_F ((c.1, (c.2.1, (c.2.2.1, ()))), (n, ())) = some ((x, ()), (c', ((), ()))) := spec_l1Once_ok h n
/-- Cells, one above the other. -/
structure MS (xs : List Int) : Prop where
  up : xs.Pairwise (· < ·)
  cell : ∀ x ∈ xs, 0 ≤ x ∧ x ≤ 7
theorem MS.nil : MS [] := ⟨List.Pairwise.nil, fun x hx => by cases hx⟩
theorem getD_pair {xs : List Int} (h : xs.Pairwise (· < ·)) {i j : Nat} (hij : i < j) (hj : j < xs.length) : xs.getD i 0 < xs.getD j 0 := by
  rw [getD_at (by omega), getD_at hj]
  exact List.pairwise_iff_getElem.1 h i j (by omega) hj hij
theorem marksB_ms {xs : List Int} : marksB xs = true ↔ MS xs := by
  rw [marksB_iff]
  constructor
  · intro h
    have key : ∀ (d i : Nat), i + d + 1 < xs.length → xs.getD i 0 < xs.getD (i + d + 1) 0 := by
      intro d
      induction d with
      | zero => intro i hi; have := (h (i + 1) (by omega)).2 (by omega); simpa using this
      | succ d ih =>
        intro i hi
        have h1 := ih i (by omega)
        have h2 := (h (i + d + 1 + 1) (by omega)).2 (by omega)
        simp only [Nat.add_sub_cancel] at h2
        rw [show i + (d + 1) + 1 = i + d + 1 + 1 by omega]
        omega
    refine ⟨List.pairwise_iff_getElem.2 fun i j hi hj hij => ?_, fun x hx => ?_⟩
    · have := key (j - i - 1) i (by omega)
      rw [show i + (j - i - 1) + 1 = j by omega, getD_at hi, getD_at hj] at this
      exact this
    · obtain ⟨i, hi, rfl⟩ := List.mem_iff_getElem.1 hx
      have := (h i hi).1
      rwa [getD_at hi] at this
  · intro h i hi
    refine ⟨h.cell _ (getD_mem hi), fun h0 => getD_pair h.up (by omega) hi⟩
theorem mem_markB {xs : List Int} {v x : Int} : x ∈ markB xs v ↔ x ∈ xs ∨ (x = v ∧ 0 ≤ v ∧ v ≤ 7) := by
  have hsplit : x ∈ xs ↔ x ∈ xs.takeWhile (ltB v) ∨ x ∈ xs.dropWhile (ltB v) := by
    conv => lhs; rw [← List.takeWhile_append_dropWhile (p := ltB v) (l := xs)]
    exact List.mem_append
  unfold markB
  split
  · rename_i h
    constructor
    · exact .inl
    · rintro (hx | ⟨rfl, h7⟩)
      · exact hx
      · rcases h with h | h
        · exact h
        · exact absurd h7 h
  · rename_i h
    have h7 : 0 ≤ v ∧ v ≤ 7 := Classical.byContradiction fun hh => h (.inr hh)
    rw [List.mem_append, List.mem_append, List.mem_singleton, hsplit]
    constructor
    · rintro ((hx | hx) | hx)
      · exact .inl (.inl hx)
      · exact .inr ⟨hx, h7⟩
      · exact .inl (.inr hx)
    · rintro ((hx | hx) | ⟨hx, _⟩)
      · exact .inl (.inl hx)
      · exact .inr hx
      · exact .inl (.inr hx)
theorem take_lt {v : Int} : ∀ {xs : List Int}, ∀ x ∈ xs.takeWhile (ltB v), x < v
  | [], x, hx => by simp at hx
  | y :: xs, x, hx => by
    by_cases hy : y < v
    · rw [List.takeWhile_cons_of_pos (p := ltB v) (show ltB v y = true from decide_eq_true hy)] at hx
      rcases List.mem_cons.1 hx with rfl | hx
      · exact hy
      · exact take_lt x hx
    · rw [List.takeWhile_cons_of_neg (by simp [ltB, hy])] at hx
      cases hx
theorem drop_gt {v : Int} : ∀ {xs : List Int}, xs.Pairwise (· < ·) → v ∉ xs → ∀ x ∈ xs.dropWhile (ltB v), v < x
  | [], _, _, x, hx => by simp at hx
  | y :: xs, hp, hv, x, hx => by
    rw [List.pairwise_cons] at hp
    by_cases hy : y < v
    · rw [List.dropWhile_cons_of_pos (p := ltB v) (show ltB v y = true from decide_eq_true hy)] at hx
      exact drop_gt hp.2 (fun h => hv (by simp [h])) x hx
    · rw [List.dropWhile_cons_of_neg (by simp [ltB, hy])] at hx
      have hne : v ≠ y := fun h => hv (by simp [h])
      rcases List.mem_cons.1 hx with rfl | hx
      · omega
      · have := hp.1 x hx; omega
theorem MS.mark {xs : List Int} (h : MS xs) (v : Int) : MS (markB xs v) := by
  refine ⟨?_, fun x hx => ?_⟩
  · unfold markB
    split
    · exact h.up
    · rename_i hn
      have hv : v ∉ xs := fun hh => hn (.inl hh)
      refine List.pairwise_append.2 ⟨List.pairwise_append.2 ⟨h.up.sublist (List.takeWhile_sublist _), List.pairwise_singleton _ _, fun a ha b hb => ?_⟩, h.up.sublist (List.dropWhile_sublist _), fun a ha b hb => ?_⟩
      · rw [List.mem_singleton] at hb
        subst hb; exact take_lt a ha
      · have hb' := drop_gt h.up hv b hb
        rcases List.mem_append.1 ha with ha | ha
        · have := take_lt a ha; omega
        · rw [List.mem_singleton] at ha; omega
  · rcases mem_markB.1 hx with hx | ⟨rfl, h7⟩
    · exact h.cell x hx
    · exact h7
theorem MS.fold : ∀ (xs : List Int) {acc : List Int}, MS acc → MS (xs.foldl markB acc)
  | [], _, h => h
  | x :: xs, _, h => MS.fold xs (h.mark x)
theorem mem_fold : ∀ (xs : List Int) {acc : List Int} {z : Int}, z ∈ xs.foldl markB acc ↔ z ∈ acc ∨ (z ∈ xs ∧ 0 ≤ z ∧ z ≤ 7)
  | [], acc, z => by simp
  | x :: xs, acc, z => by
    rw [List.foldl_cons, mem_fold xs, mem_markB, List.mem_cons]
    constructor
    · rintro ((h | ⟨rfl, h⟩) | ⟨h, h'⟩)
      · exact .inl h
      · exact .inr ⟨.inl rfl, h⟩
      · exact .inr ⟨.inr h, h'⟩
    · rintro (h | ⟨rfl | h, h'⟩)
      · exact .inl (.inl h)
      · exact .inl (.inr ⟨rfl, h'⟩)
      · exact .inr ⟨h, h'⟩
theorem unionB_ms (a b : List Int) : MS (unionB a b) := MS.fold _ MS.nil
theorem mem_unionB {a b : List Int} {z : Int} : z ∈ unionB a b ↔ (z ∈ a ∨ z ∈ b) ∧ 0 ≤ z ∧ z ≤ 7 := by
  unfold unionB
  rw [mem_fold, List.mem_append]
  simp
theorem mem_clearB {xs : List Int} {v x : Int} : x ∈ clearB xs v ↔ x ∈ xs ∧ x ≠ v := by
  unfold clearB
  simp [List.mem_filter]
theorem sameInts_self (xs : List Int) (hb : xs.length ≤ big47) : laws_sameInts_F (xs, (xs, ())) = some ((true, ()), ((), ((), ()))) := by
  rw [big47_eq] at hb
  rw [laws_sameInts_main, decide_eq_true rfl, Bool.not_true, brk_false]
  obtain ⟨n, v, h, rfl⟩ := for_loop (σ := Unit) (G := fun n i _ => iterG laws_sameInts_t0 laws_sameInts_B0 (laws_sameInts_K0 xs xs) n ((xs, (xs, ((i : Int), ()))), ())) xs.length (fun i _ => True) (· = some ((true, ()), ((), ((), ()))))
    (fun i _ hi _ => .inr ⟨(), trivial, fun n => by
      dsimp only
      rw [laws_sameInts_r0, brk_lt hi, ck_idx hi, ck_idx hi, decide_eq_true rfl, Bool.not_true, brk_false, step_nat i (by omega)]⟩)
    (fun _ _ => ⟨_, rfl, fun n => by
      dsimp only
      rw [laws_sameInts_r0, brk_nlt (by omega), laws_sameInts_e0_1]⟩) () trivial
  exact laws_sameInts_l0 n h ⟨_, rfl⟩
theorem within_ok (xs : List Int) (v : Int) (hb : xs.length ≤ big47) : laws_within_F (xs, (v, ())) = some ((decide (v ∈ xs), ()), ((), ((), ()))) := by
  rw [big47_eq] at hb
  rw [laws_within_main]
  obtain ⟨n, w, h, rfl⟩ := for_loop (σ := Unit) (G := fun n i _ => iterG laws_within_t0 laws_within_B0 (laws_within_K0 xs v) n ((xs, (v, ((i : Int), ()))), ())) xs.length (fun i _ => ∀ j, j < i → xs.getD j 0 ≠ v) (· = some ((decide (v ∈ xs), ()), ((), ((), ()))))
    (fun i _ hi hI => by
      by_cases hx : xs.getD i 0 = v
      · refine .inl ⟨_, rfl, fun n => ?_⟩
        dsimp only
        rw [laws_within_r0, brk_lt hi, ck_idx hi, rdD_nat, show tI.zero = 0 from rfl, decide_eq_true hx, brk_true, laws_within_e0_0, decide_eq_true (hx ▸ getD_mem hi)]
      · refine .inr ⟨(), fun j hj => ?_, fun n => ?_⟩
        · rcases Nat.lt_succ_iff_lt_or_eq.1 hj with h | rfl
          · exact hI j h
          · exact hx
        · dsimp only
          rw [laws_within_r0, brk_lt hi, ck_idx hi, rdD_nat, show tI.zero = 0 from rfl, decide_eq_false hx, brk_false, step_nat i (by omega)])
    (fun _ hI => ⟨_, rfl, fun n => by
      dsimp only
      rw [laws_within_r0, brk_nlt (by omega), laws_within_e0_1, decide_eq_false fun hv => by
        obtain ⟨j, hj, rfl⟩ := List.mem_iff_getElem.1 hv
        exact hI j hj (getD_at hj)]⟩) () (fun j hj => by omega)
  exact laws_within_l0 n h ⟨_, rfl⟩
/-! ### Draws -/
theorem spec_l2DrawMarks_ok {c : tL1Cur.D} (h : CurOk c) : ∃ (out : List Int) (c' : tL1Cur.D), CurOk c' ∧ out.length ≤ 6 ∧ spec_l2DrawMarks_F (c, ()) = some ((out, ()), (c', ())) := by
  rw [spec_l2DrawMarks_main]
  have fin : ∀ (x0 : tL1Cur.D) (out : List Int) (c0 : tL1Cur.D), CurOk c0 → out.length ≤ 5 → ∃ (o : List Int) (c' : tL1Cur.D), CurOk c' ∧ o.length ≤ 6 ∧ spec_l2DrawMarks_K0 x0 (.exit 0) (spec_l2DrawMarks_x0_0 out c0.1 c0.2.1 c0.2.2.1) = some ((o, ()), (c', ())) := fun x0 out c0 hc0 hl0 => by
    obtain ⟨y, c1, hc1, e⟩ := once_cut hc0 10
    rw [spec_l2DrawMarks_e0_0, e]
    simp only [Option.bind_some]
    cases y
    · rw [brk_false]
      exact ⟨out, c1, hc1, by omega, rfl⟩
    · rw [brk_true]
      obtain ⟨z, c2, hc2, z0, e2⟩ := pick_cut hc1 [-1, 0, 7, 8] (by simp) (by simp)
      rw [e2]
      simp only [Option.bind_some]
      rw [ck_pos (decide_eq_true (by rw [big47_eq]; simp; omega))]
      exact ⟨_, c2, hc2, by simp; omega, rfl⟩
  obtain ⟨n, v, hh, out, c', h1, h3, rfl⟩ := for_loop (σ := List Int × tL1Cur.D) (G := fun n i s => iterG spec_l2DrawMarks_t0 spec_l2DrawMarks_B0 (spec_l2DrawMarks_K0 c) n (((i : Int), ()), (s.1, ((s.2.1, (s.2.2.1, (s.2.2.2.1, ()))), ())))) 5 (fun i s => CurOk s.2 ∧ List.length s.1 ≤ i)
    (fun v => ∃ (out : List Int) (c' : tL1Cur.D), CurOk c' ∧ out.length ≤ 6 ∧ v = some ((out, ()), (c', ())))
    (fun i s hi hI => by
      obtain ⟨out, c0⟩ := s
      obtain ⟨hc0, hl0⟩ := hI
      have hl0 : out.length ≤ i := hl0
      obtain ⟨y, c1, hc1, y0, y1, e⟩ := below_cut hc0 5
      by_cases hy : (i : Int) < y
      · obtain ⟨z, c2, hc2, z0, z1, e2⟩ := below_cut hc1 8
        have hz := markB_len out z
        refine .inr ⟨(markB out z, c2), ⟨hc2, by show (markB out z).length ≤ _; omega⟩, fun n => ?_⟩
        dsimp only
        rw [spec_l2DrawMarks_r0, e]
        simp only [Option.bind_some]
        rw [brk_pos (decide_eq_true hy), e2]
        simp only [Option.bind_some]
        rw [spec_Mark_ok out z (by omega)]
        simp only [Option.bind_some]
        rw [step_nat i (by omega)]
      · obtain ⟨o, c', k1, k3, k4⟩ := fin c out c1 hc1 (by omega)
        refine .inl ⟨_, ⟨o, c', k1, k3, rfl⟩, fun n => ?_⟩
        dsimp only
        rw [spec_l2DrawMarks_r0, e]
        simp only [Option.bind_some]
        rw [brk_neg (decide_eq_false hy), k4])
    (fun s hI => by
      obtain ⟨out, c0⟩ := s
      obtain ⟨hc0, hl0⟩ := hI
      have hl0 : out.length ≤ 5 := hl0
      obtain ⟨y, c1, hc1, y0, y1, e⟩ := below_cut hc0 5
      have y1 := y1 (by omega)
      obtain ⟨o, c', k1, k3, k4⟩ := fin c out c1 hc1 (by omega)
      refine ⟨_, ⟨o, c', k1, k3, rfl⟩, fun n => ?_⟩
      dsimp only
      rw [spec_l2DrawMarks_r0, e]
      simp only [Option.bind_some]
      rw [brk_neg (decide_eq_false (by omega)), k4]) (([] : List Int), c) ⟨h, by simp⟩
  exact ⟨out, c', h1, h3, spec_l2DrawMarks_l0 n hh ⟨_, rfl⟩⟩
theorem spec_DrawMark_ok (code : List Int) (hl : code.length ≤ 1048576) (hb : Byte code) : ∃ (m : List Int) (k : Int), m.length ≤ 6 ∧ spec_DrawMark_F (code, ()) = some ((m, (k, ())), ((), ())) := by
  obtain ⟨c, hc, e⟩ := spec_l1New_ok code hl hb
  obtain ⟨z, c2, hc2, h2, e2⟩ := spec_l2DrawMarks_ok hc
  have e2 : spec_l2DrawMarks_F ((c.1, (c.2.1, (c.2.2.1, ()))), ()) = _ := e2
  obtain ⟨k, c3, hc3, k0, k1, e3⟩ := below_cut hc2 11
  rw [spec_DrawMark_main, e]
  simp only [Option.bind_some]
  rw [e2]
  simp only [Option.bind_some]
  rw [e3]
  exact ⟨z, _, h2, rfl⟩
theorem spec_DrawUnion_ok (code : List Int) (hl : code.length ≤ 1048576) (hb : Byte code) : ∃ (a b : List Int), a.length ≤ 6 ∧ b.length ≤ 6 ∧ spec_DrawUnion_F (code, ()) = some ((a, (b, ())), ((), ())) := by
  obtain ⟨c, hc, e⟩ := spec_l1New_ok code hl hb
  obtain ⟨z, c2, hc2, h2, e2⟩ := spec_l2DrawMarks_ok hc
  have e2 : spec_l2DrawMarks_F ((c.1, (c.2.1, (c.2.2.1, ()))), ()) = _ := e2
  obtain ⟨q, c3, hc3, h3, e3⟩ := spec_l2DrawMarks_ok hc2
  have e3 : spec_l2DrawMarks_F ((c2.1, (c2.2.1, (c2.2.2.1, ()))), ()) = _ := e3
  rw [spec_DrawUnion_main, e]
  simp only [Option.bind_some]
  rw [e2]
  simp only [Option.bind_some]
  rw [e3]
  exact ⟨z, q, h2, h3, rfl⟩
def putB (xs : List Int) (at_ v : Int) : List Int := if 0 ≤ at_ ∧ at_ ≤ (xs.length : Int) - 1 then xs.set at_.toNat v else xs
theorem putB_len (xs : List Int) (at_ v : Int) : (putB xs at_ v).length = xs.length := by unfold putB; split <;> simp
theorem impl_Put_ok (xs : List Int) (at_ v : Int) (hb : xs.length ≤ 4194304) : impl_Put_F (xs, (at_, (v, ()))) = some ((putB xs at_ v, ()), ((), ((), ((), ())))) := by
  rw [impl_Put_main, slices_Clone_int_ok xs (by omega)]
  simp only [Option.bind_some]
  rw [impl_from_ok, wrap64 (by omega) (by omega)]
  simp only [Option.bind_some]
  unfold putB
  by_cases h : 0 ≤ at_ ∧ at_ ≤ (xs.length : Int) - 1
  · rw [if_pos h, decide_eq_true h, brk_true, ck_pos (by simp; omega)]
  · rw [if_neg h, decide_eq_false h, brk_false]
theorem spec_Put_ok (xs : List Int) (at_ v : Int) (hb : xs.length ≤ 4194304) : spec_Put_F (xs, (at_, (v, ()))) = some ((putB xs at_ v, ()), ((), ((), ((), ())))) := by
  rw [spec_Put_main, ck_pos (decide_eq_true (by rw [big47_eq, List.length_nil]; omega)), spec_l1In_ok', wrap64 (by omega) (by omega), List.nil_append]
  simp only [Option.bind_some]
  unfold putB
  by_cases h : 0 ≤ at_ ∧ at_ ≤ (xs.length : Int) - 1
  · rw [if_pos h, decide_eq_true h, brk_true, ck_pos (by simp; omega)]
  · rw [if_neg h, decide_eq_false h, brk_false]
theorem putB_at {xs : List Int} {at_ v : Int} {j : Nat} (hj : j < xs.length) : ((j : Int) = at_ → (putB xs at_ v).getD j 0 = v) ∧ ((j : Int) ≠ at_ → (putB xs at_ v).getD j 0 = xs.getD j 0) := by
  unfold putB
  constructor
  · intro h
    subst h
    rw [if_pos ⟨by omega, by omega⟩, Int.toNat_natCast, getD_at (by simpa using hj)]
    simp
  · intro h
    split
    · rename_i hh
      rw [getD_at (by simpa using hj), getD_at hj, List.getElem_set_ne (by omega)]
    · rfl
def difP (a b : List Int) (i : Nat) : Bool := if i < a.length then (if i < b.length then !decide (a.getD i 0 = b.getD i 0) else true) else decide (i < b.length)
def differB (a b : List Int) (n : Nat) : List Int := ((List.range n).filter (difP a b)).map fun (i : Nat) => (i : Int)
theorem difP_comm (a b : List Int) (i : Nat) : difP a b i = difP b a i := by
  unfold difP
  by_cases h1 : i < a.length <;> by_cases h2 : i < b.length <;> simp [h1, h2, eq_comm]
theorem differB_comm (a b : List Int) (n : Nat) : differB a b n = differB b a n := by
  unfold differB
  rw [show difP a b = difP b a from funext fun i => difP_comm a b i]
theorem differB_next (a b : List Int) (n : Nat) : differB a b (n + 1) = if difP a b n = true then differB a b n ++ [(n : Int)] else differB a b n := by
  unfold differB
  rw [List.range_succ, List.filter_append, List.map_append]
  cases h : difP a b n <;> simp [h]
theorem differB_len (a b : List Int) (n : Nat) : (differB a b n).length ≤ n := by
  unfold differB
  rw [List.length_map]
  exact Nat.le_trans (List.length_filter_le _ _) (by simp)
theorem impl_Differ_ok (a b : List Int) : impl_Differ_F (a, (b, ())) = some ((differB a b 8, ()), ((), ((), ()))) := by
  rw [impl_Differ_main]
  obtain ⟨n, v, h, rfl⟩ := for_loop (σ := List Int) (G := fun n i s => iterG impl_Differ_t0 impl_Differ_B0 (impl_Differ_K0 a b) n ((a, (b, ((i : Int), ()))), (s, ()))) 8 (fun i s => s = differB a b i) (· = some ((differB a b 8, ()), ((), ((), ()))))
    (fun i s hi hI => by
      refine .inr ⟨_, (differB_next a b i).symm, fun n => ?_⟩
      subst hI
      have hl := differB_len a b i
      have hck : ∀ R (x : Option R), ck (decide (((differB a b i).length + [(i : Int)].length) * 8 ≤ big47)) x = x := fun R x => ck_pos (decide_eq_true (by rw [big47_eq]; simp; omega)) x
      dsimp only
      rw [impl_Differ_r0, brk_pos (decide_eq_true (by omega)), step_nat i (by omega), hck]
      unfold difP
      by_cases h1 : i < a.length
      · rw [decide_eq_true (by omega : (i : Int) < (a.length : Int)), if_pos h1]
        by_cases h2 : i < b.length
        · rw [decide_eq_true (by omega : (i : Int) < (b.length : Int)), if_pos h2, beq_self_eq_true, Bool.not_true, brk_false, brk_true, ck_pos (by simp), ck_pos (by simp), rdD_nat, rdD_nat, show tI.zero = 0 from rfl]
          cases hd : (!decide (a.getD i 0 = b.getD i 0)) <;> simp
        · rw [decide_eq_false (by omega : ¬ (i : Int) < (b.length : Int)), if_neg h2]
          simp
      · rw [decide_eq_false (by omega : ¬ (i : Int) < (a.length : Int)), if_neg h1]
        by_cases h2 : i < b.length
        · rw [decide_eq_true (by omega : (i : Int) < (b.length : Int)), decide_eq_true h2]
          simp
        · rw [decide_eq_false (by omega : ¬ (i : Int) < (b.length : Int)), decide_eq_false h2]
          simp)
    (fun s hI => ⟨_, rfl, fun n => by
      subst hI
      dsimp only
      rw [impl_Differ_r0, brk_neg (by decide), impl_Differ_e0_0]⟩) [] rfl
  exact impl_Differ_l0 n h ⟨_, rfl⟩
theorem spec_Differ_ok (a b : List Int) : spec_Differ_F (a, (b, ())) = some ((differB a b 8, ()), ((), ((), ()))) := by
  rw [spec_Differ_main]
  obtain ⟨n, v, h, rfl⟩ := for_loop (σ := List Int) (G := fun n i s => iterG spec_Differ_t0 spec_Differ_B0 (spec_Differ_K0 a b) n ((a, (b, ((i : Int), ()))), (s, ()))) 8 (fun i s => s = differB a b i) (· = some ((differB a b 8, ()), ((), ((), ()))))
    (fun i s hi hI => by
      refine .inr ⟨_, (differB_next a b i).symm, fun n => ?_⟩
      subst hI
      have hl := differB_len a b i
      have hck : ∀ R (x : Option R), ck (decide (((differB a b i).length + [(i : Int)].length) * 8 ≤ big47)) x = x := fun R x => ck_pos (decide_eq_true (by rw [big47_eq]; simp; omega)) x
      dsimp only
      rw [spec_Differ_r0, brk_pos (decide_eq_true (by omega)), step_nat i (by omega), hck]
      unfold difP
      by_cases h1 : i < a.length
      · rw [decide_eq_true (by omega : (i : Int) < (a.length : Int)), if_pos h1]
        by_cases h2 : i < b.length
        · rw [decide_eq_true (by omega : (i : Int) < (b.length : Int)), if_pos h2, beq_self_eq_true, Bool.not_true, brk_false, brk_true, ck_pos (by simp), ck_pos (by simp), rdD_nat, rdD_nat, show tI.zero = 0 from rfl]
          cases hd : (!decide (a.getD i 0 = b.getD i 0)) <;> simp
        · rw [decide_eq_false (by omega : ¬ (i : Int) < (b.length : Int)), if_neg h2]
          simp
      · rw [decide_eq_false (by omega : ¬ (i : Int) < (a.length : Int)), if_neg h1]
        by_cases h2 : i < b.length
        · rw [decide_eq_true (by omega : (i : Int) < (b.length : Int)), decide_eq_true h2]
          simp
        · rw [decide_eq_false (by omega : ¬ (i : Int) < (b.length : Int)), decide_eq_false h2]
          simp)
    (fun s hI => ⟨_, rfl, fun n => by
      subst hI
      dsimp only
      rw [spec_Differ_r0, brk_neg (by decide), spec_Differ_e0_0]⟩) [] rfl
  exact spec_Differ_l0 n h ⟨_, rfl⟩
theorem spec_l2DrawImage_ok {c : tL1Cur.D} (h : CurOk c) : ∃ (out : List Int) (c' : tL1Cur.D), CurOk c' ∧ out.length ≤ 9 ∧ spec_l2DrawImage_F (c, ()) = some ((out, ()), (c', ())) := by
  rw [spec_l2DrawImage_main, spec_ImageNew_ok]
  simp only [Option.bind_some]
  have fin : ∀ (x0 : tL1Cur.D) (out : List Int) (c0 : tL1Cur.D), CurOk c0 → out.length = 8 → ∃ (o : List Int) (c' : tL1Cur.D), CurOk c' ∧ o.length ≤ 9 ∧ spec_l2DrawImage_K0 x0 (.exit 0) (spec_l2DrawImage_x0_0 out c0.1 c0.2.1 c0.2.2.1) = some ((o, ()), (c', ())) := fun x0 out c0 hc0 hl0 => by
    obtain ⟨y, c1, hc1, y0, y1, e⟩ := below_cut hc0 12
    rw [spec_l2DrawImage_e0_0, e]
    simp only [Option.bind_some]
    by_cases h0 : y = 0
    · rw [brk_pos (decide_eq_true h0), ck_pos (decide_eq_true (by rw [big47_eq]; simp; omega))]
      exact ⟨_, c1, hc1, by simp; omega, rfl⟩
    · rw [brk_neg (decide_eq_false h0)]
      by_cases h1 : y = 1
      · rw [brk_pos (decide_eq_true h1)]
        obtain ⟨z, c2, hc2, z0, e2⟩ := pick_cut hc1 [-1, 200, 201] (by simp) (by simp)
        rw [e2]
        simp only [Option.bind_some]
        rw [ck_pos (by simp; omega)]
        exact ⟨_, c2, hc2, by simp; omega, rfl⟩
      · rw [brk_neg (decide_eq_false h1)]
        by_cases h2 : y = 2
        · rw [brk_pos (decide_eq_true h2), ck_pos (by simp; omega)]
          exact ⟨_, c1, hc1, by simp; omega, rfl⟩
        · rw [brk_neg (decide_eq_false h2)]
          exact ⟨_, c1, hc1, by omega, rfl⟩
  obtain ⟨n, v, hh, out, c', h1, h3, rfl⟩ := for_loop (σ := List Int × tL1Cur.D) (G := fun n i s => iterG spec_l2DrawImage_t0 spec_l2DrawImage_B0 (spec_l2DrawImage_K0 c) n (((i : Int), ()), (s.1, ((s.2.1, (s.2.2.1, (s.2.2.2.1, ()))), ())))) 6 (fun i s => CurOk s.2 ∧ List.length s.1 = 8)
    (fun v => ∃ (out : List Int) (c' : tL1Cur.D), CurOk c' ∧ out.length ≤ 9 ∧ v = some ((out, ()), (c', ())))
    (fun i s hi hI => by
      obtain ⟨out, c0⟩ := s
      obtain ⟨hc0, hl0⟩ := hI
      have hl0 : out.length = 8 := hl0
      obtain ⟨y, c1, hc1, y0, y1, e⟩ := below_cut hc0 6
      by_cases hy : (i : Int) < y
      · obtain ⟨z, c2, hc2, z0, z1, e2⟩ := below_cut hc1 8
        have z1 := z1 (by omega)
        obtain ⟨w, c3, hc3, w0, w1, e3⟩ := below_cut hc2 9
        refine .inr ⟨(out.set z.toNat w, c3), ⟨hc3, by show (out.set z.toNat w).length = _; simp [hl0]⟩, fun n => ?_⟩
        dsimp only
        rw [spec_l2DrawImage_r0, e]
        simp only [Option.bind_some]
        rw [brk_pos (decide_eq_true hy), e2]
        simp only [Option.bind_some]
        rw [e3]
        simp only [Option.bind_some]
        have hz : (decide ((0 : Int) ≤ z) && decide (z < (out.length : Int))) = true := by rw [hl0]; simp; omega
        rw [ck_pos hz, step_nat i (by omega)]
      · obtain ⟨o, c', k1, k3, k4⟩ := fin c out c1 hc1 hl0
        refine .inl ⟨_, ⟨o, c', k1, k3, rfl⟩, fun n => ?_⟩
        dsimp only
        rw [spec_l2DrawImage_r0, e]
        simp only [Option.bind_some]
        rw [brk_neg (decide_eq_false hy), k4])
    (fun s hI => by
      obtain ⟨out, c0⟩ := s
      obtain ⟨hc0, hl0⟩ := hI
      have hl0 : out.length = 8 := hl0
      obtain ⟨y, c1, hc1, y0, y1, e⟩ := below_cut hc0 6
      have y1 := y1 (by omega)
      obtain ⟨o, c', k1, k3, k4⟩ := fin c out c1 hc1 hl0
      refine ⟨_, ⟨o, c', k1, k3, rfl⟩, fun n => ?_⟩
      dsimp only
      rw [spec_l2DrawImage_r0, e]
      simp only [Option.bind_some]
      rw [brk_neg (decide_eq_false (by omega)), k4]) (List.replicate 8 (0 : Int), c) ⟨h, by simp⟩
  exact ⟨out, c', h1, h3, spec_l2DrawImage_l0 n hh ⟨_, rfl⟩⟩
theorem image_cut {c : tL1Cur.D} (h : CurOk c) : ∃ (out : List Int) (c' : tL1Cur.D), CurOk c' ∧ out.length ≤ 9 ∧ spec_l2DrawImage_F ((c.1, (c.2.1, (c.2.2.1, ()))), ()) = some ((out, ()), (c', ())) := spec_l2DrawImage_ok h
theorem marks_cut {c : tL1Cur.D} (h : CurOk c) : ∃ (out : List Int) (c' : tL1Cur.D), CurOk c' ∧ out.length ≤ 6 ∧ spec_l2DrawMarks_F ((c.1, (c.2.1, (c.2.2.1, ()))), ()) = some ((out, ()), (c', ())) := spec_l2DrawMarks_ok h
theorem spec_DrawPut_ok (code : List Int) (hl : code.length ≤ 1048576) (hb : Byte code) : ∃ (m : List Int) (at_ n : Int), m.length ≤ 9 ∧ spec_DrawPut_F (code, ()) = some ((m, (at_, (n, ()))), ((), ())) := by
  obtain ⟨c, hc, e⟩ := spec_l1New_ok code hl hb
  obtain ⟨z, c2, hc2, h2, e2⟩ := image_cut hc
  obtain ⟨k, c3, hc3, k0, e3⟩ := pick_cut hc2 [0, 3, 7, 8, -1, 9223372036854775807] (by simp) (by simp)
  obtain ⟨w, c4, hc4, w0, w1, e4⟩ := below_cut hc3 9
  rw [spec_DrawPut_main, e]
  simp only [Option.bind_some]
  rw [e2]
  simp only [Option.bind_some]
  rw [e3]
  simp only [Option.bind_some]
  rw [e4]
  exact ⟨z, k, w, h2, rfl⟩
theorem spec_DrawDiffer_ok (code : List Int) (hl : code.length ≤ 1048576) (hb : Byte code) : ∃ (a b : List Int), spec_DrawDiffer_F (code, ()) = some ((a, (b, ())), ((), ())) := by
  obtain ⟨c, hc, e⟩ := spec_l1New_ok code hl hb
  obtain ⟨z, c2, hc2, h2, e2⟩ := image_cut hc
  obtain ⟨k, c3, hc3, e3⟩ := once_cut hc2 3
  obtain ⟨w, c4, hc4, h4, e4⟩ := image_cut hc3
  rw [spec_DrawDiffer_main, e]
  simp only [Option.bind_some]
  rw [e2]
  simp only [Option.bind_some]
  rw [e3]
  simp only [Option.bind_some]
  cases k
  · rw [brk_false, e4]
    exact ⟨z, w, rfl⟩
  · rw [brk_true, spec_Put_ok z 2 5 (by omega)]
    exact ⟨z, _, rfl⟩
theorem spec_DrawClear_ok (code : List Int) (hl : code.length ≤ 1048576) (hb : Byte code) : ∃ (m : List Int) (k : Int), m.length ≤ 6 ∧ spec_DrawClear_F (code, ()) = some ((m, (k, ())), ((), ())) := by
  obtain ⟨m, k, h, e⟩ := spec_DrawMark_ok code hl hb
  rw [spec_DrawClear_main, e]
  exact ⟨m, k, h, rfl⟩
theorem spec_DrawImageOk_ok (code : List Int) (hl : code.length ≤ 1048576) (hb : Byte code) : ∃ (m : List Int), m.length ≤ 9 ∧ spec_DrawImageOk_F (code, ()) = some ((m, ()), ((), ())) := by
  obtain ⟨c, hc, e⟩ := spec_l1New_ok code hl hb
  obtain ⟨z, c2, hc2, h2, e2⟩ := image_cut hc
  rw [spec_DrawImageOk_main, e]
  simp only [Option.bind_some]
  rw [e2]
  exact ⟨z, h2, rfl⟩
theorem spec_DrawMarksOk_ok (code : List Int) (hl : code.length ≤ 1048576) (hb : Byte code) : ∃ (m : List Int), m.length ≤ 6 ∧ spec_DrawMarksOk_F (code, ()) = some ((m, ()), ((), ())) := by
  obtain ⟨c, hc, e⟩ := spec_l1New_ok code hl hb
  obtain ⟨z, c2, hc2, h2, e2⟩ := marks_cut hc
  rw [spec_DrawMarksOk_main, e]
  simp only [Option.bind_some]
  rw [e2]
  exact ⟨z, h2, rfl⟩
theorem laws_FnCells_pure (code : tYs.D) (hC : Ok tYs code) : laws_FnCells_F (code, ()) = some ((true, ()), ((), ())) := by
  rw [laws_FnCells_main, laws_big_main]
  simp only [Option.bind_some]
  by_cases hx : (1048576 : Int) < (List.length code : Int)
  · rw [brk_pos (decide_eq_true hx)]
  rw [brk_neg (decide_eq_false hx)]
  have hl : List.length code ≤ 1048576 := by omega
  have hb : Byte code := fun x hx => hC.2 x hx
  obtain ⟨m, i, n, lm, e1⟩ := spec_DrawPut_ok code hl hb
  obtain ⟨b, k, lb, e2⟩ := spec_DrawMark_ok code hl hb
  obtain ⟨d, l, ld, e3⟩ := spec_DrawClear_ok code hl hb
  obtain ⟨x, y, lx, ly, e4⟩ := spec_DrawUnion_ok code hl hb
  obtain ⟨p, q, e5⟩ := spec_DrawDiffer_ok code hl hb
  obtain ⟨o, lo, e6⟩ := spec_DrawImageOk_ok code hl hb
  obtain ⟨r, lr, e7⟩ := spec_DrawMarksOk_ok code hl hb
  have big : ∀ {n : Nat}, n ≤ 100 → n ≤ big47 := fun h => Nat.le_trans h (by rw [big47_eq]; omega)
  have l1 : (unionB x y).length ≤ 12 := by
    have := foldl_len (x ++ y) []
    rw [List.length_nil, List.length_append] at this
    unfold unionB; omega
  have l2 := markB_len b k
  have l3 := putB_len m i n
  have l4 := clearB_len d l
  have l5 := differB_len p q 8
  have hu := marksB_ms.2 (unionB_ms x y)
  have hc : marksB b = true → marksB (markB b k) = true := fun h => marksB_ms.2 ((marksB_ms.1 h).mark k)
  have hw : ¬ l ∈ clearB d l := fun h => (mem_clearB.1 h).2 rfl
  have loop2 : loopG laws_FnCells_t2 laws_FnCells_B2 (laws_FnCells_K2 code) ((l, ((0 : Int), ())), (b, (markB b k, (clearB d l, (x, (unionB x y, (p, (q, (differB p q 8, ()))))))))) = some ((true, ()), ((), ())) := by
    obtain ⟨nn, v, h, rfl⟩ := for_loop (σ := Unit) (G := fun nn j _ => iterG laws_FnCells_t2 laws_FnCells_B2 (laws_FnCells_K2 code) nn ((l, ((j : Int), ())), (b, (markB b k, (clearB d l, (x, (unionB x y, (p, (q, (differB p q 8, ())))))))))) x.length (fun _ _ => True) (· = some ((true, ()), ((), ())))
      (fun j _ hj _ => .inr ⟨(), trivial, fun nn => by
        dsimp only
        rw [laws_FnCells_r2, brk_lt hj, ck_idx hj, ck_idx hj, ck_idx hj, rdD_nat, show tI.zero = 0 from rfl, step_nat j (by omega)]
        by_cases h0 : 0 ≤ x.getD j 0
        · rw [brk_pos (decide_eq_true h0)]
          by_cases h8 : x.getD j 0 < 8
          · rw [brk_pos (decide_eq_true h8), within_ok _ _ (big (by omega)), decide_eq_true (mem_unionB.2 ⟨.inl (getD_mem hj), h0, by omega⟩)]
            rfl
          · rw [brk_neg (decide_eq_false h8)]
        · rw [brk_neg (decide_eq_false h0)]⟩)
      (fun _ _ => ⟨_, rfl, fun nn => by
        dsimp only
        rw [laws_FnCells_r2, brk_nlt (by omega), laws_FnCells_e2_1, impl_MarksOk_ok _ (big (by omega)), hu]
        simp only [Option.bind_some, brk_true]
        rw [within_ok _ _ (big (by omega)), decide_eq_false hw]
        simp only [Option.bind_some, Bool.not_false, brk_true]
        rw [impl_MarksOk_ok _ (big (by omega))]
        simp only [Option.bind_some]
        have last : ((impl_Differ_F (q, (p, ()))).bind fun y211 => (laws_sameInts_F (differB p q 8, (y211.1.1, ()))).bind fun y212 => some ((y212.1.1, ()), ((), ()))) = some ((true, ()), ((), ())) := by
          rw [impl_Differ_ok, differB_comm q p]
          simp only [Option.bind_some]
          rw [sameInts_self _ (big (by omega))]
          rfl
        cases hbb : marksB b with
        | false => rw [Bool.not_false, brk_true]; exact last
        | true =>
          rw [Bool.not_true, brk_false, impl_MarksOk_ok _ (big (by omega)), hc hbb]
          simp only [Option.bind_some, brk_true]
          exact last⟩) () trivial
    exact laws_FnCells_l2 nn h ⟨_, rfl⟩
  rw [e1]
  simp only [Option.bind_some]
  rw [impl_Put_ok m i n (by omega)]
  simp only [Option.bind_some]
  rw [e2]
  simp only [Option.bind_some]
  rw [impl_Mark_ok b k (by omega)]
  simp only [Option.bind_some]
  rw [e3]
  simp only [Option.bind_some]
  rw [impl_Clear_ok d l (by omega)]
  simp only [Option.bind_some]
  rw [e4]
  simp only [Option.bind_some]
  rw [impl_Union_ok x y (by omega) (by omega)]
  simp only [Option.bind_some]
  rw [e5]
  simp only [Option.bind_some]
  rw [impl_Differ_ok]
  simp only [Option.bind_some]
  rw [e6]
  simp only [Option.bind_some]
  rw [e7]
  simp only [Option.bind_some]
  rw [spec_Put_ok m i n (by omega)]
  simp only [Option.bind_some]
  rw [sameInts_self _ (big (by omega))]
  simp only [Option.bind_some, Bool.not_true, brk_false]
  rw [spec_Mark_ok b k (by omega)]
  simp only [Option.bind_some]
  rw [sameInts_self _ (big (by omega))]
  simp only [Option.bind_some, Bool.not_true, brk_false]
  rw [spec_Clear_ok d l (by omega)]
  simp only [Option.bind_some]
  rw [sameInts_self _ (big (by omega))]
  simp only [Option.bind_some, Bool.not_true, brk_false]
  rw [spec_Union_ok x y (by omega) (by omega)]
  simp only [Option.bind_some]
  rw [sameInts_self _ (big (by omega))]
  simp only [Option.bind_some, Bool.not_true, brk_false]
  rw [spec_Differ_ok]
  simp only [Option.bind_some]
  rw [sameInts_self _ (big (by omega))]
  simp only [Option.bind_some, Bool.not_true, brk_false]
  rw [impl_ImageOk_ok o (big (by omega))]
  simp only [Option.bind_some]
  rw [spec_ImageOk_ok o (big (by omega))]
  simp only [Option.bind_some, beq_self_eq_true, Bool.not_true, brk_false]
  rw [impl_MarksOk_ok r (big (by omega))]
  simp only [Option.bind_some]
  rw [spec_MarksOk_ok r (big (by omega))]
  simp only [Option.bind_some, beq_self_eq_true, Bool.not_true, brk_false]
  rw [impl_ImageNew_ok]
  simp only [Option.bind_some]
  rw [spec_ImageNew_ok]
  simp only [Option.bind_some]
  rw [sameInts_self _ (big (by simp))]
  simp only [Option.bind_some, Bool.not_true, brk_false]
  obtain ⟨nn, v, h, rfl⟩ := for_loop (σ := Unit) (G := fun nn j _ => iterG laws_FnCells_t0 laws_FnCells_B0 (laws_FnCells_K0 code) nn ((i, (n, (l, ((j : Int), ())))), (m, (putB m i n, (b, (markB b k, (clearB d l, (x, (unionB x y, (p, (q, (differB p q 8, ())))))))))))) m.length (fun _ _ => True) (· = some ((true, ()), ((), ())))
    (fun j _ hj _ => .inr ⟨(), trivial, fun nn => by
      obtain ⟨a1, a2⟩ := putB_at (v := n) (at_ := i) hj
      dsimp only
      rw [laws_FnCells_r0, brk_lt hj, rdD_nat, rdD_nat, show tI.zero = 0 from rfl, step_nat j (by omega)]
      simp only [l3, ck_idx hj]
      by_cases hji : (j : Int) = i
      · rw [decide_eq_true hji, Bool.not_true, brk_false, brk_true, a1 hji, decide_eq_true rfl, Bool.not_true, brk_false]
      · rw [decide_eq_false hji, Bool.not_false, brk_true, a2 hji, decide_eq_true rfl, Bool.not_true, brk_false, brk_false]⟩)
    (fun _ _ => ⟨_, rfl, fun nn => by
      dsimp only
      rw [laws_FnCells_r0, brk_nlt (by omega), laws_FnCells_e0_1]
      exact loop2⟩) () trivial
  exact laws_FnCells_l0 nn h ⟨_, rfl⟩
end Go.Refl
