/- Plain laws: what the functions come to. No condition. -/
import Derived.Test.YtfikbjbijpbdkaaFnExactMetaNewGf
namespace Go.Refl
open Go.RowKit
set_option linter.unusedVariables false
set_option linter.unusedSimpArgs false
theorem eqIntS_loop {R : Type} (K : Ex → AS → Option R) (xs ys : List Int) (hl : xs.length = ys.length) (hb : xs.length ≤ big47) : ∀ (n i : Nat), i + n = xs.length →
    iterG laws_eqIntS_t0 laws_eqIntS_B0 K (n + 1) ((xs, (ys, ((i : Int), ()))), ()) = if xs.drop i = ys.drop i then K (.exit 0) laws_eqIntS_x0_1 else K .ret (laws_eqIntS_x0_0 false)
  | 0, i, h => by
    have hx : xs.drop i = [] := List.drop_of_length_le (by omega)
    have hy : ys.drop i = [] := List.drop_of_length_le (by omega)
    rw [laws_eqIntS_r0, brk_neg (by simp; omega), hx, hy, if_pos rfl]
  | n + 1, i, h => by
    have hi : i < xs.length := by omega
    have hj : i < ys.length := by omega
    rw [laws_eqIntS_r0, brk_pos (by simp; omega), ck_pos (by simp; omega), ck_pos (by simp; omega)]
    rw [rdD_get (List.getElem?_eq_getElem hi), rdD_get (List.getElem?_eq_getElem hj)]
    have hd : (xs.drop i = ys.drop i) ↔ (xs[i] = ys[i] ∧ xs.drop (i + 1) = ys.drop (i + 1)) := by
      rw [List.drop_eq_getElem_cons hi, List.drop_eq_getElem_cons hj, List.cons.injEq]
    by_cases he : xs[i] = ys[i]
    · rw [brk_neg (by simp [he]), wrap64 (by omega) (by simp only [big47] at hb; omega)]
      have := eqIntS_loop K xs ys hl hb n (i + 1) (by omega)
      rw [show ((i : Int) + 1) = ((i + 1 : Nat) : Int) by simp, this]
      by_cases hr : xs.drop (i + 1) = ys.drop (i + 1)
      · rw [if_pos hr, if_pos (hd.2 ⟨he, hr⟩)]
      · rw [if_neg hr, if_neg fun h => hr (hd.1 h).2]
    · rw [brk_pos (by simp [he]), if_neg fun h => he (hd.1 h).1]
theorem eqIntS_ok (xs ys : List Int) (hb : xs.length ≤ big47) : laws_eqIntS_F (xs, (ys, ())) = some ((decide (xs = ys), ()), ((), ((), ()))) := by
  rw [laws_eqIntS_main]
  by_cases hl : xs.length = ys.length
  · rw [brk_neg (by simp [hl])]
    have h : iterG laws_eqIntS_t0 laws_eqIntS_B0 (laws_eqIntS_K0 xs ys) (xs.length + 1) ((xs, (ys, ((0 : Int), ()))), ()) = _ := eqIntS_loop (laws_eqIntS_K0 xs ys) xs ys hl hb xs.length 0 (by omega)
    by_cases he : xs = ys
    · rw [laws_eqIntS_l0 _ h (by subst he; exact ⟨_, by simp only [if_true]; exact laws_eqIntS_e0_1 _ _⟩)]
      subst he
      simp only [if_true]
      rw [laws_eqIntS_e0_1]; simp
    · have h0 : ¬ xs.drop 0 = ys.drop 0 := by simpa using he
      rw [if_neg h0] at h
      rw [laws_eqIntS_l0 _ h ⟨_, laws_eqIntS_e0_0 _ _ _⟩, laws_eqIntS_e0_0]
      simp [he]
  · rw [brk_pos (by simp; omega)]
    have : xs ≠ ys := fun h => hl (by rw [h])
    simp [this]
/-- Numbers from k on, as f makes them. -/
def marks (f : Int → Int) (k : Int) : Nat → List Int
  | 0 => []
  | n + 1 => f k :: marks f (k + 1) n
theorem marks_len (f : Int → Int) : ∀ (n : Nat) (k : Int), (marks f k n).length = n
  | 0, _ => rfl
  | n + 1, k => by simp [marks, marks_len f n]
theorem drop_set_next {α : Type} {xs : List α} {i : Nat} (hi : i < xs.length) (v : α) : (xs.set i v).take (i + 1) = xs.take i ++ [v] := by
  rw [List.take_succ_eq_append_getElem (by simpa using hi), List.take_set_of_le (Nat.le_refl i)]
  simp
theorem markIntS_loop {R : Type} (K : Ex → AS → Option R) : ∀ (n i : Nat) (k : Int) (xs : List Int), i + n = xs.length → xs.length ≤ big47 → 0 ≤ k → k + n ≤ 4611686018427387904 →
    iterG laws_markIntS_t0 laws_markIntS_B0 K (n + 1) ((k, ((i : Int), ())), (xs, ())) = K (.exit 0) (laws_markIntS_x0_0 (k + n) (xs.take i ++ marks id k n))
  | 0, i, k, xs, h, hb, h0, hk => by
    rw [laws_markIntS_r0, brk_neg (by simp; omega)]
    rw [List.take_of_length_le (by omega)]
    simp [marks]
  | n + 1, i, k, xs, h, hb, h0, hk => by
    have hi : i < xs.length := by omega
    rw [laws_markIntS_r0, brk_pos (by simp; omega), ck_pos (by simp; omega)]
    rw [wrap64 (by omega) (by omega), wrap64 (by omega) (by simp only [big47] at hb; omega)]
    rw [show ((i : Int) + 1) = ((i + 1 : Nat) : Int) by simp]
    rw [markIntS_loop K n (i + 1) (k + 1) _ (by simp; omega) (by simpa using hb) (by omega) (by omega)]
    rw [show ((i : Int)).toNat = i by simp, drop_set_next hi, show k + 1 + (n : Int) = k + ((n + 1 : Nat) : Int) by omega]
    simp [marks]
theorem markIntS_ok (xs : List Int) (k : Int) (hb : xs.length ≤ 1125899906842624) (hbb : xs.length ≤ big47) (h0 : 0 ≤ k) (hk : k ≤ 1125899906842624) : laws_markIntS_F (xs, (k, ())) = some ((k + xs.length, ()), (marks id k xs.length, ((), ()))) := by
  rw [laws_markIntS_main]
  have h : iterG laws_markIntS_t0 laws_markIntS_B0 (laws_markIntS_K0 xs k) (xs.length + 1) ((k, ((0 : Int), ())), (xs, ())) = _ := markIntS_loop (laws_markIntS_K0 xs k) xs.length 0 k xs (by omega) hbb h0 (by omega)
  rw [laws_markIntS_l0 _ h ⟨_, laws_markIntS_e0_0 _ _ _ _⟩, laws_markIntS_e0_0]
  simp
theorem spec_l1In_ok (x lo hi : Int) : spec_l1In_F (x, (lo, (hi, ()))) = some ((decide (lo ≤ x) && decide (x ≤ hi), ()), ((), ((), ((), ())))) := by
  rw [spec_l1In_main]
  by_cases h : lo ≤ x <;> simp [h]
theorem two_has {R : Type} (K : Ex → AS → Option R) (xs : List Int) (v : Int) (hb : xs.length ≤ big47) : ∀ (n i : Nat), i + n = xs.length →
    iterG spec_l2Has_t0 spec_l2Has_B0 K (n + 1) ((xs, (v, ((i : Int), ()))), ()) = if v ∈ xs.drop i then K .ret (spec_l2Has_x0_0 true) else K (.exit 0) spec_l2Has_x0_1
  | 0, i, h => by
    rw [spec_l2Has_r0, brk_neg (by simp; omega), List.drop_of_length_le (by omega)]
    simp
  | n + 1, i, h => by
    have hi : i < xs.length := by omega
    simp only [big47] at hb
    rw [spec_l2Has_r0, brk_pos (by simp; omega), ck_pos (by simp; omega), rdD_get (List.getElem?_eq_getElem hi), List.drop_eq_getElem_cons hi]
    by_cases he : xs[i] = v
    · rw [brk_pos (by simp [he]), if_pos (by rw [he]; exact List.mem_cons_self)]
    · rw [brk_neg (by simp [he]), wrap64 (by omega) (by omega), show ((i : Int) + 1) = ((i + 1 : Nat) : Int) by simp]
      rw [two_has K xs v (by simp only [big47]; omega) n (i + 1) (by omega)]
      have : (v ∈ xs[i] :: xs.drop (i + 1)) ↔ v ∈ xs.drop (i + 1) := by
        rw [List.mem_cons]; exact ⟨fun h => h.resolve_left fun e => he e.symm, .inr⟩
      by_cases hm : v ∈ xs.drop (i + 1)
      · rw [if_pos hm, if_pos (this.2 hm)]
      · rw [if_neg hm, if_neg fun h => hm (this.1 h)]
theorem brk_if {R : Type} (p : Prop) [Decidable p] (a b : Option R) : brk (decide p) a b = if p then a else b := by by_cases h : p <;> simp [h, brk]
theorem n0 : ((0 : Nat) : Int) = 0 := rfl
theorem big47_eq : big47 = 140737488355328 := rfl
theorem spec_l2Has_ok (xs : List Int) (v : Int) (hb : xs.length ≤ big47) : spec_l2Has_F (xs, (v, ())) = some ((decide (v ∈ xs), ()), ((), ((), ()))) := by
  rw [spec_l2Has_main]
  have h := two_has (spec_l2Has_K0 xs v) xs v hb xs.length 0 (by omega)
  rw [List.drop_zero, n0] at h
  by_cases hm : v ∈ xs
  · rw [if_pos hm] at h
    rw [spec_l2Has_l0 _ h ⟨_, spec_l2Has_e0_0 _ _ _⟩, spec_l2Has_e0_0, decide_eq_true hm]
  · rw [if_neg hm] at h
    rw [spec_l2Has_l0 _ h ⟨_, spec_l2Has_e0_1 _ _⟩, spec_l2Has_e0_1, decide_eq_false hm]
theorem Index_loop {R : Type} (K : Ex → AS → Option R) (xs : List Int) (v : Int) (hb : xs.length ≤ big47) : ∀ (n i : Nat), i + n = xs.length →
    (v ∈ xs.drop i ∧ ∃ j : Nat, iterG slices_Index_int_t0 slices_Index_int_B0 K (n + 1) ((xs, (v, ((xs.length : Int), ((i : Int), ())))), ()) = K .ret (slices_Index_int_x0_0 (j : Int))) ∨
    (v ∉ xs.drop i ∧ iterG slices_Index_int_t0 slices_Index_int_B0 K (n + 1) ((xs, (v, ((xs.length : Int), ((i : Int), ())))), ()) = K (.exit 0) slices_Index_int_x0_1)
  | 0, i, h => by
    right
    rw [slices_Index_int_r0, brk_neg (by simp; omega), List.drop_of_length_le (by omega)]
    simp
  | n + 1, i, h => by
    have hi : i < xs.length := by omega
    simp only [big47] at hb
    rw [slices_Index_int_r0, brk_pos (by simp; omega), ck_pos (by simp; omega), rdD_get (List.getElem?_eq_getElem hi), List.drop_eq_getElem_cons hi]
    by_cases he : v = xs[i]
    · left
      rw [brk_pos (by simp [he])]
      exact ⟨by rw [← he]; exact List.mem_cons_self, i, rfl⟩
    · rw [brk_neg (by simp [he]), wrap64 (by omega) (by omega), show ((i : Int) + 1) = ((i + 1 : Nat) : Int) by simp]
      rcases Index_loop K xs v (by simp only [big47]; omega) n (i + 1) (by omega) with ⟨h1, j, h2⟩ | ⟨h1, h2⟩
      · exact .inl ⟨List.mem_cons_of_mem _ h1, j, h2⟩
      · exact .inr ⟨fun hm => (List.mem_cons.1 hm).elim he h1, h2⟩
theorem slices_Index_int_ok (xs : List Int) (v : Int) (hb : xs.length ≤ big47) : ∃ r : Int, slices_Index_int_F (xs, (v, ())) = some ((r, ()), ((), ((), ()))) ∧ (0 ≤ r ↔ v ∈ xs) := by
  rw [slices_Index_int_main]
  rcases Index_loop (slices_Index_int_K0 xs v) xs v hb xs.length 0 (by omega) with ⟨h1, j, h2⟩ | ⟨h1, h2⟩
  · rw [n0] at h2
    exact ⟨j, by rw [slices_Index_int_l0 _ h2 ⟨_, slices_Index_int_e0_0 _ _ _⟩, slices_Index_int_e0_0], by simp at h1; simp [h1]⟩
  · rw [n0] at h2
    exact ⟨-1, by rw [slices_Index_int_l0 _ h2 ⟨_, slices_Index_int_e0_1 _ _⟩, slices_Index_int_e0_1], by simp at h1; simp [h1]⟩
theorem slices_Contains_int_ok (xs : List Int) (v : Int) (hb : xs.length ≤ big47) : slices_Contains_int_F (xs, (v, ())) = some ((decide (v ∈ xs), ()), ((), ((), ()))) := by
  obtain ⟨r, h1, h2⟩ := slices_Index_int_ok xs v hb
  rw [slices_Contains_int_main, h1]
  simp only [Option.bind_some, h2]
theorem impl_from_ok (x lo hi : Int) : impl_from_F (x, (lo, (hi, ()))) = some ((decide (lo ≤ x ∧ x ≤ hi), ()), ((), ((), ((), ())))) := by
  rw [impl_from_main, brk_if]
  by_cases h : lo ≤ x <;> simp [h]
theorem impl_from_z (z : PsD [.ro tI, .ro tI, .ro tI]) : impl_from_F z = some ((decide (z.2.1 ≤ z.1 ∧ z.1 ≤ z.2.2.1), ()), ((), ((), ((), ())))) := impl_from_ok z.1 z.2.1 z.2.2.1
theorem impl_isCell_z (z : PsD [.ro tI]) : impl_isCell_F z = some ((decide (0 ≤ z.1 ∧ z.1 ≤ 7), ()), ((), ())) := by rw [show z = (z.1, ()) from rfl, impl_isCell_main, impl_from_ok]; rfl
theorem spec_l1In_ok' (x lo hi : Int) : spec_l1In_F (x, (lo, (hi, ()))) = some ((decide (lo ≤ x ∧ x ≤ hi), ()), ((), ((), ((), ())))) := by
  rw [spec_l1In_ok]
  by_cases h : lo ≤ x <;> simp [h]
theorem spec_l1In_z (z : PsD [.ro tI, .ro tI, .ro tI]) : spec_l1In_F z = some ((decide (z.2.1 ≤ z.1 ∧ z.1 ≤ z.2.2.1), ()), ((), ((), ((), ())))) := spec_l1In_ok' z.1 z.2.1 z.2.2.1
def gensAll : List Int → List Int → Bool
  | _, [] => true
  | pre, x :: xs => decide (1 ≤ x ∧ x ≤ 100000) && !decide (x ∈ pre) && gensAll (pre ++ [x]) xs
def gensB (g : List Int) : Bool := gensAll [] g && decide (g.length ≤ 12)
theorem take_next {α : Type} {xs : List α} {i : Nat} (hi : i < xs.length) : xs.take (i + 1) = xs.take i ++ [xs[i]] := List.take_succ_eq_append_getElem hi
theorem spec_GensOk_loop {R : Type} (K : Ex → AS → Option R) (xs : List Int) (hb : xs.length ≤ big47) : ∀ (n i : Nat), i + n = xs.length →
    iterG spec_GensOk_t0 spec_GensOk_B0 K (n + 1) ((xs, ((i : Int), ())), ()) = brk (gensAll (xs.take i) (xs.drop i)) (K (.exit 0) (spec_GensOk_x0_1 xs)) (K .ret (spec_GensOk_x0_0 xs false))
  | 0, i, h => by
    rw [spec_GensOk_r0, brk_neg (by simp; omega), List.drop_of_length_le (by omega), brk_pos (by simp [gensAll])]
  | n + 1, i, h => by
    have hi : i < xs.length := by omega
    have hb' := hb
    simp only [big47] at hb
    rw [spec_GensOk_r0, brk_pos (by simp; omega), ck_pos (by simp; omega), rdD_get (List.getElem?_eq_getElem hi), spec_l1In_ok', List.drop_eq_getElem_cons hi]
    simp only [Option.bind_some, gensAll]
    by_cases h1 : 1 ≤ xs[i] ∧ xs[i] ≤ 100000
    · rw [decide_eq_true h1, Bool.not_true, brk_false, ck_pos (by simp; omega), ck_pos (by simp; omega), spec_l2Has_ok _ _ (by simp; omega)]
      simp only [Option.bind_some, Int.toNat_zero, List.drop_zero, Int.toNat_natCast, Bool.true_and]
      by_cases h2 : xs[i] ∈ xs.take i
      · rw [decide_eq_true h2]; simp
      · rw [decide_eq_false h2, brk_false, wrap64 (by omega) (by omega), show ((i : Int) + 1) = ((i + 1 : Nat) : Int) by simp, spec_GensOk_loop K xs hb' n (i + 1) (by omega), take_next hi]
        simp
    · rw [decide_eq_false h1]; simp
theorem spec_GensOk_ok (xs : List Int) (hb : xs.length ≤ big47) : spec_GensOk_F (xs, ()) = some ((gensB xs, ()), ((), ())) := by
  rw [spec_GensOk_main]
  have h : iterG spec_GensOk_t0 spec_GensOk_B0 (spec_GensOk_K0 xs) (xs.length + 1) ((xs, ((0 : Int), ())), ()) = _ := spec_GensOk_loop (spec_GensOk_K0 xs) xs hb xs.length 0 (by omega)
  simp only [List.take_zero, List.drop_zero] at h
  unfold gensB
  by_cases hg : gensAll [] xs = true
  · rw [brk_pos hg] at h
    rw [spec_GensOk_l0 _ h ⟨_, spec_GensOk_e0_1 _ _⟩, spec_GensOk_e0_1, hg]
    simp
    omega
  · rw [brk_neg (by simpa using hg)] at h
    rw [spec_GensOk_l0 _ h ⟨_, spec_GensOk_e0_0 _ _ _⟩, spec_GensOk_e0_0]
    simp [hg]
theorem impl_GensOk_loop {R : Type} (K : Ex → AS → Option R) (xs : List Int) (hb : xs.length ≤ big47) : ∀ (n i : Nat), i + n = xs.length →
    iterG impl_GensOk_t0 impl_GensOk_B0 K (n + 1) ((xs, (xs, ((xs.length : Int), ((i : Int), ())))), ()) = brk (gensAll (xs.take i) (xs.drop i)) (K (.exit 0) (impl_GensOk_x0_1 xs)) (K .ret (impl_GensOk_x0_0 xs false))
  | 0, i, h => by
    rw [impl_GensOk_r0, brk_neg (by simp; omega), List.drop_of_length_le (by omega), brk_pos (by simp [gensAll])]
  | n + 1, i, h => by
    have hi : i < xs.length := by omega
    have hb' := hb
    simp only [big47] at hb
    rw [impl_GensOk_r0, brk_pos (by simp; omega), ck_pos (by simp; omega), rdD_get (List.getElem?_eq_getElem hi), impl_from_ok, List.drop_eq_getElem_cons hi]
    simp only [Option.bind_some, gensAll]
    by_cases h1 : 1 ≤ xs[i] ∧ xs[i] ≤ 100000
    · rw [decide_eq_true h1, Bool.not_true, brk_false, ck_pos (by simp; omega), slices_Contains_int_ok _ _ (by simp; omega)]
      simp only [Option.bind_some, Int.toNat_zero, List.drop_zero, Int.toNat_natCast, Bool.true_and]
      by_cases h2 : xs[i] ∈ xs.take i
      · rw [decide_eq_true h2]; simp
      · rw [decide_eq_false h2, brk_false, wrap64 (by omega) (by omega), show ((i : Int) + 1) = ((i + 1 : Nat) : Int) by simp, impl_GensOk_loop K xs hb' n (i + 1) (by omega), take_next hi]
        simp
    · rw [decide_eq_false h1]; simp
theorem impl_GensOk_ok (xs : List Int) (hb : xs.length ≤ big47) : impl_GensOk_F (xs, ()) = some ((gensB xs, ()), ((), ())) := by
  rw [impl_GensOk_main]
  have h : iterG impl_GensOk_t0 impl_GensOk_B0 (impl_GensOk_K0 xs) (xs.length + 1) ((xs, (xs, ((xs.length : Int), ((0 : Int), ())))), ()) = _ := impl_GensOk_loop (impl_GensOk_K0 xs) xs hb xs.length 0 (by omega)
  simp only [List.take_zero, List.drop_zero] at h
  unfold gensB
  by_cases hg : gensAll [] xs = true
  · rw [brk_pos hg] at h
    rw [impl_GensOk_l0 _ h ⟨_, impl_GensOk_e0_1 _ _⟩, impl_GensOk_e0_1, hg]
    simp
    omega
  · rw [brk_neg (by simpa using hg)] at h
    rw [impl_GensOk_l0 _ h ⟨_, impl_GensOk_e0_0 _ _ _⟩, impl_GensOk_e0_0]
    simp [hg]
/-- A loop that counts up: a round ends it, or goes on. -/
theorem for_loop {R σ : Type} {G : Nat → Nat → σ → Option R} (N : Nat) (Inv : Nat → σ → Prop) (Post : Option R → Prop)
    (hs : ∀ i s, i < N → Inv i s → (∃ v, Post v ∧ ∀ n, G (n + 1) i s = v) ∨ (∃ s', Inv (i + 1) s' ∧ ∀ n, G (n + 1) i s = G n (i + 1) s'))
    (hf : ∀ s, Inv N s → ∃ v, Post v ∧ ∀ n, G (n + 1) N s = v) (s : σ) (h : Inv 0 s) : ∃ n v, G n 0 s = v ∧ Post v := by
  have key : ∀ (k i : Nat) (s : σ), i + k = N → Inv i s → ∃ n v, G n i s = v ∧ Post v := by
    intro k
    induction k with
    | zero =>
      intro i s hi h
      have : i = N := by omega
      subst this
      obtain ⟨v, hv, hg⟩ := hf s h
      exact ⟨1, v, hg 0, hv⟩
    | succ k ih =>
      intro i s hi h
      rcases hs i s (by omega) h with ⟨v, hv, hg⟩ | ⟨s', h', hg⟩
      · exact ⟨1, v, hg 0, hv⟩
      · obtain ⟨n, v, hn, hv⟩ := ih (i + 1) s' (by omega) h'
        exact ⟨n + 1, v, (hg n).trans hn, hv⟩
  exact key N 0 s (by omega) h
theorem step_nat (i : Nat) (h : i ≤ 4611686018427387904) : IntKind.i64.wrap ((i : Int) + 1) = ((i + 1 : Nat) : Int) := by
  rw [wrap64 (by omega) (by omega)]; rfl
theorem rdD_nat {t : Ty} (xs : List t.D) (i : Nat) : rdD t xs (i : Int) = xs.getD i t.zero := rfl
theorem getD_at {α : Type} {xs : List α} {i : Nat} {d : α} (h : i < xs.length) : xs.getD i d = xs[i] := by simp [h]
theorem ck_idx {R : Type} {i n : Nat} (h : i < n) (a : Option R) : ck (decide ((0 : Int) ≤ (i : Int)) && decide ((i : Int) < (n : Int))) a = a := ck_pos (by simp; omega) a
theorem brk_lt {R : Type} {i n : Nat} (h : i < n) (a b : Option R) : brk (decide ((i : Int) < (n : Int))) a b = a := brk_pos (by simp; omega) a b
theorem brk_nlt {R : Type} {i n : Nat} (h : ¬ i < n) (a b : Option R) : brk (decide ((i : Int) < (n : Int))) a b = b := brk_neg (by simp; omega) a b
/-- Is the number at i a cell, and above the one before? -/
def MkP (xs : List Int) (i : Nat) : Prop := (0 ≤ xs.getD i 0 ∧ xs.getD i 0 ≤ 7) ∧ (0 < i → xs.getD (i - 1) 0 < xs.getD i 0)
instance instMkP (xs : List Int) (i : Nat) : Decidable (MkP xs i) := by unfold MkP; infer_instance
def marksB (xs : List Int) : Bool := (List.range xs.length).all fun i => @decide (MkP xs i) (instMkP xs i)
theorem marksB_iff {xs : List Int} : marksB xs = true ↔ ∀ i, i < xs.length → MkP xs i := by
  simp [marksB]
theorem marksB_no {xs : List Int} {i : Nat} (hi : i < xs.length) (h : ¬ MkP xs i) : marksB xs = false := by
  cases hb : marksB xs with
  | false => rfl
  | true => exact absurd (marksB_iff.1 hb i hi) h
theorem pred_nat {i : Nat} (h : 0 < i) (hi : i ≤ 4611686018427387904) : IntKind.i64.wrap ((i : Int) - 1) = ((i - 1 : Nat) : Int) := by
  rw [wrap64 (by omega) (by omega)]; omega
theorem spec_MarksOk_ok (xs : List Int) (hb : xs.length ≤ big47) : spec_MarksOk_F (xs, ()) = some ((marksB xs, ()), ((), ())) := by
  rw [big47_eq] at hb
  rw [spec_MarksOk_main]
  obtain ⟨n, v, h, rfl⟩ := for_loop (σ := Unit) (G := fun n i _ => iterG spec_MarksOk_t0 spec_MarksOk_B0 (spec_MarksOk_K0 xs) n ((xs, ((i : Int), ())), ())) xs.length (fun i _ => ∀ j, j < i → MkP xs j) (· = some ((marksB xs, ()), ((), ())))
    (fun i _ hi hI => by
      by_cases h1 : 0 ≤ xs.getD i 0 ∧ xs.getD i 0 ≤ 7
      · by_cases h0 : 0 < i
        · by_cases h2 : xs.getD (i - 1) 0 < xs.getD i 0
          · refine .inr ⟨(), fun j hj => ?_, fun n => ?_⟩
            · rcases Nat.lt_succ_iff_lt_or_eq.1 hj with h | rfl
              · exact hI j h
              · exact ⟨h1, fun _ => h2⟩
            · dsimp only; rw [spec_MarksOk_r0, brk_lt hi, ck_idx hi]; simp only [spec_l1In_z, Option.bind_some, rdD_nat, Ty.zero, h1, and_self, decide_true, Bool.not_true, brk_false, pred_nat h0 (by omega : i ≤ _), step_nat i (by omega)]
              rw [brk_pos (decide_eq_true (by omega)), ck_idx (by omega), ck_idx hi, brk_neg (decide_eq_false (Int.not_le.2 h2))]
          · refine .inl ⟨_, rfl, fun n => ?_⟩
            dsimp only; rw [spec_MarksOk_r0, brk_lt hi, ck_idx hi]; simp only [spec_l1In_z, Option.bind_some, rdD_nat, Ty.zero, h1, and_self, decide_true, Bool.not_true, brk_false, pred_nat h0 (by omega : i ≤ _), step_nat i (by omega)]
            rw [brk_pos (decide_eq_true (by omega)), ck_idx (by omega), ck_idx hi, brk_pos (decide_eq_true (Int.not_lt.1 h2)), spec_MarksOk_e0_0, marksB_no hi fun h => h2 (h.2 h0)]
        · refine .inr ⟨(), fun j hj => ?_, fun n => ?_⟩
          · rcases Nat.lt_succ_iff_lt_or_eq.1 hj with h | rfl
            · exact hI j h
            · exact ⟨h1, fun h => absurd h h0⟩
          · dsimp only; rw [spec_MarksOk_r0, brk_lt hi, ck_idx hi]; simp only [spec_l1In_z, Option.bind_some, rdD_nat, Ty.zero, h1, and_self, decide_true, Bool.not_true, brk_false, step_nat i (by omega)]
            rw [brk_neg (decide_eq_false (by omega))]
      · refine .inl ⟨_, rfl, fun n => ?_⟩
        dsimp only; rw [spec_MarksOk_r0, brk_lt hi, ck_idx hi]; simp only [spec_l1In_z, Option.bind_some, rdD_nat, Ty.zero, h1, decide_false, Bool.not_false, brk_true]
        rw [spec_MarksOk_e0_0, marksB_no hi fun h => h1 h.1])
    (fun _ hI => ⟨_, rfl, fun n => by
      dsimp only
      rw [spec_MarksOk_r0, brk_nlt (by omega), spec_MarksOk_e0_1, marksB_iff.2 hI]⟩) () (fun j hj => by omega)
  exact spec_MarksOk_l0 n h ⟨_, rfl⟩
theorem impl_MarksOk_ok (xs : List Int) (hb : xs.length ≤ big47) : impl_MarksOk_F (xs, ()) = some ((marksB xs, ()), ((), ())) := by
  rw [big47_eq] at hb
  rw [impl_MarksOk_main]
  obtain ⟨n, v, h, rfl⟩ := for_loop (σ := Unit) (G := fun n i _ => iterG impl_MarksOk_t0 impl_MarksOk_B0 (impl_MarksOk_K0 xs) n ((xs, (xs, ((xs.length : Int), ((i : Int), ())))), ())) xs.length (fun i _ => ∀ j, j < i → MkP xs j) (· = some ((marksB xs, ()), ((), ())))
    (fun i _ hi hI => by
      by_cases h1 : 0 ≤ xs.getD i 0 ∧ xs.getD i 0 ≤ 7
      · by_cases h0 : 0 < i
        · by_cases h2 : xs.getD (i - 1) 0 < xs.getD i 0
          · refine .inr ⟨(), fun j hj => ?_, fun n => ?_⟩
            · rcases Nat.lt_succ_iff_lt_or_eq.1 hj with h | rfl
              · exact hI j h
              · exact ⟨h1, fun _ => h2⟩
            · dsimp only; rw [impl_MarksOk_r0, brk_lt hi, ck_idx hi]; simp only [impl_isCell_z, Option.bind_some, rdD_nat, Ty.zero, h1, and_self, decide_true, Bool.not_true, brk_false, pred_nat h0 (by omega : i ≤ _), step_nat i (by omega)]
              rw [brk_pos (decide_eq_true (by omega)), ck_idx (by omega), brk_neg (decide_eq_false (Int.not_le.2 h2))]
          · refine .inl ⟨_, rfl, fun n => ?_⟩
            dsimp only; rw [impl_MarksOk_r0, brk_lt hi, ck_idx hi]; simp only [impl_isCell_z, Option.bind_some, rdD_nat, Ty.zero, h1, and_self, decide_true, Bool.not_true, brk_false, pred_nat h0 (by omega : i ≤ _), step_nat i (by omega)]
            rw [brk_pos (decide_eq_true (by omega)), ck_idx (by omega), brk_pos (decide_eq_true (Int.not_lt.1 h2)), impl_MarksOk_e0_0, marksB_no hi fun h => h2 (h.2 h0)]
        · refine .inr ⟨(), fun j hj => ?_, fun n => ?_⟩
          · rcases Nat.lt_succ_iff_lt_or_eq.1 hj with h | rfl
            · exact hI j h
            · exact ⟨h1, fun h => absurd h h0⟩
          · dsimp only; rw [impl_MarksOk_r0, brk_lt hi, ck_idx hi]; simp only [impl_isCell_z, Option.bind_some, rdD_nat, Ty.zero, h1, and_self, decide_true, Bool.not_true, brk_false, step_nat i (by omega)]
            rw [brk_neg (decide_eq_false (by omega))]
      · refine .inl ⟨_, rfl, fun n => ?_⟩
        dsimp only; rw [impl_MarksOk_r0, brk_lt hi, ck_idx hi]; simp only [impl_isCell_z, Option.bind_some, rdD_nat, Ty.zero, h1, decide_false, Bool.not_false, brk_true]
        rw [impl_MarksOk_e0_0, marksB_no hi fun h => h1 h.1])
    (fun _ hI => ⟨_, rfl, fun n => by
      dsimp only
      rw [impl_MarksOk_r0, brk_nlt (by omega), impl_MarksOk_e0_1, marksB_iff.2 hI]⟩) () (fun j hj => by omega)
  exact impl_MarksOk_l0 n h ⟨_, rfl⟩
theorem brk_nneg {R : Type} {x : Int} (h : 0 ≤ x) (a b : Option R) : brk (decide (x < 0)) a b = b := brk_neg (decide_eq_false (Int.not_lt.2 h)) a b
def bitsB (l : List (List Int)) : Bool := l.all marksB
theorem bitsB_iff {l : List (List Int)} : bitsB l = true ↔ ∀ i, i < l.length → marksB (l.getD i []) = true := by
  unfold bitsB
  rw [List.all_eq_true]
  constructor
  · intro h i hi
    rw [getD_at hi]; exact h _ (List.getElem_mem hi)
  · intro h x hx
    obtain ⟨i, hi, rfl⟩ := List.mem_iff_getElem.1 hx
    rw [← getD_at (d := []) hi]; exact h i hi
theorem bitsB_no {l : List (List Int)} {i : Nat} (hi : i < l.length) (h : marksB (l.getD i []) = false) : bitsB l = false := by
  cases hb : bitsB l with
  | false => rfl
  | true => rw [bitsB_iff.1 hb i hi] at h; cases h
theorem row_le {l : List (List Int)} (h : ∀ r ∈ l, r.length ≤ big47) {i : Nat} (hi : i < l.length) : (l.getD i []).length ≤ big47 := by
  rw [getD_at hi]; exact h _ (List.getElem_mem hi)
def metaOkB (g : List Int) (l : List (List Int)) (o h : Bool) (a : Int) : Bool := gensB g && decide (0 < g.length) && (decide (l.length = 3) && bitsB l) && decide (0 ≤ a ∧ a ≤ 200) && !(o && h)
theorem c3 {α : Type} (l : List α) : ((l.length : Int) = 3) = (l.length = 3) := propext (by omega)
theorem c0 {α : Type} (l : List α) : ((0 : Int) < (l.length : Int)) = (0 < l.length) := propext (by omega)
theorem spec_MetaOk_ok (g : List Int) (l : List (List Int)) (f o h : Bool) (a : Int) (hg : g.length ≤ big47) (hl : l.length ≤ big47) (hr : ∀ r ∈ l, r.length ≤ big47) : spec_MetaOk_F ((g, (l, (f, (o, (h, (a, ())))))), ()) = some ((metaOkB g l o h a, ()), ((), ())) := by
  have hl' := hl
  rw [big47_eq] at hl
  rw [spec_MetaOk_main]
  obtain ⟨n, v, hh, rfl⟩ := for_loop (σ := Unit) (G := fun n i _ => iterG spec_MetaOk_t0 spec_MetaOk_B0 (spec_MetaOk_K0 (g, (l, (f, (o, (h, (a, ()))))))) n (((i : Int), ()), ((g, (l, (f, (o, (h, (a, ())))))), ()))) l.length (fun i _ => ∀ j, j < i → marksB (l.getD j []) = true) (· = some ((metaOkB g l o h a, ()), ((), ())))
    (fun i _ hi hI => by
      cases h1 : marksB (l.getD i []) with
      | true =>
        refine .inr ⟨(), fun j hj => ?_, fun n => ?_⟩
        · rcases Nat.lt_succ_iff_lt_or_eq.1 hj with h | rfl
          · exact hI j h
          · exact h1
        · dsimp only
          rw [spec_MetaOk_r0, brk_lt hi, ck_idx hi, rdD_nat, show tIs.zero = [] from rfl, spec_MarksOk_ok _ (row_le hr hi)]
          simp only [Option.bind_some, h1, Bool.not_true, brk_false, step_nat i (by omega)]
      | false =>
        refine .inl ⟨_, rfl, fun n => ?_⟩
        dsimp only
        rw [spec_MetaOk_r0, brk_lt hi, ck_idx hi, rdD_nat, show tIs.zero = [] from rfl, spec_MarksOk_ok _ (row_le hr hi)]
        simp only [Option.bind_some, h1, Bool.not_false, brk_true]
        rw [spec_MetaOk_e0_0]
        simp [metaOkB, bitsB_no hi h1])
    (fun _ hI => ⟨_, rfl, fun n => by
      dsimp only
      rw [spec_MetaOk_r0, brk_nlt (by omega), spec_MetaOk_e0_1, spec_GensOk_ok _ hg]
      simp only [Option.bind_some, spec_l1In_z, metaOkB, bitsB_iff.2 hI, Bool.and_true, c3, c0]
      generalize l.length = n3
      generalize g.length = n0
      cases gensB g
      · simp
      · by_cases h1 : 0 < n0 <;> by_cases h2 : n3 = 3 <;> by_cases h3 : 0 ≤ a ∧ a ≤ 200 <;> cases o <;> simp [h1, h2, h3, brk]⟩) () (fun j hj => by omega)
  exact spec_MetaOk_l0 n hh ⟨_, rfl⟩
theorem impl_marksAll_1_ok (xs : List Int) (hb : xs.length ≤ big47) : impl_marksAll_1_F (xs, ()) = some ((!marksB xs, ()), ((), ())) := by
  rw [impl_marksAll_1_main, impl_MarksOk_ok _ hb]; rfl
theorem IndexFunc_rows_ok (l : List (List Int)) (hl : l.length ≤ big47) (hr : ∀ r ∈ l, r.length ≤ big47) : ∃ r : Int, slices_IndexFunc__int_F (l, ((), ())) = some ((r, ()), ((), ((), ()))) ∧ decide (0 ≤ r) = !bitsB l := by
  rw [big47_eq] at hl
  rw [slices_IndexFunc__int_main]
  obtain ⟨n, v, hh, r, rfl, hr⟩ := for_loop (σ := Unit) (G := fun n i _ => iterG slices_IndexFunc__int_t0 slices_IndexFunc__int_B0 (slices_IndexFunc__int_K0 l ()) n ((l, ((l.length : Int), ((i : Int), ()))), ())) l.length (fun i _ => ∀ j, j < i → marksB (l.getD j []) = true) (fun v => ∃ r : Int, v = some ((r, ()), ((), ((), ()))) ∧ decide (0 ≤ r) = !bitsB l)
    (fun i _ hi hI => by
      cases h1 : marksB (l.getD i []) with
      | true =>
        refine .inr ⟨(), fun j hj => ?_, fun n => ?_⟩
        · rcases Nat.lt_succ_iff_lt_or_eq.1 hj with h | rfl
          · exact hI j h
          · exact h1
        · dsimp only
          rw [slices_IndexFunc__int_r0, brk_lt hi, ck_idx hi, rdD_nat, show tIs.zero = [] from rfl, impl_marksAll_1_ok _ (row_le hr hi)]
          simp only [Option.bind_some, h1, Bool.not_true, brk_false, step_nat i (by omega)]
      | false =>
        refine .inl ⟨_, ⟨(i : Int), rfl, by rw [bitsB_no hi h1]; simp⟩, fun n => ?_⟩
        dsimp only
        rw [slices_IndexFunc__int_r0, brk_lt hi, ck_idx hi, rdD_nat, show tIs.zero = [] from rfl, impl_marksAll_1_ok _ (row_le hr hi)]
        simp only [Option.bind_some, h1, Bool.not_false, brk_true]
        rw [slices_IndexFunc__int_e0_0])
    (fun _ hI => ⟨_, ⟨-1, rfl, by rw [bitsB_iff.2 hI]; rfl⟩, fun n => by
      dsimp only
      rw [slices_IndexFunc__int_r0, brk_nlt (by omega), slices_IndexFunc__int_e0_1]⟩) () (fun j hj => by omega)
  exact ⟨r, slices_IndexFunc__int_l0 n hh ⟨_, rfl⟩, hr⟩
theorem impl_marksAll_ok (l : List (List Int)) (hl : l.length ≤ big47) (hr : ∀ r ∈ l, r.length ≤ big47) : impl_marksAll_F (l, ()) = some ((decide (l.length = 3) && bitsB l, ()), ((), ())) := by
  obtain ⟨r, h1, h2⟩ := IndexFunc_rows_ok l hl hr
  rw [impl_marksAll_main, slices_ContainsFunc__int_main, h1]
  simp only [Option.bind_some, h2, Bool.not_not]
  by_cases h : l.length = 3
  · rw [brk_pos (decide_eq_true (by omega)), decide_eq_true h, Bool.true_and]
  · rw [brk_neg (decide_eq_false (by omega)), decide_eq_false h, Bool.false_and]
theorem impl_MetaOk_ok (g : List Int) (l : List (List Int)) (f o h : Bool) (a : Int) (hg : g.length ≤ big47) (hl : l.length ≤ big47) (hr : ∀ r ∈ l, r.length ≤ big47) : impl_MetaOk_F ((g, (l, (f, (o, (h, (a, ())))))), ()) = some ((metaOkB g l o h a, ()), ((), ())) := by
  rw [impl_MetaOk_main, impl_GensOk_ok _ hg, impl_marksAll_ok l hl hr]
  simp only [Option.bind_some, impl_from_z, metaOkB, c0]
  generalize l.length = n3
  generalize g.length = n0
  cases gensB g
  · simp
  · by_cases h1 : 0 < n0 <;> by_cases h2 : n3 = 3 <;> by_cases h3 : 0 ≤ a ∧ a ≤ 200 <;> cases bitsB l <;> cases o <;> simp [h1, h2, h3, brk]
theorem rows_ext {l m : List (List Int)} (h : l.length = m.length) (he : ∀ i, i < l.length → l.getD i [] = m.getD i []) : l = m :=
  List.ext_getElem h fun i h1 h2 => by have := he i h1; rwa [getD_at h1, getD_at h2] at this
theorem eqIntSS_ok (l m : List (List Int)) (hl : l.length ≤ big47) (hr : ∀ r ∈ l, r.length ≤ big47) : laws_eqIntSS_F (l, (m, ())) = some ((decide (l = m), ()), ((), ((), ()))) := by
  rw [big47_eq] at hl
  rw [laws_eqIntSS_main]
  by_cases h : l.length = m.length
  · rw [brk_neg (by simp [h])]
    obtain ⟨n, v, hh, rfl⟩ := for_loop (σ := Unit) (G := fun n i s => iterG laws_eqIntSS_t0 laws_eqIntSS_B0 (laws_eqIntSS_K0 l m) n ((l, (m, ((i : Int), ()))), ())) l.length (fun i s => ∀ j, j < i → l.getD j [] = m.getD j []) (· = some ((decide (l = m), ()), ((), ((), ()))))
      (fun i s hi hI => by
        by_cases he : l.getD i [] = m.getD i []
        · refine .inr ⟨(), fun j hj => ?_, fun n => ?_⟩
          · rcases Nat.lt_succ_iff_lt_or_eq.1 hj with h | rfl
            · exact hI j h
            · exact he
          · dsimp only
            rw [laws_eqIntSS_r0, brk_lt hi, ck_idx hi, ck_idx (by omega), rdD_nat, rdD_nat, show tIs.zero = [] from rfl, eqIntS_ok _ _ (row_le hr hi), decide_eq_true he]
            simp only [Option.bind_some, Bool.not_true, brk_false]
            rw [step_nat i (by omega)]
        · refine .inl ⟨_, rfl, fun n => ?_⟩
          dsimp only
          rw [laws_eqIntSS_r0, brk_lt hi, ck_idx hi, ck_idx (by omega), rdD_nat, rdD_nat, show tIs.zero = [] from rfl, eqIntS_ok _ _ (row_le hr hi), decide_eq_false he]
          simp only [Option.bind_some, Bool.not_false, brk_true]
          rw [laws_eqIntSS_e0_0, decide_eq_false fun e => he (by rw [e])])
      (fun s hI => ⟨_, rfl, fun n => by
        dsimp only
        rw [laws_eqIntSS_r0, brk_nlt (by omega), laws_eqIntSS_e0_1, decide_eq_true (rows_ext h hI)]⟩) () (fun j hj => by omega)
    exact laws_eqIntSS_l0 n hh ⟨_, rfl⟩
  · rw [brk_pos (by simp; omega), decide_eq_false fun e => h (by rw [e])]
/-- A meta that is small. -/
def SzMeta (x : tMeta.D) : Prop := x.1.length ≤ 1048576 ∧ x.2.1.length ≤ 1048576 ∧ ∀ r ∈ x.2.1, r.length ≤ 1048576
theorem SzMeta.big {x : tMeta.D} (h : SzMeta x) : x.1.length ≤ big47 ∧ x.2.1.length ≤ big47 ∧ ∀ r ∈ x.2.1, r.length ≤ big47 := by
  obtain ⟨h1, h2, h3⟩ := h
  rw [big47_eq]
  exact ⟨by omega, by omega, fun r hr => by have := h3 r hr; omega⟩
theorem marks_getD (f : Int → Int) : ∀ (n : Nat) (k : Int) (i : Nat), i < n → (marks f k n).getD i 0 = f (k + i)
  | 0, _, i, h => by omega
  | n + 1, k, 0, h => by simp [marks]
  | n + 1, k, i + 1, h => by
    rw [marks, List.getD_cons_succ, marks_getD f n (k + 1) i (by omega)]
    congr 1; omega
theorem heldIntS_ok (n : Nat) (k : Int) (hb : n ≤ 1125899906842624) (h0 : 0 ≤ k) (hk : k ≤ 1125899906842624) (hbb : n ≤ big47) : laws_heldIntS_F (marks id k n, (k, ())) = some ((k + n, ()), ((), ((), ()))) := by
  rw [big47_eq] at hbb
  rw [laws_heldIntS_main]
  have hl := marks_len id n k
  obtain ⟨m, v, hh, rfl⟩ := for_loop (σ := Unit) (G := fun m i _ => iterG laws_heldIntS_t0 laws_heldIntS_B0 (laws_heldIntS_K0 (marks id k n) k) m ((marks id k n, (k + i, ((i : Int), ()))), ())) n (fun i _ => True) (· = some ((k + n, ()), ((), ((), ()))))
    (fun i _ hi _ => .inr ⟨(), trivial, fun m => by
      dsimp only
      rw [laws_heldIntS_r0, hl, brk_lt hi, ck_idx hi, rdD_nat, show tI.zero = 0 from rfl, marks_getD id n k i hi, brk_neg (by simp), step_nat i (by omega), wrap64 (by omega) (by omega)]
      rw [show k + (i : Int) + 1 = k + ((i + 1 : Nat) : Int) by omega]⟩)
    (fun _ _ => ⟨_, rfl, fun m => by
      dsimp only
      rw [laws_heldIntS_r0, hl, brk_nlt (by omega), laws_heldIntS_e0_1]⟩) () trivial
  rw [show k + ((0 : Nat) : Int) = k by simp] at hh
  exact laws_heldIntS_l0 m hh ⟨_, rfl⟩
def totR : List (List Int) → Nat
  | [] => 0
  | r :: l => r.length + totR l
def marksR : Int → List (List Int) → List (List Int)
  | _, [] => []
  | k, r :: l => marks id k r.length :: marksR (k + r.length) l
theorem totR_app : ∀ l m : List (List Int), totR (l ++ m) = totR l + totR m
  | [], m => by simp [totR]
  | r :: l, m => by simp only [List.cons_append, totR, totR_app l m]; omega
theorem marksR_len : ∀ (l : List (List Int)) (k : Int), (marksR k l).length = l.length
  | [], _ => rfl
  | r :: l, k => by simp [marksR, marksR_len l]
theorem marksR_snoc : ∀ (l : List (List Int)) (k : Int) (r : List Int), marksR k (l ++ [r]) = marksR k l ++ [marks id (k + totR l) r.length]
  | [], k, r => by simp [marksR, totR]
  | q :: l, k, r => by
    simp only [List.cons_append, marksR, marksR_snoc l, totR]
    rw [show k + (q.length : Int) + (totR l : Int) = k + ((q.length + totR l : Nat) : Int) by omega]
theorem marksR_getD : ∀ (l : List (List Int)) (k : Int) (i : Nat), i < l.length → (marksR k l).getD i [] = marks id (k + totR (l.take i)) (l.getD i []).length
  | [], k, i, h => by simp at h
  | q :: l, k, 0, h => by simp [marksR, totR]
  | q :: l, k, i + 1, h => by
    rw [marksR, List.getD_cons_succ, marksR_getD l _ i (by simpa using h), List.take_succ_cons, totR, List.getD_cons_succ]
    rw [show k + (q.length : Int) + (totR (l.take i) : Int) = k + ((q.length + totR (l.take i) : Nat) : Int) by omega]
theorem totR_take_le (l : List (List Int)) (i : Nat) : totR (l.take i) ≤ totR l := by
  conv => rhs; rw [← List.take_append_drop i l, totR_app]
  omega
theorem totR_next {l : List (List Int)} {i : Nat} (hi : i < l.length) : totR (l.take (i + 1)) = totR (l.take i) + (l.getD i []).length := by
  rw [take_next hi, totR_app, getD_at hi]; simp [totR]
theorem totR_le {l : List (List Int)} {c : Nat} (h : ∀ r ∈ l, r.length ≤ c) : totR l ≤ l.length * c := by
  induction l with
  | nil => simp [totR]
  | cons r l ih =>
    have h1 := h r (by simp)
    have h2 := ih fun x hx => h x (by simp [hx])
    simp only [totR, List.length_cons, Nat.add_mul]
    omega
theorem markIntSS_ok (l : List (List Int)) (k : Int) (hl : l.length ≤ 1500000) (hr : ∀ r ∈ l, r.length ≤ 1500000) (h0 : 0 ≤ k) (hk : k + totR l ≤ 1125899906842624) : laws_markIntSS_F (l, (k, ())) = some ((k + totR l, ()), (marksR k l, ((), ()))) := by
  rw [laws_markIntSS_main]
  obtain ⟨n, v, hh, rfl⟩ := for_loop (σ := Int × List (List Int)) (G := fun n i z => iterG laws_markIntSS_t0 laws_markIntSS_B0 (laws_markIntSS_K0 l k) n ((z.1, ((i : Int), ())), (z.2, ()))) l.length (fun i z => z.1 = k + totR (l.take i) ∧ z.2 = marksR k (l.take i) ++ l.drop i) (· = some ((k + totR l, ()), (marksR k l, ((), ()))))
    (fun i z hi ⟨h1, h2⟩ => by
      obtain ⟨k', s⟩ := z
      simp only at h1 h2 ⊢
      have hml := marksR_len (l.take i) k
      have hsl : s.length = l.length := by rw [h2, List.length_append, hml, List.length_take, List.length_drop]; omega
      have hrow : s.getD i [] = l.getD i [] := by
        rw [h2, List.getD_eq_getElem?_getD, List.getElem?_append_right (by rw [hml, List.length_take]; omega), hml, List.length_take, Nat.min_eq_left (by omega), Nat.sub_self, List.drop_eq_getElem_cons hi, getD_at hi]; rfl
      have hlen : (l.getD i []).length ≤ 1500000 := by rw [getD_at hi]; exact hr _ (List.getElem_mem hi)
      have ht := totR_take_le l i
      refine .inr ⟨(k' + (l.getD i []).length, s.set i (marks id k' (l.getD i []).length)), ⟨?_, ?_⟩, fun n => ?_⟩
      · simp only; rw [totR_next hi, h1]; omega
      · simp only
        rw [take_next hi, marksR_snoc, h2, List.set_append_right _ _ (by rw [hml, List.length_take]; omega), hml, List.length_take, Nat.min_eq_left (by omega), Nat.sub_self, List.drop_eq_getElem_cons hi, List.set_cons_zero, getD_at hi, h1]
        simp
      · rw [laws_markIntSS_r0, brk_lt (by omega), ck_idx (by omega), rdD_nat, show tIs.zero = [] from rfl, hrow, markIntS_ok _ _ (by omega) (by rw [big47_eq]; omega) (by omega) (by omega)]
        simp only [Option.bind_some]
        rw [step_nat i (by omega)]; rfl)
    (fun z ⟨h1, h2⟩ => ⟨_, rfl, fun n => by
      obtain ⟨k', s⟩ := z
      simp only at h1 h2 ⊢
      rw [List.take_length, List.drop_length, List.append_nil] at h2
      rw [List.take_length] at h1
      rw [laws_markIntSS_r0, brk_nlt (by rw [h2, marksR_len]; omega), laws_markIntSS_e0_0, h1, h2]⟩) (k, l) ⟨by simp [totR], by simp [marksR]⟩
  exact laws_markIntSS_l0 n hh ⟨_, rfl⟩
theorem heldIntSS_ok (l : List (List Int)) (k : Int) (hl : l.length ≤ 1500000) (hr : ∀ r ∈ l, r.length ≤ 1500000) (h0 : 0 ≤ k) (hk : k + totR l ≤ 1125899906842624) : laws_heldIntSS_F (marksR k l, (k, ())) = some ((k + totR l, ()), ((), ((), ()))) := by
  rw [laws_heldIntSS_main]
  have hml := marksR_len l k
  obtain ⟨n, v, hh, rfl⟩ := for_loop (σ := Int) (G := fun n i z => iterG laws_heldIntSS_t0 laws_heldIntSS_B0 (laws_heldIntSS_K0 (marksR k l) k) n ((marksR k l, (z, ((i : Int), ()))), ())) l.length (fun i z => z = k + totR (l.take i)) (· = some ((k + totR l, ()), ((), ((), ()))))
    (fun i z hi h1 => by
      have hlen : (l.getD i []).length ≤ 1500000 := by rw [getD_at hi]; exact hr _ (List.getElem_mem hi)
      have ht := totR_take_le l i
      refine .inr ⟨z + (l.getD i []).length, by rw [totR_next hi, h1]; omega, fun n => ?_⟩
      dsimp only
      rw [laws_heldIntSS_r0, hml, brk_lt hi, ck_idx hi, rdD_nat, show tIs.zero = [] from rfl, marksR_getD l k i hi, ← h1, heldIntS_ok _ _ (by omega) (by omega) (by omega) (by rw [big47_eq]; omega)]
      simp only [Option.bind_some]
      rw [brk_nneg (by omega), step_nat i (by omega)])
    (fun z h1 => ⟨_, rfl, fun n => by
      dsimp only
      rw [List.take_length] at h1
      rw [laws_heldIntSS_r0, hml, brk_nlt (by omega), laws_heldIntSS_e0_1, h1]⟩) k (by simp [totR])
  exact laws_heldIntSS_l0 n hh ⟨_, rfl⟩
/-- A meta that is not large. -/
def SzM (x : tMeta.D) : Prop := x.1.length ≤ 1500000 ∧ x.2.1.length ≤ 1500000 ∧ ∀ r ∈ x.2.1, r.length ≤ 1500000
theorem SzM.big {x : tMeta.D} (h : SzM x) : x.1.length ≤ big47 ∧ x.2.1.length ≤ big47 ∧ ∀ r ∈ x.2.1, r.length ≤ big47 := by
  obtain ⟨h1, h2, h3⟩ := h
  rw [big47_eq]
  exact ⟨by omega, by omega, fun r hr => by have := h3 r hr; omega⟩
theorem SzM.tot {x : tMeta.D} (h : SzM x) : x.1.length + totR x.2.1 ≤ 2250001500000 := by
  have h1 := totR_le h.2.2
  have h2 : x.2.1.length * 1500000 ≤ 1500000 * 1500000 := Nat.mul_le_mul_right _ h.2.1
  have := h.1
  omega
def markedM (k : Int) (x : tMeta.D) : tMeta.D := (marks id k x.1.length, (marksR (k + x.1.length) x.2.1, x.2.2))
theorem markMeta_ok (x : tMeta.D) (k : Int) (h : SzM x) (h0 : 0 ≤ k) (hk : k ≤ 1048576) : laws_markMeta_F (x, (k, ())) = some ((k + x.1.length + totR x.2.1, ()), (markedM k x, ((), ()))) := by
  have ht := h.tot
  have h1 := h.1
  rw [laws_markMeta_main, markIntS_ok _ _ (by omega) h.big.1 h0 (by omega)]
  simp only [Option.bind_some]
  rw [markIntSS_ok _ _ h.2.1 h.2.2 (by omega) (by omega)]
  rfl
theorem heldMeta_ok (x : tMeta.D) (k : Int) (h : SzM x) (h0 : 0 ≤ k) (hk : k ≤ 1048576) : laws_heldMeta_F (markedM k x, (k, ())) = some ((k + x.1.length + totR x.2.1, ()), ((), ((), ()))) := by
  have ht := h.tot
  have h1 := h.1
  rw [laws_heldMeta_main]
  unfold markedM
  simp only
  rw [heldIntS_ok _ _ (by omega) h0 (by omega) h.big.1]
  simp only [Option.bind_some]
  rw [brk_nneg (by omega), heldIntSS_ok _ _ h.2.1 h.2.2 (by omega) (by omega)]
  simp only [Option.bind_some]
  rw [brk_nneg (by omega)]
/-! ### Metas as bytes -/
theorem eqMeta_selfM (x : tMeta.D) (h : SzM x) : laws_eqMeta_F (x, (x, ())) = some ((true, ()), ((), ((), ()))) := by
  obtain ⟨h1, h2, h3⟩ := h.big
  rw [laws_eqMeta_main, eqIntS_ok _ _ h1, eqIntSS_ok _ _ h2 h3]
  simp
def metaNewP (n : Int) : tMeta.D := if metaOkB [n] [[], [], []] false false 0 = true then ([n], ([[], [], []], (true, (false, (false, ((0 : Int), ())))))) else ([], ([], (false, (false, (false, ((0 : Int), ()))))))
theorem metaNewP_sz (n : Int) : SzM (metaNewP n) := by
  unfold metaNewP SzM
  split
  · simp
  · simp
theorem spec_MetaNew_ok (n : Int) : spec_MetaNew_F (n, ()) = some ((metaNewP n, ()), ((), ())) := by
  rw [spec_MetaNew_main, ck_pos (by decide)]
  rw [show (List.replicate (3 : Int).toNat tIs.zero : List (List Int)) = [[], [], []] from rfl, spec_MetaOk_ok _ _ _ _ _ _ (by simp [big47]) (by simp [big47]) (by simp)]
  simp only [Option.bind_some]
  unfold metaNewP
  cases metaOkB [n] [[], [], []] false false 0 <;> rfl
theorem impl_MetaNew_ok (n : Int) : impl_MetaNew_F (n, ()) = some ((metaNewP n, ()), ((), ())) := by
  rw [impl_MetaNew_main, ck_pos (by decide)]
  rw [show (List.replicate (3 : Int).toNat tIs.zero : List (List Int)) = [[], [], []] from rfl, impl_MetaOk_ok _ _ _ _ _ _ (by simp [big47]) (by simp [big47]) (by simp)]
  simp only [Option.bind_some]
  unfold metaNewP
  cases metaOkB [n] [[], [], []] false false 0 <;> rfl
theorem laws_FnExactMetaNew_pure (n : tI.D) (hn : Ok tI n) : laws_FnExactMetaNew_F (n, ()) = some ((true, ()), ((), ())) := by
  have h1 := spec_MetaNew_ok n
  have h2 := impl_MetaNew_ok n
  have hs := metaNewP_sz n
  generalize metaNewP n = m at h1 h2 hs
  have h3 := eqMeta_selfM m hs
  have h4 := markMeta_ok m 1 hs (by omega) (by omega)
  have h5 := heldMeta_ok m 1 hs (by omega) (by omega)
  obtain ⟨g, l, f, o, h, a, u⟩ := m
  cases u
  simp only [markedM] at h4 h5
  rw [laws_FnExactMetaNew_main, h1]
  simp only [Option.bind_some]
  rw [h2]
  simp only [Option.bind_some]
  rw [h3]
  simp only [Option.bind_some, Bool.not_true, brk_false]
  rw [h4]
  simp only [Option.bind_some]
  rw [h5]
  simp only [Option.bind_some]
  rw [brk_nneg (by omega)]
  simp only [decide_true, Bool.not_true, brk_false]
  rw [brk_nneg (by omega)]
end Go.Refl
