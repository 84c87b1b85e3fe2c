/- Plain laws: what the functions come to. No condition. -/
import Derived.Test.YtfikbjbijpbdkaaFnExactUnionGf
namespace Go.Refl
open Go.RowKit
set_option linter.unusedVariables false
set_option linter.unusedSimpArgs false
theorem eqIntS_loop {R : Type} (K : Ex → AS → Option R) (xs ys : List Int) (hl : xs.length = ys.length) (hb : xs.length ≤ big47) : ∀ (n i : Nat), i + n = xs.length →
    iterG laws_eqIntS_t0 laws_eqIntS_B0 K (n + 1) ((xs, (ys, ((i : Int), ()))), ()) = if xs.drop i = ys.drop i then K (.exit 0) laws_eqIntS_x0_1 else K .ret (laws_eqIntS_x0_0 false)
  | 0, i, h => by
    have hx : xs.drop i = [] := List.drop_of_length_le (by omega)
    have hy : ys.drop i = [] := List.drop_of_length_le (by omega)
    rw [laws_eqIntS_r0, brk_neg (by simp; omega), hx, hy, if_pos rfl]
  | n + 1, i, h => by
    have hi : i < xs.length := by omega
    have hj : i < ys.length := by omega
    rw [laws_eqIntS_r0, brk_pos (by simp; omega), ck_pos (by simp; omega), ck_pos (by simp; omega)]
    rw [rdD_get (List.getElem?_eq_getElem hi), rdD_get (List.getElem?_eq_getElem hj)]
    have hd : (xs.drop i = ys.drop i) ↔ (xs[i] = ys[i] ∧ xs.drop (i + 1) = ys.drop (i + 1)) := by
      rw [List.drop_eq_getElem_cons hi, List.drop_eq_getElem_cons hj, List.cons.injEq]
    by_cases he : xs[i] = ys[i]
    · rw [brk_neg (by simp [he]), wrap64 (by omega) (by simp only [big47] at hb; omega)]
      have := eqIntS_loop K xs ys hl hb n (i + 1) (by omega)
      rw [show ((i : Int) + 1) = ((i + 1 : Nat) : Int) by simp, this]
      by_cases hr : xs.drop (i + 1) = ys.drop (i + 1)
      · rw [if_pos hr, if_pos (hd.2 ⟨he, hr⟩)]
      · rw [if_neg hr, if_neg fun h => hr (hd.1 h).2]
    · rw [brk_pos (by simp [he]), if_neg fun h => he (hd.1 h).1]
theorem eqIntS_ok (xs ys : List Int) (hb : xs.length ≤ big47) : laws_eqIntS_F (xs, (ys, ())) = some ((decide (xs = ys), ()), ((), ((), ()))) := by
  rw [laws_eqIntS_main]
  by_cases hl : xs.length = ys.length
  · rw [brk_neg (by simp [hl])]
    have h : iterG laws_eqIntS_t0 laws_eqIntS_B0 (laws_eqIntS_K0 xs ys) (xs.length + 1) ((xs, (ys, ((0 : Int), ()))), ()) = _ := eqIntS_loop (laws_eqIntS_K0 xs ys) xs ys hl hb xs.length 0 (by omega)
    by_cases he : xs = ys
    · rw [laws_eqIntS_l0 _ h (by subst he; exact ⟨_, by simp only [if_true]; exact laws_eqIntS_e0_1 _ _⟩)]
      subst he
      simp only [if_true]
      rw [laws_eqIntS_e0_1]; simp
    · have h0 : ¬ xs.drop 0 = ys.drop 0 := by simpa using he
      rw [if_neg h0] at h
      rw [laws_eqIntS_l0 _ h ⟨_, laws_eqIntS_e0_0 _ _ _⟩, laws_eqIntS_e0_0]
      simp [he]
  · rw [brk_pos (by simp; omega)]
    have : xs ≠ ys := fun h => hl (by rw [h])
    simp [this]
theorem take_set_next {α : Type} {out xs : List α} {i : Nat} (hl : out.length = xs.length) (hi : i < xs.length) (ht : out.take i = xs.take i) : (out.set i xs[i]).take (i + 1) = xs.take (i + 1) := by
  rw [List.take_succ_eq_append_getElem (by simpa [hl] using hi), List.take_succ_eq_append_getElem hi]
  rw [List.take_set_of_le (Nat.le_refl i), ht]
  simp
theorem toIntS_loop {R : Type} (K : Ex → AS → Option R) (xs : List Int) (hb : xs.length ≤ big47) : ∀ (n i : Nat) (out : List Int), i + n = xs.length → out.length = xs.length → out.take i = xs.take i →
    iterG laws_toIntS_t0 laws_toIntS_B0 K (n + 1) ((xs, ((i : Int), ())), (out, ())) = K (.exit 0) (laws_toIntS_x0_0 xs)
  | 0, i, out, h, hl, ht => by
    rw [laws_toIntS_r0, brk_neg (by simp; omega)]
    rw [List.take_of_length_le (by omega), List.take_of_length_le (by omega)] at ht
    rw [ht]
  | n + 1, i, out, h, hl, ht => by
    have hi : i < xs.length := by omega
    rw [laws_toIntS_r0, brk_pos (by simp; omega), ck_pos (by simp; omega), ck_pos (by simp; omega)]
    rw [rdD_get (List.getElem?_eq_getElem hi), wrap64 (by omega) (by simp only [big47] at hb; omega)]
    rw [show ((i : Int) + 1) = ((i + 1 : Nat) : Int) by simp]
    exact toIntS_loop K xs hb n (i + 1) _ (by omega) (by simpa using hl) (take_set_next hl hi ht)
theorem toIntS_ok (xs : List Int) (hb : xs.length ≤ 1048576) : laws_toIntS_F (xs, ()) = some ((xs, ()), ((), ())) := by
  rw [laws_toIntS_main, ck_pos (by simp; omega)]
  have h : iterG laws_toIntS_t0 laws_toIntS_B0 (laws_toIntS_K0 xs) (xs.length + 1) ((xs, ((0 : Int), ())), (List.replicate (xs.length : Int).toNat tI.zero, ())) = _ := toIntS_loop (laws_toIntS_K0 xs) xs (by simp only [big47]; omega) xs.length 0 _ (by omega) (by simp) (by simp)
  rw [laws_toIntS_l0 _ h ⟨_, laws_toIntS_e0_0 _ _⟩, laws_toIntS_e0_0]
/-- Numbers from k on, as f makes them. -/
def marks (f : Int → Int) (k : Int) : Nat → List Int
  | 0 => []
  | n + 1 => f k :: marks f (k + 1) n
theorem marks_len (f : Int → Int) : ∀ (n : Nat) (k : Int), (marks f k n).length = n
  | 0, _ => rfl
  | n + 1, k => by simp [marks, marks_len f n]
theorem drop_set_next {α : Type} {xs : List α} {i : Nat} (hi : i < xs.length) (v : α) : (xs.set i v).take (i + 1) = xs.take i ++ [v] := by
  rw [List.take_succ_eq_append_getElem (by simpa using hi), List.take_set_of_le (Nat.le_refl i)]
  simp
theorem markIntS_loop {R : Type} (K : Ex → AS → Option R) : ∀ (n i : Nat) (k : Int) (xs : List Int), i + n = xs.length → xs.length ≤ big47 → 0 ≤ k → k + n ≤ 4611686018427387904 →
    iterG laws_markIntS_t0 laws_markIntS_B0 K (n + 1) ((k, ((i : Int), ())), (xs, ())) = K (.exit 0) (laws_markIntS_x0_0 (k + n) (xs.take i ++ marks id k n))
  | 0, i, k, xs, h, hb, h0, hk => by
    rw [laws_markIntS_r0, brk_neg (by simp; omega)]
    rw [List.take_of_length_le (by omega)]
    simp [marks]
  | n + 1, i, k, xs, h, hb, h0, hk => by
    have hi : i < xs.length := by omega
    rw [laws_markIntS_r0, brk_pos (by simp; omega), ck_pos (by simp; omega)]
    rw [wrap64 (by omega) (by omega), wrap64 (by omega) (by simp only [big47] at hb; omega)]
    rw [show ((i : Int) + 1) = ((i + 1 : Nat) : Int) by simp]
    rw [markIntS_loop K n (i + 1) (k + 1) _ (by simp; omega) (by simpa using hb) (by omega) (by omega)]
    rw [show ((i : Int)).toNat = i by simp, drop_set_next hi, show k + 1 + (n : Int) = k + ((n + 1 : Nat) : Int) by omega]
    simp [marks]
theorem markIntS_ok (xs : List Int) (k : Int) (hb : xs.length ≤ 1125899906842624) (hbb : xs.length ≤ big47) (h0 : 0 ≤ k) (hk : k ≤ 1125899906842624) : laws_markIntS_F (xs, (k, ())) = some ((k + xs.length, ()), (marks id k xs.length, ((), ()))) := by
  rw [laws_markIntS_main]
  have h : iterG laws_markIntS_t0 laws_markIntS_B0 (laws_markIntS_K0 xs k) (xs.length + 1) ((k, ((0 : Int), ())), (xs, ())) = _ := markIntS_loop (laws_markIntS_K0 xs k) xs.length 0 k xs (by omega) hbb h0 (by omega)
  rw [laws_markIntS_l0 _ h ⟨_, laws_markIntS_e0_0 _ _ _ _⟩, laws_markIntS_e0_0]
  simp
theorem spec_l1In_ok (x lo hi : Int) : spec_l1In_F (x, (lo, (hi, ()))) = some ((decide (lo ≤ x) && decide (x ≤ hi), ()), ((), ((), ((), ())))) := by
  rw [spec_l1In_main]
  by_cases h : lo ≤ x <;> simp [h]
theorem two_has {R : Type} (K : Ex → AS → Option R) (xs : List Int) (v : Int) (hb : xs.length ≤ big47) : ∀ (n i : Nat), i + n = xs.length →
    iterG spec_l2Has_t0 spec_l2Has_B0 K (n + 1) ((xs, (v, ((i : Int), ()))), ()) = if v ∈ xs.drop i then K .ret (spec_l2Has_x0_0 true) else K (.exit 0) spec_l2Has_x0_1
  | 0, i, h => by
    rw [spec_l2Has_r0, brk_neg (by simp; omega), List.drop_of_length_le (by omega)]
    simp
  | n + 1, i, h => by
    have hi : i < xs.length := by omega
    simp only [big47] at hb
    rw [spec_l2Has_r0, brk_pos (by simp; omega), ck_pos (by simp; omega), rdD_get (List.getElem?_eq_getElem hi), List.drop_eq_getElem_cons hi]
    by_cases he : xs[i] = v
    · rw [brk_pos (by simp [he]), if_pos (by rw [he]; exact List.mem_cons_self)]
    · rw [brk_neg (by simp [he]), wrap64 (by omega) (by omega), show ((i : Int) + 1) = ((i + 1 : Nat) : Int) by simp]
      rw [two_has K xs v (by simp only [big47]; omega) n (i + 1) (by omega)]
      have : (v ∈ xs[i] :: xs.drop (i + 1)) ↔ v ∈ xs.drop (i + 1) := by
        rw [List.mem_cons]; exact ⟨fun h => h.resolve_left fun e => he e.symm, .inr⟩
      by_cases hm : v ∈ xs.drop (i + 1)
      · rw [if_pos hm, if_pos (this.2 hm)]
      · rw [if_neg hm, if_neg fun h => hm (this.1 h)]
theorem brk_if {R : Type} (p : Prop) [Decidable p] (a b : Option R) : brk (decide p) a b = if p then a else b := by by_cases h : p <;> simp [h, brk]
theorem n0 : ((0 : Nat) : Int) = 0 := rfl
theorem big47_eq : big47 = 140737488355328 := rfl
theorem spec_l2Has_ok (xs : List Int) (v : Int) (hb : xs.length ≤ big47) : spec_l2Has_F (xs, (v, ())) = some ((decide (v ∈ xs), ()), ((), ((), ()))) := by
  rw [spec_l2Has_main]
  have h := two_has (spec_l2Has_K0 xs v) xs v hb xs.length 0 (by omega)
  rw [List.drop_zero, n0] at h
  by_cases hm : v ∈ xs
  · rw [if_pos hm] at h
    rw [spec_l2Has_l0 _ h ⟨_, spec_l2Has_e0_0 _ _ _⟩, spec_l2Has_e0_0, decide_eq_true hm]
  · rw [if_neg hm] at h
    rw [spec_l2Has_l0 _ h ⟨_, spec_l2Has_e0_1 _ _⟩, spec_l2Has_e0_1, decide_eq_false hm]
theorem Index_loop {R : Type} (K : Ex → AS → Option R) (xs : List Int) (v : Int) (hb : xs.length ≤ big47) : ∀ (n i : Nat), i + n = xs.length →
    (v ∈ xs.drop i ∧ ∃ j : Nat, iterG slices_Index_int_t0 slices_Index_int_B0 K (n + 1) ((xs, (v, ((xs.length : Int), ((i : Int), ())))), ()) = K .ret (slices_Index_int_x0_0 (j : Int))) ∨
    (v ∉ xs.drop i ∧ iterG slices_Index_int_t0 slices_Index_int_B0 K (n + 1) ((xs, (v, ((xs.length : Int), ((i : Int), ())))), ()) = K (.exit 0) slices_Index_int_x0_1)
  | 0, i, h => by
    right
    rw [slices_Index_int_r0, brk_neg (by simp; omega), List.drop_of_length_le (by omega)]
    simp
  | n + 1, i, h => by
    have hi : i < xs.length := by omega
    simp only [big47] at hb
    rw [slices_Index_int_r0, brk_pos (by simp; omega), ck_pos (by simp; omega), rdD_get (List.getElem?_eq_getElem hi), List.drop_eq_getElem_cons hi]
    by_cases he : v = xs[i]
    · left
      rw [brk_pos (by simp [he])]
      exact ⟨by rw [← he]; exact List.mem_cons_self, i, rfl⟩
    · rw [brk_neg (by simp [he]), wrap64 (by omega) (by omega), show ((i : Int) + 1) = ((i + 1 : Nat) : Int) by simp]
      rcases Index_loop K xs v (by simp only [big47]; omega) n (i + 1) (by omega) with ⟨h1, j, h2⟩ | ⟨h1, h2⟩
      · exact .inl ⟨List.mem_cons_of_mem _ h1, j, h2⟩
      · exact .inr ⟨fun hm => (List.mem_cons.1 hm).elim he h1, h2⟩
theorem slices_Index_int_ok (xs : List Int) (v : Int) (hb : xs.length ≤ big47) : ∃ r : Int, slices_Index_int_F (xs, (v, ())) = some ((r, ()), ((), ((), ()))) ∧ (0 ≤ r ↔ v ∈ xs) := by
  rw [slices_Index_int_main]
  rcases Index_loop (slices_Index_int_K0 xs v) xs v hb xs.length 0 (by omega) with ⟨h1, j, h2⟩ | ⟨h1, h2⟩
  · rw [n0] at h2
    exact ⟨j, by rw [slices_Index_int_l0 _ h2 ⟨_, slices_Index_int_e0_0 _ _ _⟩, slices_Index_int_e0_0], by simp at h1; simp [h1]⟩
  · rw [n0] at h2
    exact ⟨-1, by rw [slices_Index_int_l0 _ h2 ⟨_, slices_Index_int_e0_1 _ _⟩, slices_Index_int_e0_1], by simp at h1; simp [h1]⟩
theorem slices_Contains_int_ok (xs : List Int) (v : Int) (hb : xs.length ≤ big47) : slices_Contains_int_F (xs, (v, ())) = some ((decide (v ∈ xs), ()), ((), ((), ()))) := by
  obtain ⟨r, h1, h2⟩ := slices_Index_int_ok xs v hb
  rw [slices_Contains_int_main, h1]
  simp only [Option.bind_some, h2]
theorem impl_from_ok (x lo hi : Int) : impl_from_F (x, (lo, (hi, ()))) = some ((decide (lo ≤ x ∧ x ≤ hi), ()), ((), ((), ((), ())))) := by
  rw [impl_from_main, brk_if]
  by_cases h : lo ≤ x <;> simp [h]
theorem impl_isCell_ok (x : Int) : impl_isCell_F (x, ()) = some ((decide (0 ≤ x ∧ x ≤ 7), ()), ((), ())) := by rw [impl_isCell_main, impl_from_ok]; rfl
theorem spec_l1In_ok' (x lo hi : Int) : spec_l1In_F (x, (lo, (hi, ()))) = some ((decide (lo ≤ x ∧ x ≤ hi), ()), ((), ((), ((), ())))) := by
  rw [spec_l1In_ok]
  by_cases h : lo ≤ x <;> simp [h]
theorem take_next {α : Type} {xs : List α} {i : Nat} (hi : i < xs.length) : xs.take (i + 1) = xs.take i ++ [xs[i]] := List.take_succ_eq_append_getElem hi
/-- A loop that counts up: a round ends it, or goes on. -/
theorem for_loop {R σ : Type} {G : Nat → Nat → σ → Option R} (N : Nat) (Inv : Nat → σ → Prop) (Post : Option R → Prop)
    (hs : ∀ i s, i < N → Inv i s → (∃ v, Post v ∧ ∀ n, G (n + 1) i s = v) ∨ (∃ s', Inv (i + 1) s' ∧ ∀ n, G (n + 1) i s = G n (i + 1) s'))
    (hf : ∀ s, Inv N s → ∃ v, Post v ∧ ∀ n, G (n + 1) N s = v) (s : σ) (h : Inv 0 s) : ∃ n v, G n 0 s = v ∧ Post v := by
  have key : ∀ (k i : Nat) (s : σ), i + k = N → Inv i s → ∃ n v, G n i s = v ∧ Post v := by
    intro k
    induction k with
    | zero =>
      intro i s hi h
      have : i = N := by omega
      subst this
      obtain ⟨v, hv, hg⟩ := hf s h
      exact ⟨1, v, hg 0, hv⟩
    | succ k ih =>
      intro i s hi h
      rcases hs i s (by omega) h with ⟨v, hv, hg⟩ | ⟨s', h', hg⟩
      · exact ⟨1, v, hg 0, hv⟩
      · obtain ⟨n, v, hn, hv⟩ := ih (i + 1) s' (by omega) h'
        exact ⟨n + 1, v, (hg n).trans hn, hv⟩
  exact key N 0 s (by omega) h
theorem step_nat (i : Nat) (h : i ≤ 4611686018427387904) : IntKind.i64.wrap ((i : Int) + 1) = ((i + 1 : Nat) : Int) := by
  rw [wrap64 (by omega) (by omega)]; rfl
theorem rdD_nat {t : Ty} (xs : List t.D) (i : Nat) : rdD t xs (i : Int) = xs.getD i t.zero := rfl
theorem getD_at {α : Type} {xs : List α} {i : Nat} {d : α} (h : i < xs.length) : xs.getD i d = xs[i] := by simp [h]
theorem ck_idx {R : Type} {i n : Nat} (h : i < n) (a : Option R) : ck (decide ((0 : Int) ≤ (i : Int)) && decide ((i : Int) < (n : Int))) a = a := ck_pos (by simp; omega) a
theorem brk_lt {R : Type} {i n : Nat} (h : i < n) (a b : Option R) : brk (decide ((i : Int) < (n : Int))) a b = a := brk_pos (by simp; omega) a b
theorem brk_nlt {R : Type} {i n : Nat} (h : ¬ i < n) (a b : Option R) : brk (decide ((i : Int) < (n : Int))) a b = b := brk_neg (by simp; omega) a b
theorem brk_nneg {R : Type} {x : Int} (h : 0 ≤ x) (a b : Option R) : brk (decide (x < 0)) a b = b := brk_neg (decide_eq_false (Int.not_lt.2 h)) a b
theorem marks_getD (f : Int → Int) : ∀ (n : Nat) (k : Int) (i : Nat), i < n → (marks f k n).getD i 0 = f (k + i)
  | 0, _, i, h => by omega
  | n + 1, k, 0, h => by simp [marks]
  | n + 1, k, i + 1, h => by
    rw [marks, List.getD_cons_succ, marks_getD f n (k + 1) i (by omega)]
    congr 1; omega
theorem heldIntS_ok (n : Nat) (k : Int) (hb : n ≤ 1125899906842624) (h0 : 0 ≤ k) (hk : k ≤ 1125899906842624) (hbb : n ≤ big47) : laws_heldIntS_F (marks id k n, (k, ())) = some ((k + n, ()), ((), ((), ()))) := by
  rw [big47_eq] at hbb
  rw [laws_heldIntS_main]
  have hl := marks_len id n k
  obtain ⟨m, v, hh, rfl⟩ := for_loop (σ := Unit) (G := fun m i _ => iterG laws_heldIntS_t0 laws_heldIntS_B0 (laws_heldIntS_K0 (marks id k n) k) m ((marks id k n, (k + i, ((i : Int), ()))), ())) n (fun i _ => True) (· = some ((k + n, ()), ((), ((), ()))))
    (fun i _ hi _ => .inr ⟨(), trivial, fun m => by
      dsimp only
      rw [laws_heldIntS_r0, hl, brk_lt hi, ck_idx hi, rdD_nat, show tI.zero = 0 from rfl, marks_getD id n k i hi, brk_neg (by simp), step_nat i (by omega), wrap64 (by omega) (by omega)]
      rw [show k + (i : Int) + 1 = k + ((i + 1 : Nat) : Int) by omega]⟩)
    (fun _ _ => ⟨_, rfl, fun m => by
      dsimp only
      rw [laws_heldIntS_r0, hl, brk_nlt (by omega), laws_heldIntS_e0_1]⟩) () trivial
  rw [show k + ((0 : Nat) : Int) = k by simp] at hh
  exact laws_heldIntS_l0 m hh ⟨_, rfl⟩
theorem both_same {R : Type} {a b : Option R} (h : a = b) : both a b = a := by unfold both; rw [if_pos h]
theorem slices_Clone_int_ok (xs : List Int) (hb : xs.length ≤ 17592186044415) : slices_Clone_int_F (xs, ()) = some ((xs, ()), ((), ())) := by
  rw [slices_Clone_int_main, ck_pos (by simp [big47]; omega), List.nil_append]
  by_cases h : xs.length = 0
  · obtain rfl := List.length_eq_zero_iff.1 h
    rw [brk_pos (decide_eq_true h), both_same rfl]
  · rw [brk_neg (decide_eq_false h)]
def ltB (v : Int) : Int → Bool := fun x => decide (x < v)
/-- A list with a cell where it comes by its size, once. -/
def markB (xs : List Int) (v : Int) : List Int := if v ∈ xs ∨ ¬ (0 ≤ v ∧ v ≤ 7) then xs else xs.takeWhile (ltB v) ++ [v] ++ xs.dropWhile (ltB v)
theorem while_at {p : Int → Bool} : ∀ {xs : List Int} {i : Nat}, i ≤ xs.length → (∀ j, j < i → p (xs.getD j 0) = true) → (i = xs.length ∨ p (xs.getD i 0) = false) → xs.takeWhile p = xs.take i ∧ xs.dropWhile p = xs.drop i
  | [], i, hi, _, _ => by simp
  | x :: xs, 0, hi, _, hn => by
    have : p x = false := by
      rcases hn with hn | hn
      · simp at hn
      · simpa using hn
    simp [this]
  | x :: xs, i + 1, hi, h, hn => by
    have h0 : p x = true := by simpa using h 0 (by omega)
    obtain ⟨a, b⟩ := while_at (xs := xs) (i := i) (by simpa using hi) (fun j hj => by simpa using h (j + 1) (by omega)) (by
      rcases hn with hn | hn
      · left; simpa using hn
      · right; simpa using hn)
    simp [h0, a, b]
theorem markB_len (xs : List Int) (v : Int) : (markB xs v).length ≤ xs.length + 1 := by
  unfold markB
  split
  · omega
  · have := congrArg List.length (List.takeWhile_append_dropWhile (p := ltB v) (l := xs))
    simp only [List.length_append, List.length_cons, List.length_nil] at this ⊢
    omega
theorem markB_at {xs : List Int} {v : Int} {i : Nat} (hv : v ∉ xs) (h7 : 0 ≤ v ∧ v ≤ 7) (hi : i ≤ xs.length) (h : ∀ j, j < i → xs.getD j 0 < v) (hn : i = xs.length ∨ ¬ xs.getD i 0 < v) : markB xs v = xs.take i ++ [v] ++ xs.drop i := by
  obtain ⟨a, b⟩ := while_at (p := ltB v) hi (fun j hj => decide_eq_true (h j hj)) (hn.imp id fun h => decide_eq_false h)
  unfold markB
  rw [if_neg (fun h => h.elim hv fun h => h h7), a, b]
theorem getD_mem {xs : List Int} {i : Nat} (hi : i < xs.length) : xs.getD i 0 ∈ xs := by
  rw [getD_at hi]; exact List.getElem_mem hi
theorem spec_Mark_ok (xs : List Int) (v : Int) (hb : xs.length ≤ 4194304) : spec_Mark_F (xs, (v, ())) = some ((markB xs v, ()), ((), ((), ()))) := by
  rw [spec_Mark_main, spec_l2Has_ok xs v (Nat.le_trans hb (by rw [big47_eq]; omega))]
  simp only [Option.bind_some]
  have hck : ∀ R (a : Option R), ck (decide ((([] : List Int).length + xs.length) * 8 ≤ big47)) a = a := fun R a => ck_pos (decide_eq_true (by rw [big47_eq, List.length_nil]; omega)) a
  by_cases hv : v ∈ xs
  · rw [decide_eq_true hv, brk_true, hck, markB, if_pos (.inl hv)]; rfl
  · rw [decide_eq_false hv, brk_false, spec_l1In_ok']
    simp only [Option.bind_some]
    by_cases h7 : 0 ≤ v ∧ v ≤ 7
    · rw [decide_eq_true h7, Bool.not_true, brk_false]
      have fin : ∀ i : Nat, i ≤ xs.length → (∀ j, j < i → xs.getD j 0 < v) → (i = xs.length ∨ ¬ xs.getD i 0 < v) → spec_Mark_K0 xs v (.exit 0) (spec_Mark_x0_0 xs v i) = some ((markB xs v, ()), ((), ((), ()))) := fun i hi h hn => by
        rw [spec_Mark_e0_0, markB_at hv h7 hi h hn]
        simp only [Int.toNat_natCast, Int.toNat_zero, List.drop_zero, List.take_length, List.nil_append]
        rw [ck_pos (by simp; omega), ck_pos (decide_eq_true (by rw [big47_eq]; simp only [List.length_nil, List.length_take]; omega)), ck_pos (decide_eq_true (by rw [big47_eq]; simp only [List.length_take, List.length_cons, List.length_nil]; omega)), ck_pos (by simp; omega),
          ck_pos (decide_eq_true (by rw [big47_eq]; simp only [List.length_append, List.length_take, List.length_cons, List.length_nil, List.length_drop]; omega))]
      obtain ⟨n, w, h, rfl⟩ := for_loop (σ := Unit) (G := fun n i _ => iterG spec_Mark_t0 spec_Mark_B0 (spec_Mark_K0 xs v) n ((xs, (v, ((i : Int), ()))), ())) xs.length (fun i _ => ∀ j, j < i → xs.getD j 0 < v) (· = some ((markB xs v, ()), ((), ((), ()))))
        (fun i _ hi hI => by
          by_cases hx : xs.getD i 0 < v
          · refine .inr ⟨(), fun j hj => ?_, fun n => ?_⟩
            · rcases Nat.lt_succ_iff_lt_or_eq.1 hj with h | rfl
              · exact hI j h
              · exact hx
            · dsimp only
              rw [spec_Mark_r0, brk_lt hi, ck_idx hi, rdD_nat, show tI.zero = 0 from rfl, decide_eq_true hx, brk_true, step_nat i (by omega)]
          · refine .inl ⟨_, rfl, fun n => ?_⟩
            dsimp only
            rw [spec_Mark_r0, brk_lt hi, ck_idx hi, rdD_nat, show tI.zero = 0 from rfl, decide_eq_false hx, brk_false, fin i (Nat.le_of_lt hi) hI (.inr hx)])
        (fun _ hI => ⟨_, rfl, fun n => by
          dsimp only
          rw [spec_Mark_r0, brk_nlt (by omega), fin xs.length (Nat.le_refl _) hI (.inl rfl)]⟩) () (fun j hj => by omega)
      exact spec_Mark_l0 n h ⟨_, rfl⟩
    · rw [decide_eq_false h7, Bool.not_false, brk_true, hck, markB, if_pos (.inr h7)]; rfl
theorem impl_inserted_1_ok (x c : Int) : impl_inserted_1_F (x, (c, ())) = some ((decide (c < x), ()), ((), (c, ()))) := impl_inserted_1_main x c
theorem IndexFuncI_ok (xs : List Int) (c : Int) (hb : xs.length ≤ big47) : ∃ r : Int, slices_IndexFunc_intI_F (xs, ((c, ()), ())) = some ((r, ()), ((), ((c, ()), ()))) ∧
    ((r = -1 ∧ ∀ j, j < xs.length → ¬ c < xs.getD j 0) ∨ ∃ k : Nat, r = k ∧ k < xs.length ∧ c < xs.getD k 0 ∧ ∀ j, j < k → ¬ c < xs.getD j 0) := by
  rw [big47_eq] at hb
  rw [slices_IndexFunc_intI_main]
  obtain ⟨n, v, hh, r, rfl, hr⟩ := for_loop (σ := Unit) (G := fun n i s => iterG slices_IndexFunc_intI_t0 slices_IndexFunc_intI_B0 (slices_IndexFunc_intI_K0 xs (c, ())) n ((xs, ((xs.length : Int), ((i : Int), ()))), ((c, ()), ()))) xs.length (fun i s => ∀ j, j < i → ¬ c < xs.getD j 0)
    (fun v => ∃ r : Int, v = some ((r, ()), ((), ((c, ()), ()))) ∧ ((r = -1 ∧ ∀ j, j < xs.length → ¬ c < xs.getD j 0) ∨ ∃ k : Nat, r = k ∧ k < xs.length ∧ c < xs.getD k 0 ∧ ∀ j, j < k → ¬ c < xs.getD j 0))
    (fun i s hi hI => by
      by_cases he : c < xs.getD i 0
      · refine .inl ⟨_, ⟨(i : Int), rfl, .inr ⟨i, rfl, hi, he, hI⟩⟩, fun n => ?_⟩
        dsimp only
        rw [slices_IndexFunc_intI_r0, brk_lt hi, ck_idx hi, rdD_nat, show tI.zero = 0 from rfl, impl_inserted_1_ok, decide_eq_true he]
        simp only [Option.bind_some, brk_true]
        rw [slices_IndexFunc_intI_e0_0]
      · refine .inr ⟨(), fun j hj => ?_, fun n => ?_⟩
        · rcases Nat.lt_succ_iff_lt_or_eq.1 hj with h | rfl
          · exact hI j h
          · exact he
        · dsimp only
          rw [slices_IndexFunc_intI_r0, brk_lt hi, ck_idx hi, rdD_nat, show tI.zero = 0 from rfl, impl_inserted_1_ok, decide_eq_false he]
          simp only [Option.bind_some, brk_false]
          rw [step_nat i (by omega)])
    (fun s hI => ⟨_, ⟨-1, rfl, .inl ⟨rfl, hI⟩⟩, fun n => by
      dsimp only
      rw [slices_IndexFunc_intI_r0, brk_nlt (by omega), slices_IndexFunc_intI_e0_1]⟩) () (fun j hj => by omega)
  exact ⟨r, slices_IndexFunc_intI_l0 n hh ⟨_, rfl⟩, hr⟩
theorem insI_ok (xs : List Int) (i : Nat) (v : Int) (hi : i ≤ xs.length) (hb : xs.length ≤ 4194304) : slices_Insert_int_F (xs, ((i : Int), ([v], ()))) = some ((xs.take i ++ [v] ++ xs.drop i, ()), ((), ((), ((), ())))) := by
  show insF xs i [v] = _
  unfold insF
  rw [if_pos ⟨by omega, by show (i : Int) ≤ ((xs.length : Nat) : Int); omega, by simp, by omega, by simp⟩]
  simp
theorem impl_Mark_ok (xs : List Int) (v : Int) (hb : xs.length ≤ 4194304) : impl_Mark_F (xs, (v, ())) = some ((markB xs v, ()), ((), ((), ()))) := by
  have hb2 : xs.length ≤ big47 := Nat.le_trans hb (by rw [big47_eq]; omega)
  rw [impl_Mark_main, impl_isCell_ok]
  simp only [Option.bind_some]
  by_cases h7 : 0 ≤ v ∧ v ≤ 7
  · rw [decide_eq_true h7, Bool.not_true, brk_false, impl_inserted_main, slices_Clone_int_ok xs (by omega), slices_Contains_int_ok xs v hb2]
    simp only [Option.bind_some]
    by_cases hv : v ∈ xs
    · rw [decide_eq_true hv, brk_true, markB, if_pos (.inl hv)]; rfl
    · rw [decide_eq_false hv, brk_false]
      obtain ⟨r, hr, hc⟩ := IndexFuncI_ok xs v hb2
      rw [hr]
      simp only [Option.bind_some]
      have low : ∀ j, j < xs.length → ¬ v < xs.getD j 0 → xs.getD j 0 < v := fun j hj h => by
        have hne : xs.getD j 0 ≠ v := fun he => hv (he ▸ getD_mem hj)
        omega
      rcases hc with ⟨rfl, hall⟩ | ⟨k, rfl, hk, hgt, hall⟩
      · rw [brk_pos (show decide ((-1 : Int) < 0) = true from rfl), insI_ok xs xs.length v (Nat.le_refl _) hb, markB_at hv h7 (Nat.le_refl _) (fun j hj => low j hj (hall j hj)) (.inl rfl)]
        rfl
      · rw [brk_nneg (by omega), insI_ok xs k v (Nat.le_of_lt hk) hb, markB_at hv h7 (Nat.le_of_lt hk) (fun j hj => low j (by omega) (hall j hj)) (.inr (by omega))]
        rfl
  · rw [decide_eq_false h7, Bool.not_false, brk_true, slices_Clone_int_ok xs (by omega), markB, if_pos (.inr h7)]; rfl
theorem growI_ok (n : Int) (h0 : 0 ≤ n) (hn : n ≤ 1099511627776) : slices_Grow_int_F (([] : List Int), (n, ())) = some ((([] : List Int), ()), ((), ((), ()))) := by
  show growF [] n = _
  unfold growF
  rw [if_pos ⟨h0, hn, by simp⟩]
theorem slices_Concat_int_ok (a b : List Int) (ha : a.length ≤ 4194304) (hb : b.length ≤ 4194304) : slices_Concat_int_F ([a, b], ()) = some ((a ++ b, ()), ((), ())) := by
  rw [slices_Concat_int_main]
  have hi0 : (decide ((0 : Int) ≤ 0) && decide ((0 : Int) < (([a, b] : List (List Int)).length : Int))) = true := by simp
  have hi1 : (decide ((0 : Int) ≤ 1) && decide ((1 : Int) < (([a, b] : List (List Int)).length : Int))) = true := by simp
  have hl2 : iterG slices_Concat_int_t2 slices_Concat_int_B2 (slices_Concat_int_K2 [a, b]) 3 (([a, b], ((2 : Int), ((0 : Int), ()))), (([] : List Int), ())) = some ((a ++ b, ()), ((), ())) := by
    rw [slices_Concat_int_r2, brk_pos (by decide), ck_pos hi0, ck_pos (decide_eq_true (by show (([] : List Int).length + a.length) * 8 ≤ big47; rw [big47_eq, List.length_nil]; omega))]
    rw [show IntKind.i64.wrap ((0 : Int) + 1) = 1 from rfl, slices_Concat_int_r2, brk_pos (by decide), ck_pos hi1, ck_pos (decide_eq_true (by show (([] ++ a : List Int).length + b.length) * 8 ≤ big47; rw [big47_eq, List.length_append, List.length_nil]; omega))]
    rw [show IntKind.i64.wrap ((1 : Int) + 1) = 2 from rfl, slices_Concat_int_r2, brk_neg (by decide), slices_Concat_int_e2_0]
    rfl
  have hl0 : iterG slices_Concat_int_t0 slices_Concat_int_B0 (slices_Concat_int_K0 [a, b]) 3 (([a, b], ((0 : Int), ([a, b], ((2 : Int), ((0 : Int), ()))))), ()) = some ((a ++ b, ()), ((), ())) := by
    have e1 : IntKind.i64.wrap ((0 : Int) + ((rdD tIs [a, b] (0 : Int)).length : Int)) = (a.length : Int) := by
      rw [show rdD tIs [a, b] (0 : Int) = a from rfl, wrap64 (by omega) (by omega)]; omega
    have e2 : IntKind.i64.wrap ((a.length : Int) + ((rdD tIs [a, b] (1 : Int)).length : Int)) = (a.length : Int) + (b.length : Int) := by
      rw [show rdD tIs [a, b] (1 : Int) = b from rfl, wrap64 (by omega) (by omega)]
    rw [slices_Concat_int_r0, brk_pos (by decide), ck_pos hi0, e1, brk_nneg (by omega), show IntKind.i64.wrap ((0 : Int) + 1) = 1 from rfl]
    rw [slices_Concat_int_r0, brk_pos (by decide), ck_pos hi1, e2, brk_nneg (by omega), show IntKind.i64.wrap ((1 : Int) + 1) = 2 from rfl]
    rw [slices_Concat_int_r0, brk_neg (by decide), slices_Concat_int_e0_0, growI_ok _ (by omega) (by omega)]
    exact slices_Concat_int_l2 3 hl2 ⟨_, rfl⟩
  exact slices_Concat_int_l0 3 hl0 ⟨_, rfl⟩
/-- Marks put together, one behind the other. -/
def unionB (a b : List Int) : List Int := (a ++ b).foldl markB []
theorem foldl_take {xs : List Int} {i : Nat} (hi : i < xs.length) (acc : List Int) : (xs.take (i + 1)).foldl markB acc = markB ((xs.take i).foldl markB acc) (xs.getD i 0) := by
  rw [take_next hi, List.foldl_append, getD_at hi]; rfl
theorem foldl_len : ∀ (xs acc : List Int), (xs.foldl markB acc).length ≤ acc.length + xs.length
  | [], acc => by simp
  | x :: xs, acc => by
    have h1 := foldl_len xs (markB acc x)
    have h2 := markB_len acc x
    simp only [List.foldl_cons, List.length_cons]
    omega
theorem impl_Union_ok (a b : List Int) (ha : a.length ≤ 1500000) (hb : b.length ≤ 1500000) : impl_Union_F (a, (b, ())) = some ((unionB a b, ()), ((), ((), ()))) := by
  rw [impl_Union_main, slices_Concat_int_ok a b (by omega) (by omega)]
  simp only [Option.bind_some]
  unfold unionB
  have hl : (a ++ b).length ≤ 3000000 := by rw [List.length_append]; omega
  generalize a ++ b = xs at hl
  obtain ⟨n, v, h, rfl⟩ := for_loop (σ := List Int) (G := fun n i s => iterG impl_Union_t0 impl_Union_B0 (impl_Union_K0 a b) n (((xs.length : Int), ((i : Int), ())), (xs, (s, ())))) xs.length (fun i s => s = (xs.take i).foldl markB []) (· = some ((xs.foldl markB [], ()), ((), ((), ()))))
    (fun i s hi hI => .inr ⟨_, (foldl_take hi []).symm, fun n => by
      have hs := foldl_len (xs.take i) []
      rw [← hI] at hs
      simp only [List.length_nil, List.length_take] at hs
      dsimp only
      rw [impl_Union_r0, brk_lt hi, ck_idx hi, rdD_nat, show tI.zero = 0 from rfl, impl_Mark_ok s _ (by omega)]
      simp only [Option.bind_some]
      rw [step_nat i (by omega), hI]⟩)
    (fun s hI => ⟨_, rfl, fun n => by
      dsimp only
      rw [impl_Union_r0, brk_nlt (by omega), impl_Union_e0_0, hI, List.take_length]⟩) ([] : List Int) rfl
  exact impl_Union_l0 n h ⟨_, rfl⟩
theorem spec_Union_ok (a b : List Int) (ha : a.length ≤ 1500000) (hb : b.length ≤ 1500000) : spec_Union_F (a, (b, ())) = some ((unionB a b, ()), ((), ((), ()))) := by
  rw [spec_Union_main]
  unfold unionB
  rw [List.foldl_append]
  have two : ∀ acc : List Int, acc.length ≤ 1500000 → loopG spec_Union_t2 spec_Union_B2 (spec_Union_K2 a b) ((b, ((0 : Int), ())), (acc, ())) = some ((b.foldl markB acc, ()), ((), ((), ()))) := fun acc hacc => by
    obtain ⟨n, v, h, rfl⟩ := for_loop (σ := List Int) (G := fun n i s => iterG spec_Union_t2 spec_Union_B2 (spec_Union_K2 a b) n ((b, ((i : Int), ())), (s, ()))) b.length (fun i s => s = (b.take i).foldl markB acc) (· = some ((b.foldl markB acc, ()), ((), ((), ()))))
      (fun i s hi hI => .inr ⟨_, (foldl_take hi acc).symm, fun n => by
        have hs := foldl_len (b.take i) acc
        rw [← hI] at hs
        simp only [List.length_take] at hs
        dsimp only
        rw [spec_Union_r2, brk_lt hi, ck_idx hi, rdD_nat, show tI.zero = 0 from rfl, spec_Mark_ok s _ (by omega)]
        simp only [Option.bind_some]
        rw [step_nat i (by omega), hI]⟩)
      (fun s hI => ⟨_, rfl, fun n => by
        dsimp only
        rw [spec_Union_r2, brk_nlt (by omega), spec_Union_e2_0, hI, List.take_length]⟩) acc rfl
    exact spec_Union_l2 n h ⟨_, rfl⟩
  obtain ⟨n, v, h, rfl⟩ := for_loop (σ := List Int) (G := fun n i s => iterG spec_Union_t0 spec_Union_B0 (spec_Union_K0 a b) n ((a, (b, ((i : Int), ()))), (s, ()))) a.length (fun i s => s = (a.take i).foldl markB []) (· = some ((b.foldl markB (a.foldl markB []), ()), ((), ((), ()))))
    (fun i s hi hI => .inr ⟨_, (foldl_take hi []).symm, fun n => by
      have hs := foldl_len (a.take i) []
      rw [← hI] at hs
      simp only [List.length_nil, List.length_take] at hs
      dsimp only
      rw [spec_Union_r0, brk_lt hi, ck_idx hi, rdD_nat, show tI.zero = 0 from rfl, spec_Mark_ok s _ (by omega)]
      simp only [Option.bind_some]
      rw [step_nat i (by omega), hI]⟩)
    (fun s hI => ⟨_, rfl, fun n => by
      have hs := foldl_len a []
      rw [List.length_nil] at hs
      dsimp only
      rw [spec_Union_r0, brk_nlt (by omega), spec_Union_e0_0, hI, List.take_length, two _ (by omega)]⟩) ([] : List Int) rfl
  exact spec_Union_l0 n h ⟨_, rfl⟩
theorem laws_FnExactUnion_pure (x : tIs.D) (hX : Ok tIs x) (y : tIs.D) (hY : Ok tIs y) : laws_FnExactUnion_F (x, (y, ())) = some ((true, ()), ((), ((), ()))) := by
  have hb : List.length x ≤ big47 := hX.1
  have hb' : List.length y ≤ big47 := hY.1
  rw [laws_FnExactUnion_main]
  by_cases hx : (1048576 : Int) < (List.length x : Int)
  · rw [brk_pos (decide_eq_true hx)]
  · rw [brk_neg (decide_eq_false hx)]
    by_cases hy : (1048576 : Int) < (List.length y : Int)
    · rw [brk_pos (decide_eq_true hy)]
    rw [brk_neg (decide_eq_false hy)]
    have hl : List.length x ≤ 1048576 := by omega
    have hl' : List.length y ≤ 1048576 := by omega
    have hc : (unionB x y).length ≤ 2097152 := by
      have := foldl_len (x ++ y) []
      rw [List.length_nil, List.length_append] at this
      unfold unionB; omega
    have hcb : (unionB x y).length ≤ big47 := Nat.le_trans hc (by rw [big47_eq]; omega)
    have h1 := toIntS_ok x hl
    have h1' := toIntS_ok y hl'
    have h2 := spec_Union_ok x y (by omega) (by omega)
    have h3 := impl_Union_ok x y (by omega) (by omega)
    have h4 := eqIntS_ok (unionB x y) (unionB x y) hcb
    have h5 := eqIntS_ok x x hb
    have h5' := eqIntS_ok y y hb'
    have h6 := markIntS_ok x 1 (by omega) hb (by omega) (by omega)
    have h6' := markIntS_ok y (1 + List.length x) (by omega) hb' (by omega) (by omega)
    have h7 := markIntS_ok (unionB x y) 1 (by omega) hcb (by omega) (by omega)
    have h8 := heldIntS_ok (unionB x y).length 1 (by omega) (by omega) (by omega) hcb
    rw [h1]
    simp only [Option.bind_some]
    rw [h1']
    simp only [Option.bind_some]
    rw [h2]
    simp only [Option.bind_some]
    rw [h3]
    simp only [Option.bind_some]
    rw [h4]
    simp only [Option.bind_some, decide_true, Bool.not_true, brk_false]
    rw [h5]
    simp only [Option.bind_some, decide_true, Bool.not_true, brk_false]
    rw [h5']
    simp only [Option.bind_some, decide_true, Bool.not_true, brk_false]
    rw [h6]
    simp only [Option.bind_some]
    rw [h6']
    simp only [Option.bind_some]
    rw [brk_nneg (by omega), h7]
    simp only [Option.bind_some]
    rw [h8]
    simp only [Option.bind_some]
    rw [brk_nneg (by omega)]
    simp only [decide_true, Bool.not_true, brk_false]
    rw [brk_nneg (by omega)]
end Go.Refl
