/- Plain laws: what the functions come to. No condition. -/
import Derived.Test.YthmaaogfmakohaaFnMetasGf
namespace Go.Refl
open Go.RowKit
set_option linter.unusedVariables false
set_option linter.unusedSimpArgs false
/-- A number's bytes, seven bits each, the low ones first. -/
def numB (n : Nat) : List Int := if h : n ≤ 127 then [(n : Int)] else ((n % 128 + 128 : Nat) : Int) :: numB (n / 128)
termination_by n
decreasing_by omega
theorem numB_small {n : Nat} (h : n ≤ 127) : numB n = [(n : Int)] := by rw [numB, dif_pos h]
theorem numB_big {n : Nat} (h : ¬ n ≤ 127) : numB n = ((n % 128 + 128 : Nat) : Int) :: numB (n / 128) := by rw [numB, dif_neg h]
theorem wrap8 {x : Int} (h1 : 0 ≤ x) (h2 : x ≤ 255) : IntKind.u8.wrap x = x := by
  simp only [IntKind.wrap, IntKind.signed, IntKind.bits]
  simp
  omega
theorem numB_len : ∀ (k n : Nat), n < 128 ^ (k + 1) → (numB n).length ≤ k + 1
  | 0, n, h => by rw [numB_small (by omega)]; simp
  | k + 1, n, h => by
    by_cases hn : n ≤ 127
    · rw [numB_small hn]; simp
    · rw [numB_big hn]
      have := numB_len k (n / 128) (by rw [Nat.div_lt_iff_lt_mul (by omega)]; rw [Nat.pow_succ] at h; exact h)
      simpa using this
theorem spec_PutNum_loop {R : Type} (K : Ex → AS → Option R) : ∀ (k n : Nat) (acc : List Int), n < 128 ^ (k + 1) → n ≤ 2147483647 → acc.length + k ≤ 1000000 →
    ∃ (m d : Nat) (acc' : List Int), iterG spec_PutNum_t0 spec_PutNum_B0 K m (((n : Int), ()), (acc, ())) = K (.exit 0) (spec_PutNum_x0_0 (d : Int) acc') ∧ acc' ++ [(d : Int)] = acc ++ numB n ∧ d ≤ 127 ∧ acc'.length ≤ acc.length + k
  | 0, n, acc, h, hn, hl => by
    refine ⟨1, n, acc, ?_, by rw [numB_small (by omega)], by omega, by omega⟩
    rw [spec_PutNum_r0, brk_neg (by simp; omega)]
  | k + 1, n, acc, h, hn, hl => by
    by_cases hs : n ≤ 127
    · refine ⟨1, n, acc, ?_, by rw [numB_small hs], hs, by omega⟩
      rw [spec_PutNum_r0, brk_neg (by simp; omega)]
    · obtain ⟨m, d, acc', h1, h2, h3, h4⟩ := spec_PutNum_loop K k (n / 128) (acc ++ [((n % 128 + 128 : Nat) : Int)]) (by rw [Nat.div_lt_iff_lt_mul (by omega)]; rw [Nat.pow_succ] at h; exact h) (by omega) (by simp; omega)
      refine ⟨m + 1, d, acc', ?_, ?_, h3, by simp at h4; omega⟩
      · rw [spec_PutNum_r0, brk_pos (by simp; omega), ck_pos (by simp [big47]; omega)]
        have e1 : (n : Int).tmod 128 = ((n % 128 : Nat) : Int) := by rw [Int.tmod_eq_emod_of_nonneg (by omega)]; omega
        have e2 : (n : Int).tdiv 128 = ((n / 128 : Nat) : Int) := by rw [Int.tdiv_eq_ediv_of_nonneg (by omega)]; omega
        rw [e1, e2, wrap64 (by omega) (by omega), wrap64 (by omega) (by omega), wrap8 (by omega) (by omega)]
        rw [show ((n % 128 : Nat) : Int) + 128 = ((n % 128 + 128 : Nat) : Int) by omega]
        exact h1
      · rw [h2, numB_big hs]; simp
theorem impl_PutNum_loop {R : Type} (K : Ex → AS → Option R) : ∀ (k n : Nat) (acc : List Int), n < 128 ^ (k + 1) → n ≤ 2147483647 → acc.length + k ≤ 1000000 →
    ∃ (m d : Nat) (acc' : List Int), iterG impl_PutNum_t0 impl_PutNum_B0 K m (((n : Int), ()), (acc, ())) = K (.exit 0) (impl_PutNum_x0_0 (d : Int) acc') ∧ acc' ++ [(d : Int)] = acc ++ numB n ∧ d ≤ 127 ∧ acc'.length ≤ acc.length + k
  | 0, n, acc, h, hn, hl => by
    refine ⟨1, n, acc, ?_, by rw [numB_small (by omega)], by omega, by omega⟩
    rw [impl_PutNum_r0, brk_neg (by simp; omega)]
  | k + 1, n, acc, h, hn, hl => by
    by_cases hs : n ≤ 127
    · refine ⟨1, n, acc, ?_, by rw [numB_small hs], hs, by omega⟩
      rw [impl_PutNum_r0, brk_neg (by simp; omega)]
    · obtain ⟨m, d, acc', h1, h2, h3, h4⟩ := impl_PutNum_loop K k (n / 128) (acc ++ [((n % 128 + 128 : Nat) : Int)]) (by rw [Nat.div_lt_iff_lt_mul (by omega)]; rw [Nat.pow_succ] at h; exact h) (by omega) (by simp; omega)
      refine ⟨m + 1, d, acc', ?_, ?_, h3, by simp at h4; omega⟩
      · rw [impl_PutNum_r0, brk_pos (by simp; omega), ck_pos (by simp [big47]; omega)]
        have e1 : (n : Int).tmod 128 = ((n % 128 : Nat) : Int) := by rw [Int.tmod_eq_emod_of_nonneg (by omega)]; omega
        have e2 : (n : Int).tdiv 128 = ((n / 128 : Nat) : Int) := by rw [Int.tdiv_eq_ediv_of_nonneg (by omega)]; omega
        rw [e1, e2, wrap64 (by omega) (by omega), wrap64 (by omega) (by omega), wrap8 (by omega) (by omega)]
        rw [show ((n % 128 : Nat) : Int) + 128 = ((n % 128 + 128 : Nat) : Int) by omega]
        exact h1
      · rw [h2, numB_big hs]; simp
/-- What is put of a number. -/
def putN (x : Int) : List Int := if 0 ≤ x ∧ x ≤ 2147483647 then numB x.toNat else []
theorem spec_l1In_ok (x lo hi : Int) : spec_l1In_F (x, (lo, (hi, ()))) = some ((decide (lo ≤ x) && decide (x ≤ hi), ()), ((), ((), ((), ())))) := by
  rw [spec_l1In_main]
  by_cases h : lo ≤ x <;> simp [h]
theorem spec_PutNum_in (n : Nat) (h : n ≤ 2147483647) : loopG spec_PutNum_t0 spec_PutNum_B0 (spec_PutNum_K0 (n : Int)) (((n : Int), ()), ([], ())) = some ((numB n, ()), ((), ())) := by
  obtain ⟨m, d, acc', h1, h2, h3, h4⟩ := spec_PutNum_loop (spec_PutNum_K0 (n : Int)) 4 n [] (by omega) h (by simp)
  have h5 : spec_PutNum_K0 (n : Int) (.exit 0) (spec_PutNum_x0_0 (d : Int) acc') = some ((numB n, ()), ((), ())) := by
    rw [spec_PutNum_e0_0, wrap8 (by omega) (by omega), ck_pos (by simp at h4; simp [big47]; omega), h2]; rfl
  rw [spec_PutNum_l0 m h1 ⟨_, h5⟩, h5]
theorem impl_PutNum_in (n : Nat) (h : n ≤ 2147483647) : loopG impl_PutNum_t0 impl_PutNum_B0 (impl_PutNum_K0 (n : Int)) (((n : Int), ()), ([], ())) = some ((numB n, ()), ((), ())) := by
  obtain ⟨m, d, acc', h1, h2, h3, h4⟩ := impl_PutNum_loop (impl_PutNum_K0 (n : Int)) 4 n [] (by omega) h (by simp)
  have h5 : impl_PutNum_K0 (n : Int) (.exit 0) (impl_PutNum_x0_0 (d : Int) acc') = some ((numB n, ()), ((), ())) := by
    rw [impl_PutNum_e0_0, wrap8 (by omega) (by omega), ck_pos (by simp at h4; simp [big47]; omega), h2]; rfl
  rw [impl_PutNum_l0 m h1 ⟨_, h5⟩, h5]
theorem spec_PutNum_ok (x : Int) : spec_PutNum_F (x, ()) = some ((putN x, ()), ((), ())) := by
  rw [spec_PutNum_main, spec_l1In_ok]
  simp only [Option.bind_some]
  unfold putN
  by_cases h : 0 ≤ x ∧ x ≤ 2147483647
  · obtain ⟨n, rfl⟩ := Int.eq_ofNat_of_zero_le h.1
    rw [brk_neg (by simp; omega), if_pos h, spec_PutNum_in n (by omega)]
    simp
  · rw [brk_pos (by simp; omega), if_neg h]
theorem impl_PutNum_ok (x : Int) : impl_PutNum_F (x, ()) = some ((putN x, ()), ((), ())) := by
  rw [impl_PutNum_main]
  unfold putN
  by_cases h : 0 ≤ x ∧ x ≤ 2147483647
  · obtain ⟨n, rfl⟩ := Int.eq_ofNat_of_zero_le h.1
    rw [brk_neg (by simp), brk_neg (by simp; omega), if_pos h, impl_PutNum_in n (by omega)]
    simp
  · rw [if_neg h]
    by_cases h0 : x < 0
    · rw [brk_pos (by simpa using h0)]
    · rw [brk_neg (by simpa using h0), brk_pos (by simp; omega)]
theorem putN_len (x : Int) : (putN x).length ≤ 5 := by
  unfold putN
  split
  · exact numB_len 4 _ (by omega)
  · simp
def putNs (xs : List Int) : List Int := xs.flatMap putN
theorem putNs_len (xs : List Int) : (putNs xs).length ≤ xs.length * 5 := by
  induction xs with
  | nil => simp [putNs]
  | cons x xs ih =>
    have := putN_len x
    simp only [putNs, List.flatMap_cons, List.length_append, List.length_cons] at ih ⊢
    omega
theorem putNums_loop {R : Type} (K : Ex → AS → Option R) (xs : List Int) (hx : xs.length ≤ 2000000) : ∀ (n i : Nat) (acc : List Int), i + n = xs.length → acc.length ≤ i * 5 →
    iterG impl_putNums_t0 impl_putNums_B0 K (n + 1) ((xs, ((xs.length : Int), ((i : Int), ()))), (acc, ())) = K (.exit 0) (impl_putNums_x0_0 (acc ++ putNs (xs.drop i)))
  | 0, i, acc, h, ha => by
    rw [impl_putNums_r0, brk_neg (by simp; omega), List.drop_of_length_le (by omega)]
    simp [putNs]
  | n + 1, i, acc, h, ha => by
    have hi : i < xs.length := by omega
    have hp := putN_len xs[i]
    rw [impl_putNums_r0, brk_pos (by simp; omega), ck_pos (by simp; omega), rdD_get (List.getElem?_eq_getElem hi), impl_PutNum_ok]
    simp only [Option.bind_some]
    rw [ck_pos (by simp only [big47]; simp; omega), wrap64 (by omega) (by omega), show ((i : Int) + 1) = ((i + 1 : Nat) : Int) by simp]
    rw [putNums_loop K xs hx n (i + 1) _ (by omega) (by simp; omega), List.drop_eq_getElem_cons hi]
    simp only [putNs, List.flatMap_cons, List.append_assoc]
theorem impl_putNums_ok (xs : List Int) (hx : xs.length ≤ 2000000) : impl_putNums_F (xs, ()) = some ((putNs xs, ()), ((), ())) := by
  rw [impl_putNums_main]
  have h : iterG impl_putNums_t0 impl_putNums_B0 (impl_putNums_K0 xs) (xs.length + 1) ((xs, ((xs.length : Int), ((0 : Int), ()))), ([], ())) = _ := putNums_loop (impl_putNums_K0 xs) xs hx xs.length 0 [] (by omega) (by simp)
  rw [impl_putNums_l0 _ h ⟨_, impl_putNums_e0_0 _ _⟩, impl_putNums_e0_0]
  simp
theorem impl_putList_ok (xs : List Int) (hx : xs.length ≤ 2000000) : impl_putList_F (xs, ()) = some ((putNs ((xs.length : Int) :: xs), ()), ((), ())) := by
  rw [impl_putList_main, impl_putNums_ok _ (by simp), impl_putNums_ok _ hx]
  have h1 := putNs_len [(xs.length : Int)]
  have h2 := putNs_len xs
  simp only [Option.bind_some]
  rw [ck_pos (by simp only [big47, List.length_cons, List.length_nil] at *; simp; omega)]
  simp [putNs]
theorem two_has {R : Type} (K : Ex → AS → Option R) (xs : List Int) (v : Int) (hb : xs.length ≤ big47) : ∀ (n i : Nat), i + n = xs.length →
    iterG spec_l2Has_t0 spec_l2Has_B0 K (n + 1) ((xs, (v, ((i : Int), ()))), ()) = if v ∈ xs.drop i then K .ret (spec_l2Has_x0_0 true) else K (.exit 0) spec_l2Has_x0_1
  | 0, i, h => by
    rw [spec_l2Has_r0, brk_neg (by simp; omega), List.drop_of_length_le (by omega)]
    simp
  | n + 1, i, h => by
    have hi : i < xs.length := by omega
    simp only [big47] at hb
    rw [spec_l2Has_r0, brk_pos (by simp; omega), ck_pos (by simp; omega), rdD_get (List.getElem?_eq_getElem hi), List.drop_eq_getElem_cons hi]
    by_cases he : xs[i] = v
    · rw [brk_pos (by simp [he]), if_pos (by rw [he]; exact List.mem_cons_self)]
    · rw [brk_neg (by simp [he]), wrap64 (by omega) (by omega), show ((i : Int) + 1) = ((i + 1 : Nat) : Int) by simp]
      rw [two_has K xs v (by simp only [big47]; omega) n (i + 1) (by omega)]
      have : (v ∈ xs[i] :: xs.drop (i + 1)) ↔ v ∈ xs.drop (i + 1) := by
        rw [List.mem_cons]; exact ⟨fun h => h.resolve_left fun e => he e.symm, .inr⟩
      by_cases hm : v ∈ xs.drop (i + 1)
      · rw [if_pos hm, if_pos (this.2 hm)]
      · rw [if_neg hm, if_neg fun h => hm (this.1 h)]
theorem brk_if {R : Type} (p : Prop) [Decidable p] (a b : Option R) : brk (decide p) a b = if p then a else b := by by_cases h : p <;> simp [h, brk]
theorem n0 : ((0 : Nat) : Int) = 0 := rfl
theorem big47_eq : big47 = 140737488355328 := rfl
theorem spec_l2Has_ok (xs : List Int) (v : Int) (hb : xs.length ≤ big47) : spec_l2Has_F (xs, (v, ())) = some ((decide (v ∈ xs), ()), ((), ((), ()))) := by
  rw [spec_l2Has_main]
  have h := two_has (spec_l2Has_K0 xs v) xs v hb xs.length 0 (by omega)
  rw [List.drop_zero, n0] at h
  by_cases hm : v ∈ xs
  · rw [if_pos hm] at h
    rw [spec_l2Has_l0 _ h ⟨_, spec_l2Has_e0_0 _ _ _⟩, spec_l2Has_e0_0, decide_eq_true hm]
  · rw [if_neg hm] at h
    rw [spec_l2Has_l0 _ h ⟨_, spec_l2Has_e0_1 _ _⟩, spec_l2Has_e0_1, decide_eq_false hm]
theorem Index_loop {R : Type} (K : Ex → AS → Option R) (xs : List Int) (v : Int) (hb : xs.length ≤ big47) : ∀ (n i : Nat), i + n = xs.length →
    (v ∈ xs.drop i ∧ ∃ j : Nat, iterG slices_Index_int_t0 slices_Index_int_B0 K (n + 1) ((xs, (v, ((xs.length : Int), ((i : Int), ())))), ()) = K .ret (slices_Index_int_x0_0 (j : Int))) ∨
    (v ∉ xs.drop i ∧ iterG slices_Index_int_t0 slices_Index_int_B0 K (n + 1) ((xs, (v, ((xs.length : Int), ((i : Int), ())))), ()) = K (.exit 0) slices_Index_int_x0_1)
  | 0, i, h => by
    right
    rw [slices_Index_int_r0, brk_neg (by simp; omega), List.drop_of_length_le (by omega)]
    simp
  | n + 1, i, h => by
    have hi : i < xs.length := by omega
    simp only [big47] at hb
    rw [slices_Index_int_r0, brk_pos (by simp; omega), ck_pos (by simp; omega), rdD_get (List.getElem?_eq_getElem hi), List.drop_eq_getElem_cons hi]
    by_cases he : v = xs[i]
    · left
      rw [brk_pos (by simp [he])]
      exact ⟨by rw [← he]; exact List.mem_cons_self, i, rfl⟩
    · rw [brk_neg (by simp [he]), wrap64 (by omega) (by omega), show ((i : Int) + 1) = ((i + 1 : Nat) : Int) by simp]
      rcases Index_loop K xs v (by simp only [big47]; omega) n (i + 1) (by omega) with ⟨h1, j, h2⟩ | ⟨h1, h2⟩
      · exact .inl ⟨List.mem_cons_of_mem _ h1, j, h2⟩
      · exact .inr ⟨fun hm => (List.mem_cons.1 hm).elim he h1, h2⟩
theorem slices_Index_int_ok (xs : List Int) (v : Int) (hb : xs.length ≤ big47) : ∃ r : Int, slices_Index_int_F (xs, (v, ())) = some ((r, ()), ((), ((), ()))) ∧ (0 ≤ r ↔ v ∈ xs) := by
  rw [slices_Index_int_main]
  rcases Index_loop (slices_Index_int_K0 xs v) xs v hb xs.length 0 (by omega) with ⟨h1, j, h2⟩ | ⟨h1, h2⟩
  · rw [n0] at h2
    exact ⟨j, by rw [slices_Index_int_l0 _ h2 ⟨_, slices_Index_int_e0_0 _ _ _⟩, slices_Index_int_e0_0], by simp at h1; simp [h1]⟩
  · rw [n0] at h2
    exact ⟨-1, by rw [slices_Index_int_l0 _ h2 ⟨_, slices_Index_int_e0_1 _ _⟩, slices_Index_int_e0_1], by simp at h1; simp [h1]⟩
theorem slices_Contains_int_ok (xs : List Int) (v : Int) (hb : xs.length ≤ big47) : slices_Contains_int_F (xs, (v, ())) = some ((decide (v ∈ xs), ()), ((), ((), ()))) := by
  obtain ⟨r, h1, h2⟩ := slices_Index_int_ok xs v hb
  rw [slices_Contains_int_main, h1]
  simp only [Option.bind_some, h2]
theorem impl_from_ok (x lo hi : Int) : impl_from_F (x, (lo, (hi, ()))) = some ((decide (lo ≤ x ∧ x ≤ hi), ()), ((), ((), ((), ())))) := by
  rw [impl_from_main, brk_if]
  by_cases h : lo ≤ x <;> simp [h]
theorem impl_from_z (z : PsD [.ro tI, .ro tI, .ro tI]) : impl_from_F z = some ((decide (z.2.1 ≤ z.1 ∧ z.1 ≤ z.2.2.1), ()), ((), ((), ((), ())))) := impl_from_ok z.1 z.2.1 z.2.2.1
theorem impl_isCell_z (z : PsD [.ro tI]) : impl_isCell_F z = some ((decide (0 ≤ z.1 ∧ z.1 ≤ 7), ()), ((), ())) := by rw [show z = (z.1, ()) from rfl, impl_isCell_main, impl_from_ok]; rfl
theorem spec_l1In_ok' (x lo hi : Int) : spec_l1In_F (x, (lo, (hi, ()))) = some ((decide (lo ≤ x ∧ x ≤ hi), ()), ((), ((), ((), ())))) := by
  rw [spec_l1In_ok]
  by_cases h : lo ≤ x <;> simp [h]
theorem spec_l1In_z (z : PsD [.ro tI, .ro tI, .ro tI]) : spec_l1In_F z = some ((decide (z.2.1 ≤ z.1 ∧ z.1 ≤ z.2.2.1), ()), ((), ((), ((), ())))) := spec_l1In_ok' z.1 z.2.1 z.2.2.1
theorem spec_l1Bit_z (z : PsD [.ro tB]) : spec_l1Bit_F z = some ((if z.1 = true then 1 else 0, ()), ((), ())) := by rw [show z = (z.1, ()) from rfl, spec_l1Bit_main]; cases z.1 <;> rfl
def gensAll : List Int → List Int → Bool
  | _, [] => true
  | pre, x :: xs => decide (1 ≤ x ∧ x ≤ 100000) && !decide (x ∈ pre) && gensAll (pre ++ [x]) xs
def gensB (g : List Int) : Bool := gensAll [] g && decide (g.length ≤ 12)
theorem take_next {α : Type} {xs : List α} {i : Nat} (hi : i < xs.length) : xs.take (i + 1) = xs.take i ++ [xs[i]] := List.take_succ_eq_append_getElem hi
theorem spec_GensOk_loop {R : Type} (K : Ex → AS → Option R) (xs : List Int) (hb : xs.length ≤ big47) : ∀ (n i : Nat), i + n = xs.length →
    iterG spec_GensOk_t0 spec_GensOk_B0 K (n + 1) ((xs, ((i : Int), ())), ()) = brk (gensAll (xs.take i) (xs.drop i)) (K (.exit 0) (spec_GensOk_x0_1 xs)) (K .ret (spec_GensOk_x0_0 xs false))
  | 0, i, h => by
    rw [spec_GensOk_r0, brk_neg (by simp; omega), List.drop_of_length_le (by omega), brk_pos (by simp [gensAll])]
  | n + 1, i, h => by
    have hi : i < xs.length := by omega
    have hb' := hb
    simp only [big47] at hb
    rw [spec_GensOk_r0, brk_pos (by simp; omega), ck_pos (by simp; omega), rdD_get (List.getElem?_eq_getElem hi), spec_l1In_ok', List.drop_eq_getElem_cons hi]
    simp only [Option.bind_some, gensAll]
    by_cases h1 : 1 ≤ xs[i] ∧ xs[i] ≤ 100000
    · rw [decide_eq_true h1, Bool.not_true, brk_false, ck_pos (by simp; omega), ck_pos (by simp; omega), spec_l2Has_ok _ _ (by simp; omega)]
      simp only [Option.bind_some, Int.toNat_zero, List.drop_zero, Int.toNat_natCast, Bool.true_and]
      by_cases h2 : xs[i] ∈ xs.take i
      · rw [decide_eq_true h2]; simp
      · rw [decide_eq_false h2, brk_false, wrap64 (by omega) (by omega), show ((i : Int) + 1) = ((i + 1 : Nat) : Int) by simp, spec_GensOk_loop K xs hb' n (i + 1) (by omega), take_next hi]
        simp
    · rw [decide_eq_false h1]; simp
theorem spec_GensOk_ok (xs : List Int) (hb : xs.length ≤ big47) : spec_GensOk_F (xs, ()) = some ((gensB xs, ()), ((), ())) := by
  rw [spec_GensOk_main]
  have h : iterG spec_GensOk_t0 spec_GensOk_B0 (spec_GensOk_K0 xs) (xs.length + 1) ((xs, ((0 : Int), ())), ()) = _ := spec_GensOk_loop (spec_GensOk_K0 xs) xs hb xs.length 0 (by omega)
  simp only [List.take_zero, List.drop_zero] at h
  unfold gensB
  by_cases hg : gensAll [] xs = true
  · rw [brk_pos hg] at h
    rw [spec_GensOk_l0 _ h ⟨_, spec_GensOk_e0_1 _ _⟩, spec_GensOk_e0_1, hg]
    simp
    omega
  · rw [brk_neg (by simpa using hg)] at h
    rw [spec_GensOk_l0 _ h ⟨_, spec_GensOk_e0_0 _ _ _⟩, spec_GensOk_e0_0]
    simp [hg]
theorem impl_GensOk_loop {R : Type} (K : Ex → AS → Option R) (xs : List Int) (hb : xs.length ≤ big47) : ∀ (n i : Nat), i + n = xs.length →
    iterG impl_GensOk_t0 impl_GensOk_B0 K (n + 1) ((xs, (xs, ((xs.length : Int), ((i : Int), ())))), ()) = brk (gensAll (xs.take i) (xs.drop i)) (K (.exit 0) (impl_GensOk_x0_1 xs)) (K .ret (impl_GensOk_x0_0 xs false))
  | 0, i, h => by
    rw [impl_GensOk_r0, brk_neg (by simp; omega), List.drop_of_length_le (by omega), brk_pos (by simp [gensAll])]
  | n + 1, i, h => by
    have hi : i < xs.length := by omega
    have hb' := hb
    simp only [big47] at hb
    rw [impl_GensOk_r0, brk_pos (by simp; omega), ck_pos (by simp; omega), rdD_get (List.getElem?_eq_getElem hi), impl_from_ok, List.drop_eq_getElem_cons hi]
    simp only [Option.bind_some, gensAll]
    by_cases h1 : 1 ≤ xs[i] ∧ xs[i] ≤ 100000
    · rw [decide_eq_true h1, Bool.not_true, brk_false, ck_pos (by simp; omega), slices_Contains_int_ok _ _ (by simp; omega)]
      simp only [Option.bind_some, Int.toNat_zero, List.drop_zero, Int.toNat_natCast, Bool.true_and]
      by_cases h2 : xs[i] ∈ xs.take i
      · rw [decide_eq_true h2]; simp
      · rw [decide_eq_false h2, brk_false, wrap64 (by omega) (by omega), show ((i : Int) + 1) = ((i + 1 : Nat) : Int) by simp, impl_GensOk_loop K xs hb' n (i + 1) (by omega), take_next hi]
        simp
    · rw [decide_eq_false h1]; simp
theorem impl_GensOk_ok (xs : List Int) (hb : xs.length ≤ big47) : impl_GensOk_F (xs, ()) = some ((gensB xs, ()), ((), ())) := by
  rw [impl_GensOk_main]
  have h : iterG impl_GensOk_t0 impl_GensOk_B0 (impl_GensOk_K0 xs) (xs.length + 1) ((xs, (xs, ((xs.length : Int), ((0 : Int), ())))), ()) = _ := impl_GensOk_loop (impl_GensOk_K0 xs) xs hb xs.length 0 (by omega)
  simp only [List.take_zero, List.drop_zero] at h
  unfold gensB
  by_cases hg : gensAll [] xs = true
  · rw [brk_pos hg] at h
    rw [impl_GensOk_l0 _ h ⟨_, impl_GensOk_e0_1 _ _⟩, impl_GensOk_e0_1, hg]
    simp
    omega
  · rw [brk_neg (by simpa using hg)] at h
    rw [impl_GensOk_l0 _ h ⟨_, impl_GensOk_e0_0 _ _ _⟩, impl_GensOk_e0_0]
    simp [hg]
theorem wrap8m (x : Int) : IntKind.u8.wrap x = x % 256 := by
  simp only [IntKind.wrap, IntKind.signed, IntKind.bits]
  simp
def fourB (x : Int) : List Int := [x % 256, x / 256 % 256, x / 65536 % 256, x / 16777216 % 256]
theorem numB_range : ∀ (k n : Nat), n < 128 ^ (k + 1) → ∀ b ∈ numB n, 0 ≤ b ∧ b ≤ 255
  | 0, n, h, b, hb => by rw [numB_small (by omega)] at hb; simp at hb; omega
  | k + 1, n, h, b, hb => by
    by_cases hn : n ≤ 127
    · rw [numB_small hn] at hb; simp at hb; omega
    · rw [numB_big hn] at hb
      rcases List.mem_cons.1 hb with rfl | hb
      · omega
      · exact numB_range k (n / 128) (by rw [Nat.div_lt_iff_lt_mul (by omega)]; rw [Nat.pow_succ] at h; exact h) b hb
theorem putN_range (x : Int) : ∀ b ∈ putN x, 0 ≤ b ∧ b ≤ 255 := by
  unfold putN
  split
  · exact numB_range 4 _ (by omega)
  · simp
theorem putNs_range (xs : List Int) : ∀ b ∈ putNs xs, 0 ≤ b ∧ b ≤ 255 := fun b hb => by
  obtain ⟨x, _, hb⟩ := List.mem_flatMap.1 hb
  exact putN_range x b hb
/-- A loop that counts up: a round ends it, or goes on. -/
theorem for_loop {R σ : Type} {G : Nat → Nat → σ → Option R} (N : Nat) (Inv : Nat → σ → Prop) (Post : Option R → Prop)
    (hs : ∀ i s, i < N → Inv i s → (∃ v, Post v ∧ ∀ n, G (n + 1) i s = v) ∨ (∃ s', Inv (i + 1) s' ∧ ∀ n, G (n + 1) i s = G n (i + 1) s'))
    (hf : ∀ s, Inv N s → ∃ v, Post v ∧ ∀ n, G (n + 1) N s = v) (s : σ) (h : Inv 0 s) : ∃ n v, G n 0 s = v ∧ Post v := by
  have key : ∀ (k i : Nat) (s : σ), i + k = N → Inv i s → ∃ n v, G n i s = v ∧ Post v := by
    intro k
    induction k with
    | zero =>
      intro i s hi h
      have : i = N := by omega
      subst this
      obtain ⟨v, hv, hg⟩ := hf s h
      exact ⟨1, v, hg 0, hv⟩
    | succ k ih =>
      intro i s hi h
      rcases hs i s (by omega) h with ⟨v, hv, hg⟩ | ⟨s', h', hg⟩
      · exact ⟨1, v, hg 0, hv⟩
      · obtain ⟨n, v, hn, hv⟩ := ih (i + 1) s' (by omega) h'
        exact ⟨n + 1, v, (hg n).trans hn, hv⟩
  exact key N 0 s (by omega) h
theorem step_nat (i : Nat) (h : i ≤ 4611686018427387904) : IntKind.i64.wrap ((i : Int) + 1) = ((i + 1 : Nat) : Int) := by
  rw [wrap64 (by omega) (by omega)]; rfl
theorem rdD_nat {t : Ty} (xs : List t.D) (i : Nat) : rdD t xs (i : Int) = xs.getD i t.zero := rfl
theorem getD_at {α : Type} {xs : List α} {i : Nat} {d : α} (h : i < xs.length) : xs.getD i d = xs[i] := by simp [h]
theorem ck_idx {R : Type} {i n : Nat} (h : i < n) (a : Option R) : ck (decide ((0 : Int) ≤ (i : Int)) && decide ((i : Int) < (n : Int))) a = a := ck_pos (by simp; omega) a
theorem brk_lt {R : Type} {i n : Nat} (h : i < n) (a b : Option R) : brk (decide ((i : Int) < (n : Int))) a b = a := brk_pos (by simp; omega) a b
theorem brk_nlt {R : Type} {i n : Nat} (h : ¬ i < n) (a b : Option R) : brk (decide ((i : Int) < (n : Int))) a b = b := brk_neg (by simp; omega) a b
/-- Is the number at i a cell, and above the one before? -/
def MkP (xs : List Int) (i : Nat) : Prop := (0 ≤ xs.getD i 0 ∧ xs.getD i 0 ≤ 7) ∧ (0 < i → xs.getD (i - 1) 0 < xs.getD i 0)
instance instMkP (xs : List Int) (i : Nat) : Decidable (MkP xs i) := by unfold MkP; infer_instance
def marksB (xs : List Int) : Bool := (List.range xs.length).all fun i => @decide (MkP xs i) (instMkP xs i)
theorem marksB_iff {xs : List Int} : marksB xs = true ↔ ∀ i, i < xs.length → MkP xs i := by
  simp [marksB]
theorem marksB_no {xs : List Int} {i : Nat} (hi : i < xs.length) (h : ¬ MkP xs i) : marksB xs = false := by
  cases hb : marksB xs with
  | false => rfl
  | true => exact absurd (marksB_iff.1 hb i hi) h
theorem pred_nat {i : Nat} (h : 0 < i) (hi : i ≤ 4611686018427387904) : IntKind.i64.wrap ((i : Int) - 1) = ((i - 1 : Nat) : Int) := by
  rw [wrap64 (by omega) (by omega)]; omega
theorem spec_MarksOk_ok (xs : List Int) (hb : xs.length ≤ big47) : spec_MarksOk_F (xs, ()) = some ((marksB xs, ()), ((), ())) := by
  rw [big47_eq] at hb
  rw [spec_MarksOk_main]
  obtain ⟨n, v, h, rfl⟩ := for_loop (σ := Unit) (G := fun n i _ => iterG spec_MarksOk_t0 spec_MarksOk_B0 (spec_MarksOk_K0 xs) n ((xs, ((i : Int), ())), ())) xs.length (fun i _ => ∀ j, j < i → MkP xs j) (· = some ((marksB xs, ()), ((), ())))
    (fun i _ hi hI => by
      by_cases h1 : 0 ≤ xs.getD i 0 ∧ xs.getD i 0 ≤ 7
      · by_cases h0 : 0 < i
        · by_cases h2 : xs.getD (i - 1) 0 < xs.getD i 0
          · refine .inr ⟨(), fun j hj => ?_, fun n => ?_⟩
            · rcases Nat.lt_succ_iff_lt_or_eq.1 hj with h | rfl
              · exact hI j h
              · exact ⟨h1, fun _ => h2⟩
            · dsimp only; rw [spec_MarksOk_r0, brk_lt hi, ck_idx hi]; simp only [spec_l1In_z, Option.bind_some, rdD_nat, Ty.zero, h1, and_self, decide_true, Bool.not_true, brk_false, pred_nat h0 (by omega : i ≤ _), step_nat i (by omega)]
              rw [brk_pos (decide_eq_true (by omega)), ck_idx (by omega), ck_idx hi, brk_neg (decide_eq_false (Int.not_le.2 h2))]
          · refine .inl ⟨_, rfl, fun n => ?_⟩
            dsimp only; rw [spec_MarksOk_r0, brk_lt hi, ck_idx hi]; simp only [spec_l1In_z, Option.bind_some, rdD_nat, Ty.zero, h1, and_self, decide_true, Bool.not_true, brk_false, pred_nat h0 (by omega : i ≤ _), step_nat i (by omega)]
            rw [brk_pos (decide_eq_true (by omega)), ck_idx (by omega), ck_idx hi, brk_pos (decide_eq_true (Int.not_lt.1 h2)), spec_MarksOk_e0_0, marksB_no hi fun h => h2 (h.2 h0)]
        · refine .inr ⟨(), fun j hj => ?_, fun n => ?_⟩
          · rcases Nat.lt_succ_iff_lt_or_eq.1 hj with h | rfl
            · exact hI j h
            · exact ⟨h1, fun h => absurd h h0⟩
          · dsimp only; rw [spec_MarksOk_r0, brk_lt hi, ck_idx hi]; simp only [spec_l1In_z, Option.bind_some, rdD_nat, Ty.zero, h1, and_self, decide_true, Bool.not_true, brk_false, step_nat i (by omega)]
            rw [brk_neg (decide_eq_false (by omega))]
      · refine .inl ⟨_, rfl, fun n => ?_⟩
        dsimp only; rw [spec_MarksOk_r0, brk_lt hi, ck_idx hi]; simp only [spec_l1In_z, Option.bind_some, rdD_nat, Ty.zero, h1, decide_false, Bool.not_false, brk_true]
        rw [spec_MarksOk_e0_0, marksB_no hi fun h => h1 h.1])
    (fun _ hI => ⟨_, rfl, fun n => by
      dsimp only
      rw [spec_MarksOk_r0, brk_nlt (by omega), spec_MarksOk_e0_1, marksB_iff.2 hI]⟩) () (fun j hj => by omega)
  exact spec_MarksOk_l0 n h ⟨_, rfl⟩
theorem impl_MarksOk_ok (xs : List Int) (hb : xs.length ≤ big47) : impl_MarksOk_F (xs, ()) = some ((marksB xs, ()), ((), ())) := by
  rw [big47_eq] at hb
  rw [impl_MarksOk_main]
  obtain ⟨n, v, h, rfl⟩ := for_loop (σ := Unit) (G := fun n i _ => iterG impl_MarksOk_t0 impl_MarksOk_B0 (impl_MarksOk_K0 xs) n ((xs, (xs, ((xs.length : Int), ((i : Int), ())))), ())) xs.length (fun i _ => ∀ j, j < i → MkP xs j) (· = some ((marksB xs, ()), ((), ())))
    (fun i _ hi hI => by
      by_cases h1 : 0 ≤ xs.getD i 0 ∧ xs.getD i 0 ≤ 7
      · by_cases h0 : 0 < i
        · by_cases h2 : xs.getD (i - 1) 0 < xs.getD i 0
          · refine .inr ⟨(), fun j hj => ?_, fun n => ?_⟩
            · rcases Nat.lt_succ_iff_lt_or_eq.1 hj with h | rfl
              · exact hI j h
              · exact ⟨h1, fun _ => h2⟩
            · dsimp only; rw [impl_MarksOk_r0, brk_lt hi, ck_idx hi]; simp only [impl_isCell_z, Option.bind_some, rdD_nat, Ty.zero, h1, and_self, decide_true, Bool.not_true, brk_false, pred_nat h0 (by omega : i ≤ _), step_nat i (by omega)]
              rw [brk_pos (decide_eq_true (by omega)), ck_idx (by omega), brk_neg (decide_eq_false (Int.not_le.2 h2))]
          · refine .inl ⟨_, rfl, fun n => ?_⟩
            dsimp only; rw [impl_MarksOk_r0, brk_lt hi, ck_idx hi]; simp only [impl_isCell_z, Option.bind_some, rdD_nat, Ty.zero, h1, and_self, decide_true, Bool.not_true, brk_false, pred_nat h0 (by omega : i ≤ _), step_nat i (by omega)]
            rw [brk_pos (decide_eq_true (by omega)), ck_idx (by omega), brk_pos (decide_eq_true (Int.not_lt.1 h2)), impl_MarksOk_e0_0, marksB_no hi fun h => h2 (h.2 h0)]
        · refine .inr ⟨(), fun j hj => ?_, fun n => ?_⟩
          · rcases Nat.lt_succ_iff_lt_or_eq.1 hj with h | rfl
            · exact hI j h
            · exact ⟨h1, fun h => absurd h h0⟩
          · dsimp only; rw [impl_MarksOk_r0, brk_lt hi, ck_idx hi]; simp only [impl_isCell_z, Option.bind_some, rdD_nat, Ty.zero, h1, and_self, decide_true, Bool.not_true, brk_false, step_nat i (by omega)]
            rw [brk_neg (decide_eq_false (by omega))]
      · refine .inl ⟨_, rfl, fun n => ?_⟩
        dsimp only; rw [impl_MarksOk_r0, brk_lt hi, ck_idx hi]; simp only [impl_isCell_z, Option.bind_some, rdD_nat, Ty.zero, h1, decide_false, Bool.not_false, brk_true]
        rw [impl_MarksOk_e0_0, marksB_no hi fun h => h1 h.1])
    (fun _ hI => ⟨_, rfl, fun n => by
      dsimp only
      rw [impl_MarksOk_r0, brk_nlt (by omega), impl_MarksOk_e0_1, marksB_iff.2 hI]⟩) () (fun j hj => by omega)
  exact impl_MarksOk_l0 n h ⟨_, rfl⟩
def bitsB (l : List (List Int)) : Bool := l.all marksB
theorem bitsB_iff {l : List (List Int)} : bitsB l = true ↔ ∀ i, i < l.length → marksB (l.getD i []) = true := by
  unfold bitsB
  rw [List.all_eq_true]
  constructor
  · intro h i hi
    rw [getD_at hi]; exact h _ (List.getElem_mem hi)
  · intro h x hx
    obtain ⟨i, hi, rfl⟩ := List.mem_iff_getElem.1 hx
    rw [← getD_at (d := []) hi]; exact h i hi
theorem bitsB_no {l : List (List Int)} {i : Nat} (hi : i < l.length) (h : marksB (l.getD i []) = false) : bitsB l = false := by
  cases hb : bitsB l with
  | false => rfl
  | true => rw [bitsB_iff.1 hb i hi] at h; cases h
theorem row_le {l : List (List Int)} (h : ∀ r ∈ l, r.length ≤ big47) {i : Nat} (hi : i < l.length) : (l.getD i []).length ≤ big47 := by
  rw [getD_at hi]; exact h _ (List.getElem_mem hi)
def metaOkB (g : List Int) (l : List (List Int)) (o h : Bool) (a : Int) : Bool := gensB g && decide (0 < g.length) && (decide (l.length = 3) && bitsB l) && decide (0 ≤ a ∧ a ≤ 200) && !(o && h)
theorem c3 {α : Type} (l : List α) : ((l.length : Int) = 3) = (l.length = 3) := propext (by omega)
theorem c0 {α : Type} (l : List α) : ((0 : Int) < (l.length : Int)) = (0 < l.length) := propext (by omega)
theorem spec_MetaOk_ok (g : List Int) (l : List (List Int)) (f o h : Bool) (a : Int) (hg : g.length ≤ big47) (hl : l.length ≤ big47) (hr : ∀ r ∈ l, r.length ≤ big47) : spec_MetaOk_F ((g, (l, (f, (o, (h, (a, ())))))), ()) = some ((metaOkB g l o h a, ()), ((), ())) := by
  have hl' := hl
  rw [big47_eq] at hl
  rw [spec_MetaOk_main]
  obtain ⟨n, v, hh, rfl⟩ := for_loop (σ := Unit) (G := fun n i _ => iterG spec_MetaOk_t0 spec_MetaOk_B0 (spec_MetaOk_K0 (g, (l, (f, (o, (h, (a, ()))))))) n (((i : Int), ()), ((g, (l, (f, (o, (h, (a, ())))))), ()))) l.length (fun i _ => ∀ j, j < i → marksB (l.getD j []) = true) (· = some ((metaOkB g l o h a, ()), ((), ())))
    (fun i _ hi hI => by
      cases h1 : marksB (l.getD i []) with
      | true =>
        refine .inr ⟨(), fun j hj => ?_, fun n => ?_⟩
        · rcases Nat.lt_succ_iff_lt_or_eq.1 hj with h | rfl
          · exact hI j h
          · exact h1
        · dsimp only
          rw [spec_MetaOk_r0, brk_lt hi, ck_idx hi, rdD_nat, show tIs.zero = [] from rfl, spec_MarksOk_ok _ (row_le hr hi)]
          simp only [Option.bind_some, h1, Bool.not_true, brk_false, step_nat i (by omega)]
      | false =>
        refine .inl ⟨_, rfl, fun n => ?_⟩
        dsimp only
        rw [spec_MetaOk_r0, brk_lt hi, ck_idx hi, rdD_nat, show tIs.zero = [] from rfl, spec_MarksOk_ok _ (row_le hr hi)]
        simp only [Option.bind_some, h1, Bool.not_false, brk_true]
        rw [spec_MetaOk_e0_0]
        simp [metaOkB, bitsB_no hi h1])
    (fun _ hI => ⟨_, rfl, fun n => by
      dsimp only
      rw [spec_MetaOk_r0, brk_nlt (by omega), spec_MetaOk_e0_1, spec_GensOk_ok _ hg]
      simp only [Option.bind_some, spec_l1In_z, metaOkB, bitsB_iff.2 hI, Bool.and_true, c3, c0]
      generalize l.length = n3
      generalize g.length = n0
      cases gensB g
      · simp
      · by_cases h1 : 0 < n0 <;> by_cases h2 : n3 = 3 <;> by_cases h3 : 0 ≤ a ∧ a ≤ 200 <;> cases o <;> simp [h1, h2, h3, brk]⟩) () (fun j hj => by omega)
  exact spec_MetaOk_l0 n hh ⟨_, rfl⟩
theorem impl_marksAll_1_ok (xs : List Int) (hb : xs.length ≤ big47) : impl_marksAll_1_F (xs, ()) = some ((!marksB xs, ()), ((), ())) := by
  rw [impl_marksAll_1_main, impl_MarksOk_ok _ hb]; rfl
theorem IndexFunc_rows_ok (l : List (List Int)) (hl : l.length ≤ big47) (hr : ∀ r ∈ l, r.length ≤ big47) : ∃ r : Int, slices_IndexFunc__int_F (l, ((), ())) = some ((r, ()), ((), ((), ()))) ∧ decide (0 ≤ r) = !bitsB l := by
  rw [big47_eq] at hl
  rw [slices_IndexFunc__int_main]
  obtain ⟨n, v, hh, r, rfl, hr⟩ := for_loop (σ := Unit) (G := fun n i _ => iterG slices_IndexFunc__int_t0 slices_IndexFunc__int_B0 (slices_IndexFunc__int_K0 l ()) n ((l, ((l.length : Int), ((i : Int), ()))), ())) l.length (fun i _ => ∀ j, j < i → marksB (l.getD j []) = true) (fun v => ∃ r : Int, v = some ((r, ()), ((), ((), ()))) ∧ decide (0 ≤ r) = !bitsB l)
    (fun i _ hi hI => by
      cases h1 : marksB (l.getD i []) with
      | true =>
        refine .inr ⟨(), fun j hj => ?_, fun n => ?_⟩
        · rcases Nat.lt_succ_iff_lt_or_eq.1 hj with h | rfl
          · exact hI j h
          · exact h1
        · dsimp only
          rw [slices_IndexFunc__int_r0, brk_lt hi, ck_idx hi, rdD_nat, show tIs.zero = [] from rfl, impl_marksAll_1_ok _ (row_le hr hi)]
          simp only [Option.bind_some, h1, Bool.not_true, brk_false, step_nat i (by omega)]
      | false =>
        refine .inl ⟨_, ⟨(i : Int), rfl, by rw [bitsB_no hi h1]; simp⟩, fun n => ?_⟩
        dsimp only
        rw [slices_IndexFunc__int_r0, brk_lt hi, ck_idx hi, rdD_nat, show tIs.zero = [] from rfl, impl_marksAll_1_ok _ (row_le hr hi)]
        simp only [Option.bind_some, h1, Bool.not_false, brk_true]
        rw [slices_IndexFunc__int_e0_0])
    (fun _ hI => ⟨_, ⟨-1, rfl, by rw [bitsB_iff.2 hI]; rfl⟩, fun n => by
      dsimp only
      rw [slices_IndexFunc__int_r0, brk_nlt (by omega), slices_IndexFunc__int_e0_1]⟩) () (fun j hj => by omega)
  exact ⟨r, slices_IndexFunc__int_l0 n hh ⟨_, rfl⟩, hr⟩
theorem impl_marksAll_ok (l : List (List Int)) (hl : l.length ≤ big47) (hr : ∀ r ∈ l, r.length ≤ big47) : impl_marksAll_F (l, ()) = some ((decide (l.length = 3) && bitsB l, ()), ((), ())) := by
  obtain ⟨r, h1, h2⟩ := IndexFunc_rows_ok l hl hr
  rw [impl_marksAll_main, slices_ContainsFunc__int_main, h1]
  simp only [Option.bind_some, h2, Bool.not_not]
  by_cases h : l.length = 3
  · rw [brk_pos (decide_eq_true (by omega)), decide_eq_true h, Bool.true_and]
  · rw [brk_neg (decide_eq_false (by omega)), decide_eq_false h, Bool.false_and]
theorem impl_MetaOk_ok (g : List Int) (l : List (List Int)) (f o h : Bool) (a : Int) (hg : g.length ≤ big47) (hl : l.length ≤ big47) (hr : ∀ r ∈ l, r.length ≤ big47) : impl_MetaOk_F ((g, (l, (f, (o, (h, (a, ())))))), ()) = some ((metaOkB g l o h a, ()), ((), ())) := by
  rw [impl_MetaOk_main, impl_GensOk_ok _ hg, impl_marksAll_ok l hl hr]
  simp only [Option.bind_some, impl_from_z, metaOkB, c0]
  generalize l.length = n3
  generalize g.length = n0
  cases gensB g
  · simp
  · by_cases h1 : 0 < n0 <;> by_cases h2 : n3 = 3 <;> by_cases h3 : 0 ≤ a ∧ a ≤ 200 <;> cases bitsB l <;> cases o <;> simp [h1, h2, h3, brk]
theorem rows_ext {l m : List (List Int)} (h : l.length = m.length) (he : ∀ i, i < l.length → l.getD i [] = m.getD i []) : l = m :=
  List.ext_getElem h fun i h1 h2 => by have := he i h1; rwa [getD_at h1, getD_at h2] at this
/-- A meta that is small. -/
def SzMeta (x : tMeta.D) : Prop := x.1.length ≤ 1048576 ∧ x.2.1.length ≤ 1048576 ∧ ∀ r ∈ x.2.1, r.length ≤ 1048576
theorem SzMeta.big {x : tMeta.D} (h : SzMeta x) : x.1.length ≤ big47 ∧ x.2.1.length ≤ big47 ∧ ∀ r ∈ x.2.1, r.length ≤ big47 := by
  obtain ⟨h1, h2, h3⟩ := h
  rw [big47_eq]
  exact ⟨by omega, by omega, fun r hr => by have := h3 r hr; omega⟩
/-- The number that such bytes begin with, and how many they are (j: those that were read). -/
def gnumF : Nat → List Int → Int → Int → Nat → Option (Int × Nat)
  | 0, _, _, _, _ => none
  | d + 1, [], _, _, _ => none
  | d + 1, x :: l, n, u, j => if x ≥ 128 then gnumF d l (n + x % 128 * u) (u * 128) (j + 1) else if n + x % 128 * u > 2147483647 then none else if x = 0 ∧ j > 0 then none else some (n + x % 128 * u, j + 1)
/-- GetNum of what is left. -/
def gnum (l : List Int) : Option (Int × Nat) := gnumF 5 l 0 1 0
def gtri (at_ : Int) : Option (Int × Nat) → Int × Int × Bool
  | none => (0, 0, false)
  | some (n, j) => (n, at_ + j, true)
/-- GetNum. -/
def getP (b : List Int) (at_ : Int) : Int × Int × Bool := if 0 ≤ at_ then gtri at_ (gnum (b.drop at_.toNat)) else (0, 0, false)
/-- A number's bytes (fuel first). -/
def pnumF : Nat → Int → List Int
  | 0, _ => []
  | d + 1, n => if n > 127 then (n % 128 + 128) :: pnumF d (n / 128) else [n]
/-- PutNum. -/
def pnum (n : Int) : List Int := if 0 ≤ n ∧ n ≤ 2147483647 then pnumF 5 n else []
theorem num_step (acc u n : Int) : acc + n % 128 * u + n / 128 * (u * 128) = acc + n * u := by
  have h : n * u = (128 * (n / 128) + n % 128) * u := by congr 1; omega
  rw [h, Int.add_mul, Int.mul_comm u 128, ← Int.mul_assoc, Int.mul_comm (n / 128) 128]
  omega
theorem gnumF_pnumF (d : Nat) : ∀ (n acc u : Int) (j : Nat) (rest : List Int), 0 ≤ n → n < 128 ^ (d + 1) → (0 < n ∨ j = 0) → acc + n * u ≤ 2147483647 → gnumF (d + 1) (pnumF (d + 1) n ++ rest) acc u j = some (acc + n * u, j + (pnumF (d + 1) n).length) := by
  induction d with
  | zero =>
    intro n acc u j rest h0 h1 h2 h3
    have h4 : n < 128 := by simpa using h1
    have e : pnumF 1 n = [n] := by rw [pnumF, if_neg (by omega)]
    have e2 : n % 128 = n := by omega
    rw [e, List.singleton_append, gnumF, if_neg (by omega), e2, if_neg (by omega), if_neg (by omega)]
    rfl
  | succ d ih =>
    intro n acc u j rest h0 h1 h2 h3
    by_cases h : n > 127
    · have e : pnumF (d + 1 + 1) n = (n % 128 + 128) :: pnumF (d + 1) (n / 128) := by rw [pnumF, if_pos h]
      have hs := num_step acc u n
      have hm : (n % 128 + 128) % 128 = n % 128 := by omega
      have hd : n / 128 < 128 ^ (d + 1) := by
        rw [Int.pow_succ] at h1
        exact Int.ediv_lt_of_lt_mul (by decide) h1
      rw [e, List.cons_append, gnumF, if_pos (by omega), hm, ih (n / 128) _ _ (j + 1) rest (by omega) hd (.inl (by omega)) (by rw [hs]; exact h3), hs]
      simp only [List.length_cons]
      congr 2
      omega
    · have e : pnumF (d + 1 + 1) n = [n] := by rw [pnumF, if_neg h]
      have e2 : n % 128 = n := by omega
      rw [e, List.singleton_append, gnumF, if_neg (by omega), e2, if_neg (by omega), if_neg (by omega)]
      rfl
/-- A number's bytes are read as the number, whatever comes behind. -/
theorem gnum_pnum (n : Int) (rest : List Int) (h0 : 0 ≤ n) (h1 : n ≤ 2147483647) : gnum (pnum n ++ rest) = some (n, (pnum n).length) := by
  unfold gnum pnum
  rw [if_pos ⟨h0, h1⟩]
  have := gnumF_pnumF 4 n 0 1 0 rest h0 (Int.lt_of_le_of_lt h1 (by decide)) (.inr rfl) (by omega)
  rw [this]
  simp
theorem gnumF_take (d : Nat) : ∀ (l : List Int) (acc u : Int) (j : Nat) (n : Int) (m : Nat), (∀ z ∈ l, 0 ≤ z ∧ z ≤ 255) → gnumF d l acc u j = some (n, m) → ∃ q, 0 ≤ q ∧ n = acc + q * u ∧ j < m ∧ m - j ≤ l.length ∧ l.take (m - j) = pnumF d q ∧ (0 < j → 0 < q) ∧ n ≤ 2147483647 := by
  induction d with
  | zero => intro l acc u j n m hb h; simp [gnumF] at h
  | succ d ih =>
    intro l acc u j n m hb h
    cases l with
    | nil => simp [gnumF] at h
    | cons x l =>
      have hx := hb x (by simp)
      rw [gnumF] at h
      by_cases h1 : x ≥ 128
      · rw [if_pos h1] at h
        obtain ⟨q, q0, q1, q2, q3, q4, q5, q6⟩ := ih l _ _ _ n m (fun z hz => hb z (by simp [hz])) h
        have q7 := q5 (by omega)
        have e1 : (x % 128 + 128 * q) / 128 = q := by omega
        have e2 : (x % 128 + 128 * q) % 128 + 128 = x := by omega
        have hs := num_step acc u (x % 128 + 128 * q)
        rw [show (x % 128 + 128 * q) % 128 = x % 128 by omega, e1] at hs
        refine ⟨x % 128 + 128 * q, by omega, by rw [q1, hs], by omega, by simp only [List.length_cons]; omega, ?_, fun _ => by omega, q6⟩
        rw [show m - j = (m - (j + 1)) + 1 by omega, List.take_succ_cons, q4, pnumF, if_pos (by omega), e1, e2]
      · rw [if_neg h1] at h
        have e : x % 128 = x := by omega
        rw [e] at h
        by_cases h2 : acc + x * u > 2147483647
        · rw [if_pos h2] at h; cases h
        rw [if_neg h2] at h
        by_cases h3 : x = 0 ∧ j > 0
        · rw [if_pos h3] at h; cases h
        rw [if_neg h3] at h
        cases h
        refine ⟨x, hx.1, rfl, by omega, by simp only [List.length_cons]; omega, ?_, fun q => by omega, by omega⟩
        rw [show j + 1 - j = 0 + 1 by omega, List.take_succ_cons, pnumF, if_neg (by omega)]
        rfl
/-- What is read as a number is that number's bytes. -/
theorem gnum_take (l : List Int) (n : Int) (m : Nat) (hb : ∀ z ∈ l, 0 ≤ z ∧ z ≤ 255) (h : gnum l = some (n, m)) : 0 ≤ n ∧ n ≤ 2147483647 ∧ 1 ≤ m ∧ m ≤ l.length ∧ l.take m = pnum n := by
  obtain ⟨q, q0, q1, q2, q3, q4, _, q6⟩ := gnumF_take 5 l 0 1 0 n m hb h
  have e : n = q := by omega
  subst e
  refine ⟨q0, q6, q2, by simpa using q3, ?_⟩
  unfold pnum
  rw [if_pos ⟨q0, q6⟩]
  simpa using q4
theorem pnumF_numB : ∀ (d n : Nat), n < 128 ^ (d + 1) → pnumF (d + 1) (n : Int) = numB n
  | 0, n, h => by rw [numB_small (by omega), pnumF, if_neg (by omega)]
  | d + 1, n, h => by
    by_cases hn : n ≤ 127
    · rw [numB_small hn, pnumF, if_neg (by omega)]
    · rw [numB_big hn, pnumF, if_pos (by omega), ← pnumF_numB d (n / 128) (by rw [Nat.div_lt_iff_lt_mul (by omega)]; rw [Nat.pow_succ] at h; exact h)]
      congr 1
theorem pnum_putN (x : Int) : pnum x = putN x := by
  unfold pnum putN
  by_cases h : 0 ≤ x ∧ x ≤ 2147483647
  · obtain ⟨n, rfl⟩ := Int.eq_ofNat_of_zero_le h.1
    rw [if_pos h, if_pos h]
    exact pnumF_numB 4 n (by omega)
  · rw [if_neg h, if_neg h]
theorem rdY (xs : List Int) (i : Nat) : rdD tY xs (i : Int) = xs.getD i 0 := rfl
/-- What GetNum hands back. -/
def getR (b : List Int) (at_ : Int) : Option ((Int × Int × Bool × Unit) × (Unit × Unit × Unit)) := some (((getP b at_).1, ((getP b at_).2.1, ((getP b at_).2.2, ()))), ((), ((), ())))
theorem getR_neg {b : List Int} {at_ : Int} (h : at_ < 0) : getR b at_ = some (((0 : Int), ((0 : Int), (false, ()))), ((), ((), ()))) := by
  unfold getR getP; rw [if_neg (by omega)]
theorem getR_none {b : List Int} {a : Nat} (h : gnum (b.drop a) = none) : getR b (a : Int) = some (((0 : Int), ((0 : Int), (false, ()))), ((), ((), ()))) := by
  unfold getR getP; rw [if_pos (by omega), Int.toNat_natCast, h]; rfl
theorem getR_some {b : List Int} {a : Nat} {n : Int} {j : Nat} (h : gnum (b.drop a) = some (n, j)) : getR b (a : Int) = some ((n, (((a + j : Nat) : Int), (true, ()))), ((), ((), ()))) := by
  unfold getR getP; rw [if_pos (by omega), Int.toNat_natCast, h]; simp [gtri]
theorem pow128 (i : Nat) (h : i ≤ 5) : (1 : Int) ≤ 128 ^ i ∧ (128 : Int) ^ i ≤ 34359738368 := by
  match i, h with
  | 0, _ => decide
  | 1, _ => decide
  | 2, _ => decide
  | 3, _ => decide
  | 4, _ => decide
  | 5, _ => decide
theorem impl_GetNum_ok (b : List Int) (at_ : Int) (hb : b.length ≤ big47) (hr : ∀ x ∈ b, 0 ≤ x ∧ x ≤ 255) (ha : at_ ≤ 9223372036854775807) : impl_GetNum_F (b, (at_, ())) = getR b at_ := by
  rw [big47_eq] at hb
  rw [impl_GetNum_main]
  by_cases h0 : at_ < 0
  · rw [brk_pos (decide_eq_true h0), getR_neg h0]
  rw [brk_neg (decide_eq_false h0)]
  obtain ⟨a, rfl⟩ := Int.eq_ofNat_of_zero_le (by omega : 0 ≤ at_)
  obtain ⟨n, v, hh, rfl⟩ := for_loop (σ := Int) (G := fun n i s => iterG impl_GetNum_t0 impl_GetNum_B0 (impl_GetNum_K0 b (a : Int)) n ((b, ((a : Int), (s, ((128 : Int) ^ i, ((i : Int), ()))))), ())) 5
    (fun i s => 0 ≤ s ∧ s < 128 ^ i ∧ gnumF (5 - i) (b.drop (a + i)) s (128 ^ i) i = gnum (b.drop a)) (· = getR b (a : Int))
    (fun i s hi ⟨hI1, hI2, hI3⟩ => by
      have hp := pow128 i (by omega)
      have hp2 := pow128 (i + 1) (by omega)
      rw [Int.pow_succ] at hp2
      rw [show 5 - i = (4 - i) + 1 by omega] at hI3
      by_cases hin : a + i < b.length
      · have hx := hr _ (List.getElem_mem hin)
        have e0 : b.drop (a + i) = b[a + i] :: b.drop (a + (i + 1)) := List.drop_eq_getElem_cons hin
        rw [e0, gnumF] at hI3
        have hm : 0 ≤ b[a + i] % 128 ∧ b[a + i] % 128 ≤ 127 := by omega
        have hmul : b[a + i] % 128 * 128 ^ i ≤ 127 * 128 ^ i := Int.mul_le_mul_of_nonneg_right hm.2 (by omega)
        have hmul0 : 0 ≤ b[a + i] % 128 * 128 ^ i := Int.mul_nonneg hm.1 (by omega)
        have key : ∀ n, iterG impl_GetNum_t0 impl_GetNum_B0 (impl_GetNum_K0 b (a : Int)) (n + 1) ((b, ((a : Int), (s, ((128 : Int) ^ i, ((i : Int), ()))))), ()) = brk (decide ((128 : Int) ≤ b[a + i])) (iterG impl_GetNum_t0 impl_GetNum_B0 (impl_GetNum_K0 b (a : Int)) n ((b, ((a : Int), (s + b[a + i] % 128 * 128 ^ i, ((128 : Int) ^ (i + 1), (((i + 1 : Nat) : Int), ()))))), ()))
            (brk (decide ((2147483647 : Int) < s + b[a + i] % 128 * 128 ^ i)) (impl_GetNum_K0 b (a : Int) (.exit 0) impl_GetNum_x0_0) (brk (decide (b[a + i] = 0)) (brk (decide ((0 : Int) < (i : Int))) (impl_GetNum_K0 b (a : Int) (.exit 0) impl_GetNum_x0_0) (impl_GetNum_K0 b (a : Int) .ret (impl_GetNum_x0_1 (s + b[a + i] % 128 * 128 ^ i) ((a + i + 1 : Nat) : Int) true))) (impl_GetNum_K0 b (a : Int) .ret (impl_GetNum_x0_1 (s + b[a + i] % 128 * 128 ^ i) ((a + i + 1 : Nat) : Int) true)))) := fun n => by
          rw [impl_GetNum_r0, brk_pos (decide_eq_true (by omega)), wrap64 (x := (b.length : Int) - i) (by omega) (by omega), brk_pos (decide_eq_true (by omega)), wrap64 (x := (a : Int) + i) (by omega) (by omega), show (a : Int) + i = ((a + i : Nat) : Int) by omega, ck_idx hin, rdY, getD_at hin,
            wrap64 (x := b[a + i]) (by omega) (by omega), Int.tmod_eq_emod_of_nonneg hx.1, wrap64 (x := b[a + i] % 128 * 128 ^ i) (by omega) (by omega), wrap64 (x := s + b[a + i] % 128 * 128 ^ i) (by omega) (by omega), wrap64 (x := (128 : Int) ^ i * 128) (by omega) (by omega), wrap64 (x := (i : Int) + 1) (by omega) (by omega), wrap64 (x := ((a + i : Nat) : Int) + 1) (by omega) (by omega), Int.pow_succ]
          rfl
        by_cases h1 : b[a + i] ≥ 128
        · rw [if_pos h1] at hI3
          refine .inr ⟨s + b[a + i] % 128 * 128 ^ i, ⟨by omega, by rw [Int.pow_succ]; omega, ?_⟩, fun n => ?_⟩
          · rw [Int.pow_succ, ← hI3, show 5 - (i + 1) = 4 - i by omega]
          · dsimp only
            rw [key, brk_pos (decide_eq_true h1)]
        · rw [if_neg h1] at hI3
          by_cases h2 : s + b[a + i] % 128 * 128 ^ i > 2147483647
          · rw [if_pos h2] at hI3
            refine .inl ⟨_, rfl, fun n => ?_⟩
            dsimp only
            rw [key, brk_neg (decide_eq_false h1), brk_pos (decide_eq_true h2), impl_GetNum_e0_0, getR_none hI3.symm]
          · rw [if_neg h2] at hI3
            by_cases h3 : b[a + i] = 0
            · by_cases h4 : i > 0
              · rw [if_pos ⟨h3, h4⟩] at hI3
                refine .inl ⟨_, rfl, fun n => ?_⟩
                dsimp only
                rw [key, brk_neg (decide_eq_false h1), brk_neg (decide_eq_false h2), brk_pos (decide_eq_true h3), brk_pos (decide_eq_true (by omega)), impl_GetNum_e0_0, getR_none hI3.symm]
              · rw [if_neg fun h => h4 h.2] at hI3
                refine .inl ⟨_, rfl, fun n => ?_⟩
                dsimp only
                rw [key, brk_neg (decide_eq_false h1), brk_neg (decide_eq_false h2), brk_pos (decide_eq_true h3), brk_neg (decide_eq_false (by omega)), impl_GetNum_e0_1, getR_some hI3.symm]
                rfl
            · rw [if_neg fun h => h3 h.1] at hI3
              refine .inl ⟨_, rfl, fun n => ?_⟩
              dsimp only
              rw [key, brk_neg (decide_eq_false h1), brk_neg (decide_eq_false h2), brk_neg (decide_eq_false h3), impl_GetNum_e0_1, getR_some hI3.symm]
              rfl
      · rw [List.drop_of_length_le (by omega), gnumF] at hI3
        refine .inl ⟨_, rfl, fun n => ?_⟩
        dsimp only
        rw [impl_GetNum_r0, brk_pos (decide_eq_true (by omega)), wrap64 (x := (b.length : Int) - i) (by omega) (by omega), brk_neg (decide_eq_false (by omega)), impl_GetNum_e0_0, getR_none hI3.symm])
    (fun s ⟨hI1, hI2, hI3⟩ => ⟨_, rfl, fun n => by
      dsimp only
      rw [impl_GetNum_r0, brk_neg (by decide), impl_GetNum_e0_0, getR_none hI3.symm]⟩) 0 ⟨by omega, by decide, rfl⟩
  exact impl_GetNum_l0 n hh ⟨_, rfl⟩
theorem shl7 {x : Int} {i : Nat} (h0 : 0 ≤ x) (h1 : x ≤ 127) (hi : i < 5) : shlN .i64 x (((7 * i : Nat)) : Int) = x * 128 ^ i := by
  have hp := pow128 i (by omega)
  unfold shlN
  have e : (2 : Int) ^ (min ((7 * i : Nat) : Int).toNat IntKind.i64.bits) = 128 ^ i := by
    rw [Int.toNat_natCast, show IntKind.i64.bits = 64 from rfl, Nat.min_eq_left (by omega), Int.pow_mul]; rfl
  rw [e]
  have h2 : x * 128 ^ i ≤ 127 * 128 ^ i := Int.mul_le_mul_of_nonneg_right h1 (by omega)
  have h3 : 0 ≤ x * 128 ^ i := Int.mul_nonneg h0 (by omega)
  exact wrap64 (by omega) (by omega)
theorem or_nat {x y : Nat} (hx : x < 4611686018427387904) (hy : y < 4611686018427387904) : orN .i64 (x : Int) (y : Int) = ((x ||| y : Nat) : Int) := by
  unfold orN
  have e : (BitVec.ofInt IntKind.i64.bits (x : Int) ||| BitVec.ofInt IntKind.i64.bits (y : Int)).toNat = x ||| y := by
    rw [BitVec.ofInt_natCast, BitVec.ofInt_natCast, BitVec.toNat_or, BitVec.toNat_ofNat, BitVec.toNat_ofNat]
    simp only [IntKind.bits]
    rw [Nat.mod_eq_of_lt (by omega), Nat.mod_eq_of_lt (by omega)]
  rw [e]
  have h1 : x < 2 ^ 62 := by omega
  have h2 : y < 2 ^ 62 := by omega
  have := Nat.or_lt_two_pow h1 h2
  exact wrap64 (by omega) (by omega)
theorem or_add {s x : Int} {i : Nat} (h0 : 0 ≤ s) (h1 : s < 128 ^ i) (h2 : 0 ≤ x) (h3 : x ≤ 127) (hi : i < 5) : orN .i64 s (x * 128 ^ i) = s + x * 128 ^ i := by
  have hp := pow128 i (by omega)
  have h4 : x * 128 ^ i ≤ 127 * 128 ^ i := Int.mul_le_mul_of_nonneg_right h3 (by omega)
  obtain ⟨a, rfl⟩ := Int.eq_ofNat_of_zero_le h0
  obtain ⟨c, rfl⟩ := Int.eq_ofNat_of_zero_le h2
  have e : (c : Int) * 128 ^ i = ((c * 128 ^ i : Nat) : Int) := by rw [Int.natCast_mul, Int.natCast_pow]; rfl
  have e2 : (128 : Int) ^ i = ((128 ^ i : Nat) : Int) := by rw [Int.natCast_pow]; rfl
  have e3 : (2 : Nat) ^ (7 * i) = 128 ^ i := Nat.pow_mul 2 7 i
  have ha : a < 2 ^ (7 * i) := by rw [e3]; rw [e2] at h1; omega
  have hc : (c * 128 ^ i : Nat) = c <<< (7 * i) := by rw [Nat.shiftLeft_eq, e3]
  rw [e] at h4 ⊢
  rw [or_nat (by rw [e2] at h1; omega) (by omega)]
  have := Nat.shiftLeft_add_eq_or_of_lt ha c
  rw [hc, Nat.or_comm, ← this]
  omega
theorem spec_GetNum_ok (b : List Int) (at_ : Int) (hb : b.length ≤ big47) (hr : ∀ x ∈ b, 0 ≤ x ∧ x ≤ 255) (ha : at_ ≤ 9223372036854775807) : spec_GetNum_F (b, (at_, ())) = getR b at_ := by
  rw [big47_eq] at hb
  rw [spec_GetNum_main]
  by_cases h0 : at_ < 0
  · rw [spec_GetNum_l0 1 (v := getR b at_) (by rw [spec_GetNum_r0, brk_pos (by decide), brk_pos (decide_eq_true h0), spec_GetNum_e0_0, getR_neg h0]) ⟨_, rfl⟩]
  obtain ⟨a, rfl⟩ := Int.eq_ofNat_of_zero_le (by omega : 0 ≤ at_)
  obtain ⟨n, v, hh, rfl⟩ := for_loop (σ := Int) (G := fun n i s => iterG spec_GetNum_t0 spec_GetNum_B0 (spec_GetNum_K0 b (a : Int)) n ((b, ((a : Int), (s, ((i : Int), ())))), ())) 5
    (fun i s => 0 ≤ s ∧ s < 128 ^ i ∧ gnumF (5 - i) (b.drop (a + i)) s (128 ^ i) i = gnum (b.drop a)) (· = getR b (a : Int))
    (fun i s hi ⟨hI1, hI2, hI3⟩ => by
      have hp := pow128 i (by omega)
      have hp2 := pow128 (i + 1) (by omega)
      rw [Int.pow_succ] at hp2
      rw [show 5 - i = (4 - i) + 1 by omega] at hI3
      by_cases hin : a + i < b.length
      · have hx := hr _ (List.getElem_mem hin)
        have e0 : b.drop (a + i) = b[a + i] :: b.drop (a + (i + 1)) := List.drop_eq_getElem_cons hin
        rw [e0, gnumF] at hI3
        have hm : 0 ≤ b[a + i] % 128 ∧ b[a + i] % 128 ≤ 127 := by omega
        have hmul : b[a + i] % 128 * 128 ^ i ≤ 127 * 128 ^ i := Int.mul_le_mul_of_nonneg_right hm.2 (by omega)
        have hmul0 : 0 ≤ b[a + i] % 128 * 128 ^ i := Int.mul_nonneg hm.1 (by omega)
        have key : ∀ n, iterG spec_GetNum_t0 spec_GetNum_B0 (spec_GetNum_K0 b (a : Int)) (n + 1) ((b, ((a : Int), (s, ((i : Int), ())))), ()) =
            brk (decide (b[a + i] < (128 : Int)))
            (brk (decide ((0 : Int) < (i : Int)))
              (brk (decide (b[a + i] = 0)) (spec_GetNum_K0 b (a : Int) .ret (spec_GetNum_x0_0 (0 : Int) (0 : Int) false))
                (brk (decide ((2147483647 : Int) < s + b[a + i] % 128 * 128 ^ i)) (spec_GetNum_K0 b (a : Int) .ret (spec_GetNum_x0_0 (0 : Int) (0 : Int) false)) (spec_GetNum_K0 b (a : Int) .ret (spec_GetNum_x0_0 (s + b[a + i] % 128 * 128 ^ i) ((a + i + 1 : Nat) : Int) true))))
              (brk (decide ((2147483647 : Int) < s + b[a + i] % 128 * 128 ^ i)) (spec_GetNum_K0 b (a : Int) .ret (spec_GetNum_x0_0 (0 : Int) (0 : Int) false)) (spec_GetNum_K0 b (a : Int) .ret (spec_GetNum_x0_0 (s + b[a + i] % 128 * 128 ^ i) ((a + i + 1 : Nat) : Int) true))))
            (iterG spec_GetNum_t0 spec_GetNum_B0 (spec_GetNum_K0 b (a : Int)) n ((b, ((a : Int), (s + b[a + i] % 128 * 128 ^ i, (((i + 1 : Nat) : Int), ())))), ())) := fun n => by
          rw [spec_GetNum_r0, brk_pos (decide_eq_true (by omega)), brk_neg (decide_eq_false (by omega)), wrap64 (x := (b.length : Int) - i) (by omega) (by omega), brk_neg (decide_eq_false (by omega)), wrap64 (x := (a : Int) + i) (by omega) (by omega), show (a : Int) + i = ((a + i : Nat) : Int) by omega, ck_idx hin, rdY, getD_at hin,
            wrap64 (x := b[a + i]) (by omega) (by omega), Int.tmod_eq_emod_of_nonneg hx.1, wrap64 (x := 7 * (i : Int)) (by omega) (by omega), ck_pos (decide_eq_true (by omega)), show (7 : Int) * i = ((7 * i : Nat) : Int) by omega, shl7 hm.1 hm.2 hi, or_add hI1 hI2 hm.1 hm.2 hi, wrap64 (x := (i : Int) + 1) (by omega) (by omega), wrap64 (x := ((a + i : Nat) : Int) + 1) (by omega) (by omega)]
          rfl
        by_cases h1 : b[a + i] ≥ 128
        · rw [if_pos h1] at hI3
          refine .inr ⟨s + b[a + i] % 128 * 128 ^ i, ⟨by omega, by rw [Int.pow_succ]; omega, ?_⟩, fun n => ?_⟩
          · rw [Int.pow_succ, ← hI3, show 5 - (i + 1) = 4 - i by omega]
          · dsimp only
            rw [key, brk_neg (decide_eq_false (Int.not_lt.2 h1))]
        · rw [if_neg h1] at hI3
          have h1' : b[a + i] < 128 := by omega
          by_cases h2 : s + b[a + i] % 128 * 128 ^ i > 2147483647
          · rw [if_pos h2] at hI3
            refine .inl ⟨_, rfl, fun n => ?_⟩
            dsimp only
            rw [key, brk_pos (decide_eq_true h1'), getR_none hI3.symm]
            by_cases h4 : (0 : Int) < (i : Int)
            · by_cases h3 : b[a + i] = 0
              · rw [brk_pos (decide_eq_true h4), brk_pos (decide_eq_true h3), spec_GetNum_e0_0]
              · rw [brk_pos (decide_eq_true h4), brk_neg (decide_eq_false h3), brk_pos (decide_eq_true h2), spec_GetNum_e0_0]
            · rw [brk_neg (decide_eq_false h4), brk_pos (decide_eq_true h2), spec_GetNum_e0_0]
          · rw [if_neg h2] at hI3
            by_cases h4 : i > 0
            · by_cases h3 : b[a + i] = 0
              · rw [if_pos ⟨h3, h4⟩] at hI3
                refine .inl ⟨_, rfl, fun n => ?_⟩
                dsimp only
                rw [key, brk_pos (decide_eq_true h1'), brk_pos (decide_eq_true (by omega)), brk_pos (decide_eq_true h3), spec_GetNum_e0_0, getR_none hI3.symm]
              · rw [if_neg fun h => h3 h.1] at hI3
                refine .inl ⟨_, rfl, fun n => ?_⟩
                dsimp only
                rw [key, brk_pos (decide_eq_true h1'), brk_pos (decide_eq_true (by omega)), brk_neg (decide_eq_false h3), brk_neg (decide_eq_false h2), spec_GetNum_e0_0, getR_some hI3.symm]
                rfl
            · rw [if_neg fun h => h4 h.2] at hI3
              refine .inl ⟨_, rfl, fun n => ?_⟩
              dsimp only
              rw [key, brk_pos (decide_eq_true h1'), brk_neg (decide_eq_false (by omega)), brk_neg (decide_eq_false h2), spec_GetNum_e0_0, getR_some hI3.symm]
              rfl
      · rw [List.drop_of_length_le (by omega), gnumF] at hI3
        refine .inl ⟨_, rfl, fun n => ?_⟩
        dsimp only
        rw [spec_GetNum_r0, brk_pos (decide_eq_true (by omega)), brk_neg (decide_eq_false (by omega)), wrap64 (x := (b.length : Int) - i) (by omega) (by omega), brk_pos (decide_eq_true (by omega)), spec_GetNum_e0_0, getR_none hI3.symm])
    (fun s ⟨hI1, hI2, hI3⟩ => ⟨_, rfl, fun n => by
      dsimp only
      rw [spec_GetNum_r0, brk_neg (by decide), spec_GetNum_e0_1, getR_none hI3.symm]⟩) 0 ⟨by omega, by decide, rfl⟩
  exact spec_GetNum_l0 n hh ⟨_, rfl⟩
/-- Numbers read one behind the other: from a place, or from nowhere (once one was none). -/
def rdN (b : List Int) : Option Nat → Int × Option Nat
  | none => (0, none)
  | some a => match gnum (b.drop a) with
    | none => (0, none)
    | some (n, j) => (n, some (a + j))
/-- What a reader's place and word say. -/
def RepS (s : Option Nat) (at_ : Int) (ok : Bool) : Prop := match s with
  | some a => at_ = (a : Int) ∧ ok = true
  | none => ok = false ∨ at_ < 0
theorem spec_num_ok {b : List Int} {s : Option Nat} {at_ : Int} {ok : Bool} (hb : b.length ≤ big47) (hr : ∀ x ∈ b, 0 ≤ x ∧ x ≤ 255) (ha : at_ ≤ 9223372036854775807) (h : RepS s at_ ok) :
    ∃ at' : Int, spec_l4Num_F ((b, (at_, (ok, ()))), ()) = some (((rdN b s).1, ()), ((b, (at', ((rdN b s).2.isSome, ()))), ())) ∧ RepS (rdN b s).2 at' (rdN b s).2.isSome ∧ (∀ a, (rdN b s).2 = some a → at' = (a : Int)) ∧ at' ≤ 9223372036854775807 := by
  rw [spec_l4Num_main]
  simp only
  rw [spec_GetNum_ok b _ hb hr ha]
  cases s with
  | none =>
    by_cases h0 : at_ < 0
    · rw [getR_neg h0]; exact ⟨at_, rfl, .inl rfl, fun a h => by simp [rdN] at h, ha⟩
    · have hok : ok = false := h.resolve_right h0
      subst hok
      refine ⟨at_, ?_, .inl rfl, fun a h => by simp [rdN] at h, ha⟩
      unfold getR
      simp only [Option.bind_some, Bool.not_false, brk_true]
      cases (getP b at_).2.2 <;> rfl
  | some a =>
    obtain ⟨rfl, rfl⟩ := h
    cases hg : gnum (b.drop a) with
    | none => rw [getR_none hg]; simp only [rdN, hg]; exact ⟨_, rfl, .inl rfl, fun a h => by simp at h, ha⟩
    | some p =>
      obtain ⟨n, j⟩ := p
      have hj := gnum_take (b.drop a) n j (fun z hz => hr z (List.mem_of_mem_drop hz)) hg
      have hl := hj.2.2.2.1
      rw [List.length_drop] at hl
      rw [big47_eq] at hb
      rw [getR_some hg]; simp only [rdN, hg]
      exact ⟨((a + j : Nat) : Int), rfl, ⟨rfl, rfl⟩, fun a' h => by cases h; rfl, by omega⟩
def rdL (b : List Int) : Nat → Option Nat → List Int → List Int × Option Nat
  | 0, s, acc => (acc, s)
  | _ + 1, none, acc => (acc, none)
  | k + 1, some a, acc => rdL b k (rdN b (some a)).2 (acc ++ [(rdN b (some a)).1])
theorem rdN_spec {b : List Int} (hr : ∀ x ∈ b, 0 ≤ x ∧ x ≤ 255) (s : Option Nat) : 0 ≤ (rdN b s).1 ∧ (rdN b s).1 ≤ 2147483647 ∧ (∀ a, (rdN b s).2 = some a → a ≤ b.length ∧ ∃ a0, s = some a0 ∧ a0 < a ∧ a0 < b.length) := by
  cases s with
  | none => exact ⟨Int.le_refl 0, (by decide : (0 : Int) ≤ 2147483647), fun a h => by simp [rdN] at h⟩
  | some a =>
    cases hg : gnum (b.drop a) with
    | none => simp only [rdN, hg]; exact ⟨Int.le_refl 0, (by decide : (0 : Int) ≤ 2147483647), fun a h => by cases h⟩
    | some p =>
      obtain ⟨n, j⟩ := p
      obtain ⟨h1, h2, h3, h4, _⟩ := gnum_take (b.drop a) n j (fun z hz => hr z (List.mem_of_mem_drop hz)) hg
      rw [List.length_drop] at h4
      simp only [rdN, hg]
      exact ⟨h1, h2, fun a' h => by cases h; exact ⟨by omega, a, rfl, by omega, by omega⟩⟩
def AccOk (b : List Int) (s : Option Nat) (acc : List Int) : Prop := match s with
  | some a => acc.length ≤ a ∧ a ≤ b.length
  | none => acc.length ≤ b.length + 1
theorem accOk_nil {b : List Int} (hr : ∀ x ∈ b, 0 ≤ x ∧ x ≤ 255) (s : Option Nat) : AccOk b (rdN b s).2 [] := by
  have := (rdN_spec hr s).2.2
  cases h : (rdN b s).2 with
  | none => simp [AccOk]
  | some a => exact ⟨by simp, (this a h).1⟩
theorem AccOk.len {b : List Int} {s : Option Nat} {acc : List Int} (h : AccOk b s acc) : acc.length ≤ b.length + 1 := by
  cases s with
  | none => exact h
  | some a => obtain ⟨h1, h2⟩ := h; omega
theorem AccOk.step {b : List Int} (hr : ∀ x ∈ b, 0 ≤ x ∧ x ≤ 255) {a : Nat} {acc : List Int} (h : AccOk b (some a) acc) (x : Int) : AccOk b (rdN b (some a)).2 (acc ++ [x]) := by
  obtain ⟨h1, h2⟩ := h
  have := (rdN_spec hr (some a)).2.2
  cases hs : (rdN b (some a)).2 with
  | none => simp only [AccOk, List.length_append, List.length_cons, List.length_nil]; omega
  | some a' =>
    obtain ⟨h3, a0, h4, h5, _⟩ := this a' hs
    cases h4
    simp only [AccOk, List.length_append, List.length_cons, List.length_nil]
    exact ⟨by omega, h3⟩
theorem rdL_ok {b : List Int} (hr : ∀ x ∈ b, 0 ≤ x ∧ x ≤ 255) : ∀ (k : Nat) (s : Option Nat) (acc : List Int), AccOk b s acc → (rdL b k s acc).1.length ≤ b.length + 1
  | 0, s, acc, h => h.len
  | _ + 1, none, acc, h => h.len
  | k + 1, some a, acc, h => rdL_ok hr k _ _ (h.step hr _)
theorem bytes_Equal_ok (x y : List Int) : bytes_Equal_F (x, (y, ())) = some ((decide (x = y), ()), ((), ((), ()))) := bytes_Equal_main x y
theorem ints_ext {l m : List Int} (h : l.length = m.length) (he : ∀ i, i < l.length → l.getD i 0 = m.getD i 0) : l = m :=
  List.ext_getElem h fun i h1 h2 => by have := he i h1; rwa [getD_at h1, getD_at h2] at this
theorem slices_Equal_int_ok (l m : List Int) (hl : l.length ≤ big47) : slices_Equal_int_F (l, (m, ())) = some ((decide (l = m), ()), ((), ((), ()))) := by
  rw [big47_eq] at hl
  rw [slices_Equal_int_main]
  by_cases h : l.length = m.length
  · rw [brk_neg (by simp [h])]
    obtain ⟨n, v, hh, rfl⟩ := for_loop (σ := Unit) (G := fun n i s => iterG slices_Equal_int_t0 slices_Equal_int_B0 (slices_Equal_int_K0 l m) n ((l, (m, ((l.length : Int), ((i : Int), ())))), ())) l.length (fun i s => ∀ j, j < i → l.getD j 0 = m.getD j 0) (· = some ((decide (l = m), ()), ((), ((), ()))))
      (fun i s hi hI => by
        by_cases he : l.getD i 0 = m.getD i 0
        · refine .inr ⟨(), fun j hj => ?_, fun n => ?_⟩
          · rcases Nat.lt_succ_iff_lt_or_eq.1 hj with h | rfl
            · exact hI j h
            · exact he
          · dsimp only
            rw [slices_Equal_int_r0, brk_lt hi, ck_idx hi, ck_idx (by omega), rdD_nat, rdD_nat, show tI.zero = 0 from rfl, decide_eq_true he, Bool.not_true, brk_false, step_nat i (by omega)]
        · refine .inl ⟨_, rfl, fun n => ?_⟩
          dsimp only
          rw [slices_Equal_int_r0, brk_lt hi, ck_idx hi, ck_idx (by omega), rdD_nat, rdD_nat, show tI.zero = 0 from rfl, decide_eq_false he, Bool.not_false, brk_true, slices_Equal_int_e0_0, decide_eq_false fun e => he (by rw [e])])
      (fun s hI => ⟨_, rfl, fun n => by
        dsimp only
        rw [slices_Equal_int_r0, brk_nlt (by omega), slices_Equal_int_e0_1, decide_eq_true (ints_ext h hI)]⟩) () (fun j hj => by omega)
    exact slices_Equal_int_l0 n hh ⟨_, rfl⟩
  · rw [brk_pos (by simp; omega), decide_eq_false fun e => h (by rw [e])]
theorem slices_EqualFunc_ok (l m : List (List Int)) (hl : l.length ≤ big47) (hr : ∀ r ∈ l, r.length ≤ big47) : slices_EqualFunc__int_F (l, (m, ((), ()))) = some ((decide (l = m), ()), ((), ((), ((), ())))) := by
  rw [big47_eq] at hl
  rw [slices_EqualFunc__int_main]
  by_cases h : l.length = m.length
  · rw [brk_neg (by simp [h])]
    obtain ⟨n, v, hh, rfl⟩ := for_loop (σ := Unit) (G := fun n i s => iterG slices_EqualFunc__int_t0 slices_EqualFunc__int_B0 (slices_EqualFunc__int_K0 l m ()) n ((m, (l, ((l.length : Int), ((i : Int), ())))), ())) l.length (fun i s => ∀ j, j < i → l.getD j [] = m.getD j []) (· = some ((decide (l = m), ()), ((), ((), ((), ())))))
      (fun i s hi hI => by
        by_cases he : l.getD i [] = m.getD i []
        · refine .inr ⟨(), fun j hj => ?_, fun n => ?_⟩
          · rcases Nat.lt_succ_iff_lt_or_eq.1 hj with h | rfl
            · exact hI j h
            · exact he
          · dsimp only
            rw [slices_EqualFunc__int_r0, brk_lt hi, ck_idx hi, ck_idx (by omega), rdD_nat, rdD_nat, show tIs.zero = [] from rfl, slices_Equal_int_ok _ _ (row_le hr hi), decide_eq_true he]
            simp only [Option.bind_some, Bool.not_true, brk_false]
            rw [step_nat i (by omega)]
        · refine .inl ⟨_, rfl, fun n => ?_⟩
          dsimp only
          rw [slices_EqualFunc__int_r0, brk_lt hi, ck_idx hi, ck_idx (by omega), rdD_nat, rdD_nat, show tIs.zero = [] from rfl, slices_Equal_int_ok _ _ (row_le hr hi), decide_eq_false he]
          simp only [Option.bind_some, Bool.not_false, brk_true]
          rw [slices_EqualFunc__int_e0_0, decide_eq_false fun e => he (by rw [e])])
      (fun s hI => ⟨_, rfl, fun n => by
        dsimp only
        rw [slices_EqualFunc__int_r0, brk_nlt (by omega), slices_EqualFunc__int_e0_1, decide_eq_true (rows_ext h hI)]⟩) () (fun j hj => by omega)
    exact slices_EqualFunc__int_l0 n hh ⟨_, rfl⟩
  · rw [brk_pos (by simp; omega), decide_eq_false fun e => h (by rw [e])]
theorem spec_l5Same_ok (l m : List Int) (hl : l.length ≤ big47) : spec_l5Same_F (l, (m, ())) = some ((decide (l = m), ()), ((), ((), ()))) := by
  rw [big47_eq] at hl
  rw [spec_l5Same_main]
  have out : ∀ i, (∀ j, j < i → l.getD j 0 = m.getD j 0) → ¬ (i < l.length ∧ i < m.length) → decide ((l.length : Int) = (m.length : Int)) = decide (l = m) := fun i hI hn => by
    by_cases h : l.length = m.length
    · rw [decide_eq_true (by omega), decide_eq_true (ints_ext h fun j hj => hI j (by omega))]
    · rw [decide_eq_false (by omega), decide_eq_false fun e => h (by rw [e])]
  obtain ⟨n, v, hh, rfl⟩ := for_loop (σ := Unit) (G := fun n i s => iterG spec_l5Same_t0 spec_l5Same_B0 (spec_l5Same_K0 l m) n ((l, (m, ((i : Int), ()))), ())) l.length (fun i s => ∀ j, j < i → l.getD j 0 = m.getD j 0) (· = some ((decide (l = m), ()), ((), ((), ()))))
    (fun i s hi hI => by
      by_cases hm : i < m.length
      · by_cases he : l.getD i 0 = m.getD i 0
        · refine .inr ⟨(), fun j hj => ?_, fun n => ?_⟩
          · rcases Nat.lt_succ_iff_lt_or_eq.1 hj with h | rfl
            · exact hI j h
            · exact he
          · dsimp only
            rw [spec_l5Same_r0, brk_lt hi, brk_lt hm, ck_idx hi, ck_idx hm, rdD_nat, rdD_nat, show tI.zero = 0 from rfl, decide_eq_true he, Bool.not_true, brk_false, step_nat i (by omega)]
        · refine .inl ⟨_, rfl, fun n => ?_⟩
          dsimp only
          rw [spec_l5Same_r0, brk_lt hi, brk_lt hm, ck_idx hi, ck_idx hm, rdD_nat, rdD_nat, show tI.zero = 0 from rfl, decide_eq_false he, Bool.not_false, brk_true, spec_l5Same_e0_0, decide_eq_false fun e => he (by rw [e])]
      · refine .inl ⟨_, rfl, fun n => ?_⟩
        dsimp only
        rw [spec_l5Same_r0, brk_lt hi, brk_nlt hm, spec_l5Same_e0_1, out i hI (by omega)])
    (fun s hI => ⟨_, rfl, fun n => by
      dsimp only
      rw [spec_l5Same_r0, brk_nlt (by omega), spec_l5Same_e0_1, out _ hI (by omega)]⟩) () (fun j hj => by omega)
  exact spec_l5Same_l0 n hh ⟨_, rfl⟩
theorem metaEq_iff (x y : tMeta.D) : x = y ↔ x.1 = y.1 ∧ x.2.1 = y.2.1 ∧ x.2.2.1 = y.2.2.1 ∧ x.2.2.2.1 = y.2.2.2.1 ∧ x.2.2.2.2.1 = y.2.2.2.2.1 ∧ x.2.2.2.2.2.1 = y.2.2.2.2.2.1 := by
  obtain ⟨g, l, f, o, h, a, u⟩ := x
  obtain ⟨g', l', f', o', h', a', u'⟩ := y
  cases u; cases u'
  constructor
  · intro e; cases e; simp
  · rintro ⟨e1, e2, e3, e4, e5, e6⟩
    simp only at e1 e2 e3 e4 e5 e6
    subst e1 e2 e3 e4 e5 e6; rfl
/-- Are two metas alike? -/
def metaEqB (x y : tMeta.D) : Bool := decide (x.1 = y.1) && decide (x.2.1 = y.2.1) && (x.2.2.1 == y.2.2.1) && (x.2.2.2.1 == y.2.2.2.1) && (x.2.2.2.2.1 == y.2.2.2.2.1) && decide (x.2.2.2.2.2.1 = y.2.2.2.2.2.1)
theorem metaEqB_iff {x y : tMeta.D} : metaEqB x y = true ↔ x = y := by
  rw [metaEq_iff]
  unfold metaEqB
  simp only [Bool.and_eq_true, decide_eq_true_eq, beq_iff_eq, and_assoc]
theorem impl_SameMeta_ok (x y : tMeta.D) (h1 : x.1.length ≤ big47) (h2 : x.2.1.length ≤ big47) (h3 : ∀ r ∈ x.2.1, r.length ≤ big47) : impl_SameMeta_F (x, (y, ())) = some ((metaEqB x y, ()), ((), ((), ()))) := by
  rw [impl_SameMeta_main, slices_Equal_int_ok _ _ h1]
  simp only [Option.bind_some]
  unfold metaEqB
  by_cases e1 : x.1 = y.1
  · rw [decide_eq_true e1, brk_true, slices_EqualFunc_ok _ _ h2 h3]
    simp only [Option.bind_some]
    by_cases e2 : x.2.1 = y.2.1
    · rw [decide_eq_true e2, brk_true]
      cases (x.2.2.1 == y.2.2.1) <;> cases (x.2.2.2.1 == y.2.2.2.1) <;> cases (x.2.2.2.2.1 == y.2.2.2.2.1) <;> rfl
    · rw [decide_eq_false e2]; rfl
  · rw [decide_eq_false e1]; rfl
theorem spec_SameMeta_ok (x y : tMeta.D) (h1 : x.1.length ≤ big47) (h2 : x.2.1.length ≤ big47) (h3 : ∀ r ∈ x.2.1, r.length ≤ big47) : spec_SameMeta_F (x, (y, ())) = some ((metaEqB x y, ()), ((), ((), ()))) := by
  have h2' := h2
  rw [big47_eq] at h2'
  rw [spec_SameMeta_main]
  by_cases hl : x.2.1.length = y.2.1.length
  · rw [brk_neg (by rw [decide_eq_true (by omega)]; rfl), spec_l5Same_ok _ _ h1]
    simp only [Option.bind_some]
    by_cases e1 : x.1 = y.1
    · rw [decide_eq_true e1, Bool.not_true, brk_false]
      by_cases e3 : (x.2.2.1 == y.2.2.1) = true
      · rw [e3, Bool.not_true, brk_false]
        by_cases e4 : (x.2.2.2.1 == y.2.2.2.1) = true
        · rw [e4, Bool.not_true, brk_false]
          by_cases e5 : (x.2.2.2.2.1 == y.2.2.2.2.1) = true
          · rw [e5, Bool.not_true, brk_false]
            by_cases e6 : x.2.2.2.2.2.1 = y.2.2.2.2.2.1
            · rw [decide_eq_true e6, Bool.not_true, brk_false]
              have hm : metaEqB x y = decide (x.2.1 = y.2.1) := by
                unfold metaEqB
                rw [decide_eq_true e1, e3, e4, e5, decide_eq_true e6]; simp
              obtain ⟨n, v, hh, rfl⟩ := for_loop (σ := Unit) (G := fun n i s => iterG spec_SameMeta_t0 spec_SameMeta_B0 (spec_SameMeta_K0 x y) n (((i : Int), ()), ((x.1, (x.2.1, (x.2.2.1, (x.2.2.2.1, (x.2.2.2.2.1, (x.2.2.2.2.2.1, ())))))), ((y.1, (y.2.1, (y.2.2.1, (y.2.2.2.1, (y.2.2.2.2.1, (y.2.2.2.2.2.1, ())))))), ())))) x.2.1.length (fun i s => ∀ j, j < i → x.2.1.getD j [] = y.2.1.getD j []) (· = some ((metaEqB x y, ()), ((), ((), ()))))
                (fun i s hi hI => by
                  by_cases he : x.2.1.getD i [] = y.2.1.getD i []
                  · refine .inr ⟨(), fun j hj => ?_, fun n => ?_⟩
                    · rcases Nat.lt_succ_iff_lt_or_eq.1 hj with h | rfl
                      · exact hI j h
                      · exact he
                    · dsimp only
                      rw [spec_SameMeta_r0, brk_lt hi, ck_idx hi, ck_idx (by omega), rdD_nat, rdD_nat, show tIs.zero = [] from rfl, spec_l5Same_ok _ _ (row_le h3 hi), decide_eq_true he]
                      simp only [Option.bind_some, Bool.not_true, brk_false]
                      rw [step_nat i (by omega)]
                  · refine .inl ⟨_, rfl, fun n => ?_⟩
                    dsimp only
                    rw [spec_SameMeta_r0, brk_lt hi, ck_idx hi, ck_idx (by omega), rdD_nat, rdD_nat, show tIs.zero = [] from rfl, spec_l5Same_ok _ _ (row_le h3 hi), decide_eq_false he]
                    simp only [Option.bind_some, Bool.not_false, brk_true]
                    rw [spec_SameMeta_e0_0, hm, decide_eq_false fun e => he (by rw [e])])
                (fun s hI => ⟨_, rfl, fun n => by
                  dsimp only
                  rw [spec_SameMeta_r0, brk_nlt (by omega), spec_SameMeta_e0_1, hm, decide_eq_true (rows_ext hl hI)]⟩) () (fun j hj => by omega)
              exact spec_SameMeta_l0 n hh ⟨_, rfl⟩
            · rw [decide_eq_false e6, Bool.not_false, brk_true]
              unfold metaEqB; rw [decide_eq_false e6]; simp
          · have e5 : (x.2.2.2.2.1 == y.2.2.2.2.1) = false := by simpa using e5
            rw [e5, Bool.not_false, brk_true]
            unfold metaEqB; rw [e5]; simp
        · have e4 : (x.2.2.2.1 == y.2.2.2.1) = false := by simpa using e4
          rw [e4, Bool.not_false, brk_true]
          unfold metaEqB; rw [e4]; simp
      · have e3 : (x.2.2.1 == y.2.2.1) = false := by simpa using e3
        rw [e3, Bool.not_false, brk_true]
        unfold metaEqB; rw [e3]; simp
    · rw [decide_eq_false e1, Bool.not_false, brk_true]
      unfold metaEqB; rw [decide_eq_false e1]; simp
  · rw [brk_pos (by rw [decide_eq_false (by omega)]; rfl)]
    unfold metaEqB
    rw [decide_eq_false (p := x.2.1 = y.2.1) fun e => hl (by rw [e])]; simp
/-- As for_loop, for loops in loops. -/
theorem for_loop2 {R σ : Type} {G : Nat → Nat → σ → Option R} (N : Nat) (Inv : Nat → σ → Prop) (Post : Option R → Prop)
    (hs : ∀ i s, i < N → Inv i s → (∃ v, Post v ∧ ∀ n, G (n + 1) i s = v) ∨ (∃ s', Inv (i + 1) s' ∧ ∀ n v, Post v → G n (i + 1) s' = v → G (n + 1) i s = v))
    (hf : ∀ s, Inv N s → ∃ v, Post v ∧ ∀ n, G (n + 1) N s = v) (s : σ) (h : Inv 0 s) : ∃ n v, G n 0 s = v ∧ Post v := by
  have key : ∀ (k i : Nat) (s : σ), i + k = N → Inv i s → ∃ n v, G n i s = v ∧ Post v := by
    intro k
    induction k with
    | zero =>
      intro i s hi h
      have : i = N := by omega
      subst this
      obtain ⟨v, hv, hg⟩ := hf s h
      exact ⟨1, v, hg 0, hv⟩
    | succ k ih =>
      intro i s hi h
      rcases hs i s (by omega) h with ⟨v, hv, hg⟩ | ⟨s', h', hg⟩
      · exact ⟨1, v, hg 0, hv⟩
      · obtain ⟨n, v, hn, hv⟩ := ih (i + 1) s' (by omega) h'
        exact ⟨n + 1, v, hg n v hv hn, hv⟩
  exact key N 0 s (by omega) h
/-- A meta that is not large. -/
def SzM (x : tMeta.D) : Prop := x.1.length ≤ 1500000 ∧ x.2.1.length ≤ 1500000 ∧ ∀ r ∈ x.2.1, r.length ≤ 1500000
theorem SzM.big {x : tMeta.D} (h : SzM x) : x.1.length ≤ big47 ∧ x.2.1.length ≤ big47 ∧ ∀ r ∈ x.2.1, r.length ≤ big47 := by
  obtain ⟨h1, h2, h3⟩ := h
  rw [big47_eq]
  exact ⟨by omega, by omega, fun r hr => by have := h3 r hr; omega⟩
def rowsB (l : List (List Int)) : List Int := l.flatMap fun r => putNs ((r.length : Int) :: r)
def flagsN (f o h : Bool) : Int := (if f = true then 1 else 0) + (if o = true then 2 else 0) + (if h = true then 4 else 0)
def metaB (x : tMeta.D) : List Int :=
  if metaOkB x.1 x.2.1 x.2.2.2.1 x.2.2.2.2.1 x.2.2.2.2.2.1 = true then putNs ((x.1.length : Int) :: x.1) ++ rowsB x.2.1 ++ putNs [flagsN x.2.2.1 x.2.2.2.1 x.2.2.2.2.1, x.2.2.2.2.2.1] else []
theorem rowsB_len {l : List (List Int)} {c : Nat} (h : ∀ r ∈ l, r.length ≤ c) : (rowsB l).length ≤ l.length * ((c + 1) * 5) := by
  induction l with
  | nil => simp [rowsB]
  | cons r l ih =>
    have h1 := h r (by simp)
    have h2 := ih fun x hx => h x (by simp [hx])
    have h3 := putNs_len ((r.length : Int) :: r)
    simp only [rowsB, List.flatMap_cons, List.length_append, List.length_cons] at h2 h3 ⊢
    have h4 : (r.length + 1) * 5 ≤ (c + 1) * 5 := Nat.mul_le_mul_right _ (by omega)
    rw [Nat.add_mul, Nat.one_mul]
    omega
theorem rowsB_next {l : List (List Int)} {i : Nat} (hi : i < l.length) : rowsB (l.take (i + 1)) = rowsB (l.take i) ++ putNs (((l.getD i []).length : Int) :: l.getD i []) := by
  rw [take_next hi, getD_at hi]; unfold rowsB; rw [List.flatMap_append]; simp only [List.flatMap_cons, List.flatMap_nil, List.append_nil]
theorem putNs_snoc (a x : Int) (l : List Int) : putNs (a :: (l ++ [x])) = putNs (a :: l) ++ putN x := by simp [putNs]
theorem flags_impl (f o h : Bool) : IntKind.i64.wrap (IntKind.i64.wrap ((if f = true then 1 else 0) + (if o = true then 2 else 0)) + (if h = true then 4 else 0)) = flagsN f o h := by
  cases f <;> cases o <;> cases h <;> decide
theorem flags_spec (f o h : Bool) : IntKind.i64.wrap (IntKind.i64.wrap ((if f = true then 1 else 0) + IntKind.i64.wrap (2 * (if o = true then 1 else 0))) + IntKind.i64.wrap (4 * (if h = true then 1 else 0))) = flagsN f o h := by
  cases f <;> cases o <;> cases h <;> decide
theorem impl_flag_z (z : PsD [.ro tB, .ro tI]) : impl_flag_F z = some ((if z.1 = true then z.2.1 else 0, ()), ((), ((), ()))) := by
  rw [show z = (z.1, (z.2.1, ())) from rfl, impl_flag_main]; cases z.1 <;> rfl
theorem metaOk_parts {g : List Int} {l : List (List Int)} {o h : Bool} {a : Int} (hm : metaOkB g l o h a = true) : g.length ≤ 12 ∧ 0 < g.length ∧ l.length = 3 ∧ (∀ r ∈ l, marksB r = true) ∧ 0 ≤ a ∧ a ≤ 200 ∧ gensB g = true ∧ ¬ (o = true ∧ h = true) := by
  unfold metaOkB at hm
  simp only [Bool.and_eq_true, decide_eq_true_eq, Bool.not_eq_true', Bool.and_eq_false_iff] at hm
  obtain ⟨⟨⟨⟨h1, h2⟩, h3, h4⟩, h5⟩, h6⟩ := hm
  have hg := h1
  unfold gensB at h1
  simp only [Bool.and_eq_true, decide_eq_true_eq] at h1
  refine ⟨h1.2, h2, h3, fun r hr => ?_, h5.1, h5.2, hg, fun h => ?_⟩
  · unfold bitsB at h4
    exact List.all_eq_true.1 h4 r hr
  · rw [h.1, h.2] at h6; simp at h6
theorem impl_MetaBytes_ok (x : tMeta.D) (hx : SzM x) : impl_MetaBytes_F (x, ()) = some ((metaB x, ()), ((), ())) := by
  obtain ⟨b1, b2, b3⟩ := hx.big
  obtain ⟨s1, s2, s3⟩ := hx
  obtain ⟨g, l, f, o, h, a, u⟩ := x
  cases u
  simp only at b1 b2 b3 s1 s2 s3
  rw [impl_MetaBytes_main]
  simp only
  rw [impl_MetaOk_ok g l f o h a b1 b2 b3]
  simp only [Option.bind_some]
  unfold metaB
  simp only
  by_cases hm : metaOkB g l o h a = true
  · obtain ⟨p1, p2, p3, _⟩ := metaOk_parts hm
    rw [hm, Bool.not_true, brk_false, if_pos rfl, impl_putList_ok _ (by omega)]
    simp only [Option.bind_some]
    have q0 := putNs_len ((g.length : Int) :: g)
    have q1 := putNs_len [flagsN f o h, a]
    simp only [List.length_cons, List.length_nil] at q0 q1
    obtain ⟨n, v, hh, rfl⟩ := for_loop (σ := List Int) (G := fun n i s => iterG impl_MetaBytes_t0 impl_MetaBytes_B0 (impl_MetaBytes_K0 (g, (l, (f, (o, (h, (a, ()))))))) n ((l, ((l.length : Int), ((i : Int), ()))), ((g, (l, (f, (o, (h, (a, ())))))), (s, ())))) l.length
      (fun i s => s = putNs ((g.length : Int) :: g) ++ rowsB (l.take i)) (· = some ((putNs ((g.length : Int) :: g) ++ rowsB l ++ putNs [flagsN f o h, a], ()), ((), ())))
      (fun i s hi hI => by
        have hlen : (l.getD i []).length ≤ 1500000 := by rw [getD_at hi]; exact s3 _ (List.getElem_mem hi)
        have q2 := putNs_len (((l.getD i []).length : Int) :: l.getD i [])
        have q3 := rowsB_len (l := l.take i) (c := 1500000) fun r hr => s3 r (List.mem_of_mem_take hr)
        have q4 : (l.take i).length ≤ 3 := by rw [List.length_take]; omega
        have q5 : (l.take i).length * ((1500000 + 1) * 5) ≤ 3 * ((1500000 + 1) * 5) := Nat.mul_le_mul_right _ q4
        simp only [List.length_cons] at q2
        have q6 := congrArg List.length hI
        rw [List.length_append] at q6
        refine .inr ⟨s ++ putNs (((l.getD i []).length : Int) :: l.getD i []), by rw [rowsB_next hi, hI, List.append_assoc], fun n => ?_⟩
        dsimp only
        rw [impl_MetaBytes_r0, brk_lt hi, ck_idx hi, rdD_nat, show tIs.zero = [] from rfl, impl_putList_ok _ (by omega)]
        simp only [Option.bind_some]
        rw [ck_pos (decide_eq_true (by rw [big47_eq]; omega)), step_nat i (by omega)])
      (fun s hI => ⟨_, rfl, fun n => by
        have q3 := rowsB_len (l := l) (c := 1500000) s3
        rw [p3] at q3
        rw [List.take_length] at hI
        have q6 := congrArg List.length hI
        rw [List.length_append] at q6
        dsimp only
        rw [impl_MetaBytes_r0, brk_nlt (by omega), impl_MetaBytes_e0_0]
        simp only [impl_flag_z, Option.bind_some]
        rw [flags_impl, impl_putNums_ok _ (by simp)]
        simp only [Option.bind_some]
        rw [ck_pos (decide_eq_true (by rw [big47_eq]; omega)), hI]⟩) (putNs ((g.length : Int) :: g)) (by simp [rowsB])
    exact impl_MetaBytes_l0 n hh ⟨_, rfl⟩
  · rw [if_neg hm, show metaOkB g l o h a = false by simpa using hm, Bool.not_false, brk_true]
theorem spec_MetaBytes_ok (x : tMeta.D) (hx : SzM x) : spec_MetaBytes_F (x, ()) = some ((metaB x, ()), ((), ())) := by
  obtain ⟨b1, b2, b3⟩ := hx.big
  obtain ⟨s1, s2, s3⟩ := hx
  obtain ⟨g, l, f, o, h, a, u⟩ := x
  cases u
  simp only at b1 b2 b3 s1 s2 s3
  rw [spec_MetaBytes_main]
  simp only
  rw [spec_MetaOk_ok g l f o h a b1 b2 b3]
  simp only [Option.bind_some]
  unfold metaB
  simp only
  by_cases hm : metaOkB g l o h a = true
  · obtain ⟨p1, p2, p3, _⟩ := metaOk_parts hm
    rw [hm, Bool.not_true, brk_false, if_pos rfl, spec_PutNum_ok]
    simp only [Option.bind_some]
    have q0 := putNs_len ((g.length : Int) :: g)
    have q1 := putNs_len [flagsN f o h, a]
    simp only [List.length_cons, List.length_nil] at q0 q1
    have two : ∃ n v, iterG spec_MetaBytes_t2 spec_MetaBytes_B2 (spec_MetaBytes_K2 (g, (l, (f, (o, (h, (a, ()))))))) n ((((0 : Nat) : Int), ()), ((g, (l, (f, (o, (h, (a, ())))))), (putNs ((g.length : Int) :: g), ()))) = v ∧ v = some ((putNs ((g.length : Int) :: g) ++ rowsB l ++ putNs [flagsN f o h, a], ()), ((), ())) :=
      for_loop2 (σ := List Int) (G := fun n i s => iterG spec_MetaBytes_t2 spec_MetaBytes_B2 (spec_MetaBytes_K2 (g, (l, (f, (o, (h, (a, ()))))))) n (((i : Int), ()), ((g, (l, (f, (o, (h, (a, ())))))), (s, ())))) 3
        (fun i s => s = putNs ((g.length : Int) :: g) ++ rowsB (l.take i)) (· = some ((putNs ((g.length : Int) :: g) ++ rowsB l ++ putNs [flagsN f o h, a], ()), ((), ())))
        (fun i s hi hI => by
          have hi' : i < l.length := by omega
          have hlen : (l.getD i []).length ≤ 1500000 := by rw [getD_at hi']; exact s3 _ (List.getElem_mem hi')
          have q3 := rowsB_len (l := l.take i) (c := 1500000) fun r hr => s3 r (List.mem_of_mem_take hr)
          have q4 : (l.take i).length ≤ 3 := by rw [List.length_take]; omega
          have q5 : (l.take i).length * ((1500000 + 1) * 5) ≤ 3 * ((1500000 + 1) * 5) := Nat.mul_le_mul_right _ q4
          have q6 := congrArg List.length hI
          rw [List.length_append] at q6
          have q7 := putN_len ((l.getD i []).length : Int)
          refine .inr ⟨s ++ putNs (((l.getD i []).length : Int) :: l.getD i []), by rw [rowsB_next hi', hI, List.append_assoc], fun n v hv hG => ?_⟩
          dsimp only at hG ⊢
          rw [spec_MetaBytes_r2, brk_pos (decide_eq_true (by omega)), ck_idx hi', rdD_nat, show tIs.zero = [] from rfl, spec_PutNum_ok]
          simp only [Option.bind_some]
          rw [ck_pos (decide_eq_true (by rw [big47_eq]; omega))]
          obtain ⟨m, w, hw, rfl⟩ := for_loop (σ := List Int) (G := fun m j t => iterG spec_MetaBytes_t4 spec_MetaBytes_B4 (spec_MetaBytes_K4 (spec_MetaBytes_K2 (g, (l, (f, (o, (h, (a, ()))))))) n) m (((i : Int), ((j : Int), ())), ((g, (l, (f, (o, (h, (a, ())))))), (t, ())))) (l.getD i []).length
            (fun j t => t = s ++ putNs (((l.getD i []).length : Int) :: (l.getD i []).take j)) (· = v)
            (fun j t hj hJ => by
              have r1 := putNs_len (((l.getD i []).length : Int) :: (l.getD i []).take j)
              have r2 := congrArg List.length hJ
              rw [List.length_append] at r2
              have r3 := putN_len ((l.getD i []).getD j 0)
              simp only [List.length_cons, List.length_take] at r1
              refine .inr ⟨t ++ putN ((l.getD i []).getD j 0), by rw [take_next hj, getD_at hj, hJ, putNs_snoc, List.append_assoc], fun m => ?_⟩
              dsimp only
              rw [spec_MetaBytes_r4, ck_idx hi', rdD_nat l, show tIs.zero = [] from rfl, brk_lt hj, ck_idx hi', ck_idx hj, rdD_nat, show tI.zero = 0 from rfl, spec_PutNum_ok]
              simp only [Option.bind_some]
              rw [ck_pos (decide_eq_true (by rw [big47_eq]; omega)), step_nat j (by omega)])
            (fun t hJ => ⟨_, rfl, fun m => by
              dsimp only
              rw [spec_MetaBytes_r4, ck_idx hi', rdD_nat l, show tIs.zero = [] from rfl, brk_nlt (by omega), spec_MetaBytes_e4_0, step_nat i (by omega), ← hG, hJ, List.take_length]⟩) (s ++ putN ((l.getD i []).length : Int)) (by simp [putNs])
          exact spec_MetaBytes_l4 m hw ⟨_, hv⟩)
        (fun s hI => ⟨_, rfl, fun n => by
          have q3 := rowsB_len (l := l) (c := 1500000) s3
          rw [p3] at q3
          rw [← p3, List.take_length] at hI
          have q6 := congrArg List.length hI
          rw [List.length_append] at q6
          have r1 := putN_len (flagsN f o h)
          have r2 := putN_len a
          dsimp only
          rw [spec_MetaBytes_r2, brk_neg (by decide), spec_MetaBytes_e2_0]
          simp only [spec_l1Bit_z, Option.bind_some]
          rw [flags_spec, spec_PutNum_ok]
          simp only [Option.bind_some]
          rw [ck_pos (decide_eq_true (by rw [big47_eq]; omega)), spec_PutNum_ok]
          simp only [Option.bind_some]
          rw [ck_pos (decide_eq_true (by rw [big47_eq, List.length_append]; omega)), hI]
          simp [putNs]⟩) (putNs ((g.length : Int) :: g)) (by simp [rowsB])
    obtain ⟨n2, v2, h2, rfl⟩ := two
    obtain ⟨n, v, hh, rfl⟩ := for_loop (σ := List Int) (G := fun n i s => iterG spec_MetaBytes_t0 spec_MetaBytes_B0 (spec_MetaBytes_K0 (g, (l, (f, (o, (h, (a, ()))))))) n (((i : Int), ()), ((g, (l, (f, (o, (h, (a, ())))))), (s, ())))) g.length
      (fun i s => s = putNs ((g.length : Int) :: g.take i)) (· = some ((putNs ((g.length : Int) :: g) ++ rowsB l ++ putNs [flagsN f o h, a], ()), ((), ())))
      (fun i s hi hI => by
        have r1 := putNs_len ((g.length : Int) :: g.take i)
        have r2 := congrArg List.length hI
        have r3 := putN_len (g.getD i 0)
        simp only [List.length_cons, List.length_take] at r1
        refine .inr ⟨s ++ putN (g.getD i 0), by rw [take_next hi, getD_at hi, hI, putNs_snoc], fun n => ?_⟩
        dsimp only
        rw [spec_MetaBytes_r0, brk_lt hi, ck_idx hi, rdD_nat, show tI.zero = 0 from rfl, spec_PutNum_ok]
        simp only [Option.bind_some]
        rw [ck_pos (decide_eq_true (by rw [big47_eq]; omega)), step_nat i (by omega)])
      (fun s hI => ⟨_, rfl, fun n => by
        dsimp only
        rw [List.take_length] at hI
        rw [spec_MetaBytes_r0, brk_nlt (by omega), spec_MetaBytes_e0_0, hI]
        exact spec_MetaBytes_l2 n2 h2 ⟨_, rfl⟩⟩) (putN (g.length : Int)) (by simp [putNs])
    exact spec_MetaBytes_l0 n hh ⟨_, rfl⟩
  · rw [if_neg hm, show metaOkB g l o h a = false by simpa using hm, Bool.not_false, brk_true]
theorem impl_num_ok' {b : List Int} {s : Option Nat} {at_ : Int} {ok : Bool} (hb : b.length ≤ big47) (hr : ∀ x ∈ b, 0 ≤ x ∧ x ≤ 255) (ha : at_ ≤ 9223372036854775807) (h : RepS s at_ ok) :
    ∃ at' : Int, impl_reader_num_F ((b, (at_, (ok, ()))), ()) = some (((rdN b s).1, ()), ((b, (at', ((rdN b s).2.isSome, ()))), ())) ∧ RepS (rdN b s).2 at' (rdN b s).2.isSome ∧ at' ≤ 9223372036854775807 := by
  rw [impl_reader_num_main]
  simp only
  cases s with
  | none =>
    cases ok with
    | false => exact ⟨at_, rfl, .inl rfl, ha⟩
    | true =>
      have h : at_ < 0 := by simpa [RepS] using h
      rw [Bool.not_true, brk_false, impl_GetNum_ok b at_ hb hr ha, getR_neg h]
      exact ⟨0, rfl, .inl rfl, by omega⟩
  | some a =>
    obtain ⟨rfl, rfl⟩ := h
    have hs := (rdN_spec hr (some a)).2.2
    rw [Bool.not_true, brk_false, impl_GetNum_ok b _ hb hr ha]
    rw [big47_eq] at hb
    cases hg : gnum (b.drop a) with
    | none => rw [getR_none hg]; simp only [rdN, hg]; exact ⟨0, rfl, .inl rfl, by omega⟩
    | some p =>
      obtain ⟨n, j⟩ := p
      have := (hs (a + j) (by simp only [rdN, hg])).1
      rw [getR_some hg]; simp only [rdN, hg]; exact ⟨((a + j : Nat) : Int), rfl, ⟨rfl, rfl⟩, by omega⟩
/-- How many, and each. -/
def rdList (b : List Int) (s : Option Nat) : List Int × Option Nat := rdL b (rdN b s).1.toNat (rdN b s).2 []
theorem impl_list_ok' {b : List Int} {s : Option Nat} {at_ : Int} {ok : Bool} (hb : b.length ≤ 1400000) (hr : ∀ x ∈ b, 0 ≤ x ∧ x ≤ 255) (ha : at_ ≤ 9223372036854775807) (h : RepS s at_ ok) :
    ∃ at' : Int, impl_reader_list_F ((b, (at_, (ok, ()))), ()) = some (((rdList b s).1, ()), ((b, (at', ((rdList b s).2.isSome, ()))), ())) ∧ RepS (rdList b s).2 at' (rdList b s).2.isSome ∧ at' ≤ 9223372036854775807 := by
  have hb' : b.length ≤ big47 := by rw [big47_eq]; omega
  obtain ⟨at1, e1, r1, l1⟩ := impl_num_ok' hb' hr ha h
  obtain ⟨n0, n1, n2⟩ := rdN_spec hr s
  have hacc := accOk_nil hr s
  rw [impl_reader_list_main]
  simp only [e1, Option.bind_some]
  unfold rdList
  generalize rdN b s = p at *
  obtain ⟨n, s1⟩ := p
  simp only at *
  obtain ⟨N, rfl⟩ := Int.eq_ofNat_of_zero_le n0
  rw [Int.toNat_natCast]
  obtain ⟨m, v, hh, at', rfl, r', l'⟩ := for_loop (σ := List Int × Option Nat × Int) (G := fun n i z => iterG impl_reader_list_t0 impl_reader_list_B0 (impl_reader_list_K0 (b, (at_, (ok, ())))) n (((N : Int), ((i : Int), ())), (z.1, ((b, (z.2.2, (z.2.1.isSome, ()))), ())))) N
    (fun i z => RepS z.2.1 z.2.2 z.2.1.isSome ∧ AccOk b z.2.1 z.1 ∧ rdL b (N - i) z.2.1 z.1 = rdL b N s1 [] ∧ z.2.2 ≤ 9223372036854775807) (fun v => ∃ at' : Int, v = some (((rdL b N s1 []).1, ()), ((b, (at', ((rdL b N s1 []).2.isSome, ()))), ())) ∧ RepS (rdL b N s1 []).2 at' (rdL b N s1 []).2.isSome ∧ at' ≤ 9223372036854775807)
    (fun i z hi ⟨hI1, hI2, hI3, hI4⟩ => by
      obtain ⟨acc, s2, at2⟩ := z
      simp only at hI1 hI2 hI3 hI4 ⊢
      cases s2 with
      | none =>
        rw [show N - i = (N - i - 1) + 1 by omega, rdL] at hI3
        refine .inl ⟨_, ⟨at2, rfl, by rw [← hI3]; exact .inl rfl, hI4⟩, fun n => ?_⟩
        rw [impl_reader_list_r0, brk_lt hi, Option.isSome_none, brk_false, impl_reader_list_e0_0, ← hI3]; rfl
      | some a =>
        rw [show N - i = (N - i - 1) + 1 by omega, rdL] at hI3
        obtain ⟨rfl, _⟩ := hI1
        obtain ⟨at3, e3, r3, l3⟩ := impl_num_ok' (s := some a) (at_ := (a : Int)) (ok := true) hb' hr hI4 ⟨rfl, rfl⟩
        have hlen := hI2.len
        refine .inr ⟨(acc ++ [(rdN b (some a)).1], (rdN b (some a)).2, at3), ⟨r3, hI2.step hr _, ?_, l3⟩, fun n => ?_⟩
        · rw [← hI3, show N - (i + 1) = N - i - 1 by omega]
        · rw [impl_reader_list_r0, brk_lt hi, Option.isSome_some, brk_true]
          simp only [e3, Option.bind_some]
          rw [ck_pos (by simp [big47]; omega), step_nat i (by omega)])
    (fun z ⟨hI1, hI2, hI3, hI4⟩ => by
      obtain ⟨acc, s2, at2⟩ := z
      simp only at hI1 hI2 hI3 hI4 ⊢
      rw [Nat.sub_self, rdL] at hI3
      exact ⟨_, ⟨at2, rfl, by rw [← hI3]; exact hI1, hI4⟩, fun n => by rw [impl_reader_list_r0, brk_nlt (by omega), impl_reader_list_e0_0, ← hI3]⟩) ([], s1, at1) ⟨r1, hacc, by rw [Nat.sub_zero], l1⟩
  exact ⟨at', impl_reader_list_l0 m hh ⟨_, rfl⟩, r', l'⟩
theorem spec_list_ok {b : List Int} {s : Option Nat} {at_ : Int} {ok : Bool} (hb : b.length ≤ 1400000) (hr : ∀ x ∈ b, 0 ≤ x ∧ x ≤ 255) (ha : at_ ≤ 9223372036854775807) (h : RepS s at_ ok) :
    ∃ at' : Int, spec_l5Nums_F ((b, (at_, (ok, ()))), ()) = some (((rdList b s).1, ()), ((b, (at', ((rdList b s).2.isSome, ()))), ())) ∧ RepS (rdList b s).2 at' (rdList b s).2.isSome ∧ at' ≤ 9223372036854775807 := by
  have hb' : b.length ≤ big47 := by rw [big47_eq]; omega
  obtain ⟨at1, e1, r1, _, l1⟩ := spec_num_ok hb' hr ha h
  obtain ⟨n0, n1, n2⟩ := rdN_spec hr s
  have hacc := accOk_nil hr s
  rw [spec_l5Nums_main]
  simp only [e1, Option.bind_some]
  unfold rdList
  generalize rdN b s = p at *
  obtain ⟨n, s1⟩ := p
  simp only at *
  obtain ⟨N, rfl⟩ := Int.eq_ofNat_of_zero_le n0
  rw [Int.toNat_natCast]
  obtain ⟨m, v, hh, at', rfl, r', l'⟩ := for_loop (σ := List Int × Option Nat × Int) (G := fun n i z => iterG spec_l5Nums_t0 spec_l5Nums_B0 (spec_l5Nums_K0 (b, (at_, (ok, ())))) n (((N : Int), ((i : Int), ())), (z.1, ((b, (z.2.2, (z.2.1.isSome, ()))), ())))) N
    (fun i z => RepS z.2.1 z.2.2 z.2.1.isSome ∧ AccOk b z.2.1 z.1 ∧ rdL b (N - i) z.2.1 z.1 = rdL b N s1 [] ∧ z.2.2 ≤ 9223372036854775807) (fun v => ∃ at' : Int, v = some (((rdL b N s1 []).1, ()), ((b, (at', ((rdL b N s1 []).2.isSome, ()))), ())) ∧ RepS (rdL b N s1 []).2 at' (rdL b N s1 []).2.isSome ∧ at' ≤ 9223372036854775807)
    (fun i z hi ⟨hI1, hI2, hI3, hI4⟩ => by
      obtain ⟨acc, s2, at2⟩ := z
      simp only at hI1 hI2 hI3 hI4 ⊢
      cases s2 with
      | none =>
        rw [show N - i = (N - i - 1) + 1 by omega, rdL] at hI3
        refine .inl ⟨_, ⟨at2, rfl, by rw [← hI3]; exact .inl rfl, hI4⟩, fun n => ?_⟩
        rw [spec_l5Nums_r0, brk_lt hi, Option.isSome_none, brk_false, spec_l5Nums_e0_0, ← hI3]; rfl
      | some a =>
        rw [show N - i = (N - i - 1) + 1 by omega, rdL] at hI3
        obtain ⟨rfl, _⟩ := hI1
        obtain ⟨at3, e3, r3, _, l3⟩ := spec_num_ok (s := some a) (at_ := (a : Int)) (ok := true) hb' hr hI4 ⟨rfl, rfl⟩
        have hlen := hI2.len
        refine .inr ⟨(acc ++ [(rdN b (some a)).1], (rdN b (some a)).2, at3), ⟨r3, hI2.step hr _, ?_, l3⟩, fun n => ?_⟩
        · rw [← hI3, show N - (i + 1) = N - i - 1 by omega]
        · rw [spec_l5Nums_r0, brk_lt hi, Option.isSome_some, brk_true]
          simp only [e3, Option.bind_some]
          rw [ck_pos (by simp [big47]; omega), step_nat i (by omega)])
    (fun z ⟨hI1, hI2, hI3, hI4⟩ => by
      obtain ⟨acc, s2, at2⟩ := z
      simp only at hI1 hI2 hI3 hI4 ⊢
      rw [Nat.sub_self, rdL] at hI3
      exact ⟨_, ⟨at2, rfl, by rw [← hI3]; exact hI1, hI4⟩, fun n => by rw [spec_l5Nums_r0, brk_nlt (by omega), spec_l5Nums_e0_0, ← hI3]⟩) ([], s1, at1) ⟨r1, hacc, by rw [Nat.sub_zero], l1⟩
  exact ⟨at', spec_l5Nums_l0 m hh ⟨_, rfl⟩, r', l'⟩
theorem rdList_len {b : List Int} (hr : ∀ x ∈ b, 0 ≤ x ∧ x ≤ 255) (s : Option Nat) : (rdList b s).1.length ≤ b.length + 1 := rdL_ok hr _ _ _ (accOk_nil hr _)
/-- Rows read, n of them. -/
def rdRows (b : List Int) : Nat → Option Nat → List (List Int) → List (List Int) × Option Nat
  | 0, s, acc => (acc, s)
  | n + 1, s, acc => rdRows b n (rdList b s).2 (acc ++ [(rdList b s).1])
def metaR (b : List Int) : tMeta.D × Option Nat :=
  let g := rdList b (some 0)
  let l := rdRows b 3 g.2 []
  let f := rdN b l.2
  let a := rdN b f.2
  ((g.1, (l.1, (!decide (andN .i64 f.1 1 = 0), (!decide (andN .i64 f.1 2 = 0), (!decide (andN .i64 f.1 4 = 0), (a.1, ())))))), a.2)
def zeroMeta : tMeta.D := ([], ([], (false, (false, (false, ((0 : Int), ()))))))
open Classical in
/-- MetaOf. -/
noncomputable def metaOfP (b : List Int) : tMeta.D × Bool :=
  if (metaR b).2.isSome = true ∧ metaB (metaR b).1 = b ∧ b ≠ [] then ((metaR b).1, true) else (zeroMeta, false)
theorem rdRows_ok {b : List Int} (hr : ∀ x ∈ b, 0 ≤ x ∧ x ≤ 255) : ∀ (n : Nat) (s : Option Nat) (acc : List (List Int)), (∀ r ∈ acc, r.length ≤ b.length + 1) → (∀ r ∈ (rdRows b n s acc).1, r.length ≤ b.length + 1) ∧ (rdRows b n s acc).1.length = acc.length + n
  | 0, s, acc, h => ⟨h, rfl⟩
  | n + 1, s, acc, h => by
    obtain ⟨h1, h2⟩ := rdRows_ok hr n (rdList b s).2 (acc ++ [(rdList b s).1]) fun r hr' => by
      rcases List.mem_append.1 hr' with h' | h'
      · exact h r h'
      · simp at h'; subst h'; exact rdList_len hr s
    refine ⟨h1, ?_⟩
    rw [rdRows, h2]
    simp; omega
theorem metaR_sz {b : List Int} (hb : b.length ≤ 1400000) (hr : ∀ x ∈ b, 0 ≤ x ∧ x ≤ 255) : SzM (metaR b).1 := by
  have h1 := rdRows_ok hr 3 (rdList b (some 0)).2 [] (by simp)
  refine ⟨Nat.le_trans (rdList_len hr _) (by omega), ?_, fun r hr' => Nat.le_trans (h1.1 r hr') (by omega)⟩
  show (rdRows b 3 (rdList b (some 0)).2 []).1.length ≤ _
  rw [h1.2]; decide
theorem impl_MetaOf_ok (b : List Int) (hb : b.length ≤ 1400000) (hr : ∀ x ∈ b, 0 ≤ x ∧ x ≤ 255) : impl_MetaOf_F (b, ()) = some (((metaOfP b).1, ((metaOfP b).2, ())), ((), ())) := by
  have hb' : b.length ≤ big47 := by rw [big47_eq]; omega
  obtain ⟨a1, e1, r1, l1⟩ := impl_list_ok' (s := some 0) (at_ := 0) (ok := true) hb hr (by omega) ⟨rfl, rfl⟩
  rw [impl_MetaOf_main, e1]
  simp only [Option.bind_some]
  obtain ⟨n, v, hh, rfl⟩ := for_loop (σ := List (List Int) × Option Nat × Int) (G := fun n i z => iterG impl_MetaOf_t0 impl_MetaOf_B0 (impl_MetaOf_K0 b) n ((b, ((i : Int), ())), ((false, (false, (false, ((0 : Int), ())))), ((false, (false, (false, ((0 : Int), ())))), ((b, (z.2.2, (z.2.1.isSome, ()))), ((rdList b (some 0)).1, (z.1, ()))))))) 3
    (fun i z => RepS z.2.1 z.2.2 z.2.1.isSome ∧ z.2.2 ≤ 9223372036854775807 ∧ z.1.length = i ∧ rdRows b (3 - i) z.2.1 z.1 = rdRows b 3 (rdList b (some 0)).2 []) (· = some (((metaOfP b).1, ((metaOfP b).2, ())), ((), ())))
    (fun i z hi ⟨hI1, hI2, hI3, hI4⟩ => by
      obtain ⟨acc, s2, at2⟩ := z
      simp only at hI1 hI2 hI3 hI4 ⊢
      obtain ⟨at3, e3, r3, l3⟩ := impl_list_ok' hb hr hI2 hI1
      refine .inr ⟨(acc ++ [(rdList b s2).1], (rdList b s2).2, at3), ⟨r3, l3, by simp [hI3], ?_⟩, fun n => ?_⟩
      · rw [← hI4, show 3 - i = (3 - (i + 1)) + 1 by omega, rdRows]
      · rw [impl_MetaOf_r0, brk_pos (decide_eq_true (by omega)), e3]
        simp only [Option.bind_some]
        rw [ck_pos (by simp [big47]; omega), step_nat i (by omega)])
    (fun z ⟨hI1, hI2, hI3, hI4⟩ => by
      obtain ⟨acc, s2, at2⟩ := z
      simp only at hI1 hI2 hI3 hI4 ⊢
      rw [Nat.sub_self, rdRows] at hI4
      obtain ⟨a3, e3, r3, l3⟩ := impl_num_ok' hb' hr hI2 hI1
      obtain ⟨a4, e4, r4, l4⟩ := impl_num_ok' hb' hr l3 r3
      have hm := impl_MetaBytes_ok (metaR b).1 (metaR_sz hb hr)
      have hmr : metaR b = (((rdList b (some 0)).1, (acc, (!decide (andN .i64 (rdN b s2).1 1 = 0), (!decide (andN .i64 (rdN b s2).1 2 = 0), (!decide (andN .i64 (rdN b s2).1 4 = 0), ((rdN b (rdN b s2).2).1, ())))))), (rdN b (rdN b s2).2).2) := by
        unfold metaR; simp only; rw [← hI4]
      unfold metaOfP
      rw [hmr] at hm ⊢
      simp only at hm ⊢
      refine ⟨_, rfl, fun n => ?_⟩
      rw [impl_MetaOf_r0, brk_neg (by decide), impl_MetaOf_e0_0, e3]
      simp only [Option.bind_some]
      rw [e4]
      simp only [Option.bind_some]
      rw [hm]
      simp only [Option.bind_some]
      by_cases h1 : (rdN b (rdN b s2).2).2.isSome = true
      · rw [h1, Bool.not_true, brk_false]
        generalize metaB ((rdList b (some 0)).1, (acc, (!decide (andN .i64 (rdN b s2).1 1 = 0), (!decide (andN .i64 (rdN b s2).1 2 = 0), (!decide (andN .i64 (rdN b s2).1 4 = 0), ((rdN b (rdN b s2).2).1, ())))))) = out
        by_cases h2 : out = []
        · rw [brk_pos (decide_eq_true (by rw [h2]; rfl)), if_neg fun h => h.2.2 (by rw [← h.2.1, h2])]; rfl
        · rw [brk_neg (decide_eq_false fun h => h2 (List.length_eq_zero_iff.1 (by omega))), bytes_Equal_ok]
          simp only [Option.bind_some]
          by_cases h3 : out = b
          · rw [decide_eq_true h3, Bool.not_true, brk_false, if_pos ⟨trivial, h3, fun e => h2 (by rw [h3, e])⟩]
          · rw [decide_eq_false h3, Bool.not_false, brk_true, if_neg fun h => h3 h.2.1]; rfl
      · rw [show (rdN b (rdN b s2).2).2.isSome = false by simpa using h1, Bool.not_false, brk_true, if_neg fun h => by simp at h]; rfl) ([], (rdList b (some 0)).2, a1) ⟨r1, l1, rfl, rfl⟩
  exact impl_MetaOf_l0 n hh ⟨_, rfl⟩
theorem spec_MetaOf_ok (b : List Int) (hb : b.length ≤ 1400000) (hr : ∀ x ∈ b, 0 ≤ x ∧ x ≤ 255) : spec_MetaOf_F (b, ()) = some (((metaOfP b).1, ((metaOfP b).2, ())), ((), ())) := by
  have hb' : b.length ≤ big47 := by rw [big47_eq]; omega
  obtain ⟨a1, e1, r1, l1⟩ := spec_list_ok (s := some 0) (at_ := 0) (ok := true) hb hr (by omega) ⟨rfl, rfl⟩
  rw [spec_MetaOf_main, e1]
  simp only [Option.bind_some]
  obtain ⟨n, v, hh, rfl⟩ := for_loop (σ := List (List Int) × Option Nat × Int) (G := fun n i z => iterG spec_MetaOf_t0 spec_MetaOf_B0 (spec_MetaOf_K0 b) n ((b, ((i : Int), ())), ((false, (false, (false, ((0 : Int), ())))), ((false, (false, (false, ((0 : Int), ())))), ((b, (z.2.2, (z.2.1.isSome, ()))), ((rdList b (some 0)).1, (z.1, ()))))))) 3
    (fun i z => RepS z.2.1 z.2.2 z.2.1.isSome ∧ z.2.2 ≤ 9223372036854775807 ∧ z.1.length = i ∧ rdRows b (3 - i) z.2.1 z.1 = rdRows b 3 (rdList b (some 0)).2 []) (· = some (((metaOfP b).1, ((metaOfP b).2, ())), ((), ())))
    (fun i z hi ⟨hI1, hI2, hI3, hI4⟩ => by
      obtain ⟨acc, s2, at2⟩ := z
      simp only at hI1 hI2 hI3 hI4 ⊢
      obtain ⟨at3, e3, r3, l3⟩ := spec_list_ok hb hr hI2 hI1
      refine .inr ⟨(acc ++ [(rdList b s2).1], (rdList b s2).2, at3), ⟨r3, l3, by simp [hI3], ?_⟩, fun n => ?_⟩
      · rw [← hI4, show 3 - i = (3 - (i + 1)) + 1 by omega, rdRows]
      · rw [spec_MetaOf_r0, brk_pos (decide_eq_true (by omega)), e3]
        simp only [Option.bind_some]
        rw [ck_pos (by simp [big47]; omega), step_nat i (by omega)])
    (fun z ⟨hI1, hI2, hI3, hI4⟩ => by
      obtain ⟨acc, s2, at2⟩ := z
      simp only at hI1 hI2 hI3 hI4 ⊢
      rw [Nat.sub_self, rdRows] at hI4
      obtain ⟨a3, e3, r3, _, l3⟩ := spec_num_ok hb' hr hI2 hI1
      obtain ⟨a4, e4, r4, _, l4⟩ := spec_num_ok hb' hr l3 r3
      have hm := spec_MetaBytes_ok (metaR b).1 (metaR_sz hb hr)
      have hmr : metaR b = (((rdList b (some 0)).1, (acc, (!decide (andN .i64 (rdN b s2).1 1 = 0), (!decide (andN .i64 (rdN b s2).1 2 = 0), (!decide (andN .i64 (rdN b s2).1 4 = 0), ((rdN b (rdN b s2).2).1, ())))))), (rdN b (rdN b s2).2).2) := by
        unfold metaR; simp only; rw [← hI4]
      unfold metaOfP
      rw [hmr] at hm ⊢
      simp only at hm ⊢
      refine ⟨_, rfl, fun n => ?_⟩
      rw [spec_MetaOf_r0, brk_neg (by decide), spec_MetaOf_e0_0, e3]
      simp only [Option.bind_some]
      rw [e4]
      simp only [Option.bind_some]
      by_cases h1 : (rdN b (rdN b s2).2).2.isSome = true
      · rw [h1, Bool.not_true, brk_false, hm]
        simp only [Option.bind_some]
        generalize metaB ((rdList b (some 0)).1, (acc, (!decide (andN .i64 (rdN b s2).1 1 = 0), (!decide (andN .i64 (rdN b s2).1 2 = 0), (!decide (andN .i64 (rdN b s2).1 4 = 0), ((rdN b (rdN b s2).2).1, ())))))) = out
        by_cases h3 : out = b
        · rw [decide_eq_true h3, Bool.not_true, brk_false]
          by_cases h4 : b = []
          · rw [brk_pos (decide_eq_true (by rw [h4]; rfl)), if_neg fun h => h.2.2 h4]; rfl
          · rw [brk_neg (decide_eq_false fun h => h4 (List.length_eq_zero_iff.1 (by omega))), if_pos ⟨trivial, h3, h4⟩]
        · rw [decide_eq_false h3, Bool.not_false, brk_true, if_neg fun h => h3 h.2.1]; rfl
      · rw [show (rdN b (rdN b s2).2).2.isSome = false by simpa using h1, Bool.not_false, brk_true, if_neg fun h => by simp at h]; rfl) ([], (rdList b (some 0)).2, a1) ⟨r1, l1, rfl, rfl⟩
  exact spec_MetaOf_l0 n hh ⟨_, rfl⟩
theorem metaOfP_sz {b : List Int} (hb : b.length ≤ 1400000) (hr : ∀ x ∈ b, 0 ≤ x ∧ x ≤ 255) : SzM (metaOfP b).1 := by
  unfold metaOfP
  split
  · exact metaR_sz hb hr
  · exact ⟨by simp [zeroMeta], by simp [zeroMeta], by simp [zeroMeta]⟩
def metaNewP (n : Int) : tMeta.D := if metaOkB [n] [[], [], []] false false 0 = true then ([n], ([[], [], []], (true, (false, (false, ((0 : Int), ())))))) else ([], ([], (false, (false, (false, ((0 : Int), ()))))))
theorem metaNewP_sz (n : Int) : SzM (metaNewP n) := by
  unfold metaNewP SzM
  split
  · simp
  · simp
theorem spec_MetaNew_ok (n : Int) : spec_MetaNew_F (n, ()) = some ((metaNewP n, ()), ((), ())) := by
  rw [spec_MetaNew_main, ck_pos (by decide)]
  rw [show (List.replicate (3 : Int).toNat tIs.zero : List (List Int)) = [[], [], []] from rfl, spec_MetaOk_ok _ _ _ _ _ _ (by simp [big47]) (by simp [big47]) (by simp)]
  simp only [Option.bind_some]
  unfold metaNewP
  cases metaOkB [n] [[], [], []] false false 0 <;> rfl
theorem impl_MetaNew_ok (n : Int) : impl_MetaNew_F (n, ()) = some ((metaNewP n, ()), ((), ())) := by
  rw [impl_MetaNew_main, ck_pos (by decide)]
  rw [show (List.replicate (3 : Int).toNat tIs.zero : List (List Int)) = [[], [], []] from rfl, impl_MetaOk_ok _ _ _ _ _ _ (by simp [big47]) (by simp [big47]) (by simp)]
  simp only [Option.bind_some]
  unfold metaNewP
  cases metaOkB [n] [[], [], []] false false 0 <;> rfl
/-- A whole slot. -/
def slotB (m : tMeta.D) (n : Int) : List Int := fourB n ++ [IntKind.u8.wrap ((metaB m).length : Int)] ++ metaB m ++ List.replicate (151 - (metaB m).length) 0 ++ fourB n
theorem metaOfP_b {b : List Int} (h : (metaOfP b).2 = true) : metaB (metaOfP b).1 = b := by
  unfold metaOfP at h ⊢
  split
  · rename_i hc; exact hc.2.1
  · rename_i hc; rw [if_neg hc] at h; simp at h
def Byte (b : List Int) : Prop := ∀ x ∈ b, (0 : Int) ≤ x ∧ x ≤ 255
theorem both_self {R : Type} (a : Option R) : both a a = a := by unfold both; rw [if_pos rfl]
theorem marks_len8 {xs : List Int} (h : marksB xs = true) : xs.length ≤ 8 := by
  have hm := marksB_iff.1 h
  have key : ∀ i : Nat, i < xs.length → (i : Int) ≤ xs.getD i 0 := by
    intro i
    induction i with
    | zero => intro hi; exact (hm 0 hi).1.1
    | succ i ih =>
      intro hi
      have h1 := ih (by omega)
      have h2 := (hm (i + 1) hi).2 (by omega)
      rw [Nat.add_sub_cancel] at h2
      omega
  rcases Nat.lt_or_ge 8 xs.length with h8 | h8
  · have h1 := key 8 h8
    have h2 := (hm 8 h8).1.2
    omega
  · exact h8
theorem putN_small {x : Int} (h0 : 0 ≤ x) (h1 : x ≤ 127) : (putN x).length = 1 := by
  unfold putN
  rw [if_pos ⟨h0, by omega⟩, numB_small (by omega)]; rfl
theorem putNs_small : ∀ {xs : List Int}, (∀ x ∈ xs, 0 ≤ x ∧ x ≤ 127) → (putNs xs).length = xs.length
  | [], _ => rfl
  | x :: xs, h => by
    have h1 := h x (by simp)
    have h2 := putNs_small (xs := xs) fun y hy => h y (by simp [hy])
    simp only [putNs, List.flatMap_cons, List.length_append, putN_small h1.1 h1.2, List.length_cons] at h2 ⊢
    omega
theorem marks_mem {xs : List Int} (h : marksB xs = true) : ∀ x ∈ xs, 0 ≤ x ∧ x ≤ 7 := fun x hx => by
  obtain ⟨i, hi, rfl⟩ := List.mem_iff_getElem.1 hx
  have := (marksB_iff.1 h i hi).1
  rw [getD_at hi] at this
  exact this
theorem rowsB_small : ∀ {l : List (List Int)}, (∀ r ∈ l, marksB r = true) → (rowsB l).length ≤ l.length * 9
  | [], _ => by simp [rowsB]
  | r :: l, h => by
    have h1 := h r (by simp)
    have h2 := rowsB_small (l := l) fun x hx => h x (by simp [hx])
    have h3 := marks_len8 h1
    have h4 : (putNs ((r.length : Int) :: r)).length = r.length + 1 := by
      rw [putNs_small]
      · simp
      · intro x hx
        rcases List.mem_cons.1 hx with rfl | hx
        · omega
        · have := marks_mem h1 x hx; omega
    simp only [rowsB, List.flatMap_cons, List.length_append, List.length_cons] at h2 ⊢
    omega
theorem metaB_small (x : tMeta.D) : (metaB x).length ≤ 151 := by
  unfold metaB
  split
  · rename_i hm
    obtain ⟨p1, p2, p3, p4, _⟩ := metaOk_parts hm
    have q0 := putNs_len ((x.1.length : Int) :: x.1)
    have q1 := putNs_len [flagsN x.2.2.1 x.2.2.2.1 x.2.2.2.2.1, x.2.2.2.2.2.1]
    have q3 := rowsB_small p4
    rw [p3] at q3
    simp only [List.length_cons, List.length_nil] at q0 q1
    simp only [List.length_append]
    omega
  · simp
def metaOkM (m : tMeta.D) : Bool := metaOkB m.1 m.2.1 m.2.2.2.1 m.2.2.2.2.1 m.2.2.2.2.2.1
@[reducible] def m1 : tMeta.D := ([1], ([[], [], []], (true, (false, (false, ((0 : Int), ()))))))
theorem metaNewP_one : metaNewP 1 = m1 := by
  unfold metaNewP
  rw [if_pos (by decide)]
theorem nil_byte : Byte ([] : List Int) := fun x hx => by cases hx
def ltB (v : Int) : Int → Bool := fun x => decide (x < v)
/-- A list with a cell where it comes by its size, once. -/
def markB (xs : List Int) (v : Int) : List Int := if v ∈ xs ∨ ¬ (0 ≤ v ∧ v ≤ 7) then xs else xs.takeWhile (ltB v) ++ [v] ++ xs.dropWhile (ltB v)
theorem while_at {p : Int → Bool} : ∀ {xs : List Int} {i : Nat}, i ≤ xs.length → (∀ j, j < i → p (xs.getD j 0) = true) → (i = xs.length ∨ p (xs.getD i 0) = false) → xs.takeWhile p = xs.take i ∧ xs.dropWhile p = xs.drop i
  | [], i, hi, _, _ => by simp
  | x :: xs, 0, hi, _, hn => by
    have : p x = false := by
      rcases hn with hn | hn
      · simp at hn
      · simpa using hn
    simp [this]
  | x :: xs, i + 1, hi, h, hn => by
    have h0 : p x = true := by simpa using h 0 (by omega)
    obtain ⟨a, b⟩ := while_at (xs := xs) (i := i) (by simpa using hi) (fun j hj => by simpa using h (j + 1) (by omega)) (by
      rcases hn with hn | hn
      · left; simpa using hn
      · right; simpa using hn)
    simp [h0, a, b]
theorem markB_len (xs : List Int) (v : Int) : (markB xs v).length ≤ xs.length + 1 := by
  unfold markB
  split
  · omega
  · have := congrArg List.length (List.takeWhile_append_dropWhile (p := ltB v) (l := xs))
    simp only [List.length_append, List.length_cons, List.length_nil] at this ⊢
    omega
theorem markB_at {xs : List Int} {v : Int} {i : Nat} (hv : v ∉ xs) (h7 : 0 ≤ v ∧ v ≤ 7) (hi : i ≤ xs.length) (h : ∀ j, j < i → xs.getD j 0 < v) (hn : i = xs.length ∨ ¬ xs.getD i 0 < v) : markB xs v = xs.take i ++ [v] ++ xs.drop i := by
  obtain ⟨a, b⟩ := while_at (p := ltB v) hi (fun j hj => decide_eq_true (h j hj)) (hn.imp id fun h => decide_eq_false h)
  unfold markB
  rw [if_neg (fun h => h.elim hv fun h => h h7), a, b]
theorem getD_mem {xs : List Int} {i : Nat} (hi : i < xs.length) : xs.getD i 0 ∈ xs := by
  rw [getD_at hi]; exact List.getElem_mem hi
theorem spec_Mark_ok (xs : List Int) (v : Int) (hb : xs.length ≤ 4194304) : spec_Mark_F (xs, (v, ())) = some ((markB xs v, ()), ((), ((), ()))) := by
  rw [spec_Mark_main, spec_l2Has_ok xs v (Nat.le_trans hb (by rw [big47_eq]; omega))]
  simp only [Option.bind_some]
  have hck : ∀ R (a : Option R), ck (decide ((([] : List Int).length + xs.length) * 8 ≤ big47)) a = a := fun R a => ck_pos (decide_eq_true (by rw [big47_eq, List.length_nil]; omega)) a
  by_cases hv : v ∈ xs
  · rw [decide_eq_true hv, brk_true, hck, markB, if_pos (.inl hv)]; rfl
  · rw [decide_eq_false hv, brk_false, spec_l1In_ok']
    simp only [Option.bind_some]
    by_cases h7 : 0 ≤ v ∧ v ≤ 7
    · rw [decide_eq_true h7, Bool.not_true, brk_false]
      have fin : ∀ i : Nat, i ≤ xs.length → (∀ j, j < i → xs.getD j 0 < v) → (i = xs.length ∨ ¬ xs.getD i 0 < v) → spec_Mark_K0 xs v (.exit 0) (spec_Mark_x0_0 xs v i) = some ((markB xs v, ()), ((), ((), ()))) := fun i hi h hn => by
        rw [spec_Mark_e0_0, markB_at hv h7 hi h hn]
        simp only [Int.toNat_natCast, Int.toNat_zero, List.drop_zero, List.take_length, List.nil_append]
        rw [ck_pos (by simp; omega), ck_pos (decide_eq_true (by rw [big47_eq]; simp only [List.length_nil, List.length_take]; omega)), ck_pos (decide_eq_true (by rw [big47_eq]; simp only [List.length_take, List.length_cons, List.length_nil]; omega)), ck_pos (by simp; omega),
          ck_pos (decide_eq_true (by rw [big47_eq]; simp only [List.length_append, List.length_take, List.length_cons, List.length_nil, List.length_drop]; omega))]
      obtain ⟨n, w, h, rfl⟩ := for_loop (σ := Unit) (G := fun n i _ => iterG spec_Mark_t0 spec_Mark_B0 (spec_Mark_K0 xs v) n ((xs, (v, ((i : Int), ()))), ())) xs.length (fun i _ => ∀ j, j < i → xs.getD j 0 < v) (· = some ((markB xs v, ()), ((), ((), ()))))
        (fun i _ hi hI => by
          by_cases hx : xs.getD i 0 < v
          · refine .inr ⟨(), fun j hj => ?_, fun n => ?_⟩
            · rcases Nat.lt_succ_iff_lt_or_eq.1 hj with h | rfl
              · exact hI j h
              · exact hx
            · dsimp only
              rw [spec_Mark_r0, brk_lt hi, ck_idx hi, rdD_nat, show tI.zero = 0 from rfl, decide_eq_true hx, brk_true, step_nat i (by omega)]
          · refine .inl ⟨_, rfl, fun n => ?_⟩
            dsimp only
            rw [spec_Mark_r0, brk_lt hi, ck_idx hi, rdD_nat, show tI.zero = 0 from rfl, decide_eq_false hx, brk_false, fin i (Nat.le_of_lt hi) hI (.inr hx)])
        (fun _ hI => ⟨_, rfl, fun n => by
          dsimp only
          rw [spec_Mark_r0, brk_nlt (by omega), fin xs.length (Nat.le_refl _) hI (.inl rfl)]⟩) () (fun j hj => by omega)
      exact spec_Mark_l0 n h ⟨_, rfl⟩
    · rw [decide_eq_false h7, Bool.not_false, brk_true, hck, markB, if_pos (.inr h7)]; rfl
/-- A cursor that stands well. -/
structure CurOk (c : tL1Cur.D) : Prop where
  len : List.length c.1 ≤ 1048576
  byte : Byte c.1
  lo : (0 : Int) ≤ c.2.1
  hi : c.2.1 ≤ (1048576 : Int)
theorem and_mask (x : Int) (m : Nat) (hm : m < 9223372036854775808) : 0 ≤ andN .i64 x (m : Int) ∧ andN .i64 x (m : Int) ≤ m := by
  have h : (BitVec.ofInt IntKind.i64.bits x &&& BitVec.ofInt IntKind.i64.bits (m : Int)).toNat ≤ m := by
    rw [BitVec.toNat_and]
    refine Nat.le_trans Nat.and_le_right ?_
    rw [BitVec.ofInt_natCast, BitVec.toNat_ofNat]
    exact Nat.mod_le _ _
  unfold andN
  rw [wrap64 (by omega) (by omega)]
  omega
theorem and_mask' (x m : Int) (h0 : 0 ≤ m) (hm : m < 9223372036854775808) : 0 ≤ andN .i64 x m ∧ andN .i64 x m ≤ m := by
  obtain ⟨n, rfl⟩ := Int.eq_ofNat_of_zero_le h0
  exact and_mask x n (by omega)
theorem spec_l1New_ok (code : List Int) (hl : code.length ≤ 1048576) (hb : Byte code) : ∃ c, CurOk c ∧ spec_l1New_F (code, ()) = some ((c, ()), ((), ())) := by
  rw [spec_l1New_main]
  obtain ⟨n, v, hh, c, hc, rfl⟩ := for_loop (σ := Int) (G := fun n i s => iterG spec_l1New_t0 spec_l1New_B0 (spec_l1New_K0 code) n ((code, (s, ((i : Int), ()))), ())) code.length (fun i s => True) (fun v => ∃ c, CurOk c ∧ v = some ((c, ()), ((), ())))
    (fun i s hi _ => by
      by_cases h4 : (i : Int) < 4000
      · refine .inr ⟨andN IntKind.i64 (IntKind.i64.wrap ((IntKind.i64.wrap ((IntKind.i64.wrap (s * (131 : Int))) + (IntKind.i64.wrap (code.getD i 0)))) + (7 : Int))) (1073741823 : Int), trivial, fun n => ?_⟩
        dsimp only
        rw [spec_l1New_r0, brk_lt hi, brk_pos (decide_eq_true h4), ck_idx hi, rdD_nat, show tY.zero = 0 from rfl, step_nat i (by omega)]
      · refine .inl ⟨_, ⟨(code, ((0 : Int), (s, ()))), ⟨hl, hb, Int.le_refl _, by simp⟩, rfl⟩, fun n => ?_⟩
        dsimp only
        rw [spec_l1New_r0, brk_lt hi, brk_neg (decide_eq_false h4), spec_l1New_e0_0])
    (fun s _ => ⟨_, ⟨(code, ((0 : Int), (s, ()))), ⟨hl, hb, Int.le_refl _, by simp⟩, rfl⟩, fun n => by
      dsimp only
      rw [spec_l1New_r0, brk_nlt (by omega), spec_l1New_e0_0]⟩) _ trivial
  exact ⟨c, hc, spec_l1New_l0 n hh ⟨_, rfl⟩⟩
theorem spec_l1Byte_ok {c : tL1Cur.D} (h : CurOk c) : ∃ x c', CurOk c' ∧ (0 : Int) ≤ x ∧ x ≤ 255 ∧ spec_l1Byte_F (c, ()) = some ((x, ()), (c', ())) := by
  obtain ⟨hl, hb, h0, h1⟩ := h
  obtain ⟨b, i, hh, u⟩ : List Int × Int × Int × Unit := c
  cases u
  simp only at hl hb h0 h1
  rw [spec_l1Byte_main]
  simp only
  by_cases hi : i < (List.length b : Int)
  · rw [brk_pos (decide_eq_true hi), ck_pos (by simp; exact ⟨h0, hi⟩)]
    have hm := fun z => and_mask' z 255 (by omega) (by omega)
    refine ⟨_, (b, (IntKind.i64.wrap (i + 1), (_, ()))), ⟨hl, hb, ?_, ?_⟩, (hm _).1, (hm _).2, rfl⟩
    · show (0 : Int) ≤ IntKind.i64.wrap (i + 1)
      rw [wrap64 (by omega) (by omega)]; omega
    · show IntKind.i64.wrap (i + 1) ≤ (1048576 : Int)
      rw [wrap64 (by omega) (by omega)]; omega
  · rw [brk_neg (decide_eq_false hi)]
    have hm := fun z => and_mask' z 255 (by omega) (by omega)
    exact ⟨_, (b, (i, (_, ()))), ⟨hl, hb, h0, h1⟩, (hm _).1, (hm _).2, rfl⟩
theorem tmod_in {x n : Int} (hx : 0 ≤ x) (hn : 0 < n) : 0 ≤ x.tmod n ∧ x.tmod n < n := ⟨Int.tmod_nonneg _ hx, Int.tmod_lt_of_pos _ hn⟩
theorem spec_l1Below_ok {c : tL1Cur.D} (h : CurOk c) (n : Int) : ∃ x c', CurOk c' ∧ (0 : Int) ≤ x ∧ (0 < n → x < n) ∧ spec_l1Below_F (c, (n, ())) = some ((x, ()), (c', ((), ()))) := by
  rw [spec_l1Below_main]
  by_cases hn : n ≤ 0
  · rw [brk_pos (decide_eq_true hn)]
    exact ⟨0, c, h, by omega, fun h => by omega, rfl⟩
  · rw [brk_neg (decide_eq_false hn)]
    by_cases h2 : n ≤ 256
    · rw [brk_pos (decide_eq_true h2)]
      obtain ⟨x, c1, hc, x0, x1, e⟩ := spec_l1Byte_ok h
      have e : spec_l1Byte_F ((c.1, (c.2.1, (c.2.2.1, ()))), ()) = _ := e
      rw [e]
      simp only [Option.bind_some]
      rw [ck_pos (decide_eq_true (by omega))]
      obtain ⟨a, b⟩ := tmod_in x0 (by omega : 0 < n)
      exact ⟨_, c1, hc, a, fun _ => b, rfl⟩
    · rw [brk_neg (decide_eq_false h2)]
      obtain ⟨x, c1, hc1, x0, x1, e1⟩ := spec_l1Byte_ok h
      obtain ⟨y, c2, hc2, y0, y1, e2⟩ := spec_l1Byte_ok hc1
      obtain ⟨z, c3, hc3, z0, z1, e3⟩ := spec_l1Byte_ok hc2
      obtain ⟨w, c4, hc4, w0, w1, e4⟩ := spec_l1Byte_ok hc3
      have e1 : spec_l1Byte_F ((c.1, (c.2.1, (c.2.2.1, ()))), ()) = _ := e1
      have e2 : spec_l1Byte_F ((c1.1, (c1.2.1, (c1.2.2.1, ()))), ()) = _ := e2
      have e3 : spec_l1Byte_F ((c2.1, (c2.2.1, (c2.2.2.1, ()))), ()) = _ := e3
      have e4 : spec_l1Byte_F ((c3.1, (c3.2.1, (c3.2.2.1, ()))), ()) = _ := e4
      rw [e1]
      simp only [Option.bind_some]
      rw [e2]
      simp only [Option.bind_some]
      rw [e3]
      simp only [Option.bind_some]
      rw [e4]
      simp only [Option.bind_some]
      have w1 : IntKind.i64.wrap (x * (16777216 : Int)) = x * 16777216 := wrap64 (by omega) (by omega)
      have w2 : IntKind.i64.wrap (y * (65536 : Int)) = y * 65536 := wrap64 (by omega) (by omega)
      have w3 : IntKind.i64.wrap (x * 16777216 + y * 65536) = x * 16777216 + y * 65536 := wrap64 (by omega) (by omega)
      have w4 : IntKind.i64.wrap (z * (256 : Int)) = z * 256 := wrap64 (by omega) (by omega)
      have w5 : IntKind.i64.wrap (x * 16777216 + y * 65536 + z * 256) = x * 16777216 + y * 65536 + z * 256 := wrap64 (by omega) (by omega)
      have w6 : IntKind.i64.wrap (x * 16777216 + y * 65536 + z * 256 + w) = x * 16777216 + y * 65536 + z * 256 + w := wrap64 (by omega) (by omega)
      rw [w1, w2, w3, w4, w5, w6, ck_pos (decide_eq_true (by omega))]
      obtain ⟨a, b⟩ := tmod_in (x := x * 16777216 + y * 65536 + z * 256 + w) (by omega) (by omega : 0 < n)
      exact ⟨_, c4, hc4, a, fun _ => b, rfl⟩
/-- As the program's text has it, a cursor cell by cell. -/
theorem below_cut {c : tL1Cur.D} (h : CurOk c) (n : Int) : ∃ x c', CurOk c' ∧ (0 : Int) ≤ x ∧ (0 < n → x < n) ∧ spec_l1Below_F ((c.1, (c.2.1, (c.2.2.1, ()))), (n, ())) = some ((x, ()), (c', ((), ()))) := spec_l1Below_ok h n
theorem spec_l1PickInt_ok {c : tL1Cur.D} (h : CurOk c) (l : List Int) (hl : 0 < l.length) (hb : l.length ≤ 1000) : ∃ x c', CurOk c' ∧ x ∈ l ∧ spec_l1PickInt_F (c, (l, ())) = some ((x, ()), (c', ((), ()))) := by
  obtain ⟨x, c1, hc, x0, x1, e⟩ := below_cut h (l.length : Int)
  rw [spec_l1PickInt_main, e]
  simp only [Option.bind_some]
  have x1 := x1 (by omega)
  rw [ck_pos (by simp; exact ⟨x0, x1⟩)]
  obtain ⟨i, rfl⟩ := Int.eq_ofNat_of_zero_le x0
  exact ⟨_, c1, hc, getD_mem (by omega : i < l.length), rfl⟩
theorem pick_cut {c : tL1Cur.D} (h : CurOk c) (l : List Int) (hl : 0 < l.length) (hb : l.length ≤ 1000) : ∃ x c', CurOk c' ∧ x ∈ l ∧ spec_l1PickInt_F ((c.1, (c.2.1, (c.2.2.1, ()))), (l, ())) = some ((x, ()), (c', ((), ()))) := spec_l1PickInt_ok h l hl hb
theorem spec_l1Once_ok {c : tL1Cur.D} (h : CurOk c) (n : Int) : ∃ x c', CurOk c' ∧ spec_l1Once_F (c, (n, ())) = some ((x, ()), (c', ((), ()))) := by
  obtain ⟨x, c1, hc, x0, x1, e⟩ := below_cut h n
  rw [spec_l1Once_main, e]
  exact ⟨_, c1, hc, rfl⟩
theorem once_cut {c : tL1Cur.D} (h : CurOk c) (n : Int) : ∃ x c', CurOk c' ∧ spec_l1Once_F ((c.1, (c.2.1, (c.2.2.1, ()))), (n, ())) = some ((x, ()), (c', ((), ()))) := spec_l1Once_ok h n
theorem Byte.app {a b : List Int} (ha : Byte a) (hb : Byte b) : Byte (a ++ b) := fun x hx => (List.mem_append.1 hx).elim (ha x) (hb x)
theorem wrap8_in (x : Int) : 0 ≤ IntKind.u8.wrap x ∧ IntKind.u8.wrap x ≤ 255 := by rw [wrap8m]; omega
theorem byte_one (x : Int) : Byte [IntKind.u8.wrap x] := fun y hy => by
  simp only [List.mem_singleton] at hy
  rw [hy]; exact wrap8_in x
theorem rows_next {l : List (List Int)} {i : Nat} (hi : i < l.length) : l.take i ++ [l.getD i []] = l.take (i + 1) := by
  rw [List.take_succ_eq_append_getElem hi]
  simp [List.getD_eq_getElem?_getD, List.getElem?_eq_getElem hi]
theorem row_le15 {l : List (List Int)} (h : ∀ r ∈ l, r.length ≤ 1500000) {i : Nat} (hi : i < l.length) : (l.getD i []).length ≤ 1500000 := by
  rw [List.getD_eq_getElem?_getD, List.getElem?_eq_getElem hi]
  exact h _ (List.getElem_mem hi)
theorem spec_l5Copy_ok (m : tMeta.D) (h : SzM m) : spec_l5Copy_F (m, ()) = some ((m, ()), ((), ())) := by
  obtain ⟨h1, h2, h3⟩ := h
  obtain ⟨g, l, f, o, hh, a, u⟩ := m
  cases u
  simp only at h1 h2 h3
  rw [spec_l5Copy_main, ck_pos (decide_eq_true (by rw [big47_eq]; simp only [List.length_nil]; omega)), List.nil_append]
  obtain ⟨n, v, h, rfl⟩ := for_loop (σ := List (List Int)) (G := fun n i s => iterG spec_l5Copy_t0 spec_l5Copy_B0 (spec_l5Copy_K0 (g, (l, (f, (o, (hh, (a, ()))))))) n (((i : Int), ()), ((g, (l, (f, (o, (hh, (a, ())))))), ((false, (false, (false, ((0 : Int), ())))), ((f, (o, (hh, (a, ())))), (g, (s, ()))))))) l.length (fun i s => s = l.take i) (· = some (((g, (l, (f, (o, (hh, (a, ())))))), ()), ((), ())))
    (fun i s hi hI => .inr ⟨_, (rows_next hi), fun n => by
      subst hI
      have hw := row_le15 h3 hi
      dsimp only
      rw [spec_l5Copy_r0, brk_lt hi, ck_idx hi, rdD_nat, show tIs.zero = [] from rfl]
      rw [ck_pos (decide_eq_true (by rw [big47_eq]; simp only [List.length_nil]; omega)), ck_pos (decide_eq_true (by rw [big47_eq]; simp only [List.length_take, List.length_cons, List.length_nil]; omega)), step_nat i (by omega), List.nil_append]⟩)
    (fun s hI => ⟨_, rfl, fun n => by
      subst hI
      dsimp only
      rw [spec_l5Copy_r0, brk_nlt (by omega), spec_l5Copy_e0_0, List.take_length]⟩) [] (by simp)
  exact spec_l5Copy_l0 n h ⟨_, rfl⟩
theorem metaB_byte (m : tMeta.D) : Byte (metaB m) := fun x hx => by
  unfold metaB at hx
  split at hx
  · simp only [List.mem_append] at hx
    rcases hx with (hx | hx) | hx
    · exact putNs_range _ x hx
    · unfold rowsB at hx
      obtain ⟨r, _, hr⟩ := List.mem_flatMap.1 hx
      exact putNs_range _ x hr
    · exact putNs_range _ x hx
  · cases hx
theorem spec_l2DrawMarks_ok {c : tL1Cur.D} (h : CurOk c) : ∃ (out : List Int) (c' : tL1Cur.D), CurOk c' ∧ out.length ≤ 6 ∧ spec_l2DrawMarks_F (c, ()) = some ((out, ()), (c', ())) := by
  rw [spec_l2DrawMarks_main]
  have fin : ∀ (x0 : tL1Cur.D) (out : List Int) (c0 : tL1Cur.D), CurOk c0 → out.length ≤ 5 → ∃ (o : List Int) (c' : tL1Cur.D), CurOk c' ∧ o.length ≤ 6 ∧ spec_l2DrawMarks_K0 x0 (.exit 0) (spec_l2DrawMarks_x0_0 out c0.1 c0.2.1 c0.2.2.1) = some ((o, ()), (c', ())) := fun x0 out c0 hc0 hl0 => by
    obtain ⟨y, c1, hc1, e⟩ := once_cut hc0 10
    rw [spec_l2DrawMarks_e0_0, e]
    simp only [Option.bind_some]
    cases y
    · rw [brk_false]
      exact ⟨out, c1, hc1, by omega, rfl⟩
    · rw [brk_true]
      obtain ⟨z, c2, hc2, z0, e2⟩ := pick_cut hc1 [-1, 0, 7, 8] (by simp) (by simp)
      rw [e2]
      simp only [Option.bind_some]
      rw [ck_pos (decide_eq_true (by rw [big47_eq]; simp; omega))]
      exact ⟨_, c2, hc2, by simp; omega, rfl⟩
  obtain ⟨n, v, hh, out, c', h1, h3, rfl⟩ := for_loop (σ := List Int × tL1Cur.D) (G := fun n i s => iterG spec_l2DrawMarks_t0 spec_l2DrawMarks_B0 (spec_l2DrawMarks_K0 c) n (((i : Int), ()), (s.1, ((s.2.1, (s.2.2.1, (s.2.2.2.1, ()))), ())))) 5 (fun i s => CurOk s.2 ∧ List.length s.1 ≤ i)
    (fun v => ∃ (out : List Int) (c' : tL1Cur.D), CurOk c' ∧ out.length ≤ 6 ∧ v = some ((out, ()), (c', ())))
    (fun i s hi hI => by
      obtain ⟨out, c0⟩ := s
      obtain ⟨hc0, hl0⟩ := hI
      have hl0 : out.length ≤ i := hl0
      obtain ⟨y, c1, hc1, y0, y1, e⟩ := below_cut hc0 5
      by_cases hy : (i : Int) < y
      · obtain ⟨z, c2, hc2, z0, z1, e2⟩ := below_cut hc1 8
        have hz := markB_len out z
        refine .inr ⟨(markB out z, c2), ⟨hc2, by show (markB out z).length ≤ _; omega⟩, fun n => ?_⟩
        dsimp only
        rw [spec_l2DrawMarks_r0, e]
        simp only [Option.bind_some]
        rw [brk_pos (decide_eq_true hy), e2]
        simp only [Option.bind_some]
        rw [spec_Mark_ok out z (by omega)]
        simp only [Option.bind_some]
        rw [step_nat i (by omega)]
      · obtain ⟨o, c', k1, k3, k4⟩ := fin c out c1 hc1 (by omega)
        refine .inl ⟨_, ⟨o, c', k1, k3, rfl⟩, fun n => ?_⟩
        dsimp only
        rw [spec_l2DrawMarks_r0, e]
        simp only [Option.bind_some]
        rw [brk_neg (decide_eq_false hy), k4])
    (fun s hI => by
      obtain ⟨out, c0⟩ := s
      obtain ⟨hc0, hl0⟩ := hI
      have hl0 : out.length ≤ 5 := hl0
      obtain ⟨y, c1, hc1, y0, y1, e⟩ := below_cut hc0 5
      have y1 := y1 (by omega)
      obtain ⟨o, c', k1, k3, k4⟩ := fin c out c1 hc1 (by omega)
      refine ⟨_, ⟨o, c', k1, k3, rfl⟩, fun n => ?_⟩
      dsimp only
      rw [spec_l2DrawMarks_r0, e]
      simp only [Option.bind_some]
      rw [brk_neg (decide_eq_false (by omega)), k4]) (([] : List Int), c) ⟨h, by simp⟩
  exact ⟨out, c', h1, h3, spec_l2DrawMarks_l0 n hh ⟨_, rfl⟩⟩
theorem marks_cut {c : tL1Cur.D} (h : CurOk c) : ∃ (out : List Int) (c' : tL1Cur.D), CurOk c' ∧ out.length ≤ 6 ∧ spec_l2DrawMarks_F ((c.1, (c.2.1, (c.2.2.1, ()))), ()) = some ((out, ()), (c', ())) := spec_l2DrawMarks_ok h
theorem rdN_at {b : List Int} {a : Nat} {n : Int} {rest : List Int} (h : b.drop a = putN n ++ rest) (h0 : 0 ≤ n) (h1 : n ≤ 2147483647) : rdN b (some a) = (n, some (a + (putN n).length)) ∧ b.drop (a + (putN n).length) = rest := by
  have hg := gnum_pnum n rest h0 h1
  rw [pnum_putN] at hg
  refine ⟨?_, ?_⟩
  · simp only [rdN]
    rw [h, hg]
  · rw [← List.drop_drop, h, List.drop_left]
def Nums (xs : List Int) : Prop := ∀ x ∈ xs, 0 ≤ x ∧ x ≤ 2147483647
theorem putNs_cons (x : Int) (xs : List Int) : putNs (x :: xs) = putN x ++ putNs xs := by simp [putNs]
theorem rdL_at {b : List Int} : ∀ (xs acc : List Int) (a : Nat) (rest : List Int), b.drop a = putNs xs ++ rest → Nums xs → ∃ a', rdL b xs.length (some a) acc = (acc ++ xs, some a') ∧ b.drop a' = rest
  | [], acc, a, rest, h, _ => ⟨a, by simp [rdL], by simpa [putNs] using h⟩
  | x :: xs, acc, a, rest, h, hx => by
    rw [putNs_cons, List.append_assoc] at h
    obtain ⟨h1, h2⟩ := rdN_at h (hx x (by simp)).1 (hx x (by simp)).2
    obtain ⟨a', h3, h4⟩ := rdL_at xs (acc ++ [x]) _ rest h2 (fun y hy => hx y (by simp [hy]))
    refine ⟨a', ?_, h4⟩
    rw [List.length_cons, rdL, h1]
    simp only
    rw [h3]
    simp
theorem rdList_at {b xs rest : List Int} {a : Nat} (h : b.drop a = putNs ((xs.length : Int) :: xs) ++ rest) (hx : Nums xs) (hl : xs.length ≤ 1000000) : ∃ a', rdList b (some a) = (xs, some a') ∧ b.drop a' = rest := by
  rw [putNs_cons, List.append_assoc] at h
  obtain ⟨h1, h2⟩ := rdN_at h (by omega) (by omega)
  obtain ⟨a', h3, h4⟩ := rdL_at xs [] _ rest h2 hx
  refine ⟨a', ?_, h4⟩
  unfold rdList
  rw [h1]
  simp only [Int.toNat_natCast]
  rw [h3]
  simp
theorem rowsB_cons (r : List Int) (l : List (List Int)) : rowsB (r :: l) = putNs ((r.length : Int) :: r) ++ rowsB l := by simp [rowsB]
theorem rdRows_at {b : List Int} : ∀ (l acc : List (List Int)) (a : Nat) (rest : List Int), b.drop a = rowsB l ++ rest → (∀ r ∈ l, Nums r ∧ r.length ≤ 1000000) → ∃ a', rdRows b l.length (some a) acc = (acc ++ l, some a') ∧ b.drop a' = rest
  | [], acc, a, rest, h, _ => ⟨a, by simp [rdRows], by simpa [rowsB] using h⟩
  | r :: l, acc, a, rest, h, hr => by
    rw [rowsB_cons, List.append_assoc] at h
    obtain ⟨a1, h1, h2⟩ := rdList_at h (hr r (by simp)).1 (hr r (by simp)).2
    obtain ⟨a', h3, h4⟩ := rdRows_at l (acc ++ [r]) a1 rest h2 (fun y hy => hr y (by simp [hy]))
    refine ⟨a', ?_, h4⟩
    rw [List.length_cons, rdRows, h1]
    simp only
    rw [h3]
    simp
theorem gensAll_in : ∀ {g seen : List Int}, gensAll seen g = true → ∀ x ∈ g, 1 ≤ x ∧ x ≤ 100000
  | [], _, _, x, hx => by cases hx
  | y :: g, seen, h, x, hx => by
    unfold gensAll at h
    simp only [Bool.and_eq_true, decide_eq_true_eq] at h
    rcases List.mem_cons.1 hx with rfl | hx
    · omega
    · exact gensAll_in h.2 x hx
theorem gens_nums {g : List Int} (h : gensB g = true) : Nums g := fun x hx => by
  unfold gensB at h
  rw [Bool.and_eq_true] at h
  have := gensAll_in h.1 x hx
  omega
theorem marks_nums {r : List Int} (h : marksB r = true) : Nums r := fun x hx => by
  have := marks_mem h x hx
  omega
theorem flags_back (f o h : Bool) : (!decide (andN .i64 (flagsN f o h) 1 = 0)) = f ∧ (!decide (andN .i64 (flagsN f o h) 2 = 0)) = o ∧ (!decide (andN .i64 (flagsN f o h) 4 = 0)) = h := by
  cases f <;> cases o <;> cases h <;> decide
theorem flags_in (f o h : Bool) : 0 ≤ flagsN f o h ∧ flagsN f o h ≤ 7 := by
  cases f <;> cases o <;> cases h <;> decide
theorem metaR_at (x : tMeta.D) (hm : metaOkM x = true) : ∃ a, metaR (metaB x) = (x, some a) := by
  obtain ⟨g, l, f, o, h, a, u⟩ := x
  cases u
  have hm' : metaOkB g l o h a = true := hm
  obtain ⟨h1, h2, h3, h4, h5, h6, h7, h8⟩ := metaOk_parts hm'
  have hb : metaB (g, (l, (f, (o, (h, (a, ())))))) = putNs ((g.length : Int) :: g) ++ rowsB l ++ putNs [flagsN f o h, a] := by
    unfold metaB; exact if_pos hm'
  rw [hb]
  generalize hB : putNs ((g.length : Int) :: g) ++ rowsB l ++ putNs [flagsN f o h, a] = b
  have e0 : b.drop 0 = putNs ((g.length : Int) :: g) ++ (rowsB l ++ putNs [flagsN f o h, a]) := by rw [← hB]; simp
  obtain ⟨a1, r1, e1⟩ := rdList_at e0 (gens_nums h7) (by omega)
  obtain ⟨a2, r2, e2⟩ := rdRows_at l [] a1 _ e1 (fun r hr => ⟨marks_nums (h4 r hr), by have := marks_len8 (h4 r hr); omega⟩)
  rw [h3, List.nil_append] at r2
  rw [putNs_cons] at e2
  obtain ⟨r3, e3⟩ := rdN_at e2 (flags_in f o h).1 (by have := (flags_in f o h).2; omega)
  rw [putNs_cons] at e3
  obtain ⟨r4, e4⟩ := rdN_at e3 h5 (by omega)
  obtain ⟨b1, b2, b3⟩ := flags_back f o h
  refine ⟨a2 + (putN (flagsN f o h)).length + (putN a).length, ?_⟩
  unfold metaR
  rw [r1]
  simp only
  rw [r2]
  simp only
  rw [r3]
  simp only
  rw [r4, b1, b2, b3]
theorem putN_ne {n : Int} (h0 : 0 ≤ n) (h1 : n ≤ 2147483647) : putN n ≠ [] := by
  unfold putN
  rw [if_pos ⟨h0, h1⟩]
  rw [numB]
  split <;> simp
theorem metaB_ne {x : tMeta.D} (hm : metaOkM x = true) : metaB x ≠ [] := by
  have hm' : metaOkB x.1 x.2.1 x.2.2.2.1 x.2.2.2.2.1 x.2.2.2.2.2.1 = true := hm
  obtain ⟨h1, _⟩ := metaOk_parts hm'
  unfold metaB
  rw [if_pos hm', putNs_cons]
  have := putN_ne (n := (x.1.length : Int)) (by omega) (by omega)
  simp [this]
theorem metaB_bad {x : tMeta.D} (hm : metaOkM x = false) : metaB x = [] := by
  unfold metaB
  rw [if_neg]
  intro h
  have h : metaOkM x = true := h
  rw [hm] at h; cases h
theorem metaOfP_B {x : tMeta.D} (hm : metaOkM x = true) : metaOfP (metaB x) = (x, true) := by
  obtain ⟨a, h⟩ := metaR_at x hm
  unfold metaOfP
  rw [h]
  exact if_pos ⟨rfl, rfl, metaB_ne hm⟩
/-- A block of a slot's size is a whole slot. -/
def WB (b : List Int) : Prop := b.length = 160 → ∃ m n, metaOkM m = true ∧ 1 ≤ n ∧ n ≤ 1000000 ∧ b = slotB m n
theorem spec_l4Dent_ok {c : tL1Cur.D} (h : CurOk c) (b : List Int) (hb : Byte b) (hl : b.length ≤ 1000000) : ∃ (o : List Int) (c' : tL1Cur.D), CurOk c' ∧ Byte o ∧ o.length ≤ b.length + 1 ∧ ((b.length = 0 ∨ b.length = 160) → WB b → WB o) ∧ spec_l4Dent_F (c, (b, ())) = some ((o, ()), (c', ((), ()))) := by
  rw [spec_l4Dent_main]
  obtain ⟨y, c1, hc1, y0, y1, e1⟩ := below_cut h ((b.length : Int) + 1)
  have y1 := y1 (by omega)
  obtain ⟨q, c2, hc2, q0, q1, e2⟩ := below_cut hc1 5
  have w1 : IntKind.i64.wrap ((b.length : Int) + 1) = (b.length : Int) + 1 := wrap64 (by omega) (by omega)
  rw [w1, e1]
  simp only [Option.bind_some]
  rw [e2]
  simp only [Option.bind_some]
  obtain ⟨k, rfl⟩ := Int.eq_ofNat_of_zero_le y0
  have k1 : (decide (0 ≤ (0 : Int)) && decide ((0 : Int) ≤ (k : Int)) && decide ((k : Int) ≤ (b.length : Int))) = true := by simp; omega
  by_cases hq0 : q = 0
  · rw [brk_pos (decide_eq_true hq0), ck_pos k1]
    refine ⟨_, c2, hc2, fun x hx => hb x (List.mem_of_mem_take hx), by simp only [List.length_take, Int.toNat_natCast]; omega, fun hz hw hh => ?_, rfl⟩
    simp only [List.length_take, Int.toNat_natCast] at hh
    have : b.take (k : Int).toNat = b := by rw [Int.toNat_natCast]; exact List.take_of_length_le (by omega)
    show ∃ m n, _ ∧ _ ∧ _ ∧ b.take (k : Int).toNat = _
    rw [this]
    exact hw (by omega)
  · rw [brk_neg (decide_eq_false hq0)]
    by_cases hq1 : q = 1
    · rw [brk_pos (decide_eq_true hq1)]
      obtain ⟨z, c3, hc3, z0, e3⟩ := pick_cut hc2 [0, 1, 128, 3] (by simp) (by simp)
      have k2 : decide ((([] : List Int).length + ((b.take (k : Int).toNat).drop (0 : Int).toNat).length) * 1 ≤ big47) = true := decide_eq_true (by rw [big47_eq]; simp only [List.length_nil, List.length_drop, List.length_take]; omega)
      have k3 : (decide (0 ≤ (k : Int)) && decide ((k : Int) ≤ (b.length : Int)) && decide ((b.length : Int) ≤ (b.length : Int))) = true := by simp; omega
      have k4 : decide (([IntKind.u8.wrap z].length + ((b.take (b.length : Int).toNat).drop (k : Int).toNat).length) * 1 ≤ big47) = true := decide_eq_true (by rw [big47_eq]; simp only [List.length_cons, List.length_nil, List.length_drop, List.length_take]; omega)
      have k5 : decide (((([] : List Int) ++ ((b.take (k : Int).toNat).drop (0 : Int).toNat)).length + ([IntKind.u8.wrap z] ++ ((b.take (b.length : Int).toNat).drop (k : Int).toNat)).length) * 1 ≤ big47) = true := decide_eq_true (by rw [big47_eq]; simp only [List.length_append, List.length_cons, List.length_nil, List.length_drop, List.length_take]; omega)
      rw [k1, k2, k3, e3]
      simp only [Option.bind_some]
      rw [k4, k5]
      simp only [ck_true, both_self]
      refine ⟨_, c3, hc3, ?_, ?_, fun hz hw hh => ?_, rfl⟩
      · refine Byte.app (Byte.app nil_byte fun x hx => hb x (List.mem_of_mem_take (List.mem_of_mem_drop hx))) (Byte.app (byte_one z) fun x hx => hb x (List.mem_of_mem_take (List.mem_of_mem_drop hx)))
      · simp only [List.length_append, List.length_cons, List.length_nil, List.length_drop, List.length_take, Int.toNat_natCast]; omega
      · exfalso
        simp only [List.length_append, List.length_cons, List.length_nil, List.length_drop, List.length_take, Int.toNat_natCast, Int.toNat_zero] at hh
        omega
    · rw [brk_neg (decide_eq_false hq1)]
      exact ⟨b, c2, hc2, hb, by omega, fun _ hw => hw, rfl⟩
theorem dent_cut {c : tL1Cur.D} (h : CurOk c) (b : List Int) (hb : Byte b) (hl : b.length ≤ 1000000) : ∃ (o : List Int) (c' : tL1Cur.D), CurOk c' ∧ Byte o ∧ o.length ≤ b.length + 1 ∧ ((b.length = 0 ∨ b.length = 160) → WB b → WB o) ∧ spec_l4Dent_F ((c.1, (c.2.1, (c.2.2.1, ()))), (b, ())) = some ((o, ()), (c', ((), ()))) := spec_l4Dent_ok h b hb hl
/-- A meta that is small. -/
structure MetaSm (m : tMeta.D) : Prop where
  g : m.1.length ≤ 10
  l : m.2.1.length ≤ 3
  r : ∀ r ∈ m.2.1, r.length ≤ 20
theorem MetaSm.sz {m : tMeta.D} (h : MetaSm m) : SzM m := ⟨Nat.le_trans h.g (by omega), Nat.le_trans h.l (by omega), fun r hr => Nat.le_trans (h.r r hr) (by omega)⟩
theorem set_rows {l : List (List Int)} {i : Nat} {r : List Int} {n : Nat} (h : ∀ x ∈ l, x.length ≤ n) (hr : r.length ≤ n) : ∀ x ∈ l.set i r, x.length ≤ n := fun x hx => by
  rcases List.mem_or_eq_of_mem_set hx with hx | hx
  · exact h x hx
  · rw [hx]; exact hr
theorem getD_row {l : List (List Int)} {n : Nat} (h : ∀ x ∈ l, x.length ≤ n) {i : Nat} (hi : i < l.length) : (l.getD i []).length ≤ n := by
  rw [List.getD_eq_getElem?_getD, List.getElem?_eq_getElem hi]
  exact h _ (List.getElem_mem hi)
theorem l5_inner (j : Nat) (hj : j < 3) (p1 p2 p3 : Bool) (p4 : Int) (q1 q2 q3 : Bool) (q4 : Int) (g : List Int) : ∀ (m k n0 : Nat) (rows : List (List Int)) (c : tL1Cur.D), k + m = 3 → CurOk c → rows.length = 3 → (∀ r ∈ rows, r.length ≤ n0) → n0 + m ≤ 1000 →
    ∃ (rows' : List (List Int)) (c' : tL1Cur.D), CurOk c' ∧ rows'.length = 3 ∧ (∀ r ∈ rows', r.length ≤ n0 + m) ∧
    ∀ {R : Type} (K : Ex → AS → Option R) (n : Nat), iterG spec_l5DrawRight_t2 spec_l5DrawRight_B2 K (n + (m + 1)) (((j : Int), ((k : Int), ())), ((p1, (p2, (p3, (p4, ())))), ((q1, (q2, (q3, (q4, ())))), (rows, (g, ((c.1, (c.2.1, (c.2.2.1, ()))), ())))))) = K (.exit 2) (spec_l5DrawRight_x2_0 (j : Int) p1 p2 p3 p4 q1 q2 q3 q4 rows' g c'.1 c'.2.1 c'.2.2.1)
  | 0, k, n0, rows, c, hk, hc, hl, hr, hn => by
    obtain ⟨y, c1, hc1, y0, y1, e⟩ := below_cut hc 3
    have y1 := y1 (by omega)
    refine ⟨rows, c1, hc1, hl, hr, fun K n => ?_⟩
    rw [spec_l5DrawRight_r2, e]
    simp only [Option.bind_some]
    rw [brk_neg (decide_eq_false (by omega))]
  | m + 1, k, n0, rows, c, hk, hc, hl, hr, hn => by
    obtain ⟨y, c1, hc1, y0, y1, e⟩ := below_cut hc 3
    have y1 := y1 (by omega)
    by_cases hy : (k : Int) < y
    · obtain ⟨z, c2, hc2, z0, z1, e2⟩ := below_cut hc1 8
      have hrow := getD_row hr (i := j) (by omega)
      have hm := markB_len (rows.getD j []) z
      have eM := spec_Mark_ok (rows.getD j []) z (by omega)
      have hck : (decide (0 ≤ (j : Int)) && decide ((j : Int) < (rows.length : Int))) = true := by rw [hl]; simp; omega
      obtain ⟨rows', c', h1, h2, h3, h4⟩ := l5_inner j hj p1 p2 p3 p4 q1 q2 q3 q4 g m (k + 1) (n0 + 1) (rows.set j (markB (rows.getD j []) z)) c2 (by omega) hc2 (by simpa using hl) (set_rows (fun x hx => Nat.le_trans (hr x hx) (by omega)) (by omega)) (by omega)
      refine ⟨rows', c', h1, h2, fun r hr => Nat.le_trans (h3 r hr) (by omega), fun K n => ?_⟩
      rw [show n + (m + 1 + 1) = (n + (m + 1)) + 1 by omega, spec_l5DrawRight_r2, e]
      simp only [Option.bind_some]
      rw [brk_pos (decide_eq_true hy), hck, e2, rdD_nat, show tIs.zero = [] from rfl]
      simp only [Option.bind_some, ck_true]
      rw [eM]
      simp only [Option.bind_some, both_self, Int.toNat_natCast]
      rw [step_nat k (by omega), h4]
    · refine ⟨rows, c1, hc1, hl, fun r h => Nat.le_trans (hr r h) (by omega), fun K n => ?_⟩
      rw [show n + (m + 1 + 1) = (n + (m + 1)) + 1 by omega, spec_l5DrawRight_r2, e]
      simp only [Option.bind_some]
      rw [brk_neg (decide_eq_false hy)]
theorem spec_l5DrawRight_ok {c : tL1Cur.D} (h : CurOk c) : ∃ (m : tMeta.D) (c' : tL1Cur.D), CurOk c' ∧ MetaSm m ∧ m.1.length = 2 ∧ m.2.1.length = 3 ∧ spec_l5DrawRight_F (c, ()) = some ((m, ()), (c', ())) := by
  rw [spec_l5DrawRight_main]
  have hm := spec_MetaNew_ok 1
  rw [metaNewP_one] at hm
  obtain ⟨z, c1, hc1, z0, z1, e1⟩ := below_cut h 3
  rw [hm]
  simp only [Option.bind_some]
  rw [e1]
  simp only [Option.bind_some]
  have k1 : decide ((([1] : List Int).length + [IntKind.i64.wrap ((2 : Int) + z)].length) * 8 ≤ big47) = true := decide_eq_true (by rw [big47_eq]; simp)
  rw [k1]
  simp only [ck_true, both_self]
  generalize hg : ([1] : List Int) ++ [IntKind.i64.wrap ((2 : Int) + z)] = g
  have hgl : g.length = 2 := by rw [← hg]; rfl
  clear hg
  obtain ⟨n, v, hh, m, c', k1, k2, k3, k4, rfl⟩ := for_loop2 (σ := List (List Int) × tL1Cur.D) (G := fun n i s => iterG spec_l5DrawRight_t0 spec_l5DrawRight_B0 (spec_l5DrawRight_K0 c) n (((i : Int), ()), ((false, (false, (false, ((0 : Int), ())))), ((true, (false, (false, ((0 : Int), ())))), (s.1, (g, ((s.2.1, (s.2.2.1, (s.2.2.2.1, ()))), ()))))))) 3 (fun i s => CurOk s.2 ∧ List.length s.1 = 3 ∧ ∀ r ∈ s.1, List.length r ≤ i * 3)
    (fun v => ∃ (m : tMeta.D) (c' : tL1Cur.D), CurOk c' ∧ MetaSm m ∧ m.1.length = 2 ∧ m.2.1.length = 3 ∧ v = some ((m, ()), (c', ())))
    (fun i s hi hI => by
      obtain ⟨rows, c0⟩ := s
      obtain ⟨hc0, hl0, hr0⟩ := hI
      obtain ⟨rows', c', h1, h2, h3, h4⟩ := l5_inner i hi false false false 0 true false false 0 g 3 0 (i * 3) rows c0 (by omega) hc0 hl0 hr0 (by omega)
      refine .inr ⟨(rows', c'), ⟨h1, h2, fun r hr => Nat.le_trans (h3 r hr) (by omega)⟩, fun n v hv hgv => ?_⟩
      obtain ⟨_, _, _, _, _, _, rfl⟩ := hv
      have k5 := h4 (spec_l5DrawRight_K2 (spec_l5DrawRight_K0 c) n) 0
      rw [spec_l5DrawRight_e2_0, step_nat i (by omega)] at k5
      dsimp only at hgv ⊢
      rw [spec_l5DrawRight_r0, brk_pos (decide_eq_true (by omega))]
      exact spec_l5DrawRight_l2 _ (k5.trans hgv) ⟨_, rfl⟩)
    (fun s hI => by
      obtain ⟨rows, c0⟩ := s
      obtain ⟨hc0, hl0, hr0⟩ := hI
      have hl0 : rows.length = 3 := hl0
      have hr0 : ∀ r ∈ rows, r.length ≤ 9 := hr0
      obtain ⟨b1, c1, hc1, e1⟩ := once_cut hc0 2
      obtain ⟨b2, c2, hc2, e2⟩ := once_cut hc1 3
      obtain ⟨b3, c3, hc3, e3⟩ := once_cut hc2 3
      obtain ⟨y, c4, hc4, _, _, e4⟩ := below_cut hc2 9
      obtain ⟨y', c5, hc5, _, _, e5⟩ := below_cut hc3 9
      cases b2
      · refine ⟨_, ⟨(g, (rows, (b1, (false, (b3, (y', ())))))), c5, hc5, ⟨by show g.length ≤ _; omega, by show rows.length ≤ _; omega, fun r hr => Nat.le_trans (hr0 r hr) (by omega)⟩, hgl, hl0, rfl⟩, fun n => ?_⟩
        dsimp only
        rw [spec_l5DrawRight_r0, brk_neg (by decide), spec_l5DrawRight_e0_0, e1]
        simp only [Option.bind_some]
        rw [e2]
        simp only [Option.bind_some, Bool.not_false, brk_true]
        rw [e3]
        simp only [Option.bind_some]
        rw [e5]
        rfl
      · refine ⟨_, ⟨(g, (rows, (b1, (true, (false, (y, ())))))), c4, hc4, ⟨by show g.length ≤ _; omega, by show rows.length ≤ _; omega, fun r hr => Nat.le_trans (hr0 r hr) (by omega)⟩, hgl, hl0, rfl⟩, fun n => ?_⟩
        dsimp only
        rw [spec_l5DrawRight_r0, brk_neg (by decide), spec_l5DrawRight_e0_0, e1]
        simp only [Option.bind_some]
        rw [e2]
        simp only [Option.bind_some, Bool.not_true, brk_false]
        rw [e4]
        rfl) ([[], [], []], c1) ⟨hc1, rfl, fun r hr => by simp at hr; subst hr; simp⟩
  exact ⟨m, c', k1, k2, k3, k4, spec_l5DrawRight_l0 n hh ⟨_, rfl⟩⟩
theorem right_cut {c : tL1Cur.D} (h : CurOk c) : ∃ (m : tMeta.D) (c' : tL1Cur.D), CurOk c' ∧ MetaSm m ∧ m.1.length = 2 ∧ m.2.1.length = 3 ∧ spec_l5DrawRight_F ((c.1, (c.2.1, (c.2.2.1, ()))), ()) = some ((m, ()), (c', ())) := spec_l5DrawRight_ok h
theorem spec_l5Draw_ok {c : tL1Cur.D} (h : CurOk c) : ∃ (m : tMeta.D) (c' : tL1Cur.D), CurOk c' ∧ MetaSm m ∧ spec_l5Draw_F (c, ()) = some ((m, ()), (c', ())) := by
  rw [spec_l5Draw_main]
  obtain ⟨m, c1, hc1, hm, hg, hl, e1⟩ := right_cut h
  obtain ⟨q, c2, hc2, q0, q1, e2⟩ := below_cut hc1 12
  obtain ⟨g, l, f, o, hh, a, ⟨⟩⟩ := m
  obtain ⟨m1, m2, m3⟩ := hm
  simp only at m1 m2 m3 hg hl
  rw [e1]
  simp only [Option.bind_some]
  rw [e2]
  simp only [Option.bind_some]
  by_cases h0 : q = 0
  · obtain ⟨z, c3, hc3, z0, e3⟩ := pick_cut hc2 [0, 1, 9, 100001] (by simp) (by simp)
    have k1 : decide ((g.length + [z].length) * 8 ≤ big47) = true := decide_eq_true (by rw [big47_eq]; simp only [List.length_cons, List.length_nil]; omega)
    rw [brk_pos (decide_eq_true h0), e3]
    simp only [Option.bind_some]
    rw [k1]
    simp only [ck_true, both_self]
    exact ⟨_, c3, hc3, ⟨by simp only [List.length_append, List.length_cons, List.length_nil]; omega, m2, m3⟩, rfl⟩
  rw [brk_neg (decide_eq_false h0)]
  by_cases h1 : q = 1
  · obtain ⟨y, c3, hc3, y0, y1, e3⟩ := below_cut hc2 3
    have y1 := y1 (by omega)
    obtain ⟨d, c4, hc4, d0, e4⟩ := marks_cut hc3
    have k1 : (decide (0 ≤ y) && decide (y < (l.length : Int))) = true := by rw [hl]; simp; omega
    rw [brk_pos (decide_eq_true h1), e3]
    simp only [Option.bind_some]
    rw [e4]
    simp only [Option.bind_some]
    rw [k1]
    simp only [ck_true, both_self]
    exact ⟨_, c4, hc4, ⟨m1, by simp only [List.length_set]; exact m2, set_rows m3 (by omega)⟩, rfl⟩
  rw [brk_neg (decide_eq_false h1)]
  by_cases h2 : q = 2
  · rw [brk_pos (decide_eq_true h2), ck_pos (by rw [hl]; decide)]
    exact ⟨_, c2, hc2, ⟨m1, by simp only [List.length_take]; omega, fun r hr => m3 r (List.mem_of_mem_take hr)⟩, rfl⟩
  rw [brk_neg (decide_eq_false h2)]
  by_cases h3 : q = 3
  · rw [brk_pos (decide_eq_true h3)]
    exact ⟨_, c2, hc2, ⟨m1, m2, m3⟩, rfl⟩
  rw [brk_neg (decide_eq_false h3)]
  by_cases h4 : q = 4
  · obtain ⟨z, c3, hc3, z0, e3⟩ := pick_cut hc2 [-1, 200, 201] (by simp) (by simp)
    rw [brk_pos (decide_eq_true h4), e3]
    exact ⟨_, c3, hc3, ⟨m1, m2, m3⟩, rfl⟩
  rw [brk_neg (decide_eq_false h4)]
  by_cases h5 : q = 5
  · rw [brk_pos (decide_eq_true h5)]
    exact ⟨_, c2, hc2, ⟨by simp, m2, m3⟩, rfl⟩
  rw [brk_neg (decide_eq_false h5)]
  exact ⟨_, c2, hc2, ⟨m1, m2, m3⟩, rfl⟩
theorem meta_cut {c : tL1Cur.D} (h : CurOk c) : ∃ (m : tMeta.D) (c' : tL1Cur.D), CurOk c' ∧ MetaSm m ∧ spec_l5Draw_F ((c.1, (c.2.1, (c.2.2.1, ()))), ()) = some ((m, ()), (c', ())) := spec_l5Draw_ok h
theorem same_self (x : tMeta.D) (h : SzM x) : impl_SameMeta_F (x, (x, ())) = some ((true, ()), ((), ((), ()))) := by
  obtain ⟨b1, b2, b3⟩ := h.big
  rw [impl_SameMeta_ok x x b1 b2 b3, metaEqB_iff.2 rfl]
theorem spec_DrawMetaBytes_ok (code : List Int) (hl : code.length ≤ 1048576) (hb : Byte code) : ∃ (m : tMeta.D), MetaSm m ∧ spec_DrawMetaBytes_F (code, ()) = some ((m, ()), ((), ())) := by
  obtain ⟨c, hc, e⟩ := spec_l1New_ok code hl hb
  obtain ⟨m, c2, hc2, hm, e2⟩ := meta_cut hc
  rw [spec_DrawMetaBytes_main, e]
  simp only [Option.bind_some]
  rw [e2]
  exact ⟨m, hm, rfl⟩
theorem spec_DrawMetaOk_ok (code : List Int) (hl : code.length ≤ 1048576) (hb : Byte code) : ∃ (m : tMeta.D), MetaSm m ∧ spec_DrawMetaOk_F (code, ()) = some ((m, ()), ((), ())) := by
  obtain ⟨c, hc, e⟩ := spec_l1New_ok code hl hb
  obtain ⟨m, c2, hc2, hm, e2⟩ := meta_cut hc
  rw [spec_DrawMetaOk_main, e]
  simp only [Option.bind_some]
  rw [e2]
  exact ⟨m, hm, rfl⟩
theorem spec_DrawMetaNew_ok (code : List Int) (hl : code.length ≤ 1048576) (hb : Byte code) : ∃ (n : Int), spec_DrawMetaNew_F (code, ()) = some ((n, ()), ((), ())) := by
  obtain ⟨c, hc, e⟩ := spec_l1New_ok code hl hb
  obtain ⟨n, c2, hc2, hn, e2⟩ := pick_cut hc [1, 5, 0, -1, 100000, 100001] (by simp) (by simp)
  rw [spec_DrawMetaNew_main, e]
  simp only [Option.bind_some]
  rw [e2]
  exact ⟨n, rfl⟩
theorem spec_DrawMetaOf_ok (code : List Int) (hl : code.length ≤ 1048576) (hb : Byte code) : ∃ (b : List Int), Byte b ∧ b.length ≤ 200 ∧ spec_DrawMetaOf_F (code, ()) = some ((b, ()), ((), ())) := by
  obtain ⟨c, hc, e⟩ := spec_l1New_ok code hl hb
  obtain ⟨m, c2, hc2, hm, _, _, e2⟩ := right_cut hc
  have e3 := spec_MetaBytes_ok m hm.sz
  have hs := metaB_small m
  obtain ⟨o, c3, hc3, o1, o2, _, e4⟩ := dent_cut hc2 (metaB m) (metaB_byte m) (by omega)
  obtain ⟨g, l, f, o', hh, a, ⟨⟩⟩ := m
  rw [spec_DrawMetaOf_main, e]
  simp only [Option.bind_some]
  rw [e2]
  simp only [Option.bind_some]
  rw [e3]
  simp only [Option.bind_some]
  rw [e4]
  exact ⟨o, o1, by omega, rfl⟩
theorem spec_DrawSameMeta_ok (code : List Int) (hl : code.length ≤ 1048576) (hb : Byte code) : ∃ (a b : tMeta.D), MetaSm a ∧ MetaSm b ∧ spec_DrawSameMeta_F (code, ()) = some ((a, (b, ())), ((), ())) := by
  obtain ⟨c, hc, e⟩ := spec_l1New_ok code hl hb
  obtain ⟨m, c2, hc2, hm, e2⟩ := meta_cut hc
  obtain ⟨k, c3, hc3, e3⟩ := once_cut hc2 2
  obtain ⟨m2, c4, hc4, hm2, e4⟩ := meta_cut hc3
  have e5 := spec_l5Copy_ok m hm.sz
  rw [spec_DrawSameMeta_main, e]
  simp only [Option.bind_some]
  rw [e2]
  simp only [Option.bind_some]
  rw [e3]
  simp only [Option.bind_some]
  cases k
  · rw [brk_false, e4]
    simp only [Option.bind_some, both_self]
    exact ⟨m, m2, hm, hm2, rfl⟩
  · obtain ⟨g, l, f, o', hh, a, ⟨⟩⟩ := m
    rw [brk_true, e5]
    exact ⟨_, _, hm, hm, rfl⟩
theorem laws_FnMetas_pure (code : tYs.D) (hC : Ok tYs code) : laws_FnMetas_F (code, ()) = some ((true, ()), ((), ())) := by
  rw [laws_FnMetas_main, laws_big_main]
  simp only [Option.bind_some]
  by_cases hx : (1048576 : Int) < (List.length code : Int)
  · rw [brk_pos (decide_eq_true hx)]
  rw [brk_neg (decide_eq_false hx)]
  have hl : List.length code ≤ 1048576 := by omega
  have hb : Byte code := fun x hx => hC.2 x hx
  obtain ⟨m, hm, e1⟩ := spec_DrawMetaBytes_ok code hl hb
  obtain ⟨x, hx1, hx2, e2⟩ := spec_DrawMetaOf_ok code hl hb
  obtain ⟨o, ho, e3⟩ := spec_DrawMetaOk_ok code hl hb
  obtain ⟨g, e4⟩ := spec_DrawMetaNew_ok code hl hb
  obtain ⟨p, q, hp, hq, e5⟩ := spec_DrawSameMeta_ok code hl hb
  have t1 := impl_MetaBytes_ok m hm.sz
  have t2 := spec_MetaBytes_ok m hm.sz
  have t3 := impl_MetaOf_ok x (by omega) hx1
  have t4 := spec_MetaOf_ok x (by omega) hx1
  have zn := metaOfP_sz (b := x) (by omega) hx1
  have t5 := same_self _ zn
  obtain ⟨y1, y2, y3⟩ := ho.sz.big
  have t6 : impl_MetaOk_F (o, ()) = some ((metaOkM o, ()), ((), ())) := impl_MetaOk_ok o.1 o.2.1 o.2.2.1 o.2.2.2.1 o.2.2.2.2.1 o.2.2.2.2.2.1 y1 y2 y3
  have t7 : spec_MetaOk_F (o, ()) = some ((metaOkM o, ()), ((), ())) := spec_MetaOk_ok o.1 o.2.1 o.2.2.1 o.2.2.2.1 o.2.2.2.2.1 o.2.2.2.2.2.1 y1 y2 y3
  have t8 := impl_MetaNew_ok g
  have t9 := spec_MetaNew_ok g
  have t10 := same_self _ (metaNewP_sz g)
  obtain ⟨y1, y2, y3⟩ := hp.sz.big
  have t11 := impl_SameMeta_ok p q y1 y2 y3
  have t12 := spec_SameMeta_ok p q y1 y2 y3
  have t13 := impl_MetaBytes_ok _ zn
  have hback : (metaOfP x).2 = true → metaB (metaOfP x).1 = x := metaOfP_b
  obtain ⟨y1, y2, y3⟩ := hm.sz.big
  have t14 : impl_MetaOk_F (m, ()) = some ((metaOkM m, ()), ((), ())) := impl_MetaOk_ok m.1 m.2.1 m.2.2.1 m.2.2.2.1 m.2.2.2.2.1 m.2.2.2.2.2.1 y1 y2 y3
  have hms := metaB_small m
  have t15 := impl_MetaOf_ok (metaB m) (by omega) (metaB_byte m)
  have t16 := same_self m hm.sz
  have hgood : metaOkM m = true → metaOfP (metaB m) = (m, true) := metaOfP_B
  have hbad : metaOkM m = false → metaB m = [] := metaB_bad
  generalize metaOfP (metaB m) = mm at t15 hgood
  generalize metaB m = bm at *
  generalize metaOkM m = mok at *
  generalize metaOkM o = ook at *
  generalize metaNewP g = mg at *
  generalize metaOfP x = mo at *
  generalize metaEqB p q = pq at *
  clear hm ho hp hq zn y1 y2 y3
  obtain ⟨mg1, ml, mf, mo1, mh, ma, ⟨⟩⟩ := m
  obtain ⟨og, ol, of, oo, oh, oa, ⟨⟩⟩ := o
  obtain ⟨pg, pl, pf, po, ph, pa, ⟨⟩⟩ := p
  obtain ⟨qg, ql, qf, qo, qh, qa, ⟨⟩⟩ := q
  obtain ⟨gg, gl, gf, go', gh, ga, ⟨⟩⟩ := mg
  obtain ⟨⟨ng, nl, nf, no, nh, na, ⟨⟩⟩, nok⟩ := mo
  obtain ⟨⟨bg, bl, bf, bo, bh, ba, ⟨⟩⟩, bok⟩ := mm
  simp only at t3 t4 t5 t13 t15 hback
  have rest : ((impl_MetaOk_F ((mg1, (ml, (mf, (mo1, (mh, (ma, ())))))), ())).bind fun y94 =>
      brk (!y94.1.1) (some ((decide ((bm.length : Int) = (0 : Int)), ()), ((), ())))
      ((impl_MetaOf_F (bm, ())).bind fun y101 => brk y101.1.2.1
        ((impl_SameMeta_F ((y101.1.1.1, (y101.1.1.2.1, (y101.1.1.2.2.1, (y101.1.1.2.2.2.1, (y101.1.1.2.2.2.2.1, (y101.1.1.2.2.2.2.2.1, ())))))), ((mg1, (ml, (mf, (mo1, (mh, (ma, ())))))), ()))).bind fun y108 => some ((y108.1.1, ()), ((), ())))
        (some ((false, ()), ((), ()))))) = (some ((true, ()), ((), ())) : Option (RsD [.own tB] × PsO [.ro tYs])) := by
    rw [t14]
    simp only [Option.bind_some]
    cases mok
    · rw [Bool.not_false, brk_true, hbad rfl]; rfl
    · have hg := hgood rfl
      simp only [Prod.mk.injEq, and_true] at hg
      obtain ⟨⟨rfl, rfl, rfl, rfl, rfl, rfl⟩, rfl⟩ := hg
      rw [Bool.not_true, brk_false, t15]
      simp only [Option.bind_some, brk_true]
      rw [t16]
      rfl
  rw [e1]
  simp only [Option.bind_some]
  rw [t1]
  simp only [Option.bind_some]
  rw [e2]
  simp only [Option.bind_some]
  rw [t3]
  simp only [Option.bind_some]
  rw [t4]
  simp only [Option.bind_some]
  rw [e3]
  simp only [Option.bind_some]
  rw [e4]
  simp only [Option.bind_some]
  rw [e5]
  simp only [Option.bind_some]
  rw [t2]
  simp only [Option.bind_some, decide_true, beq_self_eq_true, Bool.not_true, brk_false]
  rw [t5]
  simp only [Option.bind_some, Bool.not_true, brk_false]
  rw [t6]
  simp only [Option.bind_some]
  rw [t7]
  simp only [Option.bind_some, beq_self_eq_true, Bool.not_true, brk_false]
  rw [t8]
  simp only [Option.bind_some]
  rw [t9]
  simp only [Option.bind_some]
  rw [t10]
  simp only [Option.bind_some, Bool.not_true, brk_false]
  rw [t11]
  simp only [Option.bind_some]
  rw [t12]
  simp only [Option.bind_some, beq_self_eq_true, Bool.not_true, brk_false]
  cases nok
  · rw [brk_false]
    exact rest
  · rw [brk_true, t13]
    simp only [Option.bind_some]
    rw [hback rfl, decide_eq_true rfl, Bool.not_true, brk_false]
    exact rest
end Go.Refl
