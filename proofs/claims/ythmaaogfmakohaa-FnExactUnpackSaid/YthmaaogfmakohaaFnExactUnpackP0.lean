/- Plain laws: what the functions come to. No condition. -/
import Derived.Test.YthmaaogfmakohaaFnExactUnpackGf
namespace Go.Refl
open Go.RowKit
set_option linter.unusedVariables false
set_option linter.unusedSimpArgs false
theorem eqIntS_loop {R : Type} (K : Ex → AS → Option R) (xs ys : List Int) (hl : xs.length = ys.length) (hb : xs.length ≤ big47) : ∀ (n i : Nat), i + n = xs.length →
    iterG laws_eqIntS_t0 laws_eqIntS_B0 K (n + 1) ((xs, (ys, ((i : Int), ()))), ()) = if xs.drop i = ys.drop i then K (.exit 0) laws_eqIntS_x0_1 else K .ret (laws_eqIntS_x0_0 false)
  | 0, i, h => by
    have hx : xs.drop i = [] := List.drop_of_length_le (by omega)
    have hy : ys.drop i = [] := List.drop_of_length_le (by omega)
    rw [laws_eqIntS_r0, brk_neg (by simp; omega), hx, hy, if_pos rfl]
  | n + 1, i, h => by
    have hi : i < xs.length := by omega
    have hj : i < ys.length := by omega
    rw [laws_eqIntS_r0, brk_pos (by simp; omega), ck_pos (by simp; omega), ck_pos (by simp; omega)]
    rw [rdD_get (List.getElem?_eq_getElem hi), rdD_get (List.getElem?_eq_getElem hj)]
    have hd : (xs.drop i = ys.drop i) ↔ (xs[i] = ys[i] ∧ xs.drop (i + 1) = ys.drop (i + 1)) := by
      rw [List.drop_eq_getElem_cons hi, List.drop_eq_getElem_cons hj, List.cons.injEq]
    by_cases he : xs[i] = ys[i]
    · rw [brk_neg (by simp [he]), wrap64 (by omega) (by simp only [big47] at hb; omega)]
      have := eqIntS_loop K xs ys hl hb n (i + 1) (by omega)
      rw [show ((i : Int) + 1) = ((i + 1 : Nat) : Int) by simp, this]
      by_cases hr : xs.drop (i + 1) = ys.drop (i + 1)
      · rw [if_pos hr, if_pos (hd.2 ⟨he, hr⟩)]
      · rw [if_neg hr, if_neg fun h => hr (hd.1 h).2]
    · rw [brk_pos (by simp [he]), if_neg fun h => he (hd.1 h).1]
theorem eqIntS_ok (xs ys : List Int) (hb : xs.length ≤ big47) : laws_eqIntS_F (xs, (ys, ())) = some ((decide (xs = ys), ()), ((), ((), ()))) := by
  rw [laws_eqIntS_main]
  by_cases hl : xs.length = ys.length
  · rw [brk_neg (by simp [hl])]
    have h : iterG laws_eqIntS_t0 laws_eqIntS_B0 (laws_eqIntS_K0 xs ys) (xs.length + 1) ((xs, (ys, ((0 : Int), ()))), ()) = _ := eqIntS_loop (laws_eqIntS_K0 xs ys) xs ys hl hb xs.length 0 (by omega)
    by_cases he : xs = ys
    · rw [laws_eqIntS_l0 _ h (by subst he; exact ⟨_, by simp only [if_true]; exact laws_eqIntS_e0_1 _ _⟩)]
      subst he
      simp only [if_true]
      rw [laws_eqIntS_e0_1]; simp
    · have h0 : ¬ xs.drop 0 = ys.drop 0 := by simpa using he
      rw [if_neg h0] at h
      rw [laws_eqIntS_l0 _ h ⟨_, laws_eqIntS_e0_0 _ _ _⟩, laws_eqIntS_e0_0]
      simp [he]
  · rw [brk_pos (by simp; omega)]
    have : xs ≠ ys := fun h => hl (by rw [h])
    simp [this]
theorem take_set_next {α : Type} {out xs : List α} {i : Nat} (hl : out.length = xs.length) (hi : i < xs.length) (ht : out.take i = xs.take i) : (out.set i xs[i]).take (i + 1) = xs.take (i + 1) := by
  rw [List.take_succ_eq_append_getElem (by simpa [hl] using hi), List.take_succ_eq_append_getElem hi]
  rw [List.take_set_of_le (Nat.le_refl i), ht]
  simp
/-- Numbers from k on, as f makes them. -/
def marks (f : Int → Int) (k : Int) : Nat → List Int
  | 0 => []
  | n + 1 => f k :: marks f (k + 1) n
theorem marks_len (f : Int → Int) : ∀ (n : Nat) (k : Int), (marks f k n).length = n
  | 0, _ => rfl
  | n + 1, k => by simp [marks, marks_len f n]
theorem drop_set_next {α : Type} {xs : List α} {i : Nat} (hi : i < xs.length) (v : α) : (xs.set i v).take (i + 1) = xs.take i ++ [v] := by
  rw [List.take_succ_eq_append_getElem (by simpa using hi), List.take_set_of_le (Nat.le_refl i)]
  simp
theorem markIntS_loop {R : Type} (K : Ex → AS → Option R) : ∀ (n i : Nat) (k : Int) (xs : List Int), i + n = xs.length → xs.length ≤ big47 → 0 ≤ k → k + n ≤ 4611686018427387904 →
    iterG laws_markIntS_t0 laws_markIntS_B0 K (n + 1) ((k, ((i : Int), ())), (xs, ())) = K (.exit 0) (laws_markIntS_x0_0 (k + n) (xs.take i ++ marks id k n))
  | 0, i, k, xs, h, hb, h0, hk => by
    rw [laws_markIntS_r0, brk_neg (by simp; omega)]
    rw [List.take_of_length_le (by omega)]
    simp [marks]
  | n + 1, i, k, xs, h, hb, h0, hk => by
    have hi : i < xs.length := by omega
    rw [laws_markIntS_r0, brk_pos (by simp; omega), ck_pos (by simp; omega)]
    rw [wrap64 (by omega) (by omega), wrap64 (by omega) (by simp only [big47] at hb; omega)]
    rw [show ((i : Int) + 1) = ((i + 1 : Nat) : Int) by simp]
    rw [markIntS_loop K n (i + 1) (k + 1) _ (by simp; omega) (by simpa using hb) (by omega) (by omega)]
    rw [show ((i : Int)).toNat = i by simp, drop_set_next hi, show k + 1 + (n : Int) = k + ((n + 1 : Nat) : Int) by omega]
    simp [marks]
theorem markIntS_ok (xs : List Int) (k : Int) (hb : xs.length ≤ 1125899906842624) (hbb : xs.length ≤ big47) (h0 : 0 ≤ k) (hk : k ≤ 1125899906842624) : laws_markIntS_F (xs, (k, ())) = some ((k + xs.length, ()), (marks id k xs.length, ((), ()))) := by
  rw [laws_markIntS_main]
  have h : iterG laws_markIntS_t0 laws_markIntS_B0 (laws_markIntS_K0 xs k) (xs.length + 1) ((k, ((0 : Int), ())), (xs, ())) = _ := markIntS_loop (laws_markIntS_K0 xs k) xs.length 0 k xs (by omega) hbb h0 (by omega)
  rw [laws_markIntS_l0 _ h ⟨_, laws_markIntS_e0_0 _ _ _ _⟩, laws_markIntS_e0_0]
  simp
theorem markByteS_loop {R : Type} (K : Ex → AS → Option R) : ∀ (n i : Nat) (k : Int) (xs : List Int), i + n = xs.length → xs.length ≤ big47 → 0 ≤ k → k + n ≤ 4611686018427387904 →
    iterG laws_markByteS_t0 laws_markByteS_B0 K (n + 1) ((k, ((i : Int), ())), (xs, ())) = K (.exit 0) (laws_markByteS_x0_0 (k + n) (xs.take i ++ marks (IntKind.u8.wrap ·) k n))
  | 0, i, k, xs, h, hb, h0, hk => by
    rw [laws_markByteS_r0, brk_neg (by simp; omega)]
    rw [List.take_of_length_le (by omega)]
    simp [marks]
  | n + 1, i, k, xs, h, hb, h0, hk => by
    have hi : i < xs.length := by omega
    rw [laws_markByteS_r0, brk_pos (by simp; omega), ck_pos (by simp; omega)]
    rw [wrap64 (by omega) (by omega), wrap64 (by omega) (by simp only [big47] at hb; omega)]
    rw [show ((i : Int) + 1) = ((i + 1 : Nat) : Int) by simp]
    rw [markByteS_loop K n (i + 1) (k + 1) _ (by simp; omega) (by simpa using hb) (by omega) (by omega)]
    rw [show ((i : Int)).toNat = i by simp, drop_set_next hi, show k + 1 + (n : Int) = k + ((n + 1 : Nat) : Int) by omega]
    simp [marks]
theorem markByteS_ok (xs : List Int) (k : Int) (hb : xs.length ≤ 1125899906842624) (hbb : xs.length ≤ big47) (h0 : 0 ≤ k) (hk : k ≤ 1125899906842624) : laws_markByteS_F (xs, (k, ())) = some ((k + xs.length, ()), (marks (IntKind.u8.wrap ·) k xs.length, ((), ()))) := by
  rw [laws_markByteS_main]
  have h : iterG laws_markByteS_t0 laws_markByteS_B0 (laws_markByteS_K0 xs k) (xs.length + 1) ((k, ((0 : Int), ())), (xs, ())) = _ := markByteS_loop (laws_markByteS_K0 xs k) xs.length 0 k xs (by omega) hbb h0 (by omega)
  rw [laws_markByteS_l0 _ h ⟨_, laws_markByteS_e0_0 _ _ _ _⟩, laws_markByteS_e0_0]
  simp
theorem eqByteS_loop {R : Type} (K : Ex → AS → Option R) (xs ys : List Int) (hl : xs.length = ys.length) (hb : xs.length ≤ big47) : ∀ (n i : Nat), i + n = xs.length →
    iterG laws_eqByteS_t0 laws_eqByteS_B0 K (n + 1) ((xs, (ys, ((i : Int), ()))), ()) = if xs.drop i = ys.drop i then K (.exit 0) laws_eqByteS_x0_1 else K .ret (laws_eqByteS_x0_0 false)
  | 0, i, h => by
    have hx : xs.drop i = [] := List.drop_of_length_le (by omega)
    have hy : ys.drop i = [] := List.drop_of_length_le (by omega)
    rw [laws_eqByteS_r0, brk_neg (by simp; omega), hx, hy, if_pos rfl]
  | n + 1, i, h => by
    have hi : i < xs.length := by omega
    have hj : i < ys.length := by omega
    rw [laws_eqByteS_r0, brk_pos (by simp; omega), ck_pos (by simp; omega), ck_pos (by simp; omega)]
    rw [rdD_get (List.getElem?_eq_getElem hi), rdD_get (List.getElem?_eq_getElem hj)]
    have hd : (xs.drop i = ys.drop i) ↔ (xs[i] = ys[i] ∧ xs.drop (i + 1) = ys.drop (i + 1)) := by
      rw [List.drop_eq_getElem_cons hi, List.drop_eq_getElem_cons hj, List.cons.injEq]
    by_cases he : xs[i] = ys[i]
    · rw [brk_neg (by simp [he]), wrap64 (by omega) (by simp only [big47] at hb; omega)]
      have := eqByteS_loop K xs ys hl hb n (i + 1) (by omega)
      rw [show ((i : Int) + 1) = ((i + 1 : Nat) : Int) by simp, this]
      by_cases hr : xs.drop (i + 1) = ys.drop (i + 1)
      · rw [if_pos hr, if_pos (hd.2 ⟨he, hr⟩)]
      · rw [if_neg hr, if_neg fun h => hr (hd.1 h).2]
    · rw [brk_pos (by simp [he]), if_neg fun h => he (hd.1 h).1]
theorem eqByteS_ok (xs ys : List Int) (hb : xs.length ≤ big47) : laws_eqByteS_F (xs, (ys, ())) = some ((decide (xs = ys), ()), ((), ((), ()))) := by
  rw [laws_eqByteS_main]
  by_cases hl : xs.length = ys.length
  · rw [brk_neg (by simp [hl])]
    have h : iterG laws_eqByteS_t0 laws_eqByteS_B0 (laws_eqByteS_K0 xs ys) (xs.length + 1) ((xs, (ys, ((0 : Int), ()))), ()) = _ := eqByteS_loop (laws_eqByteS_K0 xs ys) xs ys hl hb xs.length 0 (by omega)
    by_cases he : xs = ys
    · rw [laws_eqByteS_l0 _ h (by subst he; exact ⟨_, by simp only [if_true]; exact laws_eqByteS_e0_1 _ _⟩)]
      subst he
      simp only [if_true]
      rw [laws_eqByteS_e0_1]; simp
    · have h0 : ¬ xs.drop 0 = ys.drop 0 := by simpa using he
      rw [if_neg h0] at h
      rw [laws_eqByteS_l0 _ h ⟨_, laws_eqByteS_e0_0 _ _ _⟩, laws_eqByteS_e0_0]
      simp [he]
  · rw [brk_pos (by simp; omega)]
    have : xs ≠ ys := fun h => hl (by rw [h])
    simp [this]
theorem eqMsg_self (x : tMsg.D) (hb : x.2.2.2.2.1.length ≤ big47) : laws_eqMsg_F (x, (x, ())) = some ((true, ()), ((), ((), ()))) := by
  rw [laws_eqMsg_main, brk_neg (by simp), brk_neg (by simp), brk_neg (by simp), brk_neg (by simp), eqIntS_ok _ _ hb]
  simp
/-- A number's bytes, seven bits each, the low ones first. -/
def numB (n : Nat) : List Int := if h : n ≤ 127 then [(n : Int)] else ((n % 128 + 128 : Nat) : Int) :: numB (n / 128)
termination_by n
decreasing_by omega
theorem numB_small {n : Nat} (h : n ≤ 127) : numB n = [(n : Int)] := by rw [numB, dif_pos h]
theorem numB_big {n : Nat} (h : ¬ n ≤ 127) : numB n = ((n % 128 + 128 : Nat) : Int) :: numB (n / 128) := by rw [numB, dif_neg h]
theorem wrap8 {x : Int} (h1 : 0 ≤ x) (h2 : x ≤ 255) : IntKind.u8.wrap x = x := by
  simp only [IntKind.wrap, IntKind.signed, IntKind.bits]
  simp
  omega
theorem numB_len : ∀ (k n : Nat), n < 128 ^ (k + 1) → (numB n).length ≤ k + 1
  | 0, n, h => by rw [numB_small (by omega)]; simp
  | k + 1, n, h => by
    by_cases hn : n ≤ 127
    · rw [numB_small hn]; simp
    · rw [numB_big hn]
      have := numB_len k (n / 128) (by rw [Nat.div_lt_iff_lt_mul (by omega)]; rw [Nat.pow_succ] at h; exact h)
      simpa using this
theorem spec_PutNum_loop {R : Type} (K : Ex → AS → Option R) : ∀ (k n : Nat) (acc : List Int), n < 128 ^ (k + 1) → n ≤ 2147483647 → acc.length + k ≤ 1000000 →
    ∃ (m d : Nat) (acc' : List Int), iterG spec_PutNum_t0 spec_PutNum_B0 K m (((n : Int), ()), (acc, ())) = K (.exit 0) (spec_PutNum_x0_0 (d : Int) acc') ∧ acc' ++ [(d : Int)] = acc ++ numB n ∧ d ≤ 127 ∧ acc'.length ≤ acc.length + k
  | 0, n, acc, h, hn, hl => by
    refine ⟨1, n, acc, ?_, by rw [numB_small (by omega)], by omega, by omega⟩
    rw [spec_PutNum_r0, brk_neg (by simp; omega)]
  | k + 1, n, acc, h, hn, hl => by
    by_cases hs : n ≤ 127
    · refine ⟨1, n, acc, ?_, by rw [numB_small hs], hs, by omega⟩
      rw [spec_PutNum_r0, brk_neg (by simp; omega)]
    · obtain ⟨m, d, acc', h1, h2, h3, h4⟩ := spec_PutNum_loop K k (n / 128) (acc ++ [((n % 128 + 128 : Nat) : Int)]) (by rw [Nat.div_lt_iff_lt_mul (by omega)]; rw [Nat.pow_succ] at h; exact h) (by omega) (by simp; omega)
      refine ⟨m + 1, d, acc', ?_, ?_, h3, by simp at h4; omega⟩
      · rw [spec_PutNum_r0, brk_pos (by simp; omega), ck_pos (by simp [big47]; omega)]
        have e1 : (n : Int).tmod 128 = ((n % 128 : Nat) : Int) := by rw [Int.tmod_eq_emod_of_nonneg (by omega)]; omega
        have e2 : (n : Int).tdiv 128 = ((n / 128 : Nat) : Int) := by rw [Int.tdiv_eq_ediv_of_nonneg (by omega)]; omega
        rw [e1, e2, wrap64 (by omega) (by omega), wrap64 (by omega) (by omega), wrap8 (by omega) (by omega)]
        rw [show ((n % 128 : Nat) : Int) + 128 = ((n % 128 + 128 : Nat) : Int) by omega]
        exact h1
      · rw [h2, numB_big hs]; simp
theorem impl_PutNum_loop {R : Type} (K : Ex → AS → Option R) : ∀ (k n : Nat) (acc : List Int), n < 128 ^ (k + 1) → n ≤ 2147483647 → acc.length + k ≤ 1000000 →
    ∃ (m d : Nat) (acc' : List Int), iterG impl_PutNum_t0 impl_PutNum_B0 K m (((n : Int), ()), (acc, ())) = K (.exit 0) (impl_PutNum_x0_0 (d : Int) acc') ∧ acc' ++ [(d : Int)] = acc ++ numB n ∧ d ≤ 127 ∧ acc'.length ≤ acc.length + k
  | 0, n, acc, h, hn, hl => by
    refine ⟨1, n, acc, ?_, by rw [numB_small (by omega)], by omega, by omega⟩
    rw [impl_PutNum_r0, brk_neg (by simp; omega)]
  | k + 1, n, acc, h, hn, hl => by
    by_cases hs : n ≤ 127
    · refine ⟨1, n, acc, ?_, by rw [numB_small hs], hs, by omega⟩
      rw [impl_PutNum_r0, brk_neg (by simp; omega)]
    · obtain ⟨m, d, acc', h1, h2, h3, h4⟩ := impl_PutNum_loop K k (n / 128) (acc ++ [((n % 128 + 128 : Nat) : Int)]) (by rw [Nat.div_lt_iff_lt_mul (by omega)]; rw [Nat.pow_succ] at h; exact h) (by omega) (by simp; omega)
      refine ⟨m + 1, d, acc', ?_, ?_, h3, by simp at h4; omega⟩
      · rw [impl_PutNum_r0, brk_pos (by simp; omega), ck_pos (by simp [big47]; omega)]
        have e1 : (n : Int).tmod 128 = ((n % 128 : Nat) : Int) := by rw [Int.tmod_eq_emod_of_nonneg (by omega)]; omega
        have e2 : (n : Int).tdiv 128 = ((n / 128 : Nat) : Int) := by rw [Int.tdiv_eq_ediv_of_nonneg (by omega)]; omega
        rw [e1, e2, wrap64 (by omega) (by omega), wrap64 (by omega) (by omega), wrap8 (by omega) (by omega)]
        rw [show ((n % 128 : Nat) : Int) + 128 = ((n % 128 + 128 : Nat) : Int) by omega]
        exact h1
      · rw [h2, numB_big hs]; simp
/-- What is put of a number. -/
def putN (x : Int) : List Int := if 0 ≤ x ∧ x ≤ 2147483647 then numB x.toNat else []
theorem spec_l1In_ok (x lo hi : Int) : spec_l1In_F (x, (lo, (hi, ()))) = some ((decide (lo ≤ x) && decide (x ≤ hi), ()), ((), ((), ((), ())))) := by
  rw [spec_l1In_main]
  by_cases h : lo ≤ x <;> simp [h]
theorem spec_PutNum_in (n : Nat) (h : n ≤ 2147483647) : loopG spec_PutNum_t0 spec_PutNum_B0 (spec_PutNum_K0 (n : Int)) (((n : Int), ()), ([], ())) = some ((numB n, ()), ((), ())) := by
  obtain ⟨m, d, acc', h1, h2, h3, h4⟩ := spec_PutNum_loop (spec_PutNum_K0 (n : Int)) 4 n [] (by omega) h (by simp)
  have h5 : spec_PutNum_K0 (n : Int) (.exit 0) (spec_PutNum_x0_0 (d : Int) acc') = some ((numB n, ()), ((), ())) := by
    rw [spec_PutNum_e0_0, wrap8 (by omega) (by omega), ck_pos (by simp at h4; simp [big47]; omega), h2]; rfl
  rw [spec_PutNum_l0 m h1 ⟨_, h5⟩, h5]
theorem impl_PutNum_in (n : Nat) (h : n ≤ 2147483647) : loopG impl_PutNum_t0 impl_PutNum_B0 (impl_PutNum_K0 (n : Int)) (((n : Int), ()), ([], ())) = some ((numB n, ()), ((), ())) := by
  obtain ⟨m, d, acc', h1, h2, h3, h4⟩ := impl_PutNum_loop (impl_PutNum_K0 (n : Int)) 4 n [] (by omega) h (by simp)
  have h5 : impl_PutNum_K0 (n : Int) (.exit 0) (impl_PutNum_x0_0 (d : Int) acc') = some ((numB n, ()), ((), ())) := by
    rw [impl_PutNum_e0_0, wrap8 (by omega) (by omega), ck_pos (by simp at h4; simp [big47]; omega), h2]; rfl
  rw [impl_PutNum_l0 m h1 ⟨_, h5⟩, h5]
theorem spec_PutNum_ok (x : Int) : spec_PutNum_F (x, ()) = some ((putN x, ()), ((), ())) := by
  rw [spec_PutNum_main, spec_l1In_ok]
  simp only [Option.bind_some]
  unfold putN
  by_cases h : 0 ≤ x ∧ x ≤ 2147483647
  · obtain ⟨n, rfl⟩ := Int.eq_ofNat_of_zero_le h.1
    rw [brk_neg (by simp; omega), if_pos h, spec_PutNum_in n (by omega)]
    simp
  · rw [brk_pos (by simp; omega), if_neg h]
theorem impl_PutNum_ok (x : Int) : impl_PutNum_F (x, ()) = some ((putN x, ()), ((), ())) := by
  rw [impl_PutNum_main]
  unfold putN
  by_cases h : 0 ≤ x ∧ x ≤ 2147483647
  · obtain ⟨n, rfl⟩ := Int.eq_ofNat_of_zero_le h.1
    rw [brk_neg (by simp), brk_neg (by simp; omega), if_pos h, impl_PutNum_in n (by omega)]
    simp
  · rw [if_neg h]
    by_cases h0 : x < 0
    · rw [brk_pos (by simpa using h0)]
    · rw [brk_neg (by simpa using h0), brk_pos (by simp; omega)]
theorem putN_len (x : Int) : (putN x).length ≤ 5 := by
  unfold putN
  split
  · exact numB_len 4 _ (by omega)
  · simp
def putNs (xs : List Int) : List Int := xs.flatMap putN
theorem putNs_len (xs : List Int) : (putNs xs).length ≤ xs.length * 5 := by
  induction xs with
  | nil => simp [putNs]
  | cons x xs ih =>
    have := putN_len x
    simp only [putNs, List.flatMap_cons, List.length_append, List.length_cons] at ih ⊢
    omega
theorem putNums_loop {R : Type} (K : Ex → AS → Option R) (xs : List Int) (hx : xs.length ≤ 2000000) : ∀ (n i : Nat) (acc : List Int), i + n = xs.length → acc.length ≤ i * 5 →
    iterG impl_putNums_t0 impl_putNums_B0 K (n + 1) ((xs, ((xs.length : Int), ((i : Int), ()))), (acc, ())) = K (.exit 0) (impl_putNums_x0_0 (acc ++ putNs (xs.drop i)))
  | 0, i, acc, h, ha => by
    rw [impl_putNums_r0, brk_neg (by simp; omega), List.drop_of_length_le (by omega)]
    simp [putNs]
  | n + 1, i, acc, h, ha => by
    have hi : i < xs.length := by omega
    have hp := putN_len xs[i]
    rw [impl_putNums_r0, brk_pos (by simp; omega), ck_pos (by simp; omega), rdD_get (List.getElem?_eq_getElem hi), impl_PutNum_ok]
    simp only [Option.bind_some]
    rw [ck_pos (by simp only [big47]; simp; omega), wrap64 (by omega) (by omega), show ((i : Int) + 1) = ((i + 1 : Nat) : Int) by simp]
    rw [putNums_loop K xs hx n (i + 1) _ (by omega) (by simp; omega), List.drop_eq_getElem_cons hi]
    simp only [putNs, List.flatMap_cons, List.append_assoc]
theorem impl_putNums_ok (xs : List Int) (hx : xs.length ≤ 2000000) : impl_putNums_F (xs, ()) = some ((putNs xs, ()), ((), ())) := by
  rw [impl_putNums_main]
  have h : iterG impl_putNums_t0 impl_putNums_B0 (impl_putNums_K0 xs) (xs.length + 1) ((xs, ((xs.length : Int), ((0 : Int), ()))), ([], ())) = _ := putNums_loop (impl_putNums_K0 xs) xs hx xs.length 0 [] (by omega) (by simp)
  rw [impl_putNums_l0 _ h ⟨_, impl_putNums_e0_0 _ _⟩, impl_putNums_e0_0]
  simp
theorem impl_putList_ok (xs : List Int) (hx : xs.length ≤ 2000000) : impl_putList_F (xs, ()) = some ((putNs ((xs.length : Int) :: xs), ()), ((), ())) := by
  rw [impl_putList_main, impl_putNums_ok _ (by simp), impl_putNums_ok _ hx]
  have h1 := putNs_len [(xs.length : Int)]
  have h2 := putNs_len xs
  simp only [Option.bind_some]
  rw [ck_pos (by simp only [big47, List.length_cons, List.length_nil] at *; simp; omega)]
  simp [putNs]
theorem l4Body_loop0 {R : Type} (K : Ex → AS → Option R) (b0 b1 b2 b3 : Int) (b4 xs : List Int) (hx : xs.length ≤ 2000000) : ∀ (n i : Nat) (acc : List Int), i + n = xs.length → acc.length ≤ i * 5 →
    iterG spec_l4Body_t0 spec_l4Body_B0 K (n + 1) (((i : Int), ()), ((b0, (b1, (b2, (b3, (b4, ()))))), (xs, (acc, ())))) = K (.exit 0) (spec_l4Body_x0_0 b0 b1 b2 b3 b4 (acc ++ putNs (xs.drop i)))
  | 0, i, acc, h, ha => by
    rw [spec_l4Body_r0, brk_neg (by simp; omega), List.drop_of_length_le (by omega)]
    simp [putNs]
  | n + 1, i, acc, h, ha => by
    have hi : i < xs.length := by omega
    have hp := putN_len xs[i]
    rw [spec_l4Body_r0, brk_pos (by simp; omega), ck_pos (by simp; omega), rdD_get (List.getElem?_eq_getElem hi), spec_PutNum_ok]
    simp only [Option.bind_some]
    rw [ck_pos (by simp only [big47]; simp; omega), wrap64 (by omega) (by omega), show ((i : Int) + 1) = ((i + 1 : Nat) : Int) by simp]
    rw [l4Body_loop0 K b0 b1 b2 b3 b4 xs hx n (i + 1) _ (by omega) (by simp; omega), List.drop_eq_getElem_cons hi]
    simp only [putNs, List.flatMap_cons, List.append_assoc]
theorem l4Body_loop2 {R : Type} (K : Ex → AS → Option R) (b0 b1 b2 b3 : Int) (b4 : List Int) (hx : b4.length ≤ 2000000) : ∀ (n i : Nat) (acc : List Int), i + n = b4.length → acc.length ≤ 100 + i * 5 →
    iterG spec_l4Body_t2 spec_l4Body_B2 K (n + 1) (((i : Int), ()), ((b0, (b1, (b2, (b3, (b4, ()))))), (acc, ()))) = K (.exit 2) (spec_l4Body_x2_0 (acc ++ putNs (b4.drop i)))
  | 0, i, acc, h, ha => by
    rw [spec_l4Body_r2, brk_neg (by simp; omega), List.drop_of_length_le (by omega)]
    simp [putNs]
  | n + 1, i, acc, h, ha => by
    have hi : i < b4.length := by omega
    have hp := putN_len b4[i]
    rw [spec_l4Body_r2, brk_pos (by simp; omega), ck_pos (by simp; omega), rdD_get (List.getElem?_eq_getElem hi), spec_PutNum_ok]
    simp only [Option.bind_some]
    rw [ck_pos (by simp only [big47]; simp; omega), wrap64 (by omega) (by omega), show ((i : Int) + 1) = ((i + 1 : Nat) : Int) by simp]
    rw [l4Body_loop2 K b0 b1 b2 b3 b4 hx n (i + 1) _ (by omega) (by simp; omega), List.drop_eq_getElem_cons hi]
    simp only [putNs, List.flatMap_cons, List.append_assoc]
/-- A message's body. -/
def bodyB (x : tMsg.D) : List Int := putNs [x.1, x.2.1, x.2.2.1, x.2.2.2.1, (x.2.2.2.2.1.length : Int)] ++ putNs x.2.2.2.2.1
theorem spec_l4Body_ok (x : tMsg.D) (hx : x.2.2.2.2.1.length ≤ 2000000) : spec_l4Body_F (x, ()) = some ((bodyB x, ()), ((), ())) := by
  rw [spec_l4Body_main]
  have h0 := l4Body_loop0 (spec_l4Body_K0 x) x.1 x.2.1 x.2.2.1 x.2.2.2.1 x.2.2.2.2.1 [x.1, x.2.1, x.2.2.1, x.2.2.2.1, (x.2.2.2.2.1.length : Int)] (by simp) 5 0 [] (by simp) (by simp)
  have hl := putNs_len [x.1, x.2.1, x.2.2.1, x.2.2.2.1, (x.2.2.2.2.1.length : Int)]
  have h2 := l4Body_loop2 (spec_l4Body_K2 x) x.1 x.2.1 x.2.2.1 x.2.2.2.1 x.2.2.2.2.1 hx x.2.2.2.2.1.length 0 (putNs [x.1, x.2.1, x.2.2.1, x.2.2.2.1, (x.2.2.2.2.1.length : Int)]) (by omega) (by simp at hl ⊢; omega)
  have e2 : spec_l4Body_K2 x (.exit 2) (spec_l4Body_x2_0 (bodyB x)) = some ((bodyB x, ()), ((), ())) := spec_l4Body_e2_0 _ _
  simp only [List.nil_append, List.drop_zero] at h0 h2
  have e0 := spec_l4Body_e0_0 x x.1 x.2.1 x.2.2.1 x.2.2.2.1 x.2.2.2.2.1 (putNs [x.1, x.2.1, x.2.2.1, x.2.2.2.1, (x.2.2.2.2.1.length : Int)])
  have h2' := spec_l4Body_l2 _ h2 ⟨_, e2⟩
  have e3 := (e0.trans h2').trans e2
  exact (spec_l4Body_l0 _ h0 ⟨_, e3⟩).trans e3
def sums : Int → Int → List Int → Int × Int
  | a, b, [] => (a, b)
  | a, b, x :: xs => sums ((a + x) % 65521) ((b + (a + x) % 65521) % 65521) xs
theorem tmod_step {x : Int} (h : 0 ≤ x) : x.tmod 65521 = x % 65521 := Int.tmod_eq_emod_of_nonneg h
theorem spec_SumOf_loop {R : Type} (K : Ex → AS → Option R) (xs : List Int) (hx : ∀ x ∈ xs, 0 ≤ x ∧ x ≤ 255) (hb : xs.length ≤ big47) : ∀ (n i : Nat) (a b : Int), i + n = xs.length → 0 ≤ a → a ≤ 65521 → 0 ≤ b → b ≤ 65521 →
    iterG spec_SumOf_t0 spec_SumOf_B0 K (n + 1) ((xs, (a, (b, ((i : Int), ())))), ()) = K (.exit 0) (spec_SumOf_x0_0 (sums a b (xs.drop i)).1 (sums a b (xs.drop i)).2)
  | 0, i, a, b, h, _, _, _, _ => by
    rw [spec_SumOf_r0, brk_neg (by simp; omega), List.drop_of_length_le (by omega)]
    simp [sums]
  | n + 1, i, a, b, h, ha, ha', hb1, hb2 => by
    have hi : i < xs.length := by omega
    have hr := hx xs[i] (List.getElem_mem hi)
    simp only [big47] at hb
    rw [spec_SumOf_r0, brk_pos (by simp; omega), ck_pos (by simp; omega), rdD_get (List.getElem?_eq_getElem hi)]
    rw [wrap64 (x := xs[i]) (by omega) (by omega), wrap64 (x := a + xs[i]) (by omega) (by omega), tmod_step (x := a + xs[i]) (by omega)]
    rw [wrap64 (x := b + (a + xs[i]) % 65521) (by omega) (by omega), tmod_step (x := b + (a + xs[i]) % 65521) (by omega), wrap64 (by omega) (by omega), show ((i : Int) + 1) = ((i + 1 : Nat) : Int) by simp]
    rw [spec_SumOf_loop K xs hx (by simp only [big47]; omega) n (i + 1) _ _ (by omega) (by omega) (by omega) (by omega) (by omega), List.drop_eq_getElem_cons hi]
    simp only [sums]
theorem impl_SumOf_loop {R : Type} (K : Ex → AS → Option R) (xs : List Int) (hx : ∀ x ∈ xs, 0 ≤ x ∧ x ≤ 255) (hb : xs.length ≤ big47) : ∀ (n i : Nat) (a b : Int), i + n = xs.length → 0 ≤ a → a ≤ 65521 → 0 ≤ b → b ≤ 65521 →
    iterG impl_SumOf_t0 impl_SumOf_B0 K (n + 1) ((a, (b, (xs, ((xs.length : Int), ((i : Int), ()))))), ()) = K (.exit 0) (impl_SumOf_x0_0 (sums a b (xs.drop i)).1 (sums a b (xs.drop i)).2)
  | 0, i, a, b, h, _, _, _, _ => by
    rw [impl_SumOf_r0, brk_neg (by simp; omega), List.drop_of_length_le (by omega)]
    simp [sums]
  | n + 1, i, a, b, h, ha, ha', hb1, hb2 => by
    have hi : i < xs.length := by omega
    have hr := hx xs[i] (List.getElem_mem hi)
    simp only [big47] at hb
    rw [impl_SumOf_r0, brk_pos (by simp; omega), ck_pos (by simp; omega), rdD_get (List.getElem?_eq_getElem hi)]
    rw [wrap64 (x := xs[i]) (by omega) (by omega), wrap64 (x := a + xs[i]) (by omega) (by omega), tmod_step (x := a + xs[i]) (by omega)]
    rw [wrap64 (x := b + (a + xs[i]) % 65521) (by omega) (by omega), tmod_step (x := b + (a + xs[i]) % 65521) (by omega), wrap64 (by omega) (by omega), show ((i : Int) + 1) = ((i + 1 : Nat) : Int) by simp]
    rw [impl_SumOf_loop K xs hx (by simp only [big47]; omega) n (i + 1) _ _ (by omega) (by omega) (by omega) (by omega) (by omega), List.drop_eq_getElem_cons hi]
    simp only [sums]
theorem sums_bound : ∀ (xs : List Int) (a b : Int), (∀ x ∈ xs, 0 ≤ x ∧ x ≤ 255) → 0 ≤ a → a ≤ 65521 → 0 ≤ b → b ≤ 65521 → 0 ≤ (sums a b xs).1 ∧ (sums a b xs).1 ≤ 65521 ∧ 0 ≤ (sums a b xs).2 ∧ (sums a b xs).2 ≤ 65521
  | [], a, b, _, h1, h2, h3, h4 => ⟨h1, h2, h3, h4⟩
  | x :: xs, a, b, h, h1, h2, h3, h4 => by
    have hr := h x (by simp)
    simp only [sums]
    exact sums_bound xs _ _ (fun y hy => h y (by simp [hy])) (by omega) (by omega) (by omega) (by omega)
def sumB (xs : List Int) : Int := (sums 1 0 xs).2 * 65536 + (sums 1 0 xs).1
theorem sumB_bound {xs : List Int} (h : ∀ x ∈ xs, 0 ≤ x ∧ x ≤ 255) : 0 ≤ sumB xs ∧ sumB xs ≤ 4294967296 := by
  have := sums_bound xs 1 0 h (by omega) (by omega) (by omega) (by omega)
  unfold sumB
  omega
theorem spec_SumOf_ok (xs : List Int) (hx : ∀ x ∈ xs, 0 ≤ x ∧ x ≤ 255) (hb : xs.length ≤ big47) : spec_SumOf_F (xs, ()) = some ((sumB xs, ()), ((), ())) := by
  have hs := sums_bound xs 1 0 hx (by omega) (by omega) (by omega) (by omega)
  rw [spec_SumOf_main]
  have h : iterG spec_SumOf_t0 spec_SumOf_B0 (spec_SumOf_K0 xs) (xs.length + 1) ((xs, ((1 : Int), ((0 : Int), ((0 : Int), ())))), ()) = _ := spec_SumOf_loop (spec_SumOf_K0 xs) xs hx hb xs.length 0 1 0 (by omega) (by omega) (by omega) (by omega) (by omega)
  rw [spec_SumOf_l0 _ h ⟨_, spec_SumOf_e0_0 _ _ _⟩, spec_SumOf_e0_0]
  simp only [List.drop_zero]
  rw [wrap64 (x := (sums 1 0 xs).2 * 65536) (by omega) (by omega), wrap64 (by omega) (by omega)]
  rfl
theorem impl_SumOf_ok (xs : List Int) (hx : ∀ x ∈ xs, 0 ≤ x ∧ x ≤ 255) (hb : xs.length ≤ big47) : impl_SumOf_F (xs, ()) = some ((sumB xs, ()), ((), ())) := by
  have hs := sums_bound xs 1 0 hx (by omega) (by omega) (by omega) (by omega)
  rw [impl_SumOf_main]
  have h : iterG impl_SumOf_t0 impl_SumOf_B0 (impl_SumOf_K0 xs) (xs.length + 1) (((1 : Int), ((0 : Int), (xs, ((xs.length : Int), ((0 : Int), ()))))), ()) = _ := impl_SumOf_loop (impl_SumOf_K0 xs) xs hx hb xs.length 0 1 0 (by omega) (by omega) (by omega) (by omega) (by omega)
  rw [impl_SumOf_l0 _ h ⟨_, impl_SumOf_e0_0 _ _ _⟩, impl_SumOf_e0_0]
  simp only [List.drop_zero]
  rw [wrap64 (x := (sums 1 0 xs).2 * 65536) (by omega) (by omega), wrap64 (by omega) (by omega)]
  rfl
theorem two_has {R : Type} (K : Ex → AS → Option R) (xs : List Int) (v : Int) (hb : xs.length ≤ big47) : ∀ (n i : Nat), i + n = xs.length →
    iterG spec_l2Has_t0 spec_l2Has_B0 K (n + 1) ((xs, (v, ((i : Int), ()))), ()) = if v ∈ xs.drop i then K .ret (spec_l2Has_x0_0 true) else K (.exit 0) spec_l2Has_x0_1
  | 0, i, h => by
    rw [spec_l2Has_r0, brk_neg (by simp; omega), List.drop_of_length_le (by omega)]
    simp
  | n + 1, i, h => by
    have hi : i < xs.length := by omega
    simp only [big47] at hb
    rw [spec_l2Has_r0, brk_pos (by simp; omega), ck_pos (by simp; omega), rdD_get (List.getElem?_eq_getElem hi), List.drop_eq_getElem_cons hi]
    by_cases he : xs[i] = v
    · rw [brk_pos (by simp [he]), if_pos (by rw [he]; exact List.mem_cons_self)]
    · rw [brk_neg (by simp [he]), wrap64 (by omega) (by omega), show ((i : Int) + 1) = ((i + 1 : Nat) : Int) by simp]
      rw [two_has K xs v (by simp only [big47]; omega) n (i + 1) (by omega)]
      have : (v ∈ xs[i] :: xs.drop (i + 1)) ↔ v ∈ xs.drop (i + 1) := by
        rw [List.mem_cons]; exact ⟨fun h => h.resolve_left fun e => he e.symm, .inr⟩
      by_cases hm : v ∈ xs.drop (i + 1)
      · rw [if_pos hm, if_pos (this.2 hm)]
      · rw [if_neg hm, if_neg fun h => hm (this.1 h)]
theorem brk_if {R : Type} (p : Prop) [Decidable p] (a b : Option R) : brk (decide p) a b = if p then a else b := by by_cases h : p <;> simp [h, brk]
theorem n0 : ((0 : Nat) : Int) = 0 := rfl
theorem big47_eq : big47 = 140737488355328 := rfl
theorem spec_l2Has_ok (xs : List Int) (v : Int) (hb : xs.length ≤ big47) : spec_l2Has_F (xs, (v, ())) = some ((decide (v ∈ xs), ()), ((), ((), ()))) := by
  rw [spec_l2Has_main]
  have h := two_has (spec_l2Has_K0 xs v) xs v hb xs.length 0 (by omega)
  rw [List.drop_zero, n0] at h
  by_cases hm : v ∈ xs
  · rw [if_pos hm] at h
    rw [spec_l2Has_l0 _ h ⟨_, spec_l2Has_e0_0 _ _ _⟩, spec_l2Has_e0_0, decide_eq_true hm]
  · rw [if_neg hm] at h
    rw [spec_l2Has_l0 _ h ⟨_, spec_l2Has_e0_1 _ _⟩, spec_l2Has_e0_1, decide_eq_false hm]
theorem Index_loop {R : Type} (K : Ex → AS → Option R) (xs : List Int) (v : Int) (hb : xs.length ≤ big47) : ∀ (n i : Nat), i + n = xs.length →
    (v ∈ xs.drop i ∧ ∃ j : Nat, iterG slices_Index_int_t0 slices_Index_int_B0 K (n + 1) ((xs, (v, ((xs.length : Int), ((i : Int), ())))), ()) = K .ret (slices_Index_int_x0_0 (j : Int))) ∨
    (v ∉ xs.drop i ∧ iterG slices_Index_int_t0 slices_Index_int_B0 K (n + 1) ((xs, (v, ((xs.length : Int), ((i : Int), ())))), ()) = K (.exit 0) slices_Index_int_x0_1)
  | 0, i, h => by
    right
    rw [slices_Index_int_r0, brk_neg (by simp; omega), List.drop_of_length_le (by omega)]
    simp
  | n + 1, i, h => by
    have hi : i < xs.length := by omega
    simp only [big47] at hb
    rw [slices_Index_int_r0, brk_pos (by simp; omega), ck_pos (by simp; omega), rdD_get (List.getElem?_eq_getElem hi), List.drop_eq_getElem_cons hi]
    by_cases he : v = xs[i]
    · left
      rw [brk_pos (by simp [he])]
      exact ⟨by rw [← he]; exact List.mem_cons_self, i, rfl⟩
    · rw [brk_neg (by simp [he]), wrap64 (by omega) (by omega), show ((i : Int) + 1) = ((i + 1 : Nat) : Int) by simp]
      rcases Index_loop K xs v (by simp only [big47]; omega) n (i + 1) (by omega) with ⟨h1, j, h2⟩ | ⟨h1, h2⟩
      · exact .inl ⟨List.mem_cons_of_mem _ h1, j, h2⟩
      · exact .inr ⟨fun hm => (List.mem_cons.1 hm).elim he h1, h2⟩
theorem slices_Index_int_ok (xs : List Int) (v : Int) (hb : xs.length ≤ big47) : ∃ r : Int, slices_Index_int_F (xs, (v, ())) = some ((r, ()), ((), ((), ()))) ∧ (0 ≤ r ↔ v ∈ xs) := by
  rw [slices_Index_int_main]
  rcases Index_loop (slices_Index_int_K0 xs v) xs v hb xs.length 0 (by omega) with ⟨h1, j, h2⟩ | ⟨h1, h2⟩
  · rw [n0] at h2
    exact ⟨j, by rw [slices_Index_int_l0 _ h2 ⟨_, slices_Index_int_e0_0 _ _ _⟩, slices_Index_int_e0_0], by simp at h1; simp [h1]⟩
  · rw [n0] at h2
    exact ⟨-1, by rw [slices_Index_int_l0 _ h2 ⟨_, slices_Index_int_e0_1 _ _⟩, slices_Index_int_e0_1], by simp at h1; simp [h1]⟩
theorem slices_Contains_int_ok (xs : List Int) (v : Int) (hb : xs.length ≤ big47) : slices_Contains_int_F (xs, (v, ())) = some ((decide (v ∈ xs), ()), ((), ((), ()))) := by
  obtain ⟨r, h1, h2⟩ := slices_Index_int_ok xs v hb
  rw [slices_Contains_int_main, h1]
  simp only [Option.bind_some, h2]
theorem impl_from_ok (x lo hi : Int) : impl_from_F (x, (lo, (hi, ()))) = some ((decide (lo ≤ x ∧ x ≤ hi), ()), ((), ((), ((), ())))) := by
  rw [impl_from_main, brk_if]
  by_cases h : lo ≤ x <;> simp [h]
theorem impl_from_z (z : PsD [.ro tI, .ro tI, .ro tI]) : impl_from_F z = some ((decide (z.2.1 ≤ z.1 ∧ z.1 ≤ z.2.2.1), ()), ((), ((), ((), ())))) := impl_from_ok z.1 z.2.1 z.2.2.1
theorem impl_isCell_z (z : PsD [.ro tI]) : impl_isCell_F z = some ((decide (0 ≤ z.1 ∧ z.1 ≤ 7), ()), ((), ())) := by rw [show z = (z.1, ()) from rfl, impl_isCell_main, impl_from_ok]; rfl
theorem impl_isWrite_z (z : PsD [.ro tI]) : impl_isWrite_F z = some ((decide (1 ≤ z.1 ∧ z.1 ≤ 200), ()), ((), ())) := by rw [show z = (z.1, ()) from rfl, impl_isWrite_main, impl_from_ok]; rfl
theorem impl_isNode_z (z : PsD [.ro tI]) : impl_isNode_F z = some ((decide (0 ≤ z.1 ∧ z.1 ≤ 2), ()), ((), ())) := by rw [show z = (z.1, ()) from rfl, impl_isNode_main, impl_from_ok]; rfl
theorem spec_l1In_ok' (x lo hi : Int) : spec_l1In_F (x, (lo, (hi, ()))) = some ((decide (lo ≤ x ∧ x ≤ hi), ()), ((), ((), ((), ())))) := by
  rw [spec_l1In_ok]
  by_cases h : lo ≤ x <;> simp [h]
theorem spec_l1In_z (z : PsD [.ro tI, .ro tI, .ro tI]) : spec_l1In_F z = some ((decide (z.2.1 ≤ z.1 ∧ z.1 ≤ z.2.2.1), ()), ((), ((), ((), ())))) := spec_l1In_ok' z.1 z.2.1 z.2.2.1
theorem spec_l1Bit_z (z : PsD [.ro tB]) : spec_l1Bit_F z = some ((if z.1 = true then 1 else 0, ()), ((), ())) := by rw [show z = (z.1, ()) from rfl, spec_l1Bit_main]; cases z.1 <;> rfl
def gensAll : List Int → List Int → Bool
  | _, [] => true
  | pre, x :: xs => decide (1 ≤ x ∧ x ≤ 100000) && !decide (x ∈ pre) && gensAll (pre ++ [x]) xs
def gensB (g : List Int) : Bool := gensAll [] g && decide (g.length ≤ 12)
theorem take_next {α : Type} {xs : List α} {i : Nat} (hi : i < xs.length) : xs.take (i + 1) = xs.take i ++ [xs[i]] := List.take_succ_eq_append_getElem hi
theorem spec_GensOk_loop {R : Type} (K : Ex → AS → Option R) (xs : List Int) (hb : xs.length ≤ big47) : ∀ (n i : Nat), i + n = xs.length →
    iterG spec_GensOk_t0 spec_GensOk_B0 K (n + 1) ((xs, ((i : Int), ())), ()) = brk (gensAll (xs.take i) (xs.drop i)) (K (.exit 0) (spec_GensOk_x0_1 xs)) (K .ret (spec_GensOk_x0_0 xs false))
  | 0, i, h => by
    rw [spec_GensOk_r0, brk_neg (by simp; omega), List.drop_of_length_le (by omega), brk_pos (by simp [gensAll])]
  | n + 1, i, h => by
    have hi : i < xs.length := by omega
    have hb' := hb
    simp only [big47] at hb
    rw [spec_GensOk_r0, brk_pos (by simp; omega), ck_pos (by simp; omega), rdD_get (List.getElem?_eq_getElem hi), spec_l1In_ok', List.drop_eq_getElem_cons hi]
    simp only [Option.bind_some, gensAll]
    by_cases h1 : 1 ≤ xs[i] ∧ xs[i] ≤ 100000
    · rw [decide_eq_true h1, Bool.not_true, brk_false, ck_pos (by simp; omega), ck_pos (by simp; omega), spec_l2Has_ok _ _ (by simp; omega)]
      simp only [Option.bind_some, Int.toNat_zero, List.drop_zero, Int.toNat_natCast, Bool.true_and]
      by_cases h2 : xs[i] ∈ xs.take i
      · rw [decide_eq_true h2]; simp
      · rw [decide_eq_false h2, brk_false, wrap64 (by omega) (by omega), show ((i : Int) + 1) = ((i + 1 : Nat) : Int) by simp, spec_GensOk_loop K xs hb' n (i + 1) (by omega), take_next hi]
        simp
    · rw [decide_eq_false h1]; simp
theorem spec_GensOk_ok (xs : List Int) (hb : xs.length ≤ big47) : spec_GensOk_F (xs, ()) = some ((gensB xs, ()), ((), ())) := by
  rw [spec_GensOk_main]
  have h : iterG spec_GensOk_t0 spec_GensOk_B0 (spec_GensOk_K0 xs) (xs.length + 1) ((xs, ((0 : Int), ())), ()) = _ := spec_GensOk_loop (spec_GensOk_K0 xs) xs hb xs.length 0 (by omega)
  simp only [List.take_zero, List.drop_zero] at h
  unfold gensB
  by_cases hg : gensAll [] xs = true
  · rw [brk_pos hg] at h
    rw [spec_GensOk_l0 _ h ⟨_, spec_GensOk_e0_1 _ _⟩, spec_GensOk_e0_1, hg]
    simp
    omega
  · rw [brk_neg (by simpa using hg)] at h
    rw [spec_GensOk_l0 _ h ⟨_, spec_GensOk_e0_0 _ _ _⟩, spec_GensOk_e0_0]
    simp [hg]
theorem impl_GensOk_loop {R : Type} (K : Ex → AS → Option R) (xs : List Int) (hb : xs.length ≤ big47) : ∀ (n i : Nat), i + n = xs.length →
    iterG impl_GensOk_t0 impl_GensOk_B0 K (n + 1) ((xs, (xs, ((xs.length : Int), ((i : Int), ())))), ()) = brk (gensAll (xs.take i) (xs.drop i)) (K (.exit 0) (impl_GensOk_x0_1 xs)) (K .ret (impl_GensOk_x0_0 xs false))
  | 0, i, h => by
    rw [impl_GensOk_r0, brk_neg (by simp; omega), List.drop_of_length_le (by omega), brk_pos (by simp [gensAll])]
  | n + 1, i, h => by
    have hi : i < xs.length := by omega
    have hb' := hb
    simp only [big47] at hb
    rw [impl_GensOk_r0, brk_pos (by simp; omega), ck_pos (by simp; omega), rdD_get (List.getElem?_eq_getElem hi), impl_from_ok, List.drop_eq_getElem_cons hi]
    simp only [Option.bind_some, gensAll]
    by_cases h1 : 1 ≤ xs[i] ∧ xs[i] ≤ 100000
    · rw [decide_eq_true h1, Bool.not_true, brk_false, ck_pos (by simp; omega), slices_Contains_int_ok _ _ (by simp; omega)]
      simp only [Option.bind_some, Int.toNat_zero, List.drop_zero, Int.toNat_natCast, Bool.true_and]
      by_cases h2 : xs[i] ∈ xs.take i
      · rw [decide_eq_true h2]; simp
      · rw [decide_eq_false h2, brk_false, wrap64 (by omega) (by omega), show ((i : Int) + 1) = ((i + 1 : Nat) : Int) by simp, impl_GensOk_loop K xs hb' n (i + 1) (by omega), take_next hi]
        simp
    · rw [decide_eq_false h1]; simp
theorem impl_GensOk_ok (xs : List Int) (hb : xs.length ≤ big47) : impl_GensOk_F (xs, ()) = some ((gensB xs, ()), ((), ())) := by
  rw [impl_GensOk_main]
  have h : iterG impl_GensOk_t0 impl_GensOk_B0 (impl_GensOk_K0 xs) (xs.length + 1) ((xs, (xs, ((xs.length : Int), ((0 : Int), ())))), ()) = _ := impl_GensOk_loop (impl_GensOk_K0 xs) xs hb xs.length 0 (by omega)
  simp only [List.take_zero, List.drop_zero] at h
  unfold gensB
  by_cases hg : gensAll [] xs = true
  · rw [brk_pos hg] at h
    rw [impl_GensOk_l0 _ h ⟨_, impl_GensOk_e0_1 _ _⟩, impl_GensOk_e0_1, hg]
    simp
    omega
  · rw [brk_neg (by simpa using hg)] at h
    rw [impl_GensOk_l0 _ h ⟨_, impl_GensOk_e0_0 _ _ _⟩, impl_GensOk_e0_0]
    simp [hg]
/-- Is a message right? -/
def msgOkB (k c v w : Int) (g : List Int) : Bool :=
  if k = 5 then gensB g && decide (0 ≤ v ∧ v ≤ 200) && decide (c = 0) && decide (w = 0)
  else if k = 3 then decide (0 ≤ c ∧ c ≤ 7) && decide (1 ≤ v ∧ v ≤ 200) && decide (0 ≤ w ∧ w ≤ 2) && decide (g.length = 0)
  else if k = 1 then decide (0 ≤ c ∧ c ≤ 7) && decide (1 ≤ v ∧ v ≤ 200) && decide (w = 0) && decide (g.length = 0)
  else if k = 2 ∨ k = 4 then decide (0 ≤ c ∧ c ≤ 7) && decide (0 ≤ v ∧ v ≤ 200) && decide (w = 0) && decide (g.length = 0)
  else false
theorem impl_MsgOk_ok (k c v w : Int) (g : List Int) (hb : g.length ≤ big47) : impl_MsgOk_F ((k, (c, (v, (w, (g, ()))))), ()) = some ((msgOkB k c v w g, ()), ((), ())) := by
  rw [impl_MsgOk_main]
  simp only [impl_GensOk_ok g hb, impl_from_z, impl_isCell_z, impl_isWrite_z, impl_isNode_z, Option.bind_some]
  simp only [brk_if]
  unfold msgOkB
  by_cases h5 : k = 5
  · subst h5
    simp only [if_true]
    cases gensB g <;> by_cases h1 : 0 ≤ v ∧ v ≤ 200 <;> by_cases h2 : c = 0 <;> simp [h1, h2, brk]
  · simp only [if_neg h5]
    by_cases h3 : k = 3
    · simp only [if_pos h3]
      by_cases h1 : 0 ≤ c ∧ c ≤ 7 <;> by_cases h2 : 1 ≤ v ∧ v ≤ 200 <;> by_cases h4 : 0 ≤ w ∧ w ≤ 2 <;> simp [h1, h2, h4]
    · simp only [if_neg h3]
      by_cases h1 : k = 1
      · simp only [if_pos h1]
        by_cases h1 : 0 ≤ c ∧ c ≤ 7 <;> by_cases h2 : 1 ≤ v ∧ v ≤ 200 <;> by_cases h4 : w = 0 <;> simp [h1, h2, h4]
      · simp only [if_neg h1]
        by_cases h2 : k = 2
        · simp only [h2, true_or, if_true]
          by_cases h1 : 0 ≤ c ∧ c ≤ 7 <;> by_cases h2 : 0 ≤ v ∧ v ≤ 200 <;> by_cases h4 : w = 0 <;> simp [h1, h2, h4]
        · simp only [h2, false_or]
          by_cases h4 : k = 4
          · simp only [if_pos h4]
            by_cases h1 : 0 ≤ c ∧ c ≤ 7 <;> by_cases h2 : 0 ≤ v ∧ v ≤ 200 <;> by_cases h4 : w = 0 <;> simp [h1, h2, h4]
          · simp only [h4, if_false]
theorem spec_MsgOk_ok (k c v w : Int) (g : List Int) (hb : g.length ≤ big47) : spec_MsgOk_F ((k, (c, (v, (w, (g, ()))))), ()) = some ((msgOkB k c v w g, ()), ((), ())) := by
  rw [spec_MsgOk_main]
  simp only [spec_GensOk_ok g hb, spec_l1In_z, spec_l1Bit_z, Option.bind_some]
  simp only [brk_if]
  unfold msgOkB
  by_cases h5 : k = 5
  · subst h5
    simp only [if_true]
    cases gensB g <;> by_cases h1 : 0 ≤ v ∧ v ≤ 200 <;> by_cases h2 : c = 0 <;> simp [h1, h2, brk]
  · simp only [if_neg h5]
    have e0 : IntKind.i64.wrap 0 = 0 := by decide
    have e1 : IntKind.i64.wrap 1 = 1 := by decide
    by_cases h1 : k = 1
    · subst h1
      by_cases h1 : 0 ≤ c ∧ c ≤ 7 <;> by_cases h2 : 1 ≤ v ∧ v ≤ 200 <;> by_cases h4 : w = 0 <;> by_cases h5 : g = [] <;> simp [h1, h2, h4, h5, e0, e1]
    · by_cases h2 : k = 2
      · subst h2
        by_cases h1 : 0 ≤ c ∧ c ≤ 7 <;> by_cases h2 : 0 ≤ v ∧ v ≤ 200 <;> by_cases h4 : w = 0 <;> by_cases h5 : g = [] <;> simp [h1, h2, h4, h5, e0, e1]
      · by_cases h3 : k = 3
        · subst h3
          by_cases h1 : 0 ≤ c ∧ c ≤ 7 <;> by_cases h2 : 1 ≤ v ∧ v ≤ 200 <;> by_cases h4 : 0 ≤ w ∧ w ≤ 2 <;> by_cases h5 : g = [] <;> simp [h1, h2, h4, h5, e0, e1] <;> omega
        · by_cases h4 : k = 4
          · subst h4
            by_cases h1 : 0 ≤ c ∧ c ≤ 7 <;> by_cases h2 : 0 ≤ v ∧ v ≤ 200 <;> by_cases h4 : w = 0 <;> by_cases h5 : g = [] <;> simp [h1, h2, h4, h5, e0, e1]
          · simp [h1, h2, h3, h4]
theorem wrap8m (x : Int) : IntKind.u8.wrap x = x % 256 := by
  simp only [IntKind.wrap, IntKind.signed, IntKind.bits]
  simp
theorem and_nat {x y : Nat} (hx : x < 9223372036854775808) (hy : y < 9223372036854775808) : andN .i64 (x : Int) (y : Int) = ((x &&& y : Nat) : Int) := by
  unfold andN
  have e : (BitVec.ofInt IntKind.i64.bits (x : Int) &&& BitVec.ofInt IntKind.i64.bits (y : Int)).toNat = x &&& y := by
    rw [BitVec.ofInt_natCast, BitVec.ofInt_natCast, BitVec.toNat_and, BitVec.toNat_ofNat, BitVec.toNat_ofNat]
    simp only [IntKind.bits]
    rw [Nat.mod_eq_of_lt (by omega), Nat.mod_eq_of_lt (by omega)]
  rw [e]
  have : x &&& y ≤ x := Nat.and_le_left
  exact wrap64 (by omega) (by omega)
theorem and255 {x : Int} (h0 : 0 ≤ x) (h1 : x < 9223372036854775808) : andN .i64 x 255 = x % 256 := by
  obtain ⟨n, rfl⟩ := Int.eq_ofNat_of_zero_le h0
  rw [show (255 : Int) = ((255 : Nat) : Int) from rfl, and_nat (by omega) (by omega), show (255 : Nat) = 2 ^ 8 - 1 from rfl, Nat.and_two_pow_sub_one_eq_mod]
  simp
theorem shr8 (x : Int) : shrN .i64 x 8 = x / 256 := by
  unfold shrN; rw [Int.fdiv_eq_ediv_of_nonneg _ (by decide)]; rfl
theorem shr16 (x : Int) : shrN .i64 x 16 = x / 65536 := by
  unfold shrN; rw [Int.fdiv_eq_ediv_of_nonneg _ (by decide)]; rfl
theorem shr24 (x : Int) : shrN .i64 x 24 = x / 16777216 := by
  unfold shrN; rw [Int.fdiv_eq_ediv_of_nonneg _ (by decide)]; rfl
def fourB (x : Int) : List Int := [x % 256, x / 256 % 256, x / 65536 % 256, x / 16777216 % 256]
theorem impl_four_ok (x : Int) : impl_four_F (x, ()) = some ((fourB x, ()), ((), ())) := by
  rw [impl_four_main, shr8, shr16, shr24, wrap8m, wrap8m, wrap8m, wrap8m]; rfl
theorem spec_l4Sum_ok (x : Int) (h0 : 0 ≤ x) (h1 : x ≤ 4611686018427387904) : spec_l4Sum_F (x, ()) = some ((fourB x, ()), ((), ())) := by
  rw [spec_l4Sum_main, shr8, shr16, shr24, and255 h0 (by omega), and255 (by omega) (by omega), and255 (by omega) (by omega), and255 (by omega) (by omega), wrap8m, wrap8m, wrap8m, wrap8m]
  simp only [Int.emod_emod_of_dvd _ (Int.dvd_refl 256)]
  rfl
theorem numB_range : ∀ (k n : Nat), n < 128 ^ (k + 1) → ∀ b ∈ numB n, 0 ≤ b ∧ b ≤ 255
  | 0, n, h, b, hb => by rw [numB_small (by omega)] at hb; simp at hb; omega
  | k + 1, n, h, b, hb => by
    by_cases hn : n ≤ 127
    · rw [numB_small hn] at hb; simp at hb; omega
    · rw [numB_big hn] at hb
      rcases List.mem_cons.1 hb with rfl | hb
      · omega
      · exact numB_range k (n / 128) (by rw [Nat.div_lt_iff_lt_mul (by omega)]; rw [Nat.pow_succ] at h; exact h) b hb
theorem putN_range (x : Int) : ∀ b ∈ putN x, 0 ≤ b ∧ b ≤ 255 := by
  unfold putN
  split
  · exact numB_range 4 _ (by omega)
  · simp
theorem putNs_range (xs : List Int) : ∀ b ∈ putNs xs, 0 ≤ b ∧ b ≤ 255 := fun b hb => by
  obtain ⟨x, _, hb⟩ := List.mem_flatMap.1 hb
  exact putN_range x b hb
theorem bodyB_range (x : tMsg.D) : ∀ b ∈ bodyB x, 0 ≤ b ∧ b ≤ 255 := fun b hb => by
  rcases List.mem_append.1 hb with hb | hb <;> exact putNs_range _ b hb
theorem bodyB_len (x : tMsg.D) : (bodyB x).length ≤ 25 + x.2.2.2.2.1.length * 5 := by
  have h1 := putNs_len [x.1, x.2.1, x.2.2.1, x.2.2.2.1, (x.2.2.2.2.1.length : Int)]
  have h2 := putNs_len x.2.2.2.2.1
  simp only [bodyB, List.length_append]
  simp only [List.length_cons, List.length_nil] at h1
  omega
/-- A message's bytes. -/
def msgB (x : tMsg.D) : List Int := if msgOkB x.1 x.2.1 x.2.2.1 x.2.2.2.1 x.2.2.2.2.1 = true then putN ((bodyB x).length : Int) ++ bodyB x ++ fourB (sumB (bodyB x)) else []
theorem msgB_len (x : tMsg.D) : (msgB x).length ≤ 34 + x.2.2.2.2.1.length * 5 := by
  unfold msgB
  split
  · have h1 := putN_len ((bodyB x).length : Int)
    have h2 := bodyB_len x
    simp only [List.length_append, fourB, List.length_cons, List.length_nil]
    omega
  · simp
theorem spec_MsgBytes_ok (x : tMsg.D) (hx : x.2.2.2.2.1.length ≤ 1500000) : spec_MsgBytes_F (x, ()) = some ((msgB x, ()), ((), ())) := by
  obtain ⟨k, c, v, w, g, u⟩ := x
  cases u
  simp only at hx
  have hl := bodyB_len (k, c, v, w, g, ())
  have hr := sumB_bound (bodyB_range (k, c, v, w, g, ()))
  simp only at hl
  rw [spec_MsgBytes_main]
  simp only
  rw [spec_MsgOk_ok k c v w g (by simp only [big47]; omega)]
  simp only [Option.bind_some]
  unfold msgB
  by_cases h : msgOkB k c v w g = true
  · have hp := putN_len ((bodyB (k, c, v, w, g, ())).length : Int)
    rw [h, Bool.not_true, brk_false, if_pos rfl, spec_l4Body_ok (k, c, v, w, g, ()) (by simp only; omega)]
    simp only [Option.bind_some]
    rw [spec_PutNum_ok]
    simp only [Option.bind_some]
    rw [ck_pos (decide_eq_true (by rw [big47_eq]; omega)), spec_SumOf_ok _ (bodyB_range _) (by simp only [big47]; omega)]
    simp only [Option.bind_some]
    rw [spec_l4Sum_ok _ hr.1 (by omega)]
    simp only [Option.bind_some]
    rw [ck_pos (decide_eq_true (by rw [big47_eq]; simp only [List.length_append, fourB, List.length_cons, List.length_nil]; omega))]
  · rw [if_neg h, brk_pos (by simpa using h)]
theorem impl_MsgBytes_ok (x : tMsg.D) (hx : x.2.2.2.2.1.length ≤ 1500000) : impl_MsgBytes_F (x, ()) = some ((msgB x, ()), ((), ())) := by
  obtain ⟨k, c, v, w, g, u⟩ := x
  cases u
  simp only at hx
  have hl := bodyB_len (k, c, v, w, g, ())
  have hr := sumB_bound (bodyB_range (k, c, v, w, g, ()))
  simp only at hl
  rw [impl_MsgBytes_main]
  simp only
  rw [impl_MsgOk_ok k c v w g (by simp only [big47]; omega)]
  simp only [Option.bind_some]
  unfold msgB
  by_cases h : msgOkB k c v w g = true
  · have hp := putN_len ((bodyB (k, c, v, w, g, ())).length : Int)
    have hb : putNs [k, c, v, w] ++ putNs ((g.length : Int) :: g) = bodyB (k, c, v, w, g, ()) := by simp [bodyB, putNs]
    rw [h, Bool.not_true, brk_false, if_pos rfl, impl_putNums_ok _ (by simp), impl_putList_ok _ (by omega)]
    simp only [Option.bind_some]
    have hbl := congrArg List.length hb
    rw [List.length_append] at hbl
    rw [ck_pos (decide_eq_true (by rw [big47_eq]; omega)), hb, impl_PutNum_ok]
    simp only [Option.bind_some]
    rw [ck_pos (decide_eq_true (by rw [big47_eq]; omega)), impl_SumOf_ok _ (bodyB_range _) (by simp only [big47]; omega)]
    simp only [Option.bind_some]
    rw [impl_four_ok]
    simp only [Option.bind_some]
    rw [ck_pos (decide_eq_true (by rw [big47_eq]; simp only [List.length_append, fourB, List.length_cons, List.length_nil]; omega))]
  · rw [if_neg h, brk_pos (by simpa using h)]
/-- A loop that counts up: a round ends it, or goes on. -/
theorem for_loop {R σ : Type} {G : Nat → Nat → σ → Option R} (N : Nat) (Inv : Nat → σ → Prop) (Post : Option R → Prop)
    (hs : ∀ i s, i < N → Inv i s → (∃ v, Post v ∧ ∀ n, G (n + 1) i s = v) ∨ (∃ s', Inv (i + 1) s' ∧ ∀ n, G (n + 1) i s = G n (i + 1) s'))
    (hf : ∀ s, Inv N s → ∃ v, Post v ∧ ∀ n, G (n + 1) N s = v) (s : σ) (h : Inv 0 s) : ∃ n v, G n 0 s = v ∧ Post v := by
  have key : ∀ (k i : Nat) (s : σ), i + k = N → Inv i s → ∃ n v, G n i s = v ∧ Post v := by
    intro k
    induction k with
    | zero =>
      intro i s hi h
      have : i = N := by omega
      subst this
      obtain ⟨v, hv, hg⟩ := hf s h
      exact ⟨1, v, hg 0, hv⟩
    | succ k ih =>
      intro i s hi h
      rcases hs i s (by omega) h with ⟨v, hv, hg⟩ | ⟨s', h', hg⟩
      · exact ⟨1, v, hg 0, hv⟩
      · obtain ⟨n, v, hn, hv⟩ := ih (i + 1) s' (by omega) h'
        exact ⟨n + 1, v, (hg n).trans hn, hv⟩
  exact key N 0 s (by omega) h
theorem step_nat (i : Nat) (h : i ≤ 4611686018427387904) : IntKind.i64.wrap ((i : Int) + 1) = ((i + 1 : Nat) : Int) := by
  rw [wrap64 (by omega) (by omega)]; rfl
theorem rdD_nat {t : Ty} (xs : List t.D) (i : Nat) : rdD t xs (i : Int) = xs.getD i t.zero := rfl
theorem getD_at {α : Type} {xs : List α} {i : Nat} {d : α} (h : i < xs.length) : xs.getD i d = xs[i] := by simp [h]
theorem ck_idx {R : Type} {i n : Nat} (h : i < n) (a : Option R) : ck (decide ((0 : Int) ≤ (i : Int)) && decide ((i : Int) < (n : Int))) a = a := ck_pos (by simp; omega) a
theorem brk_lt {R : Type} {i n : Nat} (h : i < n) (a b : Option R) : brk (decide ((i : Int) < (n : Int))) a b = a := brk_pos (by simp; omega) a b
theorem brk_nlt {R : Type} {i n : Nat} (h : ¬ i < n) (a b : Option R) : brk (decide ((i : Int) < (n : Int))) a b = b := brk_neg (by simp; omega) a b
theorem brk_nneg {R : Type} {x : Int} (h : 0 ≤ x) (a b : Option R) : brk (decide (x < 0)) a b = b := brk_neg (decide_eq_false (Int.not_lt.2 h)) a b
/-- The number that such bytes begin with, and how many they are (j: those that were read). -/
def gnumF : Nat → List Int → Int → Int → Nat → Option (Int × Nat)
  | 0, _, _, _, _ => none
  | d + 1, [], _, _, _ => none
  | d + 1, x :: l, n, u, j => if x ≥ 128 then gnumF d l (n + x % 128 * u) (u * 128) (j + 1) else if n + x % 128 * u > 2147483647 then none else if x = 0 ∧ j > 0 then none else some (n + x % 128 * u, j + 1)
/-- GetNum of what is left. -/
def gnum (l : List Int) : Option (Int × Nat) := gnumF 5 l 0 1 0
def gtri (at_ : Int) : Option (Int × Nat) → Int × Int × Bool
  | none => (0, 0, false)
  | some (n, j) => (n, at_ + j, true)
/-- GetNum. -/
def getP (b : List Int) (at_ : Int) : Int × Int × Bool := if 0 ≤ at_ then gtri at_ (gnum (b.drop at_.toNat)) else (0, 0, false)
/-- A number's bytes (fuel first). -/
def pnumF : Nat → Int → List Int
  | 0, _ => []
  | d + 1, n => if n > 127 then (n % 128 + 128) :: pnumF d (n / 128) else [n]
/-- PutNum. -/
def pnum (n : Int) : List Int := if 0 ≤ n ∧ n ≤ 2147483647 then pnumF 5 n else []
theorem num_step (acc u n : Int) : acc + n % 128 * u + n / 128 * (u * 128) = acc + n * u := by
  have h : n * u = (128 * (n / 128) + n % 128) * u := by congr 1; omega
  rw [h, Int.add_mul, Int.mul_comm u 128, ← Int.mul_assoc, Int.mul_comm (n / 128) 128]
  omega
theorem gnumF_pnumF (d : Nat) : ∀ (n acc u : Int) (j : Nat) (rest : List Int), 0 ≤ n → n < 128 ^ (d + 1) → (0 < n ∨ j = 0) → acc + n * u ≤ 2147483647 → gnumF (d + 1) (pnumF (d + 1) n ++ rest) acc u j = some (acc + n * u, j + (pnumF (d + 1) n).length) := by
  induction d with
  | zero =>
    intro n acc u j rest h0 h1 h2 h3
    have h4 : n < 128 := by simpa using h1
    have e : pnumF 1 n = [n] := by rw [pnumF, if_neg (by omega)]
    have e2 : n % 128 = n := by omega
    rw [e, List.singleton_append, gnumF, if_neg (by omega), e2, if_neg (by omega), if_neg (by omega)]
    rfl
  | succ d ih =>
    intro n acc u j rest h0 h1 h2 h3
    by_cases h : n > 127
    · have e : pnumF (d + 1 + 1) n = (n % 128 + 128) :: pnumF (d + 1) (n / 128) := by rw [pnumF, if_pos h]
      have hs := num_step acc u n
      have hm : (n % 128 + 128) % 128 = n % 128 := by omega
      have hd : n / 128 < 128 ^ (d + 1) := by
        rw [Int.pow_succ] at h1
        exact Int.ediv_lt_of_lt_mul (by decide) h1
      rw [e, List.cons_append, gnumF, if_pos (by omega), hm, ih (n / 128) _ _ (j + 1) rest (by omega) hd (.inl (by omega)) (by rw [hs]; exact h3), hs]
      simp only [List.length_cons]
      congr 2
      omega
    · have e : pnumF (d + 1 + 1) n = [n] := by rw [pnumF, if_neg h]
      have e2 : n % 128 = n := by omega
      rw [e, List.singleton_append, gnumF, if_neg (by omega), e2, if_neg (by omega), if_neg (by omega)]
      rfl
/-- A number's bytes are read as the number, whatever comes behind. -/
theorem gnum_pnum (n : Int) (rest : List Int) (h0 : 0 ≤ n) (h1 : n ≤ 2147483647) : gnum (pnum n ++ rest) = some (n, (pnum n).length) := by
  unfold gnum pnum
  rw [if_pos ⟨h0, h1⟩]
  have := gnumF_pnumF 4 n 0 1 0 rest h0 (Int.lt_of_le_of_lt h1 (by decide)) (.inr rfl) (by omega)
  rw [this]
  simp
theorem gnumF_take (d : Nat) : ∀ (l : List Int) (acc u : Int) (j : Nat) (n : Int) (m : Nat), (∀ z ∈ l, 0 ≤ z ∧ z ≤ 255) → gnumF d l acc u j = some (n, m) → ∃ q, 0 ≤ q ∧ n = acc + q * u ∧ j < m ∧ m - j ≤ l.length ∧ l.take (m - j) = pnumF d q ∧ (0 < j → 0 < q) ∧ n ≤ 2147483647 := by
  induction d with
  | zero => intro l acc u j n m hb h; simp [gnumF] at h
  | succ d ih =>
    intro l acc u j n m hb h
    cases l with
    | nil => simp [gnumF] at h
    | cons x l =>
      have hx := hb x (by simp)
      rw [gnumF] at h
      by_cases h1 : x ≥ 128
      · rw [if_pos h1] at h
        obtain ⟨q, q0, q1, q2, q3, q4, q5, q6⟩ := ih l _ _ _ n m (fun z hz => hb z (by simp [hz])) h
        have q7 := q5 (by omega)
        have e1 : (x % 128 + 128 * q) / 128 = q := by omega
        have e2 : (x % 128 + 128 * q) % 128 + 128 = x := by omega
        have hs := num_step acc u (x % 128 + 128 * q)
        rw [show (x % 128 + 128 * q) % 128 = x % 128 by omega, e1] at hs
        refine ⟨x % 128 + 128 * q, by omega, by rw [q1, hs], by omega, by simp only [List.length_cons]; omega, ?_, fun _ => by omega, q6⟩
        rw [show m - j = (m - (j + 1)) + 1 by omega, List.take_succ_cons, q4, pnumF, if_pos (by omega), e1, e2]
      · rw [if_neg h1] at h
        have e : x % 128 = x := by omega
        rw [e] at h
        by_cases h2 : acc + x * u > 2147483647
        · rw [if_pos h2] at h; cases h
        rw [if_neg h2] at h
        by_cases h3 : x = 0 ∧ j > 0
        · rw [if_pos h3] at h; cases h
        rw [if_neg h3] at h
        cases h
        refine ⟨x, hx.1, rfl, by omega, by simp only [List.length_cons]; omega, ?_, fun q => by omega, by omega⟩
        rw [show j + 1 - j = 0 + 1 by omega, List.take_succ_cons, pnumF, if_neg (by omega)]
        rfl
/-- What is read as a number is that number's bytes. -/
theorem gnum_take (l : List Int) (n : Int) (m : Nat) (hb : ∀ z ∈ l, 0 ≤ z ∧ z ≤ 255) (h : gnum l = some (n, m)) : 0 ≤ n ∧ n ≤ 2147483647 ∧ 1 ≤ m ∧ m ≤ l.length ∧ l.take m = pnum n := by
  obtain ⟨q, q0, q1, q2, q3, q4, _, q6⟩ := gnumF_take 5 l 0 1 0 n m hb h
  have e : n = q := by omega
  subst e
  refine ⟨q0, q6, q2, by simpa using q3, ?_⟩
  unfold pnum
  rw [if_pos ⟨q0, q6⟩]
  simpa using q4
theorem pnumF_numB : ∀ (d n : Nat), n < 128 ^ (d + 1) → pnumF (d + 1) (n : Int) = numB n
  | 0, n, h => by rw [numB_small (by omega), pnumF, if_neg (by omega)]
  | d + 1, n, h => by
    by_cases hn : n ≤ 127
    · rw [numB_small hn, pnumF, if_neg (by omega)]
    · rw [numB_big hn, pnumF, if_pos (by omega), ← pnumF_numB d (n / 128) (by rw [Nat.div_lt_iff_lt_mul (by omega)]; rw [Nat.pow_succ] at h; exact h)]
      congr 1
theorem pnum_putN (x : Int) : pnum x = putN x := by
  unfold pnum putN
  by_cases h : 0 ≤ x ∧ x ≤ 2147483647
  · obtain ⟨n, rfl⟩ := Int.eq_ofNat_of_zero_le h.1
    rw [if_pos h, if_pos h]
    exact pnumF_numB 4 n (by omega)
  · rw [if_neg h, if_neg h]
theorem rdY (xs : List Int) (i : Nat) : rdD tY xs (i : Int) = xs.getD i 0 := rfl
/-- What GetNum hands back. -/
def getR (b : List Int) (at_ : Int) : Option ((Int × Int × Bool × Unit) × (Unit × Unit × Unit)) := some (((getP b at_).1, ((getP b at_).2.1, ((getP b at_).2.2, ()))), ((), ((), ())))
theorem getR_neg {b : List Int} {at_ : Int} (h : at_ < 0) : getR b at_ = some (((0 : Int), ((0 : Int), (false, ()))), ((), ((), ()))) := by
  unfold getR getP; rw [if_neg (by omega)]
theorem getR_none {b : List Int} {a : Nat} (h : gnum (b.drop a) = none) : getR b (a : Int) = some (((0 : Int), ((0 : Int), (false, ()))), ((), ((), ()))) := by
  unfold getR getP; rw [if_pos (by omega), Int.toNat_natCast, h]; rfl
theorem getR_some {b : List Int} {a : Nat} {n : Int} {j : Nat} (h : gnum (b.drop a) = some (n, j)) : getR b (a : Int) = some ((n, (((a + j : Nat) : Int), (true, ()))), ((), ((), ()))) := by
  unfold getR getP; rw [if_pos (by omega), Int.toNat_natCast, h]; simp [gtri]
theorem pow128 (i : Nat) (h : i ≤ 5) : (1 : Int) ≤ 128 ^ i ∧ (128 : Int) ^ i ≤ 34359738368 := by
  match i, h with
  | 0, _ => decide
  | 1, _ => decide
  | 2, _ => decide
  | 3, _ => decide
  | 4, _ => decide
  | 5, _ => decide
theorem impl_GetNum_ok (b : List Int) (at_ : Int) (hb : b.length ≤ big47) (hr : ∀ x ∈ b, 0 ≤ x ∧ x ≤ 255) (ha : at_ ≤ 9223372036854775807) : impl_GetNum_F (b, (at_, ())) = getR b at_ := by
  rw [big47_eq] at hb
  rw [impl_GetNum_main]
  by_cases h0 : at_ < 0
  · rw [brk_pos (decide_eq_true h0), getR_neg h0]
  rw [brk_neg (decide_eq_false h0)]
  obtain ⟨a, rfl⟩ := Int.eq_ofNat_of_zero_le (by omega : 0 ≤ at_)
  obtain ⟨n, v, hh, rfl⟩ := for_loop (σ := Int) (G := fun n i s => iterG impl_GetNum_t0 impl_GetNum_B0 (impl_GetNum_K0 b (a : Int)) n ((b, ((a : Int), (s, ((128 : Int) ^ i, ((i : Int), ()))))), ())) 5
    (fun i s => 0 ≤ s ∧ s < 128 ^ i ∧ gnumF (5 - i) (b.drop (a + i)) s (128 ^ i) i = gnum (b.drop a)) (· = getR b (a : Int))
    (fun i s hi ⟨hI1, hI2, hI3⟩ => by
      have hp := pow128 i (by omega)
      have hp2 := pow128 (i + 1) (by omega)
      rw [Int.pow_succ] at hp2
      rw [show 5 - i = (4 - i) + 1 by omega] at hI3
      by_cases hin : a + i < b.length
      · have hx := hr _ (List.getElem_mem hin)
        have e0 : b.drop (a + i) = b[a + i] :: b.drop (a + (i + 1)) := List.drop_eq_getElem_cons hin
        rw [e0, gnumF] at hI3
        have hm : 0 ≤ b[a + i] % 128 ∧ b[a + i] % 128 ≤ 127 := by omega
        have hmul : b[a + i] % 128 * 128 ^ i ≤ 127 * 128 ^ i := Int.mul_le_mul_of_nonneg_right hm.2 (by omega)
        have hmul0 : 0 ≤ b[a + i] % 128 * 128 ^ i := Int.mul_nonneg hm.1 (by omega)
        have key : ∀ n, iterG impl_GetNum_t0 impl_GetNum_B0 (impl_GetNum_K0 b (a : Int)) (n + 1) ((b, ((a : Int), (s, ((128 : Int) ^ i, ((i : Int), ()))))), ()) = brk (decide ((128 : Int) ≤ b[a + i])) (iterG impl_GetNum_t0 impl_GetNum_B0 (impl_GetNum_K0 b (a : Int)) n ((b, ((a : Int), (s + b[a + i] % 128 * 128 ^ i, ((128 : Int) ^ (i + 1), (((i + 1 : Nat) : Int), ()))))), ()))
            (brk (decide ((2147483647 : Int) < s + b[a + i] % 128 * 128 ^ i)) (impl_GetNum_K0 b (a : Int) (.exit 0) impl_GetNum_x0_0) (brk (decide (b[a + i] = 0)) (brk (decide ((0 : Int) < (i : Int))) (impl_GetNum_K0 b (a : Int) (.exit 0) impl_GetNum_x0_0) (impl_GetNum_K0 b (a : Int) .ret (impl_GetNum_x0_1 (s + b[a + i] % 128 * 128 ^ i) ((a + i + 1 : Nat) : Int) true))) (impl_GetNum_K0 b (a : Int) .ret (impl_GetNum_x0_1 (s + b[a + i] % 128 * 128 ^ i) ((a + i + 1 : Nat) : Int) true)))) := fun n => by
          rw [impl_GetNum_r0, brk_pos (decide_eq_true (by omega)), wrap64 (x := (b.length : Int) - i) (by omega) (by omega), brk_pos (decide_eq_true (by omega)), wrap64 (x := (a : Int) + i) (by omega) (by omega), show (a : Int) + i = ((a + i : Nat) : Int) by omega, ck_idx hin, rdY, getD_at hin,
            wrap64 (x := b[a + i]) (by omega) (by omega), Int.tmod_eq_emod_of_nonneg hx.1, wrap64 (x := b[a + i] % 128 * 128 ^ i) (by omega) (by omega), wrap64 (x := s + b[a + i] % 128 * 128 ^ i) (by omega) (by omega), wrap64 (x := (128 : Int) ^ i * 128) (by omega) (by omega), wrap64 (x := (i : Int) + 1) (by omega) (by omega), wrap64 (x := ((a + i : Nat) : Int) + 1) (by omega) (by omega), Int.pow_succ]
          rfl
        by_cases h1 : b[a + i] ≥ 128
        · rw [if_pos h1] at hI3
          refine .inr ⟨s + b[a + i] % 128 * 128 ^ i, ⟨by omega, by rw [Int.pow_succ]; omega, ?_⟩, fun n => ?_⟩
          · rw [Int.pow_succ, ← hI3, show 5 - (i + 1) = 4 - i by omega]
          · dsimp only
            rw [key, brk_pos (decide_eq_true h1)]
        · rw [if_neg h1] at hI3
          by_cases h2 : s + b[a + i] % 128 * 128 ^ i > 2147483647
          · rw [if_pos h2] at hI3
            refine .inl ⟨_, rfl, fun n => ?_⟩
            dsimp only
            rw [key, brk_neg (decide_eq_false h1), brk_pos (decide_eq_true h2), impl_GetNum_e0_0, getR_none hI3.symm]
          · rw [if_neg h2] at hI3
            by_cases h3 : b[a + i] = 0
            · by_cases h4 : i > 0
              · rw [if_pos ⟨h3, h4⟩] at hI3
                refine .inl ⟨_, rfl, fun n => ?_⟩
                dsimp only
                rw [key, brk_neg (decide_eq_false h1), brk_neg (decide_eq_false h2), brk_pos (decide_eq_true h3), brk_pos (decide_eq_true (by omega)), impl_GetNum_e0_0, getR_none hI3.symm]
              · rw [if_neg fun h => h4 h.2] at hI3
                refine .inl ⟨_, rfl, fun n => ?_⟩
                dsimp only
                rw [key, brk_neg (decide_eq_false h1), brk_neg (decide_eq_false h2), brk_pos (decide_eq_true h3), brk_neg (decide_eq_false (by omega)), impl_GetNum_e0_1, getR_some hI3.symm]
                rfl
            · rw [if_neg fun h => h3 h.1] at hI3
              refine .inl ⟨_, rfl, fun n => ?_⟩
              dsimp only
              rw [key, brk_neg (decide_eq_false h1), brk_neg (decide_eq_false h2), brk_neg (decide_eq_false h3), impl_GetNum_e0_1, getR_some hI3.symm]
              rfl
      · rw [List.drop_of_length_le (by omega), gnumF] at hI3
        refine .inl ⟨_, rfl, fun n => ?_⟩
        dsimp only
        rw [impl_GetNum_r0, brk_pos (decide_eq_true (by omega)), wrap64 (x := (b.length : Int) - i) (by omega) (by omega), brk_neg (decide_eq_false (by omega)), impl_GetNum_e0_0, getR_none hI3.symm])
    (fun s ⟨hI1, hI2, hI3⟩ => ⟨_, rfl, fun n => by
      dsimp only
      rw [impl_GetNum_r0, brk_neg (by decide), impl_GetNum_e0_0, getR_none hI3.symm]⟩) 0 ⟨by omega, by decide, rfl⟩
  exact impl_GetNum_l0 n hh ⟨_, rfl⟩
theorem shl7 {x : Int} {i : Nat} (h0 : 0 ≤ x) (h1 : x ≤ 127) (hi : i < 5) : shlN .i64 x (((7 * i : Nat)) : Int) = x * 128 ^ i := by
  have hp := pow128 i (by omega)
  unfold shlN
  have e : (2 : Int) ^ (min ((7 * i : Nat) : Int).toNat IntKind.i64.bits) = 128 ^ i := by
    rw [Int.toNat_natCast, show IntKind.i64.bits = 64 from rfl, Nat.min_eq_left (by omega), Int.pow_mul]; rfl
  rw [e]
  have h2 : x * 128 ^ i ≤ 127 * 128 ^ i := Int.mul_le_mul_of_nonneg_right h1 (by omega)
  have h3 : 0 ≤ x * 128 ^ i := Int.mul_nonneg h0 (by omega)
  exact wrap64 (by omega) (by omega)
theorem or_nat {x y : Nat} (hx : x < 4611686018427387904) (hy : y < 4611686018427387904) : orN .i64 (x : Int) (y : Int) = ((x ||| y : Nat) : Int) := by
  unfold orN
  have e : (BitVec.ofInt IntKind.i64.bits (x : Int) ||| BitVec.ofInt IntKind.i64.bits (y : Int)).toNat = x ||| y := by
    rw [BitVec.ofInt_natCast, BitVec.ofInt_natCast, BitVec.toNat_or, BitVec.toNat_ofNat, BitVec.toNat_ofNat]
    simp only [IntKind.bits]
    rw [Nat.mod_eq_of_lt (by omega), Nat.mod_eq_of_lt (by omega)]
  rw [e]
  have h1 : x < 2 ^ 62 := by omega
  have h2 : y < 2 ^ 62 := by omega
  have := Nat.or_lt_two_pow h1 h2
  exact wrap64 (by omega) (by omega)
theorem or_add {s x : Int} {i : Nat} (h0 : 0 ≤ s) (h1 : s < 128 ^ i) (h2 : 0 ≤ x) (h3 : x ≤ 127) (hi : i < 5) : orN .i64 s (x * 128 ^ i) = s + x * 128 ^ i := by
  have hp := pow128 i (by omega)
  have h4 : x * 128 ^ i ≤ 127 * 128 ^ i := Int.mul_le_mul_of_nonneg_right h3 (by omega)
  obtain ⟨a, rfl⟩ := Int.eq_ofNat_of_zero_le h0
  obtain ⟨c, rfl⟩ := Int.eq_ofNat_of_zero_le h2
  have e : (c : Int) * 128 ^ i = ((c * 128 ^ i : Nat) : Int) := by rw [Int.natCast_mul, Int.natCast_pow]; rfl
  have e2 : (128 : Int) ^ i = ((128 ^ i : Nat) : Int) := by rw [Int.natCast_pow]; rfl
  have e3 : (2 : Nat) ^ (7 * i) = 128 ^ i := Nat.pow_mul 2 7 i
  have ha : a < 2 ^ (7 * i) := by rw [e3]; rw [e2] at h1; omega
  have hc : (c * 128 ^ i : Nat) = c <<< (7 * i) := by rw [Nat.shiftLeft_eq, e3]
  rw [e] at h4 ⊢
  rw [or_nat (by rw [e2] at h1; omega) (by omega)]
  have := Nat.shiftLeft_add_eq_or_of_lt ha c
  rw [hc, Nat.or_comm, ← this]
  omega
theorem spec_GetNum_ok (b : List Int) (at_ : Int) (hb : b.length ≤ big47) (hr : ∀ x ∈ b, 0 ≤ x ∧ x ≤ 255) (ha : at_ ≤ 9223372036854775807) : spec_GetNum_F (b, (at_, ())) = getR b at_ := by
  rw [big47_eq] at hb
  rw [spec_GetNum_main]
  by_cases h0 : at_ < 0
  · rw [spec_GetNum_l0 1 (v := getR b at_) (by rw [spec_GetNum_r0, brk_pos (by decide), brk_pos (decide_eq_true h0), spec_GetNum_e0_0, getR_neg h0]) ⟨_, rfl⟩]
  obtain ⟨a, rfl⟩ := Int.eq_ofNat_of_zero_le (by omega : 0 ≤ at_)
  obtain ⟨n, v, hh, rfl⟩ := for_loop (σ := Int) (G := fun n i s => iterG spec_GetNum_t0 spec_GetNum_B0 (spec_GetNum_K0 b (a : Int)) n ((b, ((a : Int), (s, ((i : Int), ())))), ())) 5
    (fun i s => 0 ≤ s ∧ s < 128 ^ i ∧ gnumF (5 - i) (b.drop (a + i)) s (128 ^ i) i = gnum (b.drop a)) (· = getR b (a : Int))
    (fun i s hi ⟨hI1, hI2, hI3⟩ => by
      have hp := pow128 i (by omega)
      have hp2 := pow128 (i + 1) (by omega)
      rw [Int.pow_succ] at hp2
      rw [show 5 - i = (4 - i) + 1 by omega] at hI3
      by_cases hin : a + i < b.length
      · have hx := hr _ (List.getElem_mem hin)
        have e0 : b.drop (a + i) = b[a + i] :: b.drop (a + (i + 1)) := List.drop_eq_getElem_cons hin
        rw [e0, gnumF] at hI3
        have hm : 0 ≤ b[a + i] % 128 ∧ b[a + i] % 128 ≤ 127 := by omega
        have hmul : b[a + i] % 128 * 128 ^ i ≤ 127 * 128 ^ i := Int.mul_le_mul_of_nonneg_right hm.2 (by omega)
        have hmul0 : 0 ≤ b[a + i] % 128 * 128 ^ i := Int.mul_nonneg hm.1 (by omega)
        have key : ∀ n, iterG spec_GetNum_t0 spec_GetNum_B0 (spec_GetNum_K0 b (a : Int)) (n + 1) ((b, ((a : Int), (s, ((i : Int), ())))), ()) =
            brk (decide (b[a + i] < (128 : Int)))
            (brk (decide ((0 : Int) < (i : Int)))
              (brk (decide (b[a + i] = 0)) (spec_GetNum_K0 b (a : Int) .ret (spec_GetNum_x0_0 (0 : Int) (0 : Int) false))
                (brk (decide ((2147483647 : Int) < s + b[a + i] % 128 * 128 ^ i)) (spec_GetNum_K0 b (a : Int) .ret (spec_GetNum_x0_0 (0 : Int) (0 : Int) false)) (spec_GetNum_K0 b (a : Int) .ret (spec_GetNum_x0_0 (s + b[a + i] % 128 * 128 ^ i) ((a + i + 1 : Nat) : Int) true))))
              (brk (decide ((2147483647 : Int) < s + b[a + i] % 128 * 128 ^ i)) (spec_GetNum_K0 b (a : Int) .ret (spec_GetNum_x0_0 (0 : Int) (0 : Int) false)) (spec_GetNum_K0 b (a : Int) .ret (spec_GetNum_x0_0 (s + b[a + i] % 128 * 128 ^ i) ((a + i + 1 : Nat) : Int) true))))
            (iterG spec_GetNum_t0 spec_GetNum_B0 (spec_GetNum_K0 b (a : Int)) n ((b, ((a : Int), (s + b[a + i] % 128 * 128 ^ i, (((i + 1 : Nat) : Int), ())))), ())) := fun n => by
          rw [spec_GetNum_r0, brk_pos (decide_eq_true (by omega)), brk_neg (decide_eq_false (by omega)), wrap64 (x := (b.length : Int) - i) (by omega) (by omega), brk_neg (decide_eq_false (by omega)), wrap64 (x := (a : Int) + i) (by omega) (by omega), show (a : Int) + i = ((a + i : Nat) : Int) by omega, ck_idx hin, rdY, getD_at hin,
            wrap64 (x := b[a + i]) (by omega) (by omega), Int.tmod_eq_emod_of_nonneg hx.1, wrap64 (x := 7 * (i : Int)) (by omega) (by omega), ck_pos (decide_eq_true (by omega)), show (7 : Int) * i = ((7 * i : Nat) : Int) by omega, shl7 hm.1 hm.2 hi, or_add hI1 hI2 hm.1 hm.2 hi, wrap64 (x := (i : Int) + 1) (by omega) (by omega), wrap64 (x := ((a + i : Nat) : Int) + 1) (by omega) (by omega)]
          rfl
        by_cases h1 : b[a + i] ≥ 128
        · rw [if_pos h1] at hI3
          refine .inr ⟨s + b[a + i] % 128 * 128 ^ i, ⟨by omega, by rw [Int.pow_succ]; omega, ?_⟩, fun n => ?_⟩
          · rw [Int.pow_succ, ← hI3, show 5 - (i + 1) = 4 - i by omega]
          · dsimp only
            rw [key, brk_neg (decide_eq_false (Int.not_lt.2 h1))]
        · rw [if_neg h1] at hI3
          have h1' : b[a + i] < 128 := by omega
          by_cases h2 : s + b[a + i] % 128 * 128 ^ i > 2147483647
          · rw [if_pos h2] at hI3
            refine .inl ⟨_, rfl, fun n => ?_⟩
            dsimp only
            rw [key, brk_pos (decide_eq_true h1'), getR_none hI3.symm]
            by_cases h4 : (0 : Int) < (i : Int)
            · by_cases h3 : b[a + i] = 0
              · rw [brk_pos (decide_eq_true h4), brk_pos (decide_eq_true h3), spec_GetNum_e0_0]
              · rw [brk_pos (decide_eq_true h4), brk_neg (decide_eq_false h3), brk_pos (decide_eq_true h2), spec_GetNum_e0_0]
            · rw [brk_neg (decide_eq_false h4), brk_pos (decide_eq_true h2), spec_GetNum_e0_0]
          · rw [if_neg h2] at hI3
            by_cases h4 : i > 0
            · by_cases h3 : b[a + i] = 0
              · rw [if_pos ⟨h3, h4⟩] at hI3
                refine .inl ⟨_, rfl, fun n => ?_⟩
                dsimp only
                rw [key, brk_pos (decide_eq_true h1'), brk_pos (decide_eq_true (by omega)), brk_pos (decide_eq_true h3), spec_GetNum_e0_0, getR_none hI3.symm]
              · rw [if_neg fun h => h3 h.1] at hI3
                refine .inl ⟨_, rfl, fun n => ?_⟩
                dsimp only
                rw [key, brk_pos (decide_eq_true h1'), brk_pos (decide_eq_true (by omega)), brk_neg (decide_eq_false h3), brk_neg (decide_eq_false h2), spec_GetNum_e0_0, getR_some hI3.symm]
                rfl
            · rw [if_neg fun h => h4 h.2] at hI3
              refine .inl ⟨_, rfl, fun n => ?_⟩
              dsimp only
              rw [key, brk_pos (decide_eq_true h1'), brk_neg (decide_eq_false (by omega)), brk_neg (decide_eq_false h2), spec_GetNum_e0_0, getR_some hI3.symm]
              rfl
      · rw [List.drop_of_length_le (by omega), gnumF] at hI3
        refine .inl ⟨_, rfl, fun n => ?_⟩
        dsimp only
        rw [spec_GetNum_r0, brk_pos (decide_eq_true (by omega)), brk_neg (decide_eq_false (by omega)), wrap64 (x := (b.length : Int) - i) (by omega) (by omega), brk_pos (decide_eq_true (by omega)), spec_GetNum_e0_0, getR_none hI3.symm])
    (fun s ⟨hI1, hI2, hI3⟩ => ⟨_, rfl, fun n => by
      dsimp only
      rw [spec_GetNum_r0, brk_neg (by decide), spec_GetNum_e0_1, getR_none hI3.symm]⟩) 0 ⟨by omega, by decide, rfl⟩
  exact spec_GetNum_l0 n hh ⟨_, rfl⟩
/-- Numbers read one behind the other: from a place, or from nowhere (once one was none). -/
def rdN (b : List Int) : Option Nat → Int × Option Nat
  | none => (0, none)
  | some a => match gnum (b.drop a) with
    | none => (0, none)
    | some (n, j) => (n, some (a + j))
/-- What a reader's place and word say. -/
def RepS (s : Option Nat) (at_ : Int) (ok : Bool) : Prop := match s with
  | some a => at_ = (a : Int) ∧ ok = true
  | none => ok = false ∨ at_ < 0
theorem impl_num_ok {b : List Int} {s : Option Nat} {at_ : Int} {ok : Bool} (hb : b.length ≤ big47) (hr : ∀ x ∈ b, 0 ≤ x ∧ x ≤ 255) (ha : at_ ≤ 9223372036854775807) (h : RepS s at_ ok) :
    ∃ at' : Int, impl_reader_num_F ((b, (at_, (ok, ()))), ()) = some (((rdN b s).1, ()), ((b, (at', ((rdN b s).2.isSome, ()))), ())) ∧ RepS (rdN b s).2 at' (rdN b s).2.isSome := by
  rw [impl_reader_num_main]
  simp only
  cases s with
  | none =>
    cases ok with
    | false => exact ⟨at_, rfl, .inl rfl⟩
    | true =>
      have h : at_ < 0 := by simpa [RepS] using h
      rw [Bool.not_true, brk_false, impl_GetNum_ok b at_ hb hr ha, getR_neg h]
      exact ⟨0, rfl, .inl rfl⟩
  | some a =>
    obtain ⟨rfl, rfl⟩ := h
    rw [Bool.not_true, brk_false, impl_GetNum_ok b _ hb hr ha]
    cases hg : gnum (b.drop a) with
    | none => rw [getR_none hg]; simp only [rdN, hg]; exact ⟨0, rfl, .inl rfl⟩
    | some p =>
      obtain ⟨n, j⟩ := p
      rw [getR_some hg]; simp only [rdN, hg]; exact ⟨_, rfl, rfl, rfl⟩
theorem spec_num_ok {b : List Int} {s : Option Nat} {at_ : Int} {ok : Bool} (hb : b.length ≤ big47) (hr : ∀ x ∈ b, 0 ≤ x ∧ x ≤ 255) (ha : at_ ≤ 9223372036854775807) (h : RepS s at_ ok) :
    ∃ at' : Int, spec_l4Num_F ((b, (at_, (ok, ()))), ()) = some (((rdN b s).1, ()), ((b, (at', ((rdN b s).2.isSome, ()))), ())) ∧ RepS (rdN b s).2 at' (rdN b s).2.isSome ∧ (∀ a, (rdN b s).2 = some a → at' = (a : Int)) ∧ at' ≤ 9223372036854775807 := by
  rw [spec_l4Num_main]
  simp only
  rw [spec_GetNum_ok b _ hb hr ha]
  cases s with
  | none =>
    by_cases h0 : at_ < 0
    · rw [getR_neg h0]; exact ⟨at_, rfl, .inl rfl, fun a h => by simp [rdN] at h, ha⟩
    · have hok : ok = false := h.resolve_right h0
      subst hok
      refine ⟨at_, ?_, .inl rfl, fun a h => by simp [rdN] at h, ha⟩
      unfold getR
      simp only [Option.bind_some, Bool.not_false, brk_true]
      cases (getP b at_).2.2 <;> rfl
  | some a =>
    obtain ⟨rfl, rfl⟩ := h
    cases hg : gnum (b.drop a) with
    | none => rw [getR_none hg]; simp only [rdN, hg]; exact ⟨_, rfl, .inl rfl, fun a h => by simp at h, ha⟩
    | some p =>
      obtain ⟨n, j⟩ := p
      have hj := gnum_take (b.drop a) n j (fun z hz => hr z (List.mem_of_mem_drop hz)) hg
      have hl := hj.2.2.2.1
      rw [List.length_drop] at hl
      rw [big47_eq] at hb
      rw [getR_some hg]; simp only [rdN, hg]
      exact ⟨((a + j : Nat) : Int), rfl, ⟨rfl, rfl⟩, fun a' h => by cases h; rfl, by omega⟩
def rdL (b : List Int) : Nat → Option Nat → List Int → List Int × Option Nat
  | 0, s, acc => (acc, s)
  | _ + 1, none, acc => (acc, none)
  | k + 1, some a, acc => rdL b k (rdN b (some a)).2 (acc ++ [(rdN b (some a)).1])
theorem rdN_spec {b : List Int} (hr : ∀ x ∈ b, 0 ≤ x ∧ x ≤ 255) (s : Option Nat) : 0 ≤ (rdN b s).1 ∧ (rdN b s).1 ≤ 2147483647 ∧ (∀ a, (rdN b s).2 = some a → a ≤ b.length ∧ ∃ a0, s = some a0 ∧ a0 < a ∧ a0 < b.length) := by
  cases s with
  | none => exact ⟨Int.le_refl 0, (by decide : (0 : Int) ≤ 2147483647), fun a h => by simp [rdN] at h⟩
  | some a =>
    cases hg : gnum (b.drop a) with
    | none => simp only [rdN, hg]; exact ⟨Int.le_refl 0, (by decide : (0 : Int) ≤ 2147483647), fun a h => by cases h⟩
    | some p =>
      obtain ⟨n, j⟩ := p
      obtain ⟨h1, h2, h3, h4, _⟩ := gnum_take (b.drop a) n j (fun z hz => hr z (List.mem_of_mem_drop hz)) hg
      rw [List.length_drop] at h4
      simp only [rdN, hg]
      exact ⟨h1, h2, fun a' h => by cases h; exact ⟨by omega, a, rfl, by omega, by omega⟩⟩
def AccOk (b : List Int) (s : Option Nat) (acc : List Int) : Prop := match s with
  | some a => acc.length ≤ a ∧ a ≤ b.length
  | none => acc.length ≤ b.length + 1
theorem accOk_nil {b : List Int} (hr : ∀ x ∈ b, 0 ≤ x ∧ x ≤ 255) (s : Option Nat) : AccOk b (rdN b s).2 [] := by
  have := (rdN_spec hr s).2.2
  cases h : (rdN b s).2 with
  | none => simp [AccOk]
  | some a => exact ⟨by simp, (this a h).1⟩
theorem AccOk.len {b : List Int} {s : Option Nat} {acc : List Int} (h : AccOk b s acc) : acc.length ≤ b.length + 1 := by
  cases s with
  | none => exact h
  | some a => obtain ⟨h1, h2⟩ := h; omega
theorem AccOk.step {b : List Int} (hr : ∀ x ∈ b, 0 ≤ x ∧ x ≤ 255) {a : Nat} {acc : List Int} (h : AccOk b (some a) acc) (x : Int) : AccOk b (rdN b (some a)).2 (acc ++ [x]) := by
  obtain ⟨h1, h2⟩ := h
  have := (rdN_spec hr (some a)).2.2
  cases hs : (rdN b (some a)).2 with
  | none => simp only [AccOk, List.length_append, List.length_cons, List.length_nil]; omega
  | some a' =>
    obtain ⟨h3, a0, h4, h5, _⟩ := this a' hs
    cases h4
    simp only [AccOk, List.length_append, List.length_cons, List.length_nil]
    exact ⟨by omega, h3⟩
theorem rdL_ok {b : List Int} (hr : ∀ x ∈ b, 0 ≤ x ∧ x ≤ 255) : ∀ (k : Nat) (s : Option Nat) (acc : List Int), AccOk b s acc → (rdL b k s acc).1.length ≤ b.length + 1
  | 0, s, acc, h => h.len
  | _ + 1, none, acc, h => h.len
  | k + 1, some a, acc, h => rdL_ok hr k _ _ (h.step hr _)
theorem impl_list_ok {b : List Int} {s : Option Nat} {at_ : Int} {ok : Bool} (hb : b.length ≤ 1400000) (hr : ∀ x ∈ b, 0 ≤ x ∧ x ≤ 255) (ha : at_ ≤ 9223372036854775807) (h : RepS s at_ ok) :
    ∃ at' : Int, impl_reader_list_F ((b, (at_, (ok, ()))), ()) = some (((rdL b (rdN b s).1.toNat (rdN b s).2 []).1, ()), ((b, (at', ((rdL b (rdN b s).1.toNat (rdN b s).2 []).2.isSome, ()))), ())) := by
  have hb' : b.length ≤ big47 := by rw [big47_eq]; omega
  obtain ⟨at1, e1, r1⟩ := impl_num_ok hb' hr ha h
  obtain ⟨n0, n1, n2⟩ := rdN_spec hr s
  have hacc := accOk_nil hr s
  rw [impl_reader_list_main]
  simp only [e1, Option.bind_some]
  generalize rdN b s = p at *
  obtain ⟨n, s1⟩ := p
  simp only at *
  obtain ⟨N, rfl⟩ := Int.eq_ofNat_of_zero_le n0
  rw [Int.toNat_natCast]
  obtain ⟨m, v, hh, at', rfl⟩ := for_loop (σ := List Int × Option Nat × Int) (G := fun n i z => iterG impl_reader_list_t0 impl_reader_list_B0 (impl_reader_list_K0 (b, (at_, (ok, ())))) n (((N : Int), ((i : Int), ())), (z.1, ((b, (z.2.2, (z.2.1.isSome, ()))), ())))) N
    (fun i z => RepS z.2.1 z.2.2 z.2.1.isSome ∧ AccOk b z.2.1 z.1 ∧ rdL b (N - i) z.2.1 z.1 = rdL b N s1 []) (fun v => ∃ at' : Int, v = some (((rdL b N s1 []).1, ()), ((b, (at', ((rdL b N s1 []).2.isSome, ()))), ())))
    (fun i z hi ⟨hI1, hI2, hI3⟩ => by
      obtain ⟨acc, s2, at2⟩ := z
      simp only at hI1 hI2 hI3 ⊢
      cases s2 with
      | none =>
        rw [show N - i = (N - i - 1) + 1 by omega, rdL] at hI3
        refine .inl ⟨_, ⟨at2, rfl⟩, fun n => ?_⟩
        rw [impl_reader_list_r0, brk_lt hi, Option.isSome_none, brk_false, impl_reader_list_e0_0, ← hI3]; rfl
      | some a =>
        rw [show N - i = (N - i - 1) + 1 by omega, rdL] at hI3
        obtain ⟨rfl, _⟩ := hI1
        have hle := hI2.2
        obtain ⟨at3, e3, r3⟩ := impl_num_ok (s := some a) (at_ := (a : Int)) (ok := true) hb' hr (by omega) ⟨rfl, rfl⟩
        have hlen := hI2.len
        refine .inr ⟨(acc ++ [(rdN b (some a)).1], (rdN b (some a)).2, at3), ⟨r3, hI2.step hr _, ?_⟩, fun n => ?_⟩
        · rw [← hI3, show N - (i + 1) = N - i - 1 by omega]
        · rw [impl_reader_list_r0, brk_lt hi, Option.isSome_some, brk_true]
          simp only [e3, Option.bind_some]
          rw [ck_pos (by simp [big47]; omega), step_nat i (by omega)])
    (fun z ⟨hI1, hI2, hI3⟩ => by
      obtain ⟨acc, s2, at2⟩ := z
      simp only at hI1 hI2 hI3 ⊢
      rw [Nat.sub_self, rdL] at hI3
      exact ⟨_, ⟨at2, rfl⟩, fun n => by rw [impl_reader_list_r0, brk_nlt (by omega), impl_reader_list_e0_0, ← hI3]⟩) ([], s1, at1) ⟨r1, hacc, by rw [Nat.sub_zero]⟩
  exact ⟨at', impl_reader_list_l0 m hh ⟨_, rfl⟩⟩
/-- A message read at a place: its size's number is passed over. -/
def rdMsg (b : List Int) (s0 : Option Nat) : tMsg.D × Option Nat :=
  let r1 := rdN b s0; let r2 := rdN b r1.2; let r3 := rdN b r2.2; let r4 := rdN b r3.2; let r5 := rdN b r4.2; let r6 := rdN b r5.2
  let l := rdL b r6.1.toNat r6.2 []
  ((r2.1, (r3.1, (r4.1, (r5.1, (l.1, ()))))), l.2)
def atS (at_ : Int) : Option Nat := if 0 ≤ at_ then some at_.toNat else none
theorem atS_rep (at_ : Int) : RepS (atS at_) at_ true := by
  unfold atS RepS
  split
  · rename_i a h
    split at h
    · cases h; exact ⟨by omega, rfl⟩
    · cases h
  · rename_i h
    split at h
    · cases h
    · right; omega
open Classical in
/-- MsgOf. -/
noncomputable def msgOfP (b : List Int) (at_ : Int) : tMsg.D × Int × Bool :=
  if (rdMsg b (atS at_)).2.isSome = true ∧ msgB (rdMsg b (atS at_)).1 ≠ [] ∧ msgB (rdMsg b (atS at_)).1 <+: b.drop at_.toNat then ((rdMsg b (atS at_)).1, (at_ + (msgB (rdMsg b (atS at_)).1).length, true)) else (((0 : Int), ((0 : Int), ((0 : Int), ((0 : Int), (([] : List Int), ()))))), ((0 : Int), false))
theorem bytes_Equal_ok (x y : List Int) : bytes_Equal_F (x, (y, ())) = some ((decide (x = y), ()), ((), ((), ()))) := bytes_Equal_main x y
theorem bytes_HasPrefix_ok (x y : List Int) : bytes_HasPrefix_F (x, (y, ())) = some ((decide (y <+: x), ()), ((), ((), ()))) := by
  rw [bytes_HasPrefix_main]
  by_cases h : y.length ≤ x.length
  · rw [brk_pos (decide_eq_true (by omega)), ck_pos (by simp; omega), bytes_Equal_ok]
    simp only [Option.bind_some, Int.toNat_zero, List.drop_zero, Int.toNat_natCast]
    rw [show decide (x.take y.length = y) = decide (y <+: x) from decide_eq_decide.2 (by rw [List.prefix_iff_eq_take]; exact eq_comm)]
  · rw [brk_neg (decide_eq_false (by omega)), decide_eq_false fun hp => h hp.length_le]
theorem rdMsg_none {b : List Int} (hr : ∀ x ∈ b, 0 ≤ x ∧ x ≤ 255) {s0 : Option Nat} (h : (rdMsg b s0).2.isSome = true) : ∃ a a1 n, s0 = some a ∧ a < b.length ∧ rdN b s0 = (n, some a1) := by
  have key : ∀ s, (rdN b s).2.isSome = true → s.isSome = true := fun s h => by cases s <;> simp [rdN] at h ⊢
  have keyL : ∀ (k : Nat) (s : Option Nat) acc, (rdL b k s acc).2.isSome = true → s.isSome = true := fun k s acc h => by
    cases k with
    | zero => exact h
    | succ k => cases s with
      | none => simp [rdL] at h
      | some a => rfl
  have h6 := keyL _ _ _ h
  have h1 := key _ (key _ (key _ (key _ (key _ h6))))
  cases hs : rdN b s0 with
  | mk n s1 =>
    rw [hs] at h1
    cases s1 with
    | none => simp at h1
    | some a1 =>
      obtain ⟨_, a0, e, _, h0⟩ := (rdN_spec hr s0).2.2 a1 (by rw [hs])
      exact ⟨a0, a1, n, e, h0, rfl⟩
theorem impl_MsgOf_ok (b : List Int) (at_ : Int) (hb : b.length ≤ 1400000) (hr : ∀ x ∈ b, 0 ≤ x ∧ x ≤ 255) (ha : at_ ≤ 9223372036854775807) : impl_MsgOf_F (b, (at_, ())) = some (((msgOfP b at_).1, ((msgOfP b at_).2.1, ((msgOfP b at_).2.2, ()))), ((), ((), ()))) := by
  have hb' : b.length ≤ big47 := by rw [big47_eq]; omega
  have hcap : ∀ (s : Option Nat) (x : Int), RepS (rdN b s).2 x (rdN b s).2.isSome → ∃ y : Int, y ≤ 9223372036854775807 ∧ True := fun _ _ _ => ⟨0, by omega, trivial⟩
  have num : ∀ (s : Option Nat) (x : Int) (ok : Bool), RepS s x ok → x ≤ 9223372036854775807 → ∃ at' : Int, impl_reader_num_F ((b, (x, (ok, ()))), ()) = some (((rdN b s).1, ()), ((b, (at', ((rdN b s).2.isSome, ()))), ())) ∧ RepS (rdN b s).2 at' (rdN b s).2.isSome ∧ at' ≤ 9223372036854775807 := fun s x ok h hx => by
    cases s with
    | none =>
      rw [impl_reader_num_main]
      cases ok with
      | false => exact ⟨x, rfl, .inl rfl, hx⟩
      | true =>
        have h : x < 0 := by simpa [RepS] using h
        rw [Bool.not_true, brk_false]
        simp only
        rw [impl_GetNum_ok b x hb' hr hx, getR_neg h]
        exact ⟨0, rfl, .inl rfl, by omega⟩
    | some a =>
      obtain ⟨rfl, rfl⟩ := h
      have hs := (rdN_spec hr (some a)).2.2
      rw [impl_reader_num_main, Bool.not_true, brk_false]
      simp only
      rw [impl_GetNum_ok b _ hb' hr hx]
      cases hg : gnum (b.drop a) with
      | none => rw [getR_none hg]; simp only [rdN, hg]; exact ⟨0, rfl, .inl rfl, by omega⟩
      | some p =>
        obtain ⟨n, j⟩ := p
        have := (hs (a + j) (by simp only [rdN, hg])).1
        rw [getR_some hg]; simp only [rdN, hg]; exact ⟨((a + j : Nat) : Int), rfl, ⟨rfl, rfl⟩, by omega⟩
  obtain ⟨a1, e1, r1, l1⟩ := num _ _ _ (atS_rep at_) ha
  obtain ⟨a2, e2, r2, l2⟩ := num _ _ _ r1 l1
  obtain ⟨a3, e3, r3, l3⟩ := num _ _ _ r2 l2
  obtain ⟨a4, e4, r4, l4⟩ := num _ _ _ r3 l3
  obtain ⟨a5, e5, r5, l5⟩ := num _ _ _ r4 l4
  obtain ⟨a6, e6⟩ := impl_list_ok hb hr l5 r5
  rw [impl_MsgOf_main]
  simp only [e1, e2, e3, e4, e5, e6, Option.bind_some]
  have hlen : (rdMsg b (atS at_)).1.2.2.2.2.1.length ≤ 1500000 := Nat.le_trans (rdL_ok hr _ _ _ (accOk_nil hr _)) (by omega)
  have hm := impl_MsgBytes_ok (rdMsg b (atS at_)).1 hlen
  have hml := msgB_len (rdMsg b (atS at_)).1
  have hm' : impl_MsgBytes_F (((rdN b (rdN b (atS at_)).2).1, ((rdN b (rdN b (rdN b (atS at_)).2).2).1, ((rdN b (rdN b (rdN b (rdN b (atS at_)).2).2).2).1, ((rdN b (rdN b (rdN b (rdN b (rdN b (atS at_)).2).2).2).2).1, ((rdL b (rdN b (rdN b (rdN b (rdN b (rdN b (rdN b (atS at_)).2).2).2).2).2).1.toNat (rdN b (rdN b (rdN b (rdN b (rdN b (rdN b (atS at_)).2).2).2).2).2).2 []).1, ()))))), ()) = _ := hm
  rw [hm']
  simp only [Option.bind_some]
  rw [show (rdL b (rdN b (rdN b (rdN b (rdN b (rdN b (rdN b (atS at_)).2).2).2).2).2).1.toNat (rdN b (rdN b (rdN b (rdN b (rdN b (rdN b (atS at_)).2).2).2).2).2).2 []).2 = (rdMsg b (atS at_)).2 from rfl]
  unfold msgOfP
  by_cases h1 : (rdMsg b (atS at_)).2.isSome = true
  · obtain ⟨a, a1', n', e0, h0, _⟩ := rdMsg_none hr h1
    have hat : 0 ≤ at_ ∧ at_.toNat = a := by
      unfold atS at e0
      split at e0
      · rename_i h; cases e0; exact ⟨h, rfl⟩
      · cases e0
    rw [h1, Bool.not_true, brk_false]
    by_cases h2 : msgB (rdMsg b (atS at_)).1 = []
    · rw [brk_pos (decide_eq_true (by rw [h2]; rfl)), if_neg fun h => h.2.1 h2]
    · rw [brk_neg (decide_eq_false fun h => h2 (List.length_eq_zero_iff.1 (by omega))), ck_pos (by simp; omega), Int.toNat_natCast, List.take_length, bytes_HasPrefix_ok]
      simp only [Option.bind_some]
      by_cases h3 : msgB (rdMsg b (atS at_)).1 <+: b.drop at_.toNat
      · rw [decide_eq_true h3, Bool.not_true, brk_false, if_pos ⟨trivial, h2, h3⟩, wrap64 (by omega) (by omega)]
        rfl
      · rw [decide_eq_false h3, Bool.not_false, brk_true, if_neg fun h => h3 h.2.2]
  · rw [show (rdMsg b (atS at_)).2.isSome = false by simpa using h1, Bool.not_false, brk_true, if_neg fun h => by simp at h]
/-- A message's bytes begin with their size. -/
theorem msg_early {b : List Int} {a : Nat} {m : tMsg.D} (hm : m.2.2.2.2.1.length ≤ 1500000) (h1 : msgB m ≠ []) (h2 : msgB m <+: b.drop a) {n : Int} {a1 : Nat} (hs : rdN b (some a) = (n, some a1)) : n ≤ (b.length : Int) - a1 - 4 := by
  unfold msgB at h1 h2
  split at h1
  · rename_i hok
    rw [if_pos hok] at h2
    obtain ⟨t, ht⟩ := h2
    have hl := bodyB_len m
    have hg : gnum (b.drop a) = some (((bodyB m).length : Int), (putN ((bodyB m).length : Int)).length) := by
      have := gnum_pnum ((bodyB m).length : Int) (bodyB m ++ fourB (sumB (bodyB m)) ++ t) (by omega) (by omega)
      rw [pnum_putN] at this
      rw [← ht, ← this]
      simp only [List.append_assoc]
    simp only [rdN, hg, Prod.mk.injEq, Option.some.injEq] at hs
    obtain ⟨rfl, rfl⟩ := hs
    have hlen := congrArg List.length ht
    simp only [List.length_append, fourB, List.length_cons, List.length_nil, List.length_drop] at hlen
    omega
  · exact absurd rfl h1
theorem spec_MsgOf_ok (b : List Int) (at_ : Int) (hb : b.length ≤ 1400000) (hr : ∀ x ∈ b, 0 ≤ x ∧ x ≤ 255) (ha : at_ ≤ 9223372036854775807) : spec_MsgOf_F (b, (at_, ())) = some (((msgOfP b at_).1, ((msgOfP b at_).2.1, ((msgOfP b at_).2.2, ()))), ((), ((), ()))) := by
  have hb' : b.length ≤ big47 := by rw [big47_eq]; omega
  obtain ⟨a1, e1, r1, s1, l1⟩ := spec_num_ok hb' hr ha (atS_rep at_)
  obtain ⟨a2, e2, r2, s2, l2⟩ := spec_num_ok hb' hr l1 r1
  obtain ⟨a3, e3, r3, s3, l3⟩ := spec_num_ok hb' hr l2 r2
  obtain ⟨a4, e4, r4, s4, l4⟩ := spec_num_ok hb' hr l3 r3
  obtain ⟨a5, e5, r5, s5, l5⟩ := spec_num_ok hb' hr l4 r4
  obtain ⟨a6, e6, r6, s6, l6⟩ := spec_num_ok hb' hr l5 r5
  have hlen : (rdMsg b (atS at_)).1.2.2.2.2.1.length ≤ 1500000 := Nat.le_trans (rdL_ok hr _ _ _ (accOk_nil hr _)) (by omega)
  rw [spec_MsgOf_main]
  simp only [e1, Option.bind_some]
  by_cases h1 : (rdN b (atS at_)).2.isSome = true
  · cases hs1 : (rdN b (atS at_)).2 with
    | none => rw [hs1] at h1; cases h1
    | some p1 =>
      have hp1 := s1 p1 hs1
      obtain ⟨hpl, p0, hp0, hp01, hp0l⟩ := (rdN_spec hr (atS at_)).2.2 p1 hs1
      have hat : 0 ≤ at_ ∧ at_.toNat = p0 := by
        unfold atS at hp0
        split at hp0
        · rename_i h; cases hp0; exact ⟨h, rfl⟩
        · cases hp0
      rw [Option.isSome_some, Bool.not_true, brk_false, wrap64 (x := (b.length : Int) - a1) (by omega) (by omega), wrap64 (x := (b.length : Int) - a1 - 4) (by omega) (by omega)]
      by_cases h2 : (b.length : Int) - a1 - 4 < (rdN b (atS at_)).1
      · rw [brk_pos (decide_eq_true h2)]
        unfold msgOfP
        rw [if_neg]
        rintro ⟨_, g2, g3⟩
        have hs : rdN b (some p0) = ((rdN b (atS at_)).1, some p1) := by rw [← hp0, ← hs1]
        rw [hat.2] at g3
        have := msg_early hlen g2 g3 hs
        omega
      · rw [brk_neg (decide_eq_false h2)]
        rw [hs1] at e2
        rw [Option.isSome_some] at e2
        simp only [e2, e3, e4, e5, e6, Option.bind_some, ← hs1]
        have hacc := accOk_nil hr (rdN b (rdN b (rdN b (rdN b (rdN b (atS at_)).2).2).2).2).2
        have hn := rdN_spec hr (rdN b (rdN b (rdN b (rdN b (rdN b (atS at_)).2).2).2).2).2
        obtain ⟨N, hN⟩ := Int.eq_ofNat_of_zero_le hn.1
        have hk : ∀ l s, spec_MsgBytes_F (((rdN b (rdN b (atS at_)).2).1, ((rdN b (rdN b (rdN b (atS at_)).2).2).1, ((rdN b (rdN b (rdN b (rdN b (atS at_)).2).2).2).1, ((rdN b (rdN b (rdN b (rdN b (rdN b (atS at_)).2).2).2).2).1, (l, ()))))), ()) = some ((msgB (((rdN b (rdN b (atS at_)).2).1, ((rdN b (rdN b (rdN b (atS at_)).2).2).1, ((rdN b (rdN b (rdN b (rdN b (atS at_)).2).2).2).1, ((rdN b (rdN b (rdN b (rdN b (rdN b (atS at_)).2).2).2).2).1, (l, ()))))) : tMsg.D), ()), ((), ())) ∨ ¬ (AccOk b s l) := fun l s => by
          by_cases h : AccOk b s l
          · exact .inl (spec_MsgBytes_ok (((rdN b (rdN b (atS at_)).2).1, ((rdN b (rdN b (rdN b (atS at_)).2).2).1, ((rdN b (rdN b (rdN b (rdN b (atS at_)).2).2).2).1, ((rdN b (rdN b (rdN b (rdN b (rdN b (atS at_)).2).2).2).2).1, (l, ()))))) : tMsg.D) (Nat.le_trans h.len (by omega)))
          · exact .inr h
        have hmd : rdMsg b (atS at_) = (((rdN b (rdN b (atS at_)).2).1, ((rdN b (rdN b (rdN b (atS at_)).2).2).1, ((rdN b (rdN b (rdN b (rdN b (atS at_)).2).2).2).1, ((rdN b (rdN b (rdN b (rdN b (rdN b (atS at_)).2).2).2).2).1, ((rdL b N (rdN b (rdN b (rdN b (rdN b (rdN b (rdN b (atS at_)).2).2).2).2).2).2 []).1, ()))))), (rdL b N (rdN b (rdN b (rdN b (rdN b (rdN b (rdN b (atS at_)).2).2).2).2).2).2 []).2) := by
          rw [← Int.toNat_natCast N, ← hN]; rfl
        have hres : some (((msgOfP b at_).1, ((msgOfP b at_).2.1, ((msgOfP b at_).2.2, ()))), ((), ((), ()))) = some (((msgOfP b at_).1, ((msgOfP b at_).2.1, ((msgOfP b at_).2.2, ()))), ((), ((), ()))) := rfl
        rw [hN]
        generalize hK1 : (rdN b (rdN b (atS at_)).2).1 = k1 at *
        generalize hK2 : (rdN b (rdN b (rdN b (atS at_)).2).2).1 = k2 at *
        generalize hK3 : (rdN b (rdN b (rdN b (rdN b (atS at_)).2).2).2).1 = k3 at *
        generalize hK4 : (rdN b (rdN b (rdN b (rdN b (rdN b (atS at_)).2).2).2).2).1 = k4 at *
        generalize hS6 : (rdN b (rdN b (rdN b (rdN b (rdN b (rdN b (atS at_)).2).2).2).2).2).2 = s6' at *
        have fin : ∀ (l : List Int) (s : Option Nat) (x : Int), AccOk b s l → rdL b 0 s l = rdL b N s6' [] ∨ (s = none ∧ (l, none) = rdL b N s6' []) → spec_MsgOf_K0 b at_ (.exit 0) (spec_MsgOf_x0_0 b at_ 0 0 0 0 k1 k2 k3 k4 b x s.isSome l) = some (((msgOfP b at_).1, ((msgOfP b at_).2.1, ((msgOfP b at_).2.2, ()))), ((), ((), ()))) := fun l s x hA hL => by
          have hL' : rdL b N s6' [] = (l, s) := by
            rcases hL with h | ⟨rfl, h⟩
            · rw [← h]; rfl
            · exact h.symm
          rw [hL'] at hmd
          have hml := msgB_len (k1, k2, k3, k4, l, ())
          simp only at hml
          have hal := hA.len
          rw [spec_MsgOf_e0_0, (hk l s).resolve_right fun h => h hA]
          simp only [Option.bind_some]
          unfold msgOfP
          rw [hmd]
          simp only
          cases s with
          | none => rw [Option.isSome_none, Bool.not_false, brk_true, if_neg fun h => by simp at h]
          | some q =>
            rw [Option.isSome_some, Bool.not_true, brk_false]
            by_cases g2 : msgB (k1, k2, k3, k4, l, ()) = []
            · rw [brk_pos (decide_eq_true (by rw [g2]; rfl)), if_neg fun h => h.2.1 g2]
            · rw [brk_neg (decide_eq_false fun h => g2 (List.length_eq_zero_iff.1 (by omega))), wrap64 (x := (b.length : Int) - at_) (by omega) (by omega)]
              by_cases g3 : msgB (k1, k2, k3, k4, l, ()) <+: b.drop at_.toNat
              · have hle := g3.length_le
                rw [List.length_drop] at hle
                have heq : (b.take (at_ + ((msgB (k1, k2, k3, k4, l, ())).length : Int)).toNat).drop at_.toNat = msgB (k1, k2, k3, k4, l, ()) := by
                  rw [List.drop_take, show (at_ + ((msgB (k1, k2, k3, k4, l, ())).length : Int)).toNat - at_.toNat = (msgB (k1, k2, k3, k4, l, ())).length by omega]
                  exact (List.prefix_iff_eq_take.1 g3).symm
                rw [brk_neg (decide_eq_false (by omega)), wrap64 (x := at_ + _) (by omega) (by omega), ck_pos (by simp; omega), heq, decide_eq_true rfl, Bool.not_true, brk_false, if_pos ⟨rfl, g2, g3⟩]
              · rw [if_neg fun h => g3 h.2.2]
                by_cases g4 : (b.length : Int) - at_ < ((msgB (k1, k2, k3, k4, l, ())).length : Int)
                · rw [brk_pos (decide_eq_true g4)]
                · have hne : msgB (k1, k2, k3, k4, l, ()) ≠ (b.take (at_ + ((msgB (k1, k2, k3, k4, l, ())).length : Int)).toNat).drop at_.toNat := fun e => by
                    rw [List.drop_take, show (at_ + ((msgB (k1, k2, k3, k4, l, ())).length : Int)).toNat - at_.toNat = (msgB (k1, k2, k3, k4, l, ())).length by omega] at e
                    exact g3 (List.prefix_iff_eq_take.2 e)
                  rw [brk_neg (decide_eq_false g4), wrap64 (x := at_ + _) (by omega) (by omega), ck_pos (by simp; omega), decide_eq_false hne, Bool.not_false, brk_true]
        obtain ⟨m, v, hh, rfl⟩ := for_loop (σ := List Int × Option Nat × Int) (G := fun n i z => iterG spec_MsgOf_t0 spec_MsgOf_B0 (spec_MsgOf_K0 b at_) n ((b, (at_, ((N : Int), ((i : Int), ())))), (((0 : Int), ((0 : Int), ((0 : Int), ((0 : Int), ())))), ((k1, (k2, (k3, (k4, ())))), ((b, (z.2.2, (z.2.1.isSome, ()))), (z.1, ()))))))
          N (fun i z => RepS z.2.1 z.2.2 z.2.1.isSome ∧ AccOk b z.2.1 z.1 ∧ rdL b (N - i) z.2.1 z.1 = rdL b N s6' [] ∧ z.2.2 ≤ 9223372036854775807) (· = some (((msgOfP b at_).1, ((msgOfP b at_).2.1, ((msgOfP b at_).2.2, ()))), ((), ((), ()))))
          (fun i z hi ⟨hI1, hI2, hI3, hI4⟩ => by
            obtain ⟨acc, s2, at2⟩ := z
            simp only at hI1 hI2 hI3 hI4 ⊢
            cases s2 with
            | none =>
              rw [show N - i = (N - i - 1) + 1 by omega, rdL] at hI3
              refine .inl ⟨_, rfl, fun n => ?_⟩
              rw [spec_MsgOf_r0, brk_lt hi, Option.isSome_none, brk_false]
              exact fin acc none at2 hI2 (.inr ⟨rfl, hI3⟩)
            | some a =>
              rw [show N - i = (N - i - 1) + 1 by omega, rdL] at hI3
              obtain ⟨rfl, _⟩ := hI1
              have hlen := hI2.len
              obtain ⟨at3, e3, r3, _, l3⟩ := spec_num_ok (s := some a) (at_ := (a : Int)) (ok := true) hb' hr hI4 ⟨rfl, rfl⟩
              refine .inr ⟨(acc ++ [(rdN b (some a)).1], (rdN b (some a)).2, at3), ⟨r3, hI2.step hr _, ?_, l3⟩, fun n => ?_⟩
              · rw [← hI3, show N - (i + 1) = N - i - 1 by omega]
              · rw [spec_MsgOf_r0, brk_lt hi, Option.isSome_some, brk_true]
                simp only [e3, Option.bind_some]
                rw [ck_pos (by simp [big47]; omega), step_nat i (by omega)])
          (fun z ⟨hI1, hI2, hI3, hI4⟩ => by
            obtain ⟨acc, s2, at2⟩ := z
            simp only at hI1 hI2 hI3 ⊢
            rw [Nat.sub_self] at hI3
            exact ⟨_, rfl, fun n => by rw [spec_MsgOf_r0, brk_nlt (by omega)]; exact fin acc s2 at2 hI2 (.inl hI3)⟩) ([], s6', a6) ⟨r6, hacc, by rw [Nat.sub_zero], l6⟩
        exact spec_MsgOf_l0 m hh ⟨_, rfl⟩
  · rw [show (rdN b (atS at_)).2.isSome = false by simpa using h1, Bool.not_false, brk_true]
    unfold msgOfP
    rw [if_neg]
    rintro ⟨g1, _⟩
    obtain ⟨a, a1', n', _, _, e⟩ := rdMsg_none hr g1
    rw [e] at h1
    exact h1 rfl
theorem marks_getD (f : Int → Int) : ∀ (n : Nat) (k : Int) (i : Nat), i < n → (marks f k n).getD i 0 = f (k + i)
  | 0, _, i, h => by omega
  | n + 1, k, 0, h => by simp [marks]
  | n + 1, k, i + 1, h => by
    rw [marks, List.getD_cons_succ, marks_getD f n (k + 1) i (by omega)]
    congr 1; omega
theorem heldIntS_ok (n : Nat) (k : Int) (hb : n ≤ 1125899906842624) (h0 : 0 ≤ k) (hk : k ≤ 1125899906842624) (hbb : n ≤ big47) : laws_heldIntS_F (marks id k n, (k, ())) = some ((k + n, ()), ((), ((), ()))) := by
  rw [big47_eq] at hbb
  rw [laws_heldIntS_main]
  have hl := marks_len id n k
  obtain ⟨m, v, hh, rfl⟩ := for_loop (σ := Unit) (G := fun m i _ => iterG laws_heldIntS_t0 laws_heldIntS_B0 (laws_heldIntS_K0 (marks id k n) k) m ((marks id k n, (k + i, ((i : Int), ()))), ())) n (fun i _ => True) (· = some ((k + n, ()), ((), ((), ()))))
    (fun i _ hi _ => .inr ⟨(), trivial, fun m => by
      dsimp only
      rw [laws_heldIntS_r0, hl, brk_lt hi, ck_idx hi, rdD_nat, show tI.zero = 0 from rfl, marks_getD id n k i hi, brk_neg (by simp), step_nat i (by omega), wrap64 (by omega) (by omega)]
      rw [show k + (i : Int) + 1 = k + ((i + 1 : Nat) : Int) by omega]⟩)
    (fun _ _ => ⟨_, rfl, fun m => by
      dsimp only
      rw [laws_heldIntS_r0, hl, brk_nlt (by omega), laws_heldIntS_e0_1]⟩) () trivial
  rw [show k + ((0 : Nat) : Int) = k by simp] at hh
  exact laws_heldIntS_l0 m hh ⟨_, rfl⟩
theorem toByteS_ok (xs : List Int) (hb : xs.length ≤ 1048576) : laws_toByteS_F (xs, ()) = some ((xs, ()), ((), ())) := by
  rw [laws_toByteS_main, ck_pos (by simp; omega)]
  obtain ⟨n, v, hh, rfl⟩ := for_loop (σ := List Int) (G := fun n i s => iterG laws_toByteS_t0 laws_toByteS_B0 (laws_toByteS_K0 xs) n ((xs, ((i : Int), ())), (s, ()))) xs.length (fun i s => s.length = xs.length ∧ s.take i = xs.take i) (· = some ((xs, ()), ((), ())))
    (fun i s hi ⟨hI1, hI2⟩ => by
      refine .inr ⟨s.set i (xs.getD i 0), ⟨by simpa using hI1, ?_⟩, fun n => ?_⟩
      · rw [getD_at hi]; exact take_set_next hI1 hi hI2
      · dsimp only
        rw [laws_toByteS_r0, brk_lt hi, ck_idx hi, ck_idx (by omega), step_nat i (by omega)]; rfl)
    (fun s ⟨hI1, hI2⟩ => ⟨_, rfl, fun n => by
      dsimp only
      rw [laws_toByteS_r0, brk_nlt (by omega), laws_toByteS_e0_0]
      rw [List.take_of_length_le (by omega), List.take_of_length_le (by omega)] at hI2
      rw [hI2]⟩) (List.replicate xs.length 0) ⟨by simp, by simp⟩
  exact laws_toByteS_l0 n hh ⟨_, rfl⟩
def Byte (b : List Int) : Prop := ∀ x ∈ b, (0 : Int) ≤ x ∧ x ≤ 255
theorem Byte.app {a b : List Int} (ha : Byte a) (hb : Byte b) : Byte (a ++ b) := fun x hx => (List.mem_append.1 hx).elim (ha x) (hb x)
theorem fourB_byte (n : Int) : Byte (fourB n) := fun x hx => by
  unfold fourB at hx
  simp only [List.mem_cons, List.not_mem_nil, or_false] at hx
  omega
def Nums (xs : List Int) : Prop := ∀ x ∈ xs, 0 ≤ x ∧ x ≤ 2147483647
theorem gensAll_in : ∀ {g seen : List Int}, gensAll seen g = true → ∀ x ∈ g, 1 ≤ x ∧ x ≤ 100000
  | [], _, _, x, hx => by cases hx
  | y :: g, seen, h, x, hx => by
    unfold gensAll at h
    simp only [Bool.and_eq_true, decide_eq_true_eq] at h
    rcases List.mem_cons.1 hx with rfl | hx
    · omega
    · exact gensAll_in h.2 x hx
theorem gens_nums {g : List Int} (h : gensB g = true) : Nums g := fun x hx => by
  unfold gensB at h
  rw [Bool.and_eq_true] at h
  have := gensAll_in h.1 x hx
  omega
/-- A run from n on (d: how many more it may have). -/
def runF (b : List Int) (at_ back : Nat) : Nat → Nat → Nat
  | 0, n => n
  | d + 1, n => if at_ + n < b.length ∧ b.getD (at_ + n) 0 = b.getD (at_ + n - back) 0 then runF b at_ back d (n + 1) else n
/-- Run. -/
def runP (b : List Int) (at_ back : Nat) : Nat := runF b at_ back 100 0
/-- The longest run, and how far behind it is (d: how many more places behind are tried). -/
def bestF (b : List Int) (at_ : Nat) : Nat → Nat → Nat × Nat → Nat × Nat
  | 0, _, r => r
  | d + 1, back, r => bestF b at_ d (back + 1) (if runP b at_ back > r.1 then (runP b at_ back, back) else r)
def bestP (b : List Int) (at_ : Nat) : Nat × Nat := bestF b at_ (min 255 at_) 1 (0, 0)
def squF (b : List Int) : Nat → Nat → List Int
  | 0, _ => []
  | d + 1, at_ => if at_ < b.length then
      if (bestP b at_).1 ≥ 3 then ((128 + (bestP b at_).1 : Nat) : Int) :: ((bestP b at_).2 : Int) :: squF b d (at_ + (bestP b at_).1)
      else if b.getD at_ 0 > 0 ∧ b.getD at_ 0 < 128 then b.getD at_ 0 :: squF b d (at_ + 1)
      else 0 :: b.getD at_ 0 :: squF b d (at_ + 1)
    else []
/-- Squeeze. -/
def squP (b : List Int) : List Int := if b.length > 3000 then [] else squF b b.length 0
theorem runF_spec (b : List Int) (at_ back : Nat) : ∀ (d n : Nat), at_ + n ≤ b.length → (∀ j, j < n → b.getD (at_ + j) 0 = b.getD (at_ + j - back) 0) →
    n ≤ runF b at_ back d n ∧ runF b at_ back d n ≤ n + d ∧ at_ + runF b at_ back d n ≤ b.length ∧ ∀ j, j < runF b at_ back d n → b.getD (at_ + j) 0 = b.getD (at_ + j - back) 0
  | 0, n, h1, h2 => ⟨Nat.le_refl _, Nat.le_refl _, h1, h2⟩
  | d + 1, n, h1, h2 => by
    unfold runF
    by_cases h : at_ + n < b.length ∧ b.getD (at_ + n) 0 = b.getD (at_ + n - back) 0
    · rw [if_pos h]
      obtain ⟨q1, q2, q3, q4⟩ := runF_spec b at_ back d (n + 1) (by omega) (fun j hj => by
        by_cases e : j = n
        · subst e; exact h.2
        · exact h2 j (by omega))
      exact ⟨by omega, by omega, q3, q4⟩
    · rw [if_neg h]
      exact ⟨Nat.le_refl _, by omega, h1, h2⟩
theorem runP_spec (b : List Int) (at_ back : Nat) (h : at_ ≤ b.length) : runP b at_ back ≤ 100 ∧ at_ + runP b at_ back ≤ b.length ∧ ∀ j, j < runP b at_ back → b.getD (at_ + j) 0 = b.getD (at_ + j - back) 0 := by
  obtain ⟨_, q2, q3, q4⟩ := runF_spec b at_ back 100 0 (by omega) (fun j hj => by omega)
  exact ⟨by unfold runP; omega, q3, q4⟩
theorem bestF_spec (b : List Int) (at_ : Nat) : ∀ (d back : Nat) (r : Nat × Nat), back + d = min 255 at_ + 1 → 1 ≤ back → (r = (0, 0) ∨ (1 ≤ r.2 ∧ r.2 ≤ min 255 at_ ∧ r.1 = runP b at_ r.2)) →
    bestF b at_ d back r = (0, 0) ∨ (1 ≤ (bestF b at_ d back r).2 ∧ (bestF b at_ d back r).2 ≤ min 255 at_ ∧ (bestF b at_ d back r).1 = runP b at_ (bestF b at_ d back r).2)
  | 0, back, r, h1, h2, h3 => h3
  | d + 1, back, r, h1, h2, h3 => by
    unfold bestF
    refine bestF_spec b at_ d (back + 1) _ (by omega) (by omega) ?_
    split
    · exact .inr ⟨h2, by omega, rfl⟩
    · exact h3
theorem bestP_spec (b : List Int) (at_ : Nat) : bestP b at_ = (0, 0) ∨ (1 ≤ (bestP b at_).2 ∧ (bestP b at_).2 ≤ min 255 at_ ∧ (bestP b at_).1 = runP b at_ (bestP b at_).2) :=
  bestF_spec b at_ _ _ _ (by omega) (by omega) (.inl rfl)
theorem bestP_use (b : List Int) (at_ : Nat) (h : at_ ≤ b.length) (h3 : (bestP b at_).1 ≥ 3) : 1 ≤ (bestP b at_).2 ∧ (bestP b at_).2 ≤ 255 ∧ (bestP b at_).2 ≤ at_ ∧ (bestP b at_).1 ≤ 100 ∧ at_ + (bestP b at_).1 ≤ b.length ∧ ∀ j, j < (bestP b at_).1 → b.getD (at_ + j) 0 = b.getD (at_ + j - (bestP b at_).2) 0 := by
  rcases bestP_spec b at_ with e | ⟨e1, e2, e3⟩
  · rw [e] at h3; omega
  · have hs := runP_spec b at_ (bestP b at_).2 h
    rw [← e3] at hs
    exact ⟨e1, by omega, by omega, hs.1, hs.2.1, hs.2.2⟩
def copyF : Nat → Nat → List Int → List Int
  | 0, _, o => o
  | d + 1, y, o => copyF d y (o ++ [o.getD (o.length - y) 0])
theorem copyF_length : ∀ (d y : Nat) (o : List Int), (copyF d y o).length = o.length + d
  | 0, y, o => rfl
  | d + 1, y, o => by rw [copyF, copyF_length d y]; simp; omega
def sprF : List Int → List Int → Option (List Int)
  | [], o => some o
  | [x], o => if 1 ≤ x ∧ x ≤ 127 then some (o ++ [x]) else none
  | x :: y :: l, o => if 1 ≤ x ∧ x ≤ 127 then sprF (y :: l) (o ++ [x])
      else if x = 0 then if 1 ≤ y ∧ y ≤ 127 then none else sprF l (o ++ [y])
      else if 131 ≤ x ∧ x ≤ 228 then if 1 ≤ y ∧ y ≤ o.length then sprF l (copyF (x - 128).toNat y.toNat o) else none
      else none
def sprR : Option (List Int) → List Int × Bool
  | none => ([], false)
  | some o => if o.length > 3000 then ([], false) else (o, true)
/-- Spread. -/
def sprP (b : List Int) : List Int × Bool := sprR (sprF b [])
theorem sprF_lit (x : Int) (l o : List Int) (h : 1 ≤ x ∧ x ≤ 127) : sprF (x :: l) o = sprF l (o ++ [x]) := by
  cases l with
  | nil => simp only [sprF]; rw [if_pos h]
  | cons y l => rw [sprF, if_pos h]
theorem sprF_grows : ∀ (n : Nat) (l o r : List Int), l.length ≤ n → sprF l o = some r → o.length ≤ r.length
  | 0, l, o, r, hn, h => by
    have : l = [] := List.eq_nil_of_length_eq_zero (by omega)
    subst this
    rw [sprF] at h
    cases h
    exact Nat.le_refl _
  | n + 1, l, o, r, hn, h => by
    match l, hn, h with
    | [], hn, h => rw [sprF] at h; cases h; exact Nat.le_refl _
    | [x], hn, h =>
      rw [sprF] at h
      by_cases hx : 1 ≤ x ∧ x ≤ 127
      · rw [if_pos hx] at h; cases h; simp
      · rw [if_neg hx] at h; cases h
    | x :: y :: l, hn, h =>
      simp only [List.length_cons] at hn
      rw [sprF] at h
      by_cases hx : 1 ≤ x ∧ x ≤ 127
      · rw [if_pos hx] at h
        have := sprF_grows n (y :: l) _ r (by simp; omega) h
        simp only [List.length_append, List.length_cons, List.length_nil] at this
        omega
      rw [if_neg hx] at h
      by_cases h0 : x = 0
      · rw [if_pos h0] at h
        by_cases hy : 1 ≤ y ∧ y ≤ 127
        · rw [if_pos hy] at h; cases h
        · rw [if_neg hy] at h
          have := sprF_grows n l _ r (by omega) h
          simp only [List.length_append, List.length_cons, List.length_nil] at this
          omega
      rw [if_neg h0] at h
      by_cases h1 : 131 ≤ x ∧ x ≤ 228
      · rw [if_pos h1] at h
        by_cases hy : 1 ≤ y ∧ y ≤ o.length
        · rw [if_pos hy] at h
          have := sprF_grows n l _ r (by omega) h
          rw [copyF_length] at this
          omega
        · rw [if_neg hy] at h; cases h
      · rw [if_neg h1] at h; cases h
theorem sprR_long (l o : List Int) (h : o.length > 3000) : sprR (sprF l o) = ([], false) := by
  cases e : sprF l o with
  | none => rfl
  | some r =>
    have := sprF_grows _ l o r (Nat.le_refl _) e
    rw [sprR, if_pos (by omega)]
theorem sprR_length (x : Option (List Int)) : (sprR x).1.length ≤ 3000 := by
  cases x with
  | none => simp [sprR]
  | some o => rw [sprR]; by_cases h : o.length > 3000
              · rw [if_pos h]; simp
              · rw [if_neg h]; simp only; omega
theorem sprP_length (b : List Int) : (sprP b).1.length ≤ 3000 := sprR_length _
theorem sprF_one (x : Int) (o : List Int) (h : ¬ (1 ≤ x ∧ x ≤ 127)) : sprF [x] o = none := by rw [sprF, if_neg h]
theorem sprF_zero (y : Int) (l o : List Int) : sprF (0 :: y :: l) o = if 1 ≤ y ∧ y ≤ 127 then none else sprF l (o ++ [y]) := by
  rw [sprF, if_neg (by omega), if_pos rfl]
theorem sprF_bad (x y : Int) (l o : List Int) (h : ¬ (1 ≤ x ∧ x ≤ 127)) (h0 : x ≠ 0) (h1 : ¬ (131 ≤ x ∧ x ≤ 228)) : sprF (x :: y :: l) o = none := by
  rw [sprF, if_neg h, if_neg h0, if_neg h1]
theorem sprF_copy (x y : Int) (l o : List Int) (h1 : 131 ≤ x ∧ x ≤ 228) : sprF (x :: y :: l) o = if 1 ≤ y ∧ y ≤ o.length then sprF l (copyF (x - 128).toNat y.toNat o) else none := by
  rw [sprF, if_neg (by omega), if_neg (by omega), if_pos h1]
theorem spec_l1Min_ok (a : Nat) : spec_l1Min_F ((a : Int), ((255 : Int), ())) = some ((((min 255 a : Nat) : Int), ()), ((), ((), ()))) := by
  rw [spec_l1Min_main]
  by_cases h : (a : Int) < 255
  · rw [brk_pos (decide_eq_true h), show min 255 a = a by omega]
  · rw [brk_neg (decide_eq_false h), show min 255 a = 255 by omega]; rfl
theorem impl_Run_ok (b : List Int) (at_ back : Nat) (h1 : 1 ≤ back) (h2 : back ≤ 255) (h3 : back ≤ at_) (h4 : at_ < b.length) (hb : b.length ≤ 3000000) : impl_Run_F (b, ((at_ : Int), ((back : Int), ()))) = some ((((runP b at_ back : Nat) : Int), ()), ((), ((), ((), ())))) := by
  rw [impl_Run_main]
  rw [brk_neg (decide_eq_false (by omega)), brk_neg (decide_eq_false (by omega)), brk_neg (decide_eq_false (by omega)), brk_neg (decide_eq_false (by omega))]
  obtain ⟨n, v, h, rfl⟩ := for_loop (σ := Unit) (G := fun n i _ => iterG impl_Run_t0 impl_Run_B0 (impl_Run_K0 b at_ back) n ((b, ((at_ : Int), ((back : Int), ((i : Int), ())))), ())) 100 (fun i _ => i ≤ 100 ∧ runF b at_ back (100 - i) i = runP b at_ back) (· = some ((((runP b at_ back : Nat) : Int), ()), ((), ((), ((), ())))))
    (fun i _ hi hI => by
      have e0 : IntKind.i64.wrap ((at_ : Int) + i) = ((at_ + i : Nat) : Int) := by rw [wrap64 (by omega) (by omega)]; omega
      have e1 : IntKind.i64.wrap (((at_ + i : Nat) : Int) - back) = ((at_ + i - back : Nat) : Int) := by rw [wrap64 (by omega) (by omega)]; omega
      obtain ⟨_, hI⟩ := hI
      rw [show 100 - i = (100 - (i + 1)) + 1 by omega, runF] at hI
      by_cases hc : at_ + i < b.length ∧ b.getD (at_ + i) 0 = b.getD (at_ + i - back) 0
      · rw [if_pos hc] at hI
        refine .inr ⟨(), ⟨by omega, hI⟩, fun n => ?_⟩
        dsimp only
        rw [impl_Run_r0, brk_pos (decide_eq_true (by omega)), e0, e1, brk_lt hc.1, ck_idx hc.1, ck_idx (by omega), rdD_nat, rdD_nat, show tY.zero = 0 from rfl, brk_pos (decide_eq_true hc.2), step_nat i (by omega)]
      · rw [if_neg hc] at hI
        refine .inl ⟨_, rfl, fun n => ?_⟩
        dsimp only
        rw [impl_Run_r0, brk_pos (decide_eq_true (by omega)), e0, e1]
        by_cases hl : at_ + i < b.length
        · rw [brk_lt hl, ck_idx hl, ck_idx (by omega), rdD_nat, rdD_nat, show tY.zero = 0 from rfl, brk_neg (decide_eq_false fun q => hc ⟨hl, q⟩), impl_Run_e0_0, ← hI]
        · rw [brk_nlt hl, impl_Run_e0_0, ← hI])
    (fun _ hI => by
      obtain ⟨_, hI⟩ := hI
      rw [Nat.sub_self, runF] at hI
      refine ⟨_, rfl, fun n => ?_⟩
      dsimp only
      rw [impl_Run_r0, brk_neg (decide_eq_false (by omega)), impl_Run_e0_0, ← hI]) () ⟨by omega, rfl⟩
  exact impl_Run_l0 n h ⟨_, rfl⟩
theorem spec_Run_ok (b : List Int) (at_ back : Nat) (h1 : 1 ≤ back) (h2 : back ≤ 255) (h3 : back ≤ at_) (h4 : at_ < b.length) (hb : b.length ≤ 3000000) : spec_Run_F (b, ((at_ : Int), ((back : Int), ()))) = some ((((runP b at_ back : Nat) : Int), ()), ((), ((), ((), ())))) := by
  rw [spec_Run_main]
  have e9 : IntKind.i64.wrap ((b.length : Int) - 1) = (b.length : Int) - 1 := wrap64 (by omega) (by omega)
  rw [spec_l1In_ok', e9, decide_eq_true (by omega)]
  simp only [Option.bind_some, Bool.not_true, brk_false]
  rw [spec_l1Min_ok]
  simp only [Option.bind_some]
  rw [spec_l1In_ok', decide_eq_true (by omega)]
  simp only [Option.bind_some, Bool.not_true, brk_false]
  obtain ⟨n, v, h, rfl⟩ := for_loop (σ := Unit) (G := fun n i _ => iterG spec_Run_t0 spec_Run_B0 (spec_Run_K0 b at_ back) n ((b, ((at_ : Int), ((back : Int), ((i : Int), ())))), ())) 100 (fun i _ => i ≤ 100 ∧ runF b at_ back (100 - i) i = runP b at_ back) (· = some ((((runP b at_ back : Nat) : Int), ()), ((), ((), ((), ())))))
    (fun i _ hi hI => by
      have e0 : IntKind.i64.wrap ((at_ : Int) + i) = ((at_ + i : Nat) : Int) := by rw [wrap64 (by omega) (by omega)]; omega
      have e1 : IntKind.i64.wrap (((at_ + i : Nat) : Int) - back) = ((at_ + i - back : Nat) : Int) := by rw [wrap64 (by omega) (by omega)]; omega
      obtain ⟨_, hI⟩ := hI
      rw [show 100 - i = (100 - (i + 1)) + 1 by omega, runF] at hI
      by_cases hc : at_ + i < b.length ∧ b.getD (at_ + i) 0 = b.getD (at_ + i - back) 0
      · rw [if_pos hc] at hI
        refine .inr ⟨(), ⟨by omega, hI⟩, fun n => ?_⟩
        dsimp only
        rw [spec_Run_r0, brk_pos (decide_eq_true (by omega)), e0, e1, brk_lt hc.1, ck_idx hc.1, ck_idx (by omega), rdD_nat, rdD_nat, show tY.zero = 0 from rfl, brk_pos (decide_eq_true hc.2), step_nat i (by omega)]
      · rw [if_neg hc] at hI
        refine .inl ⟨_, rfl, fun n => ?_⟩
        dsimp only
        rw [spec_Run_r0, brk_pos (decide_eq_true (by omega)), e0, e1]
        by_cases hl : at_ + i < b.length
        · rw [brk_lt hl, ck_idx hl, ck_idx (by omega), rdD_nat, rdD_nat, show tY.zero = 0 from rfl, brk_neg (decide_eq_false fun q => hc ⟨hl, q⟩), spec_Run_e0_0, ← hI]
        · rw [brk_nlt hl, spec_Run_e0_0, ← hI])
    (fun _ hI => by
      obtain ⟨_, hI⟩ := hI
      rw [Nat.sub_self, runF] at hI
      refine ⟨_, rfl, fun n => ?_⟩
      dsimp only
      rw [spec_Run_r0, brk_neg (decide_eq_false (by omega)), spec_Run_e0_0, ← hI]) () ⟨by omega, rfl⟩
  exact spec_Run_l0 n h ⟨_, rfl⟩
theorem impl_longest_ok (b : List Int) (at_ : Nat) (h4 : at_ < b.length) (hb : b.length ≤ 3000000) : impl_longest_F (b, ((at_ : Int), ())) = some (((((bestP b at_).1 : Nat) : Int), ((((bestP b at_).2 : Nat) : Int), ())), ((), ((), ()))) := by
  rw [impl_longest_main]
  obtain ⟨n, v, h, rfl⟩ := for_loop (σ := Nat × Nat) (G := fun n i s => iterG impl_longest_t0 impl_longest_B0 (impl_longest_K0 b at_) n ((b, ((at_ : Int), ((s.1 : Int), ((s.2 : Int), (((i + 1 : Nat) : Int), ()))))), ())) (min 255 at_) (fun i s => bestF b at_ (min 255 at_ - i) (i + 1) s = bestP b at_) (· = some (((((bestP b at_).1 : Nat) : Int), ((((bestP b at_).2 : Nat) : Int), ())), ((), ((), ()))))
    (fun i s hi hI => by
      obtain ⟨s1, s2⟩ := s
      have e1 : IntKind.i64.wrap (((i + 1 : Nat) : Int) + 1) = ((i + 1 + 1 : Nat) : Int) := step_nat (i + 1) (by omega)
      rw [show min 255 at_ - i = (min 255 at_ - (i + 1)) + 1 by omega, bestF] at hI
      have hr := impl_Run_ok b at_ (i + 1) (by omega) (by omega) (by omega) h4 hb
      refine .inr ⟨_, hI, fun n => ?_⟩
      dsimp only
      rw [impl_longest_r0]
      rw [brk_pos (decide_eq_true (by omega)), brk_pos (decide_eq_true (by omega))]
      rw [hr]
      simp only [Option.bind_some]
      by_cases hg : runP b at_ (i + 1) > s1
      · rw [brk_pos (decide_eq_true (by omega)), if_pos hg, e1]
      · rw [brk_neg (decide_eq_false (by omega)), if_neg hg, e1])
    (fun s hI => by
      obtain ⟨s1, s2⟩ := s
      rw [Nat.sub_self, bestF] at hI
      refine ⟨_, rfl, fun n => ?_⟩
      dsimp only
      rw [impl_longest_r0]
      by_cases h5 : at_ < 255
      · rw [brk_pos (decide_eq_true (by omega)), brk_neg (decide_eq_false (by omega)), impl_longest_e0_0, ← hI]
      · rw [brk_neg (decide_eq_false (by omega)), impl_longest_e0_0, ← hI]) (0, 0) rfl
  exact impl_longest_l0 n h ⟨_, rfl⟩
theorem spec_l3Best_ok (b : List Int) (at_ : Nat) (h4 : at_ < b.length) (hb : b.length ≤ 3000000) : spec_l3Best_F (b, ((at_ : Int), ())) = some (((((bestP b at_).2 : Nat) : Int), ((((bestP b at_).1 : Nat) : Int), ())), ((), ((), ()))) := by
  rw [spec_l3Best_main]
  obtain ⟨n, v, h, rfl⟩ := for_loop (σ := Nat × Nat) (G := fun n i s => iterG spec_l3Best_t0 spec_l3Best_B0 (spec_l3Best_K0 b at_) n ((b, ((at_ : Int), ((s.2 : Int), ((s.1 : Int), (((i + 1 : Nat) : Int), ()))))), ())) (min 255 at_) (fun i s => bestF b at_ (min 255 at_ - i) (i + 1) s = bestP b at_) (· = some (((((bestP b at_).2 : Nat) : Int), ((((bestP b at_).1 : Nat) : Int), ())), ((), ((), ()))))
    (fun i s hi hI => by
      obtain ⟨s1, s2⟩ := s
      have e1 : IntKind.i64.wrap (((i + 1 : Nat) : Int) + 1) = ((i + 1 + 1 : Nat) : Int) := step_nat (i + 1) (by omega)
      rw [show min 255 at_ - i = (min 255 at_ - (i + 1)) + 1 by omega, bestF] at hI
      have hr := spec_Run_ok b at_ (i + 1) (by omega) (by omega) (by omega) h4 hb
      refine .inr ⟨_, hI, fun n => ?_⟩
      dsimp only
      rw [spec_l3Best_r0]
      rw [spec_l1Min_ok]
      simp only [Option.bind_some]
      rw [brk_pos (decide_eq_true (by omega))]
      rw [hr]
      simp only [Option.bind_some]
      by_cases hg : runP b at_ (i + 1) > s1
      · rw [brk_pos (decide_eq_true (by omega)), if_pos hg, e1]
      · rw [brk_neg (decide_eq_false (by omega)), if_neg hg, e1])
    (fun s hI => by
      obtain ⟨s1, s2⟩ := s
      rw [Nat.sub_self, bestF] at hI
      refine ⟨_, rfl, fun n => ?_⟩
      dsimp only
      rw [spec_l3Best_r0]
      rw [spec_l1Min_ok]
      simp only [Option.bind_some]
      rw [brk_neg (decide_eq_false (by omega)), spec_l3Best_e0_0, ← hI]) (0, 0) rfl
  exact spec_l3Best_l0 n h ⟨_, rfl⟩
theorem sqE1 (n : Nat) (h : n ≤ 100) : IntKind.u8.wrap (IntKind.i64.wrap (128 + (n : Int))) = ((128 + n : Nat) : Int) := by rw [wrap64 (by omega) (by omega), wrap8m]; omega
theorem sqE2 (n : Nat) (h : n ≤ 255) : IntKind.u8.wrap (n : Int) = n := by rw [wrap8m]; omega
theorem sqE3 (i n m : Nat) (h : i + n ≤ m) (hm : m ≤ 3000000) : IntKind.i64.wrap ((i : Int) + n) = ((i + n : Nat) : Int) := by rw [wrap64 (by omega) (by omega)]; omega
theorem ck_len {R : Type} {n : Nat} (h : n ≤ 2000000) (a : Option R) : ck (decide (n * 1 ≤ big47)) a = a := ck_pos (decide_eq_true (by rw [big47_eq]; omega)) a
theorem tY_nat (b : List Int) (i : Nat) : rdD tY b (i : Int) = b.getD i 0 := rfl
theorem impl_Squeeze_run (b x0 : List Int) (hb : b.length ≤ 3000) (hbb : Byte b) : ∀ (d at_ : Nat) (acc : List Int), b.length ≤ at_ + d → at_ ≤ b.length → acc.length + 2 * (b.length - at_) ≤ 1000000 → ∃ n, iterG impl_Squeeze_t0 impl_Squeeze_B0 (impl_Squeeze_K0 x0) n ((b, ((at_ : Int), ())), (acc, ())) = some ((acc ++ squF b d at_, ()), ((), ()))
  | 0, at_, acc, h1, h2, h3 => ⟨1, by rw [impl_Squeeze_r0, brk_nlt (by omega), impl_Squeeze_e0_0, squF, List.append_nil]⟩
  | d + 1, at_, acc, h1, h2, h3 => by
    by_cases h0 : at_ < b.length
    · by_cases h5 : (bestP b at_).1 ≥ 3
      · obtain ⟨p1, p2, p3, p4, p5, p6⟩ := bestP_use b at_ h2 h5
        obtain ⟨n, hn⟩ := impl_Squeeze_run b x0 hb hbb d (at_ + (bestP b at_).1) (acc ++ [((128 + (bestP b at_).1 : Nat) : Int), ((bestP b at_).2 : Int)]) (by omega) p5 (by simp only [List.length_append, List.length_cons, List.length_nil]; omega)
        refine ⟨n + 1, ?_⟩
        rw [impl_Squeeze_r0, brk_lt h0, impl_longest_ok b at_ h0 (by omega)]
        simp only [Option.bind_some]
        rw [brk_pos (decide_eq_true (by omega)), sqE1 _ p4, sqE2 _ p2, sqE3 _ _ b.length p5 (by omega), ck_len (by simp only [List.length_cons, List.length_nil]; omega), hn, squF, if_pos h0, if_pos h5]
        simp
      · have hx : 0 ≤ b.getD at_ 0 ∧ b.getD at_ 0 ≤ 255 := by
          rw [getD_at h0]
          exact hbb _ (List.getElem_mem h0)
        by_cases h6 : b.getD at_ 0 > 0 ∧ b.getD at_ 0 < 128
        · obtain ⟨n, hn⟩ := impl_Squeeze_run b x0 hb hbb d (at_ + 1) (acc ++ [b.getD at_ 0]) (by omega) (by omega) (by simp only [List.length_append, List.length_cons, List.length_nil]; omega)
          refine ⟨n + 1, ?_⟩
          rw [impl_Squeeze_r0, brk_lt h0, impl_longest_ok b at_ h0 (by omega)]
          simp only [Option.bind_some]
          rw [brk_neg (decide_eq_false (by omega))]
          rw [tY_nat]
          simp only [ck_idx h0, step_nat at_ (by omega : at_ ≤ _)]
          rw [brk_pos (decide_eq_true (show 0 < b.getD at_ 0 from h6.1)), brk_pos (decide_eq_true h6.2), ck_len (by simp only [List.length_cons, List.length_nil]; omega), hn, squF, if_pos h0, if_neg h5, if_pos h6]
          simp
        · obtain ⟨n, hn⟩ := impl_Squeeze_run b x0 hb hbb d (at_ + 1) (acc ++ [0, b.getD at_ 0]) (by omega) (by omega) (by simp only [List.length_append, List.length_cons, List.length_nil]; omega)
          have fin : acc ++ [0, b.getD at_ 0] ++ squF b d (at_ + 1) = acc ++ squF b (d + 1) at_ := by
            rw [squF, if_pos h0, if_neg h5, if_neg h6]; simp
          rw [fin] at hn
          refine ⟨n + 1, ?_⟩
          rw [impl_Squeeze_r0, brk_lt h0, impl_longest_ok b at_ h0 (by omega)]
          simp only [Option.bind_some]
          rw [brk_neg (decide_eq_false (by omega))]
          rw [tY_nat]
          simp only [ck_idx h0, step_nat at_ (by omega : at_ ≤ _)]
          by_cases h7 : 0 < b.getD at_ 0
          · rw [brk_pos (decide_eq_true h7), brk_neg (decide_eq_false fun q => h6 ⟨h7, q⟩), ck_len (by simp only [List.length_append, List.length_cons, List.length_nil]; omega), hn]
          · rw [brk_neg (decide_eq_false h7), ck_len (by simp only [List.length_append, List.length_cons, List.length_nil]; omega), hn]
    · exact ⟨1, by rw [impl_Squeeze_r0, brk_nlt (by omega), impl_Squeeze_e0_0, squF, if_neg h0, List.append_nil]⟩
theorem impl_Squeeze_ok (b : List Int) (hbb : Byte b) : impl_Squeeze_F (b, ()) = some ((squP b, ()), ((), ())) := by
  rw [impl_Squeeze_main]
  unfold squP
  by_cases h : b.length > 3000
  · rw [brk_pos (decide_eq_true (by omega)), if_pos h]
  · rw [brk_neg (decide_eq_false (by omega)), if_neg h]
    obtain ⟨n, hn⟩ := impl_Squeeze_run b b (by omega) hbb b.length 0 [] (by omega) (by omega) (by simp; omega)
    exact impl_Squeeze_l0 n hn ⟨_, rfl⟩
theorem spec_Squeeze_run (b x0 : List Int) (hb : b.length ≤ 3000) (hbb : Byte b) : ∀ (d at_ : Nat) (acc : List Int), b.length ≤ at_ + d → at_ ≤ b.length → acc.length + 2 * (b.length - at_) ≤ 1000000 → ∃ n, iterG spec_Squeeze_t0 spec_Squeeze_B0 (spec_Squeeze_K0 x0) n ((b, ((at_ : Int), ())), (acc, ())) = some ((acc ++ squF b d at_, ()), ((), ()))
  | 0, at_, acc, h1, h2, h3 => ⟨1, by rw [spec_Squeeze_r0, brk_nlt (by omega), spec_Squeeze_e0_0, squF, List.append_nil]⟩
  | d + 1, at_, acc, h1, h2, h3 => by
    by_cases h0 : at_ < b.length
    · by_cases h5 : (bestP b at_).1 ≥ 3
      · obtain ⟨p1, p2, p3, p4, p5, p6⟩ := bestP_use b at_ h2 h5
        obtain ⟨n, hn⟩ := spec_Squeeze_run b x0 hb hbb d (at_ + (bestP b at_).1) (acc ++ [((128 + (bestP b at_).1 : Nat) : Int), ((bestP b at_).2 : Int)]) (by omega) p5 (by simp only [List.length_append, List.length_cons, List.length_nil]; omega)
        refine ⟨n + 1, ?_⟩
        rw [spec_Squeeze_r0, brk_lt h0, spec_l3Best_ok b at_ h0 (by omega)]
        simp only [Option.bind_some]
        rw [brk_pos (decide_eq_true (by omega)), sqE1 _ p4, sqE2 _ p2, sqE3 _ _ b.length p5 (by omega), ck_len (by simp only [List.length_cons, List.length_nil]; omega), hn, squF, if_pos h0, if_pos h5]
        simp
      · have hx : 0 ≤ b.getD at_ 0 ∧ b.getD at_ 0 ≤ 255 := by
          rw [getD_at h0]
          exact hbb _ (List.getElem_mem h0)
        by_cases h6 : b.getD at_ 0 > 0 ∧ b.getD at_ 0 < 128
        · obtain ⟨n, hn⟩ := spec_Squeeze_run b x0 hb hbb d (at_ + 1) (acc ++ [b.getD at_ 0]) (by omega) (by omega) (by simp only [List.length_append, List.length_cons, List.length_nil]; omega)
          refine ⟨n + 1, ?_⟩
          rw [spec_Squeeze_r0, brk_lt h0, spec_l3Best_ok b at_ h0 (by omega)]
          simp only [Option.bind_some]
          rw [brk_neg (decide_eq_false (by omega))]
          rw [tY_nat]
          simp only [ck_idx h0, step_nat at_ (by omega : at_ ≤ _)]
          rw [brk_neg (decide_eq_false (show ¬ b.getD at_ 0 = 0 by omega)), brk_neg (decide_eq_false (show ¬ 127 < b.getD at_ 0 by omega)), ck_len (by simp only [List.length_cons, List.length_nil]; omega), hn, squF, if_pos h0, if_neg h5, if_pos h6]
          simp
        · obtain ⟨n, hn⟩ := spec_Squeeze_run b x0 hb hbb d (at_ + 1) (acc ++ [0, b.getD at_ 0]) (by omega) (by omega) (by simp only [List.length_append, List.length_cons, List.length_nil]; omega)
          have fin : acc ++ [0, b.getD at_ 0] ++ squF b d (at_ + 1) = acc ++ squF b (d + 1) at_ := by
            rw [squF, if_pos h0, if_neg h5, if_neg h6]; simp
          rw [fin] at hn
          refine ⟨n + 1, ?_⟩
          rw [spec_Squeeze_r0, brk_lt h0, spec_l3Best_ok b at_ h0 (by omega)]
          simp only [Option.bind_some]
          rw [brk_neg (decide_eq_false (by omega))]
          rw [tY_nat]
          simp only [ck_idx h0, step_nat at_ (by omega : at_ ≤ _)]
          simp only [List.append_assoc, List.cons_append, List.nil_append]
          by_cases h7 : b.getD at_ 0 = 0
          · rw [brk_pos (decide_eq_true h7), ck_len (by simp only [List.length_append, List.length_cons, List.length_nil]; omega), ck_len (by simp only [List.length_append, List.length_cons, List.length_nil]; omega), hn]
          · rw [brk_neg (decide_eq_false h7), brk_pos (decide_eq_true (show 127 < b.getD at_ 0 by omega)), ck_len (by simp only [List.length_append, List.length_cons, List.length_nil]; omega), ck_len (by simp only [List.length_append, List.length_cons, List.length_nil]; omega), hn]
    · exact ⟨1, by rw [spec_Squeeze_r0, brk_nlt (by omega), spec_Squeeze_e0_0, squF, if_neg h0, List.append_nil]⟩
theorem spec_Squeeze_ok (b : List Int) (hbb : Byte b) : spec_Squeeze_F (b, ()) = some ((squP b, ()), ((), ())) := by
  rw [spec_Squeeze_main]
  unfold squP
  by_cases h : b.length > 3000
  · rw [brk_pos (decide_eq_true (by omega)), if_pos h]
  · rw [brk_neg (decide_eq_false (by omega)), if_neg h]
    obtain ⟨n, hn⟩ := spec_Squeeze_run b b (by omega) hbb b.length 0 [] (by omega) (by omega) (by simp; omega)
    exact spec_Squeeze_l0 n hn ⟨_, rfl⟩
theorem drop_get {b : List Int} {i : Nat} (h : i < b.length) : b.drop i = b.getD i 0 :: b.drop (i + 1) := by
  rw [List.drop_eq_getElem_cons h, getD_at h]
theorem ck_len2 {R : Type} {n : Nat} (h : n ≤ 200000000) (a : Option R) : ck (decide (n * 1 ≤ big47)) a = a := ck_pos (decide_eq_true (by rw [big47_eq]; omega)) a
theorem impl_Spread_in {R : Type} (K : Ex → AS → Option R) (t0 : List Int) (t5 : Int) (y : Nat) (t36 : Int) (t37 t38 t42 : Bool) (t63 t65 : Int) (t66 : Bool) (c : Int) : ∀ (m k : Nat) (o : List Int), c = ((k + m : Nat) : Int) → 1 ≤ y → y ≤ o.length → o.length + m ≤ 200000000 → k + m ≤ 1000 →
    iterG impl_Spread_t2 impl_Spread_B2 K (m + 1) ((t0, (t5, ((y : Int), (t36, (t37, (t38, (t42, (t63, (t65, (t66, (c, ((k : Int), ())))))))))))), (o, ())) = K (.exit 2) (impl_Spread_x2_0 t0 t5 t36 t37 t38 t42 t63 t65 t66 (copyF m y o))
  | 0, k, o, hc, h1, h2, h3, h4 => by
    rw [impl_Spread_r2, brk_neg (decide_eq_false (by omega))]; rfl
  | m + 1, k, o, hc, h1, h2, h3, h4 => by
    have e : IntKind.i64.wrap ((o.length : Int) - y) = ((o.length - y : Nat) : Int) := by rw [wrap64 (by omega) (by omega)]; omega
    rw [impl_Spread_r2, brk_pos (decide_eq_true (by omega)), e, ck_idx (by omega), tY_nat, ck_len2 (by simp only [List.length_cons, List.length_nil]; omega), step_nat k (by omega), copyF]
    exact impl_Spread_in K t0 t5 y t36 t37 t38 t42 t63 t65 t66 c m (k + 1) _ (by omega) h1 (by simp only [List.length_append, List.length_cons, List.length_nil]; omega) (by simp only [List.length_append, List.length_cons, List.length_nil]; omega) (by omega)
theorem spec_Spread_in {R : Type} (K : Ex → AS → Option R) (t0 : List Int) (t6 : Int) (x : Int) (y : Nat) (t64 t66 : Int) (t67 t68 : Bool) (a160 : List Int) : ∀ (m k : Nat) (o : List Int), IntKind.i64.wrap (x - 128) = ((k + m : Nat) : Int) → 1 ≤ y → y ≤ o.length → o.length + m ≤ 200000000 → k + m ≤ 1000 →
    iterG spec_Spread_t2 spec_Spread_B2 K (m + 1) ((t0, (t6, (x, ((y : Int), ((k : Int), (t64, (t66, (t67, (t68, ()))))))))), (a160, (o, ()))) = K (.exit 2) (spec_Spread_x2_0 t0 t6 t64 t66 t67 t68 a160 (copyF m y o))
  | 0, k, o, hc, h1, h2, h3, h4 => by
    rw [spec_Spread_r2, brk_neg (decide_eq_false (by omega))]; rfl
  | m + 1, k, o, hc, h1, h2, h3, h4 => by
    have e : IntKind.i64.wrap ((o.length : Int) - y) = ((o.length - y : Nat) : Int) := by rw [wrap64 (by omega) (by omega)]; omega
    rw [spec_Spread_r2, brk_pos (decide_eq_true (by omega)), e, ck_idx (by omega), tY_nat, ck_len2 (by simp only [List.length_cons, List.length_nil]; omega), step_nat k (by omega), copyF]
    exact spec_Spread_in K t0 t6 x y t64 t66 t67 t68 a160 m (k + 1) _ (by omega) h1 (by simp only [List.length_append, List.length_cons, List.length_nil]; omega) (by simp only [List.length_append, List.length_cons, List.length_nil]; omega) (by omega)
theorem impl_Spread_run (b x0 : List Int) (hb : b.length ≤ 1048577) (hbb : Byte b) : ∀ (m at_ : Nat) (out : List Int), b.length ≤ at_ + m → out.length + 100 * (b.length - at_) ≤ 120000000 → ∃ n, iterG impl_Spread_t0 impl_Spread_B0 (impl_Spread_K0 x0) n ((b, ((at_ : Int), ())), (out, ())) = some (((sprR (sprF (b.drop at_) out)).1, ((sprR (sprF (b.drop at_) out)).2, ())), ((), ())) := by
  intro m
  induction m using Nat.strongRecOn with
  | ind m ih =>
  intro at_ out h1 h2
  by_cases h0 : at_ < b.length
  · have hx : 0 ≤ b.getD at_ 0 ∧ b.getD at_ 0 ≤ 255 := by rw [getD_at h0]; exact hbb _ (List.getElem_mem h0)
    have ex : IntKind.i64.wrap (b.getD at_ 0) = b.getD at_ 0 := wrap64 (by omega) (by omega)
    have e1 : IntKind.i64.wrap ((at_ : Int) + 1) = ((at_ + 1 : Nat) : Int) := step_nat at_ (by omega)
    have e2 : IntKind.i64.wrap (((at_ + 1 : Nat) : Int) + 1) = ((at_ + 2 : Nat) : Int) := step_nat (at_ + 1) (by omega)
    have e3 : IntKind.i64.wrap ((at_ : Int) + 2) = ((at_ + 2 : Nat) : Int) := by rw [wrap64 (by omega) (by omega)]; rfl
    have ed := drop_get h0
    by_cases hx1 : 1 ≤ b.getD at_ 0 ∧ b.getD at_ 0 ≤ 127
    · obtain ⟨n, hn⟩ := ih (m - 1) (by omega) (at_ + 1) (out ++ [b.getD at_ 0]) (by omega) (by simp only [List.length_append, List.length_cons, List.length_nil]; omega)
      refine ⟨n + 1, ?_⟩
      rw [ed, sprF_lit _ _ _ hx1, impl_Spread_r0, brk_lt h0]
      rw [tY_nat b at_, ex]
      simp only [ck_idx h0, impl_from_z, Option.bind_some]
      rw [decide_eq_true hx1, brk_true, ck_len2 (by simp only [List.length_append, List.length_cons, List.length_nil]; omega), e1, hn]
    · by_cases h3 : at_ + 1 < b.length
      · have hy : 0 ≤ b.getD (at_ + 1) 0 ∧ b.getD (at_ + 1) 0 ≤ 255 := by rw [getD_at h3]; exact hbb _ (List.getElem_mem h3)
        have ey : IntKind.i64.wrap (b.getD (at_ + 1) 0) = b.getD (at_ + 1) 0 := wrap64 (by omega) (by omega)
        have ey8 : IntKind.u8.wrap (b.getD (at_ + 1) 0) = b.getD (at_ + 1) 0 := by rw [wrap8m]; omega
        rw [ed, drop_get h3, show at_ + 1 + 1 = at_ + 2 from rfl]
        by_cases hz : b.getD at_ 0 = 0
        · by_cases hy1 : 1 ≤ b.getD (at_ + 1) 0 ∧ b.getD (at_ + 1) 0 ≤ 127
          · refine ⟨1, ?_⟩
            rw [impl_Spread_r0, brk_lt h0]
            rw [tY_nat b at_, ex, e1, tY_nat b (at_ + 1), ey]
            simp only [ck_idx h0, ck_idx h3, impl_from_z, Option.bind_some]
            rw [show sprF (b.getD at_ 0 :: b.getD (at_ + 1) 0 :: b.drop (at_ + 2)) out = none by rw [hz, sprF_zero, if_pos hy1]]
            rw [brk_neg (decide_eq_false hx1), brk_neg (decide_eq_false (by omega)), decide_eq_true hz, Bool.not_true, brk_false, brk_true, brk_pos (decide_eq_true hy1), impl_Spread_e0_0]; rfl
          · obtain ⟨n, hn⟩ := ih (m - 2) (by omega) (at_ + 2) (out ++ [b.getD (at_ + 1) 0]) (by omega) (by simp only [List.length_append, List.length_cons, List.length_nil]; omega)
            refine ⟨n + 1, ?_⟩
            rw [impl_Spread_r0, brk_lt h0]
            rw [tY_nat b at_, ex, e1, tY_nat b (at_ + 1), ey, e2]
            simp only [ck_idx h0, ck_idx h3, impl_from_z, Option.bind_some]
            rw [show sprF (b.getD at_ 0 :: b.getD (at_ + 1) 0 :: b.drop (at_ + 2)) out = sprF (b.drop (at_ + 2)) (out ++ [b.getD (at_ + 1) 0]) by rw [hz, sprF_zero, if_neg hy1]]
            rw [brk_neg (decide_eq_false hx1), brk_neg (decide_eq_false (by omega)), decide_eq_true hz, Bool.not_true, brk_false, brk_true, brk_neg (decide_eq_false hy1), ck_len2 (by simp only [List.length_append, List.length_cons, List.length_nil]; omega), hn]
        · by_cases hw : 131 ≤ b.getD at_ 0 ∧ b.getD at_ 0 ≤ 228
          · by_cases hyo : 1 ≤ b.getD (at_ + 1) 0 ∧ b.getD (at_ + 1) 0 ≤ (out.length : Int)
            · rw [sprF_copy _ _ _ _ hw, if_pos (by omega)]
              have ec : IntKind.i64.wrap (b.getD at_ 0 - 128) = ((0 + (b.getD at_ 0 - 128).toNat : Nat) : Int) := by rw [wrap64 (by omega) (by omega)]; omega
              have eq : b.getD (at_ + 1) 0 = (((b.getD (at_ + 1) 0).toNat : Nat) : Int) := by omega
              have hl := copyF_length (b.getD at_ 0 - 128).toNat (b.getD (at_ + 1) 0).toNat out
              obtain ⟨n, hn⟩ := ih (m - 2) (by omega) (at_ + 2) (copyF (b.getD at_ 0 - 128).toNat (b.getD (at_ + 1) 0).toNat out) (by omega) (by omega)
              refine ⟨n + 1, ?_⟩
              rw [impl_Spread_r0, brk_lt h0]
              rw [tY_nat b at_, ex, e1, tY_nat b (at_ + 1), ey]
              simp only [ck_idx h0, ck_idx h3, impl_from_z, Option.bind_some]
              rw [brk_neg (decide_eq_false hx1), brk_neg (decide_eq_false (by omega)), decide_eq_false hz, Bool.not_false, brk_true, decide_eq_true hw, Bool.not_true, brk_false, brk_false, brk_neg (decide_eq_false (by omega)), brk_neg (decide_eq_false (by omega)), ec, eq]
              refine impl_Spread_l2 ((b.getD at_ 0 - 128).toNat + 1) ((impl_Spread_in _ _ _ (b.getD (at_ + 1) 0).toNat _ _ _ _ _ _ _ _ (b.getD at_ 0 - 128).toNat 0 out rfl (by omega) (by omega) (by omega) (by omega)).trans ?_) ⟨_, rfl⟩
              rw [impl_Spread_e2_0, e2, hn]; rfl
            · refine ⟨1, ?_⟩
              rw [sprF_copy _ _ _ _ hw, if_neg (by omega), impl_Spread_r0, brk_lt h0]
              rw [tY_nat b at_, ex, e1, tY_nat b (at_ + 1), ey]
              simp only [ck_idx h0, ck_idx h3, impl_from_z, Option.bind_some]
              rw [brk_neg (decide_eq_false hx1), brk_neg (decide_eq_false (by omega)), decide_eq_false hz, Bool.not_false, brk_true, decide_eq_true hw, Bool.not_true, brk_false, brk_false]
              by_cases hy0 : b.getD (at_ + 1) 0 < 1
              · rw [brk_pos (decide_eq_true hy0), impl_Spread_e0_0]; rfl
              · rw [brk_neg (decide_eq_false hy0), brk_pos (decide_eq_true (by omega)), impl_Spread_e0_0]; rfl
          · refine ⟨1, ?_⟩
            rw [sprF_bad _ _ _ _ hx1 hz hw, impl_Spread_r0, brk_lt h0]
            rw [tY_nat b at_, ex, e1]
            simp only [ck_idx h0, ck_idx h3, impl_from_z, Option.bind_some]
            rw [brk_neg (decide_eq_false hx1), brk_neg (decide_eq_false (by omega)), decide_eq_false hz, Bool.not_false, brk_true, decide_eq_false hw, Bool.not_false, brk_true, impl_Spread_e0_0]; rfl
      · refine ⟨1, ?_⟩
        rw [ed, List.drop_of_length_le (by omega), sprF_one _ _ hx1, impl_Spread_r0, brk_lt h0]
        rw [tY_nat b at_, ex, e1]
        simp only [ck_idx h0, impl_from_z, Option.bind_some]
        rw [decide_eq_false hx1, brk_false, brk_pos (decide_eq_true (by omega)), impl_Spread_e0_0]; rfl
  · refine ⟨1, ?_⟩
    rw [List.drop_of_length_le (by omega), sprF, sprR, impl_Spread_r0, brk_nlt h0, impl_Spread_e0_1]
    by_cases h9 : out.length > 3000
    · rw [if_pos h9, brk_pos (decide_eq_true (by omega))]
    · rw [if_neg h9, brk_neg (decide_eq_false (by omega))]
theorem impl_Spread_ok (b : List Int) (hb : b.length ≤ 1048577) (hbb : Byte b) : impl_Spread_F (b, ()) = some (((sprP b).1, ((sprP b).2, ())), ((), ())) := by
  rw [impl_Spread_main]
  obtain ⟨n, hn⟩ := impl_Spread_run b b hb hbb b.length 0 [] (by omega) (by simp; omega)
  exact impl_Spread_l0 n hn ⟨_, rfl⟩
theorem spec_Spread_run (b x0 : List Int) (hb : b.length ≤ 1048577) (hbb : Byte b) : ∀ (m at_ : Nat) (out : List Int), b.length ≤ at_ + m → out.length + 100 * (b.length - at_) ≤ 120000000 → ∃ n, iterG spec_Spread_t0 spec_Spread_B0 (spec_Spread_K0 x0) n ((b, ((at_ : Int), ())), (([] : List Int), (out, ()))) = some (((sprR (sprF (b.drop at_) out)).1, ((sprR (sprF (b.drop at_) out)).2, ())), ((), ())) := by
  intro m
  induction m using Nat.strongRecOn with
  | ind m ih =>
  intro at_ out h1 h2
  by_cases h0 : at_ < b.length
  · have hx : 0 ≤ b.getD at_ 0 ∧ b.getD at_ 0 ≤ 255 := by rw [getD_at h0]; exact hbb _ (List.getElem_mem h0)
    have ex : IntKind.i64.wrap (b.getD at_ 0) = b.getD at_ 0 := wrap64 (by omega) (by omega)
    have e1 : IntKind.i64.wrap ((at_ : Int) + 1) = ((at_ + 1 : Nat) : Int) := step_nat at_ (by omega)
    have e2 : IntKind.i64.wrap (((at_ + 1 : Nat) : Int) + 1) = ((at_ + 2 : Nat) : Int) := step_nat (at_ + 1) (by omega)
    have e3 : IntKind.i64.wrap ((at_ : Int) + 2) = ((at_ + 2 : Nat) : Int) := by rw [wrap64 (by omega) (by omega)]; rfl
    have ed := drop_get h0
    by_cases hx1 : 1 ≤ b.getD at_ 0 ∧ b.getD at_ 0 ≤ 127
    · obtain ⟨n, hn⟩ := ih (m - 1) (by omega) (at_ + 1) (out ++ [b.getD at_ 0]) (by omega) (by simp only [List.length_append, List.length_cons, List.length_nil]; omega)
      refine ⟨n + 1, ?_⟩
      rw [ed, sprF_lit _ _ _ hx1, spec_Spread_r0, brk_lt h0]
      rw [tY_nat b at_, ex]
      simp only [ck_idx h0, spec_l1In_z, Option.bind_some]
      rw [decide_eq_true hx1, brk_true, ck_len2 (by simp only [List.length_append, List.length_cons, List.length_nil]; omega), e1, hn]
    · by_cases h3 : at_ + 1 < b.length
      · have hy : 0 ≤ b.getD (at_ + 1) 0 ∧ b.getD (at_ + 1) 0 ≤ 255 := by rw [getD_at h3]; exact hbb _ (List.getElem_mem h3)
        have ey : IntKind.i64.wrap (b.getD (at_ + 1) 0) = b.getD (at_ + 1) 0 := wrap64 (by omega) (by omega)
        have ey8 : IntKind.u8.wrap (b.getD (at_ + 1) 0) = b.getD (at_ + 1) 0 := by rw [wrap8m]; omega
        rw [ed, drop_get h3, show at_ + 1 + 1 = at_ + 2 from rfl]
        by_cases hz : b.getD at_ 0 = 0
        · by_cases hy1 : 1 ≤ b.getD (at_ + 1) 0 ∧ b.getD (at_ + 1) 0 ≤ 127
          · refine ⟨1, ?_⟩
            rw [spec_Spread_r0, brk_lt h0]
            rw [tY_nat b at_, ex, e1, tY_nat b (at_ + 1), ey]
            simp only [ck_idx h0, ck_idx h3, spec_l1In_z, Option.bind_some]
            rw [show sprF (b.getD at_ 0 :: b.getD (at_ + 1) 0 :: b.drop (at_ + 2)) out = none by rw [hz, sprF_zero, if_pos hy1]]
            rw [brk_neg (decide_eq_false hx1), brk_neg (decide_eq_false (by omega)), brk_pos (decide_eq_true hz), decide_eq_false (by omega), Bool.not_false, brk_true, brk_pos (decide_eq_true (by omega)), spec_Spread_e0_0]; rfl
          · obtain ⟨n, hn⟩ := ih (m - 2) (by omega) (at_ + 2) (out ++ [b.getD (at_ + 1) 0]) (by omega) (by simp only [List.length_append, List.length_cons, List.length_nil]; omega)
            refine ⟨n + 1, ?_⟩
            rw [spec_Spread_r0, brk_lt h0]
            rw [tY_nat b at_, ex, e1, tY_nat b (at_ + 1), ey, e3, ey8]
            simp only [ck_idx h0, ck_idx h3, spec_l1In_z, Option.bind_some]
            rw [show sprF (b.getD at_ 0 :: b.getD (at_ + 1) 0 :: b.drop (at_ + 2)) out = sprF (b.drop (at_ + 2)) (out ++ [b.getD (at_ + 1) 0]) by rw [hz, sprF_zero, if_neg hy1]]
            rw [brk_neg (decide_eq_false hx1), brk_neg (decide_eq_false (by omega)), brk_pos (decide_eq_true hz)]
            by_cases hy0 : b.getD (at_ + 1) 0 = 0
            · rw [decide_eq_true hy0, Bool.not_true, brk_false, ck_len2 (by simp only [List.length_append, List.length_cons, List.length_nil]; omega), hn]
            · rw [decide_eq_false hy0, Bool.not_false, brk_true, brk_neg (decide_eq_false (by omega)), ck_len2 (by simp only [List.length_append, List.length_cons, List.length_nil]; omega), hn]
        · by_cases hw : 131 ≤ b.getD at_ 0 ∧ b.getD at_ 0 ≤ 228
          · by_cases hyo : 1 ≤ b.getD (at_ + 1) 0 ∧ b.getD (at_ + 1) 0 ≤ (out.length : Int)
            · rw [sprF_copy _ _ _ _ hw, if_pos (by omega)]
              have ec : IntKind.i64.wrap (b.getD at_ 0 - 128) = ((0 + (b.getD at_ 0 - 128).toNat : Nat) : Int) := by rw [wrap64 (by omega) (by omega)]; omega
              have eq : b.getD (at_ + 1) 0 = (((b.getD (at_ + 1) 0).toNat : Nat) : Int) := by omega
              have hl := copyF_length (b.getD at_ 0 - 128).toNat (b.getD (at_ + 1) 0).toNat out
              obtain ⟨n, hn⟩ := ih (m - 2) (by omega) (at_ + 2) (copyF (b.getD at_ 0 - 128).toNat (b.getD (at_ + 1) 0).toNat out) (by omega) (by omega)
              refine ⟨n + 1, ?_⟩
              rw [spec_Spread_r0, brk_lt h0]
              rw [tY_nat b at_, ex, e1, tY_nat b (at_ + 1), ey, e3]
              simp only [ck_idx h0, ck_idx h3, spec_l1In_z, Option.bind_some]
              rw [brk_neg (decide_eq_false hx1), brk_neg (decide_eq_false (by omega)), brk_neg (decide_eq_false hz), decide_eq_true hw, Bool.not_true, brk_false, decide_eq_true hyo, Bool.not_true, brk_false]
              refine spec_Spread_l2 (v := some (((sprR (sprF (b.drop (at_ + 2)) (copyF (b.getD at_ 0 - 128).toNat (b.getD (at_ + 1) 0).toNat out))).1, ((sprR (sprF (b.drop (at_ + 2)) (copyF (b.getD at_ 0 - 128).toNat (b.getD (at_ + 1) 0).toNat out))).2, ())), ((), ()))) ((b.getD at_ 0 - 128).toNat + 1) ?_ ⟨_, rfl⟩
              rw [eq]
              refine (spec_Spread_in _ _ _ _ (b.getD (at_ + 1) 0).toNat _ _ _ _ _ (b.getD at_ 0 - 128).toNat 0 out ec (by omega) (by omega) (by omega) (by omega)).trans ?_
              rw [spec_Spread_e2_0]
              simp only [Int.toNat_natCast]
              by_cases h9 : (copyF (b.getD at_ 0 - 128).toNat (b.getD (at_ + 1) 0).toNat out).length > 3000
              · rw [brk_pos (decide_eq_true (by omega)), spec_Spread_e0_2, sprR_long _ _ h9]
              · rw [brk_neg (decide_eq_false (by omega)), hn]
            · refine ⟨1, ?_⟩
              rw [sprF_copy _ _ _ _ hw, if_neg (by omega), spec_Spread_r0, brk_lt h0]
              rw [tY_nat b at_, ex, e1, tY_nat b (at_ + 1), ey]
              simp only [ck_idx h0, ck_idx h3, spec_l1In_z, Option.bind_some]
              rw [brk_neg (decide_eq_false hx1), brk_neg (decide_eq_false (by omega)), brk_neg (decide_eq_false hz), decide_eq_true hw, Bool.not_true, brk_false, decide_eq_false hyo, Bool.not_false, brk_true, spec_Spread_e0_0]; rfl
          · refine ⟨1, ?_⟩
            rw [sprF_bad _ _ _ _ hx1 hz hw, spec_Spread_r0, brk_lt h0]
            rw [tY_nat b at_, ex, e1]
            simp only [ck_idx h0, ck_idx h3, spec_l1In_z, Option.bind_some]
            rw [brk_neg (decide_eq_false hx1), brk_neg (decide_eq_false (by omega)), brk_neg (decide_eq_false hz), decide_eq_false hw, Bool.not_false, brk_true, spec_Spread_e0_0]; rfl
      · refine ⟨1, ?_⟩
        rw [ed, List.drop_of_length_le (by omega), sprF_one _ _ hx1, spec_Spread_r0, brk_lt h0]
        rw [tY_nat b at_, ex, e1]
        simp only [ck_idx h0, spec_l1In_z, Option.bind_some]
        rw [decide_eq_false hx1, brk_false, brk_pos (decide_eq_true (by omega)), spec_Spread_e0_0]; rfl
  · refine ⟨1, ?_⟩
    rw [List.drop_of_length_le (by omega), sprF, sprR, spec_Spread_r0, brk_nlt h0, spec_Spread_e0_1]
    by_cases h9 : out.length > 3000
    · rw [if_pos h9, brk_pos (decide_eq_true (by omega))]
    · rw [if_neg h9, brk_neg (decide_eq_false (by omega))]
theorem spec_Spread_ok (b : List Int) (hb : b.length ≤ 1048577) (hbb : Byte b) : spec_Spread_F (b, ()) = some (((sprP b).1, ((sprP b).2, ())), ((), ())) := by
  rw [spec_Spread_main]
  obtain ⟨n, hn⟩ := spec_Spread_run b b hb hbb b.length 0 [] (by omega) (by simp; omega)
  exact spec_Spread_l0 n hn ⟨_, rfl⟩
def msgOk (x : tMsg.D) : Bool := msgOkB x.1 x.2.1 x.2.2.1 x.2.2.2.1 x.2.2.2.2.1
theorem msg_parts0 (k c v w : Int) (g : List Int) (h : msgOkB k c v w g = true) : (1 ≤ k ∧ k ≤ 5) ∧ (0 ≤ c ∧ c ≤ 7) ∧ (0 ≤ v ∧ v ≤ 200) ∧ (0 ≤ w ∧ w ≤ 2) ∧ g.length ≤ 12 ∧ Nums g := by
  have nil : ∀ {g : List Int}, g.length = 0 → Nums g := fun h => by
    rw [List.length_eq_zero_iff] at h; subst h; intro x hx; cases hx
  unfold msgOkB at h
  split at h
  · simp only [Bool.and_eq_true, decide_eq_true_eq] at h
    have hg : gensB g = true := h.1.1.1
    have hl : g.length ≤ 12 := by unfold gensB at hg; simp only [Bool.and_eq_true, decide_eq_true_eq] at hg; exact hg.2
    exact ⟨by omega, by omega, by omega, by omega, hl, gens_nums hg⟩
  · split at h
    · simp only [Bool.and_eq_true, decide_eq_true_eq] at h
      exact ⟨by omega, by omega, by omega, by omega, by omega, nil h.2⟩
    · split at h
      · simp only [Bool.and_eq_true, decide_eq_true_eq] at h
        exact ⟨by omega, by omega, by omega, by omega, by omega, nil h.2⟩
      · split at h
        · rename_i hk
          simp only [Bool.and_eq_true, decide_eq_true_eq] at h
          exact ⟨by omega, by omega, by omega, by omega, by omega, nil h.2⟩
        · cases h
theorem msg_parts {x : tMsg.D} (h : msgOk x = true) : ((1 : Int) ≤ x.1 ∧ x.1 ≤ (5 : Int)) ∧ ((0 : Int) ≤ x.2.1 ∧ x.2.1 ≤ (7 : Int)) ∧ ((0 : Int) ≤ x.2.2.1 ∧ x.2.2.1 ≤ (200 : Int)) ∧ ((0 : Int) ≤ x.2.2.2.1 ∧ x.2.2.2.1 ≤ (2 : Int)) ∧ List.length x.2.2.2.2.1 ≤ 12 ∧ Nums x.2.2.2.2.1 := msg_parts0 x.1 x.2.1 x.2.2.1 x.2.2.2.1 x.2.2.2.2.1 h
theorem msgB_no {x : tMsg.D} (h : ¬ msgOk x = true) : msgB x = [] := if_neg h
theorem msgB_short (x : tMsg.D) : (msgB x).length ≤ 94 := by
  by_cases h : msgOk x = true
  · have := msgB_len x
    have := (msg_parts h).2.2.2.2.1
    omega
  · rw [msgB_no h]
    simp
theorem msgB_bad {x : tMsg.D} (h : msgOk x = false) : msgB x = [] := msgB_no (by rw [h]; simp)
theorem msgB_good {x : tMsg.D} (h : msgB x ≠ []) : msgOk x = true := by
  cases hk : msgOk x with
  | true => rfl
  | false => exact absurd (msgB_bad hk) h
theorem msgB_byte (x : tMsg.D) : Byte (msgB x) := fun z hz => by
  unfold msgB at hz
  split at hz
  · simp only [List.mem_append] at hz
    rcases hz with (hz | hz) | hz
    · exact putNs_range [((bodyB x).length : Int)] z (by simpa [putNs] using hz)
    · exact bodyB_range x z hz
    · exact fourB_byte _ z hz
  · cases hz
def packB (l : List tMsg.D) : List Int := l.flatMap msgB
theorem packB_byte (l : List tMsg.D) : Byte (packB l) := fun z hz => by
  obtain ⟨m, _, hm⟩ := List.mem_flatMap.1 hz
  exact msgB_byte m z hm
theorem packB_len : ∀ (l : List tMsg.D), (packB l).length ≤ 94 * l.length
  | [] => by simp [packB]
  | x :: l => by
    have h1 := packB_len l
    have h2 := msgB_short x
    unfold packB at h1 ⊢
    simp only [List.flatMap_cons, List.length_append, List.length_cons]
    omega
theorem packB_next {l : List tMsg.D} {i : Nat} (h : i < l.length) : packB (l.take (i + 1)) = packB (l.take i) ++ msgB (l.getD i tMsg.zero) := by
  unfold packB
  rw [take_next h, List.flatMap_append, getD_at h, List.flatMap_cons, List.flatMap_nil, List.append_nil]
theorem impl_Pack_ok (l : List tMsg.D) (hl : l.length ≤ 1500000) (hg : ∀ x ∈ l, x.2.2.2.2.1.length ≤ 1500000) : impl_Pack_F (l, ()) = some ((squP (packB l), ()), ((), ())) := by
  rw [impl_Pack_main]
  have hp := packB_len l
  obtain ⟨n, v, h, rfl⟩ := for_loop (σ := Unit) (G := fun n i _ => iterG impl_Pack_t0 impl_Pack_B0 (impl_Pack_K0 l) n ((l, ((l.length : Int), ((i : Int), ()))), (packB (l.take i), ()))) l.length (fun i _ => True) (· = some ((squP (packB l), ()), ((), ())))
    (fun i _ hi _ => by
      refine .inr ⟨(), trivial, fun n => ?_⟩
      have hm : impl_MsgBytes_F (((l.getD i tMsg.zero).1, (((l.getD i tMsg.zero).2).1, ((((l.getD i tMsg.zero).2).2).1, (((((l.getD i tMsg.zero).2).2).2).1, ((((((l.getD i tMsg.zero).2).2).2).2).1, ()))))), ()) = some ((msgB (l.getD i tMsg.zero), ()), ((), ())) := impl_MsgBytes_ok (l.getD i tMsg.zero) (by rw [getD_at hi]; exact hg _ (List.getElem_mem hi))
      have h1 := packB_len (l.take i)
      have h2 := msgB_short (l.getD i tMsg.zero)
      rw [List.length_take] at h1
      dsimp only
      rw [impl_Pack_r0, brk_lt hi, ck_idx hi, rdD_nat (t := tMsg) l i, hm]
      simp only [Option.bind_some]
      rw [ck_len2 (by omega), step_nat i (by omega), packB_next hi])
    (fun _ _ => by
      refine ⟨_, rfl, fun n => ?_⟩
      dsimp only
      rw [impl_Pack_r0, brk_nlt (by omega), impl_Pack_e0_0, List.take_length, impl_Squeeze_ok _ (packB_byte l)]
      rfl) () trivial
  exact impl_Pack_l0 n h ⟨_, rfl⟩
theorem spec_Pack_ok (l : List tMsg.D) (hl : l.length ≤ 1500000) (hg : ∀ x ∈ l, x.2.2.2.2.1.length ≤ 1500000) : spec_Pack_F (l, ()) = some ((squP (packB l), ()), ((), ())) := by
  rw [spec_Pack_main]
  have hp := packB_len l
  obtain ⟨n, v, h, rfl⟩ := for_loop (σ := Unit) (G := fun n i _ => iterG spec_Pack_t0 spec_Pack_B0 (spec_Pack_K0 l) n ((l, ((i : Int), ())), (packB (l.take i), ()))) l.length (fun i _ => True) (· = some ((squP (packB l), ()), ((), ())))
    (fun i _ hi _ => by
      refine .inr ⟨(), trivial, fun n => ?_⟩
      have hm : spec_MsgBytes_F (((l.getD i tMsg.zero).1, (((l.getD i tMsg.zero).2).1, ((((l.getD i tMsg.zero).2).2).1, (((((l.getD i tMsg.zero).2).2).2).1, ((((((l.getD i tMsg.zero).2).2).2).2).1, ()))))), ()) = some ((msgB (l.getD i tMsg.zero), ()), ((), ())) := spec_MsgBytes_ok (l.getD i tMsg.zero) (by rw [getD_at hi]; exact hg _ (List.getElem_mem hi))
      have h1 := packB_len (l.take i)
      have h2 := msgB_short (l.getD i tMsg.zero)
      rw [List.length_take] at h1
      dsimp only
      rw [spec_Pack_r0, brk_lt hi, ck_idx hi, rdD_nat (t := tMsg) l i, hm]
      simp only [Option.bind_some]
      rw [ck_len2 (by omega), step_nat i (by omega), packB_next hi])
    (fun _ _ => by
      refine ⟨_, rfl, fun n => ?_⟩
      dsimp only
      rw [spec_Pack_r0, brk_nlt (by omega), spec_Pack_e0_0, List.take_length, spec_Squeeze_ok _ (packB_byte l)]
      rfl) () trivial
  exact spec_Pack_l0 n h ⟨_, rfl⟩
theorem msgOfP_good {b : List Int} {a : Nat} (h : (msgOfP b (a : Int)).2.2 = true) : msgB (msgOfP b (a : Int)).1 ≠ [] ∧ msgB (msgOfP b (a : Int)).1 <+: b.drop a ∧ (msgOfP b (a : Int)).2.1 = ((a + (msgB (msgOfP b (a : Int)).1).length : Nat) : Int) := by
  unfold msgOfP at h ⊢
  split
  · rename_i hc
    refine ⟨hc.2.1, by simpa using hc.2.2, by simp only; omega⟩
  · rename_i hc
    rw [if_neg hc] at h
    cases h
noncomputable def unF (s : List Int) : Nat → Nat → List tMsg.D → Option (List tMsg.D)
  | 0, _, acc => some acc
  | d + 1, a, acc => if a < s.length then (if (msgOfP s (a : Int)).2.2 = true then unF s d (a + (msgB (msgOfP s (a : Int)).1).length) (acc ++ [(msgOfP s (a : Int)).1]) else none) else some acc
def unR (b : List Int) : Option (List tMsg.D) → List tMsg.D × Bool
  | none => ([], false)
  | some l => if squP (packB l) = b then (l, true) else ([], false)
theorem unR_yes {b : List Int} {l : List tMsg.D} (h : squP (packB l) = b) : unR b (some l) = (l, true) := if_pos h
theorem unR_no {b : List Int} {l : List tMsg.D} (h : ¬ squP (packB l) = b) : unR b (some l) = ([], false) := if_neg h
/-- Unpack. -/
noncomputable def unpackP (b : List Int) : List tMsg.D × Bool := if (sprP b).2 = true then unR b (unF (sprP b).1 3001 0 []) else ([], false)
theorem sprF_byte : ∀ (n : Nat) (l o r : List Int), l.length ≤ n → Byte l → Byte o → sprF l o = some r → Byte r
  | 0, l, o, r, hn, hl, ho, h => by
    have : l = [] := List.eq_nil_of_length_eq_zero (by omega)
    subst this
    rw [sprF] at h; cases h; exact ho
  | n + 1, l, o, r, hn, hl, ho, h => by
    have one : ∀ z : Int, (0 ≤ z ∧ z ≤ 255) → Byte [z] := fun z hz y hy => by
      rw [List.mem_singleton] at hy; subst hy; exact hz
    have cop : ∀ (d y : Nat) (o : List Int), Byte o → Byte (copyF d y o) := by
      intro d
      induction d with
      | zero => intro y o h; exact h
      | succ d ih =>
        intro y o h
        rw [copyF]
        refine ih y _ (Byte.app h (one _ ?_))
        by_cases hi : o.length - y < o.length
        · rw [getD_at hi]; exact h _ (List.getElem_mem hi)
        · have : o.getD (o.length - y) 0 = 0 := by
            simp only [List.getD, List.getElem?_eq_none (show o.length ≤ o.length - y by omega)]; rfl
          omega
    match l, hn, hl, h with
    | [], hn, hl, h => rw [sprF] at h; cases h; exact ho
    | [x], hn, hl, h =>
      rw [sprF] at h
      by_cases hx : 1 ≤ x ∧ x ≤ 127
      · rw [if_pos hx] at h; cases h; exact Byte.app ho (one _ (hl x (by simp)))
      · rw [if_neg hx] at h; cases h
    | x :: y :: l, hn, hl, h =>
      simp only [List.length_cons] at hn
      have hy := hl y (by simp)
      have hll : Byte l := fun z hz => hl z (by simp [hz])
      rw [sprF] at h
      by_cases hx : 1 ≤ x ∧ x ≤ 127
      · rw [if_pos hx] at h
        exact sprF_byte n (y :: l) _ r (by simp; omega) (fun z hz => hl z (List.mem_cons_of_mem _ hz)) (Byte.app ho (one _ (hl x (by simp)))) h
      rw [if_neg hx] at h
      by_cases h0 : x = 0
      · rw [if_pos h0] at h
        by_cases hy1 : 1 ≤ y ∧ y ≤ 127
        · rw [if_pos hy1] at h; cases h
        · rw [if_neg hy1] at h
          exact sprF_byte n l _ r (by omega) hll (Byte.app ho (one _ hy)) h
      rw [if_neg h0] at h
      by_cases h1 : 131 ≤ x ∧ x ≤ 228
      · rw [if_pos h1] at h
        by_cases hy1 : 1 ≤ y ∧ y ≤ o.length
        · rw [if_pos hy1] at h
          exact sprF_byte n l _ r (by omega) hll (cop _ _ _ ho) h
        · rw [if_neg hy1] at h; cases h
      · rw [if_neg h1] at h; cases h
theorem sprP_byte {b : List Int} (hb : Byte b) : Byte (sprP b).1 := by
  unfold sprP
  cases h : sprF b [] with
  | none => intro x hx; cases hx
  | some o =>
    rw [sprR]
    by_cases h9 : o.length > 3000
    · rw [if_pos h9]; intro x hx; cases hx
    · rw [if_neg h9]; exact sprF_byte _ b [] o (Nat.le_refl _) hb (fun x hx => by cases hx) h
theorem impl_Unpack_run (x0 s : List Int) (hs : s.length ≤ 3000) (hbb : Byte s) : ∀ (d a : Nat) (acc : List tMsg.D), s.length < a + d → a ≤ s.length → acc.length ≤ a → (∀ x ∈ acc, x.2.2.2.2.1.length ≤ 1500000) → ∃ n, iterG impl_Unpack_t0 impl_Unpack_B0 (impl_Unpack_K0 x0) n ((x0, ((a : Int), ())), (s, (acc, ()))) = some (((unR x0 (unF s d a acc)).1, ((unR x0 (unF s d a acc)).2, ())), ((), ())) := by
  have fin : ∀ (a : Nat) (acc : List tMsg.D), ¬ a < s.length → acc.length ≤ 3000 → (∀ x ∈ acc, x.2.2.2.2.1.length ≤ 1500000) → ∃ n, iterG impl_Unpack_t0 impl_Unpack_B0 (impl_Unpack_K0 x0) n ((x0, ((a : Int), ())), (s, (acc, ()))) = some (((unR x0 (some acc)).1, ((unR x0 (some acc)).2, ())), ((), ())) := fun a acc h0 hl hg => by
    refine ⟨1, ?_⟩
    rw [impl_Unpack_r0, brk_nlt (by omega), impl_Unpack_e0_1, impl_Pack_ok acc (by omega) hg]
    simp only [Option.bind_some]
    rw [bytes_Equal_ok]
    simp only [Option.bind_some]
    by_cases hq : squP (packB acc) = x0
    · rw [unR_yes hq, decide_eq_true hq, Bool.not_true, brk_false]
    · rw [unR_no hq, decide_eq_false hq, Bool.not_false, brk_true]
  intro d
  induction d with
  | zero => intro a acc h1 h2 h3 hg; omega
  | succ d ih =>
    intro a acc h1 h2 h3 hg
    rw [unF]
    by_cases h0 : a < s.length
    · rw [if_pos h0]
      have hof := impl_MsgOf_ok s (a : Int) (by omega) hbb (by omega)
      by_cases ht : (msgOfP s (a : Int)).2.2 = true
      · rw [if_pos ht]
        obtain ⟨g1, g2, g3⟩ := msgOfP_good ht
        have g4 := g2.length_le
        rw [List.length_drop] at g4
        have g5 : 0 < (msgB (msgOfP s (a : Int)).1).length := List.length_pos_iff.2 g1
        obtain ⟨n, hn⟩ := ih (a + (msgB (msgOfP s (a : Int)).1).length) (acc ++ [(msgOfP s (a : Int)).1]) (by omega) (by omega) (by simp only [List.length_append, List.length_cons, List.length_nil]; omega) (fun x hx => by
          rcases List.mem_append.1 hx with hx | hx
          · exact hg x hx
          · rw [List.mem_singleton] at hx; subst hx
            have := (msg_parts (msgB_good g1)).2.2.2.2.1
            omega)
        refine ⟨n + 1, ?_⟩
        rw [impl_Unpack_r0, brk_lt h0, hof]
        simp only [Option.bind_some]
        rw [ht, Bool.not_true, brk_false, ck_pos (decide_eq_true (by rw [big47_eq]; simp only [List.length_cons, List.length_nil]; omega)), g3]
        exact hn
      · rw [if_neg ht]
        refine ⟨1, ?_⟩
        rw [impl_Unpack_r0, brk_lt h0, hof]
        simp only [Option.bind_some]
        rw [Bool.eq_false_iff.2 ht, Bool.not_false, brk_true, impl_Unpack_e0_0]
        rfl
    · rw [if_neg h0]
      exact fin a acc h0 (by omega) hg
theorem impl_Unpack_ok (b : List Int) (hb : b.length ≤ 1048577) (hbb : Byte b) : impl_Unpack_F (b, ()) = some (((unpackP b).1, ((unpackP b).2, ())), ((), ())) := by
  rw [impl_Unpack_main, impl_Spread_ok b hb hbb]
  simp only [Option.bind_some]
  unfold unpackP
  cases ht : (sprP b).2
  · rw [Bool.not_false, brk_true, if_neg (by simp)]
  · rw [Bool.not_true, brk_false, if_pos rfl]
    have hl := sprP_length b
    obtain ⟨n, hn⟩ := impl_Unpack_run b (sprP b).1 hl (sprP_byte hbb) 3001 0 [] (by omega) (by omega) (by simp) (fun x hx => by cases hx)
    exact impl_Unpack_l0 n hn ⟨_, rfl⟩
theorem spec_Unpack_run (x0 s : List Int) (hs : s.length ≤ 3000) (hbb : Byte s) : ∀ (d a : Nat) (acc : List tMsg.D), s.length < a + d → a ≤ s.length → acc.length ≤ a → (∀ x ∈ acc, x.2.2.2.2.1.length ≤ 1500000) → ∃ n, iterG spec_Unpack_t0 spec_Unpack_B0 (spec_Unpack_K0 x0) n ((x0, (true, ((a : Int), ()))), (s, (acc, ()))) = some (((unR x0 (unF s d a acc)).1, ((unR x0 (unF s d a acc)).2, ())), ((), ())) := by
  have fin : ∀ (a : Nat) (acc : List tMsg.D), ¬ a < s.length → acc.length ≤ 3000 → (∀ x ∈ acc, x.2.2.2.2.1.length ≤ 1500000) → ∃ n, iterG spec_Unpack_t0 spec_Unpack_B0 (spec_Unpack_K0 x0) n ((x0, (true, ((a : Int), ()))), (s, (acc, ()))) = some (((unR x0 (some acc)).1, ((unR x0 (some acc)).2, ())), ((), ())) := fun a acc h0 hl hg => by
    refine ⟨1, ?_⟩
    rw [spec_Unpack_r0, brk_true, brk_nlt (by omega), spec_Unpack_e0_0, Bool.not_true, brk_false, spec_Pack_ok acc (by omega) hg]
    simp only [Option.bind_some]
    by_cases hq : squP (packB acc) = x0
    · rw [unR_yes hq, decide_eq_true hq, Bool.not_true, brk_false]
    · rw [unR_no hq, decide_eq_false hq, Bool.not_false, brk_true]
  intro d
  induction d with
  | zero => intro a acc h1 h2 h3 hg; omega
  | succ d ih =>
    intro a acc h1 h2 h3 hg
    rw [unF]
    by_cases h0 : a < s.length
    · rw [if_pos h0]
      have hof := spec_MsgOf_ok s (a : Int) (by omega) hbb (by omega)
      by_cases ht : (msgOfP s (a : Int)).2.2 = true
      · rw [if_pos ht]
        obtain ⟨g1, g2, g3⟩ := msgOfP_good ht
        have g4 := g2.length_le
        rw [List.length_drop] at g4
        have g5 : 0 < (msgB (msgOfP s (a : Int)).1).length := List.length_pos_iff.2 g1
        obtain ⟨n, hn⟩ := ih (a + (msgB (msgOfP s (a : Int)).1).length) (acc ++ [(msgOfP s (a : Int)).1]) (by omega) (by omega) (by simp only [List.length_append, List.length_cons, List.length_nil]; omega) (fun x hx => by
          rcases List.mem_append.1 hx with hx | hx
          · exact hg x hx
          · rw [List.mem_singleton] at hx; subst hx
            have := (msg_parts (msgB_good g1)).2.2.2.2.1
            omega)
        refine ⟨n + 1, ?_⟩
        rw [spec_Unpack_r0, brk_true, brk_lt h0, hof]
        simp only [Option.bind_some]
        rw [ht, ck_pos (decide_eq_true (by rw [big47_eq]; simp only [List.length_cons, List.length_nil]; omega)), g3]
        exact hn
      · rw [if_neg ht]
        refine ⟨2, ?_⟩
        rw [spec_Unpack_r0, brk_true, brk_lt h0, hof]
        simp only [Option.bind_some]
        rw [Bool.eq_false_iff.2 ht, ck_pos (decide_eq_true (by rw [big47_eq]; simp only [List.length_cons, List.length_nil]; omega)), spec_Unpack_r0, brk_false, spec_Unpack_e0_0, Bool.not_false, brk_true]
        rfl
    · rw [if_neg h0]
      exact fin a acc h0 (by omega) hg
theorem spec_Unpack_ok (b : List Int) (hb : b.length ≤ 1048577) (hbb : Byte b) : spec_Unpack_F (b, ()) = some (((unpackP b).1, ((unpackP b).2, ())), ((), ())) := by
  rw [spec_Unpack_main, spec_Spread_ok b hb hbb]
  simp only [Option.bind_some]
  unfold unpackP
  cases ht : (sprP b).2
  · rw [if_neg (by simp)]
    refine spec_Unpack_l0 (v := some ((([] : List tMsg.D), (false, ())), ((), ()))) 1 ?_ ⟨_, rfl⟩
    rw [spec_Unpack_r0, brk_false, spec_Unpack_e0_0, Bool.not_false, brk_true]
  · rw [if_pos rfl]
    have hl := sprP_length b
    obtain ⟨n, hn⟩ := spec_Unpack_run b (sprP b).1 hl (sprP_byte hbb) 3001 0 [] (by omega) (by omega) (by simp) (fun x hx => by cases hx)
    exact spec_Unpack_l0 n hn ⟨_, rfl⟩
theorem unF_ok {s : List Int} : ∀ (d a : Nat) (acc l : List tMsg.D), unF s d a acc = some l → acc.length ≤ a → a ≤ s.length → (∀ x ∈ acc, msgOk x = true) → l.length ≤ s.length ∧ ∀ x ∈ l, msgOk x = true
  | 0, a, acc, l, h, h1, h2, h3 => by rw [unF] at h; cases h; exact ⟨by omega, h3⟩
  | d + 1, a, acc, l, h, h1, h2, h3 => by
    rw [unF] at h
    by_cases h0 : a < s.length
    · rw [if_pos h0] at h
      by_cases ht : (msgOfP s (a : Int)).2.2 = true
      · rw [if_pos ht] at h
        obtain ⟨g1, g2, g3⟩ := msgOfP_good ht
        have g4 := g2.length_le
        rw [List.length_drop] at g4
        have g5 : 0 < (msgB (msgOfP s (a : Int)).1).length := List.length_pos_iff.2 g1
        exact unF_ok d _ _ l h (by simp only [List.length_append, List.length_cons, List.length_nil]; omega) (by omega) (fun x hx => by
          rcases List.mem_append.1 hx with hx | hx
          · exact h3 x hx
          · rw [List.mem_singleton] at hx; subst hx; exact msgB_good g1)
      · rw [if_neg ht] at h; cases h
    · rw [if_neg h0] at h; cases h; exact ⟨by omega, h3⟩
theorem unpackP_ok {b : List Int} : (unpackP b).1.length ≤ 3000 ∧ (∀ x ∈ (unpackP b).1, msgOk x = true) ∧ ((unpackP b).2 = true → squP (packB (unpackP b).1) = b) := by
  unfold unpackP
  split
  · have hl := sprP_length b
    cases h : unF (sprP b).1 3001 0 [] with
    | none => exact ⟨by simp [unR], fun x hx => (by cases hx), fun h => (by cases h)⟩
    | some l =>
      obtain ⟨h1, h2⟩ := unF_ok 3001 0 [] l h (by simp) (by omega) (fun x hx => by cases hx)
      by_cases hq : squP (packB l) = b
      · rw [unR_yes hq]; exact ⟨by simp only; omega, h2, fun _ => hq⟩
      · rw [unR_no hq]; exact ⟨by simp, fun x hx => (by cases hx), fun h => (by cases h)⟩
  · exact ⟨by simp, fun x hx => (by cases hx), fun h => (by cases h)⟩
def sumG : List tMsg.D → Nat
  | [] => 0
  | x :: l => List.length x.2.2.2.2.1 + sumG l
def totM (l : List tMsg.D) : Nat := 4 * l.length + sumG l
theorem sumG_app : ∀ (a b : List tMsg.D), sumG (a ++ b) = sumG a + sumG b
  | [], b => by simp [sumG]
  | x :: a, b => by rw [List.cons_append, sumG, sumG, sumG_app a b]; omega
theorem sumG_next {l : List tMsg.D} {i : Nat} (h : i < l.length) : sumG (l.take (i + 1)) = sumG (l.take i) + List.length (l.getD i tMsg.zero).2.2.2.2.1 := by
  rw [take_next h, sumG_app, getD_at h]; simp [sumG]
theorem sumG_take (l : List tMsg.D) (i : Nat) : sumG (l.take i) ≤ sumG l := by
  have := sumG_app (l.take i) (l.drop i)
  rw [List.take_append_drop] at this
  omega
theorem totM_next {l : List tMsg.D} {i : Nat} (h : i < l.length) : totM (l.take (i + 1)) = totM (l.take i) + 4 + List.length (l.getD i tMsg.zero).2.2.2.2.1 := by
  unfold totM
  rw [sumG_next h, List.length_take, List.length_take]
  omega
theorem totM_take (l : List tMsg.D) (i : Nat) : totM (l.take i) ≤ totM l := by
  unfold totM
  have := sumG_take l i
  rw [List.length_take]
  omega
theorem eqMsgS_self (l : List tMsg.D) (hl : l.length ≤ 1048576) (hg : ∀ x ∈ l, List.length x.2.2.2.2.1 ≤ 1048576) : laws_eqMsgS_F (l, (l, ())) = some ((true, ()), ((), ((), ()))) := by
  rw [laws_eqMsgS_main, decide_eq_true rfl, Bool.not_true, brk_false]
  obtain ⟨n, v, h, rfl⟩ := for_loop (σ := Unit) (G := fun n i _ => iterG laws_eqMsgS_t0 laws_eqMsgS_B0 (laws_eqMsgS_K0 l l) n ((l, (l, ((i : Int), ()))), ())) l.length (fun i _ => True) (· = some ((true, ()), ((), ((), ()))))
    (fun i _ hi _ => .inr ⟨(), trivial, fun n => by
      have he := eqMsg_self (l.getD i tMsg.zero) (Nat.le_trans (by rw [getD_at hi]; exact hg _ (List.getElem_mem hi)) (by rw [big47_eq]; omega : 1048576 ≤ big47))
      have he : laws_eqMsg_F (((l.getD i tMsg.zero).1, (((l.getD i tMsg.zero).2).1, ((((l.getD i tMsg.zero).2).2).1, (((((l.getD i tMsg.zero).2).2).2).1, ((((((l.getD i tMsg.zero).2).2).2).2).1, ()))))), (((l.getD i tMsg.zero).1, (((l.getD i tMsg.zero).2).1, ((((l.getD i tMsg.zero).2).2).1, (((((l.getD i tMsg.zero).2).2).2).1, ((((((l.getD i tMsg.zero).2).2).2).2).1, ()))))), ())) = some ((true, ()), ((), ((), ()))) := he
      dsimp only
      rw [laws_eqMsgS_r0, brk_lt hi, ck_idx hi, ck_idx hi, rdD_nat (t := tMsg) l i, he]
      simp only [Option.bind_some]
      rw [Bool.not_true, brk_false, step_nat i (by omega)]⟩)
    (fun _ _ => ⟨_, rfl, fun n => by
      dsimp only
      rw [laws_eqMsgS_r0, brk_nlt (by omega), laws_eqMsgS_e0_1]⟩) () trivial
  exact laws_eqMsgS_l0 n h ⟨_, rfl⟩
def mkM (k : Int) (x : tMsg.D) : tMsg.D := ((k : Int), ((k + 1 : Int), ((k + 2 : Int), ((k + 3 : Int), (marks id (k + 4) (List.length x.2.2.2.2.1), ())))))
def mkL : Int → List tMsg.D → List tMsg.D
  | _, [] => []
  | k, x :: l => mkM k x :: mkL (k + (4 + (List.length x.2.2.2.2.1 : Int))) l
theorem mkL_len : ∀ (l : List tMsg.D) (k : Int), (mkL k l).length = l.length
  | [], k => rfl
  | x :: l, k => by rw [mkL, List.length_cons, mkL_len l, List.length_cons]
theorem mkL_getD : ∀ (l : List tMsg.D) (k : Int) (i : Nat), i < l.length → (mkL k l).getD i tMsg.zero = mkM (k + (totM (l.take i) : Nat)) (l.getD i tMsg.zero)
  | [], k, i, h => by simp at h
  | x :: l, k, 0, h => by simp [mkL, totM, sumG]
  | x :: l, k, i + 1, h => by
    rw [mkL, List.getD_cons_succ, mkL_getD l _ i (by simpa using h), List.take_succ_cons, List.getD_cons_succ]
    congr 1
    simp only [totM, List.length_cons, sumG]
    omega
theorem rdD_set {T : Ty} {xs : List T.D} {i : Nat} {y : T.D} (h : i < xs.length) : rdD T (xs.set i y) (i : Int) = y := by
  rw [rdD_nat, getD_at (by simpa using h)]; simp
theorem getD_drop0 {α : Type} {s l : List α} {i : Nat} {z : α} (h : s.drop i = l.drop i) : s.getD i z = l.getD i z := by
  have := congrArg (fun t => t.getD 0 z) h
  simpa [List.getD, List.getElem?_drop] using this
theorem markMsgS_ok (l : List tMsg.D) (k : Int) (hl : l.length ≤ 1048576) (hg : ∀ x ∈ l, List.length x.2.2.2.2.1 ≤ 1048576) (ht : totM l ≤ 100000000) (h0 : 0 ≤ k) (hk : k ≤ 1000) : laws_markMsgS_F (l, (k, ())) = some ((k + (totM l : Nat), ()), (mkL k l, ((), ()))) := by
  rw [laws_markMsgS_main]
  have hML := mkL_len l k
  obtain ⟨n, v, h, rfl⟩ := for_loop (σ := List tMsg.D) (G := fun n i s => iterG laws_markMsgS_t0 laws_markMsgS_B0 (laws_markMsgS_K0 l k) n ((k + (totM (l.take i) : Nat), ((i : Int), ())), (s, ()))) l.length (fun i s => s.length = l.length ∧ s.take i = (mkL k l).take i ∧ s.drop i = l.drop i) (· = some ((k + (totM l : Nat), ()), (mkL k l, ((), ()))))
    (fun i s hi ⟨hI1, hI2, hI3⟩ => by
      have hsi : i < s.length := by omega
      have hz : List.length (l.getD i tMsg.zero).2.2.2.2.1 ≤ 1048576 := by rw [getD_at hi]; exact hg _ (List.getElem_mem hi)
      have hsz : rdD tMsg s (i : Int) = l.getD i tMsg.zero := (rdD_nat (t := tMsg) s i).trans (getD_drop0 hI3)
      have hn := totM_next hi
      have hle := totM_take l (i + 1)
      have hgd := mkL_getD l k i hi
      generalize l.getD i tMsg.zero = x at *
      generalize hkk : k + ((totM (l.take i) : Nat) : Int) = kk at *
      have w1 : IntKind.i64.wrap (kk + 1) = kk + 1 := wrap64 (by omega) (by omega)
      have w2 : IntKind.i64.wrap (kk + 1 + 1) = kk + 1 + 1 := wrap64 (by omega) (by omega)
      have w3 : IntKind.i64.wrap (kk + 1 + 1 + 1) = kk + 1 + 1 + 1 := wrap64 (by omega) (by omega)
      have w4 : IntKind.i64.wrap (kk + 1 + 1 + 1 + 1) = kk + 1 + 1 + 1 + 1 := wrap64 (by omega) (by omega)
      have hm := markIntS_ok x.2.2.2.2.1 (kk + 1 + 1 + 1 + 1) (by omega) (by rw [big47_eq]; omega) (by omega) (by omega)
      refine .inr ⟨s.set i (mkM kk x), ⟨by simpa using hI1, ?_, ?_⟩, fun n => ?_⟩
      · rw [← hgd, getD_at (by rw [hML]; exact hi)]
        exact take_set_next (by rw [hML]; exact hI1) (by rw [hML]; exact hi) hI2
      · rw [List.drop_set_of_lt (by omega), ← List.drop_drop, hI3, List.drop_drop]
      · dsimp only
        rw [laws_markMsgS_r0, brk_lt hsi]
        simp only [Int.toNat_natCast, List.length_set, List.set_set, rdD_set hsi, ck_idx hsi, hsz, w1, w2, w3, w4]
        rw [hm]
        simp only [Option.bind_some]
        rw [step_nat i (by omega), hn]
        rw [show kk + 1 + 1 + 1 + 1 + ((List.length x.2.2.2.2.1 : Nat) : Int) = k + ((totM (l.take i) + 4 + List.length x.2.2.2.2.1 : Nat) : Int) by omega]
        rw [show (kk + 1 + 1 + 1 + 1 : Int) = kk + 4 by omega, show (kk + 1 + 1 + 1 : Int) = kk + 3 by omega, show (kk + 1 + 1 : Int) = kk + 2 by omega]
        rfl)
    (fun s ⟨hI1, hI2, hI3⟩ => by
      refine ⟨_, rfl, fun n => ?_⟩
      dsimp only
      rw [laws_markMsgS_r0, brk_nlt (by omega), laws_markMsgS_e0_0, List.take_length]
      rw [List.take_of_length_le (by omega), List.take_of_length_le (by omega)] at hI2
      rw [hI2]) l ⟨rfl, by simp, by simp⟩
  rw [show k + ((totM (l.take 0) : Nat) : Int) = k by simp [totM, sumG]] at h
  exact laws_markMsgS_l0 n h ⟨_, rfl⟩
theorem heldMsgS_ok (l : List tMsg.D) (k : Int) (hl : l.length ≤ 1048576) (hg : ∀ x ∈ l, List.length x.2.2.2.2.1 ≤ 1048576) (ht : totM l ≤ 100000000) (h0 : 0 ≤ k) (hk : k ≤ 1000) : laws_heldMsgS_F (mkL k l, (k, ())) = some ((k + (totM l : Nat), ()), ((), ((), ()))) := by
  rw [laws_heldMsgS_main]
  have hML := mkL_len l k
  obtain ⟨n, v, h, rfl⟩ := for_loop (σ := Unit) (G := fun n i _ => iterG laws_heldMsgS_t0 laws_heldMsgS_B0 (laws_heldMsgS_K0 (mkL k l) k) n ((mkL k l, (k + (totM (l.take i) : Nat), ((i : Int), ()))), ())) l.length (fun i _ => True) (· = some ((k + (totM l : Nat), ()), ((), ((), ()))))
    (fun i _ hi _ => by
      have hsi : i < (mkL k l).length := by omega
      have hz : List.length (l.getD i tMsg.zero).2.2.2.2.1 ≤ 1048576 := by rw [getD_at hi]; exact hg _ (List.getElem_mem hi)
      have hsz : rdD tMsg (mkL k l) (i : Int) = _ := (rdD_nat (t := tMsg) (mkL k l) i).trans (mkL_getD l k i hi)
      have hn := totM_next hi
      have hle := totM_take l (i + 1)
      generalize l.getD i tMsg.zero = x at *
      generalize hkk : k + ((totM (l.take i) : Nat) : Int) = kk at *
      have w1 : IntKind.i64.wrap (kk + 1) = kk + 1 := wrap64 (by omega) (by omega)
      have w2 : IntKind.i64.wrap (kk + 1 + 1) = kk + 2 := (wrap64 (by omega) (by omega)).trans (by omega)
      have w3 : IntKind.i64.wrap (kk + 2 + 1) = kk + 3 := (wrap64 (by omega) (by omega)).trans (by omega)
      have w4 : IntKind.i64.wrap (kk + 3 + 1) = kk + 4 := (wrap64 (by omega) (by omega)).trans (by omega)
      have hm := heldIntS_ok (List.length x.2.2.2.2.1) (kk + 4) (by omega) (by omega) (by omega) (by rw [big47_eq]; omega)
      refine .inr ⟨(), trivial, fun n => ?_⟩
      dsimp only
      rw [laws_heldMsgS_r0, brk_lt hsi, ck_idx hsi, hsz, w1, w2, w3, w4]
      simp only [mkM, ck_idx hsi, decide_true, Bool.not_true, brk_false]
      rw [hm]
      simp only [Option.bind_some]
      rw [brk_nneg (show (0 : Int) ≤ kk + 4 + ((List.length x.2.2.2.2.1 : Nat) : Int) by omega), step_nat i (by omega), hn]
      rw [show kk + 4 + ((List.length x.2.2.2.2.1 : Nat) : Int) = k + ((totM (l.take i) + 4 + List.length x.2.2.2.2.1 : Nat) : Int) by omega])
    (fun _ _ => ⟨_, rfl, fun n => by
      dsimp only
      rw [laws_heldMsgS_r0, brk_nlt (by omega), laws_heldMsgS_e0_1, List.take_length]⟩) () trivial
  rw [show k + ((totM (l.take 0) : Nat) : Int) = k by simp [totM, sumG]] at h
  exact laws_heldMsgS_l0 n h ⟨_, rfl⟩
theorem sumG_ok : ∀ (l : List tMsg.D), (∀ x ∈ l, msgOk x = true) → sumG l ≤ 12 * l.length
  | [], _ => by simp [sumG]
  | x :: l, h => by
    have h1 := sumG_ok l fun y hy => h y (by simp [hy])
    have h2 := (msg_parts (h x (by simp))).2.2.2.2.1
    rw [sumG, List.length_cons]
    omega
theorem laws_FnExactUnpack_pure (b : tYs.D) (hB : Ok tYs b) : laws_FnExactUnpack_F (b, ()) = some ((true, ()), ((), ())) := by
  have hb : List.length b ≤ big47 := hB.1
  have hr : Byte b := fun x hx => hB.2 x hx
  rw [laws_FnExactUnpack_main]
  by_cases hx : (1048576 : Int) < (List.length b : Int)
  · rw [brk_pos (decide_eq_true hx)]
  rw [brk_neg (decide_eq_false hx)]
  have hl : List.length b ≤ 1048576 := by omega
  have h1 := toByteS_ok b hl
  have h2 := spec_Unpack_ok b (by omega) hr
  have h3 := impl_Unpack_ok b (by omega) hr
  have h4 := eqByteS_ok b b hb
  have h5 := markByteS_ok b 1 (by omega) hb (by omega) (by omega)
  obtain ⟨v1, v2, _⟩ := unpackP_ok (b := b)
  have hs := sumG_ok _ v2
  generalize unpackP b = w at *
  obtain ⟨l, ok⟩ := w
  simp only at h2 h3 v1 v2 hs
  have hg : ∀ x ∈ l, List.length x.2.2.2.2.1 ≤ 1048576 := fun x hx => Nat.le_trans (msg_parts (v2 x hx)).2.2.2.2.1 (by omega)
  have ht : totM l ≤ 100000000 := by unfold totM; omega
  have h6 := eqMsgS_self l (by omega) hg
  have h7 := markMsgS_ok l 1 (by omega) hg ht (by omega) (by omega)
  have h8 := heldMsgS_ok l 1 (by omega) hg ht (by omega) (by omega)
  generalize totM l = tot at *
  rw [h1]
  simp only [Option.bind_some]
  rw [h2]
  simp only [Option.bind_some]
  rw [h3]
  simp only [Option.bind_some]
  rw [h6]
  simp only [Option.bind_some, decide_true, beq_self_eq_true, Bool.not_true, brk_false]
  rw [h4]
  simp only [Option.bind_some, decide_true, Bool.not_true, brk_false]
  rw [h5]
  simp only [Option.bind_some]
  rw [brk_nneg (by omega), h7]
  simp only [Option.bind_some]
  rw [h8]
  simp only [Option.bind_some, decide_true, Bool.not_true, brk_false]
  rw [brk_nneg (by omega), brk_nneg (by omega)]
end Go.Refl
