/- Plain laws: what the functions come to. No condition. -/
import Derived.Test.YtbhonnfinekpcaaGreatFnExactKeepGf1
namespace Go.Refl
open Go.RowKit
set_option linter.unusedVariables false
set_option linter.unusedSimpArgs false
theorem eqIntS_loop {R : Type} (K : Ex → AS → Option R) (xs ys : List Int) (hl : xs.length = ys.length) (hb : xs.length ≤ big47) : ∀ (n i : Nat), i + n = xs.length →
    iterG laws_eqIntS_t0 laws_eqIntS_B0 K (n + 1) ((xs, (ys, ((i : Int), ()))), ()) = if xs.drop i = ys.drop i then K (.exit 0) laws_eqIntS_x0_1 else K .ret (laws_eqIntS_x0_0 false)
  | 0, i, h => by
    have hx : xs.drop i = [] := List.drop_of_length_le (by omega)
    have hy : ys.drop i = [] := List.drop_of_length_le (by omega)
    rw [laws_eqIntS_r0, brk_neg (by simp; omega), hx, hy, if_pos rfl]
  | n + 1, i, h => by
    have hi : i < xs.length := by omega
    have hj : i < ys.length := by omega
    rw [laws_eqIntS_r0, brk_pos (by simp; omega), ck_pos (by simp; omega), ck_pos (by simp; omega)]
    rw [rdD_get (List.getElem?_eq_getElem hi), rdD_get (List.getElem?_eq_getElem hj)]
    have hd : (xs.drop i = ys.drop i) ↔ (xs[i] = ys[i] ∧ xs.drop (i + 1) = ys.drop (i + 1)) := by
      rw [List.drop_eq_getElem_cons hi, List.drop_eq_getElem_cons hj, List.cons.injEq]
    by_cases he : xs[i] = ys[i]
    · rw [brk_neg (by simp [he]), wrap64 (by omega) (by simp only [big47] at hb; omega)]
      have := eqIntS_loop K xs ys hl hb n (i + 1) (by omega)
      rw [show ((i : Int) + 1) = ((i + 1 : Nat) : Int) by simp, this]
      by_cases hr : xs.drop (i + 1) = ys.drop (i + 1)
      · rw [if_pos hr, if_pos (hd.2 ⟨he, hr⟩)]
      · rw [if_neg hr, if_neg fun h => hr (hd.1 h).2]
    · rw [brk_pos (by simp [he]), if_neg fun h => he (hd.1 h).1]
theorem eqIntS_ok (xs ys : List Int) (hb : xs.length ≤ big47) : laws_eqIntS_F (xs, (ys, ())) = some ((decide (xs = ys), ()), ((), ((), ()))) := by
  rw [laws_eqIntS_main]
  by_cases hl : xs.length = ys.length
  · rw [brk_neg (by simp [hl])]
    have h : iterG laws_eqIntS_t0 laws_eqIntS_B0 (laws_eqIntS_K0 xs ys) (xs.length + 1) ((xs, (ys, ((0 : Int), ()))), ()) = _ := eqIntS_loop (laws_eqIntS_K0 xs ys) xs ys hl hb xs.length 0 (by omega)
    by_cases he : xs = ys
    · rw [laws_eqIntS_l0 _ h (by subst he; exact ⟨_, by simp only [if_true]; exact laws_eqIntS_e0_1 _ _⟩)]
      subst he
      simp only [if_true]
      rw [laws_eqIntS_e0_1]; simp
    · have h0 : ¬ xs.drop 0 = ys.drop 0 := by simpa using he
      rw [if_neg h0] at h
      rw [laws_eqIntS_l0 _ h ⟨_, laws_eqIntS_e0_0 _ _ _⟩, laws_eqIntS_e0_0]
      simp [he]
  · rw [brk_pos (by simp; omega)]
    have : xs ≠ ys := fun h => hl (by rw [h])
    simp [this]
theorem take_set_next {α : Type} {out xs : List α} {i : Nat} (hl : out.length = xs.length) (hi : i < xs.length) (ht : out.take i = xs.take i) : (out.set i xs[i]).take (i + 1) = xs.take (i + 1) := by
  rw [List.take_succ_eq_append_getElem (by simpa [hl] using hi), List.take_succ_eq_append_getElem hi]
  rw [List.take_set_of_le (Nat.le_refl i), ht]
  simp
theorem toIntS_loop {R : Type} (K : Ex → AS → Option R) (xs : List Int) (hb : xs.length ≤ big47) : ∀ (n i : Nat) (out : List Int), i + n = xs.length → out.length = xs.length → out.take i = xs.take i →
    iterG laws_toIntS_t0 laws_toIntS_B0 K (n + 1) ((xs, ((i : Int), ())), (out, ())) = K (.exit 0) (laws_toIntS_x0_0 xs)
  | 0, i, out, h, hl, ht => by
    rw [laws_toIntS_r0, brk_neg (by simp; omega)]
    rw [List.take_of_length_le (by omega), List.take_of_length_le (by omega)] at ht
    rw [ht]
  | n + 1, i, out, h, hl, ht => by
    have hi : i < xs.length := by omega
    rw [laws_toIntS_r0, brk_pos (by simp; omega), ck_pos (by simp; omega), ck_pos (by simp; omega)]
    rw [rdD_get (List.getElem?_eq_getElem hi), wrap64 (by omega) (by simp only [big47] at hb; omega)]
    rw [show ((i : Int) + 1) = ((i + 1 : Nat) : Int) by simp]
    exact toIntS_loop K xs hb n (i + 1) _ (by omega) (by simpa using hl) (take_set_next hl hi ht)
theorem toIntS_ok (xs : List Int) (hb : xs.length ≤ 1048576) : laws_toIntS_F (xs, ()) = some ((xs, ()), ((), ())) := by
  rw [laws_toIntS_main, ck_pos (by simp; omega)]
  have h : iterG laws_toIntS_t0 laws_toIntS_B0 (laws_toIntS_K0 xs) (xs.length + 1) ((xs, ((0 : Int), ())), (List.replicate (xs.length : Int).toNat tI.zero, ())) = _ := toIntS_loop (laws_toIntS_K0 xs) xs (by simp only [big47]; omega) xs.length 0 _ (by omega) (by simp) (by simp)
  rw [laws_toIntS_l0 _ h ⟨_, laws_toIntS_e0_0 _ _⟩, laws_toIntS_e0_0]
/-- Numbers from k on, as f makes them. -/
def marks (f : Int → Int) (k : Int) : Nat → List Int
  | 0 => []
  | n + 1 => f k :: marks f (k + 1) n
theorem marks_len (f : Int → Int) : ∀ (n : Nat) (k : Int), (marks f k n).length = n
  | 0, _ => rfl
  | n + 1, k => by simp [marks, marks_len f n]
theorem drop_set_next {α : Type} {xs : List α} {i : Nat} (hi : i < xs.length) (v : α) : (xs.set i v).take (i + 1) = xs.take i ++ [v] := by
  rw [List.take_succ_eq_append_getElem (by simpa using hi), List.take_set_of_le (Nat.le_refl i)]
  simp
theorem markIntS_loop {R : Type} (K : Ex → AS → Option R) : ∀ (n i : Nat) (k : Int) (xs : List Int), i + n = xs.length → xs.length ≤ big47 → 0 ≤ k → k + n ≤ 4611686018427387904 →
    iterG laws_markIntS_t0 laws_markIntS_B0 K (n + 1) ((k, ((i : Int), ())), (xs, ())) = K (.exit 0) (laws_markIntS_x0_0 (k + n) (xs.take i ++ marks id k n))
  | 0, i, k, xs, h, hb, h0, hk => by
    rw [laws_markIntS_r0, brk_neg (by simp; omega)]
    rw [List.take_of_length_le (by omega)]
    simp [marks]
  | n + 1, i, k, xs, h, hb, h0, hk => by
    have hi : i < xs.length := by omega
    rw [laws_markIntS_r0, brk_pos (by simp; omega), ck_pos (by simp; omega)]
    rw [wrap64 (by omega) (by omega), wrap64 (by omega) (by simp only [big47] at hb; omega)]
    rw [show ((i : Int) + 1) = ((i + 1 : Nat) : Int) by simp]
    rw [markIntS_loop K n (i + 1) (k + 1) _ (by simp; omega) (by simpa using hb) (by omega) (by omega)]
    rw [show ((i : Int)).toNat = i by simp, drop_set_next hi, show k + 1 + (n : Int) = k + ((n + 1 : Nat) : Int) by omega]
    simp [marks]
theorem markIntS_ok (xs : List Int) (k : Int) (hb : xs.length ≤ 1125899906842624) (hbb : xs.length ≤ big47) (h0 : 0 ≤ k) (hk : k ≤ 1125899906842624) : laws_markIntS_F (xs, (k, ())) = some ((k + xs.length, ()), (marks id k xs.length, ((), ()))) := by
  rw [laws_markIntS_main]
  have h : iterG laws_markIntS_t0 laws_markIntS_B0 (laws_markIntS_K0 xs k) (xs.length + 1) ((k, ((0 : Int), ())), (xs, ())) = _ := markIntS_loop (laws_markIntS_K0 xs k) xs.length 0 k xs (by omega) hbb h0 (by omega)
  rw [laws_markIntS_l0 _ h ⟨_, laws_markIntS_e0_0 _ _ _ _⟩, laws_markIntS_e0_0]
  simp
theorem markByteS_loop {R : Type} (K : Ex → AS → Option R) : ∀ (n i : Nat) (k : Int) (xs : List Int), i + n = xs.length → xs.length ≤ big47 → 0 ≤ k → k + n ≤ 4611686018427387904 →
    iterG laws_markByteS_t0 laws_markByteS_B0 K (n + 1) ((k, ((i : Int), ())), (xs, ())) = K (.exit 0) (laws_markByteS_x0_0 (k + n) (xs.take i ++ marks (IntKind.u8.wrap ·) k n))
  | 0, i, k, xs, h, hb, h0, hk => by
    rw [laws_markByteS_r0, brk_neg (by simp; omega)]
    rw [List.take_of_length_le (by omega)]
    simp [marks]
  | n + 1, i, k, xs, h, hb, h0, hk => by
    have hi : i < xs.length := by omega
    rw [laws_markByteS_r0, brk_pos (by simp; omega), ck_pos (by simp; omega)]
    rw [wrap64 (by omega) (by omega), wrap64 (by omega) (by simp only [big47] at hb; omega)]
    rw [show ((i : Int) + 1) = ((i + 1 : Nat) : Int) by simp]
    rw [markByteS_loop K n (i + 1) (k + 1) _ (by simp; omega) (by simpa using hb) (by omega) (by omega)]
    rw [show ((i : Int)).toNat = i by simp, drop_set_next hi, show k + 1 + (n : Int) = k + ((n + 1 : Nat) : Int) by omega]
    simp [marks]
theorem markByteS_ok (xs : List Int) (k : Int) (hb : xs.length ≤ 1125899906842624) (hbb : xs.length ≤ big47) (h0 : 0 ≤ k) (hk : k ≤ 1125899906842624) : laws_markByteS_F (xs, (k, ())) = some ((k + xs.length, ()), (marks (IntKind.u8.wrap ·) k xs.length, ((), ()))) := by
  rw [laws_markByteS_main]
  have h : iterG laws_markByteS_t0 laws_markByteS_B0 (laws_markByteS_K0 xs k) (xs.length + 1) ((k, ((0 : Int), ())), (xs, ())) = _ := markByteS_loop (laws_markByteS_K0 xs k) xs.length 0 k xs (by omega) hbb h0 (by omega)
  rw [laws_markByteS_l0 _ h ⟨_, laws_markByteS_e0_0 _ _ _ _⟩, laws_markByteS_e0_0]
  simp
theorem heldByteS_loop {R : Type} (K : Ex → AS → Option R) : ∀ (n i : Nat) (k : Int) (xs : List Int), i + n = xs.length → xs.length ≤ big47 → 0 ≤ k → k + n ≤ 4611686018427387904 → xs.drop i = marks (IntKind.u8.wrap ·) k n →
    iterG laws_heldByteS_t0 laws_heldByteS_B0 K (n + 1) ((xs, (k, ((i : Int), ()))), ()) = K (.exit 0) (laws_heldByteS_x0_1 (k + n))
  | 0, i, k, xs, h, hb, h0, hk, hd => by
    rw [laws_heldByteS_r0, brk_neg (by simp; omega)]
    simp
  | n + 1, i, k, xs, h, hb, h0, hk, hd => by
    have hi : i < xs.length := by omega
    rw [List.drop_eq_getElem_cons hi] at hd
    simp only [marks, List.cons.injEq] at hd
    rw [laws_heldByteS_r0, brk_pos (by simp; omega), ck_pos (by simp; omega)]
    rw [rdD_get (List.getElem?_eq_getElem hi), hd.1, brk_neg (by simp)]
    rw [wrap64 (by omega) (by omega), wrap64 (by omega) (by simp only [big47] at hb; omega)]
    rw [show ((i : Int) + 1) = ((i + 1 : Nat) : Int) by simp]
    rw [heldByteS_loop K n (i + 1) (k + 1) _ (by omega) hb (by omega) (by omega) hd.2]
    rw [show k + 1 + (n : Int) = k + ((n + 1 : Nat) : Int) by omega]
theorem heldByteS_ok (n : Nat) (k : Int) (hb : n ≤ 1125899906842624) (h0 : 0 ≤ k) (hk : k ≤ 1125899906842624) (hbb : n ≤ big47) : laws_heldByteS_F (marks (IntKind.u8.wrap ·) k n, (k, ())) = some ((k + n, ()), ((), ((), ()))) := by
  rw [laws_heldByteS_main]
  have h : iterG laws_heldByteS_t0 laws_heldByteS_B0 (laws_heldByteS_K0 (marks (IntKind.u8.wrap ·) k n) k) (n + 1) ((marks (IntKind.u8.wrap ·) k n, (k, ((0 : Int), ()))), ()) = _ := heldByteS_loop (laws_heldByteS_K0 (marks (IntKind.u8.wrap ·) k n) k) n 0 k (marks (IntKind.u8.wrap ·) k n) (by rw [marks_len]; omega) (by rw [marks_len]; exact hbb) h0 (by omega) (by simp)
  rw [laws_heldByteS_l0 _ h ⟨_, laws_heldByteS_e0_1 _ _ _⟩, laws_heldByteS_e0_1]
theorem eqByteS_loop {R : Type} (K : Ex → AS → Option R) (xs ys : List Int) (hl : xs.length = ys.length) (hb : xs.length ≤ big47) : ∀ (n i : Nat), i + n = xs.length →
    iterG laws_eqByteS_t0 laws_eqByteS_B0 K (n + 1) ((xs, (ys, ((i : Int), ()))), ()) = if xs.drop i = ys.drop i then K (.exit 0) laws_eqByteS_x0_1 else K .ret (laws_eqByteS_x0_0 false)
  | 0, i, h => by
    have hx : xs.drop i = [] := List.drop_of_length_le (by omega)
    have hy : ys.drop i = [] := List.drop_of_length_le (by omega)
    rw [laws_eqByteS_r0, brk_neg (by simp; omega), hx, hy, if_pos rfl]
  | n + 1, i, h => by
    have hi : i < xs.length := by omega
    have hj : i < ys.length := by omega
    rw [laws_eqByteS_r0, brk_pos (by simp; omega), ck_pos (by simp; omega), ck_pos (by simp; omega)]
    rw [rdD_get (List.getElem?_eq_getElem hi), rdD_get (List.getElem?_eq_getElem hj)]
    have hd : (xs.drop i = ys.drop i) ↔ (xs[i] = ys[i] ∧ xs.drop (i + 1) = ys.drop (i + 1)) := by
      rw [List.drop_eq_getElem_cons hi, List.drop_eq_getElem_cons hj, List.cons.injEq]
    by_cases he : xs[i] = ys[i]
    · rw [brk_neg (by simp [he]), wrap64 (by omega) (by simp only [big47] at hb; omega)]
      have := eqByteS_loop K xs ys hl hb n (i + 1) (by omega)
      rw [show ((i : Int) + 1) = ((i + 1 : Nat) : Int) by simp, this]
      by_cases hr : xs.drop (i + 1) = ys.drop (i + 1)
      · rw [if_pos hr, if_pos (hd.2 ⟨he, hr⟩)]
      · rw [if_neg hr, if_neg fun h => hr (hd.1 h).2]
    · rw [brk_pos (by simp [he]), if_neg fun h => he (hd.1 h).1]
theorem eqByteS_ok (xs ys : List Int) (hb : xs.length ≤ big47) : laws_eqByteS_F (xs, (ys, ())) = some ((decide (xs = ys), ()), ((), ((), ()))) := by
  rw [laws_eqByteS_main]
  by_cases hl : xs.length = ys.length
  · rw [brk_neg (by simp [hl])]
    have h : iterG laws_eqByteS_t0 laws_eqByteS_B0 (laws_eqByteS_K0 xs ys) (xs.length + 1) ((xs, (ys, ((0 : Int), ()))), ()) = _ := eqByteS_loop (laws_eqByteS_K0 xs ys) xs ys hl hb xs.length 0 (by omega)
    by_cases he : xs = ys
    · rw [laws_eqByteS_l0 _ h (by subst he; exact ⟨_, by simp only [if_true]; exact laws_eqByteS_e0_1 _ _⟩)]
      subst he
      simp only [if_true]
      rw [laws_eqByteS_e0_1]; simp
    · have h0 : ¬ xs.drop 0 = ys.drop 0 := by simpa using he
      rw [if_neg h0] at h
      rw [laws_eqByteS_l0 _ h ⟨_, laws_eqByteS_e0_0 _ _ _⟩, laws_eqByteS_e0_0]
      simp [he]
  · rw [brk_pos (by simp; omega)]
    have : xs ≠ ys := fun h => hl (by rw [h])
    simp [this]
theorem szIntS_ok (xs : List Int) (n : Int) (hb : xs.length ≤ big47) (h0 : 0 ≤ n) (hn : n ≤ 1048576) : laws_szIntS_F (xs, (n, ())) = some ((if n < xs.length then -1 else n - xs.length, ()), ((), ((), ()))) := by
  simp only [big47] at hb
  rw [laws_szIntS_main, wrap64 (by omega) (by omega)]
  by_cases h : n < xs.length
  · rw [brk_pos (by simp; omega), if_pos h]
  · rw [brk_neg (by simp; omega), if_neg h]
/-- A number's bytes, seven bits each, the low ones first. -/
def numB (n : Nat) : List Int := if h : n ≤ 127 then [(n : Int)] else ((n % 128 + 128 : Nat) : Int) :: numB (n / 128)
termination_by n
decreasing_by omega
theorem numB_small {n : Nat} (h : n ≤ 127) : numB n = [(n : Int)] := by rw [numB, dif_pos h]
theorem numB_big {n : Nat} (h : ¬ n ≤ 127) : numB n = ((n % 128 + 128 : Nat) : Int) :: numB (n / 128) := by rw [numB, dif_neg h]
theorem wrap8 {x : Int} (h1 : 0 ≤ x) (h2 : x ≤ 255) : IntKind.u8.wrap x = x := by
  simp only [IntKind.wrap, IntKind.signed, IntKind.bits]
  simp
  omega
theorem numB_len : ∀ (k n : Nat), n < 128 ^ (k + 1) → (numB n).length ≤ k + 1
  | 0, n, h => by rw [numB_small (by omega)]; simp
  | k + 1, n, h => by
    by_cases hn : n ≤ 127
    · rw [numB_small hn]; simp
    · rw [numB_big hn]
      have := numB_len k (n / 128) (by rw [Nat.div_lt_iff_lt_mul (by omega)]; rw [Nat.pow_succ] at h; exact h)
      simpa using this
theorem spec_PutNum_loop {R : Type} (K : Ex → AS → Option R) : ∀ (k n : Nat) (acc : List Int), n < 128 ^ (k + 1) → n ≤ 2147483647 → acc.length + k ≤ 1000000 →
    ∃ (m d : Nat) (acc' : List Int), iterG spec_PutNum_t0 spec_PutNum_B0 K m (((n : Int), ()), (acc, ())) = K (.exit 0) (spec_PutNum_x0_0 (d : Int) acc') ∧ acc' ++ [(d : Int)] = acc ++ numB n ∧ d ≤ 127 ∧ acc'.length ≤ acc.length + k
  | 0, n, acc, h, hn, hl => by
    refine ⟨1, n, acc, ?_, by rw [numB_small (by omega)], by omega, by omega⟩
    rw [spec_PutNum_r0, brk_neg (by simp; omega)]
  | k + 1, n, acc, h, hn, hl => by
    by_cases hs : n ≤ 127
    · refine ⟨1, n, acc, ?_, by rw [numB_small hs], hs, by omega⟩
      rw [spec_PutNum_r0, brk_neg (by simp; omega)]
    · obtain ⟨m, d, acc', h1, h2, h3, h4⟩ := spec_PutNum_loop K k (n / 128) (acc ++ [((n % 128 + 128 : Nat) : Int)]) (by rw [Nat.div_lt_iff_lt_mul (by omega)]; rw [Nat.pow_succ] at h; exact h) (by omega) (by simp; omega)
      refine ⟨m + 1, d, acc', ?_, ?_, h3, by simp at h4; omega⟩
      · rw [spec_PutNum_r0, brk_pos (by simp; omega), ck_pos (by simp [big47]; omega)]
        have e1 : (n : Int).tmod 128 = ((n % 128 : Nat) : Int) := by rw [Int.tmod_eq_emod_of_nonneg (by omega)]; omega
        have e2 : (n : Int).tdiv 128 = ((n / 128 : Nat) : Int) := by rw [Int.tdiv_eq_ediv_of_nonneg (by omega)]; omega
        rw [e1, e2, wrap64 (by omega) (by omega), wrap64 (by omega) (by omega), wrap8 (by omega) (by omega)]
        rw [show ((n % 128 : Nat) : Int) + 128 = ((n % 128 + 128 : Nat) : Int) by omega]
        exact h1
      · rw [h2, numB_big hs]; simp
theorem impl_PutNum_loop {R : Type} (K : Ex → AS → Option R) : ∀ (k n : Nat) (acc : List Int), n < 128 ^ (k + 1) → n ≤ 2147483647 → acc.length + k ≤ 1000000 →
    ∃ (m d : Nat) (acc' : List Int), iterG impl_PutNum_t0 impl_PutNum_B0 K m (((n : Int), ()), (acc, ())) = K (.exit 0) (impl_PutNum_x0_0 (d : Int) acc') ∧ acc' ++ [(d : Int)] = acc ++ numB n ∧ d ≤ 127 ∧ acc'.length ≤ acc.length + k
  | 0, n, acc, h, hn, hl => by
    refine ⟨1, n, acc, ?_, by rw [numB_small (by omega)], by omega, by omega⟩
    rw [impl_PutNum_r0, brk_neg (by simp; omega)]
  | k + 1, n, acc, h, hn, hl => by
    by_cases hs : n ≤ 127
    · refine ⟨1, n, acc, ?_, by rw [numB_small hs], hs, by omega⟩
      rw [impl_PutNum_r0, brk_neg (by simp; omega)]
    · obtain ⟨m, d, acc', h1, h2, h3, h4⟩ := impl_PutNum_loop K k (n / 128) (acc ++ [((n % 128 + 128 : Nat) : Int)]) (by rw [Nat.div_lt_iff_lt_mul (by omega)]; rw [Nat.pow_succ] at h; exact h) (by omega) (by simp; omega)
      refine ⟨m + 1, d, acc', ?_, ?_, h3, by simp at h4; omega⟩
      · rw [impl_PutNum_r0, brk_pos (by simp; omega), ck_pos (by simp [big47]; omega)]
        have e1 : (n : Int).tmod 128 = ((n % 128 : Nat) : Int) := by rw [Int.tmod_eq_emod_of_nonneg (by omega)]; omega
        have e2 : (n : Int).tdiv 128 = ((n / 128 : Nat) : Int) := by rw [Int.tdiv_eq_ediv_of_nonneg (by omega)]; omega
        rw [e1, e2, wrap64 (by omega) (by omega), wrap64 (by omega) (by omega), wrap8 (by omega) (by omega)]
        rw [show ((n % 128 : Nat) : Int) + 128 = ((n % 128 + 128 : Nat) : Int) by omega]
        exact h1
      · rw [h2, numB_big hs]; simp
/-- What is put of a number. -/
def putN (x : Int) : List Int := if 0 ≤ x ∧ x ≤ 2147483647 then numB x.toNat else []
theorem spec_l1In_ok (x lo hi : Int) : spec_l1In_F (x, (lo, (hi, ()))) = some ((decide (lo ≤ x) && decide (x ≤ hi), ()), ((), ((), ((), ())))) := by
  rw [spec_l1In_main]
  by_cases h : lo ≤ x <;> simp [h]
theorem spec_PutNum_in (n : Nat) (h : n ≤ 2147483647) : loopG spec_PutNum_t0 spec_PutNum_B0 (spec_PutNum_K0 (n : Int)) (((n : Int), ()), ([], ())) = some ((numB n, ()), ((), ())) := by
  obtain ⟨m, d, acc', h1, h2, h3, h4⟩ := spec_PutNum_loop (spec_PutNum_K0 (n : Int)) 4 n [] (by omega) h (by simp)
  have h5 : spec_PutNum_K0 (n : Int) (.exit 0) (spec_PutNum_x0_0 (d : Int) acc') = some ((numB n, ()), ((), ())) := by
    rw [spec_PutNum_e0_0, wrap8 (by omega) (by omega), ck_pos (by simp at h4; simp [big47]; omega), h2]; rfl
  rw [spec_PutNum_l0 m h1 ⟨_, h5⟩, h5]
theorem impl_PutNum_in (n : Nat) (h : n ≤ 2147483647) : loopG impl_PutNum_t0 impl_PutNum_B0 (impl_PutNum_K0 (n : Int)) (((n : Int), ()), ([], ())) = some ((numB n, ()), ((), ())) := by
  obtain ⟨m, d, acc', h1, h2, h3, h4⟩ := impl_PutNum_loop (impl_PutNum_K0 (n : Int)) 4 n [] (by omega) h (by simp)
  have h5 : impl_PutNum_K0 (n : Int) (.exit 0) (impl_PutNum_x0_0 (d : Int) acc') = some ((numB n, ()), ((), ())) := by
    rw [impl_PutNum_e0_0, wrap8 (by omega) (by omega), ck_pos (by simp at h4; simp [big47]; omega), h2]; rfl
  rw [impl_PutNum_l0 m h1 ⟨_, h5⟩, h5]
theorem spec_PutNum_ok (x : Int) : spec_PutNum_F (x, ()) = some ((putN x, ()), ((), ())) := by
  rw [spec_PutNum_main, spec_l1In_ok]
  simp only [Option.bind_some]
  unfold putN
  by_cases h : 0 ≤ x ∧ x ≤ 2147483647
  · obtain ⟨n, rfl⟩ := Int.eq_ofNat_of_zero_le h.1
    rw [brk_neg (by simp; omega), if_pos h, spec_PutNum_in n (by omega)]
    simp
  · rw [brk_pos (by simp; omega), if_neg h]
theorem impl_PutNum_ok (x : Int) : impl_PutNum_F (x, ()) = some ((putN x, ()), ((), ())) := by
  rw [impl_PutNum_main]
  unfold putN
  by_cases h : 0 ≤ x ∧ x ≤ 2147483647
  · obtain ⟨n, rfl⟩ := Int.eq_ofNat_of_zero_le h.1
    rw [brk_neg (by simp), brk_neg (by simp; omega), if_pos h, impl_PutNum_in n (by omega)]
    simp
  · rw [if_neg h]
    by_cases h0 : x < 0
    · rw [brk_pos (by simpa using h0)]
    · rw [brk_neg (by simpa using h0), brk_pos (by simp; omega)]
theorem putN_len (x : Int) : (putN x).length ≤ 5 := by
  unfold putN
  split
  · exact numB_len 4 _ (by omega)
  · simp
def putNs (xs : List Int) : List Int := xs.flatMap putN
theorem putNs_len (xs : List Int) : (putNs xs).length ≤ xs.length * 5 := by
  induction xs with
  | nil => simp [putNs]
  | cons x xs ih =>
    have := putN_len x
    simp only [putNs, List.flatMap_cons, List.length_append, List.length_cons] at ih ⊢
    omega
theorem putNums_loop {R : Type} (K : Ex → AS → Option R) (xs : List Int) (hx : xs.length ≤ 2000000) : ∀ (n i : Nat) (acc : List Int), i + n = xs.length → acc.length ≤ i * 5 →
    iterG impl_putNums_t0 impl_putNums_B0 K (n + 1) ((xs, ((xs.length : Int), ((i : Int), ()))), (acc, ())) = K (.exit 0) (impl_putNums_x0_0 (acc ++ putNs (xs.drop i)))
  | 0, i, acc, h, ha => by
    rw [impl_putNums_r0, brk_neg (by simp; omega), List.drop_of_length_le (by omega)]
    simp [putNs]
  | n + 1, i, acc, h, ha => by
    have hi : i < xs.length := by omega
    have hp := putN_len xs[i]
    rw [impl_putNums_r0, brk_pos (by simp; omega), ck_pos (by simp; omega), rdD_get (List.getElem?_eq_getElem hi), impl_PutNum_ok]
    simp only [Option.bind_some]
    rw [ck_pos (by simp only [big47]; simp; omega), wrap64 (by omega) (by omega), show ((i : Int) + 1) = ((i + 1 : Nat) : Int) by simp]
    rw [putNums_loop K xs hx n (i + 1) _ (by omega) (by simp; omega), List.drop_eq_getElem_cons hi]
    simp only [putNs, List.flatMap_cons, List.append_assoc]
theorem impl_putNums_ok (xs : List Int) (hx : xs.length ≤ 2000000) : impl_putNums_F (xs, ()) = some ((putNs xs, ()), ((), ())) := by
  rw [impl_putNums_main]
  have h : iterG impl_putNums_t0 impl_putNums_B0 (impl_putNums_K0 xs) (xs.length + 1) ((xs, ((xs.length : Int), ((0 : Int), ()))), ([], ())) = _ := putNums_loop (impl_putNums_K0 xs) xs hx xs.length 0 [] (by omega) (by simp)
  rw [impl_putNums_l0 _ h ⟨_, impl_putNums_e0_0 _ _⟩, impl_putNums_e0_0]
  simp
theorem impl_putList_ok (xs : List Int) (hx : xs.length ≤ 2000000) : impl_putList_F (xs, ()) = some ((putNs ((xs.length : Int) :: xs), ()), ((), ())) := by
  rw [impl_putList_main, impl_putNums_ok _ (by simp), impl_putNums_ok _ hx]
  have h1 := putNs_len [(xs.length : Int)]
  have h2 := putNs_len xs
  simp only [Option.bind_some]
  rw [ck_pos (by simp only [big47, List.length_cons, List.length_nil] at *; simp; omega)]
  simp [putNs]
theorem two_has {R : Type} (K : Ex → AS → Option R) (xs : List Int) (v : Int) (hb : xs.length ≤ big47) : ∀ (n i : Nat), i + n = xs.length →
    iterG spec_l2Has_t0 spec_l2Has_B0 K (n + 1) ((xs, (v, ((i : Int), ()))), ()) = if v ∈ xs.drop i then K .ret (spec_l2Has_x0_0 true) else K (.exit 0) spec_l2Has_x0_1
  | 0, i, h => by
    rw [spec_l2Has_r0, brk_neg (by simp; omega), List.drop_of_length_le (by omega)]
    simp
  | n + 1, i, h => by
    have hi : i < xs.length := by omega
    simp only [big47] at hb
    rw [spec_l2Has_r0, brk_pos (by simp; omega), ck_pos (by simp; omega), rdD_get (List.getElem?_eq_getElem hi), List.drop_eq_getElem_cons hi]
    by_cases he : xs[i] = v
    · rw [brk_pos (by simp [he]), if_pos (by rw [he]; exact List.mem_cons_self)]
    · rw [brk_neg (by simp [he]), wrap64 (by omega) (by omega), show ((i : Int) + 1) = ((i + 1 : Nat) : Int) by simp]
      rw [two_has K xs v (by simp only [big47]; omega) n (i + 1) (by omega)]
      have : (v ∈ xs[i] :: xs.drop (i + 1)) ↔ v ∈ xs.drop (i + 1) := by
        rw [List.mem_cons]; exact ⟨fun h => h.resolve_left fun e => he e.symm, .inr⟩
      by_cases hm : v ∈ xs.drop (i + 1)
      · rw [if_pos hm, if_pos (this.2 hm)]
      · rw [if_neg hm, if_neg fun h => hm (this.1 h)]
theorem brk_if {R : Type} (p : Prop) [Decidable p] (a b : Option R) : brk (decide p) a b = if p then a else b := by by_cases h : p <;> simp [h, brk]
theorem n0 : ((0 : Nat) : Int) = 0 := rfl
theorem big47_eq : big47 = 140737488355328 := rfl
theorem spec_l2Has_ok (xs : List Int) (v : Int) (hb : xs.length ≤ big47) : spec_l2Has_F (xs, (v, ())) = some ((decide (v ∈ xs), ()), ((), ((), ()))) := by
  rw [spec_l2Has_main]
  have h := two_has (spec_l2Has_K0 xs v) xs v hb xs.length 0 (by omega)
  rw [List.drop_zero, n0] at h
  by_cases hm : v ∈ xs
  · rw [if_pos hm] at h
    rw [spec_l2Has_l0 _ h ⟨_, spec_l2Has_e0_0 _ _ _⟩, spec_l2Has_e0_0, decide_eq_true hm]
  · rw [if_neg hm] at h
    rw [spec_l2Has_l0 _ h ⟨_, spec_l2Has_e0_1 _ _⟩, spec_l2Has_e0_1, decide_eq_false hm]
theorem Index_loop {R : Type} (K : Ex → AS → Option R) (xs : List Int) (v : Int) (hb : xs.length ≤ big47) : ∀ (n i : Nat), i + n = xs.length →
    (v ∈ xs.drop i ∧ ∃ j : Nat, iterG slices_Index_int_t0 slices_Index_int_B0 K (n + 1) ((xs, (v, ((xs.length : Int), ((i : Int), ())))), ()) = K .ret (slices_Index_int_x0_0 (j : Int))) ∨
    (v ∉ xs.drop i ∧ iterG slices_Index_int_t0 slices_Index_int_B0 K (n + 1) ((xs, (v, ((xs.length : Int), ((i : Int), ())))), ()) = K (.exit 0) slices_Index_int_x0_1)
  | 0, i, h => by
    right
    rw [slices_Index_int_r0, brk_neg (by simp; omega), List.drop_of_length_le (by omega)]
    simp
  | n + 1, i, h => by
    have hi : i < xs.length := by omega
    simp only [big47] at hb
    rw [slices_Index_int_r0, brk_pos (by simp; omega), ck_pos (by simp; omega), rdD_get (List.getElem?_eq_getElem hi), List.drop_eq_getElem_cons hi]
    by_cases he : v = xs[i]
    · left
      rw [brk_pos (by simp [he])]
      exact ⟨by rw [← he]; exact List.mem_cons_self, i, rfl⟩
    · rw [brk_neg (by simp [he]), wrap64 (by omega) (by omega), show ((i : Int) + 1) = ((i + 1 : Nat) : Int) by simp]
      rcases Index_loop K xs v (by simp only [big47]; omega) n (i + 1) (by omega) with ⟨h1, j, h2⟩ | ⟨h1, h2⟩
      · exact .inl ⟨List.mem_cons_of_mem _ h1, j, h2⟩
      · exact .inr ⟨fun hm => (List.mem_cons.1 hm).elim he h1, h2⟩
theorem slices_Index_int_ok (xs : List Int) (v : Int) (hb : xs.length ≤ big47) : ∃ r : Int, slices_Index_int_F (xs, (v, ())) = some ((r, ()), ((), ((), ()))) ∧ (0 ≤ r ↔ v ∈ xs) := by
  rw [slices_Index_int_main]
  rcases Index_loop (slices_Index_int_K0 xs v) xs v hb xs.length 0 (by omega) with ⟨h1, j, h2⟩ | ⟨h1, h2⟩
  · rw [n0] at h2
    exact ⟨j, by rw [slices_Index_int_l0 _ h2 ⟨_, slices_Index_int_e0_0 _ _ _⟩, slices_Index_int_e0_0], by simp at h1; simp [h1]⟩
  · rw [n0] at h2
    exact ⟨-1, by rw [slices_Index_int_l0 _ h2 ⟨_, slices_Index_int_e0_1 _ _⟩, slices_Index_int_e0_1], by simp at h1; simp [h1]⟩
theorem slices_Contains_int_ok (xs : List Int) (v : Int) (hb : xs.length ≤ big47) : slices_Contains_int_F (xs, (v, ())) = some ((decide (v ∈ xs), ()), ((), ((), ()))) := by
  obtain ⟨r, h1, h2⟩ := slices_Index_int_ok xs v hb
  rw [slices_Contains_int_main, h1]
  simp only [Option.bind_some, h2]
theorem impl_from_ok (x lo hi : Int) : impl_from_F (x, (lo, (hi, ()))) = some ((decide (lo ≤ x ∧ x ≤ hi), ()), ((), ((), ((), ())))) := by
  rw [impl_from_main, brk_if]
  by_cases h : lo ≤ x <;> simp [h]
theorem impl_from_z (z : PsD [.ro tI, .ro tI, .ro tI]) : impl_from_F z = some ((decide (z.2.1 ≤ z.1 ∧ z.1 ≤ z.2.2.1), ()), ((), ((), ((), ())))) := impl_from_ok z.1 z.2.1 z.2.2.1
theorem impl_isCell_z (z : PsD [.ro tI]) : impl_isCell_F z = some ((decide (0 ≤ z.1 ∧ z.1 ≤ 7), ()), ((), ())) := by rw [show z = (z.1, ()) from rfl, impl_isCell_main, impl_from_ok]; rfl
theorem impl_isWrite_z (z : PsD [.ro tI]) : impl_isWrite_F z = some ((decide (1 ≤ z.1 ∧ z.1 ≤ 200), ()), ((), ())) := by rw [show z = (z.1, ()) from rfl, impl_isWrite_main, impl_from_ok]; rfl
theorem impl_isNode_ok (x : Int) : impl_isNode_F (x, ()) = some ((decide (0 ≤ x ∧ x ≤ 2), ()), ((), ())) := by rw [impl_isNode_main, impl_from_ok]; rfl
theorem spec_l1In_ok' (x lo hi : Int) : spec_l1In_F (x, (lo, (hi, ()))) = some ((decide (lo ≤ x ∧ x ≤ hi), ()), ((), ((), ((), ())))) := by
  rw [spec_l1In_ok]
  by_cases h : lo ≤ x <;> simp [h]
theorem spec_l1In_z (z : PsD [.ro tI, .ro tI, .ro tI]) : spec_l1In_F z = some ((decide (z.2.1 ≤ z.1 ∧ z.1 ≤ z.2.2.1), ()), ((), ((), ((), ())))) := spec_l1In_ok' z.1 z.2.1 z.2.2.1
theorem spec_l1Bit_z (z : PsD [.ro tB]) : spec_l1Bit_F z = some ((if z.1 = true then 1 else 0, ()), ((), ())) := by rw [show z = (z.1, ()) from rfl, spec_l1Bit_main]; cases z.1 <;> rfl
def gensAll : List Int → List Int → Bool
  | _, [] => true
  | pre, x :: xs => decide (1 ≤ x ∧ x ≤ 100000) && !decide (x ∈ pre) && gensAll (pre ++ [x]) xs
def gensB (g : List Int) : Bool := gensAll [] g && decide (g.length ≤ 12)
theorem take_next {α : Type} {xs : List α} {i : Nat} (hi : i < xs.length) : xs.take (i + 1) = xs.take i ++ [xs[i]] := List.take_succ_eq_append_getElem hi
theorem spec_GensOk_loop {R : Type} (K : Ex → AS → Option R) (xs : List Int) (hb : xs.length ≤ big47) : ∀ (n i : Nat), i + n = xs.length →
    iterG spec_GensOk_t0 spec_GensOk_B0 K (n + 1) ((xs, ((i : Int), ())), ()) = brk (gensAll (xs.take i) (xs.drop i)) (K (.exit 0) (spec_GensOk_x0_1 xs)) (K .ret (spec_GensOk_x0_0 xs false))
  | 0, i, h => by
    rw [spec_GensOk_r0, brk_neg (by simp; omega), List.drop_of_length_le (by omega), brk_pos (by simp [gensAll])]
  | n + 1, i, h => by
    have hi : i < xs.length := by omega
    have hb' := hb
    simp only [big47] at hb
    rw [spec_GensOk_r0, brk_pos (by simp; omega), ck_pos (by simp; omega), rdD_get (List.getElem?_eq_getElem hi), spec_l1In_ok', List.drop_eq_getElem_cons hi]
    simp only [Option.bind_some, gensAll]
    by_cases h1 : 1 ≤ xs[i] ∧ xs[i] ≤ 100000
    · rw [decide_eq_true h1, Bool.not_true, brk_false, ck_pos (by simp; omega), ck_pos (by simp; omega), spec_l2Has_ok _ _ (by simp; omega)]
      simp only [Option.bind_some, Int.toNat_zero, List.drop_zero, Int.toNat_natCast, Bool.true_and]
      by_cases h2 : xs[i] ∈ xs.take i
      · rw [decide_eq_true h2]; simp
      · rw [decide_eq_false h2, brk_false, wrap64 (by omega) (by omega), show ((i : Int) + 1) = ((i + 1 : Nat) : Int) by simp, spec_GensOk_loop K xs hb' n (i + 1) (by omega), take_next hi]
        simp
    · rw [decide_eq_false h1]; simp
theorem spec_GensOk_ok (xs : List Int) (hb : xs.length ≤ big47) : spec_GensOk_F (xs, ()) = some ((gensB xs, ()), ((), ())) := by
  rw [spec_GensOk_main]
  have h : iterG spec_GensOk_t0 spec_GensOk_B0 (spec_GensOk_K0 xs) (xs.length + 1) ((xs, ((0 : Int), ())), ()) = _ := spec_GensOk_loop (spec_GensOk_K0 xs) xs hb xs.length 0 (by omega)
  simp only [List.take_zero, List.drop_zero] at h
  unfold gensB
  by_cases hg : gensAll [] xs = true
  · rw [brk_pos hg] at h
    rw [spec_GensOk_l0 _ h ⟨_, spec_GensOk_e0_1 _ _⟩, spec_GensOk_e0_1, hg]
    simp
    omega
  · rw [brk_neg (by simpa using hg)] at h
    rw [spec_GensOk_l0 _ h ⟨_, spec_GensOk_e0_0 _ _ _⟩, spec_GensOk_e0_0]
    simp [hg]
theorem impl_GensOk_loop {R : Type} (K : Ex → AS → Option R) (xs : List Int) (hb : xs.length ≤ big47) : ∀ (n i : Nat), i + n = xs.length →
    iterG impl_GensOk_t0 impl_GensOk_B0 K (n + 1) ((xs, (xs, ((xs.length : Int), ((i : Int), ())))), ()) = brk (gensAll (xs.take i) (xs.drop i)) (K (.exit 0) (impl_GensOk_x0_1 xs)) (K .ret (impl_GensOk_x0_0 xs false))
  | 0, i, h => by
    rw [impl_GensOk_r0, brk_neg (by simp; omega), List.drop_of_length_le (by omega), brk_pos (by simp [gensAll])]
  | n + 1, i, h => by
    have hi : i < xs.length := by omega
    have hb' := hb
    simp only [big47] at hb
    rw [impl_GensOk_r0, brk_pos (by simp; omega), ck_pos (by simp; omega), rdD_get (List.getElem?_eq_getElem hi), impl_from_ok, List.drop_eq_getElem_cons hi]
    simp only [Option.bind_some, gensAll]
    by_cases h1 : 1 ≤ xs[i] ∧ xs[i] ≤ 100000
    · rw [decide_eq_true h1, Bool.not_true, brk_false, ck_pos (by simp; omega), slices_Contains_int_ok _ _ (by simp; omega)]
      simp only [Option.bind_some, Int.toNat_zero, List.drop_zero, Int.toNat_natCast, Bool.true_and]
      by_cases h2 : xs[i] ∈ xs.take i
      · rw [decide_eq_true h2]; simp
      · rw [decide_eq_false h2, brk_false, wrap64 (by omega) (by omega), show ((i : Int) + 1) = ((i + 1 : Nat) : Int) by simp, impl_GensOk_loop K xs hb' n (i + 1) (by omega), take_next hi]
        simp
    · rw [decide_eq_false h1]; simp
theorem impl_GensOk_ok (xs : List Int) (hb : xs.length ≤ big47) : impl_GensOk_F (xs, ()) = some ((gensB xs, ()), ((), ())) := by
  rw [impl_GensOk_main]
  have h : iterG impl_GensOk_t0 impl_GensOk_B0 (impl_GensOk_K0 xs) (xs.length + 1) ((xs, (xs, ((xs.length : Int), ((0 : Int), ())))), ()) = _ := impl_GensOk_loop (impl_GensOk_K0 xs) xs hb xs.length 0 (by omega)
  simp only [List.take_zero, List.drop_zero] at h
  unfold gensB
  by_cases hg : gensAll [] xs = true
  · rw [brk_pos hg] at h
    rw [impl_GensOk_l0 _ h ⟨_, impl_GensOk_e0_1 _ _⟩, impl_GensOk_e0_1, hg]
    simp
    omega
  · rw [brk_neg (by simpa using hg)] at h
    rw [impl_GensOk_l0 _ h ⟨_, impl_GensOk_e0_0 _ _ _⟩, impl_GensOk_e0_0]
    simp [hg]
theorem wrap8m (x : Int) : IntKind.u8.wrap x = x % 256 := by
  simp only [IntKind.wrap, IntKind.signed, IntKind.bits]
  simp
theorem and_nat {x y : Nat} (hx : x < 9223372036854775808) (hy : y < 9223372036854775808) : andN .i64 (x : Int) (y : Int) = ((x &&& y : Nat) : Int) := by
  unfold andN
  have e : (BitVec.ofInt IntKind.i64.bits (x : Int) &&& BitVec.ofInt IntKind.i64.bits (y : Int)).toNat = x &&& y := by
    rw [BitVec.ofInt_natCast, BitVec.ofInt_natCast, BitVec.toNat_and, BitVec.toNat_ofNat, BitVec.toNat_ofNat]
    simp only [IntKind.bits]
    rw [Nat.mod_eq_of_lt (by omega), Nat.mod_eq_of_lt (by omega)]
  rw [e]
  have : x &&& y ≤ x := Nat.and_le_left
  exact wrap64 (by omega) (by omega)
theorem and255 {x : Int} (h0 : 0 ≤ x) (h1 : x < 9223372036854775808) : andN .i64 x 255 = x % 256 := by
  obtain ⟨n, rfl⟩ := Int.eq_ofNat_of_zero_le h0
  rw [show (255 : Int) = ((255 : Nat) : Int) from rfl, and_nat (by omega) (by omega), show (255 : Nat) = 2 ^ 8 - 1 from rfl, Nat.and_two_pow_sub_one_eq_mod]
  simp
theorem shr8 (x : Int) : shrN .i64 x 8 = x / 256 := by
  unfold shrN; rw [Int.fdiv_eq_ediv_of_nonneg _ (by decide)]; rfl
theorem shr16 (x : Int) : shrN .i64 x 16 = x / 65536 := by
  unfold shrN; rw [Int.fdiv_eq_ediv_of_nonneg _ (by decide)]; rfl
theorem shr24 (x : Int) : shrN .i64 x 24 = x / 16777216 := by
  unfold shrN; rw [Int.fdiv_eq_ediv_of_nonneg _ (by decide)]; rfl
def fourB (x : Int) : List Int := [x % 256, x / 256 % 256, x / 65536 % 256, x / 16777216 % 256]
theorem impl_four_ok (x : Int) : impl_four_F (x, ()) = some ((fourB x, ()), ((), ())) := by
  rw [impl_four_main, shr8, shr16, shr24, wrap8m, wrap8m, wrap8m, wrap8m]; rfl
theorem spec_l4Sum_ok (x : Int) (h0 : 0 ≤ x) (h1 : x ≤ 4611686018427387904) : spec_l4Sum_F (x, ()) = some ((fourB x, ()), ((), ())) := by
  rw [spec_l4Sum_main, shr8, shr16, shr24, and255 h0 (by omega), and255 (by omega) (by omega), and255 (by omega) (by omega), and255 (by omega) (by omega), wrap8m, wrap8m, wrap8m, wrap8m]
  simp only [Int.emod_emod_of_dvd _ (Int.dvd_refl 256)]
  rfl
theorem numB_range : ∀ (k n : Nat), n < 128 ^ (k + 1) → ∀ b ∈ numB n, 0 ≤ b ∧ b ≤ 255
  | 0, n, h, b, hb => by rw [numB_small (by omega)] at hb; simp at hb; omega
  | k + 1, n, h, b, hb => by
    by_cases hn : n ≤ 127
    · rw [numB_small hn] at hb; simp at hb; omega
    · rw [numB_big hn] at hb
      rcases List.mem_cons.1 hb with rfl | hb
      · omega
      · exact numB_range k (n / 128) (by rw [Nat.div_lt_iff_lt_mul (by omega)]; rw [Nat.pow_succ] at h; exact h) b hb
theorem putN_range (x : Int) : ∀ b ∈ putN x, 0 ≤ b ∧ b ≤ 255 := by
  unfold putN
  split
  · exact numB_range 4 _ (by omega)
  · simp
theorem putNs_range (xs : List Int) : ∀ b ∈ putNs xs, 0 ≤ b ∧ b ≤ 255 := fun b hb => by
  obtain ⟨x, _, hb⟩ := List.mem_flatMap.1 hb
  exact putN_range x b hb
/-- A loop that counts up: a round ends it, or goes on. -/
theorem for_loop {R σ : Type} {G : Nat → Nat → σ → Option R} (N : Nat) (Inv : Nat → σ → Prop) (Post : Option R → Prop)
    (hs : ∀ i s, i < N → Inv i s → (∃ v, Post v ∧ ∀ n, G (n + 1) i s = v) ∨ (∃ s', Inv (i + 1) s' ∧ ∀ n, G (n + 1) i s = G n (i + 1) s'))
    (hf : ∀ s, Inv N s → ∃ v, Post v ∧ ∀ n, G (n + 1) N s = v) (s : σ) (h : Inv 0 s) : ∃ n v, G n 0 s = v ∧ Post v := by
  have key : ∀ (k i : Nat) (s : σ), i + k = N → Inv i s → ∃ n v, G n i s = v ∧ Post v := by
    intro k
    induction k with
    | zero =>
      intro i s hi h
      have : i = N := by omega
      subst this
      obtain ⟨v, hv, hg⟩ := hf s h
      exact ⟨1, v, hg 0, hv⟩
    | succ k ih =>
      intro i s hi h
      rcases hs i s (by omega) h with ⟨v, hv, hg⟩ | ⟨s', h', hg⟩
      · exact ⟨1, v, hg 0, hv⟩
      · obtain ⟨n, v, hn, hv⟩ := ih (i + 1) s' (by omega) h'
        exact ⟨n + 1, v, (hg n).trans hn, hv⟩
  exact key N 0 s (by omega) h
theorem step_nat (i : Nat) (h : i ≤ 4611686018427387904) : IntKind.i64.wrap ((i : Int) + 1) = ((i + 1 : Nat) : Int) := by
  rw [wrap64 (by omega) (by omega)]; rfl
theorem rdD_nat {t : Ty} (xs : List t.D) (i : Nat) : rdD t xs (i : Int) = xs.getD i t.zero := rfl
theorem getD_at {α : Type} {xs : List α} {i : Nat} {d : α} (h : i < xs.length) : xs.getD i d = xs[i] := by simp [h]
theorem ck_idx {R : Type} {i n : Nat} (h : i < n) (a : Option R) : ck (decide ((0 : Int) ≤ (i : Int)) && decide ((i : Int) < (n : Int))) a = a := ck_pos (by simp; omega) a
theorem brk_lt {R : Type} {i n : Nat} (h : i < n) (a b : Option R) : brk (decide ((i : Int) < (n : Int))) a b = a := brk_pos (by simp; omega) a b
theorem brk_nlt {R : Type} {i n : Nat} (h : ¬ i < n) (a b : Option R) : brk (decide ((i : Int) < (n : Int))) a b = b := brk_neg (by simp; omega) a b
/-- Is the number at i a cell, and above the one before? -/
def MkP (xs : List Int) (i : Nat) : Prop := (0 ≤ xs.getD i 0 ∧ xs.getD i 0 ≤ 7) ∧ (0 < i → xs.getD (i - 1) 0 < xs.getD i 0)
instance instMkP (xs : List Int) (i : Nat) : Decidable (MkP xs i) := by unfold MkP; infer_instance
def marksB (xs : List Int) : Bool := (List.range xs.length).all fun i => @decide (MkP xs i) (instMkP xs i)
theorem marksB_iff {xs : List Int} : marksB xs = true ↔ ∀ i, i < xs.length → MkP xs i := by
  simp [marksB]
theorem marksB_no {xs : List Int} {i : Nat} (hi : i < xs.length) (h : ¬ MkP xs i) : marksB xs = false := by
  cases hb : marksB xs with
  | false => rfl
  | true => exact absurd (marksB_iff.1 hb i hi) h
theorem pred_nat {i : Nat} (h : 0 < i) (hi : i ≤ 4611686018427387904) : IntKind.i64.wrap ((i : Int) - 1) = ((i - 1 : Nat) : Int) := by
  rw [wrap64 (by omega) (by omega)]; omega
theorem spec_MarksOk_ok (xs : List Int) (hb : xs.length ≤ big47) : spec_MarksOk_F (xs, ()) = some ((marksB xs, ()), ((), ())) := by
  rw [big47_eq] at hb
  rw [spec_MarksOk_main]
  obtain ⟨n, v, h, rfl⟩ := for_loop (σ := Unit) (G := fun n i _ => iterG spec_MarksOk_t0 spec_MarksOk_B0 (spec_MarksOk_K0 xs) n ((xs, ((i : Int), ())), ())) xs.length (fun i _ => ∀ j, j < i → MkP xs j) (· = some ((marksB xs, ()), ((), ())))
    (fun i _ hi hI => by
      by_cases h1 : 0 ≤ xs.getD i 0 ∧ xs.getD i 0 ≤ 7
      · by_cases h0 : 0 < i
        · by_cases h2 : xs.getD (i - 1) 0 < xs.getD i 0
          · refine .inr ⟨(), fun j hj => ?_, fun n => ?_⟩
            · rcases Nat.lt_succ_iff_lt_or_eq.1 hj with h | rfl
              · exact hI j h
              · exact ⟨h1, fun _ => h2⟩
            · dsimp only; rw [spec_MarksOk_r0, brk_lt hi, ck_idx hi]; simp only [spec_l1In_z, Option.bind_some, rdD_nat, Ty.zero, h1, and_self, decide_true, Bool.not_true, brk_false, pred_nat h0 (by omega : i ≤ _), step_nat i (by omega)]
              rw [brk_pos (decide_eq_true (by omega)), ck_idx (by omega), ck_idx hi, brk_neg (decide_eq_false (Int.not_le.2 h2))]
          · refine .inl ⟨_, rfl, fun n => ?_⟩
            dsimp only; rw [spec_MarksOk_r0, brk_lt hi, ck_idx hi]; simp only [spec_l1In_z, Option.bind_some, rdD_nat, Ty.zero, h1, and_self, decide_true, Bool.not_true, brk_false, pred_nat h0 (by omega : i ≤ _), step_nat i (by omega)]
            rw [brk_pos (decide_eq_true (by omega)), ck_idx (by omega), ck_idx hi, brk_pos (decide_eq_true (Int.not_lt.1 h2)), spec_MarksOk_e0_0, marksB_no hi fun h => h2 (h.2 h0)]
        · refine .inr ⟨(), fun j hj => ?_, fun n => ?_⟩
          · rcases Nat.lt_succ_iff_lt_or_eq.1 hj with h | rfl
            · exact hI j h
            · exact ⟨h1, fun h => absurd h h0⟩
          · dsimp only; rw [spec_MarksOk_r0, brk_lt hi, ck_idx hi]; simp only [spec_l1In_z, Option.bind_some, rdD_nat, Ty.zero, h1, and_self, decide_true, Bool.not_true, brk_false, step_nat i (by omega)]
            rw [brk_neg (decide_eq_false (by omega))]
      · refine .inl ⟨_, rfl, fun n => ?_⟩
        dsimp only; rw [spec_MarksOk_r0, brk_lt hi, ck_idx hi]; simp only [spec_l1In_z, Option.bind_some, rdD_nat, Ty.zero, h1, decide_false, Bool.not_false, brk_true]
        rw [spec_MarksOk_e0_0, marksB_no hi fun h => h1 h.1])
    (fun _ hI => ⟨_, rfl, fun n => by
      dsimp only
      rw [spec_MarksOk_r0, brk_nlt (by omega), spec_MarksOk_e0_1, marksB_iff.2 hI]⟩) () (fun j hj => by omega)
  exact spec_MarksOk_l0 n h ⟨_, rfl⟩
theorem impl_MarksOk_ok (xs : List Int) (hb : xs.length ≤ big47) : impl_MarksOk_F (xs, ()) = some ((marksB xs, ()), ((), ())) := by
  rw [big47_eq] at hb
  rw [impl_MarksOk_main]
  obtain ⟨n, v, h, rfl⟩ := for_loop (σ := Unit) (G := fun n i _ => iterG impl_MarksOk_t0 impl_MarksOk_B0 (impl_MarksOk_K0 xs) n ((xs, (xs, ((xs.length : Int), ((i : Int), ())))), ())) xs.length (fun i _ => ∀ j, j < i → MkP xs j) (· = some ((marksB xs, ()), ((), ())))
    (fun i _ hi hI => by
      by_cases h1 : 0 ≤ xs.getD i 0 ∧ xs.getD i 0 ≤ 7
      · by_cases h0 : 0 < i
        · by_cases h2 : xs.getD (i - 1) 0 < xs.getD i 0
          · refine .inr ⟨(), fun j hj => ?_, fun n => ?_⟩
            · rcases Nat.lt_succ_iff_lt_or_eq.1 hj with h | rfl
              · exact hI j h
              · exact ⟨h1, fun _ => h2⟩
            · dsimp only; rw [impl_MarksOk_r0, brk_lt hi, ck_idx hi]; simp only [impl_isCell_z, Option.bind_some, rdD_nat, Ty.zero, h1, and_self, decide_true, Bool.not_true, brk_false, pred_nat h0 (by omega : i ≤ _), step_nat i (by omega)]
              rw [brk_pos (decide_eq_true (by omega)), ck_idx (by omega), brk_neg (decide_eq_false (Int.not_le.2 h2))]
          · refine .inl ⟨_, rfl, fun n => ?_⟩
            dsimp only; rw [impl_MarksOk_r0, brk_lt hi, ck_idx hi]; simp only [impl_isCell_z, Option.bind_some, rdD_nat, Ty.zero, h1, and_self, decide_true, Bool.not_true, brk_false, pred_nat h0 (by omega : i ≤ _), step_nat i (by omega)]
            rw [brk_pos (decide_eq_true (by omega)), ck_idx (by omega), brk_pos (decide_eq_true (Int.not_lt.1 h2)), impl_MarksOk_e0_0, marksB_no hi fun h => h2 (h.2 h0)]
        · refine .inr ⟨(), fun j hj => ?_, fun n => ?_⟩
          · rcases Nat.lt_succ_iff_lt_or_eq.1 hj with h | rfl
            · exact hI j h
            · exact ⟨h1, fun h => absurd h h0⟩
          · dsimp only; rw [impl_MarksOk_r0, brk_lt hi, ck_idx hi]; simp only [impl_isCell_z, Option.bind_some, rdD_nat, Ty.zero, h1, and_self, decide_true, Bool.not_true, brk_false, step_nat i (by omega)]
            rw [brk_neg (decide_eq_false (by omega))]
      · refine .inl ⟨_, rfl, fun n => ?_⟩
        dsimp only; rw [impl_MarksOk_r0, brk_lt hi, ck_idx hi]; simp only [impl_isCell_z, Option.bind_some, rdD_nat, Ty.zero, h1, decide_false, Bool.not_false, brk_true]
        rw [impl_MarksOk_e0_0, marksB_no hi fun h => h1 h.1])
    (fun _ hI => ⟨_, rfl, fun n => by
      dsimp only
      rw [impl_MarksOk_r0, brk_nlt (by omega), impl_MarksOk_e0_1, marksB_iff.2 hI]⟩) () (fun j hj => by omega)
  exact impl_MarksOk_l0 n h ⟨_, rfl⟩
theorem brk_nneg {R : Type} {x : Int} (h : 0 ≤ x) (a b : Option R) : brk (decide (x < 0)) a b = b := brk_neg (decide_eq_false (Int.not_lt.2 h)) a b
def bitsB (l : List (List Int)) : Bool := l.all marksB
theorem bitsB_iff {l : List (List Int)} : bitsB l = true ↔ ∀ i, i < l.length → marksB (l.getD i []) = true := by
  unfold bitsB
  rw [List.all_eq_true]
  constructor
  · intro h i hi
    rw [getD_at hi]; exact h _ (List.getElem_mem hi)
  · intro h x hx
    obtain ⟨i, hi, rfl⟩ := List.mem_iff_getElem.1 hx
    rw [← getD_at (d := []) hi]; exact h i hi
theorem bitsB_no {l : List (List Int)} {i : Nat} (hi : i < l.length) (h : marksB (l.getD i []) = false) : bitsB l = false := by
  cases hb : bitsB l with
  | false => rfl
  | true => rw [bitsB_iff.1 hb i hi] at h; cases h
theorem row_le {l : List (List Int)} (h : ∀ r ∈ l, r.length ≤ big47) {i : Nat} (hi : i < l.length) : (l.getD i []).length ≤ big47 := by
  rw [getD_at hi]; exact h _ (List.getElem_mem hi)
def metaOkB (g : List Int) (l : List (List Int)) (o h : Bool) (a : Int) : Bool := gensB g && decide (0 < g.length) && (decide (l.length = 3) && bitsB l) && decide (0 ≤ a ∧ a ≤ 200) && !(o && h)
theorem c3 {α : Type} (l : List α) : ((l.length : Int) = 3) = (l.length = 3) := propext (by omega)
theorem c0 {α : Type} (l : List α) : ((0 : Int) < (l.length : Int)) = (0 < l.length) := propext (by omega)
theorem spec_MetaOk_ok (g : List Int) (l : List (List Int)) (f o h : Bool) (a : Int) (hg : g.length ≤ big47) (hl : l.length ≤ big47) (hr : ∀ r ∈ l, r.length ≤ big47) : spec_MetaOk_F ((g, (l, (f, (o, (h, (a, ())))))), ()) = some ((metaOkB g l o h a, ()), ((), ())) := by
  have hl' := hl
  rw [big47_eq] at hl
  rw [spec_MetaOk_main]
  obtain ⟨n, v, hh, rfl⟩ := for_loop (σ := Unit) (G := fun n i _ => iterG spec_MetaOk_t0 spec_MetaOk_B0 (spec_MetaOk_K0 (g, (l, (f, (o, (h, (a, ()))))))) n (((i : Int), ()), ((g, (l, (f, (o, (h, (a, ())))))), ()))) l.length (fun i _ => ∀ j, j < i → marksB (l.getD j []) = true) (· = some ((metaOkB g l o h a, ()), ((), ())))
    (fun i _ hi hI => by
      cases h1 : marksB (l.getD i []) with
      | true =>
        refine .inr ⟨(), fun j hj => ?_, fun n => ?_⟩
        · rcases Nat.lt_succ_iff_lt_or_eq.1 hj with h | rfl
          · exact hI j h
          · exact h1
        · dsimp only
          rw [spec_MetaOk_r0, brk_lt hi, ck_idx hi, rdD_nat, show tIs.zero = [] from rfl, spec_MarksOk_ok _ (row_le hr hi)]
          simp only [Option.bind_some, h1, Bool.not_true, brk_false, step_nat i (by omega)]
      | false =>
        refine .inl ⟨_, rfl, fun n => ?_⟩
        dsimp only
        rw [spec_MetaOk_r0, brk_lt hi, ck_idx hi, rdD_nat, show tIs.zero = [] from rfl, spec_MarksOk_ok _ (row_le hr hi)]
        simp only [Option.bind_some, h1, Bool.not_false, brk_true]
        rw [spec_MetaOk_e0_0]
        simp [metaOkB, bitsB_no hi h1])
    (fun _ hI => ⟨_, rfl, fun n => by
      dsimp only
      rw [spec_MetaOk_r0, brk_nlt (by omega), spec_MetaOk_e0_1, spec_GensOk_ok _ hg]
      simp only [Option.bind_some, spec_l1In_z, metaOkB, bitsB_iff.2 hI, Bool.and_true, c3, c0]
      generalize l.length = n3
      generalize g.length = n0
      cases gensB g
      · simp
      · by_cases h1 : 0 < n0 <;> by_cases h2 : n3 = 3 <;> by_cases h3 : 0 ≤ a ∧ a ≤ 200 <;> cases o <;> simp [h1, h2, h3, brk]⟩) () (fun j hj => by omega)
  exact spec_MetaOk_l0 n hh ⟨_, rfl⟩
theorem impl_marksAll_1_ok (xs : List Int) (hb : xs.length ≤ big47) : impl_marksAll_1_F (xs, ()) = some ((!marksB xs, ()), ((), ())) := by
  rw [impl_marksAll_1_main, impl_MarksOk_ok _ hb]; rfl
theorem IndexFunc_rows_ok (l : List (List Int)) (hl : l.length ≤ big47) (hr : ∀ r ∈ l, r.length ≤ big47) : ∃ r : Int, slices_IndexFunc__int_F (l, ((), ())) = some ((r, ()), ((), ((), ()))) ∧ decide (0 ≤ r) = !bitsB l := by
  rw [big47_eq] at hl
  rw [slices_IndexFunc__int_main]
  obtain ⟨n, v, hh, r, rfl, hr⟩ := for_loop (σ := Unit) (G := fun n i _ => iterG slices_IndexFunc__int_t0 slices_IndexFunc__int_B0 (slices_IndexFunc__int_K0 l ()) n ((l, ((l.length : Int), ((i : Int), ()))), ())) l.length (fun i _ => ∀ j, j < i → marksB (l.getD j []) = true) (fun v => ∃ r : Int, v = some ((r, ()), ((), ((), ()))) ∧ decide (0 ≤ r) = !bitsB l)
    (fun i _ hi hI => by
      cases h1 : marksB (l.getD i []) with
      | true =>
        refine .inr ⟨(), fun j hj => ?_, fun n => ?_⟩
        · rcases Nat.lt_succ_iff_lt_or_eq.1 hj with h | rfl
          · exact hI j h
          · exact h1
        · dsimp only
          rw [slices_IndexFunc__int_r0, brk_lt hi, ck_idx hi, rdD_nat, show tIs.zero = [] from rfl, impl_marksAll_1_ok _ (row_le hr hi)]
          simp only [Option.bind_some, h1, Bool.not_true, brk_false, step_nat i (by omega)]
      | false =>
        refine .inl ⟨_, ⟨(i : Int), rfl, by rw [bitsB_no hi h1]; simp⟩, fun n => ?_⟩
        dsimp only
        rw [slices_IndexFunc__int_r0, brk_lt hi, ck_idx hi, rdD_nat, show tIs.zero = [] from rfl, impl_marksAll_1_ok _ (row_le hr hi)]
        simp only [Option.bind_some, h1, Bool.not_false, brk_true]
        rw [slices_IndexFunc__int_e0_0])
    (fun _ hI => ⟨_, ⟨-1, rfl, by rw [bitsB_iff.2 hI]; rfl⟩, fun n => by
      dsimp only
      rw [slices_IndexFunc__int_r0, brk_nlt (by omega), slices_IndexFunc__int_e0_1]⟩) () (fun j hj => by omega)
  exact ⟨r, slices_IndexFunc__int_l0 n hh ⟨_, rfl⟩, hr⟩
theorem impl_marksAll_ok (l : List (List Int)) (hl : l.length ≤ big47) (hr : ∀ r ∈ l, r.length ≤ big47) : impl_marksAll_F (l, ()) = some ((decide (l.length = 3) && bitsB l, ()), ((), ())) := by
  obtain ⟨r, h1, h2⟩ := IndexFunc_rows_ok l hl hr
  rw [impl_marksAll_main, slices_ContainsFunc__int_main, h1]
  simp only [Option.bind_some, h2, Bool.not_not]
  by_cases h : l.length = 3
  · rw [brk_pos (decide_eq_true (by omega)), decide_eq_true h, Bool.true_and]
  · rw [brk_neg (decide_eq_false (by omega)), decide_eq_false h, Bool.false_and]
theorem impl_MetaOk_ok (g : List Int) (l : List (List Int)) (f o h : Bool) (a : Int) (hg : g.length ≤ big47) (hl : l.length ≤ big47) (hr : ∀ r ∈ l, r.length ≤ big47) : impl_MetaOk_F ((g, (l, (f, (o, (h, (a, ())))))), ()) = some ((metaOkB g l o h a, ()), ((), ())) := by
  rw [impl_MetaOk_main, impl_GensOk_ok _ hg, impl_marksAll_ok l hl hr]
  simp only [Option.bind_some, impl_from_z, metaOkB, c0]
  generalize l.length = n3
  generalize g.length = n0
  cases gensB g
  · simp
  · by_cases h1 : 0 < n0 <;> by_cases h2 : n3 = 3 <;> by_cases h3 : 0 ≤ a ∧ a ≤ 200 <;> cases bitsB l <;> cases o <;> simp [h1, h2, h3, brk]
theorem toIntSS_ok (l : List (List Int)) (hl : l.length ≤ 1048576) (hr : ∀ r ∈ l, r.length ≤ 1048576) : laws_toIntSS_F (l, ()) = some ((l, ()), ((), ())) := by
  rw [laws_toIntSS_main, ck_pos (by simp; omega)]
  obtain ⟨n, v, hh, rfl⟩ := for_loop (σ := List (List Int)) (G := fun n i s => iterG laws_toIntSS_t0 laws_toIntSS_B0 (laws_toIntSS_K0 l) n ((l, ((i : Int), ())), (s, ()))) l.length (fun i s => s.length = l.length ∧ s.take i = l.take i) (· = some ((l, ()), ((), ())))
    (fun i s hi ⟨hI1, hI2⟩ => by
      refine .inr ⟨s.set i (l.getD i []), ⟨by simpa using hI1, ?_⟩, fun n => ?_⟩
      · rw [getD_at hi]; exact take_set_next hI1 hi hI2
      · dsimp only
        rw [laws_toIntSS_r0, brk_lt hi, ck_idx hi, rdD_nat, show tIs.zero = [] from rfl, toIntS_ok _ (by rw [getD_at hi]; exact hr _ (List.getElem_mem hi))]
        simp only [Option.bind_some]
        rw [ck_idx (by omega), step_nat i (by omega)]; rfl)
    (fun s ⟨hI1, hI2⟩ => ⟨_, rfl, fun n => by
      dsimp only
      rw [laws_toIntSS_r0, brk_nlt (by omega), laws_toIntSS_e0_0]
      rw [List.take_of_length_le (by omega), List.take_of_length_le (by omega)] at hI2
      rw [hI2]⟩) (List.replicate l.length []) ⟨by simp, by simp⟩
  exact laws_toIntSS_l0 n hh ⟨_, rfl⟩
theorem szIntSS_ok (l : List (List Int)) (k : Int) (hl : l.length ≤ big47) (hr : ∀ r ∈ l, r.length ≤ big47) (h0 : 0 ≤ k) (hk : k ≤ 1048576) : ∃ r : Int, laws_szIntSS_F (l, (k, ())) = some ((r, ()), ((), ((), ()))) ∧ r ≤ k ∧ (0 ≤ r → l.length ≤ 1048576 ∧ ∀ x ∈ l, x.length ≤ 1048576) := by
  have hl' := hl
  rw [big47_eq] at hl
  rw [laws_szIntSS_main, wrap64 (by omega) (by omega)]
  by_cases h : k < l.length
  · exact ⟨-1, by rw [brk_pos (decide_eq_true (by omega))], by omega, by omega⟩
  · rw [brk_neg (decide_eq_false (by omega))]
    obtain ⟨n, v, hh, r, rfl, hr1, hr2⟩ := for_loop (σ := Int) (G := fun n i s => iterG laws_szIntSS_t0 laws_szIntSS_B0 (laws_szIntSS_K0 l k) n ((l, (s, ((i : Int), ()))), ())) l.length (fun i s => 0 ≤ s ∧ s ≤ k ∧ ∀ j, j < i → (l.getD j []).length ≤ 1048576) (fun v => ∃ r : Int, v = some ((r, ()), ((), ((), ()))) ∧ r ≤ k ∧ (0 ≤ r → ∀ x ∈ l, x.length ≤ 1048576))
      (fun i s hi ⟨hI1, hI2, hI3⟩ => by
        by_cases hs : s < (l.getD i []).length
        · refine .inl ⟨_, ⟨-1, rfl, by omega, by omega⟩, fun n => ?_⟩
          dsimp only
          rw [laws_szIntSS_r0, brk_lt hi, ck_idx hi, rdD_nat, show tIs.zero = [] from rfl, szIntS_ok _ _ (row_le hr hi) hI1 (by omega), if_pos hs]
          simp only [Option.bind_some]
          rw [brk_pos (by decide), laws_szIntSS_e0_0]
        · refine .inr ⟨s - (l.getD i []).length, ⟨by omega, by omega, fun j hj => ?_⟩, fun n => ?_⟩
          · rcases Nat.lt_succ_iff_lt_or_eq.1 hj with h | rfl
            · exact hI3 j h
            · omega
          · dsimp only
            rw [laws_szIntSS_r0, brk_lt hi, ck_idx hi, rdD_nat, show tIs.zero = [] from rfl, szIntS_ok _ _ (row_le hr hi) hI1 (by omega), if_neg hs]
            simp only [Option.bind_some]
            rw [brk_nneg (by omega), step_nat i (by omega)])
      (fun s ⟨hI1, hI2, hI3⟩ => ⟨_, ⟨s, rfl, hI2, fun _ x hx => by
        obtain ⟨j, hj, rfl⟩ := List.mem_iff_getElem.1 hx
        rw [← getD_at (d := []) hj]; exact hI3 j hj⟩, fun n => by
        dsimp only
        rw [laws_szIntSS_r0, brk_nlt (by omega), laws_szIntSS_e0_1]⟩) (k - l.length) ⟨by omega, by omega, fun j hj => by omega⟩
    exact ⟨r, laws_szIntSS_l0 n hh ⟨_, rfl⟩, hr1, fun h0 => ⟨by omega, hr2 h0⟩⟩
theorem rows_ext {l m : List (List Int)} (h : l.length = m.length) (he : ∀ i, i < l.length → l.getD i [] = m.getD i []) : l = m :=
  List.ext_getElem h fun i h1 h2 => by have := he i h1; rwa [getD_at h1, getD_at h2] at this
theorem eqIntSS_ok (l m : List (List Int)) (hl : l.length ≤ big47) (hr : ∀ r ∈ l, r.length ≤ big47) : laws_eqIntSS_F (l, (m, ())) = some ((decide (l = m), ()), ((), ((), ()))) := by
  rw [big47_eq] at hl
  rw [laws_eqIntSS_main]
  by_cases h : l.length = m.length
  · rw [brk_neg (by simp [h])]
    obtain ⟨n, v, hh, rfl⟩ := for_loop (σ := Unit) (G := fun n i s => iterG laws_eqIntSS_t0 laws_eqIntSS_B0 (laws_eqIntSS_K0 l m) n ((l, (m, ((i : Int), ()))), ())) l.length (fun i s => ∀ j, j < i → l.getD j [] = m.getD j []) (· = some ((decide (l = m), ()), ((), ((), ()))))
      (fun i s hi hI => by
        by_cases he : l.getD i [] = m.getD i []
        · refine .inr ⟨(), fun j hj => ?_, fun n => ?_⟩
          · rcases Nat.lt_succ_iff_lt_or_eq.1 hj with h | rfl
            · exact hI j h
            · exact he
          · dsimp only
            rw [laws_eqIntSS_r0, brk_lt hi, ck_idx hi, ck_idx (by omega), rdD_nat, rdD_nat, show tIs.zero = [] from rfl, eqIntS_ok _ _ (row_le hr hi), decide_eq_true he]
            simp only [Option.bind_some, Bool.not_true, brk_false]
            rw [step_nat i (by omega)]
        · refine .inl ⟨_, rfl, fun n => ?_⟩
          dsimp only
          rw [laws_eqIntSS_r0, brk_lt hi, ck_idx hi, ck_idx (by omega), rdD_nat, rdD_nat, show tIs.zero = [] from rfl, eqIntS_ok _ _ (row_le hr hi), decide_eq_false he]
          simp only [Option.bind_some, Bool.not_false, brk_true]
          rw [laws_eqIntSS_e0_0, decide_eq_false fun e => he (by rw [e])])
      (fun s hI => ⟨_, rfl, fun n => by
        dsimp only
        rw [laws_eqIntSS_r0, brk_nlt (by omega), laws_eqIntSS_e0_1, decide_eq_true (rows_ext h hI)]⟩) () (fun j hj => by omega)
    exact laws_eqIntSS_l0 n hh ⟨_, rfl⟩
  · rw [brk_pos (by simp; omega), decide_eq_false fun e => h (by rw [e])]
/-- A meta that is small. -/
def SzMeta (x : tMeta.D) : Prop := x.1.length ≤ 1048576 ∧ x.2.1.length ≤ 1048576 ∧ ∀ r ∈ x.2.1, r.length ≤ 1048576
theorem SzMeta.big {x : tMeta.D} (h : SzMeta x) : x.1.length ≤ big47 ∧ x.2.1.length ≤ big47 ∧ ∀ r ∈ x.2.1, r.length ≤ big47 := by
  obtain ⟨h1, h2, h3⟩ := h
  rw [big47_eq]
  exact ⟨by omega, by omega, fun r hr => by have := h3 r hr; omega⟩
theorem toMeta_ok (x : tMeta.D) (h : SzMeta x) : laws_toMeta_F (x, ()) = some ((x, ()), ((), ())) := by
  rw [laws_toMeta_main, toIntS_ok _ h.1, toIntSS_ok _ h.2.1 h.2.2]; rfl
theorem szMeta_ok (x : tMeta.D) (k : Int) (hx : Ok tMeta x) (h0 : 0 ≤ k) (hk : k ≤ 1048576) : ∃ r : Int, laws_szMeta_F (x, (k, ())) = some ((r, ()), ((), ((), ()))) ∧ r ≤ k ∧ (0 ≤ r → SzMeta x) := by
  obtain ⟨g, l, f, o, h, a, u⟩ := x
  cases u
  have hg : g.length ≤ big47 := hx.1.1
  have hl : l.length ≤ big47 := hx.2.1.1
  have hr : ∀ r ∈ l, r.length ≤ big47 := fun r hr => (hx.2.1.2 r hr).1
  rw [laws_szMeta_main]
  simp only
  rw [szIntS_ok _ _ hg h0 hk]
  simp only [Option.bind_some]
  by_cases h1 : k < g.length
  · rw [if_pos h1]
    exact ⟨-1, by rw [brk_pos (by decide)], by omega, by omega⟩
  · rw [if_neg h1, brk_nneg (by omega)]
    obtain ⟨r, e1, e2, e3⟩ := szIntSS_ok l (k - g.length) hl hr (by omega) (by omega)
    rw [e1]
    simp only [Option.bind_some]
    by_cases h2 : r < 0
    · exact ⟨-1, by rw [brk_pos (decide_eq_true h2)], by omega, by omega⟩
    · exact ⟨r, by rw [brk_neg (decide_eq_false h2)], by omega, fun h => ⟨by simp only; omega, e3 h⟩⟩
/-- The number that such bytes begin with, and how many they are (j: those that were read). -/
def gnumF : Nat → List Int → Int → Int → Nat → Option (Int × Nat)
  | 0, _, _, _, _ => none
  | d + 1, [], _, _, _ => none
  | d + 1, x :: l, n, u, j => if x ≥ 128 then gnumF d l (n + x % 128 * u) (u * 128) (j + 1) else if n + x % 128 * u > 2147483647 then none else if x = 0 ∧ j > 0 then none else some (n + x % 128 * u, j + 1)
/-- GetNum of what is left. -/
def gnum (l : List Int) : Option (Int × Nat) := gnumF 5 l 0 1 0
def gtri (at_ : Int) : Option (Int × Nat) → Int × Int × Bool
  | none => (0, 0, false)
  | some (n, j) => (n, at_ + j, true)
/-- GetNum. -/
def getP (b : List Int) (at_ : Int) : Int × Int × Bool := if 0 ≤ at_ then gtri at_ (gnum (b.drop at_.toNat)) else (0, 0, false)
/-- A number's bytes (fuel first). -/
def pnumF : Nat → Int → List Int
  | 0, _ => []
  | d + 1, n => if n > 127 then (n % 128 + 128) :: pnumF d (n / 128) else [n]
/-- PutNum. -/
def pnum (n : Int) : List Int := if 0 ≤ n ∧ n ≤ 2147483647 then pnumF 5 n else []
theorem num_step (acc u n : Int) : acc + n % 128 * u + n / 128 * (u * 128) = acc + n * u := by
  have h : n * u = (128 * (n / 128) + n % 128) * u := by congr 1; omega
  rw [h, Int.add_mul, Int.mul_comm u 128, ← Int.mul_assoc, Int.mul_comm (n / 128) 128]
  omega
theorem gnumF_take (d : Nat) : ∀ (l : List Int) (acc u : Int) (j : Nat) (n : Int) (m : Nat), (∀ z ∈ l, 0 ≤ z ∧ z ≤ 255) → gnumF d l acc u j = some (n, m) → ∃ q, 0 ≤ q ∧ n = acc + q * u ∧ j < m ∧ m - j ≤ l.length ∧ l.take (m - j) = pnumF d q ∧ (0 < j → 0 < q) ∧ n ≤ 2147483647 := by
  induction d with
  | zero => intro l acc u j n m hb h; simp [gnumF] at h
  | succ d ih =>
    intro l acc u j n m hb h
    cases l with
    | nil => simp [gnumF] at h
    | cons x l =>
      have hx := hb x (by simp)
      rw [gnumF] at h
      by_cases h1 : x ≥ 128
      · rw [if_pos h1] at h
        obtain ⟨q, q0, q1, q2, q3, q4, q5, q6⟩ := ih l _ _ _ n m (fun z hz => hb z (by simp [hz])) h
        have q7 := q5 (by omega)
        have e1 : (x % 128 + 128 * q) / 128 = q := by omega
        have e2 : (x % 128 + 128 * q) % 128 + 128 = x := by omega
        have hs := num_step acc u (x % 128 + 128 * q)
        rw [show (x % 128 + 128 * q) % 128 = x % 128 by omega, e1] at hs
        refine ⟨x % 128 + 128 * q, by omega, by rw [q1, hs], by omega, by simp only [List.length_cons]; omega, ?_, fun _ => by omega, q6⟩
        rw [show m - j = (m - (j + 1)) + 1 by omega, List.take_succ_cons, q4, pnumF, if_pos (by omega), e1, e2]
      · rw [if_neg h1] at h
        have e : x % 128 = x := by omega
        rw [e] at h
        by_cases h2 : acc + x * u > 2147483647
        · rw [if_pos h2] at h; cases h
        rw [if_neg h2] at h
        by_cases h3 : x = 0 ∧ j > 0
        · rw [if_pos h3] at h; cases h
        rw [if_neg h3] at h
        cases h
        refine ⟨x, hx.1, rfl, by omega, by simp only [List.length_cons]; omega, ?_, fun q => by omega, by omega⟩
        rw [show j + 1 - j = 0 + 1 by omega, List.take_succ_cons, pnumF, if_neg (by omega)]
        rfl
/-- What is read as a number is that number's bytes. -/
theorem gnum_take (l : List Int) (n : Int) (m : Nat) (hb : ∀ z ∈ l, 0 ≤ z ∧ z ≤ 255) (h : gnum l = some (n, m)) : 0 ≤ n ∧ n ≤ 2147483647 ∧ 1 ≤ m ∧ m ≤ l.length ∧ l.take m = pnum n := by
  obtain ⟨q, q0, q1, q2, q3, q4, _, q6⟩ := gnumF_take 5 l 0 1 0 n m hb h
  have e : n = q := by omega
  subst e
  refine ⟨q0, q6, q2, by simpa using q3, ?_⟩
  unfold pnum
  rw [if_pos ⟨q0, q6⟩]
  simpa using q4
theorem rdY (xs : List Int) (i : Nat) : rdD tY xs (i : Int) = xs.getD i 0 := rfl
/-- What GetNum hands back. -/
def getR (b : List Int) (at_ : Int) : Option ((Int × Int × Bool × Unit) × (Unit × Unit × Unit)) := some (((getP b at_).1, ((getP b at_).2.1, ((getP b at_).2.2, ()))), ((), ((), ())))
theorem getR_neg {b : List Int} {at_ : Int} (h : at_ < 0) : getR b at_ = some (((0 : Int), ((0 : Int), (false, ()))), ((), ((), ()))) := by
  unfold getR getP; rw [if_neg (by omega)]
theorem getR_none {b : List Int} {a : Nat} (h : gnum (b.drop a) = none) : getR b (a : Int) = some (((0 : Int), ((0 : Int), (false, ()))), ((), ((), ()))) := by
  unfold getR getP; rw [if_pos (by omega), Int.toNat_natCast, h]; rfl
theorem getR_some {b : List Int} {a : Nat} {n : Int} {j : Nat} (h : gnum (b.drop a) = some (n, j)) : getR b (a : Int) = some ((n, (((a + j : Nat) : Int), (true, ()))), ((), ((), ()))) := by
  unfold getR getP; rw [if_pos (by omega), Int.toNat_natCast, h]; simp [gtri]
theorem pow128 (i : Nat) (h : i ≤ 5) : (1 : Int) ≤ 128 ^ i ∧ (128 : Int) ^ i ≤ 34359738368 := by
  match i, h with
  | 0, _ => decide
  | 1, _ => decide
  | 2, _ => decide
  | 3, _ => decide
  | 4, _ => decide
  | 5, _ => decide
theorem impl_GetNum_ok (b : List Int) (at_ : Int) (hb : b.length ≤ big47) (hr : ∀ x ∈ b, 0 ≤ x ∧ x ≤ 255) (ha : at_ ≤ 9223372036854775807) : impl_GetNum_F (b, (at_, ())) = getR b at_ := by
  rw [big47_eq] at hb
  rw [impl_GetNum_main]
  by_cases h0 : at_ < 0
  · rw [brk_pos (decide_eq_true h0), getR_neg h0]
  rw [brk_neg (decide_eq_false h0)]
  obtain ⟨a, rfl⟩ := Int.eq_ofNat_of_zero_le (by omega : 0 ≤ at_)
  obtain ⟨n, v, hh, rfl⟩ := for_loop (σ := Int) (G := fun n i s => iterG impl_GetNum_t0 impl_GetNum_B0 (impl_GetNum_K0 b (a : Int)) n ((b, ((a : Int), (s, ((128 : Int) ^ i, ((i : Int), ()))))), ())) 5
    (fun i s => 0 ≤ s ∧ s < 128 ^ i ∧ gnumF (5 - i) (b.drop (a + i)) s (128 ^ i) i = gnum (b.drop a)) (· = getR b (a : Int))
    (fun i s hi ⟨hI1, hI2, hI3⟩ => by
      have hp := pow128 i (by omega)
      have hp2 := pow128 (i + 1) (by omega)
      rw [Int.pow_succ] at hp2
      rw [show 5 - i = (4 - i) + 1 by omega] at hI3
      by_cases hin : a + i < b.length
      · have hx := hr _ (List.getElem_mem hin)
        have e0 : b.drop (a + i) = b[a + i] :: b.drop (a + (i + 1)) := List.drop_eq_getElem_cons hin
        rw [e0, gnumF] at hI3
        have hm : 0 ≤ b[a + i] % 128 ∧ b[a + i] % 128 ≤ 127 := by omega
        have hmul : b[a + i] % 128 * 128 ^ i ≤ 127 * 128 ^ i := Int.mul_le_mul_of_nonneg_right hm.2 (by omega)
        have hmul0 : 0 ≤ b[a + i] % 128 * 128 ^ i := Int.mul_nonneg hm.1 (by omega)
        have key : ∀ n, iterG impl_GetNum_t0 impl_GetNum_B0 (impl_GetNum_K0 b (a : Int)) (n + 1) ((b, ((a : Int), (s, ((128 : Int) ^ i, ((i : Int), ()))))), ()) = brk (decide ((128 : Int) ≤ b[a + i])) (iterG impl_GetNum_t0 impl_GetNum_B0 (impl_GetNum_K0 b (a : Int)) n ((b, ((a : Int), (s + b[a + i] % 128 * 128 ^ i, ((128 : Int) ^ (i + 1), (((i + 1 : Nat) : Int), ()))))), ()))
            (brk (decide ((2147483647 : Int) < s + b[a + i] % 128 * 128 ^ i)) (impl_GetNum_K0 b (a : Int) (.exit 0) impl_GetNum_x0_0) (brk (decide (b[a + i] = 0)) (brk (decide ((0 : Int) < (i : Int))) (impl_GetNum_K0 b (a : Int) (.exit 0) impl_GetNum_x0_0) (impl_GetNum_K0 b (a : Int) .ret (impl_GetNum_x0_1 (s + b[a + i] % 128 * 128 ^ i) ((a + i + 1 : Nat) : Int) true))) (impl_GetNum_K0 b (a : Int) .ret (impl_GetNum_x0_1 (s + b[a + i] % 128 * 128 ^ i) ((a + i + 1 : Nat) : Int) true)))) := fun n => by
          rw [impl_GetNum_r0, brk_pos (decide_eq_true (by omega)), wrap64 (x := (b.length : Int) - i) (by omega) (by omega), brk_pos (decide_eq_true (by omega)), wrap64 (x := (a : Int) + i) (by omega) (by omega), show (a : Int) + i = ((a + i : Nat) : Int) by omega, ck_idx hin, rdY, getD_at hin,
            wrap64 (x := b[a + i]) (by omega) (by omega), Int.tmod_eq_emod_of_nonneg hx.1, wrap64 (x := b[a + i] % 128 * 128 ^ i) (by omega) (by omega), wrap64 (x := s + b[a + i] % 128 * 128 ^ i) (by omega) (by omega), wrap64 (x := (128 : Int) ^ i * 128) (by omega) (by omega), wrap64 (x := (i : Int) + 1) (by omega) (by omega), wrap64 (x := ((a + i : Nat) : Int) + 1) (by omega) (by omega), Int.pow_succ]
          rfl
        by_cases h1 : b[a + i] ≥ 128
        · rw [if_pos h1] at hI3
          refine .inr ⟨s + b[a + i] % 128 * 128 ^ i, ⟨by omega, by rw [Int.pow_succ]; omega, ?_⟩, fun n => ?_⟩
          · rw [Int.pow_succ, ← hI3, show 5 - (i + 1) = 4 - i by omega]
          · dsimp only
            rw [key, brk_pos (decide_eq_true h1)]
        · rw [if_neg h1] at hI3
          by_cases h2 : s + b[a + i] % 128 * 128 ^ i > 2147483647
          · rw [if_pos h2] at hI3
            refine .inl ⟨_, rfl, fun n => ?_⟩
            dsimp only
            rw [key, brk_neg (decide_eq_false h1), brk_pos (decide_eq_true h2), impl_GetNum_e0_0, getR_none hI3.symm]
          · rw [if_neg h2] at hI3
            by_cases h3 : b[a + i] = 0
            · by_cases h4 : i > 0
              · rw [if_pos ⟨h3, h4⟩] at hI3
                refine .inl ⟨_, rfl, fun n => ?_⟩
                dsimp only
                rw [key, brk_neg (decide_eq_false h1), brk_neg (decide_eq_false h2), brk_pos (decide_eq_true h3), brk_pos (decide_eq_true (by omega)), impl_GetNum_e0_0, getR_none hI3.symm]
              · rw [if_neg fun h => h4 h.2] at hI3
                refine .inl ⟨_, rfl, fun n => ?_⟩
                dsimp only
                rw [key, brk_neg (decide_eq_false h1), brk_neg (decide_eq_false h2), brk_pos (decide_eq_true h3), brk_neg (decide_eq_false (by omega)), impl_GetNum_e0_1, getR_some hI3.symm]
                rfl
            · rw [if_neg fun h => h3 h.1] at hI3
              refine .inl ⟨_, rfl, fun n => ?_⟩
              dsimp only
              rw [key, brk_neg (decide_eq_false h1), brk_neg (decide_eq_false h2), brk_neg (decide_eq_false h3), impl_GetNum_e0_1, getR_some hI3.symm]
              rfl
      · rw [List.drop_of_length_le (by omega), gnumF] at hI3
        refine .inl ⟨_, rfl, fun n => ?_⟩
        dsimp only
        rw [impl_GetNum_r0, brk_pos (decide_eq_true (by omega)), wrap64 (x := (b.length : Int) - i) (by omega) (by omega), brk_neg (decide_eq_false (by omega)), impl_GetNum_e0_0, getR_none hI3.symm])
    (fun s ⟨hI1, hI2, hI3⟩ => ⟨_, rfl, fun n => by
      dsimp only
      rw [impl_GetNum_r0, brk_neg (by decide), impl_GetNum_e0_0, getR_none hI3.symm]⟩) 0 ⟨by omega, by decide, rfl⟩
  exact impl_GetNum_l0 n hh ⟨_, rfl⟩
theorem shl7 {x : Int} {i : Nat} (h0 : 0 ≤ x) (h1 : x ≤ 127) (hi : i < 5) : shlN .i64 x (((7 * i : Nat)) : Int) = x * 128 ^ i := by
  have hp := pow128 i (by omega)
  unfold shlN
  have e : (2 : Int) ^ (min ((7 * i : Nat) : Int).toNat IntKind.i64.bits) = 128 ^ i := by
    rw [Int.toNat_natCast, show IntKind.i64.bits = 64 from rfl, Nat.min_eq_left (by omega), Int.pow_mul]; rfl
  rw [e]
  have h2 : x * 128 ^ i ≤ 127 * 128 ^ i := Int.mul_le_mul_of_nonneg_right h1 (by omega)
  have h3 : 0 ≤ x * 128 ^ i := Int.mul_nonneg h0 (by omega)
  exact wrap64 (by omega) (by omega)
theorem or_nat {x y : Nat} (hx : x < 4611686018427387904) (hy : y < 4611686018427387904) : orN .i64 (x : Int) (y : Int) = ((x ||| y : Nat) : Int) := by
  unfold orN
  have e : (BitVec.ofInt IntKind.i64.bits (x : Int) ||| BitVec.ofInt IntKind.i64.bits (y : Int)).toNat = x ||| y := by
    rw [BitVec.ofInt_natCast, BitVec.ofInt_natCast, BitVec.toNat_or, BitVec.toNat_ofNat, BitVec.toNat_ofNat]
    simp only [IntKind.bits]
    rw [Nat.mod_eq_of_lt (by omega), Nat.mod_eq_of_lt (by omega)]
  rw [e]
  have h1 : x < 2 ^ 62 := by omega
  have h2 : y < 2 ^ 62 := by omega
  have := Nat.or_lt_two_pow h1 h2
  exact wrap64 (by omega) (by omega)
theorem or_add {s x : Int} {i : Nat} (h0 : 0 ≤ s) (h1 : s < 128 ^ i) (h2 : 0 ≤ x) (h3 : x ≤ 127) (hi : i < 5) : orN .i64 s (x * 128 ^ i) = s + x * 128 ^ i := by
  have hp := pow128 i (by omega)
  have h4 : x * 128 ^ i ≤ 127 * 128 ^ i := Int.mul_le_mul_of_nonneg_right h3 (by omega)
  obtain ⟨a, rfl⟩ := Int.eq_ofNat_of_zero_le h0
  obtain ⟨c, rfl⟩ := Int.eq_ofNat_of_zero_le h2
  have e : (c : Int) * 128 ^ i = ((c * 128 ^ i : Nat) : Int) := by rw [Int.natCast_mul, Int.natCast_pow]; rfl
  have e2 : (128 : Int) ^ i = ((128 ^ i : Nat) : Int) := by rw [Int.natCast_pow]; rfl
  have e3 : (2 : Nat) ^ (7 * i) = 128 ^ i := Nat.pow_mul 2 7 i
  have ha : a < 2 ^ (7 * i) := by rw [e3]; rw [e2] at h1; omega
  have hc : (c * 128 ^ i : Nat) = c <<< (7 * i) := by rw [Nat.shiftLeft_eq, e3]
  rw [e] at h4 ⊢
  rw [or_nat (by rw [e2] at h1; omega) (by omega)]
  have := Nat.shiftLeft_add_eq_or_of_lt ha c
  rw [hc, Nat.or_comm, ← this]
  omega
theorem spec_GetNum_ok (b : List Int) (at_ : Int) (hb : b.length ≤ big47) (hr : ∀ x ∈ b, 0 ≤ x ∧ x ≤ 255) (ha : at_ ≤ 9223372036854775807) : spec_GetNum_F (b, (at_, ())) = getR b at_ := by
  rw [big47_eq] at hb
  rw [spec_GetNum_main]
  by_cases h0 : at_ < 0
  · rw [spec_GetNum_l0 1 (v := getR b at_) (by rw [spec_GetNum_r0, brk_pos (by decide), brk_pos (decide_eq_true h0), spec_GetNum_e0_0, getR_neg h0]) ⟨_, rfl⟩]
  obtain ⟨a, rfl⟩ := Int.eq_ofNat_of_zero_le (by omega : 0 ≤ at_)
  obtain ⟨n, v, hh, rfl⟩ := for_loop (σ := Int) (G := fun n i s => iterG spec_GetNum_t0 spec_GetNum_B0 (spec_GetNum_K0 b (a : Int)) n ((b, ((a : Int), (s, ((i : Int), ())))), ())) 5
    (fun i s => 0 ≤ s ∧ s < 128 ^ i ∧ gnumF (5 - i) (b.drop (a + i)) s (128 ^ i) i = gnum (b.drop a)) (· = getR b (a : Int))
    (fun i s hi ⟨hI1, hI2, hI3⟩ => by
      have hp := pow128 i (by omega)
      have hp2 := pow128 (i + 1) (by omega)
      rw [Int.pow_succ] at hp2
      rw [show 5 - i = (4 - i) + 1 by omega] at hI3
      by_cases hin : a + i < b.length
      · have hx := hr _ (List.getElem_mem hin)
        have e0 : b.drop (a + i) = b[a + i] :: b.drop (a + (i + 1)) := List.drop_eq_getElem_cons hin
        rw [e0, gnumF] at hI3
        have hm : 0 ≤ b[a + i] % 128 ∧ b[a + i] % 128 ≤ 127 := by omega
        have hmul : b[a + i] % 128 * 128 ^ i ≤ 127 * 128 ^ i := Int.mul_le_mul_of_nonneg_right hm.2 (by omega)
        have hmul0 : 0 ≤ b[a + i] % 128 * 128 ^ i := Int.mul_nonneg hm.1 (by omega)
        have key : ∀ n, iterG spec_GetNum_t0 spec_GetNum_B0 (spec_GetNum_K0 b (a : Int)) (n + 1) ((b, ((a : Int), (s, ((i : Int), ())))), ()) =
            brk (decide (b[a + i] < (128 : Int)))
            (brk (decide ((0 : Int) < (i : Int)))
              (brk (decide (b[a + i] = 0)) (spec_GetNum_K0 b (a : Int) .ret (spec_GetNum_x0_0 (0 : Int) (0 : Int) false))
                (brk (decide ((2147483647 : Int) < s + b[a + i] % 128 * 128 ^ i)) (spec_GetNum_K0 b (a : Int) .ret (spec_GetNum_x0_0 (0 : Int) (0 : Int) false)) (spec_GetNum_K0 b (a : Int) .ret (spec_GetNum_x0_0 (s + b[a + i] % 128 * 128 ^ i) ((a + i + 1 : Nat) : Int) true))))
              (brk (decide ((2147483647 : Int) < s + b[a + i] % 128 * 128 ^ i)) (spec_GetNum_K0 b (a : Int) .ret (spec_GetNum_x0_0 (0 : Int) (0 : Int) false)) (spec_GetNum_K0 b (a : Int) .ret (spec_GetNum_x0_0 (s + b[a + i] % 128 * 128 ^ i) ((a + i + 1 : Nat) : Int) true))))
            (iterG spec_GetNum_t0 spec_GetNum_B0 (spec_GetNum_K0 b (a : Int)) n ((b, ((a : Int), (s + b[a + i] % 128 * 128 ^ i, (((i + 1 : Nat) : Int), ())))), ())) := fun n => by
          rw [spec_GetNum_r0, brk_pos (decide_eq_true (by omega)), brk_neg (decide_eq_false (by omega)), wrap64 (x := (b.length : Int) - i) (by omega) (by omega), brk_neg (decide_eq_false (by omega)), wrap64 (x := (a : Int) + i) (by omega) (by omega), show (a : Int) + i = ((a + i : Nat) : Int) by omega, ck_idx hin, rdY, getD_at hin,
            wrap64 (x := b[a + i]) (by omega) (by omega), Int.tmod_eq_emod_of_nonneg hx.1, wrap64 (x := 7 * (i : Int)) (by omega) (by omega), ck_pos (decide_eq_true (by omega)), show (7 : Int) * i = ((7 * i : Nat) : Int) by omega, shl7 hm.1 hm.2 hi, or_add hI1 hI2 hm.1 hm.2 hi, wrap64 (x := (i : Int) + 1) (by omega) (by omega), wrap64 (x := ((a + i : Nat) : Int) + 1) (by omega) (by omega)]
          rfl
        by_cases h1 : b[a + i] ≥ 128
        · rw [if_pos h1] at hI3
          refine .inr ⟨s + b[a + i] % 128 * 128 ^ i, ⟨by omega, by rw [Int.pow_succ]; omega, ?_⟩, fun n => ?_⟩
          · rw [Int.pow_succ, ← hI3, show 5 - (i + 1) = 4 - i by omega]
          · dsimp only
            rw [key, brk_neg (decide_eq_false (Int.not_lt.2 h1))]
        · rw [if_neg h1] at hI3
          have h1' : b[a + i] < 128 := by omega
          by_cases h2 : s + b[a + i] % 128 * 128 ^ i > 2147483647
          · rw [if_pos h2] at hI3
            refine .inl ⟨_, rfl, fun n => ?_⟩
            dsimp only
            rw [key, brk_pos (decide_eq_true h1'), getR_none hI3.symm]
            by_cases h4 : (0 : Int) < (i : Int)
            · by_cases h3 : b[a + i] = 0
              · rw [brk_pos (decide_eq_true h4), brk_pos (decide_eq_true h3), spec_GetNum_e0_0]
              · rw [brk_pos (decide_eq_true h4), brk_neg (decide_eq_false h3), brk_pos (decide_eq_true h2), spec_GetNum_e0_0]
            · rw [brk_neg (decide_eq_false h4), brk_pos (decide_eq_true h2), spec_GetNum_e0_0]
          · rw [if_neg h2] at hI3
            by_cases h4 : i > 0
            · by_cases h3 : b[a + i] = 0
              · rw [if_pos ⟨h3, h4⟩] at hI3
                refine .inl ⟨_, rfl, fun n => ?_⟩
                dsimp only
                rw [key, brk_pos (decide_eq_true h1'), brk_pos (decide_eq_true (by omega)), brk_pos (decide_eq_true h3), spec_GetNum_e0_0, getR_none hI3.symm]
              · rw [if_neg fun h => h3 h.1] at hI3
                refine .inl ⟨_, rfl, fun n => ?_⟩
                dsimp only
                rw [key, brk_pos (decide_eq_true h1'), brk_pos (decide_eq_true (by omega)), brk_neg (decide_eq_false h3), brk_neg (decide_eq_false h2), spec_GetNum_e0_0, getR_some hI3.symm]
                rfl
            · rw [if_neg fun h => h4 h.2] at hI3
              refine .inl ⟨_, rfl, fun n => ?_⟩
              dsimp only
              rw [key, brk_pos (decide_eq_true h1'), brk_neg (decide_eq_false (by omega)), brk_neg (decide_eq_false h2), spec_GetNum_e0_0, getR_some hI3.symm]
              rfl
      · rw [List.drop_of_length_le (by omega), gnumF] at hI3
        refine .inl ⟨_, rfl, fun n => ?_⟩
        dsimp only
        rw [spec_GetNum_r0, brk_pos (decide_eq_true (by omega)), brk_neg (decide_eq_false (by omega)), wrap64 (x := (b.length : Int) - i) (by omega) (by omega), brk_pos (decide_eq_true (by omega)), spec_GetNum_e0_0, getR_none hI3.symm])
    (fun s ⟨hI1, hI2, hI3⟩ => ⟨_, rfl, fun n => by
      dsimp only
      rw [spec_GetNum_r0, brk_neg (by decide), spec_GetNum_e0_1, getR_none hI3.symm]⟩) 0 ⟨by omega, by decide, rfl⟩
  exact spec_GetNum_l0 n hh ⟨_, rfl⟩
/-- Numbers read one behind the other: from a place, or from nowhere (once one was none). -/
def rdN (b : List Int) : Option Nat → Int × Option Nat
  | none => (0, none)
  | some a => match gnum (b.drop a) with
    | none => (0, none)
    | some (n, j) => (n, some (a + j))
/-- What a reader's place and word say. -/
def RepS (s : Option Nat) (at_ : Int) (ok : Bool) : Prop := match s with
  | some a => at_ = (a : Int) ∧ ok = true
  | none => ok = false ∨ at_ < 0
theorem spec_num_ok {b : List Int} {s : Option Nat} {at_ : Int} {ok : Bool} (hb : b.length ≤ big47) (hr : ∀ x ∈ b, 0 ≤ x ∧ x ≤ 255) (ha : at_ ≤ 9223372036854775807) (h : RepS s at_ ok) :
    ∃ at' : Int, spec_l4Num_F ((b, (at_, (ok, ()))), ()) = some (((rdN b s).1, ()), ((b, (at', ((rdN b s).2.isSome, ()))), ())) ∧ RepS (rdN b s).2 at' (rdN b s).2.isSome ∧ (∀ a, (rdN b s).2 = some a → at' = (a : Int)) ∧ at' ≤ 9223372036854775807 := by
  rw [spec_l4Num_main]
  simp only
  rw [spec_GetNum_ok b _ hb hr ha]
  cases s with
  | none =>
    by_cases h0 : at_ < 0
    · rw [getR_neg h0]; exact ⟨at_, rfl, .inl rfl, fun a h => by simp [rdN] at h, ha⟩
    · have hok : ok = false := h.resolve_right h0
      subst hok
      refine ⟨at_, ?_, .inl rfl, fun a h => by simp [rdN] at h, ha⟩
      unfold getR
      simp only [Option.bind_some, Bool.not_false, brk_true]
      cases (getP b at_).2.2 <;> rfl
  | some a =>
    obtain ⟨rfl, rfl⟩ := h
    cases hg : gnum (b.drop a) with
    | none => rw [getR_none hg]; simp only [rdN, hg]; exact ⟨_, rfl, .inl rfl, fun a h => by simp at h, ha⟩
    | some p =>
      obtain ⟨n, j⟩ := p
      have hj := gnum_take (b.drop a) n j (fun z hz => hr z (List.mem_of_mem_drop hz)) hg
      have hl := hj.2.2.2.1
      rw [List.length_drop] at hl
      rw [big47_eq] at hb
      rw [getR_some hg]; simp only [rdN, hg]
      exact ⟨((a + j : Nat) : Int), rfl, ⟨rfl, rfl⟩, fun a' h => by cases h; rfl, by omega⟩
def rdL (b : List Int) : Nat → Option Nat → List Int → List Int × Option Nat
  | 0, s, acc => (acc, s)
  | _ + 1, none, acc => (acc, none)
  | k + 1, some a, acc => rdL b k (rdN b (some a)).2 (acc ++ [(rdN b (some a)).1])
theorem rdN_spec {b : List Int} (hr : ∀ x ∈ b, 0 ≤ x ∧ x ≤ 255) (s : Option Nat) : 0 ≤ (rdN b s).1 ∧ (rdN b s).1 ≤ 2147483647 ∧ (∀ a, (rdN b s).2 = some a → a ≤ b.length ∧ ∃ a0, s = some a0 ∧ a0 < a ∧ a0 < b.length) := by
  cases s with
  | none => exact ⟨Int.le_refl 0, (by decide : (0 : Int) ≤ 2147483647), fun a h => by simp [rdN] at h⟩
  | some a =>
    cases hg : gnum (b.drop a) with
    | none => simp only [rdN, hg]; exact ⟨Int.le_refl 0, (by decide : (0 : Int) ≤ 2147483647), fun a h => by cases h⟩
    | some p =>
      obtain ⟨n, j⟩ := p
      obtain ⟨h1, h2, h3, h4, _⟩ := gnum_take (b.drop a) n j (fun z hz => hr z (List.mem_of_mem_drop hz)) hg
      rw [List.length_drop] at h4
      simp only [rdN, hg]
      exact ⟨h1, h2, fun a' h => by cases h; exact ⟨by omega, a, rfl, by omega, by omega⟩⟩
def AccOk (b : List Int) (s : Option Nat) (acc : List Int) : Prop := match s with
  | some a => acc.length ≤ a ∧ a ≤ b.length
  | none => acc.length ≤ b.length + 1
theorem accOk_nil {b : List Int} (hr : ∀ x ∈ b, 0 ≤ x ∧ x ≤ 255) (s : Option Nat) : AccOk b (rdN b s).2 [] := by
  have := (rdN_spec hr s).2.2
  cases h : (rdN b s).2 with
  | none => simp [AccOk]
  | some a => exact ⟨by simp, (this a h).1⟩
theorem AccOk.len {b : List Int} {s : Option Nat} {acc : List Int} (h : AccOk b s acc) : acc.length ≤ b.length + 1 := by
  cases s with
  | none => exact h
  | some a => obtain ⟨h1, h2⟩ := h; omega
theorem AccOk.step {b : List Int} (hr : ∀ x ∈ b, 0 ≤ x ∧ x ≤ 255) {a : Nat} {acc : List Int} (h : AccOk b (some a) acc) (x : Int) : AccOk b (rdN b (some a)).2 (acc ++ [x]) := by
  obtain ⟨h1, h2⟩ := h
  have := (rdN_spec hr (some a)).2.2
  cases hs : (rdN b (some a)).2 with
  | none => simp only [AccOk, List.length_append, List.length_cons, List.length_nil]; omega
  | some a' =>
    obtain ⟨h3, a0, h4, h5, _⟩ := this a' hs
    cases h4
    simp only [AccOk, List.length_append, List.length_cons, List.length_nil]
    exact ⟨by omega, h3⟩
theorem rdL_ok {b : List Int} (hr : ∀ x ∈ b, 0 ≤ x ∧ x ≤ 255) : ∀ (k : Nat) (s : Option Nat) (acc : List Int), AccOk b s acc → (rdL b k s acc).1.length ≤ b.length + 1
  | 0, s, acc, h => h.len
  | _ + 1, none, acc, h => h.len
  | k + 1, some a, acc, h => rdL_ok hr k _ _ (h.step hr _)
theorem bytes_Equal_ok (x y : List Int) : bytes_Equal_F (x, (y, ())) = some ((decide (x = y), ()), ((), ((), ()))) := bytes_Equal_main x y
theorem marks_getD (f : Int → Int) : ∀ (n : Nat) (k : Int) (i : Nat), i < n → (marks f k n).getD i 0 = f (k + i)
  | 0, _, i, h => by omega
  | n + 1, k, 0, h => by simp [marks]
  | n + 1, k, i + 1, h => by
    rw [marks, List.getD_cons_succ, marks_getD f n (k + 1) i (by omega)]
    congr 1; omega
theorem heldIntS_ok (n : Nat) (k : Int) (hb : n ≤ 1125899906842624) (h0 : 0 ≤ k) (hk : k ≤ 1125899906842624) (hbb : n ≤ big47) : laws_heldIntS_F (marks id k n, (k, ())) = some ((k + n, ()), ((), ((), ()))) := by
  rw [big47_eq] at hbb
  rw [laws_heldIntS_main]
  have hl := marks_len id n k
  obtain ⟨m, v, hh, rfl⟩ := for_loop (σ := Unit) (G := fun m i _ => iterG laws_heldIntS_t0 laws_heldIntS_B0 (laws_heldIntS_K0 (marks id k n) k) m ((marks id k n, (k + i, ((i : Int), ()))), ())) n (fun i _ => True) (· = some ((k + n, ()), ((), ((), ()))))
    (fun i _ hi _ => .inr ⟨(), trivial, fun m => by
      dsimp only
      rw [laws_heldIntS_r0, hl, brk_lt hi, ck_idx hi, rdD_nat, show tI.zero = 0 from rfl, marks_getD id n k i hi, brk_neg (by simp), step_nat i (by omega), wrap64 (by omega) (by omega)]
      rw [show k + (i : Int) + 1 = k + ((i + 1 : Nat) : Int) by omega]⟩)
    (fun _ _ => ⟨_, rfl, fun m => by
      dsimp only
      rw [laws_heldIntS_r0, hl, brk_nlt (by omega), laws_heldIntS_e0_1]⟩) () trivial
  rw [show k + ((0 : Nat) : Int) = k by simp] at hh
  exact laws_heldIntS_l0 m hh ⟨_, rfl⟩
theorem toByteS_ok (xs : List Int) (hb : xs.length ≤ 1048576) : laws_toByteS_F (xs, ()) = some ((xs, ()), ((), ())) := by
  rw [laws_toByteS_main, ck_pos (by simp; omega)]
  obtain ⟨n, v, hh, rfl⟩ := for_loop (σ := List Int) (G := fun n i s => iterG laws_toByteS_t0 laws_toByteS_B0 (laws_toByteS_K0 xs) n ((xs, ((i : Int), ())), (s, ()))) xs.length (fun i s => s.length = xs.length ∧ s.take i = xs.take i) (· = some ((xs, ()), ((), ())))
    (fun i s hi ⟨hI1, hI2⟩ => by
      refine .inr ⟨s.set i (xs.getD i 0), ⟨by simpa using hI1, ?_⟩, fun n => ?_⟩
      · rw [getD_at hi]; exact take_set_next hI1 hi hI2
      · dsimp only
        rw [laws_toByteS_r0, brk_lt hi, ck_idx hi, ck_idx (by omega), step_nat i (by omega)]; rfl)
    (fun s ⟨hI1, hI2⟩ => ⟨_, rfl, fun n => by
      dsimp only
      rw [laws_toByteS_r0, brk_nlt (by omega), laws_toByteS_e0_0]
      rw [List.take_of_length_le (by omega), List.take_of_length_le (by omega)] at hI2
      rw [hI2]⟩) (List.replicate xs.length 0) ⟨by simp, by simp⟩
  exact laws_toByteS_l0 n hh ⟨_, rfl⟩
theorem ints_ext {l m : List Int} (h : l.length = m.length) (he : ∀ i, i < l.length → l.getD i 0 = m.getD i 0) : l = m :=
  List.ext_getElem h fun i h1 h2 => by have := he i h1; rwa [getD_at h1, getD_at h2] at this
theorem slices_Equal_int_ok (l m : List Int) (hl : l.length ≤ big47) : slices_Equal_int_F (l, (m, ())) = some ((decide (l = m), ()), ((), ((), ()))) := by
  rw [big47_eq] at hl
  rw [slices_Equal_int_main]
  by_cases h : l.length = m.length
  · rw [brk_neg (by simp [h])]
    obtain ⟨n, v, hh, rfl⟩ := for_loop (σ := Unit) (G := fun n i s => iterG slices_Equal_int_t0 slices_Equal_int_B0 (slices_Equal_int_K0 l m) n ((l, (m, ((l.length : Int), ((i : Int), ())))), ())) l.length (fun i s => ∀ j, j < i → l.getD j 0 = m.getD j 0) (· = some ((decide (l = m), ()), ((), ((), ()))))
      (fun i s hi hI => by
        by_cases he : l.getD i 0 = m.getD i 0
        · refine .inr ⟨(), fun j hj => ?_, fun n => ?_⟩
          · rcases Nat.lt_succ_iff_lt_or_eq.1 hj with h | rfl
            · exact hI j h
            · exact he
          · dsimp only
            rw [slices_Equal_int_r0, brk_lt hi, ck_idx hi, ck_idx (by omega), rdD_nat, rdD_nat, show tI.zero = 0 from rfl, decide_eq_true he, Bool.not_true, brk_false, step_nat i (by omega)]
        · refine .inl ⟨_, rfl, fun n => ?_⟩
          dsimp only
          rw [slices_Equal_int_r0, brk_lt hi, ck_idx hi, ck_idx (by omega), rdD_nat, rdD_nat, show tI.zero = 0 from rfl, decide_eq_false he, Bool.not_false, brk_true, slices_Equal_int_e0_0, decide_eq_false fun e => he (by rw [e])])
      (fun s hI => ⟨_, rfl, fun n => by
        dsimp only
        rw [slices_Equal_int_r0, brk_nlt (by omega), slices_Equal_int_e0_1, decide_eq_true (ints_ext h hI)]⟩) () (fun j hj => by omega)
    exact slices_Equal_int_l0 n hh ⟨_, rfl⟩
  · rw [brk_pos (by simp; omega), decide_eq_false fun e => h (by rw [e])]
theorem slices_EqualFunc_ok (l m : List (List Int)) (hl : l.length ≤ big47) (hr : ∀ r ∈ l, r.length ≤ big47) : slices_EqualFunc__int_F (l, (m, ((), ()))) = some ((decide (l = m), ()), ((), ((), ((), ())))) := by
  rw [big47_eq] at hl
  rw [slices_EqualFunc__int_main]
  by_cases h : l.length = m.length
  · rw [brk_neg (by simp [h])]
    obtain ⟨n, v, hh, rfl⟩ := for_loop (σ := Unit) (G := fun n i s => iterG slices_EqualFunc__int_t0 slices_EqualFunc__int_B0 (slices_EqualFunc__int_K0 l m ()) n ((m, (l, ((l.length : Int), ((i : Int), ())))), ())) l.length (fun i s => ∀ j, j < i → l.getD j [] = m.getD j []) (· = some ((decide (l = m), ()), ((), ((), ((), ())))))
      (fun i s hi hI => by
        by_cases he : l.getD i [] = m.getD i []
        · refine .inr ⟨(), fun j hj => ?_, fun n => ?_⟩
          · rcases Nat.lt_succ_iff_lt_or_eq.1 hj with h | rfl
            · exact hI j h
            · exact he
          · dsimp only
            rw [slices_EqualFunc__int_r0, brk_lt hi, ck_idx hi, ck_idx (by omega), rdD_nat, rdD_nat, show tIs.zero = [] from rfl, slices_Equal_int_ok _ _ (row_le hr hi), decide_eq_true he]
            simp only [Option.bind_some, Bool.not_true, brk_false]
            rw [step_nat i (by omega)]
        · refine .inl ⟨_, rfl, fun n => ?_⟩
          dsimp only
          rw [slices_EqualFunc__int_r0, brk_lt hi, ck_idx hi, ck_idx (by omega), rdD_nat, rdD_nat, show tIs.zero = [] from rfl, slices_Equal_int_ok _ _ (row_le hr hi), decide_eq_false he]
          simp only [Option.bind_some, Bool.not_false, brk_true]
          rw [slices_EqualFunc__int_e0_0, decide_eq_false fun e => he (by rw [e])])
      (fun s hI => ⟨_, rfl, fun n => by
        dsimp only
        rw [slices_EqualFunc__int_r0, brk_nlt (by omega), slices_EqualFunc__int_e0_1, decide_eq_true (rows_ext h hI)]⟩) () (fun j hj => by omega)
    exact slices_EqualFunc__int_l0 n hh ⟨_, rfl⟩
  · rw [brk_pos (by simp; omega), decide_eq_false fun e => h (by rw [e])]
theorem spec_l5Same_ok (l m : List Int) (hl : l.length ≤ big47) : spec_l5Same_F (l, (m, ())) = some ((decide (l = m), ()), ((), ((), ()))) := by
  rw [big47_eq] at hl
  rw [spec_l5Same_main]
  have out : ∀ i, (∀ j, j < i → l.getD j 0 = m.getD j 0) → ¬ (i < l.length ∧ i < m.length) → decide ((l.length : Int) = (m.length : Int)) = decide (l = m) := fun i hI hn => by
    by_cases h : l.length = m.length
    · rw [decide_eq_true (by omega), decide_eq_true (ints_ext h fun j hj => hI j (by omega))]
    · rw [decide_eq_false (by omega), decide_eq_false fun e => h (by rw [e])]
  obtain ⟨n, v, hh, rfl⟩ := for_loop (σ := Unit) (G := fun n i s => iterG spec_l5Same_t0 spec_l5Same_B0 (spec_l5Same_K0 l m) n ((l, (m, ((i : Int), ()))), ())) l.length (fun i s => ∀ j, j < i → l.getD j 0 = m.getD j 0) (· = some ((decide (l = m), ()), ((), ((), ()))))
    (fun i s hi hI => by
      by_cases hm : i < m.length
      · by_cases he : l.getD i 0 = m.getD i 0
        · refine .inr ⟨(), fun j hj => ?_, fun n => ?_⟩
          · rcases Nat.lt_succ_iff_lt_or_eq.1 hj with h | rfl
            · exact hI j h
            · exact he
          · dsimp only
            rw [spec_l5Same_r0, brk_lt hi, brk_lt hm, ck_idx hi, ck_idx hm, rdD_nat, rdD_nat, show tI.zero = 0 from rfl, decide_eq_true he, Bool.not_true, brk_false, step_nat i (by omega)]
        · refine .inl ⟨_, rfl, fun n => ?_⟩
          dsimp only
          rw [spec_l5Same_r0, brk_lt hi, brk_lt hm, ck_idx hi, ck_idx hm, rdD_nat, rdD_nat, show tI.zero = 0 from rfl, decide_eq_false he, Bool.not_false, brk_true, spec_l5Same_e0_0, decide_eq_false fun e => he (by rw [e])]
      · refine .inl ⟨_, rfl, fun n => ?_⟩
        dsimp only
        rw [spec_l5Same_r0, brk_lt hi, brk_nlt hm, spec_l5Same_e0_1, out i hI (by omega)])
    (fun s hI => ⟨_, rfl, fun n => by
      dsimp only
      rw [spec_l5Same_r0, brk_nlt (by omega), spec_l5Same_e0_1, out _ hI (by omega)]⟩) () (fun j hj => by omega)
  exact spec_l5Same_l0 n hh ⟨_, rfl⟩
/-- Are two metas alike? -/
def metaEqB (x y : tMeta.D) : Bool := decide (x.1 = y.1) && decide (x.2.1 = y.2.1) && (x.2.2.1 == y.2.2.1) && (x.2.2.2.1 == y.2.2.2.1) && (x.2.2.2.2.1 == y.2.2.2.2.1) && decide (x.2.2.2.2.2.1 = y.2.2.2.2.2.1)
theorem impl_SameMeta_ok (x y : tMeta.D) (h1 : x.1.length ≤ big47) (h2 : x.2.1.length ≤ big47) (h3 : ∀ r ∈ x.2.1, r.length ≤ big47) : impl_SameMeta_F (x, (y, ())) = some ((metaEqB x y, ()), ((), ((), ()))) := by
  rw [impl_SameMeta_main, slices_Equal_int_ok _ _ h1]
  simp only [Option.bind_some]
  unfold metaEqB
  by_cases e1 : x.1 = y.1
  · rw [decide_eq_true e1, brk_true, slices_EqualFunc_ok _ _ h2 h3]
    simp only [Option.bind_some]
    by_cases e2 : x.2.1 = y.2.1
    · rw [decide_eq_true e2, brk_true]
      cases (x.2.2.1 == y.2.2.1) <;> cases (x.2.2.2.1 == y.2.2.2.1) <;> cases (x.2.2.2.2.1 == y.2.2.2.2.1) <;> rfl
    · rw [decide_eq_false e2]; rfl
  · rw [decide_eq_false e1]; rfl
theorem spec_SameMeta_ok (x y : tMeta.D) (h1 : x.1.length ≤ big47) (h2 : x.2.1.length ≤ big47) (h3 : ∀ r ∈ x.2.1, r.length ≤ big47) : spec_SameMeta_F (x, (y, ())) = some ((metaEqB x y, ()), ((), ((), ()))) := by
  have h2' := h2
  rw [big47_eq] at h2'
  rw [spec_SameMeta_main]
  by_cases hl : x.2.1.length = y.2.1.length
  · rw [brk_neg (by rw [decide_eq_true (by omega)]; rfl), spec_l5Same_ok _ _ h1]
    simp only [Option.bind_some]
    by_cases e1 : x.1 = y.1
    · rw [decide_eq_true e1, Bool.not_true, brk_false]
      by_cases e3 : (x.2.2.1 == y.2.2.1) = true
      · rw [e3, Bool.not_true, brk_false]
        by_cases e4 : (x.2.2.2.1 == y.2.2.2.1) = true
        · rw [e4, Bool.not_true, brk_false]
          by_cases e5 : (x.2.2.2.2.1 == y.2.2.2.2.1) = true
          · rw [e5, Bool.not_true, brk_false]
            by_cases e6 : x.2.2.2.2.2.1 = y.2.2.2.2.2.1
            · rw [decide_eq_true e6, Bool.not_true, brk_false]
              have hm : metaEqB x y = decide (x.2.1 = y.2.1) := by
                unfold metaEqB
                rw [decide_eq_true e1, e3, e4, e5, decide_eq_true e6]; simp
              obtain ⟨n, v, hh, rfl⟩ := for_loop (σ := Unit) (G := fun n i s => iterG spec_SameMeta_t0 spec_SameMeta_B0 (spec_SameMeta_K0 x y) n (((i : Int), ()), ((x.1, (x.2.1, (x.2.2.1, (x.2.2.2.1, (x.2.2.2.2.1, (x.2.2.2.2.2.1, ())))))), ((y.1, (y.2.1, (y.2.2.1, (y.2.2.2.1, (y.2.2.2.2.1, (y.2.2.2.2.2.1, ())))))), ())))) x.2.1.length (fun i s => ∀ j, j < i → x.2.1.getD j [] = y.2.1.getD j []) (· = some ((metaEqB x y, ()), ((), ((), ()))))
                (fun i s hi hI => by
                  by_cases he : x.2.1.getD i [] = y.2.1.getD i []
                  · refine .inr ⟨(), fun j hj => ?_, fun n => ?_⟩
                    · rcases Nat.lt_succ_iff_lt_or_eq.1 hj with h | rfl
                      · exact hI j h
                      · exact he
                    · dsimp only
                      rw [spec_SameMeta_r0, brk_lt hi, ck_idx hi, ck_idx (by omega), rdD_nat, rdD_nat, show tIs.zero = [] from rfl, spec_l5Same_ok _ _ (row_le h3 hi), decide_eq_true he]
                      simp only [Option.bind_some, Bool.not_true, brk_false]
                      rw [step_nat i (by omega)]
                  · refine .inl ⟨_, rfl, fun n => ?_⟩
                    dsimp only
                    rw [spec_SameMeta_r0, brk_lt hi, ck_idx hi, ck_idx (by omega), rdD_nat, rdD_nat, show tIs.zero = [] from rfl, spec_l5Same_ok _ _ (row_le h3 hi), decide_eq_false he]
                    simp only [Option.bind_some, Bool.not_false, brk_true]
                    rw [spec_SameMeta_e0_0, hm, decide_eq_false fun e => he (by rw [e])])
                (fun s hI => ⟨_, rfl, fun n => by
                  dsimp only
                  rw [spec_SameMeta_r0, brk_nlt (by omega), spec_SameMeta_e0_1, hm, decide_eq_true (rows_ext hl hI)]⟩) () (fun j hj => by omega)
              exact spec_SameMeta_l0 n hh ⟨_, rfl⟩
            · rw [decide_eq_false e6, Bool.not_false, brk_true]
              unfold metaEqB; rw [decide_eq_false e6]; simp
          · have e5 : (x.2.2.2.2.1 == y.2.2.2.2.1) = false := by simpa using e5
            rw [e5, Bool.not_false, brk_true]
            unfold metaEqB; rw [e5]; simp
        · have e4 : (x.2.2.2.1 == y.2.2.2.1) = false := by simpa using e4
          rw [e4, Bool.not_false, brk_true]
          unfold metaEqB; rw [e4]; simp
      · have e3 : (x.2.2.1 == y.2.2.1) = false := by simpa using e3
        rw [e3, Bool.not_false, brk_true]
        unfold metaEqB; rw [e3]; simp
    · rw [decide_eq_false e1, Bool.not_false, brk_true]
      unfold metaEqB; rw [decide_eq_false e1]; simp
  · rw [brk_pos (by rw [decide_eq_false (by omega)]; rfl)]
    unfold metaEqB
    rw [decide_eq_false (p := x.2.1 = y.2.1) fun e => hl (by rw [e])]; simp
theorem both_same {R : Type} {a b : Option R} (h : a = b) : both a b = a := by unfold both; rw [if_pos h]
theorem slices_Clone_int_ok (xs : List Int) (hb : xs.length ≤ 17592186044415) : slices_Clone_int_F (xs, ()) = some ((xs, ()), ((), ())) := by
  rw [slices_Clone_int_main, ck_pos (by simp [big47]; omega), List.nil_append]
  by_cases h : xs.length = 0
  · obtain rfl := List.length_eq_zero_iff.1 h
    rw [brk_pos (decide_eq_true h), both_same rfl]
  · rw [brk_neg (decide_eq_false h)]
/-- As for_loop, for loops in loops. -/
theorem for_loop2 {R σ : Type} {G : Nat → Nat → σ → Option R} (N : Nat) (Inv : Nat → σ → Prop) (Post : Option R → Prop)
    (hs : ∀ i s, i < N → Inv i s → (∃ v, Post v ∧ ∀ n, G (n + 1) i s = v) ∨ (∃ s', Inv (i + 1) s' ∧ ∀ n v, Post v → G n (i + 1) s' = v → G (n + 1) i s = v))
    (hf : ∀ s, Inv N s → ∃ v, Post v ∧ ∀ n, G (n + 1) N s = v) (s : σ) (h : Inv 0 s) : ∃ n v, G n 0 s = v ∧ Post v := by
  have key : ∀ (k i : Nat) (s : σ), i + k = N → Inv i s → ∃ n v, G n i s = v ∧ Post v := by
    intro k
    induction k with
    | zero =>
      intro i s hi h
      have : i = N := by omega
      subst this
      obtain ⟨v, hv, hg⟩ := hf s h
      exact ⟨1, v, hg 0, hv⟩
    | succ k ih =>
      intro i s hi h
      rcases hs i s (by omega) h with ⟨v, hv, hg⟩ | ⟨s', h', hg⟩
      · exact ⟨1, v, hg 0, hv⟩
      · obtain ⟨n, v, hn, hv⟩ := ih (i + 1) s' (by omega) h'
        exact ⟨n + 1, v, hg n v hv hn, hv⟩
  exact key N 0 s (by omega) h
def totR : List (List Int) → Nat
  | [] => 0
  | r :: l => r.length + totR l
def marksR : Int → List (List Int) → List (List Int)
  | _, [] => []
  | k, r :: l => marks id k r.length :: marksR (k + r.length) l
theorem totR_app : ∀ l m : List (List Int), totR (l ++ m) = totR l + totR m
  | [], m => by simp [totR]
  | r :: l, m => by simp only [List.cons_append, totR, totR_app l m]; omega
theorem marksR_len : ∀ (l : List (List Int)) (k : Int), (marksR k l).length = l.length
  | [], _ => rfl
  | r :: l, k => by simp [marksR, marksR_len l]
theorem marksR_snoc : ∀ (l : List (List Int)) (k : Int) (r : List Int), marksR k (l ++ [r]) = marksR k l ++ [marks id (k + totR l) r.length]
  | [], k, r => by simp [marksR, totR]
  | q :: l, k, r => by
    simp only [List.cons_append, marksR, marksR_snoc l, totR]
    rw [show k + (q.length : Int) + (totR l : Int) = k + ((q.length + totR l : Nat) : Int) by omega]
theorem marksR_getD : ∀ (l : List (List Int)) (k : Int) (i : Nat), i < l.length → (marksR k l).getD i [] = marks id (k + totR (l.take i)) (l.getD i []).length
  | [], k, i, h => by simp at h
  | q :: l, k, 0, h => by simp [marksR, totR]
  | q :: l, k, i + 1, h => by
    rw [marksR, List.getD_cons_succ, marksR_getD l _ i (by simpa using h), List.take_succ_cons, totR, List.getD_cons_succ]
    rw [show k + (q.length : Int) + (totR (l.take i) : Int) = k + ((q.length + totR (l.take i) : Nat) : Int) by omega]
theorem totR_take_le (l : List (List Int)) (i : Nat) : totR (l.take i) ≤ totR l := by
  conv => rhs; rw [← List.take_append_drop i l, totR_app]
  omega
theorem totR_next {l : List (List Int)} {i : Nat} (hi : i < l.length) : totR (l.take (i + 1)) = totR (l.take i) + (l.getD i []).length := by
  rw [take_next hi, totR_app, getD_at hi]; simp [totR]
theorem totR_le {l : List (List Int)} {c : Nat} (h : ∀ r ∈ l, r.length ≤ c) : totR l ≤ l.length * c := by
  induction l with
  | nil => simp [totR]
  | cons r l ih =>
    have h1 := h r (by simp)
    have h2 := ih fun x hx => h x (by simp [hx])
    simp only [totR, List.length_cons, Nat.add_mul]
    omega
theorem markIntSS_ok (l : List (List Int)) (k : Int) (hl : l.length ≤ 1500000) (hr : ∀ r ∈ l, r.length ≤ 1500000) (h0 : 0 ≤ k) (hk : k + totR l ≤ 1125899906842624) : laws_markIntSS_F (l, (k, ())) = some ((k + totR l, ()), (marksR k l, ((), ()))) := by
  rw [laws_markIntSS_main]
  obtain ⟨n, v, hh, rfl⟩ := for_loop (σ := Int × List (List Int)) (G := fun n i z => iterG laws_markIntSS_t0 laws_markIntSS_B0 (laws_markIntSS_K0 l k) n ((z.1, ((i : Int), ())), (z.2, ()))) l.length (fun i z => z.1 = k + totR (l.take i) ∧ z.2 = marksR k (l.take i) ++ l.drop i) (· = some ((k + totR l, ()), (marksR k l, ((), ()))))
    (fun i z hi ⟨h1, h2⟩ => by
      obtain ⟨k', s⟩ := z
      simp only at h1 h2 ⊢
      have hml := marksR_len (l.take i) k
      have hsl : s.length = l.length := by rw [h2, List.length_append, hml, List.length_take, List.length_drop]; omega
      have hrow : s.getD i [] = l.getD i [] := by
        rw [h2, List.getD_eq_getElem?_getD, List.getElem?_append_right (by rw [hml, List.length_take]; omega), hml, List.length_take, Nat.min_eq_left (by omega), Nat.sub_self, List.drop_eq_getElem_cons hi, getD_at hi]; rfl
      have hlen : (l.getD i []).length ≤ 1500000 := by rw [getD_at hi]; exact hr _ (List.getElem_mem hi)
      have ht := totR_take_le l i
      refine .inr ⟨(k' + (l.getD i []).length, s.set i (marks id k' (l.getD i []).length)), ⟨?_, ?_⟩, fun n => ?_⟩
      · simp only; rw [totR_next hi, h1]; omega
      · simp only
        rw [take_next hi, marksR_snoc, h2, List.set_append_right _ _ (by rw [hml, List.length_take]; omega), hml, List.length_take, Nat.min_eq_left (by omega), Nat.sub_self, List.drop_eq_getElem_cons hi, List.set_cons_zero, getD_at hi, h1]
        simp
      · rw [laws_markIntSS_r0, brk_lt (by omega), ck_idx (by omega), rdD_nat, show tIs.zero = [] from rfl, hrow, markIntS_ok _ _ (by omega) (by rw [big47_eq]; omega) (by omega) (by omega)]
        simp only [Option.bind_some]
        rw [step_nat i (by omega)]; rfl)
    (fun z ⟨h1, h2⟩ => ⟨_, rfl, fun n => by
      obtain ⟨k', s⟩ := z
      simp only at h1 h2 ⊢
      rw [List.take_length, List.drop_length, List.append_nil] at h2
      rw [List.take_length] at h1
      rw [laws_markIntSS_r0, brk_nlt (by rw [h2, marksR_len]; omega), laws_markIntSS_e0_0, h1, h2]⟩) (k, l) ⟨by simp [totR], by simp [marksR]⟩
  exact laws_markIntSS_l0 n hh ⟨_, rfl⟩
theorem heldIntSS_ok (l : List (List Int)) (k : Int) (hl : l.length ≤ 1500000) (hr : ∀ r ∈ l, r.length ≤ 1500000) (h0 : 0 ≤ k) (hk : k + totR l ≤ 1125899906842624) : laws_heldIntSS_F (marksR k l, (k, ())) = some ((k + totR l, ()), ((), ((), ()))) := by
  rw [laws_heldIntSS_main]
  have hml := marksR_len l k
  obtain ⟨n, v, hh, rfl⟩ := for_loop (σ := Int) (G := fun n i z => iterG laws_heldIntSS_t0 laws_heldIntSS_B0 (laws_heldIntSS_K0 (marksR k l) k) n ((marksR k l, (z, ((i : Int), ()))), ())) l.length (fun i z => z = k + totR (l.take i)) (· = some ((k + totR l, ()), ((), ((), ()))))
    (fun i z hi h1 => by
      have hlen : (l.getD i []).length ≤ 1500000 := by rw [getD_at hi]; exact hr _ (List.getElem_mem hi)
      have ht := totR_take_le l i
      refine .inr ⟨z + (l.getD i []).length, by rw [totR_next hi, h1]; omega, fun n => ?_⟩
      dsimp only
      rw [laws_heldIntSS_r0, hml, brk_lt hi, ck_idx hi, rdD_nat, show tIs.zero = [] from rfl, marksR_getD l k i hi, ← h1, heldIntS_ok _ _ (by omega) (by omega) (by omega) (by rw [big47_eq]; omega)]
      simp only [Option.bind_some]
      rw [brk_nneg (by omega), step_nat i (by omega)])
    (fun z h1 => ⟨_, rfl, fun n => by
      dsimp only
      rw [List.take_length] at h1
      rw [laws_heldIntSS_r0, hml, brk_nlt (by omega), laws_heldIntSS_e0_1, h1]⟩) k (by simp [totR])
  exact laws_heldIntSS_l0 n hh ⟨_, rfl⟩
/-- A meta that is not large. -/
def SzM (x : tMeta.D) : Prop := x.1.length ≤ 1500000 ∧ x.2.1.length ≤ 1500000 ∧ ∀ r ∈ x.2.1, r.length ≤ 1500000
theorem SzMeta.m {x : tMeta.D} (h : SzMeta x) : SzM x := ⟨Nat.le_trans h.1 (by omega), Nat.le_trans h.2.1 (by omega), fun r hr => Nat.le_trans (h.2.2 r hr) (by omega)⟩
theorem SzM.big {x : tMeta.D} (h : SzM x) : x.1.length ≤ big47 ∧ x.2.1.length ≤ big47 ∧ ∀ r ∈ x.2.1, r.length ≤ big47 := by
  obtain ⟨h1, h2, h3⟩ := h
  rw [big47_eq]
  exact ⟨by omega, by omega, fun r hr => by have := h3 r hr; omega⟩
theorem SzM.tot {x : tMeta.D} (h : SzM x) : x.1.length + totR x.2.1 ≤ 2250001500000 := by
  have h1 := totR_le h.2.2
  have h2 : x.2.1.length * 1500000 ≤ 1500000 * 1500000 := Nat.mul_le_mul_right _ h.2.1
  have := h.1
  omega
def markedM (k : Int) (x : tMeta.D) : tMeta.D := (marks id k x.1.length, (marksR (k + x.1.length) x.2.1, x.2.2))
def rowsB (l : List (List Int)) : List Int := l.flatMap fun r => putNs ((r.length : Int) :: r)
def flagsN (f o h : Bool) : Int := (if f = true then 1 else 0) + (if o = true then 2 else 0) + (if h = true then 4 else 0)
def metaB (x : tMeta.D) : List Int :=
  if metaOkB x.1 x.2.1 x.2.2.2.1 x.2.2.2.2.1 x.2.2.2.2.2.1 = true then putNs ((x.1.length : Int) :: x.1) ++ rowsB x.2.1 ++ putNs [flagsN x.2.2.1 x.2.2.2.1 x.2.2.2.2.1, x.2.2.2.2.2.1] else []
theorem rowsB_len {l : List (List Int)} {c : Nat} (h : ∀ r ∈ l, r.length ≤ c) : (rowsB l).length ≤ l.length * ((c + 1) * 5) := by
  induction l with
  | nil => simp [rowsB]
  | cons r l ih =>
    have h1 := h r (by simp)
    have h2 := ih fun x hx => h x (by simp [hx])
    have h3 := putNs_len ((r.length : Int) :: r)
    simp only [rowsB, List.flatMap_cons, List.length_append, List.length_cons] at h2 h3 ⊢
    have h4 : (r.length + 1) * 5 ≤ (c + 1) * 5 := Nat.mul_le_mul_right _ (by omega)
    rw [Nat.add_mul, Nat.one_mul]
    omega
theorem rowsB_next {l : List (List Int)} {i : Nat} (hi : i < l.length) : rowsB (l.take (i + 1)) = rowsB (l.take i) ++ putNs (((l.getD i []).length : Int) :: l.getD i []) := by
  rw [take_next hi, getD_at hi]; unfold rowsB; rw [List.flatMap_append]; simp only [List.flatMap_cons, List.flatMap_nil, List.append_nil]
theorem putNs_snoc (a x : Int) (l : List Int) : putNs (a :: (l ++ [x])) = putNs (a :: l) ++ putN x := by simp [putNs]
theorem flags_impl (f o h : Bool) : IntKind.i64.wrap (IntKind.i64.wrap ((if f = true then 1 else 0) + (if o = true then 2 else 0)) + (if h = true then 4 else 0)) = flagsN f o h := by
  cases f <;> cases o <;> cases h <;> decide
theorem flags_spec (f o h : Bool) : IntKind.i64.wrap (IntKind.i64.wrap ((if f = true then 1 else 0) + IntKind.i64.wrap (2 * (if o = true then 1 else 0))) + IntKind.i64.wrap (4 * (if h = true then 1 else 0))) = flagsN f o h := by
  cases f <;> cases o <;> cases h <;> decide
theorem impl_flag_z (z : PsD [.ro tB, .ro tI]) : impl_flag_F z = some ((if z.1 = true then z.2.1 else 0, ()), ((), ((), ()))) := by
  rw [show z = (z.1, (z.2.1, ())) from rfl, impl_flag_main]; cases z.1 <;> rfl
theorem metaOk_parts {g : List Int} {l : List (List Int)} {o h : Bool} {a : Int} (hm : metaOkB g l o h a = true) : g.length ≤ 12 ∧ 0 < g.length ∧ l.length = 3 ∧ (∀ r ∈ l, marksB r = true) ∧ 0 ≤ a ∧ a ≤ 200 ∧ gensB g = true ∧ ¬ (o = true ∧ h = true) := by
  unfold metaOkB at hm
  simp only [Bool.and_eq_true, decide_eq_true_eq, Bool.not_eq_true', Bool.and_eq_false_iff] at hm
  obtain ⟨⟨⟨⟨h1, h2⟩, h3, h4⟩, h5⟩, h6⟩ := hm
  have hg := h1
  unfold gensB at h1
  simp only [Bool.and_eq_true, decide_eq_true_eq] at h1
  refine ⟨h1.2, h2, h3, fun r hr => ?_, h5.1, h5.2, hg, fun h => ?_⟩
  · unfold bitsB at h4
    exact List.all_eq_true.1 h4 r hr
  · rw [h.1, h.2] at h6; simp at h6
theorem impl_MetaBytes_ok (x : tMeta.D) (hx : SzM x) : impl_MetaBytes_F (x, ()) = some ((metaB x, ()), ((), ())) := by
  obtain ⟨b1, b2, b3⟩ := hx.big
  obtain ⟨s1, s2, s3⟩ := hx
  obtain ⟨g, l, f, o, h, a, u⟩ := x
  cases u
  simp only at b1 b2 b3 s1 s2 s3
  rw [impl_MetaBytes_main]
  simp only
  rw [impl_MetaOk_ok g l f o h a b1 b2 b3]
  simp only [Option.bind_some]
  unfold metaB
  simp only
  by_cases hm : metaOkB g l o h a = true
  · obtain ⟨p1, p2, p3, _⟩ := metaOk_parts hm
    rw [hm, Bool.not_true, brk_false, if_pos rfl, impl_putList_ok _ (by omega)]
    simp only [Option.bind_some]
    have q0 := putNs_len ((g.length : Int) :: g)
    have q1 := putNs_len [flagsN f o h, a]
    simp only [List.length_cons, List.length_nil] at q0 q1
    obtain ⟨n, v, hh, rfl⟩ := for_loop (σ := List Int) (G := fun n i s => iterG impl_MetaBytes_t0 impl_MetaBytes_B0 (impl_MetaBytes_K0 (g, (l, (f, (o, (h, (a, ()))))))) n ((l, ((l.length : Int), ((i : Int), ()))), ((g, (l, (f, (o, (h, (a, ())))))), (s, ())))) l.length
      (fun i s => s = putNs ((g.length : Int) :: g) ++ rowsB (l.take i)) (· = some ((putNs ((g.length : Int) :: g) ++ rowsB l ++ putNs [flagsN f o h, a], ()), ((), ())))
      (fun i s hi hI => by
        have hlen : (l.getD i []).length ≤ 1500000 := by rw [getD_at hi]; exact s3 _ (List.getElem_mem hi)
        have q2 := putNs_len (((l.getD i []).length : Int) :: l.getD i [])
        have q3 := rowsB_len (l := l.take i) (c := 1500000) fun r hr => s3 r (List.mem_of_mem_take hr)
        have q4 : (l.take i).length ≤ 3 := by rw [List.length_take]; omega
        have q5 : (l.take i).length * ((1500000 + 1) * 5) ≤ 3 * ((1500000 + 1) * 5) := Nat.mul_le_mul_right _ q4
        simp only [List.length_cons] at q2
        have q6 := congrArg List.length hI
        rw [List.length_append] at q6
        refine .inr ⟨s ++ putNs (((l.getD i []).length : Int) :: l.getD i []), by rw [rowsB_next hi, hI, List.append_assoc], fun n => ?_⟩
        dsimp only
        rw [impl_MetaBytes_r0, brk_lt hi, ck_idx hi, rdD_nat, show tIs.zero = [] from rfl, impl_putList_ok _ (by omega)]
        simp only [Option.bind_some]
        rw [ck_pos (decide_eq_true (by rw [big47_eq]; omega)), step_nat i (by omega)])
      (fun s hI => ⟨_, rfl, fun n => by
        have q3 := rowsB_len (l := l) (c := 1500000) s3
        rw [p3] at q3
        rw [List.take_length] at hI
        have q6 := congrArg List.length hI
        rw [List.length_append] at q6
        dsimp only
        rw [impl_MetaBytes_r0, brk_nlt (by omega), impl_MetaBytes_e0_0]
        simp only [impl_flag_z, Option.bind_some]
        rw [flags_impl, impl_putNums_ok _ (by simp)]
        simp only [Option.bind_some]
        rw [ck_pos (decide_eq_true (by rw [big47_eq]; omega)), hI]⟩) (putNs ((g.length : Int) :: g)) (by simp [rowsB])
    exact impl_MetaBytes_l0 n hh ⟨_, rfl⟩
  · rw [if_neg hm, show metaOkB g l o h a = false by simpa using hm, Bool.not_false, brk_true]
theorem spec_MetaBytes_ok (x : tMeta.D) (hx : SzM x) : spec_MetaBytes_F (x, ()) = some ((metaB x, ()), ((), ())) := by
  obtain ⟨b1, b2, b3⟩ := hx.big
  obtain ⟨s1, s2, s3⟩ := hx
  obtain ⟨g, l, f, o, h, a, u⟩ := x
  cases u
  simp only at b1 b2 b3 s1 s2 s3
  rw [spec_MetaBytes_main]
  simp only
  rw [spec_MetaOk_ok g l f o h a b1 b2 b3]
  simp only [Option.bind_some]
  unfold metaB
  simp only
  by_cases hm : metaOkB g l o h a = true
  · obtain ⟨p1, p2, p3, _⟩ := metaOk_parts hm
    rw [hm, Bool.not_true, brk_false, if_pos rfl, spec_PutNum_ok]
    simp only [Option.bind_some]
    have q0 := putNs_len ((g.length : Int) :: g)
    have q1 := putNs_len [flagsN f o h, a]
    simp only [List.length_cons, List.length_nil] at q0 q1
    have two : ∃ n v, iterG spec_MetaBytes_t2 spec_MetaBytes_B2 (spec_MetaBytes_K2 (g, (l, (f, (o, (h, (a, ()))))))) n ((((0 : Nat) : Int), ()), ((g, (l, (f, (o, (h, (a, ())))))), (putNs ((g.length : Int) :: g), ()))) = v ∧ v = some ((putNs ((g.length : Int) :: g) ++ rowsB l ++ putNs [flagsN f o h, a], ()), ((), ())) :=
      for_loop2 (σ := List Int) (G := fun n i s => iterG spec_MetaBytes_t2 spec_MetaBytes_B2 (spec_MetaBytes_K2 (g, (l, (f, (o, (h, (a, ()))))))) n (((i : Int), ()), ((g, (l, (f, (o, (h, (a, ())))))), (s, ())))) 3
        (fun i s => s = putNs ((g.length : Int) :: g) ++ rowsB (l.take i)) (· = some ((putNs ((g.length : Int) :: g) ++ rowsB l ++ putNs [flagsN f o h, a], ()), ((), ())))
        (fun i s hi hI => by
          have hi' : i < l.length := by omega
          have hlen : (l.getD i []).length ≤ 1500000 := by rw [getD_at hi']; exact s3 _ (List.getElem_mem hi')
          have q3 := rowsB_len (l := l.take i) (c := 1500000) fun r hr => s3 r (List.mem_of_mem_take hr)
          have q4 : (l.take i).length ≤ 3 := by rw [List.length_take]; omega
          have q5 : (l.take i).length * ((1500000 + 1) * 5) ≤ 3 * ((1500000 + 1) * 5) := Nat.mul_le_mul_right _ q4
          have q6 := congrArg List.length hI
          rw [List.length_append] at q6
          have q7 := putN_len ((l.getD i []).length : Int)
          refine .inr ⟨s ++ putNs (((l.getD i []).length : Int) :: l.getD i []), by rw [rowsB_next hi', hI, List.append_assoc], fun n v hv hG => ?_⟩
          dsimp only at hG ⊢
          rw [spec_MetaBytes_r2, brk_pos (decide_eq_true (by omega)), ck_idx hi', rdD_nat, show tIs.zero = [] from rfl, spec_PutNum_ok]
          simp only [Option.bind_some]
          rw [ck_pos (decide_eq_true (by rw [big47_eq]; omega))]
          obtain ⟨m, w, hw, rfl⟩ := for_loop (σ := List Int) (G := fun m j t => iterG spec_MetaBytes_t4 spec_MetaBytes_B4 (spec_MetaBytes_K4 (spec_MetaBytes_K2 (g, (l, (f, (o, (h, (a, ()))))))) n) m (((i : Int), ((j : Int), ())), ((g, (l, (f, (o, (h, (a, ())))))), (t, ())))) (l.getD i []).length
            (fun j t => t = s ++ putNs (((l.getD i []).length : Int) :: (l.getD i []).take j)) (· = v)
            (fun j t hj hJ => by
              have r1 := putNs_len (((l.getD i []).length : Int) :: (l.getD i []).take j)
              have r2 := congrArg List.length hJ
              rw [List.length_append] at r2
              have r3 := putN_len ((l.getD i []).getD j 0)
              simp only [List.length_cons, List.length_take] at r1
              refine .inr ⟨t ++ putN ((l.getD i []).getD j 0), by rw [take_next hj, getD_at hj, hJ, putNs_snoc, List.append_assoc], fun m => ?_⟩
              dsimp only
              rw [spec_MetaBytes_r4, ck_idx hi', rdD_nat l, show tIs.zero = [] from rfl, brk_lt hj, ck_idx hi', ck_idx hj, rdD_nat, show tI.zero = 0 from rfl, spec_PutNum_ok]
              simp only [Option.bind_some]
              rw [ck_pos (decide_eq_true (by rw [big47_eq]; omega)), step_nat j (by omega)])
            (fun t hJ => ⟨_, rfl, fun m => by
              dsimp only
              rw [spec_MetaBytes_r4, ck_idx hi', rdD_nat l, show tIs.zero = [] from rfl, brk_nlt (by omega), spec_MetaBytes_e4_0, step_nat i (by omega), ← hG, hJ, List.take_length]⟩) (s ++ putN ((l.getD i []).length : Int)) (by simp [putNs])
          exact spec_MetaBytes_l4 m hw ⟨_, hv⟩)
        (fun s hI => ⟨_, rfl, fun n => by
          have q3 := rowsB_len (l := l) (c := 1500000) s3
          rw [p3] at q3
          rw [← p3, List.take_length] at hI
          have q6 := congrArg List.length hI
          rw [List.length_append] at q6
          have r1 := putN_len (flagsN f o h)
          have r2 := putN_len a
          dsimp only
          rw [spec_MetaBytes_r2, brk_neg (by decide), spec_MetaBytes_e2_0]
          simp only [spec_l1Bit_z, Option.bind_some]
          rw [flags_spec, spec_PutNum_ok]
          simp only [Option.bind_some]
          rw [ck_pos (decide_eq_true (by rw [big47_eq]; omega)), spec_PutNum_ok]
          simp only [Option.bind_some]
          rw [ck_pos (decide_eq_true (by rw [big47_eq, List.length_append]; omega)), hI]
          simp [putNs]⟩) (putNs ((g.length : Int) :: g)) (by simp [rowsB])
    obtain ⟨n2, v2, h2, rfl⟩ := two
    obtain ⟨n, v, hh, rfl⟩ := for_loop (σ := List Int) (G := fun n i s => iterG spec_MetaBytes_t0 spec_MetaBytes_B0 (spec_MetaBytes_K0 (g, (l, (f, (o, (h, (a, ()))))))) n (((i : Int), ()), ((g, (l, (f, (o, (h, (a, ())))))), (s, ())))) g.length
      (fun i s => s = putNs ((g.length : Int) :: g.take i)) (· = some ((putNs ((g.length : Int) :: g) ++ rowsB l ++ putNs [flagsN f o h, a], ()), ((), ())))
      (fun i s hi hI => by
        have r1 := putNs_len ((g.length : Int) :: g.take i)
        have r2 := congrArg List.length hI
        have r3 := putN_len (g.getD i 0)
        simp only [List.length_cons, List.length_take] at r1
        refine .inr ⟨s ++ putN (g.getD i 0), by rw [take_next hi, getD_at hi, hI, putNs_snoc], fun n => ?_⟩
        dsimp only
        rw [spec_MetaBytes_r0, brk_lt hi, ck_idx hi, rdD_nat, show tI.zero = 0 from rfl, spec_PutNum_ok]
        simp only [Option.bind_some]
        rw [ck_pos (decide_eq_true (by rw [big47_eq]; omega)), step_nat i (by omega)])
      (fun s hI => ⟨_, rfl, fun n => by
        dsimp only
        rw [List.take_length] at hI
        rw [spec_MetaBytes_r0, brk_nlt (by omega), spec_MetaBytes_e0_0, hI]
        exact spec_MetaBytes_l2 n2 h2 ⟨_, rfl⟩⟩) (putN (g.length : Int)) (by simp [putNs])
    exact spec_MetaBytes_l0 n hh ⟨_, rfl⟩
  · rw [if_neg hm, show metaOkB g l o h a = false by simpa using hm, Bool.not_false, brk_true]
theorem impl_num_ok' {b : List Int} {s : Option Nat} {at_ : Int} {ok : Bool} (hb : b.length ≤ big47) (hr : ∀ x ∈ b, 0 ≤ x ∧ x ≤ 255) (ha : at_ ≤ 9223372036854775807) (h : RepS s at_ ok) :
    ∃ at' : Int, impl_reader_num_F ((b, (at_, (ok, ()))), ()) = some (((rdN b s).1, ()), ((b, (at', ((rdN b s).2.isSome, ()))), ())) ∧ RepS (rdN b s).2 at' (rdN b s).2.isSome ∧ at' ≤ 9223372036854775807 := by
  rw [impl_reader_num_main]
  simp only
  cases s with
  | none =>
    cases ok with
    | false => exact ⟨at_, rfl, .inl rfl, ha⟩
    | true =>
      have h : at_ < 0 := by simpa [RepS] using h
      rw [Bool.not_true, brk_false, impl_GetNum_ok b at_ hb hr ha, getR_neg h]
      exact ⟨0, rfl, .inl rfl, by omega⟩
  | some a =>
    obtain ⟨rfl, rfl⟩ := h
    have hs := (rdN_spec hr (some a)).2.2
    rw [Bool.not_true, brk_false, impl_GetNum_ok b _ hb hr ha]
    rw [big47_eq] at hb
    cases hg : gnum (b.drop a) with
    | none => rw [getR_none hg]; simp only [rdN, hg]; exact ⟨0, rfl, .inl rfl, by omega⟩
    | some p =>
      obtain ⟨n, j⟩ := p
      have := (hs (a + j) (by simp only [rdN, hg])).1
      rw [getR_some hg]; simp only [rdN, hg]; exact ⟨((a + j : Nat) : Int), rfl, ⟨rfl, rfl⟩, by omega⟩
/-- How many, and each. -/
def rdList (b : List Int) (s : Option Nat) : List Int × Option Nat := rdL b (rdN b s).1.toNat (rdN b s).2 []
theorem impl_list_ok' {b : List Int} {s : Option Nat} {at_ : Int} {ok : Bool} (hb : b.length ≤ 1400000) (hr : ∀ x ∈ b, 0 ≤ x ∧ x ≤ 255) (ha : at_ ≤ 9223372036854775807) (h : RepS s at_ ok) :
    ∃ at' : Int, impl_reader_list_F ((b, (at_, (ok, ()))), ()) = some (((rdList b s).1, ()), ((b, (at', ((rdList b s).2.isSome, ()))), ())) ∧ RepS (rdList b s).2 at' (rdList b s).2.isSome ∧ at' ≤ 9223372036854775807 := by
  have hb' : b.length ≤ big47 := by rw [big47_eq]; omega
  obtain ⟨at1, e1, r1, l1⟩ := impl_num_ok' hb' hr ha h
  obtain ⟨n0, n1, n2⟩ := rdN_spec hr s
  have hacc := accOk_nil hr s
  rw [impl_reader_list_main]
  simp only [e1, Option.bind_some]
  unfold rdList
  generalize rdN b s = p at *
  obtain ⟨n, s1⟩ := p
  simp only at *
  obtain ⟨N, rfl⟩ := Int.eq_ofNat_of_zero_le n0
  rw [Int.toNat_natCast]
  obtain ⟨m, v, hh, at', rfl, r', l'⟩ := for_loop (σ := List Int × Option Nat × Int) (G := fun n i z => iterG impl_reader_list_t0 impl_reader_list_B0 (impl_reader_list_K0 (b, (at_, (ok, ())))) n (((N : Int), ((i : Int), ())), (z.1, ((b, (z.2.2, (z.2.1.isSome, ()))), ())))) N
    (fun i z => RepS z.2.1 z.2.2 z.2.1.isSome ∧ AccOk b z.2.1 z.1 ∧ rdL b (N - i) z.2.1 z.1 = rdL b N s1 [] ∧ z.2.2 ≤ 9223372036854775807) (fun v => ∃ at' : Int, v = some (((rdL b N s1 []).1, ()), ((b, (at', ((rdL b N s1 []).2.isSome, ()))), ())) ∧ RepS (rdL b N s1 []).2 at' (rdL b N s1 []).2.isSome ∧ at' ≤ 9223372036854775807)
    (fun i z hi ⟨hI1, hI2, hI3, hI4⟩ => by
      obtain ⟨acc, s2, at2⟩ := z
      simp only at hI1 hI2 hI3 hI4 ⊢
      cases s2 with
      | none =>
        rw [show N - i = (N - i - 1) + 1 by omega, rdL] at hI3
        refine .inl ⟨_, ⟨at2, rfl, by rw [← hI3]; exact .inl rfl, hI4⟩, fun n => ?_⟩
        rw [impl_reader_list_r0, brk_lt hi, Option.isSome_none, brk_false, impl_reader_list_e0_0, ← hI3]; rfl
      | some a =>
        rw [show N - i = (N - i - 1) + 1 by omega, rdL] at hI3
        obtain ⟨rfl, _⟩ := hI1
        obtain ⟨at3, e3, r3, l3⟩ := impl_num_ok' (s := some a) (at_ := (a : Int)) (ok := true) hb' hr hI4 ⟨rfl, rfl⟩
        have hlen := hI2.len
        refine .inr ⟨(acc ++ [(rdN b (some a)).1], (rdN b (some a)).2, at3), ⟨r3, hI2.step hr _, ?_, l3⟩, fun n => ?_⟩
        · rw [← hI3, show N - (i + 1) = N - i - 1 by omega]
        · rw [impl_reader_list_r0, brk_lt hi, Option.isSome_some, brk_true]
          simp only [e3, Option.bind_some]
          rw [ck_pos (by simp [big47]; omega), step_nat i (by omega)])
    (fun z ⟨hI1, hI2, hI3, hI4⟩ => by
      obtain ⟨acc, s2, at2⟩ := z
      simp only at hI1 hI2 hI3 hI4 ⊢
      rw [Nat.sub_self, rdL] at hI3
      exact ⟨_, ⟨at2, rfl, by rw [← hI3]; exact hI1, hI4⟩, fun n => by rw [impl_reader_list_r0, brk_nlt (by omega), impl_reader_list_e0_0, ← hI3]⟩) ([], s1, at1) ⟨r1, hacc, by rw [Nat.sub_zero], l1⟩
  exact ⟨at', impl_reader_list_l0 m hh ⟨_, rfl⟩, r', l'⟩
theorem spec_list_ok {b : List Int} {s : Option Nat} {at_ : Int} {ok : Bool} (hb : b.length ≤ 1400000) (hr : ∀ x ∈ b, 0 ≤ x ∧ x ≤ 255) (ha : at_ ≤ 9223372036854775807) (h : RepS s at_ ok) :
    ∃ at' : Int, spec_l5Nums_F ((b, (at_, (ok, ()))), ()) = some (((rdList b s).1, ()), ((b, (at', ((rdList b s).2.isSome, ()))), ())) ∧ RepS (rdList b s).2 at' (rdList b s).2.isSome ∧ at' ≤ 9223372036854775807 := by
  have hb' : b.length ≤ big47 := by rw [big47_eq]; omega
  obtain ⟨at1, e1, r1, _, l1⟩ := spec_num_ok hb' hr ha h
  obtain ⟨n0, n1, n2⟩ := rdN_spec hr s
  have hacc := accOk_nil hr s
  rw [spec_l5Nums_main]
  simp only [e1, Option.bind_some]
  unfold rdList
  generalize rdN b s = p at *
  obtain ⟨n, s1⟩ := p
  simp only at *
  obtain ⟨N, rfl⟩ := Int.eq_ofNat_of_zero_le n0
  rw [Int.toNat_natCast]
  obtain ⟨m, v, hh, at', rfl, r', l'⟩ := for_loop (σ := List Int × Option Nat × Int) (G := fun n i z => iterG spec_l5Nums_t0 spec_l5Nums_B0 (spec_l5Nums_K0 (b, (at_, (ok, ())))) n (((N : Int), ((i : Int), ())), (z.1, ((b, (z.2.2, (z.2.1.isSome, ()))), ())))) N
    (fun i z => RepS z.2.1 z.2.2 z.2.1.isSome ∧ AccOk b z.2.1 z.1 ∧ rdL b (N - i) z.2.1 z.1 = rdL b N s1 [] ∧ z.2.2 ≤ 9223372036854775807) (fun v => ∃ at' : Int, v = some (((rdL b N s1 []).1, ()), ((b, (at', ((rdL b N s1 []).2.isSome, ()))), ())) ∧ RepS (rdL b N s1 []).2 at' (rdL b N s1 []).2.isSome ∧ at' ≤ 9223372036854775807)
    (fun i z hi ⟨hI1, hI2, hI3, hI4⟩ => by
      obtain ⟨acc, s2, at2⟩ := z
      simp only at hI1 hI2 hI3 hI4 ⊢
      cases s2 with
      | none =>
        rw [show N - i = (N - i - 1) + 1 by omega, rdL] at hI3
        refine .inl ⟨_, ⟨at2, rfl, by rw [← hI3]; exact .inl rfl, hI4⟩, fun n => ?_⟩
        rw [spec_l5Nums_r0, brk_lt hi, Option.isSome_none, brk_false, spec_l5Nums_e0_0, ← hI3]; rfl
      | some a =>
        rw [show N - i = (N - i - 1) + 1 by omega, rdL] at hI3
        obtain ⟨rfl, _⟩ := hI1
        obtain ⟨at3, e3, r3, _, l3⟩ := spec_num_ok (s := some a) (at_ := (a : Int)) (ok := true) hb' hr hI4 ⟨rfl, rfl⟩
        have hlen := hI2.len
        refine .inr ⟨(acc ++ [(rdN b (some a)).1], (rdN b (some a)).2, at3), ⟨r3, hI2.step hr _, ?_, l3⟩, fun n => ?_⟩
        · rw [← hI3, show N - (i + 1) = N - i - 1 by omega]
        · rw [spec_l5Nums_r0, brk_lt hi, Option.isSome_some, brk_true]
          simp only [e3, Option.bind_some]
          rw [ck_pos (by simp [big47]; omega), step_nat i (by omega)])
    (fun z ⟨hI1, hI2, hI3, hI4⟩ => by
      obtain ⟨acc, s2, at2⟩ := z
      simp only at hI1 hI2 hI3 hI4 ⊢
      rw [Nat.sub_self, rdL] at hI3
      exact ⟨_, ⟨at2, rfl, by rw [← hI3]; exact hI1, hI4⟩, fun n => by rw [spec_l5Nums_r0, brk_nlt (by omega), spec_l5Nums_e0_0, ← hI3]⟩) ([], s1, at1) ⟨r1, hacc, by rw [Nat.sub_zero], l1⟩
  exact ⟨at', spec_l5Nums_l0 m hh ⟨_, rfl⟩, r', l'⟩
theorem rdList_len {b : List Int} (hr : ∀ x ∈ b, 0 ≤ x ∧ x ≤ 255) (s : Option Nat) : (rdList b s).1.length ≤ b.length + 1 := rdL_ok hr _ _ _ (accOk_nil hr _)
/-- Rows read, n of them. -/
def rdRows (b : List Int) : Nat → Option Nat → List (List Int) → List (List Int) × Option Nat
  | 0, s, acc => (acc, s)
  | n + 1, s, acc => rdRows b n (rdList b s).2 (acc ++ [(rdList b s).1])
def metaR (b : List Int) : tMeta.D × Option Nat :=
  let g := rdList b (some 0)
  let l := rdRows b 3 g.2 []
  let f := rdN b l.2
  let a := rdN b f.2
  ((g.1, (l.1, (!decide (andN .i64 f.1 1 = 0), (!decide (andN .i64 f.1 2 = 0), (!decide (andN .i64 f.1 4 = 0), (a.1, ())))))), a.2)
def zeroMeta : tMeta.D := ([], ([], (false, (false, (false, ((0 : Int), ()))))))
open Classical in
/-- MetaOf. -/
noncomputable def metaOfP (b : List Int) : tMeta.D × Bool :=
  if (metaR b).2.isSome = true ∧ metaB (metaR b).1 = b ∧ b ≠ [] then ((metaR b).1, true) else (zeroMeta, false)
theorem rdRows_ok {b : List Int} (hr : ∀ x ∈ b, 0 ≤ x ∧ x ≤ 255) : ∀ (n : Nat) (s : Option Nat) (acc : List (List Int)), (∀ r ∈ acc, r.length ≤ b.length + 1) → (∀ r ∈ (rdRows b n s acc).1, r.length ≤ b.length + 1) ∧ (rdRows b n s acc).1.length = acc.length + n
  | 0, s, acc, h => ⟨h, rfl⟩
  | n + 1, s, acc, h => by
    obtain ⟨h1, h2⟩ := rdRows_ok hr n (rdList b s).2 (acc ++ [(rdList b s).1]) fun r hr' => by
      rcases List.mem_append.1 hr' with h' | h'
      · exact h r h'
      · simp at h'; subst h'; exact rdList_len hr s
    refine ⟨h1, ?_⟩
    rw [rdRows, h2]
    simp; omega
theorem metaR_sz {b : List Int} (hb : b.length ≤ 1400000) (hr : ∀ x ∈ b, 0 ≤ x ∧ x ≤ 255) : SzM (metaR b).1 := by
  have h1 := rdRows_ok hr 3 (rdList b (some 0)).2 [] (by simp)
  refine ⟨Nat.le_trans (rdList_len hr _) (by omega), ?_, fun r hr' => Nat.le_trans (h1.1 r hr') (by omega)⟩
  show (rdRows b 3 (rdList b (some 0)).2 []).1.length ≤ _
  rw [h1.2]; decide
theorem impl_MetaOf_ok (b : List Int) (hb : b.length ≤ 1400000) (hr : ∀ x ∈ b, 0 ≤ x ∧ x ≤ 255) : impl_MetaOf_F (b, ()) = some (((metaOfP b).1, ((metaOfP b).2, ())), ((), ())) := by
  have hb' : b.length ≤ big47 := by rw [big47_eq]; omega
  obtain ⟨a1, e1, r1, l1⟩ := impl_list_ok' (s := some 0) (at_ := 0) (ok := true) hb hr (by omega) ⟨rfl, rfl⟩
  rw [impl_MetaOf_main, e1]
  simp only [Option.bind_some]
  obtain ⟨n, v, hh, rfl⟩ := for_loop (σ := List (List Int) × Option Nat × Int) (G := fun n i z => iterG impl_MetaOf_t0 impl_MetaOf_B0 (impl_MetaOf_K0 b) n ((b, ((i : Int), ())), ((false, (false, (false, ((0 : Int), ())))), ((false, (false, (false, ((0 : Int), ())))), ((b, (z.2.2, (z.2.1.isSome, ()))), ((rdList b (some 0)).1, (z.1, ()))))))) 3
    (fun i z => RepS z.2.1 z.2.2 z.2.1.isSome ∧ z.2.2 ≤ 9223372036854775807 ∧ z.1.length = i ∧ rdRows b (3 - i) z.2.1 z.1 = rdRows b 3 (rdList b (some 0)).2 []) (· = some (((metaOfP b).1, ((metaOfP b).2, ())), ((), ())))
    (fun i z hi ⟨hI1, hI2, hI3, hI4⟩ => by
      obtain ⟨acc, s2, at2⟩ := z
      simp only at hI1 hI2 hI3 hI4 ⊢
      obtain ⟨at3, e3, r3, l3⟩ := impl_list_ok' hb hr hI2 hI1
      refine .inr ⟨(acc ++ [(rdList b s2).1], (rdList b s2).2, at3), ⟨r3, l3, by simp [hI3], ?_⟩, fun n => ?_⟩
      · rw [← hI4, show 3 - i = (3 - (i + 1)) + 1 by omega, rdRows]
      · rw [impl_MetaOf_r0, brk_pos (decide_eq_true (by omega)), e3]
        simp only [Option.bind_some]
        rw [ck_pos (by simp [big47]; omega), step_nat i (by omega)])
    (fun z ⟨hI1, hI2, hI3, hI4⟩ => by
      obtain ⟨acc, s2, at2⟩ := z
      simp only at hI1 hI2 hI3 hI4 ⊢
      rw [Nat.sub_self, rdRows] at hI4
      obtain ⟨a3, e3, r3, l3⟩ := impl_num_ok' hb' hr hI2 hI1
      obtain ⟨a4, e4, r4, l4⟩ := impl_num_ok' hb' hr l3 r3
      have hm := impl_MetaBytes_ok (metaR b).1 (metaR_sz hb hr)
      have hmr : metaR b = (((rdList b (some 0)).1, (acc, (!decide (andN .i64 (rdN b s2).1 1 = 0), (!decide (andN .i64 (rdN b s2).1 2 = 0), (!decide (andN .i64 (rdN b s2).1 4 = 0), ((rdN b (rdN b s2).2).1, ())))))), (rdN b (rdN b s2).2).2) := by
        unfold metaR; simp only; rw [← hI4]
      unfold metaOfP
      rw [hmr] at hm ⊢
      simp only at hm ⊢
      refine ⟨_, rfl, fun n => ?_⟩
      rw [impl_MetaOf_r0, brk_neg (by decide), impl_MetaOf_e0_0, e3]
      simp only [Option.bind_some]
      rw [e4]
      simp only [Option.bind_some]
      rw [hm]
      simp only [Option.bind_some]
      by_cases h1 : (rdN b (rdN b s2).2).2.isSome = true
      · rw [h1, Bool.not_true, brk_false]
        generalize metaB ((rdList b (some 0)).1, (acc, (!decide (andN .i64 (rdN b s2).1 1 = 0), (!decide (andN .i64 (rdN b s2).1 2 = 0), (!decide (andN .i64 (rdN b s2).1 4 = 0), ((rdN b (rdN b s2).2).1, ())))))) = out
        by_cases h2 : out = []
        · rw [brk_pos (decide_eq_true (by rw [h2]; rfl)), if_neg fun h => h.2.2 (by rw [← h.2.1, h2])]; rfl
        · rw [brk_neg (decide_eq_false fun h => h2 (List.length_eq_zero_iff.1 (by omega))), bytes_Equal_ok]
          simp only [Option.bind_some]
          by_cases h3 : out = b
          · rw [decide_eq_true h3, Bool.not_true, brk_false, if_pos ⟨trivial, h3, fun e => h2 (by rw [h3, e])⟩]
          · rw [decide_eq_false h3, Bool.not_false, brk_true, if_neg fun h => h3 h.2.1]; rfl
      · rw [show (rdN b (rdN b s2).2).2.isSome = false by simpa using h1, Bool.not_false, brk_true, if_neg fun h => by simp at h]; rfl) ([], (rdList b (some 0)).2, a1) ⟨r1, l1, rfl, rfl⟩
  exact impl_MetaOf_l0 n hh ⟨_, rfl⟩
theorem spec_MetaOf_ok (b : List Int) (hb : b.length ≤ 1400000) (hr : ∀ x ∈ b, 0 ≤ x ∧ x ≤ 255) : spec_MetaOf_F (b, ()) = some (((metaOfP b).1, ((metaOfP b).2, ())), ((), ())) := by
  have hb' : b.length ≤ big47 := by rw [big47_eq]; omega
  obtain ⟨a1, e1, r1, l1⟩ := spec_list_ok (s := some 0) (at_ := 0) (ok := true) hb hr (by omega) ⟨rfl, rfl⟩
  rw [spec_MetaOf_main, e1]
  simp only [Option.bind_some]
  obtain ⟨n, v, hh, rfl⟩ := for_loop (σ := List (List Int) × Option Nat × Int) (G := fun n i z => iterG spec_MetaOf_t0 spec_MetaOf_B0 (spec_MetaOf_K0 b) n ((b, ((i : Int), ())), ((false, (false, (false, ((0 : Int), ())))), ((false, (false, (false, ((0 : Int), ())))), ((b, (z.2.2, (z.2.1.isSome, ()))), ((rdList b (some 0)).1, (z.1, ()))))))) 3
    (fun i z => RepS z.2.1 z.2.2 z.2.1.isSome ∧ z.2.2 ≤ 9223372036854775807 ∧ z.1.length = i ∧ rdRows b (3 - i) z.2.1 z.1 = rdRows b 3 (rdList b (some 0)).2 []) (· = some (((metaOfP b).1, ((metaOfP b).2, ())), ((), ())))
    (fun i z hi ⟨hI1, hI2, hI3, hI4⟩ => by
      obtain ⟨acc, s2, at2⟩ := z
      simp only at hI1 hI2 hI3 hI4 ⊢
      obtain ⟨at3, e3, r3, l3⟩ := spec_list_ok hb hr hI2 hI1
      refine .inr ⟨(acc ++ [(rdList b s2).1], (rdList b s2).2, at3), ⟨r3, l3, by simp [hI3], ?_⟩, fun n => ?_⟩
      · rw [← hI4, show 3 - i = (3 - (i + 1)) + 1 by omega, rdRows]
      · rw [spec_MetaOf_r0, brk_pos (decide_eq_true (by omega)), e3]
        simp only [Option.bind_some]
        rw [ck_pos (by simp [big47]; omega), step_nat i (by omega)])
    (fun z ⟨hI1, hI2, hI3, hI4⟩ => by
      obtain ⟨acc, s2, at2⟩ := z
      simp only at hI1 hI2 hI3 hI4 ⊢
      rw [Nat.sub_self, rdRows] at hI4
      obtain ⟨a3, e3, r3, _, l3⟩ := spec_num_ok hb' hr hI2 hI1
      obtain ⟨a4, e4, r4, _, l4⟩ := spec_num_ok hb' hr l3 r3
      have hm := spec_MetaBytes_ok (metaR b).1 (metaR_sz hb hr)
      have hmr : metaR b = (((rdList b (some 0)).1, (acc, (!decide (andN .i64 (rdN b s2).1 1 = 0), (!decide (andN .i64 (rdN b s2).1 2 = 0), (!decide (andN .i64 (rdN b s2).1 4 = 0), ((rdN b (rdN b s2).2).1, ())))))), (rdN b (rdN b s2).2).2) := by
        unfold metaR; simp only; rw [← hI4]
      unfold metaOfP
      rw [hmr] at hm ⊢
      simp only at hm ⊢
      refine ⟨_, rfl, fun n => ?_⟩
      rw [spec_MetaOf_r0, brk_neg (by decide), spec_MetaOf_e0_0, e3]
      simp only [Option.bind_some]
      rw [e4]
      simp only [Option.bind_some]
      by_cases h1 : (rdN b (rdN b s2).2).2.isSome = true
      · rw [h1, Bool.not_true, brk_false, hm]
        simp only [Option.bind_some]
        generalize metaB ((rdList b (some 0)).1, (acc, (!decide (andN .i64 (rdN b s2).1 1 = 0), (!decide (andN .i64 (rdN b s2).1 2 = 0), (!decide (andN .i64 (rdN b s2).1 4 = 0), ((rdN b (rdN b s2).2).1, ())))))) = out
        by_cases h3 : out = b
        · rw [decide_eq_true h3, Bool.not_true, brk_false]
          by_cases h4 : b = []
          · rw [brk_pos (decide_eq_true (by rw [h4]; rfl)), if_neg fun h => h.2.2 h4]; rfl
          · rw [brk_neg (decide_eq_false fun h => h4 (List.length_eq_zero_iff.1 (by omega))), if_pos ⟨trivial, h3, h4⟩]
        · rw [decide_eq_false h3, Bool.not_false, brk_true, if_neg fun h => h3 h.2.1]; rfl
      · rw [show (rdN b (rdN b s2).2).2.isSome = false by simpa using h1, Bool.not_false, brk_true, if_neg fun h => by simp at h]; rfl) ([], (rdList b (some 0)).2, a1) ⟨r1, l1, rfl, rfl⟩
  exact spec_MetaOf_l0 n hh ⟨_, rfl⟩
theorem metaOfP_sz {b : List Int} (hb : b.length ≤ 1400000) (hr : ∀ x ∈ b, 0 ≤ x ∧ x ≤ 255) : SzM (metaOfP b).1 := by
  unfold metaOfP
  split
  · exact metaR_sz hb hr
  · exact ⟨by simp [zeroMeta], by simp [zeroMeta], by simp [zeroMeta]⟩
theorem eqMeta_selfM (x : tMeta.D) (h : SzM x) : laws_eqMeta_F (x, (x, ())) = some ((true, ()), ((), ((), ()))) := by
  obtain ⟨h1, h2, h3⟩ := h.big
  rw [laws_eqMeta_main, eqIntS_ok _ _ h1, eqIntSS_ok _ _ h2 h3]
  simp
theorem metaB_len (x : tMeta.D) (hx : SzM x) : (metaB x).length ≤ 30000000 := by
  unfold metaB
  split
  · rename_i hm
    obtain ⟨p1, p2, p3, _⟩ := metaOk_parts hm
    have q0 := putNs_len ((x.1.length : Int) :: x.1)
    have q1 := putNs_len [flagsN x.2.2.1 x.2.2.2.1 x.2.2.2.2.1, x.2.2.2.2.2.1]
    have q3 := rowsB_len (l := x.2.1) (c := 1500000) hx.2.2
    rw [p3] at q3
    simp only [List.length_cons, List.length_nil] at q0 q1
    simp only [List.length_append]
    omega
  · simp
theorem or_shift {a c i : Nat} (ha : a < 2 ^ i) (hs : 2 ^ i * c + a < 9223372036854775808) : orN .i64 (a : Int) ((2 ^ i * c : Nat) : Int) = ((2 ^ i * c + a : Nat) : Int) := by
  unfold orN
  have e : (BitVec.ofInt IntKind.i64.bits (a : Int) ||| BitVec.ofInt IntKind.i64.bits ((2 ^ i * c : Nat) : Int)).toNat = 2 ^ i * c + a := by
    rw [BitVec.ofInt_natCast, BitVec.ofInt_natCast, BitVec.toNat_or, BitVec.toNat_ofNat, BitVec.toNat_ofNat]
    simp only [IntKind.bits]
    rw [Nat.mod_eq_of_lt (by omega), Nat.mod_eq_of_lt (by omega), Nat.or_comm, Nat.two_pow_add_eq_or_of_lt ha]
  rw [e]
  exact wrap64 (by omega) (by omega)
def le4 (a b c d : Int) : Int := a + b * 256 + c * 65536 + d * 16777216
theorem shl_byte {x : Int} (h0 : 0 ≤ x) (h1 : x ≤ 255) : shlN .i64 x 8 = x * 256 ∧ shlN .i64 x 16 = x * 65536 ∧ shlN .i64 x 24 = x * 16777216 :=
  ⟨wrap64 (x := x * 256) (by omega) (by omega), wrap64 (x := x * 65536) (by omega) (by omega), wrap64 (x := x * 16777216) (by omega) (by omega)⟩
theorem le4_or {a b c d : Int} (ha : 0 ≤ a ∧ a ≤ 255) (hb : 0 ≤ b ∧ b ≤ 255) (hc : 0 ≤ c ∧ c ≤ 255) (hd : 0 ≤ d ∧ d ≤ 255) :
    orN .i64 (orN .i64 (orN .i64 (IntKind.i64.wrap a) (shlN .i64 (IntKind.i64.wrap b) 8)) (shlN .i64 (IntKind.i64.wrap c) 16)) (shlN .i64 (IntKind.i64.wrap d) 24) = le4 a b c d := by
  rw [wrap64 (x := a) (by omega) (by omega), wrap64 (x := b) (by omega) (by omega), wrap64 (x := c) (by omega) (by omega), wrap64 (x := d) (by omega) (by omega), (shl_byte hb.1 hb.2).1, (shl_byte hc.1 hc.2).2.1, (shl_byte hd.1 hd.2).2.2]
  obtain ⟨a, rfl⟩ := Int.eq_ofNat_of_zero_le ha.1
  obtain ⟨b, rfl⟩ := Int.eq_ofNat_of_zero_le hb.1
  obtain ⟨c, rfl⟩ := Int.eq_ofNat_of_zero_le hc.1
  obtain ⟨d, rfl⟩ := Int.eq_ofNat_of_zero_le hd.1
  rw [show (b : Int) * 256 = ((2 ^ 8 * b : Nat) : Int) by omega, or_shift (by omega) (by omega), show (c : Int) * 65536 = ((2 ^ 16 * c : Nat) : Int) by omega, or_shift (by omega) (by omega), show (d : Int) * 16777216 = ((2 ^ 24 * d : Nat) : Int) by omega, or_shift (by omega) (by omega)]
  unfold le4
  omega
theorem le4_add {a b c d : Int} (ha : 0 ≤ a ∧ a ≤ 255) (hb : 0 ≤ b ∧ b ≤ 255) (hc : 0 ≤ c ∧ c ≤ 255) (hd : 0 ≤ d ∧ d ≤ 255) :
    IntKind.i64.wrap ((IntKind.i64.wrap ((IntKind.i64.wrap ((IntKind.i64.wrap a) + (shlN .i64 (IntKind.i64.wrap b) 8))) + (shlN .i64 (IntKind.i64.wrap c) 16))) + (shlN .i64 (IntKind.i64.wrap d) 24)) = le4 a b c d := by
  rw [wrap64 (x := a) (by omega) (by omega), wrap64 (x := b) (by omega) (by omega), wrap64 (x := c) (by omega) (by omega), wrap64 (x := d) (by omega) (by omega), (shl_byte hb.1 hb.2).1, (shl_byte hc.1 hc.2).2.1, (shl_byte hd.1 hd.2).2.2]
  rw [wrap64 (x := a + b * 256) (by omega) (by omega), wrap64 (x := a + b * 256 + c * 65536) (by omega) (by omega), wrap64 (by omega) (by omega)]
  rfl
/-- A whole slot. -/
def slotB (m : tMeta.D) (n : Int) : List Int := fourB n ++ [IntKind.u8.wrap ((metaB m).length : Int)] ++ metaB m ++ List.replicate (151 - (metaB m).length) 0 ++ fourB n
theorem fourB_len (x : Int) : (fourB x).length = 4 := rfl
theorem impl_slotBytes_ok (m : tMeta.D) (n : Int) (hm : SzM m) (hl : (metaB m).length ≤ 151) : impl_slotBytes_F (m, (n, ())) = some ((slotB m n, ()), ((), ((), ()))) := by
  have h1 := impl_MetaBytes_ok m hm
  have h2 := impl_four_ok n
  unfold slotB
  generalize metaB m = x at *
  rw [impl_slotBytes_main]
  obtain ⟨g, l, f, o, h, a, u⟩ := m
  cases u
  simp only
  rw [h1]
  simp only [Option.bind_some]
  rw [h2]
  simp only [Option.bind_some]
  have e : (fourB n ++ [IntKind.u8.wrap (x.length : Int)] ++ x).length = 5 + x.length := by simp only [List.length_append, fourB_len, List.length_cons, List.length_nil]
  have e1 : IntKind.i64.wrap ((156 : Int) - ((fourB n ++ [IntKind.u8.wrap (x.length : Int)] ++ x).length : Int)) = ((151 - x.length : Nat) : Int) := by
    rw [e, wrap64 (by omega) (by omega)]; omega
  rw [e1, e]
  rw [ck_pos (decide_eq_true (by rw [big47_eq]; simp only [fourB_len, List.length_cons, List.length_nil]; omega)),
    ck_pos (decide_eq_true (by rw [big47_eq]; simp only [List.length_append, fourB_len, List.length_cons, List.length_nil]; omega)),
    ck_pos (decide_eq_true (by omega)), ck_pos (decide_eq_true (by rw [big47_eq, Int.toNat_natCast]; omega))]
  rw [ck_pos (decide_eq_true (by rw [big47_eq, Int.toNat_natCast]; simp only [List.length_append, List.length_replicate, fourB_len, List.length_cons, List.length_nil]; omega))]
  rfl
theorem spec_l6Slot_ok (m : tMeta.D) (n : Int) (hm : SzM m) (h0 : 0 ≤ n) (hn : n ≤ 1000000) : spec_l6Slot_F (m, (n, ())) = some ((slotB m n, ()), ((), ((), ()))) := by
  have h1 := spec_MetaBytes_ok m hm
  have h2 := spec_l4Sum_ok n h0 (by omega)
  have hl := metaB_len m hm
  unfold slotB
  generalize metaB m = x at *
  rw [spec_l6Slot_main]
  obtain ⟨n', v, hh, rfl⟩ := for_loop (σ := Unit) (G := fun k i _ => iterG spec_l6Slot_t0 spec_l6Slot_B0 (spec_l6Slot_K0 m n) k ((n, ()), (fourB n ++ [IntKind.u8.wrap (x.length : Int)] ++ x ++ List.replicate i 0, ()))) (151 - x.length)
    (fun _ _ => True) (· = some ((fourB n ++ [IntKind.u8.wrap (x.length : Int)] ++ x ++ List.replicate (151 - x.length) 0 ++ fourB n, ()), ((), ((), ()))))
    (fun i _ hi _ => by
      refine .inr ⟨(), trivial, fun k => ?_⟩
      simp only
      rw [spec_l6Slot_r0]
      rw [brk_pos (decide_eq_true (by simp only [List.length_append, fourB_len, List.length_cons, List.length_nil, List.length_replicate]; omega)),
        ck_pos (decide_eq_true (by rw [big47_eq]; simp only [List.length_append, fourB_len, List.length_cons, List.length_nil, List.length_replicate]; omega)),
        List.append_assoc _ (List.replicate i 0), ← List.replicate_succ'])
    (fun _ _ => ⟨_, rfl, fun k => by
      simp only
      rw [spec_l6Slot_r0]
      rw [brk_neg (decide_eq_false (by simp only [List.length_append, fourB_len, List.length_cons, List.length_nil, List.length_replicate]; omega)), spec_l6Slot_e0_0, h2]
      simp only [Option.bind_some]
      rw [ck_pos (decide_eq_true (by rw [big47_eq]; simp only [List.length_append, fourB_len, List.length_cons, List.length_nil, List.length_replicate]; omega))]⟩) () trivial
  have hh' := spec_l6Slot_l0 n' hh ⟨_, rfl⟩
  simp only [List.replicate_zero, List.append_nil] at hh'
  obtain ⟨g, l, f, o, h, a, u⟩ := m
  cases u
  simp only
  rw [h1]
  simp only [Option.bind_some]
  rw [h2]
  simp only [Option.bind_some]
  rw [ck_pos (decide_eq_true (by rw [big47_eq]; simp only [fourB_len, List.length_cons, List.length_nil]; omega)),
    ck_pos (decide_eq_true (by rw [big47_eq]; simp only [List.length_append, fourB_len, List.length_cons, List.length_nil]; omega))]
  exact hh'
open Classical in
noncomputable def slotOfP (b : List Int) : tMeta.D × Int × Bool :=
  if b.length = 160 then
    if 1 ≤ le4 (b.getD 0 0) (b.getD 1 0) (b.getD 2 0) (b.getD 3 0) ∧ le4 (b.getD 0 0) (b.getD 1 0) (b.getD 2 0) (b.getD 3 0) ≤ 1000000 ∧ b.getD 4 0 ≤ 151 then
      if (metaOfP ((b.take (5 + (b.getD 4 0).toNat)).drop 5)).2 = true ∧ slotB (metaOfP ((b.take (5 + (b.getD 4 0).toNat)).drop 5)).1 (le4 (b.getD 0 0) (b.getD 1 0) (b.getD 2 0) (b.getD 3 0)) = b then
        ((metaOfP ((b.take (5 + (b.getD 4 0).toNat)).drop 5)).1, (le4 (b.getD 0 0) (b.getD 1 0) (b.getD 2 0) (b.getD 3 0), true))
      else (zeroMeta, (0, false))
    else (zeroMeta, (0, false))
  else (zeroMeta, (0, false))
theorem metaOfP_b {b : List Int} (h : (metaOfP b).2 = true) : metaB (metaOfP b).1 = b := by
  unfold metaOfP at h ⊢
  split
  · rename_i hc; exact hc.2.1
  · rename_i hc; rw [if_neg hc] at h; simp at h
theorem le4_pos {a b c d : Int} (ha : 0 ≤ a ∧ a ≤ 255) (hb : 0 ≤ b ∧ b ≤ 255) (hc : 0 ≤ c ∧ c ≤ 255) (hd : 0 ≤ d ∧ d ≤ 255) : 0 ≤ le4 a b c d ∧ le4 a b c d ≤ 4294967295 := by unfold le4; omega
theorem getD_byte {b : List Int} (hr : ∀ x ∈ b, (0 : Int) ≤ x ∧ x ≤ 255) (i : Nat) : 0 ≤ b.getD i 0 ∧ b.getD i 0 ≤ 255 := by
  by_cases h : i < b.length
  · rw [List.getD_eq_getElem?_getD, List.getElem?_eq_getElem h]; exact hr _ (List.getElem_mem h)
  · rw [List.getD_eq_getElem?_getD, List.getElem?_eq_none (by omega)]; decide
theorem impl_SlotOf_ok (b : List Int) (hr : ∀ x ∈ b, (0 : Int) ≤ x ∧ x ≤ 255) : impl_SlotOf_F (b, ()) = some (((slotOfP b).1, ((slotOfP b).2.1, ((slotOfP b).2.2, ()))), ((), ())) := by
  rw [impl_SlotOf_main]
  unfold slotOfP
  by_cases hL : b.length = 160
  · have g0 := getD_byte hr 0
    have g1 := getD_byte hr 1
    have g2 := getD_byte hr 2
    have g3 := getD_byte hr 3
    have g4 := getD_byte hr 4
    rw [brk_neg (by rw [decide_eq_true (by omega)]; rfl), ck_pos (by simp; omega), ck_pos (by simp; omega), ck_pos (by simp; omega), ck_pos (by simp; omega), ck_pos (by simp; omega), if_pos hL]
    have e0 : rdD tY b (0 : Int) = b.getD 0 0 := rfl
    have e1 : rdD tY b (1 : Int) = b.getD 1 0 := rfl
    have e2 : rdD tY b (2 : Int) = b.getD 2 0 := rfl
    have e3 : rdD tY b (3 : Int) = b.getD 3 0 := rfl
    have e4 : rdD tY b (4 : Int) = b.getD 4 0 := rfl
    rw [e0, e1, e2, e3, e4, le4_or g0 g1 g2 g3]
    have hn := le4_pos g0 g1 g2 g3
    generalize le4 (b.getD 0 0) (b.getD 1 0) (b.getD 2 0) (b.getD 3 0) = n at *
    rw [wrap64 (x := b.getD 4 0) (by omega) (by omega)]
    generalize b.getD 4 0 = s at *
    obtain ⟨S, rfl⟩ := Int.eq_ofNat_of_zero_le g4.1
    rw [impl_from_ok]
    simp only [Option.bind_some]
    by_cases h1 : 1 ≤ n ∧ n ≤ 1000000
    · rw [decide_eq_true h1, Bool.not_true, brk_false]
      by_cases h2 : (S : Int) ≤ 151
      · rw [if_pos ⟨h1.1, h1.2, h2⟩, brk_neg (decide_eq_false (by omega)), wrap64 (x := 5 + (S : Int)) (by omega) (by omega), show (5 : Int) + (S : Int) = ((5 + S : Nat) : Int) by omega,
          ck_pos (by simp; omega), Int.toNat_natCast, show (5 : Int).toNat = 5 from rfl, Int.toNat_natCast]
        have hx : ((b.take (5 + S)).drop 5).length = S := by simp; omega
        have hxr : ∀ x ∈ (b.take (5 + S)).drop 5, (0 : Int) ≤ x ∧ x ≤ 255 := fun x hx => hr x (List.mem_of_mem_take (List.mem_of_mem_drop hx))
        generalize (b.take (5 + S)).drop 5 = y at *
        have h3 := impl_MetaOf_ok y (by omega) hxr
        have h4 := metaOfP_sz (b := y) (by omega) hxr
        have h5 : (metaOfP y).2 = true → (metaB (metaOfP y).1).length ≤ 151 := fun h => by rw [metaOfP_b h]; omega
        rw [h3]
        generalize metaOfP y = r at *
        obtain ⟨m, ok⟩ := r
        simp only [Option.bind_some] at *
        cases ok with
        | false => rw [Bool.not_false, brk_true, if_neg (fun h => by simp at h)]; rfl
        | true =>
          rw [Bool.not_true, brk_false]
          have h6 := impl_slotBytes_ok m n h4 (h5 rfl)
          generalize slotB m n = z at *
          obtain ⟨g, l, f, o, h, a, u⟩ := m
          cases u
          simp only
          rw [h6]
          simp only [Option.bind_some]
          rw [bytes_Equal_ok]
          simp only [Option.bind_some]
          by_cases h7 : z = b
          · rw [decide_eq_true h7, Bool.not_true, brk_false, if_pos ⟨trivial, h7⟩]
          · rw [decide_eq_false h7, Bool.not_false, brk_true, if_neg (fun h => h7 h.2)]; rfl
      · rw [if_neg (fun h => h2 h.2.2), brk_pos (decide_eq_true (by omega))]; rfl
    · rw [decide_eq_false h1, Bool.not_false, brk_true, if_neg (fun h => h1 ⟨h.1, h.2.1⟩)]; rfl
  · rw [brk_pos (by rw [decide_eq_false (by omega)]; rfl), if_neg hL]; rfl
theorem spec_SlotOf_ok (b : List Int) (hr : ∀ x ∈ b, (0 : Int) ≤ x ∧ x ≤ 255) : spec_SlotOf_F (b, ()) = some (((slotOfP b).1, ((slotOfP b).2.1, ((slotOfP b).2.2, ()))), ((), ())) := by
  rw [spec_SlotOf_main]
  unfold slotOfP
  by_cases hL : b.length = 160
  · have g0 := getD_byte hr 0
    have g1 := getD_byte hr 1
    have g2 := getD_byte hr 2
    have g3 := getD_byte hr 3
    have g4 := getD_byte hr 4
    rw [brk_neg (by rw [decide_eq_true (by omega)]; rfl), ck_pos (by simp; omega), ck_pos (by simp; omega), ck_pos (by simp; omega), ck_pos (by simp; omega), ck_pos (by simp; omega), if_pos hL]
    have e0 : rdD tY b (0 : Int) = b.getD 0 0 := rfl
    have e1 : rdD tY b (1 : Int) = b.getD 1 0 := rfl
    have e2 : rdD tY b (2 : Int) = b.getD 2 0 := rfl
    have e3 : rdD tY b (3 : Int) = b.getD 3 0 := rfl
    have e4 : rdD tY b (4 : Int) = b.getD 4 0 := rfl
    rw [e0, e1, e2, e3, e4, le4_add g0 g1 g2 g3]
    have hn := le4_pos g0 g1 g2 g3
    generalize le4 (b.getD 0 0) (b.getD 1 0) (b.getD 2 0) (b.getD 3 0) = n at *
    rw [wrap64 (x := b.getD 4 0) (by omega) (by omega)]
    generalize b.getD 4 0 = s at *
    obtain ⟨S, rfl⟩ := Int.eq_ofNat_of_zero_le g4.1
    rw [spec_l1In_ok']
    simp only [Option.bind_some]
    by_cases h1 : 1 ≤ n ∧ n ≤ 1000000
    · rw [decide_eq_true h1, Bool.not_true, brk_false]
      by_cases h2 : (S : Int) ≤ 151
      · rw [if_pos ⟨h1.1, h1.2, h2⟩, brk_neg (decide_eq_false (by omega)), wrap64 (x := 5 + (S : Int)) (by omega) (by omega), show (5 : Int) + (S : Int) = ((5 + S : Nat) : Int) by omega,
          ck_pos (by simp; omega), Int.toNat_natCast, show (5 : Int).toNat = 5 from rfl, Int.toNat_natCast]
        have hx : ((b.take (5 + S)).drop 5).length = S := by simp; omega
        have hxr : ∀ x ∈ (b.take (5 + S)).drop 5, (0 : Int) ≤ x ∧ x ≤ 255 := fun x hx => hr x (List.mem_of_mem_take (List.mem_of_mem_drop hx))
        generalize (b.take (5 + S)).drop 5 = y at *
        have h3 := spec_MetaOf_ok y (by omega) hxr
        have h4 := metaOfP_sz (b := y) (by omega) hxr
        rw [h3]
        generalize metaOfP y = r at *
        obtain ⟨m, ok⟩ := r
        simp only [Option.bind_some] at *
        cases ok with
        | false => rw [Bool.not_false, brk_true, if_neg (fun h => by simp at h)]; rfl
        | true =>
          rw [Bool.not_true, brk_false]
          have h6 := spec_l6Slot_ok m n h4 (by omega) (by omega)
          generalize slotB m n = z at *
          obtain ⟨g, l, f, o, h, a, u⟩ := m
          cases u
          simp only
          rw [h6]
          simp only [Option.bind_some]
          by_cases h7 : z = b
          · rw [decide_eq_true h7, Bool.not_true, brk_false, if_pos ⟨trivial, h7⟩]
          · rw [decide_eq_false h7, Bool.not_false, brk_true, if_neg (fun h => h7 h.2)]; rfl
      · rw [if_neg (fun h => h2 h.2.2), brk_pos (decide_eq_true (by omega))]; rfl
    · rw [decide_eq_false h1, Bool.not_false, brk_true, if_neg (fun h => h1 ⟨h.1, h.2.1⟩)]; rfl
  · rw [brk_pos (by rw [decide_eq_false (by omega)]; rfl), if_neg hL]; rfl
theorem slotOfP_sz {b : List Int} (hr : ∀ x ∈ b, (0 : Int) ≤ x ∧ x ≤ 255) : SzM (slotOfP b).1 := by
  have hz : SzM zeroMeta := ⟨by simp [zeroMeta], by simp [zeroMeta], by simp [zeroMeta]⟩
  unfold slotOfP
  split
  · split
    · split
      · exact metaOfP_sz (by simp only [List.length_drop, List.length_take]; omega) fun x hx => hr x (List.mem_of_mem_take (List.mem_of_mem_drop hx))
      · exact hz
    · exact hz
  · exact hz
theorem slotOfP_n (b : List Int) : ((slotOfP b).2.2 = true ∧ 1 ≤ (slotOfP b).2.1 ∧ (slotOfP b).2.1 ≤ 1000000) ∨ ((slotOfP b).2.2 = false ∧ (slotOfP b).2.1 = 0 ∧ (slotOfP b).1 = zeroMeta) := by
  unfold slotOfP
  split
  · split
    · rename_i h
      split
      · exact .inl ⟨rfl, h.1, h.2.1⟩
      · exact .inr ⟨rfl, rfl, rfl⟩
    · exact .inr ⟨rfl, rfl, rfl⟩
  · exact .inr ⟨rfl, rfl, rfl⟩
def Byte (b : List Int) : Prop := ∀ x ∈ b, (0 : Int) ≤ x ∧ x ≤ 255
noncomputable def latestP (s : tSlots.D) : tMeta.D × Int × Bool :=
  if (slotOfP s.2.1).2.2 = true ∧ ((slotOfP s.1).2.2 = false ∨ (slotOfP s.1).2.1 < (slotOfP s.2.1).2.1) then ((slotOfP s.2.1).1, ((slotOfP s.2.1).2.1, false)) else slotOfP s.1
noncomputable def slotGetP (s : tSlots.D) : tMeta.D × Int × Bool := ((latestP s).1, ((latestP s).2.1, decide (0 < (latestP s).2.1)))
theorem impl_latest_ok (s : tSlots.D) (ha : Byte s.1) (hb : Byte s.2.1) : impl_latest_F (s, ()) = some (((latestP s).1, ((latestP s).2.1, ((latestP s).2.2, ()))), ((), ())) := by
  have h1 := impl_SlotOf_ok s.1 ha
  have h2 := impl_SlotOf_ok s.2.1 hb
  rw [impl_latest_main]
  unfold latestP
  generalize slotOfP s.1 = x at *
  generalize slotOfP s.2.1 = y at *
  obtain ⟨m, n, f⟩ := x
  obtain ⟨m', n', f'⟩ := y
  obtain ⟨g, l, f1, o, h, a, u⟩ := m
  cases u
  obtain ⟨g', l', f1', o', h', a', u'⟩ := m'
  cases u'
  rw [h1]
  simp only [Option.bind_some]
  rw [h2]
  simp only [Option.bind_some]
  cases f' with
  | false => rw [brk_false, if_neg (fun h => by simp at h)]
  | true =>
    rw [brk_true]
    cases f with
    | false => rw [Bool.not_false, brk_true, if_pos ⟨rfl, .inl rfl⟩]
    | true =>
      rw [Bool.not_true, brk_false]
      by_cases hn : n < n'
      · rw [brk_pos (decide_eq_true hn), if_pos ⟨rfl, .inr hn⟩]
      · rw [brk_neg (decide_eq_false hn), if_neg (fun h => by simp [hn] at h)]
theorem impl_SlotGet_ok (s : tSlots.D) (ha : Byte s.1) (hb : Byte s.2.1) : impl_SlotGet_F (s, ()) = some (((slotGetP s).1, ((slotGetP s).2.1, ((slotGetP s).2.2, ()))), ((), ())) := by
  have h1 := impl_latest_ok s ha hb
  rw [impl_SlotGet_main]
  obtain ⟨a, b, u⟩ := s
  cases u
  unfold slotGetP
  generalize latestP (a, b, ()) = x at *
  obtain ⟨m, n, f⟩ := x
  obtain ⟨g, l, f1, o, h, a, u⟩ := m
  cases u
  simp only
  rw [h1]
  simp only [Option.bind_some]
noncomputable def whichP (s : tSlots.D) : Int :=
  if (slotOfP s.1).2.2 = true ∧ ((slotOfP s.2.1).2.2 = false ∨ (slotOfP s.2.1).2.1 ≤ (slotOfP s.1).2.1) then 0 else if (slotOfP s.2.1).2.2 = true then 1 else -1
theorem spec_l6Which_ok (s : tSlots.D) (ha : Byte s.1) (hb : Byte s.2.1) : spec_l6Which_F (s, ()) = some ((whichP s, ()), ((), ())) := by
  have h1 := spec_SlotOf_ok s.1 ha
  have h2 := spec_SlotOf_ok s.2.1 hb
  rw [spec_l6Which_main]
  unfold whichP
  generalize slotOfP s.1 = x at *
  generalize slotOfP s.2.1 = y at *
  obtain ⟨m, n, f⟩ := x
  obtain ⟨m', n', f'⟩ := y
  rw [h1]
  simp only [Option.bind_some]
  rw [h2]
  simp only [Option.bind_some]
  cases f with
  | false => rw [brk_false, if_neg (fun h => by simp at h)]; cases f' <;> rfl
  | true =>
    rw [brk_true]
    cases f' with
    | false => rw [Bool.not_false, brk_true, if_pos ⟨rfl, .inl rfl⟩]
    | true =>
      rw [Bool.not_true, brk_false]
      by_cases hn : n' ≤ n
      · rw [brk_pos (decide_eq_true hn), if_pos ⟨rfl, .inr hn⟩]
      · rw [brk_neg (decide_eq_false hn), if_neg (fun h => by simp [hn] at h)]; rfl
theorem whichP_get (s : tSlots.D) : slotGetP s = if whichP s = 1 then slotOfP s.2.1 else slotOfP s.1 := by
  unfold slotGetP latestP whichP
  have h1 := slotOfP_n s.1
  have h2 := slotOfP_n s.2.1
  generalize slotOfP s.1 = x at *
  generalize slotOfP s.2.1 = y at *
  obtain ⟨m, n, f⟩ := x
  obtain ⟨m', n', f'⟩ := y
  simp only at *
  rcases h1 with ⟨rfl, h3, h4⟩ | ⟨rfl, h3, h4⟩
  · rcases h2 with ⟨rfl, h5, h6⟩ | ⟨rfl, h5, h6⟩
    · by_cases hn : n < n'
      · simp [hn, show ¬ n' ≤ n by omega]; omega
      · simp [hn, show n' ≤ n by omega]; omega
    · simp; omega
  · rcases h2 with ⟨rfl, h5, h6⟩ | ⟨rfl, h5, h6⟩
    · simp; omega
    · subst h3; simp
theorem spec_SlotGet_ok (s : tSlots.D) (ha : Byte s.1) (hb : Byte s.2.1) : spec_SlotGet_F (s, ()) = some (((slotGetP s).1, ((slotGetP s).2.1, ((slotGetP s).2.2, ()))), ((), ())) := by
  have h0 := spec_l6Which_ok s ha hb
  have h1 := spec_SlotOf_ok s.1 ha
  have h2 := spec_SlotOf_ok s.2.1 hb
  rw [spec_SlotGet_main, whichP_get]
  generalize whichP s = w at *
  generalize slotOfP s.1 = x at *
  generalize slotOfP s.2.1 = y at *
  obtain ⟨m, n, f⟩ := x
  obtain ⟨m', n', f'⟩ := y
  obtain ⟨g, l, f1, o, h, a, u⟩ := m
  cases u
  obtain ⟨g', l', f1', o', h', a', u'⟩ := m'
  cases u'
  obtain ⟨a, b, u⟩ := s
  cases u
  simp only at *
  rw [h0]
  simp only [Option.bind_some]
  by_cases hw : w = 1
  · rw [brk_pos (decide_eq_true hw), h2, if_pos hw]; rfl
  · rw [brk_neg (decide_eq_false hw), h1, if_neg hw]; rfl
theorem slotGetP_sz {s : tSlots.D} (ha : Byte s.1) (hb : Byte s.2.1) : SzM (slotGetP s).1 := by
  rw [whichP_get]
  split
  · exact slotOfP_sz hb
  · exact slotOfP_sz ha
theorem szByteS_ok (xs : List Int) (n : Int) (hb : xs.length ≤ big47) (h0 : 0 ≤ n) (hn : n ≤ 1048576) : laws_szByteS_F (xs, (n, ())) = some ((if n < xs.length then -1 else n - xs.length, ()), ((), ((), ()))) := by
  rw [big47_eq] at hb
  rw [laws_szByteS_main, wrap64 (by omega) (by omega)]
  by_cases h : n < xs.length
  · rw [if_pos h, brk_pos (decide_eq_true (by omega))]
  · rw [if_neg h, brk_neg (decide_eq_false (by omega))]
theorem szSlots_ok (s : tSlots.D) (k : Int) (h1 : s.1.length ≤ big47) (h2 : s.2.1.length ≤ big47) (h0 : 0 ≤ k) (hk : k ≤ 1048576) : ∃ r : Int, laws_szSlots_F (s, (k, ())) = some ((r, ()), ((), ((), ()))) ∧ r ≤ k ∧ (0 ≤ r → s.1.length ≤ 1048576 ∧ s.2.1.length ≤ 1048576) := by
  rw [laws_szSlots_main, szByteS_ok _ _ h1 h0 hk]
  simp only [Option.bind_some]
  by_cases h : k < s.1.length
  · rw [if_pos h, brk_pos (by decide)]; exact ⟨-1, rfl, by omega, fun h => absurd h (by decide)⟩
  · rw [if_neg h, brk_nneg (by omega), szByteS_ok _ _ h2 (by omega) (by omega)]
    simp only [Option.bind_some]
    by_cases h' : k - s.1.length < s.2.1.length
    · rw [if_pos h', brk_pos (by decide)]; exact ⟨-1, rfl, by omega, fun h => absurd h (by decide)⟩
    · rw [if_neg h', brk_nneg (by omega)]; exact ⟨_, rfl, by omega, fun _ => by omega⟩
theorem toSlots_ok (s : tSlots.D) (h1 : s.1.length ≤ 1048576) (h2 : s.2.1.length ≤ 1048576) : laws_toSlots_F (s, ()) = some ((s, ()), ((), ())) := by
  rw [laws_toSlots_main, toByteS_ok _ h1]
  simp only [Option.bind_some]
  rw [toByteS_ok _ h2]; rfl
theorem eqSlots_ok (s t : tSlots.D) (h1 : s.1.length ≤ big47) (h2 : s.2.1.length ≤ big47) : laws_eqSlots_F (s, (t, ())) = some ((decide (s.1 = t.1 ∧ s.2.1 = t.2.1), ()), ((), ((), ()))) := by
  rw [laws_eqSlots_main, eqByteS_ok _ _ h1]
  simp only [Option.bind_some]
  by_cases h : s.1 = t.1
  · rw [decide_eq_true h, Bool.not_true, brk_false, eqByteS_ok _ _ h2]
    simp only [Option.bind_some]
    by_cases h' : s.2.1 = t.2.1
    · rw [decide_eq_true h', Bool.not_true, brk_false, decide_eq_true ⟨h, h'⟩]
    · rw [decide_eq_false h', Bool.not_false, brk_true, decide_eq_false (fun hh => h' hh.2)]
  · rw [decide_eq_false h, Bool.not_false, brk_true, decide_eq_false (fun hh => h hh.1)]
def markedS (k : Int) (s : tSlots.D) : tSlots.D := (marks (IntKind.u8.wrap ·) k s.1.length, (marks (IntKind.u8.wrap ·) (k + s.1.length) s.2.1.length, ()))
theorem markSlots_ok (s : tSlots.D) (k : Int) (h1 : s.1.length ≤ 1048576) (h2 : s.2.1.length ≤ 1048576) (h0 : 0 ≤ k) (hk : k ≤ 562949953421312) : laws_markSlots_F (s, (k, ())) = some ((k + s.1.length + s.2.1.length, ()), (markedS k s, ((), ()))) := by
  rw [laws_markSlots_main, markByteS_ok _ _ (by omega) (by rw [big47_eq]; omega) h0 (by omega)]
  simp only [Option.bind_some]
  rw [markByteS_ok _ _ (by omega) (by rw [big47_eq]; omega) (by omega) (by omega)]
  rfl
theorem toBoolS_ok (xs : List Bool) (hb : xs.length ≤ 1048576) : laws_toBoolS_F (xs, ()) = some ((xs, ()), ((), ())) := by
  rw [laws_toBoolS_main, ck_pos (by simp; omega)]
  obtain ⟨n, v, hh, rfl⟩ := for_loop (σ := List Bool) (G := fun n i z => iterG laws_toBoolS_t0 laws_toBoolS_B0 (laws_toBoolS_K0 xs) n ((xs, ((i : Int), ())), (z, ()))) xs.length (fun i z => z.length = xs.length ∧ z.take i = xs.take i) (· = some ((xs, ()), ((), ())))
    (fun i z hi ⟨h1, h2⟩ => by
      refine .inr ⟨z.set i xs[i], ⟨by simpa using h1, take_set_next h1 hi h2⟩, fun n => ?_⟩
      simp only
      rw [laws_toBoolS_r0, brk_lt hi, ck_idx hi, ck_idx (by omega), step_nat i (by omega), rdD_nat, Int.toNat_natCast, getD_at hi])
    (fun z ⟨h1, h2⟩ => ⟨_, rfl, fun n => by
      simp only
      rw [laws_toBoolS_r0, brk_nlt (by omega), laws_toBoolS_e0_0]
      rw [show z = xs by rw [← List.take_length (l := z), h1, h2, List.take_length]]⟩) (List.replicate (xs.length : Int).toNat tB.zero) ⟨by simp, by simp⟩
  exact laws_toBoolS_l0 n hh ⟨_, rfl⟩
theorem eqBoolS_self (xs : List Bool) (hb : xs.length ≤ big47) : laws_eqBoolS_F (xs, (xs, ())) = some ((true, ()), ((), ((), ()))) := by
  rw [big47_eq] at hb
  rw [laws_eqBoolS_main, brk_neg (by rw [decide_eq_true rfl]; rfl)]
  obtain ⟨n, v, hh, rfl⟩ := for_loop (σ := Unit) (G := fun n i z => iterG laws_eqBoolS_t0 laws_eqBoolS_B0 (laws_eqBoolS_K0 xs xs) n ((xs, (xs, ((i : Int), ()))), ())) xs.length (fun i z => True) (· = some ((true, ()), ((), ((), ()))))
    (fun i z hi _ => by
      refine .inr ⟨(), trivial, fun n => ?_⟩
      simp only
      rw [laws_eqBoolS_r0, brk_lt hi, ck_idx hi, ck_idx hi, beq_self_eq_true, Bool.not_true, brk_false, step_nat i (by omega)])
    (fun z _ => ⟨_, rfl, fun n => by
      simp only
      rw [laws_eqBoolS_r0, brk_nlt (by omega), laws_eqBoolS_e0_1]⟩) () trivial
  exact laws_eqBoolS_l0 n hh ⟨_, rfl⟩
theorem szBoolS_ok (xs : List Bool) (n : Int) (hb : xs.length ≤ big47) (h0 : 0 ≤ n) (hn : n ≤ 1048576) : laws_szBoolS_F (xs, (n, ())) = some ((if n < xs.length then -1 else n - xs.length, ()), ((), ((), ()))) := by
  rw [big47_eq] at hb
  rw [laws_szBoolS_main, wrap64 (by omega) (by omega)]
  by_cases h : n < xs.length
  · rw [if_pos h, brk_pos (decide_eq_true (by omega))]
  · rw [if_neg h, brk_neg (decide_eq_false (by omega))]
def imageB (xs : List Int) : Bool := decide (xs.length = 8) && xs.all fun x => decide (0 ≤ x ∧ x ≤ 200)
def cellsB (xs : List Int) : Bool := xs.all fun x => decide (0 ≤ x ∧ x ≤ 200)
theorem cellsB_iff {xs : List Int} : cellsB xs = true ↔ ∀ i, i < xs.length → 0 ≤ xs.getD i 0 ∧ xs.getD i 0 ≤ 200 := by
  unfold cellsB
  rw [List.all_eq_true]
  constructor
  · intro h i hi
    rw [getD_at hi]; exact of_decide_eq_true (h _ (List.getElem_mem hi))
  · intro h x hx
    obtain ⟨i, hi, rfl⟩ := List.mem_iff_getElem.1 hx
    rw [← getD_at (d := 0) hi]; exact decide_eq_true (h i hi)
theorem cellsB_no {xs : List Int} {i : Nat} (hi : i < xs.length) (h : ¬ (0 ≤ xs.getD i 0 ∧ xs.getD i 0 ≤ 200)) : cellsB xs = false := by
  cases hb : cellsB xs with
  | false => rfl
  | true => exact absurd (cellsB_iff.1 hb i hi) h
theorem imageB_eq (xs : List Int) : imageB xs = (decide (xs.length = 8) && cellsB xs) := rfl
theorem spec_ImageOk_ok (xs : List Int) (hb : xs.length ≤ big47) : spec_ImageOk_F (xs, ()) = some ((imageB xs, ()), ((), ())) := by
  rw [big47_eq] at hb
  rw [spec_ImageOk_main]
  obtain ⟨n, v, hh, rfl⟩ := for_loop (σ := Unit) (G := fun n i _ => iterG spec_ImageOk_t0 spec_ImageOk_B0 (spec_ImageOk_K0 xs) n ((xs, ((i : Int), ())), ())) xs.length (fun i _ => ∀ j, j < i → 0 ≤ xs.getD j 0 ∧ xs.getD j 0 ≤ 200) (· = some ((imageB xs, ()), ((), ())))
    (fun i _ hi hI => by
      by_cases h1 : 0 ≤ xs.getD i 0 ∧ xs.getD i 0 ≤ 200
      · refine .inr ⟨(), fun j hj => ?_, fun n => ?_⟩
        · rcases Nat.lt_succ_iff_lt_or_eq.1 hj with h | rfl
          · exact hI j h
          · exact h1
        · dsimp only
          rw [spec_ImageOk_r0, brk_lt hi, ck_idx hi, rdD_nat, show tI.zero = (0 : Int) from rfl, spec_l1In_ok', decide_eq_true h1]
          simp only [Option.bind_some, Bool.not_true, brk_false, step_nat i (by omega)]
      · refine .inl ⟨_, rfl, fun n => ?_⟩
        dsimp only
        rw [spec_ImageOk_r0, brk_lt hi, ck_idx hi, rdD_nat, show tI.zero = (0 : Int) from rfl, spec_l1In_ok', decide_eq_false h1]
        simp only [Option.bind_some, Bool.not_false, brk_true]
        rw [spec_ImageOk_e0_0, imageB_eq, cellsB_no hi h1, Bool.and_false])
    (fun _ hI => ⟨_, rfl, fun n => by
      dsimp only
      rw [spec_ImageOk_r0, brk_nlt (by omega), spec_ImageOk_e0_1, imageB_eq, cellsB_iff.2 hI, Bool.and_true]
      simp only [show ((xs.length : Int) = 8) = (xs.length = 8) from propext (by omega)]⟩) () (fun j hj => by omega)
  exact spec_ImageOk_l0 n hh ⟨_, rfl⟩
theorem impl_ImageOk_1_ok (x : Int) : impl_ImageOk_1_F (x, ()) = some ((!decide (0 ≤ x ∧ x ≤ 200), ()), ((), ())) := by
  rw [impl_ImageOk_1_main, impl_from_ok]; rfl
theorem IndexFuncO_ok (xs : List Int) (hb : xs.length ≤ big47) : ∃ r : Int, slices_IndexFunc_intO_F (xs, ((), ())) = some ((r, ()), ((), ((), ()))) ∧ decide (0 ≤ r) = !cellsB xs := by
  rw [big47_eq] at hb
  rw [slices_IndexFunc_intO_main]
  obtain ⟨n, v, hh, r, rfl, hr⟩ := for_loop (σ := Unit) (G := fun n i _ => iterG slices_IndexFunc_intO_t0 slices_IndexFunc_intO_B0 (slices_IndexFunc_intO_K0 xs ()) n ((xs, ((xs.length : Int), ((i : Int), ()))), ())) xs.length (fun i _ => ∀ j, j < i → 0 ≤ xs.getD j 0 ∧ xs.getD j 0 ≤ 200) (fun v => ∃ r : Int, v = some ((r, ()), ((), ((), ()))) ∧ decide (0 ≤ r) = !cellsB xs)
    (fun i _ hi hI => by
      by_cases h1 : 0 ≤ xs.getD i 0 ∧ xs.getD i 0 ≤ 200
      · refine .inr ⟨(), fun j hj => ?_, fun n => ?_⟩
        · rcases Nat.lt_succ_iff_lt_or_eq.1 hj with h | rfl
          · exact hI j h
          · exact h1
        · dsimp only
          rw [slices_IndexFunc_intO_r0, brk_lt hi, ck_idx hi, rdD_nat, show tI.zero = (0 : Int) from rfl, impl_ImageOk_1_ok, decide_eq_true h1]
          simp only [Option.bind_some, Bool.not_true, brk_false, step_nat i (by omega)]
      · refine .inl ⟨_, ⟨(i : Int), rfl, by rw [cellsB_no hi h1]; simp⟩, fun n => ?_⟩
        dsimp only
        rw [slices_IndexFunc_intO_r0, brk_lt hi, ck_idx hi, rdD_nat, show tI.zero = (0 : Int) from rfl, impl_ImageOk_1_ok, decide_eq_false h1]
        simp only [Option.bind_some, Bool.not_false, brk_true]
        rw [slices_IndexFunc_intO_e0_0])
    (fun _ hI => ⟨_, ⟨-1, rfl, by rw [cellsB_iff.2 hI]; rfl⟩, fun n => by
      dsimp only
      rw [slices_IndexFunc_intO_r0, brk_nlt (by omega), slices_IndexFunc_intO_e0_1]⟩) () (fun j hj => by omega)
  exact ⟨r, slices_IndexFunc_intO_l0 n hh ⟨_, rfl⟩, hr⟩
theorem impl_ImageOk_ok (xs : List Int) (hb : xs.length ≤ big47) : impl_ImageOk_F (xs, ()) = some ((imageB xs, ()), ((), ())) := by
  obtain ⟨r, h1, h2⟩ := IndexFuncO_ok xs hb
  rw [impl_ImageOk_main, slices_ContainsFunc_int_main, h1]
  simp only [Option.bind_some, h2, Bool.not_not]
  rw [imageB_eq]
  by_cases h : xs.length = 8
  · rw [brk_pos (decide_eq_true (by omega)), decide_eq_true h, Bool.true_and]
  · rw [brk_neg (decide_eq_false (by omega)), decide_eq_false h, Bool.false_and]
/-- What a node hears and copies of the one at i. -/
def linkB (id : Int) (up : Bool) (conn : List Bool) (sync : List (List Int)) (cop : List Bool) (i : Nat) : Bool :=
  (!(conn.getD i false) || (up && !decide ((i : Int) = id))) && (!(cop.getD i false) || conn.getD i false) && (!decide (0 < (sync.getD i []).length) || cop.getD i false)
def linksB (id : Int) (up : Bool) (conn : List Bool) (sync : List (List Int)) (cop : List Bool) : Bool := (List.range 3).all (linkB id up conn sync cop)
theorem linksB_iff {id : Int} {up : Bool} {conn : List Bool} {sync : List (List Int)} {cop : List Bool} : linksB id up conn sync cop = true ↔ ∀ i, i < 3 → linkB id up conn sync cop i = true := by
  simp [linksB]
theorem linksB_no {id : Int} {up : Bool} {conn : List Bool} {sync : List (List Int)} {cop : List Bool} {i : Nat} (hi : i < 3) (h : linkB id up conn sync cop i = false) : linksB id up conn sync cop = false := by
  cases hb : linksB id up conn sync cop with
  | false => rfl
  | true => rw [linksB_iff.1 hb i hi] at h; cases h
/-- Is the number at i a write, and above the one before? -/
def WtP (xs : List Int) (i : Nat) : Prop := (1 ≤ xs.getD i 0 ∧ xs.getD i 0 ≤ 200) ∧ (0 < i → xs.getD (i - 1) 0 < xs.getD i 0)
instance instWtP (xs : List Int) (i : Nat) : Decidable (WtP xs i) := by unfold WtP; infer_instance
def waitB (xs : List Int) : Bool := (List.range xs.length).all fun i => @decide (WtP xs i) (instWtP xs i)
theorem waitB_iff {xs : List Int} : waitB xs = true ↔ ∀ i, i < xs.length → WtP xs i := by
  simp [waitB]
theorem waitB_no {xs : List Int} {i : Nat} (hi : i < xs.length) (h : ¬ WtP xs i) : waitB xs = false := by
  cases hb : waitB xs with
  | false => rfl
  | true => exact absurd (waitB_iff.1 hb i hi) h
theorem impl_link_round {R : Type} (K : Ex → AS → Option R) (n i : Nat) (hi : i < 3) (id : Int) (up pr : Bool) (im g : List Int) (l : List (List Int)) (f o h : Bool) (a : Int) (sa sb : List Int) (conn : List Bool) (sync : List (List Int)) (cop : List Bool) (wt : List Int)
    (h1 : conn.length = 3) (h2 : sync.length = 3) (h3 : cop.length = 3) :
    iterG impl_NodeOk_t0 impl_NodeOk_B0 K (n + 1) (((i : Int), ()), ((id, (up, (pr, (im, (g, (l, (f, (o, (h, (a, (sa, (sb, (conn, (sync, (cop, (wt, ())))))))))))))))), ())) =
      brk (linkB id up conn sync cop i) (iterG impl_NodeOk_t0 impl_NodeOk_B0 K n ((((i + 1 : Nat) : Int), ()), ((id, (up, (pr, (im, (g, (l, (f, (o, (h, (a, (sa, (sb, (conn, (sync, (cop, (wt, ())))))))))))))))), ())))
        (K .ret (impl_NodeOk_x0_0 false id up pr im g l f o h a sa sb conn sync cop wt)) := by
  rw [impl_NodeOk_r0, brk_pos (decide_eq_true (by omega))]
  unfold linkB
  simp only [ck_idx (show i < conn.length by omega), ck_idx (show i < sync.length by omega), ck_idx (show i < cop.length by omega), rdD_nat, step_nat i (by omega), c0, show tB.zero = false from rfl, show tIs.zero = ([] : List Int) from rfl]
  generalize iterG impl_NodeOk_t0 impl_NodeOk_B0 K n _ = X
  generalize K .ret _ = Y
  generalize conn.getD i false = c
  generalize cop.getD i false = d
  generalize (sync.getD i []).length = s
  cases up <;> cases c <;> cases d <;> by_cases hs : 0 < s <;> by_cases hid : (i : Int) = id <;> simp [hs, hid, brk]
theorem impl_wait_loop (x0 : tNode.D) (id : Int) (up pr : Bool) (im g : List Int) (l : List (List Int)) (f o h : Bool) (a : Int) (sa sb : List Int) (conn : List Bool) (sync : List (List Int)) (cop : List Bool) (xs : List Int) (hb : xs.length ≤ big47) :
    loopG impl_NodeOk_t2 impl_NodeOk_B2 (impl_NodeOk_K2 x0) ((xs, ((xs.length : Int), ((0 : Int), ()))), ((id, (up, (pr, (im, (g, (l, (f, (o, (h, (a, (sa, (sb, (conn, (sync, (cop, (xs, ())))))))))))))))), ())) = some ((waitB xs, ()), ((), ())) := by
  rw [big47_eq] at hb
  obtain ⟨n, v, hh, rfl⟩ := for_loop (σ := Unit) (G := fun n i _ => iterG impl_NodeOk_t2 impl_NodeOk_B2 (impl_NodeOk_K2 x0) n ((xs, ((xs.length : Int), ((i : Int), ()))), ((id, (up, (pr, (im, (g, (l, (f, (o, (h, (a, (sa, (sb, (conn, (sync, (cop, (xs, ())))))))))))))))), ()))) xs.length (fun i _ => ∀ j, j < i → WtP xs j) (· = some ((waitB xs, ()), ((), ())))
    (fun i _ hi hI => by
      by_cases h1 : 1 ≤ xs.getD i 0 ∧ xs.getD i 0 ≤ 200
      · by_cases h0 : 0 < i
        · by_cases h2 : xs.getD (i - 1) 0 < xs.getD i 0
          · refine .inr ⟨(), fun j hj => ?_, fun n => ?_⟩
            · rcases Nat.lt_succ_iff_lt_or_eq.1 hj with h | rfl
              · exact hI j h
              · exact ⟨h1, fun _ => h2⟩
            · dsimp only; rw [impl_NodeOk_r2, brk_lt hi, ck_idx hi]; simp only [impl_isWrite_z, Option.bind_some, rdD_nat, Ty.zero, h1, and_self, decide_true, Bool.not_true, brk_false, pred_nat h0 (by omega : i ≤ _), step_nat i (by omega)]
              rw [brk_pos (decide_eq_true (by omega)), ck_idx (by omega), brk_neg (decide_eq_false (Int.not_le.2 h2))]
          · refine .inl ⟨_, rfl, fun n => ?_⟩
            dsimp only; rw [impl_NodeOk_r2, brk_lt hi, ck_idx hi]; simp only [impl_isWrite_z, Option.bind_some, rdD_nat, Ty.zero, h1, and_self, decide_true, Bool.not_true, brk_false, pred_nat h0 (by omega : i ≤ _), step_nat i (by omega)]
            rw [brk_pos (decide_eq_true (by omega)), ck_idx (by omega), brk_pos (decide_eq_true (Int.not_lt.1 h2)), impl_NodeOk_e2_0, waitB_no hi fun h => h2 (h.2 h0)]
        · refine .inr ⟨(), fun j hj => ?_, fun n => ?_⟩
          · rcases Nat.lt_succ_iff_lt_or_eq.1 hj with h | rfl
            · exact hI j h
            · exact ⟨h1, fun h => absurd h h0⟩
          · dsimp only; rw [impl_NodeOk_r2, brk_lt hi, ck_idx hi]; simp only [impl_isWrite_z, Option.bind_some, rdD_nat, Ty.zero, h1, and_self, decide_true, Bool.not_true, brk_false, step_nat i (by omega)]
            rw [brk_neg (decide_eq_false (by omega))]
      · refine .inl ⟨_, rfl, fun n => ?_⟩
        dsimp only; rw [impl_NodeOk_r2, brk_lt hi, ck_idx hi]; simp only [impl_isWrite_z, Option.bind_some, rdD_nat, Ty.zero, h1, decide_false, Bool.not_false, brk_true]
        rw [impl_NodeOk_e2_0, waitB_no hi fun h => h1 h.1])
    (fun _ hI => ⟨_, rfl, fun n => by
      dsimp only
      rw [impl_NodeOk_r2, brk_nlt (by omega), impl_NodeOk_e2_1, waitB_iff.2 hI]⟩) () (fun j hj => by omega)
  exact impl_NodeOk_l2 n hh ⟨_, rfl⟩
theorem impl_link_loop (x0 : tNode.D) (id : Int) (up pr : Bool) (im g : List Int) (l : List (List Int)) (f o h : Bool) (a : Int) (sa sb : List Int) (conn : List Bool) (sync : List (List Int)) (cop : List Bool) (xs : List Int) (hb : xs.length ≤ big47)
    (h1 : conn.length = 3) (h2 : sync.length = 3) (h3 : cop.length = 3) :
    loopG impl_NodeOk_t0 impl_NodeOk_B0 (impl_NodeOk_K0 x0) (((0 : Int), ()), ((id, (up, (pr, (im, (g, (l, (f, (o, (h, (a, (sa, (sb, (conn, (sync, (cop, (xs, ())))))))))))))))), ())) = some ((linksB id up conn sync cop && waitB xs, ()), ((), ())) := by
  obtain ⟨n, v, hh, rfl⟩ := for_loop (σ := Unit) (G := fun n i _ => iterG impl_NodeOk_t0 impl_NodeOk_B0 (impl_NodeOk_K0 x0) n (((i : Int), ()), ((id, (up, (pr, (im, (g, (l, (f, (o, (h, (a, (sa, (sb, (conn, (sync, (cop, (xs, ())))))))))))))))), ()))) 3 (fun i _ => ∀ j, j < i → linkB id up conn sync cop j = true) (· = some ((linksB id up conn sync cop && waitB xs, ()), ((), ())))
    (fun i _ hi hI => by
      cases hl : linkB id up conn sync cop i with
      | true =>
        refine .inr ⟨(), fun j hj => ?_, fun n => ?_⟩
        · rcases Nat.lt_succ_iff_lt_or_eq.1 hj with h | rfl
          · exact hI j h
          · exact hl
        · dsimp only
          rw [impl_link_round _ _ _ hi _ _ _ _ _ _ _ _ _ _ _ _ _ _ _ _ h1 h2 h3, hl, brk_true]
      | false =>
        refine .inl ⟨_, rfl, fun n => ?_⟩
        dsimp only
        rw [impl_link_round _ _ _ hi _ _ _ _ _ _ _ _ _ _ _ _ _ _ _ _ h1 h2 h3, hl, brk_false, impl_NodeOk_e0_0, linksB_no hi hl, Bool.false_and])
    (fun _ hI => ⟨_, rfl, fun n => by
      dsimp only
      rw [impl_NodeOk_r0, brk_neg (by decide), impl_NodeOk_e0_1, impl_wait_loop _ _ _ _ _ _ _ _ _ _ _ _ _ _ _ _ _ hb, linksB_iff.2 hI, Bool.true_and]⟩) () (fun j hj => by omega)
  exact impl_NodeOk_l0 n hh ⟨_, rfl⟩
theorem spec_link_round {R : Type} (K : Ex → AS → Option R) (n i : Nat) (hi : i < 3) (id : Int) (up pr : Bool) (im g : List Int) (l : List (List Int)) (f o h : Bool) (a : Int) (sa sb : List Int) (conn : List Bool) (sync : List (List Int)) (cop : List Bool) (wt : List Int)
    (h1 : conn.length = 3) (h2 : sync.length = 3) (h3 : cop.length = 3) (hr : ∀ r ∈ sync, r.length ≤ big47) :
    iterG spec_l8Links_t0 spec_l8Links_B0 K (n + 1) (((i : Int), ()), ((id, (up, (pr, (im, (g, (l, (f, (o, (h, (a, (sa, (sb, (conn, (sync, (cop, (wt, ())))))))))))))))), ())) =
      brk (marksB (sync.getD i []) && linkB id up conn sync cop i) (iterG spec_l8Links_t0 spec_l8Links_B0 K n ((((i + 1 : Nat) : Int), ()), ((id, (up, (pr, (im, (g, (l, (f, (o, (h, (a, (sa, (sb, (conn, (sync, (cop, (wt, ())))))))))))))))), ())))
        (K .ret (spec_l8Links_x0_0 false)) := by
  rw [spec_l8Links_r0, brk_pos (decide_eq_true (by omega))]
  unfold linkB
  simp only [ck_idx (show i < conn.length by omega), ck_idx (show i < sync.length by omega), ck_idx (show i < cop.length by omega), rdD_nat, step_nat i (by omega), c0, show tB.zero = false from rfl, show tIs.zero = ([] : List Int) from rfl]
  rw [spec_MarksOk_ok _ (row_le hr (by omega))]
  simp only [Option.bind_some]
  generalize iterG spec_l8Links_t0 spec_l8Links_B0 K n _ = X
  generalize K .ret _ = Y
  generalize conn.getD i false = c
  generalize cop.getD i false = d
  generalize marksB (sync.getD i []) = mk
  generalize (sync.getD i []).length = s
  cases mk <;> cases up <;> cases c <;> cases d <;> by_cases hs : 0 < s <;> by_cases hid : (i : Int) = id <;> simp [hs, hid, brk]
theorem spec_links_ok (x : tNode.D) (h1 : x.2.2.2.2.2.2.1.length ≤ big47) (h2 : x.2.2.2.2.2.2.2.1.length ≤ big47) (h3 : x.2.2.2.2.2.2.2.2.1.length ≤ big47) (hr : ∀ r ∈ x.2.2.2.2.2.2.2.1, r.length ≤ big47) :
    spec_l8Links_F (x, ()) = some ((decide (x.2.2.2.2.2.2.1.length = 3) && decide (x.2.2.2.2.2.2.2.1.length = 3) && decide (x.2.2.2.2.2.2.2.2.1.length = 3) && bitsB x.2.2.2.2.2.2.2.1 && linksB x.1 x.2.1 x.2.2.2.2.2.2.1 x.2.2.2.2.2.2.2.1 x.2.2.2.2.2.2.2.2.1, ()), ((), ())) := by
  obtain ⟨id, up, pr, im, ⟨g, l, f, o, h, a, u⟩, ⟨sa, sb, u'⟩, conn, sync, cop, wt, u''⟩ := x
  rw [spec_l8Links_main]
  simp only at h1 h2 h3 hr ⊢
  by_cases c1 : conn.length = 3
  · rw [brk_neg (by rw [decide_eq_true (by omega)]; rfl), decide_eq_true c1, Bool.true_and]
    by_cases c2 : sync.length = 3
    · rw [brk_neg (by rw [decide_eq_true (by omega)]; rfl), decide_eq_true c2, Bool.true_and]
      by_cases c3 : cop.length = 3
      · rw [brk_neg (by rw [decide_eq_true (by omega)]; rfl), decide_eq_true c3, Bool.true_and]
        obtain ⟨n, v, hh, rfl⟩ := for_loop (σ := Unit) (G := fun n i _ => iterG spec_l8Links_t0 spec_l8Links_B0 (spec_l8Links_K0 (id, (up, (pr, (im, ((g, (l, (f, (o, (h, (a, u)))))), ((sa, (sb, u')), (conn, (sync, (cop, (wt, u'')))))))))))  n (((i : Int), ()), ((id, (up, (pr, (im, (g, (l, (f, (o, (h, (a, (sa, (sb, (conn, (sync, (cop, (wt, ())))))))))))))))), ()))) 3 (fun i _ => ∀ j, j < i → marksB (sync.getD j []) = true ∧ linkB id up conn sync cop j = true) (· = some ((bitsB sync && linksB id up conn sync cop, ()), ((), ())))
          (fun i _ hi hI => by
            cases hm : marksB (sync.getD i []) with
            | true =>
              cases hl : linkB id up conn sync cop i with
              | true =>
                refine .inr ⟨(), fun j hj => ?_, fun n => ?_⟩
                · rcases Nat.lt_succ_iff_lt_or_eq.1 hj with h | rfl
                  · exact hI j h
                  · exact ⟨hm, hl⟩
                · dsimp only
                  rw [spec_link_round _ _ _ hi _ _ _ _ _ _ _ _ _ _ _ _ _ _ _ _ c1 c2 c3 hr, hl, hm, Bool.and_true, brk_true]
              | false =>
                refine .inl ⟨_, rfl, fun n => ?_⟩
                dsimp only
                rw [spec_link_round _ _ _ hi _ _ _ _ _ _ _ _ _ _ _ _ _ _ _ _ c1 c2 c3 hr, hl, Bool.and_false, brk_false, spec_l8Links_e0_0, linksB_no hi hl, Bool.and_false]
            | false =>
              refine .inl ⟨_, rfl, fun n => ?_⟩
              dsimp only
              rw [spec_link_round _ _ _ hi _ _ _ _ _ _ _ _ _ _ _ _ _ _ _ _ c1 c2 c3 hr, hm, Bool.false_and, brk_false, spec_l8Links_e0_0, bitsB_no (by omega) hm, Bool.false_and])
          (fun _ hI => ⟨_, rfl, fun n => by
            dsimp only
            rw [spec_l8Links_r0, brk_neg (by decide), spec_l8Links_e0_1, linksB_iff.2 fun i hi => (hI i hi).2, bitsB_iff.2 fun i hi => (hI i (by omega)).1]; rfl⟩) () (fun j hj => by omega)
        exact spec_l8Links_l0 n hh ⟨_, rfl⟩
      · rw [brk_pos (by rw [decide_eq_false (by omega)]; rfl), decide_eq_false c3]; rfl
    · rw [brk_pos (by rw [decide_eq_false (by omega)]; rfl), decide_eq_false c2]; rfl
  · rw [brk_pos (by rw [decide_eq_false (by omega)]; rfl), decide_eq_false c1]; rfl
noncomputable def nodeOkB (x : tNode.D) : Bool :=
  decide (0 ≤ x.1 ∧ x.1 ≤ 2) && (imageB x.2.2.2.1 && (metaOkB x.2.2.2.2.1.1 x.2.2.2.2.1.2.1 x.2.2.2.2.1.2.2.2.1 x.2.2.2.2.1.2.2.2.2.1 x.2.2.2.2.1.2.2.2.2.2.1 && (decide (x.2.2.2.2.2.2.1.length = 3) && (decide (x.2.2.2.2.2.2.2.1.length = 3) && (bitsB x.2.2.2.2.2.2.2.1 && (decide (x.2.2.2.2.2.2.2.2.1.length = 3) &&
    (linksB x.1 x.2.1 x.2.2.2.2.2.2.1 x.2.2.2.2.2.2.2.1 x.2.2.2.2.2.2.2.2.1 && (!(x.2.2.1 && (!x.2.1 || decide (x.1 = 2))) && (!(!x.2.1 && decide (0 < x.2.2.2.2.2.2.2.2.2.1.length)) && (waitB x.2.2.2.2.2.2.2.2.2.1 && ((slotGetP x.2.2.2.2.2.1).2.2 && metaEqB (slotGetP x.2.2.2.2.2.1).1 x.2.2.2.2.1)))))))))))
structure NodeBig (x : tNode.D) : Prop where
  im : x.2.2.2.1.length ≤ big47
  g : x.2.2.2.2.1.1.length ≤ big47
  l : x.2.2.2.2.1.2.1.length ≤ big47
  lr : ∀ r ∈ x.2.2.2.2.1.2.1, r.length ≤ big47
  sa : Byte x.2.2.2.2.2.1.1
  sb : Byte x.2.2.2.2.2.1.2.1
  sal : x.2.2.2.2.2.1.1.length ≤ big47
  sbl : x.2.2.2.2.2.1.2.1.length ≤ big47
  cn : x.2.2.2.2.2.2.1.length ≤ big47
  sy : x.2.2.2.2.2.2.2.1.length ≤ big47
  syr : ∀ r ∈ x.2.2.2.2.2.2.2.1, r.length ≤ big47
  cp : x.2.2.2.2.2.2.2.2.1.length ≤ big47
  wt : x.2.2.2.2.2.2.2.2.2.1.length ≤ big47
theorem impl_NodeOk_ok (x : tNode.D) (h : NodeBig x) : impl_NodeOk_F (x, ()) = some ((nodeOkB x, ()), ((), ())) := by
  obtain ⟨b1, b2, b3, b4, b5, b6, b7, b8, b9, b10, b11, b12, b13⟩ := h
  obtain ⟨id, up, pr, im, ⟨g, l, f, o, hh, a, u⟩, ⟨sa, sb, u'⟩, conn, sync, cop, wt, u''⟩ := x
  cases u
  cases u'
  cases u''
  simp only at b1 b2 b3 b4 b5 b6 b7 b8 b9 b10 b11 b12 b13
  have hS := impl_SlotGet_ok (sa, (sb, ())) b5 b6
  have hz := (slotGetP_sz (s := (sa, (sb, ()))) b5 b6).big
  unfold nodeOkB
  simp only
  generalize slotGetP (sa, (sb, ())) = q at hS hz ⊢
  obtain ⟨m, n, ok⟩ := q
  simp only at hS hz ⊢
  have hM := impl_SameMeta_ok m (g, (l, (f, (o, (hh, (a, ())))))) hz.1 hz.2.1 hz.2.2
  generalize metaEqB m (g, (l, (f, (o, (hh, (a, ())))))) = same at hM ⊢
  obtain ⟨mg, ml, mf, mo, mh, ma, mu⟩ := m
  cases mu
  rw [impl_NodeOk_main]
  simp only
  rw [impl_isNode_ok]
  simp only [Option.bind_some]
  by_cases e1 : 0 ≤ id ∧ id ≤ 2
  case neg => rw [decide_eq_false e1, Bool.not_false, brk_true, Bool.false_and]
  rw [decide_eq_true e1, Bool.not_true, brk_false, impl_ImageOk_ok _ b1, Bool.true_and]
  simp only [Option.bind_some]
  cases e2 : imageB im with
  | false => rw [Bool.not_false, brk_true, Bool.false_and]
  | true =>
  rw [Bool.not_true, brk_false, impl_MetaOk_ok _ _ _ _ _ _ b2 b3 b4, Bool.true_and]
  simp only [Option.bind_some]
  cases e3 : metaOkB g l o hh a with
  | false => rw [Bool.not_false, brk_true, Bool.false_and]
  | true =>
  rw [Bool.not_true, brk_false, Bool.true_and]
  by_cases c1 : conn.length = 3
  case neg => rw [brk_pos (by rw [decide_eq_false (by omega)]; rfl), decide_eq_false c1, Bool.false_and]
  rw [brk_neg (by rw [decide_eq_true (by omega)]; rfl), decide_eq_true c1, Bool.true_and, impl_marksAll_ok _ b10 b11]
  simp only [Option.bind_some]
  by_cases c2 : sync.length = 3
  case neg => rw [decide_eq_false c2, Bool.false_and, Bool.not_false, brk_true, Bool.false_and]
  rw [decide_eq_true c2, Bool.true_and, Bool.true_and]
  cases e4 : bitsB sync with
  | false => rw [Bool.not_false, brk_true, Bool.false_and]
  | true =>
  rw [Bool.not_true, brk_false, Bool.true_and]
  by_cases c3 : cop.length = 3
  case neg => rw [brk_pos (by rw [decide_eq_false (by omega)]; rfl), decide_eq_false c3, Bool.false_and]
  rw [brk_neg (by rw [decide_eq_true (by omega)]; rfl), decide_eq_true c3, Bool.true_and, hS]
  simp only [Option.bind_some]
  rw [hM]
  simp only [Option.bind_some]
  rw [impl_link_loop _ _ _ _ _ _ _ _ _ _ _ _ _ _ _ _ _ b13 c1 c2 c3]
  simp only [c0]
  generalize linksB id up conn sync cop = lk
  generalize waitB wt = wk
  generalize wt.length = wl
  cases pr <;> cases up <;> cases ok <;> cases same <;> by_cases hi : id = 2 <;> by_cases hw : 0 < wl <;> simp [hi, hw, brk]
theorem spec_wait_loop (x0 : tNode.D) (id : Int) (up pr : Bool) (im g : List Int) (l : List (List Int)) (f o h : Bool) (a : Int) (sa sb : List Int) (conn : List Bool) (sync : List (List Int)) (cop : List Bool) (xs : List Int) (hb : xs.length ≤ big47)
    (ok same : Bool) (he : ∀ y0, spec_NodeOk_K0 y0 (.exit 0) (spec_NodeOk_x0_1 id up pr im g l f o h a sa sb conn sync cop xs) = some ((ok && same, ()), ((), ()))) :
    loopG spec_NodeOk_t0 spec_NodeOk_B0 (spec_NodeOk_K0 x0) (((0 : Int), ()), ((id, (up, (pr, (im, (g, (l, (f, (o, (h, (a, (sa, (sb, (conn, (sync, (cop, (xs, ())))))))))))))))), ())) = some ((waitB xs && (ok && same), ()), ((), ())) := by
  rw [big47_eq] at hb
  obtain ⟨n, v, hh, rfl⟩ := for_loop (σ := Unit) (G := fun n i _ => iterG spec_NodeOk_t0 spec_NodeOk_B0 (spec_NodeOk_K0 x0) n (((i : Int), ()), ((id, (up, (pr, (im, (g, (l, (f, (o, (h, (a, (sa, (sb, (conn, (sync, (cop, (xs, ())))))))))))))))), ()))) xs.length (fun i _ => ∀ j, j < i → WtP xs j) (· = some ((waitB xs && (ok && same), ()), ((), ())))
    (fun i _ hi hI => by
      by_cases h1 : 1 ≤ xs.getD i 0 ∧ xs.getD i 0 ≤ 200
      · by_cases h0 : 0 < i
        · by_cases h2 : xs.getD (i - 1) 0 < xs.getD i 0
          · refine .inr ⟨(), fun j hj => ?_, fun n => ?_⟩
            · rcases Nat.lt_succ_iff_lt_or_eq.1 hj with h | rfl
              · exact hI j h
              · exact ⟨h1, fun _ => h2⟩
            · dsimp only; rw [spec_NodeOk_r0, brk_lt hi, ck_idx hi]; simp only [spec_l1In_z, Option.bind_some, rdD_nat, Ty.zero, h1, and_self, decide_true, Bool.not_true, brk_false, pred_nat h0 (by omega : i ≤ _), step_nat i (by omega)]
              rw [brk_pos (decide_eq_true (by omega)), ck_idx (by omega), ck_idx hi, brk_neg (decide_eq_false (Int.not_le.2 h2))]
          · refine .inl ⟨_, rfl, fun n => ?_⟩
            dsimp only; rw [spec_NodeOk_r0, brk_lt hi, ck_idx hi]; simp only [spec_l1In_z, Option.bind_some, rdD_nat, Ty.zero, h1, and_self, decide_true, Bool.not_true, brk_false, pred_nat h0 (by omega : i ≤ _), step_nat i (by omega)]
            rw [brk_pos (decide_eq_true (by omega)), ck_idx (by omega), ck_idx hi, brk_pos (decide_eq_true (Int.not_lt.1 h2)), spec_NodeOk_e0_0, waitB_no hi fun h => h2 (h.2 h0), Bool.false_and]
        · refine .inr ⟨(), fun j hj => ?_, fun n => ?_⟩
          · rcases Nat.lt_succ_iff_lt_or_eq.1 hj with h | rfl
            · exact hI j h
            · exact ⟨h1, fun h => absurd h h0⟩
          · dsimp only; rw [spec_NodeOk_r0, brk_lt hi, ck_idx hi]; simp only [spec_l1In_z, Option.bind_some, rdD_nat, Ty.zero, h1, and_self, decide_true, Bool.not_true, brk_false, step_nat i (by omega)]
            rw [brk_neg (decide_eq_false (by omega))]
      · refine .inl ⟨_, rfl, fun n => ?_⟩
        dsimp only; rw [spec_NodeOk_r0, brk_lt hi, ck_idx hi]; simp only [spec_l1In_z, Option.bind_some, rdD_nat, Ty.zero, h1, decide_false, Bool.not_false, brk_true]
        rw [spec_NodeOk_e0_0, waitB_no hi fun h => h1 h.1, Bool.false_and])
    (fun _ hI => ⟨_, rfl, fun n => by
      dsimp only
      rw [spec_NodeOk_r0, brk_nlt (by omega), he, waitB_iff.2 hI, Bool.true_and]⟩) () (fun j hj => by omega)
  exact spec_NodeOk_l0 n hh ⟨_, rfl⟩
theorem spec_NodeOk_ok (x : tNode.D) (h : NodeBig x) : spec_NodeOk_F (x, ()) = some ((nodeOkB x, ()), ((), ())) := by
  have hL := spec_links_ok x h.cn h.sy h.cp h.syr
  obtain ⟨b1, b2, b3, b4, b5, b6, b7, b8, b9, b10, b11, b12, b13⟩ := h
  obtain ⟨id, up, pr, im, ⟨g, l, f, o, hh, a, u⟩, ⟨sa, sb, u'⟩, conn, sync, cop, wt, u''⟩ := x
  cases u
  cases u'
  cases u''
  simp only at b1 b2 b3 b4 b5 b6 b7 b8 b9 b10 b11 b12 b13 hL
  have hS := spec_SlotGet_ok (sa, (sb, ())) b5 b6
  have hz := (slotGetP_sz (s := (sa, (sb, ()))) b5 b6).big
  unfold nodeOkB
  simp only
  generalize slotGetP (sa, (sb, ())) = q at hS hz ⊢
  obtain ⟨m, n, ok⟩ := q
  simp only at hS hz ⊢
  have hM := spec_SameMeta_ok m (g, (l, (f, (o, (hh, (a, ())))))) hz.1 hz.2.1 hz.2.2
  generalize metaEqB m (g, (l, (f, (o, (hh, (a, ())))))) = same at hM ⊢
  obtain ⟨mg, ml, mf, mo, mh, ma, mu⟩ := m
  cases mu
  have hT : ∀ y0, spec_NodeOk_K0 y0 (.exit 0) (spec_NodeOk_x0_1 id up pr im g l f o hh a sa sb conn sync cop wt) = some ((ok && same, ()), ((), ())) := fun y0 => by
    rw [spec_NodeOk_e0_1, hS]
    simp only [Option.bind_some]
    rw [hM]
    cases ok <;> rfl
  rw [spec_NodeOk_main]
  simp only
  rw [spec_l1In_ok']
  simp only [Option.bind_some]
  by_cases e1 : 0 ≤ id ∧ id ≤ 2
  case neg => rw [decide_eq_false e1, Bool.not_false, brk_true, Bool.false_and]
  rw [decide_eq_true e1, Bool.not_true, brk_false, spec_ImageOk_ok _ b1, Bool.true_and]
  simp only [Option.bind_some]
  cases e2 : imageB im with
  | false => rw [Bool.not_false, brk_true, Bool.false_and]
  | true =>
  rw [Bool.not_true, brk_false, spec_MetaOk_ok _ _ _ _ _ _ b2 b3 b4, Bool.true_and]
  simp only [Option.bind_some]
  cases e3 : metaOkB g l o hh a with
  | false => rw [Bool.not_false, brk_true, Bool.false_and]
  | true =>
  rw [Bool.not_true, brk_false, Bool.true_and, hL]
  simp only [Option.bind_some]
  rw [spec_wait_loop _ _ _ _ _ _ _ _ _ _ _ _ _ _ _ _ _ b13 ok same hT]
  simp only [c0]
  generalize linksB id up conn sync cop = lk
  generalize waitB wt = wk
  generalize wt.length = wl
  generalize bitsB sync = bk
  generalize decide (conn.length = 3) = c1
  generalize decide (sync.length = 3) = c2
  generalize decide (cop.length = 3) = c3
  cases c1
  · rfl
  cases c2
  · rfl
  cases c3
  · cases bk <;> rfl
  cases bk
  · rfl
  cases lk
  · rfl
  cases pr <;> cases up <;> by_cases hi : id = 2 <;> by_cases hw : 0 < wl <;> simp [hi, hw, brk]
structure NodeSz (x : tNode.D) : Prop where
  im : x.2.2.2.1.length ≤ 1048576
  m : SzMeta x.2.2.2.2.1
  sal : x.2.2.2.2.2.1.1.length ≤ 1048576
  sbl : x.2.2.2.2.2.1.2.1.length ≤ 1048576
  cn : x.2.2.2.2.2.2.1.length ≤ 1048576
  sy : x.2.2.2.2.2.2.2.1.length ≤ 1048576
  syr : ∀ r ∈ x.2.2.2.2.2.2.2.1, r.length ≤ 1048576
  cp : x.2.2.2.2.2.2.2.2.1.length ≤ 1048576
  wt : x.2.2.2.2.2.2.2.2.2.1.length ≤ 1048576
theorem nodeBig_of (x : tNode.D) (h : Ok tNode x) : NodeBig x := by
  obtain ⟨id, up, pr, im, ⟨g, l, f, o, hh, a, u⟩, ⟨sa, sb, u'⟩, conn, sync, cop, wt, u''⟩ := x
  obtain ⟨_, _, _, h4, ⟨h5, h6, _⟩, ⟨h7, h8, _⟩, h9, h10, h11, h12, _⟩ := h
  exact ⟨h4.1, h5.1, h6.1, fun r hr => (h6.2 r hr).1, fun x hx => h7.2 x hx, fun x hx => h8.2 x hx, h7.1, h8.1, h9.1, h10.1, fun r hr => (h10.2 r hr).1, h11.1, h12.1⟩
theorem szNode_ok (x : tNode.D) (k : Int) (hx : Ok tNode x) (h0 : 0 ≤ k) (hk : k ≤ 1048576) : ∃ r : Int, laws_szNode_F (x, (k, ())) = some ((r, ()), ((), ((), ()))) ∧ r ≤ k ∧ (0 ≤ r → NodeSz x) := by
  have hB := nodeBig_of x hx
  have hM : Ok tMeta x.2.2.2.2.1 := hx.2.2.2.2.1
  obtain ⟨id, up, pr, im, ⟨g, l, f, o, hh, a, u⟩, ⟨sa, sb, u'⟩, conn, sync, cop, wt, u''⟩ := x
  cases u
  cases u'
  cases u''
  obtain ⟨b1, b2, b3, b4, b5, b6, b7, b8, b9, b10, b11, b12, b13⟩ := hB
  simp only at b1 b2 b3 b4 b5 b6 b7 b8 b9 b10 b11 b12 b13 hM
  have neg1 : ∀ (r : Int), r = -1 → 0 ≤ r → NodeSz (id, (up, (pr, (im, ((g, (l, (f, (o, (hh, (a, ())))))), ((sa, (sb, ())), (conn, (sync, (cop, (wt, ())))))))))) := fun r e h => by omega
  rw [laws_szNode_main]
  simp only
  rw [szIntS_ok _ _ b1 h0 hk]
  simp only [Option.bind_some]
  by_cases c1 : k < im.length
  · rw [if_pos c1, brk_pos (by decide)]; exact ⟨-1, rfl, by omega, neg1 _ rfl⟩
  rw [if_neg c1, brk_nneg (by omega)]
  obtain ⟨r2, e2, l2, p2⟩ := szMeta_ok (g, (l, (f, (o, (hh, (a, ())))))) (k - im.length) hM (by omega) (by omega)
  rw [e2]
  simp only [Option.bind_some]
  by_cases c2 : r2 < 0
  · rw [brk_pos (decide_eq_true c2)]; exact ⟨-1, rfl, by omega, neg1 _ rfl⟩
  rw [brk_nneg (by omega)]
  obtain ⟨r3, e3, l3, p3⟩ := szSlots_ok (sa, (sb, ())) r2 b7 b8 (by omega) (by omega)
  rw [e3]
  simp only [Option.bind_some]
  by_cases c3 : r3 < 0
  · rw [brk_pos (decide_eq_true c3)]; exact ⟨-1, rfl, by omega, neg1 _ rfl⟩
  rw [brk_nneg (by omega), szBoolS_ok _ _ b9 (by omega) (by omega)]
  simp only [Option.bind_some]
  by_cases c4 : r3 < conn.length
  · rw [if_pos c4, brk_pos (by decide)]; exact ⟨-1, rfl, by omega, neg1 _ rfl⟩
  rw [if_neg c4, brk_nneg (by omega)]
  obtain ⟨r5, e5, l5, p5⟩ := szIntSS_ok sync (r3 - conn.length) b10 b11 (by omega) (by omega)
  rw [e5]
  simp only [Option.bind_some]
  by_cases c5 : r5 < 0
  · rw [brk_pos (decide_eq_true c5)]; exact ⟨-1, rfl, by omega, neg1 _ rfl⟩
  rw [brk_nneg (by omega), szBoolS_ok _ _ b12 (by omega) (by omega)]
  simp only [Option.bind_some]
  by_cases c6 : r5 < cop.length
  · rw [if_pos c6, brk_pos (by decide)]; exact ⟨-1, rfl, by omega, neg1 _ rfl⟩
  rw [if_neg c6, brk_nneg (by omega), szIntS_ok _ _ b13 (by omega) (by omega)]
  simp only [Option.bind_some]
  by_cases c7 : r5 - cop.length < wt.length
  · rw [if_pos c7, brk_pos (by decide)]; exact ⟨-1, rfl, by omega, neg1 _ rfl⟩
  rw [if_neg c7, brk_nneg (by omega)]
  exact ⟨_, rfl, by omega, fun _ => ⟨by show im.length ≤ _; omega, p2 (by omega), (p3 (by omega)).1, (p3 (by omega)).2, by show conn.length ≤ _; omega, (p5 (by omega)).1, (p5 (by omega)).2, by show cop.length ≤ _; omega, by show wt.length ≤ _; omega⟩⟩
theorem toNode_ok (x : tNode.D) (h : NodeSz x) : laws_toNode_F (x, ()) = some ((x, ()), ((), ())) := by
  obtain ⟨b1, b2, b3, b4, b5, b6, b7, b8, b9⟩ := h
  have hM := toMeta_ok x.2.2.2.2.1 b2
  have hS := toSlots_ok x.2.2.2.2.2.1 b3 b4
  obtain ⟨id, up, pr, im, ⟨g, l, f, o, hh, a, u⟩, ⟨sa, sb, u'⟩, conn, sync, cop, wt, u''⟩ := x
  cases u
  cases u'
  cases u''
  simp only at b1 b3 b4 b5 b6 b7 b8 b9 hM hS
  rw [laws_toNode_main]
  simp only
  rw [toIntS_ok _ b1]
  simp only [Option.bind_some]
  rw [hM]
  simp only [Option.bind_some]
  rw [hS]
  simp only [Option.bind_some]
  rw [toBoolS_ok _ b5]
  simp only [Option.bind_some]
  rw [toIntSS_ok _ b6 b7]
  simp only [Option.bind_some]
  rw [toBoolS_ok _ b8]
  simp only [Option.bind_some]
  rw [toIntS_ok _ b9]
  simp only [Option.bind_some]
theorem both_self {R : Type} (a : Option R) : both a a = a := by unfold both; rw [if_pos rfl]
theorem slices_Clone_byte_ok (xs : List Int) (hb : xs.length ≤ big47) : slices_Clone_byte_F (xs, ()) = some ((xs, ()), ((), ())) := by
  rw [slices_Clone_byte_main]
  have hc : ∀ a : Option (RsD [.own tYs] × PsO [.ro tYs]), ck (decide ((([] : List Int).length + xs.length) * 1 ≤ big47)) a = a := fun a => ck_pos (decide_eq_true (by simp only [List.length_nil]; omega)) a
  rw [hc]
  by_cases h : xs.length = 0
  · have : xs = [] := List.length_eq_zero_iff.1 h
    subst this
    rw [brk_pos (decide_eq_true h)]
    exact both_self _
  · rw [brk_neg (decide_eq_false h)]; rfl
theorem impl_copySlots_ok (s : tSlots.D) (h1 : s.1.length ≤ big47) (h2 : s.2.1.length ≤ big47) : impl_copySlots_F (s, ()) = some ((s, ()), ((), ())) := by
  rw [impl_copySlots_main, slices_Clone_byte_ok _ h1]
  simp only [Option.bind_some]
  rw [slices_Clone_byte_ok _ h2]
  rfl
theorem spec_l6Copy_ok (s : tSlots.D) (h1 : s.1.length ≤ big47) (h2 : s.2.1.length ≤ big47) : spec_l6Copy_F (s, ()) = some ((s, ()), ((), ())) := by
  rw [spec_l6Copy_main, both_self, both_self, ck_pos (decide_eq_true (by simp only [List.length_nil]; omega)), ck_pos (decide_eq_true (by simp only [List.length_nil]; omega))]
  rfl
theorem growB_ok (n : Int) (h0 : 0 ≤ n) (hn : n ≤ 1099511627776) : slices_Grow_byte_F (([] : List Int), (n, ())) = some ((([] : List Int), ()), ((), ((), ()))) := by
  show growF [] n = _
  unfold growF
  rw [if_pos ⟨h0, hn, by simp⟩]
theorem slices_Concat_byte_ok (a b : List Int) (ha : a.length ≤ 4194304) (hb : b.length ≤ 4194304) : slices_Concat_byte_F ([a, b], ()) = some ((a ++ b, ()), ((), ())) := by
  rw [slices_Concat_byte_main]
  have hi0 : (decide ((0 : Int) ≤ 0) && decide ((0 : Int) < (([a, b] : List (List Int)).length : Int))) = true := by simp
  have hi1 : (decide ((0 : Int) ≤ 1) && decide ((1 : Int) < (([a, b] : List (List Int)).length : Int))) = true := by simp
  have hl2 : iterG slices_Concat_byte_t2 slices_Concat_byte_B2 (slices_Concat_byte_K2 [a, b]) 3 (([a, b], ((2 : Int), ((0 : Int), ()))), (([] : List Int), ())) = some ((a ++ b, ()), ((), ())) := by
    rw [slices_Concat_byte_r2, brk_pos (by decide), ck_pos hi0, ck_pos (decide_eq_true (by show (([] : List Int).length + a.length) * 1 ≤ big47; rw [big47_eq, List.length_nil]; omega))]
    rw [show IntKind.i64.wrap ((0 : Int) + 1) = 1 from rfl, slices_Concat_byte_r2, brk_pos (by decide), ck_pos hi1, ck_pos (decide_eq_true (by show (([] ++ a : List Int).length + b.length) * 1 ≤ big47; rw [big47_eq, List.length_append, List.length_nil]; omega))]
    rw [show IntKind.i64.wrap ((1 : Int) + 1) = 2 from rfl, slices_Concat_byte_r2, brk_neg (by decide), slices_Concat_byte_e2_0]
    rfl
  have hl0 : iterG slices_Concat_byte_t0 slices_Concat_byte_B0 (slices_Concat_byte_K0 [a, b]) 3 (([a, b], ((0 : Int), ([a, b], ((2 : Int), ((0 : Int), ()))))), ()) = some ((a ++ b, ()), ((), ())) := by
    have e1 : IntKind.i64.wrap ((0 : Int) + ((rdD tYs [a, b] (0 : Int)).length : Int)) = (a.length : Int) := by
      rw [show rdD tYs [a, b] (0 : Int) = a from rfl, wrap64 (by omega) (by omega)]; omega
    have e2 : IntKind.i64.wrap ((a.length : Int) + ((rdD tYs [a, b] (1 : Int)).length : Int)) = (a.length : Int) + (b.length : Int) := by
      rw [show rdD tYs [a, b] (1 : Int) = b from rfl, wrap64 (by omega) (by omega)]
    rw [slices_Concat_byte_r0, brk_pos (by decide), ck_pos hi0, e1, brk_nneg (by omega), show IntKind.i64.wrap ((0 : Int) + 1) = 1 from rfl]
    rw [slices_Concat_byte_r0, brk_pos (by decide), ck_pos hi1, e2, brk_nneg (by omega), show IntKind.i64.wrap ((1 : Int) + 1) = 2 from rfl]
    rw [slices_Concat_byte_r0, brk_neg (by decide), slices_Concat_byte_e0_0, growB_ok _ (by omega) (by omega)]
    exact slices_Concat_byte_l2 3 hl2 ⟨_, rfl⟩
  exact slices_Concat_byte_l0 3 hl0 ⟨_, rfl⟩
theorem latest_which (s : tSlots.D) : (latestP s).2.2 = true ↔ whichP s = 0 := by
  unfold latestP whichP
  have h1 := slotOfP_n s.1
  have h2 := slotOfP_n s.2.1
  generalize slotOfP s.1 = x at *
  generalize slotOfP s.2.1 = y at *
  obtain ⟨m, n, f⟩ := x
  obtain ⟨m', n', f'⟩ := y
  simp only at *
  rcases h1 with ⟨rfl, h3, h4⟩ | ⟨rfl, h3, h4⟩
  · rcases h2 with ⟨rfl, h5, h6⟩ | ⟨rfl, h5, h6⟩
    · by_cases hn : n < n'
      · simp [hn, show ¬ n' ≤ n by omega]
      · simp [hn, show n' ≤ n by omega]
    · simp
  · rcases h2 with ⟨rfl, h5, h6⟩ | ⟨rfl, h5, h6⟩
    · simp
    · simp
theorem latest_n (s : tSlots.D) : 0 ≤ (latestP s).2.1 ∧ (latestP s).2.1 ≤ 1000000 := by
  unfold latestP
  have h1 := slotOfP_n s.1
  have h2 := slotOfP_n s.2.1
  split
  · rcases h2 with ⟨_, h3, h4⟩ | ⟨_, h3, _⟩ <;> simp only <;> omega
  · rcases h1 with ⟨_, h3, h4⟩ | ⟨_, h3, _⟩ <;> omega
theorem marks_len8 {xs : List Int} (h : marksB xs = true) : xs.length ≤ 8 := by
  have hm := marksB_iff.1 h
  have key : ∀ i : Nat, i < xs.length → (i : Int) ≤ xs.getD i 0 := by
    intro i
    induction i with
    | zero => intro hi; exact (hm 0 hi).1.1
    | succ i ih =>
      intro hi
      have h1 := ih (by omega)
      have h2 := (hm (i + 1) hi).2 (by omega)
      rw [Nat.add_sub_cancel] at h2
      omega
  rcases Nat.lt_or_ge 8 xs.length with h8 | h8
  · have h1 := key 8 h8
    have h2 := (hm 8 h8).1.2
    omega
  · exact h8
theorem putN_small {x : Int} (h0 : 0 ≤ x) (h1 : x ≤ 127) : (putN x).length = 1 := by
  unfold putN
  rw [if_pos ⟨h0, by omega⟩, numB_small (by omega)]; rfl
theorem putNs_small : ∀ {xs : List Int}, (∀ x ∈ xs, 0 ≤ x ∧ x ≤ 127) → (putNs xs).length = xs.length
  | [], _ => rfl
  | x :: xs, h => by
    have h1 := h x (by simp)
    have h2 := putNs_small (xs := xs) fun y hy => h y (by simp [hy])
    simp only [putNs, List.flatMap_cons, List.length_append, putN_small h1.1 h1.2, List.length_cons] at h2 ⊢
    omega
theorem marks_mem {xs : List Int} (h : marksB xs = true) : ∀ x ∈ xs, 0 ≤ x ∧ x ≤ 7 := fun x hx => by
  obtain ⟨i, hi, rfl⟩ := List.mem_iff_getElem.1 hx
  have := (marksB_iff.1 h i hi).1
  rw [getD_at hi] at this
  exact this
theorem rowsB_small : ∀ {l : List (List Int)}, (∀ r ∈ l, marksB r = true) → (rowsB l).length ≤ l.length * 9
  | [], _ => by simp [rowsB]
  | r :: l, h => by
    have h1 := h r (by simp)
    have h2 := rowsB_small (l := l) fun x hx => h x (by simp [hx])
    have h3 := marks_len8 h1
    have h4 : (putNs ((r.length : Int) :: r)).length = r.length + 1 := by
      rw [putNs_small]
      · simp
      · intro x hx
        rcases List.mem_cons.1 hx with rfl | hx
        · omega
        · have := marks_mem h1 x hx; omega
    simp only [rowsB, List.flatMap_cons, List.length_append, List.length_cons] at h2 ⊢
    omega
theorem metaB_small (x : tMeta.D) : (metaB x).length ≤ 151 := by
  unfold metaB
  split
  · rename_i hm
    obtain ⟨p1, p2, p3, p4, _⟩ := metaOk_parts hm
    have q0 := putNs_len ((x.1.length : Int) :: x.1)
    have q1 := putNs_len [flagsN x.2.2.1 x.2.2.2.1 x.2.2.2.2.1, x.2.2.2.2.2.1]
    have q3 := rowsB_small p4
    rw [p3] at q3
    simp only [List.length_cons, List.length_nil] at q0 q1
    simp only [List.length_append]
    omega
  · simp
theorem slotB_len (m : tMeta.D) (n : Int) : (slotB m n).length = 160 := by
  have := metaB_small m
  unfold slotB
  simp only [List.length_append, fourB_len, List.length_cons, List.length_nil, List.length_replicate]
  omega
def metaOkM (m : tMeta.D) : Bool := metaOkB m.1 m.2.1 m.2.2.2.1 m.2.2.2.2.1 m.2.2.2.2.2.1
theorem get_n (s : tSlots.D) : (slotGetP s).2.1 = (latestP s).2.1 := rfl
noncomputable def slotPutP (s : tSlots.D) (m : tMeta.D) : tSlots.D :=
  if metaOkM m = true ∧ (latestP s).2.1 < 1000000 then
    if whichP s = 0 then (s.1, (slotB m ((latestP s).2.1 + 1), ())) else (slotB m ((latestP s).2.1 + 1), (s.2.1, ()))
  else s
theorem spec_SlotPut_ok (s : tSlots.D) (m : tMeta.D) (ha : Byte s.1) (hb : Byte s.2.1) (h1 : s.1.length ≤ big47) (h2 : s.2.1.length ≤ big47) (hm : SzM m) : spec_SlotPut_F (s, (m, ())) = some ((slotPutP s m, ()), ((), ((), ()))) := by
  have e1 := spec_l6Copy_ok s h1 h2
  have e2 := spec_SlotGet_ok s ha hb
  have e3 := spec_l6Which_ok s ha hb
  have hn := latest_n s
  have e4 := spec_MetaOk_ok m.1 m.2.1 m.2.2.1 m.2.2.2.1 m.2.2.2.2.1 m.2.2.2.2.2.1 hm.big.1 hm.big.2.1 hm.big.2.2
  have e5 : (latestP s).2.1 < 1000000 → _ := fun h => spec_l6Slot_ok m ((latestP s).2.1 + 1) hm (by omega) (by omega)
  rw [get_n] at e2
  unfold slotPutP metaOkM
  generalize (slotGetP s).1 = gm at *
  generalize (slotGetP s).2.2 = gf at *
  generalize (latestP s).2.1 = n at *
  generalize whichP s = w at *
  obtain ⟨A, B, u⟩ := s
  cases u
  obtain ⟨g, l, f, o, h, a, u⟩ := m
  cases u
  simp only at *
  rw [spec_SlotPut_main]
  simp only
  rw [e1]
  simp only [Option.bind_some]
  rw [e2]
  simp only [Option.bind_some]
  rw [e4]
  simp only [Option.bind_some]
  cases metaOkB g l o h a with
  | false => rw [Bool.not_false, brk_true, if_neg (fun h => by simp at h)]
  | true =>
    rw [Bool.not_true, brk_false]
    by_cases hn2 : n < 1000000
    · rw [brk_neg (decide_eq_false (by omega)), if_pos ⟨rfl, hn2⟩, e3]
      simp only [Option.bind_some]
      rw [wrap64 (x := n + 1) (by omega) (by omega), e5 hn2]
      simp only [Option.bind_some]
      by_cases hw : w = 0
      · rw [brk_pos (decide_eq_true hw), if_pos hw]
      · rw [brk_neg (decide_eq_false hw), if_neg hw]
    · rw [brk_pos (decide_eq_true (by omega)), if_neg (fun h => hn2 h.2)]
def cutK (n : Int) : Nat := (max 0 (min n 160)).toNat
theorem cutK_le (n : Int) : cutK n ≤ 160 := by unfold cutK; omega
theorem cutK_impl (n : Int) : maxN (0 : Int) (minN n (160 : Int)) = (cutK n : Int) := by
  unfold maxN minN cutK
  split <;> split <;> omega
def tornB (was now : List Int) (k : Nat) : List Int := now.take k ++ was.drop k
noncomputable def tearP (s : tSlots.D) (m : tMeta.D) (n : Int) : tSlots.D :=
  if metaOkM m = true ∧ (latestP s).2.1 < 1000000 then
    if whichP s = 0 then (s.1, (tornB s.2.1 (slotB m ((latestP s).2.1 + 1)) (cutK n), ())) else (tornB s.1 (slotB m ((latestP s).2.1 + 1)) (cutK n), (s.2.1, ()))
  else s
end Go.Refl
