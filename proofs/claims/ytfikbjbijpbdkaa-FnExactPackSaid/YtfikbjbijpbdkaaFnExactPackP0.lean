/- Plain laws: what the functions come to. No condition. -/
import Derived.Test.YtfikbjbijpbdkaaFnExactPackGf
namespace Go.Refl
open Go.RowKit
set_option linter.unusedVariables false
set_option linter.unusedSimpArgs false
theorem eqIntS_loop {R : Type} (K : Ex → AS → Option R) (xs ys : List Int) (hl : xs.length = ys.length) (hb : xs.length ≤ big47) : ∀ (n i : Nat), i + n = xs.length →
    iterG laws_eqIntS_t0 laws_eqIntS_B0 K (n + 1) ((xs, (ys, ((i : Int), ()))), ()) = if xs.drop i = ys.drop i then K (.exit 0) laws_eqIntS_x0_1 else K .ret (laws_eqIntS_x0_0 false)
  | 0, i, h => by
    have hx : xs.drop i = [] := List.drop_of_length_le (by omega)
    have hy : ys.drop i = [] := List.drop_of_length_le (by omega)
    rw [laws_eqIntS_r0, brk_neg (by simp; omega), hx, hy, if_pos rfl]
  | n + 1, i, h => by
    have hi : i < xs.length := by omega
    have hj : i < ys.length := by omega
    rw [laws_eqIntS_r0, brk_pos (by simp; omega), ck_pos (by simp; omega), ck_pos (by simp; omega)]
    rw [rdD_get (List.getElem?_eq_getElem hi), rdD_get (List.getElem?_eq_getElem hj)]
    have hd : (xs.drop i = ys.drop i) ↔ (xs[i] = ys[i] ∧ xs.drop (i + 1) = ys.drop (i + 1)) := by
      rw [List.drop_eq_getElem_cons hi, List.drop_eq_getElem_cons hj, List.cons.injEq]
    by_cases he : xs[i] = ys[i]
    · rw [brk_neg (by simp [he]), wrap64 (by omega) (by simp only [big47] at hb; omega)]
      have := eqIntS_loop K xs ys hl hb n (i + 1) (by omega)
      rw [show ((i : Int) + 1) = ((i + 1 : Nat) : Int) by simp, this]
      by_cases hr : xs.drop (i + 1) = ys.drop (i + 1)
      · rw [if_pos hr, if_pos (hd.2 ⟨he, hr⟩)]
      · rw [if_neg hr, if_neg fun h => hr (hd.1 h).2]
    · rw [brk_pos (by simp [he]), if_neg fun h => he (hd.1 h).1]
theorem eqIntS_ok (xs ys : List Int) (hb : xs.length ≤ big47) : laws_eqIntS_F (xs, (ys, ())) = some ((decide (xs = ys), ()), ((), ((), ()))) := by
  rw [laws_eqIntS_main]
  by_cases hl : xs.length = ys.length
  · rw [brk_neg (by simp [hl])]
    have h : iterG laws_eqIntS_t0 laws_eqIntS_B0 (laws_eqIntS_K0 xs ys) (xs.length + 1) ((xs, (ys, ((0 : Int), ()))), ()) = _ := eqIntS_loop (laws_eqIntS_K0 xs ys) xs ys hl hb xs.length 0 (by omega)
    by_cases he : xs = ys
    · rw [laws_eqIntS_l0 _ h (by subst he; exact ⟨_, by simp only [if_true]; exact laws_eqIntS_e0_1 _ _⟩)]
      subst he
      simp only [if_true]
      rw [laws_eqIntS_e0_1]; simp
    · have h0 : ¬ xs.drop 0 = ys.drop 0 := by simpa using he
      rw [if_neg h0] at h
      rw [laws_eqIntS_l0 _ h ⟨_, laws_eqIntS_e0_0 _ _ _⟩, laws_eqIntS_e0_0]
      simp [he]
  · rw [brk_pos (by simp; omega)]
    have : xs ≠ ys := fun h => hl (by rw [h])
    simp [this]
theorem take_set_next {α : Type} {out xs : List α} {i : Nat} (hl : out.length = xs.length) (hi : i < xs.length) (ht : out.take i = xs.take i) : (out.set i xs[i]).take (i + 1) = xs.take (i + 1) := by
  rw [List.take_succ_eq_append_getElem (by simpa [hl] using hi), List.take_succ_eq_append_getElem hi]
  rw [List.take_set_of_le (Nat.le_refl i), ht]
  simp
theorem toIntS_loop {R : Type} (K : Ex → AS → Option R) (xs : List Int) (hb : xs.length ≤ big47) : ∀ (n i : Nat) (out : List Int), i + n = xs.length → out.length = xs.length → out.take i = xs.take i →
    iterG laws_toIntS_t0 laws_toIntS_B0 K (n + 1) ((xs, ((i : Int), ())), (out, ())) = K (.exit 0) (laws_toIntS_x0_0 xs)
  | 0, i, out, h, hl, ht => by
    rw [laws_toIntS_r0, brk_neg (by simp; omega)]
    rw [List.take_of_length_le (by omega), List.take_of_length_le (by omega)] at ht
    rw [ht]
  | n + 1, i, out, h, hl, ht => by
    have hi : i < xs.length := by omega
    rw [laws_toIntS_r0, brk_pos (by simp; omega), ck_pos (by simp; omega), ck_pos (by simp; omega)]
    rw [rdD_get (List.getElem?_eq_getElem hi), wrap64 (by omega) (by simp only [big47] at hb; omega)]
    rw [show ((i : Int) + 1) = ((i + 1 : Nat) : Int) by simp]
    exact toIntS_loop K xs hb n (i + 1) _ (by omega) (by simpa using hl) (take_set_next hl hi ht)
theorem toIntS_ok (xs : List Int) (hb : xs.length ≤ 1048576) : laws_toIntS_F (xs, ()) = some ((xs, ()), ((), ())) := by
  rw [laws_toIntS_main, ck_pos (by simp; omega)]
  have h : iterG laws_toIntS_t0 laws_toIntS_B0 (laws_toIntS_K0 xs) (xs.length + 1) ((xs, ((0 : Int), ())), (List.replicate (xs.length : Int).toNat tI.zero, ())) = _ := toIntS_loop (laws_toIntS_K0 xs) xs (by simp only [big47]; omega) xs.length 0 _ (by omega) (by simp) (by simp)
  rw [laws_toIntS_l0 _ h ⟨_, laws_toIntS_e0_0 _ _⟩, laws_toIntS_e0_0]
/-- Numbers from k on, as f makes them. -/
def marks (f : Int → Int) (k : Int) : Nat → List Int
  | 0 => []
  | n + 1 => f k :: marks f (k + 1) n
theorem marks_len (f : Int → Int) : ∀ (n : Nat) (k : Int), (marks f k n).length = n
  | 0, _ => rfl
  | n + 1, k => by simp [marks, marks_len f n]
theorem drop_set_next {α : Type} {xs : List α} {i : Nat} (hi : i < xs.length) (v : α) : (xs.set i v).take (i + 1) = xs.take i ++ [v] := by
  rw [List.take_succ_eq_append_getElem (by simpa using hi), List.take_set_of_le (Nat.le_refl i)]
  simp
theorem markIntS_loop {R : Type} (K : Ex → AS → Option R) : ∀ (n i : Nat) (k : Int) (xs : List Int), i + n = xs.length → xs.length ≤ big47 → 0 ≤ k → k + n ≤ 4611686018427387904 →
    iterG laws_markIntS_t0 laws_markIntS_B0 K (n + 1) ((k, ((i : Int), ())), (xs, ())) = K (.exit 0) (laws_markIntS_x0_0 (k + n) (xs.take i ++ marks id k n))
  | 0, i, k, xs, h, hb, h0, hk => by
    rw [laws_markIntS_r0, brk_neg (by simp; omega)]
    rw [List.take_of_length_le (by omega)]
    simp [marks]
  | n + 1, i, k, xs, h, hb, h0, hk => by
    have hi : i < xs.length := by omega
    rw [laws_markIntS_r0, brk_pos (by simp; omega), ck_pos (by simp; omega)]
    rw [wrap64 (by omega) (by omega), wrap64 (by omega) (by simp only [big47] at hb; omega)]
    rw [show ((i : Int) + 1) = ((i + 1 : Nat) : Int) by simp]
    rw [markIntS_loop K n (i + 1) (k + 1) _ (by simp; omega) (by simpa using hb) (by omega) (by omega)]
    rw [show ((i : Int)).toNat = i by simp, drop_set_next hi, show k + 1 + (n : Int) = k + ((n + 1 : Nat) : Int) by omega]
    simp [marks]
theorem markIntS_ok (xs : List Int) (k : Int) (hb : xs.length ≤ 1125899906842624) (hbb : xs.length ≤ big47) (h0 : 0 ≤ k) (hk : k ≤ 1125899906842624) : laws_markIntS_F (xs, (k, ())) = some ((k + xs.length, ()), (marks id k xs.length, ((), ()))) := by
  rw [laws_markIntS_main]
  have h : iterG laws_markIntS_t0 laws_markIntS_B0 (laws_markIntS_K0 xs k) (xs.length + 1) ((k, ((0 : Int), ())), (xs, ())) = _ := markIntS_loop (laws_markIntS_K0 xs k) xs.length 0 k xs (by omega) hbb h0 (by omega)
  rw [laws_markIntS_l0 _ h ⟨_, laws_markIntS_e0_0 _ _ _ _⟩, laws_markIntS_e0_0]
  simp
theorem markByteS_loop {R : Type} (K : Ex → AS → Option R) : ∀ (n i : Nat) (k : Int) (xs : List Int), i + n = xs.length → xs.length ≤ big47 → 0 ≤ k → k + n ≤ 4611686018427387904 →
    iterG laws_markByteS_t0 laws_markByteS_B0 K (n + 1) ((k, ((i : Int), ())), (xs, ())) = K (.exit 0) (laws_markByteS_x0_0 (k + n) (xs.take i ++ marks (IntKind.u8.wrap ·) k n))
  | 0, i, k, xs, h, hb, h0, hk => by
    rw [laws_markByteS_r0, brk_neg (by simp; omega)]
    rw [List.take_of_length_le (by omega)]
    simp [marks]
  | n + 1, i, k, xs, h, hb, h0, hk => by
    have hi : i < xs.length := by omega
    rw [laws_markByteS_r0, brk_pos (by simp; omega), ck_pos (by simp; omega)]
    rw [wrap64 (by omega) (by omega), wrap64 (by omega) (by simp only [big47] at hb; omega)]
    rw [show ((i : Int) + 1) = ((i + 1 : Nat) : Int) by simp]
    rw [markByteS_loop K n (i + 1) (k + 1) _ (by simp; omega) (by simpa using hb) (by omega) (by omega)]
    rw [show ((i : Int)).toNat = i by simp, drop_set_next hi, show k + 1 + (n : Int) = k + ((n + 1 : Nat) : Int) by omega]
    simp [marks]
theorem markByteS_ok (xs : List Int) (k : Int) (hb : xs.length ≤ 1125899906842624) (hbb : xs.length ≤ big47) (h0 : 0 ≤ k) (hk : k ≤ 1125899906842624) : laws_markByteS_F (xs, (k, ())) = some ((k + xs.length, ()), (marks (IntKind.u8.wrap ·) k xs.length, ((), ()))) := by
  rw [laws_markByteS_main]
  have h : iterG laws_markByteS_t0 laws_markByteS_B0 (laws_markByteS_K0 xs k) (xs.length + 1) ((k, ((0 : Int), ())), (xs, ())) = _ := markByteS_loop (laws_markByteS_K0 xs k) xs.length 0 k xs (by omega) hbb h0 (by omega)
  rw [laws_markByteS_l0 _ h ⟨_, laws_markByteS_e0_0 _ _ _ _⟩, laws_markByteS_e0_0]
  simp
theorem heldByteS_loop {R : Type} (K : Ex → AS → Option R) : ∀ (n i : Nat) (k : Int) (xs : List Int), i + n = xs.length → xs.length ≤ big47 → 0 ≤ k → k + n ≤ 4611686018427387904 → xs.drop i = marks (IntKind.u8.wrap ·) k n →
    iterG laws_heldByteS_t0 laws_heldByteS_B0 K (n + 1) ((xs, (k, ((i : Int), ()))), ()) = K (.exit 0) (laws_heldByteS_x0_1 (k + n))
  | 0, i, k, xs, h, hb, h0, hk, hd => by
    rw [laws_heldByteS_r0, brk_neg (by simp; omega)]
    simp
  | n + 1, i, k, xs, h, hb, h0, hk, hd => by
    have hi : i < xs.length := by omega
    rw [List.drop_eq_getElem_cons hi] at hd
    simp only [marks, List.cons.injEq] at hd
    rw [laws_heldByteS_r0, brk_pos (by simp; omega), ck_pos (by simp; omega)]
    rw [rdD_get (List.getElem?_eq_getElem hi), hd.1, brk_neg (by simp)]
    rw [wrap64 (by omega) (by omega), wrap64 (by omega) (by simp only [big47] at hb; omega)]
    rw [show ((i : Int) + 1) = ((i + 1 : Nat) : Int) by simp]
    rw [heldByteS_loop K n (i + 1) (k + 1) _ (by omega) hb (by omega) (by omega) hd.2]
    rw [show k + 1 + (n : Int) = k + ((n + 1 : Nat) : Int) by omega]
theorem heldByteS_ok (n : Nat) (k : Int) (hb : n ≤ 1125899906842624) (h0 : 0 ≤ k) (hk : k ≤ 1125899906842624) (hbb : n ≤ big47) : laws_heldByteS_F (marks (IntKind.u8.wrap ·) k n, (k, ())) = some ((k + n, ()), ((), ((), ()))) := by
  rw [laws_heldByteS_main]
  have h : iterG laws_heldByteS_t0 laws_heldByteS_B0 (laws_heldByteS_K0 (marks (IntKind.u8.wrap ·) k n) k) (n + 1) ((marks (IntKind.u8.wrap ·) k n, (k, ((0 : Int), ()))), ()) = _ := heldByteS_loop (laws_heldByteS_K0 (marks (IntKind.u8.wrap ·) k n) k) n 0 k (marks (IntKind.u8.wrap ·) k n) (by rw [marks_len]; omega) (by rw [marks_len]; exact hbb) h0 (by omega) (by simp)
  rw [laws_heldByteS_l0 _ h ⟨_, laws_heldByteS_e0_1 _ _ _⟩, laws_heldByteS_e0_1]
theorem eqByteS_loop {R : Type} (K : Ex → AS → Option R) (xs ys : List Int) (hl : xs.length = ys.length) (hb : xs.length ≤ big47) : ∀ (n i : Nat), i + n = xs.length →
    iterG laws_eqByteS_t0 laws_eqByteS_B0 K (n + 1) ((xs, (ys, ((i : Int), ()))), ()) = if xs.drop i = ys.drop i then K (.exit 0) laws_eqByteS_x0_1 else K .ret (laws_eqByteS_x0_0 false)
  | 0, i, h => by
    have hx : xs.drop i = [] := List.drop_of_length_le (by omega)
    have hy : ys.drop i = [] := List.drop_of_length_le (by omega)
    rw [laws_eqByteS_r0, brk_neg (by simp; omega), hx, hy, if_pos rfl]
  | n + 1, i, h => by
    have hi : i < xs.length := by omega
    have hj : i < ys.length := by omega
    rw [laws_eqByteS_r0, brk_pos (by simp; omega), ck_pos (by simp; omega), ck_pos (by simp; omega)]
    rw [rdD_get (List.getElem?_eq_getElem hi), rdD_get (List.getElem?_eq_getElem hj)]
    have hd : (xs.drop i = ys.drop i) ↔ (xs[i] = ys[i] ∧ xs.drop (i + 1) = ys.drop (i + 1)) := by
      rw [List.drop_eq_getElem_cons hi, List.drop_eq_getElem_cons hj, List.cons.injEq]
    by_cases he : xs[i] = ys[i]
    · rw [brk_neg (by simp [he]), wrap64 (by omega) (by simp only [big47] at hb; omega)]
      have := eqByteS_loop K xs ys hl hb n (i + 1) (by omega)
      rw [show ((i : Int) + 1) = ((i + 1 : Nat) : Int) by simp, this]
      by_cases hr : xs.drop (i + 1) = ys.drop (i + 1)
      · rw [if_pos hr, if_pos (hd.2 ⟨he, hr⟩)]
      · rw [if_neg hr, if_neg fun h => hr (hd.1 h).2]
    · rw [brk_pos (by simp [he]), if_neg fun h => he (hd.1 h).1]
theorem eqByteS_ok (xs ys : List Int) (hb : xs.length ≤ big47) : laws_eqByteS_F (xs, (ys, ())) = some ((decide (xs = ys), ()), ((), ((), ()))) := by
  rw [laws_eqByteS_main]
  by_cases hl : xs.length = ys.length
  · rw [brk_neg (by simp [hl])]
    have h : iterG laws_eqByteS_t0 laws_eqByteS_B0 (laws_eqByteS_K0 xs ys) (xs.length + 1) ((xs, (ys, ((0 : Int), ()))), ()) = _ := eqByteS_loop (laws_eqByteS_K0 xs ys) xs ys hl hb xs.length 0 (by omega)
    by_cases he : xs = ys
    · rw [laws_eqByteS_l0 _ h (by subst he; exact ⟨_, by simp only [if_true]; exact laws_eqByteS_e0_1 _ _⟩)]
      subst he
      simp only [if_true]
      rw [laws_eqByteS_e0_1]; simp
    · have h0 : ¬ xs.drop 0 = ys.drop 0 := by simpa using he
      rw [if_neg h0] at h
      rw [laws_eqByteS_l0 _ h ⟨_, laws_eqByteS_e0_0 _ _ _⟩, laws_eqByteS_e0_0]
      simp [he]
  · rw [brk_pos (by simp; omega)]
    have : xs ≠ ys := fun h => hl (by rw [h])
    simp [this]
theorem szIntS_ok (xs : List Int) (n : Int) (hb : xs.length ≤ big47) (h0 : 0 ≤ n) (hn : n ≤ 1048576) : laws_szIntS_F (xs, (n, ())) = some ((if n < xs.length then -1 else n - xs.length, ()), ((), ((), ()))) := by
  simp only [big47] at hb
  rw [laws_szIntS_main, wrap64 (by omega) (by omega)]
  by_cases h : n < xs.length
  · rw [brk_pos (by simp; omega), if_pos h]
  · rw [brk_neg (by simp; omega), if_neg h]
theorem toMsg_ok (x : tMsg.D) (hb : x.2.2.2.2.1.length ≤ 1048576) : laws_toMsg_F (x, ()) = some ((x, ()), ((), ())) := by
  rw [laws_toMsg_main, toIntS_ok _ hb]; rfl
theorem szMsg_ok (x : tMsg.D) (n : Int) (hb : x.2.2.2.2.1.length ≤ big47) (h0 : 0 ≤ n) (hn : n ≤ 1048576) : laws_szMsg_F (x, (n, ())) = some ((if n < x.2.2.2.2.1.length then -1 else n - x.2.2.2.2.1.length, ()), ((), ((), ()))) := by
  rw [laws_szMsg_main, szIntS_ok _ _ hb h0 hn]
  simp only [Option.bind_some]
  split
  · rw [brk_pos (by simp)]
  · rw [brk_neg (by simp; omega)]
theorem eqMsg_self (x : tMsg.D) (hb : x.2.2.2.2.1.length ≤ big47) : laws_eqMsg_F (x, (x, ())) = some ((true, ()), ((), ((), ()))) := by
  rw [laws_eqMsg_main, brk_neg (by simp), brk_neg (by simp), brk_neg (by simp), brk_neg (by simp), eqIntS_ok _ _ hb]
  simp
/-- A number's bytes, seven bits each, the low ones first. -/
def numB (n : Nat) : List Int := if h : n ≤ 127 then [(n : Int)] else ((n % 128 + 128 : Nat) : Int) :: numB (n / 128)
termination_by n
decreasing_by omega
theorem numB_small {n : Nat} (h : n ≤ 127) : numB n = [(n : Int)] := by rw [numB, dif_pos h]
theorem numB_big {n : Nat} (h : ¬ n ≤ 127) : numB n = ((n % 128 + 128 : Nat) : Int) :: numB (n / 128) := by rw [numB, dif_neg h]
theorem wrap8 {x : Int} (h1 : 0 ≤ x) (h2 : x ≤ 255) : IntKind.u8.wrap x = x := by
  simp only [IntKind.wrap, IntKind.signed, IntKind.bits]
  simp
  omega
theorem numB_len : ∀ (k n : Nat), n < 128 ^ (k + 1) → (numB n).length ≤ k + 1
  | 0, n, h => by rw [numB_small (by omega)]; simp
  | k + 1, n, h => by
    by_cases hn : n ≤ 127
    · rw [numB_small hn]; simp
    · rw [numB_big hn]
      have := numB_len k (n / 128) (by rw [Nat.div_lt_iff_lt_mul (by omega)]; rw [Nat.pow_succ] at h; exact h)
      simpa using this
theorem spec_PutNum_loop {R : Type} (K : Ex → AS → Option R) : ∀ (k n : Nat) (acc : List Int), n < 128 ^ (k + 1) → n ≤ 2147483647 → acc.length + k ≤ 1000000 →
    ∃ (m d : Nat) (acc' : List Int), iterG spec_PutNum_t0 spec_PutNum_B0 K m (((n : Int), ()), (acc, ())) = K (.exit 0) (spec_PutNum_x0_0 (d : Int) acc') ∧ acc' ++ [(d : Int)] = acc ++ numB n ∧ d ≤ 127 ∧ acc'.length ≤ acc.length + k
  | 0, n, acc, h, hn, hl => by
    refine ⟨1, n, acc, ?_, by rw [numB_small (by omega)], by omega, by omega⟩
    rw [spec_PutNum_r0, brk_neg (by simp; omega)]
  | k + 1, n, acc, h, hn, hl => by
    by_cases hs : n ≤ 127
    · refine ⟨1, n, acc, ?_, by rw [numB_small hs], hs, by omega⟩
      rw [spec_PutNum_r0, brk_neg (by simp; omega)]
    · obtain ⟨m, d, acc', h1, h2, h3, h4⟩ := spec_PutNum_loop K k (n / 128) (acc ++ [((n % 128 + 128 : Nat) : Int)]) (by rw [Nat.div_lt_iff_lt_mul (by omega)]; rw [Nat.pow_succ] at h; exact h) (by omega) (by simp; omega)
      refine ⟨m + 1, d, acc', ?_, ?_, h3, by simp at h4; omega⟩
      · rw [spec_PutNum_r0, brk_pos (by simp; omega), ck_pos (by simp [big47]; omega)]
        have e1 : (n : Int).tmod 128 = ((n % 128 : Nat) : Int) := by rw [Int.tmod_eq_emod_of_nonneg (by omega)]; omega
        have e2 : (n : Int).tdiv 128 = ((n / 128 : Nat) : Int) := by rw [Int.tdiv_eq_ediv_of_nonneg (by omega)]; omega
        rw [e1, e2, wrap64 (by omega) (by omega), wrap64 (by omega) (by omega), wrap8 (by omega) (by omega)]
        rw [show ((n % 128 : Nat) : Int) + 128 = ((n % 128 + 128 : Nat) : Int) by omega]
        exact h1
      · rw [h2, numB_big hs]; simp
theorem impl_PutNum_loop {R : Type} (K : Ex → AS → Option R) : ∀ (k n : Nat) (acc : List Int), n < 128 ^ (k + 1) → n ≤ 2147483647 → acc.length + k ≤ 1000000 →
    ∃ (m d : Nat) (acc' : List Int), iterG impl_PutNum_t0 impl_PutNum_B0 K m (((n : Int), ()), (acc, ())) = K (.exit 0) (impl_PutNum_x0_0 (d : Int) acc') ∧ acc' ++ [(d : Int)] = acc ++ numB n ∧ d ≤ 127 ∧ acc'.length ≤ acc.length + k
  | 0, n, acc, h, hn, hl => by
    refine ⟨1, n, acc, ?_, by rw [numB_small (by omega)], by omega, by omega⟩
    rw [impl_PutNum_r0, brk_neg (by simp; omega)]
  | k + 1, n, acc, h, hn, hl => by
    by_cases hs : n ≤ 127
    · refine ⟨1, n, acc, ?_, by rw [numB_small hs], hs, by omega⟩
      rw [impl_PutNum_r0, brk_neg (by simp; omega)]
    · obtain ⟨m, d, acc', h1, h2, h3, h4⟩ := impl_PutNum_loop K k (n / 128) (acc ++ [((n % 128 + 128 : Nat) : Int)]) (by rw [Nat.div_lt_iff_lt_mul (by omega)]; rw [Nat.pow_succ] at h; exact h) (by omega) (by simp; omega)
      refine ⟨m + 1, d, acc', ?_, ?_, h3, by simp at h4; omega⟩
      · rw [impl_PutNum_r0, brk_pos (by simp; omega), ck_pos (by simp [big47]; omega)]
        have e1 : (n : Int).tmod 128 = ((n % 128 : Nat) : Int) := by rw [Int.tmod_eq_emod_of_nonneg (by omega)]; omega
        have e2 : (n : Int).tdiv 128 = ((n / 128 : Nat) : Int) := by rw [Int.tdiv_eq_ediv_of_nonneg (by omega)]; omega
        rw [e1, e2, wrap64 (by omega) (by omega), wrap64 (by omega) (by omega), wrap8 (by omega) (by omega)]
        rw [show ((n % 128 : Nat) : Int) + 128 = ((n % 128 + 128 : Nat) : Int) by omega]
        exact h1
      · rw [h2, numB_big hs]; simp
/-- What is put of a number. -/
def putN (x : Int) : List Int := if 0 ≤ x ∧ x ≤ 2147483647 then numB x.toNat else []
theorem spec_l1In_ok (x lo hi : Int) : spec_l1In_F (x, (lo, (hi, ()))) = some ((decide (lo ≤ x) && decide (x ≤ hi), ()), ((), ((), ((), ())))) := by
  rw [spec_l1In_main]
  by_cases h : lo ≤ x <;> simp [h]
theorem spec_PutNum_in (n : Nat) (h : n ≤ 2147483647) : loopG spec_PutNum_t0 spec_PutNum_B0 (spec_PutNum_K0 (n : Int)) (((n : Int), ()), ([], ())) = some ((numB n, ()), ((), ())) := by
  obtain ⟨m, d, acc', h1, h2, h3, h4⟩ := spec_PutNum_loop (spec_PutNum_K0 (n : Int)) 4 n [] (by omega) h (by simp)
  have h5 : spec_PutNum_K0 (n : Int) (.exit 0) (spec_PutNum_x0_0 (d : Int) acc') = some ((numB n, ()), ((), ())) := by
    rw [spec_PutNum_e0_0, wrap8 (by omega) (by omega), ck_pos (by simp at h4; simp [big47]; omega), h2]; rfl
  rw [spec_PutNum_l0 m h1 ⟨_, h5⟩, h5]
theorem impl_PutNum_in (n : Nat) (h : n ≤ 2147483647) : loopG impl_PutNum_t0 impl_PutNum_B0 (impl_PutNum_K0 (n : Int)) (((n : Int), ()), ([], ())) = some ((numB n, ()), ((), ())) := by
  obtain ⟨m, d, acc', h1, h2, h3, h4⟩ := impl_PutNum_loop (impl_PutNum_K0 (n : Int)) 4 n [] (by omega) h (by simp)
  have h5 : impl_PutNum_K0 (n : Int) (.exit 0) (impl_PutNum_x0_0 (d : Int) acc') = some ((numB n, ()), ((), ())) := by
    rw [impl_PutNum_e0_0, wrap8 (by omega) (by omega), ck_pos (by simp at h4; simp [big47]; omega), h2]; rfl
  rw [impl_PutNum_l0 m h1 ⟨_, h5⟩, h5]
theorem spec_PutNum_ok (x : Int) : spec_PutNum_F (x, ()) = some ((putN x, ()), ((), ())) := by
  rw [spec_PutNum_main, spec_l1In_ok]
  simp only [Option.bind_some]
  unfold putN
  by_cases h : 0 ≤ x ∧ x ≤ 2147483647
  · obtain ⟨n, rfl⟩ := Int.eq_ofNat_of_zero_le h.1
    rw [brk_neg (by simp; omega), if_pos h, spec_PutNum_in n (by omega)]
    simp
  · rw [brk_pos (by simp; omega), if_neg h]
theorem impl_PutNum_ok (x : Int) : impl_PutNum_F (x, ()) = some ((putN x, ()), ((), ())) := by
  rw [impl_PutNum_main]
  unfold putN
  by_cases h : 0 ≤ x ∧ x ≤ 2147483647
  · obtain ⟨n, rfl⟩ := Int.eq_ofNat_of_zero_le h.1
    rw [brk_neg (by simp), brk_neg (by simp; omega), if_pos h, impl_PutNum_in n (by omega)]
    simp
  · rw [if_neg h]
    by_cases h0 : x < 0
    · rw [brk_pos (by simpa using h0)]
    · rw [brk_neg (by simpa using h0), brk_pos (by simp; omega)]
theorem putN_len (x : Int) : (putN x).length ≤ 5 := by
  unfold putN
  split
  · exact numB_len 4 _ (by omega)
  · simp
def putNs (xs : List Int) : List Int := xs.flatMap putN
theorem putNs_len (xs : List Int) : (putNs xs).length ≤ xs.length * 5 := by
  induction xs with
  | nil => simp [putNs]
  | cons x xs ih =>
    have := putN_len x
    simp only [putNs, List.flatMap_cons, List.length_append, List.length_cons] at ih ⊢
    omega
theorem putNums_loop {R : Type} (K : Ex → AS → Option R) (xs : List Int) (hx : xs.length ≤ 2000000) : ∀ (n i : Nat) (acc : List Int), i + n = xs.length → acc.length ≤ i * 5 →
    iterG impl_putNums_t0 impl_putNums_B0 K (n + 1) ((xs, ((xs.length : Int), ((i : Int), ()))), (acc, ())) = K (.exit 0) (impl_putNums_x0_0 (acc ++ putNs (xs.drop i)))
  | 0, i, acc, h, ha => by
    rw [impl_putNums_r0, brk_neg (by simp; omega), List.drop_of_length_le (by omega)]
    simp [putNs]
  | n + 1, i, acc, h, ha => by
    have hi : i < xs.length := by omega
    have hp := putN_len xs[i]
    rw [impl_putNums_r0, brk_pos (by simp; omega), ck_pos (by simp; omega), rdD_get (List.getElem?_eq_getElem hi), impl_PutNum_ok]
    simp only [Option.bind_some]
    rw [ck_pos (by simp only [big47]; simp; omega), wrap64 (by omega) (by omega), show ((i : Int) + 1) = ((i + 1 : Nat) : Int) by simp]
    rw [putNums_loop K xs hx n (i + 1) _ (by omega) (by simp; omega), List.drop_eq_getElem_cons hi]
    simp only [putNs, List.flatMap_cons, List.append_assoc]
theorem impl_putNums_ok (xs : List Int) (hx : xs.length ≤ 2000000) : impl_putNums_F (xs, ()) = some ((putNs xs, ()), ((), ())) := by
  rw [impl_putNums_main]
  have h : iterG impl_putNums_t0 impl_putNums_B0 (impl_putNums_K0 xs) (xs.length + 1) ((xs, ((xs.length : Int), ((0 : Int), ()))), ([], ())) = _ := putNums_loop (impl_putNums_K0 xs) xs hx xs.length 0 [] (by omega) (by simp)
  rw [impl_putNums_l0 _ h ⟨_, impl_putNums_e0_0 _ _⟩, impl_putNums_e0_0]
  simp
theorem impl_putList_ok (xs : List Int) (hx : xs.length ≤ 2000000) : impl_putList_F (xs, ()) = some ((putNs ((xs.length : Int) :: xs), ()), ((), ())) := by
  rw [impl_putList_main, impl_putNums_ok _ (by simp), impl_putNums_ok _ hx]
  have h1 := putNs_len [(xs.length : Int)]
  have h2 := putNs_len xs
  simp only [Option.bind_some]
  rw [ck_pos (by simp only [big47, List.length_cons, List.length_nil] at *; simp; omega)]
  simp [putNs]
theorem l4Body_loop0 {R : Type} (K : Ex → AS → Option R) (b0 b1 b2 b3 : Int) (b4 xs : List Int) (hx : xs.length ≤ 2000000) : ∀ (n i : Nat) (acc : List Int), i + n = xs.length → acc.length ≤ i * 5 →
    iterG spec_l4Body_t0 spec_l4Body_B0 K (n + 1) (((i : Int), ()), ((b0, (b1, (b2, (b3, (b4, ()))))), (xs, (acc, ())))) = K (.exit 0) (spec_l4Body_x0_0 b0 b1 b2 b3 b4 (acc ++ putNs (xs.drop i)))
  | 0, i, acc, h, ha => by
    rw [spec_l4Body_r0, brk_neg (by simp; omega), List.drop_of_length_le (by omega)]
    simp [putNs]
  | n + 1, i, acc, h, ha => by
    have hi : i < xs.length := by omega
    have hp := putN_len xs[i]
    rw [spec_l4Body_r0, brk_pos (by simp; omega), ck_pos (by simp; omega), rdD_get (List.getElem?_eq_getElem hi), spec_PutNum_ok]
    simp only [Option.bind_some]
    rw [ck_pos (by simp only [big47]; simp; omega), wrap64 (by omega) (by omega), show ((i : Int) + 1) = ((i + 1 : Nat) : Int) by simp]
    rw [l4Body_loop0 K b0 b1 b2 b3 b4 xs hx n (i + 1) _ (by omega) (by simp; omega), List.drop_eq_getElem_cons hi]
    simp only [putNs, List.flatMap_cons, List.append_assoc]
theorem l4Body_loop2 {R : Type} (K : Ex → AS → Option R) (b0 b1 b2 b3 : Int) (b4 : List Int) (hx : b4.length ≤ 2000000) : ∀ (n i : Nat) (acc : List Int), i + n = b4.length → acc.length ≤ 100 + i * 5 →
    iterG spec_l4Body_t2 spec_l4Body_B2 K (n + 1) (((i : Int), ()), ((b0, (b1, (b2, (b3, (b4, ()))))), (acc, ()))) = K (.exit 2) (spec_l4Body_x2_0 (acc ++ putNs (b4.drop i)))
  | 0, i, acc, h, ha => by
    rw [spec_l4Body_r2, brk_neg (by simp; omega), List.drop_of_length_le (by omega)]
    simp [putNs]
  | n + 1, i, acc, h, ha => by
    have hi : i < b4.length := by omega
    have hp := putN_len b4[i]
    rw [spec_l4Body_r2, brk_pos (by simp; omega), ck_pos (by simp; omega), rdD_get (List.getElem?_eq_getElem hi), spec_PutNum_ok]
    simp only [Option.bind_some]
    rw [ck_pos (by simp only [big47]; simp; omega), wrap64 (by omega) (by omega), show ((i : Int) + 1) = ((i + 1 : Nat) : Int) by simp]
    rw [l4Body_loop2 K b0 b1 b2 b3 b4 hx n (i + 1) _ (by omega) (by simp; omega), List.drop_eq_getElem_cons hi]
    simp only [putNs, List.flatMap_cons, List.append_assoc]
/-- A message's body. -/
def bodyB (x : tMsg.D) : List Int := putNs [x.1, x.2.1, x.2.2.1, x.2.2.2.1, (x.2.2.2.2.1.length : Int)] ++ putNs x.2.2.2.2.1
theorem spec_l4Body_ok (x : tMsg.D) (hx : x.2.2.2.2.1.length ≤ 2000000) : spec_l4Body_F (x, ()) = some ((bodyB x, ()), ((), ())) := by
  rw [spec_l4Body_main]
  have h0 := l4Body_loop0 (spec_l4Body_K0 x) x.1 x.2.1 x.2.2.1 x.2.2.2.1 x.2.2.2.2.1 [x.1, x.2.1, x.2.2.1, x.2.2.2.1, (x.2.2.2.2.1.length : Int)] (by simp) 5 0 [] (by simp) (by simp)
  have hl := putNs_len [x.1, x.2.1, x.2.2.1, x.2.2.2.1, (x.2.2.2.2.1.length : Int)]
  have h2 := l4Body_loop2 (spec_l4Body_K2 x) x.1 x.2.1 x.2.2.1 x.2.2.2.1 x.2.2.2.2.1 hx x.2.2.2.2.1.length 0 (putNs [x.1, x.2.1, x.2.2.1, x.2.2.2.1, (x.2.2.2.2.1.length : Int)]) (by omega) (by simp at hl ⊢; omega)
  have e2 : spec_l4Body_K2 x (.exit 2) (spec_l4Body_x2_0 (bodyB x)) = some ((bodyB x, ()), ((), ())) := spec_l4Body_e2_0 _ _
  simp only [List.nil_append, List.drop_zero] at h0 h2
  have e0 := spec_l4Body_e0_0 x x.1 x.2.1 x.2.2.1 x.2.2.2.1 x.2.2.2.2.1 (putNs [x.1, x.2.1, x.2.2.1, x.2.2.2.1, (x.2.2.2.2.1.length : Int)])
  have h2' := spec_l4Body_l2 _ h2 ⟨_, e2⟩
  have e3 := (e0.trans h2').trans e2
  exact (spec_l4Body_l0 _ h0 ⟨_, e3⟩).trans e3
def sums : Int → Int → List Int → Int × Int
  | a, b, [] => (a, b)
  | a, b, x :: xs => sums ((a + x) % 65521) ((b + (a + x) % 65521) % 65521) xs
theorem tmod_step {x : Int} (h : 0 ≤ x) : x.tmod 65521 = x % 65521 := Int.tmod_eq_emod_of_nonneg h
theorem spec_SumOf_loop {R : Type} (K : Ex → AS → Option R) (xs : List Int) (hx : ∀ x ∈ xs, 0 ≤ x ∧ x ≤ 255) (hb : xs.length ≤ big47) : ∀ (n i : Nat) (a b : Int), i + n = xs.length → 0 ≤ a → a ≤ 65521 → 0 ≤ b → b ≤ 65521 →
    iterG spec_SumOf_t0 spec_SumOf_B0 K (n + 1) ((xs, (a, (b, ((i : Int), ())))), ()) = K (.exit 0) (spec_SumOf_x0_0 (sums a b (xs.drop i)).1 (sums a b (xs.drop i)).2)
  | 0, i, a, b, h, _, _, _, _ => by
    rw [spec_SumOf_r0, brk_neg (by simp; omega), List.drop_of_length_le (by omega)]
    simp [sums]
  | n + 1, i, a, b, h, ha, ha', hb1, hb2 => by
    have hi : i < xs.length := by omega
    have hr := hx xs[i] (List.getElem_mem hi)
    simp only [big47] at hb
    rw [spec_SumOf_r0, brk_pos (by simp; omega), ck_pos (by simp; omega), rdD_get (List.getElem?_eq_getElem hi)]
    rw [wrap64 (x := xs[i]) (by omega) (by omega), wrap64 (x := a + xs[i]) (by omega) (by omega), tmod_step (x := a + xs[i]) (by omega)]
    rw [wrap64 (x := b + (a + xs[i]) % 65521) (by omega) (by omega), tmod_step (x := b + (a + xs[i]) % 65521) (by omega), wrap64 (by omega) (by omega), show ((i : Int) + 1) = ((i + 1 : Nat) : Int) by simp]
    rw [spec_SumOf_loop K xs hx (by simp only [big47]; omega) n (i + 1) _ _ (by omega) (by omega) (by omega) (by omega) (by omega), List.drop_eq_getElem_cons hi]
    simp only [sums]
theorem impl_SumOf_loop {R : Type} (K : Ex → AS → Option R) (xs : List Int) (hx : ∀ x ∈ xs, 0 ≤ x ∧ x ≤ 255) (hb : xs.length ≤ big47) : ∀ (n i : Nat) (a b : Int), i + n = xs.length → 0 ≤ a → a ≤ 65521 → 0 ≤ b → b ≤ 65521 →
    iterG impl_SumOf_t0 impl_SumOf_B0 K (n + 1) ((a, (b, (xs, ((xs.length : Int), ((i : Int), ()))))), ()) = K (.exit 0) (impl_SumOf_x0_0 (sums a b (xs.drop i)).1 (sums a b (xs.drop i)).2)
  | 0, i, a, b, h, _, _, _, _ => by
    rw [impl_SumOf_r0, brk_neg (by simp; omega), List.drop_of_length_le (by omega)]
    simp [sums]
  | n + 1, i, a, b, h, ha, ha', hb1, hb2 => by
    have hi : i < xs.length := by omega
    have hr := hx xs[i] (List.getElem_mem hi)
    simp only [big47] at hb
    rw [impl_SumOf_r0, brk_pos (by simp; omega), ck_pos (by simp; omega), rdD_get (List.getElem?_eq_getElem hi)]
    rw [wrap64 (x := xs[i]) (by omega) (by omega), wrap64 (x := a + xs[i]) (by omega) (by omega), tmod_step (x := a + xs[i]) (by omega)]
    rw [wrap64 (x := b + (a + xs[i]) % 65521) (by omega) (by omega), tmod_step (x := b + (a + xs[i]) % 65521) (by omega), wrap64 (by omega) (by omega), show ((i : Int) + 1) = ((i + 1 : Nat) : Int) by simp]
    rw [impl_SumOf_loop K xs hx (by simp only [big47]; omega) n (i + 1) _ _ (by omega) (by omega) (by omega) (by omega) (by omega), List.drop_eq_getElem_cons hi]
    simp only [sums]
theorem sums_bound : ∀ (xs : List Int) (a b : Int), (∀ x ∈ xs, 0 ≤ x ∧ x ≤ 255) → 0 ≤ a → a ≤ 65521 → 0 ≤ b → b ≤ 65521 → 0 ≤ (sums a b xs).1 ∧ (sums a b xs).1 ≤ 65521 ∧ 0 ≤ (sums a b xs).2 ∧ (sums a b xs).2 ≤ 65521
  | [], a, b, _, h1, h2, h3, h4 => ⟨h1, h2, h3, h4⟩
  | x :: xs, a, b, h, h1, h2, h3, h4 => by
    have hr := h x (by simp)
    simp only [sums]
    exact sums_bound xs _ _ (fun y hy => h y (by simp [hy])) (by omega) (by omega) (by omega) (by omega)
def sumB (xs : List Int) : Int := (sums 1 0 xs).2 * 65536 + (sums 1 0 xs).1
theorem sumB_bound {xs : List Int} (h : ∀ x ∈ xs, 0 ≤ x ∧ x ≤ 255) : 0 ≤ sumB xs ∧ sumB xs ≤ 4294967296 := by
  have := sums_bound xs 1 0 h (by omega) (by omega) (by omega) (by omega)
  unfold sumB
  omega
theorem spec_SumOf_ok (xs : List Int) (hx : ∀ x ∈ xs, 0 ≤ x ∧ x ≤ 255) (hb : xs.length ≤ big47) : spec_SumOf_F (xs, ()) = some ((sumB xs, ()), ((), ())) := by
  have hs := sums_bound xs 1 0 hx (by omega) (by omega) (by omega) (by omega)
  rw [spec_SumOf_main]
  have h : iterG spec_SumOf_t0 spec_SumOf_B0 (spec_SumOf_K0 xs) (xs.length + 1) ((xs, ((1 : Int), ((0 : Int), ((0 : Int), ())))), ()) = _ := spec_SumOf_loop (spec_SumOf_K0 xs) xs hx hb xs.length 0 1 0 (by omega) (by omega) (by omega) (by omega) (by omega)
  rw [spec_SumOf_l0 _ h ⟨_, spec_SumOf_e0_0 _ _ _⟩, spec_SumOf_e0_0]
  simp only [List.drop_zero]
  rw [wrap64 (x := (sums 1 0 xs).2 * 65536) (by omega) (by omega), wrap64 (by omega) (by omega)]
  rfl
theorem impl_SumOf_ok (xs : List Int) (hx : ∀ x ∈ xs, 0 ≤ x ∧ x ≤ 255) (hb : xs.length ≤ big47) : impl_SumOf_F (xs, ()) = some ((sumB xs, ()), ((), ())) := by
  have hs := sums_bound xs 1 0 hx (by omega) (by omega) (by omega) (by omega)
  rw [impl_SumOf_main]
  have h : iterG impl_SumOf_t0 impl_SumOf_B0 (impl_SumOf_K0 xs) (xs.length + 1) (((1 : Int), ((0 : Int), (xs, ((xs.length : Int), ((0 : Int), ()))))), ()) = _ := impl_SumOf_loop (impl_SumOf_K0 xs) xs hx hb xs.length 0 1 0 (by omega) (by omega) (by omega) (by omega) (by omega)
  rw [impl_SumOf_l0 _ h ⟨_, impl_SumOf_e0_0 _ _ _⟩, impl_SumOf_e0_0]
  simp only [List.drop_zero]
  rw [wrap64 (x := (sums 1 0 xs).2 * 65536) (by omega) (by omega), wrap64 (by omega) (by omega)]
  rfl
theorem two_has {R : Type} (K : Ex → AS → Option R) (xs : List Int) (v : Int) (hb : xs.length ≤ big47) : ∀ (n i : Nat), i + n = xs.length →
    iterG spec_l2Has_t0 spec_l2Has_B0 K (n + 1) ((xs, (v, ((i : Int), ()))), ()) = if v ∈ xs.drop i then K .ret (spec_l2Has_x0_0 true) else K (.exit 0) spec_l2Has_x0_1
  | 0, i, h => by
    rw [spec_l2Has_r0, brk_neg (by simp; omega), List.drop_of_length_le (by omega)]
    simp
  | n + 1, i, h => by
    have hi : i < xs.length := by omega
    simp only [big47] at hb
    rw [spec_l2Has_r0, brk_pos (by simp; omega), ck_pos (by simp; omega), rdD_get (List.getElem?_eq_getElem hi), List.drop_eq_getElem_cons hi]
    by_cases he : xs[i] = v
    · rw [brk_pos (by simp [he]), if_pos (by rw [he]; exact List.mem_cons_self)]
    · rw [brk_neg (by simp [he]), wrap64 (by omega) (by omega), show ((i : Int) + 1) = ((i + 1 : Nat) : Int) by simp]
      rw [two_has K xs v (by simp only [big47]; omega) n (i + 1) (by omega)]
      have : (v ∈ xs[i] :: xs.drop (i + 1)) ↔ v ∈ xs.drop (i + 1) := by
        rw [List.mem_cons]; exact ⟨fun h => h.resolve_left fun e => he e.symm, .inr⟩
      by_cases hm : v ∈ xs.drop (i + 1)
      · rw [if_pos hm, if_pos (this.2 hm)]
      · rw [if_neg hm, if_neg fun h => hm (this.1 h)]
theorem brk_if {R : Type} (p : Prop) [Decidable p] (a b : Option R) : brk (decide p) a b = if p then a else b := by by_cases h : p <;> simp [h, brk]
theorem n0 : ((0 : Nat) : Int) = 0 := rfl
theorem big47_eq : big47 = 140737488355328 := rfl
theorem spec_l2Has_ok (xs : List Int) (v : Int) (hb : xs.length ≤ big47) : spec_l2Has_F (xs, (v, ())) = some ((decide (v ∈ xs), ()), ((), ((), ()))) := by
  rw [spec_l2Has_main]
  have h := two_has (spec_l2Has_K0 xs v) xs v hb xs.length 0 (by omega)
  rw [List.drop_zero, n0] at h
  by_cases hm : v ∈ xs
  · rw [if_pos hm] at h
    rw [spec_l2Has_l0 _ h ⟨_, spec_l2Has_e0_0 _ _ _⟩, spec_l2Has_e0_0, decide_eq_true hm]
  · rw [if_neg hm] at h
    rw [spec_l2Has_l0 _ h ⟨_, spec_l2Has_e0_1 _ _⟩, spec_l2Has_e0_1, decide_eq_false hm]
theorem Index_loop {R : Type} (K : Ex → AS → Option R) (xs : List Int) (v : Int) (hb : xs.length ≤ big47) : ∀ (n i : Nat), i + n = xs.length →
    (v ∈ xs.drop i ∧ ∃ j : Nat, iterG slices_Index_int_t0 slices_Index_int_B0 K (n + 1) ((xs, (v, ((xs.length : Int), ((i : Int), ())))), ()) = K .ret (slices_Index_int_x0_0 (j : Int))) ∨
    (v ∉ xs.drop i ∧ iterG slices_Index_int_t0 slices_Index_int_B0 K (n + 1) ((xs, (v, ((xs.length : Int), ((i : Int), ())))), ()) = K (.exit 0) slices_Index_int_x0_1)
  | 0, i, h => by
    right
    rw [slices_Index_int_r0, brk_neg (by simp; omega), List.drop_of_length_le (by omega)]
    simp
  | n + 1, i, h => by
    have hi : i < xs.length := by omega
    simp only [big47] at hb
    rw [slices_Index_int_r0, brk_pos (by simp; omega), ck_pos (by simp; omega), rdD_get (List.getElem?_eq_getElem hi), List.drop_eq_getElem_cons hi]
    by_cases he : v = xs[i]
    · left
      rw [brk_pos (by simp [he])]
      exact ⟨by rw [← he]; exact List.mem_cons_self, i, rfl⟩
    · rw [brk_neg (by simp [he]), wrap64 (by omega) (by omega), show ((i : Int) + 1) = ((i + 1 : Nat) : Int) by simp]
      rcases Index_loop K xs v (by simp only [big47]; omega) n (i + 1) (by omega) with ⟨h1, j, h2⟩ | ⟨h1, h2⟩
      · exact .inl ⟨List.mem_cons_of_mem _ h1, j, h2⟩
      · exact .inr ⟨fun hm => (List.mem_cons.1 hm).elim he h1, h2⟩
theorem slices_Index_int_ok (xs : List Int) (v : Int) (hb : xs.length ≤ big47) : ∃ r : Int, slices_Index_int_F (xs, (v, ())) = some ((r, ()), ((), ((), ()))) ∧ (0 ≤ r ↔ v ∈ xs) := by
  rw [slices_Index_int_main]
  rcases Index_loop (slices_Index_int_K0 xs v) xs v hb xs.length 0 (by omega) with ⟨h1, j, h2⟩ | ⟨h1, h2⟩
  · rw [n0] at h2
    exact ⟨j, by rw [slices_Index_int_l0 _ h2 ⟨_, slices_Index_int_e0_0 _ _ _⟩, slices_Index_int_e0_0], by simp at h1; simp [h1]⟩
  · rw [n0] at h2
    exact ⟨-1, by rw [slices_Index_int_l0 _ h2 ⟨_, slices_Index_int_e0_1 _ _⟩, slices_Index_int_e0_1], by simp at h1; simp [h1]⟩
theorem slices_Contains_int_ok (xs : List Int) (v : Int) (hb : xs.length ≤ big47) : slices_Contains_int_F (xs, (v, ())) = some ((decide (v ∈ xs), ()), ((), ((), ()))) := by
  obtain ⟨r, h1, h2⟩ := slices_Index_int_ok xs v hb
  rw [slices_Contains_int_main, h1]
  simp only [Option.bind_some, h2]
theorem impl_from_ok (x lo hi : Int) : impl_from_F (x, (lo, (hi, ()))) = some ((decide (lo ≤ x ∧ x ≤ hi), ()), ((), ((), ((), ())))) := by
  rw [impl_from_main, brk_if]
  by_cases h : lo ≤ x <;> simp [h]
theorem impl_from_z (z : PsD [.ro tI, .ro tI, .ro tI]) : impl_from_F z = some ((decide (z.2.1 ≤ z.1 ∧ z.1 ≤ z.2.2.1), ()), ((), ((), ((), ())))) := impl_from_ok z.1 z.2.1 z.2.2.1
theorem impl_isCell_z (z : PsD [.ro tI]) : impl_isCell_F z = some ((decide (0 ≤ z.1 ∧ z.1 ≤ 7), ()), ((), ())) := by rw [show z = (z.1, ()) from rfl, impl_isCell_main, impl_from_ok]; rfl
theorem impl_isWrite_z (z : PsD [.ro tI]) : impl_isWrite_F z = some ((decide (1 ≤ z.1 ∧ z.1 ≤ 200), ()), ((), ())) := by rw [show z = (z.1, ()) from rfl, impl_isWrite_main, impl_from_ok]; rfl
theorem impl_isNode_z (z : PsD [.ro tI]) : impl_isNode_F z = some ((decide (0 ≤ z.1 ∧ z.1 ≤ 2), ()), ((), ())) := by rw [show z = (z.1, ()) from rfl, impl_isNode_main, impl_from_ok]; rfl
theorem spec_l1In_ok' (x lo hi : Int) : spec_l1In_F (x, (lo, (hi, ()))) = some ((decide (lo ≤ x ∧ x ≤ hi), ()), ((), ((), ((), ())))) := by
  rw [spec_l1In_ok]
  by_cases h : lo ≤ x <;> simp [h]
theorem spec_l1In_z (z : PsD [.ro tI, .ro tI, .ro tI]) : spec_l1In_F z = some ((decide (z.2.1 ≤ z.1 ∧ z.1 ≤ z.2.2.1), ()), ((), ((), ((), ())))) := spec_l1In_ok' z.1 z.2.1 z.2.2.1
theorem spec_l1Bit_z (z : PsD [.ro tB]) : spec_l1Bit_F z = some ((if z.1 = true then 1 else 0, ()), ((), ())) := by rw [show z = (z.1, ()) from rfl, spec_l1Bit_main]; cases z.1 <;> rfl
def gensAll : List Int → List Int → Bool
  | _, [] => true
  | pre, x :: xs => decide (1 ≤ x ∧ x ≤ 100000) && !decide (x ∈ pre) && gensAll (pre ++ [x]) xs
def gensB (g : List Int) : Bool := gensAll [] g && decide (g.length ≤ 12)
theorem take_next {α : Type} {xs : List α} {i : Nat} (hi : i < xs.length) : xs.take (i + 1) = xs.take i ++ [xs[i]] := List.take_succ_eq_append_getElem hi
theorem spec_GensOk_loop {R : Type} (K : Ex → AS → Option R) (xs : List Int) (hb : xs.length ≤ big47) : ∀ (n i : Nat), i + n = xs.length →
    iterG spec_GensOk_t0 spec_GensOk_B0 K (n + 1) ((xs, ((i : Int), ())), ()) = brk (gensAll (xs.take i) (xs.drop i)) (K (.exit 0) (spec_GensOk_x0_1 xs)) (K .ret (spec_GensOk_x0_0 xs false))
  | 0, i, h => by
    rw [spec_GensOk_r0, brk_neg (by simp; omega), List.drop_of_length_le (by omega), brk_pos (by simp [gensAll])]
  | n + 1, i, h => by
    have hi : i < xs.length := by omega
    have hb' := hb
    simp only [big47] at hb
    rw [spec_GensOk_r0, brk_pos (by simp; omega), ck_pos (by simp; omega), rdD_get (List.getElem?_eq_getElem hi), spec_l1In_ok', List.drop_eq_getElem_cons hi]
    simp only [Option.bind_some, gensAll]
    by_cases h1 : 1 ≤ xs[i] ∧ xs[i] ≤ 100000
    · rw [decide_eq_true h1, Bool.not_true, brk_false, ck_pos (by simp; omega), ck_pos (by simp; omega), spec_l2Has_ok _ _ (by simp; omega)]
      simp only [Option.bind_some, Int.toNat_zero, List.drop_zero, Int.toNat_natCast, Bool.true_and]
      by_cases h2 : xs[i] ∈ xs.take i
      · rw [decide_eq_true h2]; simp
      · rw [decide_eq_false h2, brk_false, wrap64 (by omega) (by omega), show ((i : Int) + 1) = ((i + 1 : Nat) : Int) by simp, spec_GensOk_loop K xs hb' n (i + 1) (by omega), take_next hi]
        simp
    · rw [decide_eq_false h1]; simp
theorem spec_GensOk_ok (xs : List Int) (hb : xs.length ≤ big47) : spec_GensOk_F (xs, ()) = some ((gensB xs, ()), ((), ())) := by
  rw [spec_GensOk_main]
  have h : iterG spec_GensOk_t0 spec_GensOk_B0 (spec_GensOk_K0 xs) (xs.length + 1) ((xs, ((0 : Int), ())), ()) = _ := spec_GensOk_loop (spec_GensOk_K0 xs) xs hb xs.length 0 (by omega)
  simp only [List.take_zero, List.drop_zero] at h
  unfold gensB
  by_cases hg : gensAll [] xs = true
  · rw [brk_pos hg] at h
    rw [spec_GensOk_l0 _ h ⟨_, spec_GensOk_e0_1 _ _⟩, spec_GensOk_e0_1, hg]
    simp
    omega
  · rw [brk_neg (by simpa using hg)] at h
    rw [spec_GensOk_l0 _ h ⟨_, spec_GensOk_e0_0 _ _ _⟩, spec_GensOk_e0_0]
    simp [hg]
theorem impl_GensOk_loop {R : Type} (K : Ex → AS → Option R) (xs : List Int) (hb : xs.length ≤ big47) : ∀ (n i : Nat), i + n = xs.length →
    iterG impl_GensOk_t0 impl_GensOk_B0 K (n + 1) ((xs, (xs, ((xs.length : Int), ((i : Int), ())))), ()) = brk (gensAll (xs.take i) (xs.drop i)) (K (.exit 0) (impl_GensOk_x0_1 xs)) (K .ret (impl_GensOk_x0_0 xs false))
  | 0, i, h => by
    rw [impl_GensOk_r0, brk_neg (by simp; omega), List.drop_of_length_le (by omega), brk_pos (by simp [gensAll])]
  | n + 1, i, h => by
    have hi : i < xs.length := by omega
    have hb' := hb
    simp only [big47] at hb
    rw [impl_GensOk_r0, brk_pos (by simp; omega), ck_pos (by simp; omega), rdD_get (List.getElem?_eq_getElem hi), impl_from_ok, List.drop_eq_getElem_cons hi]
    simp only [Option.bind_some, gensAll]
    by_cases h1 : 1 ≤ xs[i] ∧ xs[i] ≤ 100000
    · rw [decide_eq_true h1, Bool.not_true, brk_false, ck_pos (by simp; omega), slices_Contains_int_ok _ _ (by simp; omega)]
      simp only [Option.bind_some, Int.toNat_zero, List.drop_zero, Int.toNat_natCast, Bool.true_and]
      by_cases h2 : xs[i] ∈ xs.take i
      · rw [decide_eq_true h2]; simp
      · rw [decide_eq_false h2, brk_false, wrap64 (by omega) (by omega), show ((i : Int) + 1) = ((i + 1 : Nat) : Int) by simp, impl_GensOk_loop K xs hb' n (i + 1) (by omega), take_next hi]
        simp
    · rw [decide_eq_false h1]; simp
theorem impl_GensOk_ok (xs : List Int) (hb : xs.length ≤ big47) : impl_GensOk_F (xs, ()) = some ((gensB xs, ()), ((), ())) := by
  rw [impl_GensOk_main]
  have h : iterG impl_GensOk_t0 impl_GensOk_B0 (impl_GensOk_K0 xs) (xs.length + 1) ((xs, (xs, ((xs.length : Int), ((0 : Int), ())))), ()) = _ := impl_GensOk_loop (impl_GensOk_K0 xs) xs hb xs.length 0 (by omega)
  simp only [List.take_zero, List.drop_zero] at h
  unfold gensB
  by_cases hg : gensAll [] xs = true
  · rw [brk_pos hg] at h
    rw [impl_GensOk_l0 _ h ⟨_, impl_GensOk_e0_1 _ _⟩, impl_GensOk_e0_1, hg]
    simp
    omega
  · rw [brk_neg (by simpa using hg)] at h
    rw [impl_GensOk_l0 _ h ⟨_, impl_GensOk_e0_0 _ _ _⟩, impl_GensOk_e0_0]
    simp [hg]
/-- Is a message right? -/
def msgOkB (k c v w : Int) (g : List Int) : Bool :=
  if k = 5 then gensB g && decide (0 ≤ v ∧ v ≤ 200) && decide (c = 0) && decide (w = 0)
  else if k = 3 then decide (0 ≤ c ∧ c ≤ 7) && decide (1 ≤ v ∧ v ≤ 200) && decide (0 ≤ w ∧ w ≤ 2) && decide (g.length = 0)
  else if k = 1 then decide (0 ≤ c ∧ c ≤ 7) && decide (1 ≤ v ∧ v ≤ 200) && decide (w = 0) && decide (g.length = 0)
  else if k = 2 ∨ k = 4 then decide (0 ≤ c ∧ c ≤ 7) && decide (0 ≤ v ∧ v ≤ 200) && decide (w = 0) && decide (g.length = 0)
  else false
theorem impl_MsgOk_ok (k c v w : Int) (g : List Int) (hb : g.length ≤ big47) : impl_MsgOk_F ((k, (c, (v, (w, (g, ()))))), ()) = some ((msgOkB k c v w g, ()), ((), ())) := by
  rw [impl_MsgOk_main]
  simp only [impl_GensOk_ok g hb, impl_from_z, impl_isCell_z, impl_isWrite_z, impl_isNode_z, Option.bind_some]
  simp only [brk_if]
  unfold msgOkB
  by_cases h5 : k = 5
  · subst h5
    simp only [if_true]
    cases gensB g <;> by_cases h1 : 0 ≤ v ∧ v ≤ 200 <;> by_cases h2 : c = 0 <;> simp [h1, h2, brk]
  · simp only [if_neg h5]
    by_cases h3 : k = 3
    · simp only [if_pos h3]
      by_cases h1 : 0 ≤ c ∧ c ≤ 7 <;> by_cases h2 : 1 ≤ v ∧ v ≤ 200 <;> by_cases h4 : 0 ≤ w ∧ w ≤ 2 <;> simp [h1, h2, h4]
    · simp only [if_neg h3]
      by_cases h1 : k = 1
      · simp only [if_pos h1]
        by_cases h1 : 0 ≤ c ∧ c ≤ 7 <;> by_cases h2 : 1 ≤ v ∧ v ≤ 200 <;> by_cases h4 : w = 0 <;> simp [h1, h2, h4]
      · simp only [if_neg h1]
        by_cases h2 : k = 2
        · simp only [h2, true_or, if_true]
          by_cases h1 : 0 ≤ c ∧ c ≤ 7 <;> by_cases h2 : 0 ≤ v ∧ v ≤ 200 <;> by_cases h4 : w = 0 <;> simp [h1, h2, h4]
        · simp only [h2, false_or]
          by_cases h4 : k = 4
          · simp only [if_pos h4]
            by_cases h1 : 0 ≤ c ∧ c ≤ 7 <;> by_cases h2 : 0 ≤ v ∧ v ≤ 200 <;> by_cases h4 : w = 0 <;> simp [h1, h2, h4]
          · simp only [h4, if_false]
theorem spec_MsgOk_ok (k c v w : Int) (g : List Int) (hb : g.length ≤ big47) : spec_MsgOk_F ((k, (c, (v, (w, (g, ()))))), ()) = some ((msgOkB k c v w g, ()), ((), ())) := by
  rw [spec_MsgOk_main]
  simp only [spec_GensOk_ok g hb, spec_l1In_z, spec_l1Bit_z, Option.bind_some]
  simp only [brk_if]
  unfold msgOkB
  by_cases h5 : k = 5
  · subst h5
    simp only [if_true]
    cases gensB g <;> by_cases h1 : 0 ≤ v ∧ v ≤ 200 <;> by_cases h2 : c = 0 <;> simp [h1, h2, brk]
  · simp only [if_neg h5]
    have e0 : IntKind.i64.wrap 0 = 0 := by decide
    have e1 : IntKind.i64.wrap 1 = 1 := by decide
    by_cases h1 : k = 1
    · subst h1
      by_cases h1 : 0 ≤ c ∧ c ≤ 7 <;> by_cases h2 : 1 ≤ v ∧ v ≤ 200 <;> by_cases h4 : w = 0 <;> by_cases h5 : g = [] <;> simp [h1, h2, h4, h5, e0, e1]
    · by_cases h2 : k = 2
      · subst h2
        by_cases h1 : 0 ≤ c ∧ c ≤ 7 <;> by_cases h2 : 0 ≤ v ∧ v ≤ 200 <;> by_cases h4 : w = 0 <;> by_cases h5 : g = [] <;> simp [h1, h2, h4, h5, e0, e1]
      · by_cases h3 : k = 3
        · subst h3
          by_cases h1 : 0 ≤ c ∧ c ≤ 7 <;> by_cases h2 : 1 ≤ v ∧ v ≤ 200 <;> by_cases h4 : 0 ≤ w ∧ w ≤ 2 <;> by_cases h5 : g = [] <;> simp [h1, h2, h4, h5, e0, e1] <;> omega
        · by_cases h4 : k = 4
          · subst h4
            by_cases h1 : 0 ≤ c ∧ c ≤ 7 <;> by_cases h2 : 0 ≤ v ∧ v ≤ 200 <;> by_cases h4 : w = 0 <;> by_cases h5 : g = [] <;> simp [h1, h2, h4, h5, e0, e1]
          · simp [h1, h2, h3, h4]
theorem wrap8m (x : Int) : IntKind.u8.wrap x = x % 256 := by
  simp only [IntKind.wrap, IntKind.signed, IntKind.bits]
  simp
theorem and_nat {x y : Nat} (hx : x < 9223372036854775808) (hy : y < 9223372036854775808) : andN .i64 (x : Int) (y : Int) = ((x &&& y : Nat) : Int) := by
  unfold andN
  have e : (BitVec.ofInt IntKind.i64.bits (x : Int) &&& BitVec.ofInt IntKind.i64.bits (y : Int)).toNat = x &&& y := by
    rw [BitVec.ofInt_natCast, BitVec.ofInt_natCast, BitVec.toNat_and, BitVec.toNat_ofNat, BitVec.toNat_ofNat]
    simp only [IntKind.bits]
    rw [Nat.mod_eq_of_lt (by omega), Nat.mod_eq_of_lt (by omega)]
  rw [e]
  have : x &&& y ≤ x := Nat.and_le_left
  exact wrap64 (by omega) (by omega)
theorem and255 {x : Int} (h0 : 0 ≤ x) (h1 : x < 9223372036854775808) : andN .i64 x 255 = x % 256 := by
  obtain ⟨n, rfl⟩ := Int.eq_ofNat_of_zero_le h0
  rw [show (255 : Int) = ((255 : Nat) : Int) from rfl, and_nat (by omega) (by omega), show (255 : Nat) = 2 ^ 8 - 1 from rfl, Nat.and_two_pow_sub_one_eq_mod]
  simp
theorem shr8 (x : Int) : shrN .i64 x 8 = x / 256 := by
  unfold shrN; rw [Int.fdiv_eq_ediv_of_nonneg _ (by decide)]; rfl
theorem shr16 (x : Int) : shrN .i64 x 16 = x / 65536 := by
  unfold shrN; rw [Int.fdiv_eq_ediv_of_nonneg _ (by decide)]; rfl
theorem shr24 (x : Int) : shrN .i64 x 24 = x / 16777216 := by
  unfold shrN; rw [Int.fdiv_eq_ediv_of_nonneg _ (by decide)]; rfl
def fourB (x : Int) : List Int := [x % 256, x / 256 % 256, x / 65536 % 256, x / 16777216 % 256]
theorem impl_four_ok (x : Int) : impl_four_F (x, ()) = some ((fourB x, ()), ((), ())) := by
  rw [impl_four_main, shr8, shr16, shr24, wrap8m, wrap8m, wrap8m, wrap8m]; rfl
theorem spec_l4Sum_ok (x : Int) (h0 : 0 ≤ x) (h1 : x ≤ 4611686018427387904) : spec_l4Sum_F (x, ()) = some ((fourB x, ()), ((), ())) := by
  rw [spec_l4Sum_main, shr8, shr16, shr24, and255 h0 (by omega), and255 (by omega) (by omega), and255 (by omega) (by omega), and255 (by omega) (by omega), wrap8m, wrap8m, wrap8m, wrap8m]
  simp only [Int.emod_emod_of_dvd _ (Int.dvd_refl 256)]
  rfl
theorem numB_range : ∀ (k n : Nat), n < 128 ^ (k + 1) → ∀ b ∈ numB n, 0 ≤ b ∧ b ≤ 255
  | 0, n, h, b, hb => by rw [numB_small (by omega)] at hb; simp at hb; omega
  | k + 1, n, h, b, hb => by
    by_cases hn : n ≤ 127
    · rw [numB_small hn] at hb; simp at hb; omega
    · rw [numB_big hn] at hb
      rcases List.mem_cons.1 hb with rfl | hb
      · omega
      · exact numB_range k (n / 128) (by rw [Nat.div_lt_iff_lt_mul (by omega)]; rw [Nat.pow_succ] at h; exact h) b hb
theorem putN_range (x : Int) : ∀ b ∈ putN x, 0 ≤ b ∧ b ≤ 255 := by
  unfold putN
  split
  · exact numB_range 4 _ (by omega)
  · simp
theorem putNs_range (xs : List Int) : ∀ b ∈ putNs xs, 0 ≤ b ∧ b ≤ 255 := fun b hb => by
  obtain ⟨x, _, hb⟩ := List.mem_flatMap.1 hb
  exact putN_range x b hb
theorem bodyB_range (x : tMsg.D) : ∀ b ∈ bodyB x, 0 ≤ b ∧ b ≤ 255 := fun b hb => by
  rcases List.mem_append.1 hb with hb | hb <;> exact putNs_range _ b hb
theorem bodyB_len (x : tMsg.D) : (bodyB x).length ≤ 25 + x.2.2.2.2.1.length * 5 := by
  have h1 := putNs_len [x.1, x.2.1, x.2.2.1, x.2.2.2.1, (x.2.2.2.2.1.length : Int)]
  have h2 := putNs_len x.2.2.2.2.1
  simp only [bodyB, List.length_append]
  simp only [List.length_cons, List.length_nil] at h1
  omega
/-- A message's bytes. -/
def msgB (x : tMsg.D) : List Int := if msgOkB x.1 x.2.1 x.2.2.1 x.2.2.2.1 x.2.2.2.2.1 = true then putN ((bodyB x).length : Int) ++ bodyB x ++ fourB (sumB (bodyB x)) else []
theorem msgB_len (x : tMsg.D) : (msgB x).length ≤ 34 + x.2.2.2.2.1.length * 5 := by
  unfold msgB
  split
  · have h1 := putN_len ((bodyB x).length : Int)
    have h2 := bodyB_len x
    simp only [List.length_append, fourB, List.length_cons, List.length_nil]
    omega
  · simp
theorem spec_MsgBytes_ok (x : tMsg.D) (hx : x.2.2.2.2.1.length ≤ 1500000) : spec_MsgBytes_F (x, ()) = some ((msgB x, ()), ((), ())) := by
  obtain ⟨k, c, v, w, g, u⟩ := x
  cases u
  simp only at hx
  have hl := bodyB_len (k, c, v, w, g, ())
  have hr := sumB_bound (bodyB_range (k, c, v, w, g, ()))
  simp only at hl
  rw [spec_MsgBytes_main]
  simp only
  rw [spec_MsgOk_ok k c v w g (by simp only [big47]; omega)]
  simp only [Option.bind_some]
  unfold msgB
  by_cases h : msgOkB k c v w g = true
  · have hp := putN_len ((bodyB (k, c, v, w, g, ())).length : Int)
    rw [h, Bool.not_true, brk_false, if_pos rfl, spec_l4Body_ok (k, c, v, w, g, ()) (by simp only; omega)]
    simp only [Option.bind_some]
    rw [spec_PutNum_ok]
    simp only [Option.bind_some]
    rw [ck_pos (decide_eq_true (by rw [big47_eq]; omega)), spec_SumOf_ok _ (bodyB_range _) (by simp only [big47]; omega)]
    simp only [Option.bind_some]
    rw [spec_l4Sum_ok _ hr.1 (by omega)]
    simp only [Option.bind_some]
    rw [ck_pos (decide_eq_true (by rw [big47_eq]; simp only [List.length_append, fourB, List.length_cons, List.length_nil]; omega))]
  · rw [if_neg h, brk_pos (by simpa using h)]
theorem impl_MsgBytes_ok (x : tMsg.D) (hx : x.2.2.2.2.1.length ≤ 1500000) : impl_MsgBytes_F (x, ()) = some ((msgB x, ()), ((), ())) := by
  obtain ⟨k, c, v, w, g, u⟩ := x
  cases u
  simp only at hx
  have hl := bodyB_len (k, c, v, w, g, ())
  have hr := sumB_bound (bodyB_range (k, c, v, w, g, ()))
  simp only at hl
  rw [impl_MsgBytes_main]
  simp only
  rw [impl_MsgOk_ok k c v w g (by simp only [big47]; omega)]
  simp only [Option.bind_some]
  unfold msgB
  by_cases h : msgOkB k c v w g = true
  · have hp := putN_len ((bodyB (k, c, v, w, g, ())).length : Int)
    have hb : putNs [k, c, v, w] ++ putNs ((g.length : Int) :: g) = bodyB (k, c, v, w, g, ()) := by simp [bodyB, putNs]
    rw [h, Bool.not_true, brk_false, if_pos rfl, impl_putNums_ok _ (by simp), impl_putList_ok _ (by omega)]
    simp only [Option.bind_some]
    have hbl := congrArg List.length hb
    rw [List.length_append] at hbl
    rw [ck_pos (decide_eq_true (by rw [big47_eq]; omega)), hb, impl_PutNum_ok]
    simp only [Option.bind_some]
    rw [ck_pos (decide_eq_true (by rw [big47_eq]; omega)), impl_SumOf_ok _ (bodyB_range _) (by simp only [big47]; omega)]
    simp only [Option.bind_some]
    rw [impl_four_ok]
    simp only [Option.bind_some]
    rw [ck_pos (decide_eq_true (by rw [big47_eq]; simp only [List.length_append, fourB, List.length_cons, List.length_nil]; omega))]
  · rw [if_neg h, brk_pos (by simpa using h)]
/-- A loop that counts up: a round ends it, or goes on. -/
theorem for_loop {R σ : Type} {G : Nat → Nat → σ → Option R} (N : Nat) (Inv : Nat → σ → Prop) (Post : Option R → Prop)
    (hs : ∀ i s, i < N → Inv i s → (∃ v, Post v ∧ ∀ n, G (n + 1) i s = v) ∨ (∃ s', Inv (i + 1) s' ∧ ∀ n, G (n + 1) i s = G n (i + 1) s'))
    (hf : ∀ s, Inv N s → ∃ v, Post v ∧ ∀ n, G (n + 1) N s = v) (s : σ) (h : Inv 0 s) : ∃ n v, G n 0 s = v ∧ Post v := by
  have key : ∀ (k i : Nat) (s : σ), i + k = N → Inv i s → ∃ n v, G n i s = v ∧ Post v := by
    intro k
    induction k with
    | zero =>
      intro i s hi h
      have : i = N := by omega
      subst this
      obtain ⟨v, hv, hg⟩ := hf s h
      exact ⟨1, v, hg 0, hv⟩
    | succ k ih =>
      intro i s hi h
      rcases hs i s (by omega) h with ⟨v, hv, hg⟩ | ⟨s', h', hg⟩
      · exact ⟨1, v, hg 0, hv⟩
      · obtain ⟨n, v, hn, hv⟩ := ih (i + 1) s' (by omega) h'
        exact ⟨n + 1, v, (hg n).trans hn, hv⟩
  exact key N 0 s (by omega) h
theorem step_nat (i : Nat) (h : i ≤ 4611686018427387904) : IntKind.i64.wrap ((i : Int) + 1) = ((i + 1 : Nat) : Int) := by
  rw [wrap64 (by omega) (by omega)]; rfl
theorem rdD_nat {t : Ty} (xs : List t.D) (i : Nat) : rdD t xs (i : Int) = xs.getD i t.zero := rfl
theorem getD_at {α : Type} {xs : List α} {i : Nat} {d : α} (h : i < xs.length) : xs.getD i d = xs[i] := by simp [h]
theorem ck_idx {R : Type} {i n : Nat} (h : i < n) (a : Option R) : ck (decide ((0 : Int) ≤ (i : Int)) && decide ((i : Int) < (n : Int))) a = a := ck_pos (by simp; omega) a
theorem brk_lt {R : Type} {i n : Nat} (h : i < n) (a b : Option R) : brk (decide ((i : Int) < (n : Int))) a b = a := brk_pos (by simp; omega) a b
theorem brk_nlt {R : Type} {i n : Nat} (h : ¬ i < n) (a b : Option R) : brk (decide ((i : Int) < (n : Int))) a b = b := brk_neg (by simp; omega) a b
theorem brk_nneg {R : Type} {x : Int} (h : 0 ≤ x) (a b : Option R) : brk (decide (x < 0)) a b = b := brk_neg (decide_eq_false (Int.not_lt.2 h)) a b
def Byte (b : List Int) : Prop := ∀ x ∈ b, (0 : Int) ≤ x ∧ x ≤ 255
theorem fourB_byte (n : Int) : Byte (fourB n) := fun x hx => by
  unfold fourB at hx
  simp only [List.mem_cons, List.not_mem_nil, or_false] at hx
  omega
def Nums (xs : List Int) : Prop := ∀ x ∈ xs, 0 ≤ x ∧ x ≤ 2147483647
theorem gensAll_in : ∀ {g seen : List Int}, gensAll seen g = true → ∀ x ∈ g, 1 ≤ x ∧ x ≤ 100000
  | [], _, _, x, hx => by cases hx
  | y :: g, seen, h, x, hx => by
    unfold gensAll at h
    simp only [Bool.and_eq_true, decide_eq_true_eq] at h
    rcases List.mem_cons.1 hx with rfl | hx
    · omega
    · exact gensAll_in h.2 x hx
theorem gens_nums {g : List Int} (h : gensB g = true) : Nums g := fun x hx => by
  unfold gensB at h
  rw [Bool.and_eq_true] at h
  have := gensAll_in h.1 x hx
  omega
/-- A run from n on (d: how many more it may have). -/
def runF (b : List Int) (at_ back : Nat) : Nat → Nat → Nat
  | 0, n => n
  | d + 1, n => if at_ + n < b.length ∧ b.getD (at_ + n) 0 = b.getD (at_ + n - back) 0 then runF b at_ back d (n + 1) else n
/-- Run. -/
def runP (b : List Int) (at_ back : Nat) : Nat := runF b at_ back 100 0
/-- The longest run, and how far behind it is (d: how many more places behind are tried). -/
def bestF (b : List Int) (at_ : Nat) : Nat → Nat → Nat × Nat → Nat × Nat
  | 0, _, r => r
  | d + 1, back, r => bestF b at_ d (back + 1) (if runP b at_ back > r.1 then (runP b at_ back, back) else r)
def bestP (b : List Int) (at_ : Nat) : Nat × Nat := bestF b at_ (min 255 at_) 1 (0, 0)
def squF (b : List Int) : Nat → Nat → List Int
  | 0, _ => []
  | d + 1, at_ => if at_ < b.length then
      if (bestP b at_).1 ≥ 3 then ((128 + (bestP b at_).1 : Nat) : Int) :: ((bestP b at_).2 : Int) :: squF b d (at_ + (bestP b at_).1)
      else if b.getD at_ 0 > 0 ∧ b.getD at_ 0 < 128 then b.getD at_ 0 :: squF b d (at_ + 1)
      else 0 :: b.getD at_ 0 :: squF b d (at_ + 1)
    else []
/-- Squeeze. -/
def squP (b : List Int) : List Int := if b.length > 3000 then [] else squF b b.length 0
theorem runF_spec (b : List Int) (at_ back : Nat) : ∀ (d n : Nat), at_ + n ≤ b.length → (∀ j, j < n → b.getD (at_ + j) 0 = b.getD (at_ + j - back) 0) →
    n ≤ runF b at_ back d n ∧ runF b at_ back d n ≤ n + d ∧ at_ + runF b at_ back d n ≤ b.length ∧ ∀ j, j < runF b at_ back d n → b.getD (at_ + j) 0 = b.getD (at_ + j - back) 0
  | 0, n, h1, h2 => ⟨Nat.le_refl _, Nat.le_refl _, h1, h2⟩
  | d + 1, n, h1, h2 => by
    unfold runF
    by_cases h : at_ + n < b.length ∧ b.getD (at_ + n) 0 = b.getD (at_ + n - back) 0
    · rw [if_pos h]
      obtain ⟨q1, q2, q3, q4⟩ := runF_spec b at_ back d (n + 1) (by omega) (fun j hj => by
        by_cases e : j = n
        · subst e; exact h.2
        · exact h2 j (by omega))
      exact ⟨by omega, by omega, q3, q4⟩
    · rw [if_neg h]
      exact ⟨Nat.le_refl _, by omega, h1, h2⟩
theorem runP_spec (b : List Int) (at_ back : Nat) (h : at_ ≤ b.length) : runP b at_ back ≤ 100 ∧ at_ + runP b at_ back ≤ b.length ∧ ∀ j, j < runP b at_ back → b.getD (at_ + j) 0 = b.getD (at_ + j - back) 0 := by
  obtain ⟨_, q2, q3, q4⟩ := runF_spec b at_ back 100 0 (by omega) (fun j hj => by omega)
  exact ⟨by unfold runP; omega, q3, q4⟩
theorem bestF_spec (b : List Int) (at_ : Nat) : ∀ (d back : Nat) (r : Nat × Nat), back + d = min 255 at_ + 1 → 1 ≤ back → (r = (0, 0) ∨ (1 ≤ r.2 ∧ r.2 ≤ min 255 at_ ∧ r.1 = runP b at_ r.2)) →
    bestF b at_ d back r = (0, 0) ∨ (1 ≤ (bestF b at_ d back r).2 ∧ (bestF b at_ d back r).2 ≤ min 255 at_ ∧ (bestF b at_ d back r).1 = runP b at_ (bestF b at_ d back r).2)
  | 0, back, r, h1, h2, h3 => h3
  | d + 1, back, r, h1, h2, h3 => by
    unfold bestF
    refine bestF_spec b at_ d (back + 1) _ (by omega) (by omega) ?_
    split
    · exact .inr ⟨h2, by omega, rfl⟩
    · exact h3
theorem bestP_spec (b : List Int) (at_ : Nat) : bestP b at_ = (0, 0) ∨ (1 ≤ (bestP b at_).2 ∧ (bestP b at_).2 ≤ min 255 at_ ∧ (bestP b at_).1 = runP b at_ (bestP b at_).2) :=
  bestF_spec b at_ _ _ _ (by omega) (by omega) (.inl rfl)
theorem bestP_use (b : List Int) (at_ : Nat) (h : at_ ≤ b.length) (h3 : (bestP b at_).1 ≥ 3) : 1 ≤ (bestP b at_).2 ∧ (bestP b at_).2 ≤ 255 ∧ (bestP b at_).2 ≤ at_ ∧ (bestP b at_).1 ≤ 100 ∧ at_ + (bestP b at_).1 ≤ b.length ∧ ∀ j, j < (bestP b at_).1 → b.getD (at_ + j) 0 = b.getD (at_ + j - (bestP b at_).2) 0 := by
  rcases bestP_spec b at_ with e | ⟨e1, e2, e3⟩
  · rw [e] at h3; omega
  · have hs := runP_spec b at_ (bestP b at_).2 h
    rw [← e3] at hs
    exact ⟨e1, by omega, by omega, hs.1, hs.2.1, hs.2.2⟩
theorem squF_length (b : List Int) : ∀ (d at_ : Nat), at_ ≤ b.length → (squF b d at_).length ≤ 2 * (b.length - at_)
  | 0, at_, h => by simp [squF]
  | d + 1, at_, h => by
    unfold squF
    by_cases h0 : at_ < b.length
    · rw [if_pos h0]
      by_cases h3 : (bestP b at_).1 ≥ 3
      · rw [if_pos h3]
        obtain ⟨_, _, _, _, q, _⟩ := bestP_use b at_ h h3
        have := squF_length b d (at_ + (bestP b at_).1) q
        simp only [List.length_cons]; omega
      · rw [if_neg h3]
        have := squF_length b d (at_ + 1) (by omega)
        split <;> (simp only [List.length_cons]; omega)
    · rw [if_neg h0]; simp
theorem squP_len (b : List Int) : (squP b).length ≤ 6000 := by
  unfold squP
  split
  · simp
  · have := squF_length b b.length 0 (by omega); omega
theorem spec_l1Min_ok (a : Nat) : spec_l1Min_F ((a : Int), ((255 : Int), ())) = some ((((min 255 a : Nat) : Int), ()), ((), ((), ()))) := by
  rw [spec_l1Min_main]
  by_cases h : (a : Int) < 255
  · rw [brk_pos (decide_eq_true h), show min 255 a = a by omega]
  · rw [brk_neg (decide_eq_false h), show min 255 a = 255 by omega]; rfl
theorem impl_Run_ok (b : List Int) (at_ back : Nat) (h1 : 1 ≤ back) (h2 : back ≤ 255) (h3 : back ≤ at_) (h4 : at_ < b.length) (hb : b.length ≤ 3000000) : impl_Run_F (b, ((at_ : Int), ((back : Int), ()))) = some ((((runP b at_ back : Nat) : Int), ()), ((), ((), ((), ())))) := by
  rw [impl_Run_main]
  rw [brk_neg (decide_eq_false (by omega)), brk_neg (decide_eq_false (by omega)), brk_neg (decide_eq_false (by omega)), brk_neg (decide_eq_false (by omega))]
  obtain ⟨n, v, h, rfl⟩ := for_loop (σ := Unit) (G := fun n i _ => iterG impl_Run_t0 impl_Run_B0 (impl_Run_K0 b at_ back) n ((b, ((at_ : Int), ((back : Int), ((i : Int), ())))), ())) 100 (fun i _ => i ≤ 100 ∧ runF b at_ back (100 - i) i = runP b at_ back) (· = some ((((runP b at_ back : Nat) : Int), ()), ((), ((), ((), ())))))
    (fun i _ hi hI => by
      have e0 : IntKind.i64.wrap ((at_ : Int) + i) = ((at_ + i : Nat) : Int) := by rw [wrap64 (by omega) (by omega)]; omega
      have e1 : IntKind.i64.wrap (((at_ + i : Nat) : Int) - back) = ((at_ + i - back : Nat) : Int) := by rw [wrap64 (by omega) (by omega)]; omega
      obtain ⟨_, hI⟩ := hI
      rw [show 100 - i = (100 - (i + 1)) + 1 by omega, runF] at hI
      by_cases hc : at_ + i < b.length ∧ b.getD (at_ + i) 0 = b.getD (at_ + i - back) 0
      · rw [if_pos hc] at hI
        refine .inr ⟨(), ⟨by omega, hI⟩, fun n => ?_⟩
        dsimp only
        rw [impl_Run_r0, brk_pos (decide_eq_true (by omega)), e0, e1, brk_lt hc.1, ck_idx hc.1, ck_idx (by omega), rdD_nat, rdD_nat, show tY.zero = 0 from rfl, brk_pos (decide_eq_true hc.2), step_nat i (by omega)]
      · rw [if_neg hc] at hI
        refine .inl ⟨_, rfl, fun n => ?_⟩
        dsimp only
        rw [impl_Run_r0, brk_pos (decide_eq_true (by omega)), e0, e1]
        by_cases hl : at_ + i < b.length
        · rw [brk_lt hl, ck_idx hl, ck_idx (by omega), rdD_nat, rdD_nat, show tY.zero = 0 from rfl, brk_neg (decide_eq_false fun q => hc ⟨hl, q⟩), impl_Run_e0_0, ← hI]
        · rw [brk_nlt hl, impl_Run_e0_0, ← hI])
    (fun _ hI => by
      obtain ⟨_, hI⟩ := hI
      rw [Nat.sub_self, runF] at hI
      refine ⟨_, rfl, fun n => ?_⟩
      dsimp only
      rw [impl_Run_r0, brk_neg (decide_eq_false (by omega)), impl_Run_e0_0, ← hI]) () ⟨by omega, rfl⟩
  exact impl_Run_l0 n h ⟨_, rfl⟩
theorem spec_Run_ok (b : List Int) (at_ back : Nat) (h1 : 1 ≤ back) (h2 : back ≤ 255) (h3 : back ≤ at_) (h4 : at_ < b.length) (hb : b.length ≤ 3000000) : spec_Run_F (b, ((at_ : Int), ((back : Int), ()))) = some ((((runP b at_ back : Nat) : Int), ()), ((), ((), ((), ())))) := by
  rw [spec_Run_main]
  have e9 : IntKind.i64.wrap ((b.length : Int) - 1) = (b.length : Int) - 1 := wrap64 (by omega) (by omega)
  rw [spec_l1In_ok', e9, decide_eq_true (by omega)]
  simp only [Option.bind_some, Bool.not_true, brk_false]
  rw [spec_l1Min_ok]
  simp only [Option.bind_some]
  rw [spec_l1In_ok', decide_eq_true (by omega)]
  simp only [Option.bind_some, Bool.not_true, brk_false]
  obtain ⟨n, v, h, rfl⟩ := for_loop (σ := Unit) (G := fun n i _ => iterG spec_Run_t0 spec_Run_B0 (spec_Run_K0 b at_ back) n ((b, ((at_ : Int), ((back : Int), ((i : Int), ())))), ())) 100 (fun i _ => i ≤ 100 ∧ runF b at_ back (100 - i) i = runP b at_ back) (· = some ((((runP b at_ back : Nat) : Int), ()), ((), ((), ((), ())))))
    (fun i _ hi hI => by
      have e0 : IntKind.i64.wrap ((at_ : Int) + i) = ((at_ + i : Nat) : Int) := by rw [wrap64 (by omega) (by omega)]; omega
      have e1 : IntKind.i64.wrap (((at_ + i : Nat) : Int) - back) = ((at_ + i - back : Nat) : Int) := by rw [wrap64 (by omega) (by omega)]; omega
      obtain ⟨_, hI⟩ := hI
      rw [show 100 - i = (100 - (i + 1)) + 1 by omega, runF] at hI
      by_cases hc : at_ + i < b.length ∧ b.getD (at_ + i) 0 = b.getD (at_ + i - back) 0
      · rw [if_pos hc] at hI
        refine .inr ⟨(), ⟨by omega, hI⟩, fun n => ?_⟩
        dsimp only
        rw [spec_Run_r0, brk_pos (decide_eq_true (by omega)), e0, e1, brk_lt hc.1, ck_idx hc.1, ck_idx (by omega), rdD_nat, rdD_nat, show tY.zero = 0 from rfl, brk_pos (decide_eq_true hc.2), step_nat i (by omega)]
      · rw [if_neg hc] at hI
        refine .inl ⟨_, rfl, fun n => ?_⟩
        dsimp only
        rw [spec_Run_r0, brk_pos (decide_eq_true (by omega)), e0, e1]
        by_cases hl : at_ + i < b.length
        · rw [brk_lt hl, ck_idx hl, ck_idx (by omega), rdD_nat, rdD_nat, show tY.zero = 0 from rfl, brk_neg (decide_eq_false fun q => hc ⟨hl, q⟩), spec_Run_e0_0, ← hI]
        · rw [brk_nlt hl, spec_Run_e0_0, ← hI])
    (fun _ hI => by
      obtain ⟨_, hI⟩ := hI
      rw [Nat.sub_self, runF] at hI
      refine ⟨_, rfl, fun n => ?_⟩
      dsimp only
      rw [spec_Run_r0, brk_neg (decide_eq_false (by omega)), spec_Run_e0_0, ← hI]) () ⟨by omega, rfl⟩
  exact spec_Run_l0 n h ⟨_, rfl⟩
theorem impl_longest_ok (b : List Int) (at_ : Nat) (h4 : at_ < b.length) (hb : b.length ≤ 3000000) : impl_longest_F (b, ((at_ : Int), ())) = some (((((bestP b at_).1 : Nat) : Int), ((((bestP b at_).2 : Nat) : Int), ())), ((), ((), ()))) := by
  rw [impl_longest_main]
  obtain ⟨n, v, h, rfl⟩ := for_loop (σ := Nat × Nat) (G := fun n i s => iterG impl_longest_t0 impl_longest_B0 (impl_longest_K0 b at_) n ((b, ((at_ : Int), ((s.1 : Int), ((s.2 : Int), (((i + 1 : Nat) : Int), ()))))), ())) (min 255 at_) (fun i s => bestF b at_ (min 255 at_ - i) (i + 1) s = bestP b at_) (· = some (((((bestP b at_).1 : Nat) : Int), ((((bestP b at_).2 : Nat) : Int), ())), ((), ((), ()))))
    (fun i s hi hI => by
      obtain ⟨s1, s2⟩ := s
      have e1 : IntKind.i64.wrap (((i + 1 : Nat) : Int) + 1) = ((i + 1 + 1 : Nat) : Int) := step_nat (i + 1) (by omega)
      rw [show min 255 at_ - i = (min 255 at_ - (i + 1)) + 1 by omega, bestF] at hI
      have hr := impl_Run_ok b at_ (i + 1) (by omega) (by omega) (by omega) h4 hb
      refine .inr ⟨_, hI, fun n => ?_⟩
      dsimp only
      rw [impl_longest_r0]
      rw [brk_pos (decide_eq_true (by omega)), brk_pos (decide_eq_true (by omega))]
      rw [hr]
      simp only [Option.bind_some]
      by_cases hg : runP b at_ (i + 1) > s1
      · rw [brk_pos (decide_eq_true (by omega)), if_pos hg, e1]
      · rw [brk_neg (decide_eq_false (by omega)), if_neg hg, e1])
    (fun s hI => by
      obtain ⟨s1, s2⟩ := s
      rw [Nat.sub_self, bestF] at hI
      refine ⟨_, rfl, fun n => ?_⟩
      dsimp only
      rw [impl_longest_r0]
      by_cases h5 : at_ < 255
      · rw [brk_pos (decide_eq_true (by omega)), brk_neg (decide_eq_false (by omega)), impl_longest_e0_0, ← hI]
      · rw [brk_neg (decide_eq_false (by omega)), impl_longest_e0_0, ← hI]) (0, 0) rfl
  exact impl_longest_l0 n h ⟨_, rfl⟩
theorem spec_l3Best_ok (b : List Int) (at_ : Nat) (h4 : at_ < b.length) (hb : b.length ≤ 3000000) : spec_l3Best_F (b, ((at_ : Int), ())) = some (((((bestP b at_).2 : Nat) : Int), ((((bestP b at_).1 : Nat) : Int), ())), ((), ((), ()))) := by
  rw [spec_l3Best_main]
  obtain ⟨n, v, h, rfl⟩ := for_loop (σ := Nat × Nat) (G := fun n i s => iterG spec_l3Best_t0 spec_l3Best_B0 (spec_l3Best_K0 b at_) n ((b, ((at_ : Int), ((s.2 : Int), ((s.1 : Int), (((i + 1 : Nat) : Int), ()))))), ())) (min 255 at_) (fun i s => bestF b at_ (min 255 at_ - i) (i + 1) s = bestP b at_) (· = some (((((bestP b at_).2 : Nat) : Int), ((((bestP b at_).1 : Nat) : Int), ())), ((), ((), ()))))
    (fun i s hi hI => by
      obtain ⟨s1, s2⟩ := s
      have e1 : IntKind.i64.wrap (((i + 1 : Nat) : Int) + 1) = ((i + 1 + 1 : Nat) : Int) := step_nat (i + 1) (by omega)
      rw [show min 255 at_ - i = (min 255 at_ - (i + 1)) + 1 by omega, bestF] at hI
      have hr := spec_Run_ok b at_ (i + 1) (by omega) (by omega) (by omega) h4 hb
      refine .inr ⟨_, hI, fun n => ?_⟩
      dsimp only
      rw [spec_l3Best_r0]
      rw [spec_l1Min_ok]
      simp only [Option.bind_some]
      rw [brk_pos (decide_eq_true (by omega))]
      rw [hr]
      simp only [Option.bind_some]
      by_cases hg : runP b at_ (i + 1) > s1
      · rw [brk_pos (decide_eq_true (by omega)), if_pos hg, e1]
      · rw [brk_neg (decide_eq_false (by omega)), if_neg hg, e1])
    (fun s hI => by
      obtain ⟨s1, s2⟩ := s
      rw [Nat.sub_self, bestF] at hI
      refine ⟨_, rfl, fun n => ?_⟩
      dsimp only
      rw [spec_l3Best_r0]
      rw [spec_l1Min_ok]
      simp only [Option.bind_some]
      rw [brk_neg (decide_eq_false (by omega)), spec_l3Best_e0_0, ← hI]) (0, 0) rfl
  exact spec_l3Best_l0 n h ⟨_, rfl⟩
theorem sqE1 (n : Nat) (h : n ≤ 100) : IntKind.u8.wrap (IntKind.i64.wrap (128 + (n : Int))) = ((128 + n : Nat) : Int) := by rw [wrap64 (by omega) (by omega), wrap8m]; omega
theorem sqE2 (n : Nat) (h : n ≤ 255) : IntKind.u8.wrap (n : Int) = n := by rw [wrap8m]; omega
theorem sqE3 (i n m : Nat) (h : i + n ≤ m) (hm : m ≤ 3000000) : IntKind.i64.wrap ((i : Int) + n) = ((i + n : Nat) : Int) := by rw [wrap64 (by omega) (by omega)]; omega
theorem ck_len {R : Type} {n : Nat} (h : n ≤ 2000000) (a : Option R) : ck (decide (n * 1 ≤ big47)) a = a := ck_pos (decide_eq_true (by rw [big47_eq]; omega)) a
theorem tY_nat (b : List Int) (i : Nat) : rdD tY b (i : Int) = b.getD i 0 := rfl
theorem impl_Squeeze_run (b x0 : List Int) (hb : b.length ≤ 3000) (hbb : Byte b) : ∀ (d at_ : Nat) (acc : List Int), b.length ≤ at_ + d → at_ ≤ b.length → acc.length + 2 * (b.length - at_) ≤ 1000000 → ∃ n, iterG impl_Squeeze_t0 impl_Squeeze_B0 (impl_Squeeze_K0 x0) n ((b, ((at_ : Int), ())), (acc, ())) = some ((acc ++ squF b d at_, ()), ((), ()))
  | 0, at_, acc, h1, h2, h3 => ⟨1, by rw [impl_Squeeze_r0, brk_nlt (by omega), impl_Squeeze_e0_0, squF, List.append_nil]⟩
  | d + 1, at_, acc, h1, h2, h3 => by
    by_cases h0 : at_ < b.length
    · by_cases h5 : (bestP b at_).1 ≥ 3
      · obtain ⟨p1, p2, p3, p4, p5, p6⟩ := bestP_use b at_ h2 h5
        obtain ⟨n, hn⟩ := impl_Squeeze_run b x0 hb hbb d (at_ + (bestP b at_).1) (acc ++ [((128 + (bestP b at_).1 : Nat) : Int), ((bestP b at_).2 : Int)]) (by omega) p5 (by simp only [List.length_append, List.length_cons, List.length_nil]; omega)
        refine ⟨n + 1, ?_⟩
        rw [impl_Squeeze_r0, brk_lt h0, impl_longest_ok b at_ h0 (by omega)]
        simp only [Option.bind_some]
        rw [brk_pos (decide_eq_true (by omega)), sqE1 _ p4, sqE2 _ p2, sqE3 _ _ b.length p5 (by omega), ck_len (by simp only [List.length_cons, List.length_nil]; omega), hn, squF, if_pos h0, if_pos h5]
        simp
      · have hx : 0 ≤ b.getD at_ 0 ∧ b.getD at_ 0 ≤ 255 := by
          rw [getD_at h0]
          exact hbb _ (List.getElem_mem h0)
        by_cases h6 : b.getD at_ 0 > 0 ∧ b.getD at_ 0 < 128
        · obtain ⟨n, hn⟩ := impl_Squeeze_run b x0 hb hbb d (at_ + 1) (acc ++ [b.getD at_ 0]) (by omega) (by omega) (by simp only [List.length_append, List.length_cons, List.length_nil]; omega)
          refine ⟨n + 1, ?_⟩
          rw [impl_Squeeze_r0, brk_lt h0, impl_longest_ok b at_ h0 (by omega)]
          simp only [Option.bind_some]
          rw [brk_neg (decide_eq_false (by omega))]
          rw [tY_nat]
          simp only [ck_idx h0, step_nat at_ (by omega : at_ ≤ _)]
          rw [brk_pos (decide_eq_true (show 0 < b.getD at_ 0 from h6.1)), brk_pos (decide_eq_true h6.2), ck_len (by simp only [List.length_cons, List.length_nil]; omega), hn, squF, if_pos h0, if_neg h5, if_pos h6]
          simp
        · obtain ⟨n, hn⟩ := impl_Squeeze_run b x0 hb hbb d (at_ + 1) (acc ++ [0, b.getD at_ 0]) (by omega) (by omega) (by simp only [List.length_append, List.length_cons, List.length_nil]; omega)
          have fin : acc ++ [0, b.getD at_ 0] ++ squF b d (at_ + 1) = acc ++ squF b (d + 1) at_ := by
            rw [squF, if_pos h0, if_neg h5, if_neg h6]; simp
          rw [fin] at hn
          refine ⟨n + 1, ?_⟩
          rw [impl_Squeeze_r0, brk_lt h0, impl_longest_ok b at_ h0 (by omega)]
          simp only [Option.bind_some]
          rw [brk_neg (decide_eq_false (by omega))]
          rw [tY_nat]
          simp only [ck_idx h0, step_nat at_ (by omega : at_ ≤ _)]
          by_cases h7 : 0 < b.getD at_ 0
          · rw [brk_pos (decide_eq_true h7), brk_neg (decide_eq_false fun q => h6 ⟨h7, q⟩), ck_len (by simp only [List.length_append, List.length_cons, List.length_nil]; omega), hn]
          · rw [brk_neg (decide_eq_false h7), ck_len (by simp only [List.length_append, List.length_cons, List.length_nil]; omega), hn]
    · exact ⟨1, by rw [impl_Squeeze_r0, brk_nlt (by omega), impl_Squeeze_e0_0, squF, if_neg h0, List.append_nil]⟩
theorem impl_Squeeze_ok (b : List Int) (hbb : Byte b) : impl_Squeeze_F (b, ()) = some ((squP b, ()), ((), ())) := by
  rw [impl_Squeeze_main]
  unfold squP
  by_cases h : b.length > 3000
  · rw [brk_pos (decide_eq_true (by omega)), if_pos h]
  · rw [brk_neg (decide_eq_false (by omega)), if_neg h]
    obtain ⟨n, hn⟩ := impl_Squeeze_run b b (by omega) hbb b.length 0 [] (by omega) (by omega) (by simp; omega)
    exact impl_Squeeze_l0 n hn ⟨_, rfl⟩
theorem spec_Squeeze_run (b x0 : List Int) (hb : b.length ≤ 3000) (hbb : Byte b) : ∀ (d at_ : Nat) (acc : List Int), b.length ≤ at_ + d → at_ ≤ b.length → acc.length + 2 * (b.length - at_) ≤ 1000000 → ∃ n, iterG spec_Squeeze_t0 spec_Squeeze_B0 (spec_Squeeze_K0 x0) n ((b, ((at_ : Int), ())), (acc, ())) = some ((acc ++ squF b d at_, ()), ((), ()))
  | 0, at_, acc, h1, h2, h3 => ⟨1, by rw [spec_Squeeze_r0, brk_nlt (by omega), spec_Squeeze_e0_0, squF, List.append_nil]⟩
  | d + 1, at_, acc, h1, h2, h3 => by
    by_cases h0 : at_ < b.length
    · by_cases h5 : (bestP b at_).1 ≥ 3
      · obtain ⟨p1, p2, p3, p4, p5, p6⟩ := bestP_use b at_ h2 h5
        obtain ⟨n, hn⟩ := spec_Squeeze_run b x0 hb hbb d (at_ + (bestP b at_).1) (acc ++ [((128 + (bestP b at_).1 : Nat) : Int), ((bestP b at_).2 : Int)]) (by omega) p5 (by simp only [List.length_append, List.length_cons, List.length_nil]; omega)
        refine ⟨n + 1, ?_⟩
        rw [spec_Squeeze_r0, brk_lt h0, spec_l3Best_ok b at_ h0 (by omega)]
        simp only [Option.bind_some]
        rw [brk_pos (decide_eq_true (by omega)), sqE1 _ p4, sqE2 _ p2, sqE3 _ _ b.length p5 (by omega), ck_len (by simp only [List.length_cons, List.length_nil]; omega), hn, squF, if_pos h0, if_pos h5]
        simp
      · have hx : 0 ≤ b.getD at_ 0 ∧ b.getD at_ 0 ≤ 255 := by
          rw [getD_at h0]
          exact hbb _ (List.getElem_mem h0)
        by_cases h6 : b.getD at_ 0 > 0 ∧ b.getD at_ 0 < 128
        · obtain ⟨n, hn⟩ := spec_Squeeze_run b x0 hb hbb d (at_ + 1) (acc ++ [b.getD at_ 0]) (by omega) (by omega) (by simp only [List.length_append, List.length_cons, List.length_nil]; omega)
          refine ⟨n + 1, ?_⟩
          rw [spec_Squeeze_r0, brk_lt h0, spec_l3Best_ok b at_ h0 (by omega)]
          simp only [Option.bind_some]
          rw [brk_neg (decide_eq_false (by omega))]
          rw [tY_nat]
          simp only [ck_idx h0, step_nat at_ (by omega : at_ ≤ _)]
          rw [brk_neg (decide_eq_false (show ¬ b.getD at_ 0 = 0 by omega)), brk_neg (decide_eq_false (show ¬ 127 < b.getD at_ 0 by omega)), ck_len (by simp only [List.length_cons, List.length_nil]; omega), hn, squF, if_pos h0, if_neg h5, if_pos h6]
          simp
        · obtain ⟨n, hn⟩ := spec_Squeeze_run b x0 hb hbb d (at_ + 1) (acc ++ [0, b.getD at_ 0]) (by omega) (by omega) (by simp only [List.length_append, List.length_cons, List.length_nil]; omega)
          have fin : acc ++ [0, b.getD at_ 0] ++ squF b d (at_ + 1) = acc ++ squF b (d + 1) at_ := by
            rw [squF, if_pos h0, if_neg h5, if_neg h6]; simp
          rw [fin] at hn
          refine ⟨n + 1, ?_⟩
          rw [spec_Squeeze_r0, brk_lt h0, spec_l3Best_ok b at_ h0 (by omega)]
          simp only [Option.bind_some]
          rw [brk_neg (decide_eq_false (by omega))]
          rw [tY_nat]
          simp only [ck_idx h0, step_nat at_ (by omega : at_ ≤ _)]
          simp only [List.append_assoc, List.cons_append, List.nil_append]
          by_cases h7 : b.getD at_ 0 = 0
          · rw [brk_pos (decide_eq_true h7), ck_len (by simp only [List.length_append, List.length_cons, List.length_nil]; omega), ck_len (by simp only [List.length_append, List.length_cons, List.length_nil]; omega), hn]
          · rw [brk_neg (decide_eq_false h7), brk_pos (decide_eq_true (show 127 < b.getD at_ 0 by omega)), ck_len (by simp only [List.length_append, List.length_cons, List.length_nil]; omega), ck_len (by simp only [List.length_append, List.length_cons, List.length_nil]; omega), hn]
    · exact ⟨1, by rw [spec_Squeeze_r0, brk_nlt (by omega), spec_Squeeze_e0_0, squF, if_neg h0, List.append_nil]⟩
theorem spec_Squeeze_ok (b : List Int) (hbb : Byte b) : spec_Squeeze_F (b, ()) = some ((squP b, ()), ((), ())) := by
  rw [spec_Squeeze_main]
  unfold squP
  by_cases h : b.length > 3000
  · rw [brk_pos (decide_eq_true (by omega)), if_pos h]
  · rw [brk_neg (decide_eq_false (by omega)), if_neg h]
    obtain ⟨n, hn⟩ := spec_Squeeze_run b b (by omega) hbb b.length 0 [] (by omega) (by omega) (by simp; omega)
    exact spec_Squeeze_l0 n hn ⟨_, rfl⟩
theorem ck_len2 {R : Type} {n : Nat} (h : n ≤ 200000000) (a : Option R) : ck (decide (n * 1 ≤ big47)) a = a := ck_pos (decide_eq_true (by rw [big47_eq]; omega)) a
def msgOk (x : tMsg.D) : Bool := msgOkB x.1 x.2.1 x.2.2.1 x.2.2.2.1 x.2.2.2.2.1
theorem msg_parts0 (k c v w : Int) (g : List Int) (h : msgOkB k c v w g = true) : (1 ≤ k ∧ k ≤ 5) ∧ (0 ≤ c ∧ c ≤ 7) ∧ (0 ≤ v ∧ v ≤ 200) ∧ (0 ≤ w ∧ w ≤ 2) ∧ g.length ≤ 12 ∧ Nums g := by
  have nil : ∀ {g : List Int}, g.length = 0 → Nums g := fun h => by
    rw [List.length_eq_zero_iff] at h; subst h; intro x hx; cases hx
  unfold msgOkB at h
  split at h
  · simp only [Bool.and_eq_true, decide_eq_true_eq] at h
    have hg : gensB g = true := h.1.1.1
    have hl : g.length ≤ 12 := by unfold gensB at hg; simp only [Bool.and_eq_true, decide_eq_true_eq] at hg; exact hg.2
    exact ⟨by omega, by omega, by omega, by omega, hl, gens_nums hg⟩
  · split at h
    · simp only [Bool.and_eq_true, decide_eq_true_eq] at h
      exact ⟨by omega, by omega, by omega, by omega, by omega, nil h.2⟩
    · split at h
      · simp only [Bool.and_eq_true, decide_eq_true_eq] at h
        exact ⟨by omega, by omega, by omega, by omega, by omega, nil h.2⟩
      · split at h
        · rename_i hk
          simp only [Bool.and_eq_true, decide_eq_true_eq] at h
          exact ⟨by omega, by omega, by omega, by omega, by omega, nil h.2⟩
        · cases h
theorem msg_parts {x : tMsg.D} (h : msgOk x = true) : ((1 : Int) ≤ x.1 ∧ x.1 ≤ (5 : Int)) ∧ ((0 : Int) ≤ x.2.1 ∧ x.2.1 ≤ (7 : Int)) ∧ ((0 : Int) ≤ x.2.2.1 ∧ x.2.2.1 ≤ (200 : Int)) ∧ ((0 : Int) ≤ x.2.2.2.1 ∧ x.2.2.2.1 ≤ (2 : Int)) ∧ List.length x.2.2.2.2.1 ≤ 12 ∧ Nums x.2.2.2.2.1 := msg_parts0 x.1 x.2.1 x.2.2.1 x.2.2.2.1 x.2.2.2.2.1 h
theorem msgB_no {x : tMsg.D} (h : ¬ msgOk x = true) : msgB x = [] := if_neg h
theorem msgB_short (x : tMsg.D) : (msgB x).length ≤ 94 := by
  by_cases h : msgOk x = true
  · have := msgB_len x
    have := (msg_parts h).2.2.2.2.1
    omega
  · rw [msgB_no h]
    simp
theorem msgB_byte (x : tMsg.D) : Byte (msgB x) := fun z hz => by
  unfold msgB at hz
  split at hz
  · simp only [List.mem_append] at hz
    rcases hz with (hz | hz) | hz
    · exact putNs_range [((bodyB x).length : Int)] z (by simpa [putNs] using hz)
    · exact bodyB_range x z hz
    · exact fourB_byte _ z hz
  · cases hz
def packB (l : List tMsg.D) : List Int := l.flatMap msgB
theorem packB_byte (l : List tMsg.D) : Byte (packB l) := fun z hz => by
  obtain ⟨m, _, hm⟩ := List.mem_flatMap.1 hz
  exact msgB_byte m z hm
theorem packB_len : ∀ (l : List tMsg.D), (packB l).length ≤ 94 * l.length
  | [] => by simp [packB]
  | x :: l => by
    have h1 := packB_len l
    have h2 := msgB_short x
    unfold packB at h1 ⊢
    simp only [List.flatMap_cons, List.length_append, List.length_cons]
    omega
theorem packB_next {l : List tMsg.D} {i : Nat} (h : i < l.length) : packB (l.take (i + 1)) = packB (l.take i) ++ msgB (l.getD i tMsg.zero) := by
  unfold packB
  rw [take_next h, List.flatMap_append, getD_at h, List.flatMap_cons, List.flatMap_nil, List.append_nil]
theorem impl_Pack_ok (l : List tMsg.D) (hl : l.length ≤ 1500000) (hg : ∀ x ∈ l, x.2.2.2.2.1.length ≤ 1500000) : impl_Pack_F (l, ()) = some ((squP (packB l), ()), ((), ())) := by
  rw [impl_Pack_main]
  have hp := packB_len l
  obtain ⟨n, v, h, rfl⟩ := for_loop (σ := Unit) (G := fun n i _ => iterG impl_Pack_t0 impl_Pack_B0 (impl_Pack_K0 l) n ((l, ((l.length : Int), ((i : Int), ()))), (packB (l.take i), ()))) l.length (fun i _ => True) (· = some ((squP (packB l), ()), ((), ())))
    (fun i _ hi _ => by
      refine .inr ⟨(), trivial, fun n => ?_⟩
      have hm : impl_MsgBytes_F (((l.getD i tMsg.zero).1, (((l.getD i tMsg.zero).2).1, ((((l.getD i tMsg.zero).2).2).1, (((((l.getD i tMsg.zero).2).2).2).1, ((((((l.getD i tMsg.zero).2).2).2).2).1, ()))))), ()) = some ((msgB (l.getD i tMsg.zero), ()), ((), ())) := impl_MsgBytes_ok (l.getD i tMsg.zero) (by rw [getD_at hi]; exact hg _ (List.getElem_mem hi))
      have h1 := packB_len (l.take i)
      have h2 := msgB_short (l.getD i tMsg.zero)
      rw [List.length_take] at h1
      dsimp only
      rw [impl_Pack_r0, brk_lt hi, ck_idx hi, rdD_nat (t := tMsg) l i, hm]
      simp only [Option.bind_some]
      rw [ck_len2 (by omega), step_nat i (by omega), packB_next hi])
    (fun _ _ => by
      refine ⟨_, rfl, fun n => ?_⟩
      dsimp only
      rw [impl_Pack_r0, brk_nlt (by omega), impl_Pack_e0_0, List.take_length, impl_Squeeze_ok _ (packB_byte l)]
      rfl) () trivial
  exact impl_Pack_l0 n h ⟨_, rfl⟩
theorem spec_Pack_ok (l : List tMsg.D) (hl : l.length ≤ 1500000) (hg : ∀ x ∈ l, x.2.2.2.2.1.length ≤ 1500000) : spec_Pack_F (l, ()) = some ((squP (packB l), ()), ((), ())) := by
  rw [spec_Pack_main]
  have hp := packB_len l
  obtain ⟨n, v, h, rfl⟩ := for_loop (σ := Unit) (G := fun n i _ => iterG spec_Pack_t0 spec_Pack_B0 (spec_Pack_K0 l) n ((l, ((i : Int), ())), (packB (l.take i), ()))) l.length (fun i _ => True) (· = some ((squP (packB l), ()), ((), ())))
    (fun i _ hi _ => by
      refine .inr ⟨(), trivial, fun n => ?_⟩
      have hm : spec_MsgBytes_F (((l.getD i tMsg.zero).1, (((l.getD i tMsg.zero).2).1, ((((l.getD i tMsg.zero).2).2).1, (((((l.getD i tMsg.zero).2).2).2).1, ((((((l.getD i tMsg.zero).2).2).2).2).1, ()))))), ()) = some ((msgB (l.getD i tMsg.zero), ()), ((), ())) := spec_MsgBytes_ok (l.getD i tMsg.zero) (by rw [getD_at hi]; exact hg _ (List.getElem_mem hi))
      have h1 := packB_len (l.take i)
      have h2 := msgB_short (l.getD i tMsg.zero)
      rw [List.length_take] at h1
      dsimp only
      rw [spec_Pack_r0, brk_lt hi, ck_idx hi, rdD_nat (t := tMsg) l i, hm]
      simp only [Option.bind_some]
      rw [ck_len2 (by omega), step_nat i (by omega), packB_next hi])
    (fun _ _ => by
      refine ⟨_, rfl, fun n => ?_⟩
      dsimp only
      rw [spec_Pack_r0, brk_nlt (by omega), spec_Pack_e0_0, List.take_length, spec_Squeeze_ok _ (packB_byte l)]
      rfl) () trivial
  exact spec_Pack_l0 n h ⟨_, rfl⟩
def sumG : List tMsg.D → Nat
  | [] => 0
  | x :: l => List.length x.2.2.2.2.1 + sumG l
def totM (l : List tMsg.D) : Nat := 4 * l.length + sumG l
theorem sumG_app : ∀ (a b : List tMsg.D), sumG (a ++ b) = sumG a + sumG b
  | [], b => by simp [sumG]
  | x :: a, b => by rw [List.cons_append, sumG, sumG, sumG_app a b]; omega
theorem sumG_next {l : List tMsg.D} {i : Nat} (h : i < l.length) : sumG (l.take (i + 1)) = sumG (l.take i) + List.length (l.getD i tMsg.zero).2.2.2.2.1 := by
  rw [take_next h, sumG_app, getD_at h]; simp [sumG]
theorem sumG_take (l : List tMsg.D) (i : Nat) : sumG (l.take i) ≤ sumG l := by
  have := sumG_app (l.take i) (l.drop i)
  rw [List.take_append_drop] at this
  omega
theorem sumG_mem {l : List tMsg.D} {x : tMsg.D} (h : x ∈ l) : List.length x.2.2.2.2.1 ≤ sumG l := by
  obtain ⟨a, b, rfl⟩ := List.append_of_mem h
  rw [sumG_app, sumG]; omega
theorem totM_next {l : List tMsg.D} {i : Nat} (h : i < l.length) : totM (l.take (i + 1)) = totM (l.take i) + 4 + List.length (l.getD i tMsg.zero).2.2.2.2.1 := by
  unfold totM
  rw [sumG_next h, List.length_take, List.length_take]
  omega
theorem totM_take (l : List tMsg.D) (i : Nat) : totM (l.take i) ≤ totM l := by
  unfold totM
  have := sumG_take l i
  rw [List.length_take]
  omega
theorem toMsgS_ok (l : List tMsg.D) (hl : l.length ≤ 1048576) (hg : ∀ x ∈ l, List.length x.2.2.2.2.1 ≤ 1048576) : laws_toMsgS_F (l, ()) = some ((l, ()), ((), ())) := by
  rw [laws_toMsgS_main, ck_pos (by simp; omega)]
  obtain ⟨n, v, hh, rfl⟩ := for_loop (σ := List tMsg.D) (G := fun n i s => iterG laws_toMsgS_t0 laws_toMsgS_B0 (laws_toMsgS_K0 l) n ((l, ((i : Int), ())), (s, ()))) l.length (fun i s => s.length = l.length ∧ s.take i = l.take i) (· = some ((l, ()), ((), ())))
    (fun i s hi ⟨hI1, hI2⟩ => by
      have ht : laws_toMsg_F (((l.getD i tMsg.zero).1, (((l.getD i tMsg.zero).2).1, ((((l.getD i tMsg.zero).2).2).1, (((((l.getD i tMsg.zero).2).2).2).1, ((((((l.getD i tMsg.zero).2).2).2).2).1, ()))))), ()) = some ((l.getD i tMsg.zero, ()), ((), ())) := toMsg_ok (l.getD i tMsg.zero) (by rw [getD_at hi]; exact hg _ (List.getElem_mem hi))
      refine .inr ⟨s.set i (l.getD i tMsg.zero), ⟨by simpa using hI1, ?_⟩, fun n => ?_⟩
      · rw [getD_at hi]; exact take_set_next hI1 hi hI2
      · dsimp only
        rw [laws_toMsgS_r0, brk_lt hi, ck_idx hi, rdD_nat (t := tMsg) l i, ht]
        simp only [Option.bind_some]
        rw [ck_idx (by omega), step_nat i (by omega)]; rfl)
    (fun s ⟨hI1, hI2⟩ => ⟨_, rfl, fun n => by
      dsimp only
      rw [laws_toMsgS_r0, brk_nlt (by omega), laws_toMsgS_e0_0]
      rw [List.take_of_length_le (by omega), List.take_of_length_le (by omega)] at hI2
      rw [hI2]⟩) (List.replicate l.length tMsg.zero) ⟨by simp, by simp⟩
  exact laws_toMsgS_l0 n hh ⟨_, rfl⟩
theorem eqMsgS_self (l : List tMsg.D) (hl : l.length ≤ 1048576) (hg : ∀ x ∈ l, List.length x.2.2.2.2.1 ≤ 1048576) : laws_eqMsgS_F (l, (l, ())) = some ((true, ()), ((), ((), ()))) := by
  rw [laws_eqMsgS_main, decide_eq_true rfl, Bool.not_true, brk_false]
  obtain ⟨n, v, h, rfl⟩ := for_loop (σ := Unit) (G := fun n i _ => iterG laws_eqMsgS_t0 laws_eqMsgS_B0 (laws_eqMsgS_K0 l l) n ((l, (l, ((i : Int), ()))), ())) l.length (fun i _ => True) (· = some ((true, ()), ((), ((), ()))))
    (fun i _ hi _ => .inr ⟨(), trivial, fun n => by
      have he := eqMsg_self (l.getD i tMsg.zero) (Nat.le_trans (by rw [getD_at hi]; exact hg _ (List.getElem_mem hi)) (by rw [big47_eq]; omega : 1048576 ≤ big47))
      have he : laws_eqMsg_F (((l.getD i tMsg.zero).1, (((l.getD i tMsg.zero).2).1, ((((l.getD i tMsg.zero).2).2).1, (((((l.getD i tMsg.zero).2).2).2).1, ((((((l.getD i tMsg.zero).2).2).2).2).1, ()))))), (((l.getD i tMsg.zero).1, (((l.getD i tMsg.zero).2).1, ((((l.getD i tMsg.zero).2).2).1, (((((l.getD i tMsg.zero).2).2).2).1, ((((((l.getD i tMsg.zero).2).2).2).2).1, ()))))), ())) = some ((true, ()), ((), ((), ()))) := he
      dsimp only
      rw [laws_eqMsgS_r0, brk_lt hi, ck_idx hi, ck_idx hi, rdD_nat (t := tMsg) l i, he]
      simp only [Option.bind_some]
      rw [Bool.not_true, brk_false, step_nat i (by omega)]⟩)
    (fun _ _ => ⟨_, rfl, fun n => by
      dsimp only
      rw [laws_eqMsgS_r0, brk_nlt (by omega), laws_eqMsgS_e0_1]⟩) () trivial
  exact laws_eqMsgS_l0 n h ⟨_, rfl⟩
theorem szMsgS_ok (l : List tMsg.D) (hl : l.length ≤ big47) (hg : ∀ x ∈ l, List.length x.2.2.2.2.1 ≤ big47) : ∃ v : Int, laws_szMsgS_F (l, ((1048576 : Int), ())) = some ((v, ()), ((), ((), ()))) ∧ (v < 0 ∨ (l.length ≤ 1048576 ∧ sumG l ≤ 1048576)) := by
  have hb := big47_eq
  rw [laws_szMsgS_main, wrap64 (x := (1048576 : Int) - l.length) (by omega) (by omega)]
  by_cases h0 : (1048576 : Int) - l.length < 0
  · rw [brk_pos (decide_eq_true h0)]
    exact ⟨_, rfl, .inl (by omega)⟩
  rw [brk_neg (decide_eq_false h0)]
  obtain ⟨n, v, h, u, rfl, hu⟩ := for_loop (σ := Int) (G := fun n i s => iterG laws_szMsgS_t0 laws_szMsgS_B0 (laws_szMsgS_K0 l 1048576) n ((l, (s, ((i : Int), ()))), ())) l.length (fun i s => s = 1048576 - (l.length : Int) - sumG (l.take i) ∧ 0 ≤ s) (fun v => ∃ u : Int, v = some ((u, ()), ((), ((), ()))) ∧ (u < 0 ∨ (l.length ≤ 1048576 ∧ sumG l ≤ 1048576)))
    (fun i s hi ⟨hI, hI0⟩ => by
      have hz : List.length (l.getD i tMsg.zero).2.2.2.2.1 ≤ big47 := by rw [getD_at hi]; exact hg _ (List.getElem_mem hi)
      have hs := szMsg_ok (l.getD i tMsg.zero) s hz hI0 (by omega)
      have hs : laws_szMsg_F (((l.getD i tMsg.zero).1, (((l.getD i tMsg.zero).2).1, ((((l.getD i tMsg.zero).2).2).1, (((((l.getD i tMsg.zero).2).2).2).1, ((((((l.getD i tMsg.zero).2).2).2).2).1, ()))))), (s, ())) = _ := hs
      have hn := sumG_next hi
      by_cases hc : s < (List.length (l.getD i tMsg.zero).2.2.2.2.1 : Int)
      · rw [if_pos hc] at hs
        refine .inl ⟨_, ⟨-1, rfl, .inl (by omega)⟩, fun n => ?_⟩
        dsimp only
        rw [laws_szMsgS_r0, brk_lt hi, ck_idx hi, rdD_nat (t := tMsg) l i, hs]
        simp only [Option.bind_some]
        rw [brk_pos (by decide), laws_szMsgS_e0_0]
      · rw [if_neg hc] at hs
        refine .inr ⟨s - (List.length (l.getD i tMsg.zero).2.2.2.2.1 : Int), ⟨by rw [hn]; omega, by omega⟩, fun n => ?_⟩
        dsimp only
        rw [laws_szMsgS_r0, brk_lt hi, ck_idx hi, rdD_nat (t := tMsg) l i, hs]
        simp only [Option.bind_some]
        rw [brk_neg (decide_eq_false (show ¬ (s - (List.length (l.getD i tMsg.zero).2.2.2.2.1 : Int) < 0) by omega)), step_nat i (by omega)])
    (fun s ⟨hI, hI0⟩ => by
      rw [List.take_length] at hI
      refine ⟨_, ⟨s, rfl, .inr (by omega)⟩, fun n => ?_⟩
      dsimp only
      rw [laws_szMsgS_r0, brk_nlt (by omega), laws_szMsgS_e0_1]) (1048576 - (l.length : Int)) ⟨by simp [sumG], by omega⟩
  exact ⟨u, laws_szMsgS_l0 n h ⟨_, rfl⟩, hu⟩
/-! ### Numbers written over rows of messages -/
def mkM (k : Int) (x : tMsg.D) : tMsg.D := ((k : Int), ((k + 1 : Int), ((k + 2 : Int), ((k + 3 : Int), (marks id (k + 4) (List.length x.2.2.2.2.1), ())))))
def mkL : Int → List tMsg.D → List tMsg.D
  | _, [] => []
  | k, x :: l => mkM k x :: mkL (k + (4 + (List.length x.2.2.2.2.1 : Int))) l
theorem mkL_len : ∀ (l : List tMsg.D) (k : Int), (mkL k l).length = l.length
  | [], k => rfl
  | x :: l, k => by rw [mkL, List.length_cons, mkL_len l, List.length_cons]
theorem mkL_getD : ∀ (l : List tMsg.D) (k : Int) (i : Nat), i < l.length → (mkL k l).getD i tMsg.zero = mkM (k + (totM (l.take i) : Nat)) (l.getD i tMsg.zero)
  | [], k, i, h => by simp at h
  | x :: l, k, 0, h => by simp [mkL, totM, sumG]
  | x :: l, k, i + 1, h => by
    rw [mkL, List.getD_cons_succ, mkL_getD l _ i (by simpa using h), List.take_succ_cons, List.getD_cons_succ]
    congr 1
    simp only [totM, List.length_cons, sumG]
    omega
theorem rdD_set {T : Ty} {xs : List T.D} {i : Nat} {y : T.D} (h : i < xs.length) : rdD T (xs.set i y) (i : Int) = y := by
  rw [rdD_nat, getD_at (by simpa using h)]; simp
theorem getD_drop0 {α : Type} {s l : List α} {i : Nat} {z : α} (h : s.drop i = l.drop i) : s.getD i z = l.getD i z := by
  have := congrArg (fun t => t.getD 0 z) h
  simpa [List.getD, List.getElem?_drop] using this
theorem markMsgS_ok (l : List tMsg.D) (k : Int) (hl : l.length ≤ 1048576) (hg : ∀ x ∈ l, List.length x.2.2.2.2.1 ≤ 1048576) (ht : totM l ≤ 100000000) (h0 : 0 ≤ k) (hk : k ≤ 1000) : laws_markMsgS_F (l, (k, ())) = some ((k + (totM l : Nat), ()), (mkL k l, ((), ()))) := by
  rw [laws_markMsgS_main]
  have hML := mkL_len l k
  obtain ⟨n, v, h, rfl⟩ := for_loop (σ := List tMsg.D) (G := fun n i s => iterG laws_markMsgS_t0 laws_markMsgS_B0 (laws_markMsgS_K0 l k) n ((k + (totM (l.take i) : Nat), ((i : Int), ())), (s, ()))) l.length (fun i s => s.length = l.length ∧ s.take i = (mkL k l).take i ∧ s.drop i = l.drop i) (· = some ((k + (totM l : Nat), ()), (mkL k l, ((), ()))))
    (fun i s hi ⟨hI1, hI2, hI3⟩ => by
      have hsi : i < s.length := by omega
      have hz : List.length (l.getD i tMsg.zero).2.2.2.2.1 ≤ 1048576 := by rw [getD_at hi]; exact hg _ (List.getElem_mem hi)
      have hsz : rdD tMsg s (i : Int) = l.getD i tMsg.zero := (rdD_nat (t := tMsg) s i).trans (getD_drop0 hI3)
      have hn := totM_next hi
      have hle := totM_take l (i + 1)
      have hgd := mkL_getD l k i hi
      generalize l.getD i tMsg.zero = x at *
      generalize hkk : k + ((totM (l.take i) : Nat) : Int) = kk at *
      have w1 : IntKind.i64.wrap (kk + 1) = kk + 1 := wrap64 (by omega) (by omega)
      have w2 : IntKind.i64.wrap (kk + 1 + 1) = kk + 1 + 1 := wrap64 (by omega) (by omega)
      have w3 : IntKind.i64.wrap (kk + 1 + 1 + 1) = kk + 1 + 1 + 1 := wrap64 (by omega) (by omega)
      have w4 : IntKind.i64.wrap (kk + 1 + 1 + 1 + 1) = kk + 1 + 1 + 1 + 1 := wrap64 (by omega) (by omega)
      have hm := markIntS_ok x.2.2.2.2.1 (kk + 1 + 1 + 1 + 1) (by omega) (by rw [big47_eq]; omega) (by omega) (by omega)
      refine .inr ⟨s.set i (mkM kk x), ⟨by simpa using hI1, ?_, ?_⟩, fun n => ?_⟩
      · rw [← hgd, getD_at (by rw [hML]; exact hi)]
        exact take_set_next (by rw [hML]; exact hI1) (by rw [hML]; exact hi) hI2
      · rw [List.drop_set_of_lt (by omega), ← List.drop_drop, hI3, List.drop_drop]
      · dsimp only
        rw [laws_markMsgS_r0, brk_lt hsi]
        simp only [Int.toNat_natCast, List.length_set, List.set_set, rdD_set hsi, ck_idx hsi, hsz, w1, w2, w3, w4]
        rw [hm]
        simp only [Option.bind_some]
        rw [step_nat i (by omega), hn]
        rw [show kk + 1 + 1 + 1 + 1 + ((List.length x.2.2.2.2.1 : Nat) : Int) = k + ((totM (l.take i) + 4 + List.length x.2.2.2.2.1 : Nat) : Int) by omega]
        rw [show (kk + 1 + 1 + 1 + 1 : Int) = kk + 4 by omega, show (kk + 1 + 1 + 1 : Int) = kk + 3 by omega, show (kk + 1 + 1 : Int) = kk + 2 by omega]
        rfl)
    (fun s ⟨hI1, hI2, hI3⟩ => by
      refine ⟨_, rfl, fun n => ?_⟩
      dsimp only
      rw [laws_markMsgS_r0, brk_nlt (by omega), laws_markMsgS_e0_0, List.take_length]
      rw [List.take_of_length_le (by omega), List.take_of_length_le (by omega)] at hI2
      rw [hI2]) l ⟨rfl, by simp, by simp⟩
  rw [show k + ((totM (l.take 0) : Nat) : Int) = k by simp [totM, sumG]] at h
  exact laws_markMsgS_l0 n h ⟨_, rfl⟩
theorem laws_FnExactPack_pure (l : tMsgs.D) (hL : Ok tMsgs l) : laws_FnExactPack_F (l, ()) = some ((true, ()), ((), ())) := by
  have hb : List.length l ≤ big47 := hL.1
  have hgb : ∀ x ∈ l, List.length x.2.2.2.2.1 ≤ big47 := fun x hx => (hL.2 x hx).2.2.2.2.1.1
  obtain ⟨v, e0, hv⟩ := szMsgS_ok l hb hgb
  rw [laws_FnExactPack_main, e0]
  simp only [Option.bind_some]
  by_cases h0 : v < 0
  · rw [brk_pos (decide_eq_true h0)]
  rw [brk_neg (decide_eq_false h0)]
  obtain ⟨hl, hs⟩ := hv.resolve_left h0
  have hg : ∀ x ∈ l, List.length x.2.2.2.2.1 ≤ 1048576 := fun x hx => Nat.le_trans (sumG_mem hx) hs
  have ht : totM l ≤ 100000000 := by unfold totM; omega
  have h1 := toMsgS_ok l hl hg
  have h2 := spec_Pack_ok l (by omega) (fun x hx => Nat.le_trans (hg x hx) (by omega))
  have h3 := impl_Pack_ok l (by omega) (fun x hx => Nat.le_trans (hg x hx) (by omega))
  have hq := squP_len (packB l)
  generalize squP (packB l) = out at *
  have hob : out.length ≤ big47 := by rw [big47_eq]; omega
  have h4 := eqByteS_ok out out hob
  have h6 := eqMsgS_self l hl hg
  have h7 := markMsgS_ok l 1 hl hg ht (by omega) (by omega)
  have h8 := markByteS_ok out 1 (by omega) hob (by omega) (by omega)
  have h9 := heldByteS_ok out.length 1 (by omega) (by omega) (by omega) hob
  generalize totM l = tot at *
  rw [h1]
  simp only [Option.bind_some]
  rw [h2]
  simp only [Option.bind_some]
  rw [h3]
  simp only [Option.bind_some]
  rw [h4]
  simp only [Option.bind_some, decide_true, Bool.not_true, brk_false]
  rw [h6]
  simp only [Option.bind_some, Bool.not_true, brk_false]
  rw [h7]
  simp only [Option.bind_some]
  rw [brk_nneg (by omega), h8]
  simp only [Option.bind_some]
  rw [h9]
  simp only [Option.bind_some, decide_true, Bool.not_true, brk_false]
  rw [brk_nneg (by omega), brk_nneg (by omega)]
end Go.Refl
