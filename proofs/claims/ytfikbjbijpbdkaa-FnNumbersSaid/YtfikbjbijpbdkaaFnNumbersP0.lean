/- Plain laws: what the functions come to. No condition. -/
import Derived.Test.YtfikbjbijpbdkaaFnNumbersGf
namespace Go.Refl
open Go.RowKit
set_option linter.unusedVariables false
set_option linter.unusedSimpArgs false
/-- A number's bytes, seven bits each, the low ones first. -/
def numB (n : Nat) : List Int := if h : n ≤ 127 then [(n : Int)] else ((n % 128 + 128 : Nat) : Int) :: numB (n / 128)
termination_by n
decreasing_by omega
theorem numB_small {n : Nat} (h : n ≤ 127) : numB n = [(n : Int)] := by rw [numB, dif_pos h]
theorem numB_big {n : Nat} (h : ¬ n ≤ 127) : numB n = ((n % 128 + 128 : Nat) : Int) :: numB (n / 128) := by rw [numB, dif_neg h]
theorem wrap8 {x : Int} (h1 : 0 ≤ x) (h2 : x ≤ 255) : IntKind.u8.wrap x = x := by
  simp only [IntKind.wrap, IntKind.signed, IntKind.bits]
  simp
  omega
theorem numB_len : ∀ (k n : Nat), n < 128 ^ (k + 1) → (numB n).length ≤ k + 1
  | 0, n, h => by rw [numB_small (by omega)]; simp
  | k + 1, n, h => by
    by_cases hn : n ≤ 127
    · rw [numB_small hn]; simp
    · rw [numB_big hn]
      have := numB_len k (n / 128) (by rw [Nat.div_lt_iff_lt_mul (by omega)]; rw [Nat.pow_succ] at h; exact h)
      simpa using this
theorem spec_PutNum_loop {R : Type} (K : Ex → AS → Option R) : ∀ (k n : Nat) (acc : List Int), n < 128 ^ (k + 1) → n ≤ 2147483647 → acc.length + k ≤ 1000000 →
    ∃ (m d : Nat) (acc' : List Int), iterG spec_PutNum_t0 spec_PutNum_B0 K m (((n : Int), ()), (acc, ())) = K (.exit 0) (spec_PutNum_x0_0 (d : Int) acc') ∧ acc' ++ [(d : Int)] = acc ++ numB n ∧ d ≤ 127 ∧ acc'.length ≤ acc.length + k
  | 0, n, acc, h, hn, hl => by
    refine ⟨1, n, acc, ?_, by rw [numB_small (by omega)], by omega, by omega⟩
    rw [spec_PutNum_r0, brk_neg (by simp; omega)]
  | k + 1, n, acc, h, hn, hl => by
    by_cases hs : n ≤ 127
    · refine ⟨1, n, acc, ?_, by rw [numB_small hs], hs, by omega⟩
      rw [spec_PutNum_r0, brk_neg (by simp; omega)]
    · obtain ⟨m, d, acc', h1, h2, h3, h4⟩ := spec_PutNum_loop K k (n / 128) (acc ++ [((n % 128 + 128 : Nat) : Int)]) (by rw [Nat.div_lt_iff_lt_mul (by omega)]; rw [Nat.pow_succ] at h; exact h) (by omega) (by simp; omega)
      refine ⟨m + 1, d, acc', ?_, ?_, h3, by simp at h4; omega⟩
      · rw [spec_PutNum_r0, brk_pos (by simp; omega), ck_pos (by simp [big47]; omega)]
        have e1 : (n : Int).tmod 128 = ((n % 128 : Nat) : Int) := by rw [Int.tmod_eq_emod_of_nonneg (by omega)]; omega
        have e2 : (n : Int).tdiv 128 = ((n / 128 : Nat) : Int) := by rw [Int.tdiv_eq_ediv_of_nonneg (by omega)]; omega
        rw [e1, e2, wrap64 (by omega) (by omega), wrap64 (by omega) (by omega), wrap8 (by omega) (by omega)]
        rw [show ((n % 128 : Nat) : Int) + 128 = ((n % 128 + 128 : Nat) : Int) by omega]
        exact h1
      · rw [h2, numB_big hs]; simp
theorem impl_PutNum_loop {R : Type} (K : Ex → AS → Option R) : ∀ (k n : Nat) (acc : List Int), n < 128 ^ (k + 1) → n ≤ 2147483647 → acc.length + k ≤ 1000000 →
    ∃ (m d : Nat) (acc' : List Int), iterG impl_PutNum_t0 impl_PutNum_B0 K m (((n : Int), ()), (acc, ())) = K (.exit 0) (impl_PutNum_x0_0 (d : Int) acc') ∧ acc' ++ [(d : Int)] = acc ++ numB n ∧ d ≤ 127 ∧ acc'.length ≤ acc.length + k
  | 0, n, acc, h, hn, hl => by
    refine ⟨1, n, acc, ?_, by rw [numB_small (by omega)], by omega, by omega⟩
    rw [impl_PutNum_r0, brk_neg (by simp; omega)]
  | k + 1, n, acc, h, hn, hl => by
    by_cases hs : n ≤ 127
    · refine ⟨1, n, acc, ?_, by rw [numB_small hs], hs, by omega⟩
      rw [impl_PutNum_r0, brk_neg (by simp; omega)]
    · obtain ⟨m, d, acc', h1, h2, h3, h4⟩ := impl_PutNum_loop K k (n / 128) (acc ++ [((n % 128 + 128 : Nat) : Int)]) (by rw [Nat.div_lt_iff_lt_mul (by omega)]; rw [Nat.pow_succ] at h; exact h) (by omega) (by simp; omega)
      refine ⟨m + 1, d, acc', ?_, ?_, h3, by simp at h4; omega⟩
      · rw [impl_PutNum_r0, brk_pos (by simp; omega), ck_pos (by simp [big47]; omega)]
        have e1 : (n : Int).tmod 128 = ((n % 128 : Nat) : Int) := by rw [Int.tmod_eq_emod_of_nonneg (by omega)]; omega
        have e2 : (n : Int).tdiv 128 = ((n / 128 : Nat) : Int) := by rw [Int.tdiv_eq_ediv_of_nonneg (by omega)]; omega
        rw [e1, e2, wrap64 (by omega) (by omega), wrap64 (by omega) (by omega), wrap8 (by omega) (by omega)]
        rw [show ((n % 128 : Nat) : Int) + 128 = ((n % 128 + 128 : Nat) : Int) by omega]
        exact h1
      · rw [h2, numB_big hs]; simp
/-- What is put of a number. -/
def putN (x : Int) : List Int := if 0 ≤ x ∧ x ≤ 2147483647 then numB x.toNat else []
theorem spec_l1In_ok (x lo hi : Int) : spec_l1In_F (x, (lo, (hi, ()))) = some ((decide (lo ≤ x) && decide (x ≤ hi), ()), ((), ((), ((), ())))) := by
  rw [spec_l1In_main]
  by_cases h : lo ≤ x <;> simp [h]
theorem spec_PutNum_in (n : Nat) (h : n ≤ 2147483647) : loopG spec_PutNum_t0 spec_PutNum_B0 (spec_PutNum_K0 (n : Int)) (((n : Int), ()), ([], ())) = some ((numB n, ()), ((), ())) := by
  obtain ⟨m, d, acc', h1, h2, h3, h4⟩ := spec_PutNum_loop (spec_PutNum_K0 (n : Int)) 4 n [] (by omega) h (by simp)
  have h5 : spec_PutNum_K0 (n : Int) (.exit 0) (spec_PutNum_x0_0 (d : Int) acc') = some ((numB n, ()), ((), ())) := by
    rw [spec_PutNum_e0_0, wrap8 (by omega) (by omega), ck_pos (by simp at h4; simp [big47]; omega), h2]; rfl
  rw [spec_PutNum_l0 m h1 ⟨_, h5⟩, h5]
theorem impl_PutNum_in (n : Nat) (h : n ≤ 2147483647) : loopG impl_PutNum_t0 impl_PutNum_B0 (impl_PutNum_K0 (n : Int)) (((n : Int), ()), ([], ())) = some ((numB n, ()), ((), ())) := by
  obtain ⟨m, d, acc', h1, h2, h3, h4⟩ := impl_PutNum_loop (impl_PutNum_K0 (n : Int)) 4 n [] (by omega) h (by simp)
  have h5 : impl_PutNum_K0 (n : Int) (.exit 0) (impl_PutNum_x0_0 (d : Int) acc') = some ((numB n, ()), ((), ())) := by
    rw [impl_PutNum_e0_0, wrap8 (by omega) (by omega), ck_pos (by simp at h4; simp [big47]; omega), h2]; rfl
  rw [impl_PutNum_l0 m h1 ⟨_, h5⟩, h5]
theorem spec_PutNum_ok (x : Int) : spec_PutNum_F (x, ()) = some ((putN x, ()), ((), ())) := by
  rw [spec_PutNum_main, spec_l1In_ok]
  simp only [Option.bind_some]
  unfold putN
  by_cases h : 0 ≤ x ∧ x ≤ 2147483647
  · obtain ⟨n, rfl⟩ := Int.eq_ofNat_of_zero_le h.1
    rw [brk_neg (by simp; omega), if_pos h, spec_PutNum_in n (by omega)]
    simp
  · rw [brk_pos (by simp; omega), if_neg h]
theorem impl_PutNum_ok (x : Int) : impl_PutNum_F (x, ()) = some ((putN x, ()), ((), ())) := by
  rw [impl_PutNum_main]
  unfold putN
  by_cases h : 0 ≤ x ∧ x ≤ 2147483647
  · obtain ⟨n, rfl⟩ := Int.eq_ofNat_of_zero_le h.1
    rw [brk_neg (by simp), brk_neg (by simp; omega), if_pos h, impl_PutNum_in n (by omega)]
    simp
  · rw [if_neg h]
    by_cases h0 : x < 0
    · rw [brk_pos (by simpa using h0)]
    · rw [brk_neg (by simpa using h0), brk_pos (by simp; omega)]
theorem putN_len (x : Int) : (putN x).length ≤ 5 := by
  unfold putN
  split
  · exact numB_len 4 _ (by omega)
  · simp
def sums : Int → Int → List Int → Int × Int
  | a, b, [] => (a, b)
  | a, b, x :: xs => sums ((a + x) % 65521) ((b + (a + x) % 65521) % 65521) xs
theorem tmod_step {x : Int} (h : 0 ≤ x) : x.tmod 65521 = x % 65521 := Int.tmod_eq_emod_of_nonneg h
theorem spec_SumOf_loop {R : Type} (K : Ex → AS → Option R) (xs : List Int) (hx : ∀ x ∈ xs, 0 ≤ x ∧ x ≤ 255) (hb : xs.length ≤ big47) : ∀ (n i : Nat) (a b : Int), i + n = xs.length → 0 ≤ a → a ≤ 65521 → 0 ≤ b → b ≤ 65521 →
    iterG spec_SumOf_t0 spec_SumOf_B0 K (n + 1) ((xs, (a, (b, ((i : Int), ())))), ()) = K (.exit 0) (spec_SumOf_x0_0 (sums a b (xs.drop i)).1 (sums a b (xs.drop i)).2)
  | 0, i, a, b, h, _, _, _, _ => by
    rw [spec_SumOf_r0, brk_neg (by simp; omega), List.drop_of_length_le (by omega)]
    simp [sums]
  | n + 1, i, a, b, h, ha, ha', hb1, hb2 => by
    have hi : i < xs.length := by omega
    have hr := hx xs[i] (List.getElem_mem hi)
    simp only [big47] at hb
    rw [spec_SumOf_r0, brk_pos (by simp; omega), ck_pos (by simp; omega), rdD_get (List.getElem?_eq_getElem hi)]
    rw [wrap64 (x := xs[i]) (by omega) (by omega), wrap64 (x := a + xs[i]) (by omega) (by omega), tmod_step (x := a + xs[i]) (by omega)]
    rw [wrap64 (x := b + (a + xs[i]) % 65521) (by omega) (by omega), tmod_step (x := b + (a + xs[i]) % 65521) (by omega), wrap64 (by omega) (by omega), show ((i : Int) + 1) = ((i + 1 : Nat) : Int) by simp]
    rw [spec_SumOf_loop K xs hx (by simp only [big47]; omega) n (i + 1) _ _ (by omega) (by omega) (by omega) (by omega) (by omega), List.drop_eq_getElem_cons hi]
    simp only [sums]
theorem impl_SumOf_loop {R : Type} (K : Ex → AS → Option R) (xs : List Int) (hx : ∀ x ∈ xs, 0 ≤ x ∧ x ≤ 255) (hb : xs.length ≤ big47) : ∀ (n i : Nat) (a b : Int), i + n = xs.length → 0 ≤ a → a ≤ 65521 → 0 ≤ b → b ≤ 65521 →
    iterG impl_SumOf_t0 impl_SumOf_B0 K (n + 1) ((a, (b, (xs, ((xs.length : Int), ((i : Int), ()))))), ()) = K (.exit 0) (impl_SumOf_x0_0 (sums a b (xs.drop i)).1 (sums a b (xs.drop i)).2)
  | 0, i, a, b, h, _, _, _, _ => by
    rw [impl_SumOf_r0, brk_neg (by simp; omega), List.drop_of_length_le (by omega)]
    simp [sums]
  | n + 1, i, a, b, h, ha, ha', hb1, hb2 => by
    have hi : i < xs.length := by omega
    have hr := hx xs[i] (List.getElem_mem hi)
    simp only [big47] at hb
    rw [impl_SumOf_r0, brk_pos (by simp; omega), ck_pos (by simp; omega), rdD_get (List.getElem?_eq_getElem hi)]
    rw [wrap64 (x := xs[i]) (by omega) (by omega), wrap64 (x := a + xs[i]) (by omega) (by omega), tmod_step (x := a + xs[i]) (by omega)]
    rw [wrap64 (x := b + (a + xs[i]) % 65521) (by omega) (by omega), tmod_step (x := b + (a + xs[i]) % 65521) (by omega), wrap64 (by omega) (by omega), show ((i : Int) + 1) = ((i + 1 : Nat) : Int) by simp]
    rw [impl_SumOf_loop K xs hx (by simp only [big47]; omega) n (i + 1) _ _ (by omega) (by omega) (by omega) (by omega) (by omega), List.drop_eq_getElem_cons hi]
    simp only [sums]
theorem sums_bound : ∀ (xs : List Int) (a b : Int), (∀ x ∈ xs, 0 ≤ x ∧ x ≤ 255) → 0 ≤ a → a ≤ 65521 → 0 ≤ b → b ≤ 65521 → 0 ≤ (sums a b xs).1 ∧ (sums a b xs).1 ≤ 65521 ∧ 0 ≤ (sums a b xs).2 ∧ (sums a b xs).2 ≤ 65521
  | [], a, b, _, h1, h2, h3, h4 => ⟨h1, h2, h3, h4⟩
  | x :: xs, a, b, h, h1, h2, h3, h4 => by
    have hr := h x (by simp)
    simp only [sums]
    exact sums_bound xs _ _ (fun y hy => h y (by simp [hy])) (by omega) (by omega) (by omega) (by omega)
def sumB (xs : List Int) : Int := (sums 1 0 xs).2 * 65536 + (sums 1 0 xs).1
theorem spec_SumOf_ok (xs : List Int) (hx : ∀ x ∈ xs, 0 ≤ x ∧ x ≤ 255) (hb : xs.length ≤ big47) : spec_SumOf_F (xs, ()) = some ((sumB xs, ()), ((), ())) := by
  have hs := sums_bound xs 1 0 hx (by omega) (by omega) (by omega) (by omega)
  rw [spec_SumOf_main]
  have h : iterG spec_SumOf_t0 spec_SumOf_B0 (spec_SumOf_K0 xs) (xs.length + 1) ((xs, ((1 : Int), ((0 : Int), ((0 : Int), ())))), ()) = _ := spec_SumOf_loop (spec_SumOf_K0 xs) xs hx hb xs.length 0 1 0 (by omega) (by omega) (by omega) (by omega) (by omega)
  rw [spec_SumOf_l0 _ h ⟨_, spec_SumOf_e0_0 _ _ _⟩, spec_SumOf_e0_0]
  simp only [List.drop_zero]
  rw [wrap64 (x := (sums 1 0 xs).2 * 65536) (by omega) (by omega), wrap64 (by omega) (by omega)]
  rfl
theorem impl_SumOf_ok (xs : List Int) (hx : ∀ x ∈ xs, 0 ≤ x ∧ x ≤ 255) (hb : xs.length ≤ big47) : impl_SumOf_F (xs, ()) = some ((sumB xs, ()), ((), ())) := by
  have hs := sums_bound xs 1 0 hx (by omega) (by omega) (by omega) (by omega)
  rw [impl_SumOf_main]
  have h : iterG impl_SumOf_t0 impl_SumOf_B0 (impl_SumOf_K0 xs) (xs.length + 1) (((1 : Int), ((0 : Int), (xs, ((xs.length : Int), ((0 : Int), ()))))), ()) = _ := impl_SumOf_loop (impl_SumOf_K0 xs) xs hx hb xs.length 0 1 0 (by omega) (by omega) (by omega) (by omega) (by omega)
  rw [impl_SumOf_l0 _ h ⟨_, impl_SumOf_e0_0 _ _ _⟩, impl_SumOf_e0_0]
  simp only [List.drop_zero]
  rw [wrap64 (x := (sums 1 0 xs).2 * 65536) (by omega) (by omega), wrap64 (by omega) (by omega)]
  rfl
theorem big47_eq : big47 = 140737488355328 := rfl
theorem wrap8m (x : Int) : IntKind.u8.wrap x = x % 256 := by
  simp only [IntKind.wrap, IntKind.signed, IntKind.bits]
  simp
theorem numB_range : ∀ (k n : Nat), n < 128 ^ (k + 1) → ∀ b ∈ numB n, 0 ≤ b ∧ b ≤ 255
  | 0, n, h, b, hb => by rw [numB_small (by omega)] at hb; simp at hb; omega
  | k + 1, n, h, b, hb => by
    by_cases hn : n ≤ 127
    · rw [numB_small hn] at hb; simp at hb; omega
    · rw [numB_big hn] at hb
      rcases List.mem_cons.1 hb with rfl | hb
      · omega
      · exact numB_range k (n / 128) (by rw [Nat.div_lt_iff_lt_mul (by omega)]; rw [Nat.pow_succ] at h; exact h) b hb
theorem putN_range (x : Int) : ∀ b ∈ putN x, 0 ≤ b ∧ b ≤ 255 := by
  unfold putN
  split
  · exact numB_range 4 _ (by omega)
  · simp
/-- A loop that counts up: a round ends it, or goes on. -/
theorem for_loop {R σ : Type} {G : Nat → Nat → σ → Option R} (N : Nat) (Inv : Nat → σ → Prop) (Post : Option R → Prop)
    (hs : ∀ i s, i < N → Inv i s → (∃ v, Post v ∧ ∀ n, G (n + 1) i s = v) ∨ (∃ s', Inv (i + 1) s' ∧ ∀ n, G (n + 1) i s = G n (i + 1) s'))
    (hf : ∀ s, Inv N s → ∃ v, Post v ∧ ∀ n, G (n + 1) N s = v) (s : σ) (h : Inv 0 s) : ∃ n v, G n 0 s = v ∧ Post v := by
  have key : ∀ (k i : Nat) (s : σ), i + k = N → Inv i s → ∃ n v, G n i s = v ∧ Post v := by
    intro k
    induction k with
    | zero =>
      intro i s hi h
      have : i = N := by omega
      subst this
      obtain ⟨v, hv, hg⟩ := hf s h
      exact ⟨1, v, hg 0, hv⟩
    | succ k ih =>
      intro i s hi h
      rcases hs i s (by omega) h with ⟨v, hv, hg⟩ | ⟨s', h', hg⟩
      · exact ⟨1, v, hg 0, hv⟩
      · obtain ⟨n, v, hn, hv⟩ := ih (i + 1) s' (by omega) h'
        exact ⟨n + 1, v, (hg n).trans hn, hv⟩
  exact key N 0 s (by omega) h
theorem step_nat (i : Nat) (h : i ≤ 4611686018427387904) : IntKind.i64.wrap ((i : Int) + 1) = ((i + 1 : Nat) : Int) := by
  rw [wrap64 (by omega) (by omega)]; rfl
theorem rdD_nat {t : Ty} (xs : List t.D) (i : Nat) : rdD t xs (i : Int) = xs.getD i t.zero := rfl
theorem getD_at {α : Type} {xs : List α} {i : Nat} {d : α} (h : i < xs.length) : xs.getD i d = xs[i] := by simp [h]
theorem ck_idx {R : Type} {i n : Nat} (h : i < n) (a : Option R) : ck (decide ((0 : Int) ≤ (i : Int)) && decide ((i : Int) < (n : Int))) a = a := ck_pos (by simp; omega) a
theorem brk_lt {R : Type} {i n : Nat} (h : i < n) (a b : Option R) : brk (decide ((i : Int) < (n : Int))) a b = a := brk_pos (by simp; omega) a b
theorem brk_nlt {R : Type} {i n : Nat} (h : ¬ i < n) (a b : Option R) : brk (decide ((i : Int) < (n : Int))) a b = b := brk_neg (by simp; omega) a b
theorem c3 {α : Type} (l : List α) : ((l.length : Int) = 3) = (l.length = 3) := propext (by omega)
theorem c0 {α : Type} (l : List α) : ((0 : Int) < (l.length : Int)) = (0 < l.length) := propext (by omega)
/-- The number that such bytes begin with, and how many they are (j: those that were read). -/
def gnumF : Nat → List Int → Int → Int → Nat → Option (Int × Nat)
  | 0, _, _, _, _ => none
  | d + 1, [], _, _, _ => none
  | d + 1, x :: l, n, u, j => if x ≥ 128 then gnumF d l (n + x % 128 * u) (u * 128) (j + 1) else if n + x % 128 * u > 2147483647 then none else if x = 0 ∧ j > 0 then none else some (n + x % 128 * u, j + 1)
/-- GetNum of what is left. -/
def gnum (l : List Int) : Option (Int × Nat) := gnumF 5 l 0 1 0
def gtri (at_ : Int) : Option (Int × Nat) → Int × Int × Bool
  | none => (0, 0, false)
  | some (n, j) => (n, at_ + j, true)
/-- GetNum. -/
def getP (b : List Int) (at_ : Int) : Int × Int × Bool := if 0 ≤ at_ then gtri at_ (gnum (b.drop at_.toNat)) else (0, 0, false)
/-- A number's bytes (fuel first). -/
def pnumF : Nat → Int → List Int
  | 0, _ => []
  | d + 1, n => if n > 127 then (n % 128 + 128) :: pnumF d (n / 128) else [n]
/-- PutNum. -/
def pnum (n : Int) : List Int := if 0 ≤ n ∧ n ≤ 2147483647 then pnumF 5 n else []
theorem num_step (acc u n : Int) : acc + n % 128 * u + n / 128 * (u * 128) = acc + n * u := by
  have h : n * u = (128 * (n / 128) + n % 128) * u := by congr 1; omega
  rw [h, Int.add_mul, Int.mul_comm u 128, ← Int.mul_assoc, Int.mul_comm (n / 128) 128]
  omega
theorem gnumF_pnumF (d : Nat) : ∀ (n acc u : Int) (j : Nat) (rest : List Int), 0 ≤ n → n < 128 ^ (d + 1) → (0 < n ∨ j = 0) → acc + n * u ≤ 2147483647 → gnumF (d + 1) (pnumF (d + 1) n ++ rest) acc u j = some (acc + n * u, j + (pnumF (d + 1) n).length) := by
  induction d with
  | zero =>
    intro n acc u j rest h0 h1 h2 h3
    have h4 : n < 128 := by simpa using h1
    have e : pnumF 1 n = [n] := by rw [pnumF, if_neg (by omega)]
    have e2 : n % 128 = n := by omega
    rw [e, List.singleton_append, gnumF, if_neg (by omega), e2, if_neg (by omega), if_neg (by omega)]
    rfl
  | succ d ih =>
    intro n acc u j rest h0 h1 h2 h3
    by_cases h : n > 127
    · have e : pnumF (d + 1 + 1) n = (n % 128 + 128) :: pnumF (d + 1) (n / 128) := by rw [pnumF, if_pos h]
      have hs := num_step acc u n
      have hm : (n % 128 + 128) % 128 = n % 128 := by omega
      have hd : n / 128 < 128 ^ (d + 1) := by
        rw [Int.pow_succ] at h1
        exact Int.ediv_lt_of_lt_mul (by decide) h1
      rw [e, List.cons_append, gnumF, if_pos (by omega), hm, ih (n / 128) _ _ (j + 1) rest (by omega) hd (.inl (by omega)) (by rw [hs]; exact h3), hs]
      simp only [List.length_cons]
      congr 2
      omega
    · have e : pnumF (d + 1 + 1) n = [n] := by rw [pnumF, if_neg h]
      have e2 : n % 128 = n := by omega
      rw [e, List.singleton_append, gnumF, if_neg (by omega), e2, if_neg (by omega), if_neg (by omega)]
      rfl
/-- A number's bytes are read as the number, whatever comes behind. -/
theorem gnum_pnum (n : Int) (rest : List Int) (h0 : 0 ≤ n) (h1 : n ≤ 2147483647) : gnum (pnum n ++ rest) = some (n, (pnum n).length) := by
  unfold gnum pnum
  rw [if_pos ⟨h0, h1⟩]
  have := gnumF_pnumF 4 n 0 1 0 rest h0 (Int.lt_of_le_of_lt h1 (by decide)) (.inr rfl) (by omega)
  rw [this]
  simp
theorem gnumF_take (d : Nat) : ∀ (l : List Int) (acc u : Int) (j : Nat) (n : Int) (m : Nat), (∀ z ∈ l, 0 ≤ z ∧ z ≤ 255) → gnumF d l acc u j = some (n, m) → ∃ q, 0 ≤ q ∧ n = acc + q * u ∧ j < m ∧ m - j ≤ l.length ∧ l.take (m - j) = pnumF d q ∧ (0 < j → 0 < q) ∧ n ≤ 2147483647 := by
  induction d with
  | zero => intro l acc u j n m hb h; simp [gnumF] at h
  | succ d ih =>
    intro l acc u j n m hb h
    cases l with
    | nil => simp [gnumF] at h
    | cons x l =>
      have hx := hb x (by simp)
      rw [gnumF] at h
      by_cases h1 : x ≥ 128
      · rw [if_pos h1] at h
        obtain ⟨q, q0, q1, q2, q3, q4, q5, q6⟩ := ih l _ _ _ n m (fun z hz => hb z (by simp [hz])) h
        have q7 := q5 (by omega)
        have e1 : (x % 128 + 128 * q) / 128 = q := by omega
        have e2 : (x % 128 + 128 * q) % 128 + 128 = x := by omega
        have hs := num_step acc u (x % 128 + 128 * q)
        rw [show (x % 128 + 128 * q) % 128 = x % 128 by omega, e1] at hs
        refine ⟨x % 128 + 128 * q, by omega, by rw [q1, hs], by omega, by simp only [List.length_cons]; omega, ?_, fun _ => by omega, q6⟩
        rw [show m - j = (m - (j + 1)) + 1 by omega, List.take_succ_cons, q4, pnumF, if_pos (by omega), e1, e2]
      · rw [if_neg h1] at h
        have e : x % 128 = x := by omega
        rw [e] at h
        by_cases h2 : acc + x * u > 2147483647
        · rw [if_pos h2] at h; cases h
        rw [if_neg h2] at h
        by_cases h3 : x = 0 ∧ j > 0
        · rw [if_pos h3] at h; cases h
        rw [if_neg h3] at h
        cases h
        refine ⟨x, hx.1, rfl, by omega, by simp only [List.length_cons]; omega, ?_, fun q => by omega, by omega⟩
        rw [show j + 1 - j = 0 + 1 by omega, List.take_succ_cons, pnumF, if_neg (by omega)]
        rfl
/-- What is read as a number is that number's bytes. -/
theorem gnum_take (l : List Int) (n : Int) (m : Nat) (hb : ∀ z ∈ l, 0 ≤ z ∧ z ≤ 255) (h : gnum l = some (n, m)) : 0 ≤ n ∧ n ≤ 2147483647 ∧ 1 ≤ m ∧ m ≤ l.length ∧ l.take m = pnum n := by
  obtain ⟨q, q0, q1, q2, q3, q4, _, q6⟩ := gnumF_take 5 l 0 1 0 n m hb h
  have e : n = q := by omega
  subst e
  refine ⟨q0, q6, q2, by simpa using q3, ?_⟩
  unfold pnum
  rw [if_pos ⟨q0, q6⟩]
  simpa using q4
theorem pnumF_numB : ∀ (d n : Nat), n < 128 ^ (d + 1) → pnumF (d + 1) (n : Int) = numB n
  | 0, n, h => by rw [numB_small (by omega), pnumF, if_neg (by omega)]
  | d + 1, n, h => by
    by_cases hn : n ≤ 127
    · rw [numB_small hn, pnumF, if_neg (by omega)]
    · rw [numB_big hn, pnumF, if_pos (by omega), ← pnumF_numB d (n / 128) (by rw [Nat.div_lt_iff_lt_mul (by omega)]; rw [Nat.pow_succ] at h; exact h)]
      congr 1
theorem pnum_putN (x : Int) : pnum x = putN x := by
  unfold pnum putN
  by_cases h : 0 ≤ x ∧ x ≤ 2147483647
  · obtain ⟨n, rfl⟩ := Int.eq_ofNat_of_zero_le h.1
    rw [if_pos h, if_pos h]
    exact pnumF_numB 4 n (by omega)
  · rw [if_neg h, if_neg h]
theorem rdY (xs : List Int) (i : Nat) : rdD tY xs (i : Int) = xs.getD i 0 := rfl
/-- What GetNum hands back. -/
def getR (b : List Int) (at_ : Int) : Option ((Int × Int × Bool × Unit) × (Unit × Unit × Unit)) := some (((getP b at_).1, ((getP b at_).2.1, ((getP b at_).2.2, ()))), ((), ((), ())))
theorem getR_neg {b : List Int} {at_ : Int} (h : at_ < 0) : getR b at_ = some (((0 : Int), ((0 : Int), (false, ()))), ((), ((), ()))) := by
  unfold getR getP; rw [if_neg (by omega)]
theorem getR_none {b : List Int} {a : Nat} (h : gnum (b.drop a) = none) : getR b (a : Int) = some (((0 : Int), ((0 : Int), (false, ()))), ((), ((), ()))) := by
  unfold getR getP; rw [if_pos (by omega), Int.toNat_natCast, h]; rfl
theorem getR_some {b : List Int} {a : Nat} {n : Int} {j : Nat} (h : gnum (b.drop a) = some (n, j)) : getR b (a : Int) = some ((n, (((a + j : Nat) : Int), (true, ()))), ((), ((), ()))) := by
  unfold getR getP; rw [if_pos (by omega), Int.toNat_natCast, h]; simp [gtri]
theorem pow128 (i : Nat) (h : i ≤ 5) : (1 : Int) ≤ 128 ^ i ∧ (128 : Int) ^ i ≤ 34359738368 := by
  match i, h with
  | 0, _ => decide
  | 1, _ => decide
  | 2, _ => decide
  | 3, _ => decide
  | 4, _ => decide
  | 5, _ => decide
theorem impl_GetNum_ok (b : List Int) (at_ : Int) (hb : b.length ≤ big47) (hr : ∀ x ∈ b, 0 ≤ x ∧ x ≤ 255) (ha : at_ ≤ 9223372036854775807) : impl_GetNum_F (b, (at_, ())) = getR b at_ := by
  rw [big47_eq] at hb
  rw [impl_GetNum_main]
  by_cases h0 : at_ < 0
  · rw [brk_pos (decide_eq_true h0), getR_neg h0]
  rw [brk_neg (decide_eq_false h0)]
  obtain ⟨a, rfl⟩ := Int.eq_ofNat_of_zero_le (by omega : 0 ≤ at_)
  obtain ⟨n, v, hh, rfl⟩ := for_loop (σ := Int) (G := fun n i s => iterG impl_GetNum_t0 impl_GetNum_B0 (impl_GetNum_K0 b (a : Int)) n ((b, ((a : Int), (s, ((128 : Int) ^ i, ((i : Int), ()))))), ())) 5
    (fun i s => 0 ≤ s ∧ s < 128 ^ i ∧ gnumF (5 - i) (b.drop (a + i)) s (128 ^ i) i = gnum (b.drop a)) (· = getR b (a : Int))
    (fun i s hi ⟨hI1, hI2, hI3⟩ => by
      have hp := pow128 i (by omega)
      have hp2 := pow128 (i + 1) (by omega)
      rw [Int.pow_succ] at hp2
      rw [show 5 - i = (4 - i) + 1 by omega] at hI3
      by_cases hin : a + i < b.length
      · have hx := hr _ (List.getElem_mem hin)
        have e0 : b.drop (a + i) = b[a + i] :: b.drop (a + (i + 1)) := List.drop_eq_getElem_cons hin
        rw [e0, gnumF] at hI3
        have hm : 0 ≤ b[a + i] % 128 ∧ b[a + i] % 128 ≤ 127 := by omega
        have hmul : b[a + i] % 128 * 128 ^ i ≤ 127 * 128 ^ i := Int.mul_le_mul_of_nonneg_right hm.2 (by omega)
        have hmul0 : 0 ≤ b[a + i] % 128 * 128 ^ i := Int.mul_nonneg hm.1 (by omega)
        have key : ∀ n, iterG impl_GetNum_t0 impl_GetNum_B0 (impl_GetNum_K0 b (a : Int)) (n + 1) ((b, ((a : Int), (s, ((128 : Int) ^ i, ((i : Int), ()))))), ()) = brk (decide ((128 : Int) ≤ b[a + i])) (iterG impl_GetNum_t0 impl_GetNum_B0 (impl_GetNum_K0 b (a : Int)) n ((b, ((a : Int), (s + b[a + i] % 128 * 128 ^ i, ((128 : Int) ^ (i + 1), (((i + 1 : Nat) : Int), ()))))), ()))
            (brk (decide ((2147483647 : Int) < s + b[a + i] % 128 * 128 ^ i)) (impl_GetNum_K0 b (a : Int) (.exit 0) impl_GetNum_x0_0) (brk (decide (b[a + i] = 0)) (brk (decide ((0 : Int) < (i : Int))) (impl_GetNum_K0 b (a : Int) (.exit 0) impl_GetNum_x0_0) (impl_GetNum_K0 b (a : Int) .ret (impl_GetNum_x0_1 (s + b[a + i] % 128 * 128 ^ i) ((a + i + 1 : Nat) : Int) true))) (impl_GetNum_K0 b (a : Int) .ret (impl_GetNum_x0_1 (s + b[a + i] % 128 * 128 ^ i) ((a + i + 1 : Nat) : Int) true)))) := fun n => by
          rw [impl_GetNum_r0, brk_pos (decide_eq_true (by omega)), wrap64 (x := (b.length : Int) - i) (by omega) (by omega), brk_pos (decide_eq_true (by omega)), wrap64 (x := (a : Int) + i) (by omega) (by omega), show (a : Int) + i = ((a + i : Nat) : Int) by omega, ck_idx hin, rdY, getD_at hin,
            wrap64 (x := b[a + i]) (by omega) (by omega), Int.tmod_eq_emod_of_nonneg hx.1, wrap64 (x := b[a + i] % 128 * 128 ^ i) (by omega) (by omega), wrap64 (x := s + b[a + i] % 128 * 128 ^ i) (by omega) (by omega), wrap64 (x := (128 : Int) ^ i * 128) (by omega) (by omega), wrap64 (x := (i : Int) + 1) (by omega) (by omega), wrap64 (x := ((a + i : Nat) : Int) + 1) (by omega) (by omega), Int.pow_succ]
          rfl
        by_cases h1 : b[a + i] ≥ 128
        · rw [if_pos h1] at hI3
          refine .inr ⟨s + b[a + i] % 128 * 128 ^ i, ⟨by omega, by rw [Int.pow_succ]; omega, ?_⟩, fun n => ?_⟩
          · rw [Int.pow_succ, ← hI3, show 5 - (i + 1) = 4 - i by omega]
          · dsimp only
            rw [key, brk_pos (decide_eq_true h1)]
        · rw [if_neg h1] at hI3
          by_cases h2 : s + b[a + i] % 128 * 128 ^ i > 2147483647
          · rw [if_pos h2] at hI3
            refine .inl ⟨_, rfl, fun n => ?_⟩
            dsimp only
            rw [key, brk_neg (decide_eq_false h1), brk_pos (decide_eq_true h2), impl_GetNum_e0_0, getR_none hI3.symm]
          · rw [if_neg h2] at hI3
            by_cases h3 : b[a + i] = 0
            · by_cases h4 : i > 0
              · rw [if_pos ⟨h3, h4⟩] at hI3
                refine .inl ⟨_, rfl, fun n => ?_⟩
                dsimp only
                rw [key, brk_neg (decide_eq_false h1), brk_neg (decide_eq_false h2), brk_pos (decide_eq_true h3), brk_pos (decide_eq_true (by omega)), impl_GetNum_e0_0, getR_none hI3.symm]
              · rw [if_neg fun h => h4 h.2] at hI3
                refine .inl ⟨_, rfl, fun n => ?_⟩
                dsimp only
                rw [key, brk_neg (decide_eq_false h1), brk_neg (decide_eq_false h2), brk_pos (decide_eq_true h3), brk_neg (decide_eq_false (by omega)), impl_GetNum_e0_1, getR_some hI3.symm]
                rfl
            · rw [if_neg fun h => h3 h.1] at hI3
              refine .inl ⟨_, rfl, fun n => ?_⟩
              dsimp only
              rw [key, brk_neg (decide_eq_false h1), brk_neg (decide_eq_false h2), brk_neg (decide_eq_false h3), impl_GetNum_e0_1, getR_some hI3.symm]
              rfl
      · rw [List.drop_of_length_le (by omega), gnumF] at hI3
        refine .inl ⟨_, rfl, fun n => ?_⟩
        dsimp only
        rw [impl_GetNum_r0, brk_pos (decide_eq_true (by omega)), wrap64 (x := (b.length : Int) - i) (by omega) (by omega), brk_neg (decide_eq_false (by omega)), impl_GetNum_e0_0, getR_none hI3.symm])
    (fun s ⟨hI1, hI2, hI3⟩ => ⟨_, rfl, fun n => by
      dsimp only
      rw [impl_GetNum_r0, brk_neg (by decide), impl_GetNum_e0_0, getR_none hI3.symm]⟩) 0 ⟨by omega, by decide, rfl⟩
  exact impl_GetNum_l0 n hh ⟨_, rfl⟩
theorem shl7 {x : Int} {i : Nat} (h0 : 0 ≤ x) (h1 : x ≤ 127) (hi : i < 5) : shlN .i64 x (((7 * i : Nat)) : Int) = x * 128 ^ i := by
  have hp := pow128 i (by omega)
  unfold shlN
  have e : (2 : Int) ^ (min ((7 * i : Nat) : Int).toNat IntKind.i64.bits) = 128 ^ i := by
    rw [Int.toNat_natCast, show IntKind.i64.bits = 64 from rfl, Nat.min_eq_left (by omega), Int.pow_mul]; rfl
  rw [e]
  have h2 : x * 128 ^ i ≤ 127 * 128 ^ i := Int.mul_le_mul_of_nonneg_right h1 (by omega)
  have h3 : 0 ≤ x * 128 ^ i := Int.mul_nonneg h0 (by omega)
  exact wrap64 (by omega) (by omega)
theorem or_nat {x y : Nat} (hx : x < 4611686018427387904) (hy : y < 4611686018427387904) : orN .i64 (x : Int) (y : Int) = ((x ||| y : Nat) : Int) := by
  unfold orN
  have e : (BitVec.ofInt IntKind.i64.bits (x : Int) ||| BitVec.ofInt IntKind.i64.bits (y : Int)).toNat = x ||| y := by
    rw [BitVec.ofInt_natCast, BitVec.ofInt_natCast, BitVec.toNat_or, BitVec.toNat_ofNat, BitVec.toNat_ofNat]
    simp only [IntKind.bits]
    rw [Nat.mod_eq_of_lt (by omega), Nat.mod_eq_of_lt (by omega)]
  rw [e]
  have h1 : x < 2 ^ 62 := by omega
  have h2 : y < 2 ^ 62 := by omega
  have := Nat.or_lt_two_pow h1 h2
  exact wrap64 (by omega) (by omega)
theorem or_add {s x : Int} {i : Nat} (h0 : 0 ≤ s) (h1 : s < 128 ^ i) (h2 : 0 ≤ x) (h3 : x ≤ 127) (hi : i < 5) : orN .i64 s (x * 128 ^ i) = s + x * 128 ^ i := by
  have hp := pow128 i (by omega)
  have h4 : x * 128 ^ i ≤ 127 * 128 ^ i := Int.mul_le_mul_of_nonneg_right h3 (by omega)
  obtain ⟨a, rfl⟩ := Int.eq_ofNat_of_zero_le h0
  obtain ⟨c, rfl⟩ := Int.eq_ofNat_of_zero_le h2
  have e : (c : Int) * 128 ^ i = ((c * 128 ^ i : Nat) : Int) := by rw [Int.natCast_mul, Int.natCast_pow]; rfl
  have e2 : (128 : Int) ^ i = ((128 ^ i : Nat) : Int) := by rw [Int.natCast_pow]; rfl
  have e3 : (2 : Nat) ^ (7 * i) = 128 ^ i := Nat.pow_mul 2 7 i
  have ha : a < 2 ^ (7 * i) := by rw [e3]; rw [e2] at h1; omega
  have hc : (c * 128 ^ i : Nat) = c <<< (7 * i) := by rw [Nat.shiftLeft_eq, e3]
  rw [e] at h4 ⊢
  rw [or_nat (by rw [e2] at h1; omega) (by omega)]
  have := Nat.shiftLeft_add_eq_or_of_lt ha c
  rw [hc, Nat.or_comm, ← this]
  omega
theorem spec_GetNum_ok (b : List Int) (at_ : Int) (hb : b.length ≤ big47) (hr : ∀ x ∈ b, 0 ≤ x ∧ x ≤ 255) (ha : at_ ≤ 9223372036854775807) : spec_GetNum_F (b, (at_, ())) = getR b at_ := by
  rw [big47_eq] at hb
  rw [spec_GetNum_main]
  by_cases h0 : at_ < 0
  · rw [spec_GetNum_l0 1 (v := getR b at_) (by rw [spec_GetNum_r0, brk_pos (by decide), brk_pos (decide_eq_true h0), spec_GetNum_e0_0, getR_neg h0]) ⟨_, rfl⟩]
  obtain ⟨a, rfl⟩ := Int.eq_ofNat_of_zero_le (by omega : 0 ≤ at_)
  obtain ⟨n, v, hh, rfl⟩ := for_loop (σ := Int) (G := fun n i s => iterG spec_GetNum_t0 spec_GetNum_B0 (spec_GetNum_K0 b (a : Int)) n ((b, ((a : Int), (s, ((i : Int), ())))), ())) 5
    (fun i s => 0 ≤ s ∧ s < 128 ^ i ∧ gnumF (5 - i) (b.drop (a + i)) s (128 ^ i) i = gnum (b.drop a)) (· = getR b (a : Int))
    (fun i s hi ⟨hI1, hI2, hI3⟩ => by
      have hp := pow128 i (by omega)
      have hp2 := pow128 (i + 1) (by omega)
      rw [Int.pow_succ] at hp2
      rw [show 5 - i = (4 - i) + 1 by omega] at hI3
      by_cases hin : a + i < b.length
      · have hx := hr _ (List.getElem_mem hin)
        have e0 : b.drop (a + i) = b[a + i] :: b.drop (a + (i + 1)) := List.drop_eq_getElem_cons hin
        rw [e0, gnumF] at hI3
        have hm : 0 ≤ b[a + i] % 128 ∧ b[a + i] % 128 ≤ 127 := by omega
        have hmul : b[a + i] % 128 * 128 ^ i ≤ 127 * 128 ^ i := Int.mul_le_mul_of_nonneg_right hm.2 (by omega)
        have hmul0 : 0 ≤ b[a + i] % 128 * 128 ^ i := Int.mul_nonneg hm.1 (by omega)
        have key : ∀ n, iterG spec_GetNum_t0 spec_GetNum_B0 (spec_GetNum_K0 b (a : Int)) (n + 1) ((b, ((a : Int), (s, ((i : Int), ())))), ()) =
            brk (decide (b[a + i] < (128 : Int)))
            (brk (decide ((0 : Int) < (i : Int)))
              (brk (decide (b[a + i] = 0)) (spec_GetNum_K0 b (a : Int) .ret (spec_GetNum_x0_0 (0 : Int) (0 : Int) false))
                (brk (decide ((2147483647 : Int) < s + b[a + i] % 128 * 128 ^ i)) (spec_GetNum_K0 b (a : Int) .ret (spec_GetNum_x0_0 (0 : Int) (0 : Int) false)) (spec_GetNum_K0 b (a : Int) .ret (spec_GetNum_x0_0 (s + b[a + i] % 128 * 128 ^ i) ((a + i + 1 : Nat) : Int) true))))
              (brk (decide ((2147483647 : Int) < s + b[a + i] % 128 * 128 ^ i)) (spec_GetNum_K0 b (a : Int) .ret (spec_GetNum_x0_0 (0 : Int) (0 : Int) false)) (spec_GetNum_K0 b (a : Int) .ret (spec_GetNum_x0_0 (s + b[a + i] % 128 * 128 ^ i) ((a + i + 1 : Nat) : Int) true))))
            (iterG spec_GetNum_t0 spec_GetNum_B0 (spec_GetNum_K0 b (a : Int)) n ((b, ((a : Int), (s + b[a + i] % 128 * 128 ^ i, (((i + 1 : Nat) : Int), ())))), ())) := fun n => by
          rw [spec_GetNum_r0, brk_pos (decide_eq_true (by omega)), brk_neg (decide_eq_false (by omega)), wrap64 (x := (b.length : Int) - i) (by omega) (by omega), brk_neg (decide_eq_false (by omega)), wrap64 (x := (a : Int) + i) (by omega) (by omega), show (a : Int) + i = ((a + i : Nat) : Int) by omega, ck_idx hin, rdY, getD_at hin,
            wrap64 (x := b[a + i]) (by omega) (by omega), Int.tmod_eq_emod_of_nonneg hx.1, wrap64 (x := 7 * (i : Int)) (by omega) (by omega), ck_pos (decide_eq_true (by omega)), show (7 : Int) * i = ((7 * i : Nat) : Int) by omega, shl7 hm.1 hm.2 hi, or_add hI1 hI2 hm.1 hm.2 hi, wrap64 (x := (i : Int) + 1) (by omega) (by omega), wrap64 (x := ((a + i : Nat) : Int) + 1) (by omega) (by omega)]
          rfl
        by_cases h1 : b[a + i] ≥ 128
        · rw [if_pos h1] at hI3
          refine .inr ⟨s + b[a + i] % 128 * 128 ^ i, ⟨by omega, by rw [Int.pow_succ]; omega, ?_⟩, fun n => ?_⟩
          · rw [Int.pow_succ, ← hI3, show 5 - (i + 1) = 4 - i by omega]
          · dsimp only
            rw [key, brk_neg (decide_eq_false (Int.not_lt.2 h1))]
        · rw [if_neg h1] at hI3
          have h1' : b[a + i] < 128 := by omega
          by_cases h2 : s + b[a + i] % 128 * 128 ^ i > 2147483647
          · rw [if_pos h2] at hI3
            refine .inl ⟨_, rfl, fun n => ?_⟩
            dsimp only
            rw [key, brk_pos (decide_eq_true h1'), getR_none hI3.symm]
            by_cases h4 : (0 : Int) < (i : Int)
            · by_cases h3 : b[a + i] = 0
              · rw [brk_pos (decide_eq_true h4), brk_pos (decide_eq_true h3), spec_GetNum_e0_0]
              · rw [brk_pos (decide_eq_true h4), brk_neg (decide_eq_false h3), brk_pos (decide_eq_true h2), spec_GetNum_e0_0]
            · rw [brk_neg (decide_eq_false h4), brk_pos (decide_eq_true h2), spec_GetNum_e0_0]
          · rw [if_neg h2] at hI3
            by_cases h4 : i > 0
            · by_cases h3 : b[a + i] = 0
              · rw [if_pos ⟨h3, h4⟩] at hI3
                refine .inl ⟨_, rfl, fun n => ?_⟩
                dsimp only
                rw [key, brk_pos (decide_eq_true h1'), brk_pos (decide_eq_true (by omega)), brk_pos (decide_eq_true h3), spec_GetNum_e0_0, getR_none hI3.symm]
              · rw [if_neg fun h => h3 h.1] at hI3
                refine .inl ⟨_, rfl, fun n => ?_⟩
                dsimp only
                rw [key, brk_pos (decide_eq_true h1'), brk_pos (decide_eq_true (by omega)), brk_neg (decide_eq_false h3), brk_neg (decide_eq_false h2), spec_GetNum_e0_0, getR_some hI3.symm]
                rfl
            · rw [if_neg fun h => h4 h.2] at hI3
              refine .inl ⟨_, rfl, fun n => ?_⟩
              dsimp only
              rw [key, brk_pos (decide_eq_true h1'), brk_neg (decide_eq_false (by omega)), brk_neg (decide_eq_false h2), spec_GetNum_e0_0, getR_some hI3.symm]
              rfl
      · rw [List.drop_of_length_le (by omega), gnumF] at hI3
        refine .inl ⟨_, rfl, fun n => ?_⟩
        dsimp only
        rw [spec_GetNum_r0, brk_pos (decide_eq_true (by omega)), brk_neg (decide_eq_false (by omega)), wrap64 (x := (b.length : Int) - i) (by omega) (by omega), brk_pos (decide_eq_true (by omega)), spec_GetNum_e0_0, getR_none hI3.symm])
    (fun s ⟨hI1, hI2, hI3⟩ => ⟨_, rfl, fun n => by
      dsimp only
      rw [spec_GetNum_r0, brk_neg (by decide), spec_GetNum_e0_1, getR_none hI3.symm]⟩) 0 ⟨by omega, by decide, rfl⟩
  exact spec_GetNum_l0 n hh ⟨_, rfl⟩
/-- As for_loop, for loops in loops. -/
theorem for_loop2 {R σ : Type} {G : Nat → Nat → σ → Option R} (N : Nat) (Inv : Nat → σ → Prop) (Post : Option R → Prop)
    (hs : ∀ i s, i < N → Inv i s → (∃ v, Post v ∧ ∀ n, G (n + 1) i s = v) ∨ (∃ s', Inv (i + 1) s' ∧ ∀ n v, Post v → G n (i + 1) s' = v → G (n + 1) i s = v))
    (hf : ∀ s, Inv N s → ∃ v, Post v ∧ ∀ n, G (n + 1) N s = v) (s : σ) (h : Inv 0 s) : ∃ n v, G n 0 s = v ∧ Post v := by
  have key : ∀ (k i : Nat) (s : σ), i + k = N → Inv i s → ∃ n v, G n i s = v ∧ Post v := by
    intro k
    induction k with
    | zero =>
      intro i s hi h
      have : i = N := by omega
      subst this
      obtain ⟨v, hv, hg⟩ := hf s h
      exact ⟨1, v, hg 0, hv⟩
    | succ k ih =>
      intro i s hi h
      rcases hs i s (by omega) h with ⟨v, hv, hg⟩ | ⟨s', h', hg⟩
      · exact ⟨1, v, hg 0, hv⟩
      · obtain ⟨n, v, hn, hv⟩ := ih (i + 1) s' (by omega) h'
        exact ⟨n + 1, v, hg n v hv hn, hv⟩
  exact key N 0 s (by omega) h
def Byte (b : List Int) : Prop := ∀ x ∈ b, (0 : Int) ≤ x ∧ x ≤ 255
def dg (n : Nat) : List Int := if h : n < 10 then [48 + (n : Int)] else dg (n / 10) ++ [48 + ((n % 10 : Nat) : Int)]
termination_by n
decreasing_by omega
theorem dg_small {n : Nat} (h : n < 10) : dg n = [48 + (n : Int)] := by rw [dg, dif_pos h]
theorem dg_big {n : Nat} (h : ¬ n < 10) : dg n = dg (n / 10) ++ [48 + ((n % 10 : Nat) : Int)] := by rw [dg, dif_neg h]
theorem dg_len : ∀ (k n : Nat), n < 10 ^ (k + 1) → (dg n).length ≤ k + 1 := by
  intro k
  induction k with
  | zero => intro n h; rw [dg_small (by omega)]; simp
  | succ k ih =>
    intro n h
    by_cases hn : n < 10
    · rw [dg_small hn]; simp
    · rw [dg_big hn, List.length_append]
      have := ih (n / 10) (by rw [Nat.div_lt_iff_lt_mul (by omega)]; rw [Nat.pow_succ] at h; exact h)
      simp only [List.length_cons, List.length_nil]
      omega
def dgz (n : Nat) : List Int := if n = 0 then [] else dg n
theorem dg_dgz {n : Nat} (h : 0 < n) : dg n = dgz (n / 10) ++ [48 + ((n % 10 : Nat) : Int)] := by
  by_cases hn : n < 10
  · rw [dg_small hn, show n / 10 = 0 by omega, show n % 10 = n by omega]; rfl
  · rw [dg_big hn]; unfold dgz; rw [if_neg (by omega)]
def dgI (x : Int) : List Int := if x < 0 then 45 :: dg x.natAbs else dg x.natAbs
theorem wrap32s {x : Int} (h0 : 0 ≤ x) (h1 : x < 128) : IntKind.i32.wrap x = x := by
  simp only [IntKind.wrap, IntKind.signed, IntKind.bits]
  simp
  omega
theorem tdivN (n : Nat) : ((n : Int)).tdiv 10 = ((n / 10 : Nat) : Int) := by rw [Int.tdiv_eq_ediv_of_nonneg (by omega)]; omega
theorem tmodN (n : Nat) : ((n : Int)).tmod 10 = ((n % 10 : Nat) : Int) := by rw [Int.tmod_eq_emod_of_nonneg (by omega)]; omega
theorem impl_dig_pos : ∀ (k n : Nat), k ≤ 30 → n < 10 ^ (k + 1) → n < 9223372036854775808 → impl_Digits_it (k + 1) ((n : Int), ()) = some ((dg n, ()), ((), ())) := by
  intro k
  induction k with
  | zero =>
    intro n hk h hm
    show impl_Digits_step (impl_Digits_it 0) ((n : Int), ()) = _
    rw [impl_Digits_main, brk_neg (decide_eq_false (by omega)), brk_neg (decide_eq_false (by omega)), brk_pos (decide_eq_true (by omega)), wrap64 (by omega) (by omega), wrap32s (by omega) (by omega), ck_pos (by simp; omega), dg_small (by omega)]
  | succ k ih =>
    intro n hk h hm
    show impl_Digits_step (impl_Digits_it (k + 1)) ((n : Int), ()) = _
    rw [impl_Digits_main, brk_neg (decide_eq_false (by omega)), brk_neg (decide_eq_false (by omega))]
    by_cases hn : n < 10
    · rw [brk_pos (decide_eq_true (by omega)), wrap64 (by omega) (by omega), wrap32s (by omega) (by omega), ck_pos (by simp; omega), dg_small (by omega)]
    · have hd : n / 10 < 10 ^ (k + 1) := by rw [Nat.div_lt_iff_lt_mul (by omega)]; rw [Nat.pow_succ] at h; exact h
      rw [brk_neg (decide_eq_false (by omega)), tdivN, tmodN, wrap64 (x := ((n / 10 : Nat) : Int)) (by omega) (by omega), ih _ (by omega) hd (by omega)]
      simp only [Option.bind_some]
      have hl := dg_len k _ hd
      rw [wrap64 (by omega) (by omega), wrap32s (by omega) (by omega), ck_pos (by simp; omega), ck_pos (decide_eq_true (by rw [big47_eq]; simp only [List.length_cons, List.length_nil]; omega)), dg_big hn]
theorem impl_dig_neg : ∀ (k m : Nat), k ≤ 29 → 1 ≤ m → m < 10 ^ (k + 1) → m ≤ 9223372036854775808 → impl_Digits_it (k + 2) (-(m : Int), ()) = some ((45 :: dg m, ()), ((), ())) := by
  intro k
  induction k with
  | zero =>
    intro m hk h1 h hm
    show impl_Digits_step (impl_Digits_it 1) (-(m : Int), ()) = _
    rw [impl_Digits_main, brk_pos (decide_eq_true (by omega)), brk_pos (decide_eq_true (by omega)), show (0 : Int) - -(m : Int) = (m : Int) by omega, wrap64 (by omega) (by omega), impl_dig_pos 0 m (by omega) (by omega) (by omega)]
    simp only [Option.bind_some]
    rw [ck_pos (decide_eq_true (by rw [big47_eq]; have := dg_len 0 m (by omega); simp only [List.length_cons, List.length_nil]; omega))]
    rfl
  | succ k ih =>
    intro m hk h1 h hm
    show impl_Digits_step (impl_Digits_it (k + 2)) (-(m : Int), ()) = _
    rw [impl_Digits_main, brk_pos (decide_eq_true (by omega))]
    by_cases hn : m < 10
    · have hp : m < 10 ^ (k + 1 + 1) := h
      rw [brk_pos (decide_eq_true (by omega)), show (0 : Int) - -(m : Int) = (m : Int) by omega, wrap64 (by omega) (by omega), impl_dig_pos (k + 1) m (by omega) hp (by omega)]
      simp only [Option.bind_some]
      rw [ck_pos (decide_eq_true (by rw [big47_eq]; have := dg_len (k + 1) m hp; simp only [List.length_cons, List.length_nil]; omega))]
      rfl
    · have hd : m / 10 < 10 ^ (k + 1) := by rw [Nat.div_lt_iff_lt_mul (by omega)]; rw [Nat.pow_succ] at h; exact h
      have hp : m % 10 < 10 ^ (k + 1 + 1) := Nat.lt_of_le_of_lt (Nat.mod_le m 10) h
      rw [brk_neg (decide_eq_false (by omega)), brk_pos (decide_eq_true (by omega)), Int.neg_tdiv, Int.neg_tmod, tdivN, tmodN, wrap64 (x := -((m / 10 : Nat) : Int)) (by omega) (by omega), ih _ (by omega) (by omega) hd (by omega)]
      simp only [Option.bind_some]
      rw [show (0 : Int) - -((m % 10 : Nat) : Int) = ((m % 10 : Nat) : Int) by omega, wrap64 (by omega) (by omega), impl_dig_pos (k + 1) (m % 10) (by omega) hp (by omega)]
      simp only [Option.bind_some]
      have hl := dg_len k _ hd
      rw [dg_small (n := m % 10) (by omega), ck_pos (decide_eq_true (by rw [big47_eq]; simp only [List.length_cons, List.length_nil]; omega)), dg_big hn]
      rfl
theorem impl_Digits_ok (x : Int) (h0 : -9223372036854775808 ≤ x) (h1 : x ≤ 9223372036854775807) : impl_Digits_F (x, ()) = some ((dgI x, ()), ((), ())) := by
  unfold dgI
  by_cases hx : x < 0
  · rw [if_pos hx]
    have := impl_dig_neg 22 x.natAbs (by omega) (by omega) (Nat.lt_of_le_of_lt (show x.natAbs ≤ 9223372036854775808 by omega) (by decide)) (by omega)
    rw [show -(x.natAbs : Int) = x by omega] at this
    exact this
  · rw [if_neg hx]
    have := impl_dig_pos 23 x.natAbs (by omega) (Nat.lt_of_le_of_lt (show x.natAbs ≤ 9223372036854775808 by omega) (by decide)) (by omega)
    rw [show (x.natAbs : Int) = x by omega] at this
    exact this
theorem spec_Digits_ok (x : Int) (h0 : -9223372036854775808 ≤ x) (h1 : x ≤ 9223372036854775807) : spec_Digits_F (x, ()) = some ((dgI x, ()), ((), ())) := by
  rw [spec_Digits_main]
  by_cases hx : x = 0
  · rw [brk_pos (decide_eq_true hx), hx]
    unfold dgI
    rw [if_neg (by decide), show (0 : Int).natAbs = 0 from rfl, dg_small (by decide)]
    rfl
  rw [brk_neg (decide_eq_false hx)]
  obtain ⟨n, v, hh, rfl⟩ := for_loop (σ := Nat × List Int) (G := fun n i z => iterG spec_Digits_t0 spec_Digits_B0 (spec_Digits_K0 x) n ((if x < 0 then -(z.1 : Int) else (z.1 : Int), (decide (x < 0), (z.2, ()))), ())) 20
    (fun i z => z.1 ≤ 9223372036854775808 ∧ (x < 0 ∨ z.1 < 9223372036854775808) ∧ z.1 < 10 ^ (20 - i) ∧ z.2.length = i ∧ dgz z.1 ++ z.2 = dg x.natAbs) (· = some ((dgI x, ()), ((), ())))
    (fun i z hi ⟨hI0, hI1, hI2, hI3, hI4⟩ => by
      obtain ⟨m, out⟩ := z
      simp only at hI0 hI1 hI2 hI3 hI4 ⊢
      by_cases hm : m = 0
      · subst hm
        refine .inl ⟨_, rfl, fun n => ?_⟩
        have e : out = dg x.natAbs := hI4
        rw [spec_Digits_r0, brk_neg (by simp), spec_Digits_e0_0, e]
        unfold dgI
        by_cases hs : x < 0
        · rw [brk_pos (decide_eq_true hs), if_pos hs, ck_pos (decide_eq_true (by rw [big47_eq, ← e]; simp only [List.length_cons, List.length_nil]; omega))]; rfl
        · rw [brk_neg (decide_eq_false hs), if_neg hs]
      · have hd : m / 10 < 10 ^ (20 - (i + 1)) := by
          rw [Nat.div_lt_iff_lt_mul (by omega), ← Nat.pow_succ, show (20 - (i + 1)).succ = 20 - i by omega]; exact hI2
        refine .inr ⟨(m / 10, (48 + ((m % 10 : Nat) : Int)) :: out), ⟨by simp only; omega, by simp only; omega, hd, by simp [hI3], ?_⟩, fun n => ?_⟩
        · simp only
          rw [← hI4]
          have := dg_dgz (n := m) (by omega)
          rw [show dgz m = dg m by unfold dgz; rw [if_neg hm], this, List.append_assoc]; rfl
        · simp only
          by_cases hs : x < 0
          · rw [if_pos hs, if_pos hs, spec_Digits_r0, brk_pos (by simp; omega), Int.neg_tdiv, Int.neg_tmod, tdivN, tmodN, wrap64 (x := -((m / 10 : Nat) : Int)) (by omega) (by omega)]
            by_cases hr : m % 10 = 0
            · rw [brk_neg (decide_eq_false (by omega)), hr, show (48 : Int) + -((0 : Nat) : Int) = 48 from rfl, wrap64 (by omega) (by omega), wrap8m, ck_pos (decide_eq_true (by rw [big47_eq]; simp only [List.length_cons, List.length_nil]; omega))]; rfl
            · rw [brk_pos (decide_eq_true (by omega)), show (0 : Int) - -((m % 10 : Nat) : Int) = ((m % 10 : Nat) : Int) by omega, wrap64 (x := ((m % 10 : Nat) : Int)) (by omega) (by omega), wrap64 (by omega) (by omega), wrap8m, show (48 + ((m % 10 : Nat) : Int)) % 256 = 48 + ((m % 10 : Nat) : Int) by omega, ck_pos (decide_eq_true (by rw [big47_eq]; simp only [List.length_cons, List.length_nil]; omega))]; rfl
          · rw [if_neg hs, if_neg hs, spec_Digits_r0, brk_pos (by simp; omega), tdivN, tmodN, wrap64 (x := ((m / 10 : Nat) : Int)) (by omega) (by omega), brk_neg (decide_eq_false (by omega)), wrap64 (by omega) (by omega), wrap8m, show (48 + ((m % 10 : Nat) : Int)) % 256 = 48 + ((m % 10 : Nat) : Int) by omega, ck_pos (decide_eq_true (by rw [big47_eq]; simp only [List.length_cons, List.length_nil]; omega))]; rfl)
    (fun z ⟨hI0, hI1, hI2, hI3, hI4⟩ => by
      obtain ⟨m, out⟩ := z
      simp only at hI0 hI1 hI2 hI3 hI4 ⊢
      have hm : m = 0 := by simpa using hI2
      subst hm
      refine ⟨_, rfl, fun n => ?_⟩
      have e : out = dg x.natAbs := hI4
      rw [spec_Digits_r0, brk_neg (by simp), spec_Digits_e0_0, e]
      unfold dgI
      by_cases hs : x < 0
      · rw [brk_pos (decide_eq_true hs), if_pos hs, ck_pos (decide_eq_true (by rw [big47_eq, ← e]; simp only [List.length_cons, List.length_nil]; omega))]; rfl
      · rw [brk_neg (decide_eq_false hs), if_neg hs]) (x.natAbs, []) ⟨by simp only; omega, by simp only; omega, Nat.lt_of_le_of_lt (show x.natAbs ≤ 9223372036854775808 by omega) (by decide), rfl, by simp only [List.append_nil]; unfold dgz; rw [if_neg (by omega)]⟩
  have hs : (if x < 0 then -((x.natAbs : Nat) : Int) else ((x.natAbs : Nat) : Int)) = x := by split <;> omega
  simp only [hs] at hh
  exact spec_Digits_l0 n hh ⟨_, rfl⟩
theorem nil_byte : Byte ([] : List Int) := fun x hx => by cases hx
theorem getD_mem {xs : List Int} {i : Nat} (hi : i < xs.length) : xs.getD i 0 ∈ xs := by
  rw [getD_at hi]; exact List.getElem_mem hi
/-- A cursor that stands well. -/
structure CurOk (c : tL1Cur.D) : Prop where
  len : List.length c.1 ≤ 1048576
  byte : Byte c.1
  lo : (0 : Int) ≤ c.2.1
  hi : c.2.1 ≤ (1048576 : Int)
theorem and_mask (x : Int) (m : Nat) (hm : m < 9223372036854775808) : 0 ≤ andN .i64 x (m : Int) ∧ andN .i64 x (m : Int) ≤ m := by
  have h : (BitVec.ofInt IntKind.i64.bits x &&& BitVec.ofInt IntKind.i64.bits (m : Int)).toNat ≤ m := by
    rw [BitVec.toNat_and]
    refine Nat.le_trans Nat.and_le_right ?_
    rw [BitVec.ofInt_natCast, BitVec.toNat_ofNat]
    exact Nat.mod_le _ _
  unfold andN
  rw [wrap64 (by omega) (by omega)]
  omega
theorem and_mask' (x m : Int) (h0 : 0 ≤ m) (hm : m < 9223372036854775808) : 0 ≤ andN .i64 x m ∧ andN .i64 x m ≤ m := by
  obtain ⟨n, rfl⟩ := Int.eq_ofNat_of_zero_le h0
  exact and_mask x n (by omega)
theorem spec_l1New_ok (code : List Int) (hl : code.length ≤ 1048576) (hb : Byte code) : ∃ c, CurOk c ∧ spec_l1New_F (code, ()) = some ((c, ()), ((), ())) := by
  rw [spec_l1New_main]
  obtain ⟨n, v, hh, c, hc, rfl⟩ := for_loop (σ := Int) (G := fun n i s => iterG spec_l1New_t0 spec_l1New_B0 (spec_l1New_K0 code) n ((code, (s, ((i : Int), ()))), ())) code.length (fun i s => True) (fun v => ∃ c, CurOk c ∧ v = some ((c, ()), ((), ())))
    (fun i s hi _ => by
      by_cases h4 : (i : Int) < 4000
      · refine .inr ⟨andN IntKind.i64 (IntKind.i64.wrap ((IntKind.i64.wrap ((IntKind.i64.wrap (s * (131 : Int))) + (IntKind.i64.wrap (code.getD i 0)))) + (7 : Int))) (1073741823 : Int), trivial, fun n => ?_⟩
        dsimp only
        rw [spec_l1New_r0, brk_lt hi, brk_pos (decide_eq_true h4), ck_idx hi, rdD_nat, show tY.zero = 0 from rfl, step_nat i (by omega)]
      · refine .inl ⟨_, ⟨(code, ((0 : Int), (s, ()))), ⟨hl, hb, Int.le_refl _, by simp⟩, rfl⟩, fun n => ?_⟩
        dsimp only
        rw [spec_l1New_r0, brk_lt hi, brk_neg (decide_eq_false h4), spec_l1New_e0_0])
    (fun s _ => ⟨_, ⟨(code, ((0 : Int), (s, ()))), ⟨hl, hb, Int.le_refl _, by simp⟩, rfl⟩, fun n => by
      dsimp only
      rw [spec_l1New_r0, brk_nlt (by omega), spec_l1New_e0_0]⟩) _ trivial
  exact ⟨c, hc, spec_l1New_l0 n hh ⟨_, rfl⟩⟩
theorem spec_l1Byte_ok {c : tL1Cur.D} (h : CurOk c) : ∃ x c', CurOk c' ∧ (0 : Int) ≤ x ∧ x ≤ 255 ∧ spec_l1Byte_F (c, ()) = some ((x, ()), (c', ())) := by
  obtain ⟨hl, hb, h0, h1⟩ := h
  obtain ⟨b, i, hh, u⟩ : List Int × Int × Int × Unit := c
  cases u
  simp only at hl hb h0 h1
  rw [spec_l1Byte_main]
  simp only
  by_cases hi : i < (List.length b : Int)
  · rw [brk_pos (decide_eq_true hi), ck_pos (by simp; exact ⟨h0, hi⟩)]
    have hm := fun z => and_mask' z 255 (by omega) (by omega)
    refine ⟨_, (b, (IntKind.i64.wrap (i + 1), (_, ()))), ⟨hl, hb, ?_, ?_⟩, (hm _).1, (hm _).2, rfl⟩
    · show (0 : Int) ≤ IntKind.i64.wrap (i + 1)
      rw [wrap64 (by omega) (by omega)]; omega
    · show IntKind.i64.wrap (i + 1) ≤ (1048576 : Int)
      rw [wrap64 (by omega) (by omega)]; omega
  · rw [brk_neg (decide_eq_false hi)]
    have hm := fun z => and_mask' z 255 (by omega) (by omega)
    exact ⟨_, (b, (i, (_, ()))), ⟨hl, hb, h0, h1⟩, (hm _).1, (hm _).2, rfl⟩
theorem tmod_in {x n : Int} (hx : 0 ≤ x) (hn : 0 < n) : 0 ≤ x.tmod n ∧ x.tmod n < n := ⟨Int.tmod_nonneg _ hx, Int.tmod_lt_of_pos _ hn⟩
theorem spec_l1Below_ok {c : tL1Cur.D} (h : CurOk c) (n : Int) : ∃ x c', CurOk c' ∧ (0 : Int) ≤ x ∧ (0 < n → x < n) ∧ spec_l1Below_F (c, (n, ())) = some ((x, ()), (c', ((), ()))) := by
  rw [spec_l1Below_main]
  by_cases hn : n ≤ 0
  · rw [brk_pos (decide_eq_true hn)]
    exact ⟨0, c, h, by omega, fun h => by omega, rfl⟩
  · rw [brk_neg (decide_eq_false hn)]
    by_cases h2 : n ≤ 256
    · rw [brk_pos (decide_eq_true h2)]
      obtain ⟨x, c1, hc, x0, x1, e⟩ := spec_l1Byte_ok h
      have e : spec_l1Byte_F ((c.1, (c.2.1, (c.2.2.1, ()))), ()) = _ := e
      rw [e]
      simp only [Option.bind_some]
      rw [ck_pos (decide_eq_true (by omega))]
      obtain ⟨a, b⟩ := tmod_in x0 (by omega : 0 < n)
      exact ⟨_, c1, hc, a, fun _ => b, rfl⟩
    · rw [brk_neg (decide_eq_false h2)]
      obtain ⟨x, c1, hc1, x0, x1, e1⟩ := spec_l1Byte_ok h
      obtain ⟨y, c2, hc2, y0, y1, e2⟩ := spec_l1Byte_ok hc1
      obtain ⟨z, c3, hc3, z0, z1, e3⟩ := spec_l1Byte_ok hc2
      obtain ⟨w, c4, hc4, w0, w1, e4⟩ := spec_l1Byte_ok hc3
      have e1 : spec_l1Byte_F ((c.1, (c.2.1, (c.2.2.1, ()))), ()) = _ := e1
      have e2 : spec_l1Byte_F ((c1.1, (c1.2.1, (c1.2.2.1, ()))), ()) = _ := e2
      have e3 : spec_l1Byte_F ((c2.1, (c2.2.1, (c2.2.2.1, ()))), ()) = _ := e3
      have e4 : spec_l1Byte_F ((c3.1, (c3.2.1, (c3.2.2.1, ()))), ()) = _ := e4
      rw [e1]
      simp only [Option.bind_some]
      rw [e2]
      simp only [Option.bind_some]
      rw [e3]
      simp only [Option.bind_some]
      rw [e4]
      simp only [Option.bind_some]
      have w1 : IntKind.i64.wrap (x * (16777216 : Int)) = x * 16777216 := wrap64 (by omega) (by omega)
      have w2 : IntKind.i64.wrap (y * (65536 : Int)) = y * 65536 := wrap64 (by omega) (by omega)
      have w3 : IntKind.i64.wrap (x * 16777216 + y * 65536) = x * 16777216 + y * 65536 := wrap64 (by omega) (by omega)
      have w4 : IntKind.i64.wrap (z * (256 : Int)) = z * 256 := wrap64 (by omega) (by omega)
      have w5 : IntKind.i64.wrap (x * 16777216 + y * 65536 + z * 256) = x * 16777216 + y * 65536 + z * 256 := wrap64 (by omega) (by omega)
      have w6 : IntKind.i64.wrap (x * 16777216 + y * 65536 + z * 256 + w) = x * 16777216 + y * 65536 + z * 256 + w := wrap64 (by omega) (by omega)
      rw [w1, w2, w3, w4, w5, w6, ck_pos (decide_eq_true (by omega))]
      obtain ⟨a, b⟩ := tmod_in (x := x * 16777216 + y * 65536 + z * 256 + w) (by omega) (by omega : 0 < n)
      exact ⟨_, c4, hc4, a, fun _ => b, rfl⟩
/-- As the program's text has it, a cursor cell by cell. -/
theorem below_cut {c : tL1Cur.D} (h : CurOk c) (n : Int) : ∃ x c', CurOk c' ∧ (0 : Int) ≤ x ∧ (0 < n → x < n) ∧ spec_l1Below_F ((c.1, (c.2.1, (c.2.2.1, ()))), (n, ())) = some ((x, ()), (c', ((), ()))) := spec_l1Below_ok h n
theorem spec_l1PickInt_ok {c : tL1Cur.D} (h : CurOk c) (l : List Int) (hl : 0 < l.length) (hb : l.length ≤ 1000) : ∃ x c', CurOk c' ∧ x ∈ l ∧ spec_l1PickInt_F (c, (l, ())) = some ((x, ()), (c', ((), ()))) := by
  obtain ⟨x, c1, hc, x0, x1, e⟩ := below_cut h (l.length : Int)
  rw [spec_l1PickInt_main, e]
  simp only [Option.bind_some]
  have x1 := x1 (by omega)
  rw [ck_pos (by simp; exact ⟨x0, x1⟩)]
  obtain ⟨i, rfl⟩ := Int.eq_ofNat_of_zero_le x0
  exact ⟨_, c1, hc, getD_mem (by omega : i < l.length), rfl⟩
theorem pick_cut {c : tL1Cur.D} (h : CurOk c) (l : List Int) (hl : 0 < l.length) (hb : l.length ≤ 1000) : ∃ x c', CurOk c' ∧ x ∈ l ∧ spec_l1PickInt_F ((c.1, (c.2.1, (c.2.2.1, ()))), (l, ())) = some ((x, ()), (c', ((), ()))) := spec_l1PickInt_ok h l hl hb
theorem spec_l1Once_ok {c : tL1Cur.D} (h : CurOk c) (n : Int) : ∃ x c', CurOk c' ∧ spec_l1Once_F (c, (n, ())) = some ((x, ()), (c', ((), ()))) := by
  obtain ⟨x, c1, hc, x0, x1, e⟩ := below_cut h n
  rw [spec_l1Once_main, e]
  exact ⟨_, c1, hc, rfl⟩
theorem once_cut {c : tL1Cur.D} (h : CurOk c) (n : Int) : ∃ x c', CurOk c' ∧ spec_l1Once_F ((c.1, (c.2.1, (c.2.2.1, ()))), (n, ())) = some ((x, ()), (c', ((), ()))) := spec_l1Once_ok h n
theorem Byte.app {a b : List Int} (ha : Byte a) (hb : Byte b) : Byte (a ++ b) := fun x hx => (List.mem_append.1 hx).elim (ha x) (hb x)
theorem wrap8_in (x : Int) : 0 ≤ IntKind.u8.wrap x ∧ IntKind.u8.wrap x ≤ 255 := by rw [wrap8m]; omega
theorem byte_one (x : Int) : Byte [IntKind.u8.wrap x] := fun y hy => by
  simp only [List.mem_singleton] at hy
  rw [hy]; exact wrap8_in x
theorem l3_inner (t4 : Int) : ∀ (m k : Nat) (out : List Int) (c : tL1Cur.D), k + m = 150 → CurOk c → Byte out → out.length + m ≤ 1000000 → ∃ (out' : List Int) (c' : tL1Cur.D), CurOk c' ∧ Byte out' ∧ out'.length ≤ out.length + m ∧
    ∀ {R : Type} (K : Ex → AS → Option R) (n : Nat), iterG spec_l3DrawBytes_t3 spec_l3DrawBytes_B3 K (n + (m + 1)) ((t4, ((k : Int), ())), (out, ((c.1, (c.2.1, (c.2.2.1, ()))), ()))) = K (.exit 3) (spec_l3DrawBytes_x3_0 t4 out' c'.1 c'.2.1 c'.2.2.1)
  | 0, k, out, c, hk, hc, hb, hl => by
    obtain ⟨y, c1, hc1, y0, y1, e⟩ := below_cut hc 150
    have y1 := y1 (by omega)
    refine ⟨out, c1, hc1, hb, by omega, fun K n => ?_⟩
    rw [spec_l3DrawBytes_r3, e]
    simp only [Option.bind_some]
    rw [brk_neg (decide_eq_false (by omega))]
  | m + 1, k, out, c, hk, hc, hb, hl => by
    obtain ⟨y, c1, hc1, y0, y1, e⟩ := below_cut hc 150
    have y1 := y1 (by omega)
    by_cases hy : (k : Int) < y
    · obtain ⟨out', c', h1, h2, h3, h4⟩ := l3_inner t4 m (k + 1) (out ++ [7]) c1 (by omega) hc1 (hb.app fun x hx => by simp at hx; omega) (by simp; omega)
      refine ⟨out', c', h1, h2, by simp at h3; omega, fun K n => ?_⟩
      rw [show n + (m + 1 + 1) = (n + (m + 1)) + 1 by omega, spec_l3DrawBytes_r3, e]
      simp only [Option.bind_some]
      rw [brk_pos (decide_eq_true hy), ck_pos (decide_eq_true (by rw [big47_eq]; simp; omega)), step_nat k (by omega), h4]
    · refine ⟨out, c1, hc1, hb, by omega, fun K n => ?_⟩
      rw [show n + (m + 1 + 1) = (n + (m + 1)) + 1 by omega, spec_l3DrawBytes_r3, e]
      simp only [Option.bind_some]
      rw [brk_neg (decide_eq_false hy)]
theorem spec_l3DrawBytes_ok {c : tL1Cur.D} (h : CurOk c) : ∃ (out : List Int) (c' : tL1Cur.D), CurOk c' ∧ Byte out ∧ out.length ≤ 2000 ∧ spec_l3DrawBytes_F (c, ()) = some ((out, ()), (c', ())) := by
  rw [spec_l3DrawBytes_main]
  obtain ⟨n, v, hh, out, c', h1, h2, h3, rfl⟩ := for_loop2 (σ := List Int × tL1Cur.D) (G := fun n i s => iterG spec_l3DrawBytes_t0 spec_l3DrawBytes_B0 (spec_l3DrawBytes_K0 c) n (((i : Int), ()), (s.1, ((s.2.1, (s.2.2.1, (s.2.2.2.1, ()))), ())))) 12 (fun i s => CurOk s.2 ∧ Byte s.1 ∧ List.length s.1 ≤ i * 150)
    (fun v => ∃ (out : List Int) (c' : tL1Cur.D), CurOk c' ∧ Byte out ∧ out.length ≤ 2000 ∧ v = some ((out, ()), (c', ())))
    (fun i s hi hI => by
      obtain ⟨out, c0⟩ := s
      obtain ⟨hc0, hb0, hl0⟩ := hI
      have hl0 : out.length ≤ i * 150 := hl0
      obtain ⟨y, c1, hc1, y0, y1, e⟩ := below_cut hc0 12
      by_cases hy : (i : Int) < y
      · obtain ⟨q, c2, hc2, q0, q1, e2⟩ := below_cut hc1 4
        by_cases hq0 : q = 0
        · obtain ⟨out', c', k1, k2, k3, k4⟩ := l3_inner (i : Int) 150 0 out c2 (by omega) hc2 hb0 (by omega)
          refine .inr ⟨(out', c'), ⟨k1, k2, by show out'.length ≤ _; omega⟩, fun n v hv hg => ?_⟩
          obtain ⟨o, cc, _, _, _, rfl⟩ := hv
          have k5 := k4 (spec_l3DrawBytes_K3 (spec_l3DrawBytes_K0 c) n) 0
          rw [spec_l3DrawBytes_e3_0, step_nat i (by omega)] at k5
          dsimp only at hg ⊢
          rw [spec_l3DrawBytes_r0, e]
          simp only [Option.bind_some]
          rw [brk_pos (decide_eq_true hy), e2]
          simp only [Option.bind_some]
          rw [brk_pos (decide_eq_true hq0)]
          exact spec_l3DrawBytes_l3 _ (k5.trans hg) ⟨_, rfl⟩
        · by_cases hq1 : q = 1
          · refine .inr ⟨(out ++ [97, 98, 99, 97, 98, 99, 97, 98], c2), ⟨hc2, hb0.app (fun x hx => by simp at hx; omega), by show (out ++ [97, 98, 99, 97, 98, 99, 97, 98]).length ≤ _; simp; omega⟩, fun n v hv hg => ?_⟩
            dsimp only at hg ⊢
            rw [spec_l3DrawBytes_r0, e]
            simp only [Option.bind_some]
            rw [brk_pos (decide_eq_true hy), e2]
            simp only [Option.bind_some]
            rw [brk_neg (decide_eq_false hq0), brk_pos (decide_eq_true hq1), ck_pos (by decide), ck_pos (decide_eq_true (by rw [big47_eq]; simp; omega)), step_nat i (by omega)]
            exact hg
          · by_cases hq2 : q = 2
            · obtain ⟨z, c3, hc3, z0, e3⟩ := pick_cut hc2 [0, 127, 128, 255] (by simp) (by simp)
              refine .inr ⟨(out ++ [IntKind.u8.wrap z], c3), ⟨hc3, hb0.app (byte_one z), by show (out ++ [IntKind.u8.wrap z]).length ≤ _; simp; omega⟩, fun n v hv hg => ?_⟩
              dsimp only at hg ⊢
              rw [spec_l3DrawBytes_r0, e]
              simp only [Option.bind_some]
              rw [brk_pos (decide_eq_true hy), e2]
              simp only [Option.bind_some]
              rw [brk_neg (decide_eq_false hq0), brk_neg (decide_eq_false hq1), brk_pos (decide_eq_true hq2), e3]
              simp only [Option.bind_some]
              rw [ck_pos (decide_eq_true (by rw [big47_eq]; simp; omega)), step_nat i (by omega)]
              exact hg
            · obtain ⟨z, c3, hc3, z0, z1, e3⟩ := below_cut hc2 5
              refine .inr ⟨(out ++ [IntKind.u8.wrap z], c3), ⟨hc3, hb0.app (byte_one z), by show (out ++ [IntKind.u8.wrap z]).length ≤ _; simp; omega⟩, fun n v hv hg => ?_⟩
              dsimp only at hg ⊢
              rw [spec_l3DrawBytes_r0, e]
              simp only [Option.bind_some]
              rw [brk_pos (decide_eq_true hy), e2]
              simp only [Option.bind_some]
              rw [brk_neg (decide_eq_false hq0), brk_neg (decide_eq_false hq1), brk_neg (decide_eq_false hq2), e3]
              simp only [Option.bind_some]
              rw [ck_pos (decide_eq_true (by rw [big47_eq]; simp; omega)), step_nat i (by omega)]
              exact hg
      · refine .inl ⟨_, ⟨out, c1, hc1, hb0, by omega, rfl⟩, fun n => ?_⟩
        dsimp only
        rw [spec_l3DrawBytes_r0, e]
        simp only [Option.bind_some]
        rw [brk_neg (decide_eq_false hy), spec_l3DrawBytes_e0_0])
    (fun s hI => by
      obtain ⟨out, c0⟩ := s
      obtain ⟨hc0, hb0, hl0⟩ := hI
      have hl0 : out.length ≤ 12 * 150 := hl0
      obtain ⟨y, c1, hc1, y0, y1, e⟩ := below_cut hc0 12
      have y1 := y1 (by omega)
      refine ⟨_, ⟨out, c1, hc1, hb0, by omega, rfl⟩, fun n => ?_⟩
      dsimp only
      rw [spec_l3DrawBytes_r0, e]
      simp only [Option.bind_some]
      rw [brk_neg (decide_eq_false (by omega)), spec_l3DrawBytes_e0_0]) (([] : List Int), c) ⟨h, nil_byte, by simp⟩
  exact ⟨out, c', h1, h2, h3, spec_l3DrawBytes_l0 n hh ⟨_, rfl⟩⟩
theorem spec_l1DrawNums_ok {c : tL1Cur.D} (h : CurOk c) : ∃ (out : List Int) (c' : tL1Cur.D), CurOk c' ∧ Byte out ∧ out.length ≤ 22 ∧ spec_l1DrawNums_F (c, ()) = some ((out, ()), (c', ())) := by
  rw [spec_l1DrawNums_main]
  have fin : ∀ (x0 : tL1Cur.D) (out : List Int) (c0 : tL1Cur.D), CurOk c0 → Byte out → out.length ≤ 20 → ∃ (o : List Int) (c' : tL1Cur.D), CurOk c' ∧ Byte o ∧ o.length ≤ 22 ∧ spec_l1DrawNums_K0 x0 (.exit 0) (spec_l1DrawNums_x0_0 out c0.1 c0.2.1 c0.2.2.1) = some ((o, ()), (c', ())) := fun x0 out c0 hc0 hb0 hl0 => by
    obtain ⟨y, c1, hc1, e⟩ := once_cut hc0 3
    rw [spec_l1DrawNums_e0_0, e]
    simp only [Option.bind_some]
    cases y
    · rw [brk_false]
      exact ⟨out, c1, hc1, hb0, by omega, rfl⟩
    · rw [brk_true]
      obtain ⟨z, c2, hc2, z0, e2⟩ := pick_cut hc1 [0, 128, 255] (by simp) (by simp)
      obtain ⟨q, c3, hc3, q0, q1, e3⟩ := below_cut hc2 3
      rw [e2]
      simp only [Option.bind_some]
      rw [e3]
      simp only [Option.bind_some]
      rw [ck_pos (decide_eq_true (by rw [big47_eq]; simp; omega))]
      exact ⟨_, c3, hc3, hb0.app ((byte_one z).app (byte_one q)), by simp; omega, rfl⟩
  obtain ⟨n, v, hh, out, c', h1, h2, h3, rfl⟩ := for_loop (σ := List Int × tL1Cur.D) (G := fun n i s => iterG spec_l1DrawNums_t0 spec_l1DrawNums_B0 (spec_l1DrawNums_K0 c) n (((i : Int), ()), (s.1, ((s.2.1, (s.2.2.1, (s.2.2.2.1, ()))), ())))) 4 (fun i s => CurOk s.2 ∧ Byte s.1 ∧ List.length s.1 ≤ i * 5)
    (fun v => ∃ (out : List Int) (c' : tL1Cur.D), CurOk c' ∧ Byte out ∧ out.length ≤ 22 ∧ v = some ((out, ()), (c', ())))
    (fun i s hi hI => by
      obtain ⟨out, c0⟩ := s
      obtain ⟨hc0, hb0, hl0⟩ := hI
      have hl0 : out.length ≤ i * 5 := hl0
      obtain ⟨y, c1, hc1, y0, y1, e⟩ := below_cut hc0 4
      by_cases hy : (i : Int) < y
      · obtain ⟨z, c2, hc2, z0, e2⟩ := pick_cut hc1 [0, 1, 127, 128, 300, 2147483647] (by simp) (by simp)
        have hz := putN_len z
        refine .inr ⟨(out ++ putN z, c2), ⟨hc2, hb0.app (putN_range z), by show (out ++ putN z).length ≤ _; simp; omega⟩, fun n => ?_⟩
        dsimp only
        rw [spec_l1DrawNums_r0, e]
        simp only [Option.bind_some]
        rw [brk_pos (decide_eq_true hy), e2]
        simp only [Option.bind_some]
        rw [spec_PutNum_ok]
        simp only [Option.bind_some]
        rw [ck_pos (decide_eq_true (by rw [big47_eq]; omega)), step_nat i (by omega)]
      · obtain ⟨o, c', k1, k2, k3, k4⟩ := fin c out c1 hc1 hb0 (by omega)
        refine .inl ⟨_, ⟨o, c', k1, k2, k3, rfl⟩, fun n => ?_⟩
        dsimp only
        rw [spec_l1DrawNums_r0, e]
        simp only [Option.bind_some]
        rw [brk_neg (decide_eq_false hy), k4])
    (fun s hI => by
      obtain ⟨out, c0⟩ := s
      obtain ⟨hc0, hb0, hl0⟩ := hI
      have hl0 : out.length ≤ 4 * 5 := hl0
      obtain ⟨y, c1, hc1, y0, y1, e⟩ := below_cut hc0 4
      have y1 := y1 (by omega)
      obtain ⟨o, c', k1, k2, k3, k4⟩ := fin c out c1 hc1 hb0 (by omega)
      refine ⟨_, ⟨o, c', k1, k2, k3, rfl⟩, fun n => ?_⟩
      dsimp only
      rw [spec_l1DrawNums_r0, e]
      simp only [Option.bind_some]
      rw [brk_neg (decide_eq_false (by omega)), k4]) (([] : List Int), c) ⟨h, nil_byte, by simp⟩
  exact ⟨out, c', h1, h2, h3, spec_l1DrawNums_l0 n hh ⟨_, rfl⟩⟩
theorem spec_DrawPutNum_ok (code : List Int) (hl : code.length ≤ 1048576) (hb : Byte code) : ∃ x : Int, spec_DrawPutNum_F (code, ()) = some ((x, ()), ((), ())) := by
  obtain ⟨c, hc, e⟩ := spec_l1New_ok code hl hb
  obtain ⟨z, c2, hc2, z0, e2⟩ := pick_cut hc [0, 1, 127, 128, 300, 16384, 2147483647, 2147483648, -1, 9223372036854775807] (by simp) (by simp)
  rw [spec_DrawPutNum_main, e]
  simp only [Option.bind_some]
  rw [e2]
  exact ⟨z, rfl⟩
theorem spec_DrawDigits_ok (code : List Int) (hl : code.length ≤ 1048576) (hb : Byte code) : ∃ x : Int, -9223372036854775808 ≤ x ∧ x ≤ 9223372036854775807 ∧ spec_DrawDigits_F (code, ()) = some ((x, ()), ((), ())) := by
  obtain ⟨c, hc, e⟩ := spec_l1New_ok code hl hb
  obtain ⟨z, c2, hc2, z0, e2⟩ := pick_cut hc [0, 7, -12, 100000, 9223372036854775807, -9223372036854775808] (by simp) (by simp)
  rw [spec_DrawDigits_main, e]
  simp only [Option.bind_some]
  rw [e2]
  simp only [List.mem_cons, List.not_mem_nil, or_false] at z0
  exact ⟨z, by omega, by omega, rfl⟩
theorem spec_DrawSumOf_ok (code : List Int) (hl : code.length ≤ 1048576) (hb : Byte code) : ∃ x : List Int, Byte x ∧ x.length ≤ 2000 ∧ spec_DrawSumOf_F (code, ()) = some ((x, ()), ((), ())) := by
  obtain ⟨c, hc, e⟩ := spec_l1New_ok code hl hb
  obtain ⟨z, c2, hc2, h1, h2, e2⟩ := spec_l3DrawBytes_ok hc
  have e2 : spec_l3DrawBytes_F ((c.1, (c.2.1, (c.2.2.1, ()))), ()) = _ := e2
  rw [spec_DrawSumOf_main, e]
  simp only [Option.bind_some]
  rw [e2]
  exact ⟨z, h1, h2, rfl⟩
theorem spec_DrawGetNum_ok (code : List Int) (hl : code.length ≤ 1048576) (hb : Byte code) : ∃ (x : List Int) (k : Int), Byte x ∧ x.length ≤ 2000 ∧ k ≤ 9223372036854775807 ∧ spec_DrawGetNum_F (code, ()) = some ((x, (k, ())), ((), ())) := by
  obtain ⟨c, hc, e⟩ := spec_l1New_ok code hl hb
  obtain ⟨z, c2, hc2, h1, h2, e2⟩ := spec_l1DrawNums_ok hc
  have e2 : spec_l1DrawNums_F ((c.1, (c.2.1, (c.2.2.1, ()))), ()) = _ := e2
  obtain ⟨k, c3, hc3, z0, e3⟩ := pick_cut hc2 [0, 0, 1, (z.length : Int), IntKind.i64.wrap ((z.length : Int) - 5), -1, 9223372036854775807] (by simp) (by simp)
  rw [spec_DrawGetNum_main, e]
  simp only [Option.bind_some]
  rw [e2]
  simp only [Option.bind_some]
  rw [e3]
  rw [wrap64 (by omega) (by omega)] at z0
  simp only [List.mem_cons, List.not_mem_nil, or_false] at z0
  exact ⟨z, k, h1, by omega, by omega, rfl⟩
theorem laws_FnNumbers_pure (code : tYs.D) (hC : Ok tYs code) : laws_FnNumbers_F (code, ()) = some ((true, ()), ((), ())) := by
  rw [laws_FnNumbers_main, laws_big_main]
  simp only [Option.bind_some]
  by_cases hx : (1048576 : Int) < (List.length code : Int)
  · rw [brk_pos (decide_eq_true hx)]
  rw [brk_neg (decide_eq_false hx)]
  have hl : List.length code ≤ 1048576 := by omega
  have hb : Byte code := fun x hx => hC.2 x hx
  obtain ⟨x, e1⟩ := spec_DrawPutNum_ok code hl hb
  obtain ⟨d, d0, d1, e2⟩ := spec_DrawDigits_ok code hl hb
  obtain ⟨s, s0, s1, e3⟩ := spec_DrawSumOf_ok code hl hb
  obtain ⟨raw, k, r0, r1, r2, e4⟩ := spec_DrawGetNum_ok code hl hb
  have g1 := impl_GetNum_ok raw k (by rw [big47_eq]; omega) r0 r2
  have g2 := spec_GetNum_ok raw k (by rw [big47_eq]; omega) r0 r2
  have hpl := putN_len x
  have g3 := impl_GetNum_ok (putN x) 0 (by rw [big47_eq]; omega) (putN_range x) (by omega)
  unfold getR at g1 g2 g3
  rw [e1]
  simp only [Option.bind_some]
  rw [impl_PutNum_ok]
  simp only [Option.bind_some]
  rw [e2]
  simp only [Option.bind_some]
  rw [e3]
  simp only [Option.bind_some]
  rw [e4]
  simp only [Option.bind_some]
  rw [g1]
  simp only [Option.bind_some]
  rw [g2]
  simp only [Option.bind_some]
  rw [spec_PutNum_ok]
  simp only [Option.bind_some, decide_true, Bool.not_true, brk_false]
  rw [impl_Digits_ok d d0 d1]
  simp only [Option.bind_some]
  rw [spec_Digits_ok d d0 d1]
  simp only [Option.bind_some, decide_true, Bool.not_true, brk_false]
  rw [impl_SumOf_ok s s0 (by rw [big47_eq]; omega)]
  simp only [Option.bind_some]
  rw [spec_SumOf_ok s s0 (by rw [big47_eq]; omega)]
  simp only [Option.bind_some, decide_true, Bool.not_true, brk_false, beq_self_eq_true]
  rw [g3]
  simp only [Option.bind_some]
  have last : brk (!(getP raw k).2.2) (some ((true, ()), ((), ()))) (ck (decide (0 ≤ k) && decide (k ≤ (getP raw k).2.1) && decide ((getP raw k).2.1 ≤ List.length raw)) ((impl_PutNum_F ((getP raw k).1, ())).bind fun y105 => some ((decide (y105.1.1 = (raw.take (getP raw k).2.1.toNat).drop k.toNat), ()), ((), ())))) = some ((true, ()), ((), ())) := by
    by_cases hk : 0 ≤ k
    · obtain ⟨a, rfl⟩ := Int.eq_ofNat_of_zero_le hk
      cases hg : gnum (raw.drop a) with
      | none =>
        have : getP raw (a : Int) = (0, 0, false) := by unfold getP; rw [if_pos hk, Int.toNat_natCast, hg]; rfl
        rw [this]; rfl
      | some p =>
        obtain ⟨z, m⟩ := p
        have : getP raw (a : Int) = (z, ((a + m : Nat) : Int), true) := by unfold getP; rw [if_pos hk, Int.toNat_natCast, hg]; rfl
        obtain ⟨q1, q2, q3, q4, q5⟩ := gnum_take _ _ _ (fun z hz => r0 z (List.mem_of_mem_drop hz)) hg
        rw [List.length_drop] at q4
        rw [this]
        simp only [Bool.not_true, brk_false]
        have hq : putN z = List.drop (a : Int).toNat (List.take ((a + m : Nat) : Int).toNat raw) := by
          rw [Int.toNat_natCast, Int.toNat_natCast, ← pnum_putN, ← q5, List.drop_take, Nat.add_sub_cancel_left]
        rw [ck_pos (by simp; omega), impl_PutNum_ok]
        exact congrArg (fun b => some ((b, ()), ((), ()))) (decide_eq_true hq)
    · have : getP raw k = (0, 0, false) := by unfold getP; rw [if_neg hk]
      rw [this]; rfl
  by_cases h0 : ((putN x).length : Int) = 0
  · rw [brk_pos (decide_eq_true h0)]
    exact last
  · rw [brk_neg (decide_eq_false h0)]
    have hx : 0 ≤ x ∧ x ≤ 2147483647 := by
      by_cases hx : 0 ≤ x ∧ x ≤ 2147483647
      · exact hx
      · exfalso; apply h0; unfold putN; rw [if_neg hx]; rfl
    have hg := gnum_pnum x [] hx.1 hx.2
    rw [List.append_nil, pnum_putN] at hg
    have : getP (putN x) 0 = (x, ((putN x).length : Int), true) := by
      unfold getP
      rw [if_pos (Int.le_refl 0), Int.toNat_zero, List.drop_zero, hg]
      show (x, ((0 : Int) + ((putN x).length : Int)), true) = _
      rw [Int.zero_add]
    rw [this]
    simp only [brk_true, decide_true]
    exact last
end Go.Refl
