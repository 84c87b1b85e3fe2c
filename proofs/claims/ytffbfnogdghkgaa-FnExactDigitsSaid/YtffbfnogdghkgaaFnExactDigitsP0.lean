/- Plain laws: what the functions come to. No condition. -/
import Derived.Test.YtffbfnogdghkgaaFnExactDigitsGf
namespace Go.Refl
open Go.RowKit
set_option linter.unusedVariables false
set_option linter.unusedSimpArgs false
theorem big47_eq : big47 = 140737488355328 := rfl
theorem wrap8m (x : Int) : IntKind.u8.wrap x = x % 256 := by
  simp only [IntKind.wrap, IntKind.signed, IntKind.bits]
  simp
/-- A loop that counts up: a round ends it, or goes on. -/
theorem for_loop {R σ : Type} {G : Nat → Nat → σ → Option R} (N : Nat) (Inv : Nat → σ → Prop) (Post : Option R → Prop)
    (hs : ∀ i s, i < N → Inv i s → (∃ v, Post v ∧ ∀ n, G (n + 1) i s = v) ∨ (∃ s', Inv (i + 1) s' ∧ ∀ n, G (n + 1) i s = G n (i + 1) s'))
    (hf : ∀ s, Inv N s → ∃ v, Post v ∧ ∀ n, G (n + 1) N s = v) (s : σ) (h : Inv 0 s) : ∃ n v, G n 0 s = v ∧ Post v := by
  have key : ∀ (k i : Nat) (s : σ), i + k = N → Inv i s → ∃ n v, G n i s = v ∧ Post v := by
    intro k
    induction k with
    | zero =>
      intro i s hi h
      have : i = N := by omega
      subst this
      obtain ⟨v, hv, hg⟩ := hf s h
      exact ⟨1, v, hg 0, hv⟩
    | succ k ih =>
      intro i s hi h
      rcases hs i s (by omega) h with ⟨v, hv, hg⟩ | ⟨s', h', hg⟩
      · exact ⟨1, v, hg 0, hv⟩
      · obtain ⟨n, v, hn, hv⟩ := ih (i + 1) s' (by omega) h'
        exact ⟨n + 1, v, (hg n).trans hn, hv⟩
  exact key N 0 s (by omega) h
def dg (n : Nat) : List Int := if h : n < 10 then [48 + (n : Int)] else dg (n / 10) ++ [48 + ((n % 10 : Nat) : Int)]
termination_by n
decreasing_by omega
theorem dg_small {n : Nat} (h : n < 10) : dg n = [48 + (n : Int)] := by rw [dg, dif_pos h]
theorem dg_big {n : Nat} (h : ¬ n < 10) : dg n = dg (n / 10) ++ [48 + ((n % 10 : Nat) : Int)] := by rw [dg, dif_neg h]
theorem dg_len : ∀ (k n : Nat), n < 10 ^ (k + 1) → (dg n).length ≤ k + 1 := by
  intro k
  induction k with
  | zero => intro n h; rw [dg_small (by omega)]; simp
  | succ k ih =>
    intro n h
    by_cases hn : n < 10
    · rw [dg_small hn]; simp
    · rw [dg_big hn, List.length_append]
      have := ih (n / 10) (by rw [Nat.div_lt_iff_lt_mul (by omega)]; rw [Nat.pow_succ] at h; exact h)
      simp only [List.length_cons, List.length_nil]
      omega
def dgz (n : Nat) : List Int := if n = 0 then [] else dg n
theorem dg_dgz {n : Nat} (h : 0 < n) : dg n = dgz (n / 10) ++ [48 + ((n % 10 : Nat) : Int)] := by
  by_cases hn : n < 10
  · rw [dg_small hn, show n / 10 = 0 by omega, show n % 10 = n by omega]; rfl
  · rw [dg_big hn]; unfold dgz; rw [if_neg (by omega)]
def dgI (x : Int) : List Int := if x < 0 then 45 :: dg x.natAbs else dg x.natAbs
theorem wrap32s {x : Int} (h0 : 0 ≤ x) (h1 : x < 128) : IntKind.i32.wrap x = x := by
  simp only [IntKind.wrap, IntKind.signed, IntKind.bits]
  simp
  omega
theorem tdivN (n : Nat) : ((n : Int)).tdiv 10 = ((n / 10 : Nat) : Int) := by rw [Int.tdiv_eq_ediv_of_nonneg (by omega)]; omega
theorem tmodN (n : Nat) : ((n : Int)).tmod 10 = ((n % 10 : Nat) : Int) := by rw [Int.tmod_eq_emod_of_nonneg (by omega)]; omega
theorem impl_dig_pos : ∀ (k n : Nat), k ≤ 30 → n < 10 ^ (k + 1) → n < 9223372036854775808 → impl_Digits_it (k + 1) ((n : Int), ()) = some ((dg n, ()), ((), ())) := by
  intro k
  induction k with
  | zero =>
    intro n hk h hm
    show impl_Digits_step (impl_Digits_it 0) ((n : Int), ()) = _
    rw [impl_Digits_main, brk_neg (decide_eq_false (by omega)), brk_neg (decide_eq_false (by omega)), brk_pos (decide_eq_true (by omega)), wrap64 (by omega) (by omega), wrap32s (by omega) (by omega), ck_pos (by simp; omega), dg_small (by omega)]
  | succ k ih =>
    intro n hk h hm
    show impl_Digits_step (impl_Digits_it (k + 1)) ((n : Int), ()) = _
    rw [impl_Digits_main, brk_neg (decide_eq_false (by omega)), brk_neg (decide_eq_false (by omega))]
    by_cases hn : n < 10
    · rw [brk_pos (decide_eq_true (by omega)), wrap64 (by omega) (by omega), wrap32s (by omega) (by omega), ck_pos (by simp; omega), dg_small (by omega)]
    · have hd : n / 10 < 10 ^ (k + 1) := by rw [Nat.div_lt_iff_lt_mul (by omega)]; rw [Nat.pow_succ] at h; exact h
      rw [brk_neg (decide_eq_false (by omega)), tdivN, tmodN, wrap64 (x := ((n / 10 : Nat) : Int)) (by omega) (by omega), ih _ (by omega) hd (by omega)]
      simp only [Option.bind_some]
      have hl := dg_len k _ hd
      rw [wrap64 (by omega) (by omega), wrap32s (by omega) (by omega), ck_pos (by simp; omega), ck_pos (decide_eq_true (by rw [big47_eq]; simp only [List.length_cons, List.length_nil]; omega)), dg_big hn]
theorem impl_dig_neg : ∀ (k m : Nat), k ≤ 29 → 1 ≤ m → m < 10 ^ (k + 1) → m ≤ 9223372036854775808 → impl_Digits_it (k + 2) (-(m : Int), ()) = some ((45 :: dg m, ()), ((), ())) := by
  intro k
  induction k with
  | zero =>
    intro m hk h1 h hm
    show impl_Digits_step (impl_Digits_it 1) (-(m : Int), ()) = _
    rw [impl_Digits_main, brk_pos (decide_eq_true (by omega)), brk_pos (decide_eq_true (by omega)), show (0 : Int) - -(m : Int) = (m : Int) by omega, wrap64 (by omega) (by omega), impl_dig_pos 0 m (by omega) (by omega) (by omega)]
    simp only [Option.bind_some]
    rw [ck_pos (decide_eq_true (by rw [big47_eq]; have := dg_len 0 m (by omega); simp only [List.length_cons, List.length_nil]; omega))]
    rfl
  | succ k ih =>
    intro m hk h1 h hm
    show impl_Digits_step (impl_Digits_it (k + 2)) (-(m : Int), ()) = _
    rw [impl_Digits_main, brk_pos (decide_eq_true (by omega))]
    by_cases hn : m < 10
    · have hp : m < 10 ^ (k + 1 + 1) := h
      rw [brk_pos (decide_eq_true (by omega)), show (0 : Int) - -(m : Int) = (m : Int) by omega, wrap64 (by omega) (by omega), impl_dig_pos (k + 1) m (by omega) hp (by omega)]
      simp only [Option.bind_some]
      rw [ck_pos (decide_eq_true (by rw [big47_eq]; have := dg_len (k + 1) m hp; simp only [List.length_cons, List.length_nil]; omega))]
      rfl
    · have hd : m / 10 < 10 ^ (k + 1) := by rw [Nat.div_lt_iff_lt_mul (by omega)]; rw [Nat.pow_succ] at h; exact h
      have hp : m % 10 < 10 ^ (k + 1 + 1) := Nat.lt_of_le_of_lt (Nat.mod_le m 10) h
      rw [brk_neg (decide_eq_false (by omega)), brk_pos (decide_eq_true (by omega)), Int.neg_tdiv, Int.neg_tmod, tdivN, tmodN, wrap64 (x := -((m / 10 : Nat) : Int)) (by omega) (by omega), ih _ (by omega) (by omega) hd (by omega)]
      simp only [Option.bind_some]
      rw [show (0 : Int) - -((m % 10 : Nat) : Int) = ((m % 10 : Nat) : Int) by omega, wrap64 (by omega) (by omega), impl_dig_pos (k + 1) (m % 10) (by omega) hp (by omega)]
      simp only [Option.bind_some]
      have hl := dg_len k _ hd
      rw [dg_small (n := m % 10) (by omega), ck_pos (decide_eq_true (by rw [big47_eq]; simp only [List.length_cons, List.length_nil]; omega)), dg_big hn]
      rfl
theorem impl_Digits_ok (x : Int) (h0 : -9223372036854775808 ≤ x) (h1 : x ≤ 9223372036854775807) : impl_Digits_F (x, ()) = some ((dgI x, ()), ((), ())) := by
  unfold dgI
  by_cases hx : x < 0
  · rw [if_pos hx]
    have := impl_dig_neg 22 x.natAbs (by omega) (by omega) (Nat.lt_of_le_of_lt (show x.natAbs ≤ 9223372036854775808 by omega) (by decide)) (by omega)
    rw [show -(x.natAbs : Int) = x by omega] at this
    exact this
  · rw [if_neg hx]
    have := impl_dig_pos 23 x.natAbs (by omega) (Nat.lt_of_le_of_lt (show x.natAbs ≤ 9223372036854775808 by omega) (by decide)) (by omega)
    rw [show (x.natAbs : Int) = x by omega] at this
    exact this
theorem spec_Digits_ok (x : Int) (h0 : -9223372036854775808 ≤ x) (h1 : x ≤ 9223372036854775807) : spec_Digits_F (x, ()) = some ((dgI x, ()), ((), ())) := by
  rw [spec_Digits_main]
  by_cases hx : x = 0
  · rw [brk_pos (decide_eq_true hx), hx]
    unfold dgI
    rw [if_neg (by decide), show (0 : Int).natAbs = 0 from rfl, dg_small (by decide)]
    rfl
  rw [brk_neg (decide_eq_false hx)]
  obtain ⟨n, v, hh, rfl⟩ := for_loop (σ := Nat × List Int) (G := fun n i z => iterG spec_Digits_t0 spec_Digits_B0 (spec_Digits_K0 x) n ((if x < 0 then -(z.1 : Int) else (z.1 : Int), (decide (x < 0), (z.2, ()))), ())) 20
    (fun i z => z.1 ≤ 9223372036854775808 ∧ (x < 0 ∨ z.1 < 9223372036854775808) ∧ z.1 < 10 ^ (20 - i) ∧ z.2.length = i ∧ dgz z.1 ++ z.2 = dg x.natAbs) (· = some ((dgI x, ()), ((), ())))
    (fun i z hi ⟨hI0, hI1, hI2, hI3, hI4⟩ => by
      obtain ⟨m, out⟩ := z
      simp only at hI0 hI1 hI2 hI3 hI4 ⊢
      by_cases hm : m = 0
      · subst hm
        refine .inl ⟨_, rfl, fun n => ?_⟩
        have e : out = dg x.natAbs := hI4
        rw [spec_Digits_r0, brk_neg (by simp), spec_Digits_e0_0, e]
        unfold dgI
        by_cases hs : x < 0
        · rw [brk_pos (decide_eq_true hs), if_pos hs, ck_pos (decide_eq_true (by rw [big47_eq, ← e]; simp only [List.length_cons, List.length_nil]; omega))]; rfl
        · rw [brk_neg (decide_eq_false hs), if_neg hs]
      · have hd : m / 10 < 10 ^ (20 - (i + 1)) := by
          rw [Nat.div_lt_iff_lt_mul (by omega), ← Nat.pow_succ, show (20 - (i + 1)).succ = 20 - i by omega]; exact hI2
        refine .inr ⟨(m / 10, (48 + ((m % 10 : Nat) : Int)) :: out), ⟨by simp only; omega, by simp only; omega, hd, by simp [hI3], ?_⟩, fun n => ?_⟩
        · simp only
          rw [← hI4]
          have := dg_dgz (n := m) (by omega)
          rw [show dgz m = dg m by unfold dgz; rw [if_neg hm], this, List.append_assoc]; rfl
        · simp only
          by_cases hs : x < 0
          · rw [if_pos hs, if_pos hs, spec_Digits_r0, brk_pos (by simp; omega), Int.neg_tdiv, Int.neg_tmod, tdivN, tmodN, wrap64 (x := -((m / 10 : Nat) : Int)) (by omega) (by omega)]
            by_cases hr : m % 10 = 0
            · rw [brk_neg (decide_eq_false (by omega)), hr, show (48 : Int) + -((0 : Nat) : Int) = 48 from rfl, wrap64 (by omega) (by omega), wrap8m, ck_pos (decide_eq_true (by rw [big47_eq]; simp only [List.length_cons, List.length_nil]; omega))]; rfl
            · rw [brk_pos (decide_eq_true (by omega)), show (0 : Int) - -((m % 10 : Nat) : Int) = ((m % 10 : Nat) : Int) by omega, wrap64 (x := ((m % 10 : Nat) : Int)) (by omega) (by omega), wrap64 (by omega) (by omega), wrap8m, show (48 + ((m % 10 : Nat) : Int)) % 256 = 48 + ((m % 10 : Nat) : Int) by omega, ck_pos (decide_eq_true (by rw [big47_eq]; simp only [List.length_cons, List.length_nil]; omega))]; rfl
          · rw [if_neg hs, if_neg hs, spec_Digits_r0, brk_pos (by simp; omega), tdivN, tmodN, wrap64 (x := ((m / 10 : Nat) : Int)) (by omega) (by omega), brk_neg (decide_eq_false (by omega)), wrap64 (by omega) (by omega), wrap8m, show (48 + ((m % 10 : Nat) : Int)) % 256 = 48 + ((m % 10 : Nat) : Int) by omega, ck_pos (decide_eq_true (by rw [big47_eq]; simp only [List.length_cons, List.length_nil]; omega))]; rfl)
    (fun z ⟨hI0, hI1, hI2, hI3, hI4⟩ => by
      obtain ⟨m, out⟩ := z
      simp only at hI0 hI1 hI2 hI3 hI4 ⊢
      have hm : m = 0 := by simpa using hI2
      subst hm
      refine ⟨_, rfl, fun n => ?_⟩
      have e : out = dg x.natAbs := hI4
      rw [spec_Digits_r0, brk_neg (by simp), spec_Digits_e0_0, e]
      unfold dgI
      by_cases hs : x < 0
      · rw [brk_pos (decide_eq_true hs), if_pos hs, ck_pos (decide_eq_true (by rw [big47_eq, ← e]; simp only [List.length_cons, List.length_nil]; omega))]; rfl
      · rw [brk_neg (decide_eq_false hs), if_neg hs]) (x.natAbs, []) ⟨by simp only; omega, by simp only; omega, Nat.lt_of_le_of_lt (show x.natAbs ≤ 9223372036854775808 by omega) (by decide), rfl, by simp only [List.append_nil]; unfold dgz; rw [if_neg (by omega)]⟩
  have hs : (if x < 0 then -((x.natAbs : Nat) : Int) else ((x.natAbs : Nat) : Int)) = x := by split <;> omega
  simp only [hs] at hh
  exact spec_Digits_l0 n hh ⟨_, rfl⟩
theorem laws_FnExactDigits_pure (x : tI.D) (hx : Ok tI x) : laws_FnExactDigits_F (x, ()) = some ((true, ()), ((), ())) := by
  have h : (-9223372036854775808 : Int) ≤ x ∧ (x : Int) ≤ 9223372036854775807 := hx
  rw [laws_FnExactDigits_main, spec_Digits_ok x h.1 h.2]
  simp only [Option.bind_some]
  rw [impl_Digits_ok x h.1 h.2]
  simp only [Option.bind_some, decide_true, Bool.not_true, brk_false]
end Go.Refl
