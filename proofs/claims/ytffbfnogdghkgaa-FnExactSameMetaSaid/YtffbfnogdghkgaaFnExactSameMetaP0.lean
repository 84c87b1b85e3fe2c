/- Plain laws: what the functions come to. No condition. -/
import Derived.Test.YtffbfnogdghkgaaFnExactSameMetaGf
namespace Go.Refl
open Go.RowKit
set_option linter.unusedVariables false
set_option linter.unusedSimpArgs false
theorem eqIntS_loop {R : Type} (K : Ex → AS → Option R) (xs ys : List Int) (hl : xs.length = ys.length) (hb : xs.length ≤ big47) : ∀ (n i : Nat), i + n = xs.length →
    iterG laws_eqIntS_t0 laws_eqIntS_B0 K (n + 1) ((xs, (ys, ((i : Int), ()))), ()) = if xs.drop i = ys.drop i then K (.exit 0) laws_eqIntS_x0_1 else K .ret (laws_eqIntS_x0_0 false)
  | 0, i, h => by
    have hx : xs.drop i = [] := List.drop_of_length_le (by omega)
    have hy : ys.drop i = [] := List.drop_of_length_le (by omega)
    rw [laws_eqIntS_r0, brk_neg (by simp; omega), hx, hy, if_pos rfl]
  | n + 1, i, h => by
    have hi : i < xs.length := by omega
    have hj : i < ys.length := by omega
    rw [laws_eqIntS_r0, brk_pos (by simp; omega), ck_pos (by simp; omega), ck_pos (by simp; omega)]
    rw [rdD_get (List.getElem?_eq_getElem hi), rdD_get (List.getElem?_eq_getElem hj)]
    have hd : (xs.drop i = ys.drop i) ↔ (xs[i] = ys[i] ∧ xs.drop (i + 1) = ys.drop (i + 1)) := by
      rw [List.drop_eq_getElem_cons hi, List.drop_eq_getElem_cons hj, List.cons.injEq]
    by_cases he : xs[i] = ys[i]
    · rw [brk_neg (by simp [he]), wrap64 (by omega) (by simp only [big47] at hb; omega)]
      have := eqIntS_loop K xs ys hl hb n (i + 1) (by omega)
      rw [show ((i : Int) + 1) = ((i + 1 : Nat) : Int) by simp, this]
      by_cases hr : xs.drop (i + 1) = ys.drop (i + 1)
      · rw [if_pos hr, if_pos (hd.2 ⟨he, hr⟩)]
      · rw [if_neg hr, if_neg fun h => hr (hd.1 h).2]
    · rw [brk_pos (by simp [he]), if_neg fun h => he (hd.1 h).1]
theorem eqIntS_ok (xs ys : List Int) (hb : xs.length ≤ big47) : laws_eqIntS_F (xs, (ys, ())) = some ((decide (xs = ys), ()), ((), ((), ()))) := by
  rw [laws_eqIntS_main]
  by_cases hl : xs.length = ys.length
  · rw [brk_neg (by simp [hl])]
    have h : iterG laws_eqIntS_t0 laws_eqIntS_B0 (laws_eqIntS_K0 xs ys) (xs.length + 1) ((xs, (ys, ((0 : Int), ()))), ()) = _ := eqIntS_loop (laws_eqIntS_K0 xs ys) xs ys hl hb xs.length 0 (by omega)
    by_cases he : xs = ys
    · rw [laws_eqIntS_l0 _ h (by subst he; exact ⟨_, by simp only [if_true]; exact laws_eqIntS_e0_1 _ _⟩)]
      subst he
      simp only [if_true]
      rw [laws_eqIntS_e0_1]; simp
    · have h0 : ¬ xs.drop 0 = ys.drop 0 := by simpa using he
      rw [if_neg h0] at h
      rw [laws_eqIntS_l0 _ h ⟨_, laws_eqIntS_e0_0 _ _ _⟩, laws_eqIntS_e0_0]
      simp [he]
  · rw [brk_pos (by simp; omega)]
    have : xs ≠ ys := fun h => hl (by rw [h])
    simp [this]
theorem take_set_next {α : Type} {out xs : List α} {i : Nat} (hl : out.length = xs.length) (hi : i < xs.length) (ht : out.take i = xs.take i) : (out.set i xs[i]).take (i + 1) = xs.take (i + 1) := by
  rw [List.take_succ_eq_append_getElem (by simpa [hl] using hi), List.take_succ_eq_append_getElem hi]
  rw [List.take_set_of_le (Nat.le_refl i), ht]
  simp
theorem toIntS_loop {R : Type} (K : Ex → AS → Option R) (xs : List Int) (hb : xs.length ≤ big47) : ∀ (n i : Nat) (out : List Int), i + n = xs.length → out.length = xs.length → out.take i = xs.take i →
    iterG laws_toIntS_t0 laws_toIntS_B0 K (n + 1) ((xs, ((i : Int), ())), (out, ())) = K (.exit 0) (laws_toIntS_x0_0 xs)
  | 0, i, out, h, hl, ht => by
    rw [laws_toIntS_r0, brk_neg (by simp; omega)]
    rw [List.take_of_length_le (by omega), List.take_of_length_le (by omega)] at ht
    rw [ht]
  | n + 1, i, out, h, hl, ht => by
    have hi : i < xs.length := by omega
    rw [laws_toIntS_r0, brk_pos (by simp; omega), ck_pos (by simp; omega), ck_pos (by simp; omega)]
    rw [rdD_get (List.getElem?_eq_getElem hi), wrap64 (by omega) (by simp only [big47] at hb; omega)]
    rw [show ((i : Int) + 1) = ((i + 1 : Nat) : Int) by simp]
    exact toIntS_loop K xs hb n (i + 1) _ (by omega) (by simpa using hl) (take_set_next hl hi ht)
theorem toIntS_ok (xs : List Int) (hb : xs.length ≤ 1048576) : laws_toIntS_F (xs, ()) = some ((xs, ()), ((), ())) := by
  rw [laws_toIntS_main, ck_pos (by simp; omega)]
  have h : iterG laws_toIntS_t0 laws_toIntS_B0 (laws_toIntS_K0 xs) (xs.length + 1) ((xs, ((0 : Int), ())), (List.replicate (xs.length : Int).toNat tI.zero, ())) = _ := toIntS_loop (laws_toIntS_K0 xs) xs (by simp only [big47]; omega) xs.length 0 _ (by omega) (by simp) (by simp)
  rw [laws_toIntS_l0 _ h ⟨_, laws_toIntS_e0_0 _ _⟩, laws_toIntS_e0_0]
theorem szIntS_ok (xs : List Int) (n : Int) (hb : xs.length ≤ big47) (h0 : 0 ≤ n) (hn : n ≤ 1048576) : laws_szIntS_F (xs, (n, ())) = some ((if n < xs.length then -1 else n - xs.length, ()), ((), ((), ()))) := by
  simp only [big47] at hb
  rw [laws_szIntS_main, wrap64 (by omega) (by omega)]
  by_cases h : n < xs.length
  · rw [brk_pos (by simp; omega), if_pos h]
  · rw [brk_neg (by simp; omega), if_neg h]
theorem big47_eq : big47 = 140737488355328 := rfl
/-- A loop that counts up: a round ends it, or goes on. -/
theorem for_loop {R σ : Type} {G : Nat → Nat → σ → Option R} (N : Nat) (Inv : Nat → σ → Prop) (Post : Option R → Prop)
    (hs : ∀ i s, i < N → Inv i s → (∃ v, Post v ∧ ∀ n, G (n + 1) i s = v) ∨ (∃ s', Inv (i + 1) s' ∧ ∀ n, G (n + 1) i s = G n (i + 1) s'))
    (hf : ∀ s, Inv N s → ∃ v, Post v ∧ ∀ n, G (n + 1) N s = v) (s : σ) (h : Inv 0 s) : ∃ n v, G n 0 s = v ∧ Post v := by
  have key : ∀ (k i : Nat) (s : σ), i + k = N → Inv i s → ∃ n v, G n i s = v ∧ Post v := by
    intro k
    induction k with
    | zero =>
      intro i s hi h
      have : i = N := by omega
      subst this
      obtain ⟨v, hv, hg⟩ := hf s h
      exact ⟨1, v, hg 0, hv⟩
    | succ k ih =>
      intro i s hi h
      rcases hs i s (by omega) h with ⟨v, hv, hg⟩ | ⟨s', h', hg⟩
      · exact ⟨1, v, hg 0, hv⟩
      · obtain ⟨n, v, hn, hv⟩ := ih (i + 1) s' (by omega) h'
        exact ⟨n + 1, v, (hg n).trans hn, hv⟩
  exact key N 0 s (by omega) h
theorem step_nat (i : Nat) (h : i ≤ 4611686018427387904) : IntKind.i64.wrap ((i : Int) + 1) = ((i + 1 : Nat) : Int) := by
  rw [wrap64 (by omega) (by omega)]; rfl
theorem rdD_nat {t : Ty} (xs : List t.D) (i : Nat) : rdD t xs (i : Int) = xs.getD i t.zero := rfl
theorem getD_at {α : Type} {xs : List α} {i : Nat} {d : α} (h : i < xs.length) : xs.getD i d = xs[i] := by simp [h]
theorem ck_idx {R : Type} {i n : Nat} (h : i < n) (a : Option R) : ck (decide ((0 : Int) ≤ (i : Int)) && decide ((i : Int) < (n : Int))) a = a := ck_pos (by simp; omega) a
theorem brk_lt {R : Type} {i n : Nat} (h : i < n) (a b : Option R) : brk (decide ((i : Int) < (n : Int))) a b = a := brk_pos (by simp; omega) a b
theorem brk_nlt {R : Type} {i n : Nat} (h : ¬ i < n) (a b : Option R) : brk (decide ((i : Int) < (n : Int))) a b = b := brk_neg (by simp; omega) a b
theorem brk_nneg {R : Type} {x : Int} (h : 0 ≤ x) (a b : Option R) : brk (decide (x < 0)) a b = b := brk_neg (decide_eq_false (Int.not_lt.2 h)) a b
theorem row_le {l : List (List Int)} (h : ∀ r ∈ l, r.length ≤ big47) {i : Nat} (hi : i < l.length) : (l.getD i []).length ≤ big47 := by
  rw [getD_at hi]; exact h _ (List.getElem_mem hi)
theorem toIntSS_ok (l : List (List Int)) (hl : l.length ≤ 1048576) (hr : ∀ r ∈ l, r.length ≤ 1048576) : laws_toIntSS_F (l, ()) = some ((l, ()), ((), ())) := by
  rw [laws_toIntSS_main, ck_pos (by simp; omega)]
  obtain ⟨n, v, hh, rfl⟩ := for_loop (σ := List (List Int)) (G := fun n i s => iterG laws_toIntSS_t0 laws_toIntSS_B0 (laws_toIntSS_K0 l) n ((l, ((i : Int), ())), (s, ()))) l.length (fun i s => s.length = l.length ∧ s.take i = l.take i) (· = some ((l, ()), ((), ())))
    (fun i s hi ⟨hI1, hI2⟩ => by
      refine .inr ⟨s.set i (l.getD i []), ⟨by simpa using hI1, ?_⟩, fun n => ?_⟩
      · rw [getD_at hi]; exact take_set_next hI1 hi hI2
      · dsimp only
        rw [laws_toIntSS_r0, brk_lt hi, ck_idx hi, rdD_nat, show tIs.zero = [] from rfl, toIntS_ok _ (by rw [getD_at hi]; exact hr _ (List.getElem_mem hi))]
        simp only [Option.bind_some]
        rw [ck_idx (by omega), step_nat i (by omega)]; rfl)
    (fun s ⟨hI1, hI2⟩ => ⟨_, rfl, fun n => by
      dsimp only
      rw [laws_toIntSS_r0, brk_nlt (by omega), laws_toIntSS_e0_0]
      rw [List.take_of_length_le (by omega), List.take_of_length_le (by omega)] at hI2
      rw [hI2]⟩) (List.replicate l.length []) ⟨by simp, by simp⟩
  exact laws_toIntSS_l0 n hh ⟨_, rfl⟩
theorem szIntSS_ok (l : List (List Int)) (k : Int) (hl : l.length ≤ big47) (hr : ∀ r ∈ l, r.length ≤ big47) (h0 : 0 ≤ k) (hk : k ≤ 1048576) : ∃ r : Int, laws_szIntSS_F (l, (k, ())) = some ((r, ()), ((), ((), ()))) ∧ r ≤ k ∧ (0 ≤ r → l.length ≤ 1048576 ∧ ∀ x ∈ l, x.length ≤ 1048576) := by
  have hl' := hl
  rw [big47_eq] at hl
  rw [laws_szIntSS_main, wrap64 (by omega) (by omega)]
  by_cases h : k < l.length
  · exact ⟨-1, by rw [brk_pos (decide_eq_true (by omega))], by omega, by omega⟩
  · rw [brk_neg (decide_eq_false (by omega))]
    obtain ⟨n, v, hh, r, rfl, hr1, hr2⟩ := for_loop (σ := Int) (G := fun n i s => iterG laws_szIntSS_t0 laws_szIntSS_B0 (laws_szIntSS_K0 l k) n ((l, (s, ((i : Int), ()))), ())) l.length (fun i s => 0 ≤ s ∧ s ≤ k ∧ ∀ j, j < i → (l.getD j []).length ≤ 1048576) (fun v => ∃ r : Int, v = some ((r, ()), ((), ((), ()))) ∧ r ≤ k ∧ (0 ≤ r → ∀ x ∈ l, x.length ≤ 1048576))
      (fun i s hi ⟨hI1, hI2, hI3⟩ => by
        by_cases hs : s < (l.getD i []).length
        · refine .inl ⟨_, ⟨-1, rfl, by omega, by omega⟩, fun n => ?_⟩
          dsimp only
          rw [laws_szIntSS_r0, brk_lt hi, ck_idx hi, rdD_nat, show tIs.zero = [] from rfl, szIntS_ok _ _ (row_le hr hi) hI1 (by omega), if_pos hs]
          simp only [Option.bind_some]
          rw [brk_pos (by decide), laws_szIntSS_e0_0]
        · refine .inr ⟨s - (l.getD i []).length, ⟨by omega, by omega, fun j hj => ?_⟩, fun n => ?_⟩
          · rcases Nat.lt_succ_iff_lt_or_eq.1 hj with h | rfl
            · exact hI3 j h
            · omega
          · dsimp only
            rw [laws_szIntSS_r0, brk_lt hi, ck_idx hi, rdD_nat, show tIs.zero = [] from rfl, szIntS_ok _ _ (row_le hr hi) hI1 (by omega), if_neg hs]
            simp only [Option.bind_some]
            rw [brk_nneg (by omega), step_nat i (by omega)])
      (fun s ⟨hI1, hI2, hI3⟩ => ⟨_, ⟨s, rfl, hI2, fun _ x hx => by
        obtain ⟨j, hj, rfl⟩ := List.mem_iff_getElem.1 hx
        rw [← getD_at (d := []) hj]; exact hI3 j hj⟩, fun n => by
        dsimp only
        rw [laws_szIntSS_r0, brk_nlt (by omega), laws_szIntSS_e0_1]⟩) (k - l.length) ⟨by omega, by omega, fun j hj => by omega⟩
    exact ⟨r, laws_szIntSS_l0 n hh ⟨_, rfl⟩, hr1, fun h0 => ⟨by omega, hr2 h0⟩⟩
theorem rows_ext {l m : List (List Int)} (h : l.length = m.length) (he : ∀ i, i < l.length → l.getD i [] = m.getD i []) : l = m :=
  List.ext_getElem h fun i h1 h2 => by have := he i h1; rwa [getD_at h1, getD_at h2] at this
theorem eqIntSS_ok (l m : List (List Int)) (hl : l.length ≤ big47) (hr : ∀ r ∈ l, r.length ≤ big47) : laws_eqIntSS_F (l, (m, ())) = some ((decide (l = m), ()), ((), ((), ()))) := by
  rw [big47_eq] at hl
  rw [laws_eqIntSS_main]
  by_cases h : l.length = m.length
  · rw [brk_neg (by simp [h])]
    obtain ⟨n, v, hh, rfl⟩ := for_loop (σ := Unit) (G := fun n i s => iterG laws_eqIntSS_t0 laws_eqIntSS_B0 (laws_eqIntSS_K0 l m) n ((l, (m, ((i : Int), ()))), ())) l.length (fun i s => ∀ j, j < i → l.getD j [] = m.getD j []) (· = some ((decide (l = m), ()), ((), ((), ()))))
      (fun i s hi hI => by
        by_cases he : l.getD i [] = m.getD i []
        · refine .inr ⟨(), fun j hj => ?_, fun n => ?_⟩
          · rcases Nat.lt_succ_iff_lt_or_eq.1 hj with h | rfl
            · exact hI j h
            · exact he
          · dsimp only
            rw [laws_eqIntSS_r0, brk_lt hi, ck_idx hi, ck_idx (by omega), rdD_nat, rdD_nat, show tIs.zero = [] from rfl, eqIntS_ok _ _ (row_le hr hi), decide_eq_true he]
            simp only [Option.bind_some, Bool.not_true, brk_false]
            rw [step_nat i (by omega)]
        · refine .inl ⟨_, rfl, fun n => ?_⟩
          dsimp only
          rw [laws_eqIntSS_r0, brk_lt hi, ck_idx hi, ck_idx (by omega), rdD_nat, rdD_nat, show tIs.zero = [] from rfl, eqIntS_ok _ _ (row_le hr hi), decide_eq_false he]
          simp only [Option.bind_some, Bool.not_false, brk_true]
          rw [laws_eqIntSS_e0_0, decide_eq_false fun e => he (by rw [e])])
      (fun s hI => ⟨_, rfl, fun n => by
        dsimp only
        rw [laws_eqIntSS_r0, brk_nlt (by omega), laws_eqIntSS_e0_1, decide_eq_true (rows_ext h hI)]⟩) () (fun j hj => by omega)
    exact laws_eqIntSS_l0 n hh ⟨_, rfl⟩
  · rw [brk_pos (by simp; omega), decide_eq_false fun e => h (by rw [e])]
/-- A meta that is small. -/
def SzMeta (x : tMeta.D) : Prop := x.1.length ≤ 1048576 ∧ x.2.1.length ≤ 1048576 ∧ ∀ r ∈ x.2.1, r.length ≤ 1048576
theorem SzMeta.big {x : tMeta.D} (h : SzMeta x) : x.1.length ≤ big47 ∧ x.2.1.length ≤ big47 ∧ ∀ r ∈ x.2.1, r.length ≤ big47 := by
  obtain ⟨h1, h2, h3⟩ := h
  rw [big47_eq]
  exact ⟨by omega, by omega, fun r hr => by have := h3 r hr; omega⟩
theorem toMeta_ok (x : tMeta.D) (h : SzMeta x) : laws_toMeta_F (x, ()) = some ((x, ()), ((), ())) := by
  rw [laws_toMeta_main, toIntS_ok _ h.1, toIntSS_ok _ h.2.1 h.2.2]; rfl
theorem szMeta_ok (x : tMeta.D) (k : Int) (hx : Ok tMeta x) (h0 : 0 ≤ k) (hk : k ≤ 1048576) : ∃ r : Int, laws_szMeta_F (x, (k, ())) = some ((r, ()), ((), ((), ()))) ∧ r ≤ k ∧ (0 ≤ r → SzMeta x) := by
  obtain ⟨g, l, f, o, h, a, u⟩ := x
  cases u
  have hg : g.length ≤ big47 := hx.1.1
  have hl : l.length ≤ big47 := hx.2.1.1
  have hr : ∀ r ∈ l, r.length ≤ big47 := fun r hr => (hx.2.1.2 r hr).1
  rw [laws_szMeta_main]
  simp only
  rw [szIntS_ok _ _ hg h0 hk]
  simp only [Option.bind_some]
  by_cases h1 : k < g.length
  · rw [if_pos h1]
    exact ⟨-1, by rw [brk_pos (by decide)], by omega, by omega⟩
  · rw [if_neg h1, brk_nneg (by omega)]
    obtain ⟨r, e1, e2, e3⟩ := szIntSS_ok l (k - g.length) hl hr (by omega) (by omega)
    rw [e1]
    simp only [Option.bind_some]
    by_cases h2 : r < 0
    · exact ⟨-1, by rw [brk_pos (decide_eq_true h2)], by omega, by omega⟩
    · exact ⟨r, by rw [brk_neg (decide_eq_false h2)], by omega, fun h => ⟨by simp only; omega, e3 h⟩⟩
theorem eqMeta_self (x : tMeta.D) (h : SzMeta x) : laws_eqMeta_F (x, (x, ())) = some ((true, ()), ((), ((), ()))) := by
  obtain ⟨h1, h2, h3⟩ := h.big
  rw [laws_eqMeta_main, eqIntS_ok _ _ h1, eqIntSS_ok _ _ h2 h3]
  simp
theorem ints_ext {l m : List Int} (h : l.length = m.length) (he : ∀ i, i < l.length → l.getD i 0 = m.getD i 0) : l = m :=
  List.ext_getElem h fun i h1 h2 => by have := he i h1; rwa [getD_at h1, getD_at h2] at this
theorem slices_Equal_int_ok (l m : List Int) (hl : l.length ≤ big47) : slices_Equal_int_F (l, (m, ())) = some ((decide (l = m), ()), ((), ((), ()))) := by
  rw [big47_eq] at hl
  rw [slices_Equal_int_main]
  by_cases h : l.length = m.length
  · rw [brk_neg (by simp [h])]
    obtain ⟨n, v, hh, rfl⟩ := for_loop (σ := Unit) (G := fun n i s => iterG slices_Equal_int_t0 slices_Equal_int_B0 (slices_Equal_int_K0 l m) n ((l, (m, ((l.length : Int), ((i : Int), ())))), ())) l.length (fun i s => ∀ j, j < i → l.getD j 0 = m.getD j 0) (· = some ((decide (l = m), ()), ((), ((), ()))))
      (fun i s hi hI => by
        by_cases he : l.getD i 0 = m.getD i 0
        · refine .inr ⟨(), fun j hj => ?_, fun n => ?_⟩
          · rcases Nat.lt_succ_iff_lt_or_eq.1 hj with h | rfl
            · exact hI j h
            · exact he
          · dsimp only
            rw [slices_Equal_int_r0, brk_lt hi, ck_idx hi, ck_idx (by omega), rdD_nat, rdD_nat, show tI.zero = 0 from rfl, decide_eq_true he, Bool.not_true, brk_false, step_nat i (by omega)]
        · refine .inl ⟨_, rfl, fun n => ?_⟩
          dsimp only
          rw [slices_Equal_int_r0, brk_lt hi, ck_idx hi, ck_idx (by omega), rdD_nat, rdD_nat, show tI.zero = 0 from rfl, decide_eq_false he, Bool.not_false, brk_true, slices_Equal_int_e0_0, decide_eq_false fun e => he (by rw [e])])
      (fun s hI => ⟨_, rfl, fun n => by
        dsimp only
        rw [slices_Equal_int_r0, brk_nlt (by omega), slices_Equal_int_e0_1, decide_eq_true (ints_ext h hI)]⟩) () (fun j hj => by omega)
    exact slices_Equal_int_l0 n hh ⟨_, rfl⟩
  · rw [brk_pos (by simp; omega), decide_eq_false fun e => h (by rw [e])]
theorem slices_EqualFunc_ok (l m : List (List Int)) (hl : l.length ≤ big47) (hr : ∀ r ∈ l, r.length ≤ big47) : slices_EqualFunc__int_F (l, (m, ((), ()))) = some ((decide (l = m), ()), ((), ((), ((), ())))) := by
  rw [big47_eq] at hl
  rw [slices_EqualFunc__int_main]
  by_cases h : l.length = m.length
  · rw [brk_neg (by simp [h])]
    obtain ⟨n, v, hh, rfl⟩ := for_loop (σ := Unit) (G := fun n i s => iterG slices_EqualFunc__int_t0 slices_EqualFunc__int_B0 (slices_EqualFunc__int_K0 l m ()) n ((m, (l, ((l.length : Int), ((i : Int), ())))), ())) l.length (fun i s => ∀ j, j < i → l.getD j [] = m.getD j []) (· = some ((decide (l = m), ()), ((), ((), ((), ())))))
      (fun i s hi hI => by
        by_cases he : l.getD i [] = m.getD i []
        · refine .inr ⟨(), fun j hj => ?_, fun n => ?_⟩
          · rcases Nat.lt_succ_iff_lt_or_eq.1 hj with h | rfl
            · exact hI j h
            · exact he
          · dsimp only
            rw [slices_EqualFunc__int_r0, brk_lt hi, ck_idx hi, ck_idx (by omega), rdD_nat, rdD_nat, show tIs.zero = [] from rfl, slices_Equal_int_ok _ _ (row_le hr hi), decide_eq_true he]
            simp only [Option.bind_some, Bool.not_true, brk_false]
            rw [step_nat i (by omega)]
        · refine .inl ⟨_, rfl, fun n => ?_⟩
          dsimp only
          rw [slices_EqualFunc__int_r0, brk_lt hi, ck_idx hi, ck_idx (by omega), rdD_nat, rdD_nat, show tIs.zero = [] from rfl, slices_Equal_int_ok _ _ (row_le hr hi), decide_eq_false he]
          simp only [Option.bind_some, Bool.not_false, brk_true]
          rw [slices_EqualFunc__int_e0_0, decide_eq_false fun e => he (by rw [e])])
      (fun s hI => ⟨_, rfl, fun n => by
        dsimp only
        rw [slices_EqualFunc__int_r0, brk_nlt (by omega), slices_EqualFunc__int_e0_1, decide_eq_true (rows_ext h hI)]⟩) () (fun j hj => by omega)
    exact slices_EqualFunc__int_l0 n hh ⟨_, rfl⟩
  · rw [brk_pos (by simp; omega), decide_eq_false fun e => h (by rw [e])]
theorem spec_l5Same_ok (l m : List Int) (hl : l.length ≤ big47) : spec_l5Same_F (l, (m, ())) = some ((decide (l = m), ()), ((), ((), ()))) := by
  rw [big47_eq] at hl
  rw [spec_l5Same_main]
  have out : ∀ i, (∀ j, j < i → l.getD j 0 = m.getD j 0) → ¬ (i < l.length ∧ i < m.length) → decide ((l.length : Int) = (m.length : Int)) = decide (l = m) := fun i hI hn => by
    by_cases h : l.length = m.length
    · rw [decide_eq_true (by omega), decide_eq_true (ints_ext h fun j hj => hI j (by omega))]
    · rw [decide_eq_false (by omega), decide_eq_false fun e => h (by rw [e])]
  obtain ⟨n, v, hh, rfl⟩ := for_loop (σ := Unit) (G := fun n i s => iterG spec_l5Same_t0 spec_l5Same_B0 (spec_l5Same_K0 l m) n ((l, (m, ((i : Int), ()))), ())) l.length (fun i s => ∀ j, j < i → l.getD j 0 = m.getD j 0) (· = some ((decide (l = m), ()), ((), ((), ()))))
    (fun i s hi hI => by
      by_cases hm : i < m.length
      · by_cases he : l.getD i 0 = m.getD i 0
        · refine .inr ⟨(), fun j hj => ?_, fun n => ?_⟩
          · rcases Nat.lt_succ_iff_lt_or_eq.1 hj with h | rfl
            · exact hI j h
            · exact he
          · dsimp only
            rw [spec_l5Same_r0, brk_lt hi, brk_lt hm, ck_idx hi, ck_idx hm, rdD_nat, rdD_nat, show tI.zero = 0 from rfl, decide_eq_true he, Bool.not_true, brk_false, step_nat i (by omega)]
        · refine .inl ⟨_, rfl, fun n => ?_⟩
          dsimp only
          rw [spec_l5Same_r0, brk_lt hi, brk_lt hm, ck_idx hi, ck_idx hm, rdD_nat, rdD_nat, show tI.zero = 0 from rfl, decide_eq_false he, Bool.not_false, brk_true, spec_l5Same_e0_0, decide_eq_false fun e => he (by rw [e])]
      · refine .inl ⟨_, rfl, fun n => ?_⟩
        dsimp only
        rw [spec_l5Same_r0, brk_lt hi, brk_nlt hm, spec_l5Same_e0_1, out i hI (by omega)])
    (fun s hI => ⟨_, rfl, fun n => by
      dsimp only
      rw [spec_l5Same_r0, brk_nlt (by omega), spec_l5Same_e0_1, out _ hI (by omega)]⟩) () (fun j hj => by omega)
  exact spec_l5Same_l0 n hh ⟨_, rfl⟩
/-- Are two metas alike? -/
def metaEqB (x y : tMeta.D) : Bool := decide (x.1 = y.1) && decide (x.2.1 = y.2.1) && (x.2.2.1 == y.2.2.1) && (x.2.2.2.1 == y.2.2.2.1) && (x.2.2.2.2.1 == y.2.2.2.2.1) && decide (x.2.2.2.2.2.1 = y.2.2.2.2.2.1)
theorem impl_SameMeta_ok (x y : tMeta.D) (h1 : x.1.length ≤ big47) (h2 : x.2.1.length ≤ big47) (h3 : ∀ r ∈ x.2.1, r.length ≤ big47) : impl_SameMeta_F (x, (y, ())) = some ((metaEqB x y, ()), ((), ((), ()))) := by
  rw [impl_SameMeta_main, slices_Equal_int_ok _ _ h1]
  simp only [Option.bind_some]
  unfold metaEqB
  by_cases e1 : x.1 = y.1
  · rw [decide_eq_true e1, brk_true, slices_EqualFunc_ok _ _ h2 h3]
    simp only [Option.bind_some]
    by_cases e2 : x.2.1 = y.2.1
    · rw [decide_eq_true e2, brk_true]
      cases (x.2.2.1 == y.2.2.1) <;> cases (x.2.2.2.1 == y.2.2.2.1) <;> cases (x.2.2.2.2.1 == y.2.2.2.2.1) <;> rfl
    · rw [decide_eq_false e2]; rfl
  · rw [decide_eq_false e1]; rfl
theorem spec_SameMeta_ok (x y : tMeta.D) (h1 : x.1.length ≤ big47) (h2 : x.2.1.length ≤ big47) (h3 : ∀ r ∈ x.2.1, r.length ≤ big47) : spec_SameMeta_F (x, (y, ())) = some ((metaEqB x y, ()), ((), ((), ()))) := by
  have h2' := h2
  rw [big47_eq] at h2'
  rw [spec_SameMeta_main]
  by_cases hl : x.2.1.length = y.2.1.length
  · rw [brk_neg (by rw [decide_eq_true (by omega)]; rfl), spec_l5Same_ok _ _ h1]
    simp only [Option.bind_some]
    by_cases e1 : x.1 = y.1
    · rw [decide_eq_true e1, Bool.not_true, brk_false]
      by_cases e3 : (x.2.2.1 == y.2.2.1) = true
      · rw [e3, Bool.not_true, brk_false]
        by_cases e4 : (x.2.2.2.1 == y.2.2.2.1) = true
        · rw [e4, Bool.not_true, brk_false]
          by_cases e5 : (x.2.2.2.2.1 == y.2.2.2.2.1) = true
          · rw [e5, Bool.not_true, brk_false]
            by_cases e6 : x.2.2.2.2.2.1 = y.2.2.2.2.2.1
            · rw [decide_eq_true e6, Bool.not_true, brk_false]
              have hm : metaEqB x y = decide (x.2.1 = y.2.1) := by
                unfold metaEqB
                rw [decide_eq_true e1, e3, e4, e5, decide_eq_true e6]; simp
              obtain ⟨n, v, hh, rfl⟩ := for_loop (σ := Unit) (G := fun n i s => iterG spec_SameMeta_t0 spec_SameMeta_B0 (spec_SameMeta_K0 x y) n (((i : Int), ()), ((x.1, (x.2.1, (x.2.2.1, (x.2.2.2.1, (x.2.2.2.2.1, (x.2.2.2.2.2.1, ())))))), ((y.1, (y.2.1, (y.2.2.1, (y.2.2.2.1, (y.2.2.2.2.1, (y.2.2.2.2.2.1, ())))))), ())))) x.2.1.length (fun i s => ∀ j, j < i → x.2.1.getD j [] = y.2.1.getD j []) (· = some ((metaEqB x y, ()), ((), ((), ()))))
                (fun i s hi hI => by
                  by_cases he : x.2.1.getD i [] = y.2.1.getD i []
                  · refine .inr ⟨(), fun j hj => ?_, fun n => ?_⟩
                    · rcases Nat.lt_succ_iff_lt_or_eq.1 hj with h | rfl
                      · exact hI j h
                      · exact he
                    · dsimp only
                      rw [spec_SameMeta_r0, brk_lt hi, ck_idx hi, ck_idx (by omega), rdD_nat, rdD_nat, show tIs.zero = [] from rfl, spec_l5Same_ok _ _ (row_le h3 hi), decide_eq_true he]
                      simp only [Option.bind_some, Bool.not_true, brk_false]
                      rw [step_nat i (by omega)]
                  · refine .inl ⟨_, rfl, fun n => ?_⟩
                    dsimp only
                    rw [spec_SameMeta_r0, brk_lt hi, ck_idx hi, ck_idx (by omega), rdD_nat, rdD_nat, show tIs.zero = [] from rfl, spec_l5Same_ok _ _ (row_le h3 hi), decide_eq_false he]
                    simp only [Option.bind_some, Bool.not_false, brk_true]
                    rw [spec_SameMeta_e0_0, hm, decide_eq_false fun e => he (by rw [e])])
                (fun s hI => ⟨_, rfl, fun n => by
                  dsimp only
                  rw [spec_SameMeta_r0, brk_nlt (by omega), spec_SameMeta_e0_1, hm, decide_eq_true (rows_ext hl hI)]⟩) () (fun j hj => by omega)
              exact spec_SameMeta_l0 n hh ⟨_, rfl⟩
            · rw [decide_eq_false e6, Bool.not_false, brk_true]
              unfold metaEqB; rw [decide_eq_false e6]; simp
          · have e5 : (x.2.2.2.2.1 == y.2.2.2.2.1) = false := by simpa using e5
            rw [e5, Bool.not_false, brk_true]
            unfold metaEqB; rw [e5]; simp
        · have e4 : (x.2.2.2.1 == y.2.2.2.1) = false := by simpa using e4
          rw [e4, Bool.not_false, brk_true]
          unfold metaEqB; rw [e4]; simp
      · have e3 : (x.2.2.1 == y.2.2.1) = false := by simpa using e3
        rw [e3, Bool.not_false, brk_true]
        unfold metaEqB; rw [e3]; simp
    · rw [decide_eq_false e1, Bool.not_false, brk_true]
      unfold metaEqB; rw [decide_eq_false e1]; simp
  · rw [brk_pos (by rw [decide_eq_false (by omega)]; rfl)]
    unfold metaEqB
    rw [decide_eq_false (p := x.2.1 = y.2.1) fun e => hl (by rw [e])]; simp
theorem laws_FnExactSameMeta_pure (x : tMeta.D) (hx : Ok tMeta x) (y : tMeta.D) (hy : Ok tMeta y) : laws_FnExactSameMeta_F (x, (y, ())) = some ((true, ()), ((), ((), ()))) := by
  obtain ⟨r, e1, l1, s1⟩ := szMeta_ok x 1048576 hx (by omega) (by omega)
  have hm := spec_SameMeta_ok x y
  have hi := impl_SameMeta_ok x y
  obtain ⟨g, l, f, o, hh, a, u⟩ := x
  obtain ⟨g', l', f', o', hh', a', u'⟩ := y
  cases u; cases u'
  rw [laws_FnExactSameMeta_main]
  simp only [e1, Option.bind_some]
  by_cases hr : r < 0
  · rw [brk_pos (decide_eq_true hr)]
  · have hs := s1 (by omega)
    rw [brk_neg (decide_eq_false hr)]
    obtain ⟨r2, e2, l2, s2⟩ := szMeta_ok (g', l', f', o', hh', a', ()) r hy (by omega) (by omega)
    rw [e2]
    simp only [Option.bind_some]
    by_cases hr2 : r2 < 0
    · rw [brk_pos (decide_eq_true hr2)]
    · have hs2 := s2 (by omega)
      have t1 := toMeta_ok _ hs
      have t2 := toMeta_ok _ hs2
      have t3 := eqMeta_self _ hs
      have t4 := eqMeta_self _ hs2
      obtain ⟨b1, b2, b3⟩ := hs.big
      have hm := hm b1 b2 b3
      have hi := hi b1 b2 b3
      rw [brk_neg (decide_eq_false hr2)]
      simp only [t1, t2, Option.bind_some]
      rw [hm]
      simp only [Option.bind_some]
      rw [hi]
      simp only [Option.bind_some, beq_self_eq_true, Bool.not_true, brk_false, t3, t4]
end Go.Refl
