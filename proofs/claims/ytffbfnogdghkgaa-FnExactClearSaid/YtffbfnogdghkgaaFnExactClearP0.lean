/- Plain laws: what the functions come to. No condition. -/
import Derived.Test.YtffbfnogdghkgaaFnExactClearGf
namespace Go.Refl
open Go.RowKit
set_option linter.unusedVariables false
set_option linter.unusedSimpArgs false
theorem eqIntS_loop {R : Type} (K : Ex → AS → Option R) (xs ys : List Int) (hl : xs.length = ys.length) (hb : xs.length ≤ big47) : ∀ (n i : Nat), i + n = xs.length →
    iterG laws_eqIntS_t0 laws_eqIntS_B0 K (n + 1) ((xs, (ys, ((i : Int), ()))), ()) = if xs.drop i = ys.drop i then K (.exit 0) laws_eqIntS_x0_1 else K .ret (laws_eqIntS_x0_0 false)
  | 0, i, h => by
    have hx : xs.drop i = [] := List.drop_of_length_le (by omega)
    have hy : ys.drop i = [] := List.drop_of_length_le (by omega)
    rw [laws_eqIntS_r0, brk_neg (by simp; omega), hx, hy, if_pos rfl]
  | n + 1, i, h => by
    have hi : i < xs.length := by omega
    have hj : i < ys.length := by omega
    rw [laws_eqIntS_r0, brk_pos (by simp; omega), ck_pos (by simp; omega), ck_pos (by simp; omega)]
    rw [rdD_get (List.getElem?_eq_getElem hi), rdD_get (List.getElem?_eq_getElem hj)]
    have hd : (xs.drop i = ys.drop i) ↔ (xs[i] = ys[i] ∧ xs.drop (i + 1) = ys.drop (i + 1)) := by
      rw [List.drop_eq_getElem_cons hi, List.drop_eq_getElem_cons hj, List.cons.injEq]
    by_cases he : xs[i] = ys[i]
    · rw [brk_neg (by simp [he]), wrap64 (by omega) (by simp only [big47] at hb; omega)]
      have := eqIntS_loop K xs ys hl hb n (i + 1) (by omega)
      rw [show ((i : Int) + 1) = ((i + 1 : Nat) : Int) by simp, this]
      by_cases hr : xs.drop (i + 1) = ys.drop (i + 1)
      · rw [if_pos hr, if_pos (hd.2 ⟨he, hr⟩)]
      · rw [if_neg hr, if_neg fun h => hr (hd.1 h).2]
    · rw [brk_pos (by simp [he]), if_neg fun h => he (hd.1 h).1]
theorem eqIntS_ok (xs ys : List Int) (hb : xs.length ≤ big47) : laws_eqIntS_F (xs, (ys, ())) = some ((decide (xs = ys), ()), ((), ((), ()))) := by
  rw [laws_eqIntS_main]
  by_cases hl : xs.length = ys.length
  · rw [brk_neg (by simp [hl])]
    have h : iterG laws_eqIntS_t0 laws_eqIntS_B0 (laws_eqIntS_K0 xs ys) (xs.length + 1) ((xs, (ys, ((0 : Int), ()))), ()) = _ := eqIntS_loop (laws_eqIntS_K0 xs ys) xs ys hl hb xs.length 0 (by omega)
    by_cases he : xs = ys
    · rw [laws_eqIntS_l0 _ h (by subst he; exact ⟨_, by simp only [if_true]; exact laws_eqIntS_e0_1 _ _⟩)]
      subst he
      simp only [if_true]
      rw [laws_eqIntS_e0_1]; simp
    · have h0 : ¬ xs.drop 0 = ys.drop 0 := by simpa using he
      rw [if_neg h0] at h
      rw [laws_eqIntS_l0 _ h ⟨_, laws_eqIntS_e0_0 _ _ _⟩, laws_eqIntS_e0_0]
      simp [he]
  · rw [brk_pos (by simp; omega)]
    have : xs ≠ ys := fun h => hl (by rw [h])
    simp [this]
theorem take_set_next {α : Type} {out xs : List α} {i : Nat} (hl : out.length = xs.length) (hi : i < xs.length) (ht : out.take i = xs.take i) : (out.set i xs[i]).take (i + 1) = xs.take (i + 1) := by
  rw [List.take_succ_eq_append_getElem (by simpa [hl] using hi), List.take_succ_eq_append_getElem hi]
  rw [List.take_set_of_le (Nat.le_refl i), ht]
  simp
theorem toIntS_loop {R : Type} (K : Ex → AS → Option R) (xs : List Int) (hb : xs.length ≤ big47) : ∀ (n i : Nat) (out : List Int), i + n = xs.length → out.length = xs.length → out.take i = xs.take i →
    iterG laws_toIntS_t0 laws_toIntS_B0 K (n + 1) ((xs, ((i : Int), ())), (out, ())) = K (.exit 0) (laws_toIntS_x0_0 xs)
  | 0, i, out, h, hl, ht => by
    rw [laws_toIntS_r0, brk_neg (by simp; omega)]
    rw [List.take_of_length_le (by omega), List.take_of_length_le (by omega)] at ht
    rw [ht]
  | n + 1, i, out, h, hl, ht => by
    have hi : i < xs.length := by omega
    rw [laws_toIntS_r0, brk_pos (by simp; omega), ck_pos (by simp; omega), ck_pos (by simp; omega)]
    rw [rdD_get (List.getElem?_eq_getElem hi), wrap64 (by omega) (by simp only [big47] at hb; omega)]
    rw [show ((i : Int) + 1) = ((i + 1 : Nat) : Int) by simp]
    exact toIntS_loop K xs hb n (i + 1) _ (by omega) (by simpa using hl) (take_set_next hl hi ht)
theorem toIntS_ok (xs : List Int) (hb : xs.length ≤ 1048576) : laws_toIntS_F (xs, ()) = some ((xs, ()), ((), ())) := by
  rw [laws_toIntS_main, ck_pos (by simp; omega)]
  have h : iterG laws_toIntS_t0 laws_toIntS_B0 (laws_toIntS_K0 xs) (xs.length + 1) ((xs, ((0 : Int), ())), (List.replicate (xs.length : Int).toNat tI.zero, ())) = _ := toIntS_loop (laws_toIntS_K0 xs) xs (by simp only [big47]; omega) xs.length 0 _ (by omega) (by simp) (by simp)
  rw [laws_toIntS_l0 _ h ⟨_, laws_toIntS_e0_0 _ _⟩, laws_toIntS_e0_0]
/-- Numbers from k on, as f makes them. -/
def marks (f : Int → Int) (k : Int) : Nat → List Int
  | 0 => []
  | n + 1 => f k :: marks f (k + 1) n
theorem marks_len (f : Int → Int) : ∀ (n : Nat) (k : Int), (marks f k n).length = n
  | 0, _ => rfl
  | n + 1, k => by simp [marks, marks_len f n]
theorem drop_set_next {α : Type} {xs : List α} {i : Nat} (hi : i < xs.length) (v : α) : (xs.set i v).take (i + 1) = xs.take i ++ [v] := by
  rw [List.take_succ_eq_append_getElem (by simpa using hi), List.take_set_of_le (Nat.le_refl i)]
  simp
theorem markIntS_loop {R : Type} (K : Ex → AS → Option R) : ∀ (n i : Nat) (k : Int) (xs : List Int), i + n = xs.length → xs.length ≤ big47 → 0 ≤ k → k + n ≤ 4611686018427387904 →
    iterG laws_markIntS_t0 laws_markIntS_B0 K (n + 1) ((k, ((i : Int), ())), (xs, ())) = K (.exit 0) (laws_markIntS_x0_0 (k + n) (xs.take i ++ marks id k n))
  | 0, i, k, xs, h, hb, h0, hk => by
    rw [laws_markIntS_r0, brk_neg (by simp; omega)]
    rw [List.take_of_length_le (by omega)]
    simp [marks]
  | n + 1, i, k, xs, h, hb, h0, hk => by
    have hi : i < xs.length := by omega
    rw [laws_markIntS_r0, brk_pos (by simp; omega), ck_pos (by simp; omega)]
    rw [wrap64 (by omega) (by omega), wrap64 (by omega) (by simp only [big47] at hb; omega)]
    rw [show ((i : Int) + 1) = ((i + 1 : Nat) : Int) by simp]
    rw [markIntS_loop K n (i + 1) (k + 1) _ (by simp; omega) (by simpa using hb) (by omega) (by omega)]
    rw [show ((i : Int)).toNat = i by simp, drop_set_next hi, show k + 1 + (n : Int) = k + ((n + 1 : Nat) : Int) by omega]
    simp [marks]
theorem markIntS_ok (xs : List Int) (k : Int) (hb : xs.length ≤ 1125899906842624) (hbb : xs.length ≤ big47) (h0 : 0 ≤ k) (hk : k ≤ 1125899906842624) : laws_markIntS_F (xs, (k, ())) = some ((k + xs.length, ()), (marks id k xs.length, ((), ()))) := by
  rw [laws_markIntS_main]
  have h : iterG laws_markIntS_t0 laws_markIntS_B0 (laws_markIntS_K0 xs k) (xs.length + 1) ((k, ((0 : Int), ())), (xs, ())) = _ := markIntS_loop (laws_markIntS_K0 xs k) xs.length 0 k xs (by omega) hbb h0 (by omega)
  rw [laws_markIntS_l0 _ h ⟨_, laws_markIntS_e0_0 _ _ _ _⟩, laws_markIntS_e0_0]
  simp
theorem big47_eq : big47 = 140737488355328 := rfl
theorem take_next {α : Type} {xs : List α} {i : Nat} (hi : i < xs.length) : xs.take (i + 1) = xs.take i ++ [xs[i]] := List.take_succ_eq_append_getElem hi
/-- A loop that counts up: a round ends it, or goes on. -/
theorem for_loop {R σ : Type} {G : Nat → Nat → σ → Option R} (N : Nat) (Inv : Nat → σ → Prop) (Post : Option R → Prop)
    (hs : ∀ i s, i < N → Inv i s → (∃ v, Post v ∧ ∀ n, G (n + 1) i s = v) ∨ (∃ s', Inv (i + 1) s' ∧ ∀ n, G (n + 1) i s = G n (i + 1) s'))
    (hf : ∀ s, Inv N s → ∃ v, Post v ∧ ∀ n, G (n + 1) N s = v) (s : σ) (h : Inv 0 s) : ∃ n v, G n 0 s = v ∧ Post v := by
  have key : ∀ (k i : Nat) (s : σ), i + k = N → Inv i s → ∃ n v, G n i s = v ∧ Post v := by
    intro k
    induction k with
    | zero =>
      intro i s hi h
      have : i = N := by omega
      subst this
      obtain ⟨v, hv, hg⟩ := hf s h
      exact ⟨1, v, hg 0, hv⟩
    | succ k ih =>
      intro i s hi h
      rcases hs i s (by omega) h with ⟨v, hv, hg⟩ | ⟨s', h', hg⟩
      · exact ⟨1, v, hg 0, hv⟩
      · obtain ⟨n, v, hn, hv⟩ := ih (i + 1) s' (by omega) h'
        exact ⟨n + 1, v, (hg n).trans hn, hv⟩
  exact key N 0 s (by omega) h
theorem step_nat (i : Nat) (h : i ≤ 4611686018427387904) : IntKind.i64.wrap ((i : Int) + 1) = ((i + 1 : Nat) : Int) := by
  rw [wrap64 (by omega) (by omega)]; rfl
theorem rdD_nat {t : Ty} (xs : List t.D) (i : Nat) : rdD t xs (i : Int) = xs.getD i t.zero := rfl
theorem getD_at {α : Type} {xs : List α} {i : Nat} {d : α} (h : i < xs.length) : xs.getD i d = xs[i] := by simp [h]
theorem ck_idx {R : Type} {i n : Nat} (h : i < n) (a : Option R) : ck (decide ((0 : Int) ≤ (i : Int)) && decide ((i : Int) < (n : Int))) a = a := ck_pos (by simp; omega) a
theorem brk_lt {R : Type} {i n : Nat} (h : i < n) (a b : Option R) : brk (decide ((i : Int) < (n : Int))) a b = a := brk_pos (by simp; omega) a b
theorem brk_nlt {R : Type} {i n : Nat} (h : ¬ i < n) (a b : Option R) : brk (decide ((i : Int) < (n : Int))) a b = b := brk_neg (by simp; omega) a b
theorem brk_nneg {R : Type} {x : Int} (h : 0 ≤ x) (a b : Option R) : brk (decide (x < 0)) a b = b := brk_neg (decide_eq_false (Int.not_lt.2 h)) a b
theorem marks_getD (f : Int → Int) : ∀ (n : Nat) (k : Int) (i : Nat), i < n → (marks f k n).getD i 0 = f (k + i)
  | 0, _, i, h => by omega
  | n + 1, k, 0, h => by simp [marks]
  | n + 1, k, i + 1, h => by
    rw [marks, List.getD_cons_succ, marks_getD f n (k + 1) i (by omega)]
    congr 1; omega
theorem heldIntS_ok (n : Nat) (k : Int) (hb : n ≤ 1125899906842624) (h0 : 0 ≤ k) (hk : k ≤ 1125899906842624) (hbb : n ≤ big47) : laws_heldIntS_F (marks id k n, (k, ())) = some ((k + n, ()), ((), ((), ()))) := by
  rw [big47_eq] at hbb
  rw [laws_heldIntS_main]
  have hl := marks_len id n k
  obtain ⟨m, v, hh, rfl⟩ := for_loop (σ := Unit) (G := fun m i _ => iterG laws_heldIntS_t0 laws_heldIntS_B0 (laws_heldIntS_K0 (marks id k n) k) m ((marks id k n, (k + i, ((i : Int), ()))), ())) n (fun i _ => True) (· = some ((k + n, ()), ((), ((), ()))))
    (fun i _ hi _ => .inr ⟨(), trivial, fun m => by
      dsimp only
      rw [laws_heldIntS_r0, hl, brk_lt hi, ck_idx hi, rdD_nat, show tI.zero = 0 from rfl, marks_getD id n k i hi, brk_neg (by simp), step_nat i (by omega), wrap64 (by omega) (by omega)]
      rw [show k + (i : Int) + 1 = k + ((i + 1 : Nat) : Int) by omega]⟩)
    (fun _ _ => ⟨_, rfl, fun m => by
      dsimp only
      rw [laws_heldIntS_r0, hl, brk_nlt (by omega), laws_heldIntS_e0_1]⟩) () trivial
  rw [show k + ((0 : Nat) : Int) = k by simp] at hh
  exact laws_heldIntS_l0 m hh ⟨_, rfl⟩
theorem both_same {R : Type} {a b : Option R} (h : a = b) : both a b = a := by unfold both; rw [if_pos h]
theorem slices_Clone_int_ok (xs : List Int) (hb : xs.length ≤ 17592186044415) : slices_Clone_int_F (xs, ()) = some ((xs, ()), ((), ())) := by
  rw [slices_Clone_int_main, ck_pos (by simp [big47]; omega), List.nil_append]
  by_cases h : xs.length = 0
  · obtain rfl := List.length_eq_zero_iff.1 h
    rw [brk_pos (decide_eq_true h), both_same rfl]
  · rw [brk_neg (decide_eq_false h)]
theorem impl_Clear_1_ok (x c : Int) : impl_Clear_1_F (x, (c, ())) = some ((decide (x = c), ()), ((), (c, ()))) := impl_Clear_1_main x c
theorem IndexFuncD_ok (xs : List Int) (c : Int) (hb : xs.length ≤ big47) : ∃ r : Int, slices_IndexFunc_intD_F (xs, ((c, ()), ())) = some ((r, ()), ((), ((c, ()), ()))) ∧
    ((r = -1 ∧ ∀ j, j < xs.length → xs.getD j 0 ≠ c) ∨ ∃ k : Nat, r = k ∧ k < xs.length ∧ xs.getD k 0 = c ∧ ∀ j, j < k → xs.getD j 0 ≠ c) := by
  rw [big47_eq] at hb
  rw [slices_IndexFunc_intD_main]
  obtain ⟨n, v, hh, r, rfl, hr⟩ := for_loop (σ := Unit) (G := fun n i s => iterG slices_IndexFunc_intD_t0 slices_IndexFunc_intD_B0 (slices_IndexFunc_intD_K0 xs (c, ())) n ((xs, ((xs.length : Int), ((i : Int), ()))), ((c, ()), ()))) xs.length (fun i s => ∀ j, j < i → xs.getD j 0 ≠ c)
    (fun v => ∃ r : Int, v = some ((r, ()), ((), ((c, ()), ()))) ∧ ((r = -1 ∧ ∀ j, j < xs.length → xs.getD j 0 ≠ c) ∨ ∃ k : Nat, r = k ∧ k < xs.length ∧ xs.getD k 0 = c ∧ ∀ j, j < k → xs.getD j 0 ≠ c))
    (fun i s hi hI => by
      by_cases he : xs.getD i 0 = c
      · refine .inl ⟨_, ⟨(i : Int), rfl, .inr ⟨i, rfl, hi, he, hI⟩⟩, fun n => ?_⟩
        dsimp only
        rw [slices_IndexFunc_intD_r0, brk_lt hi, ck_idx hi, rdD_nat, show tI.zero = 0 from rfl, impl_Clear_1_ok, decide_eq_true he]
        simp only [Option.bind_some, brk_true]
        rw [slices_IndexFunc_intD_e0_0]
      · refine .inr ⟨(), fun j hj => ?_, fun n => ?_⟩
        · rcases Nat.lt_succ_iff_lt_or_eq.1 hj with h | rfl
          · exact hI j h
          · exact he
        · dsimp only
          rw [slices_IndexFunc_intD_r0, brk_lt hi, ck_idx hi, rdD_nat, show tI.zero = 0 from rfl, impl_Clear_1_ok, decide_eq_false he]
          simp only [Option.bind_some, brk_false]
          rw [step_nat i (by omega)])
    (fun s hI => ⟨_, ⟨-1, rfl, .inl ⟨rfl, hI⟩⟩, fun n => by
      dsimp only
      rw [slices_IndexFunc_intD_r0, brk_nlt (by omega), slices_IndexFunc_intD_e0_1]⟩) () (fun j hj => by omega)
  exact ⟨r, slices_IndexFunc_intD_l0 n hh ⟨_, rfl⟩, hr⟩
/-- A list without a number. -/
def clearB (xs : List Int) (c : Int) : List Int := xs.filter fun x => !decide (x = c)
theorem filter_next {xs : List Int} {c : Int} {i : Nat} (hi : i < xs.length) : clearB (xs.take (i + 1)) c = clearB (xs.take i) c ++ (if xs.getD i 0 = c then [] else [xs.getD i 0]) := by
  unfold clearB
  rw [take_next hi, List.filter_append, getD_at hi]
  by_cases h : xs[i] = c <;> simp [h]
theorem slices_DeleteFunc_ok (xs : List Int) (c : Int) (hb : xs.length ≤ big47) : slices_DeleteFunc_int_F (xs, ((c, ()), ())) = some ((clearB xs c, ()), ((), ((c, ()), ()))) := by
  obtain ⟨r, e1, e2⟩ := IndexFuncD_ok xs c hb
  rw [big47_eq] at hb
  rw [slices_DeleteFunc_int_main]
  simp only
  rw [e1]
  simp only [Option.bind_some]
  rcases e2 with ⟨rfl, hno⟩ | ⟨k, rfl, hk, hkc, hbef⟩
  · rw [brk_pos (decide_eq_true rfl)]
    have : clearB xs c = xs := by
      unfold clearB
      rw [List.filter_eq_self]
      intro a ha
      obtain ⟨j, hj, rfl⟩ := List.mem_iff_getElem.1 ha
      have := hno j hj
      rw [getD_at hj] at this
      simp [this]
    rw [this]
  · have htk : clearB (xs.take (k + 1)) c = xs.take k := by
      rw [filter_next hk, if_pos hkc, List.append_nil]
      unfold clearB
      rw [List.filter_eq_self]
      intro a ha
      obtain ⟨j, hj, rfl⟩ := List.mem_iff_getElem.1 ha
      rw [List.length_take] at hj
      have := hbef j (by omega)
      rw [getD_at (by omega)] at this
      rw [List.getElem_take]
      simp [this]
    rw [brk_neg (decide_eq_false (fun h : (k : Int) = -1 => by omega)), step_nat k (by omega)]
    obtain ⟨n, v, hh, rfl⟩ := for_loop (σ := Nat × List Int) (G := fun n m z => iterG slices_DeleteFunc_int_t0 slices_DeleteFunc_int_B0 (slices_DeleteFunc_int_K0 xs (c, ())) n (((z.1 : Int), (((k + 1 + m : Nat) : Int), ())), (z.2, ((c, ()), ())))) (xs.length - (k + 1))
      (fun m z => z.2.length = xs.length ∧ z.1 ≤ k + m ∧ z.2.take z.1 = clearB (xs.take (k + 1 + m)) c ∧ z.2.drop (k + 1 + m) = xs.drop (k + 1 + m)) (· = some ((clearB xs c, ()), ((), ((c, ()), ()))))
      (fun m z hm ⟨h1, h2, h3, h4⟩ => by
        obtain ⟨i, a⟩ := z
        simp only at h1 h2 h3 h4 ⊢
        have hj : k + 1 + m < xs.length := by omega
        have hv : a.getD (k + 1 + m) 0 = xs.getD (k + 1 + m) 0 := by
          rw [getD_at (by omega), getD_at hj]
          rw [List.drop_eq_getElem_cons (by omega), List.drop_eq_getElem_cons hj] at h4
          exact (List.cons.inj h4).1
        have hd : a.drop (k + 1 + (m + 1)) = xs.drop (k + 1 + (m + 1)) := by
          rw [List.drop_eq_getElem_cons (by omega), List.drop_eq_getElem_cons hj] at h4
          exact (List.cons.inj h4).2
        by_cases he : xs.getD (k + 1 + m) 0 = c
        · refine .inr ⟨(i, a), ⟨h1, by simp only; omega, ?_, hd⟩, fun n => ?_⟩
          · simp only
            rw [show k + 1 + (m + 1) = (k + 1 + m) + 1 by omega, filter_next hj, if_pos he, List.append_nil]; exact h3
          · rw [slices_DeleteFunc_int_r0, brk_lt (by omega), ck_idx (by omega), rdD_nat, show tI.zero = 0 from rfl, hv, impl_Clear_1_ok, decide_eq_true he]
            simp only [Option.bind_some, Bool.not_true, brk_false]
            rw [step_nat (k + 1 + m) (by omega)]; rfl
        · refine .inr ⟨(i + 1, a.set i (xs.getD (k + 1 + m) 0)), ⟨by simpa using h1, by simp only; omega, ?_, ?_⟩, fun n => ?_⟩
          · simp only
            rw [show k + 1 + (m + 1) = (k + 1 + m) + 1 by omega, filter_next hj, if_neg he, ← h3, drop_set_next (by omega)]
          · simp only
            rw [List.drop_set_of_lt (by omega)]; exact hd
          · rw [slices_DeleteFunc_int_r0, brk_lt (by omega), ck_idx (by omega), rdD_nat, show tI.zero = 0 from rfl, hv, impl_Clear_1_ok, decide_eq_false he]
            simp only [Option.bind_some, Bool.not_false, brk_true]
            rw [ck_idx (by omega), step_nat i (by omega), step_nat (k + 1 + m) (by omega)]; rfl)
      (fun z ⟨h1, h2, h3, h4⟩ => ⟨_, rfl, fun n => by
        obtain ⟨i, a⟩ := z
        simp only at h1 h2 h3 h4 ⊢
        rw [show k + 1 + (xs.length - (k + 1)) = xs.length by omega] at h3
        rw [List.take_length] at h3
        rw [slices_DeleteFunc_int_r0, brk_nlt (by omega), slices_DeleteFunc_int_e0_0, ck_pos (by simp; omega), ck_pos (by simp; omega)]
        rw [Int.toNat_natCast, List.append_assoc, List.take_append_of_le_length (by simp; omega), List.take_take, Nat.min_self, h3]⟩) (k, xs) ⟨rfl, by simp only; omega, by simp only; rw [htk], rfl⟩
    exact slices_DeleteFunc_int_l0 n hh ⟨_, rfl⟩
theorem impl_Clear_ok (xs : List Int) (c : Int) (hb : xs.length ≤ 17592186044415) : impl_Clear_F (xs, (c, ())) = some ((clearB xs c, ()), ((), ((), ()))) := by
  rw [impl_Clear_main, slices_Clone_int_ok _ hb]
  simp only [Option.bind_some]
  rw [slices_DeleteFunc_ok _ _ (by rw [big47_eq]; omega)]
  rfl
theorem clearB_len (xs : List Int) (c : Int) : (clearB xs c).length ≤ xs.length := List.length_filter_le _ _
theorem spec_Clear_ok (xs : List Int) (c : Int) (hb : xs.length ≤ 17592186044414) : spec_Clear_F (xs, (c, ())) = some ((clearB xs c, ()), ((), ((), ()))) := by
  rw [spec_Clear_main]
  obtain ⟨n, v, hh, rfl⟩ := for_loop (σ := List Int) (G := fun n i s => iterG spec_Clear_t0 spec_Clear_B0 (spec_Clear_K0 xs c) n ((xs, (c, ((i : Int), ()))), (s, ()))) xs.length (fun i s => s = clearB (xs.take i) c) (· = some ((clearB xs c, ()), ((), ((), ()))))
    (fun i s hi hI => by
      have hlen : s.length ≤ xs.length := by rw [hI]; exact Nat.le_trans (clearB_len _ _) (by simp; omega)
      by_cases he : xs.getD i 0 = c
      · refine .inr ⟨s, by rw [filter_next hi, if_pos he, List.append_nil]; exact hI, fun n => ?_⟩
        dsimp only
        rw [spec_Clear_r0, brk_lt hi, ck_idx hi, rdD_nat, show tI.zero = 0 from rfl, decide_eq_true he, Bool.not_true, brk_false, step_nat i (by omega)]
      · refine .inr ⟨s ++ [xs.getD i 0], by rw [filter_next hi, if_neg he, hI], fun n => ?_⟩
        dsimp only
        rw [spec_Clear_r0, brk_lt hi, ck_idx hi, rdD_nat, show tI.zero = 0 from rfl, decide_eq_false he, Bool.not_false, brk_true, ck_idx hi, ck_pos (by simp [big47]; omega), step_nat i (by omega)])
    (fun s hI => ⟨_, rfl, fun n => by
      dsimp only
      rw [spec_Clear_r0, brk_nlt (by omega), spec_Clear_e0_0, hI, List.take_length]⟩) [] rfl
  exact spec_Clear_l0 n hh ⟨_, rfl⟩
theorem laws_FnExactClear_pure (x : tIs.D) (hX : Ok tIs x) (c : tI.D) (hC : Ok tI c) : laws_FnExactClear_F (x, (c, ())) = some ((true, ()), ((), ((), ()))) := by
  have hb : List.length x ≤ big47 := hX.1
  rw [laws_FnExactClear_main]
  by_cases hx : (1048576 : Int) < (List.length x : Int)
  · rw [brk_pos (decide_eq_true hx)]
  · rw [brk_neg (decide_eq_false hx)]
    have hl : List.length x ≤ 1048576 := by omega
    have hc := clearB_len x c
    have hcb : (clearB x c).length ≤ big47 := Nat.le_trans hc hb
    have h1 := toIntS_ok x hl
    have h2 := spec_Clear_ok x c (by omega)
    have h3 := impl_Clear_ok x c (by omega)
    have h4 := eqIntS_ok (clearB x c) (clearB x c) hcb
    have h5 := eqIntS_ok x x hb
    have h6 := markIntS_ok x 1 (by omega) hb (by omega) (by omega)
    have h7 := markIntS_ok (clearB x c) 1 (by omega) hcb (by omega) (by omega)
    have h8 := heldIntS_ok (clearB x c).length 1 (by omega) (by omega) (by omega) hcb
    rw [h1]
    simp only [Option.bind_some]
    rw [h2]
    simp only [Option.bind_some]
    rw [h3]
    simp only [Option.bind_some]
    rw [h4]
    simp only [Option.bind_some, decide_true, Bool.not_true, brk_false]
    rw [h5]
    simp only [Option.bind_some, decide_true, Bool.not_true, brk_false]
    rw [h6]
    simp only [Option.bind_some]
    rw [brk_nneg (by omega), h7]
    simp only [Option.bind_some]
    rw [h8]
    simp only [Option.bind_some]
    rw [brk_nneg (by omega)]
    simp only [decide_true, Bool.not_true, brk_false]
    rw [brk_nneg (by omega)]
end Go.Refl
