/- Plain laws: what the functions come to. No condition. -/
import Derived.Test.YtffbfnogdghkgaaFnExactMsgOkGf
namespace Go.Refl
open Go.RowKit
set_option linter.unusedVariables false
set_option linter.unusedSimpArgs false
theorem eqIntS_loop {R : Type} (K : Ex → AS → Option R) (xs ys : List Int) (hl : xs.length = ys.length) (hb : xs.length ≤ big47) : ∀ (n i : Nat), i + n = xs.length →
    iterG laws_eqIntS_t0 laws_eqIntS_B0 K (n + 1) ((xs, (ys, ((i : Int), ()))), ()) = if xs.drop i = ys.drop i then K (.exit 0) laws_eqIntS_x0_1 else K .ret (laws_eqIntS_x0_0 false)
  | 0, i, h => by
    have hx : xs.drop i = [] := List.drop_of_length_le (by omega)
    have hy : ys.drop i = [] := List.drop_of_length_le (by omega)
    rw [laws_eqIntS_r0, brk_neg (by simp; omega), hx, hy, if_pos rfl]
  | n + 1, i, h => by
    have hi : i < xs.length := by omega
    have hj : i < ys.length := by omega
    rw [laws_eqIntS_r0, brk_pos (by simp; omega), ck_pos (by simp; omega), ck_pos (by simp; omega)]
    rw [rdD_get (List.getElem?_eq_getElem hi), rdD_get (List.getElem?_eq_getElem hj)]
    have hd : (xs.drop i = ys.drop i) ↔ (xs[i] = ys[i] ∧ xs.drop (i + 1) = ys.drop (i + 1)) := by
      rw [List.drop_eq_getElem_cons hi, List.drop_eq_getElem_cons hj, List.cons.injEq]
    by_cases he : xs[i] = ys[i]
    · rw [brk_neg (by simp [he]), wrap64 (by omega) (by simp only [big47] at hb; omega)]
      have := eqIntS_loop K xs ys hl hb n (i + 1) (by omega)
      rw [show ((i : Int) + 1) = ((i + 1 : Nat) : Int) by simp, this]
      by_cases hr : xs.drop (i + 1) = ys.drop (i + 1)
      · rw [if_pos hr, if_pos (hd.2 ⟨he, hr⟩)]
      · rw [if_neg hr, if_neg fun h => hr (hd.1 h).2]
    · rw [brk_pos (by simp [he]), if_neg fun h => he (hd.1 h).1]
theorem eqIntS_ok (xs ys : List Int) (hb : xs.length ≤ big47) : laws_eqIntS_F (xs, (ys, ())) = some ((decide (xs = ys), ()), ((), ((), ()))) := by
  rw [laws_eqIntS_main]
  by_cases hl : xs.length = ys.length
  · rw [brk_neg (by simp [hl])]
    have h : iterG laws_eqIntS_t0 laws_eqIntS_B0 (laws_eqIntS_K0 xs ys) (xs.length + 1) ((xs, (ys, ((0 : Int), ()))), ()) = _ := eqIntS_loop (laws_eqIntS_K0 xs ys) xs ys hl hb xs.length 0 (by omega)
    by_cases he : xs = ys
    · rw [laws_eqIntS_l0 _ h (by subst he; exact ⟨_, by simp only [if_true]; exact laws_eqIntS_e0_1 _ _⟩)]
      subst he
      simp only [if_true]
      rw [laws_eqIntS_e0_1]; simp
    · have h0 : ¬ xs.drop 0 = ys.drop 0 := by simpa using he
      rw [if_neg h0] at h
      rw [laws_eqIntS_l0 _ h ⟨_, laws_eqIntS_e0_0 _ _ _⟩, laws_eqIntS_e0_0]
      simp [he]
  · rw [brk_pos (by simp; omega)]
    have : xs ≠ ys := fun h => hl (by rw [h])
    simp [this]
theorem take_set_next {α : Type} {out xs : List α} {i : Nat} (hl : out.length = xs.length) (hi : i < xs.length) (ht : out.take i = xs.take i) : (out.set i xs[i]).take (i + 1) = xs.take (i + 1) := by
  rw [List.take_succ_eq_append_getElem (by simpa [hl] using hi), List.take_succ_eq_append_getElem hi]
  rw [List.take_set_of_le (Nat.le_refl i), ht]
  simp
theorem toIntS_loop {R : Type} (K : Ex → AS → Option R) (xs : List Int) (hb : xs.length ≤ big47) : ∀ (n i : Nat) (out : List Int), i + n = xs.length → out.length = xs.length → out.take i = xs.take i →
    iterG laws_toIntS_t0 laws_toIntS_B0 K (n + 1) ((xs, ((i : Int), ())), (out, ())) = K (.exit 0) (laws_toIntS_x0_0 xs)
  | 0, i, out, h, hl, ht => by
    rw [laws_toIntS_r0, brk_neg (by simp; omega)]
    rw [List.take_of_length_le (by omega), List.take_of_length_le (by omega)] at ht
    rw [ht]
  | n + 1, i, out, h, hl, ht => by
    have hi : i < xs.length := by omega
    rw [laws_toIntS_r0, brk_pos (by simp; omega), ck_pos (by simp; omega), ck_pos (by simp; omega)]
    rw [rdD_get (List.getElem?_eq_getElem hi), wrap64 (by omega) (by simp only [big47] at hb; omega)]
    rw [show ((i : Int) + 1) = ((i + 1 : Nat) : Int) by simp]
    exact toIntS_loop K xs hb n (i + 1) _ (by omega) (by simpa using hl) (take_set_next hl hi ht)
theorem toIntS_ok (xs : List Int) (hb : xs.length ≤ 1048576) : laws_toIntS_F (xs, ()) = some ((xs, ()), ((), ())) := by
  rw [laws_toIntS_main, ck_pos (by simp; omega)]
  have h : iterG laws_toIntS_t0 laws_toIntS_B0 (laws_toIntS_K0 xs) (xs.length + 1) ((xs, ((0 : Int), ())), (List.replicate (xs.length : Int).toNat tI.zero, ())) = _ := toIntS_loop (laws_toIntS_K0 xs) xs (by simp only [big47]; omega) xs.length 0 _ (by omega) (by simp) (by simp)
  rw [laws_toIntS_l0 _ h ⟨_, laws_toIntS_e0_0 _ _⟩, laws_toIntS_e0_0]
theorem szIntS_ok (xs : List Int) (n : Int) (hb : xs.length ≤ big47) (h0 : 0 ≤ n) (hn : n ≤ 1048576) : laws_szIntS_F (xs, (n, ())) = some ((if n < xs.length then -1 else n - xs.length, ()), ((), ((), ()))) := by
  simp only [big47] at hb
  rw [laws_szIntS_main, wrap64 (by omega) (by omega)]
  by_cases h : n < xs.length
  · rw [brk_pos (by simp; omega), if_pos h]
  · rw [brk_neg (by simp; omega), if_neg h]
theorem toMsg_ok (x : tMsg.D) (hb : x.2.2.2.2.1.length ≤ 1048576) : laws_toMsg_F (x, ()) = some ((x, ()), ((), ())) := by
  rw [laws_toMsg_main, toIntS_ok _ hb]; rfl
theorem szMsg_ok (x : tMsg.D) (n : Int) (hb : x.2.2.2.2.1.length ≤ big47) (h0 : 0 ≤ n) (hn : n ≤ 1048576) : laws_szMsg_F (x, (n, ())) = some ((if n < x.2.2.2.2.1.length then -1 else n - x.2.2.2.2.1.length, ()), ((), ((), ()))) := by
  rw [laws_szMsg_main, szIntS_ok _ _ hb h0 hn]
  simp only [Option.bind_some]
  split
  · rw [brk_pos (by simp)]
  · rw [brk_neg (by simp; omega)]
theorem eqMsg_self (x : tMsg.D) (hb : x.2.2.2.2.1.length ≤ big47) : laws_eqMsg_F (x, (x, ())) = some ((true, ()), ((), ((), ()))) := by
  rw [laws_eqMsg_main, brk_neg (by simp), brk_neg (by simp), brk_neg (by simp), brk_neg (by simp), eqIntS_ok _ _ hb]
  simp
theorem spec_l1In_ok (x lo hi : Int) : spec_l1In_F (x, (lo, (hi, ()))) = some ((decide (lo ≤ x) && decide (x ≤ hi), ()), ((), ((), ((), ())))) := by
  rw [spec_l1In_main]
  by_cases h : lo ≤ x <;> simp [h]
theorem two_has {R : Type} (K : Ex → AS → Option R) (xs : List Int) (v : Int) (hb : xs.length ≤ big47) : ∀ (n i : Nat), i + n = xs.length →
    iterG spec_l2Has_t0 spec_l2Has_B0 K (n + 1) ((xs, (v, ((i : Int), ()))), ()) = if v ∈ xs.drop i then K .ret (spec_l2Has_x0_0 true) else K (.exit 0) spec_l2Has_x0_1
  | 0, i, h => by
    rw [spec_l2Has_r0, brk_neg (by simp; omega), List.drop_of_length_le (by omega)]
    simp
  | n + 1, i, h => by
    have hi : i < xs.length := by omega
    simp only [big47] at hb
    rw [spec_l2Has_r0, brk_pos (by simp; omega), ck_pos (by simp; omega), rdD_get (List.getElem?_eq_getElem hi), List.drop_eq_getElem_cons hi]
    by_cases he : xs[i] = v
    · rw [brk_pos (by simp [he]), if_pos (by rw [he]; exact List.mem_cons_self)]
    · rw [brk_neg (by simp [he]), wrap64 (by omega) (by omega), show ((i : Int) + 1) = ((i + 1 : Nat) : Int) by simp]
      rw [two_has K xs v (by simp only [big47]; omega) n (i + 1) (by omega)]
      have : (v ∈ xs[i] :: xs.drop (i + 1)) ↔ v ∈ xs.drop (i + 1) := by
        rw [List.mem_cons]; exact ⟨fun h => h.resolve_left fun e => he e.symm, .inr⟩
      by_cases hm : v ∈ xs.drop (i + 1)
      · rw [if_pos hm, if_pos (this.2 hm)]
      · rw [if_neg hm, if_neg fun h => hm (this.1 h)]
theorem brk_if {R : Type} (p : Prop) [Decidable p] (a b : Option R) : brk (decide p) a b = if p then a else b := by by_cases h : p <;> simp [h, brk]
theorem n0 : ((0 : Nat) : Int) = 0 := rfl
theorem spec_l2Has_ok (xs : List Int) (v : Int) (hb : xs.length ≤ big47) : spec_l2Has_F (xs, (v, ())) = some ((decide (v ∈ xs), ()), ((), ((), ()))) := by
  rw [spec_l2Has_main]
  have h := two_has (spec_l2Has_K0 xs v) xs v hb xs.length 0 (by omega)
  rw [List.drop_zero, n0] at h
  by_cases hm : v ∈ xs
  · rw [if_pos hm] at h
    rw [spec_l2Has_l0 _ h ⟨_, spec_l2Has_e0_0 _ _ _⟩, spec_l2Has_e0_0, decide_eq_true hm]
  · rw [if_neg hm] at h
    rw [spec_l2Has_l0 _ h ⟨_, spec_l2Has_e0_1 _ _⟩, spec_l2Has_e0_1, decide_eq_false hm]
theorem Index_loop {R : Type} (K : Ex → AS → Option R) (xs : List Int) (v : Int) (hb : xs.length ≤ big47) : ∀ (n i : Nat), i + n = xs.length →
    (v ∈ xs.drop i ∧ ∃ j : Nat, iterG slices_Index_int_t0 slices_Index_int_B0 K (n + 1) ((xs, (v, ((xs.length : Int), ((i : Int), ())))), ()) = K .ret (slices_Index_int_x0_0 (j : Int))) ∨
    (v ∉ xs.drop i ∧ iterG slices_Index_int_t0 slices_Index_int_B0 K (n + 1) ((xs, (v, ((xs.length : Int), ((i : Int), ())))), ()) = K (.exit 0) slices_Index_int_x0_1)
  | 0, i, h => by
    right
    rw [slices_Index_int_r0, brk_neg (by simp; omega), List.drop_of_length_le (by omega)]
    simp
  | n + 1, i, h => by
    have hi : i < xs.length := by omega
    simp only [big47] at hb
    rw [slices_Index_int_r0, brk_pos (by simp; omega), ck_pos (by simp; omega), rdD_get (List.getElem?_eq_getElem hi), List.drop_eq_getElem_cons hi]
    by_cases he : v = xs[i]
    · left
      rw [brk_pos (by simp [he])]
      exact ⟨by rw [← he]; exact List.mem_cons_self, i, rfl⟩
    · rw [brk_neg (by simp [he]), wrap64 (by omega) (by omega), show ((i : Int) + 1) = ((i + 1 : Nat) : Int) by simp]
      rcases Index_loop K xs v (by simp only [big47]; omega) n (i + 1) (by omega) with ⟨h1, j, h2⟩ | ⟨h1, h2⟩
      · exact .inl ⟨List.mem_cons_of_mem _ h1, j, h2⟩
      · exact .inr ⟨fun hm => (List.mem_cons.1 hm).elim he h1, h2⟩
theorem slices_Index_int_ok (xs : List Int) (v : Int) (hb : xs.length ≤ big47) : ∃ r : Int, slices_Index_int_F (xs, (v, ())) = some ((r, ()), ((), ((), ()))) ∧ (0 ≤ r ↔ v ∈ xs) := by
  rw [slices_Index_int_main]
  rcases Index_loop (slices_Index_int_K0 xs v) xs v hb xs.length 0 (by omega) with ⟨h1, j, h2⟩ | ⟨h1, h2⟩
  · rw [n0] at h2
    exact ⟨j, by rw [slices_Index_int_l0 _ h2 ⟨_, slices_Index_int_e0_0 _ _ _⟩, slices_Index_int_e0_0], by simp at h1; simp [h1]⟩
  · rw [n0] at h2
    exact ⟨-1, by rw [slices_Index_int_l0 _ h2 ⟨_, slices_Index_int_e0_1 _ _⟩, slices_Index_int_e0_1], by simp at h1; simp [h1]⟩
theorem slices_Contains_int_ok (xs : List Int) (v : Int) (hb : xs.length ≤ big47) : slices_Contains_int_F (xs, (v, ())) = some ((decide (v ∈ xs), ()), ((), ((), ()))) := by
  obtain ⟨r, h1, h2⟩ := slices_Index_int_ok xs v hb
  rw [slices_Contains_int_main, h1]
  simp only [Option.bind_some, h2]
theorem impl_from_ok (x lo hi : Int) : impl_from_F (x, (lo, (hi, ()))) = some ((decide (lo ≤ x ∧ x ≤ hi), ()), ((), ((), ((), ())))) := by
  rw [impl_from_main, brk_if]
  by_cases h : lo ≤ x <;> simp [h]
theorem impl_from_z (z : PsD [.ro tI, .ro tI, .ro tI]) : impl_from_F z = some ((decide (z.2.1 ≤ z.1 ∧ z.1 ≤ z.2.2.1), ()), ((), ((), ((), ())))) := impl_from_ok z.1 z.2.1 z.2.2.1
theorem impl_isCell_z (z : PsD [.ro tI]) : impl_isCell_F z = some ((decide (0 ≤ z.1 ∧ z.1 ≤ 7), ()), ((), ())) := by rw [show z = (z.1, ()) from rfl, impl_isCell_main, impl_from_ok]; rfl
theorem impl_isWrite_z (z : PsD [.ro tI]) : impl_isWrite_F z = some ((decide (1 ≤ z.1 ∧ z.1 ≤ 200), ()), ((), ())) := by rw [show z = (z.1, ()) from rfl, impl_isWrite_main, impl_from_ok]; rfl
theorem impl_isNode_z (z : PsD [.ro tI]) : impl_isNode_F z = some ((decide (0 ≤ z.1 ∧ z.1 ≤ 2), ()), ((), ())) := by rw [show z = (z.1, ()) from rfl, impl_isNode_main, impl_from_ok]; rfl
theorem spec_l1In_ok' (x lo hi : Int) : spec_l1In_F (x, (lo, (hi, ()))) = some ((decide (lo ≤ x ∧ x ≤ hi), ()), ((), ((), ((), ())))) := by
  rw [spec_l1In_ok]
  by_cases h : lo ≤ x <;> simp [h]
theorem spec_l1In_z (z : PsD [.ro tI, .ro tI, .ro tI]) : spec_l1In_F z = some ((decide (z.2.1 ≤ z.1 ∧ z.1 ≤ z.2.2.1), ()), ((), ((), ((), ())))) := spec_l1In_ok' z.1 z.2.1 z.2.2.1
theorem spec_l1Bit_z (z : PsD [.ro tB]) : spec_l1Bit_F z = some ((if z.1 = true then 1 else 0, ()), ((), ())) := by rw [show z = (z.1, ()) from rfl, spec_l1Bit_main]; cases z.1 <;> rfl
def gensAll : List Int → List Int → Bool
  | _, [] => true
  | pre, x :: xs => decide (1 ≤ x ∧ x ≤ 100000) && !decide (x ∈ pre) && gensAll (pre ++ [x]) xs
def gensB (g : List Int) : Bool := gensAll [] g && decide (g.length ≤ 12)
theorem take_next {α : Type} {xs : List α} {i : Nat} (hi : i < xs.length) : xs.take (i + 1) = xs.take i ++ [xs[i]] := List.take_succ_eq_append_getElem hi
theorem spec_GensOk_loop {R : Type} (K : Ex → AS → Option R) (xs : List Int) (hb : xs.length ≤ big47) : ∀ (n i : Nat), i + n = xs.length →
    iterG spec_GensOk_t0 spec_GensOk_B0 K (n + 1) ((xs, ((i : Int), ())), ()) = brk (gensAll (xs.take i) (xs.drop i)) (K (.exit 0) (spec_GensOk_x0_1 xs)) (K .ret (spec_GensOk_x0_0 xs false))
  | 0, i, h => by
    rw [spec_GensOk_r0, brk_neg (by simp; omega), List.drop_of_length_le (by omega), brk_pos (by simp [gensAll])]
  | n + 1, i, h => by
    have hi : i < xs.length := by omega
    have hb' := hb
    simp only [big47] at hb
    rw [spec_GensOk_r0, brk_pos (by simp; omega), ck_pos (by simp; omega), rdD_get (List.getElem?_eq_getElem hi), spec_l1In_ok', List.drop_eq_getElem_cons hi]
    simp only [Option.bind_some, gensAll]
    by_cases h1 : 1 ≤ xs[i] ∧ xs[i] ≤ 100000
    · rw [decide_eq_true h1, Bool.not_true, brk_false, ck_pos (by simp; omega), ck_pos (by simp; omega), spec_l2Has_ok _ _ (by simp; omega)]
      simp only [Option.bind_some, Int.toNat_zero, List.drop_zero, Int.toNat_natCast, Bool.true_and]
      by_cases h2 : xs[i] ∈ xs.take i
      · rw [decide_eq_true h2]; simp
      · rw [decide_eq_false h2, brk_false, wrap64 (by omega) (by omega), show ((i : Int) + 1) = ((i + 1 : Nat) : Int) by simp, spec_GensOk_loop K xs hb' n (i + 1) (by omega), take_next hi]
        simp
    · rw [decide_eq_false h1]; simp
theorem spec_GensOk_ok (xs : List Int) (hb : xs.length ≤ big47) : spec_GensOk_F (xs, ()) = some ((gensB xs, ()), ((), ())) := by
  rw [spec_GensOk_main]
  have h : iterG spec_GensOk_t0 spec_GensOk_B0 (spec_GensOk_K0 xs) (xs.length + 1) ((xs, ((0 : Int), ())), ()) = _ := spec_GensOk_loop (spec_GensOk_K0 xs) xs hb xs.length 0 (by omega)
  simp only [List.take_zero, List.drop_zero] at h
  unfold gensB
  by_cases hg : gensAll [] xs = true
  · rw [brk_pos hg] at h
    rw [spec_GensOk_l0 _ h ⟨_, spec_GensOk_e0_1 _ _⟩, spec_GensOk_e0_1, hg]
    simp
    omega
  · rw [brk_neg (by simpa using hg)] at h
    rw [spec_GensOk_l0 _ h ⟨_, spec_GensOk_e0_0 _ _ _⟩, spec_GensOk_e0_0]
    simp [hg]
theorem impl_GensOk_loop {R : Type} (K : Ex → AS → Option R) (xs : List Int) (hb : xs.length ≤ big47) : ∀ (n i : Nat), i + n = xs.length →
    iterG impl_GensOk_t0 impl_GensOk_B0 K (n + 1) ((xs, (xs, ((xs.length : Int), ((i : Int), ())))), ()) = brk (gensAll (xs.take i) (xs.drop i)) (K (.exit 0) (impl_GensOk_x0_1 xs)) (K .ret (impl_GensOk_x0_0 xs false))
  | 0, i, h => by
    rw [impl_GensOk_r0, brk_neg (by simp; omega), List.drop_of_length_le (by omega), brk_pos (by simp [gensAll])]
  | n + 1, i, h => by
    have hi : i < xs.length := by omega
    have hb' := hb
    simp only [big47] at hb
    rw [impl_GensOk_r0, brk_pos (by simp; omega), ck_pos (by simp; omega), rdD_get (List.getElem?_eq_getElem hi), impl_from_ok, List.drop_eq_getElem_cons hi]
    simp only [Option.bind_some, gensAll]
    by_cases h1 : 1 ≤ xs[i] ∧ xs[i] ≤ 100000
    · rw [decide_eq_true h1, Bool.not_true, brk_false, ck_pos (by simp; omega), slices_Contains_int_ok _ _ (by simp; omega)]
      simp only [Option.bind_some, Int.toNat_zero, List.drop_zero, Int.toNat_natCast, Bool.true_and]
      by_cases h2 : xs[i] ∈ xs.take i
      · rw [decide_eq_true h2]; simp
      · rw [decide_eq_false h2, brk_false, wrap64 (by omega) (by omega), show ((i : Int) + 1) = ((i + 1 : Nat) : Int) by simp, impl_GensOk_loop K xs hb' n (i + 1) (by omega), take_next hi]
        simp
    · rw [decide_eq_false h1]; simp
theorem impl_GensOk_ok (xs : List Int) (hb : xs.length ≤ big47) : impl_GensOk_F (xs, ()) = some ((gensB xs, ()), ((), ())) := by
  rw [impl_GensOk_main]
  have h : iterG impl_GensOk_t0 impl_GensOk_B0 (impl_GensOk_K0 xs) (xs.length + 1) ((xs, (xs, ((xs.length : Int), ((0 : Int), ())))), ()) = _ := impl_GensOk_loop (impl_GensOk_K0 xs) xs hb xs.length 0 (by omega)
  simp only [List.take_zero, List.drop_zero] at h
  unfold gensB
  by_cases hg : gensAll [] xs = true
  · rw [brk_pos hg] at h
    rw [impl_GensOk_l0 _ h ⟨_, impl_GensOk_e0_1 _ _⟩, impl_GensOk_e0_1, hg]
    simp
    omega
  · rw [brk_neg (by simpa using hg)] at h
    rw [impl_GensOk_l0 _ h ⟨_, impl_GensOk_e0_0 _ _ _⟩, impl_GensOk_e0_0]
    simp [hg]
/-- Is a message right? -/
def msgOkB (k c v w : Int) (g : List Int) : Bool :=
  if k = 5 then gensB g && decide (0 ≤ v ∧ v ≤ 200) && decide (c = 0) && decide (w = 0)
  else if k = 3 then decide (0 ≤ c ∧ c ≤ 7) && decide (1 ≤ v ∧ v ≤ 200) && decide (0 ≤ w ∧ w ≤ 2) && decide (g.length = 0)
  else if k = 1 then decide (0 ≤ c ∧ c ≤ 7) && decide (1 ≤ v ∧ v ≤ 200) && decide (w = 0) && decide (g.length = 0)
  else if k = 2 ∨ k = 4 then decide (0 ≤ c ∧ c ≤ 7) && decide (0 ≤ v ∧ v ≤ 200) && decide (w = 0) && decide (g.length = 0)
  else false
theorem impl_MsgOk_ok (k c v w : Int) (g : List Int) (hb : g.length ≤ big47) : impl_MsgOk_F ((k, (c, (v, (w, (g, ()))))), ()) = some ((msgOkB k c v w g, ()), ((), ())) := by
  rw [impl_MsgOk_main]
  simp only [impl_GensOk_ok g hb, impl_from_z, impl_isCell_z, impl_isWrite_z, impl_isNode_z, Option.bind_some]
  simp only [brk_if]
  unfold msgOkB
  by_cases h5 : k = 5
  · subst h5
    simp only [if_true]
    cases gensB g <;> by_cases h1 : 0 ≤ v ∧ v ≤ 200 <;> by_cases h2 : c = 0 <;> simp [h1, h2, brk]
  · simp only [if_neg h5]
    by_cases h3 : k = 3
    · simp only [if_pos h3]
      by_cases h1 : 0 ≤ c ∧ c ≤ 7 <;> by_cases h2 : 1 ≤ v ∧ v ≤ 200 <;> by_cases h4 : 0 ≤ w ∧ w ≤ 2 <;> simp [h1, h2, h4]
    · simp only [if_neg h3]
      by_cases h1 : k = 1
      · simp only [if_pos h1]
        by_cases h1 : 0 ≤ c ∧ c ≤ 7 <;> by_cases h2 : 1 ≤ v ∧ v ≤ 200 <;> by_cases h4 : w = 0 <;> simp [h1, h2, h4]
      · simp only [if_neg h1]
        by_cases h2 : k = 2
        · simp only [h2, true_or, if_true]
          by_cases h1 : 0 ≤ c ∧ c ≤ 7 <;> by_cases h2 : 0 ≤ v ∧ v ≤ 200 <;> by_cases h4 : w = 0 <;> simp [h1, h2, h4]
        · simp only [h2, false_or]
          by_cases h4 : k = 4
          · simp only [if_pos h4]
            by_cases h1 : 0 ≤ c ∧ c ≤ 7 <;> by_cases h2 : 0 ≤ v ∧ v ≤ 200 <;> by_cases h4 : w = 0 <;> simp [h1, h2, h4]
          · simp only [h4, if_false]
theorem spec_MsgOk_ok (k c v w : Int) (g : List Int) (hb : g.length ≤ big47) : spec_MsgOk_F ((k, (c, (v, (w, (g, ()))))), ()) = some ((msgOkB k c v w g, ()), ((), ())) := by
  rw [spec_MsgOk_main]
  simp only [spec_GensOk_ok g hb, spec_l1In_z, spec_l1Bit_z, Option.bind_some]
  simp only [brk_if]
  unfold msgOkB
  by_cases h5 : k = 5
  · subst h5
    simp only [if_true]
    cases gensB g <;> by_cases h1 : 0 ≤ v ∧ v ≤ 200 <;> by_cases h2 : c = 0 <;> simp [h1, h2, brk]
  · simp only [if_neg h5]
    have e0 : IntKind.i64.wrap 0 = 0 := by decide
    have e1 : IntKind.i64.wrap 1 = 1 := by decide
    by_cases h1 : k = 1
    · subst h1
      by_cases h1 : 0 ≤ c ∧ c ≤ 7 <;> by_cases h2 : 1 ≤ v ∧ v ≤ 200 <;> by_cases h4 : w = 0 <;> by_cases h5 : g = [] <;> simp [h1, h2, h4, h5, e0, e1]
    · by_cases h2 : k = 2
      · subst h2
        by_cases h1 : 0 ≤ c ∧ c ≤ 7 <;> by_cases h2 : 0 ≤ v ∧ v ≤ 200 <;> by_cases h4 : w = 0 <;> by_cases h5 : g = [] <;> simp [h1, h2, h4, h5, e0, e1]
      · by_cases h3 : k = 3
        · subst h3
          by_cases h1 : 0 ≤ c ∧ c ≤ 7 <;> by_cases h2 : 1 ≤ v ∧ v ≤ 200 <;> by_cases h4 : 0 ≤ w ∧ w ≤ 2 <;> by_cases h5 : g = [] <;> simp [h1, h2, h4, h5, e0, e1] <;> omega
        · by_cases h4 : k = 4
          · subst h4
            by_cases h1 : 0 ≤ c ∧ c ≤ 7 <;> by_cases h2 : 0 ≤ v ∧ v ≤ 200 <;> by_cases h4 : w = 0 <;> by_cases h5 : g = [] <;> simp [h1, h2, h4, h5, e0, e1]
          · simp [h1, h2, h3, h4]
theorem brk_nneg {R : Type} {x : Int} (h : 0 ≤ x) (a b : Option R) : brk (decide (x < 0)) a b = b := brk_neg (decide_eq_false (Int.not_lt.2 h)) a b
theorem laws_FnExactMsgOk_pure (x : tMsg.D) (h : Ok tMsg x) : laws_FnExactMsgOk_F (x, ()) = some ((true, ()), ((), ())) := by
  obtain ⟨k, c, v, w, g, u⟩ := x
  cases u
  have hb : g.length ≤ big47 := h.2.2.2.2.1.1
  have h1 := szMsg_ok (k, c, v, w, g, ()) 1048576 hb (by omega) (by omega)
  simp only at h1
  rw [laws_FnExactMsgOk_main]
  simp only [h1, Option.bind_some]
  by_cases hx : (1048576 : Int) < g.length
  · rw [if_pos hx, brk_pos (by decide)]
  · have t1 := toMsg_ok (k, c, v, w, g, ()) (by simp only; omega)
    have t2 := eqMsg_self (k, c, v, w, g, ()) hb
    rw [if_neg hx, brk_nneg (by omega), t1]
    simp only [Option.bind_some]
    rw [spec_MsgOk_ok _ _ _ _ _ hb, impl_MsgOk_ok _ _ _ _ _ hb]
    simp only [Option.bind_some, beq_self_eq_true, Bool.not_true, brk_false, t2]
end Go.Refl
