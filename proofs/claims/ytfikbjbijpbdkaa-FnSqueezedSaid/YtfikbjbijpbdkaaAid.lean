/- Plain lemmas on rounds, whole numbers and lists: no condition. -/
import Derived.Test.YtfikbjbijpbdkaaWMore
namespace Go.Proofs.Ytfikbjbijpbdkaa.Aid
open Go.RowKit Go.Proofs.YtfikbjbijpbdkaaW.PrintWords Go.Proofs.YtfikbjbijpbdkaaW.PrintLast
set_option linter.unusedVariables false

theorem w64 {x : Int} (h0 : -9223372036854775808 ≤ x) (h1 : x ≤ 9223372036854775807) : wrap64 x = x := by unfold wrap64; omega
theorem rd_nat (l : List Int) (i : Nat) : rd l (i : Int) = l.getD i 0 := by simp [rd]
theorem rd_lt (l : List Int) (i : Nat) (h : i < l.length) : rd l (i : Int) = l[i] := by simp [rd, List.getD, List.getElem?_eq_getElem h]
theorem rdOf_nat {α : Type} (d : α) (l : List α) (i : Nat) : rdOf d l (i : Int) = l.getD i d := by simp [rdOf]
theorem rdOf_lt {α : Type} (d : α) (l : List α) (i : Nat) (h : i < l.length) : rdOf d l (i : Int) = l[i] := by simp [rdOf, List.getD, List.getElem?_eq_getElem h]
theorem wf_i64 {x : Int} (h : (Lit.int .i64 x).wf = true) : -9223372036854775808 ≤ x ∧ x ≤ 9223372036854775807 := by
  simp only [Lit.wf, IntKind.min, IntKind.max, IntKind.signed, IntKind.bits, Bool.and_eq_true, decide_eq_true_eq, if_true] at h
  omega
theorem wf_u8 {x : Int} (h : (Lit.int .u8 x).wf = true) : 0 ≤ x ∧ x ≤ 255 := by
  simp [Lit.wf, IntKind.min, IntKind.max, IntKind.signed, IntKind.bits] at h
  omega

theorem if_tt {α : Type} {a b : α} : (if (true = true) then a else b) = a := rfl
theorem if_ff {α : Type} {a b : α} : (if (false = true) then a else b) = b := rfl
theorem ev_const {α : Type} {o : Option α} {r : α} (h : o = some r) : Ev (fun _ => o) r := ⟨0, fun _ _ => h⟩
theorem ev_pos {α : Type} {c : Prop} [Decidable c] {f g : Nat → Option α} {r : α} (h : c) (k : Ev f r) : Ev (fun n => if c then f n else g n) r := Ev.congr (fun _ => if_pos h) k
theorem ev_neg {α : Type} {c : Prop} [Decidable c] {f g : Nat → Option α} {r : α} (h : ¬ c) (k : Ev g r) : Ev (fun n => if c then f n else g n) r := Ev.congr (fun _ => if_neg h) k
theorem ev_succ {α : Type} {g : Nat → Option α} {r : α} (h : Ev (fun k => g (k + 1)) r) : Ev g r := Ev.step (fun _ => rfl) h
theorem ev_bind_some {α β : Type} {o : Option α} {f : Nat → α → Option β} {a : α} {r : β} (h : o = some a) (k : Ev (fun n => f n a) r) : Ev (fun n => o.bind (f n)) r := Ev.bind (ev_const h) k
theorem ev_eq {α : Type} {g : Nat → Option α} {a b : α} (h : Ev g a) (e : a = b) : Ev g b := e ▸ h
theorem ev_unique {α : Type} {g : Nat → Option α} {a b : α} (h : Ev g a) (k : Ev g b) : a = b := by
  obtain ⟨K, h⟩ := h
  obtain ⟨K', k⟩ := k
  have h1 := h (max K K') (by omega)
  have h2 := k (max K K') (by omega)
  rw [h1] at h2
  exact Option.some.inj h2
theorem ev_seen {α : Type} {g : Nat → Option α} {a : α} {k : Nat} (h : Ev g a) (hm : ∀ k, LeO (g k) (g (k + 1))) {b : α} (hk : g k = some b) : a = b := ev_unique h (Ev.of hm hk)

/-- What a mark leaves: a, a + 1, .. as they are kept. -/
def cnt {α : Type} (f : Int → α) (a : Int) : Nat → List α
  | 0 => []
  | n + 1 => f a :: cnt f (a + 1) n
theorem cnt_length {α : Type} (f : Int → α) : ∀ (n : Nat) (a : Int), (cnt f a n).length = n
  | 0, _ => rfl
  | n + 1, a => by simp [cnt, cnt_length f n (a + 1)]
theorem cnt_get {α : Type} (f : Int → α) (d : α) : ∀ (n : Nat) (a : Int) (i : Nat), i < n → (cnt f a n).getD i d = f (a + i)
  | 0, _, i, h => by omega
  | n + 1, a, 0, h => by simp [cnt]
  | n + 1, a, i + 1, h => by
    have := cnt_get f d n (a + 1) i (by omega)
    simp only [cnt, List.getD_cons_succ, this]
    congr 1
    omega
theorem set_take {α : Type} (d : α) (x y : List α) (i : Nat) (hi : i < x.length) (hl : y.length = x.length) (h : y.take i = x.take i) : (y.set i (x.getD i d)).take (i + 1) = x.take (i + 1) := by
  have e : x.getD i d = x[i] := by simp [List.getD, List.getElem?_eq_getElem hi]
  rw [e]
  apply List.ext_getElem
  · simp [hl]
  · intro j h1 h2
    simp only [List.length_take, List.length_set] at h1 h2
    rw [List.getElem_take, List.getElem_take, List.getElem_set]
    by_cases hj : i = j
    · subst hj; simp
    · rw [if_neg hj]
      have hji : j < i := by omega
      have h3 : (y.take i)[j]'(by simp; omega) = (x.take i)[j]'(by simp; omega) := by simp only [h]
      simpa [List.getElem_take] using h3
theorem set_cnt {α : Type} (f : Int → α) (a : Int) (x : List α) (i : Nat) (hi : i < x.length) (h : x.take i = cnt f a i) : (x.set i (f (a + i))).take (i + 1) = cnt f a (i + 1) := by
  have hc : ∀ (n : Nat) (a : Int), cnt f a (n + 1) = cnt f a n ++ [f (a + n)] := by
    intro n
    induction n with
    | zero => intro a; simp [cnt]
    | succ n ih =>
      intro a
      rw [cnt, ih (a + 1)]
      conv => rhs; rw [cnt]
      simp only [List.cons_append, List.cons.injEq, true_and]
      congr 3
      omega
  rw [hc, ← h]
  apply List.ext_getElem
  · simp; omega
  · intro j h1 h2
    simp only [List.length_take, List.length_set] at h1
    rw [List.getElem_take, List.getElem_set, List.getElem_append]
    by_cases hj : i = j
    · subst hj; simp; intro h; omega
    · rw [if_neg hj, dif_pos (by simp; omega), List.getElem_take]
theorem cnt_all {α : Type} (f : Int → α) (a : Int) (x : List α) (n : Nat) (hn : n = x.length) (h : x.take n = cnt f a n) : x = cnt f a x.length := by
  subst hn
  rwa [List.take_of_length_le (Nat.le_refl _)] at h
end Go.Proofs.Ytfikbjbijpbdkaa.Aid
