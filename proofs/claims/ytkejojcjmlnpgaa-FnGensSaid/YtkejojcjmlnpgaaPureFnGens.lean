/- FnGens: the plain law: what the printed functions tell answers true at every input. No condition. -/
import Derived.Test.YtkejojcjmlnpgaaQFnGensx6
import Derived.Test.YtkejojcjmlnpgaaAid
namespace Go.Proofs.Ytkejojcjmlnpgaa.Pure
open Go.RowKit Go.Proofs.Ytkejojcjmlnpgaa.QFnGens Go.Proofs.YtkejojcjmlnpgaaW.PrintWords Go.Proofs.YtkejojcjmlnpgaaW.PrintLast Go.Proofs.YtkejojcjmlnpgaaW.PrintMore Go.Proofs.Ytkejojcjmlnpgaa.Aid
set_option linter.unusedVariables false
set_option linter.unusedSimpArgs false

theorem and255 (x : Int) : 0 ≤ Go.bits .and .i64 x 255 ∧ Go.bits .and .i64 x 255 ≤ 255 := by
  have h : ((BitVec.ofInt 64 x &&& BitVec.ofInt 64 255).toNat : Int) ≤ 255 := by
    have := Nat.and_le_right (n := (BitVec.ofInt 64 x).toNat) (m := 255)
    rw [BitVec.toNat_and]
    have e : (BitVec.ofInt 64 255).toNat = 255 := by decide
    rw [e]
    exact Int.ofNat_le.mpr this
  have e : Go.bits .and .i64 x 255 = IntKind.i64.wrap ((BitVec.ofInt 64 x &&& BitVec.ofInt 64 255).toNat : Int) := rfl
  rw [e, IntKind.wrap_i64]
  generalize (BitVec.ofInt 64 x &&& BitVec.ofInt 64 255).toNat = t at h
  omega
theorem spec_l1Byte.ok (s : List Int) (i h : Int) (h0 : 0 ≤ i) (h1 : i ≤ s.length) (hs : s.length ≤ 1048576) : ∃ x i' h', spec_l1Byte.f s i h = some (x, i', h') ∧ (0 ≤ x ∧ x ≤ 255) ∧ 0 ≤ i' ∧ i' ≤ s.length := by
  unfold spec_l1Byte.f
  by_cases hc : i < (s.length : Int)
  · rw [if_pos hc, if_pos h0]
    exact ⟨_, _, _, rfl, and255 _, by rw [w64 (by omega) (by omega)]; omega, by rw [w64 (by omega) (by omega)]; omega⟩
  · rw [if_neg hc]
    exact ⟨_, _, _, rfl, and255 _, h0, h1⟩
theorem spec_l1Below.ok (s : List Int) (i h n : Int) (h0 : 0 ≤ i) (h1 : i ≤ s.length) (hs : s.length ≤ 1048576) : ∃ x i' h', spec_l1Below.f s i h n = some (x, i', h') ∧ (0 ≤ x ∧ (0 < n → x < n)) ∧ 0 ≤ i' ∧ i' ≤ s.length := by
  unfold spec_l1Below.f
  by_cases hn : n ≤ 0
  · rw [if_pos hn]; exact ⟨0, i, h, rfl, ⟨by omega, fun q => by omega⟩, h0, h1⟩
  rw [if_neg hn]
  obtain ⟨x, i1, g1, e1, ⟨bx0, bx1⟩, a1, b1⟩ := spec_l1Byte.ok s i h h0 h1 hs
  rw [e1]
  simp only [Option.bind_some]
  by_cases hm : n ≤ 256
  · rw [if_pos hm, if_neg (by omega)]
    exact ⟨_, _, _, rfl, ⟨Int.tmod_nonneg _ bx0, fun _ => Int.tmod_lt_of_pos _ (by omega)⟩, a1, b1⟩
  rw [if_neg hm]
  obtain ⟨y, i2, g2, e2, ⟨by0, by1⟩, a2, b2⟩ := spec_l1Byte.ok s i1 g1 a1 b1 hs
  rw [e2]; simp only [Option.bind_some]
  obtain ⟨z, i3, g3, e3, ⟨bz0, bz1⟩, a3, b3⟩ := spec_l1Byte.ok s i2 g2 a2 b2 hs
  rw [e3]; simp only [Option.bind_some]
  obtain ⟨u, i4, g4, e4, ⟨bu0, bu1⟩, a4, b4⟩ := spec_l1Byte.ok s i3 g3 a3 b3 hs
  rw [e4]; simp only [Option.bind_some]
  rw [if_neg (by omega)]
  refine ⟨_, _, _, rfl, ⟨Int.tmod_nonneg _ ?_, fun _ => Int.tmod_lt_of_pos _ (by omega)⟩, a4, b4⟩
  rw [w64 (x := x * 16777216) (by omega) (by omega), w64 (x := y * 65536) (by omega) (by omega), w64 (x := z * 256) (by omega) (by omega), w64 (x := x * 16777216 + y * 65536) (by omega) (by omega), w64 (x := x * 16777216 + y * 65536 + z * 256) (by omega) (by omega), w64 (by omega) (by omega)]
  omega
theorem spec_l1New.ev_l (s : List Int) (hs : s.length ≤ 1048576) : ∀ (d i : Nat) (h : Int), i + d = s.length → ∃ h', Ev (fun k => spec_l1New.l0 k s h i) (s, 0, h')
  | 0, i, h, hd => by
    refine ⟨h, ev_succ ?_⟩
    simp only [spec_l1New.l0]
    exact ev_neg (by omega) (Ev.now _)
  | d + 1, i, h, hd => by
    by_cases hc : (i : Int) < 4000
    · obtain ⟨h', e⟩ := spec_l1New.ev_l s hs d (i + 1) (Go.bits .and .i64 (wrap64 ((wrap64 ((wrap64 (h * 131)) + (wrap64 (rd s i)))) + 7)) 1073741823) (by omega)
      refine ⟨h', ev_succ ?_⟩
      simp only [spec_l1New.l0]
      refine ev_pos (by omega) (ev_pos hc (ev_pos (by omega) ?_))
      have hw : wrap64 ((i : Int) + 1) = ((i + 1 : Nat) : Int) := w64 (by omega) (by omega)
      rw [hw]
      exact e
    · refine ⟨h, ev_succ ?_⟩
      simp only [spec_l1New.l0]
      exact ev_pos (by omega) (ev_neg hc (Ev.now _))
theorem spec_l1New.ev (s : List Int) (hs : s.length ≤ 1048576) : ∃ h', Ev (fun k => spec_l1New.f k s) (s, 0, h') := by
  unfold spec_l1New.f
  exact spec_l1New.ev_l s hs s.length 0 _ (by omega)
theorem spec_l1Once.ok (s : List Int) (i h n : Int) (h0 : 0 ≤ i) (h1 : i ≤ s.length) (hs : s.length ≤ 1048576) : ∃ x i' h', spec_l1Once.f s i h n = some (x, i', h') ∧ 0 ≤ i' ∧ i' ≤ s.length := by
  unfold spec_l1Once.f
  obtain ⟨x, i1, g1, e1, _, a1, b1⟩ := spec_l1Below.ok s i h n h0 h1 hs
  rw [e1]
  exact ⟨_, _, _, rfl, a1, b1⟩
theorem spec_l1PickInt.ok (s : List Int) (i h : Int) (l : List Int) (hl : 0 < l.length) (h0 : 0 ≤ i) (h1 : i ≤ s.length) (hs : s.length ≤ 1048576) : ∃ x i' h', spec_l1PickInt.f s i h l = some (x, i', h') ∧ x ∈ l ∧ 0 ≤ i' ∧ i' ≤ s.length := by
  unfold spec_l1PickInt.f
  obtain ⟨x, i1, g1, e1, ⟨p0, p1⟩, a1, b1⟩ := spec_l1Below.ok s i h (l.length : Int) h0 h1 hs
  rw [e1]
  simp only [Option.bind_some]
  have hx := p1 (by omega)
  rw [if_pos p0, if_pos hx]
  refine ⟨_, _, _, rfl, ?_, a1, b1⟩
  obtain ⟨n, rfl⟩ := Int.eq_ofNat_of_zero_le p0
  rw [rd_lt l n (by omega)]
  exact List.getElem_mem _
def gensF (p : List Int) : List Int → Bool
  | [] => true
  | x :: l => decide (1 ≤ x ∧ x ≤ 100000) && (!decide (x ∈ p) && gensF (p ++ [x]) l)
/-- GensOk. -/
def gensP (l : List Int) : Bool := gensF [] l && decide (l.length ≤ 12)
/-- Newer. -/
def newerP : List Int → List Int → Int
  | [], [] => 0
  | [], _ :: _ => 2
  | _ :: _, [] => 1
  | x :: a, y :: b => if x = y then 0 else if y ∈ x :: a then 1 else if x ∈ y :: b then 2 else 3
/-- GenPush. -/
def pushP (g : List Int) (n : Int) : List Int := if gensP ((n :: g).take 12) then (n :: g).take 12 else g
theorem pushP_length (g : List Int) (n : Int) : (pushP g n).length ≤ g.length + 1 := by
  unfold pushP
  split
  · simp only [List.length_take, List.length_cons]; omega
  · omega
theorem gensF_iff : ∀ (l p : List Int), gensF p l = true ↔ (∀ x ∈ l, 1 ≤ x ∧ x ≤ 100000 ∧ x ∉ p) ∧ l.Nodup
  | [], p => by simp [gensF]
  | x :: l, p => by
    rw [gensF, Bool.and_eq_true, Bool.and_eq_true, gensF_iff l (p ++ [x])]
    simp only [decide_eq_true_eq, Bool.not_eq_true', decide_eq_false_iff_not, List.mem_append, List.mem_cons, List.not_mem_nil, or_false, List.nodup_cons]
    constructor
    · rintro ⟨h1, h2, h3, h4⟩
      refine ⟨?_, ?_, h4⟩
      · rintro y (rfl | hy)
        · exact ⟨h1.1, h1.2, h2⟩
        · exact ⟨(h3 y hy).1, (h3 y hy).2.1, fun q => (h3 y hy).2.2 (.inl q)⟩
      · intro hx
        exact (h3 x hx).2.2 (.inr rfl)
    · rintro ⟨h1, h2, h3⟩
      refine ⟨⟨(h1 x (.inl rfl)).1, (h1 x (.inl rfl)).2.1⟩, (h1 x (.inl rfl)).2.2, fun y hy => ⟨(h1 y (.inr hy)).1, (h1 y (.inr hy)).2.1, ?_⟩, h3⟩
      rintro (q | rfl)
      · exact (h1 y (.inr hy)).2.2 q
      · exact h2 hy
theorem gensP_iff (l : List Int) : gensP l = true ↔ (∀ x ∈ l, 1 ≤ x ∧ x ≤ 100000) ∧ l.Nodup ∧ l.length ≤ 12 := by
  unfold gensP
  rw [Bool.and_eq_true, gensF_iff, decide_eq_true_eq]
  simp
  constructor
  · rintro ⟨⟨h1, h2⟩, h3⟩; exact ⟨h1, h2, h3⟩
  · rintro ⟨h1, h2, h3⟩; exact ⟨⟨h1, h2⟩, h3⟩
theorem gensP_take (g : List Int) (n : Int) (hg : gensP g = true) (h0 : 1 ≤ n ∧ n ≤ 100000) (h1 : n ∉ g) : gensP ((n :: g).take 12) = true := by
  rw [gensP_iff] at hg ⊢
  obtain ⟨a, b, c⟩ := hg
  refine ⟨fun x hx => ?_, ?_, by simp; omega⟩
  · rcases List.mem_cons.mp (List.mem_of_mem_take hx) with rfl | hx
    · exact h0
    · exact a x hx
  · exact (List.nodup_cons.mpr ⟨h1, b⟩).sublist (List.take_sublist _ _)
theorem pushP_new (g : List Int) (n : Int) (hg : gensP g = true) (h0 : 1 ≤ n ∧ n ≤ 100000) (h1 : n ∉ g) : pushP g n = (n :: g).take 12 := by
  unfold pushP
  rw [if_pos (gensP_take g n hg h0 h1)]
theorem pushP_ok (g : List Int) (n : Int) (hg : gensP g = true) : gensP (pushP g n) = true := by
  unfold pushP
  split
  · assumption
  · exact hg
theorem pushP_mem (g : List Int) (n x : Int) (h : x ∈ pushP g n) : x = n ∨ x ∈ g := by
  unfold pushP at h
  split at h
  · exact List.mem_cons.mp (List.mem_of_mem_take h)
  · exact .inr h
theorem pushP_old (g : List Int) (n : Int) (h : n < 1 ∨ n > 100000 ∨ n ∈ g.take 11) : pushP g n = g := by
  unfold pushP
  rw [if_neg]
  rw [gensP_iff]
  rintro ⟨a, b, _⟩
  have := a n (by simp)
  rw [show (n :: g).take 12 = n :: g.take 11 from rfl, List.nodup_cons] at b
  rcases h with h | h | h
  · omega
  · omega
  · exact b.1 h
theorem newer_back (x y : List Int) : (newerP x y = 0 → newerP y x = 0) ∧ (newerP x y = 3 → newerP y x = 3) ∧ (newerP x y = 2 → newerP y x = 1) := by
  cases x with
  | nil => cases y <;> simp [newerP]
  | cons a x =>
    cases y with
    | nil => simp [newerP]
    | cons b y =>
      by_cases h : a = b
      · subst h; simp [newerP]
      · have h' : ¬ b = a := fun q => h q.symm
        by_cases h1 : b ∈ a :: x
        · simp only [newerP, if_neg h, if_neg h', if_pos h1]
          by_cases h2 : a ∈ b :: y
          · simp [if_pos h2]
          · simp [if_neg h2]
        · by_cases h2 : a ∈ b :: y
          · simp only [newerP, if_neg h, if_neg h', if_neg h1, if_pos h2]; simp
          · simp only [newerP, if_neg h, if_neg h', if_neg h1, if_neg h2]; simp
theorem spec_l1In.eq (a b c : Int) : spec_l1In.f a b c = some (decide (b ≤ a ∧ a ≤ c)) := by
  unfold spec_l1In.f
  by_cases h : b ≤ a
  · rw [if_pos h]; simp [h]
  · rw [if_neg h]; simp [h]
theorem spec_l2Has.ev_l (x : List Int) (a : Int) (hn : x.length ≤ 9223372036854775000) : ∀ (d i : Nat), i + d = x.length → Ev (fun k => spec_l2Has.l0 k x a i) (decide (a ∈ x.drop i))
  | 0, i, hd => by
    refine Ev.step (f := fun _ => some false) (fun k => ?_) (ev_eq (Ev.now _) (by rw [List.drop_of_length_le (by omega)]; simp))
    simp only [spec_l2Has.l0]
    rw [if_neg (by omega)]
  | d + 1, i, hd => by
    have hi : i < x.length := by omega
    have e : x.drop i = x[i] :: x.drop (i + 1) := List.drop_eq_getElem_cons hi
    have ih := spec_l2Has.ev_l x a hn d (i + 1) (by omega)
    by_cases h : x[i] = a
    · refine Ev.step (f := fun _ => some true) (fun k => ?_) (ev_eq (Ev.now _) (by rw [e]; simp [h]))
      simp only [spec_l2Has.l0]
      rw [if_pos (by omega), if_pos (by omega), rd_lt x i hi, if_pos h]
    · have h' : ¬ a = x[i] := fun q => h q.symm
      refine Ev.step (fun k => ?_) (ev_eq ih (by rw [e]; simp only [List.mem_cons, h', false_or]))
      simp only [spec_l2Has.l0]
      rw [if_pos (by omega), if_pos (by omega), rd_lt x i hi, if_neg h, w64 (by omega) (by omega)]
      simp
theorem spec_l2Has.ev (x : List Int) (a : Int) (hn : x.length ≤ 9223372036854775000) : Ev (fun k => spec_l2Has.f k x a) (decide (a ∈ x)) := by
  unfold spec_l2Has.f
  exact spec_l2Has.ev_l x a hn x.length 0 (by omega)
theorem spec_GensOk.ev_l (x : List Int) (hn : x.length ≤ 9223372036854775000) : ∀ (d i : Nat), i + d = x.length → Ev (fun k => spec_GensOk.l0 k x i) (gensF (x.take i) (x.drop i) && decide (x.length ≤ 12))
  | 0, i, hd => by
    refine Ev.step (f := fun _ => some (decide (x.length ≤ 12))) (fun k => ?_) (ev_eq (Ev.now _) (by rw [List.drop_of_length_le (by omega)]; simp [gensF]))
    simp only [spec_GensOk.l0]
    rw [if_neg (by omega)]
    congr 1
    exact decide_eq_decide.mpr (by omega)
  | d + 1, i, hd => by
    have hi : i < x.length := by omega
    have e : x.drop i = x[i] :: x.drop (i + 1) := List.drop_eq_getElem_cons hi
    have et : x.take (i + 1) = x.take i ++ [x[i]] := by rw [List.take_succ_eq_append_getElem hi]
    have ih := spec_GensOk.ev_l x hn d (i + 1) (by omega)
    rw [et] at ih
    rw [e, gensF]
    by_cases h1 : 1 ≤ x[i] ∧ x[i] ≤ 100000
    · have hh := spec_l2Has.ev (x.take i) x[i] (by simp; omega)
      by_cases h2 : x[i] ∈ x.take i
      · refine Ev.step (f := fun k => (spec_l2Has.f k (x.take i) x[i]).bind fun t => if t = true then some false else spec_GensOk.l0 k x ((i + 1 : Nat) : Int)) (fun k => ?_) (Ev.bind hh ?_)
        · simp only [spec_GensOk.l0]
          rw [if_pos (by omega), if_pos (by omega), rd_lt x i hi, spec_l1In.eq, decide_eq_true h1]
          simp only [Option.bind_some, if_true]
          rw [if_pos (by omega), w64 (by omega) (by omega)]
          simp
        · exact ev_pos (by simpa using h2) (ev_eq (Ev.now _) (by simp [h2]))
      · refine Ev.step (f := fun k => (spec_l2Has.f k (x.take i) x[i]).bind fun t => if t = true then some false else spec_GensOk.l0 k x ((i + 1 : Nat) : Int)) (fun k => ?_) (Ev.bind hh ?_)
        · simp only [spec_GensOk.l0]
          rw [if_pos (by omega), if_pos (by omega), rd_lt x i hi, spec_l1In.eq, decide_eq_true h1]
          simp only [Option.bind_some, if_true]
          rw [if_pos (by omega), w64 (by omega) (by omega)]
          simp
        · exact ev_neg (by simpa using h2) (ev_eq ih (by simp [h1, h2]))
    · refine Ev.step (f := fun _ => some false) (fun k => ?_) (ev_eq (Ev.now _) (by simp [h1]))
      simp only [spec_GensOk.l0]
      rw [if_pos (by omega), if_pos (by omega), rd_lt x i hi, spec_l1In.eq, decide_eq_false h1]
      rfl
theorem spec_GensOk.ev (x : List Int) (hn : x.length ≤ 9223372036854775000) : Ev (fun k => spec_GensOk.f k x) (gensP x) := by
  unfold spec_GensOk.f
  exact spec_GensOk.ev_l x hn x.length 0 (by omega)
theorem spec_GenPush.ev (g : List Int) (n : Int) (h : g.length ≤ 17592186044000) : Ev (fun k => spec_GenPush.f k g n) (pushP g n) := by
  unfold spec_GenPush.f pushP
  simp only [Option.bind_some, List.nil_append, List.length_nil, Nat.zero_add, List.cons_append, List.length_cons, List.length_take]
  refine ev_pos (by omega) ?_
  have hg := spec_GensOk.ev ((n :: g).take 12) (by simp only [List.length_take, List.length_cons]; omega)
  by_cases hl : ((g.length + 1 : Nat) : Int) > 12
  · refine ev_pos hl (ev_pos (by omega) (ev_pos (by omega) (Ev.bind hg ?_)))
    by_cases hb : gensP ((n :: g).take 12) = true
    · exact ev_pos hb (ev_eq (Ev.now _) (by rw [if_pos hb]))
    · exact ev_neg hb (ev_pos (by omega) (ev_eq (Ev.now _) (by rw [if_neg hb])))
  · have e : (n :: g).take 12 = n :: g := List.take_of_length_le (by simp only [List.length_cons]; omega)
    rw [e] at hg ⊢
    refine ev_neg hl (Ev.bind hg ?_)
    by_cases hb : gensP (n :: g) = true
    · exact ev_pos hb (ev_eq (Ev.now _) (by rw [if_pos hb]))
    · exact ev_neg hb (ev_pos (by omega) (ev_eq (Ev.now _) (by rw [if_neg hb])))
theorem spec_l7DrawRight.ev_l (s : List Int) (hs : s.length ≤ 1048576) : ∀ (d j : Nat) (g : List Int) (i h : Int), j + d = 3 → g.length ≤ j → gensP g = true → (∀ x ∈ g, x ≤ 6) → 0 ≤ i → i ≤ s.length → ∃ g' i' h', Ev (fun k => spec_l7DrawRight.l0 k g j s i h) (g', i', h') ∧ (g'.length ≤ 3 ∧ gensP g' = true ∧ ∀ x ∈ g', x ≤ 6) ∧ 0 ≤ i' ∧ i' ≤ s.length
  | d, j, g, i, h, hd, hg, ho, hm, h0, h1 => by
    have hgl : g.length ≤ 17592186044000 := Nat.le_trans hg (Nat.le_trans (show j ≤ 3 by omega) (by decide))
    obtain ⟨x, i1, g1, e1, ⟨p0, p1⟩, a1, b1⟩ := spec_l1Below.ok s i h 4 h0 h1 hs
    have hx := p1 (by omega)
    by_cases hc : (j : Int) < x
    · obtain ⟨d, rfl⟩ : ∃ d', d = d' + 1 := ⟨d - 1, by omega⟩
      obtain ⟨y, i2, g2, e2, ⟨q0, q1⟩, a2, b2⟩ := spec_l1Below.ok s i1 g1 6 a1 b1 hs
      have hy := q1 (by omega)
      have hl := pushP_length g (wrap64 (1 + y))
      have hw1 : wrap64 (1 + y) = 1 + y := w64 (by omega) (by omega)
      obtain ⟨m', i', h', ev, hl, c0, c1⟩ := spec_l7DrawRight.ev_l s hs d (j + 1) (pushP g (1 + y)) i2 g2 (by omega) (by rw [hw1] at hl; omega) (pushP_ok g _ ho) (fun z hz => by
        rcases pushP_mem g _ z hz with rfl | hz
        · omega
        · exact hm z hz) a2 b2
      refine ⟨m', i', h', ev_succ ?_, hl, c0, c1⟩
      simp only [spec_l7DrawRight.l0, e1, e2, Option.bind_some]
      have hw : wrap64 ((j : Int) + 1) = ((j + 1 : Nat) : Int) := w64 (by omega) (by omega)
      rw [hw, hw1]
      exact ev_pos hc (Ev.bind (spec_GenPush.ev g (1 + y) hgl) ev)
    · refine ⟨g, i1, g1, ev_succ ?_, ⟨by omega, ho, hm⟩, a1, b1⟩
      simp only [spec_l7DrawRight.l0, e1, Option.bind_some]
      exact ev_neg hc (Ev.now _)
theorem spec_l7DrawRight.ev (s : List Int) (hs : s.length ≤ 1048576) (i h : Int) (h0 : 0 ≤ i) (h1 : i ≤ s.length) : ∃ g' i' h', Ev (fun k => spec_l7DrawRight.f k s i h) (g', i', h') ∧ (g'.length ≤ 3 ∧ gensP g' = true ∧ ∀ x ∈ g', x ≤ 6) ∧ 0 ≤ i' ∧ i' ≤ s.length := by
  unfold spec_l7DrawRight.f
  exact spec_l7DrawRight.ev_l s hs 3 0 [] i h (by omega) (by simp) (by decide) (by simp) h0 h1
theorem spec_l7Draw.ev_l (s : List Int) (i h : Int) : ∀ (d j : Nat) (g : List Int), j + d = 12 → gensP g = true → (∀ x ∈ g, x < 20 + j) → (∀ x ∈ g.take j, 20 ≤ x) → ∃ g', Ev (fun k => spec_l7Draw.l0 k g j s i h) (g', i, h) ∧ gensP g' = true ∧ ∀ x ∈ g', 20 ≤ x ∧ x < 32
  | 0, j, g, hd, ho, hm, ht => by
    obtain rfl : j = 12 := by omega
    have hl := ((gensP_iff g).mp ho).2.2
    refine ⟨g, ev_succ ?_, ho, fun x hx => ⟨ht x (by rw [List.take_of_length_le hl]; exact hx), by have := hm x hx; omega⟩⟩
    simp only [spec_l7Draw.l0]
    exact ev_neg (by omega) (Ev.now _)
  | d + 1, j, g, hd, ho, hm, ht => by
    have hl := ((gensP_iff g).mp ho).2.2
    have hn : ((20 : Int) + j) ∉ g := fun q => by have := hm _ q; omega
    have hp := pushP_new g (20 + j) ho (by omega) hn
    have hw : wrap64 ((j : Int) + 1) = ((j + 1 : Nat) : Int) := w64 (by omega) (by omega)
    have hw1 : wrap64 (20 + (j : Int)) = 20 + j := w64 (by omega) (by omega)
    obtain ⟨g', ev, r⟩ := spec_l7Draw.ev_l s i h d (j + 1) (pushP g (20 + j)) (by omega) (pushP_ok g _ ho) (fun z hz => by
        rcases pushP_mem g _ z hz with rfl | hz
        · omega
        · have := hm z hz; omega) (fun z hz => by
        rw [hp, List.take_take] at hz
        have hz2 : z ∈ (((20 : Int) + j) :: g).take (j + 1) := by
          rw [show min (j + 1) 12 = j + 1 by omega] at hz
          exact hz
        rw [List.take_succ_cons] at hz2
        rcases List.mem_cons.mp hz2 with rfl | hz2
        · omega
        · exact ht z hz2)
    refine ⟨g', ev_succ ?_, r⟩
    simp only [spec_l7Draw.l0]
    rw [hw, hw1]
    exact ev_pos (by omega) (Ev.bind (spec_GenPush.ev g (20 + j) (by omega)) ev)
theorem spec_l7Draw.ev (s : List Int) (hs : s.length ≤ 1048576) (i h : Int) (h0 : 0 ≤ i) (h1 : i ≤ s.length) : ∃ g' i' h', Ev (fun k => spec_l7Draw.f k s i h) (g', i', h') ∧ (g'.length ≤ 12 ∧ (1 ∈ g' → g'.length ≤ 11) ∧ 9 ∉ g' ∧ 50 ∉ g') ∧ 0 ≤ i' ∧ i' ≤ s.length := by
  unfold spec_l7Draw.f
  obtain ⟨g, i1, g1, e1, ⟨l1, ok1, m1⟩, a1, b1⟩ := spec_l7DrawRight.ev s hs i h h0 h1
  obtain ⟨x, i2, g2, e2, _, a2, b2⟩ := spec_l1Below.ok s i1 g1 8 a1 b1 hs
  by_cases c0 : x = 0
  · obtain ⟨y, i3, g3, e3, hy, a3, b3⟩ := spec_l1PickInt.ok s i2 g2 [0, 1, -1, 100001] (by simp) a2 b2 hs
    refine ⟨g ++ [y], i3, g3, Ev.bind e1 (ev_bind_some e2 (ev_pos c0 (ev_bind_some e3 (ev_pos (by show g.length < _; omega) (Ev.now _))))), ⟨by simp; omega, fun _ => by simp; omega, ?_, ?_⟩, a3, b3⟩
    · intro hq
      rcases List.mem_append.mp hq with hq | hq
      · have := m1 _ hq; omega
      · simp at hq; subst hq; simp at hy
    · intro hq
      rcases List.mem_append.mp hq with hq | hq
      · have := m1 _ hq; omega
      · simp at hq; subst hq; simp at hy
  by_cases c1 : x = 1
  · obtain ⟨g', ev, ok, hm⟩ := spec_l7Draw.ev_l s i2 g2 12 0 g (by omega) ok1 (fun z hz => by have := m1 z hz; omega) (by simp)
    refine ⟨g', i2, g2, Ev.bind e1 (ev_bind_some e2 (ev_neg c0 (ev_pos c1 ev))), ⟨((gensP_iff g').mp ok).2.2, fun q => by have := hm _ q; omega, fun q => by have := hm _ q; omega, fun q => by have := hm _ q; omega⟩, a2, b2⟩
  · refine ⟨g, i2, g2, Ev.bind e1 (ev_bind_some e2 (ev_neg c0 (ev_neg c1 (Ev.now _)))), ⟨by omega, fun _ => by omega, fun q => by have := m1 _ q; omega, fun q => by have := m1 _ q; omega⟩, a2, b2⟩
theorem spec_DrawGenPush.ev (s : List Int) (hs : s.length ≤ 1048576) : ∃ g n, Ev (fun k => spec_DrawGenPush.f k s) (g, n) ∧ g.length ≤ 12 ∧ (n < 1 ∨ n > 100000 ∨ (n ∈ g → n ∈ g.take 11)) := by
  unfold spec_DrawGenPush.f
  obtain ⟨h0, e0⟩ := spec_l1New.ev s hs
  obtain ⟨g, i1, g1, e1, ⟨l1, m1, m9, m50⟩, a1, b1⟩ := spec_l7Draw.ev s hs 0 h0 (by omega) (by omega)
  obtain ⟨y, i3, g3, e3, hy, a3, b3⟩ := spec_l1PickInt.ok s i1 g1 [1, 9, 50, 0, 100001] (by simp) a1 b1 hs
  refine ⟨g, y, Ev.bind e0 (Ev.bind e1 (ev_bind_some e3 (Ev.now _))), l1, ?_⟩
  simp only [List.mem_cons, List.not_mem_nil, or_false] at hy
  rcases hy with rfl | rfl | rfl | rfl | rfl
  · refine .inr (.inr fun q => ?_)
    rw [List.take_of_length_le (m1 q)]
    exact q
  · exact .inr (.inr fun q => absurd q m9)
  · exact .inr (.inr fun q => absurd q m50)
  · exact .inl (by omega)
  · exact .inr (.inl (by omega))
theorem spec_DrawNewer.ev (s : List Int) (hs : s.length ≤ 1048576) : ∃ a b, Ev (fun k => spec_DrawNewer.f k s) (a, b) ∧ a.length ≤ 13 ∧ b.length ≤ 13 := by
  unfold spec_DrawNewer.f
  obtain ⟨h0, e0⟩ := spec_l1New.ev s hs
  obtain ⟨g, i1, g1, e1, ⟨l1, _⟩, a1, b1⟩ := spec_l7Draw.ev s hs 0 h0 (by omega) (by omega)
  obtain ⟨x, i2, g2, e2, a2, b2⟩ := spec_l1Once.ok s i1 g1 3 a1 b1 hs
  obtain ⟨n, i3, g3, e3, ⟨l3, _⟩, a3, b3⟩ := spec_l7Draw.ev s hs i2 g2 a2 b2
  have hl := pushP_length g 77
  by_cases hx : x = true
  · exact ⟨g, pushP g 77, Ev.bind e0 (Ev.bind e1 (ev_bind_some e2 (ev_pos hx (Ev.bind (spec_GenPush.ev g 77 (by omega)) (Ev.now _))))), by omega, by omega⟩
  · exact ⟨g, n, Ev.bind e0 (Ev.bind e1 (ev_bind_some e2 (ev_neg hx (Ev.bind e3 (Ev.now _))))), by omega, by omega⟩
theorem spec_DrawGensOk.ev (s : List Int) (hs : s.length ≤ 1048576) : ∃ a, Ev (fun k => spec_DrawGensOk.f k s) a ∧ a.length ≤ 13 := by
  unfold spec_DrawGensOk.f
  obtain ⟨h0, e0⟩ := spec_l1New.ev s hs
  obtain ⟨g, i1, g1, e1, ⟨l1, _⟩, a1, b1⟩ := spec_l7Draw.ev s hs 0 h0 (by omega) (by omega)
  exact ⟨g, Ev.bind e0 (Ev.bind e1 (Ev.now _)), by omega⟩
theorem impl_from.eq (a b c : Int) : impl_from.f a b c = some (decide (b ≤ a ∧ a ≤ c)) := by
  unfold impl_from.f
  by_cases h : b ≤ a
  · rw [if_pos h]; simp [h]
  · rw [if_neg h]; simp [h]
def idxP (a : Int) : List Int → Int → Int
  | [], _ => -1
  | x :: l, i => if a = x then i else idxP a l (i + 1)
theorem idxP_mem (a : Int) : ∀ (l : List Int) (i : Int), 0 ≤ i → (idxP a l i ≥ 0 ↔ a ∈ l)
  | [], i, h => by simp [idxP]
  | x :: l, i, h => by
    unfold idxP
    by_cases e : a = x
    · rw [if_pos e]; simp [e, h]
    · rw [if_neg e, idxP_mem a l (i + 1) (by omega)]; simp [e]
theorem slices_Index_int_int.ev_l (x : List Int) (a : Int) (hn : x.length ≤ 9223372036854775000) : ∀ (d i : Nat), i + d = x.length → Ev (fun k => slices_Index_int_int.l0 k x a (x.length : Int) i) (idxP a (x.drop i) i)
  | 0, i, hd => by
    refine Ev.step (f := fun _ => some (-1)) (fun k => ?_) (ev_eq (Ev.now _) (by rw [List.drop_of_length_le (by omega)]; rfl))
    simp only [slices_Index_int_int.l0]
    rw [if_neg (by omega)]
  | d + 1, i, hd => by
    have hi : i < x.length := by omega
    have e : x.drop i = x[i] :: x.drop (i + 1) := List.drop_eq_getElem_cons hi
    have ih := slices_Index_int_int.ev_l x a hn d (i + 1) (by omega)
    rw [e, idxP]
    by_cases h : a = x[i]
    · refine Ev.step (f := fun _ => some (i : Int)) (fun k => ?_) (ev_eq (Ev.now _) (by rw [if_pos h]))
      simp only [slices_Index_int_int.l0]
      rw [if_pos (by omega), if_pos (by omega), if_pos (by omega), rd_lt x i hi, if_pos h]
    · refine Ev.step (fun k => ?_) (ev_eq ih (by rw [if_neg h]; simp))
      simp only [slices_Index_int_int.l0]
      rw [if_pos (by omega), if_pos (by omega), if_pos (by omega), rd_lt x i hi, if_neg h, w64 (by omega) (by omega)]
      simp
theorem slices_Index_int_int.ev (x : List Int) (a : Int) (hn : x.length ≤ 9223372036854775000) : Ev (fun k => slices_Index_int_int.f k x a) (idxP a x 0) := by
  unfold slices_Index_int_int.f
  exact slices_Index_int_int.ev_l x a hn x.length 0 (by omega)
theorem slices_Contains_int_int.ev (x : List Int) (a : Int) (hn : x.length ≤ 9223372036854775000) : Ev (fun k => slices_Contains_int_int.f k x a) (decide (a ∈ x)) := by
  unfold slices_Contains_int_int.f
  refine Ev.bind (slices_Index_int_int.ev x a hn) (ev_eq (Ev.now _) ?_)
  simp only [idxP_mem a x 0 (by omega)]
theorem impl_GensOk.ev_l (x : List Int) (hn : x.length ≤ 9223372036854775000) : ∀ (d i : Nat), i + d = x.length → Ev (fun k => impl_GensOk.l0 k x x (x.length : Int) i) (gensF (x.take i) (x.drop i) && decide (x.length ≤ 12))
  | 0, i, hd => by
    refine Ev.step (f := fun _ => some (decide (x.length ≤ 12))) (fun k => ?_) (ev_eq (Ev.now _) (by rw [List.drop_of_length_le (by omega)]; simp [gensF]))
    simp only [impl_GensOk.l0]
    rw [if_neg (by omega)]
    congr 1
    exact decide_eq_decide.mpr (by omega)
  | d + 1, i, hd => by
    have hi : i < x.length := by omega
    have e : x.drop i = x[i] :: x.drop (i + 1) := List.drop_eq_getElem_cons hi
    have et : x.take (i + 1) = x.take i ++ [x[i]] := by rw [List.take_succ_eq_append_getElem hi]
    have ih := impl_GensOk.ev_l x hn d (i + 1) (by omega)
    rw [et] at ih
    rw [e, gensF]
    by_cases h1 : 1 ≤ x[i] ∧ x[i] ≤ 100000
    · have hh := slices_Contains_int_int.ev (x.take i) x[i] (by simp; omega)
      by_cases h2 : x[i] ∈ x.take i
      · refine Ev.step (f := fun k => (slices_Contains_int_int.f k (x.take i) x[i]).bind fun t => if t = true then some false else impl_GensOk.l0 k x x (x.length : Int) ((i + 1 : Nat) : Int)) (fun k => ?_) (Ev.bind hh ?_)
        · simp only [impl_GensOk.l0]
          rw [if_pos (by omega), if_pos (by omega), if_pos (by omega), rd_lt x i hi, impl_from.eq, decide_eq_true h1]
          simp only [Option.bind_some, if_true]
          rw [if_pos (by omega), w64 (by omega) (by omega)]
          simp
        · exact ev_pos (by simpa using h2) (ev_eq (Ev.now _) (by simp [h2]))
      · refine Ev.step (f := fun k => (slices_Contains_int_int.f k (x.take i) x[i]).bind fun t => if t = true then some false else impl_GensOk.l0 k x x (x.length : Int) ((i + 1 : Nat) : Int)) (fun k => ?_) (Ev.bind hh ?_)
        · simp only [impl_GensOk.l0]
          rw [if_pos (by omega), if_pos (by omega), if_pos (by omega), rd_lt x i hi, impl_from.eq, decide_eq_true h1]
          simp only [Option.bind_some, if_true]
          rw [if_pos (by omega), w64 (by omega) (by omega)]
          simp
        · exact ev_neg (by simpa using h2) (ev_eq ih (by simp [h1, h2]))
    · refine Ev.step (f := fun _ => some false) (fun k => ?_) (ev_eq (Ev.now _) (by simp [h1]))
      simp only [impl_GensOk.l0]
      rw [if_pos (by omega), if_pos (by omega), if_pos (by omega), rd_lt x i hi, impl_from.eq, decide_eq_false h1]
      rfl
theorem impl_GensOk.ev (x : List Int) (hn : x.length ≤ 9223372036854775000) : Ev (fun k => impl_GensOk.f k x) (gensP x) := by
  unfold impl_GensOk.f
  exact impl_GensOk.ev_l x hn x.length 0 (by omega)
theorem slices_Clone_int_int.eq (l : List Int) (h : l.length < 17592186044416) : slices_Clone_int_int.f l = some l := by
  unfold slices_Clone_int_int.f
  simp [h]
theorem impl_GenPush.ev (g : List Int) (n : Int) (h : g.length ≤ 17592186044000) : Ev (fun k => impl_GenPush.f k g n) (pushP g n) := by
  unfold impl_GenPush.f pushP
  simp only [Option.bind_some, List.cons_append, List.nil_append, List.length_cons, List.length_nil, Nat.zero_add]
  have hm : ((mn ((g.length + 1 : Nat) : Int) 12) : Int).toNat = min (g.length + 1) 12 := by unfold mn; split <;> omega
  have hm2 : 0 ≤ mn ((g.length + 1 : Nat) : Int) 12 := by unfold mn; split <;> omega
  have hm3 : mn ((g.length + 1 : Nat) : Int) 12 ≤ ((g.length + 1 : Nat) : Int) := by unfold mn; split <;> omega
  have e : (n :: g).take (min (g.length + 1) 12) = (n :: g).take 12 := by
    by_cases hl : g.length + 1 ≤ 12
    · rw [Nat.min_eq_left hl, List.take_of_length_le (by simp), List.take_of_length_le (by simp; omega)]
    · rw [Nat.min_eq_right (by omega)]
  refine ev_pos (by omega) (ev_pos hm2 (ev_pos hm3 ?_))
  rw [hm, e]
  have hg := impl_GensOk.ev ((n :: g).take 12) (by simp only [List.length_take, List.length_cons]; omega)
  refine Ev.bind hg ?_
  by_cases hb : gensP ((n :: g).take 12) = true
  · exact ev_pos hb (ev_eq (Ev.now _) (by rw [if_pos hb]))
  · refine ev_neg hb (ev_bind_some (slices_Clone_int_int.eq g (by omega)) (ev_eq (Ev.now _) (by rw [if_neg hb])))
theorem impl_Newer.ev (a b : List Int) (ha : a.length ≤ 9223372036854775000) (hb : b.length ≤ 9223372036854775000) : Ev (fun k => impl_Newer.f k a b) (newerP a b) := by
  unfold impl_Newer.f newerP
  cases a with
  | nil =>
    refine ev_pos (by simp) ?_
    cases b with
    | nil =>
      refine ev_pos (by simp) ?_
      refine ev_succ ?_; simp only [impl_Newer.j0]
      exact ev_pos (by simp) (Ev.now _)
    | cons y b =>
      refine ev_neg (by simp <;> omega) (ev_neg (by simp) ?_)
      refine ev_succ ?_; simp only [impl_Newer.j0]
      refine ev_neg (by simp) (ev_neg (by simp <;> omega) (ev_pos (by simp <;> omega) ?_))
      refine Ev.bind (slices_Contains_int_int.ev [] _ (by simp)) ?_
      refine ev_succ ?_; simp only [impl_Newer.j1]
      refine ev_neg (by simp) ?_
      exact ev_pos (by simp) (Ev.now _)
  | cons x a =>
    refine ev_neg (by simp <;> omega) (ev_pos (by simp <;> omega) ?_)
    cases b with
    | nil =>
      refine ev_neg (by simp) ?_
      refine ev_succ ?_; simp only [impl_Newer.j0]
      refine ev_neg (by simp) (ev_pos (by simp) ?_)
      refine ev_succ ?_; simp only [impl_Newer.j1]
      exact ev_pos (by simp) (Ev.now _)
    | cons y b =>
      have hx : rd (x :: a) 0 = x := rfl
      have hy : rd (y :: b) 0 = y := rfl
      refine ev_pos (by simp <;> omega) (ev_pos (by simp <;> omega) (ev_pos (by simp <;> omega) ?_))
      refine ev_succ ?_; simp only [impl_Newer.j0, hx, hy]
      by_cases h0 : x = y
      · exact ev_pos (by simp [h0]) (ev_eq (Ev.now _) (by simp [h0]))
      refine ev_neg (by simp [h0]) (ev_neg (by simp <;> omega) (ev_pos (by simp <;> omega) ?_))
      refine Ev.bind (slices_Contains_int_int.ev (x :: a) y ha) ?_
      refine ev_succ ?_; simp only [impl_Newer.j1, hx, hy]
      by_cases h1 : y ∈ x :: a
      · exact ev_pos (by simpa using h1) (ev_eq (Ev.now _) (by rw [if_neg h0, if_pos h1]))
      refine ev_neg (by simpa using h1) (ev_neg (by simp <;> omega) (ev_pos (by simp <;> omega) ?_))
      refine Ev.bind (slices_Contains_int_int.ev (y :: b) x hb) ?_
      by_cases h2 : x ∈ y :: b
      · exact ev_pos (by simpa using h2) (ev_eq (Ev.now _) (by rw [if_neg h0, if_neg h1, if_pos h2]))
      · exact ev_neg (by simpa using h2) (ev_eq (Ev.now _) (by rw [if_neg h0, if_neg h1, if_neg h2]))
theorem laws_big.eq (l : List Int) : laws_big.f l = some (decide ((l.length : Int) > 1048576)) := rfl
theorem laws_sameInts.ev_l (x : List Int) (hn : x.length ≤ 9223372036854775000) : ∀ (d i : Nat), i + d = x.length → Ev (fun k => laws_sameInts.l0 k x x i) true
  | 0, i, hd => by
    refine Ev.step (f := fun _ => some true) (fun k => ?_) (Ev.now _)
    simp only [laws_sameInts.l0]
    rw [if_neg (by omega)]
  | d + 1, i, hd => by
    refine Ev.step (fun k => ?_) (laws_sameInts.ev_l x hn d (i + 1) (by omega))
    simp only [laws_sameInts.l0]
    rw [if_pos (by omega), if_pos (by omega), if_pos (by omega), w64 (by omega) (by omega)]
    simp
theorem laws_sameInts.ev (x : List Int) (hn : x.length ≤ 9223372036854775000) : Ev (fun k => laws_sameInts.f k x x) true := by
  unfold laws_sameInts.f
  exact ev_pos rfl (laws_sameInts.ev_l x hn x.length 0 (by omega))
theorem laws_within.ev_l (l : List Int) (v : Int) (hn : l.length ≤ 1048577) : ∀ (d i : Nat), i + d = l.length → Ev (fun k => laws_within.l0 k l v i) (decide (v ∈ l.drop i))
  | 0, i, hd => by
    refine ev_succ ?_
    simp only [laws_within.l0]
    rw [List.drop_of_length_le (by omega)]
    exact ev_neg (by omega) (ev_eq (Ev.now _) (by simp))
  | d + 1, i, hd => by
    have hi : i < l.length := by omega
    refine ev_succ ?_
    simp only [laws_within.l0]
    rw [rd_lt l i hi, List.drop_eq_getElem_cons hi, w64 (by omega) (by omega)]
    refine ev_pos (by omega) (ev_pos (by omega) ?_)
    by_cases h : l[i] = v
    · exact ev_pos h (ev_eq (Ev.now _) (by simp [h]))
    · refine ev_neg h (ev_eq (laws_within.ev_l l v hn d (i + 1) (by omega)) ?_)
      have h' : ¬ v = l[i] := fun q => h q.symm
      simp only [List.mem_cons, h', false_or]
theorem laws_within.ev (l : List Int) (v : Int) (hn : l.length ≤ 1048577) : Ev (fun k => laws_within.f k l v) (decide (v ∈ l)) := by
  unfold laws_within.f
  simpa using laws_within.ev_l l v hn l.length 0 (by omega)
theorem spec_Newer.ev (a b : List Int) (ha : a.length ≤ 9223372036854775000) (hb : b.length ≤ 9223372036854775000) : Ev (fun k => spec_Newer.f k a b) (newerP a b) := by
  unfold spec_Newer.f newerP
  cases a with
  | nil =>
    cases b with
    | nil =>
      refine ev_pos (by simp) ?_
      refine ev_succ ?_; simp only [spec_Newer.j0]
      refine ev_pos (by simp) ?_
      refine ev_succ ?_; simp only [spec_Newer.j1]
      exact ev_pos (by simp) (Ev.now _)
    | cons y b =>
      refine ev_pos (by simp) ?_
      refine ev_succ ?_; simp only [spec_Newer.j0]
      refine ev_neg (by simp <;> omega) ?_
      refine ev_neg (by simp) ?_
      refine ev_succ ?_; simp only [spec_Newer.j1]
      refine ev_neg (by simp) ?_
      refine ev_neg (by simp <;> omega) ?_
      refine ev_pos (by simp <;> omega) ?_
      refine Ev.bind (spec_l2Has.ev [] _ (by simp)) ?_
      refine ev_succ ?_; simp only [spec_Newer.j2]
      refine ev_neg (by simp) ?_
      exact ev_pos (by simp) (Ev.now _)
  | cons x a =>
    refine ev_neg (by simp <;> omega) ?_
    refine ev_succ ?_; simp only [spec_Newer.j0]
    refine ev_neg (by simp) ?_
    refine ev_pos (by simp <;> omega) ?_
    cases b with
    | nil =>
      refine ev_neg (by simp) ?_
      refine ev_succ ?_; simp only [spec_Newer.j1]
      refine ev_neg (by simp) ?_
      refine ev_pos (by simp) ?_
      refine ev_succ ?_; simp only [spec_Newer.j2]
      exact ev_pos (by simp) (Ev.now _)
    | cons y b =>
      have hx : rd (x :: a) 0 = x := rfl
      have hy : rd (y :: b) 0 = y := rfl
      refine ev_pos (by simp <;> omega) (ev_pos (by simp <;> omega) (ev_pos (by simp <;> omega) ?_))
      refine ev_succ ?_; simp only [spec_Newer.j1, hx, hy]
      by_cases h0 : x = y
      · exact ev_pos (by simp [h0]) (ev_eq (Ev.now _) (by simp [h0]))
      refine ev_neg (by simp [h0]) (ev_neg (by simp <;> omega) (ev_pos (by simp <;> omega) ?_))
      refine Ev.bind (spec_l2Has.ev (x :: a) y ha) ?_
      refine ev_succ ?_; simp only [spec_Newer.j2, hx, hy]
      by_cases h1 : y ∈ x :: a
      · exact ev_pos (by simpa using h1) (ev_eq (Ev.now _) (by rw [if_neg h0, if_pos h1]))
      refine ev_neg (by simpa using h1) (ev_neg (by simp <;> omega) (ev_pos (by simp <;> omega) ?_))
      refine Ev.bind (spec_l2Has.ev (y :: b) x hb) ?_
      by_cases h2 : x ∈ y :: b
      · exact ev_pos (by simpa using h2) (ev_eq (Ev.now _) (by rw [if_neg h0, if_neg h1, if_pos h2]))
      · exact ev_neg (by simpa using h2) (ev_eq (Ev.now _) (by rw [if_neg h0, if_neg h1, if_neg h2]))
theorem gens_j3 (g : List Int) (n : Int) (hl : g.length ≤ 12) (hg : gensP g = true) (b : Bool) (ht : b = true → pushP g n = g) (hf : b = false → 1 ≤ n ∧ n ≤ 100000 ∧ n ∉ g) : Ev (fun k => laws_FnGens.j3 k g n (pushP g n) b) true := by
  refine ev_succ ?_
  simp only [laws_FnGens.j3]
  have hp := pushP_length g n
  cases b with
  | true =>
    rw [ht rfl]
    exact ev_pos rfl (Ev.bind (laws_sameInts.ev g (by omega)) (Ev.now _))
  | false =>
    obtain ⟨h1, h2, h3⟩ := hf rfl
    have e := pushP_new g n hg ⟨h1, h2⟩ h3
    refine ev_neg (by simp) (Ev.bind (ev_eq (impl_GensOk.ev _ (by omega)) (pushP_ok g n hg)) (ev_pos rfl ?_))
    rw [e]
    have er : rd ((n :: g).take 12) 0 = n := rfl
    rw [er]
    refine ev_pos (by simp) (ev_pos rfl ?_)
    cases g with
    | nil => exact ev_pos rfl (Ev.now _)
    | cons y g =>
      refine ev_neg (by simp; omega) (Ev.bind (impl_Newer.ev _ _ (by simp; omega) (by omega)) (ev_eq (Ev.now _) ?_))
      have hy : ¬ n = y := fun q => h3 (by simp [q])
      rw [show (n :: y :: g).take 12 = n :: y :: g.take 10 from rfl]
      simp [newerP, hy]
theorem gens_j2 (g : List Int) (n : Int) (hl : g.length ≤ 12) (hg : gensP g = true) (hn : n < 1 ∨ n > 100000 ∨ (n ∈ g → n ∈ g.take 11)) : Ev (fun k => laws_FnGens.j2 k g n (pushP g n) false) true := by
  refine ev_succ ?_
  simp only [laws_FnGens.j2]
  refine ev_neg (by simp) (Ev.bind (laws_within.ev g n (by omega)) ?_)
  by_cases h1 : n ∈ g
  · refine ev_pos (decide_eq_true h1) (gens_j3 g n hl hg true (fun _ => pushP_old g n ?_) (fun q => by cases q))
    rcases hn with h | h | h
    · exact .inl h
    · exact .inr (.inl h)
    · exact .inr (.inr (h h1))
  · refine ev_neg (by simpa using h1) ?_
    by_cases h2 : n < 1
    · exact ev_pos h2 (gens_j3 g n hl hg true (fun _ => pushP_old g n (.inl h2)) (fun q => by cases q))
    · refine ev_neg h2 (gens_j3 g n hl hg _ (fun q => pushP_old g n (.inr (.inl (by simpa using q)))) (fun q => ?_))
      exact ⟨by omega, by simpa using q, h1⟩
theorem FnGens : laws_FnGens.Pure := by
  intro s _ _ _
  apply Ev.rounds (g := fun k => laws_FnGens.f k s)
  unfold laws_FnGens.f
  simp only [laws_big.eq, Option.bind_some]
  by_cases hs : (s.length : Int) > 1048576
  · exact ev_pos (by simpa using hs) (Ev.now _)
  refine ev_neg (by simpa using hs) ?_
  have hs' : s.length ≤ 1048576 := by omega
  obtain ⟨g, n, e0, lg, hn⟩ := spec_DrawGenPush.ev s hs'
  obtain ⟨x, y, e1, lx, ly⟩ := spec_DrawNewer.ev s hs'
  obtain ⟨o, e2, lo⟩ := spec_DrawGensOk.ev s hs'
  have lp := pushP_length g n
  refine Ev.bind e0 (Ev.bind (impl_GenPush.ev g n (by omega)) (Ev.bind e1 (Ev.bind (impl_Newer.ev x y (by omega) (by omega)) (Ev.bind e2 (Ev.bind (spec_GenPush.ev g n (by omega)) (Ev.bind (laws_sameInts.ev (pushP g n) (by omega)) (ev_pos rfl (Ev.bind (spec_Newer.ev x y (by omega) (by omega)) (ev_pos rfl (Ev.bind (impl_GensOk.ev o (by omega)) (Ev.bind (spec_GensOk.ev o (by omega)) ?_)))))))))))
  rw [bne_self_eq_false]
  refine ev_succ ?_
  simp only [laws_FnGens.j0]
  refine ev_neg (by simp) (Ev.bind (impl_GensOk.ev x (by omega)) ?_)
  have hj : Ev (fun k => laws_FnGens.j1 k g n (pushP g n) x y (newerP x y) true) true := by
    refine ev_succ ?_
    simp only [laws_FnGens.j1]
    exact ev_pos (by simp) (Ev.now _)
  by_cases h1 : gensP x = true
  · refine ev_pos h1 (Ev.bind (impl_GensOk.ev y (by omega)) ?_)
    by_cases h2 : gensP y = true
    · refine ev_pos h2 (Ev.bind (impl_GensOk.ev g (by omega)) ?_)
      by_cases h3 : gensP g = true
      · rw [h3]
        refine ev_succ ?_
        simp only [laws_FnGens.j1]
        refine ev_neg (by simp) (Ev.bind (impl_Newer.ev y x (by omega) (by omega)) ?_)
        have J := gens_j2 g n lg h3 hn
        obtain ⟨b0, b3, b2⟩ := newer_back x y
        generalize newerP x y = how at *
        generalize newerP y x = other at *
        by_cases c0 : how = 0
        · exact ev_pos c0 (ev_pos (by rw [b0 c0, c0]) (ev_neg (by omega) (ev_neg (by omega) J)))
        refine ev_neg c0 ?_
        by_cases c3 : how = 3
        · exact ev_pos c3 (ev_pos (by rw [b3 c3, c3]) (ev_neg (by omega) J))
        refine ev_neg c3 ?_
        by_cases c2 : how = 2
        · refine ev_pos c2 ?_
          rw [b2 c2]
          exact J
        · exact ev_neg c2 J
      · rw [show gensP g = false by simpa using h3]
        exact hj
    · exact ev_neg h2 hj
  · exact ev_neg h1 hj

end Go.Proofs.Ytkejojcjmlnpgaa.Pure
