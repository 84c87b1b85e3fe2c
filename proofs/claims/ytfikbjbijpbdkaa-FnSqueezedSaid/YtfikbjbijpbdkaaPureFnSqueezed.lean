/- FnSqueezed: the plain law: what the printed functions tell answers true at every input. No condition. -/
import Derived.Test.YtfikbjbijpbdkaaQFnSqueezedx7
import Derived.Test.YtfikbjbijpbdkaaAid
namespace Go.Proofs.Ytfikbjbijpbdkaa.Pure
open Go.RowKit Go.Proofs.Ytfikbjbijpbdkaa.QFnSqueezed Go.Proofs.YtfikbjbijpbdkaaW.PrintWords Go.Proofs.YtfikbjbijpbdkaaW.PrintLast Go.Proofs.YtfikbjbijpbdkaaW.PrintMore Go.Proofs.Ytfikbjbijpbdkaa.Aid
set_option linter.unusedVariables false
set_option linter.unusedSimpArgs false

theorem and255 (x : Int) : 0 ≤ Go.bits .and .i64 x 255 ∧ Go.bits .and .i64 x 255 ≤ 255 := by
  have h : ((BitVec.ofInt 64 x &&& BitVec.ofInt 64 255).toNat : Int) ≤ 255 := by
    have := Nat.and_le_right (n := (BitVec.ofInt 64 x).toNat) (m := 255)
    rw [BitVec.toNat_and]
    have e : (BitVec.ofInt 64 255).toNat = 255 := by decide
    rw [e]
    exact Int.ofNat_le.mpr this
  have e : Go.bits .and .i64 x 255 = IntKind.i64.wrap ((BitVec.ofInt 64 x &&& BitVec.ofInt 64 255).toNat : Int) := rfl
  rw [e, IntKind.wrap_i64]
  generalize (BitVec.ofInt 64 x &&& BitVec.ofInt 64 255).toNat = t at h
  omega
theorem spec_l1Byte.ok (s : List Int) (i h : Int) (h0 : 0 ≤ i) (h1 : i ≤ s.length) (hs : s.length ≤ 1048576) : ∃ x i' h', spec_l1Byte.f s i h = some (x, i', h') ∧ (0 ≤ x ∧ x ≤ 255) ∧ 0 ≤ i' ∧ i' ≤ s.length := by
  unfold spec_l1Byte.f
  by_cases hc : i < (s.length : Int)
  · rw [if_pos hc, if_pos h0]
    exact ⟨_, _, _, rfl, and255 _, by rw [w64 (by omega) (by omega)]; omega, by rw [w64 (by omega) (by omega)]; omega⟩
  · rw [if_neg hc]
    exact ⟨_, _, _, rfl, and255 _, h0, h1⟩
theorem spec_l1Below.ok (s : List Int) (i h n : Int) (h0 : 0 ≤ i) (h1 : i ≤ s.length) (hs : s.length ≤ 1048576) : ∃ x i' h', spec_l1Below.f s i h n = some (x, i', h') ∧ (0 ≤ x ∧ (0 < n → x < n)) ∧ 0 ≤ i' ∧ i' ≤ s.length := by
  unfold spec_l1Below.f
  by_cases hn : n ≤ 0
  · rw [if_pos hn]; exact ⟨0, i, h, rfl, ⟨by omega, fun q => by omega⟩, h0, h1⟩
  rw [if_neg hn]
  obtain ⟨x, i1, g1, e1, ⟨bx0, bx1⟩, a1, b1⟩ := spec_l1Byte.ok s i h h0 h1 hs
  rw [e1]
  simp only [Option.bind_some]
  by_cases hm : n ≤ 256
  · rw [if_pos hm, if_neg (by omega)]
    exact ⟨_, _, _, rfl, ⟨Int.tmod_nonneg _ bx0, fun _ => Int.tmod_lt_of_pos _ (by omega)⟩, a1, b1⟩
  rw [if_neg hm]
  obtain ⟨y, i2, g2, e2, ⟨by0, by1⟩, a2, b2⟩ := spec_l1Byte.ok s i1 g1 a1 b1 hs
  rw [e2]; simp only [Option.bind_some]
  obtain ⟨z, i3, g3, e3, ⟨bz0, bz1⟩, a3, b3⟩ := spec_l1Byte.ok s i2 g2 a2 b2 hs
  rw [e3]; simp only [Option.bind_some]
  obtain ⟨u, i4, g4, e4, ⟨bu0, bu1⟩, a4, b4⟩ := spec_l1Byte.ok s i3 g3 a3 b3 hs
  rw [e4]; simp only [Option.bind_some]
  rw [if_neg (by omega)]
  refine ⟨_, _, _, rfl, ⟨Int.tmod_nonneg _ ?_, fun _ => Int.tmod_lt_of_pos _ (by omega)⟩, a4, b4⟩
  rw [w64 (x := x * 16777216) (by omega) (by omega), w64 (x := y * 65536) (by omega) (by omega), w64 (x := z * 256) (by omega) (by omega), w64 (x := x * 16777216 + y * 65536) (by omega) (by omega), w64 (x := x * 16777216 + y * 65536 + z * 256) (by omega) (by omega), w64 (by omega) (by omega)]
  omega
theorem spec_l1New.ev_l (s : List Int) (hs : s.length ≤ 1048576) : ∀ (d i : Nat) (h : Int), i + d = s.length → ∃ h', Ev (fun k => spec_l1New.l0 k s h i) (s, 0, h')
  | 0, i, h, hd => by
    refine ⟨h, ev_succ ?_⟩
    simp only [spec_l1New.l0]
    exact ev_neg (by omega) (Ev.now _)
  | d + 1, i, h, hd => by
    by_cases hc : (i : Int) < 4000
    · obtain ⟨h', e⟩ := spec_l1New.ev_l s hs d (i + 1) (Go.bits .and .i64 (wrap64 ((wrap64 ((wrap64 (h * 131)) + (wrap64 (rd s i)))) + 7)) 1073741823) (by omega)
      refine ⟨h', ev_succ ?_⟩
      simp only [spec_l1New.l0]
      refine ev_pos (by omega) (ev_pos hc (ev_pos (by omega) ?_))
      have hw : wrap64 ((i : Int) + 1) = ((i + 1 : Nat) : Int) := w64 (by omega) (by omega)
      rw [hw]
      exact e
    · refine ⟨h, ev_succ ?_⟩
      simp only [spec_l1New.l0]
      exact ev_pos (by omega) (ev_neg hc (Ev.now _))
theorem spec_l1New.ev (s : List Int) (hs : s.length ≤ 1048576) : ∃ h', Ev (fun k => spec_l1New.f k s) (s, 0, h') := by
  unfold spec_l1New.f
  exact spec_l1New.ev_l s hs s.length 0 _ (by omega)
theorem spec_l1Once.ok (s : List Int) (i h n : Int) (h0 : 0 ≤ i) (h1 : i ≤ s.length) (hs : s.length ≤ 1048576) : ∃ x i' h', spec_l1Once.f s i h n = some (x, i', h') ∧ 0 ≤ i' ∧ i' ≤ s.length := by
  unfold spec_l1Once.f
  obtain ⟨x, i1, g1, e1, _, a1, b1⟩ := spec_l1Below.ok s i h n h0 h1 hs
  rw [e1]
  exact ⟨_, _, _, rfl, a1, b1⟩
theorem spec_l1PickInt.ok (s : List Int) (i h : Int) (l : List Int) (hl : 0 < l.length) (h0 : 0 ≤ i) (h1 : i ≤ s.length) (hs : s.length ≤ 1048576) : ∃ x i' h', spec_l1PickInt.f s i h l = some (x, i', h') ∧ x ∈ l ∧ 0 ≤ i' ∧ i' ≤ s.length := by
  unfold spec_l1PickInt.f
  obtain ⟨x, i1, g1, e1, ⟨p0, p1⟩, a1, b1⟩ := spec_l1Below.ok s i h (l.length : Int) h0 h1 hs
  rw [e1]
  simp only [Option.bind_some]
  have hx := p1 (by omega)
  rw [if_pos p0, if_pos hx]
  refine ⟨_, _, _, rfl, ?_, a1, b1⟩
  obtain ⟨n, rfl⟩ := Int.eq_ofNat_of_zero_le p0
  rw [rd_lt l n (by omega)]
  exact List.getElem_mem _
def okB (L : Nat) (b : List Int) : Prop := b.length ≤ L ∧ ∀ z ∈ b, 0 ≤ z ∧ z ≤ 255
theorem okB.snoc {L : Nat} {b : List Int} (h : okB L b) (x : Int) (hx : 0 ≤ x ∧ x ≤ 255) : okB (L + 1) (b ++ [x]) :=
  ⟨by have := h.1; simp; omega, fun z hz => by
    rcases List.mem_append.mp hz with hz | hz
    · exact h.2 z hz
    · obtain rfl := List.mem_singleton.mp hz; exact hx⟩
theorem okB.app {L M : Nat} {b c : List Int} (h : okB L b) (k : okB M c) : okB (L + M) (b ++ c) :=
  ⟨by have := h.1; have := k.1; simp; omega, fun z hz => by
    rcases List.mem_append.mp hz with hz | hz
    · exact h.2 z hz
    · exact k.2 z hz⟩
theorem okB.le {L M : Nat} {b : List Int} (h : okB L b) (k : L ≤ M) : okB M b := ⟨Nat.le_trans h.1 k, h.2⟩
theorem okB.lim {L : Nat} {b : List Int} (h : okB L b) (k : L ≤ 100000) : b.length < 140737488355328 := Nat.lt_of_le_of_lt (Nat.le_trans h.1 k) (by decide)
theorem mod256 {x : Int} (h : 0 ≤ x ∧ x ≤ 255) : x % 256 = x := by omega
theorem spec_l3DrawBytes.ev_1 (s : List Int) (hs : s.length ≤ 1048576) (j : Nat) (hj : j ≤ 11) (H : ∀ (b : List Int) (i h : Int), okB (149 * (j + 1)) b → 0 ≤ i → i ≤ s.length → ∃ b' i' h', Ev (fun k => spec_l3DrawBytes.l0 k b ((j + 1 : Nat) : Int) s i h) (b', i', h') ∧ okB 1639 b' ∧ 0 ≤ i' ∧ i' ≤ s.length) (d : Nat) :
    ∀ (c : Nat) (b : List Int) (i h : Int), c + d = 149 → okB (149 * j + c) b → 0 ≤ i → i ≤ s.length → ∃ b' i' h', Ev (fun k => spec_l3DrawBytes.l1 k b j c s i h) (b', i', h') ∧ okB 1639 b' ∧ 0 ≤ i' ∧ i' ≤ s.length := by
  have hw : wrap64 ((j : Int) + 1) = ((j + 1 : Nat) : Int) := w64 (by omega) (by omega)
  induction d with
  | zero =>
    intro c b i h hd hb h0 h1
    obtain ⟨x, i1, g1, e1, ⟨p0, p1⟩, a1, b1⟩ := spec_l1Below.ok s i h 150 h0 h1 hs
    have hx := p1 (by omega)
    have hc : ¬ (c : Int) < x := by omega
    obtain ⟨b', i', h', ev, r⟩ := H b i1 g1 (hb.le (by omega)) a1 b1
    refine ⟨b', i', h', ev_succ ?_, r⟩
    simp only [spec_l3DrawBytes.l1, e1, Option.bind_some]
    rw [hw]
    exact ev_neg hc ev
  | succ d ih =>
    intro c b i h hd hb h0 h1
    have hl := hb.lim (by omega)
    have hwc : wrap64 ((c : Int) + 1) = ((c + 1 : Nat) : Int) := w64 (by omega) (by omega)
    obtain ⟨x, i1, g1, e1, ⟨p0, p1⟩, a1, b1⟩ := spec_l1Below.ok s i h 150 h0 h1 hs
    by_cases hc : (c : Int) < x
    · obtain ⟨b', i', h', ev, r⟩ := ih (c + 1) (b ++ [7]) i1 g1 (by omega) ((hb.snoc 7 (by omega)).le (by omega)) a1 b1
      refine ⟨b', i', h', ev_succ ?_, r⟩
      simp only [spec_l3DrawBytes.l1, e1, Option.bind_some]
      rw [hwc]
      exact ev_pos hc (ev_pos hl ev)
    · obtain ⟨b', i', h', ev, r⟩ := H b i1 g1 (hb.le (by omega)) a1 b1
      refine ⟨b', i', h', ev_succ ?_, r⟩
      simp only [spec_l3DrawBytes.l1, e1, Option.bind_some]
      rw [hw]
      exact ev_neg hc ev
theorem spec_l3DrawBytes.ev_l (s : List Int) (hs : s.length ≤ 1048576) : ∀ (d j : Nat) (b : List Int) (i h : Int), j + d = 11 → okB (149 * j) b → 0 ≤ i → i ≤ s.length → ∃ b' i' h', Ev (fun k => spec_l3DrawBytes.l0 k b j s i h) (b', i', h') ∧ okB 1639 b' ∧ 0 ≤ i' ∧ i' ≤ s.length
  | d, j, b, i, h, hd, hb, h0, h1 => by
    have hl := hb.lim (by omega)
    have hw : wrap64 ((j : Int) + 1) = ((j + 1 : Nat) : Int) := w64 (by omega) (by omega)
    obtain ⟨x, i1, g1, e1, ⟨p0, p1⟩, a1, b1⟩ := spec_l1Below.ok s i h 12 h0 h1 hs
    have hx := p1 (by omega)
    by_cases hc : (j : Int) < x
    · obtain ⟨d, rfl⟩ : ∃ d', d = d' + 1 := ⟨d - 1, by omega⟩
      obtain ⟨y, i2, g2, e2, _, a2, b2⟩ := spec_l1Below.ok s i1 g1 4 a1 b1 hs
      have H := fun (b : List Int) (i h : Int) (hb : okB (149 * (j + 1)) b) (h0 : 0 ≤ i) (h1 : i ≤ s.length) => spec_l3DrawBytes.ev_l s hs d (j + 1) b i h (by omega) hb h0 h1
      by_cases c0 : y = 0
      · obtain ⟨b', i', h', ev, r⟩ := spec_l3DrawBytes.ev_1 s hs j (by omega) H 149 0 b i2 g2 (by omega) hb a2 b2
        refine ⟨b', i', h', ev_succ ?_, r⟩
        simp only [spec_l3DrawBytes.l0, e1, e2, Option.bind_some]
        exact ev_pos hc (ev_pos c0 ev)
      by_cases c1 : y = 1
      · have hk : okB 8 [97, 98, 99, 97, 98, 99, 97, 98] := ⟨by decide, by decide⟩
        obtain ⟨b', i', h', ev, r⟩ := H (b ++ [97, 98, 99, 97, 98, 99, 97, 98]) i2 g2 ((hb.app hk).le (by omega)) a2 b2
        refine ⟨b', i', h', ev_succ ?_, r⟩
        simp only [spec_l3DrawBytes.l0, e1, e2, Option.bind_some]
        rw [hw]
        refine ev_pos hc (ev_neg c0 (ev_pos c1 (ev_pos ?_ ev)))
        have := hb.1
        show b.length + 8 < 140737488355328
        exact Nat.lt_of_le_of_lt (show b.length + 8 ≤ 2000 by omega) (by decide)
      by_cases c2 : y = 2
      · obtain ⟨z, i3, g3, e3, hz, a3, b3⟩ := spec_l1PickInt.ok s i2 g2 [0, 127, 128, 255] (by simp) a2 b2 hs
        have hz' : 0 ≤ z ∧ z ≤ 255 := by simp at hz; omega
        obtain ⟨b', i', h', ev, r⟩ := H (b ++ [z]) i3 g3 ((hb.snoc z hz').le (by omega)) a3 b3
        refine ⟨b', i', h', ev_succ ?_, r⟩
        simp only [spec_l3DrawBytes.l0, e1, e2, e3, Option.bind_some]
        rw [hw, mod256 hz']
        exact ev_pos hc (ev_neg c0 (ev_neg c1 (ev_pos c2 (ev_pos hl ev))))
      · obtain ⟨z, i3, g3, e3, ⟨q0, q1⟩, a3, b3⟩ := spec_l1Below.ok s i2 g2 5 a2 b2 hs
        have hz := q1 (by omega)
        have hz' : 0 ≤ z ∧ z ≤ 255 := by omega
        obtain ⟨b', i', h', ev, r⟩ := H (b ++ [z]) i3 g3 ((hb.snoc z hz').le (by omega)) a3 b3
        refine ⟨b', i', h', ev_succ ?_, r⟩
        simp only [spec_l3DrawBytes.l0, e1, e2, e3, Option.bind_some]
        rw [hw, mod256 hz']
        exact ev_pos hc (ev_neg c0 (ev_neg c1 (ev_neg c2 (ev_pos hl ev))))
    · refine ⟨b, i1, g1, ev_succ ?_, hb.le (by omega), a1, b1⟩
      simp only [spec_l3DrawBytes.l0, e1, Option.bind_some]
      exact ev_neg hc (Ev.now _)
theorem spec_l3DrawBytes.ev (s : List Int) (hs : s.length ≤ 1048576) (i h : Int) (h0 : 0 ≤ i) (h1 : i ≤ s.length) : ∃ b' i' h', Ev (fun k => spec_l3DrawBytes.f k s i h) (b', i', h') ∧ okB 1639 b' ∧ 0 ≤ i' ∧ i' ≤ s.length := by
  unfold spec_l3DrawBytes.f
  exact spec_l3DrawBytes.ev_l s hs 11 0 [] i h (by omega) ⟨by simp, by simp⟩ h0 h1
theorem spec_DrawSqueeze.ev (s : List Int) (hs : s.length ≤ 1048576) : ∃ b, Ev (fun k => spec_DrawSqueeze.f k s) b ∧ okB 3001 b := by
  unfold spec_DrawSqueeze.f
  obtain ⟨h0, e0⟩ := spec_l1New.ev s hs
  obtain ⟨x, i1, g1, e1, a1, b1⟩ := spec_l1Once.ok s 0 h0 60 (by omega) (by omega) hs
  by_cases hx : x = true
  · obtain ⟨y, i2, g2, e2, ⟨p0, p1⟩, a2, b2⟩ := spec_l1Below.ok s i1 g1 2 a1 b1 hs
    have hy := p1 (by omega)
    have hw : wrap64 (3000 + y) = 3000 + y := w64 (by omega) (by omega)
    refine ⟨List.replicate (3000 + y).toNat 0, Ev.bind e0 (ev_bind_some e1 (ev_pos hx (ev_bind_some e2 ?_))), by simp; omega, fun z hz => by have := List.eq_of_mem_replicate hz; omega⟩
    rw [hw]
    refine ev_pos (by omega) (ev_pos (Nat.le_trans (show (3000 + y).toNat ≤ 4000 by omega) (by decide)) (Ev.now _))
  · obtain ⟨b, i2, g2, e2, hb, a2, b2⟩ := spec_l3DrawBytes.ev s hs i1 g1 a1 b1
    exact ⟨b, Ev.bind e0 (ev_bind_some e1 (ev_neg hx (Ev.bind e2 (Ev.now _)))), hb.le (by omega)⟩
/-- A run from n on (d: how many more it may have). -/
def runF (b : List Int) (at_ back : Nat) : Nat → Nat → Nat
  | 0, n => n
  | d + 1, n => if at_ + n < b.length ∧ b.getD (at_ + n) 0 = b.getD (at_ + n - back) 0 then runF b at_ back d (n + 1) else n
/-- Run. -/
def runP (b : List Int) (at_ back : Nat) : Nat := runF b at_ back 100 0
def runI (b : List Int) (at_ back : Int) : Int := if 1 ≤ back ∧ back ≤ 255 ∧ back ≤ at_ ∧ at_ < b.length then runP b at_.toNat back.toNat else 0
theorem runF_spec (b : List Int) (at_ back : Nat) : ∀ (d n : Nat), at_ + n ≤ b.length → (∀ j, j < n → b.getD (at_ + j) 0 = b.getD (at_ + j - back) 0) →
    n ≤ runF b at_ back d n ∧ runF b at_ back d n ≤ n + d ∧ at_ + runF b at_ back d n ≤ b.length ∧ ∀ j, j < runF b at_ back d n → b.getD (at_ + j) 0 = b.getD (at_ + j - back) 0
  | 0, n, h1, h2 => ⟨Nat.le_refl _, Nat.le_refl _, h1, h2⟩
  | d + 1, n, h1, h2 => by
    unfold runF
    by_cases h : at_ + n < b.length ∧ b.getD (at_ + n) 0 = b.getD (at_ + n - back) 0
    · rw [if_pos h]
      obtain ⟨q1, q2, q3, q4⟩ := runF_spec b at_ back d (n + 1) (by omega) (fun j hj => by
        by_cases e : j = n
        · subst e; exact h.2
        · exact h2 j (by omega))
      exact ⟨by omega, by omega, q3, q4⟩
    · rw [if_neg h]
      exact ⟨Nat.le_refl _, by omega, h1, h2⟩
theorem runP_spec (b : List Int) (at_ back : Nat) (h : at_ ≤ b.length) : runP b at_ back ≤ 100 ∧ at_ + runP b at_ back ≤ b.length ∧ ∀ j, j < runP b at_ back → b.getD (at_ + j) 0 = b.getD (at_ + j - back) 0 := by
  obtain ⟨_, q2, q3, q4⟩ := runF_spec b at_ back 100 0 (by omega) (fun j hj => by omega)
  exact ⟨by unfold runP; omega, q3, q4⟩
/-- The longest run, and how far behind it is (d: how many more places behind are tried). -/
def bestF (b : List Int) (at_ : Nat) : Nat → Nat → Nat × Nat → Nat × Nat
  | 0, _, r => r
  | d + 1, back, r => bestF b at_ d (back + 1) (if runP b at_ back > r.1 then (runP b at_ back, back) else r)
def bestP (b : List Int) (at_ : Nat) : Nat × Nat := bestF b at_ (min 255 at_) 1 (0, 0)
def squF (b : List Int) : Nat → Nat → List Int
  | 0, _ => []
  | d + 1, at_ => if at_ < b.length then
      if (bestP b at_).1 ≥ 3 then ((128 + (bestP b at_).1 : Nat) : Int) :: ((bestP b at_).2 : Int) :: squF b d (at_ + (bestP b at_).1)
      else if b.getD at_ 0 > 0 ∧ b.getD at_ 0 < 128 then b.getD at_ 0 :: squF b d (at_ + 1)
      else 0 :: b.getD at_ 0 :: squF b d (at_ + 1)
    else []
/-- Squeeze. -/
def squP (b : List Int) : List Int := if b.length > 3000 then [] else squF b b.length 0
theorem sqE1 (n : Nat) (h : n ≤ 100) : wrap64 (128 + (n : Int)) % 256 = ((128 + n : Nat) : Int) := by rw [w64 (by omega) (by omega)]; omega
theorem sqE2 (n : Nat) (h : n ≤ 255) : (n : Int) % 256 = n := by omega
theorem sqE3 (i n m : Nat) (h : i + n ≤ m) (hm : m ≤ 3000) : wrap64 ((i : Int) + n) = ((i + n : Nat) : Int) := w64 (by omega) (by omega)
theorem bestF_spec (b : List Int) (at_ : Nat) : ∀ (d back : Nat) (r : Nat × Nat), back + d = min 255 at_ + 1 → 1 ≤ back → (r = (0, 0) ∨ (1 ≤ r.2 ∧ r.2 ≤ min 255 at_ ∧ r.1 = runP b at_ r.2)) →
    bestF b at_ d back r = (0, 0) ∨ (1 ≤ (bestF b at_ d back r).2 ∧ (bestF b at_ d back r).2 ≤ min 255 at_ ∧ (bestF b at_ d back r).1 = runP b at_ (bestF b at_ d back r).2)
  | 0, back, r, h1, h2, h3 => h3
  | d + 1, back, r, h1, h2, h3 => by
    unfold bestF
    refine bestF_spec b at_ d (back + 1) _ (by omega) (by omega) ?_
    split
    · exact .inr ⟨h2, by omega, rfl⟩
    · exact h3
theorem bestP_spec (b : List Int) (at_ : Nat) : bestP b at_ = (0, 0) ∨ (1 ≤ (bestP b at_).2 ∧ (bestP b at_).2 ≤ min 255 at_ ∧ (bestP b at_).1 = runP b at_ (bestP b at_).2) :=
  bestF_spec b at_ _ _ _ (by omega) (by omega) (.inl rfl)
theorem bestP_use (b : List Int) (at_ : Nat) (h : at_ ≤ b.length) (h3 : (bestP b at_).1 ≥ 3) : 1 ≤ (bestP b at_).2 ∧ (bestP b at_).2 ≤ 255 ∧ (bestP b at_).2 ≤ at_ ∧ (bestP b at_).1 ≤ 100 ∧ at_ + (bestP b at_).1 ≤ b.length ∧ ∀ j, j < (bestP b at_).1 → b.getD (at_ + j) 0 = b.getD (at_ + j - (bestP b at_).2) 0 := by
  rcases bestP_spec b at_ with e | ⟨e1, e2, e3⟩
  · rw [e] at h3; omega
  · have hs := runP_spec b at_ (bestP b at_).2 h
    rw [← e3] at hs
    exact ⟨e1, by omega, by omega, hs.1, hs.2.1, hs.2.2⟩
theorem squF_length (b : List Int) : ∀ (d at_ : Nat), at_ ≤ b.length → (squF b d at_).length ≤ 2 * (b.length - at_)
  | 0, at_, h => by simp [squF]
  | d + 1, at_, h => by
    unfold squF
    by_cases h0 : at_ < b.length
    · rw [if_pos h0]
      by_cases h3 : (bestP b at_).1 ≥ 3
      · rw [if_pos h3]
        obtain ⟨_, _, _, _, q, _⟩ := bestP_use b at_ h h3
        have := squF_length b d (at_ + (bestP b at_).1) q
        simp only [List.length_cons]; omega
      · rw [if_neg h3]
        have := squF_length b d (at_ + 1) (by omega)
        split <;> (simp only [List.length_cons]; omega)
    · rw [if_neg h0]; simp
theorem squP_length (b : List Int) : (squP b).length ≤ 2 * b.length := by
  unfold squP
  split
  · simp
  · have := squF_length b b.length 0 (by omega); omega
theorem squP_len (b : List Int) : (squP b).length ≤ 6000 := by
  unfold squP
  split
  · simp
  · have := squF_length b b.length 0 (by omega); omega
theorem squF_byte (b : List Int) (hb : ∀ z ∈ b, 0 ≤ z ∧ z ≤ 255) : ∀ (d at_ : Nat), ∀ z ∈ squF b d at_, 0 ≤ z ∧ z ≤ 255
  | 0, at_, z, h => by simp [squF] at h
  | d + 1, at_, z, h => by
    unfold squF at h
    by_cases h0 : at_ < b.length
    · rw [if_pos h0] at h
      have hx : 0 ≤ b.getD at_ 0 ∧ b.getD at_ 0 ≤ 255 := by
        have := hb b[at_] (List.getElem_mem h0)
        simpa [List.getD, List.getElem?_eq_getElem h0] using this
      by_cases h3 : (bestP b at_).1 ≥ 3
      · rw [if_pos h3] at h
        obtain ⟨p1, p2, p3, p4, _, _⟩ := bestP_use b at_ (by omega) h3
        rcases List.mem_cons.1 h with rfl | h
        · omega
        rcases List.mem_cons.1 h with rfl | h
        · omega
        exact squF_byte b hb d _ z h
      · rw [if_neg h3] at h
        split at h
        · rcases List.mem_cons.1 h with rfl | h
          · exact hx
          exact squF_byte b hb d _ z h
        · rcases List.mem_cons.1 h with rfl | h
          · omega
          rcases List.mem_cons.1 h with rfl | h
          · exact hx
          exact squF_byte b hb d _ z h
    · rw [if_neg h0] at h; simp at h
theorem squP_byte (b : List Int) (hb : ∀ z ∈ b, 0 ≤ z ∧ z ≤ 255) : ∀ z ∈ squP b, 0 ≤ z ∧ z ≤ 255 := by
  intro z h
  unfold squP at h
  split at h
  · simp at h
  · exact squF_byte b hb _ _ z h
theorem squF_bytes (b : List Int) (hb : ∀ z ∈ b, 0 ≤ z ∧ z ≤ 255) : ∀ (d at_ : Nat), at_ ≤ b.length → ∀ z ∈ squF b d at_, 0 ≤ z ∧ z ≤ 255
  | 0, at_, h, z, hz => by simp [squF] at hz
  | d + 1, at_, h, z, hz => by
    rw [squF] at hz
    by_cases h0 : at_ < b.length
    · rw [if_pos h0] at hz
      have hx : 0 ≤ b.getD at_ 0 ∧ b.getD at_ 0 ≤ 255 := by
        have e : b.getD at_ 0 = b[at_] := by simp [List.getD, List.getElem?_eq_getElem h0]
        rw [e]
        exact hb b[at_] (List.getElem_mem h0)
      by_cases h3 : (bestP b at_).1 ≥ 3
      · rw [if_pos h3] at hz
        obtain ⟨p1, p2, p3, p4, p5, p6⟩ := bestP_use b at_ h h3
        rcases List.mem_cons.mp hz with rfl | hz
        · omega
        rcases List.mem_cons.mp hz with rfl | hz
        · omega
        exact squF_bytes b hb d _ p5 z hz
      · rw [if_neg h3] at hz
        by_cases h4 : b.getD at_ 0 > 0 ∧ b.getD at_ 0 < 128
        · rw [if_pos h4] at hz
          rcases List.mem_cons.mp hz with rfl | hz
          · exact hx
          exact squF_bytes b hb d _ h0 z hz
        · rw [if_neg h4] at hz
          rcases List.mem_cons.mp hz with rfl | hz
          · omega
          rcases List.mem_cons.mp hz with rfl | hz
          · exact hx
          exact squF_bytes b hb d _ h0 z hz
    · rw [if_neg h0] at hz
      simp at hz
theorem squP_bytes (b : List Int) (hb : ∀ z ∈ b, 0 ≤ z ∧ z ≤ 255) : ∀ z ∈ squP b, 0 ≤ z ∧ z ≤ 255 := by
  unfold squP
  split
  · simp
  · exact squF_bytes b hb _ 0 (by omega)
theorem runI_nat (b : List Int) (at_ back : Nat) (h1 : 1 ≤ back) (h2 : back ≤ 255) (h3 : back ≤ at_) (h4 : at_ < b.length) : runI b at_ back = runP b at_ back := by
  unfold runI
  rw [if_pos (by omega)]
  simp
theorem spec_l1In.eq (a b c : Int) : spec_l1In.f a b c = some (decide (b ≤ a ∧ a ≤ c)) := by
  unfold spec_l1In.f
  by_cases h : b ≤ a
  · rw [if_pos h]; simp [h]
  · rw [if_neg h]; simp [h]
theorem spec_Run.ev_l (b : List Int) (hn : b.length ≤ 9223372036854775000) (at_ back : Nat) (hb1 : 1 ≤ back) (hb2 : back ≤ at_) (ha : at_ < b.length) : ∀ (d n : Nat), n + d = 100 → at_ + n ≤ b.length → Ev (fun k => spec_Run.l0 k b at_ back n) (runF b at_ back d n)
  | 0, n, hd, hl => by
    refine Ev.step (f := fun _ => some (n : Int)) (fun k => ?_) (Ev.now _)
    simp only [spec_Run.l0]
    rw [if_neg (by omega)]
  | d + 1, n, hd, hl => by
    have hw : wrap64 ((at_ : Int) + n) = ((at_ + n : Nat) : Int) := (w64 (by omega) (by omega)).trans (by omega)
    have hw2 : wrap64 (((at_ + n : Nat) : Int) - back) = ((at_ + n - back : Nat) : Int) := (w64 (by omega) (by omega)).trans (by omega)
    unfold runF
    by_cases h : at_ + n < b.length ∧ b.getD (at_ + n) 0 = b.getD (at_ + n - back) 0
    · rw [if_pos h]
      refine Ev.step (fun k => ?_) (spec_Run.ev_l b hn at_ back hb1 hb2 ha d (n + 1) (by omega) (by omega))
      simp only [spec_Run.l0]
      rw [if_pos (by omega), hw, if_pos (by omega), if_pos (by omega), hw2, if_pos (by omega), if_pos (by omega), if_pos (by rw [rd_nat, rd_nat]; exact h.2), w64 (x := (n : Int) + 1) (by omega) (by omega)]
      simp
    · rw [if_neg h]
      refine Ev.step (f := fun _ => some (n : Int)) (fun k => ?_) (Ev.now _)
      simp only [spec_Run.l0]
      rw [if_pos (by omega), hw]
      by_cases h1 : at_ + n < b.length
      · rw [if_pos (by omega), if_pos (by omega), hw2, if_pos (by omega), if_pos (by omega), if_neg]
        rw [rd_nat, rd_nat]
        exact fun h2 => h ⟨h1, h2⟩
      · rw [if_neg (by omega)]
theorem spec_Run.ev (b : List Int) (hn : b.length ≤ 9223372036854775000) (a c : Int) : Ev (fun k => spec_Run.f k b a c) (runI b a c) := by
  unfold spec_Run.f runI
  rw [w64 (x := (b.length : Int) - 1) (by omega) (by omega)]
  simp only [spec_l1In.eq, Option.bind_some]
  by_cases h1 : 0 ≤ a ∧ a ≤ (b.length : Int) - 1
  · refine ev_pos (by simpa using h1) ?_
    have hm : spec_l1Min.f a 255 = some (if a < 255 then a else 255) := by unfold spec_l1Min.f; split <;> rfl
    simp only [hm, Option.bind_some]
    by_cases h2 : 1 ≤ c ∧ c ≤ (if a < 255 then a else 255)
    · have h3 : 1 ≤ c ∧ c ≤ 255 ∧ c ≤ a ∧ a < b.length := by
        split at h2 <;> omega
      rw [if_pos h3, decide_eq_true h2]
      obtain ⟨n, rfl⟩ := Int.eq_ofNat_of_zero_le h1.1
      obtain ⟨m, rfl⟩ := Int.eq_ofNat_of_zero_le (by omega : 0 ≤ c)
      refine Ev.step (fun k => ?_) (spec_Run.ev_l b hn n m (by omega) (by omega) (by omega) 100 0 (by omega) (by omega))
      simp only [spec_Run.j0]
      rw [if_neg (by simp)]
      rfl
    · have h3 : ¬ (1 ≤ c ∧ c ≤ 255 ∧ c ≤ a ∧ a < b.length) := by
        split at h2 <;> omega
      rw [if_neg h3, decide_eq_false h2]
      refine Ev.step (f := fun _ => some 0) (fun k => ?_) (Ev.now _)
      simp only [spec_Run.j0]
      rw [if_pos (by simp)]
  · refine ev_neg (by simpa using h1) ?_
    rw [if_neg (by omega)]
    refine Ev.step (f := fun _ => some 0) (fun k => ?_) (Ev.now _)
    simp only [spec_Run.j0]
    rw [if_pos trivial]
theorem spec_l1Min.eq (a b : Int) : spec_l1Min.f a b = some (min a b) := by
  unfold spec_l1Min.f
  by_cases h : a < b
  · rw [if_pos h]; congr 1; omega
  · rw [if_neg h]; congr 1; omega
theorem spec_l3Best.ev_l (b : List Int) (hn : b.length ≤ 9223372036854775000) (at_ : Nat) (ha : at_ < b.length) : ∀ (d back : Nat) (n far : Nat), back + d = min 255 at_ + 1 → 1 ≤ back →
    Ev (fun k => spec_l3Best.l0 k b at_ far n back) (((bestF b at_ d back (n, far)).2 : Int), ((bestF b at_ d back (n, far)).1 : Int))
  | 0, back, n, far, hd, h1 => by
    refine ev_succ ?_
    simp only [spec_l3Best.l0, spec_l1Min.eq, Option.bind_some]
    refine ev_neg (by omega) ?_
    exact Ev.now _
  | d + 1, back, n, far, hd, h1 => by
    refine ev_succ ?_
    simp only [spec_l3Best.l0, spec_l1Min.eq, Option.bind_some]
    refine ev_pos (by omega) ?_
    refine Ev.bind (ev_eq (spec_Run.ev b hn at_ back) (runI_nat b at_ back h1 (by omega) (by omega) ha)) ?_
    have hw : wrap64 ((back : Int) + 1) = ((back + 1 : Nat) : Int) := w64 (by omega) (by omega)
    rw [hw, bestF]
    by_cases h : runP b at_ back > n
    · rw [if_pos h]
      refine ev_pos (by omega) ?_
      exact spec_l3Best.ev_l b hn at_ ha d (back + 1) (runP b at_ back) back (by omega) (by omega)
    · rw [if_neg h]
      refine ev_neg (by omega) ?_
      exact spec_l3Best.ev_l b hn at_ ha d (back + 1) n far (by omega) (by omega)
theorem spec_l3Best.ev (b : List Int) (hn : b.length ≤ 9223372036854775000) (at_ : Nat) (ha : at_ < b.length) : Ev (fun k => spec_l3Best.f k b at_) (((bestP b at_).2 : Int), ((bestP b at_).1 : Int)) := by
  unfold spec_l3Best.f
  exact spec_l3Best.ev_l b hn at_ ha (min 255 at_) 1 0 0 (by omega) (by omega)
theorem spec_Squeeze.ev_l (b : List Int) (hb : ∀ z ∈ b, 0 ≤ z ∧ z ≤ 255) (hn : b.length ≤ 3000) : ∀ (d i : Nat) (y : List Int), b.length ≤ i + d → i ≤ b.length → y.length ≤ 2 * i → Ev (fun k => spec_Squeeze.l0 k b y i) (y ++ squF b d i)
  | 0, i, y, hd, hi, hy => by
    refine ev_succ ?_
    simp only [spec_Squeeze.l0]
    refine ev_neg (by omega) (ev_eq (Ev.now _) (by simp [squF]))
  | d + 1, i, y, hd, hi, hy => by
    refine ev_succ ?_
    simp only [spec_Squeeze.l0]
    rw [squF]
    by_cases h : i < b.length
    · rw [if_pos h]
      refine ev_pos (by omega) (Ev.bind (spec_l3Best.ev b (by omega) i h) ?_)
      dsimp only
      have hr : rd b (i : Int) = b[i] := rd_lt b i h
      have hg : b.getD i 0 = b[i] := by simp [List.getD, List.getElem?_eq_getElem h]
      have hz := hb b[i] (List.getElem_mem h)
      have hw : wrap64 ((i : Int) + 1) = ((i + 1 : Nat) : Int) := w64 (by omega) (by omega)
      by_cases h3 : (bestP b i).1 ≥ 3
      · rw [if_pos h3]
        obtain ⟨p1, p2, p3, p4, p5, _⟩ := bestP_use b i hi h3
        generalize (bestP b i).1 = n at *
        generalize (bestP b i).2 = far at *
        have e1 := sqE1 n p4
        have e2 := sqE2 far p2
        have e3 := sqE3 i n b.length p5 hn
        have q1 : (n : Int) ≥ 3 := by exact_mod_cast h3
        have q2 : y.length + 2 < 140737488355328 := by clear e1 e2 e3 hr hg hz hw p1 p2 p3 p4 p5 q1 h3 hb; omega
        have q3 : b.length ≤ i + n + d := by clear e1 e2 e3 hr hg hz hw p1 p2 p3 p4 p5 q1 hb; omega
        have q4 : y.length + 2 ≤ 2 * (i + n) := by clear e1 e2 e3 hr hg hz hw p1 p2 p3 p4 p5 q1 hb; omega
        refine ev_pos q1 (ev_bind_some rfl (ev_pos (by simpa using q2) ?_))
        rw [e1, e2, e3]
        exact ev_eq (spec_Squeeze.ev_l b hb hn d (i + n) (y ++ [((128 + n : Nat) : Int), (far : Int)]) q3 p5 (by simpa using q4)) (by simp)
      · rw [if_neg h3, hr, hg, hw]
        refine ev_neg (by omega) (ev_pos (by omega) ?_)
        generalize b[i] = x at *
        by_cases h0 : x = 0
        · rw [if_neg (by omega)]
          refine ev_pos h0 (ev_pos (by omega) (ev_bind_some rfl (ev_pos (by simp; omega) ?_)))
          exact ev_eq (spec_Squeeze.ev_l b hb hn d (i + 1) (y ++ [0] ++ [x]) (by omega) (by omega) (by simp; omega)) (by simp)
        · by_cases h1 : x > 127
          · rw [if_neg (by omega)]
            refine ev_neg h0 (ev_pos h1 (ev_pos (by omega) (ev_bind_some rfl (ev_pos (by simp; omega) ?_))))
            exact ev_eq (spec_Squeeze.ev_l b hb hn d (i + 1) (y ++ [0] ++ [x]) (by omega) (by omega) (by simp; omega)) (by simp)
          · rw [if_pos (by omega)]
            refine ev_neg h0 (ev_neg h1 (ev_pos (by omega) ?_))
            exact ev_eq (spec_Squeeze.ev_l b hb hn d (i + 1) (y ++ [x]) (by omega) (by omega) (by simp; omega)) (by simp)
    · rw [if_neg h]
      exact ev_neg (by omega) (ev_eq (Ev.now _) (by simp))
theorem spec_Squeeze.ev (b : List Int) (hb : ∀ z ∈ b, 0 ≤ z ∧ z ≤ 255) : Ev (fun k => spec_Squeeze.f k b) (squP b) := by
  unfold spec_Squeeze.f squP
  simp only [Option.bind_some]
  by_cases h : b.length > 3000
  · rw [if_pos h]; exact ev_pos (by omega) (Ev.now _)
  · rw [if_neg h]
    refine ev_neg (by omega) ?_
    have := spec_Squeeze.ev_l b hb (by omega) b.length 0 [] (by omega) (by omega) (by simp)
    simpa using this
theorem okB.take {L : Nat} {b : List Int} (h : okB L b) (n : Nat) : okB L (b.take n) := ⟨by have := h.1; simp; omega, fun z hz => h.2 z (List.mem_of_mem_take hz)⟩
theorem okB.drop {L : Nat} {b : List Int} (h : okB L b) (n : Nat) : okB L (b.drop n) := ⟨by have := h.1; simp; omega, fun z hz => h.2 z (List.mem_of_mem_drop hz)⟩
theorem spec_DrawSpread.ev (s : List Int) (hs : s.length ≤ 1048576) : ∃ b, Ev (fun k => spec_DrawSpread.f k s) b ∧ okB 20000 b := by
  unfold spec_DrawSpread.f
  obtain ⟨h0, e0⟩ := spec_l1New.ev s hs
  obtain ⟨r, i1, g1, e1, hr, a1, b1⟩ := spec_l3DrawBytes.ev s hs 0 h0 (by omega) (by omega)
  have e2 := spec_Squeeze.ev r hr.2
  have hq : okB 6000 (squP r) := ⟨squP_len r, squP_bytes r hr.2⟩
  generalize squP r = q at *
  have hw : wrap64 ((q.length : Int) + 1) = q.length + 1 := by have := hq.1; exact w64 (by omega) (by omega)
  obtain ⟨x, i3, g3, e3, ⟨p0, p1⟩, a3, b3⟩ := spec_l1Below.ok s i1 g1 (q.length + 1) a1 b1 hs
  have hx := p1 (by omega)
  have e3' : spec_l1Below.f s i1 g1 (wrap64 ((q.length : Int) + 1)) = some (x, i3, g3) := by rw [hw]; exact e3
  obtain ⟨y, i4, g4, e4, _, a4, b4⟩ := spec_l1Below.ok s i3 g3 4 a3 b3 hs
  by_cases c0 : y = 0
  · exact ⟨q.take x.toNat, Ev.bind e0 (Ev.bind e1 (Ev.bind e2 (ev_bind_some e3' (ev_bind_some e4 (ev_pos c0 (ev_pos p0 (ev_pos (show x ≤ (q.length : Int) by omega) (Ev.now _)))))))), (hq.take _).le (by omega)⟩
  by_cases c1 : y = 1
  · obtain ⟨z, i5, g5, e5, hz, a5, b5⟩ := spec_l1PickInt.ok s i4 g4 [0, 1, 131, 228, 229, 255] (by simp) a4 b4 hs
    have hz' : 0 ≤ z ∧ z ≤ 255 := by simp at hz; omega
    have ht := (hq.take x.toNat).1
    have hd := (hq.drop x.toNat).1
    have hz2 : okB 1 [z] := ⟨by simp, fun w hw => by obtain rfl := List.mem_singleton.mp hw; exact hz'⟩
    refine ⟨[] ++ q.take x.toNat ++ ([z % 256] ++ q.drop x.toNat), Ev.bind e0 (Ev.bind e1 (Ev.bind e2 (ev_bind_some e3' (ev_bind_some e4 (ev_neg c0 (ev_pos c1 (ev_bind_some rfl (ev_pos p0 (ev_pos (show x ≤ (q.length : Int) by omega) (ev_bind_some rfl (ev_pos ?_ (ev_bind_some rfl (ev_bind_some e5 (ev_bind_some rfl (ev_bind_some rfl (ev_pos ?_ (ev_bind_some rfl (ev_pos ?_ (Ev.now _))))))))))))))))))), ?_⟩
    · exact Nat.lt_of_le_of_lt (show ([] : List Int).length + (q.take x.toNat).length ≤ 6000 by simp only [List.length_nil]; omega) (by decide)
    · exact Nat.lt_of_le_of_lt (show ([z % 256] : List Int).length + (q.drop x.toNat).length ≤ 6001 by simp only [List.length_cons, List.length_nil]; omega) (by decide)
    · exact Nat.lt_of_le_of_lt (show ([] ++ q.take x.toNat).length + ([z % 256] ++ q.drop x.toNat).length ≤ 12001 by simp only [List.length_append, List.length_cons, List.length_nil]; omega) (by decide)
    · rw [mod256 hz', List.nil_append]
      exact ((hq.take _).app (hz2.app (hq.drop _))).le (by omega)
  · exact ⟨q, Ev.bind e0 (Ev.bind e1 (Ev.bind e2 (ev_bind_some e3' (ev_bind_some e4 (ev_neg c0 (ev_neg c1 (Ev.now _))))))), hq.le (by omega)⟩
theorem spec_DrawRun.ev (s : List Int) (hs : s.length ≤ 1048576) : ∃ b i j, Ev (fun k => spec_DrawRun.f k s) (b, i, j) ∧ okB 1639 b := by
  unfold spec_DrawRun.f
  obtain ⟨h0, e0⟩ := spec_l1New.ev s hs
  obtain ⟨r, i1, g1, e1, hr, a1, b1⟩ := spec_l3DrawBytes.ev s hs 0 h0 (by omega) (by omega)
  obtain ⟨x, i3, g3, e3, _, a3, b3⟩ := spec_l1Below.ok s i1 g1 (wrap64 ((r.length : Int) + 3)) a1 b1 hs
  obtain ⟨z, i5, g5, e5, hz, a5, b5⟩ := spec_l1PickInt.ok s i3 g3 [1, 2, 3, 0, 255, 256, -1] (by simp) a3 b3 hs
  exact ⟨r, _, z, Ev.bind e0 (Ev.bind e1 (ev_bind_some e3 (ev_bind_some e5 (Ev.now _)))), hr⟩
theorem impl_Run.ev_l (b : List Int) (hn : b.length ≤ 9223372036854775000) (at_ back : Nat) (hb1 : 1 ≤ back) (hb2 : back ≤ at_) (ha : at_ < b.length) : ∀ (d n : Nat), n + d = 100 → at_ + n ≤ b.length → Ev (fun k => impl_Run.l0 k b at_ back n) (runF b at_ back d n)
  | 0, n, hd, hl => by
    refine Ev.step (f := fun _ => some (n : Int)) (fun k => ?_) (Ev.now _)
    simp only [impl_Run.l0]
    rw [if_neg (by omega)]
  | d + 1, n, hd, hl => by
    have hw : wrap64 ((at_ : Int) + n) = ((at_ + n : Nat) : Int) := (w64 (by omega) (by omega)).trans (by omega)
    have hw2 : wrap64 (((at_ + n : Nat) : Int) - back) = ((at_ + n - back : Nat) : Int) := (w64 (by omega) (by omega)).trans (by omega)
    unfold runF
    by_cases h : at_ + n < b.length ∧ b.getD (at_ + n) 0 = b.getD (at_ + n - back) 0
    · rw [if_pos h]
      refine Ev.step (fun k => ?_) (impl_Run.ev_l b hn at_ back hb1 hb2 ha d (n + 1) (by omega) (by omega))
      simp only [impl_Run.l0]
      rw [if_pos (by omega), hw, if_pos (by omega), if_pos (by omega), hw2, if_pos (by omega), if_pos (by omega), if_pos (by rw [rd_nat, rd_nat]; exact h.2), w64 (x := (n : Int) + 1) (by omega) (by omega)]
      simp
    · rw [if_neg h]
      refine Ev.step (f := fun _ => some (n : Int)) (fun k => ?_) (Ev.now _)
      simp only [impl_Run.l0]
      rw [if_pos (by omega), hw]
      by_cases h1 : at_ + n < b.length
      · rw [if_pos (by omega), if_pos (by omega), hw2, if_pos (by omega), if_pos (by omega), if_neg]
        rw [rd_nat, rd_nat]
        exact fun h2 => h ⟨h1, h2⟩
      · rw [if_neg (by omega)]
theorem impl_Run.ev (b : List Int) (hn : b.length ≤ 9223372036854775000) (a c : Int) : Ev (fun k => impl_Run.f k b a c) (runI b a c) := by
  unfold impl_Run.f runI
  have hj : Ev (fun k => impl_Run.j0 k b a c true) 0 := by
    refine Ev.step (f := fun _ => some 0) (fun k => ?_) (Ev.now _)
    simp only [impl_Run.j0]
    rw [if_pos trivial]
  by_cases h1 : c < 1
  · rw [if_neg (by omega)]; exact ev_pos h1 hj
  refine ev_neg h1 ?_
  by_cases h2 : c > 255
  · rw [if_neg (by omega)]; exact ev_pos h2 hj
  refine ev_neg h2 ?_
  by_cases h3 : c > a
  · rw [if_neg (by omega)]; exact ev_pos h3 hj
  refine ev_neg h3 ?_
  by_cases h4 : a ≥ (b.length : Int)
  · rw [if_neg (by omega), decide_eq_true h4]; exact hj
  rw [decide_eq_false h4, if_pos (by omega)]
  obtain ⟨n, rfl⟩ := Int.eq_ofNat_of_zero_le (by omega : 0 ≤ a)
  obtain ⟨m, rfl⟩ := Int.eq_ofNat_of_zero_le (by omega : 0 ≤ c)
  refine Ev.step (fun k => ?_) (impl_Run.ev_l b hn n m (by omega) (by omega) (by omega) 100 0 (by omega) (by omega))
  simp only [impl_Run.j0]
  rw [if_neg (by simp)]
  rfl
theorem impl_from.eq (a b c : Int) : impl_from.f a b c = some (decide (b ≤ a ∧ a ≤ c)) := by
  unfold impl_from.f
  by_cases h : b ≤ a
  · rw [if_pos h]; simp [h]
  · rw [if_neg h]; simp [h]
def copyF : Nat → Nat → List Int → List Int
  | 0, _, o => o
  | d + 1, y, o => copyF d y (o ++ [o.getD (o.length - y) 0])
theorem copyF_length : ∀ (d y : Nat) (o : List Int), (copyF d y o).length = o.length + d
  | 0, y, o => rfl
  | d + 1, y, o => by rw [copyF, copyF_length d y]; simp; omega
def sprF : List Int → List Int → Option (List Int)
  | [], o => some o
  | [x], o => if 1 ≤ x ∧ x ≤ 127 then some (o ++ [x]) else none
  | x :: y :: l, o => if 1 ≤ x ∧ x ≤ 127 then sprF (y :: l) (o ++ [x])
      else if x = 0 then if 1 ≤ y ∧ y ≤ 127 then none else sprF l (o ++ [y])
      else if 131 ≤ x ∧ x ≤ 228 then if 1 ≤ y ∧ y ≤ o.length then sprF l (copyF (x - 128).toNat y.toNat o) else none
      else none
def sprR : Option (List Int) → List Int × Bool
  | none => ([], false)
  | some o => if o.length > 3000 then ([], false) else (o, true)
/-- Spread. -/
def sprP (b : List Int) : List Int × Bool := sprR (sprF b [])
theorem sprF_lit (x : Int) (l o : List Int) (h : 1 ≤ x ∧ x ≤ 127) : sprF (x :: l) o = sprF l (o ++ [x]) := by
  cases l with
  | nil => simp only [sprF]; rw [if_pos h]
  | cons y l => rw [sprF, if_pos h]
theorem sprF_grows : ∀ (n : Nat) (l o r : List Int), l.length ≤ n → sprF l o = some r → o.length ≤ r.length
  | 0, l, o, r, hn, h => by
    have : l = [] := List.eq_nil_of_length_eq_zero (by omega)
    subst this
    rw [sprF] at h
    cases h
    exact Nat.le_refl _
  | n + 1, l, o, r, hn, h => by
    match l, hn, h with
    | [], hn, h => rw [sprF] at h; cases h; exact Nat.le_refl _
    | [x], hn, h =>
      rw [sprF] at h
      by_cases hx : 1 ≤ x ∧ x ≤ 127
      · rw [if_pos hx] at h; cases h; simp
      · rw [if_neg hx] at h; cases h
    | x :: y :: l, hn, h =>
      simp only [List.length_cons] at hn
      rw [sprF] at h
      by_cases hx : 1 ≤ x ∧ x ≤ 127
      · rw [if_pos hx] at h
        have := sprF_grows n (y :: l) _ r (by simp; omega) h
        simp only [List.length_append, List.length_cons, List.length_nil] at this
        omega
      rw [if_neg hx] at h
      by_cases h0 : x = 0
      · rw [if_pos h0] at h
        by_cases hy : 1 ≤ y ∧ y ≤ 127
        · rw [if_pos hy] at h; cases h
        · rw [if_neg hy] at h
          have := sprF_grows n l _ r (by omega) h
          simp only [List.length_append, List.length_cons, List.length_nil] at this
          omega
      rw [if_neg h0] at h
      by_cases h1 : 131 ≤ x ∧ x ≤ 228
      · rw [if_pos h1] at h
        by_cases hy : 1 ≤ y ∧ y ≤ o.length
        · rw [if_pos hy] at h
          have := sprF_grows n l _ r (by omega) h
          rw [copyF_length] at this
          omega
        · rw [if_neg hy] at h; cases h
      · rw [if_neg h1] at h; cases h
theorem sprR_long (l o : List Int) (h : o.length > 3000) : sprR (sprF l o) = ([], false) := by
  cases e : sprF l o with
  | none => rfl
  | some r =>
    have := sprF_grows _ l o r (Nat.le_refl _) e
    rw [sprR, if_pos (by omega)]
theorem sprR_none : sprR none = ([], false) := rfl
theorem sprR_length (x : Option (List Int)) : (sprR x).1.length ≤ 3000 := by
  cases x with
  | none => simp [sprR]
  | some o => rw [sprR]; by_cases h : o.length > 3000
              · rw [if_pos h]; simp
              · rw [if_neg h]; simp only; omega
theorem sprP_length (b : List Int) : (sprP b).1.length ≤ 3000 := sprR_length _
theorem copyF_idx (o : List Int) (y : Int) (h1 : 1 ≤ y) (h2 : y ≤ o.length) (h3 : o.length < 140737488355328) :
    0 ≤ wrap64 ((o.length : Int) - y) ∧ wrap64 ((o.length : Int) - y) < o.length ∧ rd o (wrap64 ((o.length : Int) - y)) = o.getD (o.length - y.toNat) 0 := by
  have e : wrap64 ((o.length : Int) - y) = ((o.length - y.toNat : Nat) : Int) := by rw [w64 (by omega) (by omega)]; omega
  rw [e, rd_nat]
  exact ⟨by omega, by omega, rfl⟩
theorem sprF_one (x : Int) (o : List Int) (h : ¬ (1 ≤ x ∧ x ≤ 127)) : sprF [x] o = none := by rw [sprF, if_neg h]
theorem sprF_zero (y : Int) (l o : List Int) : sprF (0 :: y :: l) o = if 1 ≤ y ∧ y ≤ 127 then none else sprF l (o ++ [y]) := by
  rw [sprF, if_neg (by omega), if_pos rfl]
theorem sprF_bad (x y : Int) (l o : List Int) (h : ¬ (1 ≤ x ∧ x ≤ 127)) (h0 : x ≠ 0) (h1 : ¬ (131 ≤ x ∧ x ≤ 228)) : sprF (x :: y :: l) o = none := by
  rw [sprF, if_neg h, if_neg h0, if_neg h1]
theorem sprF_copy (x y : Int) (l o : List Int) (h1 : 131 ≤ x ∧ x ≤ 228) : sprF (x :: y :: l) o = if 1 ≤ y ∧ y ≤ o.length then sprF l (copyF (x - 128).toNat y.toNat o) else none := by
  rw [sprF, if_neg (by omega), if_neg (by omega), if_pos h1]
theorem impl_Spread.ev_c (b : List Int) (i : Nat) (hi : i < 1048576) (x y : Int) (hx : 131 ≤ x ∧ x ≤ 228) (hy : 1 ≤ y) (r : List Int × Bool) : ∀ (d c : Nat) (o : List Int), (c : Int) + d = x - 128 → y ≤ o.length → o.length + d < 140737488355328 →
    Ev (fun k => impl_Spread.l0 k b (copyF d y.toNat o) ((i + 1 : Nat) : Int)) r → Ev (fun k => impl_Spread.l1 k b o i y (x - 128) c) r
  | 0, c, o, hc, ho, hl, H => by
    refine ev_succ ?_
    simp only [impl_Spread.l1]
    have e1 : wrap64 ((i : Int) + 1) = ((i + 1 : Nat) : Int) := w64 (by omega) (by omega)
    rw [e1]
    exact ev_neg (by omega) H
  | d + 1, c, o, hc, ho, hl, H => by
    refine ev_succ ?_
    simp only [impl_Spread.l1]
    have e1 : wrap64 ((c : Int) + 1) = ((c + 1 : Nat) : Int) := w64 (by omega) (by omega)
    obtain ⟨q1, q2, q3⟩ := copyF_idx o y hy ho (by omega)
    refine ev_pos (by omega) (ev_pos q1 (ev_pos q2 (ev_pos (by omega) ?_)))
    rw [q3, e1]
    exact impl_Spread.ev_c b i hi x y hx hy r d (c + 1) _ (by omega) (by simp; omega) (by simp; omega) H
theorem impl_Spread.ev_l (b : List Int) (hb : ∀ z ∈ b, 0 ≤ z ∧ z ≤ 255) (hn : b.length ≤ 1048576) : ∀ (d i : Nat) (o : List Int), b.length ≤ i + d → i ≤ b.length → o.length ≤ 100 * i → Ev (fun k => impl_Spread.l0 k b o i) (sprR (sprF (b.drop i) o))
  | 0, i, o, hd, hi, ho => by
    refine ev_succ ?_
    simp only [impl_Spread.l0]
    rw [List.drop_of_length_le (by omega), sprF, sprR]
    refine ev_neg (by omega) ?_
    by_cases h : o.length > 3000
    · rw [if_pos h]; exact ev_pos (by omega) (Ev.now _)
    · rw [if_neg h]; exact ev_neg (by omega) (Ev.now _)
  | d + 1, i, o, hd, hi, ho => by
    refine ev_succ ?_
    simp only [impl_Spread.l0]
    by_cases h : i < b.length
    · refine ev_pos (by omega) (ev_pos (by omega) ?_)
      have hr : rd b (i : Int) = b[i] := rd_lt b i h
      have hz := hb b[i] (List.getElem_mem h)
      have hw : wrap64 ((i : Int) + 1) = ((i + 1 : Nat) : Int) := w64 (by omega) (by omega)
      have hx : wrap64 b[i] = b[i] := w64 (by omega) (by omega)
      rw [List.drop_eq_getElem_cons h]
      rw [hr, hx, hw, impl_from.eq, impl_from.eq]
      generalize b[i] = x at *
      refine ev_bind_some rfl ?_
      by_cases h1 : 1 ≤ x ∧ x ≤ 127
      · rw [sprF_lit _ _ _ h1]
        refine ev_pos (decide_eq_true h1) (ev_pos (by omega) ?_)
        exact impl_Spread.ev_l b hb hn d (i + 1) _ (by omega) (by omega) (by simp; omega)
      refine ev_neg (by simpa using h1) ?_
      by_cases h2 : i + 1 < b.length
      · refine ev_neg (by omega) ?_
        have hr2 : rd b ((i + 1 : Nat) : Int) = b[i + 1] := rd_lt b (i + 1) h2
        have hzy := hb b[i + 1] (List.getElem_mem h2)
        have hy : wrap64 b[i + 1] = b[i + 1] := w64 (by omega) (by omega)
        have hw2 : wrap64 (((i + 1 : Nat) : Int) + 1) = ((i + 2 : Nat) : Int) := by rw [w64 (by omega) (by omega)]; omega
        rw [List.drop_eq_getElem_cons h2]
        have q1 : (0 : Int) ≤ ((i + 1 : Nat) : Int) := Int.natCast_nonneg _
        have q2 : ((i + 1 : Nat) : Int) < (b.length : Int) := by exact_mod_cast h2
        by_cases h0 : x = 0
        · subst h0
          rw [sprF_zero]
          refine ev_pos rfl (ev_succ ?_)
          simp only [impl_Spread.j1]
          rw [hr2, hy, hw2, impl_from.eq]
          generalize b[i + 1] = y at *
          refine ev_neg (by decide) (ev_pos q1 (ev_pos q2 (ev_pos trivial (ev_bind_some rfl ?_))))
          by_cases hy0 : 1 ≤ y ∧ y ≤ 127
          · rw [if_pos hy0]
            exact ev_pos (decide_eq_true hy0) (Ev.now _)
          · rw [if_neg hy0]
            exact ev_neg (by simpa using hy0) (ev_pos (by omega) (impl_Spread.ev_l b hb hn d (i + 2) _ (by omega) (by omega) (by simp; omega)))
        · refine ev_neg h0 (ev_bind_some rfl (ev_succ ?_))
          simp only [impl_Spread.j1]
          by_cases h3 : 131 ≤ x ∧ x ≤ 228
          · refine ev_neg (by simp [h3]) (ev_pos q1 (ev_pos q2 (ev_neg h0 ?_)))
            rw [hr2, hy]
            generalize b[i + 1] = y at *
            rw [sprF_copy _ _ _ _ h3]
            have hd8 : wrap64 (x - 128) = x - 128 := w64 (by omega) (by omega)
            by_cases h4 : 1 ≤ y ∧ y ≤ (o.length : Int)
            · rw [if_pos h4]
              refine ev_neg (by omega) (ev_succ ?_)
              simp only [impl_Spread.j2]
              rw [hd8]
              refine ev_neg (by simp; omega) ?_
              refine impl_Spread.ev_c b (i + 1) (by omega) x y h3 h4.1 _ (x - 128).toNat 0 o (by omega) h4.2 (by omega) ?_
              have hlen := copyF_length (x - 128).toNat y.toNat o
              exact impl_Spread.ev_l b hb hn d (i + 2) _ (by omega) (by omega) (by omega)
            · rw [if_neg h4]
              by_cases h5 : y < 1
              · refine ev_pos h5 (ev_succ ?_)
                simp only [impl_Spread.j2]
                exact ev_pos trivial (Ev.now _)
              · refine ev_neg h5 (ev_succ ?_)
                simp only [impl_Spread.j2]
                exact ev_pos (by simp; omega) (Ev.now _)
          · rw [sprF_bad _ _ _ _ h1 h0 h3]
            exact ev_pos (by simp only [Bool.not_eq_true', decide_eq_false_iff_not]; exact h3) (Ev.now _)
      · rw [List.drop_of_length_le (by omega), sprF_one _ _ h1]
        refine ev_pos (by omega) (ev_succ ?_)
        simp only [impl_Spread.j1]
        exact ev_pos trivial (Ev.now _)
    · rw [List.drop_of_length_le (by omega), sprF, sprR]
      refine ev_neg (by omega) ?_
      by_cases h : o.length > 3000
      · rw [if_pos h]; exact ev_pos (by omega) (Ev.now _)
      · rw [if_neg h]; exact ev_neg (by omega) (Ev.now _)
theorem impl_Spread.ev (b : List Int) (hb : ∀ z ∈ b, 0 ≤ z ∧ z ≤ 255) (hn : b.length ≤ 1048576) : Ev (fun k => impl_Spread.f k b) (sprP b) := by
  unfold impl_Spread.f sprP
  have := impl_Spread.ev_l b hb hn b.length 0 [] (by omega) (by omega) (by simp)
  simpa using this
theorem impl_longest.ev_l (b : List Int) (hn : b.length ≤ 9223372036854775000) (at_ : Nat) (ha : at_ < b.length) : ∀ (d back : Nat) (n far : Nat), back + d = min 255 at_ + 1 → 1 ≤ back →
    Ev (fun k => impl_longest.l0 k b at_ n far back) (((bestF b at_ d back (n, far)).1 : Int), ((bestF b at_ d back (n, far)).2 : Int))
  | 0, back, n, far, hd, h1 => by
    refine ev_succ ?_
    simp only [impl_longest.l0]
    by_cases h : (back : Int) ≤ 255
    · refine ev_pos h ?_
      rw [decide_eq_false (by omega)]
      refine ev_succ ?_
      simp only [impl_longest.j1]
      exact ev_neg (by simp) (Ev.now _)
    · refine ev_neg h ?_
      refine ev_succ ?_
      simp only [impl_longest.j1]
      exact ev_neg (by simp) (Ev.now _)
  | d + 1, back, n, far, hd, h1 => by
    refine ev_succ ?_
    simp only [impl_longest.l0]
    refine ev_pos (by omega) ?_
    rw [decide_eq_true (by omega)]
    refine ev_succ ?_
    simp only [impl_longest.j1]
    refine ev_pos (by simp) ?_
    refine Ev.bind (ev_eq (impl_Run.ev b hn at_ back) (runI_nat b at_ back h1 (by omega) (by omega) ha)) ?_
    have hw : wrap64 ((back : Int) + 1) = ((back + 1 : Nat) : Int) := w64 (by omega) (by omega)
    rw [hw, bestF]
    by_cases h : runP b at_ back > n
    · rw [if_pos h]
      refine ev_pos (by omega) ?_
      exact impl_longest.ev_l b hn at_ ha d (back + 1) (runP b at_ back) back (by omega) (by omega)
    · rw [if_neg h]
      refine ev_neg (by omega) ?_
      exact impl_longest.ev_l b hn at_ ha d (back + 1) n far (by omega) (by omega)
theorem impl_longest.ev (b : List Int) (hn : b.length ≤ 9223372036854775000) (at_ : Nat) (ha : at_ < b.length) : Ev (fun k => impl_longest.f k b at_) (((bestP b at_).1 : Int), ((bestP b at_).2 : Int)) := by
  unfold impl_longest.f
  exact impl_longest.ev_l b hn at_ ha (min 255 at_) 1 0 0 (by omega) (by omega)
theorem impl_Squeeze.ev_l (b : List Int) (hb : ∀ z ∈ b, 0 ≤ z ∧ z ≤ 255) (hn : b.length ≤ 3000) : ∀ (d i : Nat) (y : List Int), b.length ≤ i + d → i ≤ b.length → y.length ≤ 2 * i → Ev (fun k => impl_Squeeze.l0 k b y i) (y ++ squF b d i)
  | 0, i, y, hd, hi, hy => by
    refine ev_succ ?_
    simp only [impl_Squeeze.l0]
    refine ev_neg (by omega) (ev_eq (Ev.now _) (by simp [squF]))
  | d + 1, i, y, hd, hi, hy => by
    refine ev_succ ?_
    simp only [impl_Squeeze.l0]
    rw [squF]
    by_cases h : i < b.length
    · rw [if_pos h]
      refine ev_pos (by omega) (Ev.bind (impl_longest.ev b (by omega) i h) ?_)
      dsimp only
      have hr : rd b (i : Int) = b[i] := rd_lt b i h
      have hg : b.getD i 0 = b[i] := by simp [List.getD, List.getElem?_eq_getElem h]
      have hz := hb b[i] (List.getElem_mem h)
      have hw : wrap64 ((i : Int) + 1) = ((i + 1 : Nat) : Int) := w64 (by omega) (by omega)
      by_cases h3 : (bestP b i).1 ≥ 3
      · rw [if_pos h3]
        obtain ⟨p1, p2, p3, p4, p5, _⟩ := bestP_use b i hi h3
        generalize (bestP b i).1 = n at *
        generalize (bestP b i).2 = far at *
        have e1 := sqE1 n p4
        have e2 := sqE2 far p2
        have e3 := sqE3 i n b.length p5 hn
        have q1 : (n : Int) ≥ 3 := by exact_mod_cast h3
        have q2 : y.length + 2 < 140737488355328 := by clear e1 e2 e3 hr hg hz hw p1 p2 p3 p4 p5 q1 h3 hb; omega
        have q3 : b.length ≤ i + n + d := by clear e1 e2 e3 hr hg hz hw p1 p2 p3 p4 p5 q1 hb; omega
        have q4 : y.length + 2 ≤ 2 * (i + n) := by clear e1 e2 e3 hr hg hz hw p1 p2 p3 p4 p5 q1 hb; omega
        refine ev_pos q1 (ev_bind_some rfl (ev_pos (by simpa using q2) ?_))
        rw [e1, e2, e3]
        exact ev_eq (impl_Squeeze.ev_l b hb hn d (i + n) (y ++ [((128 + n : Nat) : Int), (far : Int)]) q3 p5 (by simpa using q4)) (by simp)
      · rw [if_neg h3, hr, hg, hw]
        refine ev_neg (by omega) (ev_pos (by omega) ?_)
        generalize b[i] = x at *
        by_cases h0 : x > 0
        · by_cases h1 : x < 128
          · rw [if_pos ⟨h0, h1⟩]
            refine ev_pos h0 (ev_pos h1 (ev_pos (by omega) ?_))
            exact ev_eq (impl_Squeeze.ev_l b hb hn d (i + 1) (y ++ [x]) (by omega) (by omega) (by simp; omega)) (by simp)
          · rw [if_neg (by omega)]
            refine ev_pos h0 (ev_neg h1 (ev_bind_some rfl (ev_pos (by simp; omega) ?_)))
            exact ev_eq (impl_Squeeze.ev_l b hb hn d (i + 1) (y ++ [0, x]) (by omega) (by omega) (by simp; omega)) (by simp)
        · rw [if_neg (by omega)]
          refine ev_neg h0 (ev_bind_some rfl (ev_pos (by simp; omega) ?_))
          exact ev_eq (impl_Squeeze.ev_l b hb hn d (i + 1) (y ++ [0, x]) (by omega) (by omega) (by simp; omega)) (by simp)
    · rw [if_neg h]
      exact ev_neg (by omega) (ev_eq (Ev.now _) (by simp))
theorem impl_Squeeze.ev (b : List Int) (hb : ∀ z ∈ b, 0 ≤ z ∧ z ≤ 255) : Ev (fun k => impl_Squeeze.f k b) (squP b) := by
  unfold impl_Squeeze.f squP
  simp only [Option.bind_some]
  by_cases h : b.length > 3000
  · rw [if_pos h]; exact ev_pos (by omega) (Ev.now _)
  · rw [if_neg h]
    refine ev_neg (by omega) ?_
    have := impl_Squeeze.ev_l b hb (by omega) b.length 0 [] (by omega) (by omega) (by simp)
    simpa using this
theorem laws_big.eq (l : List Int) : laws_big.f l = some (decide ((l.length : Int) > 1048576)) := rfl
theorem copyF_take (b : List Int) (y : Nat) (hy : 1 ≤ y) : ∀ (d at_ : Nat), y ≤ at_ → at_ + d ≤ b.length → (∀ j, j < d → b.getD (at_ + j) 0 = b.getD (at_ + j - y) 0) → copyF d y (b.take at_) = b.take (at_ + d)
  | 0, at_, h1, h2, h3 => rfl
  | d + 1, at_, h1, h2, h3 => by
    have h0 : at_ < b.length := by omega
    have e : b.take at_ ++ [(b.take at_).getD ((b.take at_).length - y) 0] = b.take (at_ + 1) := by
      have hl : (b.take at_).length = at_ := by simp; omega
      have h4 := h3 0 (by omega)
      rw [hl, List.take_succ_eq_append_getElem h0]
      congr 2
      have h5 : (b.take at_).getD (at_ - y) 0 = b.getD (at_ - y) 0 := by simp only [List.getD, List.getElem?_take]; rw [if_pos (by omega)]
      rw [h5, show at_ - y = at_ + 0 - y by omega, ← h4]
      simp [List.getD, List.getElem?_eq_getElem h0]
    rw [copyF, e, copyF_take b y hy d (at_ + 1) (by omega) (by omega) (fun j hj => by
      have := h3 (j + 1) (by omega)
      rwa [show at_ + 1 + j = at_ + (j + 1) by omega])]
    congr 1
    omega
theorem sprF_squF (b : List Int) (hb : ∀ z ∈ b, 0 ≤ z ∧ z ≤ 255) : ∀ (d at_ : Nat), b.length ≤ at_ + d → at_ ≤ b.length → sprF (squF b d at_) (b.take at_) = some b
  | 0, at_, h1, h2 => by
    rw [squF, sprF, List.take_of_length_le (by omega)]
  | d + 1, at_, h1, h2 => by
    unfold squF
    by_cases h0 : at_ < b.length
    · rw [if_pos h0]
      have eg : b.getD at_ 0 = b[at_] := by simp [List.getD, List.getElem?_eq_getElem h0]
      have hx := hb b[at_] (List.getElem_mem h0)
      have et : b.take at_ ++ [b[at_]] = b.take (at_ + 1) := (List.take_succ_eq_append_getElem h0).symm
      by_cases h3 : (bestP b at_).1 ≥ 3
      · rw [if_pos h3]
        obtain ⟨p1, p2, p3, p4, p5, p6⟩ := bestP_use b at_ h2 h3
        generalize (bestP b at_).1 = n at *
        generalize (bestP b at_).2 = y at *
        rw [sprF, if_neg (by omega), if_neg (by omega), if_pos (by omega), if_pos (by simp; omega)]
        rw [show (((128 + n : Nat) : Int) - 128).toNat = n by omega, Int.toNat_natCast, copyF_take b y p1 n at_ p3 p5 p6]
        exact sprF_squF b hb d (at_ + n) (by omega) p5
      · rw [if_neg h3, eg]
        by_cases h4 : b[at_] > 0 ∧ b[at_] < 128
        · rw [if_pos h4, sprF_lit _ _ _ (by omega), et]
          exact sprF_squF b hb d (at_ + 1) (by omega) (by omega)
        · rw [if_neg h4, sprF, if_neg (by omega), if_pos rfl, if_neg (by omega), et]
          exact sprF_squF b hb d (at_ + 1) (by omega) (by omega)
    · rw [if_neg h0, sprF, List.take_of_length_le (by omega)]
/-- What is squeezed spreads to what it was. -/
theorem sprP_squP (b : List Int) (hb : ∀ z ∈ b, 0 ≤ z ∧ z ≤ 255) (h : b.length ≤ 3000) : sprP (squP b) = (b, true) := by
  unfold sprP squP
  rw [if_neg (by omega)]
  have := sprF_squF b hb b.length 0 (by omega) (by omega)
  rw [List.take_zero] at this
  rw [this, sprR, if_neg (by omega)]
theorem spec_Spread.ev_c (b : List Int) (i x y : Int) (hx : 131 ≤ x ∧ x ≤ 228) (hy : 1 ≤ y) (r : List Int × Bool) : ∀ (d c : Nat) (o : List Int), (c : Int) + d = x - 128 → y ≤ o.length → o.length + d < 140737488355328 →
    Ev (fun k => if ((copyF d y.toNat o).length : Int) > 3000 then some (([] : List Int), false) else spec_Spread.l0 k b [] (copyF d y.toNat o) i) r → Ev (fun k => spec_Spread.l1 k b [] o i x y c) r
  | 0, c, o, hc, ho, hl, H => by
    refine ev_succ ?_
    simp only [spec_Spread.l1]
    have e := w64 (x := x - 128) (by omega) (by omega)
    exact ev_neg (by rw [e]; omega) H
  | d + 1, c, o, hc, ho, hl, H => by
    refine ev_succ ?_
    simp only [spec_Spread.l1]
    have e := w64 (x := x - 128) (by omega) (by omega)
    have e1 : wrap64 ((c : Int) + 1) = ((c + 1 : Nat) : Int) := w64 (by omega) (by omega)
    obtain ⟨q1, q2, q3⟩ := copyF_idx o y hy ho (by omega)
    refine ev_pos (by rw [e]; omega) (ev_pos q1 (ev_pos q2 (ev_pos (by omega) ?_)))
    rw [q3, e1]
    exact spec_Spread.ev_c b i x y hx hy r d (c + 1) _ (by omega) (by simp; omega) (by simp; omega) H
theorem spec_Spread.ev_l (b : List Int) (hb : ∀ z ∈ b, 0 ≤ z ∧ z ≤ 255) (hn : b.length ≤ 1048576) : ∀ (d i : Nat) (o : List Int), b.length ≤ i + d → i ≤ b.length → o.length ≤ 100 * i → Ev (fun k => spec_Spread.l0 k b [] o i) (sprR (sprF (b.drop i) o))
  | 0, i, o, hd, hi, ho => by
    refine ev_succ ?_
    simp only [spec_Spread.l0]
    rw [List.drop_of_length_le (by omega), sprF, sprR]
    refine ev_neg (by omega) ?_
    by_cases h : o.length > 3000
    · rw [if_pos h]; exact ev_pos (by omega) (Ev.now _)
    · rw [if_neg h]; exact ev_neg (by omega) (Ev.now _)
  | d + 1, i, o, hd, hi, ho => by
    refine ev_succ ?_
    simp only [spec_Spread.l0]
    by_cases h : i < b.length
    · refine ev_pos (by omega) (ev_pos (by omega) ?_)
      have hr : rd b (i : Int) = b[i] := rd_lt b i h
      have hz := hb b[i] (List.getElem_mem h)
      have hw : wrap64 ((i : Int) + 1) = ((i + 1 : Nat) : Int) := w64 (by omega) (by omega)
      have hw2 : wrap64 ((i : Int) + 2) = ((i + 2 : Nat) : Int) := w64 (by omega) (by omega)
      have hx : wrap64 b[i] = b[i] := w64 (by omega) (by omega)
      rw [List.drop_eq_getElem_cons h]
      rw [hr, hx, hw, hw2, spec_l1In.eq]
      generalize b[i] = x at *
      refine ev_bind_some rfl ?_
      by_cases h1 : 1 ≤ x ∧ x ≤ 127
      · rw [sprF_lit _ _ _ h1]
        refine ev_pos (decide_eq_true h1) (ev_pos (by omega) ?_)
        exact spec_Spread.ev_l b hb hn d (i + 1) _ (by omega) (by omega) (by simp; omega)
      refine ev_neg (by simpa using h1) ?_
      by_cases h2 : i + 1 < b.length
      · refine ev_neg (by omega) (ev_pos (by omega) (ev_pos (by omega) ?_))
        have hr2 : rd b ((i + 1 : Nat) : Int) = b[i + 1] := rd_lt b (i + 1) h2
        have hzy := hb b[i + 1] (List.getElem_mem h2)
        have hy : wrap64 b[i + 1] = b[i + 1] := w64 (by omega) (by omega)
        have hm : b[i + 1] % 256 = b[i + 1] := by omega
        rw [List.drop_eq_getElem_cons h2, hr2, hy, hm, spec_l1In.eq, spec_l1In.eq]
        generalize b[i + 1] = y at *
        by_cases h0 : x = 0
        · subst h0
          rw [sprF_zero]
          refine ev_pos rfl ?_
          by_cases hy0 : y = 0
          · rw [if_neg (by omega)]
            exact ev_pos hy0 (ev_pos (by omega) (spec_Spread.ev_l b hb hn d (i + 2) _ (by omega) (by omega) (by simp; omega)))
          · refine ev_neg hy0 ?_
            by_cases hy1 : y < 128
            · rw [if_pos (by omega)]
              exact ev_pos hy1 (Ev.now _)
            · rw [if_neg (by omega)]
              exact ev_neg hy1 (ev_pos (by omega) (spec_Spread.ev_l b hb hn d (i + 2) _ (by omega) (by omega) (by simp; omega)))
        · refine ev_neg h0 (ev_bind_some rfl ?_)
          by_cases h3 : 131 ≤ x ∧ x ≤ 228
          · rw [sprF_copy _ _ _ _ h3]
            refine ev_pos (decide_eq_true h3) (ev_bind_some rfl (ev_succ ?_))
            simp only [spec_Spread.j1]
            by_cases h4 : 1 ≤ y ∧ y ≤ (o.length : Int)
            · rw [if_pos h4]
              refine ev_neg (by simp [h4]) ?_
              refine spec_Spread.ev_c b _ x y h3 h4.1 _ (x - 128).toNat 0 o (by omega) h4.2 (by omega) ?_
              have hlen := copyF_length (x - 128).toNat y.toNat o
              by_cases h5 : (copyF (x - 128).toNat y.toNat o).length > 3000
              · rw [sprR_long _ _ h5]
                exact ev_pos (by omega) (Ev.now _)
              · exact ev_neg (by omega) (spec_Spread.ev_l b hb hn d (i + 2) _ (by omega) (by omega) (by omega))
            · rw [if_neg h4]
              exact ev_pos (by simp only [Bool.not_eq_true', decide_eq_false_iff_not]; exact h4) (Ev.now _)
          · rw [sprF_bad _ _ _ _ h1 h0 h3]
            refine ev_neg (by simpa using h3) (ev_succ ?_)
            simp only [spec_Spread.j1]
            exact ev_pos trivial (Ev.now _)
      · rw [List.drop_of_length_le (by omega), sprF_one _ _ h1]
        exact ev_pos (by omega) (Ev.now _)
    · rw [List.drop_of_length_le (by omega), sprF, sprR]
      refine ev_neg (by omega) ?_
      by_cases h : o.length > 3000
      · rw [if_pos h]; exact ev_pos (by omega) (Ev.now _)
      · rw [if_neg h]; exact ev_neg (by omega) (Ev.now _)
theorem spec_Spread.ev (b : List Int) (hb : ∀ z ∈ b, 0 ≤ z ∧ z ≤ 255) (hn : b.length ≤ 1048576) : Ev (fun k => spec_Spread.f k b) (sprP b) := by
  unfold spec_Spread.f sprP
  have := spec_Spread.ev_l b hb hn b.length 0 [] (by omega) (by omega) (by simp)
  simpa using this
theorem FnSqueezed : laws_FnSqueezed.Pure := by
  intro s _ _ _
  apply Ev.rounds (g := fun k => laws_FnSqueezed.f k s)
  unfold laws_FnSqueezed.f
  simp only [laws_big.eq, Option.bind_some]
  by_cases hs : (s.length : Int) > 1048576
  · exact ev_pos (by simpa using hs) (Ev.now _)
  refine ev_neg (by simpa using hs) ?_
  have hs' : s.length ≤ 1048576 := by omega
  obtain ⟨b, e0, hb⟩ := spec_DrawSqueeze.ev s hs'
  obtain ⟨d, e1, hd⟩ := spec_DrawSpread.ev s hs'
  obtain ⟨r, i, j, e2, hr⟩ := spec_DrawRun.ev s hs'
  have hdl : d.length ≤ 1048576 := Nat.le_trans hd.1 (by decide)
  have hrl : r.length ≤ 9223372036854775000 := Nat.le_trans hr.1 (by decide)
  refine Ev.bind e0 (Ev.bind (impl_Squeeze.ev b hb.2) (Ev.bind e1 (Ev.bind (impl_Spread.ev d hd.2 hdl) (Ev.bind (spec_Spread.ev d hd.2 hdl) (Ev.bind e2 (Ev.bind (spec_Squeeze.ev b hb.2) (ev_pos rfl (ev_neg (by simp) (ev_pos rfl (Ev.bind (impl_Run.ev r hrl i j) (Ev.bind (spec_Run.ev r hrl i j) ?_)))))))))))
  rw [bne_self_eq_false]
  refine ev_succ ?_
  simp only [laws_FnSqueezed.j0]
  refine ev_neg (by simp) ?_
  by_cases hb3 : b.length > 3000
  · have e : squP b = [] := by unfold squP; rw [if_pos hb3]
    rw [e]
    exact ev_pos (by omega) (Ev.now _)
  · have h1 := squP_length b
    have e := sprP_squP b hb.2 (by omega)
    have hql : (squP b).length ≤ 1048576 := by omega
    refine ev_neg (by omega) (Ev.bind (impl_Spread.ev (squP b) (squP_bytes b hb.2) hql) ?_)
    rw [e]
    have hw : wrap64 (2 * (b.length : Int)) = 2 * b.length := w64 (by omega) (by omega)
    refine ev_pos rfl (ev_pos rfl (ev_pos (by rw [hw]; omega) ?_))
    have h2 := sprP_length d
    by_cases hk : (sprP d).2 = true
    · exact ev_pos hk (ev_eq (Ev.now _) (decide_eq_true (by omega)))
    · have h0 : (sprP d).1.length = 0 := by
        revert hk
        unfold sprP
        cases sprF d [] with
        | none => intro _; rfl
        | some o =>
          rw [sprR]
          split
          · intro _; rfl
          · intro h; exact absurd rfl h
      exact ev_neg hk (ev_pos (by omega) (ev_eq (Ev.now _) (decide_eq_true (by omega))))

end Go.Proofs.Ytfikbjbijpbdkaa.Pure
