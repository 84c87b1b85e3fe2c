/- FnExactSqueeze: the plain law: what the printed functions tell answers true at every input. No condition. -/
import Derived.Test.YtkejojcjmlnpgaaQFnExactSqueezex3
import Derived.Test.YtkejojcjmlnpgaaAid
namespace Go.Proofs.Ytkejojcjmlnpgaa.Pure
open Go.RowKit Go.Proofs.Ytkejojcjmlnpgaa.QFnExactSqueeze Go.Proofs.YtkejojcjmlnpgaaW.PrintWords Go.Proofs.YtkejojcjmlnpgaaW.PrintLast Go.Proofs.YtkejojcjmlnpgaaW.PrintMore Go.Proofs.Ytkejojcjmlnpgaa.Aid
set_option linter.unusedVariables false
set_option linter.unusedSimpArgs false

/-- A run from n on (d: how many more it may have). -/
def runF (b : List Int) (at_ back : Nat) : Nat → Nat → Nat
  | 0, n => n
  | d + 1, n => if at_ + n < b.length ∧ b.getD (at_ + n) 0 = b.getD (at_ + n - back) 0 then runF b at_ back d (n + 1) else n
/-- Run. -/
def runP (b : List Int) (at_ back : Nat) : Nat := runF b at_ back 100 0
def runI (b : List Int) (at_ back : Int) : Int := if 1 ≤ back ∧ back ≤ 255 ∧ back ≤ at_ ∧ at_ < b.length then runP b at_.toNat back.toNat else 0
theorem impl_Run.ev_l (b : List Int) (hn : b.length ≤ 9223372036854775000) (at_ back : Nat) (hb1 : 1 ≤ back) (hb2 : back ≤ at_) (ha : at_ < b.length) : ∀ (d n : Nat), n + d = 100 → at_ + n ≤ b.length → Ev (fun k => impl_Run.l0 k b at_ back n) (runF b at_ back d n)
  | 0, n, hd, hl => by
    refine Ev.step (f := fun _ => some (n : Int)) (fun k => ?_) (Ev.now _)
    simp only [impl_Run.l0]
    rw [if_neg (by omega)]
  | d + 1, n, hd, hl => by
    have hw : wrap64 ((at_ : Int) + n) = ((at_ + n : Nat) : Int) := (w64 (by omega) (by omega)).trans (by omega)
    have hw2 : wrap64 (((at_ + n : Nat) : Int) - back) = ((at_ + n - back : Nat) : Int) := (w64 (by omega) (by omega)).trans (by omega)
    unfold runF
    by_cases h : at_ + n < b.length ∧ b.getD (at_ + n) 0 = b.getD (at_ + n - back) 0
    · rw [if_pos h]
      refine Ev.step (fun k => ?_) (impl_Run.ev_l b hn at_ back hb1 hb2 ha d (n + 1) (by omega) (by omega))
      simp only [impl_Run.l0]
      rw [if_pos (by omega), hw, if_pos (by omega), if_pos (by omega), hw2, if_pos (by omega), if_pos (by omega), if_pos (by rw [rd_nat, rd_nat]; exact h.2), w64 (x := (n : Int) + 1) (by omega) (by omega)]
      simp
    · rw [if_neg h]
      refine Ev.step (f := fun _ => some (n : Int)) (fun k => ?_) (Ev.now _)
      simp only [impl_Run.l0]
      rw [if_pos (by omega), hw]
      by_cases h1 : at_ + n < b.length
      · rw [if_pos (by omega), if_pos (by omega), hw2, if_pos (by omega), if_pos (by omega), if_neg]
        rw [rd_nat, rd_nat]
        exact fun h2 => h ⟨h1, h2⟩
      · rw [if_neg (by omega)]
theorem impl_Run.ev (b : List Int) (hn : b.length ≤ 9223372036854775000) (a c : Int) : Ev (fun k => impl_Run.f k b a c) (runI b a c) := by
  unfold impl_Run.f runI
  have hj : Ev (fun k => impl_Run.j0 k b a c true) 0 := by
    refine Ev.step (f := fun _ => some 0) (fun k => ?_) (Ev.now _)
    simp only [impl_Run.j0]
    rw [if_pos trivial]
  by_cases h1 : c < 1
  · rw [if_neg (by omega)]; exact ev_pos h1 hj
  refine ev_neg h1 ?_
  by_cases h2 : c > 255
  · rw [if_neg (by omega)]; exact ev_pos h2 hj
  refine ev_neg h2 ?_
  by_cases h3 : c > a
  · rw [if_neg (by omega)]; exact ev_pos h3 hj
  refine ev_neg h3 ?_
  by_cases h4 : a ≥ (b.length : Int)
  · rw [if_neg (by omega), decide_eq_true h4]; exact hj
  rw [decide_eq_false h4, if_pos (by omega)]
  obtain ⟨n, rfl⟩ := Int.eq_ofNat_of_zero_le (by omega : 0 ≤ a)
  obtain ⟨m, rfl⟩ := Int.eq_ofNat_of_zero_le (by omega : 0 ≤ c)
  refine Ev.step (fun k => ?_) (impl_Run.ev_l b hn n m (by omega) (by omega) (by omega) 100 0 (by omega) (by omega))
  simp only [impl_Run.j0]
  rw [if_neg (by simp)]
  rfl
theorem runI_nat (b : List Int) (at_ back : Nat) (h1 : 1 ≤ back) (h2 : back ≤ 255) (h3 : back ≤ at_) (h4 : at_ < b.length) : runI b at_ back = runP b at_ back := by
  unfold runI
  rw [if_pos (by omega)]
  simp
/-- The longest run, and how far behind it is (d: how many more places behind are tried). -/
def bestF (b : List Int) (at_ : Nat) : Nat → Nat → Nat × Nat → Nat × Nat
  | 0, _, r => r
  | d + 1, back, r => bestF b at_ d (back + 1) (if runP b at_ back > r.1 then (runP b at_ back, back) else r)
def bestP (b : List Int) (at_ : Nat) : Nat × Nat := bestF b at_ (min 255 at_) 1 (0, 0)
def squF (b : List Int) : Nat → Nat → List Int
  | 0, _ => []
  | d + 1, at_ => if at_ < b.length then
      if (bestP b at_).1 ≥ 3 then ((128 + (bestP b at_).1 : Nat) : Int) :: ((bestP b at_).2 : Int) :: squF b d (at_ + (bestP b at_).1)
      else if b.getD at_ 0 > 0 ∧ b.getD at_ 0 < 128 then b.getD at_ 0 :: squF b d (at_ + 1)
      else 0 :: b.getD at_ 0 :: squF b d (at_ + 1)
    else []
/-- Squeeze. -/
def squP (b : List Int) : List Int := if b.length > 3000 then [] else squF b b.length 0
theorem sqE1 (n : Nat) (h : n ≤ 100) : wrap64 (128 + (n : Int)) % 256 = ((128 + n : Nat) : Int) := by rw [w64 (by omega) (by omega)]; omega
theorem sqE2 (n : Nat) (h : n ≤ 255) : (n : Int) % 256 = n := by omega
theorem sqE3 (i n m : Nat) (h : i + n ≤ m) (hm : m ≤ 3000) : wrap64 ((i : Int) + n) = ((i + n : Nat) : Int) := w64 (by omega) (by omega)
theorem impl_longest.ev_l (b : List Int) (hn : b.length ≤ 9223372036854775000) (at_ : Nat) (ha : at_ < b.length) : ∀ (d back : Nat) (n far : Nat), back + d = min 255 at_ + 1 → 1 ≤ back →
    Ev (fun k => impl_longest.l0 k b at_ n far back) (((bestF b at_ d back (n, far)).1 : Int), ((bestF b at_ d back (n, far)).2 : Int))
  | 0, back, n, far, hd, h1 => by
    refine ev_succ ?_
    simp only [impl_longest.l0]
    by_cases h : (back : Int) ≤ 255
    · refine ev_pos h ?_
      rw [decide_eq_false (by omega)]
      refine ev_succ ?_
      simp only [impl_longest.j1]
      exact ev_neg (by simp) (Ev.now _)
    · refine ev_neg h ?_
      refine ev_succ ?_
      simp only [impl_longest.j1]
      exact ev_neg (by simp) (Ev.now _)
  | d + 1, back, n, far, hd, h1 => by
    refine ev_succ ?_
    simp only [impl_longest.l0]
    refine ev_pos (by omega) ?_
    rw [decide_eq_true (by omega)]
    refine ev_succ ?_
    simp only [impl_longest.j1]
    refine ev_pos (by simp) ?_
    refine Ev.bind (ev_eq (impl_Run.ev b hn at_ back) (runI_nat b at_ back h1 (by omega) (by omega) ha)) ?_
    have hw : wrap64 ((back : Int) + 1) = ((back + 1 : Nat) : Int) := w64 (by omega) (by omega)
    rw [hw, bestF]
    by_cases h : runP b at_ back > n
    · rw [if_pos h]
      refine ev_pos (by omega) ?_
      exact impl_longest.ev_l b hn at_ ha d (back + 1) (runP b at_ back) back (by omega) (by omega)
    · rw [if_neg h]
      refine ev_neg (by omega) ?_
      exact impl_longest.ev_l b hn at_ ha d (back + 1) n far (by omega) (by omega)
theorem impl_longest.ev (b : List Int) (hn : b.length ≤ 9223372036854775000) (at_ : Nat) (ha : at_ < b.length) : Ev (fun k => impl_longest.f k b at_) (((bestP b at_).1 : Int), ((bestP b at_).2 : Int)) := by
  unfold impl_longest.f
  exact impl_longest.ev_l b hn at_ ha (min 255 at_) 1 0 0 (by omega) (by omega)
theorem runF_spec (b : List Int) (at_ back : Nat) : ∀ (d n : Nat), at_ + n ≤ b.length → (∀ j, j < n → b.getD (at_ + j) 0 = b.getD (at_ + j - back) 0) →
    n ≤ runF b at_ back d n ∧ runF b at_ back d n ≤ n + d ∧ at_ + runF b at_ back d n ≤ b.length ∧ ∀ j, j < runF b at_ back d n → b.getD (at_ + j) 0 = b.getD (at_ + j - back) 0
  | 0, n, h1, h2 => ⟨Nat.le_refl _, Nat.le_refl _, h1, h2⟩
  | d + 1, n, h1, h2 => by
    unfold runF
    by_cases h : at_ + n < b.length ∧ b.getD (at_ + n) 0 = b.getD (at_ + n - back) 0
    · rw [if_pos h]
      obtain ⟨q1, q2, q3, q4⟩ := runF_spec b at_ back d (n + 1) (by omega) (fun j hj => by
        by_cases e : j = n
        · subst e; exact h.2
        · exact h2 j (by omega))
      exact ⟨by omega, by omega, q3, q4⟩
    · rw [if_neg h]
      exact ⟨Nat.le_refl _, by omega, h1, h2⟩
theorem runP_spec (b : List Int) (at_ back : Nat) (h : at_ ≤ b.length) : runP b at_ back ≤ 100 ∧ at_ + runP b at_ back ≤ b.length ∧ ∀ j, j < runP b at_ back → b.getD (at_ + j) 0 = b.getD (at_ + j - back) 0 := by
  obtain ⟨_, q2, q3, q4⟩ := runF_spec b at_ back 100 0 (by omega) (fun j hj => by omega)
  exact ⟨by unfold runP; omega, q3, q4⟩
theorem bestF_spec (b : List Int) (at_ : Nat) : ∀ (d back : Nat) (r : Nat × Nat), back + d = min 255 at_ + 1 → 1 ≤ back → (r = (0, 0) ∨ (1 ≤ r.2 ∧ r.2 ≤ min 255 at_ ∧ r.1 = runP b at_ r.2)) →
    bestF b at_ d back r = (0, 0) ∨ (1 ≤ (bestF b at_ d back r).2 ∧ (bestF b at_ d back r).2 ≤ min 255 at_ ∧ (bestF b at_ d back r).1 = runP b at_ (bestF b at_ d back r).2)
  | 0, back, r, h1, h2, h3 => h3
  | d + 1, back, r, h1, h2, h3 => by
    unfold bestF
    refine bestF_spec b at_ d (back + 1) _ (by omega) (by omega) ?_
    split
    · exact .inr ⟨h2, by omega, rfl⟩
    · exact h3
theorem bestP_spec (b : List Int) (at_ : Nat) : bestP b at_ = (0, 0) ∨ (1 ≤ (bestP b at_).2 ∧ (bestP b at_).2 ≤ min 255 at_ ∧ (bestP b at_).1 = runP b at_ (bestP b at_).2) :=
  bestF_spec b at_ _ _ _ (by omega) (by omega) (.inl rfl)
theorem bestP_use (b : List Int) (at_ : Nat) (h : at_ ≤ b.length) (h3 : (bestP b at_).1 ≥ 3) : 1 ≤ (bestP b at_).2 ∧ (bestP b at_).2 ≤ 255 ∧ (bestP b at_).2 ≤ at_ ∧ (bestP b at_).1 ≤ 100 ∧ at_ + (bestP b at_).1 ≤ b.length ∧ ∀ j, j < (bestP b at_).1 → b.getD (at_ + j) 0 = b.getD (at_ + j - (bestP b at_).2) 0 := by
  rcases bestP_spec b at_ with e | ⟨e1, e2, e3⟩
  · rw [e] at h3; omega
  · have hs := runP_spec b at_ (bestP b at_).2 h
    rw [← e3] at hs
    exact ⟨e1, by omega, by omega, hs.1, hs.2.1, hs.2.2⟩
theorem squF_length (b : List Int) : ∀ (d at_ : Nat), at_ ≤ b.length → (squF b d at_).length ≤ 2 * (b.length - at_)
  | 0, at_, h => by simp [squF]
  | d + 1, at_, h => by
    unfold squF
    by_cases h0 : at_ < b.length
    · rw [if_pos h0]
      by_cases h3 : (bestP b at_).1 ≥ 3
      · rw [if_pos h3]
        obtain ⟨_, _, _, _, q, _⟩ := bestP_use b at_ h h3
        have := squF_length b d (at_ + (bestP b at_).1) q
        simp only [List.length_cons]; omega
      · rw [if_neg h3]
        have := squF_length b d (at_ + 1) (by omega)
        split <;> (simp only [List.length_cons]; omega)
    · rw [if_neg h0]; simp
theorem squP_length (b : List Int) : (squP b).length ≤ 2 * b.length := by
  unfold squP
  split
  · simp
  · have := squF_length b b.length 0 (by omega); omega
theorem squP_len (b : List Int) : (squP b).length ≤ 6000 := by
  unfold squP
  split
  · simp
  · have := squF_length b b.length 0 (by omega); omega
theorem squF_byte (b : List Int) (hb : ∀ z ∈ b, 0 ≤ z ∧ z ≤ 255) : ∀ (d at_ : Nat), ∀ z ∈ squF b d at_, 0 ≤ z ∧ z ≤ 255
  | 0, at_, z, h => by simp [squF] at h
  | d + 1, at_, z, h => by
    unfold squF at h
    by_cases h0 : at_ < b.length
    · rw [if_pos h0] at h
      have hx : 0 ≤ b.getD at_ 0 ∧ b.getD at_ 0 ≤ 255 := by
        have := hb b[at_] (List.getElem_mem h0)
        simpa [List.getD, List.getElem?_eq_getElem h0] using this
      by_cases h3 : (bestP b at_).1 ≥ 3
      · rw [if_pos h3] at h
        obtain ⟨p1, p2, p3, p4, _, _⟩ := bestP_use b at_ (by omega) h3
        rcases List.mem_cons.1 h with rfl | h
        · omega
        rcases List.mem_cons.1 h with rfl | h
        · omega
        exact squF_byte b hb d _ z h
      · rw [if_neg h3] at h
        split at h
        · rcases List.mem_cons.1 h with rfl | h
          · exact hx
          exact squF_byte b hb d _ z h
        · rcases List.mem_cons.1 h with rfl | h
          · omega
          rcases List.mem_cons.1 h with rfl | h
          · exact hx
          exact squF_byte b hb d _ z h
    · rw [if_neg h0] at h; simp at h
theorem squP_byte (b : List Int) (hb : ∀ z ∈ b, 0 ≤ z ∧ z ≤ 255) : ∀ z ∈ squP b, 0 ≤ z ∧ z ≤ 255 := by
  intro z h
  unfold squP at h
  split at h
  · simp at h
  · exact squF_byte b hb _ _ z h
theorem impl_Squeeze.ev_l (b : List Int) (hb : ∀ z ∈ b, 0 ≤ z ∧ z ≤ 255) (hn : b.length ≤ 3000) : ∀ (d i : Nat) (y : List Int), b.length ≤ i + d → i ≤ b.length → y.length ≤ 2 * i → Ev (fun k => impl_Squeeze.l0 k b y i) (y ++ squF b d i)
  | 0, i, y, hd, hi, hy => by
    refine ev_succ ?_
    simp only [impl_Squeeze.l0]
    refine ev_neg (by omega) (ev_eq (Ev.now _) (by simp [squF]))
  | d + 1, i, y, hd, hi, hy => by
    refine ev_succ ?_
    simp only [impl_Squeeze.l0]
    rw [squF]
    by_cases h : i < b.length
    · rw [if_pos h]
      refine ev_pos (by omega) (Ev.bind (impl_longest.ev b (by omega) i h) ?_)
      dsimp only
      have hr : rd b (i : Int) = b[i] := rd_lt b i h
      have hg : b.getD i 0 = b[i] := by simp [List.getD, List.getElem?_eq_getElem h]
      have hz := hb b[i] (List.getElem_mem h)
      have hw : wrap64 ((i : Int) + 1) = ((i + 1 : Nat) : Int) := w64 (by omega) (by omega)
      by_cases h3 : (bestP b i).1 ≥ 3
      · rw [if_pos h3]
        obtain ⟨p1, p2, p3, p4, p5, _⟩ := bestP_use b i hi h3
        generalize (bestP b i).1 = n at *
        generalize (bestP b i).2 = far at *
        have e1 := sqE1 n p4
        have e2 := sqE2 far p2
        have e3 := sqE3 i n b.length p5 hn
        have q1 : (n : Int) ≥ 3 := by exact_mod_cast h3
        have q2 : y.length + 2 < 140737488355328 := by clear e1 e2 e3 hr hg hz hw p1 p2 p3 p4 p5 q1 h3 hb; omega
        have q3 : b.length ≤ i + n + d := by clear e1 e2 e3 hr hg hz hw p1 p2 p3 p4 p5 q1 hb; omega
        have q4 : y.length + 2 ≤ 2 * (i + n) := by clear e1 e2 e3 hr hg hz hw p1 p2 p3 p4 p5 q1 hb; omega
        refine ev_pos q1 (ev_bind_some rfl (ev_pos (by simpa using q2) ?_))
        rw [e1, e2, e3]
        exact ev_eq (impl_Squeeze.ev_l b hb hn d (i + n) (y ++ [((128 + n : Nat) : Int), (far : Int)]) q3 p5 (by simpa using q4)) (by simp)
      · rw [if_neg h3, hr, hg, hw]
        refine ev_neg (by omega) (ev_pos (by omega) ?_)
        generalize b[i] = x at *
        by_cases h0 : x > 0
        · by_cases h1 : x < 128
          · rw [if_pos ⟨h0, h1⟩]
            refine ev_pos h0 (ev_pos h1 (ev_pos (by omega) ?_))
            exact ev_eq (impl_Squeeze.ev_l b hb hn d (i + 1) (y ++ [x]) (by omega) (by omega) (by simp; omega)) (by simp)
          · rw [if_neg (by omega)]
            refine ev_pos h0 (ev_neg h1 (ev_bind_some rfl (ev_pos (by simp; omega) ?_)))
            exact ev_eq (impl_Squeeze.ev_l b hb hn d (i + 1) (y ++ [0, x]) (by omega) (by omega) (by simp; omega)) (by simp)
        · rw [if_neg (by omega)]
          refine ev_neg h0 (ev_bind_some rfl (ev_pos (by simp; omega) ?_))
          exact ev_eq (impl_Squeeze.ev_l b hb hn d (i + 1) (y ++ [0, x]) (by omega) (by omega) (by simp; omega)) (by simp)
    · rw [if_neg h]
      exact ev_neg (by omega) (ev_eq (Ev.now _) (by simp))
theorem impl_Squeeze.ev (b : List Int) (hb : ∀ z ∈ b, 0 ≤ z ∧ z ≤ 255) : Ev (fun k => impl_Squeeze.f k b) (squP b) := by
  unfold impl_Squeeze.f squP
  simp only [Option.bind_some]
  by_cases h : b.length > 3000
  · rw [if_pos h]; exact ev_pos (by omega) (Ev.now _)
  · rw [if_neg h]
    refine ev_neg (by omega) ?_
    have := impl_Squeeze.ev_l b hb (by omega) b.length 0 [] (by omega) (by omega) (by simp)
    simpa using this
theorem laws_eqByteS.ev_l (x : List Int) (hn : x.length ≤ 9223372036854775000) : ∀ (d i : Nat), i + d = x.length → Ev (fun k => laws_eqByteS.l0 k x x i) true
  | 0, i, hd => by
    refine Ev.step (f := fun _ => some true) (fun k => ?_) (Ev.now _)
    simp only [laws_eqByteS.l0]
    rw [if_neg (by omega)]
  | d + 1, i, hd => by
    refine Ev.step (fun k => ?_) (laws_eqByteS.ev_l x hn d (i + 1) (by omega))
    simp only [laws_eqByteS.l0]
    rw [if_pos (by omega), if_pos (by omega), if_pos (by omega), w64 (by omega) (by omega)]
    simp
theorem laws_eqByteS.ev (x : List Int) (hn : x.length ≤ 9223372036854775000) : Ev (fun k => laws_eqByteS.f k x x) true := by
  unfold laws_eqByteS.f
  exact ev_pos rfl (laws_eqByteS.ev_l x hn x.length 0 (by omega))
theorem laws_heldByteS.ev_l (a : Int) (ha : 0 ≤ a) (ha1 : a ≤ 4611686018427387904) (n : Nat) (hn : n ≤ 1152921504606846976) : ∀ (d i : Nat), i + d = n → Ev (fun k => laws_heldByteS.l0 k (cnt (fun z => z % 256) a n) (a + i) i) (a + n)
  | 0, i, hd => by
    refine Ev.step (f := fun _ => some (a + n)) (fun k => ?_) (Ev.now _)
    simp only [laws_heldByteS.l0]
    rw [if_neg (by rw [cnt_length]; omega)]
    obtain rfl : i = n := by omega
    rfl
  | d + 1, i, hd => by
    have h := laws_heldByteS.ev_l a ha ha1 n hn d (i + 1) (by omega)
    refine Ev.step (fun k => ?_) h
    simp only [laws_heldByteS.l0]
    rw [if_pos (by rw [cnt_length]; omega), if_pos (by omega), if_pos (by rw [rd_nat, cnt_get _ _ _ _ _ (by omega)]), w64 (x := (i : Int) + 1) (by omega) (by omega), w64 (by omega) (by omega)]
    simp [Int.add_assoc]
theorem laws_heldByteS.ev (a : Int) (ha : 0 ≤ a) (ha1 : a ≤ 4611686018427387904) (n : Nat) (hn : n ≤ 1152921504606846976) : Ev (fun k => laws_heldByteS.f k (cnt (fun z => z % 256) a n) a) (a + n) := by
  unfold laws_heldByteS.f
  have h := laws_heldByteS.ev_l a ha ha1 n hn n 0 (by omega)
  simpa using h
theorem laws_markByteS.ev_l (a : Int) (ha : 0 ≤ a) (ha1 : a ≤ 4611686018427387904) : ∀ (d i : Nat) (y : List Int), i + d = y.length → y.length ≤ 1152921504606846976 → y.take i = cnt (fun z => z % 256) a i → Ev (fun k => laws_markByteS.l0 k y (a + i) i) (a + y.length, cnt (fun z => z % 256) a y.length)
  | 0, i, y, hd, hn, ht => by
    refine Ev.step (f := fun _ => some (a + y.length, cnt (fun z => z % 256) a y.length)) (fun k => ?_) (Ev.now _)
    simp only [laws_markByteS.l0]
    rw [if_neg (by omega)]
    obtain rfl : i = y.length := by omega
    rw [← cnt_all (fun z => z % 256) a y _ rfl ht]
  | d + 1, i, y, hd, hn, ht => by
    have h := laws_markByteS.ev_l a ha ha1 d (i + 1) (y.set i ((fun z => z % 256) (a + i))) (by simp; omega) (by simp; omega) (set_cnt (fun z => z % 256) a y i (by omega) ht)
    rw [List.length_set] at h
    refine Ev.step (fun k => ?_) h
    simp only [laws_markByteS.l0]
    rw [if_pos (by omega), if_pos (by omega), w64 (x := (i : Int) + 1) (by omega) (by omega), w64 (by omega) (by omega)]
    simp [Int.add_assoc]
theorem laws_markByteS.ev (a : Int) (ha : 0 ≤ a) (ha1 : a ≤ 4611686018427387904) (y : List Int) (hn : y.length ≤ 1152921504606846976) : Ev (fun k => laws_markByteS.f k y a) (a + y.length, cnt (fun z => z % 256) a y.length) := by
  unfold laws_markByteS.f
  have h := laws_markByteS.ev_l a ha ha1 y.length 0 y (by omega) hn (by simp [cnt])
  simpa using h
theorem laws_toByteS.ev_l (x : List Int) (hn : x.length ≤ 281474976710656) : ∀ (d i : Nat) (y : List Int), i + d = x.length → y.length = x.length → y.take i = x.take i → Ev (fun k => laws_toByteS.l0 k x y i) x
  | 0, i, y, hd, hy, ht => by
    refine Ev.step (f := fun _ => some x) (fun k => ?_) (Ev.now _)
    simp only [laws_toByteS.l0]
    rw [if_neg (by omega)]
    have hi : i = x.length := by omega
    subst hi
    rw [List.take_of_length_le (by omega), List.take_of_length_le (Nat.le_refl _)] at ht
    rw [ht]
  | d + 1, i, y, hd, hy, ht => by
    refine Ev.step (fun k => ?_) (laws_toByteS.ev_l x hn d (i + 1) (y.set i (x.getD i 0)) (by omega) (by simp [hy]) (set_take 0 x y i (by omega) hy ht))
    simp only [laws_toByteS.l0]
    rw [if_pos (by omega), if_pos (by omega), if_pos (by omega), w64 (by omega) (by omega), rd_nat]
    simp
theorem laws_toByteS.ev (x : List Int) (hn : x.length ≤ 281474976710656) : Ev (fun k => laws_toByteS.f k x) x := by
  unfold laws_toByteS.f
  refine ev_pos (by omega) (ev_pos (by simp; omega) ?_)
  exact laws_toByteS.ev_l x hn x.length 0 _ (by omega) (by simp) (by simp)
theorem spec_l1In.eq (a b c : Int) : spec_l1In.f a b c = some (decide (b ≤ a ∧ a ≤ c)) := by
  unfold spec_l1In.f
  by_cases h : b ≤ a
  · rw [if_pos h]; simp [h]
  · rw [if_neg h]; simp [h]
theorem spec_Run.ev_l (b : List Int) (hn : b.length ≤ 9223372036854775000) (at_ back : Nat) (hb1 : 1 ≤ back) (hb2 : back ≤ at_) (ha : at_ < b.length) : ∀ (d n : Nat), n + d = 100 → at_ + n ≤ b.length → Ev (fun k => spec_Run.l0 k b at_ back n) (runF b at_ back d n)
  | 0, n, hd, hl => by
    refine Ev.step (f := fun _ => some (n : Int)) (fun k => ?_) (Ev.now _)
    simp only [spec_Run.l0]
    rw [if_neg (by omega)]
  | d + 1, n, hd, hl => by
    have hw : wrap64 ((at_ : Int) + n) = ((at_ + n : Nat) : Int) := (w64 (by omega) (by omega)).trans (by omega)
    have hw2 : wrap64 (((at_ + n : Nat) : Int) - back) = ((at_ + n - back : Nat) : Int) := (w64 (by omega) (by omega)).trans (by omega)
    unfold runF
    by_cases h : at_ + n < b.length ∧ b.getD (at_ + n) 0 = b.getD (at_ + n - back) 0
    · rw [if_pos h]
      refine Ev.step (fun k => ?_) (spec_Run.ev_l b hn at_ back hb1 hb2 ha d (n + 1) (by omega) (by omega))
      simp only [spec_Run.l0]
      rw [if_pos (by omega), hw, if_pos (by omega), if_pos (by omega), hw2, if_pos (by omega), if_pos (by omega), if_pos (by rw [rd_nat, rd_nat]; exact h.2), w64 (x := (n : Int) + 1) (by omega) (by omega)]
      simp
    · rw [if_neg h]
      refine Ev.step (f := fun _ => some (n : Int)) (fun k => ?_) (Ev.now _)
      simp only [spec_Run.l0]
      rw [if_pos (by omega), hw]
      by_cases h1 : at_ + n < b.length
      · rw [if_pos (by omega), if_pos (by omega), hw2, if_pos (by omega), if_pos (by omega), if_neg]
        rw [rd_nat, rd_nat]
        exact fun h2 => h ⟨h1, h2⟩
      · rw [if_neg (by omega)]
theorem spec_Run.ev (b : List Int) (hn : b.length ≤ 9223372036854775000) (a c : Int) : Ev (fun k => spec_Run.f k b a c) (runI b a c) := by
  unfold spec_Run.f runI
  rw [w64 (x := (b.length : Int) - 1) (by omega) (by omega)]
  simp only [spec_l1In.eq, Option.bind_some]
  by_cases h1 : 0 ≤ a ∧ a ≤ (b.length : Int) - 1
  · refine ev_pos (by simpa using h1) ?_
    have hm : spec_l1Min.f a 255 = some (if a < 255 then a else 255) := by unfold spec_l1Min.f; split <;> rfl
    simp only [hm, Option.bind_some]
    by_cases h2 : 1 ≤ c ∧ c ≤ (if a < 255 then a else 255)
    · have h3 : 1 ≤ c ∧ c ≤ 255 ∧ c ≤ a ∧ a < b.length := by
        split at h2 <;> omega
      rw [if_pos h3, decide_eq_true h2]
      obtain ⟨n, rfl⟩ := Int.eq_ofNat_of_zero_le h1.1
      obtain ⟨m, rfl⟩ := Int.eq_ofNat_of_zero_le (by omega : 0 ≤ c)
      refine Ev.step (fun k => ?_) (spec_Run.ev_l b hn n m (by omega) (by omega) (by omega) 100 0 (by omega) (by omega))
      simp only [spec_Run.j0]
      rw [if_neg (by simp)]
      rfl
    · have h3 : ¬ (1 ≤ c ∧ c ≤ 255 ∧ c ≤ a ∧ a < b.length) := by
        split at h2 <;> omega
      rw [if_neg h3, decide_eq_false h2]
      refine Ev.step (f := fun _ => some 0) (fun k => ?_) (Ev.now _)
      simp only [spec_Run.j0]
      rw [if_pos (by simp)]
  · refine ev_neg (by simpa using h1) ?_
    rw [if_neg (by omega)]
    refine Ev.step (f := fun _ => some 0) (fun k => ?_) (Ev.now _)
    simp only [spec_Run.j0]
    rw [if_pos trivial]
theorem spec_l1Min.eq (a b : Int) : spec_l1Min.f a b = some (min a b) := by
  unfold spec_l1Min.f
  by_cases h : a < b
  · rw [if_pos h]; congr 1; omega
  · rw [if_neg h]; congr 1; omega
theorem spec_l3Best.ev_l (b : List Int) (hn : b.length ≤ 9223372036854775000) (at_ : Nat) (ha : at_ < b.length) : ∀ (d back : Nat) (n far : Nat), back + d = min 255 at_ + 1 → 1 ≤ back →
    Ev (fun k => spec_l3Best.l0 k b at_ far n back) (((bestF b at_ d back (n, far)).2 : Int), ((bestF b at_ d back (n, far)).1 : Int))
  | 0, back, n, far, hd, h1 => by
    refine ev_succ ?_
    simp only [spec_l3Best.l0, spec_l1Min.eq, Option.bind_some]
    refine ev_neg (by omega) ?_
    exact Ev.now _
  | d + 1, back, n, far, hd, h1 => by
    refine ev_succ ?_
    simp only [spec_l3Best.l0, spec_l1Min.eq, Option.bind_some]
    refine ev_pos (by omega) ?_
    refine Ev.bind (ev_eq (spec_Run.ev b hn at_ back) (runI_nat b at_ back h1 (by omega) (by omega) ha)) ?_
    have hw : wrap64 ((back : Int) + 1) = ((back + 1 : Nat) : Int) := w64 (by omega) (by omega)
    rw [hw, bestF]
    by_cases h : runP b at_ back > n
    · rw [if_pos h]
      refine ev_pos (by omega) ?_
      exact spec_l3Best.ev_l b hn at_ ha d (back + 1) (runP b at_ back) back (by omega) (by omega)
    · rw [if_neg h]
      refine ev_neg (by omega) ?_
      exact spec_l3Best.ev_l b hn at_ ha d (back + 1) n far (by omega) (by omega)
theorem spec_l3Best.ev (b : List Int) (hn : b.length ≤ 9223372036854775000) (at_ : Nat) (ha : at_ < b.length) : Ev (fun k => spec_l3Best.f k b at_) (((bestP b at_).2 : Int), ((bestP b at_).1 : Int)) := by
  unfold spec_l3Best.f
  exact spec_l3Best.ev_l b hn at_ ha (min 255 at_) 1 0 0 (by omega) (by omega)
theorem spec_Squeeze.ev_l (b : List Int) (hb : ∀ z ∈ b, 0 ≤ z ∧ z ≤ 255) (hn : b.length ≤ 3000) : ∀ (d i : Nat) (y : List Int), b.length ≤ i + d → i ≤ b.length → y.length ≤ 2 * i → Ev (fun k => spec_Squeeze.l0 k b y i) (y ++ squF b d i)
  | 0, i, y, hd, hi, hy => by
    refine ev_succ ?_
    simp only [spec_Squeeze.l0]
    refine ev_neg (by omega) (ev_eq (Ev.now _) (by simp [squF]))
  | d + 1, i, y, hd, hi, hy => by
    refine ev_succ ?_
    simp only [spec_Squeeze.l0]
    rw [squF]
    by_cases h : i < b.length
    · rw [if_pos h]
      refine ev_pos (by omega) (Ev.bind (spec_l3Best.ev b (by omega) i h) ?_)
      dsimp only
      have hr : rd b (i : Int) = b[i] := rd_lt b i h
      have hg : b.getD i 0 = b[i] := by simp [List.getD, List.getElem?_eq_getElem h]
      have hz := hb b[i] (List.getElem_mem h)
      have hw : wrap64 ((i : Int) + 1) = ((i + 1 : Nat) : Int) := w64 (by omega) (by omega)
      by_cases h3 : (bestP b i).1 ≥ 3
      · rw [if_pos h3]
        obtain ⟨p1, p2, p3, p4, p5, _⟩ := bestP_use b i hi h3
        generalize (bestP b i).1 = n at *
        generalize (bestP b i).2 = far at *
        have e1 := sqE1 n p4
        have e2 := sqE2 far p2
        have e3 := sqE3 i n b.length p5 hn
        have q1 : (n : Int) ≥ 3 := by exact_mod_cast h3
        have q2 : y.length + 2 < 140737488355328 := by clear e1 e2 e3 hr hg hz hw p1 p2 p3 p4 p5 q1 h3 hb; omega
        have q3 : b.length ≤ i + n + d := by clear e1 e2 e3 hr hg hz hw p1 p2 p3 p4 p5 q1 hb; omega
        have q4 : y.length + 2 ≤ 2 * (i + n) := by clear e1 e2 e3 hr hg hz hw p1 p2 p3 p4 p5 q1 hb; omega
        refine ev_pos q1 (ev_bind_some rfl (ev_pos (by simpa using q2) ?_))
        rw [e1, e2, e3]
        exact ev_eq (spec_Squeeze.ev_l b hb hn d (i + n) (y ++ [((128 + n : Nat) : Int), (far : Int)]) q3 p5 (by simpa using q4)) (by simp)
      · rw [if_neg h3, hr, hg, hw]
        refine ev_neg (by omega) (ev_pos (by omega) ?_)
        generalize b[i] = x at *
        by_cases h0 : x = 0
        · rw [if_neg (by omega)]
          refine ev_pos h0 (ev_pos (by omega) (ev_bind_some rfl (ev_pos (by simp; omega) ?_)))
          exact ev_eq (spec_Squeeze.ev_l b hb hn d (i + 1) (y ++ [0] ++ [x]) (by omega) (by omega) (by simp; omega)) (by simp)
        · by_cases h1 : x > 127
          · rw [if_neg (by omega)]
            refine ev_neg h0 (ev_pos h1 (ev_pos (by omega) (ev_bind_some rfl (ev_pos (by simp; omega) ?_))))
            exact ev_eq (spec_Squeeze.ev_l b hb hn d (i + 1) (y ++ [0] ++ [x]) (by omega) (by omega) (by simp; omega)) (by simp)
          · rw [if_pos (by omega)]
            refine ev_neg h0 (ev_neg h1 (ev_pos (by omega) ?_))
            exact ev_eq (spec_Squeeze.ev_l b hb hn d (i + 1) (y ++ [x]) (by omega) (by omega) (by simp; omega)) (by simp)
    · rw [if_neg h]
      exact ev_neg (by omega) (ev_eq (Ev.now _) (by simp))
theorem spec_Squeeze.ev (b : List Int) (hb : ∀ z ∈ b, 0 ≤ z ∧ z ≤ 255) : Ev (fun k => spec_Squeeze.f k b) (squP b) := by
  unfold spec_Squeeze.f squP
  simp only [Option.bind_some]
  by_cases h : b.length > 3000
  · rw [if_pos h]; exact ev_pos (by omega) (Ev.now _)
  · rw [if_neg h]
    refine ev_neg (by omega) ?_
    have := spec_Squeeze.ev_l b hb (by omega) b.length 0 [] (by omega) (by omega) (by simp)
    simpa using this
theorem FnExactSqueeze : laws_FnExactSqueeze.Pure := by
  intro b _ _ hb
  apply Ev.rounds (g := fun k => laws_FnExactSqueeze.f k b)
  unfold laws_FnExactSqueeze.f
  by_cases gb : (b.length : Int) > 1048576
  · exact ev_pos gb (Ev.now _)
  refine ev_neg gb ?_
  have f0_ := laws_toByteS.ev b (by omega)
  have f1_ := laws_eqByteS.ev b (by omega)
  have f2_ := laws_markByteS.ev 1 (by omega) (by omega) b (by omega)
  have f3_ := squP_len b
  have f4_ := spec_Squeeze.ev b (fun z hz => wf_u8 (hb z hz))
  have f5_ := impl_Squeeze.ev b (fun z hz => wf_u8 (hb z hz))
  have f6_ := laws_eqByteS.ev (squP b) (by omega)
  have f7_ := laws_markByteS.ev 1 (by omega) (by omega) (squP b) (by omega)
  have f8_ := laws_heldByteS.ev 1 (by omega) (by omega) (squP b).length (by omega)
  repeat (first
    | exact Ev.now _
    | refine ev_pos rfl ?_
    | (refine ev_neg ?_ ?_; omega)
    | (refine ev_neg ?_ ?_; (focus (simp; done)))
    | refine Ev.bind (by assumption) ?_
    | refine ev_bind_some (by assumption) ?_
    | (refine ev_succ ?_; simp only [laws_FnExactSqueeze.j0])
    | dsimp only)

end Go.Proofs.Ytkejojcjmlnpgaa.Pure
