/- FnExactPutNum: the plain law: what the printed functions tell answers true at every input. No condition. -/
import Derived.Test.YtoodipndmhehmaaPFnExactPutNumx1
import Derived.Test.YtoodipndmhehmaaAid
namespace Go.Proofs.Ytoodipndmhehmaa.Pure
open Go.RowKit Go.Proofs.Ytoodipndmhehmaa.PFnExactPutNum Go.Proofs.YtoodipndmhehmaaW.PrintWords Go.Proofs.YtoodipndmhehmaaW.PrintLast Go.Proofs.YtoodipndmhehmaaW.PrintMore Go.Proofs.Ytoodipndmhehmaa.Aid
set_option linter.unusedVariables false
set_option linter.unusedSimpArgs false

/-- A number's bytes (fuel first). -/
def pnumF : Nat → Int → List Int
  | 0, _ => []
  | d + 1, n => if n > 127 then (n % 128 + 128) :: pnumF d (n / 128) else [n]
/-- PutNum. -/
def pnum (n : Int) : List Int := if 0 ≤ n ∧ n ≤ 2147483647 then pnumF 5 n else []
theorem pnumF_length : ∀ (d : Nat) (n : Int), (pnumF d n).length ≤ d
  | 0, _ => by simp [pnumF]
  | d + 1, n => by
    unfold pnumF
    split
    · simpa using pnumF_length d (n / 128)
    · simp
theorem pnum_length (n : Int) : (pnum n).length ≤ 5 := by
  unfold pnum
  split
  · exact pnumF_length 5 n
  · simp
theorem pnumF_byte : ∀ (d : Nat) (n : Int), 0 ≤ n → ∀ z ∈ pnumF d n, 0 ≤ z ∧ z ≤ 255
  | 0, _, _, z, h => by simp [pnumF] at h
  | d + 1, n, h0, z, h => by
    unfold pnumF at h
    split at h
    · rcases List.mem_cons.1 h with rfl | h
      · omega
      · exact pnumF_byte d (n / 128) (by omega) z h
    · simp at h; omega
theorem pnum_byte (n : Int) : ∀ z ∈ pnum n, 0 ≤ z ∧ z ≤ 255 := by
  intro z h
  unfold pnum at h
  split at h
  · exact pnumF_byte 5 n (by omega) z h
  · simp at h
theorem impl_PutNum.ev_l : ∀ (d : Nat) (n : Int) (y : List Int), 0 ≤ n → n < 128 ^ d → n ≤ 2147483647 → y.length + d ≤ 140737488355000 → 0 < d → Ev (fun k => impl_PutNum.l0 k n y) (y ++ pnumF d n)
  | 0, n, y, h0, h1, h3, hy, hd => by omega
  | d + 1, n, y, h0, h1, h3, hy, hd => by
    by_cases h : n > 127
    · have hd0 : 0 < d := by
        rcases d with _ | d
        · simp at h1; omega
        · omega
      have e : n / 128 < 128 ^ d := by rw [Int.pow_succ] at h1; omega
      have ih := impl_PutNum.ev_l d (n / 128) (y ++ [n % 128 + 128]) (by omega) e (by omega) (by simp; omega) hd0
      refine Ev.step (fun k => ?_) (ev_eq ih (by rw [pnumF, if_pos h]; simp))
      simp only [impl_PutNum.l0]
      rw [if_pos h, if_pos (by omega), Int.tdiv_eq_ediv_of_nonneg (by omega), Int.tmod_eq_emod_of_nonneg (by omega), w64 (by omega) (by omega), w64 (by omega) (by omega), Int.emod_eq_of_lt (by omega) (by omega)]
    · refine Ev.step (f := fun _ => some (y ++ pnumF (d + 1) n)) (fun k => ?_) (Ev.now _)
      simp only [impl_PutNum.l0]
      rw [if_neg h, if_pos (by omega), pnumF, if_neg h, Int.emod_eq_of_lt (by omega) (by omega)]
theorem impl_PutNum.ev (n : Int) : Ev (fun k => impl_PutNum.f k n) (pnum n) := by
  unfold impl_PutNum.f pnum
  by_cases h : 0 ≤ n ∧ n ≤ 2147483647
  · rw [if_pos h]
    refine ev_neg (by omega) ?_
    refine Ev.step (fun k => ?_) (impl_PutNum.ev_l 5 n [] (by omega) (by omega) (by omega) (by simp) (by omega))
    simp only [impl_PutNum.j0]
    rw [if_neg (by simp; omega)]
  · rw [if_neg h]
    by_cases h2 : n < 0
    · refine ev_pos h2 (Ev.step (f := fun _ => some []) (fun k => ?_) (Ev.now _))
      simp only [impl_PutNum.j0]
      rw [if_pos trivial]
    · refine ev_neg h2 (Ev.step (f := fun _ => some []) (fun k => ?_) (Ev.now _))
      simp only [impl_PutNum.j0]
      rw [if_pos (by simp; omega)]
theorem laws_eqByteS.ev_l (x : List Int) (hn : x.length ≤ 9223372036854775000) : ∀ (d i : Nat), i + d = x.length → Ev (fun k => laws_eqByteS.l0 k x x i) true
  | 0, i, hd => by
    refine Ev.step (f := fun _ => some true) (fun k => ?_) (Ev.now _)
    simp only [laws_eqByteS.l0]
    rw [if_neg (by omega)]
  | d + 1, i, hd => by
    refine Ev.step (fun k => ?_) (laws_eqByteS.ev_l x hn d (i + 1) (by omega))
    simp only [laws_eqByteS.l0]
    rw [if_pos (by omega), if_pos (by omega), if_pos (by omega), w64 (by omega) (by omega)]
    simp
theorem laws_eqByteS.ev (x : List Int) (hn : x.length ≤ 9223372036854775000) : Ev (fun k => laws_eqByteS.f k x x) true := by
  unfold laws_eqByteS.f
  exact ev_pos rfl (laws_eqByteS.ev_l x hn x.length 0 (by omega))
theorem laws_heldByteS.ev_l (a : Int) (ha : 0 ≤ a) (ha1 : a ≤ 4611686018427387904) (n : Nat) (hn : n ≤ 1152921504606846976) : ∀ (d i : Nat), i + d = n → Ev (fun k => laws_heldByteS.l0 k (cnt (fun z => z % 256) a n) (a + i) i) (a + n)
  | 0, i, hd => by
    refine Ev.step (f := fun _ => some (a + n)) (fun k => ?_) (Ev.now _)
    simp only [laws_heldByteS.l0]
    rw [if_neg (by rw [cnt_length]; omega)]
    obtain rfl : i = n := by omega
    rfl
  | d + 1, i, hd => by
    have h := laws_heldByteS.ev_l a ha ha1 n hn d (i + 1) (by omega)
    refine Ev.step (fun k => ?_) h
    simp only [laws_heldByteS.l0]
    rw [if_pos (by rw [cnt_length]; omega), if_pos (by omega), if_pos (by rw [rd_nat, cnt_get _ _ _ _ _ (by omega)]), w64 (x := (i : Int) + 1) (by omega) (by omega), w64 (by omega) (by omega)]
    simp [Int.add_assoc]
theorem laws_heldByteS.ev (a : Int) (ha : 0 ≤ a) (ha1 : a ≤ 4611686018427387904) (n : Nat) (hn : n ≤ 1152921504606846976) : Ev (fun k => laws_heldByteS.f k (cnt (fun z => z % 256) a n) a) (a + n) := by
  unfold laws_heldByteS.f
  have h := laws_heldByteS.ev_l a ha ha1 n hn n 0 (by omega)
  simpa using h
theorem laws_markByteS.ev_l (a : Int) (ha : 0 ≤ a) (ha1 : a ≤ 4611686018427387904) : ∀ (d i : Nat) (y : List Int), i + d = y.length → y.length ≤ 1152921504606846976 → y.take i = cnt (fun z => z % 256) a i → Ev (fun k => laws_markByteS.l0 k y (a + i) i) (a + y.length, cnt (fun z => z % 256) a y.length)
  | 0, i, y, hd, hn, ht => by
    refine Ev.step (f := fun _ => some (a + y.length, cnt (fun z => z % 256) a y.length)) (fun k => ?_) (Ev.now _)
    simp only [laws_markByteS.l0]
    rw [if_neg (by omega)]
    obtain rfl : i = y.length := by omega
    rw [← cnt_all (fun z => z % 256) a y _ rfl ht]
  | d + 1, i, y, hd, hn, ht => by
    have h := laws_markByteS.ev_l a ha ha1 d (i + 1) (y.set i ((fun z => z % 256) (a + i))) (by simp; omega) (by simp; omega) (set_cnt (fun z => z % 256) a y i (by omega) ht)
    rw [List.length_set] at h
    refine Ev.step (fun k => ?_) h
    simp only [laws_markByteS.l0]
    rw [if_pos (by omega), if_pos (by omega), w64 (x := (i : Int) + 1) (by omega) (by omega), w64 (by omega) (by omega)]
    simp [Int.add_assoc]
theorem laws_markByteS.ev (a : Int) (ha : 0 ≤ a) (ha1 : a ≤ 4611686018427387904) (y : List Int) (hn : y.length ≤ 1152921504606846976) : Ev (fun k => laws_markByteS.f k y a) (a + y.length, cnt (fun z => z % 256) a y.length) := by
  unfold laws_markByteS.f
  have h := laws_markByteS.ev_l a ha ha1 y.length 0 y (by omega) hn (by simp [cnt])
  simpa using h
theorem spec_l1In.eq (a b c : Int) : spec_l1In.f a b c = some (decide (b ≤ a ∧ a ≤ c)) := by
  unfold spec_l1In.f
  by_cases h : b ≤ a
  · rw [if_pos h]; simp [h]
  · rw [if_neg h]; simp [h]
theorem spec_PutNum.ev_l : ∀ (d : Nat) (n : Int) (y : List Int), 0 ≤ n → n < 128 ^ d → n ≤ 2147483647 → y.length + d ≤ 140737488355000 → 0 < d → Ev (fun k => spec_PutNum.l0 k n y) (y ++ pnumF d n)
  | 0, n, y, h0, h1, h3, hy, hd => by omega
  | d + 1, n, y, h0, h1, h3, hy, hd => by
    by_cases h : n > 127
    · have hd0 : 0 < d := by
        rcases d with _ | d
        · simp at h1; omega
        · omega
      have e : n / 128 < 128 ^ d := by rw [Int.pow_succ] at h1; omega
      have ih := spec_PutNum.ev_l d (n / 128) (y ++ [n % 128 + 128]) (by omega) e (by omega) (by simp; omega) hd0
      refine Ev.step (fun k => ?_) (ev_eq ih (by rw [pnumF, if_pos h]; simp))
      simp only [spec_PutNum.l0]
      rw [if_pos h, if_pos (by omega), Int.tdiv_eq_ediv_of_nonneg (by omega), Int.tmod_eq_emod_of_nonneg (by omega), w64 (by omega) (by omega), w64 (by omega) (by omega), Int.emod_eq_of_lt (by omega) (by omega)]
    · refine Ev.step (f := fun _ => some (y ++ pnumF (d + 1) n)) (fun k => ?_) (Ev.now _)
      simp only [spec_PutNum.l0]
      rw [if_neg h, if_pos (by omega), pnumF, if_neg h, Int.emod_eq_of_lt (by omega) (by omega)]
theorem spec_PutNum.ev (n : Int) : Ev (fun k => spec_PutNum.f k n) (pnum n) := by
  unfold spec_PutNum.f
  simp only [Option.bind_some, spec_l1In.eq]
  unfold pnum
  by_cases h : 0 ≤ n ∧ n ≤ 2147483647
  · rw [if_pos h]
    refine ev_pos (by simp [h]) ?_
    exact spec_PutNum.ev_l 5 n [] (by omega) (by omega) (by omega) (by simp) (by omega)
  · rw [if_neg h]
    exact ev_neg (by simpa using h) (Ev.now _)
theorem FnExactPutNum : laws_FnExactPutNum.Pure := by
  intro a _
  apply Ev.rounds (g := fun k => laws_FnExactPutNum.f k a)
  unfold laws_FnExactPutNum.f
  have f0_ := pnum_length a
  have f1_ := spec_PutNum.ev a
  have f2_ := impl_PutNum.ev a
  have f3_ := laws_eqByteS.ev (pnum a) (by omega)
  have f4_ := laws_markByteS.ev 1 (by omega) (by omega) (pnum a) (by omega)
  have f5_ := laws_heldByteS.ev 1 (by omega) (by omega) (pnum a).length (by omega)
  repeat (first
    | exact Ev.now _
    | refine ev_pos rfl ?_
    | (refine ev_neg ?_ ?_; omega)
    | (refine ev_neg ?_ ?_; (focus (simp; done)))
    | refine Ev.bind (by assumption) ?_
    | refine ev_bind_some (by assumption) ?_
    | (refine ev_succ ?_; simp only [laws_FnExactPutNum.f])
    | dsimp only)

end Go.Proofs.Ytoodipndmhehmaa.Pure
