/- The evaluator is right: regions whose order is drawn. No program in sight. No condition. -/
import Derived.Test.YthmaaogfmakohaaRfI
namespace Go.Refl
open Go.RowKit
set_option linter.unusedVariables false
set_option linter.unusedSimpArgs false

def subCx (wb : World) (R : Nat → Prop) : Cx := ⟨wb, [], [], fun b => R b ∨ wb.heap.size ≤ b⟩
section
variable {cx : Cx} {A B C : AS} {a : Act} {w wb : World} {m mb mc : Mp} {P : Program}
theorem bareC_ok {R0 R1 R0' R1' : Nat → Prop} {μ μ' : Nat → Value} {c : AC} {v : Value} (h : VC w R0 R1 μ c v) (h0 : ∀ b, R0 b → b < w.heap.size → R0' b) : VC w R0' R1' μ' (bareC c) v := by
  unfold bareC
  split
  · exact VC.mono h (fun b hb hl => ⟨rfl, h0 b hb hl⟩) (fun hs => by simp [AC.shy] at hs) fun k hk => by simp [AC.toks] at hk
  · exact VC.mono h (fun b hb hl => ⟨rfl, h0 b hb hl⟩) (fun hs => by simp [AC.shy] at hs) fun k hk => by simp [AC.toks] at hk
  · exact h
  · exact VC.mono h (fun b hb hl => ⟨rfl, h0 b hb hl⟩) (fun hs => by simp [AC.shy] at hs) fun k hk => by simp [AC.toks] at hk
  · trivial
theorem bare1_ok {R0 R1 R0' R1' : Nat → Prop} {μ μ' : Nat → Value} {c : A1} {v : Value} (h : V1 w R0 R1 μ c v) (h0 : ∀ b, R0 b → b < w.heap.size → R0' b) : V1 w R0' R1' μ' (bare1 c) v := by
  cases c with
  | one c => exact bareC_ok h h0
  | agg cs => obtain ⟨vs, hv, ha⟩ := h; exact ⟨vs, hv, (ha.mono fun _ _ _ hu => bareC_ok hu h0).map⟩
theorem bareV_ok {R0 R1 R0' R1' : Nat → Prop} {μ μ' : Nat → Value} {c : AV} {v : Value} (h : VV w R0 R1 μ c v) (h0 : ∀ b, R0 b → b < w.heap.size → R0' b) : VV w R0' R1' μ' (bareV c) v := by
  cases c with
  | v c => exact bare1_ok h h0
  | tup as => obtain ⟨vs, hv, ha⟩ := h; exact ⟨vs, hv, (ha.mono fun _ _ _ hu => bare1_ok hu h0).map⟩
theorem bare_ok (h : RelW cx A a w m) : ∃ mc, RelW (subCx w (R0of A m)) (bareS A) a w mc := by
  refine ⟨⟨m.μ, fun _ => [], fun _ => [], fun b => ¬ (R0of A m b ∨ w.heap.size ≤ b), fun _ => False⟩, ?_⟩
  have hl : ∀ k, ¬ live (bareS A) k := fun k hk => by simp [live, bareS, get] at hk
  refine ⟨fun i av hi => ?_, fun k o hk => by simp [bareS, get] at hk, fun k hk => absurd hk (hl k), fun j k hj => absurd hj (hl j), fun k hk => absurd hk (hl k), fun k hk => absurd hk (hl k), Keeps.refl _ _, fun k v hp => by simp [subCx] at hp, h.defers, fun b hb => hb, fun b hb => ?_⟩
  · simp only [bareS] at hi
    rw [get_map] at hi
    cases hg : get A.fr i with
    | none => rw [hg] at hi; cases hi
    | some x =>
      rw [hg] at hi; simp at hi; subst hi
      exact ⟨(h.fr i x hg).1, bareV_ok (h.fr i x hg).2 fun b hb _ => ⟨fun hn => hn (.inl hb), fun k hk => absurd hk (hl k)⟩⟩
  · rcases hb with hb | hb
    · simp [subCx] at hb
    · exact .inr hb

/-! ### Joined -/
theorem cleanC_ok {R0 R1 R0' R1' : Nat → Prop} {μ μ' : Nat → Value} {hp : Hp} {c : AC} {v : Value} (h : VC w R0 R1 μ c v) (h0 : ∀ b, R0 b → b < w.heap.size → R0' b) (hm : ∀ k, (get hp k).isSome = true → μ' k = μ k) : VC w R0' R1' μ' (cleanC hp c) v := by
  unfold cleanC
  split
  · trivial
  · rename_i hn
    simp only [Bool.or_eq_true, not_or, Bool.not_eq_true, List.any_eq_true, not_exists, not_and] at hn
    refine VC.mono h (fun b hb hl => ⟨rfl, h0 b hb hl⟩) (fun hs => by rw [hn.1] at hs; cases hs) fun k hk => hm k ?_
    have := hn.2 k hk
    cases hg : get hp k with
    | none => rw [hg] at this; simp at this
    | some _ => rfl
theorem clean1_ok {R0 R1 R0' R1' : Nat → Prop} {μ μ' : Nat → Value} {hp : Hp} {c : A1} {v : Value} (h : V1 w R0 R1 μ c v) (h0 : ∀ b, R0 b → b < w.heap.size → R0' b) (hm : ∀ k, (get hp k).isSome = true → μ' k = μ k) : V1 w R0' R1' μ' (clean1 hp c) v := by
  cases c with
  | one c => exact cleanC_ok h h0 hm
  | agg cs => obtain ⟨vs, hv, ha⟩ := h; exact ⟨vs, hv, (ha.mono fun _ _ _ hu => cleanC_ok hu h0 hm).map⟩
theorem cleanV_ok {R0 R1 R0' R1' : Nat → Prop} {μ μ' : Nat → Value} {hp : Hp} {c : AV} {v : Value} (h : VV w R0 R1 μ c v) (h0 : ∀ b, R0 b → b < w.heap.size → R0' b) (hm : ∀ k, (get hp k).isSome = true → μ' k = μ k) : VV w R0' R1' μ' (cleanV hp c) v := by
  cases c with
  | v c => exact clean1_ok h h0 hm
  | tup as => obtain ⟨vs, hv, ha⟩ := h; exact ⟨vs, hv, (ha.mono fun _ _ _ hu => clean1_ok hu h0 hm).map⟩
theorem get_joinF (hp : Hp) (f0 fr : Fr) (i : Nat) (v' : AV) : ∀ l : Fr, get (joinF hp f0 l fr) i = some v' → (∃ v, get f0 i = some v ∧ v' = cleanV hp v) ∨ get fr i = some v'
  | [], h => .inr h
  | (j, u) :: l, h => by
    simp only [joinF] at h
    split at h
    · rename_i v hv
      split at h
      · exact get_joinF hp f0 fr i v' l h
      · rw [get_ins] at h
        split at h
        · rename_i e; subst e; cases h; exact .inl ⟨v, hv, rfl⟩
        · exact get_joinF hp f0 fr i v' l h
    · exact get_joinF hp f0 fr i v' l h
theorem get_joinH (hp h : Hp) (i : Nat) : ∀ l : Hp, get (joinH hp l h) i = match get l i with
    | some v => some (cleanO hp v)
    | none => get h i
  | [] => rfl
  | (j, v) :: l => by
    simp only [joinH, get_ins, get, get_joinH hp h i l]
    split <;> rfl
structure NoTok (A : AS) (k : Nat) : Prop where
  fr : ∀ i av, get A.fr i = some av → ∀ c ∈ av.cs, k ∉ c.toks
  hp : get A.hp k = none
  box : ∀ j cs, get A.hp j = some (.box cs) → ∀ c ∈ cs, k ∉ c.toks
theorem killC_sub {k j : Nat} {c : AC} (h : j ∈ (killC k c).toks) : j ∈ c.toks := by
  unfold killC at h
  split at h
  · simp [AC.toks] at h
  · exact h
theorem kill1_sub {k j : Nat} {a : A1} (h : j ∉ a.cs.flatMap AC.toks) : ∀ c ∈ (kill1 k a).cs, j ∉ c.toks := by
  cases a with
  | one c => intro x hx hj; simp [kill1, A1.cs] at hx; subst hx; exact h (List.mem_flatMap.2 ⟨c, by simp [A1.cs], killC_sub hj⟩)
  | agg cs => intro x hx hj; simp [kill1, A1.cs] at hx; obtain ⟨y, hy, rfl⟩ := hx; exact h (List.mem_flatMap.2 ⟨y, by simpa [A1.cs] using hy, killC_sub hj⟩)
theorem killV_sub {k j : Nat} {av : AV} (h : ∀ c ∈ av.cs, j ∉ c.toks) : ∀ c ∈ (killV k av).cs, j ∉ c.toks := by
  have key : ∀ a' : A1, (∀ c ∈ a'.cs, j ∉ c.toks) → ∀ c ∈ (kill1 k a').cs, j ∉ c.toks := fun a' ha' => kill1_sub fun hm => by
    obtain ⟨c, hc, hj⟩ := List.mem_flatMap.1 hm
    exact ha' c hc hj
  cases av with
  | v a => exact key a h
  | tup as =>
    intro x hx
    simp only [killV, AV.cs, List.mem_flatMap, List.mem_map] at hx
    obtain ⟨y, ⟨z, hz, rfl⟩, hx⟩ := hx
    exact key z (fun c hc => h c (List.mem_flatMap.2 ⟨z, hz, hc⟩)) x hx
theorem NoTok.of_kill (A : AS) (k : Nat) : NoTok (killS A k) k := by
  refine ⟨fun i av hi => ?_, by rw [killS_hp, if_pos rfl], fun j cs hj => ?_⟩
  · rw [killS_fr] at hi
    cases hg : get A.fr i with
    | none => rw [hg] at hi; cases hi
    | some x => rw [hg] at hi; simp at hi; subst hi; exact killV_toks k x
  · rw [killS_hp] at hj
    split at hj
    · cases hj
    · cases hg : get A.hp j with
      | none => rw [hg] at hj; cases hj
      | some x =>
        rw [hg] at hj
        cases x with
        | box cs' => simp [killO] at hj; subst hj; intro c hc; obtain ⟨y, _, rfl⟩ := List.mem_map.1 hc; exact killC_toks k y
        | arr e t xs => simp [killO] at hj
theorem NoTok.kill {k : Nat} (h : NoTok A k) (j : Nat) : NoTok (killS A j) k := by
  refine ⟨fun i av hi => ?_, ?_, fun i cs hi => ?_⟩
  · rw [killS_fr] at hi
    cases hg : get A.fr i with
    | none => rw [hg] at hi; cases hi
    | some x => rw [hg] at hi; simp at hi; subst hi; exact killV_sub (h.fr i x hg)
  · rw [killS_hp, h.hp]; split <;> rfl
  · rw [killS_hp] at hi
    split at hi
    · cases hi
    · cases hg : get A.hp i with
      | none => rw [hg] at hi; cases hi
      | some x =>
        rw [hg] at hi
        cases x with
        | box cs' => simp [killO] at hi; subst hi; intro c hc hk; obtain ⟨y, hy, rfl⟩ := List.mem_map.1 hc; exact h.box i cs' hg y hy (killC_sub hk)
        | arr e t xs => simp [killO] at hi
theorem killL_no : ∀ (l : Hp) (A : AS) (k : Nat), NoTok A k ∨ (get l k).isSome = true → NoTok (killL A l) k
  | [], A, k, h => h.elim id fun h => by simp [get] at h
  | (i, o) :: l, A, k, h => by
    simp only [killL]
    refine killL_no l (killS A i) k ?_
    rcases h with h | h
    · exact .inl (h.kill i)
    · simp only [get] at h
      split at h
      · rename_i e; subst e; exact .inl (NoTok.of_kill A i)
      · exact .inr h
theorem killL_ok : ∀ (l : Hp) (A : AS), RelW cx A a w m → RelW cx (killL A l) a w m
  | [], _, h => h
  | (k, _) :: l, A, h => killL_ok l (killS A k) (h.kill k)
theorem killL_live : ∀ (l : Hp) (A : AS) (k : Nat), live (killL A l) k → live A k
  | [], _, _, h => h
  | (i, _) :: l, A, k, h => (live_kill (killL_live l (killS A i) k h)).1
theorem join_ok {R : Nat → Prop} {J : AS} (hB : RelW cx B a wb mb) (hC : RelW (subCx wb R) C a w mc) (hR : ∀ b, R b → R0of B mb b) (hpins : ∀ k u, (k, u) ∈ cx.pins → pinBase ≤ k) (hj : joinS B C = some J) : Rel cx J a w := by
  unfold joinS at hj
  split at hj
  · rename_i hall
    simp at hj
    subst hj
    have hB' := killL_ok C.hp B hB
    have hno : ∀ k, (get C.hp k).isSome = true → NoTok (killL B C.hp) k := fun k hk => killL_no C.hp B k (.inr hk)
    have hR' : ∀ b, R b → R0of (killL B C.hp) mb b := fun b hb => ⟨(hR b hb).1, fun k hk => (hR b hb).2 k (killL_live _ _ _ hk)⟩
    generalize killL B C.hp = B' at *
    let μJ : Nat → Value := fun k => if (get C.hp k).isSome = true then mc.μ k else mb.μ k
    let oJ : Nat → List Nat := fun k => if (get C.hp k).isSome = true then mc.out k else mb.out k
    let iJ : Nat → List Nat := fun k => if (get C.hp k).isSome = true then mc.inn k else mb.inn k
    let mJ : Mp := ⟨μJ, oJ, iJ, fun b => ¬ cx.rp b, fun _ => False⟩
    have hFc : ∀ k, (get C.hp k).isSome = true → mJ.F k = mc.F k := fun k hk => by simp only [Mp.F, mJ, oJ, iJ, if_pos hk]
    have hFb : ∀ k, ¬ (get C.hp k).isSome = true → mJ.F k = mb.F k := fun k hk => by simp only [Mp.F, mJ, oJ, iJ, if_neg hk]
    have hOc : ∀ k, (get C.hp k).isSome = true → mJ.out k = mc.out k := fun k hk => by simp only [mJ, oJ, if_pos hk]
    have hOb : ∀ k, ¬ (get C.hp k).isSome = true → mJ.out k = mb.out k := fun k hk => by simp only [mJ, oJ, if_neg hk]
    have hμc : ∀ k, (get C.hp k).isSome = true → mJ.μ k = mc.μ k := fun k hk => by simp only [mJ, μJ, if_pos hk]
    have hμb : ∀ k, ¬ (get C.hp k).isSome = true → mJ.μ k = mb.μ k := fun k hk => by simp only [mJ, μJ, if_neg hk]
    have hlv : ∀ k, live ⟨joinF C.hp C.fr C.fr B'.fr, joinH C.hp C.hp B'.hp⟩ k → (live C k) ∨ (¬ (get C.hp k).isSome = true ∧ live B' k) := fun k hk => by
      simp only [live, get_joinH] at hk
      cases hg : get C.hp k with
      | some o => exact .inl (by simp [live, hg])
      | none => rw [hg] at hk; exact .inr ⟨by simp, hk⟩
    have hcs : ∀ k, live C k → (get C.hp k).isSome = true := fun k hk => hk
    have hnew : ∀ k, live C k → ∀ b ∈ mc.F k, wb.heap.size ≤ b := fun k hk b hb => (hC.own k hk b hb).resolve_left (by simp [subCx])
    have hwb : wb.heap.size ≤ w.heap.size := hC.keeps.size
    have hkb : ∀ b, b < wb.heap.size → w.heap[b]? = wb.heap[b]? := fun b hb => hC.keeps.block b hb (by simp [subCx])
    have c0 : ∀ b, R0of C mc b → b < w.heap.size → R0of ⟨joinF C.hp C.fr C.fr B'.fr, joinH C.hp C.hp B'.hp⟩ mJ b := fun b hb _ => by
      have hrp : R b ∨ wb.heap.size ≤ b := Classical.byContradiction fun hn => hb.1 (hC.rp b hn)
      refine ⟨fun hn => ?_, fun k hk => ?_⟩
      · rcases hrp with h1 | h1
        · exact (hR' b h1).1 (hB'.rp b hn)
        · exact hn (hB'.rpo b (.inr (Nat.le_trans hB'.keeps.size h1)))
      · rcases hlv k hk with h1 | ⟨h1, h2⟩
        · rw [hFc k h1]; exact hb.2 k h1
        · rw [hFb k h1]
          rcases hrp with h3 | h3
          · exact (hR' b h3).2 k h2
          · intro hm; have := hB'.lt k h2 b hm; omega
    have b0 : ∀ b, R0of B' mb b → b < wb.heap.size → w.heap[b]? = wb.heap[b]? ∧ R0of ⟨joinF C.hp C.fr C.fr B'.fr, joinH C.hp C.hp B'.hp⟩ mJ b := fun b hb hl => by
      refine ⟨hkb b hl, fun hn => hb.1 (hB'.rp b hn), fun k hk => ?_⟩
      rcases hlv k hk with h1 | ⟨h1, h2⟩
      · rw [hFc k h1]; intro hm; have := hnew k h1 b hm; omega
      · rw [hFb k h1]; exact hb.2 k h2
    have b1 : ∀ b, R1of B' mb b → b < wb.heap.size → w.heap[b]? = wb.heap[b]? ∧ R1of ⟨joinF C.hp C.fr C.fr B'.fr, joinH C.hp C.hp B'.hp⟩ mJ b := fun b hb hl => by
      refine ⟨hkb b hl, id, fun k hk => ?_⟩
      rcases hlv k hk with h1 | ⟨h1, h2⟩
      · rw [hOc k h1]; intro hm; have := hnew k h1 b (List.mem_append.2 (.inl hm)); omega
      · rw [hOb k h1]; exact hb.2 k h2
    have btok : ∀ (c : AC), (∀ k, (get C.hp k).isSome = true → k ∉ c.toks) → ∀ k ∈ c.toks, mJ.μ k = mb.μ k := fun c hc k hk => hμb k fun hs => hc k hs hk
    refine ⟨mJ, fun i av hi => ?_, fun k o hk => ?_, fun k hk => ?_, fun j k hj hk hne => ?_, fun k hk b hb => ?_, fun k hk b hb => ?_, ?_, fun k v hp hk => ?_, hB'.defers, fun b hb => hb, hB'.rpo⟩
    · rcases get_joinF _ _ _ _ _ _ hi with ⟨x, hg, rfl⟩ | hi
      · exact ⟨(hC.fr i x hg).1, cleanV_ok (hC.fr i x hg).2 c0 hμc⟩
      · have hx := hB'.fr i av hi
        exact ⟨hx.1, hx.2.mono b0 (fun _ => b1) fun c hc => btok c fun k hk => (hno k hk).fr i av hi c hc⟩
    · simp only [get_joinH] at hk
      cases hg : get C.hp k with
      | some x =>
        rw [hg] at hk; simp at hk; subst hk
        have hs : (get C.hp k).isSome = true := by rw [hg]; rfl
        have hv := hC.hp k x hg
        cases x with
        | box cs =>
          obtain ⟨g, c, T, h1, h2, h3, h4, h5⟩ := hv
          exact ⟨g, c, T, (hμc k hs).trans h1, h2, (h3.mono fun _ _ _ hu => cleanC_ok hu c0 hμc).map, (hOc k hs).trans h4, by simp only [mJ, iJ, if_pos hs]; exact h5⟩
        | arr e t xs =>
          obtain ⟨vs, hh, ho⟩ := hv
          exact ⟨vs, by rw [hμc k hs, hOc k hs]; exact hh, by simp only [mJ, iJ, if_pos hs]; exact ho⟩
      | none =>
        rw [hg] at hk
        have hs : ¬ (get C.hp k).isSome = true := by rw [hg]; simp
        have hlk : live B' k := by simp [live, show get B'.hp k = some o from hk]
        have := (hB'.hp k o hk).mono b0 b1 (fun b hm => hkb b (hB'.lt k hlk b hm)) (hμb k hs) fun cs ho c hc => btok c fun j hj => (hno j hj).box k cs (by rw [← ho]; exact hk) c hc
        simp only [mJ, oJ, iJ, if_neg hs]
        exact this
    · rcases hlv k hk with h1 | ⟨h1, h2⟩
      · rw [hFc k h1]; exact hC.nd k h1
      · rw [hFb k h1]; exact hB'.nd k h2
    · rcases hlv j hj with h1 | ⟨h1, h2⟩ <;> rcases hlv k hk with h3 | ⟨h3, h4⟩
      · rw [hFc j h1, hFc k h3]; exact hC.dj j k h1 h3 hne
      · rw [hFc j h1, hFb k h3]; intro b hb hm; have := hnew j h1 b hb; have := hB'.lt k h4 b hm; omega
      · rw [hFb j h1, hFc k h3]; intro b hb hm; have := hnew k h3 b hm; have := hB'.lt j h2 b hb; omega
      · rw [hFb j h1, hFb k h3]; exact hB'.dj j k h2 h4 hne
    · rcases hlv k hk with h1 | ⟨h1, h2⟩
      · rw [hFc k h1] at hb; exact hC.lt k h1 b hb
      · rw [hFb k h1] at hb; exact Nat.lt_of_lt_of_le (hB'.lt k h2 b hb) hwb
    · rcases hlv k hk with h1 | ⟨h1, h2⟩
      · rw [hFc k h1] at hb; exact .inr (Nat.le_trans hB'.keeps.size (hnew k h1 b hb))
      · rw [hFb k h1] at hb; exact hB'.own k h2 b hb
    · exact hB'.keeps.trans hC.keeps (by simp [subCx])
    · rcases hlv k hk with h1 | ⟨h1, h2⟩
      · exfalso
        have h3 := hpins k v hp
        have h4 : ∀ (l : Hp), l.all (fun p => decide (p.1 < pinBase)) = true → (get l k).isSome = true → k < pinBase := by
          intro l
          induction l with
          | nil => intro _ h; simp [get] at h
          | cons p l ih =>
            intro h h'
            simp only [List.all_cons, Bool.and_eq_true, decide_eq_true_eq] at h
            obtain ⟨i, o⟩ := p
            simp only [get] at h'
            split at h'
            · rename_i e; subst e; exact h.1
            · exact ih h.2 h'
        have := h4 C.hp hall h1
        omega
      · rw [hμb k h1]; exact hB'.pins k v hp h2
  · cases hj
/-! ### Whatever order is picked, with a condition that hangs on what has come up -/
section
variable {ops : Array Oper} {Q : Exit → Act → World → Prop} {md : Region.Mode}
def wpAnyL (P : Program) (md : Region.Mode) (ops : Array Oper) (Q : Exit → Act → World → Prop) (S : Array Bool → World → Prop) : Nat → Array Bool → Act → World → Prop
  | 0, listed, a, w => Region.ready md ops listed = [] ∧ Q .normal a w
  | fuel + 1, listed, a, w =>
    (Region.ready md ops listed = [] → Q .normal a w) ∧
    ∀ i ∈ Region.ready md ops listed, wpOp P ops Q i (fun a' w' => S (listed.setIfInBounds i true) w' ∧ wpAnyL P md ops Q S fuel (listed.setIfInBounds i true) a' w') a w
theorem wpAny_of_L {S : Array Bool → World → Prop} : ∀ (fuel : Nat) (listed : Array Bool) (a : Act) (w : World), wpAnyL P md ops Q S fuel listed a w → wpAny P md ops Q fuel listed a w
  | 0, _, _, _, h => h
  | fuel + 1, _, _, _, h => ⟨h.1, fun i hi => wpOp_mono (fun a' w' h' => wpAny_of_L fuel _ a' w' h'.2) (h.2 i hi)⟩
/-- What stands listed has all that it waits for listed. -/
def InvL (md : Region.Mode) (ops : Array Oper) (L : Array Bool) : Prop := ∀ x ox, ops[x]? = some ox → L.getD x false = true → ∀ e ∈ ox.after, Region.binds md e = true → L.getD e.on false = true
theorem getD_self {L : Array Bool} {j : Nat} (h : L.getD j true = false) : (L.setIfInBounds j true).getD j false = true := by
  have hj : j < L.size := by
    rcases Nat.lt_or_ge j L.size with h' | h'
    · exact h'
    · simp [Array.getElem?_eq_none h'] at h
  simp [hj]
theorem unl {L : Array Bool} {j : Nat} (h : L.getD j true = false) : L.getD j false = false := by
  rcases Nat.lt_or_ge j L.size with h' | h'
  · simp [h'] at h ⊢; exact h
  · simp [Array.getElem?_eq_none h'] at h
theorem InvL.set {L : Array Bool} {j : Nat} (h : InvL md ops L) (hj : j ∈ Region.ready md ops L) : InvL md ops (L.setIfInBounds j true) := by
  obtain ⟨hun, o, ho, hall⟩ := mem_ready.1 hj
  intro x ox hx hl e he hb
  by_cases hjx : j = x
  · subst hjx
    rw [ho] at hx; cases hx
    exact getD_set_true (hall e he hb)
  · rw [getD_set_ne false hjx] at hl
    exact getD_set_true (h x ox hx hl e he hb)
theorem InvL.none (n : Nat) : InvL md ops (Array.replicate n false) := fun x ox hx hl e he hb => by
  exfalso
  simp only [Array.getD_eq_getD_getElem?, Array.getElem?_replicate] at hl
  split at hl <;> simp at hl
theorem preds_listed {L : Array Bool} (h : InvL .any ops L) {t : Nat} {o : Oper} (ho : ops[t]? = some o) (hl : L.getD t false = true) : ∀ i ∈ preds o, L.getD i false = true := fun i hi => by
  unfold preds at hi
  obtain ⟨e, he, rfl⟩ := List.mem_map.1 hi
  obtain ⟨h1, h2⟩ := List.mem_filter.1 he
  exact h t o ho hl e (Array.mem_toList_iff.1 h1) h2
theorem ancS_listed {L : Array Bool} (h : InvL .any ops L) : ∀ (n : Nat) (w seen : List Nat), (∀ i ∈ w, L.getD i false = true) → (∀ i ∈ seen, L.getD i false = true) → ∀ i ∈ ancS ops n w seen, L.getD i false = true
  | 0, w, seen, hw, hs => fun i hi => by unfold ancS at hi; exact hs i hi
  | n + 1, [], seen, hw, hs => fun i hi => by unfold ancS at hi; exact hs i hi
  | n + 1, j :: w, seen, hw, hs => fun i hi => by
    unfold ancS at hi
    split at hi
    · exact ancS_listed h n w seen (fun x hx => hw x (by simp [hx])) hs i hi
    · split at hi
      · rename_i o ho
        refine ancS_listed h n _ _ (fun x hx => ?_) (fun x hx => ?_) i hi
        · rcases List.mem_append.1 hx with hx | hx
          · exact preds_listed h ho (hw j (by simp)) x hx
          · exact hw x (by simp [hx])
        · rcases List.mem_cons.1 hx with rfl | hx
          · exact hw x (by simp)
          · exact hs x hx
      · exact ancS_listed h n w seen (fun x hx => hw x (by simp [hx])) hs i hi
theorem anc_listed {L : Array Bool} (h : InvL .any ops L) (n t j : Nat) (hl : L.getD t false = true) (ha : anc ops n t j = true) : L.getD j false = true := by
  unfold anc at ha
  split at ha
  · cases ha
  · rename_i o ho
    exact ancS_listed h 20000 (preds o) [] (preds_listed h ho hl) (fun i hi => by simp at hi) j (by simpa using ha)
theorem wpAnyL_first {i : Nat} {oi : Oper} {v : Value} {S : Array Bool → World → Prop} {S0 : World → Prop} (hi : ops[i]? = some oi) (hsel : ∀ (j : Nat) (o : Oper) cs b, ops[j]? = some o → o.op ≠ .select cs b)
    (hQ : ∀ c a w, Q (.panic c) (a.put oi.dst v) w → Q (.panic c) a w) (hY : ∀ L w, InvL md ops L → L.getD i true = false → S L w → S0 w) (hSi : ∀ L w, S (L.setIfInBounds i true) w ↔ S L w) :
    ∀ (fuel : Nat) (listed : Array Bool) (a : Act) (w : World), InvL md ops listed →
      (∀ j oj, ops[j]? = some oj → j ≠ i → listed.getD j true = false → (∀ e ∈ oj.after, Region.binds md e = true → e.on ≠ i) → oi.apart ops oj = true) →
      i ∈ Region.ready md ops listed → YieldsIf P ops S0 oi v a → S listed w →
      wpAnyL P md ops Q S fuel (listed.setIfInBounds i true) (a.put oi.dst v) w → wpAnyL P md ops Q S (fuel + 1) listed a w := by
  intro fuel
  induction fuel with
  | zero =>
    intro listed a w hinv _ hr hy hS H
    have hS0 : S0 w := hY listed w hinv (mem_ready.1 hr).1 hS
    refine ⟨fun h => (by rw [h] at hr; cases hr), fun j hj => ?_⟩
    by_cases hji : j = i
    · subst hji; exact hy.wpOp hi hS0 ⟨(hSi _ _).2 hS, H⟩
    · have := ready_mono hj hji
      rw [H.1] at this
      cases this
  | succ fuel ih =>
    intro listed a w hinv hfree hr hy hS H
    have hS0 : S0 w := hY listed w hinv (mem_ready.1 hr).1 hS
    refine ⟨fun h => (by rw [h] at hr; cases hr), fun j hj => ?_⟩
    by_cases hji : j = i
    · subst hji; exact hy.wpOp hi hS0 ⟨(hSi _ _).2 hS, H⟩
    · have h1 := H.2 j (ready_mono hj hji)
      obtain ⟨hjun, oj, hoj, hall⟩ := mem_ready.1 hj
      have hnot : ∀ e ∈ oj.after, Region.binds md e = true → e.on ≠ i := fun e he hb heq => by
        have h1 := hall e he hb
        have h0 := (mem_ready.1 hr).1
        rw [heq] at h1
        rcases Nat.lt_or_ge i listed.size with h' | h'
        · simp [h'] at h0 h1; rw [h0] at h1; cases h1
        · simp [Array.getElem?_eq_none h'] at h1
      have h2 := wpOp_putIf hoj (hfree j oj hoj hji hjun hnot) (fun cs b => hsel i oi cs b hi) (fun cs b => hsel j oj cs b hoj) hQ hy h1
      have hfree' : ∀ k ok, ops[k]? = some ok → k ≠ i → (listed.setIfInBounds j true).getD k true = false →
          (∀ e ∈ ok.after, Region.binds md e = true → e.on ≠ i) → oi.apart ops ok = true := fun k ok hk hki hun hno => by
        refine hfree k ok hk hki ?_ hno
        by_cases hjk : j = k
        · subst hjk; exact hjun
        · rw [getD_set_ne true hjk] at hun; exact hun
      refine wpOp_mono (fun a' w' h3 => ?_) h2
      have hcomm : (listed.setIfInBounds i true).setIfInBounds j true = (listed.setIfInBounds j true).setIfInBounds i true := Array.setIfInBounds_comm _ _ (Ne.symm hji)
      have hS3 := h3.2.1
      have hW3 := h3.2.2
      rw [hcomm] at hS3 hW3
      have hS' := (hSi _ _).1 hS3
      exact ⟨hS', ih (listed.setIfInBounds j true) a' w' (hinv.set hj) hfree' (ready_mono hr (Ne.symm hji)) h3.1 hS' hW3⟩
theorem wpAnyL_take {i : Nat} {oi : Oper} {v : Value} {fuel : Nat} {listed : Array Bool} {a : Act} {w : World} {S : Array Bool → World → Prop} {S0 : World → Prop} (hi : ops[i]? = some oi)
    (hs : Region.noSelect ops = true) (hf : Region.free md ops listed i = true) (hr : (Region.ready md ops listed).contains i = true)
    (hQ : ∀ c a w, Q (.panic c) (a.put oi.dst v) w → Q (.panic c) a w) (hY : ∀ L w, InvL md ops L → L.getD i true = false → S L w → S0 w) (hSi : ∀ L w, S (L.setIfInBounds i true) w ↔ S L w) (hinv : InvL md ops listed) (hy : YieldsIf P ops S0 oi v a) (hS : S listed w)
    (h : wpAnyL P md ops Q S fuel (listed.setIfInBounds i true) (a.put oi.dst v) w) : wpAnyL P md ops Q S (fuel + 1) listed a w :=
  wpAnyL_first hi (Region.noSelect_spec hs) hQ hY hSi fuel listed a w hinv (Region.free_spec hi hf) (by simpa using hr) hy hS h
theorem wpAnyL_all {S : Array Bool → World → Prop} {rs : List Nat} {fuel : Nat} {listed : Array Bool} {a : Act} {w : World} (hr : Region.ready md ops listed = rs) (hne : rs ≠ [])
    (h : ∀ i ∈ rs, wpOp P ops Q i (fun a' w' => S (listed.setIfInBounds i true) w' ∧ wpAnyL P md ops Q S fuel (listed.setIfInBounds i true) a' w') a w) : wpAnyL P md ops Q S (fuel + 1) listed a w :=
  ⟨fun h0 => absurd (hr ▸ h0) hne, hr ▸ h⟩
theorem wpAnyL_done {S : Array Bool → World → Prop} {listed : Array Bool} {a : Act} {w : World} (hr : Region.ready md ops listed = []) (h : Q .normal a w) : ∀ fuel, wpAnyL P md ops Q S fuel listed a w
  | 0 => ⟨hr, h⟩
  | _ + 1 => ⟨fun _ => h, by rw [hr]; simp⟩
theorem wpAnyL_monoS {S S' : Array Bool → World → Prop} {G : Array Bool → Prop} (hG : ∀ L i, G L → G (L.setIfInBounds i true)) (hS : ∀ L w, G L → S L w → S' L w) : ∀ (n : Nat) (listed : Array Bool) (a : Act) (w : World), G listed → wpAnyL P md ops Q S n listed a w → wpAnyL P md ops Q S' n listed a w
  | 0, _, _, _, _, h => h
  | n + 1, _, _, _, hg, h => ⟨h.1, fun i hi => wpOp_mono (fun a' w' h' => ⟨hS _ _ (hG _ i hg) h'.1, wpAnyL_monoS hG hS n _ a' w' (hG _ i hg) h'.2⟩) (h.2 i hi)⟩
/-- Till the tail begins, what stood stands. -/
def ST (t : Option Nat) (wb : World) (L : Array Bool) (w : World) : Prop := (∀ x, t = some x → L.getD x false = false) → Below wb.heap.size wb w
end
theorem skipD_okW (h : RelW cx A a w m) (d : Option Nat) (hd : ∀ k, d = some k → k < a.tmps.size) (v : Value) : RelW cx (skipD A d) (a.put d v) w m := by
  cases d with
  | none => exact h
  | some k => exact h.put k (hd k rfl) _ _ trivial
theorem R0of_skipD (d : Option Nat) (b : Nat) (h : R0of A m b) : R0of (skipD A d) m b := by cases d <;> exact h
theorem joinO_ok {R : Nat → Prop} {C : Option AS} {J : AS} (hB : RelW cx B a wb mb) (hC : RelW (subCx wb R) (curO B C) a w mc) (hwb : C = none → w = wb) (hR : ∀ b, R b → R0of B mb b) (hpins : ∀ k u, (k, u) ∈ cx.pins → pinBase ≤ k) (hj : joinO B C = some J) : Rel cx J a w := by
  cases C with
  | none =>
    simp [joinO] at hj
    subst hj
    rw [hwb rfl]
    exact ⟨mb, hB⟩
  | some C => exact join_ok hB hC hR hpins hj
theorem drawP_ok {R0 : Type} {E : Env} (hE : EnvOk P E) (hct : ∀ f c, get E.ct f = some c → Sat P f c) {ops : Array Oper} (hns : Region.noSelect ops = true) {K : AS → Option R0} {r : R0} {t : Option Nat} (hpins : ∀ k u, (k, u) ∈ cx.pins → pinBase ≤ k) {Q : Exit → Act → World → Prop} {N : Nat} (hN : N ≤ 60000)
    (hd : ∀ o ∈ ops.toList, dstOk N o = true) (hQp : ∀ c a w, ¬ Q (.panic c) a w) (hK : ∀ A' a' w', K A' = some r → Rel cx A' a' w' → a'.tmps.size = N → Q .normal a' w') :
    ∀ (l : List (Nat × Nat)) (n : Nat) (listed : Array Bool) (B : AS) (C : Option AS) (a : Act) (w wb : World) (mb mc : Mp) (R : Nat → Prop), InvL .any ops listed → (tailOf l = t ∨ (l.all (fun p => p.1 == 2) = true ∧ ∃ x, t = some x ∧ listed.getD x false = true)) → l.length ≤ n → planOk E ops l listed = true → RelW cx B a wb mb → RelW (subCx wb R) (curO B C) a w mc → (C = none → w = wb) → (∀ b, R b → R0of B mb b) → a.tmps.size = N → drawP E ops K l B C = some r →
      wpAnyL P .any ops Q (ST t wb) n listed a w
  | [], n, listed, B, C, a, w, wb, mb, mc, R, hinv, ht, hn, hpl, hB, hC, hwb, hR, hsz, ho => by
    simp only [planOk, List.isEmpty_iff] at hpl
    simp only [drawP] at ho
    cases hJ : joinO B C with
    | none => rw [hJ] at ho; cases ho
    | some J =>
      rw [hJ] at ho
      exact wpAnyL_done hpl (hK J a w ho (joinO_ok hB hC hwb hR hpins hJ) hsz) n
  | (_, _) :: l, 0, listed, B, C, a, w, wb, mb, mc, R, hinv, ht, hn, hpl, hB, hC, hwb, hR, hsz, ho => by simp at hn
  | (1, j) :: l, n + 1, listed, B, C, a, w, wb, mb, mc, R, hinv, ht, hn, hpl, hB, hC, hwb, hR, hsz, ho => by
    have hbel : Below wb.heap.size wb w := (show Keeps [] wb w from hC.keeps).below
    have hn' : l.length ≤ n := by simpa using hn
    have mono : ∀ w1, Below w.heap.size w w1 → Below wb.heap.size wb w1 := fun w1 h => ⟨h.os.trans hbel.os, h.tape.trans hbel.tape, h.output.trans hbel.output, Nat.le_trans hbel.size h.size, fun b hb => (h.block b (Nat.lt_of_lt_of_le hb hbel.size)).trans (hbel.block b hb)⟩
    have below2 : ∀ {w1 w2 : World}, Below wb.heap.size wb w1 → Below w1.heap.size w1 w2 → Below wb.heap.size wb w2 := fun {w1 w2} h1 h2 => ⟨h2.os.trans h1.os, h2.tape.trans h1.tape, h2.output.trans h1.output, Nat.le_trans h1.size h2.size, fun b hb => (h2.block b (Nat.lt_of_lt_of_le hb h1.size)).trans (h1.block b hb)⟩
    simp only [planOk, Bool.and_eq_true] at hpl
    obtain ⟨⟨⟨⟨hmem, hfree⟩, hq⟩, hah⟩, hpl⟩ := hpl
    have ht' : tailOf l = t := ht.elim id fun h => by simp at h
    rw [ht'] at hah
    have hmem' : j ∈ Region.ready .any ops listed := by simpa using hmem
    have hST : ∀ w1, Below w.heap.size w w1 → Below wb.heap.size wb w1 := mono
    simp only [drawP] at ho
    split at ho
    · rename_i o hoj
      rw [hoj] at hq
      have hq : quietK E o = true := hq
      have hmo : o ∈ ops.toList := by
        obtain ⟨h1, h2⟩ := Array.getElem?_eq_some_iff.1 hoj
        rw [← h2]; exact Array.mem_toList_iff.2 (Array.getElem_mem h1)
      have hdo : ∀ d, o.dst = some d → d < a.tmps.size := by rw [hsz]; exact dstOk_lt (hd o hmo)
      cases hJ : joinO B C with
      | none => rw [hJ] at ho; cases ho
      | some J =>
        rw [hJ] at ho
        simp only [Option.bind_some] at ho
        have hrel := joinO_ok hB hC hwb hR hpins hJ
        have step : ∀ (v : Value) (A' : AS), Rel cx A' (a.put o.dst v) w → drawP E ops K l A' none = some r → YieldsIf P ops (fun w' => Below w.heap.size w w') o v a → wpAnyL P .any ops Q (ST t wb) (n + 1) listed a w := fun v A' hA' hk hy => by
          obtain ⟨mA, hA'⟩ := hA'
          obtain ⟨mc', hC'⟩ := bare_ok hA'
          have ih := drawP_ok (t := t) hE hct hns hpins hN hd hQp hK l n (listed.setIfInBounds j true) A' none (a.put o.dst v) w w mA mc' (R0of A' mA) (hinv.set hmem') (.inl ht') hn' hpl hA' hC' (fun _ => rfl) (fun _ h => h) (by rw [put_size]; exact hsz) hk
          refine wpAnyL_monoS (S := ST t w) (G := fun _ => True) (fun _ _ _ => trivial) (fun L w1 _ h hc => mono w1 (h hc)) _ _ _ _ trivial (wpAnyL_take (S0 := fun w' => Below w.heap.size w w') hoj hns hfree hmem (fun c a' w' h => absurd h (hQp _ _ _)) (fun L w1 hL hun h => h fun x hx => ?_) (fun L w1 => ?_) hinv hy (fun _ => Below.refl _ _) ih)
          · subst hx
            simp only [aheadOk, Bool.and_eq_true] at hah
            cases hxl : L.getD x false with
            | false => rfl
            | true =>
              have := anc_listed hL _ _ _ hxl hah.2
              rw [unl hun] at this; cases this
          · unfold ST
            have : ∀ x, t = some x → (L.setIfInBounds j true).getD x false = L.getD x false := fun x hx => by
              subst hx
              simp only [aheadOk, Bool.and_eq_true, bne_iff_ne, ne_eq] at hah
              exact getD_set_ne false hah.1
            exact ⟨fun h hc => h fun x hx => by rw [this x hx]; exact hc x hx, fun h hc => h fun x hx => by rw [← this x hx]; exact hc x hx⟩
        rcases opG_cases hrel hdo ho with ⟨hw, A1, h1, ho⟩ | ⟨hw, A1, h1, hk⟩
        · obtain ⟨v, A', hrun, hk, hA'⟩ := q1_ok (P := P) hE hq h1 hdo ho
          exact step v A' hA' hk (.inl ⟨hw, hrun⟩)
        · exact step undef A1 h1 hk (.inr ⟨hw, rfl⟩)
    · cases ho
  | (0, i) :: l, n + 1, listed, B, C, a, w, wb, mb, mc, R, hinv, ht, hn, hpl, hB, hC, hwb, hR, hsz, ho => by
    have hbel : Below wb.heap.size wb w := (show Keeps [] wb w from hC.keeps).below
    have hn' : l.length ≤ n := by simpa using hn
    have mono : ∀ w1, Below w.heap.size w w1 → Below wb.heap.size wb w1 := fun w1 h => ⟨h.os.trans hbel.os, h.tape.trans hbel.tape, h.output.trans hbel.output, Nat.le_trans hbel.size h.size, fun b hb => (h.block b (Nat.lt_of_lt_of_le hb hbel.size)).trans (hbel.block b hb)⟩
    have below2 : ∀ {w1 w2 : World}, Below wb.heap.size wb w1 → Below w1.heap.size w1 w2 → Below wb.heap.size wb w2 := fun {w1 w2} h1 h2 => ⟨h2.os.trans h1.os, h2.tape.trans h1.tape, h2.output.trans h1.output, Nat.le_trans h1.size h2.size, fun b hb => (h2.block b (Nat.lt_of_lt_of_le hb h1.size)).trans (h1.block b hb)⟩
    simp only [planOk, Bool.and_eq_true, decide_eq_true_eq] at hpl
    obtain ⟨hr, hpl⟩ := hpl
    have ht' : tailOf l = t := ht.elim id fun h => by simp at h
    have hmem' : i ∈ Region.ready .any ops listed := by rw [hr]; simp
    simp only [drawP] at ho
    split at ho
    · rename_i o hoi
      have hmo : o ∈ ops.toList := by
        obtain ⟨h1, h2⟩ := Array.getElem?_eq_some_iff.1 hoi
        rw [← h2]; exact Array.mem_toList_iff.2 (Array.getElem_mem h1)
      have hdo : ∀ d, o.dst = some d → d < a.tmps.size := by rw [hsz]; exact dstOk_lt (hd o hmo)
      refine wpAnyL_all hr (by simp) fun i' hi => ?_
      have hii : i' = i := by simpa using hi
      rw [hii]
      have key : stepW P ops o a w (fun a' w' => ST t wb (listed.setIfInBounds i true) w' ∧ wpAnyL P .any ops Q (ST t wb) n (listed.setIfInBounds i true) a' w') Q := by
        split at ho
        · rename_i hst
          rw [Bool.and_eq_true] at hst
          cases hJ : joinO B C with
          | none => rw [hJ] at ho; cases ho
          | some J =>
            rw [hJ] at ho
            simp only [Option.bind_some] at ho
            have hrel := joinO_ok hB hC hwb hR hpins hJ
            have step : ∀ (v : Value) (A' : AS) (w' : World), Rel cx A' (a.put o.dst v) w' → Below w.heap.size w w' → drawP E ops K l A' none = some r → ST t wb (listed.setIfInBounds i true) w' ∧ wpAnyL P .any ops Q (ST t wb) n (listed.setIfInBounds i true) (a.put o.dst v) w' := fun v A' w' hA' hbw hk => by
              obtain ⟨mA, hA'⟩ := hA'
              obtain ⟨mc', hC'⟩ := bare_ok hA'
              have hbb := mono w' hbw
              have ih := drawP_ok (t := t) hE hct hns hpins hN hd hQp hK l n (listed.setIfInBounds i true) A' none (a.put o.dst v) w' w' mA mc' (R0of A' mA) (hinv.set hmem') (.inl ht') hn' hpl hA' hC' (fun _ => rfl) (fun _ h => h) (by rw [put_size]; exact hsz) hk
              exact ⟨fun _ => hbb, wpAnyL_monoS (S := ST t w') (G := fun _ => True) (fun _ _ _ => trivial) (fun L w'' _ h hc => below2 hbb (h hc)) _ _ _ _ trivial ih⟩
            unfold stepW
            rcases opG_cases hrel hdo ho with ⟨hw, A1, h1, ho⟩ | ⟨hw, A1, h1, hk⟩
            · rw [if_pos hw]
              exact still_ok hct hst.2 h1 hpins hdo ho fun A' v w' hk hr hb => step v A' w' hr hb hk
            · rw [hw]
              exact step undef A1 w h1 (Below.refl _ _) hk
        · exact opG_ok (P := P) (ops := ops) (Q := Q) hE hct (next := fun a' w' => ST t wb (listed.setIfInBounds i true) w' ∧ wpAnyL P .any ops Q (ST t wb) n (listed.setIfInBounds i true) a' w') ⟨mc, hC⟩ (by simp [subCx]) (by omega) hdo ho
            fun A' v w' hk ⟨mA, hA⟩ => ⟨fun _ => (show Keeps [] wb w' from hA.keeps).below, drawP_ok (t := t) hE hct hns hpins hN hd hQp hK l n _ (skipD B o.dst) (some A') (a.put o.dst v) w' wb mb mA R (hinv.set hmem') (.inl ht') hn' hpl (skipD_okW hB _ hdo v) hA (fun h => by cases h) (fun b hb => R0of_skipD _ _ (hR b hb)) (by rw [put_size]; exact hsz) hk⟩
      unfold wpOp
      simp only [hoi]
      unfold stepW at key
      split
      · rename_i hw; rw [if_pos hw] at key; exact .inl key
      · rename_i hw; rw [if_neg hw] at key; exact key
    · cases ho
  | (2, i) :: l, n + 1, listed, B, C, a, w, wb, mb, mc, R, hinv, ht, hn, hpl, hB, hC, hwb, hR, hsz, ho => by
    have hn' : l.length ≤ n := by simpa using hn
    simp only [planOk, Bool.and_eq_true, decide_eq_true_eq] at hpl
    obtain ⟨⟨hr, hall⟩, hpl⟩ := hpl
    have hmem' : i ∈ Region.ready .any ops listed := by rw [hr]; simp
    have hti : ∃ x, t = some x ∧ (listed.setIfInBounds i true).getD x false = true := by
      rcases ht with ht | ⟨_, x, hx, hl⟩
      · exact ⟨i, by rw [← ht]; rfl, getD_self (mem_ready.1 hmem').1⟩
      · exact ⟨x, hx, getD_set_true hl⟩
    obtain ⟨x, hx, hxl⟩ := hti
    simp only [drawP] at ho
    split at ho
    · rename_i o hoi
      have hmo : o ∈ ops.toList := by
        obtain ⟨h1, h2⟩ := Array.getElem?_eq_some_iff.1 hoi
        rw [← h2]; exact Array.mem_toList_iff.2 (Array.getElem_mem h1)
      have hdo : ∀ d, o.dst = some d → d < a.tmps.size := by rw [hsz]; exact dstOk_lt (hd o hmo)
      refine wpAnyL_all hr (by simp) fun i' hi => ?_
      have hii : i' = i := by simpa using hi
      rw [hii]
      have key : stepW P ops o a w (fun a' w' => ST t wb (listed.setIfInBounds i true) w' ∧ wpAnyL P .any ops Q (ST t wb) n (listed.setIfInBounds i true) a' w') Q := by
        cases hJ : joinO B C with
        | none => rw [hJ] at ho; cases ho
        | some J =>
          rw [hJ] at ho
          simp only [Option.bind_some] at ho
          have hrel := joinO_ok hB hC hwb hR hpins hJ
          refine opG_ok (P := P) (ops := ops) (Q := Q) hE hct hrel hpins (by omega) hdo ho fun A' v w' hk hA => ?_
          obtain ⟨mA, hA⟩ := hA
          obtain ⟨mc', hC'⟩ := bare_ok hA
          have ih := drawP_ok (t := t) hE hct hns hpins hN hd hQp hK l n (listed.setIfInBounds i true) A' none (a.put o.dst v) w' w' mA mc' (R0of A' mA) (hinv.set hmem') (.inr ⟨hall, x, hx, hxl⟩) hn' hpl hA hC' (fun _ => rfl) (fun _ h => h) (by rw [put_size]; exact hsz) hk
          exact ⟨fun hc => (by rw [hc x hx] at hxl; cases hxl), wpAnyL_monoS (S := ST t w') (G := fun L => L.getD x false = true) (fun L i h => getD_set_true h) (fun L w'' hg h hc => (by rw [hc x hx] at hg; cases hg)) _ _ _ _ hxl ih⟩
      unfold wpOp
      simp only [hoi]
      unfold stepW at key
      split
      · rename_i hw; rw [if_pos hw] at key; exact .inl key
      · rename_i hw; rw [if_neg hw] at key; exact key
    · cases ho
  | (_ + 3, _) :: l, n + 1, listed, B, C, a, w, wb, mb, mc, R, hinv, ht, hn, hpl, hB, hC, hwb, hR, hsz, ho => by simp [planOk] at hpl
theorem tailPlan_len {ops : Array Oper} : ∀ (n : Nat) (listed : Array Bool) (l : List (Nat × Nat)), tailPlan ops n listed = some l → l.length ≤ n
  | 0, _, l, h => by simp [tailPlan] at h; subst h; simp
  | n + 1, listed, l, h => by
    unfold tailPlan at h
    split at h
    · simp at h; subst h; simp
    · rename_i i _
      cases ht : tailPlan ops n (listed.setIfInBounds i true) with
      | none => rw [ht] at h; cases h
      | some l' =>
        rw [ht] at h
        simp at h
        subst h
        simpa using tailPlan_len n _ l' ht
    · cases h
theorem mkPlan_len {E : Env} {ops : Array Oper} : ∀ (n : Nat) (listed : Array Bool), (mkPlan E ops n listed).length ≤ n
  | 0, _ => by simp [mkPlan]
  | n + 1, listed => by
    unfold mkPlan
    split
    · simp
    · split
      · simpa using mkPlan_len n _
      · split
        · rename_i l hl
          split at hl
          · exact tailPlan_len _ _ _ hl
          · cases hl
        · simpa using mkPlan_len n _
theorem draw_ok {R0 : Type} {E : Env} (hE : EnvOk P E) (hct : ∀ f c, get E.ct f = some c → Sat P f c) (hm : P.follows .mixedOrders = true) {id : Nat} {ops : Array Oper} (hns : Region.noSelect ops = true) {K : AS → Option R0} {r : R0} (hpins : ∀ k u, (k, u) ∈ cx.pins → pinBase ≤ k) {Q : Exit → Act → World → Prop} {N : Nat} (hN : N ≤ 60000)
    (hd : ops.toList.all (dstOk N) = true) (hK : ∀ A' a' w', K A' = some r → Rel cx A' a' w' → a'.tmps.size = N → Q .normal a' w') (h : Rel cx A a w) (hsz : a.tmps.size = N) (hpl : planOk E ops (mkPlan E ops ops.size (Array.replicate ops.size false)) (Array.replicate ops.size false) = true) (ho : drawP E ops K (mkPlan E ops ops.size (Array.replicate ops.size false)) A none = some r) : (Code.region id ops true).wp P Q a w := by
  refine wp_region_noPanic (wp_region_any hm (wpAny_of_L (S := ST (tailOf (mkPlan E ops ops.size (Array.replicate ops.size false))) { w with drawn := w.drawn + 1 }) _ _ _ _ ?_))
  have h' : Rel cx A a { w with drawn := w.drawn + 1 } := h.below ⟨rfl, rfl, rfl, Nat.le_refl _, fun _ _ => rfl⟩
  obtain ⟨m, h'⟩ := h'
  obtain ⟨mc, hC⟩ := bare_ok h'
  exact drawP_ok (Q := NoPanic Q) hE hct hns hpins hN (fun o ho => by rw [List.all_eq_true] at hd; exact hd o ho) (fun c a w h => h) (fun A' a' w' hk hr hs => hK A' a' w' hk hr hs) _ ops.size _ A none a _ { w with drawn := w.drawn + 1 } m mc _ (InvL.none _) (.inl rfl) (mkPlan_len _ _) hpl h' hC (fun _ => rfl) (fun _ h => h) hsz ho
end
end Go.Refl
