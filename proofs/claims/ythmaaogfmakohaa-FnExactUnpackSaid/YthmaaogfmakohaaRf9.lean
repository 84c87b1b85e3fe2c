/- The evaluator is right: slices written out, appends. No program in sight. No condition. -/
import Derived.Test.YthmaaogfmakohaaRf8
namespace Go.Refl
open Go.RowKit
set_option linter.unusedVariables false
set_option linter.unusedSimpArgs false

section
variable {cx : Cx} {A : AS} {a : Act} {w : World} {m : Mp} {P : Program}
abbrev FrzR (A : AS) (m : Mp) (h h' : Hp) : Nat → Prop := fun b => R0of A m b ∨ Gone m h h' b
theorem Ro.wide {R R' : Nat → Prop} {w : World} {t : Ty} {x : t.D} {cs : List Value} (h : Ro R w t x cs) (hr : ∀ b, R b → R' b) : Ro R' w t x cs := h.mono fun b hb _ => ⟨rfl, hr b hb⟩
theorem frzC_ok (h : RelW cx A a w m) : ∀ (t : Ty) (hp : Hp) (cs : List AC) (vs : List Value) (x : t.D) (rest : List AC) (hp' : Hp), Sub hp A.hp → All2 (VC w (R0of A m) (R1of A m) m.μ) cs vs →
    frzC hp t cs = some (x, rest, hp') → ∃ v1 v2, vs = v1 ++ v2 ∧ Ro (FrzR A m hp hp') w t x v1 ∧ All2 (VC w (R0of A m) (R1of A m) m.μ) rest v2 ∧ Sub hp' hp
  | .unit, hp, cs, vs, x, rest, hp', hs, hv, ht => by
    simp only [frzC, Option.some.injEq, Prod.mk.injEq] at ht
    obtain ⟨_, rfl, rfl⟩ := ht
    exact ⟨[], vs, rfl, rfl, hv, Sub.refl _⟩
  | .pair ta tb, hp, cs, vs, x, rest, hp', hs, hv, ht => by
    simp only [frzC] at ht
    cases h1 : frzC hp ta cs with
    | none => rw [h1] at ht; cases ht
    | some p =>
      obtain ⟨xa, cs1, hp1⟩ := p
      rw [h1] at ht
      simp only [Option.bind_some] at ht
      cases h2 : frzC hp1 tb cs1 with
      | none => rw [h2] at ht; cases ht
      | some p =>
        obtain ⟨xb, cs2, hp2⟩ := p
        rw [h2] at ht
        simp only [Option.map_some, Option.some.injEq, Prod.mk.injEq] at ht
        obtain ⟨rfl, rfl, rfl⟩ := ht
        obtain ⟨v1, v2, rfl, ho1, hr1, hs1⟩ := frzC_ok h ta hp cs vs xa cs1 hp1 hs hv h1
        obtain ⟨v3, v4, rfl, ho2, hr2, hs2⟩ := frzC_ok h tb hp1 cs1 v2 xb cs2 hp2 (hs1.trans hs) hr1 h2
        exact ⟨v1 ++ v3, v4, by simp, ⟨v1, v3, rfl, ho1.wide fun b hb => hb.imp id fun hg => hg.left hs2, ho2.wide fun b hb => hb.imp id fun hg => hg.right hs1⟩, hr2, hs2.trans hs1⟩
  | .int k, hp, cs, vs, x, rest, hp', hs, hv, ht => by
    cases cs with
    | nil => simp [frzC] at ht
    | cons c cs =>
      cases c <;> simp only [frzC] at ht <;> try (cases ht; done)
      obtain ⟨v, us, rfl, hc, hr⟩ := hv
      rename_i p t' x'
      cases hx : castD t' (.int k) x' with
      | none => rw [hx] at ht; cases ht
      | some y =>
        rw [hx] at ht
        simp only [Option.map_some, Option.some.injEq, Prod.mk.injEq] at ht
        obtain ⟨rfl, rfl, rfl⟩ := ht
        obtain ⟨rfl, rfl⟩ := castD_eq hx
        obtain ⟨rfl, hi⟩ := hc.int
        exact ⟨[_], us, rfl, ⟨rfl, hi⟩, hr, Sub.refl _⟩
  | .bool, hp, cs, vs, x, rest, hp', hs, hv, ht => by
    cases cs with
    | nil => simp [frzC] at ht
    | cons c cs =>
      cases c <;> simp only [frzC] at ht <;> try (cases ht; done)
      obtain ⟨v, us, rfl, hc, hr⟩ := hv
      rename_i p t' x'
      cases hx : castD t' .bool x' with
      | none => rw [hx] at ht; cases ht
      | some y =>
        rw [hx] at ht
        simp only [Option.map_some, Option.some.injEq, Prod.mk.injEq] at ht
        obtain ⟨rfl, rfl, rfl⟩ := ht
        obtain ⟨rfl, rfl⟩ := castD_eq hx
        obtain rfl := hc.bool
        exact ⟨[_], us, rfl, rfl, hr, Sub.refl _⟩
  | .str, hp, cs, vs, x, rest, hp', hs, hv, ht => by
    cases cs with
    | nil => simp [frzC] at ht
    | cons c cs =>
      cases c <;> simp only [frzC] at ht <;> try (cases ht; done)
      obtain ⟨v, us, rfl, hc, hr⟩ := hv
      rename_i p t' x'
      cases hx : castD t' .str x' with
      | none => rw [hx] at ht; cases ht
      | some y =>
        rw [hx] at ht
        simp only [Option.map_some, Option.some.injEq, Prod.mk.injEq] at ht
        obtain ⟨rfl, rfl, rfl⟩ := ht
        obtain ⟨rfl, rfl⟩ := castD_eq hx
        obtain ⟨s, rfl, hx, hsz⟩ := hc.str
        exact ⟨[_], us, rfl, ⟨s, rfl, hx, hsz⟩, hr, Sub.refl _⟩
  | .sl e t, hp, cs, vs, x, rest, hp', hs, hv, ht => by
    cases cs with
    | nil => simp [frzC] at ht
    | cons c cs =>
      obtain ⟨v, us, rfl, hc, hr⟩ := hv
      cases c
      case d p t' x' =>
        cases p
        · simp [frzC] at ht
        simp only [frzC] at ht
        cases hx : castD t' (.sl e t) x' with
        | none => rw [hx] at ht; cases ht
        | some y =>
          rw [hx] at ht
          simp only [Option.map_some, Option.some.injEq, Prod.mk.injEq] at ht
          obtain ⟨rfl, rfl, rfl⟩ := ht
          obtain ⟨rfl, rfl⟩ := castD_eq hx
          exact ⟨[v], us, rfl, hc.2.wide fun b hb => .inl hb, hr, Sub.refl _⟩
      case bptr => simp [frzC] at ht
      case eptr => simp [frzC] at ht
      case fptr => simp [frzC] at ht
      case rptr => simp [frzC] at ht
      case fn => simp [frzC] at ht
      case bad => simp [frzC] at ht
      case nil =>
        simp only [frzC, Option.some.injEq, Prod.mk.injEq] at ht
        obtain ⟨rfl, rfl, rfl⟩ := ht
        exact ⟨[v], us, rfl, ⟨none, 0, [], by rw [show v = .slice none 0 0 from hc]; rfl, Nat.le_refl _, Nat.zero_le _, Nat.zero_le _, .inl rfl, rfl⟩, hr, Sub.refl _⟩
      case own k =>
        simp only [frzC] at ht
        cases hk : get hp k with
        | none => rw [hk] at ht; cases ht
        | some o =>
          rw [hk] at ht
          cases o with
          | box _ => cases ht
          | arr e' t' xs =>
            simp only at ht
            cases hx : castD (.sl e' t') (.sl e t) xs with
            | none => rw [hx] at ht; cases ht
            | some y =>
              rw [hx] at ht
              simp only [Option.map_some, Option.some.injEq, Prod.mk.injEq] at ht
              obtain ⟨rfl, rfl, rfl⟩ := ht
              obtain ⟨he, rfl⟩ := castD_eq hx
              cases he
              obtain ⟨rfl, _⟩ := hc
              exact ⟨[_], us, rfl, (own_tok h hs hk).ro fun b hb => .inr (gone_del hk hb), hr, Sub.del _ _⟩
      case sub k sz lo hi =>
        simp only [frzC] at ht
        cases hk : get hp k with
        | none => rw [hk] at ht; cases ht
        | some o =>
          rw [hk] at ht
          cases o with
          | box _ => cases ht
          | arr e' t' xs =>
            simp only at ht
            split at ht
            · rename_i hz
              cases hx : castD (.sl e' t') (.sl e t) ((xs.take hi.toNat).drop lo.toNat) with
              | none => rw [hx] at ht; cases ht
              | some y =>
                rw [hx] at ht
                simp only [Option.map_some, Option.some.injEq, Prod.mk.injEq] at ht
                obtain ⟨rfl, rfl, rfl⟩ := ht
                obtain ⟨he, rfl⟩ := castD_eq hx
                cases he
                subst hz
                obtain ⟨ad, n, c, hμ, h0, h1, h2, h3, h3', rfl⟩ := hc
                have hro := (own_tok h hs hk).ro (R := FrzR A m hp (del hp k)) fun b hb => .inr (gone_del hk hb)
                rw [hμ] at hro
                exact ⟨[_], us, rfl, hro.part lo.toNat hi.toNat (by omega) (by omega), hr, Sub.del _ _⟩
            · cases ht

/-! ### Parts in order -/
theorem cs_ok {a' : A1} {v : Value} {R0 R1 : Nat → Prop} {μ : Nat → Value} (h : V1 w R0 R1 μ a' v) (hb : a' ≠ .one .bad) : All2 (VC w R0 R1 μ) a'.cs v.cells.toList := by
  cases a' with
  | one c =>
    have := (VC.one (c := c) h (fun e => hb (by rw [e]))).1
    rw [this]
    exact ⟨v, [], rfl, h, rfl⟩
  | agg cs => obtain ⟨vs, rfl, ha⟩ := h; simpa [A1.cs, Value.cells] using ha
theorem fill_all (size : Nat) : ∀ (vs : List Value) (i : Nat) (cells : Array Value), (∀ v ∈ vs, v.cells.size = size) → cells.size = (i + vs.length) * size →
    ∃ cells', Instr.fill (fun i => some (i * size, size)) cells ((vs.zipIdx i).map fun (v, j) => (j, v)) = some cells' ∧ cells'.toList = cells.toList.take (i * size) ++ vs.flatMap fun v => v.cells.toList
  | [], i, cells, _, hl => ⟨cells, rfl, by
      have : cells.toList.length = i * size := by simpa using hl
      rw [List.take_of_length_le (by omega)]; simp⟩
  | v :: vs, i, cells, hv, hl => by
    have h1 := hv v (by simp)
    have hle : i * size + size ≤ cells.size := by rw [hl, List.length_cons, ← Nat.succ_mul]; exact Nat.mul_le_mul_right _ (by omega)
    obtain ⟨c1, h2, h3⟩ := fill_one (fun i => some (i * size, size)) cells i (i * size) size v ((vs.zipIdx (i + 1)).map fun (v, j) => (j, v)) rfl h1 hle
    have hc1 : c1.size = (i + 1 + vs.length) * size := by
      have := congrArg List.length h3
      simp at this
      rw [this]
      rw [hl] at hle ⊢
      simp only [List.length_cons] at hle ⊢
      rw [show i + 1 + vs.length = i + (vs.length + 1) by omega]
      omega
    obtain ⟨c2, h4, h5⟩ := fill_all size vs (i + 1) c1 (fun u hu => hv u (by simp [hu])) hc1
    refine ⟨c2, by rw [List.zipIdx_cons, List.map_cons, h2, h4], ?_⟩
    rw [h5, h3, Nat.succ_mul, List.take_append, List.take_of_length_le (by simp; omega)]
    simp
    rw [show min (i * size) cells.size = i * size from Nat.min_eq_left (by omega), show i * size + size - (i * size + v.cells.size) = 0 by omega]
    simp
theorem partsIn_ok (h : RelW cx A a w m) : ∀ (ps : List (Nat × Operand)) (n : Nat) (as : List A1), partsIn A n ps = some as →
    ∃ vs, (ps.map fun (i, x) => (i, a.eval x)) = ((vs.zipIdx n).map fun (v, j) => (j, v)) ∧ vs.length = ps.length ∧ All2 (V1 w (R0of A m) (R1of A m) m.μ) as vs
  | [], n, as, hp => by simp [partsIn] at hp; subst hp; exact ⟨[], rfl, rfl, rfl⟩
  | (i, o) :: ps, n, as, hp => by
    simp only [partsIn] at hp
    split at hp
    · rename_i hi; subst hi
      cases hq : partsIn A (i + 1) ps with
      | none => rw [hq] at hp; cases hp
      | some bs =>
        rw [hq] at hp
        simp at hp; subst hp
        obtain ⟨vs, h1, h2, h3⟩ := partsIn_ok h ps (i + 1) bs hq
        exact ⟨a.eval o :: vs, by simp only [List.map_cons, List.zipIdx_cons, h1], by simp [h2], _, _, rfl, opd1_ok h o, h3⟩
    · cases hp
theorem takeC_bad (hp : Hp) (t : Ty) (h0 : t.cells ≠ 0) {x : t.D} {rest : List AC} {hp' : Hp} : takeC hp t [.bad] ≠ some (x, rest, hp') := by
  intro h
  have key : ∀ (t : Ty) (hp : Hp) (y : t.D) (r : List AC) (hp' : Hp), t.cells ≠ 0 → takeC hp t [.bad] ≠ some (y, r, hp') := by
    intro t
    induction t with
    | unit => intro hp y r hp' h0; simp [Ty.cells] at h0
    | pair ta tb iha ihb =>
      intro hp y r hp' h0 h
      simp only [takeC] at h
      cases h1 : takeC hp ta [.bad] with
      | none => rw [h1] at h; cases h
      | some p =>
        obtain ⟨xa, cs1, hp1⟩ := p
        by_cases ha : ta.cells = 0
        · rw [h1] at h
          simp only [Option.bind_some] at h
          cases h2 : takeC hp1 tb cs1 with
          | none => rw [h2] at h; cases h
          | some q =>
            have hz : ∀ (t : Ty) (hp : Hp) (cs : List AC) (y : t.D) (r : List AC) (hp' : Hp), t.cells = 0 → takeC hp t cs = some (y, r, hp') → r = cs := by
              intro t
              induction t with
              | unit => intro hp cs y r hp' _ h; simp [takeC] at h; exact h.1.symm
              | pair x z ihx ihz =>
                intro hp cs y r hp' h0 h
                simp only [Ty.cells] at h0
                simp only [takeC] at h
                cases g1 : takeC hp x cs with
                | none => rw [g1] at h; cases h
                | some p =>
                  obtain ⟨a1, a2, a3⟩ := p
                  rw [g1] at h
                  simp only [Option.bind_some] at h
                  cases g2 : takeC a3 z a2 with
                  | none => rw [g2] at h; cases h
                  | some q =>
                    obtain ⟨b1, b2, b3⟩ := q
                    rw [g2] at h
                    simp at h
                    obtain ⟨_, rfl, _⟩ := h
                    rw [ihz _ _ _ _ _ (by omega) g2, ihx _ _ _ _ _ (by omega) g1]
              | _ => intro hp cs y r hp' h0 h; simp [Ty.cells] at h0
            have := hz ta _ _ _ _ _ ha h1
            subst this
            obtain ⟨q1, q2, q3⟩ := q
            exact ihb _ _ _ _ (by simp [Ty.cells, ha] at h0; exact h0) h2
        · exact iha _ _ _ _ ha h1
    | _ => intro hp y r hp' h0 h; simp [takeC] at h
  exact key t hp x rest hp' h0 h
theorem frzC_bad (hp : Hp) (t : Ty) (h0 : t.cells ≠ 0) {x : t.D} {rest : List AC} {hp' : Hp} : frzC hp t [.bad] ≠ some (x, rest, hp') := by
  intro h
  have key : ∀ (t : Ty) (hp : Hp) (y : t.D) (r : List AC) (hp' : Hp), t.cells ≠ 0 → frzC hp t [.bad] ≠ some (y, r, hp') := by
    intro t
    induction t with
    | unit => intro hp y r hp' h0; simp [Ty.cells] at h0
    | pair ta tb iha ihb =>
      intro hp y r hp' h0 h
      simp only [frzC] at h
      cases h1 : frzC hp ta [.bad] with
      | none => rw [h1] at h; cases h
      | some p =>
        obtain ⟨xa, cs1, hp1⟩ := p
        by_cases ha : ta.cells = 0
        · rw [h1] at h
          simp only [Option.bind_some] at h
          cases h2 : frzC hp1 tb cs1 with
          | none => rw [h2] at h; cases h
          | some q =>
            have hz : ∀ (t : Ty) (hp : Hp) (cs : List AC) (y : t.D) (r : List AC) (hp' : Hp), t.cells = 0 → frzC hp t cs = some (y, r, hp') → r = cs := by
              intro t
              induction t with
              | unit => intro hp cs y r hp' _ h; simp [frzC] at h; exact h.1.symm
              | pair x z ihx ihz =>
                intro hp cs y r hp' h0 h
                simp only [Ty.cells] at h0
                simp only [frzC] at h
                cases g1 : frzC hp x cs with
                | none => rw [g1] at h; cases h
                | some p =>
                  obtain ⟨a1, a2, a3⟩ := p
                  rw [g1] at h
                  simp only [Option.bind_some] at h
                  cases g2 : frzC a3 z a2 with
                  | none => rw [g2] at h; cases h
                  | some q =>
                    obtain ⟨b1, b2, b3⟩ := q
                    rw [g2] at h
                    simp at h
                    obtain ⟨_, rfl, _⟩ := h
                    rw [ihz _ _ _ _ _ (by omega) g2, ihx _ _ _ _ _ (by omega) g1]
              | _ => intro hp cs y r hp' h0 h; simp [Ty.cells] at h0
            have := hz ta _ _ _ _ _ ha h1
            subst this
            obtain ⟨q1, q2, q3⟩ := q
            exact ihb _ _ _ _ (by simp [Ty.cells, ha] at h0; exact h0) h2
        · exact iha _ _ _ _ ha h1
    | _ => intro hp y r hp' h0 h; simp [frzC] at h
  exact key t hp x rest hp' h0 h
theorem takeParts_ok (h : RelW cx A a w m) {T : Ty} (h0 : T.cells ≠ 0) : ∀ (as : List A1) (hp : Hp) (vs : List Value) (xs : List T.D) (hp' : Hp), Sub hp A.hp → All2 (V1 w (R0of A m) (R1of A m) m.μ) as vs → takeParts T hp as = some (xs, hp') →
    ∃ fp, OwnL (Own w T) xs (vs.flatMap fun v => v.cells.toList) fp ∧ (∀ v ∈ vs, v.cells.size = T.cells) ∧ xs.length = vs.length ∧ Sub hp' hp ∧ fp.Nodup ∧ ∀ b ∈ fp, Gone m hp hp' b
  | [], hp, vs, xs, hp', hs, hv, ht => by
    simp [takeParts] at ht
    obtain ⟨rfl, rfl⟩ := ht
    have hv' : vs = [] := hv
    subst hv'
    exact ⟨[], ⟨rfl, rfl⟩, by simp, rfl, Sub.refl _, List.nodup_nil, by simp⟩
  | b :: as, hp, vs, xs, hp', hs, hv, ht => by
    obtain ⟨v, us, rfl, hb, hr⟩ := hv
    simp only [takeParts] at ht
    split at ht
    · cases ht
    split at ht
    · rename_i x hp1 htk
      cases hq : takeParts T hp1 as with
      | none => rw [hq] at ht; cases ht
      | some q =>
        obtain ⟨ys, hp2⟩ := q
        rw [hq] at ht
        simp at ht
        obtain ⟨rfl, rfl⟩ := ht
        have hnb : b ≠ .one .bad := by rintro rfl; exact takeC_bad hp T h0 htk
        obtain ⟨v1, v2, fp1, hv12, ho, hr2, hs1, hn1, hg1⟩ := takeC_ok h T hp b.cs _ x [] hp1 hs (cs_ok hb hnb) htk
        have hv2 : v2 = [] := hr2
        subst hv2
        rw [List.append_nil] at hv12
        rw [← hv12] at ho
        obtain ⟨fp2, hw, hsz, hlen, hs2, hn2, hg2⟩ := takeParts_ok h h0 as hp1 us ys hp2 (hs1.trans hs) hr hq
        refine ⟨fp1 ++ fp2, ⟨_, _, fp1, fp2, by simp, rfl, ho, hw⟩, ?_, by simp [hlen], hs2.trans hs1, ?_, fun c hc => ?_⟩
        · intro u hu
          rcases List.mem_cons.1 hu with rfl | hu
          · simpa using ho.length
          · exact hsz u hu
        · refine List.nodup_append.2 ⟨hn1, hn2, fun c hc1 d hc2 e => ?_⟩
          subst e
          obtain ⟨k, hk, _, hkb⟩ := hg2 c hc2
          exact (hg1 c hc1).not h hs hk hs1 hkb
        · rcases List.mem_append.1 hc with hc | hc
          · exact (hg1 c hc).left hs2
          · exact (hg2 c hc).right hs1
    · cases ht
end
end Go.Refl
