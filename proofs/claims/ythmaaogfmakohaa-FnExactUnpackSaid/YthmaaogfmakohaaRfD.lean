/- What a contract says; what an argument lends and what comes back. No program in sight. No condition. -/
import Derived.Test.YthmaaogfmakohaaRfC
namespace Go.Refl
open Go.RowKit
set_option linter.unusedVariables false
set_option linter.unusedSimpArgs false

def BoxR (R : Nat → Prop) (w : World) (t : Ty) (x : t.D) (v : Value) (fp : List Nat) : Prop :=
  ∃ g c T, v = .pointer (some ⟨g, 0, none⟩) ∧ w.heap[g]? = some (.cells c T (0, 0)) ∧ Ro R w t x c.toList ∧ fp = [g]
def BoxesR (R : Nat → Prop) (w : World) : (ts : List Ty) → TysD ts → List Value → List Nat → Prop
  | [], _, vs, fp => vs = [] ∧ fp = []
  | t :: ts, x, vs, fp => ∃ v us f1 f2, vs = v :: us ∧ fp = f1 ++ f2 ∧ BoxR R w t x.1 v f1 ∧ BoxesR R w ts x.2 us f2
/-- What is lent. -/
def LentR (R : Nat → Prop) (w : World) : (p : Pm) → p.T → Value → List Nat → Prop
  | .ro _, _, _, fp => fp = []
  | .mv t, x, v, fp | .inp t, x, v, fp => ∃ cs, v = shapeV t cs ∧ Own w t x cs fp
  | .st t, x, v, fp => BoxR R w t x v fp
  | .fn f ts, x, v, fp => ∃ vs, v = .func (.func f) #[] vs.toArray ∧ BoxesR R w ts x vs fp
def LentsR (R : Nat → Prop) (w : World) : (ps : List Pm) → PsT ps → List Value → List Nat → Prop
  | [], _, vs, fp => vs = [] ∧ fp = []
  | p :: ps, x, vs, fp => ∃ v us f1 f2, vs = v :: us ∧ fp = f1 ++ f2 ∧ LentR R w p x.1 v f1 ∧ LentsR R w ps x.2 us f2
def ArgR (R : Nat → Prop) (w : World) : (p : Pm) → p.D → Value → List Nat → Prop
  | .ro t, x, v, fp => (∃ cs, v = shapeV t cs ∧ Ro R w t x cs) ∧ fp = []
  | .mv t, x, v, fp | .inp t, x, v, fp => ∃ cs, v = shapeV t cs ∧ Own w t x cs fp
  | .st t, x, v, fp => BoxR R w t x v fp
  | .fn f ts, x, v, fp => ∃ vs, v = .func (.func f) #[] vs.toArray ∧ BoxesR R w ts x vs fp
def ArgsR (R : Nat → Prop) (w : World) : (ps : List Pm) → PsD ps → List Value → List Nat → Prop
  | [], _, vs, fp => vs = [] ∧ fp = []
  | p :: ps, x, vs, fp => ∃ v us f1 f2, vs = v :: us ∧ fp = f1 ++ f2 ∧ ArgR R w p x.1 v f1 ∧ ArgsR R w ps x.2 us f2
/-- What was lent, behind the call. -/
def OutR (R : Nat → Prop) (w : World) : (p : Pm) → p.O → Value → List Nat → Prop
  | .ro _, _, _, fp | .mv _, _, _, fp => fp = []
  | .inp t, x, v, fp => ∃ cs, v = shapeV t cs ∧ Own w t x cs fp
  | .st t, x, v, fp => BoxR R w t x v fp
  | .fn f ts, x, v, fp => ∃ vs, v = .func (.func f) #[] vs.toArray ∧ BoxesR R w ts x vs fp
def OutsR (R : Nat → Prop) (w : World) : (ps : List Pm) → PsO ps → List Value → List Nat → Prop
  | [], _, _, fp => fp = []
  | p :: ps, x, vs, fp => ∃ v us f1 f2, vs = v :: us ∧ fp = f1 ++ f2 ∧ OutR R w p x.1 v f1 ∧ OutsR R w ps x.2 us f2
def ResR (R : Nat → Prop) (w : World) : (r : Rk) → r.D → Value → List Nat → Prop
  | .own t, x, v, fp => ∃ cs, v = shapeV t cs ∧ Own w t x cs fp
  | .box t, x, v, fp => BoxR R w t x v fp
def RessR (R : Nat → Prop) (w : World) : (rs : List Rk) → RsD rs → List Value → List Nat → Prop
  | [], _, vs, fp => vs = [] ∧ fp = []
  | r :: rs, x, vs, fp => ∃ v us f1 f2, vs = v :: us ∧ fp = f1 ++ f2 ∧ ResR R w r x.1 v f1 ∧ RessR R w rs x.2 us f2
def resVal (vs : List Value) : Value := match vs with | [v] => v | vs => .tuple vs.toArray
/-- Behind a call: what is handed back lies in blocks of its own; what its variables lead to was read, or is new. -/
def Post (c : Ct) (y : RsD c.rs × PsO c.ps) (vs : List Value) (w : World) (O : List Nat) (Rp : Nat → Prop) (e : Ending) (w' : World) : Prop :=
  ∃ rv fr fo, e = .returned (resVal rv) ∧ Keeps O w w' ∧ RessR (fun b => (Rp b ∨ b ∈ O ∨ w.heap.size ≤ b) ∧ b ∉ fr ++ fo) w' c.rs y.1 rv fr ∧ OutsR (fun b => (Rp b ∨ b ∈ O ∨ w.heap.size ≤ b) ∧ b ∉ fr ++ fo) w' c.ps y.2 vs fo ∧
    (fr ++ fo).Nodup ∧ ∀ b ∈ fr ++ fo, b ∈ O ∨ w.heap.size ≤ b
/-- A function of the program does what its contract says. -/
structure Sat (P : Program) (f : FuncId) (c : Ct) : Prop where
  fn : ∃ fn, P.funcs[f]? = some fn ∧ fn.body.isNone = false ∧ (fn.name == "runtime.NumGoroutine") = false
  calls : ∀ x y, c.F x = some y → ∀ (w : World) (vs : List Value) (O : List Nat) (Rp : Nat → Prop), ArgsR Rp w c.ps x vs O → (∀ b, Rp b → b ∉ O) → O.Nodup → (∀ b ∈ O, b < w.heap.size) → Calls P f vs.toArray w (Post c y vs w O Rp)

theorem shapeV_inj {t : Ty} {cs ds : List Value} (h : shapeV t cs = shapeV t ds) (hl : cs.length = t.cells) (hl' : ds.length = t.cells) : cs = ds := by
  cases t <;> simp only [shapeV, Ty.one, if_true, if_false, Bool.false_eq_true] at h
  case unit => simpa using h
  case pair a b => simpa using h
  all_goals
    simp only [Ty.cells] at hl hl'
    match cs, ds, hl, hl' with
    | [c], [d], _, _ => simpa using h
section
variable {cx : Cx} {A : AS} {a : Act} {w : World} {m : Mp} {P : Program}
/-- A value that cells of data fit has the data's shape. -/
theorem sh_ok {R0 R1 : Nat → Prop} {μ : Nat → Value} {t : Ty} {a' : A1} {v : Value} (h : V1 w R0 R1 μ a' v) (hs : okSh t a' = true) : ∃ vs, All2 (VC w R0 R1 μ) a'.cs vs ∧ v = shapeV t vs := by
  cases a' with
  | one c =>
    simp only [okSh, Bool.and_eq_true, Bool.not_eq_true'] at hs
    exact ⟨[v], ⟨v, [], rfl, h, rfl⟩, by simp [shapeV, hs.1]⟩
  | agg as =>
    simp only [okSh, Bool.not_eq_true'] at hs
    obtain ⟨vs, rfl, ha⟩ := h
    exact ⟨vs, ha, by simp [shapeV, hs]⟩
theorem boxC_ok (h : RelW cx A a w m) {hp : Hp} (hs : Sub hp A.hp) {t : Ty} {k : Nat} {x : t.D} {hp' : Hp} (hb : boxC hp t k = some (x, hp')) :
    BoxR (R0of A m) w t x (m.μ k) (m.F k) ∧ hp' = del hp k ∧ (get hp k).isSome = true ∧ m.F k = m.out k := by
  unfold boxC at hb
  split at hb
  · rename_i cs hk
    split at hb
    · rename_i y hq hf
      simp at hb
      obtain ⟨rfl, rfl⟩ := hb
      obtain ⟨g, c, T, hμ, hc, ha, ho, hi⟩ := h.hp k _ (hs k _ hk)
      obtain ⟨v1, v2, hv, hro, hr2, _⟩ := frzC_ok h t [] cs c.toList y [] hq (fun k o hk => by simp [get] at hk) ha hf
      have hv2 : v2 = [] := hr2
      subst hv2
      rw [List.append_nil] at hv
      rw [← hv] at hro
      refine ⟨⟨g, c, T, hμ, hc, hro.wide fun b hb => hb.elim id fun ⟨j, hj, _⟩ => by simp [get] at hj, by unfold Mp.F; rw [ho, hi]; rfl⟩, rfl, by simp [hk], by unfold Mp.F; rw [hi]; simp⟩
    · cases hb
  · cases hb
theorem boxesC_ok (h : RelW cx A a w m) : ∀ (ts : List Ty) (ks : List Nat) (hp : Hp) (x : TysD ts) (hp' : Hp) (vs : List Value), Sub hp A.hp → All2 (fun k u => u = m.μ k ∧ ∃ g, u = .pointer (some ⟨g, 0, none⟩)) ks vs → boxesC hp ts ks = some (x, hp') →
    ∃ fp, BoxesR (R0of A m) w ts x vs fp ∧ Sub hp' hp ∧ fp.Nodup ∧ (∀ b ∈ fp, Gone m hp hp' b) ∧ ∀ b ∈ fp, ∃ k, (get hp k).isSome = true ∧ get hp' k = none ∧ b ∈ m.out k
  | [], [], hp, x, hp', vs, hs, ha, hb => by
    simp [boxesC] at hb; subst hb
    exact ⟨[], ⟨ha, rfl⟩, Sub.refl _, List.nodup_nil, by simp, by simp⟩
  | t :: ts, k :: ks, hp, x, hp', vs, hs, ⟨v, us, hv, ⟨hu, _⟩, ha⟩, hb => by
    subst hv
    simp only [boxesC] at hb
    cases h1 : boxC hp t k with
    | none => rw [h1] at hb; cases hb
    | some p =>
      obtain ⟨y, hp1⟩ := p
      rw [h1] at hb
      simp only [Option.bind_some] at hb
      cases h2 : boxesC hp1 ts ks with
      | none => rw [h2] at hb; cases hb
      | some q =>
        obtain ⟨ys, hp2⟩ := q
        rw [h2] at hb
        simp at hb
        obtain ⟨rfl, rfl⟩ := hb
        obtain ⟨hbx, rfl, hks, hFo⟩ := boxC_ok h hs h1
        obtain ⟨fp, hbs, hs2, hn2, hg2, ho2⟩ := boxesC_ok h ts ks (del hp k) ys hp2 us ((Sub.del _ _).trans hs) ha h2
        have hnone : get hp2 k = none := by
          cases hc : get hp2 k with
          | none => rfl
          | some o => have := hs2 k o hc; rw [get_del, if_pos rfl] at this; cases this
        refine ⟨m.F k ++ fp, ⟨v, us, m.F k, fp, rfl, rfl, by rw [hu]; exact hbx, hbs⟩, hs2.trans (Sub.del _ _), ?_, fun b hb => ?_, fun b hb => ?_⟩
        · refine List.nodup_append.2 ⟨h.nd k (live_sub hs hks), hn2, fun b hb c hc e => ?_⟩
          subst e
          obtain ⟨j, hj, _, hjb⟩ := hg2 b hc
          have hjk : k ≠ j := by rintro rfl; rw [get_del, if_pos rfl] at hj; cases hj
          exact h.dj k j (live_sub hs hks) (live_sub ((Sub.del _ _).trans hs) hj) hjk b hb hjb
        · rcases List.mem_append.1 hb with hb | hb
          · exact ⟨k, hks, hnone, hb⟩
          · exact (hg2 b hb).right (Sub.del _ _)
        · rcases List.mem_append.1 hb with hb | hb
          · exact ⟨k, hks, hnone, by rw [← hFo]; exact hb⟩
          · obtain ⟨j, hj, hn, hjb⟩ := ho2 b hb
            refine ⟨j, ?_, hn, hjb⟩
            rw [get_del] at hj
            split at hj
            · cases hj
            · exact hj
  | [], _ :: _, hp, x, hp', vs, hs, ha, hb => by simp [boxesC] at hb
  | _ :: _, [], hp, x, hp', vs, hs, ha, hb => by simp [boxesC] at hb
theorem lend1_ok (h : RelW cx A a w m) : ∀ (p : Pm) (a' : A1) (v : Value) (hp : Hp) (x : p.T) (hp' : Hp), Sub hp A.hp → V1 w (R0of A m) (R1of A m) m.μ a' v → lend1 hp p a' = some (x, hp') →
    ∃ fp, LentR (R0of A m) w p x v fp ∧ Sub hp' hp ∧ fp.Nodup ∧ (∀ b ∈ fp, Gone m hp hp' b) ∧ (p.bold = false → ∀ b ∈ fp, ∃ k, (get hp k).isSome = true ∧ get hp' k = none ∧ b ∈ m.out k) := by
  intro p a' v hp x hp' hs hv hl
  cases p with
  | ro t =>
    simp [lend1] at hl
    subst hl
    exact ⟨[], rfl, Sub.refl _, List.nodup_nil, by simp, by simp⟩
  | mv t =>
    simp only [lend1] at hl
    split at hl
    · rename_i hsh
      split at hl
      · rename_i y hp1 htk
        simp at hl
        obtain ⟨rfl, rfl⟩ := hl
        obtain ⟨vs, ha, rfl⟩ := sh_ok hv hsh
        obtain ⟨v1, v2, fp, rfl, ho, hr2, hs', hn, hg⟩ := takeC_ok h t hp _ vs y [] hp1 hs ha htk
        have hv2 : v2 = [] := hr2
        subst hv2
        exact ⟨fp, ⟨v1, by simp, ho⟩, hs', hn, hg, by simp [Pm.bold]⟩
      · cases hl
    · cases hl
  | inp t =>
    simp only [lend1] at hl
    split at hl
    · rename_i hsh
      split at hl
      · rename_i y hp1 htk
        simp at hl
        obtain ⟨rfl, rfl⟩ := hl
        rw [Bool.and_eq_true] at hsh
        obtain ⟨vs, ha, rfl⟩ := sh_ok hv hsh.1
        obtain ⟨v1, v2, fp, rfl, ho, hr2, hs', hn, hg⟩ := takeC_ok h t hp _ vs y [] hp1 hs ha htk
        have hv2 : v2 = [] := hr2
        subst hv2
        exact ⟨fp, ⟨v1, by simp, ho⟩, hs', hn, hg, by simp [Pm.bold]⟩
      · cases hl
    · cases hl
  | st t =>
    simp only [lend1] at hl
    cases hp0 : ptr0 a' with
    | none => rw [hp0] at hl; cases hl
    | some k =>
      rw [hp0] at hl
      simp only [Option.bind_some] at hl
      have ha' : a' = .one (.bptr k 0) := by
        unfold ptr0 at hp0
        split at hp0
        · simp at hp0; subst hp0; rfl
        · cases hp0
      subst ha'
      obtain ⟨hbx, rfl, hks, hFo⟩ := boxC_ok h hs hl
      obtain ⟨g, hμ, hvv⟩ := hv
      rw [← hμ] at hvv
      subst hvv
      have hn : get (del hp k) k = none := by rw [get_del, if_pos rfl]
      exact ⟨m.F k, hbx, Sub.del _ _, h.nd k (live_sub hs hks), fun b hb => ⟨k, hks, hn, hb⟩, fun _ b hb => ⟨k, hks, hn, by rw [← hFo]; exact hb⟩⟩
  | fn f ts =>
    simp only [lend1] at hl
    cases hf0 : fnOf a' with
    | none => rw [hf0] at hl; cases hl
    | some g =>
      rw [hf0] at hl
      simp only [Option.bind_some] at hl
      have ha' : a' = .one (.fn g.1 g.2) := by
        unfold fnOf at hf0
        split at hf0
        · simp at hf0; subst hf0; rfl
        · cases hf0
      subst ha'
      split at hl
      · rename_i hfg
        obtain ⟨vs, rfl, ha⟩ := hv
        obtain ⟨fp, hbs, hs2, hn2, hg2, ho2⟩ := boxesC_ok h _ _ hp x hp' vs hs ha hl
        exact ⟨fp, ⟨vs, by rw [hfg], hbs⟩, hs2, hn2, hg2, fun _ => ho2⟩
      · cases hl
theorem lend_ok (h : RelW cx A a w m) : ∀ (ps : List Pm) (as : List A1) (vs : List Value) (hp : Hp) (x : PsT ps) (hp' : Hp), Sub hp A.hp → All2 (V1 w (R0of A m) (R1of A m) m.μ) as vs → lend hp ps as = some (x, hp') →
    ∃ fp, LentsR (R0of A m) w ps x vs fp ∧ Sub hp' hp ∧ fp.Nodup ∧ (∀ b ∈ fp, Gone m hp hp' b) ∧ (ps.any Pm.bold = false → ∀ b ∈ fp, ∃ k, (get hp k).isSome = true ∧ get hp' k = none ∧ b ∈ m.out k)
  | [], [], vs, hp, x, hp', hs, ha, hl => by
    simp [lend] at hl; subst hl
    exact ⟨[], ⟨ha, rfl⟩, Sub.refl _, List.nodup_nil, by simp, by simp⟩
  | p :: ps, a' :: as, vs, hp, x, hp', hs, ⟨v, us, hv, hu, ha⟩, hl => by
    subst hv
    simp only [lend] at hl
    cases h1 : lend1 hp p a' with
    | none => rw [h1] at hl; cases hl
    | some q =>
      obtain ⟨y, hp1⟩ := q
      rw [h1] at hl
      simp only [Option.bind_some] at hl
      cases h2 : lend hp1 ps as with
      | none => rw [h2] at hl; cases hl
      | some q =>
        obtain ⟨ys, hp2⟩ := q
        rw [h2] at hl
        simp at hl
        obtain ⟨rfl, rfl⟩ := hl
        obtain ⟨f1, hl1, hs1, hn1, hg1, ho1⟩ := lend1_ok h p a' v hp y hp1 hs hu h1
        obtain ⟨f2, hl2, hs2, hn2, hg2, ho2⟩ := lend_ok h ps as us hp1 ys hp2 (hs1.trans hs) ha h2
        refine ⟨f1 ++ f2, ⟨v, us, f1, f2, rfl, rfl, hl1, hl2⟩, hs2.trans hs1, ?_, fun b hb => ?_, fun hbold b hb => ?_⟩
        · refine List.nodup_append.2 ⟨hn1, hn2, fun b hb c hc e => ?_⟩
          subst e
          obtain ⟨k, hk, _, hkb⟩ := hg2 b hc
          exact (hg1 b hb).not h hs hk hs1 hkb
        · rcases List.mem_append.1 hb with hb | hb
          · exact (hg1 b hb).left hs2
          · exact (hg2 b hb).right hs1
        · simp only [List.any_cons, Bool.or_eq_false_iff] at hbold
          rcases List.mem_append.1 hb with hb | hb
          · obtain ⟨k, hk, hn, hkb⟩ := ho1 hbold.1 b hb
            refine ⟨k, hk, ?_, hkb⟩
            cases hc : get hp2 k with
            | none => rfl
            | some o => rw [hs2 k o hc] at hn; cases hn
          · obtain ⟨k, hk, hn, hkb⟩ := ho2 hbold.2 b hb
            refine ⟨k, ?_, hn, hkb⟩
            cases hc : get hp1 k with
            | none => rw [hc] at hk; cases hk
            | some o => simp [hs1 k o hc]
  | [], _ :: _, vs, hp, x, hp', hs, ha, hl => by simp [lend] at hl
  | _ :: _, [], vs, hp, x, hp', hs, ha, hl => by simp [lend] at hl
end
end Go.Refl
