/- The evaluator is right: what a call begins with, and what it hands back. No program in sight. No condition. -/
import Derived.Test.YthmaaogfmakohaaRfL
namespace Go.Refl
open Go.RowKit
set_option linter.unusedVariables false
set_option linter.unusedSimpArgs false

section
variable {cx : Cx} {A : AS} {a : Act} {w : World} {m : Mp} {P : Program}
theorem News.widen {A' : AS} {m' : Mp} {f : List Nat} {k k' k'' : Nat} (h : News cx a w A A' m m' f k k') (hk : k' ≤ k'') : News cx a w A A' m m' f k k'' :=
  ⟨h.rel, fun j hj => h.mu j (hj.imp id fun h' => Nat.le_trans hk h'), h.x0, h.x1, h.grew, Nat.le_trans h.le hk⟩
theorem News.lift {A' : AS} {m' : Mp} {f : List Nat} {k k' i : Nat} (h : News cx a w A A' m m' f k k') (hi : i ≤ k) : News cx a w A A' m m' f i k' :=
  ⟨h.rel, fun j hj => h.mu j (hj.imp (fun h' => Nat.lt_of_lt_of_le h' hi) id), h.x0, h.x1, h.grew, Nat.le_trans hi h.le⟩
theorem News.r0 {A' : AS} {m' : Mp} {f : List Nat} {k k' : Nat} (h : News cx a w A A' m m' f k k') {R' : Nat → Prop} (hR : ∀ b, R' b → R0of A m b) (hf : ∀ b ∈ f, ¬ R' b) : ∀ b, R' b → R0of A' m' b := fun b hb =>
  ⟨by rw [h.x0]; exact (hR b hb).1, fun j hj hm => (h.grew j hj b hm).elim (fun ⟨hl, hm⟩ => (hR b hb).2 j hl hm) fun hm => hf b hm hb⟩
theorem News.none (h : RelW cx A a w m) (k : Nat) : News cx a w A A m m [] k k := ⟨h, fun _ _ => rfl, rfl, rfl, fun j hj b hb => .inl ⟨hj, hb⟩, Nat.le_refl _⟩
theorem initB_ok {X : List Nat} {R' : Nat → Prop} (hRX : ∀ b, R' b → b ∉ X) (hpin : cx.pins = []) : ∀ (ts : List Ty) (x : TysD ts) (k : Nat) (vs : List Value) (fp : List Nat) (A : AS) (m : Mp), RelW cx A a w m → Aside A m X (OwnOk cx) w → BoxesR R' w ts x vs fp → (∀ b, R' b → R0of A m b) → fp.Nodup → (∀ b ∈ fp, b ∈ X) → ApartA A m fp →
    ∃ m', News cx a w A (newToks A (initB ts x k).2) m m' fp k (k + ts.length) ∧ All2 (fun j u => u = m'.μ j ∧ ∃ g, u = .pointer (some ⟨g, 0, none⟩)) (initB ts x k).1 vs ∧ ∀ j ∈ (initB ts x k).1, k ≤ j ∧ j < k + ts.length
  | [], x, k, vs, fp, A, m, h, hX, ho, hR, hnd, hfX, hap => by
    obtain ⟨rfl, rfl⟩ := ho
    exact ⟨m, News.none h k, rfl, by simp [initB]⟩
  | t :: ts, x, k, vs, fp, A, m, h, hX, ⟨v, us, f1, f2, hv, hf, ho1, ho2⟩, hR, hnd, hfX, hap => by
    subst hv hf
    have hnd' := List.nodup_append.1 hnd
    obtain ⟨g, c, T, rfl, hc, hro, rfl⟩ := ho1
    obtain ⟨hN, hv⟩ := one_new h hX k (.box (roC true t x.1)) (.pointer (some ⟨g, 0, none⟩)) [g] [] (fun b hb => hfX b (by simp at hb; simp [hb])) (by simp) (fun j hj b hb hm => hap j hj b hb (by simp at hm; simp [hm])) (by simp [hpin])
      ⟨g, c, T, by simp [Mp.upd], hc, (roC_ok (p := true) (hro.wide hR)).mono fun a _ u hu => hu, rfl, rfl⟩
    simp only [List.append_nil] at hN
    obtain ⟨m2, hN2, ha2, ht2⟩ := initB_ok hRX hpin ts x.2 (k + 1) us f2 _ _ hN.rel (hX.move hN.x0 hN.x1) ho2 (hN.r0 hR fun b hb hr => hRX b hr (hfX b (by simp at hb; simp [hb]))) hnd'.2.1 (fun b hb => hfX b (by simp [hb]))
      (hap.next hN.grew fun b hb hm => hnd'.2.2 b hb b hm rfl)
    refine ⟨m2, ?_, ⟨_, us, rfl, ⟨?_, g, rfl⟩, ha2⟩, ?_⟩
    · have := hN.trans hN2
      simp only [initB, newToks, List.length_cons]
      rw [show k + (ts.length + 1) = k + 1 + ts.length by omega]
      exact this
    · rw [hN2.mu k (.inl (Nat.lt_succ_self k))]; exact hv.symm
    · intro j hj
      simp only [initB, List.mem_cons, List.length_cons] at hj ⊢
      rcases hj with rfl | hj
      · omega
      · have := ht2 j hj; omega
theorem init1_ok {X : List Nat} {R' : Nat → Prop} (hRX : ∀ b, R' b → b ∉ X) (hpin : cx.pins = []) (p : Pm) (x : p.D) (k : Nat) (v : Value) (fp : List Nat) (h : RelW cx A a w m) (hX : Aside A m X (OwnOk cx) w) (ho : ArgR R' w p x v fp) (hR : ∀ b, R' b → R0of A m b) (hnd : fp.Nodup) (hfX : ∀ b ∈ fp, b ∈ X) (hap : ApartA A m fp) :
    ∃ m', News cx a w A (newToks A (init1 p x k).2) m m' fp k (k + p.size) ∧ (∀ R0 R1, (∀ b, R' b → R0 b) → V1 w R0 R1 m'.μ (init1 p x k).1 v) ∧ (p.isRo = false → Fit1 m'.μ (init1 p x k).1 v) ∧ ∀ c ∈ (init1 p x k).1.cs, ∀ j ∈ c.toks, k ≤ j ∧ j < k + p.size := by
  have own : ∀ (t : Ty) (x : t.D), (∃ cs, v = shapeV t cs ∧ Own w t x cs fp) → ∃ m', News cx a w A (newToks A (ownC t x k).2.1) m m' fp k (k + t.cells) ∧ Fit1 m'.μ (shape t (ownC t x k).1) v ∧ ∀ c ∈ (shape t (ownC t x k).1).cs, ∀ j ∈ c.toks, k ≤ j ∧ j < k + t.cells := by
    rintro t x ⟨cs, rfl, hown⟩
    obtain ⟨m', hN, ha, ht, hk⟩ := ownC_ok t x k cs fp A m h hX (by simp [hpin]) hown hnd hfX hap
    refine ⟨m', hN.widen hk, fit_shape ha (ownC_len _ _ _), fun c hc j hj => ?_⟩
    rw [shape_cs t _ (ownC_len _ _ _)] at hc
    have := ht c hc j hj
    omega
  cases p with
  | ro t =>
    obtain ⟨⟨cs, rfl, hro⟩, rfl⟩ := ho
    refine ⟨m, News.none h k, fun R0 R1 hr => V1.shape (roC_ok (p := true) (hro.wide hr)) (roC_len _ _ _), by simp [Pm.isRo], ?_⟩
    intro c hc j hj
    simp only [init1] at hc
    rw [shape_cs t _ (roC_len _ _ _)] at hc
    exfalso
    have : ∀ (t : Ty) (x : t.D), ∀ c ∈ roC true t x, c.toks = [] := by
      intro t
      induction t with
      | unit => intro x c hc; simp [roC] at hc
      | pair a b iha ihb => intro x c hc; simp only [roC, List.mem_append] at hc; exact hc.elim (iha _ c) (ihb _ c)
      | int k => intro x c hc; simp [roC] at hc; subst hc; rfl
      | bool => intro x c hc; simp [roC] at hc; subst hc; rfl
      | str => intro x c hc; simp [roC] at hc; subst hc; rfl
      | sl e t => intro x c hc; simp [roC] at hc; subst hc; rfl
    rw [this t x c hc] at hj
    simp at hj
  | mv t =>
    obtain ⟨m', h1, h2, h3⟩ := own t x ho
    exact ⟨m', h1, fun R0 R1 _ => h2 w R0 R1, fun _ => h2, h3⟩
  | inp t =>
    obtain ⟨m', h1, h2, h3⟩ := own t x ho
    exact ⟨m', h1, fun R0 R1 _ => h2 w R0 R1, fun _ => h2, h3⟩
  | st t =>
    obtain ⟨m', h1, h2, h3⟩ := initB_ok hRX hpin [t] (x, ()) k [v] fp A m h hX ⟨v, [], fp, [], rfl, by simp, ho, rfl, rfl⟩ hR hnd hfX hap
    obtain ⟨_, _, he, ⟨hv, g, hg⟩, _⟩ := h2
    simp at he
    obtain ⟨rfl, _⟩ := he
    have hf : Fit1 m'.μ (.one (.bptr k 0)) v := fun w R0 R1 => ⟨g, hv.symm.trans hg, hg⟩
    exact ⟨m', h1, fun R0 R1 _ => hf w R0 R1, fun _ => hf, fun c hc j hj => by simp [init1, A1.cs] at hc; subst hc; simp [AC.toks] at hj; subst hj; simp [Pm.size]⟩
  | fn f ts =>
    obtain ⟨vs, rfl, ho⟩ := ho
    obtain ⟨m', h1, h2, h3⟩ := initB_ok hRX hpin ts x k vs fp A m h hX ho hR hnd hfX hap
    have hf : Fit1 m'.μ (.one (.fn f (initB ts x k).1)) (.func (.func f) #[] vs.toArray) := fun w R0 R1 => ⟨vs, rfl, h2⟩
    exact ⟨m', h1, fun R0 R1 _ => hf w R0 R1, fun _ => hf, fun c hc j hj => by simp [init1, A1.cs] at hc; subst hc; exact h3 j hj⟩
def FitL (μ : Nat → Value) : List Pm → List A1 → List Value → Prop
  | [], as, vs => as = [] ∧ vs = []
  | p :: ps, as, vs => ∃ a as' v vs', as = a :: as' ∧ vs = v :: vs' ∧ (p.isRo = false → Fit1 μ a v) ∧ FitL μ ps as' vs'
theorem Fit1.move {μ μ' : Nat → Value} {a : A1} {v : Value} (h : Fit1 μ a v) (hm : ∀ c ∈ a.cs, ∀ j ∈ c.toks, μ' j = μ j) : Fit1 μ' a v := fun w R0 R1 =>
  V1.mono (h w R0 R1) (fun b hb _ => ⟨rfl, hb⟩) (fun _ b hb _ => ⟨rfl, hb⟩) hm
def psOk (ps : List Pm) : Bool := ps.all fun p => decide (p.size ≤ 16)
theorem initL_ok {X : List Nat} {R' : Nat → Prop} (hRX : ∀ b, R' b → b ∉ X) (hpin : cx.pins = []) : ∀ (ps : List Pm) (x : PsD ps) (i : Nat) (vs : List Value) (fp : List Nat) (A : AS) (m : Mp), psOk ps = true → RelW cx A a w m → Aside A m X (OwnOk cx) w → ArgsR R' w ps x vs fp → (∀ b, R' b → R0of A m b) → fp.Nodup → (∀ b ∈ fp, b ∈ X) → ApartA A m fp →
    ∃ m', RelW cx (newToks A (initL ps x i).2) a w m' ∧ (∀ b, R' b → R0of (newToks A (initL ps x i).2) m' b) ∧ All2 (fun b u => ∀ R0 R1, (∀ b, R' b → R0 b) → V1 w R0 R1 m'.μ b u) (initL ps x i).1 vs ∧ FitL m'.μ ps (initL ps x i).1 vs ∧
      (∀ b ∈ (initL ps x i).1, ∀ c ∈ b.cs, ∀ j ∈ c.toks, pinBase + i * 16 ≤ j ∧ j < pinBase + (i + ps.length) * 16) ∧ ∀ j, j < pinBase + i * 16 → m'.μ j = m.μ j
  | [], x, i, vs, fp, A, m, _, h, hX, ho, hR, hnd, hfX, hap => by
    obtain ⟨rfl, rfl⟩ := ho
    exact ⟨m, h, hR, rfl, ⟨rfl, rfl⟩, by simp [initL], fun _ _ => rfl⟩
  | p :: ps, x, i, vs, fp, A, m, hps, h, hX, ⟨v, us, f1, f2, hv, hf, ho1, ho2⟩, hR, hnd, hfX, hap => by
    subst hv hf
    simp only [psOk, List.all_cons, Bool.and_eq_true, decide_eq_true_eq] at hps
    have hnd' := List.nodup_append.1 hnd
    obtain ⟨m1, hN1, hv1, hf1, ht1⟩ := init1_ok hRX hpin p x.1 (pinBase + i * 16) v f1 h hX ho1 hR hnd'.1 (fun b hb => hfX b (by simp [hb])) hap.left
    obtain ⟨m2, h2, hR2, hv2, hf2, ht2, hm2⟩ := initL_ok hRX hpin ps x.2 (i + 1) us f2 _ m1 (by simpa only [psOk] using hps.2) hN1.rel (hX.move hN1.x0 hN1.x1) ho2 (hN1.r0 hR fun b hb hr => hRX b hr (hfX b (by simp [hb]))) hnd'.2.1 (fun b hb => hfX b (by simp [hb]))
      (hap.next hN1.grew fun b hb hm => hnd'.2.2 b hb b hm rfl)
    have hlt : ∀ c ∈ (init1 p x.1 (pinBase + i * 16)).1.cs, ∀ j ∈ c.toks, j < pinBase + (i + 1) * 16 := fun c hc j hj => by have := ht1 c hc j hj; omega
    have hmu : ∀ c ∈ (init1 p x.1 (pinBase + i * 16)).1.cs, ∀ j ∈ c.toks, m2.μ j = m1.μ j := fun c hc j hj => hm2 j (hlt c hc j hj)
    refine ⟨m2, ?_, ?_, ⟨v, us, rfl, fun R0 R1 hr => V1.mono (hv1 R0 R1 hr) (fun b hb _ => ⟨rfl, hb⟩) (fun _ b hb _ => ⟨rfl, hb⟩) hmu, hv2⟩, ⟨_, _, v, us, rfl, rfl, fun hr => (hf1 hr).move hmu, hf2⟩, fun b hb c hc j hj => ?_, fun j hj => ?_⟩
    · simp only [initL, newToks_app]; exact h2
    · simp only [initL, newToks_app]; exact hR2
    · simp only [initL, List.mem_cons, List.length_cons] at hb ⊢
      rcases hb with rfl | hb
      · have h1 := ht1 c hc j hj; have h2 := hlt c hc j hj; omega
      · have := ht2 b hb c hc j hj; omega
    · exact (hm2 j (by omega)).trans (hN1.mu j (.inl hj))
theorem get_numF : ∀ (as : List A1) (i j : Nat) (av : AV), get (numF as i) j = some av → ∃ b, as[j - i]? = some b ∧ av = .v b ∧ i ≤ j
  | [], i, j, av, h => by simp [numF, get] at h
  | b :: as, i, j, av, h => by
    simp only [numF, get] at h
    split at h
    · rename_i e; subst e; cases h; exact ⟨b, by simp, rfl, Nat.le_refl _⟩
    · obtain ⟨c, hc, hv, hi⟩ := get_numF as (i + 1) j av h
      refine ⟨c, ?_, hv, by omega⟩
      rw [show j - i = (j - (i + 1)) + 1 by omega]
      simpa using hc

/-! ### What is handed back -/
def Rk.pm : Rk → Pm
  | .own t => .mv t
  | .box t => .st t
theorem give1_ok (h : RelW cx A a w m) (rk : Rk) (a' : A1) (v : Value) (hp : Hp) (x : rk.D) (hp' : Hp) (hs : Sub hp A.hp) (hv : V1 w (R0of A m) (R1of A m) m.μ a' v) (hg : give1 hp rk a' = some (x, hp')) :
    ∃ fp, ResR (R0of A m) w rk x v fp ∧ Sub hp' hp ∧ fp.Nodup ∧ ∀ b ∈ fp, Gone m hp hp' b := by
  cases rk with
  | own t =>
    obtain ⟨fp, h1, h2, h3, h4, _⟩ := lend1_ok h (.mv t) a' v hp x hp' hs hv hg
    exact ⟨fp, h1, h2, h3, h4⟩
  | box t =>
    obtain ⟨fp, h1, h2, h3, h4, _⟩ := lend1_ok h (.st t) a' v hp x hp' hs hv hg
    exact ⟨fp, h1, h2, h3, h4⟩
theorem gives_ok (h : RelW cx A a w m) : ∀ (rs : List Rk) (as : List A1) (vs : List Value) (hp : Hp) (x : RsD rs) (hp' : Hp), Sub hp A.hp → All2 (V1 w (R0of A m) (R1of A m) m.μ) as vs → gives hp rs as = some (x, hp') →
    ∃ fp, RessR (R0of A m) w rs x vs fp ∧ Sub hp' hp ∧ fp.Nodup ∧ ∀ b ∈ fp, Gone m hp hp' b
  | [], [], vs, hp, x, hp', hs, ha, hg => by
    simp [gives] at hg; subst hg
    exact ⟨[], ⟨ha, rfl⟩, Sub.refl _, List.nodup_nil, by simp⟩
  | rk :: rs, a' :: as, vs, hp, x, hp', hs, ⟨v, us, hv, hu, ha⟩, hg => by
    subst hv
    simp only [gives] at hg
    cases h1 : give1 hp rk a' with
    | none => rw [h1] at hg; cases hg
    | some q =>
      obtain ⟨y, hp1⟩ := q
      rw [h1] at hg
      simp only [Option.bind_some] at hg
      cases h2 : gives hp1 rs as with
      | none => rw [h2] at hg; cases hg
      | some q =>
        obtain ⟨ys, hp2⟩ := q
        rw [h2] at hg
        simp at hg
        obtain ⟨rfl, rfl⟩ := hg
        obtain ⟨f1, hl1, hs1, hn1, hg1⟩ := give1_ok h rk a' v hp y hp1 hs hu h1
        obtain ⟨f2, hl2, hs2, hn2, hg2⟩ := gives_ok h rs as us hp1 ys hp2 (hs1.trans hs) ha h2
        refine ⟨f1 ++ f2, ⟨v, us, f1, f2, rfl, rfl, hl1, hl2⟩, hs2.trans hs1, ?_, fun b hb => ?_⟩
        · refine List.nodup_append.2 ⟨hn1, hn2, fun b hb c hc e => ?_⟩
          subst e
          obtain ⟨k, hk, _, hkb⟩ := hg2 b hc
          exact (hg1 b hb).not h hs hk hs1 hkb
        · rcases List.mem_append.1 hb with hb | hb
          · exact (hg1 b hb).left hs2
          · exact (hg2 b hb).right hs1
  | [], _ :: _, vs, hp, x, hp', hs, ha, hg => by simp [gives] at hg
  | _ :: _, [], vs, hp, x, hp', hs, ha, hg => by simp [gives] at hg
theorem takeC_live : ∀ (t : Ty) (hp : Hp) (cs : List AC) (x : t.D) (rest : List AC) (hp' : Hp), takeC hp t cs = some (x, rest, hp') → ∀ c ∈ cs, c ∈ rest ∨ ∀ k ∈ c.toks, (get hp k).isSome = true
  | .unit, hp, cs, x, rest, hp', h, c, hc => by simp [takeC] at h; left; rw [← h.1]; exact hc
  | .pair ta tb, hp, cs, x, rest, hp', h, c, hc => by
    simp only [takeC] at h
    cases h1 : takeC hp ta cs with
    | none => rw [h1] at h; cases h
    | some p =>
      obtain ⟨xa, cs1, hp1⟩ := p
      rw [h1] at h; simp only [Option.bind_some] at h
      cases h2 : takeC hp1 tb cs1 with
      | none => rw [h2] at h; cases h
      | some q =>
        obtain ⟨xb, cs2, hp2⟩ := q
        rw [h2] at h
        simp at h
        obtain ⟨rfl, rfl, rfl⟩ := h
        rcases takeC_live ta hp cs xa cs1 hp1 h1 c hc with h3 | h3
        · rcases takeC_live tb hp1 cs1 xb cs2 hp2 h2 c h3 with h4 | h4
          · exact .inl h4
          · right
            intro k hk
            have := h4 k hk
            cases hg : get hp1 k with
            | none => rw [hg] at this; cases this
            | some o => simp [takeC_sub hp ta cs xa cs1 hp1 h1 k o hg]
        · exact .inr h3
  | .int i, hp, cs, x, rest, hp', h, c, hc => by
    cases cs with
    | nil => simp at hc
    | cons d cs =>
      cases d <;> simp only [takeC] at h <;> try (cases h; done)
      rename_i p t y
      cases hcd : castD t (.int i) y with
      | none => rw [hcd] at h; cases h
      | some z =>
        rw [hcd] at h
        simp at h
        rcases List.mem_cons.1 hc with rfl | hc
        · right; simp [AC.toks]
        · left; rw [← h.2.1]; exact hc
  | .bool, hp, cs, x, rest, hp', h, c, hc => by
    cases cs with
    | nil => simp at hc
    | cons d cs =>
      cases d <;> simp only [takeC] at h <;> try (cases h; done)
      rename_i p t y
      cases hcd : castD t .bool y with
      | none => rw [hcd] at h; cases h
      | some z =>
        rw [hcd] at h
        simp at h
        rcases List.mem_cons.1 hc with rfl | hc
        · right; simp [AC.toks]
        · left; rw [← h.2.1]; exact hc
  | .str, hp, cs, x, rest, hp', h, c, hc => by
    cases cs with
    | nil => simp at hc
    | cons d cs =>
      cases d <;> simp only [takeC] at h <;> try (cases h; done)
      rename_i p t y
      cases hcd : castD t .str y with
      | none => rw [hcd] at h; cases h
      | some z =>
        rw [hcd] at h
        simp at h
        rcases List.mem_cons.1 hc with rfl | hc
        · right; simp [AC.toks]
        · left; rw [← h.2.1]; exact hc
  | .sl e t, hp, cs, x, rest, hp', h, c, hc => by
    cases cs with
    | nil => simp at hc
    | cons d cs =>
      cases d <;> simp only [takeC] at h <;> try (cases h; done)
      case nil =>
        simp at h
        rcases List.mem_cons.1 hc with rfl | hc
        · right; simp [AC.toks]
        · left; rw [← h.2.1]; exact hc
      case own k =>
        split at h
        · rename_i e' t' xs hk
          cases hcd : castD (.sl e' t') (.sl e t) xs with
          | none => rw [hcd] at h; cases h
          | some z =>
            rw [hcd] at h
            simp at h
            rcases List.mem_cons.1 hc with rfl | hc
            · right; simp [AC.toks, hk]
            · left; rw [← h.2.1]; exact hc
        · cases h
      case sub k sz lo hi =>
        split at h
        · rename_i e' t' xs hk
          split at h
          · cases hcd : castD (.sl e' t') (.sl e t) (xs.take hi.toNat) with
            | none => rw [hcd] at h; cases h
            | some z =>
              rw [hcd] at h
              simp at h
              rcases List.mem_cons.1 hc with rfl | hc
              · right; simp [AC.toks, hk]
              · left; rw [← h.2.1]; exact hc
          · cases h
        · cases h
theorem boxC_live {hp : Hp} {t : Ty} {k : Nat} {x : t.D} {hp' : Hp} (h : boxC hp t k = some (x, hp')) : (get hp k).isSome = true := (boxC_shape h).2
theorem boxesC_live : ∀ (ts : List Ty) (ks : List Nat) (hp : Hp) (x : TysD ts) (hp' : Hp), boxesC hp ts ks = some (x, hp') → ∀ k ∈ ks, (get hp k).isSome = true
  | [], [], hp, x, hp', h, k, hk => by simp at hk
  | t :: ts, j :: ks, hp, x, hp', h, k, hk => by
    simp only [boxesC] at h
    cases h1 : boxC hp t j with
    | none => rw [h1] at h; cases h
    | some p =>
      obtain ⟨y, hp1⟩ := p
      rw [h1] at h
      simp only [Option.bind_some] at h
      cases h2 : boxesC hp1 ts ks with
      | none => rw [h2] at h; cases h
      | some q =>
        obtain ⟨ys, hp2⟩ := q
        obtain ⟨rfl, hj⟩ := boxC_shape h1
        rcases List.mem_cons.1 hk with rfl | hk
        · exact hj
        · have := boxesC_live ts ks _ ys hp2 h2 k hk
          rw [get_del] at this
          split at this
          · cases this
          · exact this
  | [], _ :: _, hp, x, hp', h, k, hk => by simp [boxesC] at h
  | _ :: _, [], hp, x, hp', h, k, hk => by simp at hk
theorem lend1_live (p : Pm) (hro : p.isRo = false) (a' : A1) (hp : Hp) (x : p.T) (hp' : Hp) (hl : lend1 hp p a' = some (x, hp')) : ∀ c ∈ a'.cs, ∀ k ∈ c.toks, (get hp k).isSome = true := by
  cases p with
  | ro t => simp [Pm.isRo] at hro
  | mv t =>
    simp only [lend1] at hl
    split at hl
    · split at hl
      · rename_i y hp1 htk
        intro c hc
        exact (takeC_live t hp _ y [] hp1 htk c hc).resolve_left (by simp)
      · cases hl
    · cases hl
  | inp t =>
    simp only [lend1] at hl
    split at hl
    · split at hl
      · rename_i y hp1 htk
        intro c hc
        exact (takeC_live t hp _ y [] hp1 htk c hc).resolve_left (by simp)
      · cases hl
    · cases hl
  | st t =>
    simp only [lend1] at hl
    cases hp0 : ptr0 a' with
    | none => rw [hp0] at hl; cases hl
    | some k =>
      rw [hp0] at hl
      simp only [Option.bind_some] at hl
      have ha' : a' = .one (.bptr k 0) := by
        unfold ptr0 at hp0
        split at hp0
        · simp at hp0; subst hp0; rfl
        · cases hp0
      subst ha'
      intro c hc j hj
      simp [A1.cs] at hc; subst hc
      simp [AC.toks] at hj; subst hj
      exact boxC_live hl
  | fn f ts =>
    simp only [lend1] at hl
    cases hf0 : fnOf a' with
    | none => rw [hf0] at hl; cases hl
    | some g =>
      rw [hf0] at hl
      simp only [Option.bind_some] at hl
      have ha' : a' = .one (.fn g.1 g.2) := by
        unfold fnOf at hf0
        split at hf0
        · simp at hf0; subst hf0; rfl
        · cases hf0
      subst ha'
      split at hl
      · intro c hc j hj
        simp [A1.cs] at hc; subst hc
        exact boxesC_live _ _ hp x hp' hl j hj
      · cases hl
theorem out1_ok (h : RelW cx A a w m) {μ : Nat → Value} (p : Pm) (a' : A1) (v : Value) (hp : Hp) (x : p.O) (hp' : Hp) (hs : Sub hp A.hp) (hf : p.isRo = false → Fit1 μ a' v) (hμ : ∀ c ∈ a'.cs, ∀ k ∈ c.toks, live A k → m.μ k = μ k) (ho : out1 hp p a' = some (x, hp')) :
    ∃ fp, OutR (R0of A m) w p x v fp ∧ Sub hp' hp ∧ fp.Nodup ∧ ∀ b ∈ fp, Gone m hp hp' b := by
  have fit : ∀ (q : Pm) (y : q.T), q.isRo = false → p.isRo = false → lend1 hp q a' = some (y, hp') → V1 w (R0of A m) (R1of A m) m.μ a' v := fun q y hq hp1 hl =>
    ((hf hp1).move fun c hc k hk => hμ c hc k hk (live_sub hs (lend1_live q hq a' hp y hp' hl c hc k hk))) w _ _
  cases p with
  | ro t =>
    simp [out1] at ho
    subst ho
    exact ⟨[], rfl, Sub.refl _, List.nodup_nil, by simp⟩
  | mv t =>
    simp [out1] at ho
    subst ho
    exact ⟨[], rfl, Sub.refl _, List.nodup_nil, by simp⟩
  | inp t =>
    obtain ⟨fp, h1, h2, h3, h4, _⟩ := lend1_ok h (.inp t) a' v hp x hp' hs (fit (.inp t) x rfl rfl ho) ho
    exact ⟨fp, h1, h2, h3, h4⟩
  | st t =>
    obtain ⟨fp, h1, h2, h3, h4, _⟩ := lend1_ok h (.st t) a' v hp x hp' hs (fit (.st t) x rfl rfl ho) ho
    exact ⟨fp, h1, h2, h3, h4⟩
  | fn f ts =>
    obtain ⟨fp, h1, h2, h3, h4, _⟩ := lend1_ok h (.fn f ts) a' v hp x hp' hs (fit (.fn f ts) x rfl rfl ho) ho
    exact ⟨fp, h1, h2, h3, h4⟩
theorem outs_ok (h : RelW cx A a w m) {μ : Nat → Value} : ∀ (ps : List Pm) (as : List A1) (vs : List Value) (hp : Hp) (x : PsO ps) (hp' : Hp), Sub hp A.hp → FitL μ ps as vs → (∀ b ∈ as, ∀ c ∈ b.cs, ∀ k ∈ c.toks, live A k → m.μ k = μ k) → outs hp ps as = some (x, hp') →
    ∃ fp, OutsR (R0of A m) w ps x vs fp ∧ Sub hp' hp ∧ fp.Nodup ∧ ∀ b ∈ fp, Gone m hp hp' b
  | [], as, vs, hp, x, hp', hs, ha, hμ, hg => by
    obtain ⟨rfl, rfl⟩ := ha
    simp [outs] at hg; subst hg
    exact ⟨[], rfl, Sub.refl _, List.nodup_nil, by simp⟩
  | p :: ps, as, vs, hp, x, hp', hs, ⟨a', as', v, us, ha, hv, hu, hfl⟩, hμ, hg => by
    subst hv ha
    simp only [outs] at hg
    cases h1 : out1 hp p a' with
    | none => rw [h1] at hg; cases hg
    | some q =>
      obtain ⟨y, hp1⟩ := q
      rw [h1] at hg
      simp only [Option.bind_some] at hg
      cases h2 : outs hp1 ps as' with
      | none => rw [h2] at hg; cases hg
      | some q =>
        obtain ⟨ys, hp2⟩ := q
        rw [h2] at hg
        simp at hg
        obtain ⟨rfl, rfl⟩ := hg
        obtain ⟨f1, hl1, hs1, hn1, hg1⟩ := out1_ok h p a' v hp y hp1 hs hu (hμ a' (by simp)) h1
        obtain ⟨f2, hl2, hs2, hn2, hg2⟩ := outs_ok h ps as' us hp1 ys hp2 (hs1.trans hs) hfl (fun b hb => hμ b (by simp [hb])) h2
        refine ⟨f1 ++ f2, ⟨v, us, f1, f2, rfl, rfl, hl1, hl2⟩, hs2.trans hs1, ?_, fun b hb => ?_⟩
        · refine List.nodup_append.2 ⟨hn1, hn2, fun b hb c hc e => ?_⟩
          subst e
          obtain ⟨k, hk, _, hkb⟩ := hg2 b hc
          exact (hg1 b hb).not h hs hk hs1 hkb
        · rcases List.mem_append.1 hb with hb | hb
          · exact (hg1 b hb).left hs2
          · exact (hg2 b hb).right hs1
end
end Go.Refl
