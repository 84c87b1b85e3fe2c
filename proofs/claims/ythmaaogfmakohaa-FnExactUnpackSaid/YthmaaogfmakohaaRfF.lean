/- The evaluator is right: results, and a call as a whole. No program in sight. No condition. -/
import Derived.Test.YthmaaogfmakohaaRfE
namespace Go.Refl
open Go.RowKit
set_option linter.unusedVariables false
set_option linter.unusedSimpArgs false

section
variable {cx : Cx} {A : AS} {a : Act} {w : World} {m : Mp} {P : Program}
/-- A cell that fits whatever is read where. -/
def Fits (μ : Nat → Value) (c : AC) (v : Value) : Prop := ∀ (w : World) (R0 R1 : Nat → Prop), VC w R0 R1 μ c v
theorem newToks_app (A : AS) : ∀ (h1 h2 : Hp), newToks A (h1 ++ h2) = newToks (newToks A h1) h2
  | [], _ => rfl
  | (k, o) :: h1, h2 => by simp only [List.cons_append, newToks]; exact newToks_app _ h1 h2
/-- New things are in: the state, and what it says of them. -/
structure News (cx : Cx) (a : Act) (w : World) (A A' : AS) (m m' : Mp) (fo : List Nat) (k k' : Nat) : Prop where
  rel : RelW cx A' a w m'
  mu : ∀ j, j < k ∨ k' ≤ j → m'.μ j = m.μ j
  x0 : m'.x0 = m.x0
  x1 : m'.x1 = m.x1
  grew : Grew A A' m m' fo
  le : k ≤ k'
theorem News.trans {A A' A'' : AS} {m m' m'' : Mp} {f g : List Nat} {k k' k'' : Nat} (h : News cx a w A A' m m' f k k') (h' : News cx a w A' A'' m' m'' g k' k'') : News cx a w A A'' m m'' (f ++ g) k k'' :=
  ⟨h'.rel, fun j hj => (h'.mu j (hj.elim (fun h1 => .inl (Nat.lt_of_lt_of_le h1 h.le)) .inr)).trans (h.mu j (hj.elim .inl fun h1 => .inr (Nat.le_trans h'.le h1))), h'.x0.trans h.x0, h'.x1.trans h.x1, h.grew.trans h'.grew, Nat.le_trans h.le h'.le⟩
def ApartA (A : AS) (m : Mp) (f : List Nat) : Prop := ∀ j, live A j → ∀ b ∈ m.F j, b ∉ f
theorem ApartA.left {f g : List Nat} (h : ApartA A m (f ++ g)) : ApartA A m f := fun j hj b hb hm => h j hj b hb (List.mem_append.2 (.inl hm))
theorem ApartA.next {A' : AS} {m' : Mp} {f g : List Nat} (h : ApartA A m (f ++ g)) (hg : Grew A A' m m' f) (hd : ∀ b ∈ f, b ∉ g) : ApartA A' m' g := fun j hj b hb hm => by
  rcases hg j hj b hb with ⟨hl, hb⟩ | hb
  · exact h j hl b hb (List.mem_append.2 (.inr hm))
  · exact hd b hb hm
theorem newTok_live {k : Nat} {o : AO} {j : Nat} (h : live (newTok A k o) j) : j = k ∨ (live A j ∧ j ≠ k) := by
  unfold newTok at h
  unfold live at h
  simp only [get_ins] at h
  split at h
  · rename_i e; exact .inl e.symm
  · rename_i e
    have h2 := live_kill (A := A) (k := k) (j := j) h
    exact .inr h2
theorem one_new (h : RelW cx A a w m) {X : List Nat} (hX : Aside A m X (OwnOk cx) w) (k : Nat) (o : AO) (v : Value) (out inn : List Nat) (hsub : ∀ b ∈ out ++ inn, b ∈ X) (hnd : (out ++ inn).Nodup) (hap : ApartA A m (out ++ inn)) (hpin : ∀ u, (k, u) ∉ cx.pins)
    (hv : VO w (R0of A m) (R1of A m) (m.upd k v out inn).μ k o out inn) : News cx a w A (newTok A k o) m (m.upd k v out inn) (out ++ inn) k (k + 1) ∧ (m.upd k v out inn).μ k = v := by
  refine ⟨⟨h.new k o v out inn hv hnd hap (fun b hb => hX.lt b (hsub b hb)) (fun b hb => hX.own b (hsub b hb)) hpin (fun b hb => hX.x0 b (hsub b hb)) (fun b hb => hX.x1 b (hsub b (List.mem_append.2 (.inl hb)))), fun j hj => ?_, rfl, rfl, fun j hj b hb => ?_, by omega⟩, by simp [Mp.upd]⟩
  · have : j ≠ k := by omega
    simp [Mp.upd, this]
  · rw [Mp.upd_F] at hb
    split at hb
    · exact .inr hb
    · rename_i e
      exact .inl ⟨((newTok_live hj).resolve_left e).1, hb⟩
theorem ownC_ok {X : List Nat} : ∀ (t : Ty) (x : t.D) (k : Nat) (cs : List Value) (fp : List Nat) (A : AS) (m : Mp), RelW cx A a w m → Aside A m X (OwnOk cx) w → (∀ j u, k ≤ j → j < k + t.cells → (j, u) ∉ cx.pins) → Own w t x cs fp → fp.Nodup → (∀ b ∈ fp, b ∈ X) → ApartA A m fp →
    ∃ m', News cx a w A (newToks A (ownC t x k).2.1) m m' fp k (ownC t x k).2.2 ∧ All2 (Fits m'.μ) (ownC t x k).1 cs ∧ (∀ c ∈ (ownC t x k).1, ∀ j ∈ c.toks, k ≤ j ∧ j < (ownC t x k).2.2) ∧ (ownC t x k).2.2 ≤ k + t.cells
  | .unit, x, k, cs, fp, A, m, h, hX, hpin, ho, hnd, hfX, hap => by
    obtain ⟨rfl, rfl⟩ := ho
    exact ⟨m, ⟨h, fun _ _ => rfl, rfl, rfl, fun j hj b hb => .inl ⟨hj, hb⟩, Nat.le_refl _⟩, rfl, by simp [ownC], by simp [ownC]⟩
  | .int i, x, k, cs, fp, A, m, h, hX, hpin, ho, hnd, hfX, hap => by
    obtain ⟨rfl, hi, rfl⟩ := ho
    exact ⟨m, ⟨h, fun _ _ => rfl, rfl, rfl, fun j hj b hb => .inl ⟨hj, hb⟩, Nat.le_refl _⟩, ⟨_, [], rfl, fun w R0 R1 => VC.mkInt w R0 R1 m.μ true hi, rfl⟩, by simp [ownC, AC.toks], by simp [ownC]⟩
  | .bool, x, k, cs, fp, A, m, h, hX, hpin, ho, hnd, hfX, hap => by
    obtain ⟨rfl, rfl⟩ := ho
    exact ⟨m, ⟨h, fun _ _ => rfl, rfl, rfl, fun j hj b hb => .inl ⟨hj, hb⟩, Nat.le_refl _⟩, ⟨_, [], rfl, fun w R0 R1 => VC.mkBool w R0 R1 m.μ true x, rfl⟩, by simp [ownC, AC.toks], by simp [ownC]⟩
  | .str, x, k, cs, fp, A, m, h, hX, hpin, ho, hnd, hfX, hap => by
    obtain ⟨⟨s, rfl, hs, hl⟩, rfl⟩ := ho
    exact ⟨m, ⟨h, fun _ _ => rfl, rfl, rfl, fun j hj b hb => .inl ⟨hj, hb⟩, Nat.le_refl _⟩, ⟨_, [], rfl, fun w R0 R1 => ⟨rfl, s, rfl, hs, hl⟩, rfl⟩, by simp [ownC, AC.toks], by simp [ownC]⟩
  | .sl e t, x, k, cs, fp, A, m, h, hX, hpin, ho, hnd, hfX, hap => by
    obtain ⟨v, vs, f1, f2, rfl, hh, hol, rfl⟩ := ho
    obtain ⟨hN, hv⟩ := one_new h hX k (.arr e t x) v f1 f2 hfX hnd hap (fun u => hpin k u (Nat.le_refl _) (by simp [Ty.cells])) ⟨vs, by simpa [Mp.upd] using hh, hol⟩
    obtain ⟨av, cap, hs, _⟩ := hh.slice
    exact ⟨_, hN, ⟨v, [], rfl, fun w R0 R1 => ⟨hv.symm, av, _, cap, hs⟩, rfl⟩, by simp [ownC, AC.toks], by simp [ownC, Ty.cells]⟩
  | .pair ta tb, x, k, cs, fp, A, m, h, hX, hpin, ho, hnd, hfX, hap => by
    obtain ⟨c1, c2, f1, f2, rfl, rfl, ho1, ho2⟩ := ho
    have hnd' := List.nodup_append.1 hnd
    obtain ⟨m1, hN1, ha1, ht1, hk1⟩ := ownC_ok ta x.1 k c1 f1 A m h hX (fun j u h1 h2 => hpin j u h1 (by simp only [Ty.cells]; omega)) ho1 hnd'.1 (fun b hb => hfX b (by simp [hb])) hap.left
    obtain ⟨m2, hN2, ha2, ht2, hk2⟩ := ownC_ok tb x.2 (ownC ta x.1 k).2.2 c2 f2 _ m1 hN1.rel (hX.move hN1.x0 hN1.x1) (fun j u h1 h2 => hpin j u (Nat.le_trans hN1.le h1) (by simp only [Ty.cells]; omega)) ho2 hnd'.2.1 (fun b hb => hfX b (by simp [hb])) (hap.next hN1.grew fun b hb hm => hnd'.2.2 b hb b hm rfl)
    refine ⟨m2, ?_, ?_, ?_, ?_⟩
    · simp only [ownC, newToks_app]
      exact hN1.trans hN2
    · refine All2.app (ha1.mono fun c hc v hv w R0 R1 => ?_) ha2
      refine VC.mono (hv w R0 R1) (fun b hb _ => ⟨rfl, hb⟩) (fun _ b hb _ => ⟨rfl, hb⟩) fun j hj => hN2.mu j (.inl (ht1 c hc j hj).2)
    · intro c hc j hj
      have h1 := hN1.le
      have h2 := hN2.le
      have hc : c ∈ (ownC ta x.1 k).1 ++ (ownC tb x.2 (ownC ta x.1 k).2.2).1 := hc
      show k ≤ j ∧ j < (ownC tb x.2 (ownC ta x.1 k).2.2).2.2
      rcases List.mem_append.1 hc with hc | hc
      · have := ht1 c hc j hj; omega
      · have := ht2 c hc j hj; omega
    · show (ownC tb x.2 (ownC ta x.1 k).2.2).2.2 ≤ k + (ta.cells + tb.cells)
      omega
theorem ownC_len : ∀ (t : Ty) (x : t.D) (k : Nat), (ownC t x k).1.length = t.cells
  | .unit, _, _ => rfl
  | .int _, _, _ => rfl
  | .bool, _, _ => rfl
  | .str, _, _ => rfl
  | .sl _ _, _, _ => rfl
  | .pair a b, x, k => by simp only [ownC, List.length_append, ownC_len, Ty.cells]
def Fit1 (μ : Nat → Value) (a : A1) (v : Value) : Prop := ∀ (w : World) (R0 R1 : Nat → Prop), V1 w R0 R1 μ a v
theorem fit_shape {μ : Nat → Value} {t : Ty} {cs : List AC} {vs : List Value} (h : All2 (Fits μ) cs vs) (hl : cs.length = t.cells) : Fit1 μ (shape t cs) (shapeV t vs) := fun w R0 R1 => V1.shape (h.mono fun c _ v hv => hv w R0 R1) hl
theorem shape_cs (t : Ty) (cs : List AC) (hl : cs.length = t.cells) : (shape t cs).cs = cs := by
  cases t <;> simp only [shape, Ty.one, if_true, if_false, Bool.false_eq_true, A1.cs]
  all_goals
    simp only [Ty.cells] at hl
    match cs, hl with
    | [c], _ => rfl
theorem res1_ok {X : List Nat} {R' : Nat → Prop} (r : Rk) (x : r.D) (k : Nat) (v : Value) (fp : List Nat) (h : RelW cx A a w m) (hX : Aside A m X (OwnOk cx) w) (hpin : ∀ j u, k ≤ j → j < k + r.size → (j, u) ∉ cx.pins) (ho : ResR R' w r x v fp) (hR : ∀ b, R' b → R0of A m b) (hnd : fp.Nodup) (hfX : ∀ b ∈ fp, b ∈ X) (hap : ApartA A m fp) :
    ∃ m', News cx a w A (newToks A (res1 r x k).2.1) m m' fp k (res1 r x k).2.2 ∧ Fit1 m'.μ (res1 r x k).1 v ∧ (∀ c ∈ (res1 r x k).1.cs, ∀ j ∈ c.toks, k ≤ j ∧ j < (res1 r x k).2.2) ∧ (res1 r x k).2.2 ≤ k + r.size := by
  cases r with
  | own t =>
    obtain ⟨cs, rfl, hown⟩ := ho
    obtain ⟨m', hN, ha, ht, hk⟩ := ownC_ok t x k cs fp A m h hX hpin hown hnd hfX hap
    refine ⟨m', hN, fit_shape ha (ownC_len _ _ _), fun c hc => ht c ?_, hk⟩
    simp only [res1] at hc
    rwa [shape_cs t _ (ownC_len _ _ _)] at hc
  | box t =>
    obtain ⟨g, c, T, rfl, hc, hro, rfl⟩ := ho
    have hpk : ∀ u, (k, u) ∉ cx.pins := fun u => hpin k u (Nat.le_refl _) (by simp [Rk.size])
    obtain ⟨hN, hv⟩ := one_new h hX k (.box (roC true t x)) (.pointer (some ⟨g, 0, none⟩)) [g] [] hfX hnd hap hpk
      ⟨g, c, T, by simp [Mp.upd], hc, (roC_ok (p := true) (hro.wide hR)).mono fun a _ u hu => hu, rfl, rfl⟩
    exact ⟨_, hN, fun w R0 R1 => ⟨g, hv, rfl⟩, by simp [res1, A1.cs, AC.toks], by simp [res1, Rk.size]⟩
theorem resL_ok {X : List Nat} {R' : Nat → Prop} (hRX : ∀ b, R' b → b ∉ X) : ∀ (rs : List Rk) (x : RsD rs) (k : Nat) (vs : List Value) (fp : List Nat) (A : AS) (m : Mp), RelW cx A a w m → Aside A m X (OwnOk cx) w → (∀ j u, k ≤ j → j < k + rsSize rs → (j, u) ∉ cx.pins) → RessR R' w rs x vs fp → (∀ b, R' b → R0of A m b) → fp.Nodup → (∀ b ∈ fp, b ∈ X) → ApartA A m fp →
    ∃ m', RelW cx (newToks A (resL rs x k).2) a w m' ∧ All2 (Fit1 m'.μ) (resL rs x k).1 vs ∧ ∀ j, j < k → m'.μ j = m.μ j
  | [], x, k, vs, fp, A, m, h, hX, hpin, ho, hR, hnd, hfX, hap => by
    obtain ⟨rfl, rfl⟩ := ho
    exact ⟨m, h, rfl, fun _ _ => rfl⟩
  | r :: rs, x, k, vs, fp, A, m, h, hX, hpin, ⟨v, us, f1, f2, hv, hf, ho1, ho2⟩, hR, hnd, hfX, hap => by
    subst hv hf
    have hnd' := List.nodup_append.1 hnd
    obtain ⟨m1, hN1, hv1, ht1, hk1⟩ := res1_ok r x.1 k v f1 h hX (fun j u h1 h2 => hpin j u h1 (by simp only [rsSize]; omega)) ho1 hR hnd'.1 (fun b hb => hfX b (by simp [hb])) hap.left
    obtain ⟨m2, h2, hv2, hm2⟩ := resL_ok hRX rs x.2 (res1 r x.1 k).2.2 us f2 _ m1 hN1.rel (hX.move hN1.x0 hN1.x1) (fun j u h1 h2 => hpin j u (Nat.le_trans hN1.le h1) (by simp only [rsSize]; omega)) ho2
      (fun b hb => ⟨by rw [hN1.x0]; exact (hR b hb).1, fun j hj hm => (hN1.grew j hj b hm).elim (fun ⟨hl, hm⟩ => (hR b hb).2 j hl hm) fun hm => hRX b hb (hfX b (by simp [hm]))⟩)
      hnd'.2.1 (fun b hb => hfX b (by simp [hb])) (hap.next hN1.grew fun b hb hm => hnd'.2.2 b hb b hm rfl)
    refine ⟨m2, ?_, ⟨v, us, rfl, fun w R0 R1 => ?_, hv2⟩, fun j hj => (hm2 j (Nat.lt_of_lt_of_le hj hN1.le)).trans (hN1.mu j (.inl hj))⟩
    · simp only [resL, newToks_app]; exact h2
    · exact V1.mono (hv1 w R0 R1) (fun b hb _ => ⟨rfl, hb⟩) (fun _ b hb _ => ⟨rfl, hb⟩) fun c hc j hj => hm2 j (ht1 c hc j hj).2
theorem resV_ok {μ : Nat → Value} {as : List A1} {vs : List Value} (h : All2 (Fit1 μ) as vs) (w : World) (R0 R1 : Nat → Prop) : VV w R0 R1 μ (resV as) (resVal vs) := by
  match as, h with
  | [], h =>
    have h' : vs = [] := h
    subst h'; exact ⟨[], rfl, rfl⟩
  | [x], ⟨v, us, hv, h1, h2⟩ =>
    have h2' : us = [] := h2
    subst h2' hv
    exact h1 w R0 R1
  | x :: y :: as, ⟨v, us, hv, h1, v2, us2, hv2, h2, h3⟩ =>
    subst hv hv2
    exact ⟨v :: v2 :: us2, rfl, ⟨v, _, rfl, h1 w R0 R1, v2, _, rfl, h2 w R0 R1, h3.mono fun _ _ _ hu => hu w R0 R1⟩⟩

/-! ### The call -/
theorem roPers_shy : ∀ (ps : List Pm) (as : List A1), roPers ps as = true → roPers ps (as.map shy1) = true
  | [], as, h => by cases as <;> rfl
  | p :: ps, [], h => by cases p <;> rfl
  | p :: ps, a :: as, h => by
    have key : a.cs.all persC = true → (shy1 a).cs.all persC = true := fun h => by
      have k : ∀ c, persC c = true → persC (shyC c) = true := fun c hc => by
        unfold shyC; rw [(persC_ok hc).1]; exact hc
      rw [List.all_eq_true] at h ⊢
      intro c hc
      cases a with
      | one c' => simp [shy1, A1.cs] at hc; subst hc; exact k c' (h c' (by simp [A1.cs]))
      | agg cs => simp [shy1, A1.cs] at hc; obtain ⟨y, hy, rfl⟩ := hc; exact k y (h y hy)
    cases p <;> simp only [roPers, List.map_cons, Bool.and_eq_true] at h ⊢
    · exact ⟨key h.1, roPers_shy ps as h.2⟩
    all_goals exact roPers_shy ps as h
theorem ro_noSl {R R' : Nat → Prop} {w : World} : ∀ {t : Ty} {x : t.D} {cs : List Value}, hasSl t = false → Ro R w t x cs → Ro R' w t x cs
  | .int _, _, _, _, h => h
  | .bool, _, _, _, h => h
  | .str, _, _, _, h => h
  | .sl _ _, _, _, hn, _ => by cases hn
  | .unit, _, _, _, h => h
  | .pair a b, _, _, hn, ⟨c1, c2, h, h1, h2⟩ => by
    simp only [hasSl, Bool.or_eq_false_iff] at hn
    exact ⟨c1, c2, h, ro_noSl hn.1 h1, ro_noSl hn.2 h2⟩
theorem boxR_noSl {R R' : Nat → Prop} {w : World} {t : Ty} {x : t.D} {v : Value} {fp : List Nat} (hn : hasSl t = false) (h : BoxR R w t x v fp) : BoxR R' w t x v fp := by
  obtain ⟨g, c, T, h1, h2, h3, h4⟩ := h
  exact ⟨g, c, T, h1, h2, ro_noSl hn h3, h4⟩
theorem boxesR_noSl {R R' : Nat → Prop} {w : World} : ∀ {ts : List Ty} {x : TysD ts} {vs : List Value} {fp : List Nat}, ts.any hasSl = false → BoxesR R w ts x vs fp → BoxesR R' w ts x vs fp
  | [], _, _, _, _, h => h
  | t :: ts, _, _, _, hn, ⟨v, us, f1, f2, h1, h2, h3, h4⟩ => by
    simp only [List.any_cons, Bool.or_eq_false_iff] at hn
    exact ⟨v, us, f1, f2, h1, h2, boxR_noSl hn.1 h3, boxesR_noSl hn.2 h4⟩
theorem outsR_noSl {R R' : Nat → Prop} {w : World} : ∀ {ps : List Pm} {x : PsO ps} {vs : List Value} {fp : List Nat}, ps.any Pm.keepsSl = false → OutsR R w ps x vs fp → OutsR R' w ps x vs fp
  | [], _, _, _, _, h => h
  | p :: ps, x, _, _, hn, ⟨v, us, f1, f2, h1, h2, h3, h4⟩ => by
    simp only [List.any_cons, Bool.or_eq_false_iff] at hn
    refine ⟨v, us, f1, f2, h1, h2, ?_, outsR_noSl hn.2 h4⟩
    cases p with
    | ro t => exact h3
    | mv t => exact h3
    | inp t => exact h3
    | st t => exact boxR_noSl hn.1 h3
    | fn f ts => obtain ⟨vs, h5, h6⟩ := h3; exact ⟨vs, h5, boxesR_noSl hn.1 h6⟩
theorem ressR_noSl {R R' : Nat → Prop} {w : World} : ∀ {rs : List Rk} {x : RsD rs} {vs : List Value} {fp : List Nat}, rs.any Rk.keepsSl = false → RessR R w rs x vs fp → RessR R' w rs x vs fp
  | [], _, _, _, _, h => h
  | r :: rs, x, _, _, hn, ⟨v, us, f1, f2, h1, h2, h3, h4⟩ => by
    simp only [List.any_cons, Bool.or_eq_false_iff] at hn
    refine ⟨v, us, f1, f2, h1, h2, ?_, ressR_noSl hn.2 h4⟩
    cases r with
    | own t => exact h3
    | box t => exact boxR_noSl hn.1 h3
theorem boxesR_lt {R : Nat → Prop} {w : World} : ∀ {ts : List Ty} {x : TysD ts} {vs : List Value} {fp : List Nat}, BoxesR R w ts x vs fp → ∀ b ∈ fp, b < w.heap.size
  | [], _, _, _, ⟨_, h⟩, b, hb => by rw [h] at hb; cases hb
  | t :: ts, _, _, _, ⟨v, us, f1, f2, h1, h2, ⟨g, c, T, _, h3, _, h5⟩, h4⟩, b, hb => by
    subst h2
    rcases List.mem_append.1 hb with hb | hb
    · rw [h5] at hb; simp at hb; subst hb; exact heap_lt h3
    · exact boxesR_lt h4 b hb
theorem outsR_lt {R : Nat → Prop} {w : World} : ∀ {ps : List Pm} {x : PsO ps} {vs : List Value} {fp : List Nat}, OutsR R w ps x vs fp → ∀ b ∈ fp, b < w.heap.size
  | [], _, _, _, h, b, hb => by rw [show _ = [] from h] at hb; cases hb
  | p :: ps, x, _, _, ⟨v, us, f1, f2, h1, h2, h3, h4⟩, b, hb => by
    subst h2
    rcases List.mem_append.1 hb with hb | hb
    · cases p with
      | ro t => rw [show f1 = [] from h3] at hb; cases hb
      | mv t => rw [show f1 = [] from h3] at hb; cases hb
      | inp t => obtain ⟨cs, _, ho⟩ := h3; exact ho.lt b hb
      | st t => obtain ⟨g, c, T, _, h5, _, h6⟩ := h3; rw [h6] at hb; simp at hb; subst hb; exact heap_lt h5
      | fn f ts => obtain ⟨vs, h5, h6⟩ := h3; exact boxesR_lt h6 b hb
    · exact outsR_lt h4 b hb
theorem ressR_lt {R : Nat → Prop} {w : World} : ∀ {rs : List Rk} {x : RsD rs} {vs : List Value} {fp : List Nat}, RessR R w rs x vs fp → ∀ b ∈ fp, b < w.heap.size
  | [], _, _, _, ⟨_, h⟩, b, hb => by rw [h] at hb; cases hb
  | r :: rs, x, _, _, ⟨v, us, f1, f2, h1, h2, h3, h4⟩, b, hb => by
    subst h2
    rcases List.mem_append.1 hb with hb | hb
    · cases r with
      | own t => obtain ⟨cs, _, ho⟩ := h3; exact ho.lt b hb
      | box t => obtain ⟨g, c, T, _, h5, _, h6⟩ := h3; rw [h6] at hb; simp at hb; subst hb; exact heap_lt h5
    · exact ressR_lt h4 b hb
theorem lents_ro {R : Nat → Prop} : ∀ {ps : List Pm} {x : PsT ps} {vs : List Value} {fp : List Nat}, ps.all Pm.isRo = true → LentsR R w ps x vs fp → fp = []
  | [], _, _, _, _, h => h.2
  | p :: ps, x, vs, fp, hr, ⟨v, us, f1, f2, _, hf, h1, h2⟩ => by
    simp only [List.all_cons, Bool.and_eq_true] at hr
    cases p with
    | ro t =>
      have h1 : f1 = [] := h1
      rw [hf, h1, lents_ro hr.2 h2]; rfl
    | _ => simp [Pm.isRo] at hr
theorem callA_ok {R : Type} {E : Env} (hct : ∀ f c, get E.ct f = some c → Sat P f c) {d : Nat} (hd : d < a.tmps.size) (h : RelW cx A a w m) (hx : X0 m) (hpins : ∀ k u, (k, u) ∈ cx.pins → pinBase ≤ k) {f : Nat} {as : List A1} {vs : List Value} (ha : All2 (V1 w (R0of A m) (R1of A m) m.μ) as vs)
    {K : AS → Option R} {r : R} (hk : callA E A d f as K = some r) : (∃ c, Sat P f c) ∧ Calls P f vs.toArray w fun e w' => ∃ v A', e = .returned v ∧ K A' = some r ∧ Rel cx A' (a.put (some d) v) w' ∧ ∀ c, get E.ct f = some c → c.ps.all Pm.isRo = true → Below w.heap.size w w' := by
  unfold callA at hk
  split at hk
  · cases hk
  · rename_i c hc
    have hS := hct f c hc
    refine ⟨⟨c, hS⟩, ?_⟩
    split at hk
    · cases hk
    · rename_i hchk
      simp only [Bool.or_eq_true, Bool.and_eq_true, Bool.not_eq_true', decide_eq_true_eq, not_or, not_and] at hchk
      obtain ⟨hstrict, htok⟩ := hchk
      split at hk
      · cases hk
      · rename_i T hp hl
        obtain ⟨O, hlent, hsub, hnO, hgO, hoO⟩ := lend_ok h c.ps as vs A.hp T hp (Sub.refl _) ha hl
        split at hk
        · cases hk
        · rename_i x hr
          cases hF : c.F x with
          | none => rw [hF] at hk; cases hk
          | some y =>
            rw [hF] at hk
            simp only [Option.bind_some] at hk
            have hOl : ∀ b ∈ O, b < w.heap.size := fun b hb => by obtain ⟨k, hk, _, hkb⟩ := hgO b hb; exact h.lt k hk b hkb
            have hR0O : ∀ b, R0of A m b → b ∉ O := fun b hb hm => by obtain ⟨k, hk, _, hkb⟩ := hgO b hm; exact hb.2 k hk hkb
            have ha' : All2 (V1 w (R0of A m) (R1of A m) m.μ) (if c.ps.any Pm.bold then as.map shy1 else as) vs := by
              split
              · exact (ha.mono fun _ _ _ hu => shy1_V1 hu).map
              · exact ha
            obtain ⟨Rp, hRp0, hRpO, hRd, hRs⟩ : ∃ Rp : Nat → Prop, (∀ b, R0of A m b → Rp b) ∧ (∀ b, Rp b → b ∉ O) ∧ RdOk A m hp Rp c.ps (if c.ps.any Pm.bold then as.map shy1 else as) ∧ (c.strict = true → ∀ b, Rp b → R0of A m b) := by
              by_cases hst : c.strict = true
              · refine ⟨R0of A m, fun _ h => h, hR0O, .inl ?_, fun _ _ h => h⟩
                have hp' : roPers c.ps as = true := by
                  have := hstrict hst
                  simpa using this
                split
                · exact roPers_shy _ _ hp'
                · exact hp'
              · refine ⟨fun b => b ∉ O, hR0O, fun _ h => h, .inr ⟨?_, fun k hk b hb hm => (hgO b hm).not h (Sub.refl _) hk hsub hb⟩, fun h => absurd h hst⟩
                split
                · left
                  intro a' ha'
                  obtain ⟨y, _, rfl⟩ := List.mem_map.1 ha'
                  exact shy1_notshy y
                · rename_i hb
                  right
                  intro b hb1 hm
                  obtain ⟨k, hk, _, hkb⟩ := hoO (by simpa using hb) b hm
                  exact hb1.2 k hk hkb
            have hargs := reads_ok h hRp0 hsub c.ps _ vs T x O hRd ha' hlent hr
            refine (hS.calls x y hF w vs O Rp hargs hRpO hnO hOl).mono ?_
            rintro e w' ⟨rv, fr, fo, rfl, hK, hres, houts, hnd, hX⟩
            have hXg : ∀ b ∈ fr ++ fo, b < w.heap.size → Gone m A.hp hp b := fun b hb hlt => hgO b ((hX b hb).resolve_right (by omega))
            have hlt' : ∀ b ∈ fr ++ fo, b < w'.heap.size := fun b hb => (List.mem_append.1 hb).elim (ressR_lt hres b) (outsR_lt houts b)
            have hXow : ∀ b ∈ fr ++ fo, OwnOk cx b := fun b hb => (hX b hb).elim (fun hO => by obtain ⟨k, hk, _, hkb⟩ := hgO b hO; exact h.own k hk b hkb) fun hs => .inr (Nat.le_trans h.keeps.size hs)
            have hXa : ∀ k, (get hp k).isSome = true → ∀ b ∈ m.F k, b ∉ fr ++ fo := fun k hk b hb hm => by
              have hbl := h.lt k (live_sub hsub hk) b hb
              exact (hXg b hm hbl).not h (Sub.refl _) hk hsub hb
            -- the state behind the call, all of X aside
            obtain ⟨A1, m1, h1, hA1fr, hA1, hm1μ, hm1F, hm10, hm11⟩ : ∃ A1 m1, RelW cx A1 a w' m1 ∧ A1 = (if c.ps.any Pm.bold then shyS ⟨A.fr, hp⟩ else ⟨A.fr, hp⟩) ∧ (∀ k, live A1 k ↔ (get hp k).isSome = true) ∧ m1.μ = m.μ ∧ (∀ k, m1.F k = m.F k) ∧ (m1.x0 = fun b => b ∈ fr ++ fo ∨ ¬ cx.rp b) ∧ (m1.x1 = fun b => b ∈ fr ++ fo) := by
              by_cases hb : c.ps.any Pm.bold = true
              · have := h.freeS hsub hK.size hK.os hK.tape hK.output (fun b hl => by
                  by_cases hbO : b ∈ O
                  · exact .inr (hgO b hbO)
                  · exact .inl (hK.block b hl hbO)) (fun b => b ∈ fr ++ fo ∨ ¬ cx.rp b) (fun b => b ∈ fr ++ fo) (fun b hl hm => hm.elim (fun hm => .inr (hXg b hm hl)) fun hm => .inl (h.rp b hm)) (fun _ h => .inr h)
                exact ⟨_, _, this, by rw [if_pos hb], fun k => live_shy _ k, rfl, fun _ => rfl, rfl, rfl⟩
              · have hb' : c.ps.any Pm.bold = false := by simpa using hb
                have := h.free hsub hK.size hK.os hK.tape hK.output (fun b hl => by
                  by_cases hbO : b ∈ O
                  · obtain ⟨k, hk, hn, hkb⟩ := hoO hb' b hbO
                    exact .inr ⟨k, hk, hn, hkb⟩
                  · exact .inl (hK.block b hl hbO)) (fun b => b ∈ fr ++ fo ∨ ¬ cx.rp b) (fun b => b ∈ fr ++ fo) (fun b hl hm => hm.elim (fun hm => .inr (hXg b hm hl)) fun hm => .inl (h.rp b hm))
                  (fun b hl hm => .inr (by
                    obtain ⟨k, hk, _, hkb⟩ := hoO hb' b ((hX b hm).resolve_right (by omega))
                    exact ⟨k, hk, hkb⟩)) (fun _ h => .inr h)
                exact ⟨_, _, this, by rw [if_neg hb], fun k => Iff.rfl, rfl, fun _ => rfl, rfl, rfl⟩
            -- what was read there
            obtain ⟨R', hRX, hRR, hres', houts'⟩ : ∃ R' : Nat → Prop, (∀ b, R' b → b ∉ fr ++ fo) ∧ (∀ b, R' b → R0of A1 m1 b) ∧ RessR R' w' c.rs y.1 rv fr ∧ OutsR R' w' c.ps y.2 vs fo := by
              by_cases hst : c.strict = true
              · refine ⟨_, fun b hb => hb.2, fun b hb => ⟨?_, fun k hk hm => ?_⟩, hres, houts⟩
                · rw [hm10]
                  rintro (hm | hm)
                  · exact hb.2 hm
                  · refine hm ?_
                    rcases hb.1 with h1 | h1 | h1
                    · have := hRs hst b h1
                      exact Classical.byContradiction fun hn => this.1 (h.rp b hn)
                    · obtain ⟨k, hk, _, hkb⟩ := hgO b h1
                      exact h.rpo b (h.own k hk b hkb)
                    · exact h.rpo b (.inr (Nat.le_trans h.keeps.size h1))
                · rw [hm1F] at hm
                  have hk' := (hA1 k).1 hk
                  rcases hb.1 with h1 | h1 | h1
                  · exact (hRs hst b h1).2 k (live_sub hsub hk') hm
                  · exact (hgO b h1).not h (Sub.refl _) hk' hsub hm
                  · have := h.lt k (live_sub hsub hk') b hm
                    omega
              · simp only [Ct.strict, Bool.or_eq_true, not_or, Bool.not_eq_true] at hst
                exact ⟨fun _ => False, fun _ h => h.elim, fun _ h => h.elim, ressR_noSl hst.2 hres, outsR_noSl hst.1 houts⟩
            have hAs : Aside ⟨A1.fr, A1.hp⟩ m1 (fr ++ fo) (OwnOk cx) w' := ⟨fun b hb => by rw [hm10]; exact .inl hb, fun b hb => by rw [hm11]; exact hb, hXow, hlt'⟩
            have hnd' := List.nodup_append.1 hnd
            have hApF : ∀ j, live A1 j → ∀ b ∈ m1.F j, b ∉ fo ++ fr := fun j hj b hb hm => hXa j ((hA1 j).1 hj) b (by rw [← hm1F]; exact hb) (by simp only [List.mem_append] at hm ⊢; exact hm.symm)
            have hApO : Apart A1.fr A1.hp m1 fo := fun j hj b hb hm => hApF j hj b hb (List.mem_append.2 (.inl hm))
            have hFree : FreeK A1.hp A.hp hp := fun k hk => .inl ((hA1 k).1 hk)
            obtain ⟨m2, hB⟩ := backs_ok (R' := R') (X := fr ++ fo) (μ := m.μ) hRX c.ps as A.hp T y.2 vs fo A1.hp m1 h1 hm1μ hAs (fun k u hp hk => h.pins k u hp hk) ha hl hFree houts' hRR hnd'.2.1 (fun b hb => List.mem_append.2 (.inr hb)) hApO
            have hApR : ApartA ⟨A1.fr, backs A1.hp c.ps y.2 as⟩ m2 fr := ApartA.next (A := ⟨A1.fr, A1.hp⟩) (m := m1) hApF hB.grew fun b hb hm => hnd'.2.2 b hm b hb rfl
            obtain ⟨m3, h3, hv3, _⟩ := resL_ok (R' := R') (X := fr ++ fo) hRX c.rs y.1 (tokOf d 0) rv fr ⟨A1.fr, backs A1.hp c.ps y.2 as⟩ m2 hB.rel (hAs.move hB.x0 hB.x1) (fun j u h1 h2 hp => by have := hpins j u hp; omega) hres'
              (fun b hb => hR_next (fr := A1.fr) hRR hB (fun b hb => List.mem_append.2 (.inr hb)) hRX b hb) hnd'.1 (fun b hb => List.mem_append.2 (.inl hb)) hApR
            refine ⟨resVal rv, _, rfl, ?_, ⟨m3, h3.put d hd _ _ (resV_ok hv3 _ _ _)⟩, fun c' hc' hro => ?_⟩
            · rw [hA1fr]
              exact hk
            · rw [hc] at hc'
              cases hc'
              have := lents_ro hro hlent
              subst this
              exact hK.below
end
end Go.Refl
