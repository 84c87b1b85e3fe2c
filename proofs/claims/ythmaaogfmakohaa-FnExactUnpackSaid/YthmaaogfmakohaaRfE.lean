/- The evaluator is right: a call. No program in sight. No condition. -/
import Derived.Test.YthmaaogfmakohaaRfD
namespace Go.Refl
open Go.RowKit
set_option linter.unusedVariables false
set_option linter.unusedSimpArgs false

section
variable {cx : Cx} {A : AS} {a : Act} {w : World} {m : Mp} {P : Program}
theorem BoxR.wide {R R' : Nat → Prop} {w : World} {t : Ty} {x : t.D} {v : Value} {fp : List Nat} (h : BoxR R w t x v fp) (hr : ∀ b, R b → R' b) : BoxR R' w t x v fp := by
  obtain ⟨g, c, T, h1, h2, h3, h4⟩ := h
  exact ⟨g, c, T, h1, h2, h3.wide hr, h4⟩
theorem BoxesR.wide {R R' : Nat → Prop} {w : World} (hr : ∀ b, R b → R' b) : ∀ {ts : List Ty} {x : TysD ts} {vs : List Value} {fp : List Nat}, BoxesR R w ts x vs fp → BoxesR R' w ts x vs fp
  | [], _, _, _, h => h
  | t :: ts, _, _, _, ⟨v, us, f1, f2, h1, h2, h3, h4⟩ => ⟨v, us, f1, f2, h1, h2, h3.wide hr, BoxesR.wide hr h4⟩
/-- May the argument be read where R says? -/
def RdOk (A : AS) (m : Mp) (hp : Hp) (R : Nat → Prop) (ps : List Pm) (as : List A1) : Prop :=
  roPers ps as = true ∨ (((∀ a' ∈ as, ∀ c ∈ a'.cs, c.shy = false) ∨ ∀ b, R1of A m b → R b) ∧ ∀ k, (get hp k).isSome = true → ∀ b ∈ m.F k, R b)
theorem RdOk.tail {hp : Hp} {R : Nat → Prop} {p : Pm} {ps : List Pm} {a' : A1} {as : List A1} (h : RdOk A m hp R (p :: ps) (a' :: as)) : RdOk A m hp R ps as := by
  rcases h with h | ⟨h1, h2⟩
  · left
    cases p <;> simp only [roPers, Bool.and_eq_true] at h <;> first | exact h.2 | exact h
  · exact .inr ⟨h1.imp (fun h a' ha' => h a' (by simp [ha'])) id, h2⟩
theorem persC_ok {c : AC} (h : persC c = true) : c.shy = false ∧ c.arrs = [] := by
  cases c <;> simp_all [persC, AC.shy, AC.arrs]
theorem RdOk.head {hp : Hp} {R : Nat → Prop} {t : Ty} {ps : List Pm} {a' : A1} {as : List A1} (hR0 : ∀ b, R0of A m b → R b) (h : RdOk A m hp R (.ro t :: ps) (a' :: as)) : Reads A m hp R a'.cs := by
  rcases h with h | ⟨h1, h2⟩
  · simp only [roPers, Bool.and_eq_true, List.all_eq_true] at h
    exact ⟨hR0, fun ⟨c, hc, hs⟩ => (by rw [(persC_ok (h.1 c hc)).1] at hs; cases hs), fun k hk' ⟨c, hc, hkc⟩ => (by rw [(persC_ok (h.1 c hc)).2] at hkc; cases hkc)⟩
  · exact ⟨hR0, fun ⟨c, hc, hs⟩ => h1.elim (fun h => (by have := h a' (by simp) c hc; rw [this] at hs; cases hs)) id, fun k hk' _ => h2 k hk'⟩
theorem reads_ok (h : RelW cx A a w m) {R : Nat → Prop} (hR0 : ∀ b, R0of A m b → R b) {hp : Hp} (hs : Sub hp A.hp) :
    ∀ (ps : List Pm) (as : List A1) (vs : List Value) (T : PsT ps) (x : PsD ps) (fp : List Nat), RdOk A m hp R ps as → All2 (V1 w (R0of A m) (R1of A m) m.μ) as vs → LentsR (R0of A m) w ps T vs fp → reads hp ps as T = some x → ArgsR R w ps x vs fp
  | [], as, vs, T, x, fp, hsh, ha, hl, hr => hl
  | p :: ps, [], vs, T, x, fp, hsh, ha, hl, hr => by simp [reads] at hr
  | p :: ps, a' :: as, vs, T, x, fp, hsh, ⟨v, us, hv, hu, ha⟩, ⟨v', us', f1, f2, hv', hf, hl1, hl2⟩, hr => by
    subst hv
    simp only [List.cons.injEq] at hv'
    obtain ⟨rfl, rfl⟩ := hv'
    simp only [reads] at hr
    cases h1 : read1 hp p a' T.1 with
    | none => rw [h1] at hr; cases hr
    | some y =>
      rw [h1] at hr
      simp only [Option.bind_some] at hr
      cases h2 : reads hp ps as T.2 with
      | none => rw [h2] at hr; cases hr
      | some ys =>
        rw [h2] at hr
        simp at hr; subst hr
        refine ⟨v, us, f1, f2, rfl, hf, ?_, reads_ok h hR0 hs ps as us T.2 ys f2 hsh.tail ha hl2 h2⟩
        cases p with
        | ro t =>
          simp only [read1] at h1
          split at h1
          · rename_i hsh1
            split at h1
            · rename_i z hrd
              simp at h1; subst h1
              obtain ⟨ws, haw, rfl⟩ := sh_ok hu hsh1
              obtain ⟨v1, v2, hv12, hro, hr2, _⟩ := readC_ok h R t hp _ ws z [] hs haw (hsh.head hR0) hrd
              have hv2 : v2 = [] := hr2
              subst hv2
              rw [List.append_nil] at hv12
              exact ⟨⟨ws, rfl, by rw [hv12]; exact hro⟩, hl1⟩
            · cases h1
          · cases h1
        | mv t => simp [read1] at h1; subst h1; exact hl1
        | inp t => simp [read1] at h1; subst h1; exact hl1
        | st t => simp [read1] at h1; subst h1; exact BoxR.wide hl1 hR0
        | fn f ts => simp [read1] at h1; subst h1; obtain ⟨vs, h3, h4⟩ := hl1; exact ⟨vs, h3, h4.wide hR0⟩
theorem shy1_notshy (a' : A1) : ∀ c ∈ (shy1 a').cs, c.shy = false := by
  have key : ∀ c : AC, (shyC c).shy = false := fun c => by
    unfold shyC; split
    · rfl
    · rename_i h; simpa using h
  cases a' with
  | one c => intro x hx; simp [shy1, A1.cs] at hx; subst hx; exact key c
  | agg cs => intro x hx; simp [shy1, A1.cs] at hx; obtain ⟨y, _, rfl⟩ := hx; exact key y
theorem shy1_V1 {R0 R1 : Nat → Prop} {μ : Nat → Value} {a' : A1} {v : Value} (h : V1 w R0 R1 μ a' v) : V1 w R0 R1 μ (shy1 a') v := shy1_mono h fun _ hb _ => ⟨rfl, hb⟩

/-! ### What comes back -/
/-- All of X is set aside: nothing leans on it. -/
structure Aside (A : AS) (m : Mp) (X : List Nat) (own : Nat → Prop) (w : World) : Prop where
  x0 : ∀ b ∈ X, m.x0 b
  x1 : ∀ b ∈ X, m.x1 b
  own : ∀ b ∈ X, own b
  lt : ∀ b ∈ X, b < w.heap.size
def OwnOk (cx : Cx) (b : Nat) : Prop := b ∈ cx.O ∨ cx.w0.heap.size ≤ b
/-- One thing comes back under its number. -/
theorem back_one (h : RelW cx A a w m) {X : List Nat} (hX : Aside A m X (OwnOk cx) w) {k : Nat} (o : AO) (out inn : List Nat) (hno : get A.hp k = none) (hsub : ∀ b ∈ out ++ inn, b ∈ X) (hnd : (out ++ inn).Nodup)
    (hdj : ∀ j, live A j → ∀ b ∈ m.F j, b ∉ out ++ inn) (hpin : ∀ u, (k, u) ∈ cx.pins → m.μ k = u) (hv : VO w (R0of A m) (R1of A m) m.μ k o out inn) :
    RelW cx ⟨A.fr, ins A.hp k o⟩ a w (m.upd k (m.μ k) out inn) ∧ (m.upd k (m.μ k) out inn).μ = m.μ := by
  have hmu : (m.upd k (m.μ k) out inn).μ = m.μ := by
    funext j; simp only [Mp.upd]; split
    · rename_i e; rw [e]
    · rfl
  exact ⟨h.add k o (m.μ k) out inn hno (.inl rfl) (by rw [hmu]; exact hv) hnd hdj (fun b hb => hX.lt b (hsub b hb)) (fun b hb => hX.own b (hsub b hb)) hpin (fun b hb => hX.x0 b (hsub b hb)) (fun b hb => hX.x1 b (hsub b (List.mem_append.2 (.inl hb)))), hmu⟩
/-- Behind a change under k: what lives, and where. -/
def Grew (A A' : AS) (m m' : Mp) (fo : List Nat) : Prop := ∀ k, live A' k → ∀ b ∈ m'.F k, (live A k ∧ b ∈ m.F k) ∨ b ∈ fo
theorem grew_upd {A : AS} {m : Mp} (k : Nat) (o : AO) (v : Value) (out inn : List Nat) : Grew A ⟨A.fr, ins A.hp k o⟩ m (m.upd k v out inn) (out ++ inn) := fun j hj b hb => by
  rw [Mp.upd_F] at hb
  split at hb
  · exact .inr hb
  · rename_i e
    refine .inl ⟨?_, hb⟩
    unfold live at hj ⊢
    simp only [get_ins] at hj
    rw [if_neg (fun h => e h.symm)] at hj
    exact hj
theorem Grew.trans {A B C : AS} {m m' m'' : Mp} {f g : List Nat} (h : Grew A B m m' f) (k : Grew B C m' m'' g) : Grew A C m m'' (f ++ g) := fun j hj b hb => by
  rcases k j hj b hb with ⟨hl, hb⟩ | hb
  · rcases h j hl b hb with h | h
    · exact .inl h
    · exact .inr (List.mem_append.2 (.inl h))
  · exact .inr (List.mem_append.2 (.inr hb))
theorem Aside.move {A A' : AS} {m m' : Mp} {X : List Nat} {own : Nat → Prop} (h : Aside A m X own w) (h0 : m'.x0 = m.x0) (h1 : m'.x1 = m.x1) : Aside A' m' X own w := ⟨by rw [h0]; exact h.x0, by rw [h1]; exact h.x1, h.own, h.lt⟩
def FreeK (H hi hn : Hp) : Prop := ∀ k, (get H k).isSome = true → (get hn k).isSome = true ∨ get hi k = none
/-- The state with what has come back. -/
structure Backd (cx : Cx) (fr : Fr) (a : Act) (w : World) (H H' : Hp) (m m' : Mp) (fo : List Nat) : Prop where
  rel : RelW cx ⟨fr, H'⟩ a w m'
  mu : m'.μ = m.μ
  x0 : m'.x0 = m.x0
  x1 : m'.x1 = m.x1
  grew : Grew ⟨fr, H⟩ ⟨fr, H'⟩ m m' fo
theorem Backd.refl {fr : Fr} {H : Hp} (h : RelW cx ⟨fr, H⟩ a w m) : Backd cx fr a w H H m m [] := ⟨h, rfl, rfl, rfl, fun k hk b hb => .inl ⟨hk, hb⟩⟩
theorem Backd.trans {fr : Fr} {H H' H'' : Hp} {m m' m'' : Mp} {f g : List Nat} (h : Backd cx fr a w H H' m m' f) (k : Backd cx fr a w H' H'' m' m'' g) : Backd cx fr a w H H'' m m'' (f ++ g) :=
  ⟨k.rel, k.mu.trans h.mu, k.x0.trans h.x0, k.x1.trans h.x1, h.grew.trans k.grew⟩
/-- f lies apart from what lives. -/
def Apart (fr : Fr) (H : Hp) (m : Mp) (f : List Nat) : Prop := ∀ j, live ⟨fr, H⟩ j → ∀ b ∈ m.F j, b ∉ f
theorem Apart.next {fr : Fr} {H H' : Hp} {m m' : Mp} {f g : List Nat} (h : Apart fr H m (f ++ g)) (hg : Grew ⟨fr, H⟩ ⟨fr, H'⟩ m m' f) (hd : ∀ b ∈ f, b ∉ g) : Apart fr H' m' g := fun j hj b hb hm => by
  rcases hg j hj b hb with ⟨hl, hb⟩ | hb
  · exact h j hl b hb (List.mem_append.2 (.inr hm))
  · exact hd b hb hm
theorem Apart.left {fr : Fr} {H : Hp} {m : Mp} {f g : List Nat} (h : Apart fr H m (f ++ g)) : Apart fr H m f := fun j hj b hb hm => h j hj b hb (List.mem_append.2 (.inl hm))
theorem backC_ok {w0 : World} {R0 R1 : Nat → Prop} {μ : Nat → Value} {fr : Fr} {X : List Nat} {hn : Hp} : ∀ (t : Ty) (hi : Hp) (cs rest : List AC) (x : t.D) (hj : Hp) (y : t.D) (v1 vs : List Value) (f : List Nat) (H : Hp) (m : Mp),
    RelW cx ⟨fr, H⟩ a w m → m.μ = μ → Aside ⟨fr, H⟩ m X (OwnOk cx) w → (∀ k u, (k, u) ∈ cx.pins → (get hi k).isSome = true → μ k = u) → All2 (VC w0 R0 R1 μ) cs (v1 ++ vs) → cs.all whole = true →
    takeC hi t cs = some (x, rest, hj) → Sub hj hi → Sub hn hj → FreeK H hi hn → Own w t y v1 f → f.Nodup → (∀ b ∈ f, b ∈ X) → Apart fr H m f →
    ∃ H' m', backC H t y cs = (rest, H') ∧ Backd cx fr a w H H' m m' f ∧ FreeK H' hj hn ∧ All2 (VC w0 R0 R1 μ) rest vs ∧ rest.all whole = true
  | .unit, hi, cs, rest, x, hj, y, v1, vs, f, H, m, h, hμ, hX, hpin, ha, hw, ht, hs, hsn, hF, ho, hnd, hfX, hap => by
    simp only [takeC, Option.some.injEq, Prod.mk.injEq] at ht
    obtain ⟨_, rfl, rfl⟩ := ht
    obtain ⟨rfl, rfl⟩ := ho
    exact ⟨H, m, rfl, Backd.refl h, hF, ha, hw⟩
  | .pair ta tb, hi, cs, rest, x, hj, y, v1, vs, f, H, m, h, hμ, hX, hpin, ha, hw, ht, hs, hsn, hF, ho, hnd, hfX, hap => by
    simp only [takeC] at ht
    cases h1 : takeC hi ta cs with
    | none => rw [h1] at ht; cases ht
    | some p =>
      obtain ⟨xa, cs1, h1p⟩ := p
      rw [h1] at ht
      simp only [Option.bind_some] at ht
      cases h2 : takeC h1p tb cs1 with
      | none => rw [h2] at ht; cases ht
      | some p =>
        obtain ⟨xb, cs2, h2p⟩ := p
        rw [h2] at ht
        simp only [Option.map_some, Option.some.injEq, Prod.mk.injEq] at ht
        obtain ⟨rfl, rfl, rfl⟩ := ht
        obtain ⟨c1, c2, f1, f2, rfl, rfl, ho1, ho2⟩ := ho
        have hs1 := takeC_sub hi ta cs xa cs1 h1p h1
        have hs2 := takeC_sub h1p tb cs1 xb cs2 h2p h2
        have hnd' := List.nodup_append.1 hnd
        obtain ⟨H1, m1, hb1, hB1, hF1, ha1, hw1⟩ := backC_ok ta hi cs cs1 xa h1p y.1 c1 (c2 ++ vs) f1 H m h hμ hX hpin (by simpa using ha) hw h1 hs1 (hsn.trans hs2) hF ho1 hnd'.1 (fun b hb => hfX b (by simp [hb])) hap.left
        obtain ⟨H2, m2, hb2, hB2, hF2, ha2, hw2⟩ := backC_ok tb h1p cs1 cs2 xb h2p y.2 c2 vs f2 H1 m1 hB1.rel (hB1.mu.trans hμ) (hX.move hB1.x0 hB1.x1) (fun k u hp hk => hpin k u hp (by
          cases hc : get h1p k with
          | none => rw [hc] at hk; cases hk
          | some o => simp [hs1 k o hc])) ha1 hw1 h2 hs2 hsn hF1 ho2 hnd'.2.1 (fun b hb => hfX b (by simp [hb])) (hap.next hB1.grew fun b hb hm => hnd'.2.2 b hb b hm rfl)
        exact ⟨H2, m2, by simp only [backC, hb1, hb2], hB1.trans hB2, hF2, ha2, hw2⟩
  | .int k, hi, cs, rest, x, hj, y, v1, vs, f, H, m, h, hμ, hX, hpin, ha, hw, ht, hs, hsn, hF, ho, hnd, hfX, hap => by
    cases cs with
    | nil => simp [takeC] at ht
    | cons c cs =>
      cases c <;> simp only [takeC] at ht <;> try (cases ht; done)
      rename_i p t' x'
      cases hx : castD t' (.int k) x' with
      | none => rw [hx] at ht; cases ht
      | some z =>
        rw [hx] at ht
        simp only [Option.map_some, Option.some.injEq, Prod.mk.injEq] at ht
        obtain ⟨rfl, rfl, rfl⟩ := ht
        obtain ⟨hv, _, hf⟩ := ho
        subst hv hf
        obtain ⟨u, us, hu, _, ha⟩ := ha
        simp at hu
        obtain ⟨rfl, rfl⟩ := hu
        exact ⟨H, m, rfl, Backd.refl h, hF, ha, by simpa [whole] using hw⟩
  | .bool, hi, cs, rest, x, hj, y, v1, vs, f, H, m, h, hμ, hX, hpin, ha, hw, ht, hs, hsn, hF, ho, hnd, hfX, hap => by
    cases cs with
    | nil => simp [takeC] at ht
    | cons c cs =>
      cases c <;> simp only [takeC] at ht <;> try (cases ht; done)
      rename_i p t' x'
      cases hx : castD t' .bool x' with
      | none => rw [hx] at ht; cases ht
      | some z =>
        rw [hx] at ht
        simp only [Option.map_some, Option.some.injEq, Prod.mk.injEq] at ht
        obtain ⟨rfl, rfl, rfl⟩ := ht
        obtain ⟨hv, hf⟩ := ho
        subst hv hf
        obtain ⟨u, us, hu, _, ha⟩ := ha
        simp at hu
        obtain ⟨rfl, rfl⟩ := hu
        exact ⟨H, m, rfl, Backd.refl h, hF, ha, by simpa [whole] using hw⟩
  | .str, hi, cs, rest, x, hj, y, v1, vs, f, H, m, h, hμ, hX, hpin, ha, hw, ht, hs, hsn, hF, ho, hnd, hfX, hap => by
    cases cs with
    | nil => simp [takeC] at ht
    | cons c cs =>
      cases c <;> simp only [takeC] at ht <;> try (cases ht; done)
      rename_i p t' x'
      cases hx : castD t' .str x' with
      | none => rw [hx] at ht; cases ht
      | some z =>
        rw [hx] at ht
        simp only [Option.map_some, Option.some.injEq, Prod.mk.injEq] at ht
        obtain ⟨rfl, rfl, rfl⟩ := ht
        obtain ⟨⟨s, hv, _⟩, hf⟩ := ho
        subst hv hf
        obtain ⟨u, us, hu, _, ha⟩ := ha
        simp at hu
        obtain ⟨rfl, rfl⟩ := hu
        exact ⟨H, m, rfl, Backd.refl h, hF, ha, by simpa [whole] using hw⟩
  | .sl e t, hi, cs, rest, x, hj, y, v1, vs, f, H, m, h, hμ, hX, hpin, ha, hw, ht, hs, hsn, hF, ho, hnd, hfX, hap => by
    cases cs with
    | nil => simp [takeC] at ht
    | cons c cs =>
      obtain ⟨v, ws, f1, f2, hv, hh, hol, hf⟩ := ho
      subst hv hf
      obtain ⟨u, us, hu, hc, ha⟩ := ha
      simp at hu
      obtain ⟨rfl, rfl⟩ := hu
      have hw2 : cs.all whole = true := by
        simp only [List.all_cons, Bool.and_eq_true] at hw; exact hw.2
      cases c <;> simp only [takeC] at ht <;> try (cases ht; done)
      case nil =>
        simp only [Option.some.injEq, Prod.mk.injEq] at ht
        obtain ⟨rfl, rfl, rfl⟩ := ht
        have hc' : v = .slice none 0 0 := hc
        rcases hh with ⟨a', _, hy, hws, hf1⟩ | ⟨g, cap, cur, hv, _⟩
        · have hy' : y = [] := List.eq_nil_of_length_eq_zero hy
          subst hy'
          obtain ⟨_, hf2⟩ : ws = [] ∧ f2 = [] := hol
          subst hf1 hf2
          exact ⟨H, m, rfl, Backd.refl h, hF, ha, hw2⟩
        · rw [hc'] at hv; simp at hv
      case own k =>
        cases hk : get hi k with
        | none => rw [hk] at ht; cases ht
        | some o =>
          rw [hk] at ht
          cases o with
          | box _ => cases ht
          | arr e' t' xs =>
            simp only at ht
            cases hx : castD (.sl e' t') (.sl e t) xs with
            | none => rw [hx] at ht; cases ht
            | some z =>
              rw [hx] at ht
              simp only [Option.map_some, Option.some.injEq, Prod.mk.injEq] at ht
              obtain ⟨rfl, rfl, rfl⟩ := ht
              obtain ⟨hvk, _⟩ := hc
              have hno : get H k = none := by
                cases hc : get H k with
                | none => rfl
                | some o =>
                  rcases hF k (by simp [hc]) with h1 | h1
                  · exfalso
                    cases hn' : get hn k with
                    | none => rw [hn'] at h1; cases h1
                    | some o' => have := hsn k o' hn'; rw [get_del, if_pos rfl] at this; cases this
                  · rw [hk] at h1; cases h1
              obtain ⟨hr, hmu⟩ := back_one (A := ⟨fr, H⟩) h hX (.arr e t y) f1 f2 hno hfX hnd hap (fun u hu => by rw [hμ]; exact hpin k u hu (by simp [hk])) (k := k) ⟨ws, by rw [hμ, ← hvk]; exact hh, hol⟩
              refine ⟨_, _, rfl, ⟨hr, hmu, rfl, rfl, grew_upd k _ _ _ _⟩, fun j hj => ?_, ha, hw2⟩
              rw [get_ins] at hj
              split at hj
              · rename_i e; subst e
                exact .inr (by rw [get_del, if_pos rfl])
              · rcases hF j hj with h1 | h1
                · exact .inl h1
                · refine .inr ?_
                  rw [get_del]; split
                  · rfl
                  · exact h1
      case sub => simp [whole] at hw

theorem FreeK.none_of {H hi hn : Hp} (hF : FreeK H hi hn) {k : Nat} (hk : (get hi k).isSome = true) (hsn : Sub hn (del hi k)) : get H k = none := by
  cases hc : get H k with
  | none => rfl
  | some o =>
    rcases hF k (by simp [hc]) with h1 | h1
    · exfalso
      cases hn' : get hn k with
      | none => rw [hn'] at h1; cases h1
      | some o' => have := hsn k o' hn'; rw [get_del, if_pos rfl] at this; cases this
    · rw [h1] at hk; cases hk
theorem FreeK.ins {H hi hn : Hp} (hF : FreeK H hi hn) (k : Nat) (o : AO) : FreeK (ins H k o) (del hi k) hn := fun j hj => by
  rw [get_ins] at hj
  split at hj
  · rename_i e; subst e
    exact .inr (by rw [get_del, if_pos rfl])
  · rcases hF j hj with h1 | h1
    · exact .inl h1
    · refine .inr ?_
      rw [get_del]; split
      · rfl
      · exact h1
theorem boxesC_sub : ∀ (ts : List Ty) (ks : List Nat) (hp : Hp) (x : TysD ts) (hp' : Hp), boxesC hp ts ks = some (x, hp') → Sub hp' hp
  | [], [], hp, x, hp', h => by simp [boxesC] at h; subst h; exact Sub.refl _
  | t :: ts, k :: ks, hp, x, hp', h => by
    simp only [boxesC] at h
    cases h1 : boxC hp t k with
    | none => rw [h1] at h; cases h
    | some p =>
      obtain ⟨z, hp1⟩ := p
      rw [h1] at h
      simp only [Option.bind_some] at h
      cases h2 : boxesC hp1 ts ks with
      | none => rw [h2] at h; cases h
      | some q =>
        obtain ⟨zs, hp2⟩ := q
        rw [h2] at h
        simp at h
        obtain ⟨_, rfl⟩ := h
        have e : hp1 = del hp k := by
          unfold boxC at h1
          split at h1
          · split at h1
            · simp at h1; exact h1.2.symm
            · cases h1
          · cases h1
        subst e
        exact (boxesC_sub ts ks _ zs hp2 h2).trans (Sub.del _ _)
  | [], _ :: _, hp, x, hp', h => by simp [boxesC] at h
  | _ :: _, [], hp, x, hp', h => by simp [boxesC] at h
theorem boxC_shape {hp : Hp} {t : Ty} {k : Nat} {x : t.D} {hp' : Hp} (hb : boxC hp t k = some (x, hp')) : hp' = del hp k ∧ (get hp k).isSome = true := by
  unfold boxC at hb
  split at hb
  · rename_i cs hk
    split at hb
    · simp at hb; exact ⟨hb.2.symm, by simp [hk]⟩
    · cases hb
  · cases hb
theorem lend1_sub (p : Pm) (a' : A1) (hp : Hp) (x : p.T) (hp' : Hp) (hl : lend1 hp p a' = some (x, hp')) : Sub hp' hp := by
  cases p with
  | ro t => simp [lend1] at hl; subst hl; exact Sub.refl _
  | mv t =>
    simp only [lend1] at hl
    split at hl
    · split at hl
      · rename_i z hp1 htk
        simp at hl
        obtain ⟨_, rfl⟩ := hl
        exact takeC_sub _ _ _ _ _ _ htk
      · cases hl
    · cases hl
  | inp t =>
    simp only [lend1] at hl
    split at hl
    · split at hl
      · rename_i z hp1 htk
        simp at hl
        obtain ⟨_, rfl⟩ := hl
        exact takeC_sub _ _ _ _ _ _ htk
      · cases hl
    · cases hl
  | st t =>
    simp only [lend1] at hl
    cases hp0 : ptr0 a' with
    | none => rw [hp0] at hl; cases hl
    | some k =>
      rw [hp0] at hl
      simp only [Option.bind_some] at hl
      rw [(boxC_shape hl).1]; exact Sub.del _ _
  | fn f ts =>
    simp only [lend1] at hl
    cases hf0 : fnOf a' with
    | none => rw [hf0] at hl; cases hl
    | some g =>
      rw [hf0] at hl
      simp only [Option.bind_some] at hl
      split at hl
      · exact boxesC_sub _ _ _ _ _ hl
      · cases hl
theorem lend_sub : ∀ (ps : List Pm) (as : List A1) (hp : Hp) (x : PsT ps) (hp' : Hp), lend hp ps as = some (x, hp') → Sub hp' hp
  | [], [], hp, x, hp', h => by simp [lend] at h; subst h; exact Sub.refl _
  | p :: ps, a' :: as, hp, x, hp', h => by
    simp only [lend] at h
    cases h1 : lend1 hp p a' with
    | none => rw [h1] at h; cases h
    | some q =>
      obtain ⟨z, hp1⟩ := q
      rw [h1] at h
      simp only [Option.bind_some] at h
      cases h2 : lend hp1 ps as with
      | none => rw [h2] at h; cases h
      | some q =>
        obtain ⟨zs, hp2⟩ := q
        rw [h2] at h
        simp at h
        obtain ⟨_, rfl⟩ := h
        exact (lend_sub ps as hp1 zs hp2 h2).trans (lend1_sub p a' hp z hp1 h1)
  | [], _ :: _, hp, x, hp', h => by simp [lend] at h
  | _ :: _, [], hp, x, hp', h => by simp [lend] at h
theorem takeC_len (hp : Hp) (t : Ty) (cs : List AC) (x : t.D) (hp' : Hp) (h : takeC hp t cs = some (x, [], hp')) : cs.length = t.cells := by
  have key : ∀ (t : Ty) (hp : Hp) (cs : List AC) (x : t.D) (r : List AC) (hp' : Hp), takeC hp t cs = some (x, r, hp') → cs.length = t.cells + r.length := by
    intro t
    induction t with
    | unit => intro hp cs x r hp' h; simp [takeC] at h; rw [h.1]; simp [Ty.cells]
    | pair ta tb iha ihb =>
      intro hp cs x r hp' h
      simp only [takeC] at h
      cases h1 : takeC hp ta cs with
      | none => rw [h1] at h; cases h
      | some p =>
        obtain ⟨xa, cs1, hp1⟩ := p
        rw [h1] at h
        simp only [Option.bind_some] at h
        cases h2 : takeC hp1 tb cs1 with
        | none => rw [h2] at h; cases h
        | some q =>
          obtain ⟨xb, cs2, hp2⟩ := q
          rw [h2] at h
          simp at h
          obtain ⟨_, rfl, _⟩ := h
          rw [iha _ _ _ _ _ h1, ihb _ _ _ _ _ h2]
          simp [Ty.cells]; omega
    | sl e t _ =>
      intro hp cs x r hp' h
      cases cs with
      | nil => simp [takeC] at h
      | cons c cs =>
        have e : r = cs := by
          cases c <;> simp only [takeC] at h <;> try (cases h; done)
          case nil => simp at h; exact h.2.1.symm
          case own k =>
            cases hk : get hp k with
            | none => rw [hk] at h; cases h
            | some o =>
              rw [hk] at h
              cases o with
              | box _ => cases h
              | arr e' t' xs =>
                simp only at h
                cases hx : castD (.sl e' t') (.sl e t) xs with
                | none => rw [hx] at h; cases h
                | some y => rw [hx] at h; simp at h; exact h.2.1.symm
          case sub k sz lo hi =>
            cases hk : get hp k with
            | none => rw [hk] at h; cases h
            | some o =>
              rw [hk] at h
              cases o with
              | box _ => cases h
              | arr e' t' xs =>
                simp only at h
                split at h
                · cases hx : castD (.sl e' t') (.sl e t) (xs.take hi.toNat) with
                  | none => rw [hx] at h; cases h
                  | some y => rw [hx] at h; simp at h; exact h.2.1.symm
                · cases h
        subst e
        simp [Ty.cells]; omega
    | _ =>
      intro hp cs x r hp' h
      cases cs with
      | nil => simp [takeC] at h
      | cons c cs =>
        cases c <;> simp only [takeC] at h <;> try (cases h; done)
        rename_i p t' x'
        cases hx : castD t' _ x' with
        | none => rw [hx] at h; cases h
        | some z =>
          rw [hx] at h
          simp only [Option.map_some, Option.some.injEq, Prod.mk.injEq] at h
          obtain ⟨_, rfl, _⟩ := h
          simp [Ty.cells]; omega
  simpa using key t hp cs x [] hp' h
theorem back_box {R' : Nat → Prop} {μ : Nat → Value} {fr : Fr} {X : List Nat} {hn hi : Hp} {t : Ty} {k : Nat} {y : t.D} {v : Value} {f : List Nat} {H : Hp} {m : Mp}
    (h : RelW cx ⟨fr, H⟩ a w m) (hμ : m.μ = μ) (hX : Aside ⟨fr, H⟩ m X (OwnOk cx) w) (hpin : ∀ u, (k, u) ∈ cx.pins → μ k = u) (hk : (get hi k).isSome = true) (hsn : Sub hn (del hi k)) (hF : FreeK H hi hn) (hv : v = μ k)
    (ho : BoxR R' w t y v f) (hR : ∀ b, R' b → R0of ⟨fr, H⟩ m b) (hfX : ∀ b ∈ f, b ∈ X) (hap : Apart fr H m f) :
    ∃ m', Backd cx fr a w H (ins H k (.box (roC true t y))) m m' f ∧ FreeK (ins H k (.box (roC true t y))) (del hi k) hn := by
  obtain ⟨g, c, T, hvg, hc, hro, rfl⟩ := ho
  obtain ⟨hr, hmu⟩ := back_one (A := ⟨fr, H⟩) h hX (.box (roC true t y)) [g] [] (hF.none_of hk hsn) hfX (by simp) hap (fun u hu => by rw [hμ]; exact hpin u hu) (k := k)
    ⟨g, c, T, by rw [hμ, ← hv]; exact hvg, hc, roC_ok (p := true) (hro.wide hR), rfl, rfl⟩
  exact ⟨_, ⟨hr, hmu, rfl, rfl, grew_upd k _ _ _ _⟩, hF.ins k _⟩
theorem hR_next {R' : Nat → Prop} {fr : Fr} {H H' : Hp} {m m' : Mp} {f X : List Nat} (hR : ∀ b, R' b → R0of ⟨fr, H⟩ m b) (hB : Backd cx fr a w H H' m m' f) (hfX : ∀ b ∈ f, b ∈ X) (hRX : ∀ b, R' b → b ∉ X) : ∀ b, R' b → R0of ⟨fr, H'⟩ m' b := fun b hb =>
  ⟨by rw [hB.x0]; exact (hR b hb).1, fun k hk hm => (hB.grew k hk b hm).elim (fun ⟨hl, hm⟩ => (hR b hb).2 k hl hm) fun hm => hRX b hb (hfX b hm)⟩
theorem backBs_ok {R' : Nat → Prop} {μ : Nat → Value} {fr : Fr} {X : List Nat} {hn : Hp} (hRX : ∀ b, R' b → b ∉ X) : ∀ (ts : List Ty) (ks : List Nat) (hi : Hp) (x : TysD ts) (hj : Hp) (y : TysD ts) (vs : List Value) (f : List Nat) (H : Hp) (m : Mp),
    RelW cx ⟨fr, H⟩ a w m → m.μ = μ → Aside ⟨fr, H⟩ m X (OwnOk cx) w → (∀ k u, (k, u) ∈ cx.pins → (get hi k).isSome = true → μ k = u) → All2 (fun k u => u = μ k ∧ ∃ g, u = .pointer (some ⟨g, 0, none⟩)) ks vs →
    boxesC hi ts ks = some (x, hj) → Sub hn hj → FreeK H hi hn → BoxesR R' w ts y vs f → (∀ b, R' b → R0of ⟨fr, H⟩ m b) → f.Nodup → (∀ b ∈ f, b ∈ X) → Apart fr H m f →
    ∃ m', Backd cx fr a w H (backBs H ts y ks) m m' f ∧ FreeK (backBs H ts y ks) hj hn
  | [], [], hi, x, hj, y, vs, f, H, m, h, hμ, hX, hpin, ha, hb, hsn, hF, ho, hR, hnd, hfX, hap => by
    simp [boxesC] at hb; subst hb
    obtain ⟨_, rfl⟩ := ho
    exact ⟨m, Backd.refl h, hF⟩
  | t :: ts, k :: ks, hi, x, hj, y, vs, f, H, m, h, hμ, hX, hpin, ⟨v, us, hv, ⟨hu, _⟩, ha⟩, hb, hsn, hF, ⟨v', us', f1, f2, hv', hf, ho1, ho2⟩, hR, hnd, hfX, hap => by
    subst hv hf
    simp only [List.cons.injEq] at hv'
    obtain ⟨rfl, rfl⟩ := hv'
    simp only [boxesC] at hb
    cases h1 : boxC hi t k with
    | none => rw [h1] at hb; cases hb
    | some p =>
      obtain ⟨z, hp1⟩ := p
      rw [h1] at hb
      simp only [Option.bind_some] at hb
      cases h2 : boxesC hp1 ts ks with
      | none => rw [h2] at hb; cases hb
      | some q =>
        obtain ⟨zs, hp2⟩ := q
        rw [h2] at hb
        simp at hb
        obtain ⟨_, rfl⟩ := hb
        obtain ⟨rfl, hks⟩ := boxC_shape h1
        have hsub2 : Sub hp2 (del hi k) := boxesC_sub ts ks (del hi k) zs hp2 h2
        have hnd' := List.nodup_append.1 hnd
        obtain ⟨m1, hB1, hF1⟩ := back_box h hμ hX (fun u hu => hpin k u hu hks) hks (hsn.trans hsub2) hF hu ho1 hR (fun b hb => hfX b (by simp [hb])) hap.left
        obtain ⟨m2, hB2, hF2⟩ := backBs_ok hRX ts ks (del hi k) zs hp2 y.2 us f2 _ m1 hB1.rel (hB1.mu.trans hμ) (hX.move hB1.x0 hB1.x1) (fun j u hp hj => hpin j u hp (by
          rw [get_del] at hj
          split at hj
          · cases hj
          · exact hj)) ha h2 hsn hF1 ho2 (hR_next hR hB1 (fun b hb => hfX b (by simp [hb])) hRX) hnd'.2.1 (fun b hb => hfX b (by simp [hb])) (hap.next hB1.grew fun b hb hm => hnd'.2.2 b hb b hm rfl)
        exact ⟨m2, hB1.trans hB2, hF2⟩
  | [], _ :: _, hi, x, hj, y, vs, f, H, m, _, _, _, _, _, hb, _, _, _, _, _, _, _ => by simp [boxesC] at hb
  | _ :: _, [], hi, x, hj, y, vs, f, H, m, _, _, _, _, _, hb, _, _, _, _, _, _, _ => by simp [boxesC] at hb
theorem back1_ok {w0 : World} {R0 R1 R' : Nat → Prop} {μ : Nat → Value} {fr : Fr} {X : List Nat} {hn : Hp} (hRX : ∀ b, R' b → b ∉ X) (p : Pm) (a' : A1) (hi : Hp) (x : p.T) (hj : Hp) (y : p.O) (v : Value) (f : List Nat) (H : Hp) (m : Mp)
    (h : RelW cx ⟨fr, H⟩ a w m) (hμ : m.μ = μ) (hX : Aside ⟨fr, H⟩ m X (OwnOk cx) w) (hpin : ∀ k u, (k, u) ∈ cx.pins → (get hi k).isSome = true → μ k = u) (ha : V1 w0 R0 R1 μ a' v)
    (hl : lend1 hi p a' = some (x, hj)) (hsn : Sub hn hj) (hF : FreeK H hi hn) (ho : OutR R' w p y v f) (hR : ∀ b, R' b → R0of ⟨fr, H⟩ m b) (hnd : f.Nodup) (hfX : ∀ b ∈ f, b ∈ X) (hap : Apart fr H m f) :
    ∃ m', Backd cx fr a w H (back1 H p y a') m m' f ∧ FreeK (back1 H p y a') hj hn := by
  cases p with
  | ro t =>
    simp [lend1] at hl; subst hl
    rw [show f = [] from ho]
    exact ⟨m, Backd.refl h, hF⟩
  | mv t =>
    rw [show f = [] from ho]
    refine ⟨m, Backd.refl h, fun k hk => (hF k hk).imp id fun hk' => ?_⟩
    simp only [lend1] at hl
    split at hl
    · split at hl
      · rename_i z hp1 htk
        simp at hl
        obtain ⟨_, rfl⟩ := hl
        have hsub := takeC_sub _ _ _ _ _ _ htk
        cases hc : get hp1 k with
        | none => rfl
        | some o => rw [hsub k o hc] at hk'; cases hk'
      · cases hl
    · cases hl
  | inp t =>
    simp only [lend1] at hl
    split at hl
    · rename_i hsh
      split at hl
      · rename_i z hp1 htk
        simp at hl
        obtain ⟨_, rfl⟩ := hl
        rw [Bool.and_eq_true] at hsh
        obtain ⟨vs, hav, hvs⟩ := sh_ok ha hsh.1
        obtain ⟨cs, hcs, hown⟩ := ho
        have hlen : vs.length = t.cells := by
          rw [hav.length]
          exact takeC_len _ _ _ _ _ htk
        have e : vs = cs := shapeV_inj (hvs.symm.trans hcs) hlen hown.length
        subst e
        obtain ⟨H', m', hb, hB, hF', _, _⟩ := backC_ok t hi a'.cs [] z hp1 y vs [] f H m h hμ hX hpin (by simpa using hav) hsh.2 htk (takeC_sub _ _ _ _ _ _ htk) hsn hF hown hnd hfX hap
        exact ⟨m', by simp only [back1, hb]; exact hB, by simp only [back1, hb]; exact hF'⟩
      · cases hl
    · cases hl
  | st t =>
    simp only [lend1] at hl
    cases hp0 : ptr0 a' with
    | none => rw [hp0] at hl; cases hl
    | some k =>
      rw [hp0] at hl
      simp only [Option.bind_some] at hl
      have ha' : a' = .one (.bptr k 0) := by
        unfold ptr0 at hp0
        split at hp0
        · simp at hp0; subst hp0; rfl
        · cases hp0
      subst ha'
      obtain ⟨rfl, hks⟩ := boxC_shape hl
      obtain ⟨g, hμk, hvv⟩ := ha
      simp only [back1, ptr0]
      exact back_box h hμ hX (fun u hu => hpin k u hu hks) hks hsn hF (hvv.trans hμk.symm) ho hR hfX hap
  | fn f' ts =>
    simp only [lend1] at hl
    cases hf0 : fnOf a' with
    | none => rw [hf0] at hl; cases hl
    | some g =>
      rw [hf0] at hl
      simp only [Option.bind_some] at hl
      have ha' : a' = .one (.fn g.1 g.2) := by
        unfold fnOf at hf0
        split at hf0
        · simp at hf0; subst hf0; rfl
        · cases hf0
      subst ha'
      split at hl
      · obtain ⟨vs, hvv, hav⟩ := ha
        obtain ⟨vs', hvv', hbs⟩ := ho
        have e : vs = vs' := by
          rw [hvv] at hvv'
          simpa using (show vs.toArray = vs'.toArray by injection hvv')
        subst e
        simp only [back1, fnOf]
        exact backBs_ok hRX ts g.2 hi x hj y vs f H m h hμ hX hpin hav hl hsn hF hbs hR hnd hfX hap
      · cases hl
theorem backs_ok {w0 : World} {R0 R1 R' : Nat → Prop} {μ : Nat → Value} {fr : Fr} {X : List Nat} {hn : Hp} (hRX : ∀ b, R' b → b ∉ X) : ∀ (ps : List Pm) (as : List A1) (hi : Hp) (x : PsT ps) (y : PsO ps) (vs : List Value) (f : List Nat) (H : Hp) (m : Mp),
    RelW cx ⟨fr, H⟩ a w m → m.μ = μ → Aside ⟨fr, H⟩ m X (OwnOk cx) w → (∀ k u, (k, u) ∈ cx.pins → (get hi k).isSome = true → μ k = u) → All2 (V1 w0 R0 R1 μ) as vs →
    lend hi ps as = some (x, hn) → FreeK H hi hn → OutsR R' w ps y vs f → (∀ b, R' b → R0of ⟨fr, H⟩ m b) → f.Nodup → (∀ b ∈ f, b ∈ X) → Apart fr H m f →
    ∃ m', Backd cx fr a w H (backs H ps y as) m m' f
  | [], as, hi, x, y, vs, f, H, m, h, hμ, hX, hpin, ha, hl, hF, ho, hR, hnd, hfX, hap => by
    rw [show f = [] from ho]
    exact ⟨m, Backd.refl h⟩
  | p :: ps, [], hi, x, y, vs, f, H, m, h, hμ, hX, hpin, ha, hl, hF, ho, hR, hnd, hfX, hap => by simp [lend] at hl
  | p :: ps, a' :: as, hi, x, y, vs, f, H, m, h, hμ, hX, hpin, ⟨v, us, hv, hu, ha⟩, hl, hF, ⟨v', us', f1, f2, hv', hf, ho1, ho2⟩, hR, hnd, hfX, hap => by
    subst hv hf
    simp only [List.cons.injEq] at hv'
    obtain ⟨rfl, rfl⟩ := hv'
    simp only [lend] at hl
    cases h1 : lend1 hi p a' with
    | none => rw [h1] at hl; cases hl
    | some q =>
      obtain ⟨z, hp1⟩ := q
      rw [h1] at hl
      simp only [Option.bind_some] at hl
      cases h2 : lend hp1 ps as with
      | none => rw [h2] at hl; cases hl
      | some q =>
        obtain ⟨zs, hp2⟩ := q
        rw [h2] at hl
        simp at hl
        obtain ⟨_, rfl⟩ := hl
        have hs1 : Sub hp1 hi := lend1_sub p a' hi z hp1 h1
        have hs2 : Sub hp2 hp1 := lend_sub ps as hp1 zs hp2 h2
        have hnd' := List.nodup_append.1 hnd
        obtain ⟨m1, hB1, hF1⟩ := back1_ok hRX p a' hi z hp1 y.1 v f1 H m h hμ hX hpin hu h1 hs2 hF ho1 hR hnd'.1 (fun b hb => hfX b (by simp [hb])) hap.left
        obtain ⟨m2, hB2⟩ := backs_ok hRX ps as hp1 zs y.2 us f2 _ m1 hB1.rel (hB1.mu.trans hμ) (hX.move hB1.x0 hB1.x1) (fun j u hp hj => hpin j u hp (by
          cases hc : get hp1 j with
          | none => rw [hc] at hj; cases hj
          | some o => simp [hs1 j o hc])) ha h2 hF1 ho2 (hR_next hR hB1 (fun b hb => hfX b (by simp [hb])) hRX) hnd'.2.1 (fun b hb => hfX b (by simp [hb])) (hap.next hB1.grew fun b hb hm => hnd'.2.2 b hb b hm rfl)
        exact ⟨m2, hB1.trans hB2⟩
end
end Go.Refl
