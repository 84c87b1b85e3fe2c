/- The evaluator is right: what stands at a loop's head, and behind it. No program in sight. No condition. -/
import Derived.Test.YthmaaogfmakohaaRfJ
namespace Go.Refl
open Go.RowKit
set_option linter.unusedVariables false
set_option linter.unusedSimpArgs false

section
variable {cx : Cx} {A : AS} {a : Act} {w : World} {m : Mp} {P : Program}
theorem RelW.sayV (h : RelW cx A a w m) {i : Nat} {av : AV} (hi : i < a.tmps.size) (hv : VV w (R0of A m) (R1of A m) m.μ av (a.tmps.getD i undef)) : RelW cx ⟨ins A.fr i av, A.hp⟩ a w m := by
  refine ⟨fun j x hj => ?_, h.hp, h.nd, h.dj, h.lt, h.own, h.keeps, h.pins, h.defers, h.rp, h.rpo⟩
  simp only [get_ins] at hj
  split at hj
  · rename_i e; subst e; cases hj; exact ⟨hi, hv⟩
  · exact h.fr j x hj
theorem RelW.part (h : RelW cx A a w m) {fr : Fr} {hp : Hp} (hf : ∀ i av, get fr i = some av → get A.fr i = some av) (hs : Sub hp A.hp) : RelW cx ⟨fr, hp⟩ a w m := by
  have h1 := h.forget fr hf
  have h2 := h1.free (h' := hp) hs (w' := w) (Nat.le_refl _) rfl rfl rfl (fun _ _ => .inl rfl) m.x0 m.x1 (fun _ _ h => .inl h) (fun _ _ h => .inl h) h.rp
  exact h2
theorem retok_ok (h : RelW cx A a w m) {c : AC} {v : Value} (hc : VC w (R0of A m) (R1of A m) m.μ c v) {e : TypeId} {t : Ty} {κ : Nat} {o : AO} {hp : Hp} (hr : retok A.hp e t c κ = some (o, hp)) (hpin : ∀ u, (κ, u) ∉ cx.pins) :
    ∃ m', RelW cx (newTok ⟨A.fr, hp⟩ κ o) a w m' ∧ (∀ w R0 R1, VC w R0 R1 m'.μ (.own κ) v) ∧ ∀ j, j ≠ κ → m'.μ j = m.μ j := by
  unfold retok at hr
  split at hr
  · rename_i x hp' ht
    simp at hr
    obtain ⟨rfl, rfl⟩ := hr
    obtain ⟨vs, f1, f2, hh, hol, hnd, hs, hg, hg1, _⟩ := take1_ok h (Sub.refl _) hc ht
    have h1 := h.free hs (w' := w) (Nat.le_refl _) rfl rfl rfl (fun _ _ => .inl rfl) (fun b => b ∈ f1 ++ f2 ∨ ¬ cx.rp b) (fun b => b ∈ f1)
      (fun b _ hm => hm.elim (fun hm => .inr (hg b hm)) fun hm => .inl (h.rp b hm)) (fun b _ hm => .inr (by obtain ⟨k, hk, _, hb⟩ := hg1 b hm; exact ⟨k, hk, hb⟩)) (fun _ h => .inr h)
    have h2 := h1.new κ (.arr e t x) v f1 f2 ⟨vs, by simpa [Mp.upd] using hh, hol⟩ hnd (fun j hj b hb hm => (hg b hm).not h (Sub.refl _) hj hs hb)
      (fun b hm => by obtain ⟨k, hk, _, hb⟩ := hg b hm; exact h.lt k hk b hb) (fun b hm => by obtain ⟨k, hk, _, hb⟩ := hg b hm; exact h.own k hk b hb) hpin (fun b hm => .inl hm) (fun b hm => hm)
    refine ⟨_, h2, fun w R0 R1 => ?_, fun j hj => by simp [Mp.upd, hj]⟩
    obtain ⟨av, cap, hs', _⟩ := hh.slice
    exact ⟨by simp [Mp.upd], av, _, cap, hs'⟩
  · cases hr
theorem normF_ok (hpins : ∀ k u, (k, u) ∈ cx.pins → pinBase ≤ k) {τ : List (Nat × TO)} : ∀ (l : List (Nat × Nat)) (A A' : AS), Rel cx A a w → normF τ l A = some A' → Rel cx A' a w
  | [], A, A', h, hn => by simp [normF] at hn; rw [← hn]; exact h
  | (i, κ) :: l, A, A', ⟨m, h⟩, hn => by
    unfold normF at hn
    split at hn
    · rename_i e t c harr hg
      split at hn
      · rename_i o hp hr
        split at hn
        · rename_i hκ
          obtain ⟨hi, hv⟩ := h.fr i _ hg
          have hpin : ∀ u, (κ, u) ∉ cx.pins := fun u hu => by have := hpins κ u hu; omega
          obtain ⟨m', h', hc', _⟩ := retok_ok h hv hr hpin
          exact normF_ok hpins l _ A' ⟨m', h'.sayV (av := .v (.one (.own κ))) hi (hc' w (R0of (newTok ⟨A.fr, hp⟩ κ o) m') (R1of (newTok ⟨A.fr, hp⟩ κ o) m'))⟩ hn
        · cases hn
      · cases hn
    · cases hn
theorem All2.set {α β : Type} {r : α → β → Prop} : ∀ {xs : List α} {ys : List β} {j : Nat} {x : α} {y : β}, All2 r xs ys → ys[j]? = some y → r x y → All2 r (xs.set j x) ys
  | [], ys, j, x, y, h, hy, hr => by simpa using h
  | z :: xs, ys, 0, x, y, ⟨u, us, he, h1, h2⟩, hy, hr => by
    subst he; simp at hy; subst hy
    exact ⟨u, us, rfl, hr, h2⟩
  | z :: xs, ys, j + 1, x, y, ⟨u, us, he, h1, h2⟩, hy, hr => by
    subst he
    exact ⟨u, us, rfl, h1, h2.set (by simpa using hy) hr⟩
theorem RelW.reBox (h : RelW cx A a w m) {k : Nat} {cs cs' : List AC} (hk : get A.hp k = some (.box cs)) (hc : ∀ vs, All2 (VC w (R0of A m) (R1of A m) m.μ) cs vs → (∃ g c T, m.μ k = .pointer (some ⟨g, 0, none⟩) ∧ w.heap[g]? = some (.cells c T (0, 0)) ∧ vs = c.toList) → All2 (VC w (R0of A m) (R1of A m) m.μ) cs' vs) : RelW cx ⟨A.fr, ins A.hp k (.box cs')⟩ a w m := by
  have hlv : ∀ j, live ⟨A.fr, ins A.hp k (.box cs')⟩ j ↔ live A j := fun j => by
    simp only [live, get_ins]
    split
    · rename_i e; subst e; simp [hk]
    · rfl
  have e0 : R0of ⟨A.fr, ins A.hp k (.box cs')⟩ m = R0of A m := by
    funext b; simp only [R0of, hlv]
  have e1 : R1of ⟨A.fr, ins A.hp k (.box cs')⟩ m = R1of A m := by
    funext b; simp only [R1of, hlv]
  refine ⟨fun i av hi => by rw [e0, e1]; exact h.fr i av hi, fun j o hj => ?_, fun j hj => h.nd j ((hlv j).1 hj), fun i j hi hj => h.dj i j ((hlv i).1 hi) ((hlv j).1 hj), fun j hj => h.lt j ((hlv j).1 hj), fun j hj => h.own j ((hlv j).1 hj), h.keeps, fun j v hp hj => h.pins j v hp ((hlv j).1 hj), h.defers, h.rp, h.rpo⟩
  rw [e0, e1]
  simp only [get_ins] at hj
  split at hj
  · rename_i e; subst e
    cases hj
    obtain ⟨g, c, T, h1, h2, h3, h4⟩ := h.hp k _ hk
    exact ⟨g, c, T, h1, h2, hc _ h3 ⟨g, c, T, h1, h2, rfl⟩, h4⟩
  · exact h.hp j o hj
theorem normB_ok (hpins : ∀ k u, (k, u) ∈ cx.pins → pinBase ≤ k) {τ : List (Nat × TO)} : ∀ (l : List (Nat × Nat × Nat)) (A A' : AS), Rel cx A a w → normB τ l A = some A' → Rel cx A' a w
  | [], A, A', h, hn => by simp [normB] at hn; rw [← hn]; exact h
  | (k, j, κ) :: l, A, A', ⟨m, h⟩, hn => by
    unfold normB at hn
    split at hn
    · rename_i e t cs harr hg
      split at hn
      · rename_i o hp hr
        split at hn
        · rename_i hcond
          obtain ⟨hκ, hne, hj⟩ := hcond
          obtain ⟨g, c, T, hμ, hb, ha, _⟩ := h.hp k _ hg
          obtain ⟨v, hvj, hvc⟩ := ha.at (i := j) (x := cs.getD j .bad) (getD_some hj)
          have hpin : ∀ u, (κ, u) ∉ cx.pins := fun u hu => by have := hpins κ u hu; omega
          obtain ⟨m', h', hc', hμ'⟩ := retok_ok h hvc hr hpin
          simp only at hn
          split at hn
          · rename_i cs' hg'
            refine normB_ok hpins l _ A' ⟨m', h'.reBox hg' fun vs hvs hw => ?_⟩ hn
            obtain ⟨g2, c2, T2, h1, h2, rfl⟩ := hw
            rw [hμ' k (Ne.symm hne), hμ] at h1
            simp at h1
            subst h1
            rw [hb] at h2
            simp at h2
            obtain ⟨rfl, _⟩ := h2
            exact hvs.set hvj (hc' _ _ _)
          · cases hn
        · cases hn
      · cases hn
    · cases hn
theorem pickK_get {α β : Type} (l : List (Nat × α)) : ∀ (τ : List (Nat × β)) (i : Nat) (x : α), get (pickK l τ) i = some x → get l i = some x
  | [], i, x, h => by simp [pickK, get] at h
  | (j, y) :: τ, i, x, h => by
    simp only [pickK] at h
    split at h
    · rename_i z hz
      simp only [get] at h
      split at h
      · rename_i e; subst e; cases h; exact hz
      · exact pickK_get l τ i x h
    · exact pickK_get l τ i x h
theorem castD_some {t t' : Ty} {x : t.D} {y : t'.D} (h : castD t t' x = some y) (p : Bool) : AC.d p t x = AC.d p t' y := by
  unfold castD at h
  split at h
  · rename_i e; subst e; simp at h; rw [h]
  · cases h
theorem matC_eq : ∀ (l : List TS) (cs : List AC) (x : CsD l), matC l cs = some x → instC l x = cs
  | [], cs, x, h => by
    cases cs with
    | nil => rfl
    | cons p cs => simp [matC] at h
  | s :: l, cs, x, h => by
    cases cs with
    | nil => cases s <;> simp [matC] at h
    | cons c cs =>
      cases s with
      | sc p t =>
        cases c <;> try (simp [matC] at h; done)
        rename_i p' t' y
        simp only [matC] at h
        split at h
        · rename_i e; subst e
          cases hc : castD t' t y with
          | none => rw [hc] at h; cases h
          | some z =>
            rw [hc] at h; simp only [Option.bind_some] at h
            cases hm : matC l cs with
            | none => rw [hm] at h; cases h
            | some u => rw [hm] at h; simp at h; subst h; simp only [instC]; rw [matC_eq l cs u hm, castD_some hc]
        · cases h
      | nil =>
        cases c <;> try (simp [matC] at h; done)
        simp only [matC] at h
        simp only [instC]; rw [matC_eq l cs x h]
      | own k =>
        cases c <;> try (simp [matC] at h; done)
        simp only [matC] at h
        split at h
        · rename_i e; subst e; simp only [instC]; rw [matC_eq l cs x h]
        · cases h
      | ptr k o =>
        cases c <;> try (simp [matC] at h; done)
        simp only [matC] at h
        split at h
        · rename_i e; obtain ⟨rfl, rfl⟩ := e; simp only [instC]; rw [matC_eq l cs x h]
        · cases h
      | fnv f ks =>
        cases c <;> try (simp [matC] at h; done)
        simp only [matC] at h
        split at h
        · rename_i e; obtain ⟨rfl, rfl⟩ := e; simp only [instC]; rw [matC_eq l cs x h]
        · cases h
theorem matF_eq : ∀ (l : List (Nat × TS)) (fr : Fr) (x : FrD l), matF l fr = some x → instF l x = fr
  | [], fr, x, h => by
    cases fr with
    | nil => rfl
    | cons p fr => simp [matF] at h
  | (i, s) :: l, fr, x, h => by
    cases fr with
    | nil => cases s <;> simp [matF] at h
    | cons p fr =>
      obtain ⟨j, av⟩ := p
      cases av with
      | tup vs => cases s <;> simp [matF] at h
      | v a1 =>
        cases a1 with
        | agg cs => cases s <;> simp [matF] at h
        | one c =>
          cases s with
          | sc p t =>
            cases c <;> try (simp [matF] at h; done)
            rename_i p' t' y
            simp only [matF] at h
            split at h
            · rename_i e; obtain ⟨rfl, rfl⟩ := e
              cases hc : castD t' t y with
              | none => rw [hc] at h; cases h
              | some z =>
                rw [hc] at h; simp only [Option.bind_some] at h
                cases hm : matF l fr with
                | none => rw [hm] at h; cases h
                | some u => rw [hm] at h; simp at h; subst h; simp only [instF]; rw [matF_eq l fr u hm, castD_some hc]
            · cases h
          | nil =>
            cases c <;> try (simp [matF] at h; done)
            simp only [matF] at h
            split at h
            · rename_i e; subst e; simp only [instF]; rw [matF_eq l fr x h]
            · cases h
          | own k =>
            cases c <;> try (simp [matF] at h; done)
            simp only [matF] at h
            split at h
            · rename_i e; obtain ⟨rfl, rfl⟩ := e; simp only [instF]; rw [matF_eq l fr x h]
            · cases h
          | ptr k o =>
            cases c <;> try (simp [matF] at h; done)
            simp only [matF] at h
            split at h
            · rename_i e; obtain ⟨rfl, rfl, rfl⟩ := e; simp only [instF]; rw [matF_eq l fr x h]
            · cases h
          | fnv f ks =>
            cases c <;> try (simp [matF] at h; done)
            simp only [matF] at h
            split at h
            · rename_i e; obtain ⟨rfl, rfl, rfl⟩ := e; simp only [instF]; rw [matF_eq l fr x h]
            · cases h
theorem matH_eq : ∀ (l : List (Nat × TO)) (hp : Hp) (x : HpD l), matH l hp = some x → instH l x = hp
  | [], hp, x, h => by
    cases hp with
    | nil => rfl
    | cons p hp => simp [matH] at h
  | (k, s) :: l, hp, x, h => by
    cases hp with
    | nil => cases s <;> simp [matH] at h
    | cons p hp =>
      obtain ⟨j, o⟩ := p
      cases s with
      | box cs =>
        cases o <;> try (simp [matH] at h; done)
        rename_i cs'
        simp only [matH] at h
        split at h
        · rename_i e; subst e
          cases hc : matC cs cs' with
          | none => rw [hc] at h; cases h
          | some z =>
            rw [hc] at h; simp only [Option.bind_some] at h
            cases hm : matH l hp with
            | none => rw [hm] at h; cases h
            | some u => rw [hm] at h; simp at h; subst h; simp only [instH]; rw [matH_eq l hp u hm, matC_eq cs cs' z hc]
        · cases h
      | arr e t =>
        cases o <;> try (simp [matH] at h; done)
        rename_i e' t' xs
        simp only [matH] at h
        split at h
        · rename_i he; obtain ⟨rfl, rfl⟩ := he
          cases hc : castD (.sl e' t') (.sl e' t) xs with
          | none => rw [hc] at h; cases h
          | some z =>
            rw [hc] at h; simp only [Option.bind_some] at h
            cases hm : matH l hp with
            | none => rw [hm] at h; cases h
            | some u =>
              rw [hm] at h; simp at h; subst h; simp only [instH]; rw [matH_eq l hp u hm]
              obtain ⟨e1, e2⟩ := castD_eq hc
              cases e1
              subst e2
              rfl
        · cases h
theorem matT_ok (hpins : ∀ k u, (k, u) ∈ cx.pins → pinBase ≤ k) {τ : Tm} {s : τ.D} (h : Rel cx A a w) (hm : matT τ A = some s) : Rel cx (inst τ s) a w := by
  unfold matT at hm
  cases h1 : normF τ.hp τ.mf A with
  | none => rw [h1] at hm; cases hm
  | some A1 =>
    rw [h1] at hm; simp only [Option.bind_some] at hm
    cases h2 : normB τ.hp τ.mb A1 with
    | none => rw [h2] at hm; cases hm
    | some A2 =>
      rw [h2] at hm; simp only [Option.bind_some] at hm
      cases h3 : matF τ.fr (pickK A2.fr τ.fr) with
      | none => rw [h3] at hm; cases hm
      | some x =>
        rw [h3] at hm; simp only [Option.bind_some] at hm
        cases h4 : matH τ.hp (pickK A2.hp τ.hp) with
        | none => rw [h4] at hm; cases hm
        | some y =>
          rw [h4] at hm
          simp at hm
          subst hm
          obtain ⟨m, hr⟩ := normB_ok hpins _ _ _ (normF_ok hpins _ _ _ h h1) h2
          refine ⟨m, ?_⟩
          unfold inst
          simp only
          rw [matF_eq _ _ _ h3, matH_eq _ _ _ h4]
          exact hr.part (fun i av hi => pickK_get _ _ _ _ hi) fun i o hi => pickK_get _ _ _ _ hi
theorem get_filter {α : Type} (q : Nat → Bool) : ∀ (l : List (Nat × α)) (i : Nat) (x : α), get (l.filter fun p => q p.1) i = some x → get l i = some x
  | [], i, x, h => by simp [get] at h
  | (j, y) :: l, i, x, h => by
    simp only [List.filter_cons] at h
    split at h
    · simp only [get] at h ⊢
      split at h
      · rename_i e; rw [if_pos e]; exact h
      · rename_i e; rw [if_neg e]; exact get_filter q l i x h
    · rename_i hq
      have := get_filter q l i x h
      simp only [get]
      split
      · rename_i e
        subst e
        exfalso
        have key : ∀ l' : List (Nat × α), get (l'.filter fun p => q p.1) j = none := by
          intro l'
          induction l' with
          | nil => rfl
          | cons p l' ih =>
            obtain ⟨k, z⟩ := p
            simp only [List.filter_cons]
            split
            · rename_i hk
              simp only [get]
              split
              · rename_i e; subst e; exact absurd hk hq
              · exact ih
            · exact ih
        rw [key] at h; cases h
      · exact this
theorem restr_ok (h : Rel cx A a w) (τ : Tm) : Rel cx (restr τ A) a w := by
  obtain ⟨m, h⟩ := h
  exact ⟨m, h.part (fun i av hi => get_filter (fun k => τ.xf.contains k) _ _ _ hi) fun i o hi => get_filter (fun k => τ.xh.contains k || decide (pinBase ≤ k)) _ _ _ hi⟩
end
end Go.Refl
