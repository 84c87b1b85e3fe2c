/- The evaluator is right: a function does what it comes to. No program in sight. No condition. -/
import Derived.Test.YthmaaogfmakohaaRfM
import Derived.Laws.Sem
namespace Go.Refl
open Go.RowKit
set_option linter.unusedVariables false
set_option linter.unusedSimpArgs false

section
variable {cx : Cx} {A : AS} {a : Act} {w : World} {m : Mp} {P : Program}
def resM (tmps : Array Value) : ResultVar → Sem Value
  | .tmp t => pure (tmps.getD t undef)
  | .cell a t => do loadVar t (← asAddr (tmps.getD a undef))
theorem results_eq (fn : Func) (tmps : Array Value) : results fn tmps = (do let vs ← fn.results.mapM (resM tmps); pure (if h : vs.size = 1 then vs[0] else .tuple vs)) := by
  unfold results
  congr 1
theorem loadAt_loadVar {t : TypeId} {v : Value} {u : Value} (h : RunB P w (Instr.loadAt t v) u) (hv : ∃ ad, v = .pointer (some ad)) : ((do loadVar t (← asAddr v) : Sem Value)).run P w = .ok u w := by
  obtain ⟨ad, rfl⟩ := hv
  have := h.run
  simp [Instr.loadAt, Instr.sureAddr] at this
  simp [asAddr, this]
theorem resA_ok {E : Env} (hE : EnvOk P E) (h : RelW cx A a w m) (hx : X0 m) {x : ResultVar} {b : A1} (hr : resA E A x = some b) : ∃ u, (resM a.tmps x).run P w = .ok u w ∧ V1 w (R0of A m) (R1of A m) m.μ b u := by
  cases x with
  | tmp t =>
    simp only [resA, Option.some.injEq] at hr
    subst hr
    exact ⟨_, rfl, opd1_ok h (.tmp t)⟩
  | cell p t =>
    simp only [resA] at hr
    split at hr
    · rename_i T ht
      obtain ⟨_, hT⟩ := hE.fit ht
      have hc := opdC_ok h (.tmp p)
      obtain ⟨u, hu, hv⟩ := loadA_ok hT h hx hc hr
      refine ⟨u, loadAt_loadVar hu ?_, hv⟩
      have hpt : ∀ c : AC, (∃ v, loadA A T c = some v) → VC w (R0of A m) (R1of A m) m.μ c (a.eval (.tmp p)) → ∃ ad, a.eval (.tmp p) = .pointer (some ad) := by
        intro c hc hv
        obtain ⟨v, hc⟩ := hc
        cases c <;> simp only [loadA] at hc <;> try (cases hc; done)
        case bptr k off => obtain ⟨g, _, hv⟩ := hv; exact ⟨_, hv⟩
        case eptr k sz i => obtain ⟨ad, n, c, _, _, _, hv⟩ := hv; exact ⟨_, hv⟩
        case rptr p t x => obtain ⟨ad, vs, hv, _⟩ := hv; exact ⟨_, hv⟩
      exact hpt _ ⟨_, hr⟩ hc
    · cases hr
theorem resAs_ok {E : Env} (hE : EnvOk P E) (h : RelW cx A a w m) (hx : X0 m) : ∀ (l : List ResultVar) (bs : List A1), mapO (resA E A) l = some bs → ∃ us, (l.mapM (resM a.tmps)).run P w = .ok us w ∧ All2 (V1 w (R0of A m) (R1of A m) m.μ) bs us
  | [], bs, hm => by simp [mapO] at hm; subst hm; exact ⟨[], rfl, rfl⟩
  | x :: l, bs, hm => by
    simp only [mapO] at hm
    cases h1 : resA E A x with
    | none => rw [h1] at hm; cases hm
    | some b =>
      rw [h1] at hm; simp only [Option.bind_some] at hm
      cases h2 : mapO (resA E A) l with
      | none => rw [h2] at hm; cases hm
      | some bs' =>
        rw [h2] at hm
        simp at hm
        subst hm
        obtain ⟨u, hu, hv⟩ := resA_ok hE h hx h1
        obtain ⟨us, hus, hvs⟩ := resAs_ok hE h hx l bs' h2
        exact ⟨u :: us, by simp [List.mapM_cons, hu, hus], u, us, rfl, hv, hvs⟩
theorem results_ok {fn : Func} {us : List Value} (h : (fn.results.toList.mapM (resM a.tmps)).run P w = .ok us w) : (results fn a.tmps).run P w = .ok (resVal us) w := by
  rw [results_eq, Array.mapM_eq_mapM_toList]
  simp [h]
  match us with
  | [] => rfl
  | [u] => rfl
  | _ :: _ :: _ => simp [resVal]
theorem argsR_len {R : Nat → Prop} : ∀ {ps : List Pm} {x : PsD ps} {vs : List Value} {fp : List Nat}, ArgsR R w ps x vs fp → vs.length = ps.length
  | [], _, _, _, h => by obtain ⟨rfl, _⟩ := h; rfl
  | p :: ps, x, vs, fp, ⟨v, us, f1, f2, hv, _, _, h⟩ => by subst hv; simp [argsR_len h]
theorem initL_len : ∀ (ps : List Pm) (x : PsD ps) (i : Nat), (initL ps x i).1.length = ps.length
  | [], _, _ => rfl
  | p :: ps, x, i => by simp [initL, initL_len]
theorem getD_app {vs : List Value} {n j : Nat} {u : Value} (h : vs[j]? = some u) : (vs.toArray ++ Array.replicate n undef).getD j undef = u := by
  have hj : j < vs.length := by
    rcases Nat.lt_or_ge j vs.length with h' | h'
    · exact h'
    · rw [List.getElem?_eq_none h'] at h; cases h
  rw [Array.getD_eq_getD_getElem?, Array.getElem?_append_left (by simpa using hj)]
  simp [h]
theorem outsR_wide {R R' : Nat → Prop} {w : World} (hr : ∀ b, R b → R' b) : ∀ {ps : List Pm} {x : PsO ps} {vs : List Value} {fp : List Nat}, OutsR R w ps x vs fp → OutsR R' w ps x vs fp
  | [], _, _, _, h => h
  | p :: ps, x, vs, fp, ⟨v, us, f1, f2, hv, hf, h1, h2⟩ => ⟨v, us, f1, f2, hv, hf, by
      cases p with
      | ro t => exact h1
      | mv t => exact h1
      | inp t => exact h1
      | st t => exact BoxR.wide h1 hr
      | fn f ts => obtain ⟨vs, hv, h⟩ := h1; exact ⟨vs, hv, BoxesR.wide hr h⟩, outsR_wide hr h2⟩
theorem ressR_wide {R R' : Nat → Prop} {w : World} (hr : ∀ b, R b → R' b) : ∀ {rs : List Rk} {x : RsD rs} {vs : List Value} {fp : List Nat}, RessR R w rs x vs fp → RessR R' w rs x vs fp
  | [], _, _, _, h => h
  | p :: rs, x, vs, fp, ⟨v, us, f1, f2, hv, hf, h1, h2⟩ => ⟨v, us, f1, f2, hv, hf, by
      cases p with
      | own t => exact h1
      | box t => exact BoxR.wide h1 hr, ressR_wide hr h2⟩
/-- **A function of the program does what the evaluator makes of its text.** -/
theorem fn_ok {E : Env} (hE : EnvOk P E) (hct : ∀ f c, get E.ct f = some c → Sat P f c) (hm : P.follows .mixedOrders = true) {TM : List (Nat × Tm)} {f : FuncId} {fn : Func} {body : Code} (c : Ct) (hf : P.funcs[f]? = some fn) (hb : fn.body = some body) (hname : (fn.name == "runtime.NumGoroutine") = false)
    (hn : (decide (c.ps.length ≤ fn.ntmps) && decide (fn.ntmps ≤ 60000) && psOk c.ps && codeOk fn.ntmps body) = true) (hF : ∀ x y, c.F x = some y → evFn E TM fn body c.ps c.rs x = some y) : Sat P f c := by
  simp only [Bool.and_eq_true, decide_eq_true_eq] at hn
  obtain ⟨⟨⟨hn1, hn2⟩, hps⟩, hcode⟩ := hn
  refine ⟨⟨fn, hf, by rw [hb]; rfl, hname⟩, fun x y hxy w vs O Rp hargs hRO hnd hlt => ?_⟩
  have hlen := argsR_len hargs
  refine calls_of_wp hf hb ?_
  have hev := hF x y hxy
  let a0 : Act := { tmps := vs.toArray ++ Array.replicate (fn.ntmps - vs.toArray.size) undef, defers := [] }
  have hsz : a0.tmps.size = fn.ntmps := by simp [a0]; omega
  let cx0 : Cx := ⟨w, O, [], fun b => Rp b ∨ b ∈ O ∨ w.heap.size ≤ b⟩
  have hR0 : RelW cx0 ⟨[], []⟩ a0 w ⟨fun _ => undef, fun _ => [], fun _ => [], fun b => b ∈ O ∨ ¬ cx0.rp b, fun b => b ∈ O⟩ := by
    have hl : ∀ k, ¬ live ⟨[], []⟩ k := fun k hk => by simp [live, get] at hk
    exact ⟨fun i av hi => by simp [get] at hi, fun k o hk => by simp [get] at hk, fun k hk => absurd hk (hl k), fun j k hj => absurd hj (hl j), fun k hk => absurd hk (hl k), fun k hk => absurd hk (hl k), Keeps.refl _ _, fun k v hp => by simp [cx0] at hp, rfl, fun b hb => .inr hb, fun b hb => .inr hb⟩
  obtain ⟨m1, h1, hR1, hv1, hf1, ht1, _⟩ := initL_ok (X := O) (R' := Rp) hRO rfl c.ps x 0 vs O ⟨[], []⟩ _ hps hR0 ⟨fun b hb => .inl hb, fun b hb => hb, fun b hb => .inl hb, hlt⟩ hargs
    (fun b hb => ⟨fun hx => hx.elim (hRO b hb) fun hx => hx (.inl hb), fun k hk => by simp [live, get] at hk⟩) hnd (fun b hb => hb) (fun j hj => by simp [live, get] at hj)
  let cx : Cx := { cx0 with pins := (List.range (16 * c.ps.length)).map fun j => (pinBase + j, m1.μ (pinBase + j)) }
  have hpins : ∀ k u, (k, u) ∈ cx.pins → pinBase ≤ k := fun k u hu => by
    simp only [cx, List.mem_map, List.mem_range, Prod.mk.injEq] at hu
    obtain ⟨j, _, rfl, _⟩ := hu
    omega
  have h2 : Rel cx (initS c.ps x) a0 w := by
    have h1' : RelW cx (newToks ⟨[], []⟩ (initL c.ps x 0).2) a0 w m1 := ⟨h1.fr, h1.hp, h1.nd, h1.dj, h1.lt, h1.own, h1.keeps, fun k v hp hk => by
      simp only [cx, List.mem_map, List.mem_range, Prod.mk.injEq] at hp
      obtain ⟨j, _, rfl, rfl⟩ := hp
      rfl, h1.defers, h1.rp, h1.rpo⟩
    refine ⟨m1, fun i av hi => ?_, h1'.hp, h1'.nd, h1'.dj, h1'.lt, h1'.own, h1'.keeps, h1'.pins, h1'.defers, h1'.rp, h1'.rpo⟩
    obtain ⟨b, hb, rfl, _⟩ := get_numF _ _ _ _ hi
    obtain ⟨u, hu, hv⟩ := hv1.at (i := i) (by simpa using hb)
    have hi' : i < vs.length := by
      rcases Nat.lt_or_ge i vs.length with h' | h'
      · exact h'
      · rw [List.getElem?_eq_none h'] at hu; cases hu
    refine ⟨by rw [hsz]; omega, ?_⟩
    rw [show a0.tmps.getD i undef = u from getD_app hu]
    exact hv _ _ hR1
  refine ev_ok hE hct hm hpins hn2 body 1000 (initS c.ps x) a0 w _ _ hcode h2 hsz hev fun e A' a' w' hk hr hs => ?_
  obtain ⟨m0, hr0⟩ := hr
  have hr := hr0.clear
  generalize hmm : ({ m0 with x0 := fun b => ¬ cx.rp b, x1 := fun _ => False } : Mp) = m' at hr
  have hx : X0 m' := by rw [← hmm]; exact fun _ h => h
  clear hmm hr0
  have hex : ∀ (h : (match mapO (resA E A') fn.results.toList with
      | some vs => (gives A'.hp c.rs vs).bind fun (y, hp) => (outs hp c.ps (initL c.ps x 0).1).map fun o => (y, o.1)
      | none => none) = some y), a'.defers = [] ∧ ∃ v, (results fn a'.tmps).run P w' = .ok v w' ∧ Post c y vs w O Rp (.returned v) w' := by
    intro hk
    refine ⟨hr.defers, ?_⟩
    split at hk
    · rename_i bs hbs
      obtain ⟨us, hus, hvs⟩ := resAs_ok hE hr hx _ _ hbs
      cases hg : gives A'.hp c.rs bs with
      | none => rw [hg] at hk; cases hk
      | some q =>
        obtain ⟨yr, hp1⟩ := q
        rw [hg] at hk
        simp only [Option.bind_some] at hk
        cases ho : outs hp1 c.ps (initL c.ps x 0).1 with
        | none => rw [ho] at hk; cases hk
        | some q =>
          obtain ⟨yo, hp2⟩ := q
          rw [ho] at hk
          simp at hk
          subst hk
          obtain ⟨fr, hres, hs1, hn1, hg1⟩ := gives_ok hr c.rs bs us A'.hp yr hp1 (Sub.refl _) hvs hg
          obtain ⟨fo, hout, hs2, hn2, hg2⟩ := outs_ok hr (μ := m1.μ) c.ps _ vs hp1 yo hp2 hs1 hf1 (fun b hb cc hc k hk hlk => by
            have := ht1 b hb cc hc k hk
            refine hr.pins k (m1.μ k) ?_ hlk
            simp only [cx, List.mem_map, List.mem_range, Prod.mk.injEq]
            refine ⟨k - pinBase, by omega, by omega, ?_⟩
            rw [show pinBase + (k - pinBase) = k by omega]) ho
          have hgg : ∀ b ∈ fr ++ fo, Gone m' A'.hp hp2 b := fun b hb => by
            rcases List.mem_append.1 hb with hb | hb
            · exact (hg1 b hb).left hs2
            · exact (hg2 b hb).right hs1
          have hw : ∀ b, R0of A' m' b → (Rp b ∨ b ∈ O ∨ w.heap.size ≤ b) ∧ b ∉ fr ++ fo := fun b hb =>
            ⟨Classical.byContradiction fun hn => hb.1 (hr.rp b hn), fun hm => by obtain ⟨k, hk, _, hkb⟩ := hgg b hm; exact hb.2 k hk hkb⟩
          refine ⟨_, results_ok hus, us, fr, fo, rfl, hr.keeps, ressR_wide hw hres, outsR_wide hw hout, ?_, fun b hb => ?_⟩
          · refine List.nodup_append.2 ⟨hn1, hn2, fun b hb d hd e => ?_⟩
            subst e
            obtain ⟨k, hk, _, hkb⟩ := hg2 b hd
            exact (hg1 b hb).not hr (Sub.refl _) hk hs1 hkb
          · obtain ⟨k, hk, _, hkb⟩ := hgg b hb
            exact hr.own k hk b hkb
    · cases hk
  cases e with
  | normal => exact hex hk
  | exit i => cases hk
  | ret => exact hex hk
end
end Go.Refl
