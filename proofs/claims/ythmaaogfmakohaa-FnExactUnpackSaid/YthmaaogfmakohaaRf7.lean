/- The evaluator is right: addresses, loads. No program in sight. No condition. -/
import Derived.Test.YthmaaogfmakohaaRf6
namespace Go.Refl
open Go.RowKit
set_option linter.unusedVariables false
set_option linter.unusedSimpArgs false

section
variable {cx : Cx} {A : AS} {a : Act} {w : World} {m : Mp} {P : Program}
theorem RelW.clear (h : RelW cx A a w m) : RelW cx A a w { m with x0 := fun b => ¬ cx.rp b, x1 := fun _ => False } := by
  have h0 : ∀ b, R0of A m b → b < w.heap.size → w.heap[b]? = w.heap[b]? ∧ R0of A { m with x0 := fun b => ¬ cx.rp b, x1 := fun _ => False } b := fun b hR _ => ⟨rfl, fun hx => hR.1 (h.rp b hx), hR.2⟩
  have h1 : ∀ b, R1of A m b → b < w.heap.size → w.heap[b]? = w.heap[b]? ∧ R1of A { m with x0 := fun b => ¬ cx.rp b, x1 := fun _ => False } b := fun b hR _ => ⟨rfl, id, hR.2⟩
  exact ⟨fun i av hi => ⟨(h.fr i av hi).1, (h.fr i av hi).2.mono h0 (fun _ => h1) fun _ _ _ _ => rfl⟩,
    fun k o hk => (h.hp k o hk).mono h0 h1 (fun _ _ => rfl) rfl fun _ _ _ _ _ _ => rfl, h.nd, h.dj, h.lt, h.own, h.keeps, h.pins, h.defers, fun _ h => h, h.rpo⟩

theorem roC_ok {w : World} {R0 R1 : Nat → Prop} {μ : Nat → Value} {p : Bool} : ∀ {t : Ty} {x : t.D} {cs : List Value}, Ro (pick R0 R1 p) w t x cs → All2 (VC w R0 R1 μ) (roC p t x) cs
  | .int k, x, cs, h => by obtain ⟨rfl, hi⟩ := h; exact ⟨_, [], rfl, VC.mkInt _ _ _ _ _ hi, rfl⟩
  | .bool, x, cs, h => by
    have h' : cs = [.bool x] := h
    subst h'; exact ⟨_, [], rfl, VC.mkBool _ _ _ _ _ _, rfl⟩
  | .str, x, cs, h => by obtain ⟨s, rfl, hx, hs⟩ := h; exact ⟨_, [], rfl, ⟨rfl, s, rfl, hx, hs⟩, rfl⟩
  | .sl e t, x, cs, h => by
    obtain ⟨a, cap, vs, hc, h1⟩ := h
    subst hc
    exact ⟨_, [], rfl, ⟨rfl, a, cap, vs, rfl, h1⟩, rfl⟩
  | .unit, x, cs, h => h
  | .pair a b, x, cs, h => by
    obtain ⟨c1, c2, rfl, h1, h2⟩ := h
    exact (roC_ok h1).app (roC_ok h2)
theorem roC_len (p : Bool) : ∀ (t : Ty) (x : t.D), (roC p t x).length = t.cells
  | .int _, _ => rfl
  | .bool, _ => rfl
  | .str, _ => rfl
  | .sl _ _, _ => rfl
  | .unit, _ => rfl
  | .pair a b, x => by simp only [roC, List.length_append, roC_len, Ty.cells]
/-- A value of whatever type, loaded. -/
theorem run_loadVar {tt : TT} {t : TypeId} {T : Ty} {by_ : Nat} (hT : TFit P tt t T by_) (w : World) (ad : Addr) (vs : List Value) (hl : vs.length = T.cells) (hc : ∀ j u, vs[j]? = some u → w.cell? (ad.add j) = some u) :
    (loadVar t ad).run P w = .ok (shapeV T vs) w := by
  have ha := hT.agg w
  have hs := hT.size w
  unfold loadVar
  by_cases h1 : T.one = true
  · have hT1 : T.cells = 1 := by cases T <;> simp_all [Ty.one, Ty.cells]
    match vs, (hl.trans hT1) with
    | [v], _ =>
      have := hc 0 v rfl
      rw [show ad.add 0 = ad from rfl] at this
      simp [ha, h1, shapeV, run_load, this]
  · have h1' : T.one = false := by simpa using h1
    have := run_loadCells_list (P := P) w ad vs hc
    rw [hl] at this
    simp [ha, hs, h1', shapeV, this]
theorem OwnL.get {α : Type} {own : α → List Value → List Nat → Prop} {sz : Nat} (hl : ∀ x c f, own x c f → c.length = sz) : ∀ {xs : List α} {cs : List Value} {fp : List Nat} (i : Nat) (x : α), xs[i]? = some x → OwnL own xs cs fp →
    ∃ f, own x ((cs.drop (i * sz)).take sz) f ∧ ∀ b ∈ f, b ∈ fp
  | [], cs, fp, i, x, h, _ => by simp at h
  | y :: xs, cs, fp, 0, x, h, ⟨c1, c2, f1, f2, hc, hf, h1, h2⟩ => by
    subst hc hf
    simp at h; subst h
    refine ⟨f1, ?_, fun b hb => List.mem_append.2 (.inl hb)⟩
    have := hl _ _ _ h1
    rw [Nat.zero_mul, List.drop_zero, List.take_append_of_le_length (by omega), List.take_of_length_le (by omega)]
    exact h1
  | y :: xs, cs, fp, i + 1, x, h, ⟨c1, c2, f1, f2, hc, hf, h1, h2⟩ => by
    subst hc hf
    obtain ⟨f, ho, hs⟩ := h2.get hl i x (by simpa using h)
    refine ⟨f, ?_, fun b hb => List.mem_append.2 (.inr (hs b hb))⟩
    have := hl _ _ _ h1
    rw [show (i + 1) * sz = c1.length + i * sz by rw [Nat.add_mul]; omega, List.drop_append]
    rw [show c1.drop (c1.length + i * sz) = [] from List.drop_of_length_le (by omega), List.nil_append]
    rw [show c1.length + i * sz - c1.length = i * sz by omega]
    exact ho
theorem RoL.get {α : Type} {ro : α → List Value → Prop} {sz : Nat} (hl : ∀ x c, ro x c → c.length = sz) : ∀ {xs : List α} {cs : List Value} (i : Nat) (x : α), xs[i]? = some x → RoL ro xs cs → ro x ((cs.drop (i * sz)).take sz)
  | [], cs, i, x, h, _ => by simp at h
  | y :: xs, cs, 0, x, h, ⟨c1, c2, hc, h1, h2⟩ => by
    subst hc
    simp at h; subst h
    have := hl _ _ h1
    rw [Nat.zero_mul, List.drop_zero, List.take_append_of_le_length (by omega), List.take_of_length_le (by omega)]
    exact h1
  | y :: xs, cs, i + 1, x, h, ⟨c1, c2, hc, h1, h2⟩ => by
    subst hc
    have ho := h2.get hl i x (by simpa using h)
    have := hl _ _ h1
    rw [show (i + 1) * sz = c1.length + i * sz by rw [Nat.add_mul]; omega, List.drop_append]
    rw [show c1.drop (c1.length + i * sz) = [] from List.drop_of_length_le (by omega), List.nil_append]
    rw [show c1.length + i * sz - c1.length = i * sz by omega]
    exact ho
theorem getD_some {α : Type} {xs : List α} {i : Nat} {d : α} (h : i < xs.length) : xs[i]? = some (xs.getD i d) := by
  simp [List.getD, List.getElem?_eq_getElem h]
theorem add_plain' (g o j : Nat) : (⟨g, o, none⟩ : Addr).add j = ⟨g, o + j, none⟩ := by
  unfold Addr.add; split <;> simp_all
/-- The cells of element i. -/
theorem elem_own (h : RelW cx A a w m) (hx : ∀ b, ¬ m.x1 b) {k : Nat} {e : TypeId} {t : Ty} {xs : List t.D} (hk : get A.hp k = some (.arr e t xs)) {i : Nat} (hi : i < xs.length) {ad : Addr} {n c : Nat} (hμ : m.μ k = .slice (some ad) n c) :
    ∃ vs, vs.length = t.cells ∧ (∀ j u, vs[j]? = some u → w.cell? ((ad.add (i * t.cells)).add j) = some u) ∧ Ro (R1of A m) w t (xs.getD i t.zero) vs := by
  obtain ⟨vs, hh, ho⟩ := h.hp k _ hk
  obtain ⟨f, hf, hfs⟩ := ho.get (fun _ _ _ h => h.length) i _ (getD_some (d := t.zero) hi)
  obtain ⟨a', c', hs, h1, h2, h3, h4⟩ := hh.cells (R := fun _ => True) (fun _ _ => trivial)
  rw [hμ] at hs; simp at hs
  obtain ⟨rfl, rfl, rfl⟩ := hs
  refine ⟨_, hf.length, fun j u hj => ?_, hf.ro fun b hb => ⟨hx b, fun j hj hm => ?_⟩⟩
  · rw [add_add']
    rw [List.getElem?_take] at hj
    split at hj
    · rw [List.getElem?_drop] at hj
      rcases h4 with rfl | ⟨ad', he, _, hc⟩
      · simp at hj
      · cases he; exact hc _ u hj
    · cases hj
  · have hlk : live A k := by simp [live, hk]
    have hbk : b ∈ m.F k := List.mem_append.2 (.inr (hfs b hb))
    by_cases hjk : j = k
    · subst hjk
      have := h.nd j hlk
      unfold Mp.F at this
      exact (List.nodup_append.1 this).2.2 b hm b (hfs b hb) rfl
    · exact h.dj j k hj hlk hjk b (List.mem_append.2 (.inl hm)) hbk
theorem loadA_ok {tt : TT} {t : TypeId} {T : Ty} {by_ : Nat} (hT : TFit P tt t T by_) (h : RelW cx A a w m) (hx : ∀ b, ¬ m.x1 b) {c : AC} {vc : Value} (hc : VC w (R0of A m) (R1of A m) m.μ c vc) {v : A1} (hl : loadA A T c = some v) :
    ∃ u, RunB P w (Instr.loadAt t vc) u ∧ V1 w (R0of A m) (R1of A m) m.μ v u := by
  unfold loadA at hl
  split at hl
  · rename_i k off
    obtain ⟨g, hμ, rfl⟩ := hc
    split at hl
    · rename_i cs hk
      split at hl
      · rename_i hlen
        simp at hl; subst hl
        obtain ⟨g', c, T', hg, hb, ha, _⟩ := h.hp k _ hk
        rw [hμ] at hg; simp at hg; subst hg
        have hcl := ha.length
        have ha' := (ha.drop off).take T.cells
        have hvl : ((c.toList.drop off).take T.cells).length = T.cells := by
          simp only [List.length_take, List.length_drop]; omega
        refine ⟨_, ?_, V1.shape ha' (by simp only [List.length_take, List.length_drop]; omega)⟩
        intro w' hw'
        have := run_loadVar hT w' ⟨g, off, none⟩ ((c.toList.drop off).take T.cells) hvl (fun j u hj => below_cell hw' ?_)
        · simp [Instr.loadAt, Instr.sureAddr, this]
        · rw [add_plain', cell_of_row w g _ c T' (0, 0) hb]
          rw [List.getElem?_take] at hj
          split at hj
          · simpa using hj
          · cases hj
      · cases hl
    · cases hl
  · rename_i k sz i
    obtain ⟨ad, n, c, hμ, h0, h1, rfl⟩ := hc
    split at hl
    · rename_i e t' xs hk
      split at hl
      · rename_i hh
        obtain ⟨rfl, rfl⟩ := hh
        simp at hl; subst hl
        have hn : n = xs.length := by
          obtain ⟨vs, hh, _⟩ := h.hp k _ hk
          obtain ⟨a', c', hs', _⟩ := hh.slice
          rw [hμ] at hs'; simp at hs'; exact hs'.2.1
        obtain ⟨vs, hl, hcell, hro⟩ := elem_own h hx hk (i := i.toNat) (by omega) hμ
        have := fun w' (hw' : Below w.heap.size w w') => run_loadVar hT w' (ad.add (i.toNat * t'.cells)) vs hl fun j u hj => below_cell hw' (hcell j u hj)
        refine ⟨_, fun w' hw' => by simp [Instr.loadAt, Instr.sureAddr, this w' hw'], V1.shape (roC_ok (p := false) hro) (roC_len _ _ _)⟩
      · cases hl
    · cases hl
  · rename_i p t' x
    obtain ⟨ad, vs, rfl, hat, hro⟩ := hc
    split at hl
    · rename_i hh
      subst hh
      simp at hl; subst hl
      have hlen := hro.length
      rcases hat with rfl | ⟨ad', he, _, hcell⟩
      · exact absurd hlen.symm hT.pos
      · cases he
        have := fun w' (hw' : Below w.heap.size w w') => run_loadVar hT w' ad vs hlen fun j u hj => below_cell hw' (hcell j u hj)
        exact ⟨_, fun w' hw' => by simp [Instr.loadAt, Instr.sureAddr, this w' hw'], V1.shape (roC_ok hro) (roC_len _ _ _)⟩
    · cases hl
  · cases hl
/-- A field: its place. -/
theorem field_at {tt : TT} : ∀ {fs : List Field} {T : Ty} {base f o : Nat} {ft : Ty}, FieldsFit tt fs T base → nthF T f = some (o, ft) →
    ∃ fd, fs[f]? = some fd ∧ fd.offset = base + o ∧ (∃ by_, get tt fd.type = some (ft, by_)) ∧ ft.cells ≠ 0 ∧ o + ft.cells ≤ T.cells
  | [], .unit, _, f, _, _, _, h => by cases f <;> simp [nthF] at h
  | fd :: fs, .pair ta tb, base, 0, o, ft, ⟨h1, h2, h3, h4⟩, h => by
    simp [nthF] at h
    obtain ⟨rfl, rfl⟩ := h
    exact ⟨fd, rfl, h1, h2, h3, by simp [Ty.cells]⟩
  | fd :: fs, .pair ta tb, base, f + 1, o, ft, ⟨h1, h2, h3, h4⟩, h => by
    simp only [nthF] at h
    cases hn : nthF tb f with
    | none => rw [hn] at h; cases h
    | some p =>
      obtain ⟨o', t'⟩ := p
      rw [hn] at h
      simp at h
      obtain ⟨rfl, rfl⟩ := h
      obtain ⟨fd', hf, ho, hb, hc, hle⟩ := field_at h4 hn
      exact ⟨fd', by simpa using hf, by rw [ho]; omega, hb, hc, by simp only [Ty.cells]; omega⟩
  | [], .int _, _, _, _, _, h, _ => by cases h
  | [], .bool, _, _, _, _, h, _ => by cases h
  | [], .str, _, _, _, _, h, _ => by cases h
  | [], .sl _ _, _, _, _, _, h, _ => by cases h
  | [], .pair _ _, _, _, _, _, h, _ => by cases h
  | _ :: _, .int _, _, _, _, _, h, _ => by cases h
  | _ :: _, .bool, _, _, _, _, h, _ => by cases h
  | _ :: _, .str, _, _, _, _, h, _ => by cases h
  | _ :: _, .sl _ _, _, _, _, _, h, _ => by cases h
  | _ :: _, .unit, _, _, _, _, h, _ => by cases h
theorem run_fieldAt {E : Env} (hE : EnvOk P E) {t : TypeId} {T : Ty} (ht : tyOf E.tt t = some T) {f o : Nat} {ft : Ty} (hf : nthF T f = some (o, ft)) (w : World) (ad : Addr) :
    (Instr.fieldAt t (.pointer (some ad)) f).run P w = .ok (.pointer (some (ad.add o))) w := by
  obtain ⟨b, hT⟩ := hE.fit ht
  have hu := hT.und
  cases T with
  | pair ta tb =>
    obtain ⟨fs, hfs, hff⟩ := hu
    obtain ⟨fd, hfd, ho, ⟨by_, hb⟩, hc, _⟩ := field_at hff hf
    have hsz := (hE.ty _ _ _ hb).size w
    have hfd' : fs[f]? = some fd := by simpa using hfd
    simp [Instr.fieldAt, run_underlying hfs, hfd', Instr.sureAddr, fieldPlace, hsz, hc, ho]
  | _ => cases f <;> simp [nthF] at hf
theorem proj_ok {tt : TT} {R : Nat → Prop} {w : World} : ∀ {fs : List Field} {T : Ty} {base : Nat} {x : T.D} {f : Nat} {ft : Ty} {y : ft.D} {cs : List Value}, FieldsFit tt fs T base → projF T x f = some ⟨ft, y⟩ → Ro R w T x cs →
    ∃ o, nthF T f = some (o, ft) ∧ Ro R w ft y ((cs.drop o).take ft.cells)
  | fd :: fs, .pair ta tb, base, x, 0, ft, y, cs, ⟨h1, h2, h3, h4⟩, h, ⟨c1, c2, hc, r1, r2⟩ => by
    subst hc
    simp only [projF, Option.some.injEq, Sigma.mk.injEq] at h
    obtain ⟨rfl, h⟩ := h
    cases h
    have := r1.length
    refine ⟨0, rfl, ?_⟩
    rw [List.drop_zero, List.take_append_of_le_length (by omega), List.take_of_length_le (by omega)]
    exact r1
  | fd :: fs, .pair ta tb, base, x, f + 1, ft, y, cs, ⟨h1, h2, h3, h4⟩, h, ⟨c1, c2, hc, r1, r2⟩ => by
    subst hc
    obtain ⟨o, ho, hr⟩ := proj_ok h4 (show projF tb x.2 f = some ⟨ft, y⟩ from h) r2
    have := r1.length
    refine ⟨o + ta.cells, by simp [nthF, ho], ?_⟩
    rw [← this, Nat.add_comm o, List.drop_append, show c1.drop (c1.length + o) = [] from List.drop_of_length_le (by omega), List.nil_append]
    rw [show c1.length + o - c1.length = o by omega]
    exact hr
  | [], .unit, _, _, f, _, _, _, _, h, _ => by cases f <;> simp [projF] at h
  | [], .int _, _, _, _, _, _, _, h, _, _ => by cases h
  | [], .bool, _, _, _, _, _, _, h, _, _ => by cases h
  | [], .str, _, _, _, _, _, _, h, _, _ => by cases h
  | [], .sl _ _, _, _, _, _, _, _, h, _, _ => by cases h
  | [], .pair _ _, _, _, _, _, _, _, h, _, _ => by cases h
  | _ :: _, .int _, _, _, _, _, _, _, h, _, _ => by cases h
  | _ :: _, .bool, _, _, _, _, _, _, h, _, _ => by cases h
  | _ :: _, .str, _, _, _, _, _, _, h, _, _ => by cases h
  | _ :: _, .sl _ _, _, _, _, _, _, _, h, _, _ => by cases h
  | _ :: _, .unit, _, _, _, _, _, _, h, _, _ => by cases h
theorem ck2 {R : Type} {x y : Bool} {a : Option R} {r : R} (h : ck (x && y) a = some r) : x = true ∧ y = true ∧ a = some r := by
  obtain ⟨h1, h2⟩ := ck_some h
  rw [Bool.and_eq_true] at h1
  exact ⟨h1.1, h1.2, h2⟩
theorem run_indexAt {t e : TypeId} (ht : P.underlying t = some (.slice e)) (w : World) (sz : Nat) (hs : (sizeOf e).run P w = .ok sz w) (ad : Addr) (n c : Nat) (k : IntKind) (i : Int) (h0 : 0 ≤ i) (h1 : i < n) :
    (Instr.indexAt t (.slice (some ad) n c) (.int k i)).run P w = .ok (.pointer (some (ad.add (i.toNat * sz)))) w := by
  simp [Instr.indexAt, asIntOf, run_underlying ht, h0, h1, hs]
theorem intC_ok {c : AC} {k : IntKind} {i : Int} {v : Value} {R0 R1 : Nat → Prop} {μ : Nat → Value} (h : intC c = some (k, i)) (hc : VC w R0 R1 μ c v) : v = .int k i ∧ inR k i := by
  unfold intC at h
  split at h
  · simp at h; obtain ⟨rfl, rfl⟩ := h; exact hc.int
  · cases h
theorem idxA_ok {R : Type} {E : Env} (hE : EnvOk P E) {t e : TypeId} {T : Ty} {by_ : Nat} (ht : P.underlying t = some (.slice e)) (hT : TFit P E.tt e T by_) (h : RelW cx A a w m) {c : AC} {vc : Value} (hc : VC w (R0of A m) (R1of A m) m.μ c vc) {k : IntKind} {i : Int} {K : AC → Option R} {r : R}
    (hi : idxA A e T c i K = some r) : ∃ c' v, RunB P w (Instr.indexAt t vc (.int k i)) v ∧ VC w (R0of A m) (R1of A m) m.μ c' v ∧ K c' = some r := by
  unfold idxA at hi
  split at hi
  · rename_i p e' t' xs
    split at hi
    · rename_i he
      obtain ⟨rfl, rfl⟩ := he
      obtain ⟨h0, h1, hK⟩ := ck2 hi
      have h0 := of_decide_eq_true h0
      have h1 := of_decide_eq_true h1
      obtain ⟨_, a', cap, vs, hv, h2, h3, h4, h5, h6⟩ := hc
      simp at hv; subst hv
      have hlt : i.toNat < xs.length := by omega
      have hro := h6.get (fun _ _ h => h.length) i.toNat _ (getD_some (d := t'.zero) hlt)
      have hpos := hT.pos
      have hvl := h6.length fun _ _ h => h.length
      rcases h5 with rfl | ⟨ad, rfl, hR, hcell⟩
      · exfalso
        have := hro.length
        simp at this
        exact hpos this.symm
      · refine ⟨_, _, fun w' _ => run_indexAt ht w' _ (hT.size w') ad _ _ k i h0 (by omega), ?_, hK⟩
        refine ⟨_, _, rfl, .inr ⟨_, rfl, by rw [add_block]; exact hR, fun j u hj => ?_⟩, hro⟩
        rw [add_add']
        rw [List.getElem?_take] at hj
        split at hj
        · exact hcell _ u (by simpa using hj)
        · cases hj
    · cases hi
  · rename_i k'
    split at hi
    · rename_i e' t' xs hk
      split at hi
      · rename_i he
        obtain ⟨rfl, rfl⟩ := he
        obtain ⟨h0, h1, hK⟩ := ck2 hi
        have h0 := of_decide_eq_true h0
        have h1 := of_decide_eq_true h1
        obtain ⟨rfl, a', n, c, hμ⟩ := hc
        obtain ⟨vs, hh, ho⟩ := h.hp k' _ hk
        have hlt : 0 < xs.length := by omega
        rcases hh with ⟨a'', hh, hn, _⟩ | ⟨g, cap, cur, hh, h2⟩
        · omega
        · rw [hh]
          exact ⟨.eptr k' t'.cells i, _, fun w' _ => run_indexAt ht w' _ (hT.size w') _ _ _ k i h0 h1, ⟨_, _, _, hh, h0, h1, rfl⟩, hK⟩
      · cases hi
    · cases hi
  · rename_i k' sz lo hi'
    split at hi
    · rename_i e' t' xs hk
      split at hi
      · rename_i he
        obtain ⟨rfl, rfl, rfl⟩ := he
        obtain ⟨h0, h1, hK⟩ := ck2 hi
        have h0 := of_decide_eq_true h0
        have h1 := of_decide_eq_true h1
        obtain ⟨ad, n, c, hμ, h2, h3, h4, h5, h5', rfl⟩ := hc
        obtain ⟨vs, hh, ho⟩ := h.hp k' _ hk
        rcases hh with ⟨a'', hh, hn, _⟩ | ⟨g, cap, cur, hh, h6⟩
        · rw [hμ] at hh; simp at hh; omega
        · rw [hμ] at hh
          simp at hh
          obtain ⟨rfl, rfl, rfl⟩ := hh
          have hne : ¬ c = lo.toNat := by omega
          simp only [if_neg hne, Option.map_some]
          refine ⟨.eptr k' t'.cells (lo + i), _, fun w' _ => run_indexAt ht w' _ (hT.size w') _ _ _ k i h0 (by omega), ⟨_, _, _, hμ, by omega, by omega, ?_⟩, hK⟩
          rw [add_add', ← Nat.add_mul]
          congr 4
          omega
      · cases hi
    · cases hi
  · cases hi
/-- A part of a slice. -/
theorem run_sliceAt {t e : TypeId} (ht : P.underlying t = some (.slice e)) (w : World) (sz : Nat) (hs : (sizeOf e).run P w = .ok sz w) (ad : Option Addr) (n c : Nat) (lo hi : Option Value) (l h : Nat)
    (hlo : (lo = none ∧ l = 0) ∨ ∃ k, lo = some (.int k (l : Int))) (hhi : (hi = none ∧ h = n) ∨ ∃ k, hi = some (.int k (h : Int))) (h1 : l ≤ h) (h2 : h ≤ n) (h3 : n ≤ c) :
    (Instr.sliceAt t (.slice ad n c) lo hi none).run P w = .ok (.slice (if c = l then ad else ad.map (·.add (l * sz))) (h - l) (c - l)) w := by
  have e1 : ∀ (k : IntKind) (i y : Nat) (code : BoundsCode), i ≤ y → (Instr.sliceBound (.int k (i : Int)) y code).run P w = .ok i w := fun k i y code hy => by
    simp [Instr.sliceBound, asIntOf, hy]
  rcases hlo with ⟨rfl, rfl⟩ | ⟨kl, rfl⟩ <;> rcases hhi with ⟨rfl, rfl⟩ | ⟨kh, rfl⟩ <;>
    simp [Instr.sliceAt, Instr.slice, Instr.sliceBounds, run_underlying ht, hs, e1 _ _ _ _ h1, e1 _ _ _ _ (Nat.le_trans h2 h3)]
theorem optInt_ok (h : RelW cx A a w m) {o : Option Operand} {x : Option Int} (ho : optInt A o = some x) : (o.map a.eval = none ∧ x = none) ∨ ∃ k i, o.map a.eval = some (.int k i) ∧ x = some i := by
  unfold optInt at ho
  split at ho
  · simp at ho; exact .inl ⟨rfl, ho.symm⟩
  · rename_i op
    split at ho
    · rename_i k i hi
      simp at ho
      obtain ⟨hv, _⟩ := intC_ok hi (opdC_ok h op)
      exact .inr ⟨k, i, by simp [hv], ho.symm⟩
    · cases ho
theorem bound_cases {o : Option Value} {x : Option Int} {d : Int} {n : Nat} (h : (o = none ∧ x = none) ∨ ∃ k i, o = some (.int k i) ∧ x = some i) (h0 : 0 ≤ x.getD d) (hd : d = n) : (o = none ∧ (x.getD d).toNat = n) ∨ ∃ k, o = some (.int k (((x.getD d).toNat : Nat) : Int)) := by
  rcases h with ⟨rfl, rfl⟩ | ⟨k, i, rfl, rfl⟩
  · left; simp [hd]
  · right; refine ⟨k, ?_⟩
    simp only [Option.getD_some] at h0 ⊢
    rw [Int.toNat_of_nonneg h0]
theorem sliceA_ok {R : Type} {E : Env} {t e : TypeId} {T : Ty} {by_ : Nat} (ht : P.underlying t = some (.slice e)) (hT : TFit P E.tt e T by_) (h : RelW cx A a w m) {c : AC} {vc : Value} (hc : VC w (R0of A m) (R1of A m) m.μ c vc)
    {lo hi : Option Value} {l h' : Option Int} (hl : (lo = none ∧ l = none) ∨ ∃ k i, lo = some (.int k i) ∧ l = some i) (hh : (hi = none ∧ h' = none) ∨ ∃ k i, hi = some (.int k i) ∧ h' = some i) {K : AC → Option R} {r : R}
    (hs : sliceA A e T c l h' K = some r) : ∃ c' v, RunB P w (Instr.sliceAt t vc lo hi none) v ∧ VC w (R0of A m) (R1of A m) m.μ c' v ∧ K c' = some r := by
  unfold sliceA at hs
  split at hs
  · rename_i p e' t' xs
    split at hs
    · rename_i he
      obtain ⟨rfl, rfl⟩ := he
      obtain ⟨h12, h3, hK⟩ := ck2 hs
      rw [Bool.and_eq_true] at h12
      have h1 := of_decide_eq_true h12.1
      have h2 := of_decide_eq_true h12.2
      have h3 := of_decide_eq_true h3
      obtain ⟨a', c', hv, h4, h5⟩ := hc.sl_slice
      subst hv
      refine ⟨_, _, fun w' _ => run_sliceAt ht w' _ (hT.size w') a' _ c' lo hi (l.getD 0).toNat (h'.getD xs.length).toNat (bound_cases hl h1 rfl) (bound_cases hh (by omega) rfl) (by omega) (by omega) h4, ?_, hK⟩
      exact ⟨rfl, hc.2.part _ _ (by omega) (by omega)⟩
    · cases hs
  · rename_i k
    split at hs
    · rename_i e' t' xs hk
      split at hs
      · rename_i he
        obtain ⟨rfl, rfl⟩ := he
        obtain ⟨h12, h3, hK⟩ := ck2 hs
        rw [Bool.and_eq_true] at h12
        have h1 := of_decide_eq_true h12.1
        have h2 := of_decide_eq_true h12.2
        have h3 := of_decide_eq_true h3
        obtain ⟨rfl, _⟩ := hc
        obtain ⟨vs, hh', _⟩ := h.hp k _ hk
        obtain ⟨a', c', hv, h4, h5⟩ := hh'.slice
        rw [hv]
        refine ⟨.sub k t'.cells (l.getD 0) (h'.getD xs.length), _, fun w' _ => run_sliceAt ht w' _ (hT.size w') a' _ c' lo hi (l.getD 0).toNat (h'.getD xs.length).toNat (bound_cases hl h1 rfl) (bound_cases hh (by omega) rfl) (by omega) (by omega) h4, ?_, hK⟩
        exact ⟨a', _, c', hv, h1, h2, h3, h4, h5, rfl⟩
      · cases hs
    · cases hs
  · obtain ⟨h1, h2, hK⟩ := ck2 hs
    have h1 := of_decide_eq_true h1
    have h2 := of_decide_eq_true h2
    have hv : vc = .slice none 0 0 := hc
    subst hv
    refine ⟨.nil, _, fun w' _ => run_sliceAt ht w' _ (hT.size w') none 0 0 lo hi (l.getD 0).toNat (h'.getD 0).toNat (bound_cases hl (by omega) rfl) (bound_cases hh (by omega) rfl) (by omega) (by omega) (Nat.le_refl _), ?_, hK⟩
    simp [VC, h1, h2]
  · cases hs
theorem lenC_ok {E : Env} {t : TypeId} {T : Ty} {by_ : Nat} (hT : TFit P E.tt t T by_) (h : RelW cx A a w m) {c : AC} {vc : Value} (hc : VC w (R0of A m) (R1of A m) m.μ c vc) {n : Int} (hl : lenC A.hp T c = some n) (ty : TypeId) :
    RunB P w (Builtin.len_ #[t] ty #[vc]) (.int .i64 n) ∧ inR .i64 n := by
  have hsl : T.isSl = true → ∃ e, P.underlying t = some (.slice e) := fun hs => by
    have hu := hT.und
    cases T <;> simp [Ty.isSl] at hs
    exact ⟨_, hu.1⟩
  have hr : ∀ k : Nat, k ≤ maxLen → inR .i64 (k : Int) := fun k hk => by
    simp only [maxLen] at hk
    simp only [inR, IntKind.min, IntKind.max, IntKind.signed, IntKind.bits]
    simp; omega
  have key : ∀ (ad : Option Addr) (k c : Nat), T.isSl = true → k ≤ maxLen → RunB P w (Builtin.len_ #[t] ty #[.slice ad k c]) (.int .i64 k) ∧ inR .i64 (k : Int) := fun ad k c hs hk => by
    obtain ⟨e, he⟩ := hsl hs
    exact ⟨fun w' _ => by simp [Builtin.len_, run_underlying he, goInt], hr k hk⟩
  have hb : big47 ≤ maxLen := by simp [big47, maxLen]
  unfold lenC at hl
  split at hl
  · split at hl
    · rename_i hs
      simp at hl; subst hl
      obtain ⟨a', c', rfl, h1, h2⟩ := hc.sl_slice
      exact key a' _ c' hs (by omega)
    · cases hl
  · split at hl
    · rename_i hs
      simp at hl; subst hl
      obtain ⟨s, rfl, rfl, h2⟩ := hc.str
      subst hs
      rw [bytesOf_length]
      exact ⟨fun w' _ => by simp [Builtin.len_, run_underlying (show P.underlying t = some .string from hT.und), goInt], hr _ (by omega)⟩
    · cases hl
  · split at hl
    · rename_i hs
      split at hl
      · rename_i e t' xs hk
        simp at hl; subst hl
        obtain ⟨rfl, _⟩ := hc
        obtain ⟨vs, hh', _⟩ := h.hp _ _ hk
        obtain ⟨a', c', hv, h4, h5⟩ := hh'.slice
        rw [hv]
        exact key a' _ c' hs (by have := hh'.le; omega)
      · cases hl
    · cases hl
  · split at hl
    · rename_i hs
      rename_i lo hi
      simp at hl; subst hl
      obtain ⟨ad, n, c, hμ, h2, h3, h4, h5, h5', rfl⟩ := hc
      have e1 : hi - lo = ((hi.toNat - lo.toNat : Nat) : Int) := by omega
      rw [e1]
      exact key _ _ _ hs (by omega)
    · cases hl
  · split at hl
    · rename_i hs
      simp at hl; subst hl
      have hv : vc = .slice none 0 0 := hc
      subst hv
      exact key none 0 0 hs (Nat.zero_le _)
    · cases hl
  · cases hl
end
end Go.Refl
