/- The evaluator is right: slices written out, appends as the text has them, stores, conversions. No program in sight. No condition. -/
import Derived.Test.YthmaaogfmakohaaRfA
namespace Go.Refl
open Go.RowKit
set_option linter.unusedVariables false
set_option linter.unusedSimpArgs false

section
variable {cx : Cx} {A : AS} {a : Act} {w : World} {m : Mp} {P : Program}
def X0 (m : Mp) : Prop := ∀ b, ¬ m.x1 b
/-- What follows an operation: the state behind it. -/
def Nxt {R : Type} (cx : Cx) (n : Nat) (K : AS → Option R) (r : R) (next : Act → World → Prop) : Prop :=
  ∀ A a w, K A = some r → Rel cx A a w → a.tmps.size = n → next a w
theorem appA_ok {R : Type} {E : Env} (hE : EnvOk P E) {d : Nat} (hd : d < a.tmps.size) (h : RelW cx A a w m) (hx : X0 m) (hpin : ∀ u, (tokOf d 0, u) ∉ cx.pins) {t : TypeId} {s x : AC} {vs vx : Value} (hcs : VC w (R0of A m) (R1of A m) m.μ s vs) (hcx : VC w (R0of A m) (R1of A m) m.μ x vx)
    {K : AS → Option R} {r : R} (ha : appA E A d t s x K = some r) (ty : TypeId) : ∃ A' v w', (Builtin.append_ #[t, t] ty #[vs, vx]).run P w = .ok v w' ∧ K A' = some r ∧ Rel cx A' (a.put (some d) v) w' := by
  unfold appA at ha
  split at ha
  · rename_i e T b0 hty
    split at ha
    · rename_i T' by_ hte
      split at ha
      · rename_i hb
        obtain ⟨rfl, hby⟩ := hb
        have hu := (hE.ty _ _ _ hty).und
        have hT := hE.ty _ _ _ hte
        have fin : ∀ {xs ys : List T'.D} {hp'' : Hp} {v' : Value} {w' : World} {m' : Mp}, RelW cx (newTok ⟨A.fr, hp''⟩ (tokOf d 0) (.arr e T' (xs ++ ys))) a w' m' → m'.μ (tokOf d 0) = v' → (∃ ad n c, v' = .slice ad n c) →
            Rel cx (put1 (newTok ⟨A.fr, hp''⟩ (tokOf d 0) (.arr e T' (xs ++ ys))) d (.own (tokOf d 0))) (a.put (some d) v') w' := fun h1 h2 h3 => ⟨_, h1.put d hd _ _ ⟨h2.symm, h3⟩⟩
        split at ha
        · split at ha
          · rename_i xs hp1 ht1
            split at ha
            · rename_i ys hp2 ht2
              obtain ⟨hk, ha⟩ := ck_some ha
              obtain ⟨vs1, f1, f2, hh, hxs, hn1, hs1, hg1, hf1, _⟩ := take1_ok h (Sub.refl _) hcs ht1
              obtain ⟨vs2, g1, g2, hh2, hys, hn2, hs2, hg2, hf2, _⟩ := take1_ok h hs1 hcx ht2
              obtain ⟨ax, c, rfl, _, _, _, hat⟩ := hh2.cells (R := fun _ => True) (fun _ _ => trivial)
              have hdis : ∀ b ∈ f1 ++ f2, b ∉ g1 ++ g2 := fun b hb hb2 => by
                obtain ⟨k, hk, _, hkb⟩ := hg2 b hb2
                exact (hg1 b hb).not h (Sub.refl _) hk hs1 hkb
              have hnd : (f1 ++ (f2 ++ g2)).Nodup := by
                rw [← List.append_assoc]
                exact List.nodup_append.2 ⟨hn1, (List.nodup_append.1 hn2).2.1, fun b hb d hd e => by subst e; exact hdis b hb (List.mem_append.2 (.inr hd))⟩
              have hgg : ∀ b ∈ f1 ++ (f2 ++ g2), Gone m A.hp hp2 b := fun b hb => by
                rw [← List.append_assoc] at hb
                rcases List.mem_append.1 hb with hb | hb
                · exact (hg1 b hb).left hs2
                · exact (hg2 b (List.mem_append.2 (.inr hb))).right hs1
              obtain ⟨v', w', m', h1, h2, h3, h4⟩ := append_core hu.1 hT hby h hx (hs2.trans hs1) hh hxs hys hnd hgg (fun b hb => by
                obtain ⟨k, h5, h6, h7⟩ := hf1 b hb
                refine ⟨k, h5, ?_, h7⟩
                cases hc : get hp2 k with
                | none => rfl
                | some o => rw [hs2 k o hc] at h6; cases h6) hat (of_decide_eq_true hk) (tokOf d 0) hpin ty (c := c)
              exact ⟨_, v', w', h1, ha, fin h2 h3 h4⟩
            · cases ha
          · cases ha
        · rename_i hns
          split at ha
          · rename_i ys hr1
            split at ha
            · rename_i xs hp1 ht1
              obtain ⟨hk, ha⟩ := ck_some ha
              obtain ⟨vs1, f1, f2, hh, hxs, hn1, hs1, hg1, hf1, _⟩ := take1_ok h (Sub.refl _) hcs ht1
              obtain ⟨v1, v2, hv12, hro, hr2, _⟩ := readC_ok h (fun _ => True) (.sl e T') A.hp [x] [vx] ys [] (Sub.refl _) ⟨vx, [], rfl, hcx, rfl⟩ ⟨fun _ _ => trivial, fun _ _ _ => trivial, fun _ _ _ _ _ => trivial⟩ hr1
              have hv2 : v2 = [] := hr2
              subst hv2
              rw [List.append_nil] at hv12
              subst hv12
              obtain ⟨ax, c, news, hvx, _, _, _, hat, hrl⟩ := hro
              simp at hvx
              subst hvx
              have hys := noSl_ownL (by simpa using hns) hrl
              obtain ⟨v', w', m', h1, h2, h3, h4⟩ := append_core hu.1 hT hby h hx hs1 hh hxs hys (by simpa using hn1) (by simpa using hg1) hf1 hat (of_decide_eq_true hk) (tokOf d 0) hpin ty (c := c)
              exact ⟨_, v', w', h1, ha, fin h2 h3 h4⟩
            · cases ha
          · cases ha
      · cases ha
    · cases ha
  · cases ha

/-! ### A slice written out -/
theorem frzParts_ok (h : RelW cx A a w m) {T : Ty} (h0 : T.cells ≠ 0) : ∀ (as : List A1) (hp : Hp) (vs : List Value) (xs : List T.D) (hp' : Hp), Sub hp A.hp → All2 (V1 w (R0of A m) (R1of A m) m.μ) as vs → frzParts T hp as = some (xs, hp') →
    RoL (Ro (FrzR A m hp hp') w T) xs (vs.flatMap fun v => v.cells.toList) ∧ (∀ v ∈ vs, v.cells.size = T.cells) ∧ xs.length = vs.length ∧ Sub hp' hp
  | [], hp, vs, xs, hp', hs, hv, ht => by
    simp [frzParts] at ht
    obtain ⟨rfl, rfl⟩ := ht
    have hv' : vs = [] := hv
    subst hv'
    exact ⟨rfl, by simp, rfl, Sub.refl _⟩
  | b :: as, hp, vs, xs, hp', hs, hv, ht => by
    obtain ⟨v, us, rfl, hb, hr⟩ := hv
    simp only [frzParts] at ht
    split at ht
    · rename_i x hp1 htk
      cases hq : frzParts T hp1 as with
      | none => rw [hq] at ht; cases ht
      | some q =>
        obtain ⟨ys, hp2⟩ := q
        rw [hq] at ht
        simp at ht
        obtain ⟨rfl, rfl⟩ := ht
        by_cases hnb : b = .one .bad
        · exfalso
          subst hnb
          exact frzC_bad hp T h0 htk
        · obtain ⟨v1, v2, hv12, ho, hr2, hs1⟩ := frzC_ok h T hp b.cs _ x [] hp1 hs (cs_ok hb hnb) htk
          have hv2 : v2 = [] := hr2
          subst hv2
          rw [List.append_nil] at hv12
          rw [← hv12] at ho
          obtain ⟨hw, hsz, hlen, hs2⟩ := frzParts_ok h h0 as hp1 us ys hp2 (hs1.trans hs) hr hq
          refine ⟨⟨_, _, by simp, ho.wide fun b hb => hb.imp id fun hg => hg.left hs2, hw.mono fun _ _ h => h.wide fun b hb => hb.imp id fun hg => hg.right hs1⟩, ?_, by simp [hlen], hs2.trans hs1⟩
          intro u hu
          rcases List.mem_cons.1 hu with rfl | hu
          · simpa using ho.length
          · exact hsz u hu
    · cases ht

theorem flat_len {n : Nat} : ∀ {vs : List Value}, (∀ v ∈ vs, v.cells.size = n) → (vs.flatMap fun v => v.cells.toList).length = vs.length * n
  | [], _ => by simp
  | v :: vs, h => by
    rw [List.flatMap_cons, List.length_append, flat_len (fun u hu => h u (by simp [hu])), List.length_cons, Nat.add_mul]
    have := h v (by simp)
    simp [this]; omega
/-- What the machine does there. -/
theorem run_build' {tt : TT} {t e : TypeId} {T : Ty} {by_ : Nat} (ht : P.underlying t = some (.slice e)) (hT : TFit P tt e T by_) (n : Nat) (hn : n * T.cells ≤ 16777216) (vs : List Value) (hl : vs.length = n) (hv : ∀ v ∈ vs, v.cells.size = T.cells) (w : World) (parts : Array (Nat × Value)) (hp : parts.toList = (vs.zipIdx 0).map fun (v, j) => (j, v)) :
    (Instr.buildSlice t n parts).run P w = .ok (.slice (some ⟨w.heap.size, 0, none⟩) n n) (w.alloc (.cells (vs.flatMap fun v => v.cells.toList).toArray e)) := by
  have hs := hT.size w
  have hz := hT.zero w
  have h1 : ¬ n * T.cells > 2 ^ 24 := by omega
  have key : ∀ zero : Array Value, Instr.fill (fun i => some (i * T.cells, T.cells)) ((Array.range (n * T.cells)).map (zero[· % zero.size]!)) parts.toList = some (vs.flatMap fun v => v.cells.toList).toArray := by
    intro zero
    rw [hp]
    obtain ⟨c, h2, h3⟩ := fill_all T.cells vs 0 ((Array.range (n * T.cells)).map (zero[· % zero.size]!)) hv (by simp [hl])
    rw [h2]
    simp at h3
    congr 1
    rw [← h3]
  by_cases h0 : n * T.cells = 0
  · have k0 := key #[]
    rw [h0] at k0
    simp only [Instr.buildSlice]
    simp [run_underlying ht, hs, h0]
    simp at k0
    simp [k0, newRow]
  · have k1 := key (shapeV T (zeroV T)).cells
    simp only [Instr.buildSlice]
    simp [run_underlying ht, hs, hz]
    rw [if_neg (by omega), if_neg h0, k1]
    simp [newRow]
theorem buildSlice_ok {R : Type} {E : Env} (hE : EnvOk P E) {d : Nat} (hd : d < a.tmps.size) (h : RelW cx A a w m) (hx : X0 m) (hpin : ∀ u, (tokOf d 0, u) ∉ cx.pins) {t e : TypeId} {T : Ty} {by_ : Nat} (ht : P.underlying t = some (.slice e)) (hT : TFit P E.tt e T by_)
    {n : Nat} {ps : Array (Nat × Operand)} (hnp : n = ps.size) (hn : n * T.cells ≤ 16777216) {as : List A1} (hp : partsIn A 0 ps.toList = some as) {K : AS → Option R} {r : R}
    (hk : (match takeParts T A.hp as with
          | some (xs, hp) => K (put1 (newTok ⟨A.fr, hp⟩ (tokOf d 0) (.arr e T xs)) d (.own (tokOf d 0)))
          | none => match frzParts T A.hp as with
            | some (xs, hp) => K (put1 ⟨A.fr, hp⟩ d (.d true (.sl e T) xs))
            | none => none) = some r) :
    ∃ A' v w', (Instr.buildSlice t n (ps.map fun (i, x) => (i, a.eval x))).run P w = .ok v w' ∧ K A' = some r ∧ Rel cx A' (a.put (some d) v) w' ∧ Below w.heap.size w w' := by
  obtain ⟨vs, h1, h2, h3⟩ := partsIn_ok h ps.toList 0 as hp
  have hpl : (ps.map fun (i, x) => (i, a.eval x)).toList = (vs.zipIdx 0).map fun (v, j) => (j, v) := by rw [← h1]; simp
  have hvl : vs.length = n := by rw [h2, hnp]; simp
  have hcm : n ≤ big47 := by
    have := Nat.le_mul_of_pos_right n (Nat.pos_of_ne_zero hT.pos)
    simp only [big47]; omega
  have hmx : big47 ≤ maxLen := by simp [big47, maxLen]
  split at hk
  · rename_i xs hp' htp
    obtain ⟨fp, hw, hsz, hlen, hs', hnd, hg⟩ := takeParts_ok h hT.pos as A.hp vs xs hp' (Sub.refl _) h3 htp
    have hr := run_build' ht hT n hn vs hvl hsz w _ hpl
    have hB : Below w.heap.size w (w.alloc (.cells (vs.flatMap fun v => v.cells.toList).toArray e)) := (Below.refl _ _).alloc (Nat.le_refl _) _
    have hfl := flat_len hsz
    obtain ⟨m', h4, h5⟩ := step_arr h hx hs' hB.size hB.os hB.tape hB.output (fun b hl => .inl (hB.block b hl)) (tokOf d 0) e T xs (.slice (some ⟨w.heap.size, 0, none⟩) n n) [w.heap.size] fp (vs.flatMap fun v => v.cells.toList)
      (.inr ⟨w.heap.size, n, _, by rw [hlen, hvl], heap_alloc_new w _, by rw [hlen, hvl]; exact Nat.le_refl _, by omega, by rw [hlen, hvl]; exact hcm, by simp [hfl, hvl], by rw [hlen, List.take_of_length_le (by simp [hfl])], rfl⟩)
      (hw.mono fun x c f hf ho => ho.mono fun b hb => hB.block b (by obtain ⟨j, hj, _, hjb⟩ := hg b (hf b hb); exact h.lt j hj b hjb))
      (by
        refine List.nodup_cons.2 ⟨fun hm => ?_, hnd⟩
        obtain ⟨j, hj, _, hjb⟩ := hg _ hm
        have := h.lt j hj _ hjb
        omega)
      (fun b hb => by
        rcases List.mem_cons.1 hb with rfl | hb
        · exact .inl (Nat.le_refl _)
        · exact .inr (hg b hb))
      (fun b hb => by simp at hb; left; omega) hpin
    exact ⟨_, _, _, hr, hk, ⟨_, h4.put d hd _ _ ⟨h5.symm, _, _, _, rfl⟩⟩, hB⟩
  · split at hk
    · rename_i xs hp' htp
      obtain ⟨hrl, hsz, hlen, hs'⟩ := frzParts_ok h hT.pos as A.hp vs xs hp' (Sub.refl _) h3 htp
      have hr := run_build' ht hT n hn vs hvl hsz w _ hpl
      have hB : Below w.heap.size w (w.alloc (.cells (vs.flatMap fun v => v.cells.toList).toArray e)) := (Below.refl _ _).alloc (Nat.le_refl _) _
      have hfl := flat_len hsz
      have h4 := h.free hs' hB.size hB.os hB.tape hB.output (fun b hl => .inl (hB.block b hl)) (fun b => ¬ cx.rp b) (fun _ => False) (fun b _ hb => .inl (h.rp b hb)) (fun _ _ h => h.elim) (fun _ h => h)
      have hR : ∀ b, FrzR A m A.hp hp' b → b < w.heap.size → (w.alloc (.cells (vs.flatMap fun v => v.cells.toList).toArray e)).heap[b]? = w.heap[b]? ∧ R0of ⟨A.fr, hp'⟩ { m with x0 := fun b => ¬ cx.rp b, x1 := fun _ => False } b := fun b hb hl =>
        ⟨hB.block b hl, fun hrp => hb.elim (fun h0 => h0.1 (h.rp b hrp)) (fun ⟨j, hj, _, hjb⟩ => hrp (h.rpo b (h.own j hj b hjb))), fun j hj => hb.elim (fun h0 => h0.2 j (live_sub hs' hj)) fun hg => hg.not h (Sub.refl _) hj hs'⟩
      refine ⟨_, _, _, hr, hk, ⟨_, h4.put d hd _ _ ⟨rfl, some ⟨w.heap.size, 0, none⟩, n, vs.flatMap fun v => v.cells.toList, by rw [hlen, hvl], by rw [hlen, hvl]; exact Nat.le_refl _, by omega, by rw [hlen, hvl]; exact hcm, .inr ⟨_, rfl, ⟨fun hrp => hrp (h.rpo _ (.inr h.keeps.size)), fun j hj hm => ?_⟩, fun j u hj => ?_⟩, hrl.mono fun _ _ h => h.mono hR⟩⟩, hB⟩
      · exact absurd (h.lt j (live_sub hs' hj) _ hm) (Nat.lt_irrefl _)
      · rw [add_plain', cell_of_row _ _ _ _ e (0, 0) (heap_alloc_new w _), Nat.zero_add]
        simpa using hj
    · cases hk

/-! ### Stores -/
theorem OwnL.set {w w' : World} {T : Ty} : ∀ {xs : List T.D} {cs : List Value} {fp : List Nat} (i : Nat) (y : T.D) (vs : List Value) (fy : List Nat), i < xs.length → Own w' T y vs fy → OwnL (Own w T) xs cs fp → (∀ b ∈ fp, w'.heap[b]? = w.heap[b]?) →
    ∃ f1 f2 f3, fp = f1 ++ f2 ++ f3 ∧ OwnL (Own w' T) (xs.set i y) (cs.take (i * T.cells) ++ vs ++ cs.drop (i * T.cells + T.cells)) (f1 ++ fy ++ f3)
  | [], _, _, i, y, vs, fy, hi, _, _, _ => by simp at hi
  | x :: xs, cs, fp, 0, y, vs, fy, _, hy, ⟨c1, c2, g1, g2, hc, hf, h1, h2⟩, hm => by
    subst hc hf
    have hl := h1.length
    refine ⟨[], g1, g2, by simp, ?_⟩
    rw [Nat.zero_mul, Nat.zero_add, List.take_zero, List.nil_append, List.drop_append_of_le_length (by omega), List.drop_of_length_le (by omega), List.nil_append]
    exact ⟨vs, c2, fy, g2, rfl, rfl, hy, h2.mono fun _ _ _ hs h => h.mono fun b hb => hm b (List.mem_append.2 (.inr (hs b hb)))⟩
  | x :: xs, cs, fp, i + 1, y, vs, fy, hi, hy, ⟨c1, c2, g1, g2, hc, hf, h1, h2⟩, hm => by
    subst hc hf
    have hl := h1.length
    obtain ⟨f1, f2, f3, he, ho⟩ := OwnL.set i y vs fy (by simpa using hi) hy h2 fun b hb => hm b (List.mem_append.2 (.inr hb))
    refine ⟨g1 ++ f1, f2, f3, by simp [he], c1, _, g1, f1 ++ fy ++ f3, ?_, by simp, h1.mono fun b hb => hm b (List.mem_append.2 (.inl hb)), ho⟩
    rw [show (i + 1) * T.cells = c1.length + i * T.cells by rw [Nat.succ_mul, hl]; omega]
    rw [List.take_append, List.take_of_length_le (by omega), Nat.add_sub_cancel_left]
    rw [show c1.length + i * T.cells + T.cells = c1.length + (i * T.cells + T.cells) by omega]
    rw [List.drop_append, List.drop_of_length_le (by omega), Nat.add_sub_cancel_left]
    simp
theorem run_storeVar' {tt : TT} {t : TypeId} {T : Ty} {by_ : Nat} (hT : TFit P tt t T by_) (w : World) (g o : Nat) (cur : Array Value) (e : TypeId) (hg : w.heap[g]? = some (.cells cur e (0, 0))) (v : Value) (vs : List Value) (hv : v.cells.toList = vs) (hl : vs.length = T.cells) (h1 : ∀ u ∈ vs, u.oneCell' = true) (hfit : o + T.cells ≤ cur.size) :
    (storeVar t ⟨g, o, none⟩ v).run P w = .ok () (w.setRow g (cur.toList.take o ++ vs ++ cur.toList.drop (o + T.cells)).toArray) := by
  have hs := hT.size w
  have hst := run_storeCells_at P g o e vs 0 cur w hg (by omega) h1
  simp only [Nat.add_zero, hl] at hst
  have hsz : v.cells.size = T.cells := by rw [← hl, ← hv]; simp
  unfold storeVar
  simp [hs, hsz, hv, hst]
end
end Go.Refl
