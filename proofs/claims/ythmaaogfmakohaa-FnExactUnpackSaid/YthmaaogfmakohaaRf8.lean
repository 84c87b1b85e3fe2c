/- The evaluator is right: what makes memory. No program in sight. No condition. -/
import Derived.Test.YthmaaogfmakohaaRf7
namespace Go.Refl
open Go.RowKit
set_option linter.unusedVariables false
set_option linter.unusedSimpArgs false

theorem VC.one {w : World} {R0 R1 : Nat → Prop} {μ : Nat → Value} {c : AC} {v : Value} (h : VC w R0 R1 μ c v) (hb : c ≠ .bad) : v.cells = #[v] ∧ v.oneCell' = true := by
  cases c with
  | d p t x =>
    obtain ⟨h1, h2⟩ := h
    have := h2.one v (by simp)
    cases v <;> simp_all [Value.cells, Value.oneCell']
  | own k => obtain ⟨_, a, n, c, rfl⟩ := h; exact ⟨rfl, rfl⟩
  | sub k sz lo hi => obtain ⟨a, n, c, _, _, _, _, _, _, rfl⟩ := h; exact ⟨rfl, rfl⟩
  | nil => rw [show v = .slice none 0 0 from h]; exact ⟨rfl, rfl⟩
  | bptr k off => obtain ⟨g, _, rfl⟩ := h; exact ⟨rfl, rfl⟩
  | eptr k sz i => obtain ⟨a, n, c, _, _, _, rfl⟩ := h; exact ⟨rfl, rfl⟩
  | fptr k sz i o => obtain ⟨a, n, c, _, _, _, rfl⟩ := h; exact ⟨rfl, rfl⟩
  | rptr p t x => obtain ⟨a, n, rfl, _⟩ := h; exact ⟨rfl, rfl⟩
  | fn f caps => obtain ⟨vs, rfl, _⟩ := h; exact ⟨rfl, rfl⟩
  | bad => exact absurd rfl hb
theorem ws_some {a : A1} {n : Nat} (hn : a.ws.length = n) (h0 : n ≠ 0) : a.ws = a.cs ∧ ∀ c ∈ a.cs, c ≠ .bad := by
  unfold A1.ws at hn ⊢
  split at hn
  · simp at hn; exact absurd hn.symm h0
  · rename_i hb
    rw [if_neg hb]
    refine ⟨rfl, fun c hc e => hb ?_⟩
    rw [List.any_eq_true]
    exact ⟨c, hc, by rw [e]; rfl⟩
theorem All2.mem_right {α β : Type} {r : α → β → Prop} : ∀ {xs : List α} {ys : List β}, All2 r xs ys → ∀ y ∈ ys, ∃ x ∈ xs, r x y
  | [], _, h, y, hy => by rw [show _ = [] from h] at hy; cases hy
  | x :: xs, ys, ⟨z, zs, hz, h1, h2⟩, y, hy => by
    subst hz
    rcases List.mem_cons.1 hy with rfl | hy
    · exact ⟨x, by simp, h1⟩
    · obtain ⟨u, hu, hr⟩ := h2.mem_right y hy
      exact ⟨u, by simp [hu], hr⟩
theorem ws_ok {w : World} {R0 R1 : Nat → Prop} {μ : Nat → Value} {a : A1} {v : Value} (h : V1 w R0 R1 μ a v) {n : Nat} (hn : a.ws.length = n) (h0 : n ≠ 0) : All2 (VC w R0 R1 μ) a.ws v.cells.toList ∧ ∀ u ∈ v.cells.toList, u.oneCell' = true := by
  obtain ⟨hw, hb⟩ := ws_some hn h0
  rw [hw]
  have h2 : All2 (VC w R0 R1 μ) a.cs v.cells.toList := by
    cases a with
    | one c =>
      have := (VC.one (c := c) h (hb c (by simp [A1.cs]))).1
      rw [this]
      exact ⟨v, [], rfl, h, rfl⟩
    | agg cs => obtain ⟨vs, rfl, ha⟩ := h; simpa [A1.cs, Value.cells] using ha
  refine ⟨h2, fun u hu => ?_⟩
  obtain ⟨c, hc, hr⟩ := h2.mem_right u hu
  exact (VC.one hr (hb c hc)).2

/-! ### Parts of an array that is written out -/
theorem foldl_set (off : Nat) : ∀ (vs : List Value) (k : Nat) (cells : Array Value), off + k + vs.length ≤ cells.size →
    ((vs.zipIdx k).foldl (fun (cs : Array Value) (p : Value × Nat) => cs.setIfInBounds (off + p.2) p.1) cells).toList = cells.toList.take (off + k) ++ vs ++ cells.toList.drop (off + k + vs.length)
  | [], k, cells, h => by simp
  | v :: vs, k, cells, h => by
    simp only [List.length_cons] at h
    rw [List.zipIdx_cons, List.foldl_cons, foldl_set off vs (k + 1) _ (by simp; omega)]
    simp only [Array.toList_setIfInBounds]
    have e1 : (cells.toList.set (off + k) v).take (off + (k + 1)) = cells.toList.take (off + k) ++ [v] := by
      rw [← Nat.add_assoc, List.take_add_one, List.take_set_of_le (Nat.le_refl _), List.getElem?_set_self (by simp; omega)]
      rfl
    have e2 : (cells.toList.set (off + k) v).drop (off + (k + 1) + vs.length) = cells.toList.drop (off + k + (vs.length + 1)) := by
      rw [List.drop_set_of_lt (by omega)]
      congr 1; omega
    rw [e1, e2, List.length_cons]
    simp
theorem fill_one (place : Nat → Option (Nat × Nat)) (cells : Array Value) (i off size : Nat) (v : Value) (rest : List (Nat × Value)) (hp : place i = some (off, size)) (hs : v.cells.size = size) (ho : off + size ≤ cells.size) :
    ∃ cells' : Array Value, Instr.fill place cells ((i, v) :: rest) = Instr.fill place cells' rest ∧ cells'.toList = cells.toList.take off ++ v.cells.toList ++ cells.toList.drop (off + size) := by
  refine ⟨v.cells.zipIdx.foldl (fun cs (c, j) => cs.setIfInBounds (off + j) c) cells, ?_, ?_⟩
  · simp only [Instr.fill, hp]
    rw [if_neg (by simp [hs]; omega)]
  · have := foldl_set off v.cells.toList 0 cells (by simp [hs]; omega)
    rw [← Array.foldl_toList, Array.toList_zipIdx]
    simpa [hs] using this
theorem All2.setAt {β : Type} {r : AC → β → Prop} {cs new : List AC} {vs us : List β} (off : Nat) (h : All2 r cs vs) (h' : All2 r new us) : All2 r (setAt cs off new) (vs.take off ++ us ++ vs.drop (off + us.length)) := by
  unfold Refl.setAt
  rw [← h'.length]
  exact ((h.take off).app h').app (h.drop _)
section
variable {cx : Cx} {A : AS} {a : Act} {w : World} {m : Mp} {P : Program}
theorem fillParts_ok (h : RelW cx A a w m) {T : Ty} {place : Nat → Option (Nat × Nat)} (hp : ∀ i o ft, nthF T i = some (o, ft) → place i = some (o, ft.cells) ∧ ft.cells ≠ 0 ∧ o + ft.cells ≤ T.cells) :
    ∀ (ps : List (Nat × Operand)) (cs cs' : List AC) (cells : Array Value), cs.length = T.cells → All2 (VC w (R0of A m) (R1of A m) m.μ) cs cells.toList → fillParts A T cs ps = some cs' →
      ∃ cells', Instr.fill place cells (ps.map fun (i, x) => (i, a.eval x)) = some cells' ∧ All2 (VC w (R0of A m) (R1of A m) m.μ) cs' cells'.toList
  | [], cs, cs', cells, hl, ha, hf => by
    simp [fillParts] at hf; subst hf
    exact ⟨cells, rfl, ha⟩
  | (i, o) :: ps, cs, cs', cells, hl, ha, hf => by
    simp only [fillParts] at hf
    split at hf
    · rename_i off ft hn
      split at hf
      · rename_i hw
        obtain ⟨hpl, h0, hle⟩ := hp i off ft hn
        have hwo := (ws_ok (opd1_ok h o) hw h0).1
        have hcl := ha.length
        have hvs : (a.eval o).cells.size = ft.cells := by have := hwo.length; rw [hw] at this; simpa using this
        obtain ⟨cells1, h1, h2⟩ := fill_one place cells i off ft.cells (a.eval o) (ps.map fun (i, x) => (i, a.eval x)) hpl hvs (by simp at hcl; omega)
        have h3 := All2.setAt off ha hwo
        rw [show (a.eval o).cells.toList.length = ft.cells by simpa using hvs, ← h2] at h3
        obtain ⟨cells2, h4, h5⟩ := fillParts_ok h hp ps _ cs' cells1 (by unfold Refl.setAt; simp [hw]; omega) h3 hf
        exact ⟨cells2, by rw [List.map_cons, h1, h4], h5⟩
      · cases hf
    · cases hf
theorem zeroC_ok (w : World) (R0 R1 : Nat → Prop) (μ : Nat → Value) : ∀ T : Ty, All2 (VC w R0 R1 μ) (zeroC T) (zeroV T)
  | .unit => rfl
  | .pair a b => (zeroC_ok w R0 R1 μ a).app (zeroC_ok w R0 R1 μ b)
  | .int k => ⟨_, [], rfl, VC.mkInt _ _ _ _ _ (by cases k <;> decide), rfl⟩
  | .bool => ⟨_, [], rfl, VC.mkBool _ _ _ _ _ _, rfl⟩
  | .str => ⟨_, [], rfl, ⟨rfl, .empty, rfl, rfl, Nat.zero_le _⟩, rfl⟩
  | .sl _ _ => ⟨_, [], rfl, rfl, rfl⟩
theorem zeroC_len (T : Ty) : (zeroC T).length = T.cells := by
  rw [← zeroV_len T]; exact ((zeroC_ok default (fun _ => True) (fun _ => True) (fun _ => undef) T).length).symm
theorem zeroV_one (T : Ty) : ∀ u ∈ zeroV T, u.oneCell' = true := by
  induction T with
  | pair a b iha ihb => intro u hu; exact (List.mem_append.1 hu).elim (iha u) (ihb u)
  | unit => intro u hu; cases hu
  | _ => intro u hu; simp [zeroV] at hu; subst hu; rfl
theorem build_ok {E : Env} (hE : EnvOk P E) {t : TypeId} {ta tb : Ty} (ht : tyOf E.tt t = some (.pair ta tb)) (h : RelW cx A a w m) {ps : Array (Nat × Operand)} {cs : List AC}
    (hf : fillParts A (.pair ta tb) (zeroC (.pair ta tb)) ps.toList = some cs) :
    ∃ v, (∀ w', (Instr.build t (ps.map fun (i, x) => (i, a.eval x))).run P w' = .ok v w') ∧ V1 w (R0of A m) (R1of A m) m.μ (.agg cs) v := by
  obtain ⟨b, hT⟩ := hE.fit ht
  obtain ⟨fs, hfs, hff⟩ := hT.und
  have hzc : (shapeV (.pair ta tb) (zeroV (.pair ta tb))).cells = (zeroV (.pair ta tb)).toArray := shapeV_cells (zeroV_len _) (zeroV_one _)
  have hplaces : ∀ (l : List Field) (T : Ty) (base : Nat), FieldsFit E.tt l T base → ∃ pl : List (Nat × Nat), (∀ w', (l.mapM fun f => (Prod.mk f.offset <$> sizeOf f.type : Sem (Nat × Nat))).run P w' = .ok pl w') ∧ ∀ i o ft, nthF T i = some (o, ft) → pl[i]? = some (base + o, ft.cells) := by
    intro l
    induction l with
    | nil =>
      intro T base hl
      refine ⟨[], by simp, fun i o ft hn => ?_⟩
      cases T with
      | unit => cases i <;> simp [nthF] at hn
      | _ => cases hl
    | cons f l ih =>
      intro T base hl
      cases T with
      | pair x y =>
        obtain ⟨h1, ⟨by_, h2⟩, h3, h4⟩ := hl
        obtain ⟨pl, h5, h6⟩ := ih y _ h4
        refine ⟨(f.offset, x.cells) :: pl, ?_, fun i o ft hn => ?_⟩
        · intro w'
          have hsz := (hE.ty _ _ _ h2).size w'
          simp only [List.mapM_cons]
          simp [hsz, h5 w']
        · cases i with
          | zero => simp [nthF] at hn; obtain ⟨rfl, rfl⟩ := hn; simp [h1]
          | succ i =>
            simp only [nthF] at hn
            cases hn' : nthF y i with
            | none => rw [hn'] at hn; cases hn
            | some p =>
              obtain ⟨o', t'⟩ := p
              rw [hn'] at hn
              simp at hn
              obtain ⟨rfl, rfl⟩ := hn
              simp only [List.getElem?_cons_succ, h6 i o' t' hn']
              congr 2; omega
      | _ => cases hl
  obtain ⟨pl, hpl, hpi⟩ := hplaces fs.toList _ 0 hff
  obtain ⟨cells', h1, h2⟩ := fillParts_ok (place := fun i => pl[i]?) h (fun i o ft hn => by
    obtain ⟨_, _, _, _, hc, hle⟩ := field_at hff hn
    exact ⟨by rw [hpi i o ft hn, Nat.zero_add], hc, hle⟩) ps.toList _ cs (zeroV (.pair ta tb)).toArray (zeroC_len _) (by simpa using zeroC_ok w _ _ _ (.pair ta tb)) hf
  refine ⟨.agg cells', fun w' => ?_, ⟨cells'.toList, by simp, h2⟩⟩
  have hz := hT.zero w'
  have hm : (fs.mapM fun f => (Prod.mk f.offset <$> sizeOf f.type : Sem (Nat × Nat))).run P w' = .ok pl.toArray w' := by
    rw [← Array.toArray_toList (xs := fs), List.mapM_toArray]
    simp [hpl w']
  simp only [Instr.build]
  simp [hz, hzc, run_underlying hfs, hm]
  simp at h1
  simp [h1]

/-- Blocks are given up, their heads may be written; an array comes in. -/
theorem step_arr (h : RelW cx A a w m) (hx : ∀ b, ¬ m.x1 b) {h' : Hp} (hs : Sub h' A.hp) {w' : World} (hsz : w.heap.size ≤ w'.heap.size) (hos : w'.os = w.os) (hta : w'.tape = w.tape) (hou : w'.output = w.output)
    (hb : ∀ b, b < w.heap.size → w'.heap[b]? = w.heap[b]? ∨ ∃ k, live A k ∧ get h' k = none ∧ b ∈ m.out k)
    (k : Nat) (e : TypeId) (t : Ty) (xs : List t.D) (v : Value) (out inn vs : List _) (hh : HeadAt w' e t.cells v xs.length vs out) (hw : OwnL (Own w' t) xs vs inn) (hnd : (out ++ inn).Nodup)
    (hg : ∀ b ∈ out ++ inn, w.heap.size ≤ b ∨ Gone m A.hp h' b) (ho : ∀ b ∈ out, w.heap.size ≤ b ∨ ∃ k, live A k ∧ b ∈ m.out k) (hpin : ∀ u, (k, u) ∉ cx.pins) :
    ∃ m', RelW cx (newTok ⟨A.fr, h'⟩ k (.arr e t xs)) a w' m' ∧ m'.μ k = v := by
  have h1 := h.free hs hsz hos hta hou hb (fun b => b ∈ out ++ inn ∨ ¬ cx.rp b) (fun b => b ∈ out) (fun b hl hm => hm.elim (fun hm => .inr ((hg b hm).resolve_left (by omega))) fun hm => .inl (h.rp b hm)) (fun b hl hm => .inr ((ho b hm).resolve_left (by omega))) (fun _ h => .inr h)
  have hlt : ∀ b ∈ out ++ inn, b < w'.heap.size := fun b hb => by
    rcases List.mem_append.1 hb with hb | hb
    · exact hh.lt b hb
    · exact OwnL.lt (fun _ _ _ h => h.lt) hw b hb
  refine ⟨_, h1.new k (.arr e t xs) v out inn ⟨vs, by simpa [Mp.upd] using hh, hw⟩ hnd (fun j hj b hbj hm => ?_) hlt (fun b hm => ?_) hpin (fun b hm => .inl hm) (fun b hm => hm), by simp [Mp.upd]⟩
  · have hjA : live A j := live_sub hs hj
    have hbl := h.lt j hjA b hbj
    exact ((hg b hm).resolve_left (by omega)).not h (Sub.refl _) hj hs hbj
  · rcases hg b hm with hg | ⟨j, hj, _, hjb⟩
    · exact .inr (Nat.le_trans h.keeps.size hg)
    · exact h.own j hj b hjb
/-- A variable comes in. -/
theorem step_box (h : RelW cx A a w m) (hx : ∀ b, ¬ m.x1 b) (k : Nat) (cs : List AC) (vs : List Value) (T : TypeId) (hv : All2 (VC w (R0of A m) (R1of A m) m.μ) cs vs) (hpin : ∀ u, (k, u) ∉ cx.pins) :
    ∃ m', RelW cx (newTok A k (.box (cs.map (killC k)))) a (w.alloc (.cells vs.toArray T)) m' ∧ m'.μ k = .pointer (some ⟨w.heap.size, 0, none⟩) := by
  have hB : Below w.heap.size w (w.alloc (.cells vs.toArray T)) := (Below.refl _ _).alloc (Nat.le_refl _) _
  have h1 := h.free (h' := A.hp) (Sub.refl _) (w' := w.alloc (.cells vs.toArray T)) (by simp) rfl rfl rfl (fun b hb => .inl (hB.block b hb)) (fun b => b = w.heap.size ∨ ¬ cx.rp b) (fun b => b = w.heap.size) (fun b hl hm => hm.elim (fun hm => absurd hm (by omega)) fun hm => .inl (h.rp b hm)) (fun b hl hm => absurd hm (by omega)) (fun _ h => .inr h)
  refine ⟨_, h1.new k (.box (cs.map (killC k))) (.pointer (some ⟨w.heap.size, 0, none⟩)) [w.heap.size] [] ⟨w.heap.size, vs.toArray, T, by simp [Mp.upd], heap_alloc_new w _, ?_, rfl, rfl⟩ (by simp) (fun j hj b hbj hm => ?_) (fun b hm => ?_) (fun b hm => ?_) hpin (fun b hm => ?_) (fun b hm => ?_), by simp [Mp.upd]⟩
  · refine All2.map (r := VC _ _ _ _) ?_
    have hm := hv
    refine All2.mono (fun c hc u hu => ?_) hm
    have h2 := VC.mono (w' := w.alloc (.cells vs.toArray T)) (R0' := R0of ⟨A.fr, A.hp⟩ { m with x0 := fun b => b = w.heap.size ∨ ¬ cx.rp b, x1 := fun b => b = w.heap.size }) (R1' := R1of ⟨A.fr, A.hp⟩ { m with x0 := fun b => b = w.heap.size ∨ ¬ cx.rp b, x1 := fun b => b = w.heap.size }) (μ' := m.μ) hu
      (fun b hb hl => ⟨hB.block b hl, fun e => e.elim (fun e => by omega) fun e => hb.1 (h.rp b e), hb.2⟩) (fun _ b hb hl => ⟨hB.block b hl, fun (e : b = _) => by omega, hb.2⟩) (fun _ _ => rfl)
    have h3 := kill_mono (k := k) h2
    refine VC.mono h3 (fun b hb _ => ⟨rfl, hb⟩) (fun _ b hb _ => ⟨rfl, hb⟩) fun j hj => ?_
    have hjk : j ≠ k := by rintro rfl; exact killC_toks j c hj
    simp [Mp.upd, hjk]
  · have := h.lt j hj b hbj
    simp at hm; omega
  · simp at hm ⊢; omega
  · simp at hm; right; subst hm; exact h.keeps.size
  · exact .inl (by simpa using hm)
  · simpa using hm

/-! ### Zeros -/
theorem own_zero (w : World) : ∀ T : Ty, Own w T T.zero (zeroV T) []
  | .unit => ⟨rfl, rfl⟩
  | .pair a b => ⟨_, _, [], [], rfl, rfl, own_zero w a, own_zero w b⟩
  | .int k => ⟨rfl, by cases k <;> decide, rfl⟩
  | .bool => ⟨rfl, rfl⟩
  | .str => ⟨⟨.empty, rfl, rfl, Nat.zero_le _⟩, rfl⟩
  | .sl _ _ => ⟨.slice none 0 0, [], [], [], rfl, .inl ⟨none, rfl, rfl, rfl, rfl⟩, ⟨rfl, rfl⟩, rfl⟩
theorem ownL_zero (w : World) (T : Ty) : ∀ n : Nat, OwnL (Own w T) (List.replicate n T.zero) (List.replicate n (zeroV T)).flatten []
  | 0 => ⟨rfl, rfl⟩
  | n + 1 => ⟨zeroV T, _, [], [], by simp [List.replicate_succ], rfl, own_zero w T, ownL_zero w T n⟩
theorem made_toList (z : List Value) (hz : z ≠ []) : ∀ n : Nat, (madeCells z.toArray (n * z.length)).toList = (List.replicate n z).flatten := by
  have key : ∀ n : Nat, (List.range (n * z.length)).map (fun i => z.toArray[i % z.length]!) = (List.replicate n z).flatten := by
    intro n
    induction n with
    | zero => simp
    | succ n ih =>
      have hl : 0 < z.length := List.length_pos_iff.2 hz
      rw [Nat.succ_mul, List.range_add, List.map_append, ih, List.replicate_succ', List.flatten_append]
      congr 1
      simp only [List.flatten_cons, List.flatten_nil, List.append_nil, List.map_map]
      apply List.ext_getElem (by simp)
      intro i h1 h2
      simp at h1
      simp [Nat.add_mod, Nat.mul_mod_left, Nat.mod_eq_of_lt h1, getElem!_pos, h2]
  intro n
  unfold madeCells
  simp only [Array.toList_map, List.size_toArray, Array.toList_range]
  exact key n
theorem makeSlice_ok {E : Env} (hE : EnvOk P E) {t e : TypeId} {T : Ty} {by_ : Nat} (ht : P.underlying t = some (.slice e)) (hT : TFit P E.tt e T by_) (h : RelW cx A a w m) (hx : ∀ b, ¬ m.x1 b) {kl kc : IntKind} {n : Int} (h0 : 0 ≤ n) (h1 : n * by_ ≤ 140737488355328) (h2 : n ≤ 140737488355328) (k : Nat) (hpin : ∀ u, (k, u) ∉ cx.pins) :
    ∃ v w' m', (Instr.makeSlice t (.int kl n) (.int kc n)).run P w = .ok v w' ∧ RelW cx (newTok A k (.arr e T (List.replicate n.toNat T.zero))) a w' m' ∧ m'.μ k = v ∧ ∃ ad c, v = .slice ad n.toNat c := by
  obtain ⟨i, z, hi, hz, hs, hb, rfl⟩ := hT.info
  have hzc : (shapeV T (zeroV T)).cells = (zeroV T).toArray := shapeV_cells (zeroV_len _) (zeroV_one _)
  have hr := run_make (P := P) w t e i _ ht hi hz kl kc n n h0 (Int.le_refl _) (by rw [hb, Int.mul_comm]; omega) (by omega)
  rw [hzc, hs] at hr
  have hB : Below w.heap.size w (w.alloc (.cells (madeCells (zeroV T).toArray (n.toNat * T.cells)) e)) := (Below.refl _ _).alloc (Nat.le_refl _) _
  have hzl := zeroV_len T
  have hzn : zeroV T ≠ [] := fun e => hT.pos (by rw [← hzl, e]; rfl)
  have hml : (madeCells (zeroV T).toArray (n.toNat * T.cells)).toList = (List.replicate n.toNat (zeroV T)).flatten := by rw [← hzl]; exact made_toList _ hzn _
  have hsize : (madeCells (zeroV T).toArray (n.toNat * T.cells)).size = n.toNat * T.cells := size_madeCells _ _
  obtain ⟨m', h3, h4⟩ := step_arr h hx (Sub.refl _) (w' := w.alloc (.cells (madeCells (zeroV T).toArray (n.toNat * T.cells)) e)) (by simp) rfl rfl rfl (fun b hb => .inl (hB.block b hb)) k e T (List.replicate n.toNat T.zero) (.slice (some ⟨w.heap.size, 0, none⟩) n.toNat n.toNat) [w.heap.size] []
    (List.replicate n.toNat (zeroV T)).flatten
    (.inr ⟨w.heap.size, n.toNat, _, by simp, heap_alloc_new w _, by simp, by simp [maxLen]; omega, by simp [big47]; omega, hsize, by rw [List.length_replicate, List.take_of_length_le (by rw [Array.length_toList, hsize]; exact Nat.le_refl _), hml], rfl⟩)
    (ownL_zero _ T _) (by simp) (fun b hm => by simp at hm; left; omega) (fun b hm => by simp at hm; left; omega) hpin
  exact ⟨_, _, m', hr, h3, h4, _, _, rfl⟩
end
end Go.Refl
