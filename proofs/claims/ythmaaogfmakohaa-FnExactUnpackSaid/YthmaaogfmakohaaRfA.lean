/- The evaluator is right: slices written out, appends, stores. No program in sight. No condition. -/
import Derived.Test.YthmaaogfmakohaaRf9
namespace Go.Refl
open Go.RowKit
set_option linter.unusedVariables false
set_option linter.unusedSimpArgs false

theorem OwnL.app {α : Type} {own : α → List Value → List Nat → Prop} : ∀ {xs ys : List α} {cs ds : List Value} {f g : List Nat}, OwnL own xs cs f → OwnL own ys ds g → OwnL own (xs ++ ys) (cs ++ ds) (f ++ g)
  | [], ys, cs, ds, f, g, h, k => by
    obtain ⟨h1, h2⟩ : cs = [] ∧ f = [] := h
    subst h1 h2; simpa using k
  | x :: xs, ys, cs, ds, f, g, ⟨c1, c2, f1, f2, hc, hf, h1, h2⟩, k => by
    subst hc hf
    exact ⟨c1, c2 ++ ds, f1, f2 ++ g, by simp, by simp, h1, h2.app k⟩
theorem noSl_own {R : Nat → Prop} {w : World} : ∀ {t : Ty} {x : t.D} {cs : List Value}, hasSl t = false → Ro R w t x cs → Own w t x cs []
  | .int _, _, _, _, h => ⟨h.1, h.2, rfl⟩
  | .bool, _, _, _, h => ⟨h, rfl⟩
  | .str, _, _, _, h => ⟨h, rfl⟩
  | .sl _ _, _, _, hn, _ => by cases hn
  | .unit, _, _, _, h => ⟨h, rfl⟩
  | .pair a b, _, _, hn, ⟨c1, c2, h, h1, h2⟩ => by
    simp only [hasSl, Bool.or_eq_false_iff] at hn
    exact ⟨c1, c2, [], [], h, rfl, noSl_own hn.1 h1, noSl_own hn.2 h2⟩
theorem noSl_ownL {R : Nat → Prop} {w : World} {t : Ty} (hn : hasSl t = false) : ∀ {xs : List t.D} {cs : List Value}, RoL (Ro R w t) xs cs → OwnL (Own w t) xs cs []
  | [], cs, h => ⟨h, rfl⟩
  | x :: xs, cs, ⟨c1, c2, h, h1, h2⟩ => ⟨c1, c2, [], [], h, rfl, noSl_own hn h1, noSl_ownL hn h2⟩
section
variable {cx : Cx} {A : AS} {a : Act} {w : World} {m : Mp} {P : Program}
/-- A slice that is handed over: its head and its elements. -/
theorem take1_ok (h : RelW cx A a w m) {hp : Hp} (hs : Sub hp A.hp) {e : TypeId} {t : Ty} {c : AC} {v : Value} (hc : VC w (R0of A m) (R1of A m) m.μ c v) {xs : List t.D} {rest : List AC} {hp' : Hp} (ht : takeC hp (.sl e t) [c] = some (xs, rest, hp')) :
    ∃ vs f1 f2, HeadAt w e t.cells v xs.length vs f1 ∧ OwnL (Own w t) xs vs f2 ∧ (f1 ++ f2).Nodup ∧ Sub hp' hp ∧ (∀ b ∈ f1 ++ f2, Gone m hp hp' b) ∧ (∀ b ∈ f1, ∃ k, (get hp k).isSome = true ∧ get hp' k = none ∧ b ∈ m.out k) ∧ rest = [] := by
  cases c <;> simp only [takeC] at ht <;> try (cases ht; done)
  case nil =>
    simp only [Option.some.injEq, Prod.mk.injEq] at ht
    obtain ⟨rfl, rfl, rfl⟩ := ht
    exact ⟨[], [], [], .inl ⟨none, hc, rfl, rfl, rfl⟩, ⟨rfl, rfl⟩, by simp, Sub.refl _, by simp, by simp, rfl⟩
  case own k =>
    cases hk : get hp k with
    | none => rw [hk] at ht; cases ht
    | some o =>
      rw [hk] at ht
      cases o with
      | box _ => cases ht
      | arr e' t' xs' =>
        simp only at ht
        cases hx : castD (.sl e' t') (.sl e t) xs' with
        | none => rw [hx] at ht; cases ht
        | some y =>
          rw [hx] at ht
          simp only [Option.map_some, Option.some.injEq, Prod.mk.injEq] at ht
          obtain ⟨rfl, rfl, rfl⟩ := ht
          obtain ⟨he, rfl⟩ := castD_eq hx
          cases he
          obtain ⟨rfl, _⟩ := hc
          obtain ⟨vs, hh, ho⟩ := h.hp k _ (hs k _ hk)
          exact ⟨vs, m.out k, m.inn k, hh, ho, h.nd k (live_sub hs (by simp [hk])), Sub.del _ _, fun b hb => gone_del hk hb, fun b hb => ⟨k, by simp [hk], by rw [get_del, if_pos rfl], hb⟩, rfl⟩
  case sub k sz lo hi =>
    cases hk : get hp k with
    | none => rw [hk] at ht; cases ht
    | some o =>
      rw [hk] at ht
      cases o with
      | box _ => cases ht
      | arr e' t' xs' =>
        simp only at ht
        split at ht
        · rename_i hz
          cases hx : castD (.sl e' t') (.sl e t) (xs'.take hi.toNat) with
          | none => rw [hx] at ht; cases ht
          | some y =>
            rw [hx] at ht
            simp only [Option.map_some, Option.some.injEq, Prod.mk.injEq] at ht
            obtain ⟨rfl, rfl, rfl⟩ := ht
            obtain ⟨he, rfl⟩ := castD_eq hx
            cases he
            obtain ⟨rfl, rfl⟩ := hz
            obtain ⟨ad, n, c, hμ, h0, h1, h2, h3, h3', rfl⟩ := hc
            obtain ⟨ws, hh, ho⟩ := h.hp k _ (hs k _ hk)
            have hn : n = xs'.length := by
              obtain ⟨a', c', hs', _⟩ := hh.slice
              rw [hμ] at hs'; simp at hs'; exact hs'.2.1
            rw [hμ] at hh
            subst hn
            have hi' : hi.toNat ≤ xs'.length := by omega
            obtain ⟨f1, f2, hf, ho'⟩ := ho.take (fun _ _ _ h => h.length) hi.toNat
            have hh' := hh.take hi.toNat hi'
            have e1 : (xs'.take hi.toNat).length = hi.toNat := by rw [List.length_take]; omega
            refine ⟨_, m.out k, f1, by rw [e1]; simpa using hh', ho', ?_, Sub.del _ _, fun b hb => gone_del hk ?_, fun b hb => ⟨k, by simp [hk], by rw [get_del, if_pos rfl], hb⟩, rfl⟩
            · have := h.nd k (live_sub hs (by simp [hk]))
              unfold Mp.F at this
              rw [hf, ← List.append_assoc] at this
              exact (List.nodup_append.1 this).1
            · unfold Mp.F
              rw [hf]
              simp only [List.mem_append] at hb ⊢
              rcases hb with hb | hb
              · exact .inl hb
              · exact .inr (.inl hb)
        · cases ht
theorem append_core {E : Env} {t e : TypeId} {T : Ty} {by_ : Nat} (ht : P.underlying t = some (.slice e)) (hT : TFit P E.tt e T by_) (h0 : by_ ≠ 0) (h : RelW cx A a w m) (hx : ∀ b, ¬ m.x1 b)
    {hp' : Hp} (hs : Sub hp' A.hp) {v : Value} {xs ys : List T.D} {vs news : List Value} {f1 f2 f3 : List Nat} (hh : HeadAt w e T.cells v xs.length vs f1) (hxs : OwnL (Own w T) xs vs f2) (hys : OwnL (Own w T) ys news f3)
    (hnd : (f1 ++ (f2 ++ f3)).Nodup) (hg : ∀ b ∈ f1 ++ (f2 ++ f3), Gone m A.hp hp' b) (hf1 : ∀ b ∈ f1, ∃ k, (get A.hp k).isSome = true ∧ get hp' k = none ∧ b ∈ m.out k)
    {ax : Option Addr} {c : Nat} (hax : AtCells (fun _ => True) w ax news) (hb : (xs.length + ys.length) * by_ ≤ big47) (k : Nat) (hpin : ∀ u, (k, u) ∉ cx.pins) (ty : TypeId) :
    ∃ v' w' m', (Builtin.append_ #[t, t] ty #[v, .slice ax ys.length c]).run P w = .ok v' w' ∧ RelW cx (newTok ⟨A.fr, hp'⟩ k (.arr e T (xs ++ ys))) a w' m' ∧ m'.μ k = v' ∧ ∃ ad n c, v' = .slice ad n c := by
  obtain ⟨i, z, hi, hz, hsz, hby, rfl⟩ := hT.info
  have hzc : (shapeV T (zeroV T)).cells = (zeroV T).toArray := shapeV_cells (zeroV_len _) (zeroV_one _)
  have hnl := hys.length (fun _ _ _ h => h.length)
  have hxl := hxs.length (fun _ _ _ h => h.length)
  have h1n : ∀ u ∈ news, u.oneCell' = true := hys.one fun _ _ _ h => h.one
  have hle : xs.length + ys.length ≤ big47 := Nat.le_trans (Nat.le_mul_of_pos_right _ (by omega)) hb
  have hbig : big47 ≤ maxLen := by simp [big47, maxLen]
  have hfit : ∀ old, old < xs.length + ys.length → Builtin.nextslicecap (xs.length + ys.length) old * i.bytes ≤ 281474976710656 := fun old ho => growslice_fits ho (by rw [hby]; exact hb)
  have hmax : ((xs.length + ys.length : Nat) : Int) ≤ 9223372036854775807 := by simp only [big47] at hle; omega
  -- a new array
  have hnew : ∀ old, old < xs.length + ys.length → ∃ m', RelW cx (newTok ⟨A.fr, hp'⟩ k (.arr e T (xs ++ ys))) a (w.drew.alloc (.cells (vs.toArray ++ news.toArray ++ Builtin.zeroCells (shapeV T (zeroV T)).cells (grownCap w (xs.length + ys.length) old e - (xs.length + ys.length))) e)) m' ∧
      m'.μ k = .slice (some ⟨w.heap.size, 0, none⟩) (xs.length + ys.length) (grownCap w (xs.length + ys.length) old e) := by
    intro old ho
    have hge := grownCap_ge w (xs.length + ys.length) old e
    have hcm : grownCap w (xs.length + ys.length) old e ≤ maxLen := grownCap_le_maxLen w _ old e (by omega)
    have hB : Below w.heap.size w (w.drew.alloc (.cells (vs.toArray ++ news.toArray ++ Builtin.zeroCells (shapeV T (zeroV T)).cells (grownCap w (xs.length + ys.length) old e - (xs.length + ys.length))) e)) := (Below.refl _ _).drew.alloc (Nat.le_refl _) _
    refine step_arr h hx hs hB.size hB.os hB.tape hB.output (fun b hl => .inl (hB.block b hl)) k e T (xs ++ ys) _ [w.heap.size] (f2 ++ f3) (vs ++ news) ?_ ?_ ?_ (fun b hb => ?_) (fun b hb => by simp at hb; left; omega) hpin
    · refine .inr ⟨w.heap.size, _, _, by rw [List.length_append], heap_alloc_new w.drew _, by rw [List.length_append]; exact hge, hcm, by rw [List.length_append]; exact hle, ?_, ?_, rfl⟩
      · simp only [Array.size_append, List.size_toArray, size_zeroCells, hzc, zeroV_len, hxl, hnl, ← Nat.add_mul]
        congr 1; omega
      · simp only [Array.toList_append]
        rw [List.take_append_of_le_length (by simp [hxl, hnl, ← Nat.add_mul]), List.take_of_length_le (by simp [hxl, hnl, ← Nat.add_mul])]
    · refine (hxs.app hys).mono fun x c f hf ho => ho.mono fun b hb => hB.block b ?_
      obtain ⟨j, hj, _, hjb⟩ := hg b (List.mem_append.2 (.inr (hf b hb)))
      exact h.lt j hj b hjb
    · refine List.nodup_append.2 ⟨by simp, (List.nodup_append.1 hnd).2.1, fun b hb1 d hb2 e' => ?_⟩
      subst e'
      simp at hb1; subst hb1
      obtain ⟨j, hj, _, hjb⟩ := hg _ (List.mem_append.2 (.inr hb2))
      have := h.lt j hj _ hjb
      omega
    · rcases List.mem_append.1 hb with hb | hb
      · simp at hb; left; omega
      · exact .inr (hg b (List.mem_append.2 (.inr hb)))
  by_cases hm : ys.length = 0
  · have hy : ys = [] := List.eq_nil_of_length_eq_zero hm
    subst hy
    obtain ⟨hn0, hf3⟩ : news = [] ∧ f3 = [] := hys
    subst hn0 hf3
    obtain ⟨av, cv, hv, hc1, hc2⟩ := hh.slice
    refine ⟨v, w, ?_⟩
    have hr : (Builtin.append_ #[t, t] ty #[v, .slice ax ([] : List T.D).length c]).run P w = .ok v w := by
      subst hv
      cases ax <;> cases av <;> simp [Builtin.append_, run_underlying ht, sizeOf, typeInfo, hi, Builtin.lenOf, Builtin.firstCells, loadCells, loadCellsFrom, storeCells, hc1]
    obtain ⟨m', h2, h3⟩ := step_arr h hx hs (w' := w) (Nat.le_refl _) rfl rfl rfl (fun b _ => .inl rfl) k e T (xs ++ []) v f1 f2 vs (by simpa using hh) (by simpa using hxs) (by simpa using hnd)
      (fun b hb => .inr (hg b (by simpa using hb))) (fun b hb => .inr ((hf1 b hb).imp fun j hj => ⟨live_sub (Sub.refl _) hj.1, hj.2.2⟩)) hpin
    exact ⟨m', hr, h2, h3, av, _, cv, hv⟩
  · have hpos := hT.pos
    have hnn : news ≠ [] := fun e => by
      have := Nat.mul_pos (Nat.pos_of_ne_zero hm) (Nat.pos_of_ne_zero hpos)
      rw [← hnl, e] at this
      simp at this
    rcases hax with he | ⟨ad, rfl, _, hcell⟩
    · exact absurd he hnn
    · have hnl' : news.length = ys.length * i.size := by rw [hsz]; exact hnl
      rcases hh with ⟨av, rfl, hx0, hvs, hf⟩ | ⟨g, cap, cur, rfl, hgc, hnc, hcm, hn47, hcs, hvs, hf⟩
      · have hx' : xs = [] := List.eq_nil_of_length_eq_zero hx0
        subst hx'
        subst hvs
        obtain ⟨m', h2, h3⟩ := hnew 0 (by omega)
        simp only [List.length_nil, Nat.zero_add] at h2 h3
        cases av with
        | none =>
          have hr := run_append_nil (P := P) w t ty e i _ ht hi hz ad ys.length c news hnl' hcell (by omega) (by simp only [List.length_nil, Nat.zero_add] at hmax; exact hmax) (by simp only [List.length_nil, Nat.zero_add] at hb; rw [hby]; simp only [big47] at hb; omega)
          exact ⟨_, _, m', hr, by simpa using h2, h3, _, _, _, rfl⟩
        | some av =>
          have hr := run_append_grow (P := P) w t ty e i _ ht hi hz av 0 0 [] (by simp) (by simp) ad ys.length c news hnl' hcell (by omega) (by simpa using hmax) (by simpa using hfit 0 (by omega))
          simp only [Nat.zero_add] at hr
          exact ⟨_, _, m', hr, by simpa using h2, h3, _, _, _, rfl⟩
      · subst hf
        by_cases hroom : xs.length + ys.length ≤ cap
        · have hfit' : xs.length * i.size + news.length ≤ cur.size := by rw [hnl', hcs, hsz, ← Nat.add_mul]; exact Nat.mul_le_mul_right _ hroom
          have hr := run_append_room (P := P) w t ty e i ht hi g xs.length cap cur hgc ad ys.length c news hnl' hcell h1n hroom hfit'
          have hgl : g < w.heap.size := heap_lt hgc
          have hle2 : xs.length * T.cells ≤ cur.size := by rw [hcs]; exact Nat.mul_le_mul_right _ hnc
          have htk : vs ++ news = (cur.toList.take (xs.length * i.size) ++ news ++ cur.toList.drop (xs.length * i.size + news.length)).toArray.toList.take ((xs ++ ys).length * T.cells) := by
            rw [hvs, hsz, List.length_append, Nat.add_mul, ← hnl]
            exact (List.take_left' (by simp; omega)).symm
          obtain ⟨m', h2, h3⟩ := step_arr h hx hs (w' := w.setRow g (cur.toList.take (xs.length * i.size) ++ news ++ cur.toList.drop (xs.length * i.size + news.length)).toArray) (by simp) rfl rfl rfl
            (fun b _ => by
              by_cases hbg : b = g
              · subst hbg
                obtain ⟨j, h4, h5, h6⟩ := hf1 b (by simp)
                exact .inr ⟨j, h4, h5, h6⟩
              · exact .inl (setRow_other w g b _ hbg)) k e T (xs ++ ys) (.slice (some ⟨g, 0, none⟩) (xs.length + ys.length) cap) [g] (f2 ++ f3) (vs ++ news)
            (.inr ⟨g, cap, _, by rw [List.length_append], setRow_heap w g cur _ e _ hgc, by rw [List.length_append]; exact hroom, hcm, by rw [List.length_append]; exact hle, by
                simp only [List.size_toArray, List.length_append, List.length_take, List.length_drop, Array.length_toList]
                omega, htk, rfl⟩)
            ((hxs.app hys).mono fun x c f hf ho => ho.mono fun b hb => setRow_other w g b _ (by
              rintro rfl
              exact (List.nodup_append.1 hnd).2.2 b (by simp) b (hf b hb) rfl))
            hnd (fun b hb => .inr (hg b hb)) (fun b hb => .inr ((hf1 b hb).imp fun j hj => ⟨live_sub (Sub.refl _) hj.1, hj.2.2⟩)) hpin
          exact ⟨_, _, m', hr, h2, h3, _, _, _, rfl⟩
        · have hcellx : ∀ j u, vs[j]? = some u → w.cell? ((⟨g, 0, none⟩ : Addr).add j) = some u := fun j u hj => by
            rw [add_plain', cell_of_row w g _ cur e (0, 0) hgc, Nat.zero_add]
            rw [hvs, List.getElem?_take] at hj
            split at hj
            · simpa using hj
            · cases hj
          have hr := run_append_grow (P := P) w t ty e i _ ht hi hz ⟨g, 0, none⟩ xs.length cap vs (by rw [hsz]; exact hxl) hcellx ad ys.length c news hnl' hcell (by omega) (by simpa using hmax) (hfit cap (by omega))
          obtain ⟨m', h2, h3⟩ := hnew cap (by omega)
          exact ⟨_, _, m', hr, h2, h3, _, _, _, rfl⟩
end
end Go.Refl
