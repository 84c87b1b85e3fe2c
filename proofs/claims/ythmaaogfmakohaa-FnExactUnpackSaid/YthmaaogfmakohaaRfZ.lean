/- The evaluator is right: appends of zero values; the less, the more of two. No program in sight. No condition. -/
import Derived.Test.YthmaaogfmakohaaRfB
import Derived.Lib.AppendZerosOnto
namespace Go.Refl
open Go.RowKit
set_option linter.unusedVariables false
set_option linter.unusedSimpArgs false

section
variable {cx : Cx} {A : AS} {a : Act} {w : World} {m : Mp} {P : Program}
theorem append_zcore {E : Env} {t tn e : TypeId} {T : Ty} {by_ : Nat} (ht : P.underlying t = some (.slice e)) {kn : IntKind} (htn : P.underlying tn = some (.int kn)) (hT : TFit P E.tt e T by_) (h0 : by_ ≠ 0) (h : RelW cx A a w m) (hx : ∀ b, ¬ m.x1 b)
    {hp' : Hp} (hs : Sub hp' A.hp) {v : Value} {xs : List T.D} {vs : List Value} {f1 f2 : List Nat} (hh : HeadAt w e T.cells v xs.length vs f1) (hxs : OwnL (Own w T) xs vs f2)
    (hnd : (f1 ++ f2).Nodup) (hg : ∀ b ∈ f1 ++ f2, Gone m A.hp hp' b) (hf1 : ∀ b ∈ f1, ∃ k, (get A.hp k).isSome = true ∧ get hp' k = none ∧ b ∈ m.out k)
    (nz : Nat) (kq : IntKind) (hb0 : (xs.length + nz) * by_ ≤ big47) (k : Nat) (hpin : ∀ u, (k, u) ∉ cx.pins) (ty : TypeId) :
    ∃ v' w' m', (Builtin.append_ #[t, tn] ty #[v, .int kq (nz : Int)]).run P w = .ok v' w' ∧ RelW cx (newTok ⟨A.fr, hp'⟩ k (.arr e T (xs ++ List.replicate nz T.zero))) a w' m' ∧ m'.μ k = v' ∧ ∃ ad n c, v' = .slice ad n c := by
  obtain ⟨i, z, hi, hz, hsz, hby, rfl⟩ := hT.info
  have hyl : (List.replicate nz T.zero).length = nz := by simp
  have hys := ownL_zero w T nz
  rw [← List.append_nil f2] at hnd hg
  have hzl := zeroV_len T
  have hzn : zeroV T ≠ [] := fun e => hT.pos (by rw [← hzl, e]; rfl)
  have hzt : (Builtin.zeroCells (shapeV T (zeroV T)).cells nz).toList = (List.replicate nz (zeroV T)).flatten := by
    rw [shapeV_cells (zeroV_len _) (zeroV_one _), ← made_toList _ hzn nz]; rfl
  have hzA : Builtin.zeroCells (shapeV T (zeroV T)).cells nz = (List.replicate nz (zeroV T)).flatten.toArray := by rw [← hzt]
  generalize hye : List.replicate nz T.zero = ys at *
  generalize hne : (List.replicate nz (zeroV T)).flatten = news at *
  generalize hf3e : ([] : List Nat) = f3 at *
  have hb : (xs.length + ys.length) * by_ ≤ big47 := by rw [hyl]; exact hb0
  have hzc : (shapeV T (zeroV T)).cells = (zeroV T).toArray := shapeV_cells (zeroV_len _) (zeroV_one _)
  have hnl := hys.length (fun _ _ _ h => h.length)
  have hxl := hxs.length (fun _ _ _ h => h.length)
  have h1n : ∀ u ∈ news, u.oneCell' = true := hys.one fun _ _ _ h => h.one
  have hle : xs.length + ys.length ≤ big47 := Nat.le_trans (Nat.le_mul_of_pos_right _ (by omega)) hb
  have hbig : big47 ≤ maxLen := by simp [big47, maxLen]
  have hfit : ∀ old, old < xs.length + ys.length → Builtin.nextslicecap (xs.length + ys.length) old * i.bytes ≤ 281474976710656 := fun old ho => growslice_fits ho (by rw [hby]; exact hb)
  have hmax : ((xs.length + ys.length : Nat) : Int) ≤ 9223372036854775807 := by simp only [big47] at hle; omega
  -- a new array
  have hnew : ∀ old, old < xs.length + ys.length → ∃ m', RelW cx (newTok ⟨A.fr, hp'⟩ k (.arr e T (xs ++ ys))) a (w.drew.alloc (.cells (vs.toArray ++ news.toArray ++ Builtin.zeroCells (shapeV T (zeroV T)).cells (grownCap w (xs.length + ys.length) old e - (xs.length + ys.length))) e)) m' ∧
      m'.μ k = .slice (some ⟨w.heap.size, 0, none⟩) (xs.length + ys.length) (grownCap w (xs.length + ys.length) old e) := by
    intro old ho
    have hge := grownCap_ge w (xs.length + ys.length) old e
    have hcm : grownCap w (xs.length + ys.length) old e ≤ maxLen := grownCap_le_maxLen w _ old e (by omega)
    have hB : Below w.heap.size w (w.drew.alloc (.cells (vs.toArray ++ news.toArray ++ Builtin.zeroCells (shapeV T (zeroV T)).cells (grownCap w (xs.length + ys.length) old e - (xs.length + ys.length))) e)) := (Below.refl _ _).drew.alloc (Nat.le_refl _) _
    refine step_arr h hx hs hB.size hB.os hB.tape hB.output (fun b hl => .inl (hB.block b hl)) k e T (xs ++ ys) _ [w.heap.size] (f2 ++ f3) (vs ++ news) ?_ ?_ ?_ (fun b hb => ?_) (fun b hb => by simp at hb; left; omega) hpin
    · refine .inr ⟨w.heap.size, _, _, by rw [List.length_append], heap_alloc_new w.drew _, by rw [List.length_append]; exact hge, hcm, by rw [List.length_append]; exact hle, ?_, ?_, rfl⟩
      · simp only [Array.size_append, List.size_toArray, size_zeroCells, hzc, zeroV_len, hxl, hnl, ← Nat.add_mul]
        congr 1; omega
      · simp only [Array.toList_append]
        rw [List.take_append_of_le_length (by simp [hxl, hnl, ← Nat.add_mul]), List.take_of_length_le (by simp [hxl, hnl, ← Nat.add_mul])]
    · refine (hxs.app hys).mono fun x c f hf ho => ho.mono fun b hb => hB.block b ?_
      obtain ⟨j, hj, _, hjb⟩ := hg b (List.mem_append.2 (.inr (hf b hb)))
      exact h.lt j hj b hjb
    · refine List.nodup_append.2 ⟨by simp, (List.nodup_append.1 hnd).2.1, fun b hb1 d hb2 e' => ?_⟩
      subst e'
      simp at hb1; subst hb1
      obtain ⟨j, hj, _, hjb⟩ := hg _ (List.mem_append.2 (.inr hb2))
      have := h.lt j hj _ hjb
      omega
    · rcases List.mem_append.1 hb with hb | hb
      · simp at hb; left; omega
      · exact .inr (hg b (List.mem_append.2 (.inr hb)))
  by_cases hm : ys.length = 0
  · have hy : ys = [] := List.eq_nil_of_length_eq_zero hm
    subst hy
    obtain ⟨hn0, hf3⟩ : news = [] ∧ f3 = [] := hys
    subst hn0 hf3
    obtain ⟨av, cv, hv, hc1, hc2⟩ := hh.slice
    refine ⟨v, w, ?_⟩
    have hnz : nz = 0 := by rw [← hyl]; rfl
    have hr : (Builtin.append_ #[t, tn] ty #[v, .int kq (nz : Int)]).run P w = .ok v w := by
      subst hv hnz
      have hw0 : IntKind.i64.wrap 0 = 0 := by decide
      cases av <;> simp [Builtin.append_, run_underlying ht, run_underlying htn, sizeOf, typeInfo, hi, asInt, asIntOf, storeCells, hc1, hw0]
    obtain ⟨m', h2, h3⟩ := step_arr h hx hs (w' := w) (Nat.le_refl _) rfl rfl rfl (fun b _ => .inl rfl) k e T (xs ++ []) v f1 f2 vs (by simpa using hh) (by simpa using hxs) (by simpa using hnd)
      (fun b hb => .inr (hg b (by simpa using hb))) (fun b hb => .inr ((hf1 b hb).imp fun j hj => ⟨live_sub (Sub.refl _) hj.1, hj.2.2⟩)) hpin
    exact ⟨m', hr, h2, h3, av, _, cv, hv⟩
  · have hpos := hT.pos
    have hnn : news ≠ [] := fun e => by
      have := Nat.mul_pos (Nat.pos_of_ne_zero hm) (Nat.pos_of_ne_zero hpos)
      rw [← hnl, e] at this
      simp at this
    have hnzp : 0 < nz := by rw [← hyl]; omega
    have hip : 0 < i.size := by rw [hsz]; exact Nat.pos_of_ne_zero hpos
    have h48z : nz * i.bytes ≤ 281474976710656 := by
      rw [hby]
      have : nz * by_ ≤ (xs.length + nz) * by_ := Nat.mul_le_mul_right _ (by omega)
      simp only [big47] at hb0; omega
    · have hnl' : news.length = ys.length * i.size := by rw [hsz]; exact hnl
      rcases hh with ⟨av, rfl, hx0, hvs, hf⟩ | ⟨g, cap, cur, rfl, hgc, hnc, hcm, hn47, hcs, hvs, hf⟩
      · have hx' : xs = [] := List.eq_nil_of_length_eq_zero hx0
        subst hx'
        subst hvs
        obtain ⟨m', h2, h3⟩ := hnew 0 (by omega)
        simp only [List.length_nil, Nat.zero_add] at h2 h3
        cases av with
        | none =>
          have hr := Lib.run_append_nil_zeros (P := P) w t tn ty e i _ kq kn ht htn hi hz nz hnzp hip (by simp only [List.length_nil, Nat.zero_add] at hmax; rw [hyl] at hmax; exact hmax) h48z
          rw [hzA, ← hyl] at hr
          rw [← hyl]
          exact ⟨_, _, m', hr, by simpa using h2, h3, _, _, _, rfl⟩
        | some av =>
          have hr := Lib.run_append_grow_zeros (P := P) w t tn ty e i _ kq kn ht htn hi hz (some av) 0 0 [] (by simp [Builtin.firstCells, loadCells, loadCellsFrom]) nz hnzp hip (by omega) (by rw [← hyl]; simpa using hmax) h48z (by rw [← hyl]; simpa using hfit 0 (by omega))
          rw [hzA, ← hyl] at hr
          rw [← hyl]
          simp only [Nat.zero_add] at hr
          exact ⟨_, _, m', hr, by simpa using h2, h3, _, _, _, rfl⟩
      · subst hf
        by_cases hroom : xs.length + ys.length ≤ cap
        · have hfit' : xs.length * i.size + news.length ≤ cur.size := by rw [hnl', hcs, hsz, ← Nat.add_mul]; exact Nat.mul_le_mul_right _ hroom
          have hst := run_storeCells_at P g (xs.length * i.size) e news 0 cur w hgc (by simpa using hfit') h1n
          simp only [Nat.add_zero] at hst
          have hwz : IntKind.i64.wrap (nz : Int) = nz := by rw [IntKind.wrap_i64]; rw [hyl] at hmax; omega
          have hnez : ¬ (nz = 0) := by omega
          have hiz : ¬ (i.size = 0) := by omega
          have hnsz : ¬ (nz * i.size = 0) := Nat.mul_ne_zero hnez hiz
          have h48i : ¬ (281474976710656 < (nz : Int) * (i.bytes : Int)) := by rw [← Int.natCast_mul]; omega
          have hnegz : ¬ ((nz : Int) < 0) := by omega
          have hroomz : xs.length + nz ≤ cap := by rw [← hyl]; exact hroom
          have hr : (Builtin.append_ #[t, tn] ty #[.slice (some ⟨g, 0, none⟩) xs.length cap, .int kq (nz : Int)]).run P w = .ok (.slice (some ⟨g, 0, none⟩) (xs.length + ys.length) cap) (w.setRow g (cur.toList.take (xs.length * i.size) ++ news ++ cur.toList.drop (xs.length * i.size + news.length)).toArray) := by
            simp [Builtin.append_, run_underlying ht, run_underlying htn, sizeOf, typeInfo, zeroValue, hi, hz, asInt, asIntOf, hwz, hnsz, hnegz, h48i, hroomz, hzA, Addr.add_lit, hst, hyl]
          have hgl : g < w.heap.size := heap_lt hgc
          have hle2 : xs.length * T.cells ≤ cur.size := by rw [hcs]; exact Nat.mul_le_mul_right _ hnc
          have htk : vs ++ news = (cur.toList.take (xs.length * i.size) ++ news ++ cur.toList.drop (xs.length * i.size + news.length)).toArray.toList.take ((xs ++ ys).length * T.cells) := by
            rw [hvs, hsz, List.length_append, Nat.add_mul, ← hnl]
            exact (List.take_left' (by simp; omega)).symm
          obtain ⟨m', h2, h3⟩ := step_arr h hx hs (w' := w.setRow g (cur.toList.take (xs.length * i.size) ++ news ++ cur.toList.drop (xs.length * i.size + news.length)).toArray) (by simp) rfl rfl rfl
            (fun b _ => by
              by_cases hbg : b = g
              · subst hbg
                obtain ⟨j, h4, h5, h6⟩ := hf1 b (by simp)
                exact .inr ⟨j, h4, h5, h6⟩
              · exact .inl (setRow_other w g b _ hbg)) k e T (xs ++ ys) (.slice (some ⟨g, 0, none⟩) (xs.length + ys.length) cap) [g] (f2 ++ f3) (vs ++ news)
            (.inr ⟨g, cap, _, by rw [List.length_append], setRow_heap w g cur _ e _ hgc, by rw [List.length_append]; exact hroom, hcm, by rw [List.length_append]; exact hle, by
                simp only [List.size_toArray, List.length_append, List.length_take, List.length_drop, Array.length_toList]
                omega, htk, rfl⟩)
            ((hxs.app hys).mono fun x c f hf ho => ho.mono fun b hb => setRow_other w g b _ (by
              rintro rfl
              exact (List.nodup_append.1 hnd).2.2 b (by simp) b (hf b hb) rfl))
            hnd (fun b hb => .inr (hg b hb)) (fun b hb => .inr ((hf1 b hb).imp fun j hj => ⟨live_sub (Sub.refl _) hj.1, hj.2.2⟩)) hpin
          exact ⟨_, _, m', hr, h2, h3, _, _, _, rfl⟩
        · have hcellx : ∀ j u, vs[j]? = some u → w.cell? ((⟨g, 0, none⟩ : Addr).add j) = some u := fun j u hj => by
            rw [add_plain', cell_of_row w g _ cur e (0, 0) hgc, Nat.zero_add]
            rw [hvs, List.getElem?_take] at hj
            split at hj
            · simpa using hj
            · cases hj
          have hold := run_firstCells_some (P := P) w.drew i.size xs.length ⟨g, 0, none⟩ xs.length cap vs (by rw [hsz]; exact hxl) hcellx
          have hr := Lib.run_append_grow_zeros (P := P) w t tn ty e i _ kq kn ht htn hi hz (some ⟨g, 0, none⟩) xs.length cap vs hold nz hnzp hip (by rw [← hyl]; omega) (by rw [← hyl]; simpa using hmax) h48z (by rw [← hyl]; exact hfit cap (by omega))
          rw [hzA, ← hyl] at hr
          rw [← hyl]
          obtain ⟨m', h2, h3⟩ := hnew cap (by omega)
          exact ⟨_, _, m', hr, h2, h3, _, _, _, rfl⟩
theorem appZ_ok {R : Type} {E : Env} (hE : EnvOk P E) {d : Nat} (hd : d < a.tmps.size) (h : RelW cx A a w m) (hx : X0 m) (hpin : ∀ u, (tokOf d 0, u) ∉ cx.pins) {t ti : TypeId} {s x : AC} {vs vx : Value} (hcs : VC w (R0of A m) (R1of A m) m.μ s vs) (hcx : VC w (R0of A m) (R1of A m) m.μ x vx)
    {K : AS → Option R} {r : R} (ha : appZ E A d t ti s x K = some r) (ty : TypeId) : ∃ A' v w', (Builtin.append_ #[t, ti] ty #[vs, vx]).run P w = .ok v w' ∧ K A' = some r ∧ Rel cx A' (a.put (some d) v) w' := by
  unfold appZ at ha
  split at ha
  · rename_i e T b0 ki p kx n hty hti
    split at ha
    · rename_i T' by_ hte
      split at ha
      · rename_i hb
        obtain ⟨rfl, hby⟩ := hb
        split at ha
        · rename_i xs hp1 ht1
          obtain ⟨hn0, ha⟩ := ck_some ha
          obtain ⟨hk, ha⟩ := ck_some ha
          have hn0 := of_decide_eq_true hn0
          obtain ⟨nz, rfl⟩ := Int.eq_ofNat_of_zero_le hn0
          rw [Int.toNat_natCast] at hk ha
          obtain ⟨rfl, _⟩ := hcx.int
          have hu := (hE.ty _ _ _ hty).und
          have hT := hE.ty _ _ _ hte
          obtain ⟨_, hTi⟩ := hE.fit hti
          obtain ⟨vs1, f1, f2, hh, hxs, hn1, hs1, hg1, hf1, _⟩ := take1_ok h (Sub.refl _) hcs ht1
          obtain ⟨v', w', m', h1, h2, h3, h4⟩ := append_zcore hu.1 hTi.und hT hby h hx hs1 hh hxs hn1 hg1 hf1 nz kx (of_decide_eq_true hk) (tokOf d 0) hpin ty
          exact ⟨_, v', w', h1, ha, ⟨_, h2.put d hd _ _ ⟨h3.symm, h4⟩⟩⟩
        · cases ha
      · cases ha
    · cases ha
  · cases ha
theorem mmA_ok {R : Type} {lo : Bool} {ca cb : AC} {K : AC → Option R} {r : R} (h : mmA lo ca cb K = some r) (w : World) (R0 R1 : Nat → Prop) (μ : Nat → Value) {va vb : Value} (ha : VC w R0 R1 μ ca va) (hb : VC w R0 R1 μ cb vb) :
    ∃ c v, (∀ w', (match lo with | true => Builtin.min2 va vb | false => Builtin.max2 va vb).run P w' = .ok v w') ∧ VC w R0 R1 μ c v ∧ K c = some r := by
  unfold mmA at h
  split at h
  · split at h
    · rename_i hk; subst hk
      obtain ⟨rfl, hx⟩ := ha.int
      obtain ⟨rfl, hy⟩ := hb.int
      cases lo
      · refine ⟨_, _, fun _ => rfl, VC.mkInt _ _ _ _ _ ?_, h⟩
        show inR _ (maxN _ _)
        unfold maxN
        split <;> assumption
      · refine ⟨_, _, fun _ => rfl, VC.mkInt _ _ _ _ _ ?_, h⟩
        show inR _ (minN _ _)
        unfold minN
        split <;> assumption
    · cases h
  · cases h
end
end Go.Refl
