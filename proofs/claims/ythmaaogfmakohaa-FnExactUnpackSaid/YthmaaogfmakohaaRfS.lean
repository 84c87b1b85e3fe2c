/- The evaluator is right: calls that write a row of ours in place. No program in sight. No condition. -/
import Derived.Test.YthmaaogfmakohaaRfK
namespace Go.Refl
open Go.RowKit
set_option linter.unusedVariables false
set_option linter.unusedSimpArgs false

section
variable {cx : Cx} {A : AS} {a : Act} {w : World} {m : Mp} {P : Program}
theorem evOps_pre {R : Type} {E : Env} (hE : EnvOk P E) (hct : ∀ f c, get E.ct f = some c → Sat P f c) {ops : Array Oper} {K : AS → Option R} {r : R} (hpins : ∀ k u, (k, u) ∈ cx.pins → pinBase ≤ k) {Q : Exit → Act → World → Prop} {n : Nat} (hn : n ≤ 60000) {rest : List Oper}
    (hK : ∀ A' a' w', K A' = some r → Rel cx A' a' w' → a'.tmps.size = n → wpList P ops Q rest a' w') : ∀ (l : List Oper) (A : AS) (a : Act) (w : World), Rel cx A a w → a.tmps.size = n → l.all (dstOk n) = true → evOps E ops.toList K l A = some r → wpList P ops Q (l ++ rest) a w
  | [], A, a, w, h, hs, _, ho => hK A a w ho h hs
  | o :: l, A, a, w, h, hs, hd, ho => by
    simp only [List.all_cons, Bool.and_eq_true] at hd
    have := opG_ok hE hct (next := wpList P ops Q (l ++ rest)) (Q := Q) h hpins (by omega) (by rw [hs]; exact dstOk_lt hd.1) ho
      fun A' v w' hk hr => evOps_pre hE hct hpins hn hK l A' _ w' hr (by rw [put_size]; exact hs) hd.2 hk
    unfold stepW at this
    rw [List.cons_append]
    unfold wpList
    split
    · rename_i hw; rw [if_pos hw] at this; exact .inl this
    · rename_i hw; rw [if_neg hw] at this; exact this
theorem cut3_eq : ∀ {l pre post : List Oper} {x y z : Oper}, cut3 l = some (pre, x, y, z, post) → l = pre ++ (x :: y :: z :: post)
  | [], _, _, _, _, _, h => by simp [cut3] at h
  | [_], _, _, _, _, _, h => by simp [cut3] at h
  | [_, _], _, _, _, _, _, h => by simp [cut3] at h
  | a :: b :: c :: l, pre, post, x, y, z, h => by
    unfold cut3 at h
    split at h
    · simp only [Option.some.injEq, Prod.mk.injEq] at h
      obtain ⟨rfl, rfl, rfl, rfl, rfl⟩ := h; rfl
    · simp only [Option.map_eq_some_iff] at h
      obtain ⟨⟨p, q⟩, h1, h2⟩ := h
      simp only [Prod.mk.injEq] at h2
      obtain ⟨rfl, rfl⟩ := h2
      rw [cut3_eq h1]; rfl
theorem wpList_step {ops : Array Oper} {Q : Exit → Act → World → Prop} {o : Oper} {l : List Oper} (hg : o.guard = none) (h : o.wp P a w (wpList P ops Q l) Q) : wpList P ops Q (o :: l) a w := by
  unfold wpList
  rw [if_pos (by simp [Region.wanted, hg])]
  exact .inl h
theorem eval_put (a : Act) (x : Nat) (v : Value) (hx : x < a.tmps.size) : (a.put (some x) v).eval (.tmp x) = v := by
  simp [Act.eval, Act.put, hx]
theorem eval_put_ne (a : Act) (x y : Nat) (v : Value) (h : y ≠ x) : (a.put (some y) v).eval (.tmp x) = a.eval (.tmp x) := by
  simp only [Act.eval, Act.put, Array.getD_eq_getD_getElem?, Array.getElem?_setIfInBounds_ne h]
theorem rowA_ok {R : Type} {E : Env} (hE : EnvOk P E) (hct : ∀ f c, get E.ct f = some c → Sat P f c) {ops : Array Oper} {K : AS → Option R} {alt : Option R} {r : R} {Q : Exit → Act → World → Prop} {n : Nat} {o1 o2 o3 : Oper} {post : List Oper}
    (hK : ∀ A' a' w', K A' = some r → Rel cx A' a' w' → a'.tmps.size = n → wpList P ops Q post a' w') (h : Rel cx A a w) (hs : a.tmps.size = n) (hd : [o1, o2, o3].all (dstOk n) = true) (halt : alt = some r → wpList P ops Q (o1 :: o2 :: o3 :: post) a w) (ho : rowA E A o1 o2 o3 K alt = some r) : wpList P ops Q (o1 :: o2 :: o3 :: post) a w := by
  simp only [List.all_cons, List.all_nil, Bool.and_true, Bool.and_eq_true] at hd
  obtain ⟨hd1, hd2, hd3⟩ := hd
  unfold rowA at ho
  split at ho
  · rename_i t p x z y e1 e2 e3 e4 e5 e6
    split at ho
    · rename_i f as ats d e7 e8 e9
      split at ho
      · rename_i x' y' has
        split at ho
        · rename_i hxy
          obtain ⟨rfl, rfl, hne⟩ := hxy
          split at ho
          · rename_i k sz i hp
            split at ho
            · rename_i T k2 k3 F e T' xs pz k2' v hc hk hz
              split at ho
              · rename_i hcond
                obtain ⟨hone, rfl, rfl, rfl, htt⟩ := hcond
                simp only [castD, dite_true] at ho
                cases hF : F (rdD T' xs i, (v, ())) with
                | none => rw [hF] at ho; cases ho
                | some yr =>
                  rw [hF] at ho
                  simp only [Option.bind_some] at ho
                  have hxs : x' < a.tmps.size := by rw [hs]; exact dstOk_lt hd1 _ e2
                  have hys : y' < a.tmps.size := by rw [hs]; exact dstOk_lt hd2 _ e5
                  have hds : d < a.tmps.size := by rw [hs]; exact dstOk_lt hd3 _ e8
                  obtain ⟨m0, h0⟩ := h
                  have h := h0.clear
                  generalize hm : ({ m0 with x0 := fun b => ¬ cx.rp b, x1 := fun _ => False } : Mp) = m at h
                  clear hm h0
                  obtain ⟨_, hT⟩ := hE.fit htt
                  have hcells : T'.cells = 1 := by cases T' <;> simp_all [Ty.one, Ty.cells]
                  have hpv := opdC_ok h (.tmp p)
                  rw [hp] at hpv
                  obtain ⟨ad, nn, cc, hμ, hi0, hi1, hpv⟩ := hpv
                  obtain ⟨vs, hh, hol⟩ := h.hp k _ hk
                  obtain ⟨a', cap, hsl, _, _, _, hat⟩ := hh.cells (R := fun _ => True) (fun _ _ => trivial)
                  rw [hμ] at hsl
                  simp only [Value.slice.injEq] at hsl
                  obtain ⟨rfl, rfl, rfl⟩ := hsl
                  have hin : i.toNat < xs.length := by omega
                  obtain ⟨f1, f2, f3, hfp, hrow, hvs, hall⟩ := OwnL.split i.toNat _ (getD_some (d := T'.zero) hin) hol
                  have hrl := hrow.length
                  have hcell : ∀ j u, ((vs.drop (i.toNat * T'.cells)).take T'.cells)[j]? = some u → w.cell? ((ad.add (i.toNat * T'.cells)).add j) = some u := fun j u hj => by
                    rw [add_add']
                    rw [List.getElem?_take] at hj
                    split at hj
                    · rw [List.getElem?_drop] at hj
                      rcases hat with rfl | ⟨ad', he, _, hc'⟩
                      · simp at hj
                      · cases he; exact hc' _ u hj
                    · cases hj
                  generalize hrv : (vs.drop (i.toNat * T'.cells)).take T'.cells = rv at hrow hrl hcell hvs
                  have hrun := run_loadVar hT w (ad.add (i.toNat * T'.cells)) rv hrl hcell
                  refine wpList_step e3 (wp_val (v := shapeV T' rv) (w' := w) (by
                    simp only [execOp, e1, hpv]; exact run_v (by simp [Instr.loadAt, Instr.sureAddr, hrun])) ?_)
                  rw [e2]
                  have h1 := h.put x' hxs (.v (.one .bad)) (shapeV T' rv) trivial
                  have hzv := opdC_ok h1 z
                  rw [show opdC { A with fr := ins A.fr x' (.v (.one .bad)) } z = .d pz (.int k2') v from hz] at hzv
                  obtain ⟨hzv, hzr⟩ := hzv.int
                  refine wpList_step e6 (wp_val (v := .int k2' v) (w' := w) (by simp [execOp, e4, hzv]) ?_)
                  rw [e5]
                  have h2 := h1.put y' (by simpa [Act.put] using hys) (.v (.one .bad)) (.int k2' v) trivial
                  have hS := hct f _ hc
                  obtain ⟨fn, hfn, hbody, hname⟩ := hS.fn
                  have hargs : as = #[.tmp x', .tmp y'] := by cases as; simp_all
                  refine wpList_step e9 ?_
                  have hrun3 : (execOp ((a.put (some x') (shapeV T' rv)).put (some y') (.int k2' v)).eval o3).run P w = .ok (.enter f #[shapeV T' rv, .int k2' v]) w := by
                    simp only [execOp, e7, hargs, resolve, Act.eval, Deferred.ofValue, invoke]
                    have := callFunc_run (w := w) (#[shapeV T' rv, .int k2' v]) hfn hbody hname
                    have ev1 := eval_put_ne (a.put (some x') (shapeV T' rv)) x' y' (.int k2' v) (Ne.symm hne)
                    rw [eval_put a x' _ hxs] at ev1
                    have ev2 := eval_put (a.put (some x') (shapeV T' rv)) y' (.int k2' v) (by simpa [Act.put] using hys)
                    simpa [ev1, ev2] using this
                  unfold Oper.wp
                  rw [hrun3]
                  have hFk : ∀ b, b ∈ f2 → b ∈ m.F k := fun b hb => by
                    unfold Mp.F; rw [hfp]; simp [hb]
                  have hlk : live A k := by simp [live, hk]
                  have hnd := h.nd k hlk
                  unfold Mp.F at hnd
                  rw [hfp] at hnd
                  have hO : ∀ b ∈ f2, b < w.heap.size := fun b hb => h.lt k hlk b (hFk b hb)
                  have hndf : f2.Nodup := (List.nodup_append.1 (List.nodup_append.1 (List.nodup_append.1 hnd).2.1).1).2.1
                  refine (hS.calls (rdD T' xs i, (v, ())) yr hF w [shapeV T' rv, .int k2' v] f2 (fun b => b ∉ f2) ⟨shapeV T' rv, [.int k2' v], f2, [], rfl, by simp, ⟨rv, rfl, hrow⟩, .int k2' v, [], [], [], rfl, rfl, ⟨⟨[.int k2' v], rfl, rfl, hzr⟩, rfl⟩, rfl, rfl⟩ (fun _ h => h) hndf hO).mono ?_
                  rintro ee w' ⟨rrv, fr, fo, rfl, hKp, ⟨rv1, rus, g1, g2, rfl, rfl, ⟨rcs, rfl, ⟨rfl, hrr, rfl⟩⟩, rfl, rfl⟩, ⟨ov1, ous, q1, q2, hov, rfl, ⟨ocs, hoc, hown⟩, ov2, ous2, q3, q4, hov2, rfl, hq3, hq4⟩, hndo, hXo⟩
                  obtain rfl : q3 = [] := hq3
                  obtain rfl : q4 = [] := hq4
                  simp only [List.cons.injEq] at hov
                  obtain ⟨rfl, rfl⟩ := hov
                  have hocs : ocs = rv := (shapeV_inj hoc hrl hown.length).symm
                  subst hocs
                  simp only [List.append_nil, List.nil_append] at hndo hXo
                  -- the state behind the call
                  have hout : ∀ b ∈ m.out k, b ∉ f2 := fun b hb hm => (List.nodup_append.1 hnd).2.2 b hb b (by simp [hm]) rfl
                  have hf13 : ∀ b ∈ f1 ++ f3, b ∉ f2 := fun b hb hm => by
                    have h1 := (List.nodup_append.1 hnd).2.1
                    rcases List.mem_append.1 hb with hb | hb
                    · exact (List.nodup_append.1 (List.nodup_append.1 h1).1).2.2 b hb b hm rfl
                    · exact (List.nodup_append.1 h1).2.2 b (by simp [hm]) b hb rfl
                  have hgone : ∀ b, b ∈ m.F k → Gone m A.hp (del A.hp k) b := fun b hb => gone_del hk hb
                  have hin' : ∀ b ∈ m.out k ++ (f1 ++ q1 ++ f3), b < w.heap.size → b ∈ m.F k := fun b hb hl => by
                    unfold Mp.F; rw [hfp]
                    simp only [List.mem_append] at hb ⊢
                    rcases hb with hb | (hb | hb) | hb
                    · exact .inl hb
                    · exact .inr (.inl (.inl hb))
                    · exact .inr (.inl (.inr ((hXo b hb).resolve_right (by omega))))
                    · exact .inr (.inr hb)
                  have hf := h.freeS (h' := del A.hp k) (Sub.del _ _) hKp.size hKp.os hKp.tape hKp.output (fun b hl => by
                    by_cases hb : b ∈ f2
                    · exact .inr (hgone b (hFk b hb))
                    · exact .inl (hKp.block b hl hb)) (fun b => b ∈ m.out k ++ (f1 ++ q1 ++ f3) ∨ ¬ cx.rp b) (fun b => b ∈ m.out k) (fun b hl hb => hb.elim (fun hb => .inr (hgone b (hin' b hb hl))) fun hb => .inl (h.rp b hb)) (fun _ hb => .inr hb)
                  have hsame : ∀ b ∈ m.out k ++ (f1 ++ f3), w'.heap[b]? = w.heap[b]? := fun b hb => by
                    have hl : b < w.heap.size := h.lt k hlk b (by
                      unfold Mp.F; rw [hfp]
                      simp only [List.mem_append] at hb ⊢
                      rcases hb with hb | hb | hb <;> simp [hb])
                    refine hKp.block b hl ?_
                    rcases List.mem_append.1 hb with hb | hb
                    · exact hout b hb
                    · exact hf13 b hb
                  have hmu : (Mp.upd { m with x0 := fun b => b ∈ m.out k ++ (f1 ++ q1 ++ f3) ∨ ¬ cx.rp b, x1 := fun b => b ∈ m.out k } k (m.μ k) (m.out k) (f1 ++ q1 ++ f3)).μ = m.μ := by
                    funext j; simp only [Mp.upd]; split
                    · rename_i e; rw [e]
                    · rfl
                  have hnew := hall w' yr.2.1 ocs q1 (fun b hb => hsame b (List.mem_append.2 (.inr hb))) hown
                  rw [hvs] at hnew
                  have hndn : (m.out k ++ (f1 ++ q1 ++ f3)).Nodup := by
                    have hn0 := hnd
                    have q1o : ∀ b ∈ q1, ∀ c ∈ m.out k ++ (f1 ++ f3), b ≠ c := fun b hb c hc e => by
                      subst e
                      rcases hXo b hb with h1 | h1
                      · rcases List.mem_append.1 hc with hc | hc
                        · exact hout b hc h1
                        · exact hf13 b hc h1
                      · have := h.lt k hlk b (by
                          unfold Mp.F; rw [hfp]
                          simp only [List.mem_append] at hc ⊢
                          rcases hc with hc | hc | hc <;> simp [hc])
                        omega
                    have hA := List.nodup_append.1 hn0
                    have hB := List.nodup_append.1 hA.2.1
                    have hC := List.nodup_append.1 hB.1
                    refine List.nodup_append.2 ⟨hA.1, List.nodup_append.2 ⟨List.nodup_append.2 ⟨hC.1, hndo, fun b hb c hc e => q1o c hc b (by simp [hb]) e.symm⟩, hB.2.1, fun b hb c hc e => ?_⟩, fun b hb c hc e => ?_⟩
                    · rcases List.mem_append.1 hb with hb | hb
                      · exact hB.2.2 b (by simp [hb]) c hc e
                      · exact q1o b hb c (by simp [hc]) e
                    · rcases List.mem_append.1 hc with hc | hc
                      · rcases List.mem_append.1 hc with hc | hc
                        · exact hA.2.2 b hb c (by simp [hc]) e
                        · exact q1o c hc b (by simp [hb]) e.symm
                      · exact hA.2.2 b hb c (by simp [hc]) e
                  have hadd := RelW.add hf k (.arr e T' (xs.set i.toNat yr.2.1)) (m.μ k) (m.out k) (f1 ++ q1 ++ f3) (by rw [show (shyS ⟨A.fr, del A.hp k⟩).hp = (del A.hp k).map fun (i, o) => (i, shyO o) from rfl, get_map, get_del, if_pos rfl]; rfl) (.inl rfl)
                    ⟨vs, by rw [hmu, List.length_set]; exact hh.mono fun b hb => hsame b (List.mem_append.2 (.inl hb)), hnew⟩ hndn (fun j hj b hbj hm => by
                      have hj' := (live_shy ⟨A.fr, del A.hp k⟩ j).1 hj
                      have hjA : live A j := live_sub (Sub.del _ _) hj'
                      have hjk : j ≠ k := by rintro rfl; simp [live, get_del] at hj'
                      exact h.dj j k hjA hlk hjk b hbj (hin' b hm (h.lt j hjA b hbj))) (fun b hb => by
                      rcases List.mem_append.1 hb with hb | hb
                      · exact Nat.lt_of_lt_of_le (h.lt k hlk b (by unfold Mp.F; simp [hb])) hKp.size
                      · exact OwnL.lt (fun _ _ _ h => h.lt) hnew b hb) (fun b hb => by
                      by_cases hl : b < w.heap.size
                      · exact h.own k hlk b (hin' b hb hl)
                      · exact .inr (Nat.le_trans h.keeps.size (by omega))) (fun u hu => h.pins k u hu hlk) (fun b hb => .inl hb) (fun b hb => hb)
                  have hcon := hadd.congr (h2 := (shyS ⟨A.fr, ins A.hp k (.arr e T' (xs.set i.toNat yr.2.1))⟩).hp) (fun j => by
                    simp only [shyS, get_map, get_ins, get_del]
                    split <;> simp [shyO])
                  have hp1 := hcon.put x' hxs (.v (.one .bad)) (shapeV T' ocs) trivial
                  have hp2 := hp1.put y' (by simpa [Act.put] using hys) (.v (.one .bad)) (.int k2' v) trivial
                  have hp3 := hp2.put d (by simpa [Act.put] using hds) (.v (.one (.d true (.int k3) yr.1.1))) (.int k3 yr.1.1) ⟨rfl, rfl, hrr⟩
                  rw [e8]
                  exact hK _ _ _ ho ⟨_, hp3⟩ (by simp only [put_size]; exact hs)
              · exact halt ho
            · exact halt ho
          · exact halt ho
        · exact halt ho
      · exact halt ho
    · exact halt ho
  · exact halt ho
theorem rowF_ok {R : Type} {E : Env} (hE : EnvOk P E) (hct : ∀ f c, get E.ct f = some c → Sat P f c) {ops : Array Oper} {K : AS → Option R} {alt : Option R} {r : R} {Q : Exit → Act → World → Prop} {n : Nat} {o1 o2 o3 : Oper} {post : List Oper}
    (hK : ∀ A' a' w', K A' = some r → Rel cx A' a' w' → a'.tmps.size = n → wpList P ops Q post a' w') (h : Rel cx A a w) (hs : a.tmps.size = n) (hd : [o1, o2, o3].all (dstOk n) = true) (halt : alt = some r → wpList P ops Q (o1 :: o2 :: o3 :: post) a w) (ho : rowF E A o1 o2 o3 K alt = some r) : wpList P ops Q (o1 :: o2 :: o3 :: post) a w := by
  simp only [List.all_cons, List.all_nil, Bool.and_true, Bool.and_eq_true] at hd
  obtain ⟨hd1, hd2, hd3⟩ := hd
  unfold rowF at ho
  split at ho
  · rename_i t p x z y e1 e2 e3 e4 e5 e6
    split at ho
    · rename_i f as ats d e7 e8 e9
      split at ho
      · rename_i x' y' has
        split at ho
        · rename_i hxy
          obtain ⟨rfl, rfl, hne⟩ := hxy
          split at ho
          · rename_i k sz i o hp
            split at ho
            · rename_i T k2 k3 F e T' xs pz k2' v hc hk hz
              split at ho
              · rename_i hcond
                obtain ⟨hone, rfl, rfl, htt⟩ := hcond
                rcases hg : getS T' o T (rdD T' xs i) with _ | row
                · rw [hg] at ho; exact halt ho
                rw [hg] at ho
                simp only at ho
                cases hF : F (row, (v, ())) with
                | none => rw [hF] at ho; cases ho
                | some yr =>
                  rw [hF] at ho
                  simp only [Option.bind_some] at ho
                  rcases hset : setS T' o T yr.2.1 (rdD T' xs i) with _ | row'
                  · rw [hset] at ho; cases ho
                  rw [hset] at ho
                  simp only at ho
                  have hxs : x' < a.tmps.size := by rw [hs]; exact dstOk_lt hd1 _ e2
                  have hys : y' < a.tmps.size := by rw [hs]; exact dstOk_lt hd2 _ e5
                  have hds : d < a.tmps.size := by rw [hs]; exact dstOk_lt hd3 _ e8
                  obtain ⟨m0, h0⟩ := h
                  have h := h0.clear
                  generalize hm : ({ m0 with x0 := fun b => ¬ cx.rp b, x1 := fun _ => False } : Mp) = m at h
                  clear hm h0
                  obtain ⟨_, hT⟩ := hE.fit htt
                  have hcells : T.cells = 1 := by cases T <;> simp_all [Ty.one, Ty.cells]
                  have hpv := opdC_ok h (.tmp p)
                  rw [hp] at hpv
                  obtain ⟨ad, nn, cc, hμ, hi0, hi1, hpv⟩ := hpv
                  obtain ⟨vs, hh, hol⟩ := h.hp k _ hk
                  obtain ⟨a', cap, hsl, _, _, _, hat⟩ := hh.cells (R := fun _ => True) (fun _ _ => trivial)
                  rw [hμ] at hsl
                  simp only [Value.slice.injEq] at hsl
                  obtain ⟨rfl, rfl, rfl⟩ := hsl
                  have hin : i.toNat < xs.length := by omega
                  obtain ⟨f1, f2, f3, rv, hfp, hrl, hrow, hcell, hall⟩ : ∃ (f1 f2 f3 : List Nat) (rv : List Value), m.inn k = f1 ++ f2 ++ f3 ∧ rv.length = T.cells ∧ Own w T row rv f2 ∧ (∀ j u, rv[j]? = some u → w.cell? (((ad.add (i.toNat * T'.cells)).add o).add j) = some u) ∧ ∀ (w' : World) (fy : List Nat), (∀ b ∈ f1 ++ f3, w'.heap[b]? = w.heap[b]?) → Own w' T yr.2.1 rv fy → OwnL (Own w' T') (xs.set i.toNat row') vs (f1 ++ fy ++ f3) := by
                    obtain ⟨p1, p2, p3, hfp0, hrow0, hvs0, hall0⟩ := OwnL.split i.toNat _ (getD_some (d := T'.zero) hin) hol
                    obtain ⟨v0, g1, g2, g3, hc0, hf2, hrow, hfld⟩ := Own.fld hcells hrow0 hg
                    have hrl0 := hrow0.length
                    have hoc := (List.getElem?_eq_some_iff.1 hc0).1
                    refine ⟨p1 ++ g1, g2, g3 ++ p3, [v0], by rw [hfp0, hf2]; simp, by rw [hcells]; rfl, hrow, fun j u hj => ?_, fun w' fy hm hy => ?_⟩
                    · cases j with
                      | succ j => simp at hj
                      | zero =>
                        simp only [List.getElem?_cons_zero, Option.some.injEq] at hj
                        subst hj
                        rw [add_add', add_add', Nat.add_zero]
                        rw [List.getElem?_take_of_lt (by omega), List.getElem?_drop] at hc0
                        rcases hat with rfl | ⟨ad', he, _, hc'⟩
                        · simp at hc0
                        · cases he; exact hc' _ _ hc0
                    · have h1 := hfld w' yr.2.1 v0 fy row' (fun b hb => hm b (by rcases List.mem_append.1 hb with hb | hb <;> simp [hb])) hy hset
                      obtain ⟨hb0, he0⟩ := List.getElem?_eq_some_iff.1 hc0
                      rw [← he0, List.set_getElem_self] at h1
                      have h2 := hall0 w' row' _ (g1 ++ fy ++ g3) (fun b hb => hm b (by rcases List.mem_append.1 hb with hb | hb <;> simp [hb])) h1
                      rw [hvs0] at h2
                      simpa [List.append_assoc] using h2
                  have hrun := run_loadVar hT w ((ad.add (i.toNat * T'.cells)).add o) rv hrl hcell
                  refine wpList_step e3 (wp_val (v := shapeV T rv) (w' := w) (by
                    simp only [execOp, e1, hpv]; exact run_v (by simp [Instr.loadAt, Instr.sureAddr, hrun])) ?_)
                  rw [e2]
                  have h1 := h.put x' hxs (.v (.one .bad)) (shapeV T rv) trivial
                  have hzv := opdC_ok h1 z
                  rw [show opdC { A with fr := ins A.fr x' (.v (.one .bad)) } z = .d pz (.int k2') v from hz] at hzv
                  obtain ⟨hzv, hzr⟩ := hzv.int
                  refine wpList_step e6 (wp_val (v := .int k2' v) (w' := w) (by simp [execOp, e4, hzv]) ?_)
                  rw [e5]
                  have h2 := h1.put y' (by simpa [Act.put] using hys) (.v (.one .bad)) (.int k2' v) trivial
                  have hS := hct f _ hc
                  obtain ⟨fn, hfn, hbody, hname⟩ := hS.fn
                  have hargs : as = #[.tmp x', .tmp y'] := by cases as; simp_all
                  refine wpList_step e9 ?_
                  have hrun3 : (execOp ((a.put (some x') (shapeV T rv)).put (some y') (.int k2' v)).eval o3).run P w = .ok (.enter f #[shapeV T rv, .int k2' v]) w := by
                    simp only [execOp, e7, hargs, resolve, Act.eval, Deferred.ofValue, invoke]
                    have := callFunc_run (w := w) (#[shapeV T rv, .int k2' v]) hfn hbody hname
                    have ev1 := eval_put_ne (a.put (some x') (shapeV T rv)) x' y' (.int k2' v) (Ne.symm hne)
                    rw [eval_put a x' _ hxs] at ev1
                    have ev2 := eval_put (a.put (some x') (shapeV T rv)) y' (.int k2' v) (by simpa [Act.put] using hys)
                    simpa [ev1, ev2] using this
                  unfold Oper.wp
                  rw [hrun3]
                  have hFk : ∀ b, b ∈ f2 → b ∈ m.F k := fun b hb => by
                    unfold Mp.F; rw [hfp]; simp [hb]
                  have hlk : live A k := by simp [live, hk]
                  have hnd := h.nd k hlk
                  unfold Mp.F at hnd
                  rw [hfp] at hnd
                  have hO : ∀ b ∈ f2, b < w.heap.size := fun b hb => h.lt k hlk b (hFk b hb)
                  have hndf : f2.Nodup := (List.nodup_append.1 (List.nodup_append.1 (List.nodup_append.1 hnd).2.1).1).2.1
                  refine (hS.calls (row, (v, ())) yr hF w [shapeV T rv, .int k2' v] f2 (fun b => b ∉ f2) ⟨shapeV T rv, [.int k2' v], f2, [], rfl, by simp, ⟨rv, rfl, hrow⟩, .int k2' v, [], [], [], rfl, rfl, ⟨⟨[.int k2' v], rfl, rfl, hzr⟩, rfl⟩, rfl, rfl⟩ (fun _ h => h) hndf hO).mono ?_
                  rintro ee w' ⟨rrv, fr, fo, rfl, hKp, ⟨rv1, rus, g1, g2, rfl, rfl, ⟨rcs, rfl, ⟨rfl, hrr, rfl⟩⟩, rfl, rfl⟩, ⟨ov1, ous, q1, q2, hov, rfl, ⟨ocs, hoc, hown⟩, ov2, ous2, q3, q4, hov2, rfl, hq3, hq4⟩, hndo, hXo⟩
                  obtain rfl : q3 = [] := hq3
                  obtain rfl : q4 = [] := hq4
                  simp only [List.cons.injEq] at hov
                  obtain ⟨rfl, rfl⟩ := hov
                  have hocs : ocs = rv := (shapeV_inj hoc hrl hown.length).symm
                  subst hocs
                  simp only [List.append_nil, List.nil_append] at hndo hXo
                  -- the state behind the call
                  have hout : ∀ b ∈ m.out k, b ∉ f2 := fun b hb hm => (List.nodup_append.1 hnd).2.2 b hb b (by simp [hm]) rfl
                  have hf13 : ∀ b ∈ f1 ++ f3, b ∉ f2 := fun b hb hm => by
                    have h1 := (List.nodup_append.1 hnd).2.1
                    rcases List.mem_append.1 hb with hb | hb
                    · exact (List.nodup_append.1 (List.nodup_append.1 h1).1).2.2 b hb b hm rfl
                    · exact (List.nodup_append.1 h1).2.2 b (by simp [hm]) b hb rfl
                  have hgone : ∀ b, b ∈ m.F k → Gone m A.hp (del A.hp k) b := fun b hb => gone_del hk hb
                  have hin' : ∀ b ∈ m.out k ++ (f1 ++ q1 ++ f3), b < w.heap.size → b ∈ m.F k := fun b hb hl => by
                    unfold Mp.F; rw [hfp]
                    simp only [List.mem_append] at hb ⊢
                    rcases hb with hb | (hb | hb) | hb
                    · exact .inl hb
                    · exact .inr (.inl (.inl hb))
                    · exact .inr (.inl (.inr ((hXo b hb).resolve_right (by omega))))
                    · exact .inr (.inr hb)
                  have hf := h.freeS (h' := del A.hp k) (Sub.del _ _) hKp.size hKp.os hKp.tape hKp.output (fun b hl => by
                    by_cases hb : b ∈ f2
                    · exact .inr (hgone b (hFk b hb))
                    · exact .inl (hKp.block b hl hb)) (fun b => b ∈ m.out k ++ (f1 ++ q1 ++ f3) ∨ ¬ cx.rp b) (fun b => b ∈ m.out k) (fun b hl hb => hb.elim (fun hb => .inr (hgone b (hin' b hb hl))) fun hb => .inl (h.rp b hb)) (fun _ hb => .inr hb)
                  have hsame : ∀ b ∈ m.out k ++ (f1 ++ f3), w'.heap[b]? = w.heap[b]? := fun b hb => by
                    have hl : b < w.heap.size := h.lt k hlk b (by
                      unfold Mp.F; rw [hfp]
                      simp only [List.mem_append] at hb ⊢
                      rcases hb with hb | hb | hb <;> simp [hb])
                    refine hKp.block b hl ?_
                    rcases List.mem_append.1 hb with hb | hb
                    · exact hout b hb
                    · exact hf13 b hb
                  have hmu : (Mp.upd { m with x0 := fun b => b ∈ m.out k ++ (f1 ++ q1 ++ f3) ∨ ¬ cx.rp b, x1 := fun b => b ∈ m.out k } k (m.μ k) (m.out k) (f1 ++ q1 ++ f3)).μ = m.μ := by
                    funext j; simp only [Mp.upd]; split
                    · rename_i e; rw [e]
                    · rfl
                  have hnew := hall w' q1 (fun b hb => hsame b (List.mem_append.2 (.inr hb))) hown
                  have hndn : (m.out k ++ (f1 ++ q1 ++ f3)).Nodup := by
                    have hn0 := hnd
                    have q1o : ∀ b ∈ q1, ∀ c ∈ m.out k ++ (f1 ++ f3), b ≠ c := fun b hb c hc e => by
                      subst e
                      rcases hXo b hb with h1 | h1
                      · rcases List.mem_append.1 hc with hc | hc
                        · exact hout b hc h1
                        · exact hf13 b hc h1
                      · have := h.lt k hlk b (by
                          unfold Mp.F; rw [hfp]
                          simp only [List.mem_append] at hc ⊢
                          rcases hc with hc | hc | hc <;> simp [hc])
                        omega
                    have hA := List.nodup_append.1 hn0
                    have hB := List.nodup_append.1 hA.2.1
                    have hC := List.nodup_append.1 hB.1
                    refine List.nodup_append.2 ⟨hA.1, List.nodup_append.2 ⟨List.nodup_append.2 ⟨hC.1, hndo, fun b hb c hc e => q1o c hc b (by simp [hb]) e.symm⟩, hB.2.1, fun b hb c hc e => ?_⟩, fun b hb c hc e => ?_⟩
                    · rcases List.mem_append.1 hb with hb | hb
                      · exact hB.2.2 b (by simp [hb]) c hc e
                      · exact q1o b hb c (by simp [hc]) e
                    · rcases List.mem_append.1 hc with hc | hc
                      · rcases List.mem_append.1 hc with hc | hc
                        · exact hA.2.2 b hb c (by simp [hc]) e
                        · exact q1o c hc b (by simp [hb]) e.symm
                      · exact hA.2.2 b hb c (by simp [hc]) e
                  have hadd := RelW.add hf k (.arr e T' (xs.set i.toNat row')) (m.μ k) (m.out k) (f1 ++ q1 ++ f3) (by rw [show (shyS ⟨A.fr, del A.hp k⟩).hp = (del A.hp k).map fun (i, o) => (i, shyO o) from rfl, get_map, get_del, if_pos rfl]; rfl) (.inl rfl)
                    ⟨vs, by rw [hmu, List.length_set]; exact hh.mono fun b hb => hsame b (List.mem_append.2 (.inl hb)), hnew⟩ hndn (fun j hj b hbj hm => by
                      have hj' := (live_shy ⟨A.fr, del A.hp k⟩ j).1 hj
                      have hjA : live A j := live_sub (Sub.del _ _) hj'
                      have hjk : j ≠ k := by rintro rfl; simp [live, get_del] at hj'
                      exact h.dj j k hjA hlk hjk b hbj (hin' b hm (h.lt j hjA b hbj))) (fun b hb => by
                      rcases List.mem_append.1 hb with hb | hb
                      · exact Nat.lt_of_lt_of_le (h.lt k hlk b (by unfold Mp.F; simp [hb])) hKp.size
                      · exact OwnL.lt (fun _ _ _ h => h.lt) hnew b hb) (fun b hb => by
                      by_cases hl : b < w.heap.size
                      · exact h.own k hlk b (hin' b hb hl)
                      · exact .inr (Nat.le_trans h.keeps.size (by omega))) (fun u hu => h.pins k u hu hlk) (fun b hb => .inl hb) (fun b hb => hb)
                  have hcon := hadd.congr (h2 := (shyS ⟨A.fr, ins A.hp k (.arr e T' (xs.set i.toNat row'))⟩).hp) (fun j => by
                    simp only [shyS, get_map, get_ins, get_del]
                    split <;> simp [shyO])
                  have hp1 := hcon.put x' hxs (.v (.one .bad)) (shapeV T ocs) trivial
                  have hp2 := hp1.put y' (by simpa [Act.put] using hys) (.v (.one .bad)) (.int k2' v) trivial
                  have hp3 := hp2.put d (by simpa [Act.put] using hds) (.v (.one (.d true (.int k3) yr.1.1))) (.int k3 yr.1.1) ⟨rfl, rfl, hrr⟩
                  rw [e8]
                  exact hK _ _ _ ho ⟨_, hp3⟩ (by simp only [put_size]; exact hs)
              · exact halt ho
            · exact halt ho
          · exact halt ho
        · exact halt ho
      · exact halt ho
    · exact halt ho
  · exact halt ho
theorem evReg_ok {R : Type} {E : Env} (hE : EnvOk P E) (hct : ∀ f c, get E.ct f = some c → Sat P f c) {id : Nat} {ops : Array Oper} {K : AS → Option R} {r : R} (hpins : ∀ k u, (k, u) ∈ cx.pins → pinBase ≤ k) {Q : Exit → Act → World → Prop} {n : Nat} (hn : n ≤ 60000)
    (hK : ∀ A' a' w', K A' = some r → Rel cx A' a' w' → a'.tmps.size = n → Q .normal a' w') (h : Rel cx A a w) (hs : a.tmps.size = n) (hd : ops.toList.all (dstOk n) = true) (ho : evReg E ops.toList K A = some r) : (Code.region id ops false).wp P Q a w := by
  refine wp_region ?_
  have key : wpList P ops Q ops.toList a w := by
    unfold evReg at ho
    split at ho
    · rename_i pre o1 o2 o3 post hl
      have he := cut3_eq hl
      have hd' := hd
      rw [he, List.all_append, Bool.and_eq_true] at hd'
      have hd3 : [o1, o2, o3].all (dstOk n) = true ∧ post.all (dstOk n) = true := by
        have := hd'.2
        simp only [List.all_cons, Bool.and_eq_true, List.all_nil, Bool.and_true] at this ⊢
        exact ⟨⟨this.1, this.2.1, this.2.2.1⟩, this.2.2.2⟩
      rw [he]
      have hpost : ∀ (A'' : AS) (a'' : Act) (w'' : World), evOps E ops.toList K post A'' = some r → Rel cx A'' a'' w'' → a''.tmps.size = n → wpList P ops Q post a'' w'' := fun A'' a'' w'' hk' hr' hs'' => evOps_ok (P := P) hE hct hpins hn hK post A'' a'' w'' hr' hs'' hd3.2 hk'
      exact evOps_pre (P := P) hE hct hpins hn (fun A' a' w' hk hr hs' => rowA_ok hE hct hpost hr hs' hd3.1 (fun hf => rowF_ok hE hct hpost hr hs' hd3.1 (fun ha => evOps_ok (P := P) hE hct hpins hn hK _ A' a' w' hr hs' hd'.2 ha) hf) hk) pre A a w h hs hd'.1 ho
    · exact evOps_ok (P := P) hE hct hpins hn hK ops.toList A a w h hs hd ho
  rw [← wpOps_eq_wpList ops.toList 0 (fun j => by simp)] at key
  rw [List.range_eq_range']
  simpa using key
end
end Go.Refl
