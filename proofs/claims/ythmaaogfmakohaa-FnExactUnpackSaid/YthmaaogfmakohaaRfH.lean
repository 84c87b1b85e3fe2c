/- The evaluator is right: an operation that but reads; guards; regions in order. No program in sight. No condition. -/
import Derived.Test.YthmaaogfmakohaaRfG
namespace Go.Refl
open Go.RowKit
set_option linter.unusedVariables false
set_option linter.unusedSimpArgs false

section
variable {cx : Cx} {A : AS} {a : Act} {w : World} {P : Program}
theorem run_vb {s : Sem Value} {v : Value} (h : RunB P w s v) : ∀ w', Below w.heap.size w w' → ((do pure (.value (← s)) : Sem Next)).run P w' = .ok (.value v) w' := fun w' hw => by simp [h w' hw]
theorem ro_below {R : Nat → Prop} {w' : World} {t : Ty} {x : t.D} {cs : List Value} (h : Ro R w t x cs) (hb : Below w.heap.size w w') : Ro R w' t x cs :=
  h.mono fun b hR hl => ⟨hb.block b hl, hR⟩
theorem convQ_ok {R : Type} {E : Env} (hE : EnvOk P E) {d : Nat} (hd : d < a.tmps.size) {m : Mp} (h : RelW cx A a w m) {src dst : TypeId} (hq : quietT (tyOf E.tt dst) = true) {c : AC} {vc : Value} (hc : VC w (R0of A m) (R1of A m) m.μ c vc) {K : AS → Option R} {r : R} (hk : convA E A d src dst c K = some r) :
    ∃ c' v, RunB P w (convert src dst vc) v ∧ VC w (R0of A m) (R1of A m) m.μ c' v ∧ K (put1 A d c') = some r := by
  unfold convA at hk
  split at hk
  · rename_i k0 k p k' n hsrc hdst
    obtain ⟨_, hTs⟩ := hE.fit hsrc
    obtain ⟨_, hTd⟩ := hE.fit hdst
    obtain ⟨rfl, _⟩ := hc.int
    refine ⟨_, .int k (k.wrap n), ?_, VC.mkInt w (R0of A m) (R1of A m) m.μ true (inR_wrap _ _), hk⟩
    intro w' _
    simp [convert, run_underlying (show P.underlying src = _ from hTs.und), run_underlying (show P.underlying dst = _ from hTd.und), Conv.intToInt]
  · rename_i k0 p k' n hsrc hdst
    obtain ⟨_, hTs⟩ := hE.fit hsrc
    obtain ⟨_, hTd⟩ := hE.fit hdst
    obtain ⟨rfl, _⟩ := hc.int
    obtain ⟨h0, h1, hk⟩ := ck2 hk
    obtain ⟨he, hr⟩ := ascii_enc n (of_decide_eq_true h0) (of_decide_eq_true h1)
    refine ⟨.d true .str [n], .string (Utf8.encode n), ?_, ?_, hk⟩
    · intro w' _
      simp [convert, run_underlying (show P.underlying src = _ from hTs.und), run_underlying (show P.underlying dst = _ from hTd.und), Conv.intToString]
    · rw [he]
      exact str_mk (μ := m.μ) (by intro x hx; simp at hx; rw [hx]; exact hr) (by simp [big47])
  · rename_i e _ hsrc hdst
    obtain ⟨_, hTs⟩ := hE.fit hsrc
    obtain ⟨_, hTd⟩ := hE.fit hdst
    obtain ⟨hs, b', he⟩ := hTs.und
    split at hk
    · rename_i xs hrd
      obtain ⟨v1, v2, hv12, hro, hr2, _⟩ := readC_ok h (fun _ => True) _ A.hp _ [vc] xs [] (Sub.refl _) (show All2 _ [_] [vc] from ⟨vc, [], rfl, hc, rfl⟩) ⟨fun _ _ => trivial, fun _ _ _ => trivial, fun _ _ _ _ _ => trivial⟩ hrd
      have hv2 : v2 = [] := hr2
      subst hv2
      rw [List.append_nil] at hv12
      subst hv12
      have key := fun w' (hb : Below w.heap.size w w') => run_bytes_string (P := P) hs (hE.ty _ _ _ he).und hTd.und w' (ro_below hro hb)
      obtain ⟨h1, h2, h3⟩ := key w (Below.refl _ _)
      exact ⟨_, _, fun w' hb => (key w' hb).1, str_mk (μ := m.μ) h2 h3, hk⟩
    · cases hk
  · rename_i e e2 t2 k hsrc hdst
    rw [hdst] at hq
    cases hq
  · cases hk
theorem q1_ok {R : Type} {E : Env} (hE : EnvOk P E) {o : Oper} {K : AS → Option R} {r : R} (hq : quietK E o = true) (h : Rel cx A a w) (hd : ∀ d, o.dst = some d → d < a.tmps.size)
    (ho : op1 E A o K = some r) : ∃ v A', (∀ w', Below w.heap.size w w' → (execOp a.eval o).run P w' = .ok (.value v) w') ∧ K A' = some r ∧ Rel cx A' (a.put o.dst v) w := by
  obtain ⟨m0, h0⟩ := h
  have h := h0.clear
  generalize hm : ({ m0 with x0 := fun b => ¬ cx.rp b, x1 := fun _ => False } : Mp) = m at h
  have hx : X0 m := by rw [← hm]; exact fun _ h => h
  clear hm h0
  unfold op1 at ho
  split at ho
  · rename_i x d he hde
    refine ⟨a.eval x, _, fun w' _ => by simp [execOp, he], ho, ?_⟩
    rw [hde]; exact ⟨m, h.put d (hd d hde) _ _ (opd_ok h x)⟩
  · rename_i x d he hde
    refine ⟨a.eval x, _, fun w' _ => by simp [execOp, he], ho, ?_⟩
    rw [hde]; exact ⟨m, h.put d (hd d hde) _ _ (opd_ok h x)⟩
  · rename_i c x y d he hde
    split at ho
    · rename_i p b hc
      have hb := opdC_ok h c
      rw [hc] at hb
      have hb := hb.bool
      rcases brk_some ho with ⟨rfl, ho⟩ | ⟨rfl, ho⟩
      · refine ⟨a.eval x, _, fun w' _ => by simp [execOp, he, hb, asBool], ho, ?_⟩
        rw [hde]; exact ⟨m, h.put d (hd d hde) _ _ (opd_ok h x)⟩
      · refine ⟨a.eval y, _, fun w' _ => by simp [execOp, he, hb, asBool], ho, ?_⟩
        rw [hde]; exact ⟨m, h.put d (hd d hde) _ _ (opd_ok h y)⟩
    · cases ho
  · rename_i t d he hde; simp [quietK, he] at hq
  · rename_i t x d he hde; simp [quietK, he] at hq
  · -- build
    rename_i t ps d he hde
    split at ho
    · rename_i ta tb ht
      split at ho
      · rename_i cs hf
        obtain ⟨v, hr, hv⟩ := build_ok hE ht h hf
        refine ⟨v, _, fun w' _ => ?_, ho, ?_⟩
        · simp only [execOp, he]; exact run_v (hr w')
        · rw [hde]; exact ⟨m, h.put d (hd d hde) (.v (.agg cs)) _ hv⟩
      · cases ho
    · cases ho
  · rename_i t n ps d he hde; simp [quietK, he] at hq
  · -- load
    rename_i t x d he hde
    split at ho
    · rename_i T ht
      obtain ⟨_, hT⟩ := hE.fit ht
      split at ho
      · rename_i v hl
        obtain ⟨u, hr, hv⟩ := loadA_ok hT h hx (opdC_ok h x) hl
        refine ⟨u, _, ?_, ho, ?_⟩
        · simp only [execOp, he]; exact run_vb hr
        · rw [hde]; exact ⟨m, h.put d (hd d hde) (.v v) _ hv⟩
      · cases ho
    · cases ho
  · rename_i t x v he; simp [quietK, he] at hq
  · -- nilCheck
    rename_i x d he hde
    have hc := opdC_ok h x
    split at ho
    · rename_i k off heq
      rw [heq] at hc
      obtain ⟨g, hμ, hv⟩ := hc
      refine ⟨a.eval x, _, fun w' _ => by simp [execOp, he, hv], ho, ?_⟩
      rw [hde]; exact ⟨m, h.put d (hd d hde) (.v (.one (.bptr k off))) _ ⟨g, hμ, hv⟩⟩
    · rename_i k s i heq
      rw [heq] at hc
      obtain ⟨ad, n, c, h1, h2, h3, hv⟩ := hc
      refine ⟨a.eval x, _, fun w' _ => by simp [execOp, he, hv], ho, ?_⟩
      rw [hde]; exact ⟨m, h.put d (hd d hde) (.v (.one (.eptr k s i))) _ ⟨ad, n, c, h1, h2, h3, hv⟩⟩
    · rename_i p t y heq
      rw [heq] at hc
      obtain ⟨ad, vs, hv, h1, h2⟩ := hc
      refine ⟨a.eval x, _, fun w' _ => by simp [execOp, he, hv], ho, ?_⟩
      rw [hde]; exact ⟨m, h.put d (hd d hde) (.v (.one (.rptr p t y))) _ ⟨ad, vs, hv, h1, h2⟩⟩
    · cases ho
  · -- binOp
    rename_i b t x y yt d he hde
    obtain ⟨c, v, hr, hv, hk⟩ := binA_ok P ho w t _ _ _ (opdC_ok h x) (opdC_ok h y) (isB_ok hE) (isSlO_ok hE)
    refine ⟨v, _, ?_, hk, ?_⟩
    · simp only [execOp, he]
      refine run_vb fun w' hb => ?_
      have hg := eqGuard_ok (P := P) (w := w) (op := b) (t := t) (x := x) (y := y) (vb := a.eval y) (opdC_ok h x) (binA_ne (cb := opdC A y) ho)
      simp [hg w', hr w' hb]
    · rw [hde]; exact ⟨m, h.put d (hd d hde) (.v (.one c)) _ hv⟩
  · -- unOp
    rename_i u t x d he hde
    obtain ⟨c, v, hr, hv, hk⟩ := unA_ok P ho w _ _ _ (opdC_ok h x)
    refine ⟨v, _, ?_, hk, ?_⟩
    · simp only [execOp, he]; exact run_vb hr
    · rw [hde]; exact ⟨m, h.put d (hd d hde) (.v (.one c)) _ hv⟩
  · -- convert
    rename_i s t x d he hde
    obtain ⟨c, v, hr, hv, hk⟩ := convQ_ok hE (hd d hde) h (by simpa only [quietK, he, hde] using hq) (opdC_ok h x) ho
    refine ⟨v, _, ?_, hk, ?_⟩
    · simp only [execOp, he]; exact run_vb hr
    · rw [hde]; exact ⟨m, h.put d (hd d hde) (.v (.one c)) _ hv⟩
  · rename_i t l c d he hde; simp [quietK, he] at hq
  · -- slice
    rename_i t x lo hi d he hde
    split at ho
    · rename_i e T l h' ht hlo hhi
      obtain ⟨_, hTs⟩ := hE.fit ht
      obtain ⟨hu, b', hb'⟩ := hTs.und
      obtain ⟨c, v, hr, hv, hk⟩ := sliceA_ok (P := P) (E := E) hu (hE.ty _ _ _ hb') h (opdC_ok h x) (optInt_ok h hlo) (optInt_ok h hhi) ho
      refine ⟨v, _, ?_, hk, ?_⟩
      · simp only [execOp, he]; exact run_vb hr
      · rw [hde]; exact ⟨m, h.put d (hd d hde) (.v (.one c)) _ hv⟩
    · cases ho
  · -- fieldAddr
    rename_i t x f d he hde
    split at ho
    · rename_i T ht
      have hc := opdC_ok h x
      split at ho
      · rename_i k off heq
        rw [heq] at hc
        obtain ⟨g, hμ, hv⟩ := hc
        split at ho
        · rename_i o' ft hf
          refine ⟨.pointer (some ⟨g, off + o', none⟩), _, ?_, ho, ?_⟩
          · simp only [execOp, he, hv]
            refine run_vb fun w' _ => ?_
            rw [run_fieldAt hE ht hf w' ⟨g, off, none⟩, add_plain']
          · rw [hde]; exact ⟨m, h.put d (hd d hde) (.v (.one (.bptr k (off + o')))) _ ⟨g, hμ, rfl⟩⟩
        · cases ho
      · rename_i p t' y heq
        rw [heq] at hc
        split at ho
        · rename_i htt
          subst htt
          split at ho
          · rename_i t2 z hp
            obtain ⟨ad, vs, hv, hat, hro⟩ := hc
            obtain ⟨_, hT⟩ := hE.fit ht
            have hund := hT.und
            cases t' with
            | pair ta tb =>
              obtain ⟨fs, hfs, hff⟩ := hund
              obtain ⟨o', hn, hro2⟩ := proj_ok hff hp hro
              refine ⟨.pointer (some (ad.add o')), _, ?_, ho, ?_⟩
              · simp only [execOp, he, hv]; exact run_vb fun w' _ => run_fieldAt hE ht hn w' ad
              · rw [hde]
                refine ⟨m, h.put d (hd d hde) (.v (.one (.rptr p t2 z))) _ ⟨ad.add o', _, rfl, ?_, hro2⟩⟩
                exact (hat.drop o').take _
            | _ => cases f <;> simp [projF] at hp
          · cases ho
        · cases ho
      · rename_i k sz i heq
        rw [heq] at hc
        obtain ⟨ad, n', c', hμ, hi0, hi1, hv⟩ := hc
        split at ho
        · rename_i o' ft hf
          refine ⟨.pointer (some ((ad.add (i.toNat * sz)).add o')), _, ?_, ho, ?_⟩
          · simp only [execOp, he, hv]; exact run_vb fun w' _ => run_fieldAt hE ht hf w' _
          · rw [hde]; exact ⟨m, h.put d (hd d hde) (.v (.one (.fptr k sz i o'))) _ ⟨ad, n', c', hμ, hi0, hi1, rfl⟩⟩
        · cases ho
      · cases ho
    · cases ho
  · -- indexAddr
    rename_i t x i d he hde
    split at ho
    · rename_i e T k n ht hi
      obtain ⟨_, hTs⟩ := hE.fit ht
      obtain ⟨hu, b', hb'⟩ := hTs.und
      obtain ⟨hvi, _⟩ := intC_ok hi (opdC_ok h i)
      obtain ⟨c, v, hr, hv, hk⟩ := idxA_ok (k := k) hE hu (hE.ty _ _ _ hb') h (opdC_ok h x) ho
      refine ⟨v, _, ?_, hk, ?_⟩
      · simp only [execOp, he, hvi]; exact run_vb hr
      · rw [hde]; exact ⟨m, h.put d (hd d hde) (.v (.one c)) _ hv⟩
    · cases ho
  · -- extract
    rename_i x i d he hde
    split at ho
    · rename_i as heq
      have hv := opd_ok h x
      rw [heq] at hv
      obtain ⟨vs, hv, ha⟩ := hv
      split at ho
      · rename_i b hb
        obtain ⟨u, hu, hvu⟩ := ha.at hb
        refine ⟨u, _, ?_, ho, ?_⟩
        · simp only [execOp, he, hv]; refine run_vb fun w' _ => ?_; simp [Instr.extract, hu]
        · rw [hde]; exact ⟨m, h.put d (hd d hde) (.v b) _ hvu⟩
      · cases ho
    · cases ho
  · rename_i f first caps d he hde; simp [quietK, he] at hq
  · rename_i f as ats d he hde; simp [quietK, he] at hq
  · -- len
    rename_i as ts d he hde
    split at ho
    · rename_i x t hxs hts
      split at ho
      · rename_i T ht
        split at ho
        · rename_i n hl
          obtain ⟨_, hT⟩ := hE.fit ht
          obtain ⟨hr, hi⟩ := lenC_ok hT h (opdC_ok h x) hl o.type
          have e1 : as = #[x] := by rw [← Array.toArray_toList (xs := as), hxs]
          have e2 : ts = #[t] := by rw [← Array.toArray_toList (xs := ts), hts]
          refine ⟨.int .i64 n, _, fun w' hb => ?_, ho, ?_⟩
          · simp [execOp, he, resolve, invoke, builtin, e1, e2, hr w' hb]
          · rw [hde]; exact ⟨m, h.put d (hd d hde) (.v (.one (.d true (.int .i64) n))) _ (VC.mkInt w _ _ m.μ true hi)⟩
        · cases ho
      · cases ho
    · cases ho
  · rename_i as ts d he hde; simp [quietK, he] at hq
  · rename_i as ts d he hde; simp [quietK, he] at hq
  · -- min
    rename_i as ts d he hde
    split at ho
    · rename_i x y hxs
      obtain ⟨c, v, hr, hv, hk⟩ := mmA_ok (P := P) ho w _ _ _ (opdC_ok h x) (opdC_ok h y)
      have e1 : as = #[x, y] := by rw [← Array.toArray_toList (xs := as), hxs]
      refine ⟨v, _, fun w' hb => ?_, hk, ?_⟩
      · simp [execOp, he, resolve, invoke, builtin, e1, Builtin.min_, hr w']
      · rw [hde]; exact ⟨m, h.put d (hd d hde) (.v (.one c)) _ hv⟩
    · cases ho
  · -- max
    rename_i as ts d he hde
    split at ho
    · rename_i x y hxs
      obtain ⟨c, v, hr, hv, hk⟩ := mmA_ok (P := P) ho w _ _ _ (opdC_ok h x) (opdC_ok h y)
      have e1 : as = #[x, y] := by rw [← Array.toArray_toList (xs := as), hxs]
      refine ⟨v, _, fun w' hb => ?_, hk, ?_⟩
      · simp [execOp, he, resolve, invoke, builtin, e1, Builtin.max_, hr w']
      · rw [hde]; exact ⟨m, h.put d (hd d hde) (.v (.one c)) _ hv⟩
    · cases ho
  · rename_i as ts he; simp [quietK, he] at hq
  · cases ho
theorem still_ok {R : Type} {E : Env} (hct : ∀ f c, get E.ct f = some c → Sat P f c) {o : Oper} {K : AS → Option R} {r : R} (hq : stillK E o = true) (h : Rel cx A a w) (hpins : ∀ k u, (k, u) ∈ cx.pins → pinBase ≤ k) (hd : ∀ d, o.dst = some d → d < a.tmps.size)
    (ho : op1 E A o K = some r) {next : Act → World → Prop} {Q : Exit → Act → World → Prop} (hK : ∀ A' v w', K A' = some r → Rel cx A' (a.put o.dst v) w' → Below w.heap.size w w' → next (a.put o.dst v) w') : o.wp P a w next Q := by
  obtain ⟨m0, h0⟩ := h
  have h := h0.clear
  generalize hm : ({ m0 with x0 := fun b => ¬ cx.rp b, x1 := fun _ => False } : Mp) = m at h
  have hx : X0 m := by rw [← hm]; exact fun _ h => h
  clear hm h0
  unfold stillK at hq
  split at hq
  · rename_i f as ats d he hde
    split at hq
    · rename_i c hc
      unfold op1 at ho
      rw [he, hde] at ho
      simp only [opdC, opd1, opd] at ho
      have hargs := (args_ok h as.toList).app (capsArgs_ok (w := w) (R0 := R0of A m) (R1 := R1of A m) (ks := []) (vs := []) rfl)
      obtain ⟨⟨_, hS⟩, hcalls⟩ := callA_ok hct (hd d hde) h hx hpins hargs ho
      obtain ⟨fn, hfn, hbody, hname⟩ := hS.fn
      have hrun : (execOp a.eval o).run P w = .ok (.enter f (as.toList.map a.eval ++ []).toArray) w := by
        have e0 : (as.toList.map a.eval ++ []).toArray = as.map a.eval := by rw [List.append_nil, ← Array.toList_map]
        rw [e0]
        simp only [execOp, he, resolve, Act.eval, Deferred.ofValue, invoke]
        have := callFunc_run (w := w) (as.map a.eval) hfn hbody hname
        simp
        exact this
      unfold Oper.wp
      rw [hrun]
      refine hcalls.mono fun e w' ⟨v, A', he', hk, hr, hb⟩ => ?_
      subst he'
      exact hK A' v w' hk (by rw [hde]; exact hr) (hb c hc hq)
    · cases hq
  · cases hq
end
end Go.Refl
