/- The evaluator is right: every operation. No program in sight. No condition. -/
import Derived.Test.YthmaaogfmakohaaRfF
import Derived.Test.YthmaaogfmakohaaRfZ
namespace Go.Refl
open Go.RowKit
set_option linter.unusedVariables false
set_option linter.unusedSimpArgs false

section
variable {cx : Cx} {A : AS} {a : Act} {w : World} {P : Program}
theorem put_size (a : Act) (d : Option Nat) (v : Value) : (a.put d v).tmps.size = a.tmps.size := by cases d <;> simp [Act.put]
theorem wp_val {o : Oper} {v : Value} {w' : World} {next : Act → World → Prop} {Q : Exit → Act → World → Prop} (h : (execOp a.eval o).run P w = .ok (.value v) w') (hn : next (a.put o.dst v) w') : o.wp P a w next Q := by
  unfold Oper.wp; rw [h]; exact hn
theorem wp_skp {o : Oper} {w' : World} {next : Act → World → Prop} {Q : Exit → Act → World → Prop} (h : (execOp a.eval o).run P w = .ok .skip w') (hn : next (a.put o.dst undef) w') : o.wp P a w next Q := by
  unfold Oper.wp; rw [h]; exact hn
theorem run_v {s : Sem Value} {v : Value} {w' : World} (h : s.run P w = .ok v w') : ((do pure (.value (← s)) : Sem Next)).run P w = .ok (.value v) w' := by simp [h]
theorem run_u {s : Sem Unit} {w' : World} (h : s.run P w = .ok () w') : ((do s; pure .skip : Sem Next)).run P w = .ok .skip w' := by simp [h]
theorem skipD_ok {m : Mp} (h : RelW cx A a w m) (d : Option Nat) (hd : ∀ k, d = some k → k < a.tmps.size) (v : Value) : Rel cx (skipD A d) (a.put d v) w := by
  cases d with
  | none => exact ⟨m, h⟩
  | some k => exact ⟨m, h.put k (hd k rfl) _ _ trivial⟩
theorem eqGuard_ok {op : BinOp} {t : TypeId} {x y : Operand} {va vb : Value} {R0 R1 : Nat → Prop} {μ : Nat → Value} {ca : AC} (ha : VC w R0 R1 μ ca va) (hca : ca ≠ .bad) : ∀ w' : World, (eqGuard op t x y va vb).run P w' = .ok () w' := by
  intro w'
  have h1 := (VC.one ha hca)
  have hni : va ≠ .nilIface := by
    rintro rfl
    cases ca with
    | d p t x =>
      obtain ⟨ho, hr⟩ := ha
      cases t <;> simp [Ty.one] at ho
      · obtain ⟨h, _⟩ := hr; simp at h
      · have h : [Value.nilIface] = [Value.bool x] := hr; simp at h
      · obtain ⟨s, h, _⟩ := hr; simp at h
      · obtain ⟨a, c, vs, h, _⟩ := hr; simp at h
    | own k => obtain ⟨_, a, n, c, h⟩ := ha; cases h
    | sub k sz lo hi => obtain ⟨a, n, c, _, _, _, _, _, _, h⟩ := ha; cases h
    | nil => have h : Value.nilIface = .slice none 0 0 := ha; cases h
    | bptr k off => obtain ⟨g, _, h⟩ := ha; cases h
    | eptr k sz i => obtain ⟨a, n, c, _, _, _, h⟩ := ha; cases h
    | fptr k sz i o => obtain ⟨a, n, c, _, _, _, h⟩ := ha; cases h
    | rptr p t x => obtain ⟨ad, vs, h, _⟩ := ha; cases h
    | fn f caps => obtain ⟨vs, h, _⟩ := ha; cases h
    | bad => exact hca rfl
  have hna : ∀ cs, va ≠ .agg cs := by rintro cs rfl; simp [Value.oneCell'] at h1
  unfold eqGuard
  cases va <;> cases op <;> simp_all

theorem zero_kill (k : Nat) : ∀ T : Ty, (zeroC T).map (killC k) = zeroC T
  | .unit => rfl
  | .pair a b => by simp only [zeroC, List.map_append, zero_kill k a, zero_kill k b]
  | .int _ => rfl
  | .bool => rfl
  | .str => rfl
  | .sl _ _ => rfl
theorem binA_ne {R : Type} {op : BinOp} {tb : Option Ty} {ca cb : AC} {K : AC → Option R} {r : R} (h : binA op tb ca cb K = some r) : ca ≠ .bad := by
  rintro rfl; simp [binA] at h
theorem isB_ok {E : Env} (hE : EnvOk P E) {t : TypeId} (h : isB (tyOf E.tt t) = true) : P.underlying t = some .bool := by
  unfold isB at h
  split at h
  · rename_i ht
    obtain ⟨_, hT⟩ := hE.fit ht
    exact hT.und
  · cases h
theorem isSlO_ok {E : Env} (hE : EnvOk P E) {t : TypeId} (h : isSlO (tyOf E.tt t) = true) : ∃ e, P.underlying t = some (.slice e) := by
  unfold isSlO at h
  split at h
  · rename_i ht
    obtain ⟨_, hT⟩ := hE.fit ht
    exact ⟨_, hT.und.1⟩
  · cases h
theorem caps_ok {m : Mp} (h : RelW cx A a w m) : ∀ (os : List Operand) (ks : List Nat), (os.mapM fun o => match opdC A o with | .bptr k 0 => some k | _ => none : Option (List Nat)) = some ks →
    All2 (fun k u => u = m.μ k ∧ ∃ g, u = .pointer (some ⟨g, 0, none⟩)) ks (os.map a.eval)
  | [], ks, hk => by simp at hk; subst hk; rfl
  | o :: os, ks, hk => by
    rw [List.mapM_cons] at hk
    split at hk
    · rename_i k hb
      simp only [bind, Option.bind_some] at hk
      cases hr : (os.mapM fun o => match opdC A o with | .bptr k 0 => some k | _ => none : Option (List Nat)) with
      | none => rw [hr] at hk; cases hk
      | some js =>
        rw [hr] at hk
        simp [pure] at hk; subst hk
        have := opdC_ok h o
        rw [hb] at this
        obtain ⟨g, hμ, hv⟩ := this
        exact ⟨_, _, rfl, ⟨hv.trans hμ.symm, g, hv⟩, caps_ok h os js hr⟩
    · simp [bind] at hk
theorem args_ok {m : Mp} (h : RelW cx A a w m) : ∀ os : List Operand, All2 (V1 w (R0of A m) (R1of A m) m.μ) (os.map (opd1 A)) (os.map a.eval)
  | [] => rfl
  | o :: os => ⟨_, _, rfl, opd1_ok h o, args_ok h os⟩
theorem capsArgs_ok {m : Mp} {R0 R1 : Nat → Prop} : ∀ {ks : List Nat} {vs : List Value}, All2 (fun k u => u = m.μ k ∧ ∃ g, u = .pointer (some ⟨g, 0, none⟩)) ks vs → All2 (V1 w R0 R1 m.μ) (ks.map fun k => .one (.bptr k 0)) vs
  | [], _, h => h
  | k :: ks, vs, ⟨v, us, hv, ⟨hu, g, hg⟩, h⟩ => ⟨v, us, hv, ⟨g, hu.symm.trans hg, hg⟩, capsArgs_ok h⟩
theorem mapO_map (os : List Operand) (f : Operand → Value) : (os.toArray.map f).toList = os.map f := by simp
theorem callFunc_run {f : FuncId} {fn : Func} (args : Array Value) (hfn : P.funcs[f]? = some fn) (hb : fn.body.isNone = false) (hn : (fn.name == "runtime.NumGoroutine") = false) : (callFunc f args).run P w = .ok (.enter f args) w := by
  have hb2 : fn.body ≠ none := by intro h; rw [h] at hb; cases hb
  unfold callFunc
  simp [hfn, hb2, hb]
  simp at hn
  simp [hn]
theorem no_pin {d : Nat} (h : d < 60000) (h1 : pinBase ≤ tokOf d 0) : False := by
  simp only [tokOf, pinBase] at h1
  omega
theorem op1_ok {R : Type} {E : Env} (hE : EnvOk P E) (hct : ∀ f c, get E.ct f = some c → Sat P f c) {o : Oper} {K : AS → Option R} {r : R} (h : Rel cx A a w) (hpins : ∀ k u, (k, u) ∈ cx.pins → pinBase ≤ k) (hsz : a.tmps.size ≤ 60000) (hd : ∀ d, o.dst = some d → d < a.tmps.size)
    (ho : op1 E A o K = some r) {next : Act → World → Prop} {Q : Exit → Act → World → Prop} (hK : ∀ A' v w', K A' = some r → Rel cx A' (a.put o.dst v) w' → next (a.put o.dst v) w') : o.wp P a w next Q := by
  obtain ⟨m0, h0⟩ := h
  have h := h0.clear
  generalize hm : ({ m0 with x0 := fun b => ¬ cx.rp b, x1 := fun _ => False } : Mp) = m at h
  have hx : X0 m := by rw [← hm]; exact fun _ h => h
  clear hm h0
  have hpt : ∀ d, o.dst = some d → ∀ u, (tokOf d 0, u) ∉ cx.pins := fun d hd' u hu => by
    have h1 := hpins _ _ hu
    exact no_pin (Nat.lt_of_lt_of_le (hd d hd') hsz) h1
  have fin : ∀ {A' : AS} {v : Value} {w' : World}, K A' = some r → Rel cx A' (a.put o.dst v) w' → next (a.put o.dst v) w' := fun hk hr => hK _ _ _ hk hr
  unfold op1 at ho
  split at ho
  · -- move
    rename_i x d he hde
    refine wp_val (v := a.eval x) (w' := w) (by simp [execOp, he]) (fin ho ?_)
    rw [hde]; exact ⟨m, h.put d (hd d hde) _ _ (opd_ok h x)⟩
  · rename_i x d he hde
    refine wp_val (v := a.eval x) (w' := w) (by simp [execOp, he]) (fin ho ?_)
    rw [hde]; exact ⟨m, h.put d (hd d hde) _ _ (opd_ok h x)⟩
  · -- pick
    rename_i c x y d he hde
    split at ho
    · rename_i p b hc
      have hb := opdC_ok h c
      rw [hc] at hb
      have hb := hb.bool
      rcases brk_some ho with ⟨rfl, ho⟩ | ⟨rfl, ho⟩
      · refine wp_val (v := a.eval x) (w' := w) (by simp [execOp, he, hb, asBool]) (fin ho ?_)
        rw [hde]; exact ⟨m, h.put d (hd d hde) _ _ (opd_ok h x)⟩
      · refine wp_val (v := a.eval y) (w' := w) (by simp [execOp, he, hb, asBool]) (fin ho ?_)
        rw [hde]; exact ⟨m, h.put d (hd d hde) _ _ (opd_ok h y)⟩
    · cases ho
  · -- alloc
    rename_i t d he hde
    split at ho
    · rename_i T ht
      obtain ⟨_, hT⟩ := hE.fit ht
      have hzc : (shapeV T (zeroV T)).cells = (zeroV T).toArray := shapeV_cells (zeroV_len _) (zeroV_one _)
      obtain ⟨m', h1, h2⟩ := step_box h hx (tokOf d 0) (zeroC T) (zeroV T) t (zeroC_ok w _ _ _ T) (hpt d hde)
      rw [zero_kill] at h1
      refine wp_val (v := .pointer (some ⟨w.heap.size, 0, none⟩)) (w' := w.alloc (.cells (zeroV T).toArray t)) ?_ (fin ho ?_)
      · simp only [execOp, he]
        refine run_v ?_
        simp [Instr.alloc, hT.zero w, newVar, newRow, hzc]
      · rw [hde]; exact ⟨m', h1.put d (hd d hde) (.v (.one (.bptr (tokOf d 0) 0))) _ ⟨_, h2, rfl⟩⟩
    · cases ho
  · -- box
    rename_i t x d he hde
    split at ho
    · rename_i T ht
      obtain ⟨_, hT⟩ := hE.fit ht
      split at ho
      · rename_i hl
        have hw := (ws_ok (opd1_ok h x) hl hT.pos).1
        obtain ⟨m', h1, h2⟩ := step_box h hx (tokOf d 0) _ _ t hw (hpt d hde)
        refine wp_val (v := .pointer (some ⟨w.heap.size, 0, none⟩)) (w' := w.alloc (.cells (a.eval x).cells.toList.toArray t)) ?_ (fin ho ?_)
        · simp only [execOp, he]
          refine run_v ?_
          simp [Instr.box, newVar, newRow]
        · rw [hde]; exact ⟨m', h1.put d (hd d hde) (.v (.one (.bptr (tokOf d 0) 0))) _ ⟨_, h2, rfl⟩⟩
      · cases ho
    · cases ho
  · -- build
    rename_i t ps d he hde
    split at ho
    · rename_i ta tb ht
      split at ho
      · rename_i cs hf
        obtain ⟨v, hr, hv⟩ := build_ok hE ht h hf
        refine wp_val (v := v) (w' := w) ?_ (fin ho ?_)
        · simp only [execOp, he]; exact run_v (hr w)
        · rw [hde]; exact ⟨m, h.put d (hd d hde) (.v (.agg cs)) _ hv⟩
      · cases ho
    · cases ho
  · -- buildSlice
    rename_i t n ps d he hde
    split at ho
    · rename_i e T ht
      obtain ⟨_, hTs⟩ := hE.fit ht
      split at ho
      · rename_i T' hte
        split at ho
        · rename_i hcond
          obtain ⟨rfl, hn, h0, hn2⟩ := hcond
          obtain ⟨_, hT⟩ := hE.fit hte
          split at ho
          · rename_i as hp
            obtain ⟨A', v, w', hr, hk, hrel, _⟩ := buildSlice_ok hE (hd d hde) h hx (hpt d hde) hTs.und.1 hT hn hn2 hp ho
            refine wp_val (v := v) (w' := w') ?_ (fin hk ?_)
            · simp only [execOp, he]; exact run_v hr
            · rw [hde]; exact hrel
          · cases ho
        · cases ho
      · cases ho
    · cases ho
  · -- load
    rename_i t x d he hde
    split at ho
    · rename_i T ht
      obtain ⟨_, hT⟩ := hE.fit ht
      split at ho
      · rename_i v hl
        obtain ⟨u, hr, hv⟩ := loadA_ok hT h hx (opdC_ok h x) hl
        refine wp_val (v := u) (w' := w) ?_ (fin ho ?_)
        · simp only [execOp, he]; exact run_v hr.run
        · rw [hde]; exact ⟨m, h.put d (hd d hde) (.v v) _ hv⟩
      · cases ho
    · cases ho
  · -- store
    rename_i t x v he
    split at ho
    · rename_i T ht
      obtain ⟨_, hT⟩ := hE.fit ht
      split at ho
      · rename_i A' hs
        obtain ⟨w', hr, hrel⟩ := storeA_ok hT h hx (opdC_ok h x) (opd1_ok h v) hs
        refine wp_skp (w' := w') ?_ (fin ho ?_)
        · simp only [execOp, he]; exact run_u hr
        · obtain ⟨m', hm'⟩ := hrel
          exact skipD_ok hm' _ hd _
      · cases ho
    · cases ho
  · -- nilCheck
    rename_i x d he hde
    have hc := opdC_ok h x
    split at ho
    · rename_i k off heq
      rw [heq] at hc
      obtain ⟨g, hμ, hv⟩ := hc
      refine wp_val (v := a.eval x) (w' := w) (by simp [execOp, he, hv]) (fin ho ?_)
      rw [hde]; exact ⟨m, h.put d (hd d hde) (.v (.one (.bptr k off))) _ ⟨g, hμ, hv⟩⟩
    · rename_i k s i heq
      rw [heq] at hc
      obtain ⟨ad, n, c, h1, h2, h3, hv⟩ := hc
      refine wp_val (v := a.eval x) (w' := w) (by simp [execOp, he, hv]) (fin ho ?_)
      rw [hde]; exact ⟨m, h.put d (hd d hde) (.v (.one (.eptr k s i))) _ ⟨ad, n, c, h1, h2, h3, hv⟩⟩
    · rename_i p t y heq
      rw [heq] at hc
      obtain ⟨ad, vs, hv, h1, h2⟩ := hc
      refine wp_val (v := a.eval x) (w' := w) (by simp [execOp, he, hv]) (fin ho ?_)
      rw [hde]; exact ⟨m, h.put d (hd d hde) (.v (.one (.rptr p t y))) _ ⟨ad, vs, hv, h1, h2⟩⟩
    · cases ho
  · -- binOp
    rename_i b t x y yt d he hde
    obtain ⟨c, v, hr, hv, hk⟩ := binA_ok P ho w t _ _ _ (opdC_ok h x) (opdC_ok h y) (isB_ok hE) (isSlO_ok hE)
    have hg := eqGuard_ok (P := P) (op := b) (t := t) (x := x) (y := y) (vb := a.eval y) (opdC_ok h x) (binA_ne (cb := opdC A y) ho)
    refine wp_val (v := v) (w' := w) ?_ (fin hk ?_)
    · simp only [execOp, he]; refine run_v ?_; simp [hg w, hr.run]
    · rw [hde]; exact ⟨m, h.put d (hd d hde) (.v (.one c)) _ hv⟩
  · -- unOp
    rename_i u t x d he hde
    obtain ⟨c, v, hr, hv, hk⟩ := unA_ok P ho w _ _ _ (opdC_ok h x)
    refine wp_val (v := v) (w' := w) ?_ (fin hk ?_)
    · simp only [execOp, he]; exact run_v hr.run
    · rw [hde]; exact ⟨m, h.put d (hd d hde) (.v (.one c)) _ hv⟩
  · -- convert
    rename_i s t x d he hde
    obtain ⟨A', v, w', hr, hk, hrel⟩ := convA_ok hE (hd d hde) h hx (opdC_ok h x) ho
    refine wp_val (v := v) (w' := w') ?_ (fin hk ?_)
    · simp only [execOp, he]; exact run_v hr
    · rw [hde]; exact hrel
  · -- makeSlice
    rename_i t l c d he hde
    split at ho
    · rename_i e T b0 ht
      split at ho
      · rename_i T' by_ hte
        split at ho
        · rename_i k1 n k2 n2 hl hc
          split at ho
          · rename_i hTT
            subst hTT
            obtain ⟨hck, ho'⟩ := ck_some ho
            simp only [Bool.and_eq_true, decide_eq_true_eq] at hck
            obtain ⟨⟨⟨c1, c2⟩, c3⟩, c4⟩ := hck
            subst c2
            obtain ⟨hvl, _⟩ := intC_ok hl (opdC_ok h l)
            obtain ⟨hvc, _⟩ := intC_ok hc (opdC_ok h c)
            obtain ⟨v, w', m', hr, hrel, hμ, hs⟩ := makeSlice_ok hE (hE.ty _ _ _ ht).und.1 (hE.ty _ _ _ hte) h hx c1 c3 c4 (tokOf d 0) (hpt d hde) (kl := k1) (kc := k2)
            refine wp_val (v := v) (w' := w') ?_ (fin ho' ?_)
            · simp only [execOp, he, hvl, hvc]; exact run_v hr
            · rw [hde]
              obtain ⟨ad, c, hs⟩ := hs
              exact ⟨m', hrel.put d (hd d hde) (.v (.one (.own (tokOf d 0)))) _ ⟨hμ.symm, ad, _, c, hs⟩⟩
          · cases ho
        · cases ho
      · cases ho
    · cases ho
  · -- slice
    rename_i t x lo hi d he hde
    split at ho
    · rename_i e T l h' ht hlo hhi
      obtain ⟨_, hTs⟩ := hE.fit ht
      obtain ⟨hu, b', hb'⟩ := hTs.und
      obtain ⟨c, v, hr, hv, hk⟩ := sliceA_ok (P := P) (E := E) hu (hE.ty _ _ _ hb') h (opdC_ok h x) (optInt_ok h hlo) (optInt_ok h hhi) ho
      refine wp_val (v := v) (w' := w) ?_ (fin hk ?_)
      · simp only [execOp, he]; exact run_v hr.run
      · rw [hde]; exact ⟨m, h.put d (hd d hde) (.v (.one c)) _ hv⟩
    · cases ho
  · -- fieldAddr
    rename_i t x f d he hde
    split at ho
    · rename_i T ht
      have hc := opdC_ok h x
      split at ho
      · rename_i k off heq
        rw [heq] at hc
        obtain ⟨g, hμ, hv⟩ := hc
        split at ho
        · rename_i o' ft hf
          have hr := run_fieldAt hE ht hf w ⟨g, off, none⟩
          refine wp_val (v := .pointer (some ⟨g, off + o', none⟩)) (w' := w) ?_ (fin ho ?_)
          · simp only [execOp, he, hv]; refine run_v ?_; rw [hr, add_plain']
          · rw [hde]; exact ⟨m, h.put d (hd d hde) (.v (.one (.bptr k (off + o')))) _ ⟨g, hμ, rfl⟩⟩
        · cases ho
      · rename_i p t' y heq
        rw [heq] at hc
        split at ho
        · rename_i htt
          subst htt
          split at ho
          · rename_i t2 z hp
            obtain ⟨ad, vs, hv, hat, hro⟩ := hc
            obtain ⟨_, hT⟩ := hE.fit ht
            have hund := hT.und
            cases t' with
            | pair ta tb =>
              obtain ⟨fs, hfs, hff⟩ := hund
              obtain ⟨o', hn, hro2⟩ := proj_ok hff hp hro
              have hr := run_fieldAt hE ht hn w ad
              refine wp_val (v := .pointer (some (ad.add o'))) (w' := w) ?_ (fin ho ?_)
              · simp only [execOp, he, hv]; exact run_v hr
              · rw [hde]
                refine ⟨m, h.put d (hd d hde) (.v (.one (.rptr p t2 z))) _ ⟨ad.add o', _, rfl, ?_, hro2⟩⟩
                exact (hat.drop o').take _
            | _ => cases f <;> simp [projF] at hp
          · cases ho
        · cases ho
      · rename_i k sz i heq
        rw [heq] at hc
        obtain ⟨ad, n', c', hμ, hi0, hi1, hv⟩ := hc
        split at ho
        · rename_i o' ft hf
          refine wp_val (v := .pointer (some ((ad.add (i.toNat * sz)).add o'))) (w' := w) ?_ (fin ho ?_)
          · simp only [execOp, he, hv]; exact run_v (run_fieldAt hE ht hf w _)
          · rw [hde]; exact ⟨m, h.put d (hd d hde) (.v (.one (.fptr k sz i o'))) _ ⟨ad, n', c', hμ, hi0, hi1, rfl⟩⟩
        · cases ho
      · cases ho
    · cases ho
  · -- indexAddr
    rename_i t x i d he hde
    split at ho
    · rename_i e T k n ht hi
      obtain ⟨_, hTs⟩ := hE.fit ht
      obtain ⟨hu, b', hb'⟩ := hTs.und
      obtain ⟨hvi, _⟩ := intC_ok hi (opdC_ok h i)
      obtain ⟨c, v, hr, hv, hk⟩ := idxA_ok (k := k) hE hu (hE.ty _ _ _ hb') h (opdC_ok h x) ho
      refine wp_val (v := v) (w' := w) ?_ (fin hk ?_)
      · simp only [execOp, he, hvi]; exact run_v hr.run
      · rw [hde]; exact ⟨m, h.put d (hd d hde) (.v (.one c)) _ hv⟩
    · cases ho
  · -- extract
    rename_i x i d he hde
    split at ho
    · rename_i as heq
      have hv := opd_ok h x
      rw [heq] at hv
      obtain ⟨vs, hv, ha⟩ := hv
      split at ho
      · rename_i b hb
        obtain ⟨u, hu, hvu⟩ := ha.at hb
        refine wp_val (v := u) (w' := w) ?_ (fin ho ?_)
        · simp only [execOp, he, hv]; refine run_v ?_; simp [Instr.extract, hu]
        · rw [hde]; exact ⟨m, h.put d (hd d hde) (.v b) _ hvu⟩
      · cases ho
    · cases ho
  · -- makeFunc
    rename_i f first caps d he hde
    split at ho
    · rename_i hf
      split at ho
      · rename_i ks hks
        have hf' : first = #[] := Array.eq_empty_of_size_eq_zero hf
        have hc := caps_ok h _ _ hks
        refine wp_val (v := .func (.func f) #[] (caps.map a.eval)) (w' := w) ?_ (fin ho ?_)
        · simp only [execOp, he, hf']; refine run_v ?_; simp [Instr.makeFunc]
        · rw [hde]; exact ⟨m, h.put d (hd d hde) (.v (.one (.fn f ks))) _ ⟨_, congrArg (Value.func (.func f) #[]) (by rw [← Array.toList_map]), hc⟩⟩
      · cases ho
    · cases ho
  · -- call
    rename_i f as ats d he hde
    split at ho
    · rename_i g ks heq
      have hv := opdC_ok h f
      rw [heq] at hv
      obtain ⟨us, hv, hus⟩ := hv
      have hargs := (args_ok h as.toList).app (capsArgs_ok (w := w) (R0 := R0of A m) (R1 := R1of A m) hus)
      obtain ⟨⟨c, hS⟩, hcalls⟩ := callA_ok hct (hd d hde) h hx hpins hargs ho
      obtain ⟨fn, hfn, hbody, hname⟩ := hS.fn
      have hrun : (execOp a.eval o).run P w = .ok (.enter g (as.toList.map a.eval ++ us).toArray) w := by
        have e0 : (as.toList.map a.eval ++ us).toArray = as.map a.eval ++ us.toArray := by simp
        rw [e0]
        simp only [execOp, he, resolve, hv, Deferred.ofValue, invoke]
        have := callFunc_run (w := w) (as.map a.eval ++ us.toArray) hfn hbody hname
        simpa using this
      unfold Oper.wp
      rw [hrun]
      refine hcalls.mono fun e w' ⟨v, A', he', hk, hr, _⟩ => ?_
      subst he'
      exact fin hk (by rw [hde]; exact hr)
    · cases ho
  · -- len
    rename_i as ts d he hde
    split at ho
    · rename_i x t hxs hts
      split at ho
      · rename_i T ht
        split at ho
        · rename_i n hl
          obtain ⟨_, hT⟩ := hE.fit ht
          obtain ⟨hr, hi⟩ := lenC_ok hT h (opdC_ok h x) hl o.type
          have e1 : as = #[x] := by rw [← Array.toArray_toList (xs := as), hxs]
          have e2 : ts = #[t] := by rw [← Array.toArray_toList (xs := ts), hts]
          refine wp_val (v := .int .i64 n) (w' := w) ?_ (fin ho ?_)
          · simp [execOp, he, resolve, invoke, builtin, e1, e2, hr.run]
          · rw [hde]; exact ⟨m, h.put d (hd d hde) (.v (.one (.d true (.int .i64) n))) _ (VC.mkInt w _ _ m.μ true hi)⟩
        · cases ho
      · cases ho
    · cases ho
  · -- cap
    rename_i as ts d he hde
    split at ho
    · rename_i x t hxs hts
      split at ho
      · rename_i e T ht heq
        obtain ⟨_, hT⟩ := hE.fit ht
        have hc := opdC_ok h x
        rw [heq] at hc
        have hc' : a.eval x = .slice none 0 0 := hc
        have e1 : as = #[x] := by rw [← Array.toArray_toList (xs := as), hxs]
        have e2 : ts = #[t] := by rw [← Array.toArray_toList (xs := ts), hts]
        refine wp_val (v := .int .i64 0) (w' := w) ?_ (fin ho ?_)
        · simp [execOp, he, resolve, invoke, builtin, e1, e2, hc', Builtin.cap_, run_underlying hT.und.1, goInt]
        · rw [hde]; exact ⟨m, h.put d (hd d hde) (.v (.one (.d true (.int .i64) (0 : Int)))) _ (VC.mkInt w _ _ m.μ true (by decide))⟩
      · cases ho
    · cases ho
  · -- append
    rename_i as ts d he hde
    split at ho
    · rename_i s x t t' hxs hts
      split at ho
      · rename_i htt
        subst htt
        obtain ⟨A', v, w', hr, hk, hrel⟩ := appA_ok hE (hd d hde) h hx (hpt d hde) (opdC_ok h s) (opdC_ok h x) ho o.type
        have e1 : as = #[s, x] := by rw [← Array.toArray_toList (xs := as), hxs]
        have e2 : ts = #[t, t] := by rw [← Array.toArray_toList (xs := ts), hts]
        refine wp_val (v := v) (w' := w') ?_ (fin hk ?_)
        · simp [execOp, he, resolve, invoke, builtin, e1, e2, hr]
        · rw [hde]; exact hrel
      · obtain ⟨A', v, w', hr, hk, hrel⟩ := appZ_ok hE (hd d hde) h hx (hpt d hde) (opdC_ok h s) (opdC_ok h x) ho o.type
        have e1 : as = #[s, x] := by rw [← Array.toArray_toList (xs := as), hxs]
        have e2 : ts = #[t, t'] := by rw [← Array.toArray_toList (xs := ts), hts]
        refine wp_val (v := v) (w' := w') ?_ (fin hk ?_)
        · simp [execOp, he, resolve, invoke, builtin, e1, e2, hr]
        · rw [hde]; exact hrel
    · cases ho
  · -- min
    rename_i as ts d he hde
    split at ho
    · rename_i x y hxs
      obtain ⟨c, v, hr, hv, hk⟩ := mmA_ok (P := P) ho w _ _ _ (opdC_ok h x) (opdC_ok h y)
      have e1 : as = #[x, y] := by rw [← Array.toArray_toList (xs := as), hxs]
      refine wp_val (v := v) (w' := w) ?_ (fin hk ?_)
      · simp [execOp, he, resolve, invoke, builtin, e1, Builtin.min_, hr w]
      · rw [hde]; exact ⟨m, h.put d (hd d hde) (.v (.one c)) _ hv⟩
    · cases ho
  · -- max
    rename_i as ts d he hde
    split at ho
    · rename_i x y hxs
      obtain ⟨c, v, hr, hv, hk⟩ := mmA_ok (P := P) ho w _ _ _ (opdC_ok h x) (opdC_ok h y)
      have e1 : as = #[x, y] := by rw [← Array.toArray_toList (xs := as), hxs]
      refine wp_val (v := v) (w' := w) ?_ (fin hk ?_)
      · simp [execOp, he, resolve, invoke, builtin, e1, Builtin.max_, hr w]
      · rw [hde]; exact ⟨m, h.put d (hd d hde) (.v (.one c)) _ hv⟩
    · cases ho
  · -- clear
    rename_i as ts he
    split at ho
    · rename_i x t hxs hts
      split at ho
      · rename_i e T ht
        obtain ⟨_, hTs⟩ := hE.fit ht
        obtain ⟨hu, b', hb'⟩ := hTs.und
        obtain ⟨A', w', hr, hk, hrel⟩ := clrA_ok (P := P) (E := E) hu (hE.ty _ _ _ hb') h hx (opdC_ok h x) ho o.type
        have e1 : as = #[x] := by rw [← Array.toArray_toList (xs := as), hxs]
        have e2 : ts = #[t] := by rw [← Array.toArray_toList (xs := ts), hts]
        refine wp_val (v := .tuple #[]) (w' := w') ?_ (fin hk ?_)
        · simp [execOp, he, resolve, invoke, builtin, e1, e2, hr]
        · obtain ⟨m', hm'⟩ := hrel
          exact skipD_ok hm' _ hd _
      · cases ho
    · cases ho
  · cases ho
end
end Go.Refl
