/- The evaluator is right: regions whose order is drawn, order for order. No program in sight. No condition. -/
import Derived.Test.YthmaaogfmakohaaRfJ
namespace Go.Refl
open Go.RowKit
set_option linter.unusedVariables false
set_option linter.unusedSimpArgs false
section
variable {cx : Cx} {A B : AS} {a : Act} {w wb : World} {m mb mc : Mp} {P : Program}
theorem wp_conj {o : Oper} {n1 n2 : Act → World → Prop} {Q : Exit → Act → World → Prop} (hno : ∀ f args w', (execOp a.eval o).run P w ≠ .ok (.enter f args) w') (hnr : ∀ f args w', (execOp a.eval o).run P w ≠ .ok (.row f args) w')
    (h1 : o.wp P a w n1 (fun _ _ _ => False)) (h2 : o.wp P a w n2 Q) : o.wp P a w (fun a' w' => n1 a' w' ∧ n2 a' w') Q := by
  unfold Oper.wp at *
  generalize hr : (execOp a.eval o).run P w = r at *
  cases r with
  | ok x w' =>
    cases x with
    | value v => exact ⟨h1, h2⟩
    | skip => exact ⟨h1, h2⟩
    | defer d => exact ⟨h1, h2⟩
    | enter f args => exact absurd rfl (hno f args w')
    | row f args => exact absurd rfl (hnr f args w')
    | _ => exact h1.elim
  | halt x w' =>
    cases x with
    | panic v => exact h1.elim
    | _ => exact h1.elim
theorem fresh_bare {R : Type} {E : Env} {o : Oper} {K : AS → Option R} {r : R} (hf : freshK o = true) (hnb : ∀ t n ps, o.op ≠ .buildSlice t n ps) (ho : op1 E A o K = some r) : op1 E (bareS A) o (fun _ => some ()) = some () := by
  unfold freshK at hf
  split at hf
  · rename_i t d he hde
    simp only [op1, he, hde] at ho ⊢
    split at ho
    · rfl
    · cases ho
  · rename_i t n ps d he hde; exact absurd he (hnb _ _ _)
  · rename_i t k1 l k2 c d he hde
    simp only [op1, he, hde] at ho ⊢
    have e1 : opdC (bareS A) (.const (.int k1 l)) = opdC A (.const (.int k1 l)) := rfl
    have e2 : opdC (bareS A) (.const (.int k2 c)) = opdC A (.const (.int k2 c)) := rfl
    rw [e1, e2]
    split at ho
    · split at ho
      · split at ho
        · split at ho
          · rename_i hT
            obtain ⟨hck, _⟩ := ck_some ho
            rw [if_pos hT]
            unfold ck
            rw [hck]
            rfl
          · cases ho
        · cases ho
      · cases ho
    · cases ho
  · cases hf
theorem fresh_run {o : Oper} (hf : freshK o = true) (a : Act) (w : World) : (∀ f args w', (execOp a.eval o).run P w ≠ .ok (.enter f args) w') ∧ (∀ f args w', (execOp a.eval o).run P w ≠ .ok (.row f args) w') := by
  have key : ∀ (s : Sem Value), (∀ f args w', ((do pure (.value (← s)) : Sem Next)).run P w ≠ .ok (.enter f args) w') ∧ (∀ f args w', ((do pure (.value (← s)) : Sem Next)).run P w ≠ .ok (.row f args) w') := fun s => by
    simp only [Sem.run_bind]
    cases s.run P w with
    | ok v w1 => exact ⟨fun f args w' h => by simp [Result.andThen] at h, fun f args w' h => by simp [Result.andThen] at h⟩
    | halt x w1 => exact ⟨fun f args w' h => by simp [Result.andThen] at h, fun f args w' h => by simp [Result.andThen] at h⟩
  unfold freshK at hf
  split at hf
  · rename_i t d he hde; simp only [execOp, he]; exact key _
  · rename_i t n ps d he hde; simp only [execOp, he]; exact key _
  · rename_i t k1 l k2 c d he hde; simp only [execOp, he]; exact key _
  · cases hf
theorem fresh_ok {R : Type} {E : Env} (hE : EnvOk P E) (hct : ∀ f c, get E.ct f = some c → Sat P f c) {o : Oper} {K : AS → Option R} {r : R} (hf : freshK o = true) (h : Rel cx A a w) (hpins : ∀ k u, (k, u) ∈ cx.pins → pinBase ≤ k) (hsz : a.tmps.size ≤ 60000) (hd : ∀ d, o.dst = some d → d < a.tmps.size)
    (ho : op1 E A o K = some r) {next : Act → World → Prop} {Q : Exit → Act → World → Prop} (hK : ∀ A' v w', K A' = some r → Rel cx A' (a.put o.dst v) w' → Below w.heap.size w w' → next (a.put o.dst v) w') : o.wp P a w next Q := by
  by_cases hbs : ∃ t n ps, o.op = .buildSlice t n ps
  · obtain ⟨t, n, ps, he⟩ := hbs
    cases hde : o.dst with
    | none => simp [freshK, he, hde] at hf
    | some d =>
    obtain ⟨m0, h0⟩ := h
    have h := h0.clear
    generalize hm : ({ m0 with x0 := fun b => ¬ cx.rp b, x1 := fun _ => False } : Mp) = m at h
    have hx : X0 m := by rw [← hm]; exact fun _ h => h
    clear hm h0
    have hpt : ∀ u, (tokOf d 0, u) ∉ cx.pins := fun u hu => by
      have h1 := hpins _ _ hu
      exact no_pin (Nat.lt_of_lt_of_le (hd d hde) hsz) h1
    simp only [op1, he, hde] at ho
    split at ho
    · rename_i e T ht
      obtain ⟨_, hTs⟩ := hE.fit ht
      split at ho
      · rename_i T' hte
        split at ho
        · rename_i hcond
          obtain ⟨rfl, hn, h0, hn2⟩ := hcond
          obtain ⟨_, hT⟩ := hE.fit hte
          split at ho
          · rename_i as hp
            obtain ⟨A', v, w', hr, hk, hrel, hbel⟩ := buildSlice_ok hE (hd d hde) h hx hpt hTs.und.1 hT hn hn2 hp ho
            refine wp_val (v := v) (w' := w') ?_ (hK _ _ _ hk (by rw [hde]; exact hrel) hbel)
            simp only [execOp, he]; exact run_v hr
          · cases ho
        · cases ho
      · cases ho
    · cases ho
  obtain ⟨m, hm⟩ := h
  obtain ⟨mc, hC⟩ := bare_ok hm
  have hb := fresh_bare hf (fun t n ps he => hbs ⟨t, n, ps, he⟩) ho
  have w1 : o.wp P a w (fun a' w' => Below w.heap.size w w') (fun _ _ _ => False) := op1_ok hE hct ⟨mc, hC⟩ (by simp [subCx]) hsz hd hb (fun A' v w' _ ⟨mA, hA⟩ => (show Keeps [] w w' from hA.keeps).below)
  have w2 : o.wp P a w (fun a' w' => ∃ A' v, a' = a.put o.dst v ∧ K A' = some r ∧ Rel cx A' (a.put o.dst v) w') Q := op1_ok hE hct ⟨m, hm⟩ hpins hsz hd ho (fun A' v w' hk hr => ⟨A', v, rfl, hk, hr⟩)
  have hno := fresh_run (P := P) hf a w
  exact Oper.wp_mono (fun a' w' ⟨hb, A', v, e, hk, hr⟩ => by subst e; exact hK A' v w' hk hr hb) (wp_conj hno.1 hno.2 w1 w2)
theorem below2 {wb w1 w2 : World} (h1 : Below wb.heap.size wb w1) (h2 : Below w1.heap.size w1 w2) : Below wb.heap.size wb w2 := ⟨h2.os.trans h1.os, h2.tape.trans h1.tape, h2.output.trans h1.output, Nat.le_trans h1.size h2.size, fun b hb => (h2.block b (Nat.lt_of_lt_of_le hb h1.size)).trans (h1.block b hb)⟩
theorem wpOp_of_step {ops : Array Oper} {Q : Exit → Act → World → Prop} {i : Nat} {o : Oper} {next : Act → World → Prop} (hoi : ops[i]? = some o) (key : stepW P ops o a w next Q) : wpOp P ops Q i next a w := by
  unfold wpOp
  simp only [hoi]
  unfold stepW at key
  split
  · rename_i hw; rw [if_pos hw] at key; exact .inl key
  · rename_i hw; rw [if_neg hw] at key; exact key
theorem stillT_step {R0 : Type} {E : Env} (hE : EnvOk P E) (hct : ∀ f c, get E.ct f = some c → Sat P f c) {ops : Array Oper} {Q : Exit → Act → World → Prop} {i : Nat} {o : Oper} {next : Act → World → Prop} {K : AS → Option R0} {r : R0} (hpins : ∀ k u, (k, u) ∈ cx.pins → pinBase ≤ k) (hsz : a.tmps.size ≤ 60000)
    (hstep : ∀ (v : Value) (A' : AS) (w' : World), Rel cx A' (a.put o.dst v) w' → Below w.heap.size w w' → K A' = some r → next (a.put o.dst v) w') (hs : stillF E o = true) (hA : Rel cx A a w) (hdo : ∀ d, o.dst = some d → d < a.tmps.size) (hoi : ops[i]? = some o) (ho : opG E ops.toList A o K = some r) : wpOp P ops Q i next a w := by
  refine wpOp_of_step hoi ?_
  unfold stepW
  rcases opG_cases hA hdo ho with ⟨hw, A1, h1, ho⟩ | ⟨hw, A1, h1, hk⟩
  · rw [if_pos hw]
    unfold stillF at hs
    rw [Bool.or_eq_true] at hs
    rcases hs with hs | hs
    · exact fresh_ok hE hct hs h1 hpins hsz hdo ho fun A' v w' hk hr hb => hstep v A' w' hr hb hk
    · exact still_ok hct hs h1 hpins hdo ho fun A' v w' hk hr hb => hstep v A' w' hr hb hk
  · rw [hw]
    exact hstep undef A1 w h1 (Below.refl _ _) hk
theorem op_mem {ops : Array Oper} {i : Nat} {o : Oper} (hoi : ops[i]? = some o) : o ∈ ops.toList := by
  obtain ⟨h1, h2⟩ := Array.getElem?_eq_some_iff.1 hoi
  rw [← h2]; exact Array.mem_toList_iff.2 (Array.getElem_mem h1)
theorem drawT_ok {R0 : Type} {E : Env} (hE : EnvOk P E) (hct : ∀ f c, get E.ct f = some c → Sat P f c) {ops : Array Oper} (hns : Region.noSelect ops = true) {K : AS → Option R0} {r : R0} {t : Option Nat} (hpins : ∀ k u, (k, u) ∈ cx.pins → pinBase ≤ k) {Q : Exit → Act → World → Prop} {N : Nat} (hN : N ≤ 60000)
    (hd : ∀ o ∈ ops.toList, dstOk N o = true) (hQp : ∀ c a w, ¬ Q (.panic c) a w) (hK : ∀ A' a' w', K A' = some r → Rel cx A' a' w' → a'.tmps.size = N → Q .normal a' w') :
    ∀ (p : Pt) (n : Nat) (top : Bool) (listed : Array Bool) (B : AS) (C : Option AS) (a : Act) (w wb : World) (mb mc : Mp) (R : Nat → Prop), InvL .any ops listed → ptOk E ops t n top p listed = true → RelW cx B a wb mb → RelW (subCx wb R) (curO B C) a w mc → (C = none → w = wb) → (∀ b, R b → R0of B mb b) → a.tmps.size = N → drawT E ops K p B C = some r →
      (top = true → wpAnyL P .any ops Q (ST t wb) n listed a w) ∧ (∀ n', n = n' + 1 → ∀ i ∈ altIdx p, i ∈ Region.ready .any ops listed → wpOp P ops Q i (fun a' w' => ST t wb (listed.setIfInBounds i true) w' ∧ wpAnyL P .any ops Q (ST t wb) n' (listed.setIfInBounds i true) a' w') a w) := by
  intro p
  have alt1 : ∀ (b : Bool) (i : Nat) (p : Pt), (∀ (n : Nat) (top : Bool) (listed : Array Bool) (B : AS) (C : Option AS) (a : Act) (w wb : World) (mb mc : Mp) (R : Nat → Prop), InvL .any ops listed → ptOk E ops t n top p listed = true → RelW cx B a wb mb → RelW (subCx wb R) (curO B C) a w mc → (C = none → w = wb) → (∀ b, R b → R0of B mb b) → a.tmps.size = N → drawT E ops K p B C = some r →
      (top = true → wpAnyL P .any ops Q (ST t wb) n listed a w) ∧ (∀ n', n = n' + 1 → ∀ i ∈ altIdx p, i ∈ Region.ready .any ops listed → wpOp P ops Q i (fun a' w' => ST t wb (listed.setIfInBounds i true) w' ∧ wpAnyL P .any ops Q (ST t wb) n' (listed.setIfInBounds i true) a' w') a w)) →
      ∀ (n : Nat) (listed : Array Bool) (B : AS) (C : Option AS) (a : Act) (w wb : World) (mb mc : Mp) (R : Nat → Prop), InvL .any ops listed → (!b || stillAt E ops i) = true → ptOk E ops t n true p (listed.setIfInBounds i true) = true → RelW cx B a wb mb → RelW (subCx wb R) (curO B C) a w mc → (C = none → w = wb) → (∀ b, R b → R0of B mb b) → a.tmps.size = N → (match ops[i]? with
        | some o => if (b && emptyO C) = true then (joinO B C).bind fun A => opG E ops.toList A o fun A => drawT E ops K p A none
          else opG E ops.toList (curO B C) o fun C => drawT E ops K p (skipD B o.dst) (some C)
        | none => none) = some r → i ∈ Region.ready .any ops listed → wpOp P ops Q i (fun a' w' => ST t wb (listed.setIfInBounds i true) w' ∧ wpAnyL P .any ops Q (ST t wb) n (listed.setIfInBounds i true) a' w') a w := by
    intro b i p ih n listed B C a w wb mb mc R hinv hst hpl hB hC hwb hR hsz ho hmem
    have hbel : Below wb.heap.size wb w := (show Keeps [] wb w from hC.keeps).below
    cases hoi : ops[i]? with
    | none => rw [hoi] at ho; cases ho
    | some o =>
      rw [hoi] at ho
      simp only [stillAt, hoi] at hst
      simp only at ho
      have hdo : ∀ d, o.dst = some d → d < a.tmps.size := by rw [hsz]; exact dstOk_lt (hd o (op_mem hoi))
      by_cases hbe : (b && emptyO C) = true
      · rw [if_pos hbe] at ho
        rw [Bool.and_eq_true] at hbe
        have hst' : stillF E o = true := by rw [hbe.1] at hst; simpa using hst
        cases hJ : joinO B C with
        | none => rw [hJ] at ho; cases ho
        | some J =>
          rw [hJ] at ho
          simp only [Option.bind_some] at ho
          have hrel := joinO_ok hB hC hwb hR hpins hJ
          refine stillT_step hE hct hpins (by omega) (fun v A' w' hA' hb hk => ?_) hst' hrel hdo hoi ho
          obtain ⟨mA, hA'⟩ := hA'
          obtain ⟨mc', hC'⟩ := bare_ok hA'
          have hbb := below2 hbel hb
          have ihp := (ih n true (listed.setIfInBounds i true) A' none (a.put o.dst v) w' w' mA mc' (R0of A' mA) (hinv.set hmem) hpl hA' hC' (fun _ => rfl) (fun _ h => h) (by rw [put_size]; exact hsz) hk).1 rfl
          exact ⟨fun _ => hbb, wpAnyL_monoS (S := ST t w') (G := fun _ => True) (fun _ _ _ => trivial) (fun L w'' _ h hc => below2 hbb (h hc)) _ _ _ _ trivial ihp⟩
      · rw [if_neg hbe] at ho
        refine wpOp_of_step hoi ?_
        exact opG_ok (P := P) (ops := ops) (Q := Q) hE hct (next := fun a' w' => ST t wb (listed.setIfInBounds i true) w' ∧ wpAnyL P .any ops Q (ST t wb) n (listed.setIfInBounds i true) a' w') ⟨mc, hC⟩ (by simp [subCx]) (by omega) hdo ho
          fun A' v w' hk ⟨mA, hA⟩ => ⟨fun _ => (show Keeps [] wb w' from hA.keeps).below, (ih n true _ (skipD B o.dst) (some A') (a.put o.dst v) w' wb mb mA R (hinv.set hmem) hpl (skipD_okW hB _ hdo v) hA (fun h => by cases h) (fun b hb => R0of_skipD _ _ (hR b hb)) (by rw [put_size]; exact hsz) hk).1 rfl⟩
  induction p with
  | done =>
    intro n top listed B C a w wb mb mc R hinv hpl hB hC hwb hR hsz ho
    simp only [ptOk, List.isEmpty_iff] at hpl
    simp only [drawT] at ho
    cases hJ : joinO B C with
    | none => rw [hJ] at ho; cases ho
    | some J =>
      rw [hJ] at ho
      exact ⟨fun _ => wpAnyL_done hpl (hK J a w ho (joinO_ok hB hC hwb hR hpins hJ) hsz) n, fun _ _ i hi => by simp [altIdx] at hi⟩
  | q j p ih =>
    intro n top listed B C a w wb mb mc R hinv hpl hB hC hwb hR hsz ho
    refine ⟨fun _ => ?_, fun _ _ i hi => by simp [altIdx] at hi⟩
    have hbel : Below wb.heap.size wb w := (show Keeps [] wb w from hC.keeps).below
    cases n with
    | zero => simp [ptOk] at hpl
    | succ n =>
      simp only [ptOk, Bool.and_eq_true] at hpl
      obtain ⟨⟨⟨⟨hmem, hfree⟩, hq⟩, hah⟩, hpl⟩ := hpl
      have hmem' : j ∈ Region.ready .any ops listed := by simpa using hmem
      simp only [drawT] at ho
      split at ho
      · rename_i o hoj
        rw [hoj] at hq
        have hq : quietK E o = true := hq
        have hdo : ∀ d, o.dst = some d → d < a.tmps.size := by rw [hsz]; exact dstOk_lt (hd o (op_mem hoj))
        cases hJ : joinO B C with
        | none => rw [hJ] at ho; cases ho
        | some J =>
          rw [hJ] at ho
          simp only [Option.bind_some] at ho
          have hrel := joinO_ok hB hC hwb hR hpins hJ
          have step : ∀ (v : Value) (A' : AS), Rel cx A' (a.put o.dst v) w → drawT E ops K p A' none = some r → YieldsIf P ops (fun w' => Below w.heap.size w w') o v a → wpAnyL P .any ops Q (ST t wb) (n + 1) listed a w := fun v A' hA' hk hy => by
            obtain ⟨mA, hA'⟩ := hA'
            obtain ⟨mc', hC'⟩ := bare_ok hA'
            have ihp := (ih n true (listed.setIfInBounds j true) A' none (a.put o.dst v) w w mA mc' (R0of A' mA) (hinv.set hmem') hpl hA' hC' (fun _ => rfl) (fun _ h => h) (by rw [put_size]; exact hsz) hk).1 rfl
            refine wpAnyL_monoS (S := ST t w) (G := fun _ => True) (fun _ _ _ => trivial) (fun L w1 _ h hc => below2 hbel (h hc)) _ _ _ _ trivial (wpAnyL_take (S0 := fun w' => Below w.heap.size w w') hoj hns hfree hmem (fun c a' w' h => absurd h (hQp _ _ _)) (fun L w1 hL hun h => h fun x hx => ?_) (fun L w1 => ?_) hinv hy (fun _ => Below.refl _ _) ihp)
            · subst hx
              simp only [aheadOk, Bool.and_eq_true] at hah
              cases hxl : L.getD x false with
              | false => rfl
              | true =>
                have := anc_listed hL _ _ _ hxl hah.2
                rw [unl hun] at this; cases this
            · unfold ST
              have : ∀ x, t = some x → (L.setIfInBounds j true).getD x false = L.getD x false := fun x hx => by
                subst hx
                simp only [aheadOk, Bool.and_eq_true, bne_iff_ne, ne_eq] at hah
                exact getD_set_ne false hah.1
              exact ⟨fun h hc => h fun x hx => by rw [this x hx]; exact hc x hx, fun h hc => h fun x hx => by rw [← this x hx]; exact hc x hx⟩
          rcases opG_cases hrel hdo ho with ⟨hw, A1, h1, ho⟩ | ⟨hw, A1, h1, hk⟩
          · obtain ⟨v, A', hrun, hk, hA'⟩ := q1_ok (P := P) hE hq h1 hdo ho
            exact step v A' hA' hk (.inl ⟨hw, hrun⟩)
          · exact step undef A1 h1 hk (.inr ⟨hw, rfl⟩)
      · cases ho
  | t i p ih =>
    intro n top listed B C a w wb mb mc R hinv hpl hB hC hwb hR hsz ho
    refine ⟨fun _ => ?_, fun _ _ i hi => by simp [altIdx] at hi⟩
    cases n with
    | zero => simp [ptOk] at hpl
    | succ n =>
      simp only [ptOk, Bool.and_eq_true, decide_eq_true_eq] at hpl
      obtain ⟨⟨hr, hin⟩, hpl⟩ := hpl
      have hmem' : i ∈ Region.ready .any ops listed := by rw [hr]; simp
      have hti : ∃ x, t = some x ∧ (listed.setIfInBounds i true).getD x false = true := by
        unfold inTail at hin
        split at hin
        · rename_i _ x
          rw [Bool.or_eq_true] at hin
          rcases hin with h | h
          · have : x = i := by simpa using h
            subst this
            exact ⟨x, rfl, getD_self (mem_ready.1 hmem').1⟩
          · exact ⟨x, rfl, getD_set_true h⟩
        · cases hin
      obtain ⟨x, hx, hxl⟩ := hti
      simp only [drawT] at ho
      split at ho
      · rename_i o hoi
        have hdo : ∀ d, o.dst = some d → d < a.tmps.size := by rw [hsz]; exact dstOk_lt (hd o (op_mem hoi))
        refine wpAnyL_all hr (by simp) fun i' hi => ?_
        have hii : i' = i := by simpa using hi
        rw [hii]
        refine wpOp_of_step hoi ?_
        cases hJ : joinO B C with
        | none => rw [hJ] at ho; cases ho
        | some J =>
          rw [hJ] at ho
          simp only [Option.bind_some] at ho
          have hrel := joinO_ok hB hC hwb hR hpins hJ
          refine opG_ok (P := P) (ops := ops) (Q := Q) hE hct hrel hpins (by omega) hdo ho fun A' v w' hk hA' => ?_
          obtain ⟨mA, hA'⟩ := hA'
          obtain ⟨mc', hC'⟩ := bare_ok hA'
          have ihp := (ih n true (listed.setIfInBounds i true) A' none (a.put o.dst v) w' w' mA mc' (R0of A' mA) (hinv.set hmem') hpl hA' hC' (fun _ => rfl) (fun _ h => h) (by rw [put_size]; exact hsz) hk).1 rfl
          exact ⟨fun hc => (by rw [hc x hx] at hxl; cases hxl), wpAnyL_monoS (S := ST t w') (G := fun L => L.getD x false = true) (fun L i h => getD_set_true h) (fun L w'' hg h hc => (by rw [hc x hx] at hg; cases hg)) _ _ _ _ hxl ihp⟩
      · cases ho
  | s1 b i p ih =>
    intro n top listed B C a w wb mb mc R hinv hpl hB hC hwb hR hsz ho
    cases n with
    | zero => simp [ptOk] at hpl
    | succ n =>
      simp only [ptOk, Bool.and_eq_true] at hpl
      obtain ⟨⟨htop, hst⟩, hpl⟩ := hpl
      simp only [drawT] at ho
      have hone := alt1 b i p ih n listed B C a w wb mb mc R hinv hst hpl hB hC hwb hR hsz ho
      refine ⟨fun ht => ?_, fun n' hn' i' hi' hmem => ?_⟩
      · have hr : Region.ready .any ops listed = [i] := by rw [ht] at htop; simpa using htop
        refine wpAnyL_all hr (by simp) fun i' hi => ?_
        have hii : i' = i := by simpa using hi
        rw [hii]
        exact hone (by rw [hr]; simp)
      · have hii : i' = i := by simpa [altIdx] using hi'
        have hnn : n' = n := by omega
        subst hii hnn
        exact hone hmem
  | s2 b i p q ihp ihq =>
    intro n top listed B C a w wb mb mc R hinv hpl hB hC hwb hR hsz ho
    cases n with
    | zero => simp [ptOk] at hpl
    | succ n =>
      simp only [ptOk, Bool.and_eq_true] at hpl
      obtain ⟨⟨⟨htop, hst⟩, hplp⟩, hplq⟩ := hpl
      have hsp : (match ops[i]? with
        | some o => if (b && emptyO C) = true then (joinO B C).bind fun A => opG E ops.toList A o fun A => drawT E ops K p A none
          else opG E ops.toList (curO B C) o fun C => drawT E ops K p (skipD B o.dst) (some C)
        | none => none) = some r ∧ drawT E ops K q B C = some r := by
        simp only [drawT] at ho
        cases hoi : ops[i]? with
        | none => rw [hoi] at ho; cases ho
        | some o =>
          rw [hoi] at ho
          exact both_some ho
      have hone := alt1 b i p ihp n listed B C a w wb mb mc R hinv hst hplp hB hC hwb hR hsz hsp.1
      have hrest := (ihq (n + 1) false listed B C a w wb mb mc R hinv hplq hB hC hwb hR hsz hsp.2).2 n rfl
      have hall : ∀ i' ∈ altIdx (.s2 b i p q), i' ∈ Region.ready .any ops listed → wpOp P ops Q i' (fun a' w' => ST t wb (listed.setIfInBounds i' true) w' ∧ wpAnyL P .any ops Q (ST t wb) n (listed.setIfInBounds i' true) a' w') a w := fun i' hi' hmem => by
        rcases List.mem_cons.1 hi' with rfl | hi'
        · exact hone hmem
        · exact hrest i' hi' hmem
      refine ⟨fun ht => ?_, fun n' hn' i' hi' hmem => ?_⟩
      · have hr : Region.ready .any ops listed = i :: altIdx q := by rw [ht] at htop; simpa using htop
        refine wpAnyL_all hr (by simp) fun i' hi => ?_
        exact hall i' hi (by rw [hr]; exact hi)
      · have hnn : n' = n := by omega
        subst hnn
        exact hall i' hi' hmem
theorem drawT_fin {R0 : Type} {E : Env} (hE : EnvOk P E) (hct : ∀ f c, get E.ct f = some c → Sat P f c) (hm : P.follows .mixedOrders = true) {id : Nat} {ops : Array Oper} (hns : Region.noSelect ops = true) {K : AS → Option R0} {r : R0} (hpins : ∀ k u, (k, u) ∈ cx.pins → pinBase ≤ k) {Q : Exit → Act → World → Prop} {N : Nat} (hN : N ≤ 60000)
    (hd : ops.toList.all (dstOk N) = true) (hK : ∀ A' a' w', K A' = some r → Rel cx A' a' w' → a'.tmps.size = N → Q .normal a' w') (h : Rel cx A a w) (hsz : a.tmps.size = N) {pt : Pt} (hpl : ptOk E ops (tailT pt) ops.size true pt (Array.replicate ops.size false) = true) (ho : drawT E ops K pt A none = some r) : (Code.region id ops true).wp P Q a w := by
  refine wp_region_noPanic (wp_region_any hm (wpAny_of_L (S := ST (tailT pt) { w with drawn := w.drawn + 1 }) _ _ _ _ ?_))
  have h' : Rel cx A a { w with drawn := w.drawn + 1 } := h.below ⟨rfl, rfl, rfl, Nat.le_refl _, fun _ _ => rfl⟩
  obtain ⟨m, h'⟩ := h'
  obtain ⟨mc, hC⟩ := bare_ok h'
  exact (drawT_ok (Q := NoPanic Q) hE hct hns hpins hN (fun o ho => by rw [List.all_eq_true] at hd; exact hd o ho) (fun c a w h => h) (fun A' a' w' hk hr hs => hK A' a' w' hk hr hs) pt ops.size true _ A none a _ _ m mc _ (InvL.none _) hpl h' hC (fun _ => rfl) (fun _ h => h) hsz ho).1 rfl
end
end Go.Refl
