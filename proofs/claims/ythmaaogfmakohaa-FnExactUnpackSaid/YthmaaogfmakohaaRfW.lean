/- The evaluator is right: regions whose order is drawn, with calls that write a variable: order for order, over all that stands. No program in sight. No condition. -/
import Derived.Test.YthmaaogfmakohaaRfT
namespace Go.Refl
open Go.RowKit
set_option linter.unusedVariables false
set_option linter.unusedSimpArgs false
section
variable {cx : Cx} {A B : AS} {a : Act} {w wb : World} {m mb mc : Mp} {P : Program}
theorem q0_ok {R : Type} {E : Env} (hE : EnvOk P E) {o : Oper} {K : AS → Option R} {r : R} (hq : pureK o = true) (h : Rel cx A a w) (hd : ∀ d, o.dst = some d → d < a.tmps.size)
    (ho : op1 E A o K = some r) : ∃ v A', (∀ w', (execOp a.eval o).run P w' = .ok (.value v) w') ∧ K A' = some r ∧ Rel cx A' (a.put o.dst v) w := by
  obtain ⟨m0, h0⟩ := h
  have h := h0.clear
  generalize hm : ({ m0 with x0 := fun b => ¬ cx.rp b, x1 := fun _ => False } : Mp) = m at h
  have hx : X0 m := by rw [← hm]; exact fun _ h => h
  clear hm h0
  unfold pureK at hq
  split at hq
  · rename_i x d he hde
    simp only [op1, he, hde] at ho
    refine ⟨a.eval x, _, fun w' => by simp [execOp, he], ho, ?_⟩
    rw [hde]; exact ⟨m, h.put d (hd d hde) _ _ (opd_ok h x)⟩
  · rename_i x d he hde
    simp only [op1, he, hde] at ho
    refine ⟨a.eval x, _, fun w' => by simp [execOp, he], ho, ?_⟩
    rw [hde]; exact ⟨m, h.put d (hd d hde) _ _ (opd_ok h x)⟩
  · rename_i c x y d he hde
    simp only [op1, he, hde] at ho
    split at ho
    · rename_i p b hc
      have hb := opdC_ok h c
      rw [hc] at hb
      have hb := hb.bool
      rcases brk_some ho with ⟨rfl, ho⟩ | ⟨rfl, ho⟩
      · refine ⟨a.eval x, _, fun w' => by simp [execOp, he, hb, asBool], ho, ?_⟩
        rw [hde]; exact ⟨m, h.put d (hd d hde) _ _ (opd_ok h x)⟩
      · refine ⟨a.eval y, _, fun w' => by simp [execOp, he, hb, asBool], ho, ?_⟩
        rw [hde]; exact ⟨m, h.put d (hd d hde) _ _ (opd_ok h y)⟩
    · cases ho
  · -- nilCheck
    rename_i x d he hde
    simp only [op1, he, hde] at ho
    have hc := opdC_ok h x
    split at ho
    · rename_i k off heq
      rw [heq] at hc
      obtain ⟨g, hμ, hv⟩ := hc
      refine ⟨a.eval x, _, fun w' => by simp [execOp, he, hv], ho, ?_⟩
      rw [hde]; exact ⟨m, h.put d (hd d hde) (.v (.one (.bptr k off))) _ ⟨g, hμ, hv⟩⟩
    · rename_i k s i heq
      rw [heq] at hc
      obtain ⟨ad, n, c, h1, h2, h3, hv⟩ := hc
      refine ⟨a.eval x, _, fun w' => by simp [execOp, he, hv], ho, ?_⟩
      rw [hde]; exact ⟨m, h.put d (hd d hde) (.v (.one (.eptr k s i))) _ ⟨ad, n, c, h1, h2, h3, hv⟩⟩
    · rename_i p t y heq
      rw [heq] at hc
      obtain ⟨ad, vs, hv, h1, h2⟩ := hc
      refine ⟨a.eval x, _, fun w' => by simp [execOp, he, hv], ho, ?_⟩
      rw [hde]; exact ⟨m, h.put d (hd d hde) (.v (.one (.rptr p t y))) _ ⟨ad, vs, hv, h1, h2⟩⟩
    · cases ho
  · -- fieldAddr
    rename_i t x f d he hde
    simp only [op1, he, hde] at ho
    have rv : ∀ {s : Sem Value} {w' : World} {v : Value}, s.run P w' = .ok v w' → (do pure (.value (← s)) : Sem Next).run P w' = .ok (.value v) w' := fun {s w' v} hr => run_v hr
    split at ho
    · rename_i T ht
      have hc := opdC_ok h x
      split at ho
      · rename_i k off heq
        rw [heq] at hc
        obtain ⟨g, hμ, hv⟩ := hc
        split at ho
        · rename_i o' ft hf
          refine ⟨.pointer (some ⟨g, off + o', none⟩), _, fun w' => ?_, ho, ?_⟩
          · simp only [execOp, he, hv]
            refine rv ?_
            rw [run_fieldAt hE ht hf w' ⟨g, off, none⟩, add_plain']
          · rw [hde]; exact ⟨m, h.put d (hd d hde) (.v (.one (.bptr k (off + o')))) _ ⟨g, hμ, rfl⟩⟩
        · cases ho
      · rename_i p t' y heq
        rw [heq] at hc
        split at ho
        · rename_i htt
          subst htt
          split at ho
          · rename_i t2 z hp
            obtain ⟨ad, vs, hv, hat, hro⟩ := hc
            obtain ⟨_, hT⟩ := hE.fit ht
            have hund := hT.und
            cases t' with
            | pair ta tb =>
              obtain ⟨fs, hfs, hff⟩ := hund
              obtain ⟨o', hn, hro2⟩ := proj_ok hff hp hro
              refine ⟨.pointer (some (ad.add o')), _, fun w' => ?_, ho, ?_⟩
              · simp only [execOp, he, hv]; exact rv (run_fieldAt hE ht hn w' ad)
              · rw [hde]
                refine ⟨m, h.put d (hd d hde) (.v (.one (.rptr p t2 z))) _ ⟨ad.add o', _, rfl, ?_, hro2⟩⟩
                exact (hat.drop o').take _
            | _ => cases f <;> simp [projF] at hp
          · cases ho
        · cases ho
      · rename_i k sz i heq
        rw [heq] at hc
        obtain ⟨ad, n', c', hμ, hi0, hi1, hv⟩ := hc
        split at ho
        · rename_i o' ft hf
          refine ⟨.pointer (some ((ad.add (i.toNat * sz)).add o')), _, fun w' => ?_, ho, ?_⟩
          · simp only [execOp, he, hv]; exact rv (run_fieldAt hE ht hf w' _)
          · rw [hde]; exact ⟨m, h.put d (hd d hde) (.v (.one (.fptr k sz i o'))) _ ⟨ad, n', c', hμ, hi0, hi1, rfl⟩⟩
        · cases ho
      · cases ho
    · cases ho
  · -- extract
    rename_i x i d he hde
    simp only [op1, he, hde] at ho
    split at ho
    · rename_i as heq
      have hv := opd_ok h x
      rw [heq] at hv
      obtain ⟨vs, hv, ha⟩ := hv
      split at ho
      · rename_i b hb
        obtain ⟨u, hu, hvu⟩ := ha.at hb
        refine ⟨u, _, fun w' => ?_, ho, ?_⟩
        · simp only [execOp, he, hv]; refine run_v ?_; simp [Instr.extract, hu]
        · rw [hde]; exact ⟨m, h.put d (hd d hde) (.v b) _ hvu⟩
      · cases ho
    · cases ho
  · cases hq
theorem drawU_ok {R0 : Type} {E : Env} (hE : EnvOk P E) (hct : ∀ f c, get E.ct f = some c → Sat P f c) {ops : Array Oper} (hns : Region.noSelect ops = true) {K : AS → Option R0} {r : R0} (hpins : ∀ k u, (k, u) ∈ cx.pins → pinBase ≤ k) {Q : Exit → Act → World → Prop} {N : Nat} (hN : N ≤ 60000)
    (hd : ∀ o ∈ ops.toList, dstOk N o = true) (hQp : ∀ c a w, ¬ Q (.panic c) a w) (hK : ∀ A' a' w', K A' = some r → Rel cx A' a' w' → a'.tmps.size = N → Q .normal a' w') :
    ∀ (p : Pt) (n : Nat) (top : Bool) (listed : Array Bool) (A : AS) (a : Act) (w : World), InvL .any ops listed → puOk ops n top p listed = true → Rel cx A a w → a.tmps.size = N → drawU E ops K p A = some r →
      (top = true → wpAnyL P .any ops Q (fun _ _ => True) n listed a w) ∧ (∀ n', n = n' + 1 → ∀ i ∈ altIdx p, i ∈ Region.ready .any ops listed → wpOp P ops Q i (fun a' w' => True ∧ wpAnyL P .any ops Q (fun _ _ => True) n' (listed.setIfInBounds i true) a' w') a w) := by
  intro p
  have alt1 : ∀ (i : Nat) (p : Pt), (∀ (n : Nat) (top : Bool) (listed : Array Bool) (A : AS) (a : Act) (w : World), InvL .any ops listed → puOk ops n top p listed = true → Rel cx A a w → a.tmps.size = N → drawU E ops K p A = some r →
      (top = true → wpAnyL P .any ops Q (fun _ _ => True) n listed a w) ∧ (∀ n', n = n' + 1 → ∀ i ∈ altIdx p, i ∈ Region.ready .any ops listed → wpOp P ops Q i (fun a' w' => True ∧ wpAnyL P .any ops Q (fun _ _ => True) n' (listed.setIfInBounds i true) a' w') a w)) →
      ∀ (n : Nat) (listed : Array Bool) (A : AS) (a : Act) (w : World), InvL .any ops listed → puOk ops n true p (listed.setIfInBounds i true) = true → Rel cx A a w → a.tmps.size = N → (match ops[i]? with
        | some o => opG E ops.toList A o fun A => drawU E ops K p A
        | none => none) = some r → i ∈ Region.ready .any ops listed → wpOp P ops Q i (fun a' w' => True ∧ wpAnyL P .any ops Q (fun _ _ => True) n (listed.setIfInBounds i true) a' w') a w := by
    intro i p ih n listed A a w hinv hpl hA hsz ho hmem
    cases hoi : ops[i]? with
    | none => rw [hoi] at ho; cases ho
    | some o =>
      rw [hoi] at ho
      simp only at ho
      have hdo : ∀ d, o.dst = some d → d < a.tmps.size := by rw [hsz]; exact dstOk_lt (hd o (op_mem hoi))
      refine wpOp_of_step hoi ?_
      exact opG_ok (P := P) (ops := ops) (Q := Q) hE hct (next := fun a' w' => True ∧ wpAnyL P .any ops Q (fun _ _ => True) n (listed.setIfInBounds i true) a' w') hA hpins (by omega) hdo ho
        fun A' v w' hk hA' => ⟨trivial, (ih n true _ A' (a.put o.dst v) w' (hinv.set hmem) hpl hA' (by rw [put_size]; exact hsz) hk).1 rfl⟩
  induction p with
  | done =>
    intro n top listed A a w hinv hpl hA hsz ho
    simp only [puOk, List.isEmpty_iff] at hpl
    simp only [drawU] at ho
    exact ⟨fun _ => wpAnyL_done hpl (hK A a w ho hA hsz) n, fun _ _ i hi => by simp [altIdx] at hi⟩
  | q j p ih =>
    intro n top listed A a w hinv hpl hA hsz ho
    refine ⟨fun _ => ?_, fun _ _ i hi => by simp [altIdx] at hi⟩
    cases n with
    | zero => simp [puOk] at hpl
    | succ n =>
      simp only [puOk, Bool.and_eq_true] at hpl
      obtain ⟨⟨⟨hmem, hfree⟩, hq⟩, hpl⟩ := hpl
      have hmem' : j ∈ Region.ready .any ops listed := by simpa using hmem
      simp only [drawU] at ho
      split at ho
      · rename_i o hoj
        rw [hoj] at hq
        have hq : pureK o = true := hq
        have hdo : ∀ d, o.dst = some d → d < a.tmps.size := by rw [hsz]; exact dstOk_lt (hd o (op_mem hoj))
        have step : ∀ (v : Value) (A' : AS), Rel cx A' (a.put o.dst v) w → drawU E ops K p A' = some r → YieldsIf P ops (fun _ => True) o v a → wpAnyL P .any ops Q (fun _ _ => True) (n + 1) listed a w := fun v A' hA' hk hy =>
          wpAnyL_take (S0 := fun _ => True) hoj hns hfree hmem (fun c a' w' h => absurd h (hQp _ _ _)) (fun _ _ _ _ _ => trivial) (fun _ _ => Iff.rfl) hinv hy trivial
            ((ih n true (listed.setIfInBounds j true) A' (a.put o.dst v) w (hinv.set hmem') hpl hA' (by rw [put_size]; exact hsz) hk).1 rfl)
        rcases opG_cases hA hdo ho with ⟨hw, A1, h1, ho⟩ | ⟨hw, A1, h1, hk⟩
        · obtain ⟨v, A', hrun, hk, hA'⟩ := q0_ok (P := P) hE hq h1 hdo ho
          exact step v A' hA' hk (.inl ⟨hw, fun w' _ => hrun w'⟩)
        · exact step undef A1 h1 hk (.inr ⟨hw, rfl⟩)
      · cases ho
  | t i p ih =>
    intro n top listed A a w hinv hpl hA hsz ho
    cases n <;> simp [puOk] at hpl
  | s1 b i p ih =>
    intro n top listed A a w hinv hpl hA hsz ho
    cases n with
    | zero => simp [puOk] at hpl
    | succ n =>
      simp only [puOk, Bool.and_eq_true] at hpl
      obtain ⟨htop, hpl⟩ := hpl
      simp only [drawU] at ho
      have hone := alt1 i p ih n listed A a w hinv hpl hA hsz ho
      refine ⟨fun ht => ?_, fun n' hn' i' hi' hmem => ?_⟩
      · have hr : Region.ready .any ops listed = [i] := by rw [ht] at htop; simpa using htop
        refine wpAnyL_all hr (by simp) fun i' hi => ?_
        have hii : i' = i := by simpa using hi
        rw [hii]
        exact hone (by rw [hr]; simp)
      · have hii : i' = i := by simpa [altIdx] using hi'
        have hnn : n' = n := by omega
        subst hii hnn
        exact hone hmem
  | s2 b i p q ihp ihq =>
    intro n top listed A a w hinv hpl hA hsz ho
    cases n with
    | zero => simp [puOk] at hpl
    | succ n =>
      simp only [puOk, Bool.and_eq_true] at hpl
      obtain ⟨⟨htop, hplp⟩, hplq⟩ := hpl
      have hsp : (match ops[i]? with
        | some o => opG E ops.toList A o fun A => drawU E ops K p A
        | none => none) = some r ∧ drawU E ops K q A = some r := by
        simp only [drawU] at ho
        cases hoi : ops[i]? with
        | none => rw [hoi] at ho; cases ho
        | some o =>
          rw [hoi] at ho
          exact both_some ho
      have hone := alt1 i p ihp n listed A a w hinv hplp hA hsz hsp.1
      have hrest := (ihq (n + 1) false listed A a w hinv hplq hA hsz hsp.2).2 n rfl
      have hall : ∀ i' ∈ altIdx (.s2 b i p q), i' ∈ Region.ready .any ops listed → wpOp P ops Q i' (fun a' w' => True ∧ wpAnyL P .any ops Q (fun _ _ => True) n (listed.setIfInBounds i' true) a' w') a w := fun i' hi' hmem => by
        rcases List.mem_cons.1 hi' with rfl | hi'
        · exact hone hmem
        · exact hrest i' hi' hmem
      refine ⟨fun ht => ?_, fun n' hn' i' hi' hmem => ?_⟩
      · have hr : Region.ready .any ops listed = i :: altIdx q := by rw [ht] at htop; simpa using htop
        refine wpAnyL_all hr (by simp) fun i' hi => ?_
        exact hall i' hi (by rw [hr]; exact hi)
      · have hnn : n' = n := by omega
        subst hnn
        exact hall i' hi' hmem
theorem drawU_fin {R0 : Type} {E : Env} (hE : EnvOk P E) (hct : ∀ f c, get E.ct f = some c → Sat P f c) (hm : P.follows .mixedOrders = true) {id : Nat} {ops : Array Oper} (hns : Region.noSelect ops = true) {K : AS → Option R0} {r : R0} (hpins : ∀ k u, (k, u) ∈ cx.pins → pinBase ≤ k) {Q : Exit → Act → World → Prop} {N : Nat} (hN : N ≤ 60000)
    (hd : ops.toList.all (dstOk N) = true) (hK : ∀ A' a' w', K A' = some r → Rel cx A' a' w' → a'.tmps.size = N → Q .normal a' w') (h : Rel cx A a w) (hsz : a.tmps.size = N) {pt : Pt} (hpl : puOk ops ops.size true pt (Array.replicate ops.size false) = true) (ho : drawU E ops K pt A = some r) : (Code.region id ops true).wp P Q a w := by
  refine wp_region_noPanic (wp_region_any hm (wpAny_of_L (S := fun _ _ => True) _ _ _ _ ?_))
  have h' : Rel cx A a { w with drawn := w.drawn + 1 } := h.below ⟨rfl, rfl, rfl, Nat.le_refl _, fun _ _ => rfl⟩
  exact (drawU_ok (Q := NoPanic Q) hE hct hns hpins hN (fun o ho => by rw [List.all_eq_true] at hd; exact hd o ho) (fun c a w h => h) (fun A' a' w' hk hr hs => hK A' a' w' hk hr hs) pt ops.size true _ A a _ (InvL.none _) hpl h' hsz ho).1 rfl
end
end Go.Refl
