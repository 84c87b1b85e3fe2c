/- The evaluator is right: guards; regions in order. No program in sight. No condition. -/
import Derived.Test.YthmaaogfmakohaaRfH
namespace Go.Refl
open Go.RowKit
set_option linter.unusedVariables false
set_option linter.unusedSimpArgs false

section
variable {cx : Cx} {A : AS} {a : Act} {w : World} {P : Program}
theorem put_same (a : Act) (t : Nat) (v : Value) (h : a.tmps[t]? = some v) : a.put (some t) v = a := by
  obtain ⟨tmps, ds⟩ := a
  simp only [Act.put]
  congr 1
  have hs : t < tmps.size := by
    rcases Nat.lt_or_ge t tmps.size with h' | h'
    · exact h'
    · rw [Array.getElem?_eq_none h'] at h; cases h
  rw [Array.setIfInBounds, dif_pos hs]
  refine Array.ext (by simp) fun i h1 h2 => ?_
  rw [Array.getElem_set]
  split
  · rename_i hti
    subst hti
    rw [Array.getElem?_eq_getElem hs] at h
    exact (Option.some.inj h).symm
  · rfl
theorem guard_val (h : Rel cx A a w) {t : Nat} {p : Bool} {x : Bool} (hc : opdC A (.tmp t) = .d p .bool x) : a.tmps[t]? = some (.bool x) := by
  obtain ⟨m, h⟩ := h
  have hv := opdC_ok h (.tmp t)
  rw [hc] at hv
  have hv : a.eval (.tmp t) = .bool x := hv.bool
  simp only [Act.eval, Array.getD_eq_getD_getElem?] at hv
  cases hg : a.tmps[t]? with
  | none => rw [hg] at hv; simp [undef] at hv
  | some u => rw [hg] at hv; simp at hv; rw [hv]
/-- What is known of a temporary is said anew. -/
theorem Rel.say (h : Rel cx A a w) {t : Nat} {x : Bool} (hv : a.tmps[t]? = some (.bool x)) : Rel cx (put1 A t (.d true .bool x)) a w := by
  obtain ⟨m, h⟩ := h
  have hs : t < a.tmps.size := by
    rcases Nat.lt_or_ge t a.tmps.size with h' | h'
    · exact h'
    · rw [Array.getElem?_eq_none h'] at hv; cases hv
  have := h.put t hs (.v (.one (.d true .bool x))) (.bool x) (VC.mkBool w (R0of A m) (R1of A m) m.μ _ _)
  rw [put_same a t _ hv] at this
  exact ⟨m, this⟩
theorem undD_ok {m : Mp} (h : RelW cx A a w m) (d : Option Nat) (hd : ∀ k, d = some k → k < a.tmps.size) : Rel cx (undD A d) (a.put d undef) w := by
  cases d with
  | none => exact ⟨m, h⟩
  | some k => exact ⟨m, h.put k (hd k rfl) (.tup []) undef ⟨[], rfl, rfl⟩⟩
def stepW (P : Program) (ops : Array Oper) (o : Oper) (a : Act) (w : World) (next : Act → World → Prop) (Q : Exit → Act → World → Prop) : Prop :=
  if Region.wanted o (yielded ops a.tmps) then o.wp P a w next Q else next (a.put o.dst undef) w
theorem softT_ok (h : Rel cx A a w) (t : Nat) : Rel cx (softT A t) a w := by
  unfold softT
  split
  · rename_i c hc
    split
    · rename_i k hk
      split
      · rename_i e T xs hx
        split
        · rename_i x hp htk
          obtain ⟨m0, h0⟩ := h
          have h := h0.clear
          generalize hm : ({ m0 with x0 := fun b => ¬ cx.rp b, x1 := fun _ => False } : Mp) = m at h
          clear hm h0
          obtain ⟨hs, hv⟩ := h.fr t _ hc
          have hv : VC w (R0of A m) (R1of A m) m.μ c (a.tmps.getD t undef) := hv
          obtain ⟨v1, v2, hv12, hro, hr2, hs'⟩ := frzC_ok h (.sl e T) A.hp [c] [a.tmps.getD t undef] x [] hp (Sub.refl _) ⟨_, _, rfl, hv, rfl⟩ htk
          have hv2 : v2 = [] := hr2
          subst hv2
          rw [List.append_nil] at hv12
          rw [← hv12] at hro
          have h4 := h.free hs' (Nat.le_refl _) rfl rfl rfl (fun b hl => .inl rfl) (fun b => ¬ cx.rp b) (fun _ => False) (fun b _ hb => .inl (h.rp b hb)) (fun _ _ h => h.elim) (fun _ h => h)
          have hR : ∀ b, FrzR A m A.hp hp b → b < w.heap.size → w.heap[b]? = w.heap[b]? ∧ R0of ⟨A.fr, hp⟩ { m with x0 := fun b => ¬ cx.rp b, x1 := fun _ => False } b := fun b hb hl =>
            ⟨rfl, fun hrp => hb.elim (fun h0 => h0.1 (h.rp b hrp)) (fun ⟨j, hj, _, hjb⟩ => hrp (h.rpo b (h.own j hj b hjb))), fun j hj => hb.elim (fun h0 => h0.2 j (live_sub hs' hj)) fun hg => hg.not h (Sub.refl _) hj hs'⟩
          have h5 := h4.put t hs (.v (.one (.d true (.sl e T) x))) (a.tmps.getD t undef) ⟨rfl, hro.mono hR⟩
          rw [put_same a t _ (by rw [Array.getD_eq_getD_getElem?, Array.getElem?_eq_getElem hs]; rfl)] at h5
          exact ⟨_, h5⟩
        · exact h
      · exact h
    · exact h
  · exact h
theorem softL_ok : ∀ (ps : List Pm) (os : List Operand) {A : AS}, Rel cx A a w → Rel cx (softL A ps os) a w
  | [], _, A, h => by unfold softL; exact h
  | p :: ps, [], A, h => by cases p <;> exact h
  | p :: ps, o :: os, A, h => by
    unfold softL
    split
    · rename_i e1 e2; cases e1; cases e2; exact softL_ok _ _ (softT_ok h _)
    · rename_i e1 e2; cases e1; cases e2; exact softL_ok _ _ h
    · exact h
theorem softO_ok {E : Env} (h : Rel cx A a w) (o : Oper) : Rel cx (softO E A o) a w := by
  unfold softO
  split
  · split
    · split
      · exact softL_ok _ _ h
      · exact h
    · exact h
  · exact h
/-- The guard, decided. -/
theorem opG_cases {R : Type} {E : Env} {ops : Array Oper} {o : Oper} {K : AS → Option R} {r : R} (h : Rel cx A a w) (hd : ∀ d, o.dst = some d → d < a.tmps.size) (ho : opG E ops.toList A o K = some r) :
    (Region.wanted o (yielded ops a.tmps) = true ∧ ∃ A1, Rel cx A1 a w ∧ op1 E A1 o K = some r) ∨ (Region.wanted o (yielded ops a.tmps) = false ∧ ∃ A1, Rel cx A1 (a.put o.dst undef) w ∧ K A1 = some r) := by
  unfold opG at ho
  split at ho
  · rename_i hg
    exact .inl ⟨by simp [Region.wanted, hg], softO E A o, softO_ok h o, ho⟩
  · rename_i g want hg
    split at ho
    · cases ho
    · rename_i t ht
      split at ho
      · rename_i hc
        obtain ⟨m, hm⟩ := h
        have hv := opd_ok hm (.tmp t)
        rw [hc] at hv
        obtain ⟨vs, hv, hnil⟩ := hv
        have hnil : vs = [] := hnil
        subst hnil
        have hy : yielded ops a.tmps g = none := by
          unfold yielded
          rw [Array.getElem?_toList] at ht
          rw [ht]
          simp only [Option.bind_some]
          simp only [Act.eval, Array.getD_eq_getD_getElem?] at hv
          cases hg' : a.tmps[t]? with
          | none => rfl
          | some u => rw [hg'] at hv; simp at hv; subst hv; rfl
        refine .inr ⟨by simp [Region.wanted, hg, hy], _, ?_, ho⟩
        exact undD_ok hm _ hd
      · rename_i p x hc0
        have hc : opdC A (.tmp t) = .d p .bool x := by simp only [opdC, opd1, hc0]
        have hv := guard_val h hc
        have hy : yielded ops a.tmps g = some x := by
          unfold yielded
          rw [Array.getElem?_toList] at ht
          rw [ht]
          simp [hv]
        have hskip : ∀ b, a.tmps[t]? = some (.bool b) → Rel cx (undD (put1 A t (.d true .bool b)) o.dst) (a.put o.dst undef) w := fun b hb => by
          obtain ⟨m, hm⟩ := h.say hb
          exact undD_ok hm _ hd
        cases want with
        | true =>
          simp only at ho
          rcases brk_some ho with ⟨rfl, ho⟩ | ⟨rfl, ho⟩
          · exact .inl ⟨by simp [Region.wanted, hg, hy], _, h.say hv, ho⟩
          · exact .inr ⟨by simp [Region.wanted, hg, hy], _, hskip _ hv, ho⟩
        | false =>
          simp only at ho
          rcases brk_some ho with ⟨rfl, ho⟩ | ⟨rfl, ho⟩
          · exact .inr ⟨by simp [Region.wanted, hg, hy], _, hskip _ hv, ho⟩
          · exact .inl ⟨by simp [Region.wanted, hg, hy], _, h.say hv, ho⟩
      · cases ho
theorem opG_ok {R : Type} {E : Env} (hE : EnvOk P E) (hct : ∀ f c, get E.ct f = some c → Sat P f c) {ops : Array Oper} {o : Oper} {K : AS → Option R} {r : R} (h : Rel cx A a w) (hpins : ∀ k u, (k, u) ∈ cx.pins → pinBase ≤ k) (hsz : a.tmps.size ≤ 60000) (hd : ∀ d, o.dst = some d → d < a.tmps.size)
    (ho : opG E ops.toList A o K = some r) {next : Act → World → Prop} {Q : Exit → Act → World → Prop} (hK : ∀ A' v w', K A' = some r → Rel cx A' (a.put o.dst v) w' → next (a.put o.dst v) w') : stepW P ops o a w next Q := by
  unfold stepW
  rcases opG_cases h hd ho with ⟨hw, A1, h1, ho⟩ | ⟨hw, A1, h1, hk⟩
  · rw [if_pos hw]
    exact op1_ok hE hct h1 hpins hsz hd ho hK
  · rw [hw]
    exact hK _ _ _ hk h1
def dstOk (n : Nat) (o : Oper) : Bool := match o.dst with
  | some d => decide (d < n)
  | none => true
theorem dstOk_lt {n : Nat} {o : Oper} (h : dstOk n o = true) : ∀ d, o.dst = some d → d < n := fun d hd => by
  simp only [dstOk, hd, decide_eq_true_eq] at h; exact h
theorem evOps_ok {R : Type} {E : Env} (hE : EnvOk P E) (hct : ∀ f c, get E.ct f = some c → Sat P f c) {ops : Array Oper} {K : AS → Option R} {r : R} (hpins : ∀ k u, (k, u) ∈ cx.pins → pinBase ≤ k) {Q : Exit → Act → World → Prop} {n : Nat} (hn : n ≤ 60000)
    (hK : ∀ A' a' w', K A' = some r → Rel cx A' a' w' → a'.tmps.size = n → Q .normal a' w') : ∀ (l : List Oper) (A : AS) (a : Act) (w : World), Rel cx A a w → a.tmps.size = n → l.all (dstOk n) = true → evOps E ops.toList K l A = some r → wpList P ops Q l a w
  | [], A, a, w, h, hs, _, ho => hK A a w ho h hs
  | o :: l, A, a, w, h, hs, hd, ho => by
    simp only [List.all_cons, Bool.and_eq_true] at hd
    have := opG_ok hE hct (next := wpList P ops Q l) (Q := Q) h hpins (by omega) (by rw [hs]; exact dstOk_lt hd.1) ho
      fun A' v w' hk hr => evOps_ok hE hct hpins hn hK l A' _ w' hr (by rw [put_size]; exact hs) hd.2 hk
    unfold stepW at this
    unfold wpList
    split
    · rename_i hw; rw [if_pos hw] at this; exact .inl this
    · rename_i hw; rw [if_neg hw] at this; exact this
theorem region_ok {R : Type} {E : Env} (hE : EnvOk P E) (hct : ∀ f c, get E.ct f = some c → Sat P f c) {id : Nat} {ops : Array Oper} {K : AS → Option R} {r : R} (hpins : ∀ k u, (k, u) ∈ cx.pins → pinBase ≤ k) {Q : Exit → Act → World → Prop} {n : Nat} (hn : n ≤ 60000)
    (hK : ∀ A' a' w', K A' = some r → Rel cx A' a' w' → a'.tmps.size = n → Q .normal a' w') (h : Rel cx A a w) (hs : a.tmps.size = n) (hd : ops.toList.all (dstOk n) = true) (ho : evOps E ops.toList K ops.toList A = some r) : (Code.region id ops false).wp P Q a w := by
  refine wp_region ?_
  have := evOps_ok (P := P) hE hct hpins hn hK ops.toList A a w h hs hd ho
  rw [← wpOps_eq_wpList ops.toList 0 (fun j => by simp)] at this
  rw [List.range_eq_range']
  simpa using this
end
end Go.Refl
