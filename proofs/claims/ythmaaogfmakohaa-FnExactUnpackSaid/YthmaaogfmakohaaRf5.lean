/- The evaluator is right: what leaves a state, what comes into it, what is read out of it. No program in sight. No condition. -/
import Derived.Test.YthmaaogfmakohaaRf4
namespace Go.Refl
open Go.RowKit
set_option linter.unusedVariables false
set_option linter.unusedSimpArgs false

def Sub (h' h : Hp) : Prop := ∀ k o, get h' k = some o → get h k = some o
theorem Sub.refl (h : Hp) : Sub h h := fun _ _ h => h
theorem Sub.trans {a b c : Hp} (h : Sub a b) (k : Sub b c) : Sub a c := fun i o h' => k i o (h i o h')
theorem Sub.del (h : Hp) (k : Nat) : Sub (del h k) h := fun i o hi => by
  rw [get_del] at hi; split at hi
  · cases hi
  · exact hi
/-- b lies in a block that was given up on the way from h to h'. -/
def Gone (m : Mp) (h h' : Hp) (b : Nat) : Prop := ∃ k, (get h k).isSome = true ∧ get h' k = none ∧ b ∈ m.F k

section
variable {cx : Cx} {A : AS} {a : Act} {w : World} {m : Mp}
theorem live_sub {h' : Hp} (hs : Sub h' A.hp) {k : Nat} (hk : (get h' k).isSome = true) : live A k := by
  cases hg : get h' k with
  | none => rw [hg] at hk; cases hk
  | some o => simp [live, hs k o hg]
/-- Blocks are given up; they may be written. -/
theorem RelW.free (h : RelW cx A a w m) {h' : Hp} (hs : Sub h' A.hp) {w' : World} (hsz : w.heap.size ≤ w'.heap.size) (hos : w'.os = w.os) (hta : w'.tape = w.tape) (hou : w'.output = w.output)
    (hb : ∀ b, b < w.heap.size → w'.heap[b]? = w.heap[b]? ∨ ∃ k, live A k ∧ get h' k = none ∧ b ∈ m.out k)
    (x0 x1 : Nat → Prop) (hx0 : ∀ b, b < w.heap.size → x0 b → m.x0 b ∨ Gone m A.hp h' b) (hx1 : ∀ b, b < w.heap.size → x1 b → m.x1 b ∨ ∃ k, live A k ∧ b ∈ m.out k) (hrp : ∀ b, ¬ cx.rp b → x0 b) :
    RelW cx ⟨A.fr, h'⟩ a w' { m with x0 := x0, x1 := x1 } := by
  have h0 : ∀ b, R0of A m b → b < w.heap.size → w'.heap[b]? = w.heap[b]? ∧ R0of ⟨A.fr, h'⟩ { m with x0 := x0, x1 := x1 } b := fun b hR hl =>
    ⟨(hb b hl).elim id fun ⟨k, hk, _, hm⟩ => absurd (List.mem_append.2 (.inl hm)) (hR.2 k hk), fun hx => (hx0 b hl hx).elim hR.1 fun ⟨k, hk, _, hm⟩ => hR.2 k hk hm, fun k hk => hR.2 k (live_sub hs hk)⟩
  have h1 : ∀ b, R1of A m b → b < w.heap.size → w'.heap[b]? = w.heap[b]? ∧ R1of ⟨A.fr, h'⟩ { m with x0 := x0, x1 := x1 } b := fun b hR hl =>
    ⟨(hb b hl).elim id fun ⟨k, hk, _, hm⟩ => absurd hm (hR.2 k hk), fun hx => (hx1 b hl hx).elim hR.1 fun ⟨k, hk, hm⟩ => hR.2 k hk hm, fun k hk => hR.2 k (live_sub hs hk)⟩
  refine ⟨fun i av hi => ⟨(h.fr i av hi).1, (h.fr i av hi).2.mono h0 (fun _ => h1) fun _ _ _ _ => rfl⟩, fun k o hk => ?_, fun k hk => h.nd k (live_sub hs hk), fun j k hj hk => h.dj j k (live_sub hs hj) (live_sub hs hk),
    fun k hk b hm => Nat.lt_of_lt_of_le (h.lt k (live_sub hs hk) b hm) hsz, fun k hk => h.own k (live_sub hs hk), ?_, fun k v hp hk => h.pins k v hp (live_sub hs hk), h.defers, hrp, h.rpo⟩
  · refine (h.hp k o (hs k o hk)).mono h0 h1 (fun b hm => ?_) rfl fun _ _ _ _ _ _ => rfl
    have hlk : live A k := by simp [live, hs k o hk]
    refine (hb b (h.lt k hlk b hm)).elim id fun ⟨j, hj, hn, hjm⟩ => ?_
    have hne : j ≠ k := by rintro rfl; rw [hn] at hk; cases hk
    exact absurd hm (h.dj j k hj hlk hne b (List.mem_append.2 (.inl hjm)))
  · refine h.keeps.trans (O' := cx.O ++ (List.range w'.heap.size).filter fun b => decide (cx.w0.heap.size ≤ b)) ⟨hos, hta, hou, hsz, fun b hl hn => ?_⟩ (fun b hm => ?_)
    · refine (hb b hl).elim id fun ⟨k, hk, _, hm⟩ => ?_
      exfalso
      rcases h.own k hk b (List.mem_append.2 (.inl hm)) with ho | ho
      · exact hn (List.mem_append.2 (.inl ho))
      · exact hn (List.mem_append.2 (.inr (List.mem_filter.2 ⟨List.mem_range.2 (by omega), by simpa using ho⟩)))
    · rcases List.mem_append.1 hm with hm | hm
      · exact .inl hm
      · exact .inr (by simpa using (List.mem_filter.1 hm).2)
/-- The same, of whatever they hold; what leans on them is forgotten. -/
theorem shyC_mono {w w' : World} {R0 R1 R0' R1' : Nat → Prop} {μ : Nat → Value} {c : AC} {v : Value} (h : VC w R0 R1 μ c v)
    (h0 : ∀ b, R0 b → b < w.heap.size → w'.heap[b]? = w.heap[b]? ∧ R0' b) : VC w' R0' R1' μ (shyC c) v := by
  unfold shyC
  split
  · trivial
  · rename_i hs; exact VC.mono h h0 (fun hs' => absurd hs' hs) fun _ _ => rfl
theorem All2.map {α β γ : Type} {r : γ → β → Prop} {f : α → γ} : ∀ {xs : List α} {ys : List β}, All2 (fun x y => r (f x) y) xs ys → All2 r (xs.map f) ys
  | [], _, h => h
  | x :: xs, ys, ⟨y, zs, hy, h1, h2⟩ => ⟨y, zs, hy, h1, h2.map⟩
theorem shy1_mono {w w' : World} {R0 R1 R0' R1' : Nat → Prop} {μ : Nat → Value} {c : A1} {v : Value} (h : V1 w R0 R1 μ c v)
    (h0 : ∀ b, R0 b → b < w.heap.size → w'.heap[b]? = w.heap[b]? ∧ R0' b) : V1 w' R0' R1' μ (shy1 c) v := by
  cases c with
  | one c => exact shyC_mono h h0
  | agg cs => obtain ⟨vs, hv, ha⟩ := h; exact ⟨vs, hv, (ha.mono fun _ _ _ hu => shyC_mono hu h0).map⟩
theorem shyV_mono {w w' : World} {R0 R1 R0' R1' : Nat → Prop} {μ : Nat → Value} {c : AV} {v : Value} (h : VV w R0 R1 μ c v)
    (h0 : ∀ b, R0 b → b < w.heap.size → w'.heap[b]? = w.heap[b]? ∧ R0' b) : VV w' R0' R1' μ (shyV c) v := by
  cases c with
  | v c => exact shy1_mono h h0
  | tup as => obtain ⟨vs, hv, ha⟩ := h; exact ⟨vs, hv, (ha.mono fun _ _ _ hu => shy1_mono hu h0).map⟩
theorem get_map {α β : Type} (f : α → β) : ∀ (l : List (Nat × α)) (k : Nat), get (l.map fun (i, v) => (i, f v)) k = (get l k).map f
  | [], _ => rfl
  | (i, x) :: l, k => by
    simp only [List.map_cons, get]
    split
    · rfl
    · exact get_map f l k
theorem live_shy (A : AS) (k : Nat) : live (shyS A) k ↔ live A k := by
  unfold live shyS
  simp only
  rw [get_map]
  cases get A.hp k <;> simp
theorem RelW.freeS (h : RelW cx A a w m) {h' : Hp} (hs : Sub h' A.hp) {w' : World} (hsz : w.heap.size ≤ w'.heap.size) (hos : w'.os = w.os) (hta : w'.tape = w.tape) (hou : w'.output = w.output)
    (hb : ∀ b, b < w.heap.size → w'.heap[b]? = w.heap[b]? ∨ Gone m A.hp h' b) (x0 x1 : Nat → Prop) (hx0 : ∀ b, b < w.heap.size → x0 b → m.x0 b ∨ Gone m A.hp h' b) (hrp : ∀ b, ¬ cx.rp b → x0 b) :
    RelW cx (shyS ⟨A.fr, h'⟩) a w' { m with x0 := x0, x1 := x1 } := by
  have hlv : ∀ k, live (shyS ⟨A.fr, h'⟩) k → live A k := fun k hk => live_sub hs ((live_shy _ _).1 hk)
  have h0 : ∀ b, R0of A m b → b < w.heap.size → w'.heap[b]? = w.heap[b]? ∧ R0of (shyS ⟨A.fr, h'⟩) { m with x0 := x0, x1 := x1 } b := fun b hR hl =>
    ⟨(hb b hl).elim id fun ⟨k, hk, _, hm⟩ => absurd hm (hR.2 k hk), fun hx => (hx0 b hl hx).elim hR.1 fun ⟨k, hk, _, hm⟩ => hR.2 k hk hm, fun k hk => hR.2 k (hlv k hk)⟩
  refine ⟨fun i av hi => ?_, fun k o hk => ?_, fun k hk => h.nd k (hlv k hk), fun j k hj hk => h.dj j k (hlv j hj) (hlv k hk),
    fun k hk b hm => Nat.lt_of_lt_of_le (h.lt k (hlv k hk) b hm) hsz, fun k hk => h.own k (hlv k hk), ?_, fun k v hp hk => h.pins k v hp (hlv k hk), h.defers, hrp, h.rpo⟩
  · simp only [shyS] at hi
    rw [get_map] at hi
    cases hg : get A.fr i with
    | none => rw [hg] at hi; cases hi
    | some x =>
      rw [hg] at hi; simp at hi; subst hi
      exact ⟨(h.fr i x hg).1, shyV_mono (h.fr i x hg).2 h0⟩
  · simp only [shyS] at hk
    rw [get_map] at hk
    cases hg : get h' k with
    | none => rw [hg] at hk; cases hk
    | some x =>
      rw [hg] at hk; simp at hk; subst hk
      have hlk : live A k := by simp [live, hs k x hg]
      have hun : ∀ b, b ∈ m.out k ++ m.inn k → w'.heap[b]? = w.heap[b]? := fun b hm =>
        (hb b (h.lt k hlk b hm)).elim id fun ⟨j, hj, hn, hjm⟩ => absurd hm (h.dj j k hj hlk (by rintro rfl; rw [hn] at hg; cases hg) b hjm)
      have hv := h.hp k x (hs k x hg)
      cases x with
      | box cs =>
        obtain ⟨g, c, T, h1, h2, h3, h4, h5⟩ := hv
        exact ⟨g, c, T, h1, (hun g (by rw [h4]; simp)).trans h2, (h3.mono fun _ _ _ hu => shyC_mono hu h0).map, h4, h5⟩
      | arr e t xs =>
        obtain ⟨vs, hh, ho⟩ := hv
        exact ⟨vs, hh.mono fun b hb => hun b (List.mem_append.2 (.inl hb)), ho.mono fun _ _ _ hs h' => h'.mono fun b hb => hun b (List.mem_append.2 (.inr (hs b hb)))⟩
  · refine h.keeps.trans (O' := cx.O ++ (List.range w'.heap.size).filter fun b => decide (cx.w0.heap.size ≤ b)) ⟨hos, hta, hou, hsz, fun b hl hn => ?_⟩ (fun b hm => ?_)
    · refine (hb b hl).elim id fun ⟨k, hk, _, hm⟩ => ?_
      exfalso
      rcases h.own k hk b hm with ho | ho
      · exact hn (List.mem_append.2 (.inl ho))
      · exact hn (List.mem_append.2 (.inr (List.mem_filter.2 ⟨List.mem_range.2 (by omega), by simpa using ho⟩)))
    · rcases List.mem_append.1 hm with hm | hm
      · exact .inl hm
      · exact .inr (by simpa using (List.mem_filter.1 hm).2)

def Mp.upd (m : Mp) (k : Nat) (v : Value) (out inn : List Nat) : Mp :=
  { m with μ := fun j => if j = k then v else m.μ j, out := fun j => if j = k then out else m.out j, inn := fun j => if j = k then inn else m.inn j }
theorem Mp.upd_F (m : Mp) (k : Nat) (v : Value) (out inn : List Nat) (j : Nat) : (m.upd k v out inn).F j = if j = k then out ++ inn else m.F j := by
  unfold Mp.F Mp.upd; simp only; split <;> rfl
/-- Something comes in under number k. -/
theorem RelW.add (h : RelW cx A a w m) (k : Nat) (o : AO) (v : Value) (out inn : List Nat) (hno : get A.hp k = none)
    (hμ : v = m.μ k ∨ ((∀ i av, get A.fr i = some av → ∀ c ∈ av.cs, k ∉ c.toks) ∧ (∀ j cs, get A.hp j = some (.box cs) → ∀ c ∈ cs, k ∉ c.toks)))
    (hv : VO w (R0of A m) (R1of A m) (m.upd k v out inn).μ k o out inn)
    (hnd : (out ++ inn).Nodup) (hdj : ∀ j, live A j → ∀ b ∈ m.F j, b ∉ out ++ inn) (hlt : ∀ b ∈ out ++ inn, b < w.heap.size)
    (hown : ∀ b ∈ out ++ inn, b ∈ cx.O ∨ cx.w0.heap.size ≤ b) (hpin : ∀ u, (k, u) ∈ cx.pins → v = u)
    (hx0 : ∀ b ∈ out ++ inn, m.x0 b) (hx1 : ∀ b ∈ out, m.x1 b) :
    RelW cx ⟨A.fr, ins A.hp k o⟩ a w (m.upd k v out inn) := by
  have hlv : ∀ j, live ⟨A.fr, ins A.hp k o⟩ j → j = k ∨ live A j := fun j hj => by
    unfold live at hj; simp only [get_ins] at hj
    split at hj
    · exact .inl (by omega)
    · exact .inr hj
  have hr0 : ∀ b, R0of A m b → b < w.heap.size → w.heap[b]? = w.heap[b]? ∧ R0of ⟨A.fr, ins A.hp k o⟩ (m.upd k v out inn) b := fun b hb _ => ⟨rfl, hb.1, fun j hj => by
    rw [Mp.upd_F]
    split
    · exact fun hm => hb.1 (hx0 b hm)
    · rename_i hjk; exact hb.2 j ((hlv j hj).resolve_left hjk)⟩
  have hr1 : ∀ b, R1of A m b → b < w.heap.size → w.heap[b]? = w.heap[b]? ∧ R1of ⟨A.fr, ins A.hp k o⟩ (m.upd k v out inn) b := fun b hb _ => ⟨rfl, hb.1, fun j hj => by
    show b ∉ (if j = k then out else m.out j)
    split
    · exact fun hm => hb.1 (hx1 b hm)
    · rename_i hjk; exact hb.2 j ((hlv j hj).resolve_left hjk)⟩
  have hmu : ∀ j, (v = m.μ k ∨ j ≠ k) → (m.upd k v out inn).μ j = m.μ j := fun j hj => by
    show (if j = k then v else m.μ j) = m.μ j
    split
    · rename_i e; subst e; exact hj.elim id fun hn => absurd rfl hn
    · rfl
  refine ⟨fun i av hi => ⟨(h.fr i av hi).1, (h.fr i av hi).2.mono hr0 (fun _ => hr1) fun c hc j hj => hmu j (hμ.imp id fun hn => ?_)⟩, fun j o' hj => ?_, fun j hj => ?_, fun i j hi hj hij b hb => ?_, fun j hj b hb => ?_, fun j hj b hb => ?_, h.keeps, fun j u hp hj => ?_, h.defers, h.rp, h.rpo⟩
  · rintro rfl; exact hn.1 i av hi c hc hj
  · simp only [get_ins] at hj
    split at hj
    · rename_i e; subst e
      cases hj
      have e1 : (m.upd k v out inn).out k = out := by simp [Mp.upd]
      have e2 : (m.upd k v out inn).inn k = inn := by simp [Mp.upd]
      rw [e1, e2]
      cases o with
      | box cs =>
        obtain ⟨g, c, T, h1, h2, h3, h4, h5⟩ := hv
        exact ⟨g, c, T, h1, h2, h3.mono fun x hx u hu => hu.mono hr0 (fun _ => hr1) fun _ _ => rfl, h4, h5⟩
      | arr e t xs => exact hv
    · rename_i hjk
      have hjk' : j ≠ k := fun e => hjk e.symm
      have e1 : (m.upd k v out inn).out j = m.out j := by simp [Mp.upd, hjk']
      have e2 : (m.upd k v out inn).inn j = m.inn j := by simp [Mp.upd, hjk']
      have e3 : (m.upd k v out inn).μ j = m.μ j := by simp [Mp.upd, hjk']
      rw [e1, e2]
      have hv' := h.hp j o' hj
      cases o' with
      | box cs =>
        obtain ⟨g, c, T, h1, h2, h3, h4, h5⟩ := hv'
        exact ⟨g, c, T, by rw [e3]; exact h1, h2, h3.mono fun x hx u hu => hu.mono hr0 (fun _ => hr1) fun i hi => hmu i (hμ.imp id fun hn => by rintro rfl; exact hn.2 j cs hj x hx hi), h4, h5⟩
      | arr e t xs =>
        obtain ⟨vs, hh, ho⟩ := hv'
        exact ⟨vs, by rw [e3]; exact hh, ho⟩
  · rw [Mp.upd_F]
    split
    · exact hnd
    · rename_i e; exact h.nd j ((hlv j hj).resolve_left e)
  · rw [Mp.upd_F] at hb ⊢
    split at hb
    · rename_i e; subst e
      have hjk : ¬ j = i := fun e => hij e.symm
      rw [if_neg hjk]
      exact fun hm => hdj j ((hlv j hj).resolve_left hjk) b hm hb
    · rename_i e
      have hil := (hlv i hi).resolve_left e
      split
      · exact hdj i hil b hb
      · rename_i e'; exact h.dj i j hil ((hlv j hj).resolve_left e') hij b hb
  · rw [Mp.upd_F] at hb
    split at hb
    · exact hlt b hb
    · rename_i e; exact h.lt j ((hlv j hj).resolve_left e) b hb
  · rw [Mp.upd_F] at hb
    split at hb
    · exact hown b hb
    · rename_i e; exact h.own j ((hlv j hj).resolve_left e) b hb
  · show (if j = k then v else m.μ j) = u
    split
    · rename_i e; subst e; exact hpin u hp
    · rename_i e; exact h.pins j u hp ((hlv j hj).resolve_left e)
/-- What leans on k is forgotten. -/
theorem kill_mono {w : World} {R0 R1 : Nat → Prop} {μ : Nat → Value} {k : Nat} {c : AC} {v : Value} (h : VC w R0 R1 μ c v) : VC w R0 R1 μ (killC k c) v := by
  unfold killC; split
  · trivial
  · exact h
theorem killC_toks (k : Nat) (c : AC) : k ∉ (killC k c).toks := by
  unfold killC; split
  · simp [AC.toks]
  · rename_i h; simpa using h
theorem kill1_mono {w : World} {R0 R1 : Nat → Prop} {μ : Nat → Value} {k : Nat} {c : A1} {v : Value} (h : V1 w R0 R1 μ c v) : V1 w R0 R1 μ (kill1 k c) v := by
  cases c with
  | one c => exact kill_mono h
  | agg cs => obtain ⟨vs, hv, ha⟩ := h; exact ⟨vs, hv, (ha.mono fun _ _ _ hu => kill_mono hu).map⟩
theorem killV_mono {w : World} {R0 R1 : Nat → Prop} {μ : Nat → Value} {k : Nat} {c : AV} {v : Value} (h : VV w R0 R1 μ c v) : VV w R0 R1 μ (killV k c) v := by
  cases c with
  | v c => exact kill1_mono h
  | tup as => obtain ⟨vs, hv, ha⟩ := h; exact ⟨vs, hv, (ha.mono fun _ _ _ hu => kill1_mono hu).map⟩
theorem kill1_toks (k : Nat) (a : A1) : ∀ c ∈ (kill1 k a).cs, k ∉ c.toks := by
  cases a with
  | one c => intro x hx; simp [kill1, A1.cs] at hx; subst hx; exact killC_toks k c
  | agg cs => intro x hx; simp [kill1, A1.cs] at hx; obtain ⟨y, _, rfl⟩ := hx; exact killC_toks k y
theorem killV_toks (k : Nat) (a : AV) : ∀ c ∈ (killV k a).cs, k ∉ c.toks := by
  cases a with
  | v a => exact kill1_toks k a
  | tup as =>
    intro x hx
    simp only [killV, AV.cs, List.mem_flatMap, List.mem_map] at hx
    obtain ⟨y, ⟨z, _, rfl⟩, hx⟩ := hx
    exact kill1_toks k z x hx
theorem killC_free {k : Nat} {c : AC} (h : noTokC k c = true) : killC k c = c := by
  unfold noTokC at h
  unfold killC
  rw [Bool.not_eq_true'] at h
  rw [if_neg (by rw [h]; simp)]
theorem killL_free {k : Nat} {cs : List AC} (h : cs.all (noTokC k) = true) : cs.map (killC k) = cs := by
  rw [List.all_eq_true] at h
  exact (List.map_congr_left fun c hc => killC_free (h c hc)).trans (List.map_id cs)
theorem kill1_free {k : Nat} {a : A1} (h : a.cs.all (noTokC k) = true) : kill1 k a = a := by
  cases a with
  | one c => simp only [A1.cs, List.all_cons, List.all_nil, Bool.and_true] at h; simp only [kill1, killC_free h]
  | agg cs => simp only [A1.cs] at h; simp only [kill1, killL_free h]
theorem killV_free {k : Nat} {v : AV} (h : v.cs.all (noTokC k) = true) : killV k v = v := by
  cases v with
  | v a => simp only [killV, kill1_free (show a.cs.all (noTokC k) = true from h)]
  | tup as =>
    simp only [AV.cs, List.all_eq_true, List.mem_flatMap] at h
    simp only [killV]
    congr 1
    refine (List.map_congr_left fun a ha => kill1_free ?_).trans (List.map_id as)
    rw [List.all_eq_true]
    exact fun c hc => h c ⟨a, ha, hc⟩
theorem killO_free {k : Nat} {o : AO} (h : noTokO k o = true) : killO k o = o := by
  cases o with
  | box cs => simp only [killO, killL_free (show cs.all (noTokC k) = true from h)]
  | arr e t xs => rfl
theorem get_all {α : Type} {q : Nat × α → Bool} : ∀ {l : List (Nat × α)} {j : Nat} {v : α}, l.all q = true → get l j = some v → q (j, v) = true
  | [], _, _, _, h => by cases h
  | (i, x) :: l, j, v, ha, h => by
    simp only [List.all_cons, Bool.and_eq_true] at ha
    simp only [get] at h
    split at h
    · rename_i e; subst e; cases h; exact ha.1
    · exact get_all ha.2 h
theorem killS_hp (A : AS) (k j : Nat) : get (killS A k).hp j = if k = j then none else (get A.hp j).map (killO k) := by
  unfold killS
  split
  · rename_i hf
    unfold freeOf at hf
    rw [Bool.and_eq_true] at hf
    split
    · rename_i e
      subst e
      cases hg : get A.hp k with
      | none => rfl
      | some o => have := get_all hf.2 hg; simp at this
    · cases hg : get A.hp j with
      | none => rfl
      | some o =>
        have := get_all hf.2 hg
        rw [Bool.and_eq_true] at this
        simp only [Option.map_some, killO_free this.2]
  · rw [get_map, get_del]
    split <;> rfl
theorem killS_fr (A : AS) (k j : Nat) : get (killS A k).fr j = (get A.fr j).map (killV k) := by
  unfold killS
  split
  · rename_i hf
    unfold freeOf at hf
    rw [Bool.and_eq_true] at hf
    cases hg : get A.fr j with
    | none => rfl
    | some v => simp only [Option.map_some, killV_free (get_all hf.1 hg)]
  · rw [get_map]
theorem live_kill {A : AS} {k j : Nat} (h : live (killS A k) j) : live A j ∧ j ≠ k := by
  unfold live at h ⊢
  rw [killS_hp] at h
  split at h
  · cases h
  · rename_i e
    refine ⟨?_, fun e' => e e'.symm⟩
    cases hg : get A.hp j with
    | none => rw [hg] at h; cases h
    | some o => rfl
theorem RelW.kill (h : RelW cx A a w m) (k : Nat) : RelW cx (killS A k) a w m := by
  have h0 : ∀ b, R0of A m b → b < w.heap.size → w.heap[b]? = w.heap[b]? ∧ R0of (killS A k) m b := fun b hR _ => ⟨rfl, hR.1, fun j hj => hR.2 j (live_kill hj).1⟩
  have h1 : ∀ b, R1of A m b → b < w.heap.size → w.heap[b]? = w.heap[b]? ∧ R1of (killS A k) m b := fun b hR _ => ⟨rfl, hR.1, fun j hj => hR.2 j (live_kill hj).1⟩
  refine ⟨fun i av hi => ?_, fun j o hj => ?_, fun j hj => h.nd j (live_kill hj).1, fun i j hi hj => h.dj i j (live_kill hi).1 (live_kill hj).1, fun j hj => h.lt j (live_kill hj).1, fun j hj => h.own j (live_kill hj).1, h.keeps, fun j v hp hj => h.pins j v hp (live_kill hj).1, h.defers, h.rp, h.rpo⟩
  · rw [killS_fr] at hi
    cases hg : get A.fr i with
    | none => rw [hg] at hi; cases hi
    | some x =>
      rw [hg] at hi; simp at hi; subst hi
      exact ⟨(h.fr i x hg).1, killV_mono ((h.fr i x hg).2.mono h0 (fun _ => h1) fun _ _ _ _ => rfl)⟩
  · rw [killS_hp] at hj
    split at hj
    · cases hj
    · cases hg : get A.hp j with
      | none => rw [hg] at hj; cases hj
      | some x =>
        rw [hg] at hj; simp at hj; subst hj
        have hv := h.hp j x hg
        cases x with
        | box cs =>
          obtain ⟨g, c, T, h2, h3, h4, h5⟩ := hv
          have h4' : All2 (fun x y => VC w (R0of (killS A k) m) (R1of (killS A k) m) m.μ (killC k x) y) cs c.toList := h4.mono fun _ _ _ hu => kill_mono (VC.mono hu h0 (fun _ => h1) fun _ _ => rfl)
          exact ⟨g, c, T, h2, h3, h4'.map, h5⟩
        | arr e t xs => exact hv
/-- A new thing, under a number that nothing leans on. -/
theorem RelW.new (h : RelW cx A a w m) (k : Nat) (o : AO) (v : Value) (out inn : List Nat)
    (hv : VO w (R0of A m) (R1of A m) (m.upd k v out inn).μ k o out inn)
    (hnd : (out ++ inn).Nodup) (hdj : ∀ j, live A j → ∀ b ∈ m.F j, b ∉ out ++ inn) (hlt : ∀ b ∈ out ++ inn, b < w.heap.size)
    (hown : ∀ b ∈ out ++ inn, b ∈ cx.O ∨ cx.w0.heap.size ≤ b) (hpin : ∀ u, (k, u) ∉ cx.pins)
    (hx0 : ∀ b ∈ out ++ inn, m.x0 b) (hx1 : ∀ b ∈ out, m.x1 b) : RelW cx (newTok A k o) a w (m.upd k v out inn) := by
  have h0 : ∀ b, R0of A m b → b < w.heap.size → w.heap[b]? = w.heap[b]? ∧ R0of (killS A k) m b := fun b hR _ => ⟨rfl, hR.1, fun j hj => hR.2 j (live_kill hj).1⟩
  have h1 : ∀ b, R1of A m b → b < w.heap.size → w.heap[b]? = w.heap[b]? ∧ R1of (killS A k) m b := fun b hR _ => ⟨rfl, hR.1, fun j hj => hR.2 j (live_kill hj).1⟩
  refine RelW.add (A := killS A k) (h.kill k) k o v out inn (by rw [killS_hp, if_pos rfl]) (.inr ⟨fun i av hi => ?_, fun j cs hj => ?_⟩) ?_ hnd (fun j hj => hdj j (live_kill hj).1) hlt hown (fun u hu => absurd hu (hpin u)) hx0 hx1
  · rw [killS_fr] at hi
    cases hg : get A.fr i with
    | none => rw [hg] at hi; cases hi
    | some x => rw [hg] at hi; simp at hi; subst hi; exact killV_toks k x
  · rw [killS_hp] at hj
    split at hj
    · cases hj
    · cases hg : get A.hp j with
      | none => rw [hg] at hj; cases hj
      | some x =>
        rw [hg] at hj
        cases x with
        | box cs' => simp [killO] at hj; subst hj; intro c hc; obtain ⟨y, _, rfl⟩ := List.mem_map.1 hc; exact killC_toks k y
        | arr e t xs => simp [killO] at hj
  · cases o with
    | box cs =>
      obtain ⟨g, c, T, h2, h3, h4, h5⟩ := hv
      exact ⟨g, c, T, h2, h3, h4.mono fun _ _ _ hu => hu.mono h0 (fun _ => h1) fun _ _ => rfl, h5⟩
    | arr e t xs => exact hv
end
end Go.Refl
