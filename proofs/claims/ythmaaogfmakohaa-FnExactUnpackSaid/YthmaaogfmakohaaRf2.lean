/- States of a call as data: what a temporary, a variable and an array hold; how the machine's state fits it. No program in sight. No condition. -/
import Derived.Test.YthmaaogfmakohaaRf1
namespace Go.Refl
open Go.RowKit
set_option linter.unusedVariables false
set_option linter.unusedSimpArgs false

/-- A value of one cell. -/
inductive AC where
  | d (p : Bool) (t : Ty) (x : t.D)
  | own (k : Nat)
  | sub (k sz : Nat) (lo hi : Int)
  | nil
  | bptr (k off : Nat)
  | eptr (k sz : Nat) (i : Int)
  | fptr (k sz : Nat) (i : Int) (o : Nat)
  | rptr (p : Bool) (t : Ty) (x : t.D)
  | fn (f : Nat) (caps : List Nat)
  | bad
inductive A1 where
  | one (c : AC)
  | agg (cs : List AC)
inductive AV where
  | v (a : A1)
  | tup (vs : List A1)
inductive AO where
  | box (cs : List AC)
  | arr (e : TypeId) (t : Ty) (xs : List t.D)

abbrev Fr := List (Nat × AV)
abbrev Hp := List (Nat × AO)
def get {α : Type _} : List (Nat × α) → Nat → Option α
  | [], _ => none
  | (i, x) :: l, j => if i = j then some x else get l j
def del {α : Type} : List (Nat × α) → Nat → List (Nat × α)
  | [], _ => []
  | (i, x) :: l, j => if i = j then del l j else (i, x) :: del l j
/-- In order, so that two ways to one state end in one spelling. -/
def ins {α : Type} : List (Nat × α) → Nat → α → List (Nat × α)
  | [], j, y => [(j, y)]
  | (i, x) :: l, j, y => if j < i then (j, y) :: (i, x) :: l else if i = j then (j, y) :: l else (i, x) :: ins l j y
structure AS where
  fr : Fr
  hp : Hp

theorem get_del {α : Type} (l : List (Nat × α)) (j k : Nat) : get (del l j) k = if j = k then none else get l k := by
  induction l with
  | nil => simp [del, get]
  | cons p l ih =>
    obtain ⟨i, x⟩ := p
    simp only [del]
    split
    · rename_i h; subst h
      rw [ih]
      by_cases hk : i = k <;> simp [get, hk]
    · rename_i h
      simp only [get, ih]
      by_cases hik : i = k
      · subst hik; simp [Ne.symm h]
      · simp [hik]
theorem get_ins {α : Type} (l : List (Nat × α)) (j k : Nat) (y : α) : get (ins l j y) k = if j = k then some y else get l k := by
  induction l with
  | nil => simp [ins, get]
  | cons p l ih =>
    obtain ⟨i, x⟩ := p
    simp only [ins]
    split
    · simp [get]
    · split
      · rename_i h; subst h
        by_cases hk : i = k <;> simp [get, hk]
      · rename_i h
        simp only [get, ih]
        by_cases hik : i = k
        · subst hik; simp [Ne.symm h]
        · simp [hik]

def All2 {α β : Type} (r : α → β → Prop) : List α → List β → Prop
  | [], bs => bs = []
  | x :: xs, bs => ∃ y ys, bs = y :: ys ∧ r x y ∧ All2 r xs ys
theorem All2.mono {α β : Type} {r r' : α → β → Prop} : ∀ {xs : List α} {ys : List β}, (∀ x ∈ xs, ∀ y, r x y → r' x y) → All2 r xs ys → All2 r' xs ys
  | [], _, _, h => h
  | x :: xs, ys, hm, ⟨y, zs, hy, h1, h2⟩ => ⟨y, zs, hy, hm x (by simp) y h1, All2.mono (fun x hx y h => hm x (by simp [hx]) y h) h2⟩
theorem All2.length {α β : Type} {r : α → β → Prop} : ∀ {xs : List α} {ys : List β}, All2 r xs ys → ys.length = xs.length
  | [], _, h => by simp only [All2] at h; simp [h]
  | x :: xs, ys, ⟨y, zs, hy, h1, h2⟩ => by simp [hy, h2.length]
theorem All2.at {α β : Type} {r : α → β → Prop} : ∀ {xs : List α} {ys : List β} {i : Nat} {x : α}, All2 r xs ys → xs[i]? = some x → ∃ y, ys[i]? = some y ∧ r x y
  | [], _, _, _, _, h => by simp at h
  | x :: xs, ys, 0, z, ⟨y, zs, hy, h1, h2⟩, h => by simp at h; subst h; exact ⟨y, by simp [hy], h1⟩
  | x :: xs, ys, i + 1, z, ⟨y, zs, hy, h1, h2⟩, h => by
    obtain ⟨u, hu, hr⟩ := h2.at (i := i) (by simpa using h)
    exact ⟨u, by simp [hy, hu], hr⟩
theorem All2.app {α β : Type} {r : α → β → Prop} : ∀ {xs xs' : List α} {ys ys' : List β}, All2 r xs ys → All2 r xs' ys' → All2 r (xs ++ xs') (ys ++ ys')
  | [], _, _, _, h, h' => by simp only [All2] at h; subst h; simpa using h'
  | x :: xs, _, _, _, ⟨y, zs, hy, h1, h2⟩, h' => by subst hy; exact ⟨y, _, rfl, h1, h2.app h'⟩
theorem All2.take {α β : Type} {r : α → β → Prop} : ∀ {xs : List α} {ys : List β} (n : Nat), All2 r xs ys → All2 r (xs.take n) (ys.take n)
  | [], _, _, h => by simp only [All2] at h; subst h; simp [All2]
  | x :: xs, _, 0, _ => by simp [All2]
  | x :: xs, _, n + 1, ⟨y, zs, hy, h1, h2⟩ => by subst hy; exact ⟨y, _, rfl, h1, h2.take n⟩
theorem All2.drop {α β : Type} {r : α → β → Prop} : ∀ {xs : List α} {ys : List β} (n : Nat), All2 r xs ys → All2 r (xs.drop n) (ys.drop n)
  | [], _, _, h => by simp only [All2] at h; subst h; simp [All2]
  | x :: xs, ys, 0, h => by simpa using h
  | x :: xs, _, n + 1, ⟨y, zs, hy, h1, h2⟩ => by subst hy; simpa using h2.drop n

def Ty.one : Ty → Bool
  | .unit | .pair _ _ => false
  | _ => true
/-- What the machine knows of a state's things: where they lie. -/
structure Mp where
  μ : Nat → Value
  out : Nat → List Nat
  inn : Nat → List Nat
  x0 : Nat → Prop   -- blocks that nothing leans on: they may come back
  x1 : Nat → Prop
def Mp.F (m : Mp) (k : Nat) : List Nat := m.out k ++ m.inn k

section
variable (w : World) (R0 R1 : Nat → Prop) (μ : Nat → Value)
def pick (p : Bool) : Nat → Prop := if p then R0 else R1
/-- A value fits what is said of it. -/
def VC : AC → Value → Prop
  | .d p t x, v => t.one = true ∧ Ro (pick R0 R1 p) w t x [v]
  | .own k, v => v = μ k ∧ ∃ a n c, v = .slice a n c
  | .sub k sz lo hi, v => ∃ a n c, μ k = .slice a n c ∧ 0 ≤ lo ∧ lo ≤ hi ∧ hi ≤ n ∧ n ≤ c ∧ c ≤ maxLen ∧ v = .slice (if c = lo.toNat then a else a.map (·.add (lo.toNat * sz))) (hi.toNat - lo.toNat) (c - lo.toNat)
  | .nil, v => v = .slice none 0 0
  | .bptr k off, v => ∃ g, μ k = .pointer (some ⟨g, 0, none⟩) ∧ v = .pointer (some ⟨g, off, none⟩)
  | .eptr k sz i, v => ∃ a n c, μ k = .slice (some a) n c ∧ 0 ≤ i ∧ i < n ∧ v = .pointer (some (a.add (i.toNat * sz)))
  | .fptr k sz i o, v => ∃ a n c, μ k = .slice (some a) n c ∧ 0 ≤ i ∧ i < n ∧ v = .pointer (some ((a.add (i.toNat * sz)).add o))
  | .rptr p t x, v => ∃ ad vs, v = .pointer (some ad) ∧ AtCells (pick R0 R1 p) w (some ad) vs ∧ Ro (pick R0 R1 p) w t x vs
  | .fn f caps, v => ∃ vs, v = .func (.func f) #[] vs.toArray ∧ All2 (fun k u => u = μ k ∧ ∃ g, u = .pointer (some ⟨g, 0, none⟩)) caps vs
  | .bad, _ => True
def V1 : A1 → Value → Prop
  | .one c, v => VC w R0 R1 μ c v
  | .agg cs, v => ∃ vs, v = .agg vs.toArray ∧ All2 (VC w R0 R1 μ) cs vs
def VV : AV → Value → Prop
  | .v a, v => V1 w R0 R1 μ a v
  | .tup as, v => ∃ vs, v = .tuple vs.toArray ∧ All2 (V1 w R0 R1 μ) as vs
def VO (k : Nat) : AO → List Nat → List Nat → Prop
  | .box cs, out, inn => ∃ g c T, μ k = .pointer (some ⟨g, 0, none⟩) ∧ w.heap[g]? = some (.cells c T (0, 0)) ∧ All2 (VC w R0 R1 μ) cs c.toList ∧ out = [g] ∧ inn = []
  | .arr e t xs, out, inn => ∃ vs, HeadAt w e t.cells (μ k) xs.length vs out ∧ OwnL (Own w t) xs vs inn
end

def AC.toks : AC → List Nat
  | .own k | .sub k _ _ _ | .bptr k _ | .eptr k _ _ | .fptr k _ _ _ => [k]
  | .fn _ caps => caps
  | _ => []
def AC.arrs : AC → List Nat
  | .own k | .sub k _ _ _ => [k]
  | _ => []
def AC.shy : AC → Bool   -- leans on blocks that a call may write
  | .d p _ _ | .rptr p _ _ => !p
  | _ => false
theorem VC.mono {w w' : World} {R0 R1 R0' R1' : Nat → Prop} {μ μ' : Nat → Value} {c : AC} {v : Value} (h : VC w R0 R1 μ c v)
    (h0 : ∀ b, R0 b → b < w.heap.size → w'.heap[b]? = w.heap[b]? ∧ R0' b) (h1 : c.shy = true → ∀ b, R1 b → b < w.heap.size → w'.heap[b]? = w.heap[b]? ∧ R1' b)
    (hk : ∀ k ∈ c.toks, μ' k = μ k) : VC w' R0' R1' μ' c v := by
  have hp : ∀ p, (p = false → c.shy = true) → ∀ b, pick R0 R1 p b → b < w.heap.size → w'.heap[b]? = w.heap[b]? ∧ pick R0' R1' p b := by
    intro p hs b hb hl
    cases p with
    | true => exact h0 b hb hl
    | false => exact h1 (hs rfl) b hb hl
  cases c with
  | d p t x => exact ⟨h.1, h.2.mono (hp p (by rintro rfl; rfl))⟩
  | own k => simpa only [VC, hk k (by simp [AC.toks])] using h
  | sub k sz lo hi => simpa only [VC, hk k (by simp [AC.toks])] using h
  | nil => exact h
  | bptr k off => simpa only [VC, hk k (by simp [AC.toks])] using h
  | eptr k sz i => simpa only [VC, hk k (by simp [AC.toks])] using h
  | fptr k sz i o => simpa only [VC, hk k (by simp [AC.toks])] using h
  | rptr p t x =>
    obtain ⟨ad, vs, hv, ha, hr⟩ := h
    exact ⟨ad, vs, hv, ha.mono (hp p (by rintro rfl; rfl)), hr.mono (hp p (by rintro rfl; rfl))⟩
  | fn f caps =>
    obtain ⟨vs, hv, ha⟩ := h
    exact ⟨vs, hv, ha.mono fun k hk' u hu => by rw [hk k (by simpa [AC.toks] using hk')]; exact hu⟩
  | bad => trivial
def A1.cs : A1 → List AC
  | .one c => [c]
  | .agg cs => cs
def AV.cs : AV → List AC
  | .v a => a.cs
  | .tup as => as.flatMap A1.cs
theorem V1.mono {w w' : World} {R0 R1 R0' R1' : Nat → Prop} {μ μ' : Nat → Value} {c : A1} {v : Value} (h : V1 w R0 R1 μ c v)
    (h0 : ∀ b, R0 b → b < w.heap.size → w'.heap[b]? = w.heap[b]? ∧ R0' b) (h1 : (∃ a ∈ c.cs, a.shy = true) → ∀ b, R1 b → b < w.heap.size → w'.heap[b]? = w.heap[b]? ∧ R1' b)
    (hk : ∀ a ∈ c.cs, ∀ k ∈ a.toks, μ' k = μ k) : V1 w' R0' R1' μ' c v := by
  cases c with
  | one c => exact VC.mono h h0 (fun hs => h1 ⟨c, by simp [A1.cs], hs⟩) (hk c (by simp [A1.cs]))
  | agg cs =>
    obtain ⟨vs, hv, ha⟩ := h
    exact ⟨vs, hv, ha.mono fun a hm u hu => hu.mono h0 (fun hs => h1 ⟨a, hm, hs⟩) (hk a hm)⟩
theorem VV.mono {w w' : World} {R0 R1 R0' R1' : Nat → Prop} {μ μ' : Nat → Value} {c : AV} {v : Value} (h : VV w R0 R1 μ c v)
    (h0 : ∀ b, R0 b → b < w.heap.size → w'.heap[b]? = w.heap[b]? ∧ R0' b) (h1 : (∃ a ∈ c.cs, a.shy = true) → ∀ b, R1 b → b < w.heap.size → w'.heap[b]? = w.heap[b]? ∧ R1' b)
    (hk : ∀ a ∈ c.cs, ∀ k ∈ a.toks, μ' k = μ k) : VV w' R0' R1' μ' c v := by
  cases c with
  | v c => exact V1.mono h h0 h1 hk
  | tup as =>
    obtain ⟨vs, hv, ha⟩ := h
    refine ⟨vs, hv, ha.mono fun a hm u hu => hu.mono h0 (fun ⟨c, hc, hs⟩ => h1 ⟨c, ?_, hs⟩) (fun c hc => hk c ?_)⟩ <;> exact List.mem_flatMap.2 ⟨a, hm, hc⟩

/-! ### The whole state -/
structure Cx where
  w0 : World
  O : List Nat
  pins : List (Nat × Value)
  rp : Nat → Prop   -- where what is read from now on may lie
structure Keeps (O : List Nat) (w w' : World) : Prop where
  os : w'.os = w.os
  tape : w'.tape = w.tape
  output : w'.output = w.output
  size : w.heap.size ≤ w'.heap.size
  block : ∀ k, k < w.heap.size → k ∉ O → w'.heap[k]? = w.heap[k]?
theorem Keeps.refl (O : List Nat) (w : World) : Keeps O w w := ⟨rfl, rfl, rfl, Nat.le_refl _, fun _ _ _ => rfl⟩
theorem Keeps.trans {O O' : List Nat} {a b c : World} (h : Keeps O a b) (k : Keeps O' b c) (hO : ∀ x ∈ O', x ∈ O ∨ a.heap.size ≤ x) : Keeps O a c :=
  ⟨k.os.trans h.os, k.tape.trans h.tape, k.output.trans h.output, Nat.le_trans h.size k.size, fun i hi hn =>
    (k.block i (Nat.lt_of_lt_of_le hi h.size) (fun hm => (hO i hm).elim hn fun h => absurd hi (by omega))).trans (h.block i hi hn)⟩
theorem Keeps.below {w w' : World} (h : Keeps [] w w') : Below w.heap.size w w' := ⟨h.os, h.tape, h.output, h.size, fun k hk => h.block k hk (by simp)⟩
theorem Keeps.of_below {O : List Nat} {w w' : World} (h : Below w.heap.size w w') : Keeps O w w' := ⟨h.os, h.tape, h.output, h.size, fun k hk _ => h.block k hk⟩

def live (A : AS) (k : Nat) : Prop := (get A.hp k).isSome = true
def R0of (A : AS) (m : Mp) (b : Nat) : Prop := ¬ m.x0 b ∧ ∀ k, live A k → b ∉ m.F k
def R1of (A : AS) (m : Mp) (b : Nat) : Prop := ¬ m.x1 b ∧ ∀ k, live A k → b ∉ m.out k
structure RelW (cx : Cx) (A : AS) (a : Act) (w : World) (m : Mp) : Prop where
  fr : ∀ i av, get A.fr i = some av → i < a.tmps.size ∧ VV w (R0of A m) (R1of A m) m.μ av (a.tmps.getD i undef)
  hp : ∀ k o, get A.hp k = some o → VO w (R0of A m) (R1of A m) m.μ k o (m.out k) (m.inn k)
  nd : ∀ k, live A k → (m.F k).Nodup
  dj : ∀ j k, live A j → live A k → j ≠ k → ∀ b ∈ m.F j, b ∉ m.F k
  lt : ∀ k, live A k → ∀ b ∈ m.F k, b < w.heap.size
  own : ∀ k, live A k → ∀ b ∈ m.F k, b ∈ cx.O ∨ cx.w0.heap.size ≤ b
  keeps : Keeps cx.O cx.w0 w
  pins : ∀ k v, (k, v) ∈ cx.pins → live A k → m.μ k = v
  defers : a.defers = []
  rp : ∀ b, ¬ cx.rp b → m.x0 b
  rpo : ∀ b, b ∈ cx.O ∨ cx.w0.heap.size ≤ b → cx.rp b
def Rel (cx : Cx) (A : AS) (a : Act) (w : World) : Prop := ∃ m, RelW cx A a w m

/-- The blocks of what lives have not changed: all still fits. -/
theorem VO.mono {w w' : World} {R0 R1 R0' R1' : Nat → Prop} {μ μ' : Nat → Value} {k : Nat} {o : AO} {out inn : List Nat} (h : VO w R0 R1 μ k o out inn)
    (h0 : ∀ b, R0 b → b < w.heap.size → w'.heap[b]? = w.heap[b]? ∧ R0' b) (h1 : ∀ b, R1 b → b < w.heap.size → w'.heap[b]? = w.heap[b]? ∧ R1' b)
    (hF : ∀ b, b ∈ out ++ inn → w'.heap[b]? = w.heap[b]?) (hk : μ' k = μ k) (hc : ∀ cs, o = .box cs → ∀ a ∈ cs, ∀ j ∈ a.toks, μ' j = μ j) : VO w' R0' R1' μ' k o out inn := by
  cases o with
  | box cs =>
    obtain ⟨g, c, T, hg, hb, ha, rfl, rfl⟩ := h
    exact ⟨g, c, T, by rw [hk]; exact hg, (hF g (by simp)).trans hb, ha.mono fun a hm u hu => hu.mono h0 (fun _ => h1) (hc cs rfl a hm), rfl, rfl⟩
  | arr e t xs =>
    obtain ⟨vs, hh, ho⟩ := h
    exact ⟨vs, by rw [hk]; exact hh.mono fun b hb => hF b (List.mem_append.2 (.inl hb)), ho.mono fun _ _ _ hs h' => h'.mono fun b hb => hF b (List.mem_append.2 (.inr (hs b hb)))⟩
/-- The world goes on, nothing that was there has changed. -/
theorem RelW.below {cx : Cx} {A : AS} {a : Act} {w w' : World} {m : Mp} (h : RelW cx A a w m) (hb : Below w.heap.size w w') : RelW cx A a w' m where
  fr i av hi := ⟨(h.fr i av hi).1, (h.fr i av hi).2.mono (fun b hR hl => ⟨hb.block b hl, hR⟩) (fun _ b hR hl => ⟨hb.block b hl, hR⟩) fun _ _ _ _ => rfl⟩
  hp k o hk := (h.hp k o hk).mono (fun b hR hl => ⟨hb.block b hl, hR⟩) (fun b hR hl => ⟨hb.block b hl, hR⟩) (fun b hm => hb.block b (h.lt k (by simp [live, hk]) b hm)) rfl fun _ _ _ _ _ _ => rfl
  nd := h.nd
  dj := h.dj
  lt k hk b hm := Nat.lt_of_lt_of_le (h.lt k hk b hm) hb.size
  own := h.own
  keeps := h.keeps.trans (Keeps.of_below (O := []) hb) (by simp)
  pins := h.pins
  defers := h.defers
  rp := h.rp
  rpo := h.rpo
theorem Rel.below {cx : Cx} {A : AS} {a : Act} {w w' : World} (h : Rel cx A a w) (hb : Below w.heap.size w w') : Rel cx A a w' := h.imp fun _ h => h.below hb
/-- A temporary is written. -/
theorem RelW.put {cx : Cx} {A : AS} {a : Act} {w : World} {m : Mp} (h : RelW cx A a w m) (d : Nat) (hd : d < a.tmps.size) (av : AV) (v : Value) (hv : VV w (R0of A m) (R1of A m) m.μ av v) :
    RelW cx { A with fr := ins A.fr d av } (a.put (some d) v) w m where
  fr i x hi := by
    rw [get_ins] at hi
    simp only [Act.put, Array.size_setIfInBounds]
    split at hi
    · rename_i hdi; subst hdi
      cases hi
      refine ⟨hd, ?_⟩
      rw [Array.getD_eq_getD_getElem?, Array.getElem?_setIfInBounds_self_of_lt hd]
      exact hv
    · rename_i hdi
      obtain ⟨h1, h2⟩ := h.fr i x hi
      refine ⟨h1, ?_⟩
      rw [Array.getD_eq_getD_getElem?, Array.getElem?_setIfInBounds_ne hdi, ← Array.getD_eq_getD_getElem?]
      exact h2
  hp := h.hp
  nd := h.nd
  dj := h.dj
  lt := h.lt
  own := h.own
  keeps := h.keeps
  pins := h.pins
  defers := h.defers
  rp := h.rp
  rpo := h.rpo
/-- A temporary is forgotten, or written with what nothing is said of. -/
theorem RelW.forget {cx : Cx} {A : AS} {a : Act} {w : World} {m : Mp} (h : RelW cx A a w m) (fr : Fr) (hf : ∀ i av, get fr i = some av → get A.fr i = some av) : RelW cx { A with fr := fr } a w m :=
  ⟨fun i av hi => h.fr i av (hf i av hi), h.hp, h.nd, h.dj, h.lt, h.own, h.keeps, h.pins, h.defers, h.rp, h.rpo⟩
end Go.Refl
