/- Data as lists and numbers, and the memory that stands for it: no program in sight. No condition. -/
import Derived.WalkKit
import Derived.Below
import Derived.Laws.OwnMore
import Derived.Laws.BytesArg
import Derived.Laws.Slices
import Derived.Laws.Rows
import Derived.OrdersHeld
import Derived.Deep.RegionHeld3
import Derived.KernelRfl
namespace Go.Refl
open Go.RowKit
set_option linter.unusedVariables false
set_option linter.unusedSimpArgs false

inductive Ty where
  | int (k : IntKind)
  | bool
  | str
  | sl (e : TypeId) (t : Ty)
  | unit
  | pair (a b : Ty)
  deriving DecidableEq, Inhabited

@[reducible] def Ty.D : Ty → Type
  | .int _ => Int
  | .bool => Bool
  | .str => List Int
  | .sl _ t => List t.D
  | .unit => Unit
  | .pair a b => a.D × b.D

def Ty.zero : (t : Ty) → t.D
  | .int _ => (0 : Int)
  | .bool => false
  | .str => ([] : List Int)
  | .sl _ t => ([] : List t.D)
  | .unit => ()
  | .pair a b => (a.zero, b.zero)

def Ty.cells : Ty → Nat
  | .unit => 0
  | .pair a b => a.cells + b.cells
  | _ => 1

def inR (k : IntKind) (x : Int) : Prop := k.min ≤ x ∧ x ≤ k.max
instance (k : IntKind) (x : Int) : Decidable (inR k x) := by unfold inR; infer_instance
def big47 : Nat := 140737488355328
def bytesOf (s : ByteArray) : List Int := s.data.toList.map fun b => (b.toNat : Int)

def Ok : (t : Ty) → t.D → Prop
  | .int k, x => inR k x
  | .bool, _ => True
  | .str, x => (∀ b ∈ x, 0 ≤ b ∧ b ≤ 255) ∧ x.length ≤ big47
  | .sl _ t, x => x.length ≤ big47 ∧ ∀ y ∈ x, Ok t y
  | .unit, _ => True
  | .pair a b, x => Ok a x.1 ∧ Ok b x.2

/-- A list of data along a list of cells. -/
def RoL {α : Type} (ro : α → List Value → Prop) : List α → List Value → Prop
  | [], cs => cs = []
  | x :: xs, cs => ∃ c1 c2, cs = c1 ++ c2 ∧ ro x c1 ∧ RoL ro xs c2
/-- The cells at an address. -/
def AtCells (R : Nat → Prop) (w : World) (a : Option Addr) (vs : List Value) : Prop :=
  vs = [] ∨ ∃ ad, a = some ad ∧ R ad.block ∧ ∀ j u, vs[j]? = some u → w.cell? (ad.add j) = some u

/-- Data that is read, at blocks of which R holds. -/
def Ro (R : Nat → Prop) (w : World) : (t : Ty) → t.D → List Value → Prop
  | .int k, x, cs => cs = [.int k x] ∧ inR k x
  | .bool, x, cs => cs = [.bool x]
  | .str, x, cs => ∃ s, cs = [.string s] ∧ x = bytesOf s ∧ s.size ≤ big47
  | .sl _ t, x, cs => ∃ a cap vs, cs = [.slice a x.length cap] ∧ x.length ≤ cap ∧ cap ≤ maxLen ∧ x.length ≤ big47 ∧ AtCells R w a vs ∧ RoL (Ro R w t) x vs
  | .unit, _, cs => cs = []
  | .pair a b, x, cs => ∃ c1 c2, cs = c1 ++ c2 ∧ Ro R w a x.1 c1 ∧ Ro R w b x.2 c2

def OwnL {α : Type} (own : α → List Value → List Nat → Prop) : List α → List Value → List Nat → Prop
  | [], cs, fp => cs = [] ∧ fp = []
  | x :: xs, cs, fp => ∃ c1 c2 f1 f2, cs = c1 ++ c2 ∧ fp = f1 ++ f2 ∧ own x c1 f1 ∧ OwnL own xs c2 f2

/-- A slice's head: what it says of its block. -/
def HeadAt (w : World) (e : TypeId) (sz : Nat) (v : Value) (n : Nat) (vs : List Value) (fp : List Nat) : Prop :=
  (∃ a, v = .slice a 0 0 ∧ n = 0 ∧ vs = [] ∧ fp = []) ∨
  ∃ g cap cur, v = .slice (some ⟨g, 0, none⟩) n cap ∧ w.heap[g]? = some (.cells cur e (0, 0)) ∧ n ≤ cap ∧ cap ≤ maxLen ∧ n ≤ big47 ∧ cur.size = cap * sz ∧
    vs = cur.toList.take (n * sz) ∧ fp = [g]

/-- Data in blocks of its own: fp. -/
def Own (w : World) : (t : Ty) → t.D → List Value → List Nat → Prop
  | .int k, x, cs, fp => cs = [.int k x] ∧ inR k x ∧ fp = []
  | .bool, x, cs, fp => cs = [.bool x] ∧ fp = []
  | .str, x, cs, fp => (∃ s, cs = [.string s] ∧ x = bytesOf s ∧ s.size ≤ big47) ∧ fp = []
  | .sl e t, x, cs, fp => ∃ v vs f1 f2, cs = [v] ∧ HeadAt w e t.cells v x.length vs f1 ∧ OwnL (Own w t) x vs f2 ∧ fp = f1 ++ f2
  | .unit, _, cs, fp => cs = [] ∧ fp = []
  | .pair a b, x, cs, fp => ∃ c1 c2 f1 f2, cs = c1 ++ c2 ∧ fp = f1 ++ f2 ∧ Own w a x.1 c1 f1 ∧ Own w b x.2 c2 f2

/-! ### Lengths, and what is in range -/
theorem RoL.length {α : Type} {ro : α → List Value → Prop} {n : Nat} (h : ∀ x c, ro x c → c.length = n) : ∀ {xs : List α} {cs : List Value}, RoL ro xs cs → cs.length = xs.length * n
  | [], cs, hr => by simp only [RoL] at hr; simp [hr]
  | x :: xs, cs, hr => by
    obtain ⟨c1, c2, rfl, h1, h2⟩ := hr
    rw [List.length_append, h _ _ h1, RoL.length h h2, List.length_cons, Nat.add_mul]
    omega
theorem OwnL.length {α : Type} {own : α → List Value → List Nat → Prop} {n : Nat} (h : ∀ x c f, own x c f → c.length = n) : ∀ {xs : List α} {cs : List Value} {fp : List Nat}, OwnL own xs cs fp → cs.length = xs.length * n
  | [], cs, fp, hr => by simp only [OwnL] at hr; simp [hr.1]
  | x :: xs, cs, fp, hr => by
    obtain ⟨c1, c2, f1, f2, rfl, rfl, h1, h2⟩ := hr
    rw [List.length_append, h _ _ _ h1, OwnL.length h h2, List.length_cons, Nat.add_mul]
    omega
theorem Ro.length {R : Nat → Prop} {w : World} : ∀ {t : Ty} {x : t.D} {cs : List Value}, Ro R w t x cs → cs.length = t.cells
  | .int _, _, _, h => by simp [h.1, Ty.cells]
  | .bool, _, _, h => by simp only [Ro] at h; simp [h, Ty.cells]
  | .str, _, _, ⟨s, h, _⟩ => by simp [h, Ty.cells]
  | .sl _ _, _, _, ⟨a, cap, vs, h, _⟩ => by simp [h, Ty.cells]
  | .unit, _, _, h => by simp only [Ro] at h; simp [h, Ty.cells]
  | .pair a b, _, _, ⟨c1, c2, h, h1, h2⟩ => by simp [h, Ty.cells, h1.length, h2.length]
theorem Own.length {w : World} : ∀ {t : Ty} {x : t.D} {cs : List Value} {fp : List Nat}, Own w t x cs fp → cs.length = t.cells
  | .int _, _, _, _, h => by simp [h.1, Ty.cells]
  | .bool, _, _, _, h => by simp [h.1, Ty.cells]
  | .str, _, _, _, ⟨⟨s, h, _⟩, _⟩ => by simp [h, Ty.cells]
  | .sl _ _, _, _, _, ⟨v, vs, f1, f2, h, _⟩ => by simp [h, Ty.cells]
  | .unit, _, _, _, h => by simp [h.1, Ty.cells]
  | .pair a b, _, _, _, ⟨c1, c2, f1, f2, h, _, h1, h2⟩ => by simp [h, Ty.cells, h1.length, h2.length]

theorem bytesOf_ok (s : ByteArray) (h : s.size ≤ big47) : Ok .str (bytesOf s) := by
  refine ⟨fun b hb => ?_, by simpa [bytesOf] using h⟩
  obtain ⟨c, _, rfl⟩ := List.mem_map.1 hb
  have := c.toNat_lt
  omega
theorem RoL.all {α : Type} {ro : α → List Value → Prop} {p : α → Prop} (h : ∀ x c, ro x c → p x) : ∀ {xs : List α} {cs : List Value}, RoL ro xs cs → ∀ y ∈ xs, p y
  | [], _, _, y, hy => by cases hy
  | x :: xs, cs, ⟨c1, c2, _, h1, h2⟩, y, hy => by
    rcases List.mem_cons.1 hy with rfl | hy
    · exact h _ _ h1
    · exact RoL.all h h2 y hy
theorem OwnL.all {α : Type} {own : α → List Value → List Nat → Prop} {p : α → Prop} (h : ∀ x c f, own x c f → p x) : ∀ {xs : List α} {cs : List Value} {fp : List Nat}, OwnL own xs cs fp → ∀ y ∈ xs, p y
  | [], _, _, _, y, hy => by cases hy
  | x :: xs, cs, fp, ⟨c1, c2, f1, f2, _, _, h1, h2⟩, y, hy => by
    rcases List.mem_cons.1 hy with rfl | hy
    · exact h _ _ _ h1
    · exact OwnL.all h h2 y hy
theorem HeadAt.le {w : World} {e : TypeId} {sz : Nat} {v : Value} {n : Nat} {vs : List Value} {fp : List Nat} (h : HeadAt w e sz v n vs fp) : n ≤ big47 := by
  rcases h with ⟨a, _, rfl, _⟩ | ⟨g, cap, cur, _, _, _, _, h, _⟩
  · exact Nat.zero_le _
  · exact h
theorem Ro.ok {R : Nat → Prop} {w : World} : ∀ {t : Ty} {x : t.D} {cs : List Value}, Ro R w t x cs → Ok t x
  | .int _, _, _, h => h.2
  | .bool, _, _, _ => trivial
  | .str, _, _, ⟨s, _, h, hs⟩ => by subst h; exact bytesOf_ok s hs
  | .sl _ _, _, _, ⟨a, cap, vs, _, _, _, hl, _, hr⟩ => ⟨hl, RoL.all (fun _ _ h => h.ok) hr⟩
  | .unit, _, _, _ => trivial
  | .pair a b, _, _, ⟨c1, c2, _, h1, h2⟩ => ⟨h1.ok, h2.ok⟩
theorem Own.ok {w : World} : ∀ {t : Ty} {x : t.D} {cs : List Value} {fp : List Nat}, Own w t x cs fp → Ok t x
  | .int _, _, _, _, h => h.2.1
  | .bool, _, _, _, _ => trivial
  | .str, _, _, _, ⟨⟨s, _, h, hs⟩, _⟩ => by subst h; exact bytesOf_ok s hs
  | .sl _ _, _, _, _, ⟨v, vs, f1, f2, _, hh, hr, _⟩ => ⟨hh.le, OwnL.all (fun _ _ _ h => h.ok) hr⟩
  | .unit, _, _, _, _ => trivial
  | .pair a b, _, _, _, ⟨c1, c2, f1, f2, _, _, h1, h2⟩ => ⟨h1.ok, h2.ok⟩

/-- Every cell is a value of one cell. -/
theorem RoL.one {α : Type} {ro : α → List Value → Prop} (h : ∀ x c, ro x c → ∀ u ∈ c, u.oneCell' = true) : ∀ {xs : List α} {cs : List Value}, RoL ro xs cs → ∀ u ∈ cs, u.oneCell' = true
  | [], cs, hr, u, hu => by simp only [RoL] at hr; subst hr; cases hu
  | x :: xs, cs, ⟨c1, c2, hc, h1, h2⟩, u, hu => by
    subst hc
    rcases List.mem_append.1 hu with hu | hu
    · exact h _ _ h1 u hu
    · exact RoL.one h h2 u hu
theorem OwnL.one {α : Type} {own : α → List Value → List Nat → Prop} (h : ∀ x c f, own x c f → ∀ u ∈ c, u.oneCell' = true) : ∀ {xs : List α} {cs : List Value} {fp : List Nat}, OwnL own xs cs fp → ∀ u ∈ cs, u.oneCell' = true
  | [], cs, fp, hr, u, hu => by simp only [OwnL] at hr; obtain ⟨rfl, _⟩ := hr; cases hu
  | x :: xs, cs, fp, ⟨c1, c2, f1, f2, hc, _, h1, h2⟩, u, hu => by
    subst hc
    rcases List.mem_append.1 hu with hu | hu
    · exact h _ _ _ h1 u hu
    · exact OwnL.one h h2 u hu
theorem HeadAt.slice {w : World} {e : TypeId} {sz : Nat} {v : Value} {n : Nat} {vs : List Value} {fp : List Nat} (h : HeadAt w e sz v n vs fp) : ∃ a cap, v = .slice a n cap ∧ n ≤ cap ∧ cap ≤ maxLen := by
  rcases h with ⟨a, rfl, rfl, _⟩ | ⟨g, cap, cur, rfl, _, h1, h2, _⟩
  · exact ⟨_, _, rfl, Nat.le_refl _, Nat.zero_le _⟩
  · exact ⟨_, _, rfl, h1, h2⟩
theorem Ro.one {R : Nat → Prop} {w : World} : ∀ {t : Ty} {x : t.D} {cs : List Value}, Ro R w t x cs → ∀ u ∈ cs, u.oneCell' = true
  | .int _, _, _, h, u, hu => by rw [h.1] at hu; simp at hu; subst hu; rfl
  | .bool, _, _, h, u, hu => by simp only [Ro] at h; rw [h] at hu; simp at hu; subst hu; rfl
  | .str, _, _, ⟨s, h, _⟩, u, hu => by rw [h] at hu; simp at hu; subst hu; rfl
  | .sl _ _, _, _, ⟨a, cap, vs, h, _⟩, u, hu => by rw [h] at hu; simp at hu; subst hu; rfl
  | .unit, _, _, h, u, hu => by simp only [Ro] at h; rw [h] at hu; cases hu
  | .pair a b, _, _, ⟨c1, c2, h, h1, h2⟩, u, hu => by
    subst h
    rcases List.mem_append.1 hu with hu | hu
    · exact h1.one u hu
    · exact h2.one u hu
theorem Own.one {w : World} : ∀ {t : Ty} {x : t.D} {cs : List Value} {fp : List Nat}, Own w t x cs fp → ∀ u ∈ cs, u.oneCell' = true
  | .int _, _, _, _, h, u, hu => by rw [h.1] at hu; simp at hu; subst hu; rfl
  | .bool, _, _, _, h, u, hu => by rw [h.1] at hu; simp at hu; subst hu; rfl
  | .str, _, _, _, ⟨⟨s, h, _⟩, _⟩, u, hu => by rw [h] at hu; simp at hu; subst hu; rfl
  | .sl _ _, _, _, _, ⟨v, vs, f1, f2, h, hh, _⟩, u, hu => by
    rw [h] at hu; simp at hu; subst hu
    obtain ⟨a, cap, rfl, _⟩ := hh.slice
    rfl
  | .unit, _, _, _, h, u, hu => by rw [h.1] at hu; cases hu
  | .pair a b, _, _, _, ⟨c1, c2, f1, f2, h, _, h1, h2⟩, u, hu => by
    subst h
    rcases List.mem_append.1 hu with hu | hu
    · exact h1.one u hu
    · exact h2.one u hu

/-! ### Worlds that go on -/
theorem RoL.mono {α : Type} {ro ro' : α → List Value → Prop} (h : ∀ x c, ro x c → ro' x c) : ∀ {xs : List α} {cs : List Value}, RoL ro xs cs → RoL ro' xs cs
  | [], _, hr => hr
  | x :: xs, cs, ⟨c1, c2, hc, h1, h2⟩ => ⟨c1, c2, hc, h _ _ h1, RoL.mono h h2⟩
theorem cell_lt {w : World} {a : Addr} {v : Value} (h : w.cell? a = some v) : a.block < w.heap.size := World.block_lt_of_cell? w a h
theorem add_block (a : Addr) (n : Nat) : (a.add n).block = a.block := by unfold Addr.add; split <;> rfl
theorem AtCells.mono {R R' : Nat → Prop} {w w' : World} {a : Option Addr} {vs : List Value} (h : AtCells R w a vs)
    (hm : ∀ b, R b → b < w.heap.size → w'.heap[b]? = w.heap[b]? ∧ R' b) : AtCells R' w' a vs := by
  rcases h with rfl | ⟨ad, rfl, hR, hc⟩
  · exact .inl rfl
  · cases vs with
    | nil => exact .inl rfl
    | cons u us =>
      have hb : ad.block < w.heap.size := by have := cell_lt (hc 0 u rfl); rwa [add_block] at this
      refine .inr ⟨ad, rfl, (hm _ hR hb).2, fun j u hj => ?_⟩
      rw [World.cell?_of_block (w := w) (by rw [add_block]; exact (hm _ hR hb).1)]
      exact hc j u hj
theorem Ro.mono {R R' : Nat → Prop} {w w' : World} (hm : ∀ b, R b → b < w.heap.size → w'.heap[b]? = w.heap[b]? ∧ R' b) : ∀ {t : Ty} {x : t.D} {cs : List Value}, Ro R w t x cs → Ro R' w' t x cs
  | .int _, _, _, h => h
  | .bool, _, _, h => h
  | .str, _, _, h => h
  | .sl _ _, _, _, ⟨a, cap, vs, h, h1, h2, h3, h4, h5⟩ => ⟨a, cap, vs, h, h1, h2, h3, h4.mono hm, h5.mono fun _ _ h => Ro.mono hm h⟩
  | .unit, _, _, h => h
  | .pair a b, _, _, ⟨c1, c2, h, h1, h2⟩ => ⟨c1, c2, h, h1.mono hm, h2.mono hm⟩
theorem OwnL.mono {α : Type} {own own' : α → List Value → List Nat → Prop} : ∀ {xs : List α} {cs : List Value} {fp : List Nat} (h : ∀ x c f, (∀ b ∈ f, b ∈ fp) → own x c f → own' x c f), OwnL own xs cs fp → OwnL own' xs cs fp
  | [], _, _, _, hr => hr
  | x :: xs, cs, fp, h, ⟨c1, c2, f1, f2, hc, hf, h1, h2⟩ => by
    subst hf
    exact ⟨c1, c2, f1, f2, hc, rfl, h _ _ _ (fun b hb => List.mem_append.2 (.inl hb)) h1, OwnL.mono (fun x c f hf h' => h x c f (fun b hb => List.mem_append.2 (.inr (hf b hb))) h') h2⟩
theorem HeadAt.mono {w w' : World} {e : TypeId} {sz : Nat} {v : Value} {n : Nat} {vs : List Value} {fp : List Nat} (h : HeadAt w e sz v n vs fp) (hm : ∀ b ∈ fp, w'.heap[b]? = w.heap[b]?) : HeadAt w' e sz v n vs fp := by
  rcases h with h | ⟨g, cap, cur, h0, h1, h2, h3, h4, h5, h6, rfl⟩
  · exact .inl h
  · exact .inr ⟨g, cap, cur, h0, (hm g (by simp)).trans h1, h2, h3, h4, h5, h6, rfl⟩
theorem Own.mono {w w' : World} : ∀ {t : Ty} {x : t.D} {cs : List Value} {fp : List Nat}, Own w t x cs fp → (∀ b ∈ fp, w'.heap[b]? = w.heap[b]?) → Own w' t x cs fp
  | .int _, _, _, _, h, _ => h
  | .bool, _, _, _, h, _ => h
  | .str, _, _, _, h, _ => h
  | .sl _ _, _, _, _, ⟨v, vs, f1, f2, h, hh, hr, hf⟩, hm => by
    subst hf
    exact ⟨v, vs, f1, f2, h, hh.mono fun b hb => hm b (List.mem_append.2 (.inl hb)), hr.mono fun _ _ _ hs h' => h'.mono fun b hb => hm b (List.mem_append.2 (.inr (hs b hb))), rfl⟩
  | .unit, _, _, _, h, _ => h
  | .pair a b, _, _, _, ⟨c1, c2, f1, f2, h, hf, h1, h2⟩, hm => by
    subst hf
    exact ⟨c1, c2, f1, f2, h, rfl, h1.mono fun b hb => hm b (List.mem_append.2 (.inl hb)), h2.mono fun b hb => hm b (List.mem_append.2 (.inr hb))⟩

/-- The blocks are there. -/
theorem OwnL.lt {α : Type} {own : α → List Value → List Nat → Prop} {N : Nat} (h : ∀ x c f, own x c f → ∀ b ∈ f, b < N) : ∀ {xs : List α} {cs : List Value} {fp : List Nat}, OwnL own xs cs fp → ∀ b ∈ fp, b < N
  | [], cs, fp, hr, b, hb => by simp only [OwnL] at hr; rw [hr.2] at hb; cases hb
  | x :: xs, cs, fp, ⟨c1, c2, f1, f2, _, hf, h1, h2⟩, b, hb => by
    subst hf
    rcases List.mem_append.1 hb with hb | hb
    · exact h _ _ _ h1 b hb
    · exact OwnL.lt h h2 b hb
theorem heap_lt {w : World} {g : Nat} {o : Obj} (h : w.heap[g]? = some o) : g < w.heap.size := (Array.getElem?_eq_some_iff.1 h).1
theorem HeadAt.lt {w : World} {e : TypeId} {sz : Nat} {v : Value} {n : Nat} {vs : List Value} {fp : List Nat} (h : HeadAt w e sz v n vs fp) : ∀ b ∈ fp, b < w.heap.size := by
  rcases h with ⟨_, _, _, _, rfl⟩ | ⟨g, cap, cur, _, h1, _, _, _, _, _, rfl⟩
  · intro b hb; cases hb
  · intro b hb; simp at hb; subst hb; exact heap_lt h1
theorem Own.lt {w : World} : ∀ {t : Ty} {x : t.D} {cs : List Value} {fp : List Nat}, Own w t x cs fp → ∀ b ∈ fp, b < w.heap.size
  | .int _, _, _, _, h, b, hb => by rw [h.2.2] at hb; cases hb
  | .bool, _, _, _, h, b, hb => by rw [h.2] at hb; cases hb
  | .str, _, _, _, h, b, hb => by rw [h.2] at hb; cases hb
  | .sl _ _, _, _, _, ⟨v, vs, f1, f2, h, hh, hr, hf⟩, b, hb => by
    subst hf
    rcases List.mem_append.1 hb with hb | hb
    · exact hh.lt b hb
    · exact OwnL.lt (fun _ _ _ h => h.lt) hr b hb
  | .unit, _, _, _, h, b, hb => by rw [h.2] at hb; cases hb
  | .pair a b', _, _, _, ⟨c1, c2, f1, f2, h, hf, h1, h2⟩, b, hb => by
    subst hf
    rcases List.mem_append.1 hb with hb | hb
    · exact h1.lt b hb
    · exact h2.lt b hb

/-! ### What is owned can be read -/
theorem OwnL.ro {α : Type} {own : α → List Value → List Nat → Prop} {ro : α → List Value → Prop} : ∀ {xs : List α} {cs : List Value} {fp : List Nat} (h : ∀ x c f, (∀ b ∈ f, b ∈ fp) → own x c f → ro x c), OwnL own xs cs fp → RoL ro xs cs
  | [], _, _, _, hr => hr.1
  | x :: xs, cs, fp, h, ⟨c1, c2, f1, f2, hc, hf, h1, h2⟩ => by
    subst hf
    exact ⟨c1, c2, hc, h _ _ _ (fun b hb => List.mem_append.2 (.inl hb)) h1, OwnL.ro (fun x c f hf h' => h x c f (fun b hb => List.mem_append.2 (.inr (hf b hb))) h') h2⟩
theorem HeadAt.cells {R : Nat → Prop} {w : World} {e : TypeId} {sz : Nat} {v : Value} {n : Nat} {vs : List Value} {fp : List Nat} (h : HeadAt w e sz v n vs fp) (hR : ∀ b ∈ fp, R b) :
    ∃ a cap, v = .slice a n cap ∧ n ≤ cap ∧ cap ≤ maxLen ∧ n ≤ big47 ∧ AtCells R w a vs := by
  rcases h with ⟨a, rfl, rfl, rfl, rfl⟩ | ⟨g, cap, cur, rfl, h1, h2, h3, h4, h5, rfl, rfl⟩
  · exact ⟨_, _, rfl, Nat.le_refl _, Nat.zero_le _, Nat.zero_le _, .inl rfl⟩
  · refine ⟨_, _, rfl, h2, h3, h4, .inr ⟨_, rfl, hR g (by simp), fun j u hj => ?_⟩⟩
    have : ((⟨g, 0, none⟩ : Addr).add j) = ⟨g, j, none⟩ := by unfold Addr.add; split <;> simp_all
    rw [this, cell_of_row w g j cur e (0, 0) h1]
    rw [List.getElem?_take] at hj
    split at hj
    · simpa using hj
    · cases hj
theorem Own.ro {R : Nat → Prop} {w : World} : ∀ {t : Ty} {x : t.D} {cs : List Value} {fp : List Nat}, Own w t x cs fp → (∀ b ∈ fp, R b) → Ro R w t x cs
  | .int _, _, _, _, h, _ => ⟨h.1, h.2.1⟩
  | .bool, _, _, _, h, _ => h.1
  | .str, _, _, _, h, _ => h.1
  | .sl _ _, _, _, _, ⟨v, vs, f1, f2, h, hh, hr, hf⟩, hR => by
    subst hf
    obtain ⟨a, cap, rfl, h1, h2, h3, h4⟩ := hh.cells (R := R) fun b hb => hR b (List.mem_append.2 (.inl hb))
    exact ⟨a, cap, vs, h, h1, h2, h3, h4, hr.ro fun _ _ _ hs h' => h'.ro fun b hb => hR b (List.mem_append.2 (.inr (hs b hb)))⟩
  | .unit, _, _, _, h, _ => h.1
  | .pair a b, _, _, _, ⟨c1, c2, f1, f2, h, hf, h1, h2⟩, hR => by
    subst hf
    exact ⟨c1, c2, h, h1.ro fun b hb => hR b (List.mem_append.2 (.inl hb)), h2.ro fun b hb => hR b (List.mem_append.2 (.inr hb))⟩
end Go.Refl
