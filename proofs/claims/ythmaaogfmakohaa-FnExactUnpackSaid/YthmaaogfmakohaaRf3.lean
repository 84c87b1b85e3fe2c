/- The evaluator: what a function's text comes to over data, with the callees as plain functions. Definitions alone. No condition. -/
import Derived.Test.YthmaaogfmakohaaRf2
namespace Go.Refl
open Go.RowKit
set_option linter.unusedVariables false

/-- Types: their data, and an element's bytes. -/
abbrev TT := List (Nat × (Ty × Nat))
def tyOf (tt : TT) (t : TypeId) : Option Ty := (get tt t).map (·.1)
/-- Parameters: read; handed over; written in place; a variable behind a pointer; a function value with its variables. -/
inductive Pm where
  | ro (t : Ty)
  | mv (t : Ty)
  | inp (t : Ty)
  | st (t : Ty)
  | fn (f : Nat) (ts : List Ty)
inductive Rk where
  | own (t : Ty)
  | box (t : Ty)
@[reducible] def TysD : List Ty → Type
  | [] => Unit
  | t :: ts => t.D × TysD ts
@[reducible] def Pm.D : Pm → Type
  | .ro t | .mv t | .inp t | .st t => t.D
  | .fn _ ts => TysD ts
@[reducible] def Pm.O : Pm → Type
  | .ro _ | .mv _ => Unit
  | .inp t | .st t => t.D
  | .fn _ ts => TysD ts
@[reducible] def Rk.D : Rk → Type
  | .own t | .box t => t.D
@[reducible] def PsD : List Pm → Type
  | [] => Unit
  | p :: ps => p.D × PsD ps
@[reducible] def PsO : List Pm → Type
  | [] => Unit
  | p :: ps => p.O × PsO ps
@[reducible] def RsD : List Rk → Type
  | [] => Unit
  | r :: rs => r.D × RsD rs
structure Ct where
  ps : List Pm
  rs : List Rk
  F : PsD ps → Option (RsD rs × PsO ps)
structure Env where
  tt : TT
  ct : List (Nat × Ct)

def castD (t t' : Ty) (x : t.D) : Option t'.D := if h : t = t' then some (h ▸ x) else none
/-- A part of one cell within data, by its place; the data with another part there. -/
def getS : (t : Ty) → Nat → (T : Ty) → t.D → Option T.D
  | .pair a b, o, T, x => if o < a.cells then getS a o T x.1 else getS b (o - a.cells) T x.2
  | t, 0, T, x => castD t T x
  | _, _ + 1, _, _ => none
def setS : (t : Ty) → Nat → (T : Ty) → T.D → t.D → Option t.D
  | .pair a b, o, T, y, x => if o < a.cells then (setS a o T y x.1).map fun z => (z, x.2) else (setS b (o - a.cells) T y x.2).map fun z => (x.1, z)
  | t, 0, T, y, _ => castD T t y
  | _, _ + 1, _, _, _ => none
/-- Cells of data that is read. -/
def roC (p : Bool) : (t : Ty) → t.D → List AC
  | .unit, _ => []
  | .pair a b, x => roC p a x.1 ++ roC p b x.2
  | .int k, x => [.d true (.int k) x]
  | .bool, x => [.d true .bool x]
  | .str, x => [.d true .str x]
  | .sl e t, x => [.d p (.sl e t) x]
def shape (t : Ty) (cs : List AC) : A1 := if t.one then .one (cs.headD .bad) else .agg cs
def zeroC : Ty → List AC
  | .unit => []
  | .pair a b => zeroC a ++ zeroC b
  | .int k => [.d true (.int k) (0 : Int)]
  | .bool => [.d true .bool false]
  | .str => [.d true .str ([] : List Int)]
  | .sl _ _ => [.nil]
/-- Data out of cells, for reading. -/
def readC (hp : Hp) : (t : Ty) → List AC → Option (t.D × List AC)
  | .unit, cs => some ((), cs)
  | .pair a b, cs => (readC hp a cs).bind fun (x, cs) => (readC hp b cs).map fun (y, cs) => ((x, y), cs)
  | .int k, .d _ t x :: cs => (castD t (.int k) x).map fun x => (x, cs)
  | .bool, .d _ t x :: cs => (castD t .bool x).map fun x => (x, cs)
  | .str, .d _ t x :: cs => (castD t .str x).map fun x => (x, cs)
  | .sl e t, .d _ t' x :: cs => (castD t' (.sl e t) x).map fun x => (x, cs)
  | .sl e t, .nil :: cs => some (([] : List t.D), cs)
  | .sl e t, .own k :: cs => match get hp k with
    | some (.arr e' t' xs) => (castD (.sl e' t') (.sl e t) xs).map fun x => (x, cs)
    | _ => none
  | .sl e t, .sub k sz lo hi :: cs => match get hp k with
    | some (.arr e' t' xs) => if sz = t'.cells then (castD (.sl e' t') (.sl e t) ((xs.take hi.toNat).drop lo.toNat)).map fun x => (x, cs) else none
    | _ => none
  | _, _ => none
/-- Data out of cells, with the blocks that it lies in: these leave the state. -/
def takeC (hp : Hp) : (t : Ty) → List AC → Option (t.D × List AC × Hp)
  | .unit, cs => some ((), cs, hp)
  | .pair a b, cs => (takeC hp a cs).bind fun (x, cs, hp) => (takeC hp b cs).map fun (y, cs, hp) => ((x, y), cs, hp)
  | .int k, .d _ t x :: cs => (castD t (.int k) x).map fun x => (x, cs, hp)
  | .bool, .d _ t x :: cs => (castD t .bool x).map fun x => (x, cs, hp)
  | .str, .d _ t x :: cs => (castD t .str x).map fun x => (x, cs, hp)
  | .sl e t, .nil :: cs => some (([] : List t.D), cs, hp)
  | .sl e t, .own k :: cs => match get hp k with
    | some (.arr e' t' xs) => (castD (.sl e' t') (.sl e t) xs).map fun x => (x, cs, del hp k)
    | _ => none
  | .sl e t, .sub k sz lo hi :: cs => match get hp k with
    | some (.arr e' t' xs) => if sz = t'.cells ∧ lo = 0 then (castD (.sl e' t') (.sl e t) (xs.take hi.toNat)).map fun x => (x, cs, del hp k) else none
    | _ => none
  | _, _ => none
/-- Cells of data in new blocks, numbered from k on. -/
def ownC : (t : Ty) → t.D → Nat → List AC × Hp × Nat
  | .unit, _, k => ([], [], k)
  | .pair a b, x, k =>
    let (c1, h1, k1) := ownC a x.1 k
    let (c2, h2, k2) := ownC b x.2 k1
    (c1 ++ c2, h1 ++ h2, k2)
  | .int i, x, k => ([.d true (.int i) x], [], k)
  | .bool, x, k => ([.d true .bool x], [], k)
  | .str, x, k => ([.d true .str x], [], k)
  | .sl e t, x, k => ([.own k], [(k, .arr e t x)], k + 1)
/-- The cells that a value is written with. -/
def AC.isBad : AC → Bool
  | .bad => true
  | _ => false
def A1.ws (a : A1) : List AC := if a.cs.any AC.isBad then [] else a.cs
def opd (A : AS) : Operand → AV
  | .tmp t => (get A.fr t).getD (.v (.one .bad))
  | .const (.int k n) => if inR k n then .v (.one (.d true (.int k) n)) else .v (.one .bad)
  | .const (.bool b) => .v (.one (.d true .bool b))
  | .const (.string s) => if s.size ≤ big47 then .v (.one (.d true .str (bytesOf s))) else .v (.one .bad)
  | .const (.slice none 0 0) => .v (.one .nil)
  | .func f => .v (.one (.fn f []))
  | _ => .v (.one .bad)
def opd1 (A : AS) (o : Operand) : A1 := match opd A o with | .v a => a | .tup _ => .one .bad
def opdC (A : AS) (o : Operand) : AC := match opd1 A o with | .one c => c | .agg _ => .bad
/-- What leans on token k is forgotten. -/
def killC (k : Nat) (c : AC) : AC := if c.toks.contains k then .bad else c
def kill1 (k : Nat) : A1 → A1
  | .one c => .one (killC k c)
  | .agg cs => .agg (cs.map (killC k))
def killV (k : Nat) : AV → AV
  | .v a => .v (kill1 k a)
  | .tup as => .tup (as.map (kill1 k))
def killO (k : Nat) : AO → AO
  | .box cs => .box (cs.map (killC k))
  | o => o
def noTokC (k : Nat) (c : AC) : Bool := !c.toks.contains k
def noTokO (k : Nat) : AO → Bool
  | .box cs => cs.all (noTokC k)
  | _ => true
/-- Nothing leans on token k. -/
def freeOf (A : AS) (k : Nat) : Bool := (A.fr.all fun p => p.2.cs.all (noTokC k)) && A.hp.all fun p => p.1 != k && noTokO k p.2
def killS (A : AS) (k : Nat) : AS := if freeOf A k then A else ⟨A.fr.map fun (i, v) => (i, killV k v), (del A.hp k).map fun (i, o) => (i, killO k o)⟩
def newTok (A : AS) (k : Nat) (o : AO) : AS := let A := killS A k; ⟨A.fr, ins A.hp k o⟩
def newToks (A : AS) : Hp → AS
  | [] => A
  | (k, o) :: l => newToks (newTok A k o) l
def shyC (c : AC) : AC := if c.shy then .bad else c
def shy1 : A1 → A1
  | .one c => .one (shyC c)
  | .agg cs => .agg (cs.map shyC)
def shyV : AV → AV
  | .v a => .v (shy1 a)
  | .tup as => .tup (as.map shy1)
def shyO : AO → AO
  | .box cs => .box (cs.map shyC)
  | o => o
def shyS (A : AS) : AS := ⟨A.fr.map fun (i, v) => (i, shyV v), A.hp.map fun (i, o) => (i, shyO o)⟩
def put (A : AS) (d : Nat) (v : AV) : AS := ⟨ins A.fr d v, A.hp⟩
def put1 (A : AS) (d : Nat) (c : AC) : AS := put A d (.v (.one c))
/-- The numbers of what an operation at temporary d makes. -/
def tokOf (d j : Nat) : Nat := d * 16 + j
def pinBase : Nat := 1000000

section
variable {R : Type}
def brk (x : Bool) (a b : Option R) : Option R := match x with | true => a | false => b
def ck (x : Bool) (a : Option R) : Option R := brk x a none
def andN (k : IntKind) (x y : Int) : Int := k.wrap ((BitVec.ofInt k.bits x &&& BitVec.ofInt k.bits y).toNat)
def orN (k : IntKind) (x y : Int) : Int := k.wrap ((BitVec.ofInt k.bits x ||| BitVec.ofInt k.bits y).toNat)
def xorN (k : IntKind) (x y : Int) : Int := k.wrap ((BitVec.ofInt k.bits x ^^^ BitVec.ofInt k.bits y).toNat)
def shlN (k : IntKind) (x y : Int) : Int := k.wrap (x * 2 ^ (min y.toNat k.bits))
def shrN (k : IntKind) (x y : Int) : Int := x.fdiv (2 ^ (min y.toNat k.bits))
def intOp (op : BinOp) (k : IntKind) (x y : Int) (K : AC → Option R) : Option R :=
  match op with
  | .add => K (.d true (.int k) (k.wrap (x + y)))
  | .sub => K (.d true (.int k) (k.wrap (x - y)))
  | .mul => K (.d true (.int k) (k.wrap (x * y)))
  | .quo => ck (decide (y ≠ 0)) (K (.d true (.int k) (k.wrap (x.tdiv y))))
  | .rem => ck (decide (y ≠ 0)) (K (.d true (.int k) (x.tmod y)))
  | .and => K (.d true (.int k) (andN k x y))
  | .or => K (.d true (.int k) (orN k x y))
  | .xor => K (.d true (.int k) (xorN k x y))
  | .eql => K (.d true .bool (decide (x = y)))
  | .neq => K (.d true .bool (!decide (x = y)))
  | .lss => K (.d true .bool (decide (x < y)))
  | .leq => K (.d true .bool (decide (x ≤ y)))
  | .gtr => K (.d true .bool (decide (y < x)))
  | .geq => K (.d true .bool (decide (y ≤ x)))
  | .shl => ck (decide (0 ≤ y)) (K (.d true (.int k) (shlN k x y)))
  | .shr => ck (decide (0 ≤ y)) (K (.d true (.int k) (shrN k x y)))
  | _ => none
def shOp (op : BinOp) (k : IntKind) (x y : Int) (K : AC → Option R) : Option R :=
  match op with
  | .shl => ck (decide (0 ≤ y)) (K (.d true (.int k) (shlN k x y)))
  | .shr => ck (decide (0 ≤ y)) (K (.d true (.int k) (shrN k x y)))
  | _ => none
open Classical in
/-- Both ways come to the same. -/
noncomputable def both (a b : Option R) : Option R := if a = b then a else none
def isB : Option Ty → Bool
  | some .bool => true
  | _ => false
def isSlO : Option Ty → Bool
  | some (.sl _ _) => true
  | _ => false
noncomputable def binA (op : BinOp) (tb : Option Ty) (a b : AC) (K : AC → Option R) : Option R :=
  match a, b with
  | .d _ (.sl _ t) xs, .nil => if isSlO tb && t.cells != 0 then match op with
    | .eql => brk (decide (xs.length = 0)) (both (K (.d true .bool true)) (K (.d true .bool false))) (K (.d true .bool false))
    | .neq => brk (decide (xs.length = 0)) (both (K (.d true .bool true)) (K (.d true .bool false))) (K (.d true .bool true))
    | _ => none
    else none
  | .d _ (.int k) x, .d _ (.int k') y => if k = k' then intOp op k x y K else shOp op k x y K
  | .d _ .bool x, .d _ .bool y => if isB tb = false then none else match op with
    | .eql => K (.d true .bool (x == y))
    | .neq => K (.d true .bool (!(x == y)))
    | _ => none
  | .d _ .str x, .d _ .str y => match op with
    | .eql => K (.d true .bool (decide (x = y)))
    | .neq => K (.d true .bool (!decide (x = y)))
    | .add => ck (decide (x.length + y.length ≤ big47)) (K (.d true .str (x ++ y : List Int)))
    | _ => none
  | _, _ => none
def unA (op : UnOp) (a : AC) (K : AC → Option R) : Option R :=
  match op, a with
  | .neg, .d _ (.int k) x => K (.d true (.int k) (k.wrap (0 - x)))
  | .not, .d _ .bool x => K (.d true .bool (!x))
  | _, _ => none
def nthF : Ty → Nat → Option (Nat × Ty)   -- a field: where it begins, its type
  | .pair a _, 0 => some (0, a)
  | .pair a b, n + 1 => (nthF b n).map fun (o, t) => (o + a.cells, t)
  | _, _ => none
def projF : (t : Ty) → t.D → Nat → Option (Σ t : Ty, t.D)
  | .pair a _, x, 0 => some ⟨a, x.1⟩
  | .pair _ b, x, n + 1 => projF b x.2 n
  | _, _, _ => none
def setAt (cs : List AC) (off : Nat) (new : List AC) : List AC := cs.take off ++ new ++ cs.drop (off + new.length)
def intC : AC → Option (IntKind × Int)
  | .d _ (.int k) x => some (k, x)
  | _ => none
def rdD (t : Ty) (xs : List t.D) (i : Int) : t.D := xs.getD i.toNat t.zero
def hasSl : Ty → Bool
  | .sl _ _ => true
  | .pair a b => hasSl a || hasSl b
  | _ => false
def AC.isSub : AC → Bool
  | .sub _ _ _ _ => true
  | _ => false
/-- The parts of a slice that is written out: as their own data. -/
def takeParts (t : Ty) (hp : Hp) : List A1 → Option (List t.D × Hp)
  | [] => some ([], hp)
  | a :: as => if a.cs.any AC.isSub then none else match takeC hp t a.cs with
    | some (x, [], hp) => (takeParts t hp as).map fun (xs, hp) => (x :: xs, hp)
    | _ => none
/-- As data that is read from now on. -/
def frzC (hp : Hp) : (t : Ty) → List AC → Option (t.D × List AC × Hp)
  | .unit, cs => some ((), cs, hp)
  | .pair a b, cs => (frzC hp a cs).bind fun (x, cs, hp) => (frzC hp b cs).map fun (y, cs, hp) => ((x, y), cs, hp)
  | .int k, .d _ t x :: cs => (castD t (.int k) x).map fun x => (x, cs, hp)
  | .bool, .d _ t x :: cs => (castD t .bool x).map fun x => (x, cs, hp)
  | .str, .d _ t x :: cs => (castD t .str x).map fun x => (x, cs, hp)
  | .sl e t, .d true t' x :: cs => (castD t' (.sl e t) x).map fun x => (x, cs, hp)
  | .sl e t, .nil :: cs => some (([] : List t.D), cs, hp)
  | .sl e t, .own k :: cs => match get hp k with
    | some (.arr e' t' xs) => (castD (.sl e' t') (.sl e t) xs).map fun x => (x, cs, del hp k)
    | _ => none
  | .sl e t, .sub k sz lo hi :: cs => match get hp k with
    | some (.arr e' t' xs) => if sz = t'.cells then (castD (.sl e' t') (.sl e t) ((xs.take hi.toNat).drop lo.toNat)).map fun x => (x, cs, del hp k) else none
    | _ => none
  | _, _ => none
def frzParts (t : Ty) (hp : Hp) : List A1 → Option (List t.D × Hp)
  | [] => some ([], hp)
  | a :: as => match frzC hp t a.cs with
    | some (x, [], hp) => (frzParts t hp as).map fun (xs, hp) => (x :: xs, hp)
    | _ => none
/-- All parts are named, in order. -/
def partsIn (A : AS) : Nat → List (Nat × Operand) → Option (List A1)
  | _, [] => some []
  | n, (i, o) :: l => if i = n then (partsIn A (n + 1) l).map (opd1 A o :: ·) else none
def fillParts (A : AS) (t : Ty) : List AC → List (Nat × Operand) → Option (List AC)
  | cs, [] => some cs
  | cs, (i, o) :: l => match nthF t i with
    | some (off, ft) => let new := (opd1 A o).ws
      if new.length = ft.cells then fillParts A t (setAt cs off new) l else none
    | none => none
def appA (E : Env) (A : AS) (d : Nat) (ty : TypeId) (s x : AC) (K : AS → Option R) : Option R :=
  match get E.tt ty with
  | some (.sl e t, _) => match get E.tt e with
    | some (t', by_) => if t' = t ∧ by_ ≠ 0 then
      if hasSl t then
        match takeC A.hp (.sl e t) [s] with
        | some (xs, [], hp) => match takeC hp (.sl e t) [x] with
          | some (ys, [], hp) => ck (decide ((xs.length + ys.length) * by_ ≤ big47)) (K (put1 (newTok ⟨A.fr, hp⟩ (tokOf d 0) (.arr e t (xs ++ ys))) d (.own (tokOf d 0))))
          | _ => none
        | _ => none
      else
        match readC A.hp (.sl e t) [x] with
        | some (ys, []) => match takeC A.hp (.sl e t) [s] with
          | some (xs, [], hp) => ck (decide ((xs.length + ys.length) * by_ ≤ big47)) (K (put1 (newTok ⟨A.fr, hp⟩ (tokOf d 0) (.arr e t (xs ++ ys))) d (.own (tokOf d 0))))
          | _ => none
        | _ => none
      else none
    | none => none
  | _ => none
/-- append of so many zero values. -/
def appZ (E : Env) (A : AS) (d : Nat) (ty ti : TypeId) (s x : AC) (K : AS → Option R) : Option R :=
  match get E.tt ty, tyOf E.tt ti, x with
  | some (.sl e t, _), some (.int _), .d _ (.int _) n => match get E.tt e with
    | some (t', by_) => if t' = t ∧ by_ ≠ 0 then match takeC A.hp (.sl e t) [s] with
      | some (xs, [], hp) => ck (decide (0 ≤ n)) (ck (decide ((xs.length + n.toNat) * by_ ≤ big47)) (K (put1 (newTok ⟨A.fr, hp⟩ (tokOf d 0) (.arr e t (xs ++ List.replicate n.toNat t.zero))) d (.own (tokOf d 0)))))
      | _ => none
      else none
    | none => none
  | _, _, _ => none
def minN (x y : Int) : Int := if y < x then y else x
def maxN (x y : Int) : Int := if y > x then y else x
def mmA (lo : Bool) (a b : AC) (K : AC → Option R) : Option R :=
  match a, b with
  | .d _ (.int k) x, .d _ (.int k') y => if k = k' then K (.d true (.int k) (match lo with | true => minN x y | false => maxN x y)) else none
  | _, _ => none
def Ty.isSl : Ty → Bool
  | .sl _ _ => true
  | _ => false

/-! ### Calls -/
@[reducible] def Pm.T : Pm → Type
  | .ro _ => Unit
  | .mv t | .inp t | .st t => t.D
  | .fn _ ts => TysD ts
@[reducible] def PsT : List Pm → Type
  | [] => Unit
  | p :: ps => p.T × PsT ps
/-- A variable's data, all of it read only. -/
def boxC (hp : Hp) (t : Ty) (k : Nat) : Option (t.D × Hp) :=
  match get hp k with
  | some (.box cs) => match frzC [] t cs with
    | some (x, [], _) => some (x, del hp k)
    | _ => none
  | _ => none
def boxesC (hp : Hp) : (ts : List Ty) → List Nat → Option (TysD ts × Hp)
  | [], [] => some ((), hp)
  | t :: ts, k :: ks => (boxC hp t k).bind fun (x, hp) => (boxesC hp ts ks).map fun (xs, hp) => ((x, xs), hp)
  | _, _ => none
def whole (c : AC) : Bool := match c with | .sub _ _ _ _ => false | _ => true
def ptr0 : A1 → Option Nat
  | .one (.bptr k 0) => some k
  | _ => none
def fnOf : A1 → Option (Nat × List Nat)
  | .one (.fn f ks) => some (f, ks)
  | _ => none
def okSh (t : Ty) : A1 → Bool
  | .one c => t.one && !c.isBad
  | .agg _ => !t.one
/-- What an argument hands over or lends leaves the state. -/
def lend1 (hp : Hp) : (p : Pm) → A1 → Option (p.T × Hp)
  | .ro _, _ => some ((), hp)
  | .mv t, a => if okSh t a then match takeC hp t a.cs with
    | some (x, [], hp) => some (x, hp)
    | _ => none else none
  | .inp t, a => if okSh t a && a.cs.all whole then match takeC hp t a.cs with
    | some (x, [], hp) => some (x, hp)
    | _ => none else none
  | .st t, a => (ptr0 a).bind fun k => boxC hp t k
  | .fn f ts, a => (fnOf a).bind fun g => if f = g.1 then boxesC hp ts g.2 else none
def lend (hp : Hp) : (ps : List Pm) → List A1 → Option (PsT ps × Hp)
  | [], [] => some ((), hp)
  | p :: ps, a :: as => (lend1 hp p a).bind fun (x, hp) => (lend hp ps as).map fun (xs, hp) => ((x, xs), hp)
  | _, _ => none
def read1 (hp : Hp) : (p : Pm) → A1 → p.T → Option p.D
  | .ro t, a, _ => if okSh t a then match readC hp t a.cs with
    | some (x, []) => some x
    | _ => none else none
  | .mv _, _, x | .inp _, _, x | .st _, _, x | .fn _ _, _, x => some x
def reads (hp : Hp) : (ps : List Pm) → List A1 → PsT ps → Option (PsD ps)
  | [], _, _ => some ()
  | p :: ps, a :: as, x => (read1 hp p a x.1).bind fun y => (reads hp ps as x.2).map fun ys => (y, ys)
  | _, _, _ => none
/-- What was lent comes back. -/
def backC (hp : Hp) : (t : Ty) → t.D → List AC → List AC × Hp
  | .unit, _, cs => (cs, hp)
  | .pair a b, x, cs => let (cs, hp) := backC hp a x.1 cs; backC hp b x.2 cs
  | .sl e t, x, .own k :: cs => (cs, ins hp k (.arr e t x))
  | _, _, _ :: cs => (cs, hp)
  | _, _, [] => ([], hp)
def backBs (hp : Hp) : (ts : List Ty) → TysD ts → List Nat → Hp
  | [], _, _ => hp
  | t :: ts, x, k :: ks => backBs (ins hp k (.box (roC true t x.1))) ts x.2 ks
  | _ :: _, _, [] => hp
def back1 (hp : Hp) : (p : Pm) → p.O → A1 → Hp
  | .inp t, x, a => (backC hp t x a.cs).2
  | .st t, x, a => match ptr0 a with
    | some k => ins hp k (.box (roC true t x))
    | none => hp
  | .fn _ ts, x, a => match fnOf a with
    | some g => backBs hp ts x g.2
    | none => hp
  | .ro _, _, _ | .mv _, _, _ => hp
def backs (hp : Hp) : (ps : List Pm) → PsO ps → List A1 → Hp
  | [], _, _ => hp
  | p :: ps, x, a :: as => backs (back1 hp p x.1 a) ps x.2 as
  | _ :: _, _, [] => hp
def Pm.bold : Pm → Bool   -- may write into what an array's elements lead to
  | .mv _ | .inp _ => true
  | _ => false
/-- May a call hand on, in a variable, what it has read? -/
def Pm.keepsSl : Pm → Bool
  | .st t => hasSl t
  | .fn _ ts => ts.any hasSl
  | _ => false
def Rk.keepsSl : Rk → Bool
  | .box t => hasSl t
  | .own _ => false
def persC : AC → Bool
  | .own _ | .sub _ _ _ _ => false
  | c => !c.shy
def roPers : List Pm → List A1 → Bool
  | .ro _ :: ps, a :: as => a.cs.all persC && roPers ps as
  | _ :: ps, _ :: as => roPers ps as
  | _, _ => true
def Ct.strict (c : Ct) : Bool := c.ps.any Pm.keepsSl || c.rs.any Rk.keepsSl
def res1 : (r : Rk) → r.D → Nat → A1 × Hp × Nat
  | .own t, x, k => let (cs, h, k) := ownC t x k; (shape t cs, h, k)
  | .box t, x, k => (.one (.bptr k 0), [(k, .box (roC true t x))], k + 1)
def resL : (rs : List Rk) → RsD rs → Nat → List A1 × Hp
  | [], _, _ => ([], [])
  | r :: rs, x, k => let (a, h, k) := res1 r x.1 k; let (as, hs) := resL rs x.2 k; (a :: as, h ++ hs)
def resV (as : List A1) : AV := match as with | [a] => .v a | as => .tup as
def Rk.size : Rk → Nat
  | .own t => t.cells
  | .box _ => 1
def rsSize : List Rk → Nat
  | [] => 0
  | r :: rs => r.size + rsSize rs
def callA (E : Env) (A : AS) (d : Nat) (f : Nat) (as : List A1) (K : AS → Option R) : Option R :=
  match get E.ct f with
  | none => none
  | some c => if c.strict && !roPers c.ps as || decide (pinBase < tokOf d 0 + rsSize c.rs) then none else match lend A.hp c.ps as with
    | none => none
    | some (T, hp) => match reads hp c.ps (if c.ps.any Pm.bold then as.map shy1 else as) T with
      | none => none
      | some x => (c.F x).bind fun y =>
        let A := if c.ps.any Pm.bold then shyS ⟨A.fr, hp⟩ else ⟨A.fr, hp⟩
        let r := resL c.rs y.1 (tokOf d 0)
        K (put (newToks ⟨A.fr, backs A.hp c.ps y.2 as⟩ r.2) d (resV r.1))
def lenC (hp : Hp) (T : Ty) : AC → Option Int
  | .d _ (.sl e t) x => if T.isSl then some (x.length : Int) else none
  | .d _ .str x => if T = .str then some (x.length : Int) else none
  | .own k => if T.isSl then match get hp k with
    | some (.arr _ _ xs) => some (xs.length : Int)
    | _ => none else none
  | .sub _ _ lo hi => if T.isSl then some (hi - lo) else none
  | .nil => if T.isSl then some 0 else none
  | _ => none
def clrA (A : AS) (e : TypeId) (T : Ty) (K : AS → Option R) : AC → Option R
  | .sub k sz lo hi => match get A.hp k with
    | some (.arr e' t xs) => if hasSl t || t.cells != 1 || sz != 1 || e' != e || decide (t ≠ T) then none else K ⟨A.fr, ins A.hp k (.arr e' t (xs.take lo.toNat ++ List.replicate (hi.toNat - lo.toNat) t.zero ++ xs.drop hi.toNat))⟩
    | _ => none
  | _ => none

/-! ### Operations -/
def sliceA (A : AS) (e : TypeId) (T : Ty) (x : AC) (lo hi : Option Int) (K : AC → Option R) : Option R :=
  match x with
  | .d p (.sl e' t) xs => if e' = e ∧ t = T then
    let l := lo.getD 0
    let h := hi.getD xs.length
    ck (decide (0 ≤ l) && decide (l ≤ h) && decide (h ≤ xs.length)) (K (.d p (.sl e' t) ((xs.take h.toNat).drop l.toNat))) else none
  | .own k => match get A.hp k with
    | some (.arr e' t xs) => if e' = e ∧ t = T then
      let l := lo.getD 0
      let h := hi.getD xs.length
      ck (decide (0 ≤ l) && decide (l ≤ h) && decide (h ≤ xs.length)) (K (.sub k t.cells l h)) else none
    | _ => none
  | .nil => ck (decide (lo.getD 0 = 0) && decide (hi.getD 0 = 0)) (K .nil)
  | _ => none
def idxA (A : AS) (e : TypeId) (T : Ty) (x : AC) (i : Int) (K : AC → Option R) : Option R :=
  match x with
  | .d p (.sl e' t) xs => if e' = e ∧ t = T then ck (decide (0 ≤ i) && decide (i < xs.length)) (K (.rptr p t (rdD t xs i))) else none
  | .own k => match get A.hp k with
    | some (.arr e' t xs) => if e' = e ∧ t = T then ck (decide (0 ≤ i) && decide (i < xs.length)) (K (.eptr k t.cells i)) else none
    | _ => none
  | .sub k sz lo hi => match get A.hp k with
    | some (.arr e' t xs) => if e' = e ∧ t = T ∧ sz = t.cells then ck (decide (0 ≤ i) && decide (i < hi - lo)) (K (.eptr k sz (lo + i))) else none
    | _ => none
  | _ => none
def loadA (A : AS) (T : Ty) (a : AC) : Option A1 :=
  match a with
  | .bptr k off => match get A.hp k with
    | some (.box cs) => if off + T.cells ≤ cs.length then some (shape T ((cs.drop off).take T.cells)) else none
    | _ => none
  | .eptr k sz i => match get A.hp k with
    | some (.arr e t xs) => if t = T ∧ sz = t.cells then some (shape t (roC false t (rdD t xs i))) else none
    | _ => none
  | .rptr p t x => if t = T then some (shape t (roC p t x)) else none
  | _ => none
def storeA (A : AS) (T : Ty) (a : AC) (v : A1) : Option AS :=
  match a with
  | .bptr k off => match get A.hp k with
    | some (.box cs) => if off + T.cells ≤ cs.length ∧ v.ws.length = T.cells then some ⟨A.fr, ins A.hp k (.box (setAt cs off v.ws))⟩ else none
    | _ => none
  | .eptr k sz i => match takeC A.hp T v.cs with
    | some (y, [], hp) => match get hp k with
      | some (.arr e t xs) => if sz = t.cells then (castD T t y).map fun y => ⟨A.fr, ins hp k (.arr e t (xs.set i.toNat y))⟩ else none
      | _ => none
    | _ => none
  | .fptr k sz i o => match v, T with
    | .one (.d _ (.int kv) y), .int kk => match get A.hp k with
      | some (.arr e t xs) => if sz = t.cells ∧ kv = kk then match getS t o (.int kk) (rdD t xs i), setS t o (.int kk) y (rdD t xs i) with
        | some _, some z => some ⟨A.fr, ins A.hp k (.arr e t (xs.set i.toNat z))⟩
        | _, _ => none else none
      | _ => none
    | _, _ => none
  | _ => none
def undD (A : AS) : Option Nat → AS
  | some d => put A d (.tup [])
  | none => A
def skipD (A : AS) : Option Nat → AS
  | some d => put1 A d .bad
  | none => A
def optInt (A : AS) : Option Operand → Option (Option Int)
  | none => some none
  | some o => match intC (opdC A o) with
    | some (_, i) => some (some i)
    | none => none
def convA (E : Env) (A : AS) (d : Nat) (src dst : TypeId) (x : AC) (K : AS → Option R) : Option R :=
  match tyOf E.tt src, tyOf E.tt dst, x with
  | some (.int _), some (.int k), .d _ (.int _) n => K (put1 A d (.d true (.int k) (k.wrap n)))
  | some (.int _), some .str, .d _ (.int _) n => ck (decide (0 ≤ n) && decide (n < 128)) (K (put1 A d (.d true .str [n])))
  | some (.sl e (.int .u8)), some .str, x => match readC A.hp (.sl e (.int .u8)) [x] with
    | some (xs, []) => K (put1 A d (.d true .str xs))
    | _ => none
  | some (.sl e (.int .u8)), some (.sl _ _), .own k => match get A.hp k with
    | some (.arr e' t' xs) => if src = dst then (castD (.sl e' t') (.sl e (.int .u8)) xs).bind fun xs => ck (decide (0 < xs.length)) (K (put1 ⟨A.fr, del A.hp k⟩ d (.d true (.sl e (.int .u8)) xs))) else none
    | _ => none
  | _, _, _ => none
noncomputable def op1 (E : Env) (A : AS) (o : Oper) (K : AS → Option R) : Option R :=
  match o.op, o.dst with
  | .move x, some d => K (put A d (opd A x))
  | .assign x, some d => K (put A d (opd A x))
  | .pick c a b, some d => match opdC A c with
    | .d _ .bool x => brk x (K (put A d (opd A a))) (K (put A d (opd A b)))
    | _ => none
  | .alloc t, some d => match tyOf E.tt t with
    | some T => K (put1 (newTok A (tokOf d 0) (.box (zeroC T))) d (.bptr (tokOf d 0) 0))
    | none => none
  | .box t x, some d => match tyOf E.tt t with
    | some T => if (opd1 A x).ws.length = T.cells then K (put1 (newTok A (tokOf d 0) (.box ((opd1 A x).ws.map (killC (tokOf d 0))))) d (.bptr (tokOf d 0) 0)) else none
    | none => none
  | .build t ps, some d => match tyOf E.tt t with
    | some (.pair a b) => match fillParts A (.pair a b) (zeroC (.pair a b)) ps.toList with
      | some cs => K (put A d (.v (.agg cs)))
      | none => none
    | _ => none
  | .buildSlice t n ps, some d => match tyOf E.tt t with
    | some (.sl e T) => match tyOf E.tt e with
      | some T' => if T' = T ∧ n = ps.size ∧ T.cells ≠ 0 ∧ n * T.cells ≤ 16777216 then match partsIn A 0 ps.toList with
        | some as => match takeParts T A.hp as with
          | some (xs, hp) => K (put1 (newTok ⟨A.fr, hp⟩ (tokOf d 0) (.arr e T xs)) d (.own (tokOf d 0)))
          | none => match frzParts T A.hp as with
            | some (xs, hp) => K (put1 ⟨A.fr, hp⟩ d (.d true (.sl e T) xs))
            | none => none
        | none => none
        else none
      | none => none
    | _ => none
  | .load t a, some d => match tyOf E.tt t with
    | some T => match loadA A T (opdC A a) with
      | some v => K (put A d (.v v))
      | none => none
    | none => none
  | .store t a v, d => match tyOf E.tt t with
    | some T => match storeA A T (opdC A a) (opd1 A v) with
      | some A => K (skipD A d)
      | none => none
    | none => none
  | .nilCheck x, some d => match opdC A x with
    | .bptr k o => K (put1 A d (.bptr k o))
    | .eptr k s i => K (put1 A d (.eptr k s i))
    | .rptr p t x => K (put1 A d (.rptr p t x))
    | _ => none
  | .binOp b t x y _, some d => binA b (tyOf E.tt t) (opdC A x) (opdC A y) fun c => K (put1 A d c)
  | .unOp u _ x, some d => unA u (opdC A x) fun c => K (put1 A d c)
  | .convert s t x, some d => convA E A d s t (opdC A x) K
  | .makeSlice t l c, some d => match get E.tt t with
    | some (.sl e T, _) => match get E.tt e with
      | some (T', by_) => match intC (opdC A l), intC (opdC A c) with
        | some (_, n), some (_, m) => if T' = T then ck (decide (0 ≤ n) && decide (n = m) && decide (n * by_ ≤ 140737488355328) && decide (n ≤ 140737488355328)) (K (put1 (newTok A (tokOf d 0) (.arr e T (List.replicate n.toNat T.zero))) d (.own (tokOf d 0)))) else none
        | _, _ => none
      | none => none
    | _ => none
  | .slice t x lo hi none, some d => match tyOf E.tt t, optInt A lo, optInt A hi with
    | some (.sl e T), some l, some h => sliceA A e T (opdC A x) l h fun c => K (put1 A d c)
    | _, _, _ => none
  | .fieldAddr t x f, some d => match tyOf E.tt t with
    | some T => match opdC A x with
      | .bptr k off => match nthF T f with
        | some (o, _) => K (put1 A d (.bptr k (off + o)))
        | none => none
      | .rptr p t' x => if t' = T then match projF t' x f with
        | some ⟨t2, y⟩ => K (put1 A d (.rptr p t2 y))
        | none => none else none
      | .eptr k sz i => match nthF T f with
        | some (o, _) => K (put1 A d (.fptr k sz i o))
        | none => none
      | _ => none
    | none => none
  | .indexAddr t x i, some d => match tyOf E.tt t, intC (opdC A i) with
    | some (.sl e T), some (_, i) => idxA A e T (opdC A x) i fun c => K (put1 A d c)
    | _, _ => none
  | .extract x i, some d => match opd A x with
    | .tup as => match as[i]? with
      | some a => K (put A d (.v a))
      | none => none
    | _ => none
  | .makeFunc (.func f) first caps, some d => if first.size = 0 then
      match (caps.toList.mapM fun o => match opdC A o with | .bptr k 0 => some k | _ => none : Option (List Nat)) with
      | some ks => K (put1 A d (.fn f ks))
      | none => none
    else none
  | .call { callee := .value f, args := as, .. }, some d => match opdC A f with
    | .fn f caps => callA E A d f (as.toList.map (opd1 A) ++ caps.map fun k => .one (.bptr k 0)) K
    | _ => none
  | .call { callee := .builtin .len, args := as, argTypes := ts, .. }, some d => match as.toList, ts.toList with
    | [x], [t] => match tyOf E.tt t with
      | some T => match lenC A.hp T (opdC A x) with
        | some n => K (put1 A d (.d true (.int .i64) n))
        | none => none
      | none => none
    | _, _ => none
  | .call { callee := .builtin .cap, args := as, argTypes := ts, .. }, some d => match as.toList, ts.toList with
    | [x], [t] => match tyOf E.tt t, opdC A x with
      | some (.sl _ _), .nil => K (put1 A d (.d true (.int .i64) (0 : Int)))
      | _, _ => none
    | _, _ => none
  | .call { callee := .builtin .append, args := as, argTypes := ts, .. }, some d => match as.toList, ts.toList with
    | [s, x], [t, t'] => if t = t' then appA E A d t (opdC A s) (opdC A x) K else appZ E A d t t' (opdC A s) (opdC A x) K
    | _, _ => none
  | .call { callee := .builtin .min, args := as, .. }, some d => match as.toList with
    | [x, y] => mmA true (opdC A x) (opdC A y) fun c => K (put1 A d c)
    | _ => none
  | .call { callee := .builtin .max, args := as, .. }, some d => match as.toList with
    | [x, y] => mmA false (opdC A x) (opdC A y) fun c => K (put1 A d c)
    | _ => none
  | .call { callee := .builtin .clear, args := as, argTypes := ts, .. }, d => match as.toList, ts.toList with
    | [x], [t] => match tyOf E.tt t with
      | some (.sl e T) => clrA A e T (fun A => K (skipD A d)) (opdC A x)
      | _ => none
    | _, _ => none
  | _, _ => none
def kOf : AC → Option Nat
  | .own k => some k
  | .sub k _ _ _ => some k
  | _ => none
/-- A temporary's array is but read from now on. -/
def softT (A : AS) (t : Nat) : AS := match get A.fr t with
  | some (.v (.one c)) => match kOf c with
    | some k => match get A.hp k with
      | some (.arr e T _) => match frzC A.hp (.sl e T) [c] with
        | some (x, [], hp) => put1 ⟨A.fr, hp⟩ t (.d true (.sl e T) x)
        | _ => A
      | _ => A
    | none => A
  | _ => A
def softL (A : AS) : List Pm → List Operand → AS
  | .ro _ :: ps, .tmp t :: os => softL (softT A t) ps os
  | _ :: ps, _ :: os => softL A ps os
  | _, _ => A
/-- A call that may keep what it reads. -/
def softO (E : Env) (A : AS) (o : Oper) : AS := match o.op with
  | .call { callee := .value (.func f), args := as, .. } => match get E.ct f with
    | some c => if c.strict then softL A c.ps as.toList else A
    | none => A
  | _ => A
/-- One operation, if its guard lets it. -/
noncomputable def opG (E : Env) (ops : List Oper) (A : AS) (o : Oper) (K : AS → Option R) : Option R :=
  match o.guard with
  | none => op1 E (softO E A o) o K
  | some (g, want) => match (ops[g]?).bind (·.dst) with
    | none => none
    | some t => match opd A (.tmp t) with
      | .tup [] => K (undD A o.dst)
      | .v (.one (.d _ .bool x)) => match want with
        | true => brk x (op1 E (put1 A t (.d true .bool true)) o K) (K (undD (put1 A t (.d true .bool false)) o.dst))
        | false => brk x (K (undD (put1 A t (.d true .bool true)) o.dst)) (op1 E (put1 A t (.d true .bool false)) o K)
      | _ => none
noncomputable def evOps (E : Env) (ops : List Oper) (K : AS → Option R) : List Oper → AS → Option R
  | [], A => K A
  | o :: l, A => opG E ops A o (evOps E ops K l)

def isCall2 (o : Oper) : Bool := match o.op with
  | .call { callee := .value (.func _), .. } => true
  | _ => false
/-- The first call, the two operations ahead of it, what comes behind. -/
def cut3 : List Oper → Option (List Oper × Oper × Oper × Oper × List Oper)
  | a :: b :: c :: l => if isCall2 c then some ([], a, b, c, l) else (cut3 (b :: c :: l)).map fun p => (a :: p.1, p.2)
  | _ => none
/-- A call that writes a row of ours in place: f(a[i], v), the row loaded just ahead of it. -/
noncomputable def rowA (E : Env) (A : AS) (o1 o2 o3 : Oper) (K : AS → Option R) (alt : Option R) : Option R :=
  match o1.op, o1.dst, o1.guard, o2.op, o2.dst, o2.guard with
  | .load t (.tmp p), some x, none, .move z, some y, none => match o3.op, o3.dst, o3.guard with
    | .call { callee := .value (.func f), args := as, .. }, some d, none => match as.toList with
      | [.tmp x', .tmp y'] => if x' = x ∧ y' = y ∧ x ≠ y then match opdC A (.tmp p) with
        | .eptr k sz i => match get E.ct f, get A.hp k, opdC (put1 A x .bad) z with
          | some ⟨[.inp T, .ro (.int k2)], [.own (.int k3)], F⟩, some (.arr e T' xs), .d _ (.int k2') v =>
            if T.one = true ∧ T' = T ∧ sz = T.cells ∧ k2' = k2 ∧ tyOf E.tt t = some T then match castD (.sl e T') (.sl e T) xs with
              | some xs => (F (rdD T xs i, (v, ()))).bind fun r => K (put1 (put1 (put1 (shyS ⟨A.fr, ins A.hp k (.arr e T (xs.set i.toNat r.2.1))⟩) x .bad) y .bad) d (.d true (.int k3) r.1.1))
              | none => alt
            else alt
          | _, _, _ => alt
        | _ => alt
        else alt
      | _ => alt
    | _, _, _ => alt
  | _, _, _, _, _, _ => alt
/-- So for a part of a row: f(a[i].x, v). -/
noncomputable def rowF (E : Env) (A : AS) (o1 o2 o3 : Oper) (K : AS → Option R) (alt : Option R) : Option R :=
  match o1.op, o1.dst, o1.guard, o2.op, o2.dst, o2.guard with
  | .load t (.tmp p), some x, none, .move z, some y, none => match o3.op, o3.dst, o3.guard with
    | .call { callee := .value (.func f), args := as, .. }, some d, none => match as.toList with
      | [.tmp x', .tmp y'] => if x' = x ∧ y' = y ∧ x ≠ y then match opdC A (.tmp p) with
        | .fptr k sz i o => match get E.ct f, get A.hp k, opdC (put1 A x .bad) z with
          | some ⟨[.inp T, .ro (.int k2)], [.own (.int k3)], F⟩, some (.arr e T' xs), .d _ (.int k2') v =>
            if T.one = true ∧ sz = T'.cells ∧ k2' = k2 ∧ tyOf E.tt t = some T then match getS T' o T (rdD T' xs i) with
              | some row => (F (row, (v, ()))).bind fun r => match setS T' o T r.2.1 (rdD T' xs i) with
                | some row' => K (put1 (put1 (put1 (shyS ⟨A.fr, ins A.hp k (.arr e T' (xs.set i.toNat row'))⟩) x .bad) y .bad) d (.d true (.int k3) r.1.1))
                | none => none
              | none => alt
            else alt
          | _, _, _ => alt
        | _ => alt
        else alt
      | _ => alt
    | _, _, _ => alt
  | _, _, _, _, _, _ => alt
/-- A region in order. -/
noncomputable def evReg (E : Env) (ops : List Oper) (K : AS → Option R) (A : AS) : Option R :=
  match cut3 ops with
  | some (pre, o1, o2, o3, post) => evOps E ops (fun A => rowA E A o1 o2 o3 (fun A => evOps E ops K post A) (rowF E A o1 o2 o3 (fun A => evOps E ops K post A) (evOps E ops K (o1 :: o2 :: o3 :: post) A))) pre A
  | none => evOps E ops K ops A
def quietT : Option Ty → Bool
  | some (.int _) => true
  | some .str => true
  | _ => false
/-- It but reads, and what it yields hangs on nothing but what stands. -/
def quietK (E : Env) (o : Oper) : Bool :=
  match o.op, o.dst with
  | .move _, some _ | .assign _, some _ | .pick _ _ _, some _ | .load _ _, some _ | .nilCheck _, some _ | .binOp _ _ _ _ _, some _ | .unOp _ _ _, some _ => true
  | .slice _ _ _ _ none, some _ | .fieldAddr _ _ _, some _ | .indexAddr _ _ _, some _ | .extract _ _, some _ => true
  | .build _ ps, some _ => ps.isEmpty
  | .convert _ t _, some _ => quietT (tyOf E.tt t)
  | .call { callee := .builtin .len, .. }, some _ | .call { callee := .builtin .min, .. }, some _ | .call { callee := .builtin .max, .. }, some _ => true
  | _, _ => false
def Pm.isRo : Pm → Bool
  | .ro _ => true
  | _ => false
/-- A call that but reads. -/
def stillK (E : Env) (o : Oper) : Bool :=
  match o.op, o.dst with
  | .call { callee := .value (.func f), .. }, some _ => match get E.ct f with
    | some c => c.ps.all Pm.isRo
    | none => false
  | _, _ => false
/-! Regions whose order is drawn -/
def bareC (c : AC) : AC := match c with
  | .d true _ _ | .rptr true _ _ | .nil => c
  | .fn _ [] => c
  | _ => .bad
def bare1 : A1 → A1
  | .one c => .one (bareC c)
  | .agg cs => .agg (cs.map bareC)
def bareV : AV → AV
  | .v a => .v (bare1 a)
  | .tup as => .tup (as.map bare1)
/-- What leans on nothing of the state's own. -/
def bareS (A : AS) : AS := ⟨A.fr.map fun (i, v) => (i, bareV v), []⟩
def cleanC (hp : Hp) (c : AC) : AC := if c.shy || c.toks.any (fun k => (get hp k).isNone) then .bad else c
def clean1 (hp : Hp) : A1 → A1
  | .one c => .one (cleanC hp c)
  | .agg cs => .agg (cs.map (cleanC hp))
def cleanV (hp : Hp) : AV → AV
  | .v a => .v (clean1 hp a)
  | .tup as => .tup (as.map (clean1 hp))
def cleanO (hp : Hp) : AO → AO
  | .box cs => .box (cs.map (cleanC hp))
  | o => o
def AV.anyBad (v : AV) : Bool := v.cs.any AC.isBad
def joinF (hp : Hp) (f0 : Fr) : Fr → Fr → Fr
  | [], fr => fr
  | (i, _) :: l, fr => match get f0 i with
    | some v => if v.anyBad then joinF hp f0 l fr else ins (joinF hp f0 l fr) i (cleanV hp v)
    | none => joinF hp f0 l fr
def joinH (hp : Hp) : Hp → Hp → Hp
  | [], h => h
  | (k, o) :: l, h => ins (joinH hp l h) k (cleanO hp o)
def killL : AS → Hp → AS
  | A, [] => A
  | A, (k, _) :: l => killL (killS A k) l
/-- The state B, and what has been made since. -/
def joinS (B C : AS) : Option AS :=
  if C.hp.all (fun p => decide (p.1 < pinBase)) then
    let B := killL B C.hp
    some ⟨joinF C.hp C.fr C.fr B.fr, joinH C.hp C.hp B.hp⟩
  else none
def preds (o : Oper) : List Nat := (o.after.toList.filter (Region.binds .any ·)).map (·.on)
/-- What is ahead of these, each once. -/
def ancS (ops : Array Oper) : Nat → List Nat → List Nat → List Nat
  | 0, _, seen => seen
  | _ + 1, [], seen => seen
  | n + 1, i :: w, seen => if seen.contains i then ancS ops n w seen else match ops[i]? with
    | some o => ancS ops n (preds o ++ w) (i :: seen)
    | none => ancS ops n w seen
/-- Is j ahead of t? -/
def anc (ops : Array Oper) (_n t j : Nat) : Bool := match ops[t]? with
  | none => false
  | some o => (ancS ops 20000 (preds o) []).contains j
/-- From here on each comes up alone. -/
def tailPlan (ops : Array Oper) : Nat → Array Bool → Option (List (Nat × Nat))
  | 0, _ => some []
  | n + 1, listed => match Region.ready .any ops listed with
    | [] => some []
    | [i] => (tailPlan ops n (listed.setIfInBounds i true)).map ((2, i) :: ·)
    | _ => none
/-- In which order the operations are taken: first those that but read (tag 1); else the one that must come now (tag 0); tag 2: all that has come is ahead of it, and each comes alone from there on. -/
def mkPlan (E : Env) (ops : Array Oper) : Nat → Array Bool → List (Nat × Nat)
  | 0, _ => []
  | n + 1, listed => match Region.ready .any ops listed with
    | [] => []
    | i :: is => match (i :: is).find? (fun j => match ops[j]? with
        | some o => quietK E o && Region.free .any ops listed j
        | none => false) with
      | some j => (1, j) :: mkPlan E ops n (listed.setIfInBounds j true)
      | none => match (if (List.range ops.size).all (fun j => !listed.getD j false || anc ops ops.size i j) then tailPlan ops (n + 1) listed else none) with
        | some l => l
        | none => (0, i) :: mkPlan E ops n (listed.setIfInBounds i true)
def tailOf : List (Nat × Nat) → Option Nat
  | [] => none
  | (2, i) :: _ => some i
  | _ :: l => tailOf l
def aheadOk (ops : Array Oper) (j : Nat) : Option Nat → Bool
  | none => true
  | some t => j != t && anc ops ops.size t j
def planOk (E : Env) (ops : Array Oper) : List (Nat × Nat) → Array Bool → Bool
  | [], listed => (Region.ready .any ops listed).isEmpty
  | (1, j) :: l, listed => (Region.ready .any ops listed).contains j && Region.free .any ops listed j && (match ops[j]? with
      | some o => quietK E o
      | none => false) && aheadOk ops j (tailOf l) && planOk E ops l (listed.setIfInBounds j true)
  | (0, i) :: l, listed => decide (Region.ready .any ops listed = [i]) && planOk E ops l (listed.setIfInBounds i true)
  | (2, i) :: l, listed => decide (Region.ready .any ops listed = [i]) && l.all (fun p => p.1 == 2) && planOk E ops l (listed.setIfInBounds i true)
  | _ :: _, _ => false
def joinO (B : AS) : Option AS → Option AS
  | none => some B
  | some C => joinS B C
def emptyO : Option AS → Bool
  | none => true
  | some C => C.hp.isEmpty
def curO (B : AS) : Option AS → AS
  | none => bareS B
  | some C => C
noncomputable def drawP (E : Env) (ops : Array Oper) (K : AS → Option R) : List (Nat × Nat) → AS → Option AS → Option R
  | [], B, C => (joinO B C).bind K
  | (1, j) :: l, B, C => match ops[j]? with
    | some o => (joinO B C).bind fun A => opG E ops.toList A o fun A => drawP E ops K l A none
    | none => none
  | (0, i) :: l, B, C => match ops[i]? with
    | some o => if emptyO C && stillK E o then (joinO B C).bind fun A => opG E ops.toList A o fun A => drawP E ops K l A none
      else opG E ops.toList (curO B C) o fun C => drawP E ops K l (skipD B o.dst) (some C)
    | none => none
  | (2, i) :: l, B, C => match ops[i]? with
    | some o => (joinO B C).bind fun A => opG E ops.toList A o fun A => drawP E ops K l A none
    | none => none
  | _ :: _, _, _ => none

/-! Regions whose order is drawn, order for order -/
/-- It but makes a thing of its own. -/
def freshK (o : Oper) : Bool :=
  match o.op, o.dst with
  | .alloc _, some _ => true
  | .buildSlice _ _ _, some _ => true
  | .makeSlice _ (.const (.int _ _)) (.const (.int _ _)), some _ => true
  | _, _ => false
def stillF (E : Env) (o : Oper) : Bool := freshK o || stillK E o
def stillAt (E : Env) (ops : Array Oper) (i : Nat) : Bool := match ops[i]? with
  | some o => stillF E o
  | none => false
/-- Slices of slices are built of parts: such a region is taken order for order. -/
def useT (ops : Array Oper) : Bool := ops.toList.any fun u => (match u.op with
  | .buildSlice _ _ ps => !ps.isEmpty
  | _ => false) && u.after.any fun e => Region.binds .any e && (match ops[e.on]? with
    | some v => match v.op with
      | .slice _ _ _ _ _ => true
      | _ => false
    | none => false)
inductive Pt where
  | done
  | q (j : Nat) (p : Pt)
  | t (i : Nat) (p : Pt)
  | s1 (b : Bool) (i : Nat) (p : Pt)
  | s2 (b : Bool) (i : Nat) (p r : Pt)
def isApp (o : Oper) : Bool := match o.op with
  | .call { callee := .builtin .append, .. } => true
  | _ => false
/-- Taken over all that stands (or else over what has been made since alone)? -/
def jointly (E : Env) (ops : Array Oper) (i : Nat) : Bool := stillAt E ops i && !(match ops[i]? with
  | some o => freshK o && ops.toList.any fun u => isApp u && u.after.any fun e => e.on == i && Region.binds .any e
  | none => false)
def altF (g : Nat → Bool) (f : Nat → Pt) : Nat → List Nat → Pt
  | i, [] => .s1 (g i) i (f i)
  | i, j :: l => .s2 (g i) i (f i) (altF g f j l)
def mkPt (E : Env) (ops : Array Oper) : Nat → Bool → Array Bool → Pt
  | 0, _, _ => .done
  | n + 1, tl, listed => match Region.ready .any ops listed with
    | [] => .done
    | i :: is => if tl then .t i (mkPt E ops n true (listed.setIfInBounds i true)) else
      match (i :: is).find? (fun j => match ops[j]? with
        | some o => quietK E o && Region.free .any ops listed j
        | none => false) with
      | some j => .q j (mkPt E ops n false (listed.setIfInBounds j true))
      | none => if (List.range ops.size).all (fun j => !listed.getD j false || anc ops ops.size i j) && (tailPlan ops (n + 1) listed).isSome then .t i (mkPt E ops n true (listed.setIfInBounds i true))
        else altF (jointly E ops) (fun i => mkPt E ops n false (listed.setIfInBounds i true)) i is
def tailT : Pt → Option Nat
  | .done => none
  | .q _ p => tailT p
  | .t i _ => some i
  | .s1 _ _ p => tailT p
  | .s2 _ _ p _ => tailT p
def altIdx : Pt → List Nat
  | .s1 _ i _ => [i]
  | .s2 _ i _ r => i :: altIdx r
  | _ => []
def inTail (t : Option Nat) (i : Nat) (listed : Array Bool) : Bool := match t with
  | some x => x == i || listed.getD x false
  | none => false
def ptOk (E : Env) (ops : Array Oper) (t : Option Nat) : Nat → Bool → Pt → Array Bool → Bool
  | _, _, .done, listed => (Region.ready .any ops listed).isEmpty
  | n + 1, _, .q j p, listed => (Region.ready .any ops listed).contains j && Region.free .any ops listed j && (match ops[j]? with
      | some o => quietK E o
      | none => false) && aheadOk ops j t && ptOk E ops t n true p (listed.setIfInBounds j true)
  | n + 1, _, .t i p, listed => decide (Region.ready .any ops listed = [i]) && inTail t i listed && ptOk E ops t n true p (listed.setIfInBounds i true)
  | n + 1, top, .s1 b i p, listed => (!top || decide (Region.ready .any ops listed = [i])) && (!b || stillAt E ops i) && ptOk E ops t n true p (listed.setIfInBounds i true)
  | n + 1, top, .s2 b i p r, listed => (!top || decide (Region.ready .any ops listed = i :: altIdx r)) && (!b || stillAt E ops i) && ptOk E ops t n true p (listed.setIfInBounds i true) && ptOk E ops t (n + 1) false r listed
  | 0, _, _, _ => false
noncomputable def drawT (E : Env) (ops : Array Oper) (K : AS → Option R) : Pt → AS → Option AS → Option R
  | .done, B, C => (joinO B C).bind K
  | .q j p, B, C => match ops[j]? with
    | some o => (joinO B C).bind fun A => opG E ops.toList A o fun A => drawT E ops K p A none
    | none => none
  | .t i p, B, C => match ops[i]? with
    | some o => (joinO B C).bind fun A => opG E ops.toList A o fun A => drawT E ops K p A none
    | none => none
  | .s1 b i p, B, C => match ops[i]? with
    | some o => if b && emptyO C then (joinO B C).bind fun A => opG E ops.toList A o fun A => drawT E ops K p A none
      else opG E ops.toList (curO B C) o fun C => drawT E ops K p (skipD B o.dst) (some C)
    | none => none
  | .s2 b i p r, B, C => match ops[i]? with
    | some o => both (if b && emptyO C then (joinO B C).bind fun A => opG E ops.toList A o fun A => drawT E ops K p A none
      else opG E ops.toList (curO B C) o fun C => drawT E ops K p (skipD B o.dst) (some C)) (drawT E ops K r B C)
    | none => none

/-! Regions whose order is drawn, with calls that write a variable: order for order, over all that stands -/
/-- What it yields hangs on no world. -/
def pureK (o : Oper) : Bool := match o.op, o.dst with
  | .move _, some _ | .assign _, some _ | .pick _ _ _, some _ | .nilCheck _, some _ | .fieldAddr _ _ _, some _ | .extract _ _, some _ => true
  | _, _ => false
def Pm.isSt : Pm → Bool
  | .st _ => true
  | _ => false
def stCall (E : Env) (o : Oper) : Bool := match o.op with
  | .call { callee := .value (.func f), .. } => match get E.ct f with
    | some c => c.ps.any Pm.isSt
    | none => false
  | _ => false
def stAt (E : Env) (ops : Array Oper) (i : Nat) : Bool := match ops[i]? with
  | some o => stCall E o
  | none => false
def boldCall (E : Env) (o : Oper) : Bool := match o.op with
  | .call { callee := .value (.func f), .. } => match get E.ct f with
    | some c => c.ps.any Pm.bold
    | none => false
  | _ => false
def boldAt (E : Env) (ops : Array Oper) (i : Nat) : Bool := match ops[i]? with
  | some o => boldCall E o
  | none => false
/-- What has been made is handed over behind an operation that but reads. -/
def lateP (E : Env) (ops : Array Oper) : Nat → List (Nat × Nat) → Bool
  | s, (1, _) :: l => lateP E ops (if s = 1 then 2 else s) l
  | s, (0, i) :: l => (s == 2 && boldAt E ops i) || lateP E ops (if s = 0 then 1 else s) l
  | _, _ => false
/-- No such call comes at a place that is drawn. -/
def calm (E : Env) (ops : Array Oper) : Bool := planOk E ops (mkPlan E ops ops.size (Array.replicate ops.size false)) (Array.replicate ops.size false) && ((mkPlan E ops ops.size (Array.replicate ops.size false)).all fun p => p.1 != 0 || !stAt E ops p.2) && !lateP E ops 0 (mkPlan E ops ops.size (Array.replicate ops.size false))
def mkPu (ops : Array Oper) : Nat → Array Bool → Pt
  | 0, _ => .done
  | n + 1, listed => match Region.ready .any ops listed with
    | [] => .done
    | i :: is => match (i :: is).find? (fun j => match ops[j]? with
        | some o => pureK o && Region.free .any ops listed j
        | none => false) with
      | some j => .q j (mkPu ops n (listed.setIfInBounds j true))
      | none => altF (fun _ => true) (fun i => mkPu ops n (listed.setIfInBounds i true)) i is
def puOk (ops : Array Oper) : Nat → Bool → Pt → Array Bool → Bool
  | _, _, .done, listed => (Region.ready .any ops listed).isEmpty
  | n + 1, _, .q j p, listed => (Region.ready .any ops listed).contains j && Region.free .any ops listed j && (match ops[j]? with
      | some o => pureK o
      | none => false) && puOk ops n true p (listed.setIfInBounds j true)
  | n + 1, top, .s1 _ i p, listed => (!top || decide (Region.ready .any ops listed = [i])) && puOk ops n true p (listed.setIfInBounds i true)
  | n + 1, top, .s2 _ i p r, listed => (!top || decide (Region.ready .any ops listed = i :: altIdx r)) && puOk ops n true p (listed.setIfInBounds i true) && puOk ops (n + 1) false r listed
  | _, _, _, _ => false
noncomputable def drawU (E : Env) (ops : Array Oper) (K : AS → Option R) : Pt → AS → Option R
  | .done, A => K A
  | .q j p, A | .t j p, A | .s1 _ j p, A => match ops[j]? with
    | some o => opG E ops.toList A o fun A => drawU E ops K p A
    | none => none
  | .s2 _ i p r, A => match ops[i]? with
    | some o => both (opG E ops.toList A o fun A => drawU E ops K p A) (drawU E ops K r A)
    | none => none

/-! ### Code -/
inductive Ex where
  | normal
  | exit (id : Nat)
  | ret
/-- What stands at a loop's head: the temporaries, the variables and arrays; the data that it holds. -/
inductive TS where
  | nil
  | sc (p : Bool) (t : Ty)
  | own (k : Nat)
  | ptr (k off : Nat)
  | fnv (f : Nat) (ks : List Nat)
inductive TO where
  | box (cs : List TS)
  | arr (e : TypeId) (t : Ty)
/-- moves: which temporary's (which variable's which cell's) array bears which number from here on. -/
structure Tm where
  mf : List (Nat × Nat)
  mb : List (Nat × Nat × Nat)
  fr : List (Nat × TS)
  hp : List (Nat × TO)
  xf : List Nat
  xh : List Nat
@[reducible] def CsD : List TS → Type
  | [] => Unit
  | .sc _ t :: l => t.D × CsD l
  | _ :: l => CsD l
@[reducible] def FrD : List (Nat × TS) → Type
  | [] => Unit
  | (_, .sc _ t) :: l => t.D × FrD l
  | _ :: l => FrD l
@[reducible] def HpD : List (Nat × TO) → Type
  | [] => Unit
  | (_, .box cs) :: l => CsD cs × HpD l
  | (_, .arr _ t) :: l => List t.D × HpD l
abbrev Tm.D (τ : Tm) : Type := FrD τ.fr × HpD τ.hp
def instC : (l : List TS) → CsD l → List AC
  | [], _ => []
  | .sc p t :: l, x => .d p t x.1 :: instC l x.2
  | .own k :: l, x => .own k :: instC l x
  | .ptr k o :: l, x => .bptr k o :: instC l x
  | .fnv f ks :: l, x => .fn f ks :: instC l x
  | .nil :: l, x => .nil :: instC l x
def instF : (l : List (Nat × TS)) → FrD l → Fr
  | [], _ => []
  | (i, .sc p t) :: l, x => (i, .v (.one (.d p t x.1))) :: instF l x.2
  | (i, .own k) :: l, x => (i, .v (.one (.own k))) :: instF l x
  | (i, .ptr k o) :: l, x => (i, .v (.one (.bptr k o))) :: instF l x
  | (i, .fnv f ks) :: l, x => (i, .v (.one (.fn f ks))) :: instF l x
  | (i, .nil) :: l, x => (i, .v (.one .nil)) :: instF l x
def instH : (l : List (Nat × TO)) → HpD l → Hp
  | [], _ => []
  | (k, .box cs) :: l, x => (k, .box (instC cs x.1)) :: instH l x.2
  | (k, .arr e t) :: l, x => (k, .arr e t x.1) :: instH l x.2
def inst (τ : Tm) (s : τ.D) : AS := ⟨instF τ.fr s.1, instH τ.hp s.2⟩
def matC : (l : List TS) → List AC → Option (CsD l)
  | [], [] => some ()
  | .sc p t :: l, .d p' t' x :: cs => if p' = p then (castD t' t x).bind fun x => (matC l cs).map fun y => (x, y) else none
  | .own k :: l, .own k' :: cs => if k' = k then matC l cs else none
  | .ptr k o :: l, .bptr k' o' :: cs => if k' = k ∧ o' = o then matC l cs else none
  | .fnv f ks :: l, .fn f' ks' :: cs => if f' = f ∧ ks' = ks then matC l cs else none
  | .nil :: l, .nil :: cs => matC l cs
  | _, _ => none
def matF : (l : List (Nat × TS)) → Fr → Option (FrD l)
  | [], [] => some ()
  | (i, .sc p t) :: l, (j, .v (.one (.d p' t' x))) :: fr => if j = i ∧ p' = p then (castD t' t x).bind fun x => (matF l fr).map fun y => (x, y) else none
  | (i, .own k) :: l, (j, .v (.one (.own k'))) :: fr => if j = i ∧ k' = k then matF l fr else none
  | (i, .ptr k o) :: l, (j, .v (.one (.bptr k' o'))) :: fr => if j = i ∧ k' = k ∧ o' = o then matF l fr else none
  | (i, .fnv f ks) :: l, (j, .v (.one (.fn f' ks'))) :: fr => if j = i ∧ f' = f ∧ ks' = ks then matF l fr else none
  | (i, .nil) :: l, (j, .v (.one .nil)) :: fr => if j = i then matF l fr else none
  | _, _ => none
def matH : (l : List (Nat × TO)) → Hp → Option (HpD l)
  | [], [] => some ()
  | (k, .box cs) :: l, (j, .box cs') :: hp => if j = k then (matC cs cs').bind fun x => (matH l hp).map fun y => (x, y) else none
  | (k, .arr e t) :: l, (j, .arr e' t' xs) :: hp => if j = k ∧ e' = e then (castD (.sl e' t') (.sl e t) xs).bind fun x => (matH l hp).map fun y => (x, y) else none
  | _, _ => none
/-- A cell's array gets a new number. -/
def elemOf (hp : Hp) : AC → Option (TypeId × Ty)
  | .own k => match get hp k with
    | some (.arr e t _) => some (e, t)
    | _ => none
  | .sub k _ _ _ => match get hp k with
    | some (.arr e t _) => some (e, t)
    | _ => none
  | _ => none
def retok (hp : Hp) (e : TypeId) (t : Ty) (c : AC) (κ : Nat) : Option (AO × Hp) :=
  match takeC hp (.sl e t) [c] with
  | some (x, [], hp) => some (.arr e t x, hp)
  | _ => none
def arrTy : List (Nat × TO) → Nat → Option (TypeId × Ty)
  | [], _ => none
  | (k, .arr e t) :: l, κ => if k = κ then some (e, t) else arrTy l κ
  | _ :: l, κ => arrTy l κ
def normF (τ : List (Nat × TO)) : List (Nat × Nat) → AS → Option AS
  | [], A => some A
  | (i, κ) :: l, A => match arrTy τ κ, get A.fr i with
    | some (e, t), some (.v (.one c)) => match retok A.hp e t c κ with
      | some (o, hp) => if κ < pinBase then normF τ l (put1 (newTok ⟨A.fr, hp⟩ κ o) i (.own κ)) else none
      | none => none
    | _, _ => none
def normB (τ : List (Nat × TO)) : List (Nat × Nat × Nat) → AS → Option AS
  | [], A => some A
  | (k, j, κ) :: l, A => match arrTy τ κ, get A.hp k with
    | some (e, t), some (.box cs) => match retok A.hp e t (cs.getD j .bad) κ with
      | some (o, hp) => if κ < pinBase ∧ κ ≠ k ∧ j < cs.length then
          let A := newTok ⟨A.fr, hp⟩ κ o
          match get A.hp k with
          | some (.box cs) => normB τ l ⟨A.fr, ins A.hp k (.box (cs.set j (.own κ)))⟩
          | _ => none
        else none
      | none => none
    | _, _ => none
def pickK {α β : Type} (l : List (Nat × α)) : List (Nat × β) → List (Nat × α)
  | [] => []
  | (i, _) :: τ => match get l i with
    | some x => (i, x) :: pickK l τ
    | none => pickK l τ
def matT (τ : Tm) (A : AS) : Option τ.D :=
  (normF τ.hp τ.mf A).bind fun A => (normB τ.hp τ.mb A).bind fun A => (matF τ.fr (pickK A.fr τ.fr)).bind fun x => (matH τ.hp (pickK A.hp τ.hp)).map fun y => (x, y)
/-- What a loop's end keeps. -/
def restr (τ : Tm) (A : AS) : AS := ⟨A.fr.filter fun p => τ.xf.contains p.1, A.hp.filter fun p => τ.xh.contains p.1 || decide (pinBase ≤ p.1)⟩
def iterK (τ : Tm) (K : Ex → AS → Option R) (next : τ.D → Option R) : Ex → AS → Option R
  | .normal, A => (matT τ A).bind next
  | e, A => K e (restr τ A)
def iterG (τ : Tm) (body : AS → (Ex → AS → Option R) → Option R) (K : Ex → AS → Option R) : Nat → τ.D → Option R
  | 0, _ => none
  | n + 1, s => body (inst τ s) (iterK τ K (iterG τ body K n))
open Classical in
/-- A loop: as many rounds as it takes. -/
noncomputable def loopG (τ : Tm) (body : AS → (Ex → AS → Option R) → Option R) (K : Ex → AS → Option R) (s : τ.D) : Option R :=
  if h : ∃ n r, iterG τ body K n s = some r then iterG τ body K (Classical.choose h) s else none
def kBlk (id : Nat) (K : Ex → AS → Option R) : Ex → AS → Option R
  | .exit i, A => if i = id then K .normal A else K (.exit i) A
  | e, A => K e A
def kSeq (next : AS → (Ex → AS → Option R) → Option R) (K : Ex → AS → Option R) : Ex → AS → Option R
  | .normal, A => next A K
  | e, A => K e A
noncomputable def ev (E : Env) (TM : List (Nat × Tm)) : Nat → Code → AS → (Ex → AS → Option R) → Option R
  | _, .skip, A, K => K .normal A
  | _, .region _ ops false, A, K => evReg E ops.toList (K .normal) A
  | _, .region _ ops true, A, K => if Region.noSelect ops && ((ops.toList.any fun o => stCall E o || boldCall E o) && !calm E ops && puOk ops ops.size true (mkPu ops ops.size (Array.replicate ops.size false)) (Array.replicate ops.size false)) then drawU E ops (K .normal) (mkPu ops ops.size (Array.replicate ops.size false)) A
    else if Region.noSelect ops && !useT ops && planOk E ops (mkPlan E ops ops.size (Array.replicate ops.size false)) (Array.replicate ops.size false) then drawP E ops (K .normal) (mkPlan E ops ops.size (Array.replicate ops.size false)) A none
    else if Region.noSelect ops && ptOk E ops (tailT (mkPt E ops ops.size false (Array.replicate ops.size false))) ops.size true (mkPt E ops ops.size false (Array.replicate ops.size false)) (Array.replicate ops.size false) then drawT E ops (K .normal) (mkPt E ops ops.size false (Array.replicate ops.size false)) A none else none
  | cur, .seq a b, A, K => ev E TM cur a A (kSeq (fun A K => ev E TM cur b A K) K)
  | cur, .cond c a b, A, K => match opdC A c with
    | .d _ .bool x => brk x (ev E TM cur a A K) (ev E TM cur b A K)
    | _ => none
  | _, .block id c, A, K => ev E TM id c A (kBlk id K)
  | cur, .loop c, A, K => match get TM cur with
    | some τ => (matT τ A).bind (loopG τ (fun A K => ev E TM cur c A K) K)
    | none => none
  | _, .exit id, A, K => K (.exit id) A
  | _, .ret, A, K => K .ret A
  | _, _, _, _ => none

/-! ### A function -/
def initB : (ts : List Ty) → TysD ts → Nat → List Nat × Hp
  | [], _, _ => ([], [])
  | t :: ts, x, k => (k :: (initB ts x.2 (k + 1)).1, (k, .box (roC true t x.1)) :: (initB ts x.2 (k + 1)).2)
def init1 : (p : Pm) → p.D → Nat → A1 × Hp
  | .ro t, x, _ => (shape t (roC true t x), [])
  | .mv t, x, k | .inp t, x, k => (shape t (ownC t x k).1, (ownC t x k).2.1)
  | .st t, x, k => (.one (.bptr k 0), [(k, .box (roC true t x))])
  | .fn f ts, x, k => (.one (.fn f (initB ts x k).1), (initB ts x k).2)
def initL : (ps : List Pm) → PsD ps → Nat → List A1 × Hp
  | [], _, _ => ([], [])
  | p :: ps, x, i => ((init1 p x.1 (pinBase + i * 16)).1 :: (initL ps x.2 (i + 1)).1, (init1 p x.1 (pinBase + i * 16)).2 ++ (initL ps x.2 (i + 1)).2)
def numF : List A1 → Nat → Fr
  | [], _ => []
  | a :: as, i => (i, .v a) :: numF as (i + 1)
def initS (ps : List Pm) (x : PsD ps) : AS := ⟨numF (initL ps x 0).1 0, (newToks ⟨[], []⟩ (initL ps x 0).2).hp⟩
def Pm.size : Pm → Nat
  | .ro _ => 0
  | .mv t | .inp t => t.cells
  | .st _ => 1
  | .fn _ ts => ts.length
/-- What is handed back. -/
def resA (E : Env) (A : AS) : ResultVar → Option A1
  | .tmp t => some (opd1 A (.tmp t))
  | .cell a t => match tyOf E.tt t with
    | some T => loadA A T (opdC A (.tmp a))
    | none => none
def give1 (hp : Hp) : (r : Rk) → A1 → Option (r.D × Hp)
  | .own t, a => if okSh t a then match takeC hp t a.cs with
    | some (x, [], hp) => some (x, hp)
    | _ => none else none
  | .box t, a => (ptr0 a).bind fun k => boxC hp t k
def gives (hp : Hp) : (rs : List Rk) → List A1 → Option (RsD rs × Hp)
  | [], [] => some ((), hp)
  | r :: rs, a :: as => (give1 hp r a).bind fun (x, hp) => (gives hp rs as).map fun (xs, hp) => ((x, xs), hp)
  | _, _ => none
/-- What was lent, as it is now. -/
def out1 (hp : Hp) : (p : Pm) → A1 → Option (p.O × Hp)
  | .ro _, _ | .mv _, _ => some ((), hp)
  | .inp t, a => lend1 hp (.inp t) a
  | .st t, a => lend1 hp (.st t) a
  | .fn f ts, a => lend1 hp (.fn f ts) a
def outs (hp : Hp) : (ps : List Pm) → List A1 → Option (PsO ps × Hp)
  | [], _ => some ((), hp)
  | p :: ps, a :: as => (out1 hp p a).bind fun (x, hp) => (outs hp ps as).map fun (xs, hp) => ((x, xs), hp)
  | _ :: _, [] => none
def mapO {α β : Type} (f : α → Option β) : List α → Option (List β)
  | [] => some []
  | x :: xs => (f x).bind fun y => (mapO f xs).map fun ys => y :: ys
def endK (E : Env) (fn : Func) (ps : List Pm) (rs : List Rk) (as : List A1) (e : Ex) (A : AS) : Option (RsD rs × PsO ps) :=
  match e with
  | .exit _ => none
  | _ => match mapO (resA E A) fn.results.toList with
    | some vs => (gives A.hp rs vs).bind fun (y, hp) => (outs hp ps as).map fun o => (y, o.1)
    | none => none
noncomputable def evFn (E : Env) (TM : List (Nat × Tm)) (fn : Func) (body : Code) (ps : List Pm) (rs : List Rk) (x : PsD ps) : Option (RsD rs × PsO ps) :=
  ev E TM 1000 body (initS ps x) (endK E fn ps rs (initL ps x 0).1)
end
end Go.Refl
