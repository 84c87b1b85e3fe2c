/- The evaluator is right: operands, and what single operations come to. No program in sight. No condition. -/
import Derived.Test.YthmaaogfmakohaaRf3
import Derived.Laws.Cover3
namespace Go.Refl
open Go.RowKit
set_option linter.unusedVariables false
set_option linter.unusedSimpArgs false

theorem castD_eq {t t' : Ty} {x : t.D} {y : t'.D} (h : castD t t' x = some y) : ∃ e : t = t', y = e ▸ x := by
  unfold castD at h
  split at h
  · rename_i e; exact ⟨e, (Option.some.inj h).symm⟩
  · cases h

/-! ### Numbers in range -/
theorem inR_wrap (k : IntKind) (x : Int) : inR k (k.wrap x) := by
  cases k <;> simp only [inR, IntKind.wrap, IntKind.min, IntKind.max, IntKind.signed, IntKind.bits] <;> simp <;> omega
theorem inR_tmod {k : IntKind} {x y : Int} (hx : inR k x) : inR k (x.tmod y) := by
  have h1 : 0 ≤ x → 0 ≤ x.tmod y ∧ x.tmod y ≤ x := fun h => ⟨Int.tmod_nonneg _ h, by
    have := Int.tmod_add_tdiv_mul x y
    have h2 : (x.tmod y).natAbs ≤ x.natAbs := by rw [Int.natAbs_tmod]; exact Nat.mod_le _ _
    have := Int.tmod_nonneg y h
    omega⟩
  have h2 : x ≤ 0 → x ≤ x.tmod y ∧ x.tmod y ≤ 0 := fun h => by
    have h3 : (x.tmod y).natAbs ≤ x.natAbs := by rw [Int.natAbs_tmod]; exact Nat.mod_le _ _
    have h4 : 0 ≤ (-x).tmod y := Int.tmod_nonneg _ (by omega)
    rw [Int.neg_tmod] at h4
    omega
  have hm : k.min ≤ 0 ∧ 0 ≤ k.max := by cases k <;> decide
  unfold inR at *
  by_cases h : 0 ≤ x
  · have := h1 h; omega
  · have := h2 (by omega); omega
theorem inR_fdiv {k : IntKind} {x : Int} (hx : inR k x) (n : Nat) : inR k (x.fdiv (2 ^ n)) := by
  have hp : (0 : Int) < 2 ^ n := Int.pow_pos (by decide)
  have hm : k.min ≤ 0 ∧ 0 ≤ k.max := by cases k <;> decide
  rw [Int.fdiv_eq_ediv_of_nonneg _ (Int.le_of_lt hp)]
  unfold inR at *
  by_cases h : 0 ≤ x
  · have h1 := Int.ediv_nonneg h (Int.le_of_lt hp)
    have h2 := Int.ediv_le_self (2 ^ n) h
    omega
  · have h1 : x / 2 ^ n < 0 := Int.ediv_neg_of_neg_of_pos (by omega) hp
    have h8 : x ≤ x / 2 ^ n := by
      refine (Int.le_ediv_iff_mul_le hp).2 ?_
      have : x * 2 ^ n ≤ x * 1 := Int.mul_le_mul_of_nonpos_left (by omega) (by omega)
      omega
    omega

/-! ### Operands -/
section
variable {cx : Cx} {A : AS} {a : Act} {w : World} {m : Mp}
theorem opd_ok (h : RelW cx A a w m) (x : Operand) : VV w (R0of A m) (R1of A m) m.μ (opd A x) (a.eval x) := by
  unfold opd
  split
  · rename_i t
    cases hg : get A.fr t with
    | none => trivial
    | some av => exact (h.fr t av hg).2
  · split
    · rename_i k n hk; exact ⟨rfl, rfl, hk⟩
    · trivial
  · exact ⟨rfl, rfl⟩
  · split
    · rename_i s hs; exact ⟨rfl, s, rfl, rfl, hs⟩
    · trivial
  · rfl
  · exact ⟨[], rfl, rfl⟩
  · trivial
theorem opd1_ok (h : RelW cx A a w m) (x : Operand) : V1 w (R0of A m) (R1of A m) m.μ (opd1 A x) (a.eval x) := by
  have := opd_ok h x
  unfold opd1
  split
  · rename_i b hb; rw [hb] at this; exact this
  · trivial
theorem opdC_ok (h : RelW cx A a w m) (x : Operand) : VC w (R0of A m) (R1of A m) m.μ (opdC A x) (a.eval x) := by
  have := opd1_ok h x
  unfold opdC
  split
  · rename_i b hb; rw [hb] at this; exact this
  · trivial
end
theorem VC.int {w : World} {R0 R1 : Nat → Prop} {μ : Nat → Value} {p : Bool} {k : IntKind} {x : Int} {v : Value} (h : VC w R0 R1 μ (.d p (.int k) x) v) : v = .int k x ∧ inR k x := by
  obtain ⟨_, h, h2⟩ := h; exact ⟨by simpa using h, h2⟩
theorem VC.bool {w : World} {R0 R1 : Nat → Prop} {μ : Nat → Value} {p : Bool} {x : Bool} {v : Value} (h : VC w R0 R1 μ (.d p .bool x) v) : v = .bool x := by
  obtain ⟨_, h⟩ := h; simpa [Ro] using h
theorem VC.str {w : World} {R0 R1 : Nat → Prop} {μ : Nat → Value} {p : Bool} {x : List Int} {v : Value} (h : VC w R0 R1 μ (.d p .str x) v) : ∃ s, v = .string s ∧ x = bytesOf s ∧ s.size ≤ big47 := by
  obtain ⟨_, s, h, h2⟩ := h; exact ⟨s, by simpa using h, h2⟩
theorem VC.mkInt (w : World) (R0 R1 : Nat → Prop) (μ : Nat → Value) (p : Bool) {k : IntKind} {x : Int} (h : inR k x) : VC w R0 R1 μ (.d p (.int k) x) (.int k x) := ⟨rfl, rfl, h⟩
theorem VC.mkBool (w : World) (R0 R1 : Nat → Prop) (μ : Nat → Value) (p : Bool) (x : Bool) : VC w R0 R1 μ (.d p .bool x) (.bool x) := ⟨rfl, rfl⟩

theorem brk_some {R : Type} {x : Bool} {a b : Option R} {r : R} (h : brk x a b = some r) : (x = true ∧ a = some r) ∨ (x = false ∧ b = some r) := by
  cases x
  · exact .inr ⟨rfl, h⟩
  · exact .inl ⟨rfl, h⟩
theorem ck_some {R : Type} {x : Bool} {a : Option R} {r : R} (h : ck x a = some r) : x = true ∧ a = some r := by
  cases x
  · cases h
  · exact ⟨rfl, h⟩

theorem both_some {R : Type} {a b : Option R} {r : R} (h : both a b = some r) : a = some r ∧ b = some r := by
  unfold both at h
  split at h
  · rename_i e; exact ⟨h, e ▸ h⟩
  · cases h

/-! ### Arithmetic -/
/-- It yields v, in this world and wherever what it holds still stands. -/
def RunB (P : Program) (w : World) (s : Sem Value) (v : Value) : Prop := ∀ w', Below w.heap.size w w' → s.run P w' = .ok v w'
theorem RunB.run {P : Program} {w : World} {s : Sem Value} {v : Value} (h : RunB P w s v) : s.run P w = .ok v w := h w (Below.refl _ _)
theorem below_cell {w w' : World} (h : Below w.heap.size w w') {ad : Addr} {u : Value} (hc : w.cell? ad = some u) : w'.cell? ad = some u := by
  unfold World.cell? at hc ⊢
  by_cases hl : ad.block < w.heap.size
  · rw [h.block _ hl]; exact hc
  · rw [Array.getElem?_eq_none (by omega)] at hc; simp at hc
theorem intOp_ok {R : Type} (P : Program) {op : BinOp} {k : IntKind} {x y : Int} {K : AC → Option R} {r : R} (h : intOp op k x y K = some r) (hx : inR k x) (hy : inR k y)
    (w : World) (t : TypeId) (R0 R1 : Nat → Prop) (μ : Nat → Value) : ∃ c v, RunB P w (binOp op t (.int k x) (.int k y)) v ∧ VC w R0 R1 μ c v ∧ K c = some r := by
  cases op <;> simp only [intOp] at h
  case add => exact ⟨_, _, by intro w _; simp [binOp, Op.intArith], VC.mkInt _ _ _ _ _ (inR_wrap _ _), h⟩
  case sub => exact ⟨_, _, by intro w _; simp [binOp, Op.intArith], VC.mkInt _ _ _ _ _ (inR_wrap _ _), h⟩
  case mul => exact ⟨_, _, by intro w _; simp [binOp, Op.intArith], VC.mkInt _ _ _ _ _ (inR_wrap _ _), h⟩
  case quo =>
    obtain ⟨h0, h⟩ := ck_some h
    exact ⟨_, _, by intro w _; simp [binOp, Op.intDiv, of_decide_eq_true h0], VC.mkInt _ _ _ _ _ (inR_wrap _ _), h⟩
  case rem =>
    obtain ⟨h0, h⟩ := ck_some h
    exact ⟨_, _, by intro w _; simp [binOp, Op.intDiv, of_decide_eq_true h0], VC.mkInt _ _ _ _ _ (inR_tmod hx), h⟩
  case and => exact ⟨_, _, by intro w _; simp [binOp, Op.intBits], VC.mkInt _ _ _ _ _ (inR_wrap _ _), h⟩
  case or => exact ⟨_, _, by intro w _; simp [binOp, Op.intBits], VC.mkInt _ _ _ _ _ (inR_wrap _ _), h⟩
  case xor => exact ⟨_, _, by intro w _; simp [binOp, Op.intBits], VC.mkInt _ _ _ _ _ (inR_wrap _ _), h⟩
  case eql => exact ⟨_, .bool (decide (x = y)), by intro w _; simp [binOp, Op.intCmp]; rfl, VC.mkBool _ _ _ _ _ _, h⟩
  case neq => exact ⟨_, .bool (!decide (x = y)), by intro w _; simp [binOp, Op.intCmp]; rfl, VC.mkBool _ _ _ _ _ _, h⟩
  case lss => exact ⟨_, _, by intro w _; simp [binOp, Op.intCmp], VC.mkBool _ _ _ _ _ _, h⟩
  case leq => exact ⟨_, _, by intro w _; simp [binOp, Op.intCmp], VC.mkBool _ _ _ _ _ _, h⟩
  case gtr => exact ⟨_, _, by intro w _; simp [binOp, Op.intCmp], VC.mkBool _ _ _ _ _ _, h⟩
  case geq => exact ⟨_, _, by intro w _; simp [binOp, Op.intCmp], VC.mkBool _ _ _ _ _ _, h⟩
  case shl =>
    obtain ⟨h0, h⟩ := ck_some h
    exact ⟨_, _, by intro w _; have h1 : ¬ y < 0 := (by have := of_decide_eq_true h0; omega); simp [binOp, Op.shift, h1], VC.mkInt _ _ _ _ _ (inR_wrap _ _), h⟩
  case shr =>
    obtain ⟨h0, h⟩ := ck_some h
    exact ⟨_, _, by intro w _; have h1 : ¬ y < 0 := (by have := of_decide_eq_true h0; omega); simp [binOp, Op.shift, h1], VC.mkInt _ _ _ _ _ (inR_fdiv hx _), h⟩
  all_goals cases h
theorem bytes_inj : ∀ {l l' : List UInt8}, l.map (fun b => (b.toNat : Int)) = l'.map (fun b => (b.toNat : Int)) → l = l'
  | [], [], _ => rfl
  | [], _ :: _, h => by simp at h
  | _ :: _, [], h => by simp at h
  | a :: l, b :: l', h => by
    simp only [List.map_cons, List.cons.injEq] at h
    rw [bytes_inj h.2, UInt8.toNat_inj.1 (by omega : a.toNat = b.toNat)]
theorem bytesOf_inj {s s' : ByteArray} : bytesOf s = bytesOf s' ↔ s.toList = s'.toList := by
  rw [ByteArray.toList_eq, ByteArray.toList_eq]
  exact ⟨bytes_inj, fun h => by unfold bytesOf; rw [h]⟩
theorem bytesOf_append (s s' : ByteArray) : bytesOf (s ++ s') = bytesOf s ++ bytesOf s' := by
  unfold bytesOf
  rw [ByteArray.data_append, Array.toList_append, List.map_append]
theorem bytesOf_length (s : ByteArray) : (bytesOf s).length = s.size := by
  unfold bytesOf
  rw [List.length_map]
  rfl
theorem sl_nilness {w : World} {R0 R1 : Nat → Prop} {μ : Nat → Value} {p : Bool} {e : TypeId} {t : Ty} {xs : List t.D} {v : Value} (h : VC w R0 R1 μ (.d p (.sl e t) xs) v) (hc : t.cells ≠ 0) : ∃ a l c, v = .slice a l c ∧ (xs.length ≠ 0 → a.isNone = false) := by
  obtain ⟨_, a, cap, vs, hv, _, _, _, hat, hr⟩ := h
  refine ⟨a, xs.length, cap, by simpa using hv, fun hl => ?_⟩
  rcases hat with rfl | ⟨ad, rfl, _⟩
  · exfalso
    have h0 := RoL.length (n := t.cells) (fun _ _ h => h.length) hr
    have h1 : xs.length * t.cells = 0 := h0.symm
    exact (Nat.mul_eq_zero.1 h1).elim hl hc
  · rfl
theorem binA_ok {R : Type} (P : Program) {op : BinOp} {tb : Option Ty} {ca cb : AC} {K : AC → Option R} {r : R} (h : binA op tb ca cb K = some r)
    (w : World) (t : TypeId) (R0 R1 : Nat → Prop) (μ : Nat → Value) {va vb : Value} (ha : VC w R0 R1 μ ca va) (hb : VC w R0 R1 μ cb vb) (ht : isB tb = true → P.underlying t = some .bool) (hts : isSlO tb = true → ∃ e, P.underlying t = some (.slice e)) :
    ∃ c v, RunB P w (binOp op t va vb) v ∧ VC w R0 R1 μ c v ∧ K c = some r := by
  unfold binA at h
  split at h
  · rename_i p e T xs
    split at h
    · rename_i hg
      simp only [Bool.and_eq_true, bne_iff_ne, ne_eq] at hg
      obtain ⟨e', hu⟩ := hts hg.1
      obtain ⟨a, l, c, rfl, hn⟩ := sl_nilness ha hg.2
      have hb : vb = .slice none 0 0 := hb
      subst hb
      split at h
      · refine ⟨.d true .bool a.isNone, .bool a.isNone, fun w _ => by simp only [binOp]; simp [run_equal_slice_nil w t e' a l c hu], VC.mkBool _ _ _ _ _ _, ?_⟩
        rcases brk_some h with ⟨h0, h⟩ | ⟨h0, h⟩
        · obtain ⟨h1, h2⟩ := both_some h
          cases hx : a.isNone
          · exact h2
          · exact h1
        · rw [hn (of_decide_eq_false h0)]; exact h
      · refine ⟨.d true .bool (!a.isNone), .bool (!a.isNone), fun w _ => run_neq_slice_nil w t e' a l c hu, VC.mkBool _ _ _ _ _ _, ?_⟩
        rcases brk_some h with ⟨h0, h⟩ | ⟨h0, h⟩
        · obtain ⟨h1, h2⟩ := both_some h
          cases hx : a.isNone
          · exact h1
          · exact h2
        · rw [hn (of_decide_eq_false h0)]; exact h
      · cases h
    · cases h
  · split at h
    · rename_i hk; subst hk
      obtain ⟨rfl, hx⟩ := ha.int
      obtain ⟨rfl, hy⟩ := hb.int
      exact intOp_ok P h hx hy w t R0 R1 μ
    · obtain ⟨rfl, hx⟩ := ha.int
      obtain ⟨rfl, hy⟩ := hb.int
      cases op <;> simp only [shOp] at h
      case shl =>
        obtain ⟨h0, h⟩ := ck_some h
        exact ⟨_, _, by intro w _; have h1 : ¬ _ < (0 : Int) := (by have := of_decide_eq_true h0; exact Int.not_lt.2 this); simp [binOp, Op.shift, h1], VC.mkInt _ _ _ _ _ (inR_wrap _ _), h⟩
      case shr =>
        obtain ⟨h0, h⟩ := ck_some h
        exact ⟨_, _, by intro w _; have h1 : ¬ _ < (0 : Int) := (by have := of_decide_eq_true h0; exact Int.not_lt.2 this); simp [binOp, Op.shift, h1], VC.mkInt _ _ _ _ _ (inR_fdiv hx _), h⟩
      all_goals cases h
  · obtain rfl := ha.bool
    obtain rfl := hb.bool
    rename_i _ _ _ x _ y
    split at h
    · cases h
    rename_i htb
    have hu := ht (by simpa using htb)
    split at h
    · exact ⟨_, .bool (x == y), fun w _ => run_eql_bool w t x y hu, VC.mkBool _ _ _ _ _ _, h⟩
    · exact ⟨_, .bool (!(x == y)), fun w _ => run_neq_bool w t x y hu, VC.mkBool _ _ _ _ _ _, h⟩
    · cases h
  · obtain ⟨s, rfl, rfl, hs⟩ := ha.str
    obtain ⟨s', rfl, rfl, hs'⟩ := hb.str
    split at h
    · refine ⟨_, .bool (decide (bytesOf s = bytesOf s')), ?_, VC.mkBool _ _ _ _ _ _, h⟩
      simp only [bytesOf_inj]
      intro w _
      by_cases e : s.toList = s'.toList <;> simp [binOp, Op.stringOp, e]
    · refine ⟨_, .bool (!decide (bytesOf s = bytesOf s')), ?_, VC.mkBool _ _ _ _ _ _, h⟩
      simp only [bytesOf_inj]
      intro w _
      by_cases e : s.toList = s'.toList <;> simp [binOp, Op.stringOp, e]
    · obtain ⟨h0, h⟩ := ck_some h
      have h1 := of_decide_eq_true h0
      simp only [bytesOf_length, big47] at h1
      refine ⟨.d true .str (bytesOf s ++ bytesOf s' : List Int), .string (s ++ s'), ?_, ⟨rfl, s ++ s', rfl, (bytesOf_append s s').symm, by rw [ByteArray.size_append]; exact h1⟩, h⟩
      have h2 : ¬ (((s.size + s'.size : Nat) : Int) > IntKind.i64.max) := by
        simp only [IntKind.max, IntKind.signed, IntKind.bits]
        omega
      intro w _
      simp [binOp, Op.stringOp]
      omega
    · cases h
  · cases h
theorem unA_ok {R : Type} (P : Program) {op : UnOp} {ca : AC} {K : AC → Option R} {r : R} (h : unA op ca K = some r)
    (w : World) (R0 R1 : Nat → Prop) (μ : Nat → Value) {va : Value} (ha : VC w R0 R1 μ ca va) :
    ∃ c v, RunB P w (Op.unary op va) v ∧ VC w R0 R1 μ c v ∧ K c = some r := by
  unfold unA at h
  split at h
  · obtain ⟨rfl, hx⟩ := ha.int
    rename_i k x
    exact ⟨_, .int k (k.wrap (0 - x)), by intro w _; simp [Op.unary, Op.intArith], VC.mkInt _ _ _ _ _ (inR_wrap _ _), h⟩
  · obtain rfl := ha.bool
    exact ⟨_, _, by intro w _; simp [Op.unary], VC.mkBool _ _ _ _ _ _, h⟩
  · cases h

/-! ### What the tables say of the program -/
def zeroV : Ty → List Value
  | .unit => []
  | .pair a b => zeroV a ++ zeroV b
  | .int k => [.int k 0]
  | .bool => [.bool false]
  | .str => [.string .empty]
  | .sl _ _ => [.slice none 0 0]
def shapeV (t : Ty) (cs : List Value) : Value := if t.one then cs.headD undef else .agg cs.toArray
def FieldsFit (tt : TT) : List Field → Ty → Nat → Prop
  | [], .unit, _ => True
  | f :: fs, .pair a b, off => f.offset = off ∧ (∃ by_, get tt f.type = some (a, by_)) ∧ a.cells ≠ 0 ∧ FieldsFit tt fs b (off + a.cells)
  | _, _, _ => False
structure TFit (P : Program) (tt : TT) (t : TypeId) (T : Ty) (by_ : Nat) : Prop where
  info : ∃ i z, P.info? t = some i ∧ i.zero = some z ∧ i.size = T.cells ∧ i.bytes = by_ ∧ z = shapeV T (zeroV T)
  pos : T.cells ≠ 0
  und : match T with
    | .int k => P.underlying t = some (.int k)
    | .bool => P.underlying t = some .bool
    | .str => P.underlying t = some .string
    | .sl e T' => P.underlying t = some (.slice e) ∧ ∃ b', get tt e = some (T', b')
    | _ => ∃ fs, P.underlying t = some (.struct fs) ∧ FieldsFit tt fs.toList T 0
structure EnvOk (P : Program) (E : Env) : Prop where
  ty : ∀ t T b, get E.tt t = some (T, b) → TFit P E.tt t T b
theorem tyOf_get {tt : TT} {t : TypeId} {T : Ty} (h : tyOf tt t = some T) : ∃ b, get tt t = some (T, b) := by
  unfold tyOf at h
  cases hg : get tt t with
  | none => rw [hg] at h; cases h
  | some p => rw [hg] at h; obtain ⟨T', b⟩ := p; simp at h; subst h; exact ⟨b, rfl⟩
theorem EnvOk.fit {P : Program} {E : Env} (h : EnvOk P E) {t : TypeId} {T : Ty} (ht : tyOf E.tt t = some T) : ∃ b, TFit P E.tt t T b := by
  obtain ⟨b, hb⟩ := tyOf_get ht
  exact ⟨b, h.ty t T b hb⟩
section
variable {P : Program} {tt : TT} {t : TypeId} {T : Ty} {by_ : Nat}
theorem TFit.size (h : TFit P tt t T by_) (w : World) : (sizeOf t).run P w = .ok T.cells w := by
  obtain ⟨i, z, hi, _, hs, _⟩ := h.info
  simp [sizeOf, typeInfo, hi, hs]
theorem TFit.zero (h : TFit P tt t T by_) (w : World) : (zeroValue t).run P w = .ok (shapeV T (zeroV T)) w := by
  obtain ⟨i, z, hi, hz, _, _, rfl⟩ := h.info
  simp [zeroValue, typeInfo, hi, hz]
theorem TFit.agg (h : TFit P tt t T by_) (w : World) : (isAgg t).run P w = .ok (!T.one) w := by
  have hu := h.und
  cases T <;> simp only at hu
  case int k => simp [isAgg, run_underlying hu, Ty.one]
  case bool => simp [isAgg, run_underlying hu, Ty.one]
  case str => simp [isAgg, run_underlying hu, Ty.one]
  case sl e T' => simp [isAgg, run_underlying hu.1, Ty.one]
  case unit => obtain ⟨fs, hf, _⟩ := hu; simp [isAgg, run_underlying hf, Ty.one]
  case pair a b => obtain ⟨fs, hf, _⟩ := hu; simp [isAgg, run_underlying hf, Ty.one]
end
theorem zeroV_len (T : Ty) : (zeroV T).length = T.cells := by
  induction T with
  | pair a b iha ihb => simp [zeroV, Ty.cells, iha, ihb]
  | _ => simp [zeroV, Ty.cells]
theorem shapeV_cells {t : Ty} {cs : List Value} (h : cs.length = t.cells) (h1 : ∀ u ∈ cs, u.oneCell' = true) : (shapeV t cs).cells = cs.toArray := by
  cases t <;> simp only [shapeV, Ty.one, if_true, if_false, Bool.false_eq_true, Value.cells]
  all_goals
    simp only [Ty.cells] at h
    match cs, h with
    | [c], _ =>
      have := h1 c (by simp)
      cases c <;> simp_all [Value.cells, Value.oneCell']
theorem V1.shape {w : World} {R0 R1 : Nat → Prop} {μ : Nat → Value} {t : Ty} {cs : List AC} {vs : List Value} (h : All2 (VC w R0 R1 μ) cs vs) (hl : cs.length = t.cells) : V1 w R0 R1 μ (shape t cs) (shapeV t vs) := by
  have hv := h.length
  cases t <;> simp only [shape, shapeV, Ty.one, if_true, if_false, Bool.false_eq_true]
  case unit => exact ⟨vs, rfl, h⟩
  case pair a b => exact ⟨vs, rfl, h⟩
  all_goals
    simp only [Ty.cells] at hl
    match cs, vs, hl, h with
    | [c], [v], _, h =>
      obtain ⟨y, ys, hy, h1, h2⟩ := h
      simp only [All2] at h2
      subst h2
      simp at hy
      subst hy
      exact h1
end Go.Refl
