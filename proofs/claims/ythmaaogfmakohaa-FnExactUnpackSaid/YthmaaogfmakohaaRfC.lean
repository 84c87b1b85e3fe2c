/- The evaluator is right: stores, conversions, clear. No program in sight. No condition. -/
import Derived.Test.YthmaaogfmakohaaRfB
namespace Go.Refl
open Go.RowKit
set_option linter.unusedVariables false
set_option linter.unusedSimpArgs false

section
variable {cx : Cx} {A : AS} {a : Act} {w : World} {m : Mp} {P : Program}
theorem RelW.congr {fr : Fr} {h1 h2 : Hp} (h : RelW cx ⟨fr, h1⟩ a w m) (he : ∀ k, get h2 k = get h1 k) : RelW cx ⟨fr, h2⟩ a w m := by
  have hl : ∀ k, live ⟨fr, h2⟩ k ↔ live ⟨fr, h1⟩ k := fun k => by unfold live; simp only [he]
  have e0 : R0of ⟨fr, h2⟩ m = R0of ⟨fr, h1⟩ m := by funext b; simp only [R0of, hl]
  have e1 : R1of ⟨fr, h2⟩ m = R1of ⟨fr, h1⟩ m := by funext b; simp only [R1of, hl]
  exact ⟨fun i av hi => by rw [e0, e1]; exact h.fr i av hi, fun k o hk => by rw [e0, e1]; exact h.hp k o (by rw [← he]; exact hk), fun k hk => h.nd k ((hl k).1 hk), fun j k hj hk => h.dj j k ((hl j).1 hj) ((hl k).1 hk),
    fun k hk => h.lt k ((hl k).1 hk), fun k hk => h.own k ((hl k).1 hk), h.keeps, fun k v hp hk => h.pins k v hp ((hl k).1 hk), h.defers, h.rp, h.rpo⟩
theorem get_ins_del (hp : Hp) (k : Nat) (o : AO) (j : Nat) : get (ins hp k o) j = get (ins (del hp k) k o) j := by
  simp only [get_ins, get_del]
  split <;> rfl
/-- What stands under k is changed in place: its head's blocks alone are written. -/
theorem RelW.redo (h : RelW cx A a w m) {k : Nat} (hk : live A k) {hp1 : Hp} (hs : Sub hp1 A.hp) (hk1 : (get hp1 k).isSome = true) {w' : World} (hsz : w.heap.size ≤ w'.heap.size) (hos : w'.os = w.os) (hta : w'.tape = w.tape) (hou : w'.output = w.output)
    (hb : ∀ b, b < w.heap.size → w'.heap[b]? = w.heap[b]? ∨ b ∈ m.out k) (o : AO) (inn : List Nat)
    (hv : VO w' (R0of ⟨A.fr, del hp1 k⟩ { m with x0 := fun b => b ∈ m.out k ++ inn ∨ ¬ cx.rp b, x1 := fun b => b ∈ m.out k }) (R1of ⟨A.fr, del hp1 k⟩ { m with x0 := fun b => b ∈ m.out k ++ inn ∨ ¬ cx.rp b, x1 := fun b => b ∈ m.out k }) m.μ k o (m.out k) inn)
    (hnd : (m.out k ++ inn).Nodup) (hg : ∀ b ∈ inn, Gone m A.hp (del hp1 k) b) : Rel cx ⟨A.fr, ins hp1 k o⟩ a w' := by
  have hsd : Sub (del hp1 k) A.hp := (Sub.del _ _).trans hs
  have hgk : ∀ b ∈ m.out k, Gone m A.hp (del hp1 k) b := fun b hb => ⟨k, hk, by rw [get_del, if_pos rfl], List.mem_append.2 (.inl hb)⟩
  have hall : ∀ b ∈ m.out k ++ inn, Gone m A.hp (del hp1 k) b := fun b hb => (List.mem_append.1 hb).elim (hgk b) (hg b)
  have h1 := h.free hsd hsz hos hta hou (fun b hl => (hb b hl).imp id fun hm => ⟨k, hk, by rw [get_del, if_pos rfl], hm⟩) (fun b => b ∈ m.out k ++ inn ∨ ¬ cx.rp b) (fun b => b ∈ m.out k)
    (fun b _ hm => hm.elim (fun hm => .inr (hall b hm)) fun hm => .inl (h.rp b hm)) (fun b _ hm => .inr ⟨k, hk, hm⟩) (fun _ h => .inr h)
  have hmu : (Mp.upd { m with x0 := fun b => b ∈ m.out k ++ inn ∨ ¬ cx.rp b, x1 := fun b => b ∈ m.out k } k (m.μ k) (m.out k) inn).μ = m.μ := by
    funext j; simp only [Mp.upd]; split
    · rename_i e; rw [e]
    · rfl
  have h2 := RelW.add h1 k o (m.μ k) (m.out k) inn (by rw [get_del, if_pos rfl]) (.inl rfl) (by rw [hmu]; exact hv) hnd
    (fun j hj b hbj hm => (hall b hm).not h (Sub.refl _) hj hsd hbj) (fun b hm => by
      obtain ⟨j, hj, _, hjb⟩ := hall b hm
      exact Nat.lt_of_lt_of_le (h.lt j hj b hjb) hsz)
    (fun b hm => by
      obtain ⟨j, hj, _, hjb⟩ := hall b hm
      exact h.own j hj b hjb) (fun u hu => h.pins k u hu hk) (fun b hm => .inl hm) (fun b hm => hm)
  exact ⟨_, h2.congr (get_ins_del hp1 k o)⟩
theorem OwnL.split {w : World} {T : Ty} : ∀ {xs : List T.D} {cs : List Value} {fp : List Nat} (i : Nat) (x : T.D), xs[i]? = some x → OwnL (Own w T) xs cs fp →
    ∃ f1 f2 f3, fp = f1 ++ f2 ++ f3 ∧ Own w T x ((cs.drop (i * T.cells)).take T.cells) f2 ∧ cs.take (i * T.cells) ++ (cs.drop (i * T.cells)).take T.cells ++ cs.drop (i * T.cells + T.cells) = cs ∧
      ∀ (w' : World) (y : T.D) (vs : List Value) (fy : List Nat), (∀ b ∈ f1 ++ f3, w'.heap[b]? = w.heap[b]?) → Own w' T y vs fy → OwnL (Own w' T) (xs.set i y) (cs.take (i * T.cells) ++ vs ++ cs.drop (i * T.cells + T.cells)) (f1 ++ fy ++ f3)
  | [], _, _, i, x, hi, _ => by simp at hi
  | z :: xs, cs, fp, 0, x, hi, ⟨c1, c2, g1, g2, hc, hf, h1, h2⟩ => by
    simp at hi; subst hi hc hf
    have hl := h1.length
    have e1 : (c1 ++ c2).take T.cells = c1 := by rw [← hl, List.take_left]
    have e2 : (c1 ++ c2).drop T.cells = c2 := by rw [← hl, List.drop_left]
    refine ⟨[], g1, g2, by simp, ?_, ?_, fun w' y vs fy hm hy => ?_⟩
    · rw [Nat.zero_mul, List.drop_zero, e1]; exact h1
    · rw [Nat.zero_mul, Nat.zero_add, List.take_zero, List.drop_zero, e1, e2, List.nil_append]
    · rw [Nat.zero_mul, Nat.zero_add, List.take_zero, List.nil_append, e2]
      exact ⟨vs, c2, fy, g2, rfl, rfl, hy, h2.mono fun _ _ _ hs h => h.mono fun b hb => hm b (by simpa using hs b hb)⟩
  | z :: xs, cs, fp, i + 1, x, hi, ⟨c1, c2, g1, g2, hc, hf, h1, h2⟩ => by
    subst hc hf
    have hl := h1.length
    obtain ⟨f1, f2, f3, he, ho, hcs, hall⟩ := OwnL.split i x (by simpa using hi) h2
    have e0 : (i + 1) * T.cells = c1.length + i * T.cells := by rw [Nat.succ_mul, hl]; omega
    have e1 : (c1 ++ c2).take ((i + 1) * T.cells) = c1 ++ c2.take (i * T.cells) := by rw [e0, List.take_append, List.take_of_length_le (by omega), Nat.add_sub_cancel_left]
    have e2 : (c1 ++ c2).drop ((i + 1) * T.cells) = c2.drop (i * T.cells) := by rw [e0, List.drop_append, List.drop_of_length_le (by omega), Nat.add_sub_cancel_left, List.nil_append]
    have e3 : (c1 ++ c2).drop ((i + 1) * T.cells + T.cells) = c2.drop (i * T.cells + T.cells) := by
      rw [e0, show c1.length + i * T.cells + T.cells = c1.length + (i * T.cells + T.cells) by omega, List.drop_append, List.drop_of_length_le (by omega), Nat.add_sub_cancel_left, List.nil_append]
    refine ⟨g1 ++ f1, f2, f3, by simp [he], ?_, ?_, fun w' y vs fy hm hy => ?_⟩
    · rw [e2]; exact ho
    · rw [e1, e2, e3, List.append_assoc, List.append_assoc, ← List.append_assoc (c2.take _), hcs]
    · rw [e1, e3]
      exact ⟨c1, c2.take (i * T.cells) ++ vs ++ c2.drop (i * T.cells + T.cells), g1, f1 ++ fy ++ f3, by simp, by simp, h1.mono fun b hb => hm b (by simp [hb]), hall w' y vs fy (fun b hb => hm b (by
        rcases List.mem_append.1 hb with hb | hb <;> simp [hb])) hy⟩
/-- One cell of data: what is there, and the data with another there. -/
theorem Own.leaf {w : World} {T t : Ty} {x : t.D} {cs : List Value} {fp : List Nat} {y : T.D} (h1 : T.cells = 1) (ho : Own w t x cs fp) (h : castD t T x = some y) (hs : ∀ z x', setS t 0 T z x = some x' → castD T t z = some x') :
    ∃ v0 f1 f2 f3, cs[0]? = some v0 ∧ fp = f1 ++ f2 ++ f3 ∧ Own w T y [v0] f2 ∧ ∀ (w' : World) (z : T.D) (v : Value) (fz : List Nat) (x' : t.D), (∀ b ∈ f1 ++ f3, w'.heap[b]? = w.heap[b]?) → Own w' T z [v] fz → setS t 0 T z x = some x' → Own w' t x' (cs.set 0 v) (f1 ++ fz ++ f3) := by
  obtain ⟨he, hy⟩ := castD_eq h
  subst he
  subst hy
  have hl := ho.length
  rw [h1] at hl
  obtain ⟨v0, rfl⟩ := List.length_eq_one_iff.1 hl
  refine ⟨v0, [], fp, [], rfl, by simp, ho, fun w' z v fz x' hm hz hs' => ?_⟩
  obtain ⟨he, hy⟩ := castD_eq (hs z x' hs')
  subst hy
  simpa using hz
theorem Own.fld {w : World} {T : Ty} (h1 : T.cells = 1) : ∀ {t : Ty} {x : t.D} {cs : List Value} {fp : List Nat} {o : Nat} {y : T.D}, Own w t x cs fp → getS t o T x = some y →
    ∃ v0 f1 f2 f3, cs[o]? = some v0 ∧ fp = f1 ++ f2 ++ f3 ∧ Own w T y [v0] f2 ∧ ∀ (w' : World) (z : T.D) (v : Value) (fz : List Nat) (x' : t.D), (∀ b ∈ f1 ++ f3, w'.heap[b]? = w.heap[b]?) → Own w' T z [v] fz → setS t o T z x = some x' → Own w' t x' (cs.set o v) (f1 ++ fz ++ f3)
  | .pair a b, x, cs, fp, o, y, ⟨c1, c2, g1, g2, hc, hf, ha, hb⟩, h => by
    subst hc hf
    have hl := ha.length
    rw [getS] at h
    by_cases ho : o < a.cells
    · rw [if_pos ho] at h
      obtain ⟨v0, f1, f2, f3, e1, e2, e3, e4⟩ := Own.fld h1 ha h
      refine ⟨v0, f1, f2, f3 ++ g2, ?_, by rw [e2]; simp, e3, fun w' z v fz x' hm hz hs => ?_⟩
      · rw [List.getElem?_append_left (by omega)]; exact e1
      · rw [setS, if_pos ho] at hs
        cases hq : setS a o T z x.1 with
        | none => rw [hq] at hs; cases hs
        | some q =>
          rw [hq] at hs
          simp only [Option.map_some, Option.some.injEq] at hs
          subst hs
          refine ⟨c1.set o v, c2, f1 ++ fz ++ f3, g2, ?_, by simp, e4 w' z v fz q (fun b hb => hm b (by
            rcases List.mem_append.1 hb with hb | hb <;> simp [hb])) hz hq, hb.mono fun b hb => hm b (by simp [hb])⟩
          rw [List.set_append_left _ _ (by omega)]
    · rw [if_neg ho] at h
      obtain ⟨v0, f1, f2, f3, e1, e2, e3, e4⟩ := Own.fld h1 hb h
      refine ⟨v0, g1 ++ f1, f2, f3, ?_, by rw [e2]; simp, e3, fun w' z v fz x' hm hz hs => ?_⟩
      · rw [List.getElem?_append_right (by omega), hl]; exact e1
      · rw [setS, if_neg ho] at hs
        cases hq : setS b (o - a.cells) T z x.2 with
        | none => rw [hq] at hs; cases hs
        | some q =>
          rw [hq] at hs
          simp only [Option.map_some, Option.some.injEq] at hs
          subst hs
          refine ⟨c1, c2.set (o - a.cells) v, g1, f1 ++ fz ++ f3, ?_, by simp, ha.mono fun b hb => hm b (by simp [hb]), e4 w' z v fz q (fun b hb => hm b (by
            rcases List.mem_append.1 hb with hb | hb <;> simp [hb])) hz hq⟩
          rw [List.set_append_right _ _ (by omega), hl]
  | .int k, x, cs, fp, 0, y, ho, h => Own.leaf h1 ho h fun _ _ h => h
  | .bool, x, cs, fp, 0, y, ho, h => Own.leaf h1 ho h fun _ _ h => h
  | .str, x, cs, fp, 0, y, ho, h => Own.leaf h1 ho h fun _ _ h => h
  | .sl e t, x, cs, fp, 0, y, ho, h => Own.leaf h1 ho h fun _ _ h => h
  | .unit, x, cs, fp, 0, y, ho, h => Own.leaf h1 ho h fun _ _ h => h
  | .int k, x, cs, fp, o + 1, y, ho, h => by cases (show none = some y from h)
  | .bool, x, cs, fp, o + 1, y, ho, h => by cases (show none = some y from h)
  | .str, x, cs, fp, o + 1, y, ho, h => by cases (show none = some y from h)
  | .sl e t, x, cs, fp, o + 1, y, ho, h => by cases (show none = some y from h)
  | .unit, x, cs, fp, o + 1, y, ho, h => by cases (show none = some y from h)
theorem set_mid {α : Type} {l : List α} {p C o : Nat} {v : α} (ho : o < C) (hp : p + C ≤ l.length) : l.take p ++ ((l.drop p).take C).set o v ++ l.drop (p + C) = l.set (p + o) v := by
  have h : l.take p ++ ((l.drop p).take C ++ l.drop (p + C)) = l := by
    rw [← List.drop_drop, List.take_append_drop, List.take_append_drop]
  conv => rhs; rw [← h]
  rw [List.append_assoc, List.set_append_right _ _ (by simp; omega), List.set_append_left _ _ (by simp; omega)]
  congr 3
  simp; omega
theorem set_cut {α : Type} {l : List α} {p : Nat} {v : α} (h : p < l.length) : l.take p ++ [v] ++ l.drop (p + 1) = l.set p v := by
  rw [List.set_eq_take_append_cons_drop, if_pos h]; simp
theorem storeF_ok {tt : TT} {t : TypeId} {kv : IntKind} {by_ : Nat} (hT : TFit P tt t (.int kv) by_) (h : RelW cx A a w m) {k n c : Nat} {ad : Addr} {i : Int} {o : Nat} {e : TypeId} {t' : Ty} {xs : List t'.D} {y y0 : Int} {z : t'.D} (hk : get A.hp k = some (.arr e t' xs)) (hμ : m.μ k = .slice (some ad) n c) (h0 : 0 ≤ i) (h1 : i < n) (hvr : inR kv y)
    (hg : getS t' o (.int kv) (rdD t' xs i) = some y0) (hz : setS t' o (.int kv) y (rdD t' xs i) = some z) :
    ∃ w', (Instr.storeAt t (.pointer (some ((ad.add (i.toNat * t'.cells)).add o))) (.int kv y)).run P w = .ok () w' ∧ Rel cx ⟨A.fr, ins A.hp k (.arr e t' (xs.set i.toNat z))⟩ a w' := by
  have hlk : live A k := by simp [live, hk]
  obtain ⟨vs, hh, hxs⟩ := h.hp k _ hk
  rcases hh with ⟨a', hh, hn0, _⟩ | ⟨g, cap, cur, hh, hgc, hnc, hcm, hn47, hcs, hvs, hout⟩
  · rw [hμ] at hh; simp at hh; omega
  · rw [hμ] at hh
    simp at hh
    obtain ⟨rfl, rfl, rfl⟩ := hh
    have hi : i.toNat < xs.length := by omega
    obtain ⟨f1, f2, f3, hfp, hrow, hvs3, hall⟩ := OwnL.split i.toNat _ (getD_some (d := t'.zero) hi) hxs
    obtain ⟨v0, g1, g2, g3, hc0, hf2, ho0, hfld⟩ := Own.fld (T := .int kv) rfl hrow hg
    have hg2 : g2 = [] := ho0.2.2
    have hrl := hrow.length
    have ho : o < t'.cells := by rw [← hrl]; exact (List.getElem?_eq_some_iff.1 hc0).1
    have hmul : i.toNat * t'.cells + t'.cells ≤ xs.length * t'.cells := by rw [← Nat.succ_mul]; exact Nat.mul_le_mul_right _ (by omega)
    have hcap : xs.length * t'.cells ≤ cur.size := by rw [hcs]; exact Nat.mul_le_mul_right _ hnc
    have hinn : f1 ++ (g1 ++ [] ++ g3) ++ f3 = m.inn k := by rw [hfp, hf2, hg2]
    have hr := run_storeVar' hT w g (i.toNat * t'.cells + o) cur e hgc (.int kv y) [Value.int kv y] rfl rfl (by intro u hu; rw [List.mem_singleton] at hu; subst hu; rfl) (by show _ + 1 ≤ _; omega)
    obtain ⟨W, hW⟩ : ∃ W, W = w.setRow g (cur.toList.take (i.toNat * t'.cells + o) ++ [Value.int kv y] ++ cur.toList.drop (i.toNat * t'.cells + o + 1)).toArray := ⟨_, rfl⟩
    refine ⟨W, by rw [add_plain', add_plain', Nat.zero_add, hW]; exact hr, ?_⟩
    have hWh : W.heap[g]? = some (.cells (cur.toList.take (i.toNat * t'.cells + o) ++ [Value.int kv y] ++ cur.toList.drop (i.toNat * t'.cells + o + 1)).toArray e (0, 0)) := by rw [hW]; exact setRow_heap w g cur _ e _ hgc
    have hWs : w.heap.size ≤ W.heap.size := by rw [hW]; simp
    have hW1 : W.os = w.os := by rw [hW]; rfl
    have hW2 : W.tape = w.tape := by rw [hW]; rfl
    have hW3 : W.output = w.output := by rw [hW]; rfl
    have hout' : ∀ b, b ≠ g → W.heap[b]? = w.heap[b]? := fun b hbg => by rw [hW]; exact setRow_other w g b _ hbg
    have hgF : ∀ b ∈ m.inn k, b ≠ g := fun b hb e => by
      subst e
      have := h.nd k hlk
      unfold Mp.F at this
      rw [hout] at this
      exact (List.nodup_append.1 this).2.2 b (by simp) b hb rfl
    clear hW
    have hnew := hall W z _ (g1 ++ [] ++ g3) (fun b hb => hout' b (hgF b (by rw [← hinn]; simp only [List.mem_append] at hb ⊢; rcases hb with hb | hb <;> simp [hb]))) (hfld W y (.int kv y) [] z (fun b hb => hout' b (hgF b (by rw [← hinn]; simp only [List.mem_append] at hb ⊢; rcases hb with hb | hb <;> simp [hb]))) ⟨rfl, hvr, rfl⟩ hz)
    rw [hinn] at hnew
    have e3 : (cur.toList.take (i.toNat * t'.cells + o) ++ [Value.int kv y] ++ cur.toList.drop (i.toNat * t'.cells + o + 1)).take (xs.length * t'.cells) = vs.take (i.toNat * t'.cells) ++ ((vs.drop (i.toNat * t'.cells)).take t'.cells).set o (.int kv y) ++ vs.drop (i.toNat * t'.cells + t'.cells) := by
      have hcl : cur.toList.length = cur.size := Array.length_toList
      have hvl : vs.length = xs.length * t'.cells := by rw [hvs, List.length_take]; omega
      have hpl : i.toNat * t'.cells + o < cur.toList.length := by
        have : cur.toList.length = cur.size := Array.length_toList
        omega
      rw [set_cut hpl, List.take_set, ← hvs, set_mid ho (by omega)]
    refine h.redo (w' := W) hlk (Sub.refl _) (by simp [hk]) hWs hW1 hW2 hW3 (fun b _ => by
      by_cases hbg : b = g
      · right; rw [hout, hbg]; simp
      · exact .inl (hout' b hbg)) (.arr e t' (xs.set i.toNat z)) (m.inn k) ⟨_, .inr ⟨g, _, _, by simpa using hμ, hWh, by simpa using hnc, hcm, by simpa using hn47, ?_, rfl, hout⟩, ?_⟩ (h.nd k hlk) (fun b hb => ⟨k, hlk, by rw [get_del, if_pos rfl], List.mem_append.2 (.inr hb)⟩)
    · simp only [List.size_toArray, List.length_append, List.length_take, List.length_drop, Array.length_toList, List.length_cons, List.length_nil]
      rw [← hcs]; omega
    · rw [List.length_set, e3]
      exact hnew
theorem storeA_ok {tt : TT} {t : TypeId} {T : Ty} {by_ : Nat} (hT : TFit P tt t T by_) (h : RelW cx A a w m) (hx : X0 m) {c : AC} {vc : Value} (hc : VC w (R0of A m) (R1of A m) m.μ c vc) {v : A1} {vv : Value} (hv : V1 w (R0of A m) (R1of A m) m.μ v vv) {A' : AS} (hs : storeA A T c v = some A') :
    ∃ w', (Instr.storeAt t vc vv).run P w = .ok () w' ∧ Rel cx A' a w' := by
  unfold storeA at hs
  split at hs
  · rename_i k off
    obtain ⟨g, hμ, rfl⟩ := hc
    split at hs
    · rename_i cs hk
      split at hs
      · rename_i hlen
        simp at hs; subst hs
        have hlk : live A k := by simp [live, hk]
        obtain ⟨hwo, h1⟩ := ws_ok hv hlen.2 hT.pos
        obtain ⟨g', c, T', hg, hb, ha, hout, hinn⟩ := h.hp k _ hk
        rw [hμ] at hg; simp at hg; subst hg
        have hcl := ha.length
        simp at hcl
        have hwl : vv.cells.toList.length = T.cells := by rw [hwo.length, hlen.2]
        have hr := run_storeVar' hT w g off c T' hb vv _ rfl hwl h1 (by omega)
        refine ⟨_, hr, ?_⟩
        have hu : ∀ b, b < w.heap.size → (w.setRow g (c.toList.take off ++ vv.cells.toList ++ c.toList.drop (off + T.cells)).toArray).heap[b]? = w.heap[b]? ∨ b ∈ m.out k := fun b _ => by
          by_cases hbg : b = g
          · right; rw [hout, hbg]; simp
          · exact .inl (setRow_other w g b _ hbg)
        refine h.redo (w' := w.setRow g (c.toList.take off ++ vv.cells.toList ++ c.toList.drop (off + T.cells)).toArray) hlk (Sub.refl _) (by simp [hk]) (by simp) rfl rfl rfl hu (.box (setAt cs off v.ws)) [] ⟨g, _, T', hμ, setRow_heap w g c _ T' _ hb, ?_, hout, rfl⟩ (by rw [hout]; simp) (by simp)
        have hm0 : ∀ b, R0of A m b → b < w.heap.size → (w.setRow g (c.toList.take off ++ vv.cells.toList ++ c.toList.drop (off + T.cells)).toArray).heap[b]? = w.heap[b]? ∧ R0of ⟨A.fr, del A.hp k⟩ { m with x0 := fun b => b ∈ m.out k ++ [] ∨ ¬ cx.rp b, x1 := fun b => b ∈ m.out k } b := fun b hR hl =>
          ⟨(hu b hl).resolve_right fun hm => hR.2 k hlk (List.mem_append.2 (.inl hm)), fun hm => hm.elim (fun hm => hR.2 k hlk (by simpa [Mp.F, hinn] using hm)) fun hm => hR.1 (h.rp b hm), fun j hj => hR.2 j (live_sub (Sub.del _ _) hj)⟩
        have hm1 : ∀ b, R1of A m b → b < w.heap.size → (w.setRow g (c.toList.take off ++ vv.cells.toList ++ c.toList.drop (off + T.cells)).toArray).heap[b]? = w.heap[b]? ∧ R1of ⟨A.fr, del A.hp k⟩ { m with x0 := fun b => b ∈ m.out k ++ [] ∨ ¬ cx.rp b, x1 := fun b => b ∈ m.out k } b := fun b hR hl =>
          ⟨(hu b hl).resolve_right fun hm => hR.2 k hlk hm, fun hm => hR.2 k hlk hm, fun j hj => hR.2 j (live_sub (Sub.del _ _) hj)⟩
        have hfin := All2.setAt off ha hwo
        rw [hwl] at hfin
        simpa using hfin.mono fun x _ u hu => hu.mono hm0 (fun _ => hm1) fun _ _ => rfl
      · cases hs
    · cases hs
  · rename_i k sz i
    obtain ⟨ad, n, c, hμ, h0, h1, rfl⟩ := hc
    split at hs
    · rename_i y hp1 htk
      have hnb : v ≠ .one .bad := by rintro rfl; exact takeC_bad A.hp T hT.pos htk
      obtain ⟨v1, v2, fy, hv12, ho, hr2, hs1, hny, hgy⟩ := takeC_ok h T A.hp v.cs _ y [] hp1 (Sub.refl _) (cs_ok hv hnb) htk
      have hv2 : v2 = [] := hr2
      subst hv2
      rw [List.append_nil] at hv12
      rw [← hv12] at ho
      split at hs
      · rename_i e t' xs hk
        split at hs
        · rename_i hsz
          subst hsz
          cases hcy : castD T t' y with
          | none => rw [hcy] at hs; cases hs
          | some y' =>
            rw [hcy] at hs
            simp at hs; subst hs
            obtain ⟨he, hy⟩ := castD_eq hcy
            subst he
            subst hy
            have hkA := hs1 k _ hk
            have hlk : live A k := by simp [live, hkA]
            obtain ⟨vs, hh, hxs⟩ := h.hp k _ hkA
            rcases hh with ⟨a', hh, hn0, _⟩ | ⟨g, cap, cur, hh, hgc, hnc, hcm, hn47, hcs, hvs, hout⟩
            · rw [hμ] at hh; simp at hh; omega
            · rw [hμ] at hh
              simp at hh
              obtain ⟨rfl, rfl, rfl⟩ := hh
              have hi : i.toNat < xs.length := by omega
              have hfit : i.toNat * T.cells + T.cells ≤ cur.size := by
                rw [hcs, ← Nat.succ_mul]
                exact Nat.mul_le_mul_right _ (by omega)
              have hlen := ho.length
              have hr := run_storeVar' hT w g (i.toNat * T.cells) cur e hgc vv _ rfl hlen ho.one hfit
              refine ⟨_, by rw [add_plain', Nat.zero_add]; exact hr, ?_⟩
              have hout' : ∀ b, b ≠ g → (w.setRow g (cur.toList.take (i.toNat * T.cells) ++ vv.cells.toList ++ cur.toList.drop (i.toNat * T.cells + T.cells)).toArray).heap[b]? = w.heap[b]? := fun b hbg => setRow_other w g b _ hbg
              have hgF : ∀ b ∈ m.inn k, b ≠ g := fun b hb e => by
                subst e
                have := h.nd k hlk
                unfold Mp.F at this
                rw [hout] at this
                exact (List.nodup_append.1 this).2.2 b (by simp) b hb rfl
              have hyG : ∀ b ∈ fy, b ∉ m.F k := fun b hb => (hgy b hb).not h (Sub.refl _) (by simp [hk]) hs1
              have hyg : ∀ b ∈ fy, b ≠ g := fun b hb e => hyG b hb (by unfold Mp.F; rw [hout, e]; simp)
              obtain ⟨f1, f2, f3, hinn, hset⟩ := hxs.set (w' := w.setRow g (cur.toList.take (i.toNat * T.cells) ++ vv.cells.toList ++ cur.toList.drop (i.toNat * T.cells + T.cells)).toArray) i.toNat y' _ fy hi (ho.mono fun b hb => hout' b (hyg b hb)) fun b hb => hout' b (hgF b hb)
              refine h.redo (w' := w.setRow g (cur.toList.take (i.toNat * T.cells) ++ vv.cells.toList ++ cur.toList.drop (i.toNat * T.cells + T.cells)).toArray) hlk hs1 (by simp [hk]) (by simp) rfl rfl rfl (fun b _ => by
                by_cases hbg : b = g
                · right; rw [hout, hbg]; simp
                · exact .inl (hout' b hbg)) (.arr e T (xs.set i.toNat y')) (f1 ++ fy ++ f3) ⟨_, .inr ⟨g, _, _, by simpa using hμ, setRow_heap w g cur _ e _ hgc, by simpa using hnc, hcm, by simpa using hn47, ?_, rfl, hout⟩, ?_⟩ ?_ ?_
              · simp only [List.size_toArray, List.length_append, List.length_take, List.length_drop, Array.length_toList, hlen]
                rw [← hcs]; omega
              · rw [List.length_set]
                have e2 : i.toNat * T.cells + T.cells ≤ xs.length * T.cells := by rw [← Nat.succ_mul]; exact Nat.mul_le_mul_right _ (by omega)
                rw [hvs] at hset
                have e3 : (cur.toList.take (i.toNat * T.cells) ++ vv.cells.toList ++ cur.toList.drop (i.toNat * T.cells + T.cells)).take (xs.length * T.cells) = (cur.toList.take (xs.length * T.cells)).take (i.toNat * T.cells) ++ vv.cells.toList ++ (cur.toList.take (xs.length * T.cells)).drop (i.toNat * T.cells + T.cells) := by
                  rw [List.take_append, List.take_of_length_le (by simp [hlen]; omega), List.take_take, Nat.min_eq_left (by omega), List.drop_take]
                  congr 2
                  simp [hlen]
                  omega
                rw [e3]
                exact hset
              · have hnk := h.nd k hlk
                unfold Mp.F at hnk
                rw [hinn] at hnk
                have hn1 := List.nodup_append.1 hnk
                have hn2 := List.nodup_append.1 hn1.2.1
                have hn3 := List.nodup_append.1 hn2.1
                have hFk : ∀ b, b ∈ m.out k ∨ b ∈ f1 ∨ b ∈ f3 → b ∈ m.F k := fun b hb => by
                  unfold Mp.F; rw [hinn]; simp only [List.mem_append]
                  rcases hb with h | h | h
                  · exact .inl h
                  · exact .inr (.inl (.inl h))
                  · exact .inr (.inr h)
                refine List.nodup_append.2 ⟨hn1.1, List.nodup_append.2 ⟨List.nodup_append.2 ⟨hn3.1, hny, fun b hb d hd e => by subst e; exact hyG b hd (hFk b (.inr (.inl hb)))⟩, hn2.2.1, fun b hb d hd e => ?_⟩, fun b hb d hd e => ?_⟩
                · subst e
                  rcases List.mem_append.1 hb with hb | hb
                  · exact hn2.2.2 b (List.mem_append.2 (.inl hb)) b hd rfl
                  · exact hyG b hb (hFk b (.inr (.inr hd)))
                · subst e
                  simp only [List.mem_append] at hd
                  rcases hd with (hd | hd) | hd
                  · exact hn1.2.2 b hb b (by simp [hd]) rfl
                  · exact hyG b hd (hFk b (.inl hb))
                  · exact hn1.2.2 b hb b (by simp [hd]) rfl
              · intro b hb
                simp only [List.mem_append] at hb
                have hgk : ∀ b, b ∈ m.inn k → Gone m A.hp (del hp1 k) b := fun b hb => ⟨k, hlk, by rw [get_del, if_pos rfl], List.mem_append.2 (.inr hb)⟩
                rcases hb with (hb | hb) | hb
                · exact hgk b (by rw [hinn]; simp [hb])
                · exact (hgy b hb).left (Sub.del _ _)
                · exact hgk b (by rw [hinn]; simp [hb])
        · cases hs
      · cases hs
    · cases hs
  · rename_i k sz i o
    obtain ⟨ad, n, c, hμ, h0, h1, rfl⟩ := hc
    split at hs
    · rename_i pz kv y kk
      split at hs
      · rename_i e t' xs hk
        split at hs
        · rename_i hcond
          obtain ⟨rfl, rfl⟩ := hcond
          split at hs
          · rename_i y0 z hg hz
            simp at hs; subst hs
            obtain ⟨hvv, hvr⟩ := VC.int (μ := m.μ) hv
            subst hvv
            exact storeF_ok hT h hk hμ h0 h1 hvr hg hz
          · cases hs
        · cases hs
      · cases hs
    · cases hs
  · cases hs

/-! ### Bytes as a string -/
theorem RoL.bytes {R : Nat → Prop} {w : World} : ∀ {xs : List Int} {vs : List Value}, RoL (Ro R w (.int .u8)) xs vs → vs = xs.map (Value.int .u8) ∧ ∀ x ∈ xs, inR .u8 x
  | [], vs, h => ⟨h, by simp⟩
  | x :: xs, vs, ⟨c1, c2, hc, h1, h2⟩ => by
    obtain ⟨h3, h4⟩ := RoL.bytes h2
    obtain ⟨h5, h6⟩ := h1
    subst h5 h3
    exact ⟨by simp [hc], by simpa using ⟨h6, h4⟩⟩
theorem bytesOf_strOfNums : ∀ {xs : List Int}, (∀ x ∈ xs, inR .u8 x) → bytesOf (strOfNums xs) = xs := by
  intro xs h
  unfold bytesOf
  rw [strOfNums_data, List.map_map]
  conv => rhs; rw [← List.map_id xs]
  apply List.map_congr_left
  intro x hx
  have := h x hx
  simp only [inR, IntKind.min, IntKind.max, IntKind.signed, IntKind.bits] at this
  simp at this
  simp
  omega
theorem str_mk {w : World} {R0 R1 : Nat → Prop} {μ : Nat → Value} {xs : List Int} (h : ∀ x ∈ xs, inR .u8 x) (hl : xs.length ≤ big47) : VC w R0 R1 μ (.d true .str xs) (.string (strOfNums xs)) :=
  ⟨rfl, strOfNums xs, rfl, (bytesOf_strOfNums h).symm, by rw [strOfNums_size]; exact hl⟩
theorem run_bytes_string {src dst e : TypeId} (hs : P.underlying src = some (.slice e)) (he : P.underlying e = some (.int .u8)) (hd : P.underlying dst = some .string) {xs : List Int} {v : Value} (w : World)
    (h : Ro (fun _ => True) w (.sl e (.int .u8)) xs [v]) : (convert src dst v).run P w = .ok (.string (strOfNums xs)) w ∧ (∀ x ∈ xs, inR .u8 x) ∧ xs.length ≤ big47 := by
  obtain ⟨ad, cap, vs, hv, _, _, hl, hat, hr⟩ := h
  simp at hv; subst hv
  obtain ⟨rfl, hrg⟩ := hr.bytes
  refine ⟨?_, hrg, hl⟩
  cases ad with
  | none =>
    have hx : xs = [] := by
      rcases hat with h | ⟨_, h, _⟩
      · simpa using h
      · cases h
    subst hx
    rw [run_convert_bytes_nil w src e hs he _ _ dst hd]
    rfl
  | some ad =>
    have hl : (loadCells ad xs.length).run P w = .ok (xs.map (Value.int .u8)).toArray w := by
      rcases hat with h | ⟨ad', h, _, hc⟩
      · have hx : xs = [] := by simpa using h
        subst hx; rfl
      · cases h
        have := run_loadCells_list (P := P) w ad (xs.map (Value.int .u8)) hc
        simpa using this
    rw [run_convert_bytes_string w src dst e _ _ cap hs he hd, run_bytesToString w _ _ cap xs hl, foldl_push_bytes]
    simp [strOfNums, ByteArray.empty, ByteArray.emptyWithCapacity]
    rfl
theorem ascii_enc (n : Int) (h0 : 0 ≤ n) (h1 : n < 128) : Utf8.encode n = strOfNums [n] ∧ inR .u8 n := by
  have hv : Utf8.valid n = true := by
    unfold Utf8.valid
    simp; omega
  have hlt : n.toNat < 128 := by omega
  refine ⟨by simp [Utf8.encode, hv, hlt, strOfNums], ?_⟩
  simp [inR, IntKind.min, IntKind.max, IntKind.signed, IntKind.bits]
  omega
theorem convA_ok {R : Type} {E : Env} (hE : EnvOk P E) {d : Nat} (hd : d < a.tmps.size) (h : RelW cx A a w m) (hx : X0 m) {src dst : TypeId} {c : AC} {vc : Value} (hc : VC w (R0of A m) (R1of A m) m.μ c vc) {K : AS → Option R} {r : R} (hk : convA E A d src dst c K = some r) :
    ∃ A' v w', (convert src dst vc).run P w = .ok v w' ∧ K A' = some r ∧ Rel cx A' (a.put (some d) v) w' := by
  unfold convA at hk
  split at hk
  · rename_i k0 k p k' n hsrc hdst
    obtain ⟨_, hTs⟩ := hE.fit hsrc
    obtain ⟨_, hTd⟩ := hE.fit hdst
    obtain ⟨rfl, _⟩ := hc.int
    refine ⟨_, .int k (k.wrap n), w, ?_, hk, _, h.put d hd (.v (.one (.d true (.int k) (k.wrap n)))) _ (VC.mkInt w (R0of A m) (R1of A m) m.μ true (inR_wrap _ _))⟩
    simp [convert, run_underlying (show P.underlying src = _ from hTs.und), run_underlying (show P.underlying dst = _ from hTd.und), Conv.intToInt]
  · rename_i k0 p k' n hsrc hdst
    obtain ⟨_, hTs⟩ := hE.fit hsrc
    obtain ⟨_, hTd⟩ := hE.fit hdst
    obtain ⟨rfl, _⟩ := hc.int
    obtain ⟨h0, h1, hk⟩ := ck2 hk
    obtain ⟨he, hr⟩ := ascii_enc n (of_decide_eq_true h0) (of_decide_eq_true h1)
    refine ⟨_, .string (Utf8.encode n), w, ?_, hk, _, h.put d hd (.v (.one (.d true .str [n]))) _ ?_⟩
    · simp [convert, run_underlying (show P.underlying src = _ from hTs.und), run_underlying (show P.underlying dst = _ from hTd.und), Conv.intToString]
    · rw [he]
      exact str_mk (μ := m.μ) (by intro x hx; simp at hx; rw [hx]; exact hr) (by simp [big47])
  · rename_i e _ hsrc hdst
    obtain ⟨_, hTs⟩ := hE.fit hsrc
    obtain ⟨_, hTd⟩ := hE.fit hdst
    obtain ⟨hs, b', he⟩ := hTs.und
    split at hk
    · rename_i xs hrd
      obtain ⟨v1, v2, hv12, hro, hr2, _⟩ := readC_ok h (fun _ => True) _ A.hp _ [vc] xs [] (Sub.refl _) (show All2 _ [_] [vc] from ⟨vc, [], rfl, hc, rfl⟩) ⟨fun _ _ => trivial, fun _ _ _ => trivial, fun _ _ _ _ _ => trivial⟩ hrd
      have hv2 : v2 = [] := hr2
      subst hv2
      rw [List.append_nil] at hv12
      subst hv12
      obtain ⟨h1, h2, h3⟩ := run_bytes_string hs (hE.ty _ _ _ he).und hTd.und w hro
      exact ⟨_, _, w, h1, hk, _, h.put d hd (.v (.one (.d true .str xs))) _ (str_mk (μ := m.μ) h2 h3)⟩
    · cases hk
  · rename_i e e2 t2 k hsrc hdst
    obtain ⟨_, hTs⟩ := hE.fit hsrc
    obtain ⟨hs, b', he⟩ := hTs.und
    have he' := (hE.ty _ _ _ he).und
    split at hk
    · rename_i e' t' xs hkk
      split at hk
      · rename_i hsd
        subst hsd
        cases hcd : castD (.sl e' t') (.sl e (.int .u8)) xs with
        | none => rw [hcd] at hk; cases hk
        | some y =>
          rw [hcd] at hk
          simp only [Option.bind_some] at hk
          obtain ⟨hee, hy⟩ := castD_eq hcd
          cases hee
          subst hy
          obtain ⟨rfl, _⟩ := hc
          obtain ⟨vs, hh, ho⟩ := h.hp k _ hkk
          obtain ⟨hpos, hk⟩ := ck_some hk
          have hpos := of_decide_eq_true hpos
          have hro := (own_tok h (Sub.refl _) hkk).ro (R := fun b => b ∈ m.F k) fun _ hb => hb
          rcases hh with ⟨a', _, hn0, _⟩ | ⟨g, cap, cur, hv, hgc, hnc, hcm, hn47, hcs, hvs, hout⟩
          · omega
          · have hgl := heap_lt hgc
            have hfz : (w.freeze ⟨g, cur.size, none⟩ 1).heap[g]? = some (.cells cur e (cur.size, cur.size + 1)) := by
              have hv : w.heap[g] = .cells cur e (0, 0) := (Array.getElem?_eq_some_iff.1 hgc).2
              unfold World.freeze
              rw [if_neg (by decide)]
              simp only
              rw [Array.getElem?_eq_getElem (by simpa using hgl), Array.getElem_modify]
              simp [hv]
            have hfo : ∀ b, b ≠ g → (w.freeze ⟨g, cur.size, none⟩ 1).heap[b]? = w.heap[b]? := fun b hb => by
              unfold World.freeze
              rw [if_neg (by decide)]
              simp [Array.getElem?_modify, Ne.symm hb]
            have hsz : (w.freeze ⟨g, cur.size, none⟩ 1).heap.size = w.heap.size := by
              unfold World.freeze
              rw [if_neg (by decide)]
              simp
            have hcell : ∀ ad : Addr, (w.freeze ⟨g, cur.size, none⟩ 1).cell? ad = w.cell? ad := fun ad => by
              by_cases hb : ad.block = g
              · simp only [World.cell?, hb, hfz, hgc]
              · exact World.cell?_of_block (w := w) (hfo _ hb)
            have h1 := h.free (h' := del A.hp k) (Sub.del _ _) (w' := w.freeze ⟨g, cur.size, none⟩ 1) (by omega) (by unfold World.freeze; split <;> rfl) (by unfold World.freeze; split <;> rfl) (by unfold World.freeze; split <;> rfl) (fun b _ => by
              by_cases hb : b = g
              · exact .inr ⟨k, by simp [live, hkk], by rw [get_del, if_pos rfl], by rw [hout, hb]; simp⟩
              · exact .inl (hfo b hb)) (fun b => ¬ cx.rp b) (fun _ => False) (fun b _ hb => .inl (h.rp b hb)) (fun _ _ h => h.elim) (fun _ h => h)
            rw [hv] at hro ⊢
            obtain ⟨ad, cap', us, hv', h2, h3, h4, hat, hrl⟩ := hro
            simp at hv'
            obtain ⟨rfl, rfl⟩ := hv'
            have hrl' := hrl.bytes
            refine ⟨_, _, w.freeze ⟨g, cur.size, none⟩ 1, ?_, hk, _, h1.put d hd (.v (.one (.d true (.sl e (.int .u8)) y))) (.slice (some ⟨g, 0, none⟩) y.length cap) ⟨rfl, some ⟨g, 0, none⟩, cap, us, rfl, h2, h3, h4, ?_, ?_⟩⟩
            · have he2 : P.underlying e = some (.int .u8) := he'
              simp [convert, run_underlying hs, run_underlying he2, markStringish, shape, World.shape?, hgc, freeze]
              rfl
            · rcases hat with hat | ⟨ad', he2, hR, hc⟩
              · exact .inl hat
              · refine .inr ⟨ad', he2, ⟨fun hrp => hrp (h.rpo _ (h.own k (by simp [live, hkk]) _ hR)), fun j hj hm => ?_⟩, fun j u hj => by rw [hcell]; exact hc j u hj⟩
                have hjk : j ≠ k := by
                  rintro rfl
                  simp [live, get_del] at hj
                exact h.dj j k (live_sub (Sub.del _ _) hj) (by simp [live, hkk]) hjk _ hm hR
            · exact RoL.mono (fun _ _ h => h) hrl
      · cases hk
    · cases hk
  · cases hk

/-! ### clear -/
theorem OwnL.drop {α : Type} {own : α → List Value → List Nat → Prop} {sz : Nat} (hl : ∀ x c f, own x c f → c.length = sz) : ∀ {xs : List α} {cs : List Value} {fp : List Nat} (n : Nat), OwnL own xs cs fp → ∃ f1 f2, fp = f1 ++ f2 ∧ OwnL own (xs.drop n) (cs.drop (n * sz)) f2
  | [], cs, fp, n, h => by
    obtain ⟨h1, h2⟩ : cs = [] ∧ fp = [] := h
    exact ⟨[], [], by simp [h2], by simp [OwnL, h1]⟩
  | x :: xs, cs, fp, 0, h => ⟨[], fp, rfl, by simpa using h⟩
  | x :: xs, cs, fp, n + 1, ⟨c1, c2, f1, f2, hc, hf, h1, h2⟩ => by
    subst hc hf
    obtain ⟨g1, g2, hg, h3⟩ := h2.drop hl n
    subst hg
    refine ⟨f1 ++ g1, g2, by simp, ?_⟩
    have := hl _ _ _ h1
    simp only [List.drop_succ_cons]
    rw [List.drop_append, show c1.drop ((n + 1) * sz) = [] from List.drop_of_length_le (by rw [this, Nat.add_mul]; omega), List.nil_append, this]
    rw [show (n + 1) * sz - sz = n * sz by rw [Nat.add_mul]; omega]
    exact h3
theorem noSl_fp {w : World} : ∀ {t : Ty} {x : t.D} {cs : List Value} {fp : List Nat}, hasSl t = false → Own w t x cs fp → fp = []
  | .int _, _, _, _, _, h => h.2.2
  | .bool, _, _, _, _, h => h.2
  | .str, _, _, _, _, h => h.2
  | .sl _ _, _, _, _, hn, _ => by cases hn
  | .unit, _, _, _, _, h => h.2
  | .pair a b, _, _, _, hn, ⟨c1, c2, f1, f2, h, hf, h1, h2⟩ => by
    simp only [hasSl, Bool.or_eq_false_iff] at hn
    rw [hf, noSl_fp hn.1 h1, noSl_fp hn.2 h2]; rfl
theorem noSl_fpL {w : World} {t : Ty} (hn : hasSl t = false) : ∀ {xs : List t.D} {cs : List Value} {fp : List Nat}, OwnL (Own w t) xs cs fp → fp = []
  | [], _, _, h => h.2
  | x :: xs, _, _, ⟨c1, c2, f1, f2, h, hf, h1, h2⟩ => by rw [hf, noSl_fp hn h1, noSl_fpL hn h2]; rfl
theorem clrA_ok {R : Type} {E : Env} {t e : TypeId} {T : Ty} {by_ : Nat} (ht : P.underlying t = some (.slice e)) (hT : TFit P E.tt e T by_) (h : RelW cx A a w m) (hx : X0 m) {c : AC} {vc : Value} (hc : VC w (R0of A m) (R1of A m) m.μ c vc) {K : AS → Option R} {r : R} (hk : clrA A e T K c = some r) (ty : TypeId) :
    ∃ A' w', (Builtin.clear_ #[t] ty #[vc]).run P w = .ok (.tuple #[]) w' ∧ K A' = some r ∧ Rel cx A' a w' := by
  unfold clrA at hk
  split at hk
  · rename_i k sz lo hi
    split at hk
    · rename_i e' t' xs hkk
      split at hk
      · cases hk
      · rename_i hb
        simp only [Bool.or_eq_true, bne_iff_ne, ne_eq, decide_eq_true_eq, not_or, Decidable.not_not, Bool.not_eq_true] at hb
        obtain ⟨⟨⟨⟨hns, hc1⟩, hsz⟩, rfl⟩, rfl⟩ := hb
        subst hsz
        obtain ⟨ad, n, c, hμ, h0, h1, h2, h3, h3', rfl⟩ := hc
        have hlk : live A k := by simp [live, hkk]
        obtain ⟨vs, hh, hxs⟩ := h.hp k _ hkk
        have hinn := noSl_fpL hns hxs
        have hzc : (shapeV t' (zeroV t')).cells = (zeroV t').toArray := shapeV_cells (zeroV_len _) (zeroV_one _)
        rcases hh with ⟨a', hh, hn0, hvs, hout⟩ | ⟨g, cap, cur, hh, hgc, hnc, hcm, hn47, hcs, hvs, hout⟩
        · rw [hμ] at hh
          simp at hh
          obtain ⟨rfl, rfl, rfl⟩ := hh
          have e1 : lo.toNat = 0 := by omega
          have e2 : hi.toNat = 0 := by omega
          have hx' : xs = [] := List.eq_nil_of_length_eq_zero hn0
          subst hx'
          refine ⟨_, w, ?_, hk, ?_⟩
          · cases ad <;> simp [Builtin.clear_, run_underlying ht, e1, e2]
          · have := h.redo (w' := w) hlk (Sub.refl _) (by simp [hkk]) (Nat.le_refl _) rfl rfl rfl (fun b _ => .inl rfl) (.arr e' t' ([] : List t'.D)) [] ⟨[], .inl ⟨ad, by rw [hμ], rfl, rfl, hout⟩, rfl, rfl⟩ (by rw [hout]; simp) (by simp)
            simpa [e1, e2] using this
        · rw [hμ] at hh
          simp at hh
          obtain ⟨rfl, rfl, rfl⟩ := hh
          rw [hc1, Nat.mul_one] at hcs
          rw [hc1, Nat.mul_one] at hvs
          have hzl : (Builtin.zeroCells (shapeV t' (zeroV t')).cells (hi.toNat - lo.toNat)).toList = (List.replicate (hi.toNat - lo.toNat) (zeroV t')).flatten := by
            have hm := made_toList (zeroV t') (fun e => by have := zeroV_len t'; rw [e] at this; simp at this; omega) (hi.toNat - lo.toNat)
            rw [hzc]
            unfold Builtin.zeroCells madeCells at *
            simpa [zeroV_len] using hm
          have hzl' : ((List.replicate (hi.toNat - lo.toNat) (zeroV t')).flatten).length = hi.toNat - lo.toNat := by
            rw [← hzl]; simp [size_zeroCells, hzc, zeroV_len, hc1]
          have ho1 : ∀ u ∈ (Builtin.zeroCells (shapeV t' (zeroV t')).cells (hi.toNat - lo.toNat)).toList, u.oneCell' = true := by
            rw [hzl]; intro u hu
            obtain ⟨l, hl, hu⟩ := List.mem_flatten.1 hu
            rw [(List.mem_replicate.1 hl).2] at hu
            exact zeroV_one t' u hu
          have hfit : lo.toNat + (hi.toNat - lo.toNat) ≤ cur.size := by omega
          have hst := run_storeCells_at P g lo.toNat e' _ 0 cur w hgc (by rw [hzl, hzl']; omega) ho1
          simp only [Nat.add_zero] at hst
          have haddr : (if c = lo.toNat then some (⟨g, 0, none⟩ : Addr) else Option.map (fun x : Addr => x.add (lo.toNat * 1)) (some ⟨g, 0, none⟩)) = some ⟨g, if c = lo.toNat then 0 else lo.toNat, none⟩ := by
            split <;> simp [add_plain']
          have hown : OwnL (Own w t') (xs.take lo.toNat ++ List.replicate (hi.toNat - lo.toNat) t'.zero ++ xs.drop hi.toNat) (vs.take lo.toNat ++ (List.replicate (hi.toNat - lo.toNat) (zeroV t')).flatten ++ vs.drop hi.toNat) [] := by
            obtain ⟨f1, f2, hf, ho⟩ := hxs.take (fun _ _ _ h => h.length) lo.toNat
            obtain ⟨g1, g2, hg, ho'⟩ := hxs.drop (fun _ _ _ h => h.length) hi.toNat
            rw [hc1, Nat.mul_one] at ho ho'
            rw [noSl_fpL hns ho] at ho
            rw [noSl_fpL hns ho'] at ho'
            exact (ho.app (ownL_zero w t' _)).app ho'
          have hlen : (xs.take lo.toNat ++ List.replicate (hi.toNat - lo.toNat) t'.zero ++ xs.drop hi.toNat).length = xs.length := by simp; omega
          have hinn' : m.inn k = [] := hinn
          by_cases hn : hi.toNat - lo.toNat = 0
          · refine ⟨_, w, ?_, hk, ?_⟩
            · rw [haddr, hn]
              simp [Builtin.clear_, run_underlying ht]
            · refine h.redo (w' := w) hlk (Sub.refl _) (by simp [hkk]) (Nat.le_refl _) rfl rfl rfl (fun b _ => .inl rfl) (.arr e' t' _) [] ⟨_, .inr ⟨g, c, cur, by rw [hlen]; exact hμ, hgc, by rw [hlen]; exact hnc, hcm, by rw [hlen]; exact hn47, by rw [hc1, Nat.mul_one]; exact hcs, ?_, hout⟩, hown⟩ (by rw [hout]; simp) (by simp)
              rw [hlen, hc1, Nat.mul_one, ← hvs, hn]
              have : hi.toNat = lo.toNat := by omega
              rw [this]; simp
          · have hne : ¬ c = lo.toNat := by omega
            refine ⟨_, w.setRow g (cur.toList.take lo.toNat ++ (Builtin.zeroCells (shapeV t' (zeroV t')).cells (hi.toNat - lo.toNat)).toList ++ cur.toList.drop (lo.toNat + (Builtin.zeroCells (shapeV t' (zeroV t')).cells (hi.toNat - lo.toNat)).toList.length)).toArray, ?_, hk, ?_⟩
            · rw [haddr, if_neg hne]
              obtain ⟨q, hq⟩ : ∃ q, hi.toNat - lo.toNat = q + 1 := ⟨hi.toNat - lo.toNat - 1, by omega⟩
              rw [hq] at hst ⊢
              simp [Builtin.clear_, run_underlying ht, hT.zero w, hst]
            · have hout' : ∀ b, b ≠ g → (w.setRow g (cur.toList.take lo.toNat ++ (Builtin.zeroCells (shapeV t' (zeroV t')).cells (hi.toNat - lo.toNat)).toList ++ cur.toList.drop (lo.toNat + (Builtin.zeroCells (shapeV t' (zeroV t')).cells (hi.toNat - lo.toNat)).toList.length)).toArray).heap[b]? = w.heap[b]? := fun b hbg => setRow_other w g b _ hbg
              refine h.redo (w' := w.setRow g _) hlk (Sub.refl _) (by simp [hkk]) (by simp) rfl rfl rfl (fun b _ => by
                by_cases hbg : b = g
                · right; rw [hout, hbg]; simp
                · exact .inl (hout' b hbg)) (.arr e' t' _) [] ⟨_, .inr ⟨g, c, _, by rw [hlen]; exact hμ, setRow_heap w g cur _ e' _ hgc, by rw [hlen]; exact hnc, hcm, by rw [hlen]; exact hn47, ?_, ?_, hout⟩, OwnL.mono (fun x c f hf ho => ho.mono fun b hb => absurd (hf b hb) (by simp)) hown⟩ (by rw [hout]; simp) (by simp)
              · rw [hc1, Nat.mul_one]
                simp only [List.size_toArray, List.length_append, List.length_take, List.length_drop, Array.length_toList, hzl, hzl']
                omega
              · rw [hlen, hc1, Nat.mul_one, hzl, hzl', hvs]
                have e1 : lo.toNat + (hi.toNat - lo.toNat) = hi.toNat := by omega
                have hl1 : (cur.toList.take lo.toNat ++ (List.replicate (hi.toNat - lo.toNat) (zeroV t')).flatten).length = hi.toNat := by
                  rw [List.length_append, hzl']; simp; omega
                have hhi : hi.toNat ≤ xs.length := by omega
                rw [e1, List.take_take, Nat.min_eq_left (by omega), List.drop_take]
                simp only []
                have h8 : (cur.toList.take lo.toNat ++ (List.replicate (hi.toNat - lo.toNat) (zeroV t')).flatten).take xs.length = cur.toList.take lo.toNat ++ (List.replicate (hi.toNat - lo.toNat) (zeroV t')).flatten := List.take_of_length_le (by rw [hl1]; exact hhi)
                rw [List.take_append, hl1, h8]
    · cases hk
  · cases hk
end
end Go.Refl
