/- Plain lemmas on the machine's words: no condition. -/
import Derived.Test.YtfikbjbijpbdkaaAid
import Derived.Lib.SliceRun
import Derived.Lib.SlBytesConst
namespace Go.Proofs.Ytfikbjbijpbdkaa.My
open Go.RowKit Go.Proofs.YtfikbjbijpbdkaaW.PrintWords Go.Proofs.YtfikbjbijpbdkaaW.PrintLast Go.Proofs.YtfikbjbijpbdkaaW.PrintMore
theorem none_empty {α : Type} {d : Kd α} {w : World} {n : Nat} {xs : List α} (h : d.C w none n xs) : xs = [] := by
  obtain ⟨h1, _, h3⟩ := h
  by_cases hn : 0 < n
  · obtain ⟨ad, e, _⟩ := h3 hn; cases e
  · exact List.eq_nil_of_length_eq_zero (by omega)
theorem C_clit {W : World} {cells : Array Value} {t : TypeId} {fr : Nat × Nat} (xs : List Int) (hc : cells = (nums .u8 xs).toArray) (hn : xs.length ≤ 9223372036854775807) : Kd.C (Kd.int .u8) (W.alloc (.cells cells t fr)) (some ⟨W.heap.size, 0, none⟩) xs.length xs := by
  refine Kd.C_of_reads (enc := Value.int .u8) (d := (0 : Int)) (h1 := fun _ => rfl) ⟨rfl, hn, fun h => ⟨_, rfl, fun j hj => ?_⟩⟩
  rw [add_plain]
  have hb : (W.alloc (.cells cells t fr)).heap[W.heap.size]? = some (.cells cells t fr) := by
    show (W.heap.push (.cells cells t fr))[W.heap.size]? = _
    simp
  subst hc
  simp only [World.cell?, hb]
  simp [nums, hj]
abbrev T : Bool := true
abbrev F : Bool := false
theorem s1 {α : Type} {xs : List α} {i : Nat} {a : α} : xs.toArray.setIfInBounds i a = (xs.set i a).toArray := List.setIfInBounds_toArray ..
theorem s2 {α : Type} {x y : α} {xs : List α} : (x :: xs).set 0 y = y :: xs := List.set_cons_zero ..
theorem s3 {α : Type} {x y : α} {n : Nat} {xs : List α} : (x :: xs).set (n + 1) y = x :: xs.set n y := List.set_cons_succ ..
theorem a1 {α : Type} {d : Kd α} {e : TypeId} {w : World} {base : Nat} {ok : Nat → Prop} {v : Value} {xs : List α} (h : d.R e w base ok v xs) (o : Obj) : d.R e (w.alloc o) base ok v xs := Kd.R_alloc h o
theorem a2 {α : Type} {d : Kd α} {e : TypeId} {w : World} {base : Nat} {ok : Nat → Prop} {v : Value} {xs : List α} (h : d.R e w base ok v xs) (m : Nat) : d.R e (w.drewN m) base ok v xs := Kd.R_drewN h m
theorem a3 {α : Type} {d : Kd α} {e : TypeId} {w : World} {base : Nat} {ok : Nat → Prop} {v : Value} {xs : List α} (h : d.R e w base ok v xs) : d.R e w.drew base ok v xs := Kd.R_drew h
abbrev ob (v : Value) : Option Nat := v.ownBlock
end Go.Proofs.Ytfikbjbijpbdkaa.My
