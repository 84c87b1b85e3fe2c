/- Plain lemmas on the machine's words: no condition. -/
import Derived.Test.YtkejojcjmlnpgaaAid
import Derived.Lib.SliceRun
import Derived.Lib.SlBytesConst
namespace Go.Proofs.Ytkejojcjmlnpgaa.My
open Go.RowKit Go.Proofs.YtkejojcjmlnpgaaW.PrintWords Go.Proofs.YtkejojcjmlnpgaaW.PrintLast Go.Proofs.YtkejojcjmlnpgaaW.PrintMore
theorem none_empty {α : Type} {d : Kd α} {w : World} {n : Nat} {xs : List α} (h : d.C w none n xs) : xs = [] := by
  obtain ⟨h1, _, h3⟩ := h
  by_cases hn : 0 < n
  · obtain ⟨ad, e, _⟩ := h3 hn; cases e
  · exact List.eq_nil_of_length_eq_zero (by omega)
theorem C_clit {W : World} {cells : Array Value} {t : TypeId} {fr : Nat × Nat} (xs : List Int) (hc : cells = (nums .u8 xs).toArray) (hn : xs.length ≤ 9223372036854775807) : Kd.C (Kd.int .u8) (W.alloc (.cells cells t fr)) (some ⟨W.heap.size, 0, none⟩) xs.length xs := by
  refine Kd.C_of_reads (enc := Value.int .u8) (d := (0 : Int)) (h1 := fun _ => rfl) ⟨rfl, hn, fun h => ⟨_, rfl, fun j hj => ?_⟩⟩
  rw [add_plain]
  have hb : (W.alloc (.cells cells t fr)).heap[W.heap.size]? = some (.cells cells t fr) := by
    show (W.heap.push (.cells cells t fr))[W.heap.size]? = _
    simp
  subst hc
  simp only [World.cell?, hb]
  simp [nums, hj]
end Go.Proofs.Ytkejojcjmlnpgaa.My
