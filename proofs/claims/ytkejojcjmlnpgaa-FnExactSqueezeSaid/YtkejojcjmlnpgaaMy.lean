/- Plain lemmas on the machine's words: no condition. -/
import Derived.Test.YtkejojcjmlnpgaaAid
import Derived.Lib.SliceRun
namespace Go.Proofs.Ytkejojcjmlnpgaa.My
open Go.RowKit Go.Proofs.YtkejojcjmlnpgaaW.PrintWords Go.Proofs.YtkejojcjmlnpgaaW.PrintLast Go.Proofs.YtkejojcjmlnpgaaW.PrintMore
theorem none_empty {α : Type} {d : Kd α} {w : World} {n : Nat} {xs : List α} (h : d.C w none n xs) : xs = [] := by
  obtain ⟨h1, _, h3⟩ := h
  by_cases hn : 0 < n
  · obtain ⟨ad, e, _⟩ := h3 hn; cases e
  · exact List.eq_nil_of_length_eq_zero (by omega)
end Go.Proofs.Ytkejojcjmlnpgaa.My
