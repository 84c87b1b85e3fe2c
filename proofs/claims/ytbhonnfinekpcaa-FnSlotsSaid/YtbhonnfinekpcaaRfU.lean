/- slices.Grow at whole numbers, off the shelf: as a contract. No condition. -/
import Derived.Test.YtbhonnfinekpcaaRfN
import Derived.Shelf.Spec.SlicesGrow
namespace Go.Refl
open Go.RowKit Go.Proofs Go.Shelf
set_option linter.unusedVariables false
set_option linter.unusedSimpArgs false
def growF (xs : List Int) (n : Int) : Option ((List Int × Unit) × (Unit × Unit × Unit)) := if 0 ≤ n ∧ n ≤ 1099511627776 ∧ xs.length ≤ 1099511627776 then some ((xs, ()), ((), ((), ()))) else none
theorem ownL_ints {w : World} {k : IntKind} : ∀ {xs : List Int} {vs : List Value} {fp : List Nat}, OwnL (Own w (.int k)) xs vs fp → fp = []
  | [], _, _, h => h.2
  | _ :: xs, _, _, ⟨c1, c2, f1, f2, _, hf, h1, h2⟩ => by
    have e1 : f1 = [] := h1.2.2
    have e2 := ownL_ints h2
    rw [hf, e1, e2]; rfl
theorem ownL_w {w w' : World} {k : IntKind} : ∀ {xs : List Int} {vs : List Value} {fp : List Nat}, OwnL (Own w (.int k)) xs vs fp → OwnL (Own w' (.int k)) xs vs fp
  | [], _, _, h => h
  | _ :: xs, _, _, ⟨c1, c2, f1, f2, hc, hf, h1, h2⟩ => ⟨c1, c2, f1, f2, hc, hf, h1, ownL_w h2⟩
theorem grow_sat {P : Program} {ρ : Ren} (L : Lays8.n4 P ρ) {k : IntKind} {tt : TT} {by_ : Nat} (hT : TFit P tt (ρ.t 25) (.int k) by_) (hby : by_ ≤ 8) (hfn : ∃ fn, P.funcs[ρ.f 4]? = some fn ∧ fn.body.isNone = false ∧ (fn.name == "runtime.NumGoroutine") = false) :
    Sat P (ρ.f 4) ⟨[.mv (.sl (ρ.t 25) (.int k)), .ro (.int .i64)], [.own (.sl (ρ.t 25) (.int k))], fun x => growF x.1 x.2.1⟩ := by
  refine ⟨hfn, fun x y hF w vs O Rp hargs hRp hnd hO => ?_⟩
  obtain ⟨v, us, f1, f2, rfl, rfl, ⟨cs, rfl, hown⟩, v2, us2, f3, f4, rfl, rfl, ⟨⟨cs2, rfl, hro⟩, rfl⟩, rfl, rfl⟩ := hargs
  obtain ⟨xs, n, u⟩ := x
  simp only at hown hro hF
  obtain ⟨hv, vs', g1, g2, rfl, hh, hl, rfl⟩ := hown
  obtain ⟨rfl, hin⟩ := hro
  have hg2 := ownL_ints hl
  subst hg2
  unfold growF at hF
  split at hF
  case isFalse => cases hF
  rename_i hc
  obtain ⟨h0, hn, hx⟩ := hc
  cases hF
  obtain ⟨N, rfl⟩ := Int.eq_ofNat_of_zero_le h0
  obtain ⟨i, z, hi, hz, hsz, hb, rfl⟩ := hT.info
  have hz1 : (shapeV (.int k) (zeroV (.int k))).cells.size = 1 := rfl
  have hsz1 : i.size = 1 := hsz
  have hbN : ∀ m : Nat, m ≤ 2199023255552 → m * i.bytes ≤ 140737488355328 := fun m hm => by
    rw [hb]
    exact Nat.le_trans (Nat.mul_le_mul hm hby) (by decide)
  show Calls P (ρ.f 4) #[hv, .int .i64 (N : Int)] w _
  have hxn : (xs : List Int).length ≤ 1099511627776 := hx
  have new : ∀ (c : Nat) (cs : List Value) (w' : World), c < xs.length + N → cs.length = c → vs' = cs.take xs.length → xs.length ≤ c →
      w' = w.drew.alloc (.cells (cs.toArray ++ Builtin.zeroCells (shapeV (.int k) (zeroV (.int k))).cells (xs.length + N - c) ++ Builtin.zeroCells (shapeV (.int k) (zeroV (.int k))).cells (grownCap w (xs.length + N) c (ρ.t 25) - (xs.length + N))) (ρ.t 25)) →
      Post ⟨[.mv (.sl (ρ.t 25) (.int k)), .ro (.int .i64)], [.own (.sl (ρ.t 25) (.int k))], fun x => growF x.1 x.2.1⟩ ((xs, ()), ((), ((), ()))) [shapeV (.sl (ρ.t 25) (.int k)) [hv], shapeV (.int .i64) [.int .i64 (N : Int)]] w (g1 ++ [] ++ ([] ++ [])) Rp (.returned (.slice (some ⟨w.heap.size, 0, none⟩) xs.length (grownCap w (xs.length + N) c (ρ.t 25)))) w' := fun c cs w' hcn hcl hvs hlc hw' => by
    have hge := grownCap_ge w (xs.length + N) c (ρ.t 25)
    have hcm : grownCap w (xs.length + N) c (ρ.t 25) ≤ maxLen := grownCap_le_maxLen w _ c _ (by simp only [maxLen]; omega)
    have hB : Below w.heap.size w w' := by rw [hw']; exact (Below.refl _ _).drew.alloc (Nat.le_refl _) _
    refine ⟨[.slice (some ⟨w.heap.size, 0, none⟩) xs.length (grownCap w (xs.length + N) c (ρ.t 25))], [w.heap.size], [], rfl, Keeps.of_below hB, ⟨_, _, [w.heap.size], [], rfl, rfl, ⟨[_], rfl, _, vs', [w.heap.size], [], rfl, .inr ⟨w.heap.size, _, _, rfl, by rw [hw']; exact heap_alloc_new w.drew _, ?_, hcm, ?_, ?_, ?_, rfl⟩, ownL_w hl, rfl⟩, rfl, rfl⟩, ⟨_, _, [], [], rfl, rfl, rfl, _, _, [], [], rfl, rfl, rfl, rfl⟩, by simp, fun b hb => by simp at hb; right; omega⟩
    · show xs.length ≤ _; omega
    · show xs.length ≤ _; simp only [big47]; omega
    · simp only [Array.size_append, List.size_toArray, size_zeroCells, hz1, Ty.cells]
      omega
    · simp only [Array.toList_append, Ty.cells, Nat.mul_one]
      rw [List.append_assoc, List.take_append_of_le_length (by show xs.length ≤ cs.length; omega), hvs]
  rcases hh with ⟨av, rfl, hx0, hvs, hf⟩ | ⟨g, cap, cur, rfl, hgc, hnc, hcm, hn47, hcs, hvs, hf⟩
  · have hx0 : xs.length = 0 := hx0
    by_cases hN : N = 0
    · refine (Any8.slices_Grow_room L av 0 0 N w (by omega) (by omega) (by omega) (by omega)).mono fun e w' h => ?_
      obtain ⟨rfl, rfl⟩ := h
      exact ⟨[_], g1, [], rfl, Keeps.refl _ _, ⟨_, _, g1, [], rfl, by simp, ⟨[_], rfl, _, vs', g1, [], rfl, .inl ⟨av, rfl, hx0, hvs, hf⟩, hl, by simp⟩, rfl, rfl⟩, ⟨_, _, [], [], rfl, rfl, rfl, _, _, [], [], rfl, rfl, rfl, rfl⟩, by simpa using hnd, fun b hb => .inl (by simpa using hb)⟩
    · refine (Any8.slices_Grow_grow L i _ hi hz (by omega) av 0 0 N [] w (by omega) (by omega) (hbN _ (by omega)) (by omega) (by simp) (fun _ => rfl) (fun a _ j v h => by simp at h)).mono fun e w' h => ?_
      obtain ⟨rfl, hw'⟩ := h
      have := new 0 [] w' (by omega) rfl (by rw [hvs]; simp) (by omega) (by rw [hx0]; exact hw')
      rw [hx0] at this
      exact this
  · by_cases hroom : xs.length + N ≤ cap
    · refine (Any8.slices_Grow_room L _ xs.length cap N w hnc (by simp only [maxLen] at hcm; omega) (by omega) hroom).mono fun e w' h => ?_
      obtain ⟨rfl, rfl⟩ := h
      exact ⟨[_], g1, [], rfl, Keeps.refl _ _, ⟨_, _, g1, [], rfl, by simp, ⟨[_], rfl, _, vs', g1, [], rfl, .inr ⟨g, cap, cur, rfl, hgc, hnc, hcm, hn47, hcs, hvs, hf⟩, hl, by simp⟩, rfl, rfl⟩, ⟨_, _, [], [], rfl, rfl, rfl, _, _, [], [], rfl, rfl, rfl, rfl⟩, by simpa using hnd, fun b hb => .inl (by simpa using hb)⟩
    · have hcur : cur.toList.length = cap := by simp only [Ty.cells] at hcs; simp; omega
      refine (Any8.slices_Grow_grow L i _ hi hz (by omega) (some ⟨g, 0, none⟩) xs.length cap N cur.toList w hnc (by omega) (hbN _ (by omega)) (by omega) (by rw [hsz1]; omega) (fun h => by cases h) (fun a ha j v hj => ?_)).mono fun e w' h => ?_
      · cases ha
        rw [add_plain', cell_of_row w g _ cur _ (0, 0) hgc, Nat.zero_add]
        simpa using hj
      · obtain ⟨rfl, hw'⟩ := h
        exact new cap cur.toList w' (by omega) hcur (by rw [hvs]; simp [Ty.cells]) hnc hw'
end Go.Refl
