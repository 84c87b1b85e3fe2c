/- slices.Insert at whole numbers, off the shelf: as a contract. No condition. -/
import Derived.Test.YtfikbjbijpbdkaaRfU
import Derived.Shelf.Spec.SlicesInsertGrow
namespace Go.Refl
open Go.RowKit Go.Proofs Go.Shelf
set_option linter.unusedVariables false
set_option linter.unusedSimpArgs false
def insF (xs : List Int) (i : Int) (ys : List Int) : Option ((List Int × Unit) × (Unit × Unit × Unit × Unit)) :=
  if 0 ≤ i ∧ i ≤ xs.length ∧ 0 < ys.length ∧ xs.length ≤ 1099511627776 ∧ ys.length ≤ 1099511627776 then some ((xs.take i.toNat ++ ys ++ xs.drop i.toNat, ()), ((), ((), ((), ())))) else none
theorem ownL_iff {w : World} {k : IntKind} : ∀ {xs : List Int} {vs : List Value} {fp : List Nat}, OwnL (Own w (.int k)) xs vs fp ↔ vs = xs.map (Value.int k ·) ∧ (∀ x ∈ xs, inR k x) ∧ fp = []
  | [], vs, fp => by simp [OwnL]
  | x :: xs, vs, fp => by
    constructor
    · rintro ⟨c1, c2, f1, f2, rfl, rfl, ⟨rfl, h1, rfl⟩, h2⟩
      obtain ⟨rfl, h3, rfl⟩ := ownL_iff.1 h2
      refine ⟨rfl, fun y hy => ?_, rfl⟩
      rcases List.mem_cons.1 hy with rfl | hy
      · exact h1
      · exact h3 y hy
    · rintro ⟨rfl, h, rfl⟩
      exact ⟨[.int k x], xs.map (Value.int k ·), [], [], rfl, rfl, ⟨rfl, h x (by simp), rfl⟩, ownL_iff.2 ⟨rfl, fun y hy => h y (by simp [hy]), rfl⟩⟩
/-- Cells set one behind the other. -/
def setA : Array Value → Nat → List Value → Array Value
  | c, _, [] => c
  | c, o, v :: r => setA (c.setIfInBounds o v) (o + 1) r
theorem setA_size : ∀ (vs : List Value) (o : Nat) (c : Array Value), (setA c o vs).size = c.size
  | [], _, _ => rfl
  | v :: r, o, c => by rw [setA, setA_size r]; simp
theorem setA_list : ∀ (vs : List Value) (o : Nat) (c : Array Value), o + vs.length ≤ c.size → (setA c o vs).toList = c.toList.take o ++ vs ++ c.toList.drop (o + vs.length)
  | [], o, c, h => by simp [setA]
  | v :: r, o, c, h => by
    simp only [List.length_cons] at h
    rw [setA, setA_list r (o + 1) _ (by simp; omega)]
    simp only [Array.toList_setIfInBounds, List.length_cons]
    have ho : o < c.toList.length := by simp; omega
    rw [List.take_set, List.drop_set_of_lt (by omega), List.take_succ_eq_append_getElem ho, List.set_append_right _ _ (by simp; omega)]
    simp only [List.length_take, Nat.min_eq_left (Nat.le_of_lt ho), Nat.sub_self, List.set_cons_zero, List.append_assoc, List.cons_append, List.nil_append]
    rw [show o + 1 + r.length = o + (r.length + 1) by omega]
theorem heap_setCells (b : Nat) (e : TypeId) (fz : Nat × Nat) : ∀ (vs : List Value) (o : Nat) (w : World) (cur : Array Value), w.heap[b]? = some (.cells cur e fz) → (w.setCells b o vs).heap[b]? = some (.cells (setA cur o vs) e fz)
  | [], _, _, _, h => h
  | v :: r, o, w, cur, h => by
    refine heap_setCells b e fz r (o + 1) _ _ ?_
    simp [World.setCell, Array.getElem?_modify, h]
theorem keeps_setCells (b : Nat) : ∀ (vs : List Value) (o : Nat) (w : World), Keeps [b] w (w.setCells b o vs)
  | [], _, w => Keeps.refl _ _
  | v :: r, o, w => by
    refine Keeps.trans (b := w.setCell ⟨b, o, none⟩ v) (O' := [b]) ⟨rfl, rfl, rfl, by simp [World.setCell], fun k hk hn => ?_⟩ (keeps_setCells b r (o + 1) _) (fun x hx => .inl hx)
    simp only [List.mem_singleton] at hn
    simp [World.setCell, Array.getElem?_modify, Ne.symm hn]
theorem keeps_drew (O : List Nat) (w : World) : Keeps O w w.drew := Keeps.of_below (Below.refl _ _).drew
theorem insert_sat {P : Program} {ρ : Ren} (L : Lays2.n21 P ρ) (hfn : ∃ fn, P.funcs[ρ.f 21]? = some fn ∧ fn.body.isNone = false ∧ (fn.name == "runtime.NumGoroutine") = false) :
    Sat P (ρ.f 21) ⟨[.mv (.sl (ρ.t 3) (.int .i64)), .ro (.int .i64), .mv (.sl (ρ.t 3) (.int .i64))], [.own (.sl (ρ.t 3) (.int .i64))], fun x => insF x.1 x.2.1 x.2.2.1⟩ := by
  refine ⟨hfn, fun x y hF w vs O Rp hargs hRp hnd hO => ?_⟩
  obtain ⟨v, us, f1, f2, rfl, rfl, ⟨cs, rfl, hown⟩, v2, us2, f3, f4, rfl, rfl, ⟨⟨cs2, rfl, hro⟩, rfl⟩, v3, us3, f5, f6, rfl, rfl, ⟨cs3, rfl, hown3⟩, rfl, rfl⟩ := hargs
  obtain ⟨xs, i, ys, u⟩ := x
  simp only at hown hro hown3 hF
  obtain ⟨hv, vs1, g1, g2, rfl, hh, hl, rfl⟩ := hown
  obtain ⟨rfl, hin⟩ := hro
  obtain ⟨hv3, vs3, g3, g4, rfl, hh3, hl3, rfl⟩ := hown3
  obtain ⟨rfl, hx, rfl⟩ := ownL_iff.1 hl
  obtain ⟨rfl, hy, rfl⟩ := ownL_iff.1 hl3
  unfold insF at hF
  split at hF
  case isFalse => cases hF
  rename_i hc
  obtain ⟨h0, hi, hy0, hxn, hyn⟩ := hc
  cases hF
  obtain ⟨I, rfl⟩ := Int.eq_ofNat_of_zero_le h0
  have hi : I ≤ List.length xs := by
    have : (I : Int) ≤ ((List.length xs : Nat) : Int) := hi
    omega
  have hy0 : 0 < List.length ys := hy0
  have hxn : List.length xs ≤ 1099511627776 := hxn
  have hyn : List.length ys ≤ 1099511627776 := hyn
  simp only [Int.toNat_natCast]
  rcases hh3 with ⟨av3, rfl, hy0', _, _⟩ | ⟨g', cap', cur', rfl, hgc', hnc', hcm', hn47', hcs', hvs', hf'⟩
  · have hy0' : List.length ys = 0 := hy0'
    omega
  subst hf'
  have hnc' : List.length ys ≤ cap' := hnc'
  have hcs' : cur'.size = cap' := by simpa [Ty.cells] using hcs'
  have hvs' : List.map (fun x => Value.int IntKind.i64 x) ys = cur'.toList.take (List.length ys) := by simpa [Ty.cells] using hvs'
  have hyl : (List.map (fun x => Value.int IntKind.i64 x) ys).length = List.length ys := List.length_map _
  have hvcell : ∀ j v, (List.map (fun x => Value.int IntKind.i64 x) ys)[j]? = some v → w.cell? ⟨g', 0 + j, none⟩ = some v := fun j v hj => by
    rw [Nat.zero_add, cell_of_row w g' _ cur' _ (0, 0) hgc']
    rw [hvs', List.getElem?_take] at hj
    split at hj
    · simpa using hj
    · cases hj
  have h1m : ∀ (l : List Int), ∀ v ∈ List.map (fun x => Value.int IntKind.i64 x) l, v.oneCell' = true := fun l v hv => by
    obtain ⟨x, _, rfl⟩ := List.mem_map.1 hv
    rfl
  have hall : ∀ z ∈ (List.take I xs ++ ys ++ List.drop I xs : List Int), inR .i64 z := fun z hz => by
    simp only [List.mem_append] at hz
    rcases hz with (hz | hz) | hz
    · exact hx z (List.mem_of_mem_take hz)
    · exact hy z hz
    · exact hx z (List.mem_of_mem_drop hz)
  have hlen : (List.take I xs ++ ys ++ List.drop I xs : List Int).length = List.length xs + List.length ys := by
    simp only [List.length_append, List.length_take, List.length_drop]
    omega
  show Calls P (ρ.f 21) #[hv, .int .i64 (I : Int), .slice (some ⟨g', 0, none⟩) (List.length ys) cap'] w _
  have fin : ∀ (b cap : Nat) (cur : Array Value) (w' : World), w'.heap[b]? = some (.cells cur (ρ.t 3) (0, 0)) → List.length xs + List.length ys ≤ cap → cap ≤ maxLen → cur.size = cap →
      cur.toList.take (List.length xs + List.length ys) = List.map (fun x => Value.int IntKind.i64 x) (List.take I xs ++ ys ++ List.drop I xs) → Keeps (g1 ++ [] ++ ([] ++ ([g'] ++ [] ++ []))) w w' → (b ∈ (g1 ++ [] ++ ([] ++ ([g'] ++ [] ++ []))) ∨ w.heap.size ≤ b) →
      Post ⟨[.mv (.sl (ρ.t 3) (.int .i64)), .ro (.int .i64), .mv (.sl (ρ.t 3) (.int .i64))], [.own (.sl (ρ.t 3) (.int .i64))], fun x => insF x.1 x.2.1 x.2.2.1⟩ ((List.take I xs ++ ys ++ List.drop I xs, ()), ((), ((), ((), ()))))
        [shapeV (.sl (ρ.t 3) (.int .i64)) [hv], shapeV (.int .i64) [.int .i64 (I : Int)], shapeV (.sl (ρ.t 3) (.int .i64)) [.slice (some ⟨g', 0, none⟩) (List.length ys) cap']] w (g1 ++ [] ++ ([] ++ ([g'] ++ [] ++ []))) Rp (.returned (.slice (some ⟨b, 0, none⟩) (List.length xs + List.length ys) cap)) w' := fun b cap cur w' hb hn hc hs hcur hk hbO => by
    refine ⟨[.slice (some ⟨b, 0, none⟩) (List.length xs + List.length ys) cap], [b], [], rfl, hk, ⟨_, _, [b], [], rfl, rfl, ⟨[_], rfl, _, _, [b], [], rfl, .inr ⟨b, cap, cur, ?_, hb, ?_, hc, ?_, ?_, ?_, rfl⟩, ownL_iff.2 ⟨rfl, hall, rfl⟩, rfl⟩, rfl, rfl⟩, ⟨_, _, [], [], rfl, rfl, rfl, _, _, [], [], rfl, rfl, rfl, _, _, [], [], rfl, rfl, rfl, rfl⟩, by simp, fun k hk => ?_⟩
    · show Value.slice _ _ _ = Value.slice _ (List.length (List.take I xs ++ ys ++ List.drop I xs)) _
      rw [hlen]
    · show List.length (List.take I xs ++ ys ++ List.drop I xs) ≤ _
      rw [hlen]; exact hn
    · show List.length (List.take I xs ++ ys ++ List.drop I xs) ≤ _
      rw [hlen]; simp only [big47]; omega
    · simp [Ty.cells, hs]
    · show _ = List.take (List.length (List.take I xs ++ ys ++ List.drop I xs) * _) _
      rw [hlen]; simp only [Ty.cells, Nat.mul_one]
      exact hcur.symm
    · simp only [List.append_nil, List.mem_singleton] at hk
      subst hk; exact hbO
  have new : ∀ (c : Nat) (w' : World) (row : Array Value), c < List.length xs + List.length ys → w' = w.drew.alloc (.cells row (ρ.t 3)) → True := fun _ _ _ _ _ => trivial
  have hge := fun c => grownCap_ge w (List.length xs + List.length ys) c (ρ.t 3)
  have hle := fun c => grownCap_le_maxLen w (List.length xs + List.length ys) c (ρ.t 3) (by simp only [maxLen]; omega)
  have hbig : (List.length xs + List.length ys) * 8 ≤ 140737488355328 := by omega
  have endgrow : ∀ (base : Option Addr) (c : Nat), I = List.length xs → List.length xs ≤ c → c < List.length xs + List.length ys → (base = none → List.length xs = 0) → (∀ a, base = some a → ∀ j v, (List.map (fun x => Value.int IntKind.i64 x) xs)[j]? = some v → w.cell? (a.add j) = some v) →
      hv = .slice base (List.length xs) c → Calls P (ρ.f 21) #[hv, .int .i64 (I : Int), .slice (some ⟨g', 0, none⟩) (List.length ys) cap'] w (Post ⟨[.mv (.sl (ρ.t 3) (.int .i64)), .ro (.int .i64), .mv (.sl (ρ.t 3) (.int .i64))], [.own (.sl (ρ.t 3) (.int .i64))], fun x => insF x.1 x.2.1 x.2.2.1⟩ ((List.take I xs ++ ys ++ List.drop I xs, ()), ((), ((), ((), ()))))
        [shapeV (.sl (ρ.t 3) (.int .i64)) [hv], shapeV (.int .i64) [.int .i64 (I : Int)], shapeV (.sl (ρ.t 3) (.int .i64)) [.slice (some ⟨g', 0, none⟩) (List.length ys) cap']] w (g1 ++ [] ++ ([] ++ ([g'] ++ [] ++ []))) Rp) := fun base c hI hnc hno hnil hcell hhv => by
    subst hI
    rw [hhv]
    refine (Any2.slices_Insert_int_end_grow L base (List.length xs) c g' 0 (List.length ys) cap' (List.map (fun x => Value.int IntKind.i64 x) xs) (List.map (fun x => Value.int IntKind.i64 x) ys) w hy0 hnc hno hbig (List.length_map _) hyl hnil hcell hvcell (h1m ys)).mono fun e w' h => ?_
    obtain ⟨rfl, hw'⟩ := h
    have hB : Below w.heap.size w w' := by rw [hw']; exact (Below.refl _ _).drew.alloc (Nat.le_refl _) _
    have := fin w.heap.size _ _ w' (by rw [hw']; exact heap_alloc_new w.drew _) (hge c) (hle c) (by
      simp only [Array.size_append, List.size_toArray, size_zeroCells, List.length_append, List.length_map]
      have := hge c
      simp [Value.cells]
      omega) (by
      simp only [Array.toList_append]
      rw [List.take_append_of_le_length (by simp), ← List.map_append, List.take_of_length_le (by simp), List.take_length, List.drop_length, List.append_nil]) (Keeps.of_below hB) (.inr (Nat.le_refl _))
    rw [hhv] at this
    exact this
  rcases hh with ⟨av, rfl, hx0, hvs, hf⟩ | ⟨g, cap, cur, rfl, hgc, hnc, hcm, hn47, hcs, hvs, hf⟩
  · have hx0 : List.length xs = 0 := hx0
    have hxe : xs = [] := List.length_eq_zero_iff.1 hx0
    exact endgrow av 0 (by omega) (by omega) (by omega) (fun _ => hx0) (fun a _ j v hj => by rw [hxe] at hj; simp at hj) (by rw [hx0])
  · subst hf
    have hnc : List.length xs ≤ cap := hnc
    have hcs : cur.size = cap := by simpa [Ty.cells] using hcs
    have hvs : List.map (fun x => Value.int IntKind.i64 x) xs = cur.toList.take (List.length xs) := by simpa [Ty.cells] using hvs
    have hxl : (List.map (fun x => Value.int IntKind.i64 x) xs).length = List.length xs := List.length_map _
    have hcell : ∀ j v, (List.map (fun x => Value.int IntKind.i64 x) xs)[j]? = some v → w.cell? ⟨g, 0 + j, none⟩ = some v := fun j v hj => by
      rw [Nat.zero_add, cell_of_row w g _ cur _ (0, 0) hgc]
      rw [hvs, List.getElem?_take] at hj
      split at hj
      · simpa using hj
      · cases hj
    have hne : g' ≠ g := fun h => by subst h; simp at hnd
    have hthere : ∀ j, j < List.length xs + List.length ys → List.length xs + List.length ys ≤ cap → (w.cell? ⟨g, 0 + j, none⟩).isSome = true := fun j hj hr => by
      rw [Nat.zero_add, cell_of_row w g _ cur _ (0, 0) hgc, Array.getElem?_eq_getElem (by omega)]; rfl
    have hfrz : ∀ j, w.frozen? ⟨g, j, none⟩ = false := fun j => by simp [World.frozen?, hgc]
    have hfrz' : ∀ j, w.frozen? ⟨g', j, none⟩ = false := fun j => by simp [World.frozen?, hgc']
    have c63 : cap ≤ 9223372036854775807 := by simp only [maxLen] at hcm; omega
    have hcurl : cur.toList.length = cap := by simp [hcs]
    by_cases hroom : List.length xs + List.length ys ≤ cap
    · by_cases hI : I < List.length xs
      · refine (Any2.slices_Insert_int_shift L g 0 (List.length xs) cap I g' 0 (List.length ys) cap' (List.map (fun x => Value.int IntKind.i64 x) xs) (List.map (fun x => Value.int IntKind.i64 x) ys) w hI hy0 hroom c63 hne hxl hyl hcell (fun j hj => hthere j hj hroom) (fun j _ => hfrz _) hvcell (h1m xs) (h1m ys) (ρ.t 3) (ρ.t 3) cur'.size cur.size (by simp [World.shape?, hgc']) (by simp [World.shape?, hgc]) (by omega) (hfrz' _) (hfrz' _)).mono fun e w' h => ?_
        obtain ⟨rfl, rfl⟩ := h
        have e1 := heap_setCells g (ρ.t 3) (0, 0) ((List.map (fun x => Value.int IntKind.i64 x) xs).drop I) (0 + (I + List.length ys)) w.drew cur hgc
        have e2 := heap_setCells g (ρ.t 3) (0, 0) (List.map (fun x => Value.int IntKind.i64 x) ys) (0 + I) _ _ e1
        refine fin g cap _ _ e2 hroom hcm (by rw [setA_size, setA_size, hcs]) ?_ ?_ (.inl (by simp))
        · rw [setA_list _ _ _ (by rw [setA_size]; simp; omega), setA_list _ _ _ (by simp; omega)]
          simp only [Nat.zero_add, List.length_drop, List.length_map]
          have a1 : List.take I (List.take (I + List.length ys) cur.toList ++ List.drop I (List.map (fun x => Value.int IntKind.i64 x) xs) ++ List.drop (I + List.length ys + (List.length xs - I)) cur.toList) = List.map (fun x => Value.int IntKind.i64 x) (List.take I xs) := by
            rw [List.append_assoc, List.take_append_of_le_length (by simp; omega), List.take_take, Nat.min_eq_left (by omega), List.map_take, hvs, List.take_take, Nat.min_eq_left (by omega)]
          have a2 : List.drop (I + List.length ys) (List.take (I + List.length ys) cur.toList ++ List.drop I (List.map (fun x => Value.int IntKind.i64 x) xs) ++ List.drop (I + List.length ys + (List.length xs - I)) cur.toList) = List.map (fun x => Value.int IntKind.i64 x) (List.drop I xs) ++ List.drop (I + List.length ys + (List.length xs - I)) cur.toList := by
            rw [List.append_assoc, List.drop_append_of_le_length (by simp; omega), List.drop_of_length_le (by simp; omega), List.nil_append, List.map_drop]
          rw [a1, a2, ← List.append_assoc, List.take_append_of_le_length (by simp; omega), List.take_of_length_le (by simp; omega)]
          simp [List.map_append, List.append_assoc]
        · refine ((keeps_drew _ _).trans (keeps_setCells g _ _ _) (O := [g] ++ [] ++ ([] ++ ([g'] ++ [] ++ []))) (fun x hx => .inl (by simp at hx; simp [hx]))).trans (keeps_setCells g _ _ _) (fun x hx => .inl (by simp at hx; simp [hx]))
      · have hI : I = List.length xs := by omega
        subst hI
        refine (Any2.slices_Insert_int_end_room L g 0 (List.length xs) cap g' 0 (List.length ys) cap' (List.map (fun x => Value.int IntKind.i64 x) ys) w hy0 hroom c63 hyl (fun j hj => by rw [Nat.add_assoc]; exact hthere _ (by omega) hroom) (fun j _ => hfrz _) hvcell (h1m ys)).mono fun e w' h => ?_
        obtain ⟨rfl, rfl⟩ := h
        have e1 := heap_setCells g (ρ.t 3) (0, 0) (List.map (fun x => Value.int IntKind.i64 x) ys) (0 + List.length xs) w cur hgc
        have kk := keeps_setCells g (List.map (fun x => Value.int IntKind.i64 x) ys) (0 + List.length xs) w
        refine fin g cap _ _ e1 hroom hcm (by rw [setA_size, hcs]) ?_ ⟨kk.os, kk.tape, kk.output, kk.size, fun q hq hn => kk.block q hq (by simp at hn ⊢; exact hn.1)⟩ (.inl (by simp))
        rw [setA_list _ _ _ (by simp; omega)]
        simp only [Nat.zero_add, List.length_map, List.take_length, List.drop_length, List.append_nil, List.map_append]
        rw [List.take_append_of_le_length (by simp; omega), List.take_of_length_le (by simp; omega), ← hvs]
    · by_cases hI : I < List.length xs
      · refine (Any2.slices_Insert_int_grow L g 0 (List.length xs) cap I g' 0 (List.length ys) cap' (List.map (fun x => Value.int IntKind.i64 x) xs) (List.map (fun x => Value.int IntKind.i64 x) ys) w hI hy0 hnc (by omega) hbig hxl hyl hcell hvcell (h1m xs) (h1m ys)).mono fun e w' h => ?_
        obtain ⟨rfl, rfl⟩ := h
        have e0 := heap_alloc_new w (.cells (((List.map (fun x => Value.int IntKind.i64 x) xs).take I).toArray ++ Builtin.zeroCells (Value.int .i64 0).cells (List.length xs + List.length ys - I) ++ Builtin.zeroCells (Value.int .i64 0).cells (grownCap w (List.length xs + List.length ys) cap (ρ.t 3) - (List.length xs + List.length ys))) (ρ.t 3))
        have e1 := heap_setCells w.heap.size (ρ.t 3) (0, 0) (List.map (fun x => Value.int IntKind.i64 x) ys) I (w.alloc _).drew _ e0
        have e2 := heap_setCells w.heap.size (ρ.t 3) (0, 0) ((List.map (fun x => Value.int IntKind.i64 x) xs).drop I) (I + List.length ys) (World.setCells _ _ _ _).drew _ e1
        have hz1 : (Value.int .i64 0).cells.size = 1 := rfl
        have hsz : (((List.map (fun x => Value.int IntKind.i64 x) xs).take I).toArray ++ Builtin.zeroCells (Value.int .i64 0).cells (List.length xs + List.length ys - I) ++ Builtin.zeroCells (Value.int .i64 0).cells (grownCap w (List.length xs + List.length ys) cap (ρ.t 3) - (List.length xs + List.length ys))).size = grownCap w (List.length xs + List.length ys) cap (ρ.t 3) := by
          have := hge cap
          simp only [Array.size_append, List.size_toArray, size_zeroCells, List.length_take, List.length_map, hz1]
          omega
        refine fin w.heap.size _ _ _ e2 (hge cap) (hle cap) (by rw [setA_size, setA_size, hsz]) ?_ ?_ (.inr (Nat.le_refl _))
        · have := hge cap
          rw [setA_list _ _ _ (by rw [setA_size, hsz]; simp; omega), setA_list _ _ _ (by rw [hsz]; simp; omega)]
          simp only [List.length_drop, List.length_map, Array.toList_append]
          have b1 : (List.take I (List.map (fun x => Value.int IntKind.i64 x) xs)).length = I := by simp; omega
          have c1 : ∀ R S : List Value, List.take I (List.take I (List.map (fun x => Value.int IntKind.i64 x) xs) ++ R ++ S) = List.take I (List.map (fun x => Value.int IntKind.i64 x) xs) := fun R S => by
            rw [List.append_assoc, List.take_append_of_le_length (by omega), List.take_of_length_le (by omega)]
          have c2 : ∀ R : List Value, List.take (I + List.length ys) (List.take I (List.map (fun x => Value.int IntKind.i64 x) xs) ++ List.map (fun x => Value.int IntKind.i64 x) ys ++ R) = List.take I (List.map (fun x => Value.int IntKind.i64 x) xs) ++ List.map (fun x => Value.int IntKind.i64 x) ys := fun R => by
            rw [List.take_append_of_le_length (by simp; omega), List.take_of_length_le (by simp; omega)]
          rw [c1, c2]
          rw [List.take_append_of_le_length (by simp; omega), List.take_of_length_le (by simp; omega)]
          simp [List.map_append, List.map_take, List.map_drop]
        · have hB : Keeps [] w (w.alloc (.cells (((List.map (fun x => Value.int IntKind.i64 x) xs).take I).toArray ++ Builtin.zeroCells (Value.int .i64 0).cells (List.length xs + List.length ys - I) ++ Builtin.zeroCells (Value.int .i64 0).cells (grownCap w (List.length xs + List.length ys) cap (ρ.t 3) - (List.length xs + List.length ys))) (ρ.t 3))) := Keeps.of_below ((Below.refl _ _).alloc (Nat.le_refl _) _)
          have k1 := hB.trans (O' := []) (keeps_drew _ _) (by simp)
          have k2 := k1.trans (keeps_setCells w.heap.size (List.map (fun x => Value.int IntKind.i64 x) ys) I _) (fun x hx => .inr (by simp at hx; omega))
          have k3 := k2.trans (O' := []) (keeps_drew _ _) (by simp)
          have k4 := k3.trans (keeps_setCells w.heap.size ((List.map (fun x => Value.int IntKind.i64 x) xs).drop I) (I + List.length ys) _) (fun x hx => .inr (by simp at hx; omega))
          exact ⟨k4.os, k4.tape, k4.output, k4.size, fun k hk hn => k4.block k hk (by simp)⟩
      · exact endgrow (some ⟨g, 0, none⟩) cap (by omega) hnc (by omega) (fun h => by cases h) (fun a ha j v hj => by cases ha; rw [add_plain']; exact hcell j v hj) rfl
end Go.Refl
