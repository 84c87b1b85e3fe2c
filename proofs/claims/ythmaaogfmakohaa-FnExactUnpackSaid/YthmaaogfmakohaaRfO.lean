/- Arguments of a law: read as data. No program in sight. No condition. -/
import Derived.Test.YthmaaogfmakohaaRfN
import Derived.ChangeSlices
import Derived.ChangeArms
import Derived.SizedLaws
namespace Go.Refl
open Go.RowKit
open Go.ChangeShapes Go.WideShapes
set_option linter.unusedVariables false
set_option linter.unusedSimpArgs false

section
variable {P : Program} {W : World} {H : Type} {enc : TypeId × Value → H} {base : Nat} {spare : Nat → Bool} {held : Bool}
def bytesPos (tt : TT) : Bool := tt.all fun p => decide (p.2.2 ≠ 0)
theorem bytesPos_get {tt : TT} (h : bytesPos tt = true) {t : Nat} {T : Ty} {b : Nat} (hg : get tt t = some (T, b)) : b ≠ 0 := by
  induction tt with
  | nil => simp [get] at hg
  | cons p tt ih =>
    simp only [bytesPos, List.all_cons, Bool.and_eq_true, decide_eq_true_eq] at h
    obtain ⟨i, x⟩ := p
    simp only [get] at hg
    split at hg
    · cases hg; exact h.1
    · exact ih h.2 hg
theorem TFit.cellsOf {tt : TT} {t : TypeId} {T : Ty} {b : Nat} (h : TFit P tt t T b) : P.cellsOf t = T.cells := by
  obtain ⟨i, z, h1, _, h2, _⟩ := h.info
  simp [Program.cellsOf, h1, h2]
theorem TFit.bytesOf {tt : TT} {t : TypeId} {T : Ty} {b : Nat} (h : TFit P tt t T b) : P.bytesOf t = b := by
  obtain ⟨i, z, h1, _, _, h2, _⟩ := h.info
  simp [Program.bytesOf, h1, h2]
theorem mapM_cells {w : World} {a : Addr} : ∀ (n k : Nat) (cs : List Value), (List.range' k n).mapM (fun i => w.cell? (a.add i)) = some cs → cs.length = n ∧ ∀ j u, cs[j]? = some u → w.cell? (a.add (k + j)) = some u
  | 0, k, cs, h => by
    simp at h; subst h; exact ⟨rfl, by simp⟩
  | n + 1, k, cs, h => by
    rw [List.range'_succ, List.mapM_cons] at h
    cases h1 : w.cell? (a.add k) with
    | none => rw [h1] at h; simp at h
    | some v =>
      rw [h1] at h
      cases h2 : (List.range' (k + 1) n).mapM (fun i => w.cell? (a.add i)) with
      | none => rw [h2] at h; simp at h
      | some vs =>
        rw [h2] at h
        simp at h
        subst h
        obtain ⟨hl, hc⟩ := mapM_cells n (k + 1) vs h2
        refine ⟨by simp [hl], fun j u hj => ?_⟩
        cases j with
        | zero => simp at hj; subst hj; exact h1
        | succ j =>
          have := hc j u (by simpa using hj)
          rw [show k + (j + 1) = k + 1 + j by omega]
          exact this
theorem cells_at {w : World} {b : Nat} {a : Addr} {n : Nat} {cs : List Value} (h : w.cells? b a n = some cs) : cs.length = n ∧ ∀ j u, cs[j]? = some u → w.cell? (a.add j) = some u := by
  unfold World.cells? at h
  split at h
  · rw [List.range_eq_range'] at h
    have := mapM_cells n 0 cs h
    simpa using this
  · cases h
theorem weightsAll_mem {e : TypeId} : ∀ {ds : List (DataW H)} {d : DataW H}, d ∈ ds → ∀ n ∈ d.weights P e, n ∈ DataW.weightsAll P e ds
  | d' :: ds, d, hd, n, hn => by
    simp only [DataW.weightsAll, List.mem_append]
    rcases List.mem_cons.1 hd with rfl | hd
    · exact .inl hn
    · exact .inr (weightsAll_mem hd n hn)
/-- Elements, one behind the other. -/
theorem open_elems {α : Type} {ro : α → List Value → Prop} {sz : Nat} {ad : Addr} : ∀ (n k : Nat), (∀ i, k ≤ i → i < k + n → ∃ x cs, ro x cs ∧ cs.length = sz ∧ ∀ j u, cs[j]? = some u → W.cell? ((ad.add (i * sz)).add j) = some u) →
    ∃ (xs : List α) (vs : List Value), xs.length = n ∧ RoL ro xs vs ∧ ∀ j u, vs[j]? = some u → W.cell? (ad.add (k * sz + j)) = some u
  | 0, k, h => ⟨[], [], rfl, rfl, by simp⟩
  | n + 1, k, h => by
    obtain ⟨x, cs, hx, hl, hc⟩ := h k (Nat.le_refl _) (by omega)
    obtain ⟨xs, vs, hn, hr, hv⟩ := open_elems n (k + 1) fun i h1 h2 => h i (by omega) (by omega)
    refine ⟨x :: xs, cs ++ vs, by simp [hn], ⟨cs, vs, rfl, hx, hr⟩, fun j u hj => ?_⟩
    by_cases hjl : j < cs.length
    · rw [List.getElem?_append_left hjl] at hj
      have := hc j u hj
      rwa [add_add'] at this
    · rw [List.getElem?_append_right (by omega)] at hj
      have := hv (j - cs.length) u hj
      rw [Nat.add_mul, Nat.one_mul] at this
      rwa [show k * sz + sz + (j - cs.length) = k * sz + j by omega] at this
/-- A struct's parts. -/
theorem open_fields {tt : TT} {cs : List Value} {each : TypeId → List Value → Prop} (hE : ∀ t T b, get tt t = some (T, b) → P.cellsOf t = T.cells)
    (hi : ∀ t T b vs, get tt t = some (T, b) → each t vs → ∃ x : T.D, Ro (fun _ => True) W T x vs) : ∀ (fs : List Field) (T : Ty) (off : Nat), FieldsFit tt fs T off → off + T.cells ≤ cs.length → (∀ f ∈ fs, each f.type ((cs.drop f.offset).take (P.cellsOf f.type))) →
    ∃ x : T.D, Ro (fun _ => True) W T x ((cs.drop off).take T.cells)
  | [], .unit, off, _, _, _ => ⟨(), by simp [Ro, Ty.cells]⟩
  | f :: fs, .pair ta tb, off, ⟨h1, ⟨b, h2⟩, h3, h4⟩, hl, he => by
    simp only [Ty.cells] at hl
    obtain ⟨x, hx⟩ := hi _ _ _ _ h2 (he f (by simp))
    obtain ⟨y, hy⟩ := open_fields hE hi fs tb (off + ta.cells) h4 (by omega) fun g hg => he g (by simp [hg])
    refine ⟨(x, y), _, _, ?_, hx, hy⟩
    rw [h1, hE _ _ _ h2, Ty.cells, List.take_add, List.drop_drop]
  | [], .int _, _, h, _, _ => h.elim
  | [], .bool, _, h, _, _ => h.elim
  | [], .str, _, h, _, _ => h.elim
  | [], .sl _ _, _, h, _, _ => h.elim
  | [], .pair _ _, _, h, _, _ => h.elim
  | _ :: _, .int _, _, h, _, _ => h.elim
  | _ :: _, .bool, _, h, _, _ => h.elim
  | _ :: _, .str, _, h, _, _ => h.elim
  | _ :: _, .sl _ _, _, h, _, _ => h.elim
  | _ :: _, .unit, _, h, _, _ => h.elim
theorem weightsEach_mem' : ∀ {ts : List TypeId} {ds : List (DataW H)} {j : Nat} {t : TypeId} {d : DataW H}, ts[j]? = some t → ds[j]? = some d → ∀ n ∈ d.weights P t, n ∈ DataW.weightsEach P ts ds := DataW.weights_mem_each
theorem open_ro {E : Env} (hE : EnvOk P E) (hb : bytesPos E.tt = true) : ∀ (fuel : Nat) (t : TypeId) (T : Ty) (b : Nat) (cs : List Value) (x : DataW H × List MemPlace), get E.tt t = some (T, b) → DataW.trod enc P W base spare held fuel t cs = some x → (∀ n ∈ x.1.weights P t, n ≤ reachBytes) → ∃ y : T.D, Ro (fun _ => True) W T y cs
  | 0, t, T, b, cs, x, ht, h, hw => by simp [DataW.trod] at h
  | fuel + 1, t, T, b, cs, x, ht, h, hw => by
    have hT := hE.ty t T b ht
    have hu := hT.und
    have hreach : reachBytes ≤ big47 := by decide
    cases T with
    | int k =>
      obtain ⟨n, rfl, _, hn⟩ := DataW.trod_int hu h
      simp only [Lit.wf, Bool.and_eq_true, decide_eq_true_eq] at hn
      exact ⟨n, rfl, hn⟩
    | bool =>
      obtain ⟨n, rfl, _⟩ := DataW.trod_bool hu h
      exact ⟨n, rfl⟩
    | str =>
      obtain ⟨s, rfl, rfl, _⟩ := DataW.trod_string hu h
      have := hw s.data.toList.length (by simp [DataW.weights])
      exact ⟨_, s, rfl, rfl, by simp at this; exact Nat.le_trans this hreach⟩
    | sl e T' =>
      obtain ⟨hu, b', hb'⟩ := hu
      have hT' := hE.ty _ _ _ hb'
      rcases DataW.trod_slice hu h with ⟨rfl, _⟩ | ⟨a, len, cap, elems, rest, n, hn, rfl, rfl, _, hl, hm, hlen, hel, hsp, hns⟩
      · exact ⟨([] : List T'.D), none, 0, [], rfl, by simp, by simp [maxLen], by simp, .inl rfl, rfl⟩
      · have hn : fuel = n := by omega
        subst hn
        simp only [DataW.weights, hu] at hw
        have hw1 := hw _ (List.mem_cons_self)
        rw [hT'.bytesOf] at hw1
        have hlb : len ≤ big47 := by
          have h0 := bytesPos_get hb hb'
          simp only [List.length_map] at hw1
          have : len * 1 ≤ (elems.length + rest.length) * b' := Nat.mul_le_mul (by omega) (by omega)
          omega
        obtain ⟨xs, vs, hxl, hro, hcell⟩ := open_elems (W := W) (ro := Ro (fun _ => True) W T') (sz := T'.cells) (ad := a) len 0 fun i _ hi => by
          have hi' : i < elems.length := by omega
          have h1 := hel i (by omega)
          rw [List.getElem?_eq_getElem hi', Option.bind_eq_some_iff] at h1
          obtain ⟨cs', hcs, hy⟩ := h1
          rw [hT'.cellsOf] at hcs
          obtain ⟨hl', hc'⟩ := cells_at hcs
          obtain ⟨y, hy⟩ := open_ro hE hb fuel e T' b' cs' _ hb' hy fun m hm => hw m (by
            refine List.mem_cons_of_mem _ (List.mem_append.2 (.inl (weightsAll_mem ?_ m hm)))
            exact List.mem_map.2 ⟨_, List.getElem_mem hi', rfl⟩)
          exact ⟨y, cs', hy, hl', hc'⟩
        refine ⟨xs, some a, cap, vs, by rw [hxl], by omega, hm, by omega, .inr ⟨a, rfl, trivial, fun j u hj => ?_⟩, hro⟩
        have := hcell j u hj
        simpa using this
    | unit =>
      obtain ⟨fs, hu, hf⟩ := hu
      exact absurd rfl hT.pos
    | pair ta tb =>
      obtain ⟨fs, hu, hf⟩ := hu
      obtain ⟨xs, n, hn, rfl, hlen, hxl, hel⟩ := DataW.trod_struct hu h
      have hn : fuel = n := by omega
      subst hn
      simp only [DataW.weights, hu] at hw
      obtain ⟨y, hy⟩ := open_fields (P := P) (W := W) (tt := E.tt) (cs := cs) (each := fun t vs => ∃ x : DataW H × List MemPlace, DataW.trod enc P W base spare held fuel t vs = some x ∧ ∀ n ∈ x.1.weights P t, n ≤ reachBytes)
        (fun t T b h => (hE.ty t T b h).cellsOf) (fun t T b vs h ⟨x, h1, h2⟩ => open_ro hE hb fuel t T b vs x h h1 h2) fs.toList (.pair ta tb) 0 hf (by rw [hlen, hT.cellsOf]; simp) fun f hf' => by
          obtain ⟨i, hi, hfi⟩ := List.getElem_of_mem hf'
          have hfi' : fs[i]? = some f := by
            rw [← Array.getElem?_toList, List.getElem?_eq_getElem hi, hfi]
          have h1 := hel i f hfi'
          have hil : i < xs.length := by rw [hxl]; simpa using hi
          rw [List.getElem?_eq_getElem hil] at h1
          refine ⟨_, h1, fun m hm => hw m (DataW.weights_mem_each (j := i) (t := f.type) (d := xs[i].1) ?_ ?_ m hm)⟩
          · rw [List.getElem?_map, List.getElem?_eq_getElem hi, hfi]; rfl
          · rw [List.getElem?_map, List.getElem?_eq_getElem hil]; rfl
      refine ⟨y, ?_⟩
      rw [List.drop_zero, List.take_of_length_le (by rw [hlen, hT.cellsOf]; simp)] at hy
      exact hy
end
end Go.Refl
