/- A law, from its contract. No program in sight. No condition. -/
import Derived.Test.YthmaaogfmakohaaRfO
namespace Go.Refl
open Go.RowKit
open Go.ChangeShapes Go.WideShapes
set_option linter.unusedVariables false
set_option linter.unusedSimpArgs false

section
variable {P : Program} {W : World} {H : Type} {enc : TypeId × Value → H} {base : Nat} {spare : Nat → Bool} {held : Bool}
theorem open_arg {E : Env} (hE : EnvOk P E) (hb : bytesPos E.tt = true) {t : TypeId} {T : Ty} {b : Nat} (ht : get E.tt t = some (T, b)) {v : Value} {d : DataW H} {ps : List MemPlace} {r : Reach} {b0 : Nat} (hv : Value.okWide P W r b0 t v) (h : DataW.Trod enc P W base spare held t v d ps)
    {ts : List TypeId} {ds : List (DataW H)} {j : Nat} (hsz : (DataW.weightsEach P ts ds).all (· ≤ reachBytes) = true) (htj : ts[j]? = some t) (hdj : ds[j]? = some d) : ∃ y : T.D, (∃ cs, v = shapeV T cs ∧ Ro (fun _ => True) W T y cs) ∧ Ok T y := by
  obtain ⟨fuel, hf⟩ := h
  have hT := hE.ty t T b ht
  obtain ⟨y, hy⟩ := open_ro hE hb fuel t T b _ _ ht hf fun n hn => by
    have := List.all_eq_true.1 hsz n (DataW.weights_mem_each htj hdj n hn)
    simpa using this
  refine ⟨y, ⟨_, ?_, hy⟩, hy.ok⟩
  have hu := hT.und
  cases T with
  | int k => obtain ⟨n, rfl⟩ := okWide_int hu hv; rfl
  | bool => obtain ⟨n, rfl⟩ := okWide_bool hu hv; rfl
  | str => obtain ⟨n, rfl⟩ := okWide_string hu hv; rfl
  | sl e t' => obtain ⟨a, n, c, rfl⟩ := okWide_slice hu.1 hv; rfl
  | unit => exact absurd rfl hT.pos
  | pair ta tb =>
    obtain ⟨fs, hu, _⟩ := hu
    obtain ⟨cs, rfl, _⟩ := okWide_struct hu hv
    simp [shapeV, Ty.one, Value.cells]
/-- What a law's contract says of a call. -/
theorem law_ok {f : FuncId} {ps : List Pm} {F : PsD ps → Option (RsD [.own .bool] × PsO ps)} (hS : Sat P f ⟨ps, [.own .bool], F⟩) {vs : List Value} {x : PsD ps} (ha : ArgsR (fun _ => True) W ps x vs []) (hF : ∃ o, F x = some ((true, ()), o)) :
    Calls P f vs.toArray W fun e W' => e = .returned (.bool true) ∧ Below W.heap.size W W' := by
  obtain ⟨o, hF⟩ := hF
  refine (hS.calls x _ hF W vs [] (fun _ => True) ha (by simp) List.nodup_nil (by simp)).mono ?_
  rintro e W' ⟨rv, fr, fo, rfl, hK, hres, _⟩
  obtain ⟨v, us, f1, f2, rfl, _, ⟨cs, rfl, hown⟩, hnil⟩ := hres
  obtain ⟨rfl, _⟩ := hnil
  obtain ⟨rfl, _⟩ := hown
  exact ⟨rfl, hK.below⟩
theorem argR_ro {T : Ty} {y : T.D} {v : Value} (h : ∃ cs, v = shapeV T cs ∧ Ro (fun _ => True) W T y cs) {ps : List Pm} {x : PsD ps} {vs : List Value} (hr : ArgsR (fun _ => True) W ps x vs []) : ArgsR (fun _ => True) W (.ro T :: ps) (y, x) (v :: vs) [] :=
  ⟨v, vs, [], [], rfl, rfl, ⟨h, rfl⟩, hr⟩
theorem argR_nil : ArgsR (fun _ => True) W [] () [] [] := ⟨rfl, rfl⟩
end
end Go.Refl
