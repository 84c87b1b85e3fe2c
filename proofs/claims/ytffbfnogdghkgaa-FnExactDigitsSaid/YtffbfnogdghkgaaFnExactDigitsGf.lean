/- Functions of the program, told by the evaluator: printed by a program of this claim. No condition. -/
import Derived.Test.YtffbfnogdghkgaaFnExactDigitsGt
namespace Go.Refl
open Go.RowKit Go.Proofs
set_option linter.unusedVariables false
set_option maxRecDepth 100000
/-! spec.Digits -/
noncomputable def spec_Digits_b : Code := bd Try.f11
@[reducible] def spec_Digits_t0 : Tm := ⟨[], [], [(0, .sc true tI), (3, .sc true tB), (4, .sc true tS)], [], [3, 4], []⟩
def spec_Digits_T : List (Nat × Tm) := [(0, spec_Digits_t0)]
noncomputable def spec_Digits_E : Env := ⟨tt0, []⟩
noncomputable def spec_Digits_F : PsD [.ro tI] → Option (RsD [.own tS] × PsO [.ro tI]) := fun x => evFn spec_Digits_E spec_Digits_T Try.f11 spec_Digits_b [.ro tI] [.own tS] x
@[reducible] noncomputable def spec_Digits_C : Ct := ⟨[.ro tI], [.own tS], spec_Digits_F⟩
theorem spec_Digits_h (x : PsD [.ro tI]) (y : RsD [.own tS] × PsO [.ro tI]) (h : spec_Digits_F x = some y) : evFn spec_Digits_E spec_Digits_T Try.f11 spec_Digits_b [.ro tI] [.own tS] x = some y := h
theorem spec_Digits_c : ∀ f c, get spec_Digits_E.ct f = some c → Sat Try.prog f c := ct_nil
theorem spec_Digits_S : Sat Try.prog 11 spec_Digits_C := fn_ok2 (envOk _) spec_Digits_c mixedOk Try.func11 (by kernel_rfl : Try.f11.body = some spec_Digits_b) (by kernel_rfl) (by kernel_rfl) spec_Digits_h
noncomputable def spec_Digits_Ke  (x0 : Int) : Ex → AS → Option (RsD [.own tS] × PsO [.ro tI]) := endK spec_Digits_E Try.f11 [.ro tI] [.own tS] (initL [.ro tI] (x0, ()) 0).1
noncomputable def spec_Digits_B0 {R : Type} : AS → (Ex → AS → Option R) → Option R := fun A K => ev spec_Digits_E spec_Digits_T 0 (cA (cA (cA (cB (cB (cB (cB spec_Digits_b))))))) A K
noncomputable def spec_Digits_K0  (x0 : Int) : Ex → AS → Option (RsD [.own tS] × PsO [.ro tI]) := kBlk 0 (kSeq (fun A K => ev spec_Digits_E spec_Digits_T 1000 (cB (cB (cB (cB (cB spec_Digits_b))))) A K) (spec_Digits_Ke x0))
noncomputable def spec_Digits_x0_0 (d0 : Bool) (d1 : List Int) : AS := ⟨[(3, .v (.one (.d true tB d0))), (4, .v (.one (.d true tS d1)))], []⟩
theorem spec_Digits_l0 {R : Type} {K : Ex → AS → Option R} {s : spec_Digits_t0.D} (n : Nat) {v : Option R} (h : iterG spec_Digits_t0 spec_Digits_B0 K n s = v) (hv : ∃ r, v = some r) : loopG spec_Digits_t0 spec_Digits_B0 K s = v := loop_eq (ev_mono _ _) n h hv
theorem spec_Digits_main (x0 : Int) : spec_Digits_F (x0, ()) =
 brk (decide (x0 = (0 : Int)))
 (some ((([48] : List Int), ()), ((), ())))
 (loopG spec_Digits_t0 spec_Digits_B0 (spec_Digits_K0 x0) ((x0, (decide (x0 < (0 : Int)), (([] : List Int), ()))), ())) := by kernel_rfl
theorem spec_Digits_r0 {R : Type} (K : Ex → AS → Option R) (n : Nat) (t0 : Int) (t3 : Bool) (t4 : List Int) : iterG spec_Digits_t0 spec_Digits_B0 K (n + 1) ((t0, (t3, (t4, ()))), ()) =
 brk (!decide (t0 = (0 : Int)))
 (brk (decide (t0.tmod (10 : Int) < (0 : Int)))
 (ck (decide ([IntKind.u8.wrap (IntKind.i64.wrap ((48 : Int) + (IntKind.i64.wrap ((0 : Int) - (t0.tmod (10 : Int))))))].length + t4.length ≤ big47)) (iterG spec_Digits_t0 spec_Digits_B0 K n ((IntKind.i64.wrap (t0.tdiv (10 : Int)), (t3, ([IntKind.u8.wrap (IntKind.i64.wrap ((48 : Int) + (IntKind.i64.wrap ((0 : Int) - (t0.tmod (10 : Int))))))] ++ t4, ()))), ())))
 (ck (decide ([IntKind.u8.wrap (IntKind.i64.wrap ((48 : Int) + (t0.tmod (10 : Int))))].length + t4.length ≤ big47)) (iterG spec_Digits_t0 spec_Digits_B0 K n ((IntKind.i64.wrap (t0.tdiv (10 : Int)), (t3, ([IntKind.u8.wrap (IntKind.i64.wrap ((48 : Int) + (t0.tmod (10 : Int))))] ++ t4, ()))), ()))))
 (K (.exit 0) (spec_Digits_x0_0 t3 t4)) := by kernel_rfl
theorem spec_Digits_e0_0 (x0 : Int) (d0 : Bool) (d1 : List Int) : spec_Digits_K0 x0 (.exit 0) (spec_Digits_x0_0 d0 d1) =
 brk d0
 (ck (decide (([45] : List Int).length + d1.length ≤ big47)) (some ((([45] : List Int) ++ d1, ()), ((), ()))))
 (some ((d1, ()), ((), ()))) := by kernel_rfl
/-! impl.Digits -/
noncomputable def impl_Digits_b : Code := bd Try.f12
def impl_Digits_T : List (Nat × Tm) := []
noncomputable def impl_Digits_E (F : PsD [.ro tI] → Option (RsD [.own tS] × PsO [.ro tI])) : Env := ⟨tt0, [(12, ⟨[.ro tI], [.own tS], F⟩)]⟩
noncomputable def impl_Digits_step (F : PsD [.ro tI] → Option (RsD [.own tS] × PsO [.ro tI])) : PsD [.ro tI] → Option (RsD [.own tS] × PsO [.ro tI]) := fun x => evFn (impl_Digits_E F) impl_Digits_T Try.f12 impl_Digits_b [.ro tI] [.own tS] x
noncomputable def impl_Digits_it : Nat → PsD [.ro tI] → Option (RsD [.own tS] × PsO [.ro tI])
  | 0 => fun _ => none
  | k + 1 => impl_Digits_step (impl_Digits_it k)
noncomputable def impl_Digits_F : PsD [.ro tI] → Option (RsD [.own tS] × PsO [.ro tI]) := impl_Digits_it 24
@[reducible] noncomputable def impl_Digits_C : Ct := ⟨[.ro tI], [.own tS], impl_Digits_F⟩
theorem impl_Digits_i : ∀ k, Sat Try.prog 12 ⟨[.ro tI], [.own tS], impl_Digits_it k⟩
  | 0 => fn_ok2 (TM := []) (envOk []) ct_nil mixedOk Try.func12 (by kernel_rfl : Try.f12.body = some impl_Digits_b) (by kernel_rfl) (by kernel_rfl) (fun x y h => nomatch h)
  | k + 1 => fn_ok2 (TM := impl_Digits_T) (envOk _) (ct_cons (impl_Digits_i k) (ct_nil)) mixedOk Try.func12 (by kernel_rfl : Try.f12.body = some impl_Digits_b) (by kernel_rfl) (by kernel_rfl) (fun x y h => h)
theorem impl_Digits_S : Sat Try.prog 12 impl_Digits_C := impl_Digits_i 24
theorem impl_Digits_main (F : PsD [.ro tI] → Option (RsD [.own tS] × PsO [.ro tI])) (x0 : Int) : impl_Digits_step F (x0, ()) =
 brk (decide (x0 < (0 : Int)))
 (brk (decide ((-10 : Int) < x0))
 ((F (IntKind.i64.wrap (0 - x0), ())).bind fun y12 =>
 ck (decide (([45] : List Int).length + y12.1.1.length ≤ big47)) (some ((([45] : List Int) ++ y12.1.1, ()), ((), ()))))
 (brk (decide (x0 < (0 : Int)))
 ((F (IntKind.i64.wrap (x0.tdiv (10 : Int)), ())).bind fun y19 =>
 (F (IntKind.i64.wrap (0 - (x0.tmod (10 : Int))), ())).bind fun y23 =>
 ck (decide (y19.1.1.length + y23.1.1.length ≤ big47)) (some ((y19.1.1 ++ y23.1.1, ()), ((), ()))))
 (brk (decide (x0 < (10 : Int)))
 (ck (decide (0 ≤ IntKind.i32.wrap (IntKind.i64.wrap ((48 : Int) + x0))) && decide (IntKind.i32.wrap (IntKind.i64.wrap ((48 : Int) + x0)) < 128)) (some (([IntKind.i32.wrap (IntKind.i64.wrap ((48 : Int) + x0))], ()), ((), ()))))
 ((F (IntKind.i64.wrap (x0.tdiv (10 : Int)), ())).bind fun y34 =>
 ck (decide (0 ≤ IntKind.i32.wrap (IntKind.i64.wrap ((48 : Int) + (x0.tmod (10 : Int))))) && decide (IntKind.i32.wrap (IntKind.i64.wrap ((48 : Int) + (x0.tmod (10 : Int)))) < 128)) (ck (decide (y34.1.1.length + [IntKind.i32.wrap (IntKind.i64.wrap ((48 : Int) + (x0.tmod (10 : Int))))].length ≤ big47)) (some ((y34.1.1 ++ [IntKind.i32.wrap (IntKind.i64.wrap ((48 : Int) + (x0.tmod (10 : Int))))], ()), ((), ()))))))))
 (brk (decide (x0 < (0 : Int)))
 ((F (IntKind.i64.wrap (x0.tdiv (10 : Int)), ())).bind fun y19 =>
 (F (IntKind.i64.wrap (0 - (x0.tmod (10 : Int))), ())).bind fun y23 =>
 ck (decide (y19.1.1.length + y23.1.1.length ≤ big47)) (some ((y19.1.1 ++ y23.1.1, ()), ((), ()))))
 (brk (decide (x0 < (10 : Int)))
 (ck (decide (0 ≤ IntKind.i32.wrap (IntKind.i64.wrap ((48 : Int) + x0))) && decide (IntKind.i32.wrap (IntKind.i64.wrap ((48 : Int) + x0)) < 128)) (some (([IntKind.i32.wrap (IntKind.i64.wrap ((48 : Int) + x0))], ()), ((), ()))))
 ((F (IntKind.i64.wrap (x0.tdiv (10 : Int)), ())).bind fun y34 =>
 ck (decide (0 ≤ IntKind.i32.wrap (IntKind.i64.wrap ((48 : Int) + (x0.tmod (10 : Int))))) && decide (IntKind.i32.wrap (IntKind.i64.wrap ((48 : Int) + (x0.tmod (10 : Int)))) < 128)) (ck (decide (y34.1.1.length + [IntKind.i32.wrap (IntKind.i64.wrap ((48 : Int) + (x0.tmod (10 : Int))))].length ≤ big47)) (some ((y34.1.1 ++ [IntKind.i32.wrap (IntKind.i64.wrap ((48 : Int) + (x0.tmod (10 : Int))))], ()), ((), ()))))))) := by kernel_rfl
/-! laws.FnExactDigits -/
noncomputable def laws_FnExactDigits_b : Code := bd Try.f3
def laws_FnExactDigits_T : List (Nat × Tm) := []
noncomputable def laws_FnExactDigits_E : Env := ⟨tt0, [(11, spec_Digits_C), (12, impl_Digits_C)]⟩
noncomputable def laws_FnExactDigits_F : PsD [.ro tI] → Option (RsD [.own tB] × PsO [.ro tI]) := fun x => evFn laws_FnExactDigits_E laws_FnExactDigits_T Try.f3 laws_FnExactDigits_b [.ro tI] [.own tB] x
@[reducible] noncomputable def laws_FnExactDigits_C : Ct := ⟨[.ro tI], [.own tB], laws_FnExactDigits_F⟩
theorem laws_FnExactDigits_h (x : PsD [.ro tI]) (y : RsD [.own tB] × PsO [.ro tI]) (h : laws_FnExactDigits_F x = some y) : evFn laws_FnExactDigits_E laws_FnExactDigits_T Try.f3 laws_FnExactDigits_b [.ro tI] [.own tB] x = some y := h
theorem laws_FnExactDigits_c : ∀ f c, get laws_FnExactDigits_E.ct f = some c → Sat Try.prog f c := ct_cons spec_Digits_S (ct_cons impl_Digits_S (ct_nil))
theorem laws_FnExactDigits_S : Sat Try.prog 3 laws_FnExactDigits_C := fn_ok2 (envOk _) laws_FnExactDigits_c mixedOk Try.func3 (by kernel_rfl : Try.f3.body = some laws_FnExactDigits_b) (by kernel_rfl) (by kernel_rfl) laws_FnExactDigits_h
noncomputable def laws_FnExactDigits_Ke  (x0 : Int) : Ex → AS → Option (RsD [.own tB] × PsO [.ro tI]) := endK laws_FnExactDigits_E Try.f3 [.ro tI] [.own tB] (initL [.ro tI] (x0, ()) 0).1
theorem laws_FnExactDigits_main (x0 : Int) : laws_FnExactDigits_F (x0, ()) =
 (spec_Digits_F (x0, ())).bind fun y6 =>
 (impl_Digits_F (x0, ())).bind fun y8 =>
 brk (!decide (y8.1.1 = y6.1.1))
 (some ((false, ()), ((), ())))
 (some ((true, ()), ((), ()))) := by kernel_rfl
end Go.Refl
