/- Functions of the program, told by the evaluator: printed by a program of this claim. No condition. -/
import Derived.Test.YtfikbjbijpbdkaaFnMarksAlgebraGt
namespace Go.Refl
open Go.RowKit Go.Proofs
set_option linter.unusedVariables false
set_option maxRecDepth 100000
/-! laws.big -/
noncomputable def laws_big_b : Code := bd Try.f15
def laws_big_T : List (Nat × Tm) := []
noncomputable def laws_big_E : Env := ⟨tt0, []⟩
noncomputable def laws_big_F : PsD [.ro tYs] → Option (RsD [.own tB] × PsO [.ro tYs]) := fun x => evFn laws_big_E laws_big_T Try.f15 laws_big_b [.ro tYs] [.own tB] x
@[reducible] noncomputable def laws_big_C : Ct := ⟨[.ro tYs], [.own tB], laws_big_F⟩
theorem laws_big_h (x : PsD [.ro tYs]) (y : RsD [.own tB] × PsO [.ro tYs]) (h : laws_big_F x = some y) : evFn laws_big_E laws_big_T Try.f15 laws_big_b [.ro tYs] [.own tB] x = some y := h
theorem laws_big_c : ∀ f c, get laws_big_E.ct f = some c → Sat Try.prog f c := ct_nil
theorem laws_big_S : Sat Try.prog 15 laws_big_C := fn_ok2 (envOk _) laws_big_c mixedOk Try.func15 (by kernel_rfl : Try.f15.body = some laws_big_b) (by kernel_rfl) (by kernel_rfl) laws_big_h
noncomputable def laws_big_Ke  (x0 : List Int) : Ex → AS → Option (RsD [.own tB] × PsO [.ro tYs]) := endK laws_big_E Try.f15 [.ro tYs] [.own tB] (initL [.ro tYs] (x0, ()) 0).1
theorem laws_big_main (x0 : List Int) : laws_big_F (x0, ()) =
 some ((decide ((1048576 : Int) < (x0.length : Int)), ()), ((), ())) := by kernel_rfl
/-! spec.l1In -/
noncomputable def spec_l1In_b : Code := bd Try.f101
def spec_l1In_T : List (Nat × Tm) := []
noncomputable def spec_l1In_E : Env := ⟨tt0, []⟩
noncomputable def spec_l1In_F : PsD [.ro tI, .ro tI, .ro tI] → Option (RsD [.own tB] × PsO [.ro tI, .ro tI, .ro tI]) := fun x => evFn spec_l1In_E spec_l1In_T Try.f101 spec_l1In_b [.ro tI, .ro tI, .ro tI] [.own tB] x
@[reducible] noncomputable def spec_l1In_C : Ct := ⟨[.ro tI, .ro tI, .ro tI], [.own tB], spec_l1In_F⟩
theorem spec_l1In_h (x : PsD [.ro tI, .ro tI, .ro tI]) (y : RsD [.own tB] × PsO [.ro tI, .ro tI, .ro tI]) (h : spec_l1In_F x = some y) : evFn spec_l1In_E spec_l1In_T Try.f101 spec_l1In_b [.ro tI, .ro tI, .ro tI] [.own tB] x = some y := h
theorem spec_l1In_c : ∀ f c, get spec_l1In_E.ct f = some c → Sat Try.prog f c := ct_nil
theorem spec_l1In_S : Sat Try.prog 101 spec_l1In_C := fn_ok2 (envOk _) spec_l1In_c mixedOk Try.func101 (by kernel_rfl : Try.f101.body = some spec_l1In_b) (by kernel_rfl) (by kernel_rfl) spec_l1In_h
noncomputable def spec_l1In_Ke  (x0 : Int) (x1 : Int) (x2 : Int) : Ex → AS → Option (RsD [.own tB] × PsO [.ro tI, .ro tI, .ro tI]) := endK spec_l1In_E Try.f101 [.ro tI, .ro tI, .ro tI] [.own tB] (initL [.ro tI, .ro tI, .ro tI] (x0, (x1, (x2, ()))) 0).1
theorem spec_l1In_main (x0 : Int) (x1 : Int) (x2 : Int) : spec_l1In_F (x0, (x1, (x2, ()))) =
 brk (decide (x1 ≤ x0))
 (some ((decide (x0 ≤ x2), ()), ((), ((), ((), ())))))
 (some ((false, ()), ((), ((), ((), ()))))) := by kernel_rfl
/-! spec.l2Has -/
noncomputable def spec_l2Has_b : Code := bd Try.f107
@[reducible] def spec_l2Has_t0 : Tm := ⟨[], [], [(0, .sc true tIs), (1, .sc true tI), (5, .sc true tI)], [], [4], []⟩
def spec_l2Has_T : List (Nat × Tm) := [(0, spec_l2Has_t0)]
noncomputable def spec_l2Has_E : Env := ⟨tt0, []⟩
noncomputable def spec_l2Has_F : PsD [.ro tIs, .ro tI] → Option (RsD [.own tB] × PsO [.ro tIs, .ro tI]) := fun x => evFn spec_l2Has_E spec_l2Has_T Try.f107 spec_l2Has_b [.ro tIs, .ro tI] [.own tB] x
@[reducible] noncomputable def spec_l2Has_C : Ct := ⟨[.ro tIs, .ro tI], [.own tB], spec_l2Has_F⟩
theorem spec_l2Has_h (x : PsD [.ro tIs, .ro tI]) (y : RsD [.own tB] × PsO [.ro tIs, .ro tI]) (h : spec_l2Has_F x = some y) : evFn spec_l2Has_E spec_l2Has_T Try.f107 spec_l2Has_b [.ro tIs, .ro tI] [.own tB] x = some y := h
theorem spec_l2Has_c : ∀ f c, get spec_l2Has_E.ct f = some c → Sat Try.prog f c := ct_nil
theorem spec_l2Has_S : Sat Try.prog 107 spec_l2Has_C := fn_ok2 (envOk _) spec_l2Has_c mixedOk Try.func107 (by kernel_rfl : Try.f107.body = some spec_l2Has_b) (by kernel_rfl) (by kernel_rfl) spec_l2Has_h
noncomputable def spec_l2Has_Ke  (x0 : List Int) (x1 : Int) : Ex → AS → Option (RsD [.own tB] × PsO [.ro tIs, .ro tI]) := endK spec_l2Has_E Try.f107 [.ro tIs, .ro tI] [.own tB] (initL [.ro tIs, .ro tI] (x0, (x1, ())) 0).1
noncomputable def spec_l2Has_B0 {R : Type} : AS → (Ex → AS → Option R) → Option R := fun A K => ev spec_l2Has_E spec_l2Has_T 0 (cA (cA (cB (cA (cB spec_l2Has_b))))) A K
noncomputable def spec_l2Has_K0  (x0 : List Int) (x1 : Int) : Ex → AS → Option (RsD [.own tB] × PsO [.ro tIs, .ro tI]) := kBlk 0 (kSeq (fun A K => ev spec_l2Has_E spec_l2Has_T 1000 (cB (cB spec_l2Has_b)) A K) (spec_l2Has_Ke x0 x1))
noncomputable def spec_l2Has_x0_0 (d0 : Bool) : AS := ⟨[(4, .v (.one (.d true tB d0)))], []⟩
noncomputable def spec_l2Has_x0_1 : AS := ⟨[], []⟩
theorem spec_l2Has_l0 {R : Type} {K : Ex → AS → Option R} {s : spec_l2Has_t0.D} (n : Nat) {v : Option R} (h : iterG spec_l2Has_t0 spec_l2Has_B0 K n s = v) (hv : ∃ r, v = some r) : loopG spec_l2Has_t0 spec_l2Has_B0 K s = v := loop_eq (ev_mono _ _) n h hv
theorem spec_l2Has_main (x0 : List Int) (x1 : Int) : spec_l2Has_F (x0, (x1, ())) =
 loopG spec_l2Has_t0 spec_l2Has_B0 (spec_l2Has_K0 x0 x1) ((x0, (x1, ((0 : Int), ()))), ()) := by kernel_rfl
theorem spec_l2Has_r0 {R : Type} (K : Ex → AS → Option R) (n : Nat) (t0 : List Int) (t1 : Int) (t5 : Int) : iterG spec_l2Has_t0 spec_l2Has_B0 K (n + 1) ((t0, (t1, (t5, ()))), ()) =
 brk (decide (t5 < (t0.length : Int)))
 (ck (decide (0 ≤ t5) && decide (t5 < t0.length)) (brk (decide (rdD tI t0 t5 = t1))
 (K .ret (spec_l2Has_x0_0 true))
 (iterG spec_l2Has_t0 spec_l2Has_B0 K n ((t0, (t1, (IntKind.i64.wrap (t5 + (1 : Int)), ()))), ()))))
 (K (.exit 0) (spec_l2Has_x0_1)) := by kernel_rfl
theorem spec_l2Has_e0_0 (x0 : List Int) (x1 : Int) (d0 : Bool) : spec_l2Has_K0 x0 x1 .ret (spec_l2Has_x0_0 d0) =
 some ((d0, ()), ((), ((), ()))) := by kernel_rfl
theorem spec_l2Has_e0_1 (x0 : List Int) (x1 : Int) : spec_l2Has_K0 x0 x1 (.exit 0) (spec_l2Has_x0_1) =
 some ((false, ()), ((), ((), ()))) := by kernel_rfl
/-! spec.Mark -/
noncomputable def spec_Mark_b : Code := bd Try.f33
@[reducible] def spec_Mark_t0 : Tm := ⟨[], [], [(0, .sc true tIs), (1, .sc true tI), (5, .sc true tI)], [], [0, 1, 5], []⟩
def spec_Mark_T : List (Nat × Tm) := [(0, spec_Mark_t0)]
noncomputable def spec_Mark_E : Env := ⟨tt0, [(101, spec_l1In_C), (107, spec_l2Has_C)]⟩
noncomputable def spec_Mark_F : PsD [.ro tIs, .ro tI] → Option (RsD [.own tIs] × PsO [.ro tIs, .ro tI]) := fun x => evFn spec_Mark_E spec_Mark_T Try.f33 spec_Mark_b [.ro tIs, .ro tI] [.own tIs] x
@[reducible] noncomputable def spec_Mark_C : Ct := ⟨[.ro tIs, .ro tI], [.own tIs], spec_Mark_F⟩
theorem spec_Mark_h (x : PsD [.ro tIs, .ro tI]) (y : RsD [.own tIs] × PsO [.ro tIs, .ro tI]) (h : spec_Mark_F x = some y) : evFn spec_Mark_E spec_Mark_T Try.f33 spec_Mark_b [.ro tIs, .ro tI] [.own tIs] x = some y := h
theorem spec_Mark_c : ∀ f c, get spec_Mark_E.ct f = some c → Sat Try.prog f c := ct_cons spec_l1In_S (ct_cons spec_l2Has_S (ct_nil))
theorem spec_Mark_S : Sat Try.prog 33 spec_Mark_C := fn_ok2 (envOk _) spec_Mark_c mixedOk Try.func33 (by kernel_rfl : Try.f33.body = some spec_Mark_b) (by kernel_rfl) (by kernel_rfl) spec_Mark_h
noncomputable def spec_Mark_Ke  (x0 : List Int) (x1 : Int) : Ex → AS → Option (RsD [.own tIs] × PsO [.ro tIs, .ro tI]) := endK spec_Mark_E Try.f33 [.ro tIs, .ro tI] [.own tIs] (initL [.ro tIs, .ro tI] (x0, (x1, ())) 0).1
noncomputable def spec_Mark_B0 {R : Type} : AS → (Ex → AS → Option R) → Option R := fun A K => ev spec_Mark_E spec_Mark_T 0 (cA (cA (cA (cB (cB (cB spec_Mark_b)))))) A K
noncomputable def spec_Mark_K0  (x0 : List Int) (x1 : Int) : Ex → AS → Option (RsD [.own tIs] × PsO [.ro tIs, .ro tI]) := kBlk 0 (kSeq (fun A K => ev spec_Mark_E spec_Mark_T 1000 (cB (cB (cB (cB spec_Mark_b)))) A K) (spec_Mark_Ke x0 x1))
noncomputable def spec_Mark_x0_0 (d0 : List Int) (d1 : Int) (d2 : Int) : AS := ⟨[(0, .v (.one (.d true tIs d0))), (1, .v (.one (.d true tI d1))), (5, .v (.one (.d true tI d2)))], []⟩
theorem spec_Mark_l0 {R : Type} {K : Ex → AS → Option R} {s : spec_Mark_t0.D} (n : Nat) {v : Option R} (h : iterG spec_Mark_t0 spec_Mark_B0 K n s = v) (hv : ∃ r, v = some r) : loopG spec_Mark_t0 spec_Mark_B0 K s = v := loop_eq (ev_mono _ _) n h hv
theorem spec_Mark_main (x0 : List Int) (x1 : Int) : spec_Mark_F (x0, (x1, ())) =
 (spec_l2Has_F (x0, (x1, ()))).bind fun y9 =>
 brk y9.1.1
 (ck (decide ((([] : List Int).length + x0.length) * 8 ≤ big47)) (some ((([] : List Int) ++ x0, ()), ((), ((), ())))))
 ((spec_l1In_F (x1, ((0 : Int), ((7 : Int), ())))).bind fun y12 =>
 brk (!y12.1.1)
 (ck (decide ((([] : List Int).length + x0.length) * 8 ≤ big47)) (some ((([] : List Int) ++ x0, ()), ((), ((), ())))))
 (loopG spec_Mark_t0 spec_Mark_B0 (spec_Mark_K0 x0 x1) ((x0, (x1, ((0 : Int), ()))), ()))) := by kernel_rfl
theorem spec_Mark_r0 {R : Type} (K : Ex → AS → Option R) (n : Nat) (t0 : List Int) (t1 : Int) (t5 : Int) : iterG spec_Mark_t0 spec_Mark_B0 K (n + 1) ((t0, (t1, (t5, ()))), ()) =
 brk (decide (t5 < (t0.length : Int)))
 (ck (decide (0 ≤ t5) && decide (t5 < t0.length)) (brk (decide (rdD tI t0 t5 < t1))
 (iterG spec_Mark_t0 spec_Mark_B0 K n ((t0, (t1, (IntKind.i64.wrap (t5 + (1 : Int)), ()))), ()))
 (K (.exit 0) (spec_Mark_x0_0 t0 t1 t5))))
 (K (.exit 0) (spec_Mark_x0_0 t0 t1 t5)) := by kernel_rfl
theorem spec_Mark_e0_0 (x0 : List Int) (x1 : Int) (d0 : List Int) (d1 : Int) (d2 : Int) : spec_Mark_K0 x0 x1 (.exit 0) (spec_Mark_x0_0 d0 d1 d2) =
 ck (decide (0 ≤ (0 : Int)) && decide ((0 : Int) ≤ d2) && decide (d2 ≤ d0.length)) (ck (decide ((([] : List Int).length + ((d0.take d2.toNat).drop (0 : Int).toNat).length) * 8 ≤ big47)) (ck (decide (((([] : List Int) ++ ((d0.take d2.toNat).drop (0 : Int).toNat)).length + [d1].length) * 8 ≤ big47)) (ck (decide (0 ≤ d2) && decide (d2 ≤ (d0.length : Int)) && decide ((d0.length : Int) ≤ d0.length)) (ck (decide ((((([] : List Int) ++ ((d0.take d2.toNat).drop (0 : Int).toNat)) ++ [d1]).length + ((d0.take (d0.length : Int).toNat).drop d2.toNat).length) * 8 ≤ big47)) (some ((((([] : List Int) ++ ((d0.take d2.toNat).drop (0 : Int).toNat)) ++ [d1]) ++ ((d0.take (d0.length : Int).toNat).drop d2.toNat), ()), ((), ((), ())))))))) := by kernel_rfl
/-! impl.from -/
noncomputable def impl_from_b : Code := bd Try.f114
def impl_from_T : List (Nat × Tm) := []
noncomputable def impl_from_E : Env := ⟨tt0, []⟩
noncomputable def impl_from_F : PsD [.ro tI, .ro tI, .ro tI] → Option (RsD [.own tB] × PsO [.ro tI, .ro tI, .ro tI]) := fun x => evFn impl_from_E impl_from_T Try.f114 impl_from_b [.ro tI, .ro tI, .ro tI] [.own tB] x
@[reducible] noncomputable def impl_from_C : Ct := ⟨[.ro tI, .ro tI, .ro tI], [.own tB], impl_from_F⟩
theorem impl_from_h (x : PsD [.ro tI, .ro tI, .ro tI]) (y : RsD [.own tB] × PsO [.ro tI, .ro tI, .ro tI]) (h : impl_from_F x = some y) : evFn impl_from_E impl_from_T Try.f114 impl_from_b [.ro tI, .ro tI, .ro tI] [.own tB] x = some y := h
theorem impl_from_c : ∀ f c, get impl_from_E.ct f = some c → Sat Try.prog f c := ct_nil
theorem impl_from_S : Sat Try.prog 114 impl_from_C := fn_ok2 (envOk _) impl_from_c mixedOk Try.func114 (by kernel_rfl : Try.f114.body = some impl_from_b) (by kernel_rfl) (by kernel_rfl) impl_from_h
noncomputable def impl_from_Ke  (x0 : Int) (x1 : Int) (x2 : Int) : Ex → AS → Option (RsD [.own tB] × PsO [.ro tI, .ro tI, .ro tI]) := endK impl_from_E Try.f114 [.ro tI, .ro tI, .ro tI] [.own tB] (initL [.ro tI, .ro tI, .ro tI] (x0, (x1, (x2, ()))) 0).1
theorem impl_from_main (x0 : Int) (x1 : Int) (x2 : Int) : impl_from_F (x0, (x1, (x2, ()))) =
 brk (decide (x1 ≤ x0))
 (some ((decide (x0 ≤ x2), ()), ((), ((), ((), ())))))
 (some ((false, ()), ((), ((), ((), ()))))) := by kernel_rfl
/-! impl.isCell -/
noncomputable def impl_isCell_b : Code := bd Try.f108
def impl_isCell_T : List (Nat × Tm) := []
noncomputable def impl_isCell_E : Env := ⟨tt0, [(114, impl_from_C)]⟩
noncomputable def impl_isCell_F : PsD [.ro tI] → Option (RsD [.own tB] × PsO [.ro tI]) := fun x => evFn impl_isCell_E impl_isCell_T Try.f108 impl_isCell_b [.ro tI] [.own tB] x
@[reducible] noncomputable def impl_isCell_C : Ct := ⟨[.ro tI], [.own tB], impl_isCell_F⟩
theorem impl_isCell_h (x : PsD [.ro tI]) (y : RsD [.own tB] × PsO [.ro tI]) (h : impl_isCell_F x = some y) : evFn impl_isCell_E impl_isCell_T Try.f108 impl_isCell_b [.ro tI] [.own tB] x = some y := h
theorem impl_isCell_c : ∀ f c, get impl_isCell_E.ct f = some c → Sat Try.prog f c := ct_cons impl_from_S (ct_nil)
theorem impl_isCell_S : Sat Try.prog 108 impl_isCell_C := fn_ok2 (envOk _) impl_isCell_c mixedOk Try.func108 (by kernel_rfl : Try.f108.body = some impl_isCell_b) (by kernel_rfl) (by kernel_rfl) impl_isCell_h
noncomputable def impl_isCell_Ke  (x0 : Int) : Ex → AS → Option (RsD [.own tB] × PsO [.ro tI]) := endK impl_isCell_E Try.f108 [.ro tI] [.own tB] (initL [.ro tI] (x0, ()) 0).1
theorem impl_isCell_main (x0 : Int) : impl_isCell_F (x0, ()) =
 (impl_from_F (x0, ((0 : Int), ((7 : Int), ())))).bind fun y4 =>
 some ((y4.1.1, ()), ((), ())) := by kernel_rfl
/-! slices.Clone[[]int,int] -/
noncomputable def slices_Clone_int_b : Code := bd Try.f109
def slices_Clone_int_T : List (Nat × Tm) := []
noncomputable def slices_Clone_int_E : Env := ⟨tt0, []⟩
noncomputable def slices_Clone_int_F : PsD [.ro tIs] → Option (RsD [.own tIs] × PsO [.ro tIs]) := fun x => evFn slices_Clone_int_E slices_Clone_int_T Try.f109 slices_Clone_int_b [.ro tIs] [.own tIs] x
@[reducible] noncomputable def slices_Clone_int_C : Ct := ⟨[.ro tIs], [.own tIs], slices_Clone_int_F⟩
theorem slices_Clone_int_h (x : PsD [.ro tIs]) (y : RsD [.own tIs] × PsO [.ro tIs]) (h : slices_Clone_int_F x = some y) : evFn slices_Clone_int_E slices_Clone_int_T Try.f109 slices_Clone_int_b [.ro tIs] [.own tIs] x = some y := h
theorem slices_Clone_int_c : ∀ f c, get slices_Clone_int_E.ct f = some c → Sat Try.prog f c := ct_nil
theorem slices_Clone_int_S : Sat Try.prog 109 slices_Clone_int_C := fn_ok2 (envOk _) slices_Clone_int_c mixedOk Try.func109 (by kernel_rfl : Try.f109.body = some slices_Clone_int_b) (by kernel_rfl) (by kernel_rfl) slices_Clone_int_h
noncomputable def slices_Clone_int_Ke  (x0 : List Int) : Ex → AS → Option (RsD [.own tIs] × PsO [.ro tIs]) := endK slices_Clone_int_E Try.f109 [.ro tIs] [.own tIs] (initL [.ro tIs] (x0, ()) 0).1
theorem slices_Clone_int_main (x0 : List Int) : slices_Clone_int_F (x0, ()) =
 brk (decide (x0.length = 0))
 (both (some ((([] : List Int), ()), ((), ())))
 (ck (decide ((([] : List Int).length + x0.length) * 8 ≤ big47)) (some ((([] : List Int) ++ x0, ()), ((), ())))))
 (ck (decide ((([] : List Int).length + x0.length) * 8 ≤ big47)) (some ((([] : List Int) ++ x0, ()), ((), ())))) := by kernel_rfl
/-! slices.Index[[]int,int] -/
noncomputable def slices_Index_int_b : Code := bd Try.f155
@[reducible] def slices_Index_int_t0 : Tm := ⟨[], [], [(0, .sc true tIs), (1, .sc true tI), (7, .sc true tI), (8, .sc true tI)], [], [4], []⟩
def slices_Index_int_T : List (Nat × Tm) := [(0, slices_Index_int_t0)]
noncomputable def slices_Index_int_E : Env := ⟨tt0, []⟩
noncomputable def slices_Index_int_F : PsD [.ro tIs, .ro tI] → Option (RsD [.own tI] × PsO [.ro tIs, .ro tI]) := fun x => evFn slices_Index_int_E slices_Index_int_T Try.f155 slices_Index_int_b [.ro tIs, .ro tI] [.own tI] x
@[reducible] noncomputable def slices_Index_int_C : Ct := ⟨[.ro tIs, .ro tI], [.own tI], slices_Index_int_F⟩
theorem slices_Index_int_h (x : PsD [.ro tIs, .ro tI]) (y : RsD [.own tI] × PsO [.ro tIs, .ro tI]) (h : slices_Index_int_F x = some y) : evFn slices_Index_int_E slices_Index_int_T Try.f155 slices_Index_int_b [.ro tIs, .ro tI] [.own tI] x = some y := h
theorem slices_Index_int_c : ∀ f c, get slices_Index_int_E.ct f = some c → Sat Try.prog f c := ct_nil
theorem slices_Index_int_S : Sat Try.prog 155 slices_Index_int_C := fn_ok2 (envOk _) slices_Index_int_c mixedOk Try.func155 (by kernel_rfl : Try.f155.body = some slices_Index_int_b) (by kernel_rfl) (by kernel_rfl) slices_Index_int_h
noncomputable def slices_Index_int_Ke  (x0 : List Int) (x1 : Int) : Ex → AS → Option (RsD [.own tI] × PsO [.ro tIs, .ro tI]) := endK slices_Index_int_E Try.f155 [.ro tIs, .ro tI] [.own tI] (initL [.ro tIs, .ro tI] (x0, (x1, ())) 0).1
noncomputable def slices_Index_int_B0 {R : Type} : AS → (Ex → AS → Option R) → Option R := fun A K => ev slices_Index_int_E slices_Index_int_T 0 (cA (cA (cB (cA (cB slices_Index_int_b))))) A K
noncomputable def slices_Index_int_K0  (x0 : List Int) (x1 : Int) : Ex → AS → Option (RsD [.own tI] × PsO [.ro tIs, .ro tI]) := kBlk 0 (kSeq (fun A K => ev slices_Index_int_E slices_Index_int_T 1000 (cB (cB slices_Index_int_b)) A K) (slices_Index_int_Ke x0 x1))
noncomputable def slices_Index_int_x0_0 (d0 : Int) : AS := ⟨[(4, .v (.one (.d true tI d0)))], []⟩
noncomputable def slices_Index_int_x0_1 : AS := ⟨[], []⟩
theorem slices_Index_int_l0 {R : Type} {K : Ex → AS → Option R} {s : slices_Index_int_t0.D} (n : Nat) {v : Option R} (h : iterG slices_Index_int_t0 slices_Index_int_B0 K n s = v) (hv : ∃ r, v = some r) : loopG slices_Index_int_t0 slices_Index_int_B0 K s = v := loop_eq (ev_mono _ _) n h hv
theorem slices_Index_int_main (x0 : List Int) (x1 : Int) : slices_Index_int_F (x0, (x1, ())) =
 loopG slices_Index_int_t0 slices_Index_int_B0 (slices_Index_int_K0 x0 x1) ((x0, (x1, ((x0.length : Int), ((0 : Int), ())))), ()) := by kernel_rfl
theorem slices_Index_int_r0 {R : Type} (K : Ex → AS → Option R) (n : Nat) (t0 : List Int) (t1 : Int) (t7 : Int) (t8 : Int) : iterG slices_Index_int_t0 slices_Index_int_B0 K (n + 1) ((t0, (t1, (t7, (t8, ())))), ()) =
 brk (decide (t8 < t7))
 (ck (decide (0 ≤ t8) && decide (t8 < t0.length)) (brk (decide (t1 = rdD tI t0 t8))
 (K .ret (slices_Index_int_x0_0 t8))
 (iterG slices_Index_int_t0 slices_Index_int_B0 K n ((t0, (t1, (t7, (IntKind.i64.wrap (t8 + (1 : Int)), ())))), ()))))
 (K (.exit 0) (slices_Index_int_x0_1)) := by kernel_rfl
theorem slices_Index_int_e0_0 (x0 : List Int) (x1 : Int) (d0 : Int) : slices_Index_int_K0 x0 x1 .ret (slices_Index_int_x0_0 d0) =
 some ((d0, ()), ((), ((), ()))) := by kernel_rfl
theorem slices_Index_int_e0_1 (x0 : List Int) (x1 : Int) : slices_Index_int_K0 x0 x1 (.exit 0) (slices_Index_int_x0_1) =
 some (((-1 : Int), ()), ((), ((), ()))) := by kernel_rfl
/-! slices.Contains[[]int,int] -/
noncomputable def slices_Contains_int_b : Code := bd Try.f145
def slices_Contains_int_T : List (Nat × Tm) := []
noncomputable def slices_Contains_int_E : Env := ⟨tt0, [(155, slices_Index_int_C)]⟩
noncomputable def slices_Contains_int_F : PsD [.ro tIs, .ro tI] → Option (RsD [.own tB] × PsO [.ro tIs, .ro tI]) := fun x => evFn slices_Contains_int_E slices_Contains_int_T Try.f145 slices_Contains_int_b [.ro tIs, .ro tI] [.own tB] x
@[reducible] noncomputable def slices_Contains_int_C : Ct := ⟨[.ro tIs, .ro tI], [.own tB], slices_Contains_int_F⟩
theorem slices_Contains_int_h (x : PsD [.ro tIs, .ro tI]) (y : RsD [.own tB] × PsO [.ro tIs, .ro tI]) (h : slices_Contains_int_F x = some y) : evFn slices_Contains_int_E slices_Contains_int_T Try.f145 slices_Contains_int_b [.ro tIs, .ro tI] [.own tB] x = some y := h
theorem slices_Contains_int_c : ∀ f c, get slices_Contains_int_E.ct f = some c → Sat Try.prog f c := ct_cons slices_Index_int_S (ct_nil)
theorem slices_Contains_int_S : Sat Try.prog 145 slices_Contains_int_C := fn_ok2 (envOk _) slices_Contains_int_c mixedOk Try.func145 (by kernel_rfl : Try.f145.body = some slices_Contains_int_b) (by kernel_rfl) (by kernel_rfl) slices_Contains_int_h
noncomputable def slices_Contains_int_Ke  (x0 : List Int) (x1 : Int) : Ex → AS → Option (RsD [.own tB] × PsO [.ro tIs, .ro tI]) := endK slices_Contains_int_E Try.f145 [.ro tIs, .ro tI] [.own tB] (initL [.ro tIs, .ro tI] (x0, (x1, ())) 0).1
theorem slices_Contains_int_main (x0 : List Int) (x1 : Int) : slices_Contains_int_F (x0, (x1, ())) =
 (slices_Index_int_F (x0, (x1, ()))).bind fun y7 =>
 some ((decide ((0 : Int) ≤ y7.1.1), ()), ((), ((), ()))) := by kernel_rfl
/-! impl.inserted$1 -/
noncomputable def impl_inserted_1_b : Code := bd Try.f147
def impl_inserted_1_T : List (Nat × Tm) := []
noncomputable def impl_inserted_1_E : Env := ⟨tt0, []⟩
noncomputable def impl_inserted_1_F : PsD [.ro tI, .st tI] → Option (RsD [.own tB] × PsO [.ro tI, .st tI]) := fun x => evFn impl_inserted_1_E impl_inserted_1_T Try.f147 impl_inserted_1_b [.ro tI, .st tI] [.own tB] x
@[reducible] noncomputable def impl_inserted_1_C : Ct := ⟨[.ro tI, .st tI], [.own tB], impl_inserted_1_F⟩
theorem impl_inserted_1_h (x : PsD [.ro tI, .st tI]) (y : RsD [.own tB] × PsO [.ro tI, .st tI]) (h : impl_inserted_1_F x = some y) : evFn impl_inserted_1_E impl_inserted_1_T Try.f147 impl_inserted_1_b [.ro tI, .st tI] [.own tB] x = some y := h
theorem impl_inserted_1_c : ∀ f c, get impl_inserted_1_E.ct f = some c → Sat Try.prog f c := ct_nil
theorem impl_inserted_1_S : Sat Try.prog 147 impl_inserted_1_C := fn_ok2 (envOk _) impl_inserted_1_c mixedOk Try.func147 (by kernel_rfl : Try.f147.body = some impl_inserted_1_b) (by kernel_rfl) (by kernel_rfl) impl_inserted_1_h
noncomputable def impl_inserted_1_Ke  (x0 : Int) (x1 : Int) : Ex → AS → Option (RsD [.own tB] × PsO [.ro tI, .st tI]) := endK impl_inserted_1_E Try.f147 [.ro tI, .st tI] [.own tB] (initL [.ro tI, .st tI] (x0, (x1, ())) 0).1
theorem impl_inserted_1_main (x0 : Int) (x1 : Int) : impl_inserted_1_F (x0, (x1, ())) =
 some ((decide (x1 < x0), ()), ((), (x1, ()))) := by kernel_rfl
/-! slices.IndexFunc[[]int,int] -/
noncomputable def slices_IndexFunc_intI_b : Code := bd Try.f146
@[reducible] def slices_IndexFunc_intI_t0 : Tm := ⟨[], [], [(0, .sc true tIs), (1, .fnv 147 [1000016]), (7, .sc true tI), (8, .sc true tI)], [(1000016, .box [.sc true tI])], [4], []⟩
def slices_IndexFunc_intI_T : List (Nat × Tm) := [(0, slices_IndexFunc_intI_t0)]
noncomputable def slices_IndexFunc_intI_E : Env := ⟨tt0, [(147, impl_inserted_1_C)]⟩
noncomputable def slices_IndexFunc_intI_F : PsD [.ro tIs, .fn 147 [tI]] → Option (RsD [.own tI] × PsO [.ro tIs, .fn 147 [tI]]) := fun x => evFn slices_IndexFunc_intI_E slices_IndexFunc_intI_T Try.f146 slices_IndexFunc_intI_b [.ro tIs, .fn 147 [tI]] [.own tI] x
@[reducible] noncomputable def slices_IndexFunc_intI_C : Ct := ⟨[.ro tIs, .fn 147 [tI]], [.own tI], slices_IndexFunc_intI_F⟩
theorem slices_IndexFunc_intI_h (x : PsD [.ro tIs, .fn 147 [tI]]) (y : RsD [.own tI] × PsO [.ro tIs, .fn 147 [tI]]) (h : slices_IndexFunc_intI_F x = some y) : evFn slices_IndexFunc_intI_E slices_IndexFunc_intI_T Try.f146 slices_IndexFunc_intI_b [.ro tIs, .fn 147 [tI]] [.own tI] x = some y := h
theorem slices_IndexFunc_intI_c : ∀ f c, get slices_IndexFunc_intI_E.ct f = some c → Sat Try.prog f c := ct_cons impl_inserted_1_S (ct_nil)
theorem slices_IndexFunc_intI_S : Sat Try.prog 146 slices_IndexFunc_intI_C := fn_ok2 (envOk _) slices_IndexFunc_intI_c mixedOk Try.func146 (by kernel_rfl : Try.f146.body = some slices_IndexFunc_intI_b) (by kernel_rfl) (by kernel_rfl) slices_IndexFunc_intI_h
noncomputable def slices_IndexFunc_intI_Ke  (x0 : List Int) (x1 : Int × Unit) : Ex → AS → Option (RsD [.own tI] × PsO [.ro tIs, .fn 147 [tI]]) := endK slices_IndexFunc_intI_E Try.f146 [.ro tIs, .fn 147 [tI]] [.own tI] (initL [.ro tIs, .fn 147 [tI]] (x0, (x1, ())) 0).1
noncomputable def slices_IndexFunc_intI_B0 {R : Type} : AS → (Ex → AS → Option R) → Option R := fun A K => ev slices_IndexFunc_intI_E slices_IndexFunc_intI_T 0 (cA (cA (cB (cA (cB slices_IndexFunc_intI_b))))) A K
noncomputable def slices_IndexFunc_intI_K0  (x0 : List Int) (x1 : Int × Unit) : Ex → AS → Option (RsD [.own tI] × PsO [.ro tIs, .fn 147 [tI]]) := kBlk 0 (kSeq (fun A K => ev slices_IndexFunc_intI_E slices_IndexFunc_intI_T 1000 (cB (cB slices_IndexFunc_intI_b)) A K) (slices_IndexFunc_intI_Ke x0 x1))
noncomputable def slices_IndexFunc_intI_x0_0 (d0 : Int) (d1 : Int) : AS := ⟨[(4, .v (.one (.d true tI d0)))], [(1000016, .box [.d true tI d1])]⟩
noncomputable def slices_IndexFunc_intI_x0_1 (d0 : Int) : AS := ⟨[], [(1000016, .box [.d true tI d0])]⟩
theorem slices_IndexFunc_intI_l0 {R : Type} {K : Ex → AS → Option R} {s : slices_IndexFunc_intI_t0.D} (n : Nat) {v : Option R} (h : iterG slices_IndexFunc_intI_t0 slices_IndexFunc_intI_B0 K n s = v) (hv : ∃ r, v = some r) : loopG slices_IndexFunc_intI_t0 slices_IndexFunc_intI_B0 K s = v := loop_eq (ev_mono _ _) n h hv
theorem slices_IndexFunc_intI_main (x0 : List Int) (x1 : Int × Unit) : slices_IndexFunc_intI_F (x0, (x1, ())) =
 loopG slices_IndexFunc_intI_t0 slices_IndexFunc_intI_B0 (slices_IndexFunc_intI_K0 x0 x1) ((x0, ((x0.length : Int), ((0 : Int), ()))), ((x1.1, ()), ())) := by kernel_rfl
theorem slices_IndexFunc_intI_r0 {R : Type} (K : Ex → AS → Option R) (n : Nat) (t0 : List Int) (t7 : Int) (t8 : Int) (b1000016_0 : Int) : iterG slices_IndexFunc_intI_t0 slices_IndexFunc_intI_B0 K (n + 1) ((t0, (t7, (t8, ()))), ((b1000016_0, ()), ())) =
 brk (decide (t8 < t7))
 (ck (decide (0 ≤ t8) && decide (t8 < t0.length)) ((impl_inserted_1_F (rdD tI t0 t8, (b1000016_0, ()))).bind fun y16 =>
 brk y16.1.1
 (K .ret (slices_IndexFunc_intI_x0_0 t8 y16.2.2.1))
 (iterG slices_IndexFunc_intI_t0 slices_IndexFunc_intI_B0 K n ((t0, (t7, (IntKind.i64.wrap (t8 + (1 : Int)), ()))), ((y16.2.2.1, ()), ())))))
 (K (.exit 0) (slices_IndexFunc_intI_x0_1 b1000016_0)) := by kernel_rfl
theorem slices_IndexFunc_intI_e0_0 (x0 : List Int) (x1 : Int × Unit) (d0 : Int) (d1 : Int) : slices_IndexFunc_intI_K0 x0 x1 .ret (slices_IndexFunc_intI_x0_0 d0 d1) =
 some ((d0, ()), ((), ((d1, ()), ()))) := by kernel_rfl
theorem slices_IndexFunc_intI_e0_1 (x0 : List Int) (x1 : Int × Unit) (d0 : Int) : slices_IndexFunc_intI_K0 x0 x1 (.exit 0) (slices_IndexFunc_intI_x0_1 d0) =
 some (((-1 : Int), ()), ((), ((d0, ()), ()))) := by kernel_rfl
/-! slices_Insert_int: off the shelf -/
noncomputable def slices_Insert_int_F : PsD [.mv tIs, .ro tI, .mv tIs] → Option (RsD [.own tIs] × PsO [.mv tIs, .ro tI, .mv tIs]) := fun x => insF x.1 x.2.1 x.2.2.1
@[reducible] noncomputable def slices_Insert_int_C : Ct := ⟨[.mv tIs, .ro tI, .mv tIs], [.own tIs], slices_Insert_int_F⟩
end Go.Refl
namespace Go.Proofs
open Go.Shelf
def Ytfikbjbijpbdkaa.slices_Insert_int_lay_ren : Go.Shelf.Ren := ⟨fun | 21 => 148 | 27 => 156 | 28 => 157 | 35 => 159 | 39 => 160 | n => n, fun | 22 => 32 | 3 => 3 | 4 => 4 | 0 => 0 | n => n, fun | n => n⟩
theorem Ytfikbjbijpbdkaa.slices_Insert_int_lay : Go.Proofs.Lays2.n21 Try.prog Ytfikbjbijpbdkaa.slices_Insert_int_lay_ren := {
  mixed := by kernel_rfl
  f21 := Try.func148.trans (congrArg some (by kernel_rfl))
  f27 := Try.func156.trans (congrArg some (by kernel_rfl))
  f28 := Try.func157.trans (congrArg some (by kernel_rfl))
  f35 := Try.func159.trans (congrArg some (by kernel_rfl))
  f39 := Try.func160.trans (congrArg some (by kernel_rfl))
  t0 := Try.underlying0
  a0 := Try.isAgg0
  z0 := Try.sizeOf0
  v0 := Try.zeroValue0
  t3 := Try.underlying3
  a3 := Try.isAgg3
  z3 := Try.sizeOf3
  v3 := Try.zeroValue3
  t4 := Try.underlying4
  a4 := Try.isAgg4
  z4 := Try.sizeOf4
  v4 := Try.zeroValue4
  t22 := Try.underlying32
  a22 := Try.isAgg32
  z22 := Try.sizeOf32
  v22 := Try.zeroValue32
  i3 := by kernel_rfl }
end Go.Proofs
namespace Go.Refl
open Go.RowKit Go.Proofs
set_option linter.unusedVariables false
set_option maxRecDepth 100000
theorem slices_Insert_int_S : Sat Try.prog 148 slices_Insert_int_C := insert_sat Ytfikbjbijpbdkaa.slices_Insert_int_lay ⟨_, Try.func148, by kernel_rfl, by kernel_rfl⟩
/-! impl.inserted -/
noncomputable def impl_inserted_b : Code := bd Try.f110
def impl_inserted_T : List (Nat × Tm) := []
noncomputable def impl_inserted_E : Env := ⟨tt0, [(109, slices_Clone_int_C), (145, slices_Contains_int_C), (146, slices_IndexFunc_intI_C), (148, slices_Insert_int_C)]⟩
noncomputable def impl_inserted_F : PsD [.ro tIs, .ro tI] → Option (RsD [.own tIs] × PsO [.ro tIs, .ro tI]) := fun x => evFn impl_inserted_E impl_inserted_T Try.f110 impl_inserted_b [.ro tIs, .ro tI] [.own tIs] x
@[reducible] noncomputable def impl_inserted_C : Ct := ⟨[.ro tIs, .ro tI], [.own tIs], impl_inserted_F⟩
theorem impl_inserted_h (x : PsD [.ro tIs, .ro tI]) (y : RsD [.own tIs] × PsO [.ro tIs, .ro tI]) (h : impl_inserted_F x = some y) : evFn impl_inserted_E impl_inserted_T Try.f110 impl_inserted_b [.ro tIs, .ro tI] [.own tIs] x = some y := h
theorem impl_inserted_c : ∀ f c, get impl_inserted_E.ct f = some c → Sat Try.prog f c := ct_cons slices_Clone_int_S (ct_cons slices_Contains_int_S (ct_cons slices_IndexFunc_intI_S (ct_cons slices_Insert_int_S (ct_nil))))
theorem impl_inserted_S : Sat Try.prog 110 impl_inserted_C := fn_ok2 (envOk _) impl_inserted_c mixedOk Try.func110 (by kernel_rfl : Try.f110.body = some impl_inserted_b) (by kernel_rfl) (by kernel_rfl) impl_inserted_h
noncomputable def impl_inserted_Ke  (x0 : List Int) (x1 : Int) : Ex → AS → Option (RsD [.own tIs] × PsO [.ro tIs, .ro tI]) := endK impl_inserted_E Try.f110 [.ro tIs, .ro tI] [.own tIs] (initL [.ro tIs, .ro tI] (x0, (x1, ())) 0).1
theorem impl_inserted_main (x0 : List Int) (x1 : Int) : impl_inserted_F (x0, (x1, ())) =
 (slices_Clone_int_F (x0, ())).bind fun y8 =>
 (slices_Contains_int_F (x0, (x1, ()))).bind fun y11 =>
 brk y11.1.1
 (some ((y8.1.1, ()), ((), ((), ()))))
 ((slices_IndexFunc_intI_F (x0, ((x1, ()), ()))).bind fun y15 =>
 brk (decide (y15.1.1 < (0 : Int)))
 ((slices_Insert_int_F (y8.1.1, ((x0.length : Int), ([y15.2.2.1.1], ())))).bind fun y24 =>
 some ((y24.1.1, ()), ((), ((), ()))))
 ((slices_Insert_int_F (y8.1.1, (y15.1.1, ([y15.2.2.1.1], ())))).bind fun y24 =>
 some ((y24.1.1, ()), ((), ((), ()))))) := by kernel_rfl
/-! impl.Mark -/
noncomputable def impl_Mark_b : Code := bd Try.f35
def impl_Mark_T : List (Nat × Tm) := []
noncomputable def impl_Mark_E : Env := ⟨tt0, [(108, impl_isCell_C), (109, slices_Clone_int_C), (110, impl_inserted_C)]⟩
noncomputable def impl_Mark_F : PsD [.ro tIs, .ro tI] → Option (RsD [.own tIs] × PsO [.ro tIs, .ro tI]) := fun x => evFn impl_Mark_E impl_Mark_T Try.f35 impl_Mark_b [.ro tIs, .ro tI] [.own tIs] x
@[reducible] noncomputable def impl_Mark_C : Ct := ⟨[.ro tIs, .ro tI], [.own tIs], impl_Mark_F⟩
theorem impl_Mark_h (x : PsD [.ro tIs, .ro tI]) (y : RsD [.own tIs] × PsO [.ro tIs, .ro tI]) (h : impl_Mark_F x = some y) : evFn impl_Mark_E impl_Mark_T Try.f35 impl_Mark_b [.ro tIs, .ro tI] [.own tIs] x = some y := h
theorem impl_Mark_c : ∀ f c, get impl_Mark_E.ct f = some c → Sat Try.prog f c := ct_cons impl_isCell_S (ct_cons slices_Clone_int_S (ct_cons impl_inserted_S (ct_nil)))
theorem impl_Mark_S : Sat Try.prog 35 impl_Mark_C := fn_ok2 (envOk _) impl_Mark_c mixedOk Try.func35 (by kernel_rfl : Try.f35.body = some impl_Mark_b) (by kernel_rfl) (by kernel_rfl) impl_Mark_h
noncomputable def impl_Mark_Ke  (x0 : List Int) (x1 : Int) : Ex → AS → Option (RsD [.own tIs] × PsO [.ro tIs, .ro tI]) := endK impl_Mark_E Try.f35 [.ro tIs, .ro tI] [.own tIs] (initL [.ro tIs, .ro tI] (x0, (x1, ())) 0).1
theorem impl_Mark_main (x0 : List Int) (x1 : Int) : impl_Mark_F (x0, (x1, ())) =
 (impl_isCell_F (x1, ())).bind fun y6 =>
 brk (!y6.1.1)
 ((slices_Clone_int_F (x0, ())).bind fun y9 =>
 some ((y9.1.1, ()), ((), ((), ()))))
 ((impl_inserted_F (x0, (x1, ()))).bind fun y12 =>
 some ((y12.1.1, ()), ((), ((), ())))) := by kernel_rfl
/-! spec.Union -/
noncomputable def spec_Union_b : Code := bd Try.f57
@[reducible] def spec_Union_t0 : Tm := ⟨[(5, 960000)], [], [(0, .sc true tIs), (1, .sc true tIs), (5, .own 960000), (6, .sc true tI)], [(960000, .arr 3 tI)], [1, 5], [960000]⟩
@[reducible] def spec_Union_t2 : Tm := ⟨[(5, 960600)], [], [(1, .sc true tIs), (5, .own 960600), (7, .sc true tI)], [(960600, .arr 3 tI)], [5], [960600]⟩
def spec_Union_T : List (Nat × Tm) := [(0, spec_Union_t0), (2, spec_Union_t2)]
noncomputable def spec_Union_E : Env := ⟨tt0, [(33, spec_Mark_C)]⟩
noncomputable def spec_Union_F : PsD [.ro tIs, .ro tIs] → Option (RsD [.own tIs] × PsO [.ro tIs, .ro tIs]) := fun x => evFn spec_Union_E spec_Union_T Try.f57 spec_Union_b [.ro tIs, .ro tIs] [.own tIs] x
@[reducible] noncomputable def spec_Union_C : Ct := ⟨[.ro tIs, .ro tIs], [.own tIs], spec_Union_F⟩
theorem spec_Union_h (x : PsD [.ro tIs, .ro tIs]) (y : RsD [.own tIs] × PsO [.ro tIs, .ro tIs]) (h : spec_Union_F x = some y) : evFn spec_Union_E spec_Union_T Try.f57 spec_Union_b [.ro tIs, .ro tIs] [.own tIs] x = some y := h
theorem spec_Union_c : ∀ f c, get spec_Union_E.ct f = some c → Sat Try.prog f c := ct_cons spec_Mark_S (ct_nil)
theorem spec_Union_S : Sat Try.prog 57 spec_Union_C := fn_ok2 (envOk _) spec_Union_c mixedOk Try.func57 (by kernel_rfl : Try.f57.body = some spec_Union_b) (by kernel_rfl) (by kernel_rfl) spec_Union_h
noncomputable def spec_Union_Ke  (x0 : List Int) (x1 : List Int) : Ex → AS → Option (RsD [.own tIs] × PsO [.ro tIs, .ro tIs]) := endK spec_Union_E Try.f57 [.ro tIs, .ro tIs] [.own tIs] (initL [.ro tIs, .ro tIs] (x0, (x1, ())) 0).1
noncomputable def spec_Union_B0 {R : Type} : AS → (Ex → AS → Option R) → Option R := fun A K => ev spec_Union_E spec_Union_T 0 (cA (cA (cB (cA (cB (cB spec_Union_b)))))) A K
noncomputable def spec_Union_B2 {R : Type} : AS → (Ex → AS → Option R) → Option R := fun A K => ev spec_Union_E spec_Union_T 2 (cA (cA (cB (cA (cB (cB (cB spec_Union_b))))))) A K
noncomputable def spec_Union_K0  (x0 : List Int) (x1 : List Int) : Ex → AS → Option (RsD [.own tIs] × PsO [.ro tIs, .ro tIs]) := kBlk 0 (kSeq (fun A K => ev spec_Union_E spec_Union_T 1000 (cB (cB (cB spec_Union_b))) A K) (spec_Union_Ke x0 x1))
noncomputable def spec_Union_K2  (x0 : List Int) (x1 : List Int) : Ex → AS → Option (RsD [.own tIs] × PsO [.ro tIs, .ro tIs]) := kBlk 2 (kSeq (fun A K => ev spec_Union_E spec_Union_T 1000 (cB (cB (cB (cB spec_Union_b)))) A K) (spec_Union_Ke x0 x1))
noncomputable def spec_Union_x0_0 (d0 : List Int) (d1 : List Int) : AS := ⟨[(1, .v (.one (.d true tIs d0))), (5, .v (.one (.own 960000)))], [(960000, .arr 3 tI d1)]⟩
noncomputable def spec_Union_x2_0 (d0 : List Int) : AS := ⟨[(5, .v (.one (.own 960600)))], [(960600, .arr 3 tI d0)]⟩
theorem spec_Union_l0 {R : Type} {K : Ex → AS → Option R} {s : spec_Union_t0.D} (n : Nat) {v : Option R} (h : iterG spec_Union_t0 spec_Union_B0 K n s = v) (hv : ∃ r, v = some r) : loopG spec_Union_t0 spec_Union_B0 K s = v := loop_eq (ev_mono _ _) n h hv
theorem spec_Union_l2 {R : Type} {K : Ex → AS → Option R} {s : spec_Union_t2.D} (n : Nat) {v : Option R} (h : iterG spec_Union_t2 spec_Union_B2 K n s = v) (hv : ∃ r, v = some r) : loopG spec_Union_t2 spec_Union_B2 K s = v := loop_eq (ev_mono _ _) n h hv
theorem spec_Union_main (x0 : List Int) (x1 : List Int) : spec_Union_F (x0, (x1, ())) =
 loopG spec_Union_t0 spec_Union_B0 (spec_Union_K0 x0 x1) ((x0, (x1, ((0 : Int), ()))), (([] : List Int), ())) := by kernel_rfl
theorem spec_Union_r0 {R : Type} (K : Ex → AS → Option R) (n : Nat) (t0 : List Int) (t1 : List Int) (t6 : Int) (a960000 : List Int) : iterG spec_Union_t0 spec_Union_B0 K (n + 1) ((t0, (t1, (t6, ()))), (a960000, ())) =
 brk (decide (t6 < (t0.length : Int)))
 (ck (decide (0 ≤ t6) && decide (t6 < t0.length)) ((spec_Mark_F (a960000, (rdD tI t0 t6, ()))).bind fun y20 =>
 iterG spec_Union_t0 spec_Union_B0 K n ((t0, (t1, (IntKind.i64.wrap (t6 + (1 : Int)), ()))), (y20.1.1, ()))))
 (K (.exit 0) (spec_Union_x0_0 t1 a960000)) := by kernel_rfl
theorem spec_Union_e0_0 (x0 : List Int) (x1 : List Int) (d0 : List Int) (d1 : List Int) : spec_Union_K0 x0 x1 (.exit 0) (spec_Union_x0_0 d0 d1) =
 loopG spec_Union_t2 spec_Union_B2 (spec_Union_K2 x0 x1) ((d0, ((0 : Int), ())), (d1, ())) := by kernel_rfl
theorem spec_Union_r2 {R : Type} (K : Ex → AS → Option R) (n : Nat) (t1 : List Int) (t7 : Int) (a960600 : List Int) : iterG spec_Union_t2 spec_Union_B2 K (n + 1) ((t1, (t7, ())), (a960600, ())) =
 brk (decide (t7 < (t1.length : Int)))
 (ck (decide (0 ≤ t7) && decide (t7 < t1.length)) ((spec_Mark_F (a960600, (rdD tI t1 t7, ()))).bind fun y32 =>
 iterG spec_Union_t2 spec_Union_B2 K n ((t1, (IntKind.i64.wrap (t7 + (1 : Int)), ())), (y32.1.1, ()))))
 (K (.exit 2) (spec_Union_x2_0 a960600)) := by kernel_rfl
theorem spec_Union_e2_0 (x0 : List Int) (x1 : List Int) (d0 : List Int) : spec_Union_K2 x0 x1 (.exit 2) (spec_Union_x2_0 d0) =
 some ((d0, ()), ((), ((), ()))) := by kernel_rfl
/-! slices_Grow_int: off the shelf -/
noncomputable def slices_Grow_int_F : PsD [.mv tIs, .ro tI] → Option (RsD [.own tIs] × PsO [.mv tIs, .ro tI]) := fun x => growF x.1 x.2.1
@[reducible] noncomputable def slices_Grow_int_C : Ct := ⟨[.mv tIs, .ro tI], [.own tIs], slices_Grow_int_F⟩
end Go.Refl
namespace Go.Proofs
open Go.Shelf
def Ytfikbjbijpbdkaa.slices_Grow_int_lay_ren : Go.Shelf.Ren := ⟨fun | 4 => 152 | n => n, fun | 22 => 32 | 25 => 3 | 3 => 3 | 4 => 4 | 9 => 9 | 20 => 20 | 0 => 0 | n => n, fun | n => n⟩
theorem Ytfikbjbijpbdkaa.slices_Grow_int_lay : Go.Proofs.Lays8.n4 Try.prog Ytfikbjbijpbdkaa.slices_Grow_int_lay_ren := {
  mixed := by kernel_rfl
  f4 := ⟨Try.f152.name, by decide, Try.func152.trans (congrArg some (by kernel_rfl))⟩
  t0 := Try.underlying0
  a0 := Try.isAgg0
  z0 := Try.sizeOf0
  v0 := Try.zeroValue0
  t3 := Try.underlying3
  a3 := Try.isAgg3
  z3 := Try.sizeOf3
  v3 := Try.zeroValue3
  t4 := Try.underlying4
  a4 := Try.isAgg4
  z4 := Try.sizeOf4
  v4 := Try.zeroValue4
  t9 := Try.underlying9
  a9 := Try.isAgg9
  z9 := Try.sizeOf9
  v9 := Try.zeroValue9
  t20 := Try.underlying20
  a20 := Try.isAgg20
  z20 := Try.sizeOf20
  v20 := Try.zeroValue20
  t22 := Try.underlying32
  a22 := Try.isAgg32
  z22 := Try.sizeOf32
  v22 := Try.zeroValue32 }
end Go.Proofs
namespace Go.Refl
open Go.RowKit Go.Proofs
set_option linter.unusedVariables false
set_option maxRecDepth 100000
theorem slices_Grow_int_S : Sat Try.prog 152 slices_Grow_int_C := grow_sat Ytfikbjbijpbdkaa.slices_Grow_int_lay fit3 (by decide) ⟨_, Try.func152, by kernel_rfl, by kernel_rfl⟩
/-! slices.Concat[[]int,int] -/
noncomputable def slices_Concat_int_b : Code := bd Try.f125
@[reducible] def slices_Concat_int_t0 : Tm := ⟨[], [], [(0, .sc true tIss), (3, .sc true tI), (9, .sc true tIss), (10, .sc true tI), (11, .sc true tI)], [], [0, 3], []⟩
@[reducible] def slices_Concat_int_t2 : Tm := ⟨[(6, 960600)], [], [(6, .own 960600), (25, .sc true tIss), (26, .sc true tI), (27, .sc true tI)], [(960600, .arr 3 tI)], [6], [960600]⟩
def slices_Concat_int_T : List (Nat × Tm) := [(0, slices_Concat_int_t0), (2, slices_Concat_int_t2)]
noncomputable def slices_Concat_int_E : Env := ⟨tt0, [(152, slices_Grow_int_C)]⟩
noncomputable def slices_Concat_int_F : PsD [.ro tIss] → Option (RsD [.own tIs] × PsO [.ro tIss]) := fun x => evFn slices_Concat_int_E slices_Concat_int_T Try.f125 slices_Concat_int_b [.ro tIss] [.own tIs] x
@[reducible] noncomputable def slices_Concat_int_C : Ct := ⟨[.ro tIss], [.own tIs], slices_Concat_int_F⟩
theorem slices_Concat_int_h (x : PsD [.ro tIss]) (y : RsD [.own tIs] × PsO [.ro tIss]) (h : slices_Concat_int_F x = some y) : evFn slices_Concat_int_E slices_Concat_int_T Try.f125 slices_Concat_int_b [.ro tIss] [.own tIs] x = some y := h
theorem slices_Concat_int_c : ∀ f c, get slices_Concat_int_E.ct f = some c → Sat Try.prog f c := ct_cons slices_Grow_int_S (ct_nil)
theorem slices_Concat_int_S : Sat Try.prog 125 slices_Concat_int_C := fn_ok2 (envOk _) slices_Concat_int_c mixedOk Try.func125 (by kernel_rfl : Try.f125.body = some slices_Concat_int_b) (by kernel_rfl) (by kernel_rfl) slices_Concat_int_h
noncomputable def slices_Concat_int_Ke  (x0 : List (List Int)) : Ex → AS → Option (RsD [.own tIs] × PsO [.ro tIss]) := endK slices_Concat_int_E Try.f125 [.ro tIss] [.own tIs] (initL [.ro tIss] (x0, ()) 0).1
noncomputable def slices_Concat_int_B0 {R : Type} : AS → (Ex → AS → Option R) → Option R := fun A K => ev slices_Concat_int_E slices_Concat_int_T 0 (cA (cA (cB (cA (cB (cB slices_Concat_int_b)))))) A K
noncomputable def slices_Concat_int_B2 {R : Type} : AS → (Ex → AS → Option R) → Option R := fun A K => ev slices_Concat_int_E slices_Concat_int_T 2 (cA (cA (cB (cA (cB (cB (cB (cB slices_Concat_int_b)))))))) A K
noncomputable def slices_Concat_int_K0  (x0 : List (List Int)) : Ex → AS → Option (RsD [.own tIs] × PsO [.ro tIss]) := kBlk 0 (kSeq (fun A K => ev slices_Concat_int_E slices_Concat_int_T 1000 (cB (cB (cB slices_Concat_int_b))) A K) (slices_Concat_int_Ke x0))
noncomputable def slices_Concat_int_K2  (x0 : List (List Int)) : Ex → AS → Option (RsD [.own tIs] × PsO [.ro tIss]) := kBlk 2 (kSeq (fun A K => ev slices_Concat_int_E slices_Concat_int_T 1000 (cB (cB (cB (cB (cB slices_Concat_int_b))))) A K) (slices_Concat_int_Ke x0))
noncomputable def slices_Concat_int_x0_0 (d0 : List (List Int)) (d1 : Int) : AS := ⟨[(0, .v (.one (.d true tIss d0))), (3, .v (.one (.d true tI d1)))], []⟩
noncomputable def slices_Concat_int_x2_0 (d0 : List Int) : AS := ⟨[(6, .v (.one (.own 960600)))], [(960600, .arr 3 tI d0)]⟩
theorem slices_Concat_int_l0 {R : Type} {K : Ex → AS → Option R} {s : slices_Concat_int_t0.D} (n : Nat) {v : Option R} (h : iterG slices_Concat_int_t0 slices_Concat_int_B0 K n s = v) (hv : ∃ r, v = some r) : loopG slices_Concat_int_t0 slices_Concat_int_B0 K s = v := loop_eq (ev_mono _ _) n h hv
theorem slices_Concat_int_l2 {R : Type} {K : Ex → AS → Option R} {s : slices_Concat_int_t2.D} (n : Nat) {v : Option R} (h : iterG slices_Concat_int_t2 slices_Concat_int_B2 K n s = v) (hv : ∃ r, v = some r) : loopG slices_Concat_int_t2 slices_Concat_int_B2 K s = v := loop_eq (ev_mono _ _) n h hv
theorem slices_Concat_int_main (x0 : List (List Int)) : slices_Concat_int_F (x0, ()) =
 loopG slices_Concat_int_t0 slices_Concat_int_B0 (slices_Concat_int_K0 x0) ((x0, ((0 : Int), (x0, ((x0.length : Int), ((0 : Int), ()))))), ()) := by kernel_rfl
theorem slices_Concat_int_r0 {R : Type} (K : Ex → AS → Option R) (n : Nat) (t0 : List (List Int)) (t3 : Int) (t9 : List (List Int)) (t10 : Int) (t11 : Int) : iterG slices_Concat_int_t0 slices_Concat_int_B0 K (n + 1) ((t0, (t3, (t9, (t10, (t11, ()))))), ()) =
 brk (decide (t11 < t10))
 (ck (decide (0 ≤ t11) && decide (t11 < t9.length)) (brk (decide (IntKind.i64.wrap (t3 + ((rdD tIs t9 t11).length : Int)) < (0 : Int)))
 (none)
 (iterG slices_Concat_int_t0 slices_Concat_int_B0 K n ((t0, (IntKind.i64.wrap (t3 + ((rdD tIs t9 t11).length : Int)), (t9, (t10, (IntKind.i64.wrap (t11 + (1 : Int)), ()))))), ()))))
 (K (.exit 0) (slices_Concat_int_x0_0 t0 t3)) := by kernel_rfl
theorem slices_Concat_int_e0_0 (x0 : List (List Int)) (d0 : List (List Int)) (d1 : Int) : slices_Concat_int_K0 x0 (.exit 0) (slices_Concat_int_x0_0 d0 d1) =
 (slices_Grow_int_F (([] : List Int), (d1, ()))).bind fun y24 =>
 loopG slices_Concat_int_t2 slices_Concat_int_B2 (slices_Concat_int_K2 x0) ((d0, ((d0.length : Int), ((0 : Int), ()))), (y24.1.1, ())) := by kernel_rfl
theorem slices_Concat_int_r2 {R : Type} (K : Ex → AS → Option R) (n : Nat) (t25 : List (List Int)) (t26 : Int) (t27 : Int) (a960600 : List Int) : iterG slices_Concat_int_t2 slices_Concat_int_B2 K (n + 1) ((t25, (t26, (t27, ()))), (a960600, ())) =
 brk (decide (t27 < t26))
 (ck (decide (0 ≤ t27) && decide (t27 < t25.length)) (ck (decide ((a960600.length + (rdD tIs t25 t27).length) * 8 ≤ big47)) (iterG slices_Concat_int_t2 slices_Concat_int_B2 K n ((t25, (t26, (IntKind.i64.wrap (t27 + (1 : Int)), ()))), (a960600 ++ (rdD tIs t25 t27), ())))))
 (K (.exit 2) (slices_Concat_int_x2_0 a960600)) := by kernel_rfl
theorem slices_Concat_int_e2_0 (x0 : List (List Int)) (d0 : List Int) : slices_Concat_int_K2 x0 (.exit 2) (slices_Concat_int_x2_0 d0) =
 some ((d0, ()), ((), ())) := by kernel_rfl
/-! impl.Union -/
noncomputable def impl_Union_b : Code := bd Try.f58
@[reducible] def impl_Union_t0 : Tm := ⟨[(5, 960000)], [], [(5, .own 960000), (12, .own 192), (13, .sc true tI), (14, .sc true tI)], [(192, .arr 3 tI), (960000, .arr 3 tI)], [5], [960000]⟩
def impl_Union_T : List (Nat × Tm) := [(0, impl_Union_t0)]
noncomputable def impl_Union_E : Env := ⟨tt0, [(35, impl_Mark_C), (125, slices_Concat_int_C)]⟩
noncomputable def impl_Union_F : PsD [.ro tIs, .ro tIs] → Option (RsD [.own tIs] × PsO [.ro tIs, .ro tIs]) := fun x => evFn impl_Union_E impl_Union_T Try.f58 impl_Union_b [.ro tIs, .ro tIs] [.own tIs] x
@[reducible] noncomputable def impl_Union_C : Ct := ⟨[.ro tIs, .ro tIs], [.own tIs], impl_Union_F⟩
theorem impl_Union_h (x : PsD [.ro tIs, .ro tIs]) (y : RsD [.own tIs] × PsO [.ro tIs, .ro tIs]) (h : impl_Union_F x = some y) : evFn impl_Union_E impl_Union_T Try.f58 impl_Union_b [.ro tIs, .ro tIs] [.own tIs] x = some y := h
theorem impl_Union_c : ∀ f c, get impl_Union_E.ct f = some c → Sat Try.prog f c := ct_cons impl_Mark_S (ct_cons slices_Concat_int_S (ct_nil))
theorem impl_Union_S : Sat Try.prog 58 impl_Union_C := fn_ok2 (envOk _) impl_Union_c mixedOk Try.func58 (by kernel_rfl : Try.f58.body = some impl_Union_b) (by kernel_rfl) (by kernel_rfl) impl_Union_h
noncomputable def impl_Union_Ke  (x0 : List Int) (x1 : List Int) : Ex → AS → Option (RsD [.own tIs] × PsO [.ro tIs, .ro tIs]) := endK impl_Union_E Try.f58 [.ro tIs, .ro tIs] [.own tIs] (initL [.ro tIs, .ro tIs] (x0, (x1, ())) 0).1
noncomputable def impl_Union_B0 {R : Type} : AS → (Ex → AS → Option R) → Option R := fun A K => ev impl_Union_E impl_Union_T 0 (cA (cA (cB (cA (cB (cB impl_Union_b)))))) A K
noncomputable def impl_Union_K0  (x0 : List Int) (x1 : List Int) : Ex → AS → Option (RsD [.own tIs] × PsO [.ro tIs, .ro tIs]) := kBlk 0 (kSeq (fun A K => ev impl_Union_E impl_Union_T 1000 (cB (cB (cB impl_Union_b))) A K) (impl_Union_Ke x0 x1))
noncomputable def impl_Union_x0_0 (d0 : List Int) : AS := ⟨[(5, .v (.one (.own 960000)))], [(960000, .arr 3 tI d0)]⟩
theorem impl_Union_l0 {R : Type} {K : Ex → AS → Option R} {s : impl_Union_t0.D} (n : Nat) {v : Option R} (h : iterG impl_Union_t0 impl_Union_B0 K n s = v) (hv : ∃ r, v = some r) : loopG impl_Union_t0 impl_Union_B0 K s = v := loop_eq (ev_mono _ _) n h hv
theorem impl_Union_main (x0 : List Int) (x1 : List Int) : impl_Union_F (x0, (x1, ())) =
 (slices_Concat_int_F ([x0, x1], ())).bind fun y12 =>
 loopG impl_Union_t0 impl_Union_B0 (impl_Union_K0 x0 x1) (((y12.1.1.length : Int), ((0 : Int), ())), (y12.1.1, (([] : List Int), ()))) := by kernel_rfl
theorem impl_Union_r0 {R : Type} (K : Ex → AS → Option R) (n : Nat) (t13 : Int) (t14 : Int) (a192 : List Int) (a960000 : List Int) : iterG impl_Union_t0 impl_Union_B0 K (n + 1) ((t13, (t14, ())), (a192, (a960000, ()))) =
 brk (decide (t14 < t13))
 (ck (decide (0 ≤ t14) && decide (t14 < a192.length)) ((impl_Mark_F (a960000, (rdD tI a192 t14, ()))).bind fun y20 =>
 iterG impl_Union_t0 impl_Union_B0 K n ((t13, (IntKind.i64.wrap (t14 + (1 : Int)), ())), (a192, (y20.1.1, ())))))
 (K (.exit 0) (impl_Union_x0_0 a960000)) := by kernel_rfl
theorem impl_Union_e0_0 (x0 : List Int) (x1 : List Int) (d0 : List Int) : impl_Union_K0 x0 x1 (.exit 0) (impl_Union_x0_0 d0) =
 some ((d0, ()), ((), ((), ()))) := by kernel_rfl
/-! spec.l1New -/
noncomputable def spec_l1New_b : Code := bd Try.f98
@[reducible] def spec_l1New_t0 : Tm := ⟨[], [], [(0, .sc true tYs), (3, .sc true tI), (4, .sc true tI)], [], [0, 3], []⟩
def spec_l1New_T : List (Nat × Tm) := [(0, spec_l1New_t0)]
noncomputable def spec_l1New_E : Env := ⟨tt0, []⟩
noncomputable def spec_l1New_F : PsD [.ro tYs] → Option (RsD [.box tL1Cur] × PsO [.ro tYs]) := fun x => evFn spec_l1New_E spec_l1New_T Try.f98 spec_l1New_b [.ro tYs] [.box tL1Cur] x
@[reducible] noncomputable def spec_l1New_C : Ct := ⟨[.ro tYs], [.box tL1Cur], spec_l1New_F⟩
theorem spec_l1New_h (x : PsD [.ro tYs]) (y : RsD [.box tL1Cur] × PsO [.ro tYs]) (h : spec_l1New_F x = some y) : evFn spec_l1New_E spec_l1New_T Try.f98 spec_l1New_b [.ro tYs] [.box tL1Cur] x = some y := h
theorem spec_l1New_c : ∀ f c, get spec_l1New_E.ct f = some c → Sat Try.prog f c := ct_nil
theorem spec_l1New_S : Sat Try.prog 98 spec_l1New_C := fn_ok2 (envOk _) spec_l1New_c mixedOk Try.func98 (by kernel_rfl : Try.f98.body = some spec_l1New_b) (by kernel_rfl) (by kernel_rfl) spec_l1New_h
noncomputable def spec_l1New_Ke  (x0 : List Int) : Ex → AS → Option (RsD [.box tL1Cur] × PsO [.ro tYs]) := endK spec_l1New_E Try.f98 [.ro tYs] [.box tL1Cur] (initL [.ro tYs] (x0, ()) 0).1
noncomputable def spec_l1New_B0 {R : Type} : AS → (Ex → AS → Option R) → Option R := fun A K => ev spec_l1New_E spec_l1New_T 0 (cA (cA (cB (cA (cB (cB spec_l1New_b)))))) A K
noncomputable def spec_l1New_K0  (x0 : List Int) : Ex → AS → Option (RsD [.box tL1Cur] × PsO [.ro tYs]) := kBlk 0 (kSeq (fun A K => ev spec_l1New_E spec_l1New_T 1000 (cB (cB (cB spec_l1New_b))) A K) (spec_l1New_Ke x0))
noncomputable def spec_l1New_x0_0 (d0 : List Int) (d1 : Int) : AS := ⟨[(0, .v (.one (.d true tYs d0))), (3, .v (.one (.d true tI d1)))], []⟩
theorem spec_l1New_l0 {R : Type} {K : Ex → AS → Option R} {s : spec_l1New_t0.D} (n : Nat) {v : Option R} (h : iterG spec_l1New_t0 spec_l1New_B0 K n s = v) (hv : ∃ r, v = some r) : loopG spec_l1New_t0 spec_l1New_B0 K s = v := loop_eq (ev_mono _ _) n h hv
theorem spec_l1New_main (x0 : List Int) : spec_l1New_F (x0, ()) =
 loopG spec_l1New_t0 spec_l1New_B0 (spec_l1New_K0 x0) ((x0, (IntKind.i64.wrap ((24770 : Int) + (x0.length : Int)), ((0 : Int), ()))), ()) := by kernel_rfl
theorem spec_l1New_r0 {R : Type} (K : Ex → AS → Option R) (n : Nat) (t0 : List Int) (t3 : Int) (t4 : Int) : iterG spec_l1New_t0 spec_l1New_B0 K (n + 1) ((t0, (t3, (t4, ()))), ()) =
 brk (decide (t4 < (t0.length : Int)))
 (brk (decide (t4 < (4000 : Int)))
 (ck (decide (0 ≤ t4) && decide (t4 < t0.length)) (iterG spec_l1New_t0 spec_l1New_B0 K n ((t0, (andN IntKind.i64 (IntKind.i64.wrap ((IntKind.i64.wrap ((IntKind.i64.wrap (t3 * (131 : Int))) + (IntKind.i64.wrap (rdD tY t0 t4)))) + (7 : Int))) (1073741823 : Int), (IntKind.i64.wrap (t4 + (1 : Int)), ()))), ())))
 (K (.exit 0) (spec_l1New_x0_0 t0 t3)))
 (K (.exit 0) (spec_l1New_x0_0 t0 t3)) := by kernel_rfl
theorem spec_l1New_e0_0 (x0 : List Int) (d0 : List Int) (d1 : Int) : spec_l1New_K0 x0 (.exit 0) (spec_l1New_x0_0 d0 d1) =
 some (((d0, ((0 : Int), (d1, ()))), ()), ((), ())) := by kernel_rfl
/-! spec.l1Byte -/
noncomputable def spec_l1Byte_b : Code := bd Try.f149
def spec_l1Byte_T : List (Nat × Tm) := []
noncomputable def spec_l1Byte_E : Env := ⟨tt0, []⟩
noncomputable def spec_l1Byte_F : PsD [.st tL1Cur] → Option (RsD [.own tI] × PsO [.st tL1Cur]) := fun x => evFn spec_l1Byte_E spec_l1Byte_T Try.f149 spec_l1Byte_b [.st tL1Cur] [.own tI] x
@[reducible] noncomputable def spec_l1Byte_C : Ct := ⟨[.st tL1Cur], [.own tI], spec_l1Byte_F⟩
theorem spec_l1Byte_h (x : PsD [.st tL1Cur]) (y : RsD [.own tI] × PsO [.st tL1Cur]) (h : spec_l1Byte_F x = some y) : evFn spec_l1Byte_E spec_l1Byte_T Try.f149 spec_l1Byte_b [.st tL1Cur] [.own tI] x = some y := h
theorem spec_l1Byte_c : ∀ f c, get spec_l1Byte_E.ct f = some c → Sat Try.prog f c := ct_nil
theorem spec_l1Byte_S : Sat Try.prog 149 spec_l1Byte_C := fn_ok2 (envOk _) spec_l1Byte_c mixedOk Try.func149 (by kernel_rfl : Try.f149.body = some spec_l1Byte_b) (by kernel_rfl) (by kernel_rfl) spec_l1Byte_h
noncomputable def spec_l1Byte_Ke  (x0 : List Int × Int × Int × Unit) : Ex → AS → Option (RsD [.own tI] × PsO [.st tL1Cur]) := endK spec_l1Byte_E Try.f149 [.st tL1Cur] [.own tI] (initL [.st tL1Cur] (x0, ()) 0).1
theorem spec_l1Byte_main (x0 : List Int × Int × Int × Unit) : spec_l1Byte_F (x0, ()) =
 brk (decide (x0.2.1 < (x0.1.length : Int)))
 (ck (decide (0 ≤ x0.2.1) && decide (x0.2.1 < x0.1.length)) (some ((andN IntKind.i64 (IntKind.i64.wrap ((andN IntKind.i64 (xorN IntKind.i64 (shrN IntKind.i64 (IntKind.i64.wrap ((IntKind.i64.wrap (x0.2.2.1 * (6364136223846793005 : Int))) + (1442695040888963407 : Int))) (33 : Int)) (shrN IntKind.i64 (IntKind.i64.wrap ((IntKind.i64.wrap (x0.2.2.1 * (6364136223846793005 : Int))) + (1442695040888963407 : Int))) (45 : Int))) (255 : Int)) + (IntKind.i64.wrap (rdD tY x0.1 x0.2.1)))) (255 : Int), ()), ((x0.1, (IntKind.i64.wrap (x0.2.1 + (1 : Int)), (IntKind.i64.wrap ((IntKind.i64.wrap (x0.2.2.1 * (6364136223846793005 : Int))) + (1442695040888963407 : Int)), ()))), ()))))
 (some ((andN IntKind.i64 (xorN IntKind.i64 (shrN IntKind.i64 (IntKind.i64.wrap ((IntKind.i64.wrap (x0.2.2.1 * (6364136223846793005 : Int))) + (1442695040888963407 : Int))) (33 : Int)) (shrN IntKind.i64 (IntKind.i64.wrap ((IntKind.i64.wrap (x0.2.2.1 * (6364136223846793005 : Int))) + (1442695040888963407 : Int))) (45 : Int))) (255 : Int), ()), ((x0.1, (x0.2.1, (IntKind.i64.wrap ((IntKind.i64.wrap (x0.2.2.1 * (6364136223846793005 : Int))) + (1442695040888963407 : Int)), ()))), ()))) := by kernel_rfl
/-! spec.l1Below -/
noncomputable def spec_l1Below_b : Code := bd Try.f112
def spec_l1Below_T : List (Nat × Tm) := []
noncomputable def spec_l1Below_E : Env := ⟨tt0, [(149, spec_l1Byte_C)]⟩
noncomputable def spec_l1Below_F : PsD [.st tL1Cur, .ro tI] → Option (RsD [.own tI] × PsO [.st tL1Cur, .ro tI]) := fun x => evFn spec_l1Below_E spec_l1Below_T Try.f112 spec_l1Below_b [.st tL1Cur, .ro tI] [.own tI] x
@[reducible] noncomputable def spec_l1Below_C : Ct := ⟨[.st tL1Cur, .ro tI], [.own tI], spec_l1Below_F⟩
theorem spec_l1Below_h (x : PsD [.st tL1Cur, .ro tI]) (y : RsD [.own tI] × PsO [.st tL1Cur, .ro tI]) (h : spec_l1Below_F x = some y) : evFn spec_l1Below_E spec_l1Below_T Try.f112 spec_l1Below_b [.st tL1Cur, .ro tI] [.own tI] x = some y := h
theorem spec_l1Below_c : ∀ f c, get spec_l1Below_E.ct f = some c → Sat Try.prog f c := ct_cons spec_l1Byte_S (ct_nil)
theorem spec_l1Below_S : Sat Try.prog 112 spec_l1Below_C := fn_ok2 (envOk _) spec_l1Below_c mixedOk Try.func112 (by kernel_rfl : Try.f112.body = some spec_l1Below_b) (by kernel_rfl) (by kernel_rfl) spec_l1Below_h
noncomputable def spec_l1Below_Ke  (x0 : List Int × Int × Int × Unit) (x1 : Int) : Ex → AS → Option (RsD [.own tI] × PsO [.st tL1Cur, .ro tI]) := endK spec_l1Below_E Try.f112 [.st tL1Cur, .ro tI] [.own tI] (initL [.st tL1Cur, .ro tI] (x0, (x1, ())) 0).1
theorem spec_l1Below_main (x0 : List Int × Int × Int × Unit) (x1 : Int) : spec_l1Below_F (x0, (x1, ())) =
 brk (decide (x1 ≤ (0 : Int)))
 (some (((0 : Int), ()), ((x0.1, (x0.2.1, (x0.2.2.1, ()))), ((), ()))))
 (brk (decide (x1 ≤ (256 : Int)))
 ((spec_l1Byte_F ((x0.1, (x0.2.1, (x0.2.2.1, ()))), ())).bind fun y14 =>
 ck (decide (x1 ≠ 0)) (some ((y14.1.1.tmod x1, ()), ((y14.2.1.1, (y14.2.1.2.1, (y14.2.1.2.2.1, ()))), ((), ())))))
 ((spec_l1Byte_F ((x0.1, (x0.2.1, (x0.2.2.1, ()))), ())).bind fun y18 =>
 (spec_l1Byte_F ((y18.2.1.1, (y18.2.1.2.1, (y18.2.1.2.2.1, ()))), ())).bind fun y20 =>
 (spec_l1Byte_F ((y20.2.1.1, (y20.2.1.2.1, (y20.2.1.2.2.1, ()))), ())).bind fun y22 =>
 (spec_l1Byte_F ((y22.2.1.1, (y22.2.1.2.1, (y22.2.1.2.2.1, ()))), ())).bind fun y24 =>
 ck (decide (x1 ≠ 0)) (some (((IntKind.i64.wrap ((IntKind.i64.wrap ((IntKind.i64.wrap ((IntKind.i64.wrap (y18.1.1 * (16777216 : Int))) + (IntKind.i64.wrap (y20.1.1 * (65536 : Int))))) + (IntKind.i64.wrap (y22.1.1 * (256 : Int))))) + y24.1.1)).tmod x1, ()), ((y24.2.1.1, (y24.2.1.2.1, (y24.2.1.2.2.1, ()))), ((), ())))))) := by kernel_rfl
/-! spec.l1PickInt -/
noncomputable def spec_l1PickInt_b : Code := bd Try.f97
def spec_l1PickInt_T : List (Nat × Tm) := []
noncomputable def spec_l1PickInt_E : Env := ⟨tt0, [(112, spec_l1Below_C)]⟩
noncomputable def spec_l1PickInt_F : PsD [.st tL1Cur, .ro tIs] → Option (RsD [.own tI] × PsO [.st tL1Cur, .ro tIs]) := fun x => evFn spec_l1PickInt_E spec_l1PickInt_T Try.f97 spec_l1PickInt_b [.st tL1Cur, .ro tIs] [.own tI] x
@[reducible] noncomputable def spec_l1PickInt_C : Ct := ⟨[.st tL1Cur, .ro tIs], [.own tI], spec_l1PickInt_F⟩
theorem spec_l1PickInt_h (x : PsD [.st tL1Cur, .ro tIs]) (y : RsD [.own tI] × PsO [.st tL1Cur, .ro tIs]) (h : spec_l1PickInt_F x = some y) : evFn spec_l1PickInt_E spec_l1PickInt_T Try.f97 spec_l1PickInt_b [.st tL1Cur, .ro tIs] [.own tI] x = some y := h
theorem spec_l1PickInt_c : ∀ f c, get spec_l1PickInt_E.ct f = some c → Sat Try.prog f c := ct_cons spec_l1Below_S (ct_nil)
theorem spec_l1PickInt_S : Sat Try.prog 97 spec_l1PickInt_C := fn_ok2 (envOk _) spec_l1PickInt_c mixedOk Try.func97 (by kernel_rfl : Try.f97.body = some spec_l1PickInt_b) (by kernel_rfl) (by kernel_rfl) spec_l1PickInt_h
noncomputable def spec_l1PickInt_Ke  (x0 : List Int × Int × Int × Unit) (x1 : List Int) : Ex → AS → Option (RsD [.own tI] × PsO [.st tL1Cur, .ro tIs]) := endK spec_l1PickInt_E Try.f97 [.st tL1Cur, .ro tIs] [.own tI] (initL [.st tL1Cur, .ro tIs] (x0, (x1, ())) 0).1
theorem spec_l1PickInt_main (x0 : List Int × Int × Int × Unit) (x1 : List Int) : spec_l1PickInt_F (x0, (x1, ())) =
 (spec_l1Below_F ((x0.1, (x0.2.1, (x0.2.2.1, ()))), ((x1.length : Int), ()))).bind fun y9 =>
 ck (decide (0 ≤ y9.1.1) && decide (y9.1.1 < x1.length)) (some ((rdD tI x1 y9.1.1, ()), ((y9.2.1.1, (y9.2.1.2.1, (y9.2.1.2.2.1, ()))), ((), ())))) := by kernel_rfl
/-! spec.l1Once -/
noncomputable def spec_l1Once_b : Code := bd Try.f111
def spec_l1Once_T : List (Nat × Tm) := []
noncomputable def spec_l1Once_E : Env := ⟨tt0, [(112, spec_l1Below_C)]⟩
noncomputable def spec_l1Once_F : PsD [.st tL1Cur, .ro tI] → Option (RsD [.own tB] × PsO [.st tL1Cur, .ro tI]) := fun x => evFn spec_l1Once_E spec_l1Once_T Try.f111 spec_l1Once_b [.st tL1Cur, .ro tI] [.own tB] x
@[reducible] noncomputable def spec_l1Once_C : Ct := ⟨[.st tL1Cur, .ro tI], [.own tB], spec_l1Once_F⟩
theorem spec_l1Once_h (x : PsD [.st tL1Cur, .ro tI]) (y : RsD [.own tB] × PsO [.st tL1Cur, .ro tI]) (h : spec_l1Once_F x = some y) : evFn spec_l1Once_E spec_l1Once_T Try.f111 spec_l1Once_b [.st tL1Cur, .ro tI] [.own tB] x = some y := h
theorem spec_l1Once_c : ∀ f c, get spec_l1Once_E.ct f = some c → Sat Try.prog f c := ct_cons spec_l1Below_S (ct_nil)
theorem spec_l1Once_S : Sat Try.prog 111 spec_l1Once_C := fn_ok2 (envOk _) spec_l1Once_c mixedOk Try.func111 (by kernel_rfl : Try.f111.body = some spec_l1Once_b) (by kernel_rfl) (by kernel_rfl) spec_l1Once_h
noncomputable def spec_l1Once_Ke  (x0 : List Int × Int × Int × Unit) (x1 : Int) : Ex → AS → Option (RsD [.own tB] × PsO [.st tL1Cur, .ro tI]) := endK spec_l1Once_E Try.f111 [.st tL1Cur, .ro tI] [.own tB] (initL [.st tL1Cur, .ro tI] (x0, (x1, ())) 0).1
theorem spec_l1Once_main (x0 : List Int × Int × Int × Unit) (x1 : Int) : spec_l1Once_F (x0, (x1, ())) =
 (spec_l1Below_F ((x0.1, (x0.2.1, (x0.2.2.1, ()))), (x1, ()))).bind fun y7 =>
 some ((decide (y7.1.1 = (0 : Int)), ()), ((y7.2.1.1, (y7.2.1.2.1, (y7.2.1.2.2.1, ()))), ((), ()))) := by kernel_rfl
/-! spec.l2DrawMarks -/
noncomputable def spec_l2DrawMarks_b : Code := bd Try.f130
@[reducible] def spec_l2DrawMarks_t0 : Tm := ⟨[(3, 960000)], [], [(0, .ptr 1000000 0), (3, .own 960000), (4, .sc true tI)], [(960000, .arr 3 tI), (1000000, .box [.sc true tYs, .sc true tI, .sc true tI])], [0, 3], [960000]⟩
def spec_l2DrawMarks_T : List (Nat × Tm) := [(0, spec_l2DrawMarks_t0)]
noncomputable def spec_l2DrawMarks_E : Env := ⟨tt0, [(33, spec_Mark_C), (97, spec_l1PickInt_C), (111, spec_l1Once_C), (112, spec_l1Below_C)]⟩
noncomputable def spec_l2DrawMarks_F : PsD [.st tL1Cur] → Option (RsD [.own tIs] × PsO [.st tL1Cur]) := fun x => evFn spec_l2DrawMarks_E spec_l2DrawMarks_T Try.f130 spec_l2DrawMarks_b [.st tL1Cur] [.own tIs] x
@[reducible] noncomputable def spec_l2DrawMarks_C : Ct := ⟨[.st tL1Cur], [.own tIs], spec_l2DrawMarks_F⟩
theorem spec_l2DrawMarks_h (x : PsD [.st tL1Cur]) (y : RsD [.own tIs] × PsO [.st tL1Cur]) (h : spec_l2DrawMarks_F x = some y) : evFn spec_l2DrawMarks_E spec_l2DrawMarks_T Try.f130 spec_l2DrawMarks_b [.st tL1Cur] [.own tIs] x = some y := h
theorem spec_l2DrawMarks_c : ∀ f c, get spec_l2DrawMarks_E.ct f = some c → Sat Try.prog f c := ct_cons spec_Mark_S (ct_cons spec_l1PickInt_S (ct_cons spec_l1Once_S (ct_cons spec_l1Below_S (ct_nil))))
theorem spec_l2DrawMarks_S : Sat Try.prog 130 spec_l2DrawMarks_C := fn_ok2 (envOk _) spec_l2DrawMarks_c mixedOk Try.func130 (by kernel_rfl : Try.f130.body = some spec_l2DrawMarks_b) (by kernel_rfl) (by kernel_rfl) spec_l2DrawMarks_h
noncomputable def spec_l2DrawMarks_Ke  (x0 : List Int × Int × Int × Unit) : Ex → AS → Option (RsD [.own tIs] × PsO [.st tL1Cur]) := endK spec_l2DrawMarks_E Try.f130 [.st tL1Cur] [.own tIs] (initL [.st tL1Cur] (x0, ()) 0).1
noncomputable def spec_l2DrawMarks_B0 {R : Type} : AS → (Ex → AS → Option R) → Option R := fun A K => ev spec_l2DrawMarks_E spec_l2DrawMarks_T 0 (cA (cA (cB (cA (cB (cB spec_l2DrawMarks_b)))))) A K
noncomputable def spec_l2DrawMarks_K0  (x0 : List Int × Int × Int × Unit) : Ex → AS → Option (RsD [.own tIs] × PsO [.st tL1Cur]) := kBlk 0 (kSeq (fun A K => ev spec_l2DrawMarks_E spec_l2DrawMarks_T 1000 (cB (cB (cB spec_l2DrawMarks_b))) A K) (spec_l2DrawMarks_Ke x0))
noncomputable def spec_l2DrawMarks_x0_0 (d0 : List Int) (d1 : List Int) (d2 : Int) (d3 : Int) : AS := ⟨[(0, .v (.one (.bptr 1000000 0))), (3, .v (.one (.own 960000)))], [(960000, .arr 3 tI d0), (1000000, .box [.d true tYs d1, .d true tI d2, .d true tI d3])]⟩
theorem spec_l2DrawMarks_l0 {R : Type} {K : Ex → AS → Option R} {s : spec_l2DrawMarks_t0.D} (n : Nat) {v : Option R} (h : iterG spec_l2DrawMarks_t0 spec_l2DrawMarks_B0 K n s = v) (hv : ∃ r, v = some r) : loopG spec_l2DrawMarks_t0 spec_l2DrawMarks_B0 K s = v := loop_eq (ev_mono _ _) n h hv
theorem spec_l2DrawMarks_main (x0 : List Int × Int × Int × Unit) : spec_l2DrawMarks_F (x0, ()) =
 loopG spec_l2DrawMarks_t0 spec_l2DrawMarks_B0 (spec_l2DrawMarks_K0 x0) (((0 : Int), ()), (([] : List Int), ((x0.1, (x0.2.1, (x0.2.2.1, ()))), ()))) := by kernel_rfl
theorem spec_l2DrawMarks_r0 {R : Type} (K : Ex → AS → Option R) (n : Nat) (t4 : Int) (a960000 : List Int) (b1000000_0 : List Int) (b1000000_1 : Int) (b1000000_2 : Int) : iterG spec_l2DrawMarks_t0 spec_l2DrawMarks_B0 K (n + 1) ((t4, ()), (a960000, ((b1000000_0, (b1000000_1, (b1000000_2, ()))), ()))) =
 (spec_l1Below_F ((b1000000_0, (b1000000_1, (b1000000_2, ()))), ((5 : Int), ()))).bind fun y8 =>
 brk (decide (t4 < y8.1.1))
 ((spec_l1Below_F ((y8.2.1.1, (y8.2.1.2.1, (y8.2.1.2.2.1, ()))), ((8 : Int), ()))).bind fun y14 =>
 (spec_Mark_F (a960000, (y14.1.1, ()))).bind fun y15 =>
 iterG spec_l2DrawMarks_t0 spec_l2DrawMarks_B0 K n ((IntKind.i64.wrap (t4 + (1 : Int)), ()), (y15.1.1, ((y14.2.1.1, (y14.2.1.2.1, (y14.2.1.2.2.1, ()))), ()))))
 (K (.exit 0) (spec_l2DrawMarks_x0_0 a960000 y8.2.1.1 y8.2.1.2.1 y8.2.1.2.2.1)) := by kernel_rfl
theorem spec_l2DrawMarks_e0_0 (x0 : List Int × Int × Int × Unit) (d0 : List Int) (d1 : List Int) (d2 : Int) (d3 : Int) : spec_l2DrawMarks_K0 x0 (.exit 0) (spec_l2DrawMarks_x0_0 d0 d1 d2 d3) =
 (spec_l1Once_F ((d1, (d2, (d3, ()))), ((10 : Int), ()))).bind fun y17 =>
 brk y17.1.1
 ((spec_l1PickInt_F ((y17.2.1.1, (y17.2.1.2.1, (y17.2.1.2.2.1, ()))), ([(-1 : Int), (0 : Int), (7 : Int), (8 : Int)], ()))).bind fun y21 =>
 ck (decide ((d0.length + [y21.1.1].length) * 8 ≤ big47)) (some ((d0 ++ [y21.1.1], ()), ((y21.2.1.1, (y21.2.1.2.1, (y21.2.1.2.2.1, ()))), ()))))
 (some ((d0, ()), ((y17.2.1.1, (y17.2.1.2.1, (y17.2.1.2.2.1, ()))), ()))) := by kernel_rfl
/-! spec.DrawUnion -/
noncomputable def spec_DrawUnion_b : Code := bd Try.f63
def spec_DrawUnion_T : List (Nat × Tm) := []
noncomputable def spec_DrawUnion_E : Env := ⟨tt0, [(98, spec_l1New_C), (130, spec_l2DrawMarks_C)]⟩
noncomputable def spec_DrawUnion_F : PsD [.ro tYs] → Option (RsD [.own tIs, .own tIs] × PsO [.ro tYs]) := fun x => evFn spec_DrawUnion_E spec_DrawUnion_T Try.f63 spec_DrawUnion_b [.ro tYs] [.own tIs, .own tIs] x
@[reducible] noncomputable def spec_DrawUnion_C : Ct := ⟨[.ro tYs], [.own tIs, .own tIs], spec_DrawUnion_F⟩
theorem spec_DrawUnion_h (x : PsD [.ro tYs]) (y : RsD [.own tIs, .own tIs] × PsO [.ro tYs]) (h : spec_DrawUnion_F x = some y) : evFn spec_DrawUnion_E spec_DrawUnion_T Try.f63 spec_DrawUnion_b [.ro tYs] [.own tIs, .own tIs] x = some y := h
theorem spec_DrawUnion_c : ∀ f c, get spec_DrawUnion_E.ct f = some c → Sat Try.prog f c := ct_cons spec_l1New_S (ct_cons spec_l2DrawMarks_S (ct_nil))
theorem spec_DrawUnion_S : Sat Try.prog 63 spec_DrawUnion_C := fn_ok2 (envOk _) spec_DrawUnion_c mixedOk Try.func63 (by kernel_rfl : Try.f63.body = some spec_DrawUnion_b) (by kernel_rfl) (by kernel_rfl) spec_DrawUnion_h
noncomputable def spec_DrawUnion_Ke  (x0 : List Int) : Ex → AS → Option (RsD [.own tIs, .own tIs] × PsO [.ro tYs]) := endK spec_DrawUnion_E Try.f63 [.ro tYs] [.own tIs, .own tIs] (initL [.ro tYs] (x0, ()) 0).1
theorem spec_DrawUnion_main (x0 : List Int) : spec_DrawUnion_F (x0, ()) =
 (spec_l1New_F (x0, ())).bind fun y7 =>
 (spec_l2DrawMarks_F ((y7.1.1.1, (y7.1.1.2.1, (y7.1.1.2.2.1, ()))), ())).bind fun y9 =>
 (spec_l2DrawMarks_F ((y9.2.1.1, (y9.2.1.2.1, (y9.2.1.2.2.1, ()))), ())).bind fun y12 =>
 some ((y9.1.1, (y12.1.1, ())), ((), ())) := by kernel_rfl
/-! spec.DrawMark -/
noncomputable def spec_DrawMark_b : Code := bd Try.f64
def spec_DrawMark_T : List (Nat × Tm) := []
noncomputable def spec_DrawMark_E : Env := ⟨tt0, [(98, spec_l1New_C), (112, spec_l1Below_C), (130, spec_l2DrawMarks_C)]⟩
noncomputable def spec_DrawMark_F : PsD [.ro tYs] → Option (RsD [.own tIs, .own tI] × PsO [.ro tYs]) := fun x => evFn spec_DrawMark_E spec_DrawMark_T Try.f64 spec_DrawMark_b [.ro tYs] [.own tIs, .own tI] x
@[reducible] noncomputable def spec_DrawMark_C : Ct := ⟨[.ro tYs], [.own tIs, .own tI], spec_DrawMark_F⟩
theorem spec_DrawMark_h (x : PsD [.ro tYs]) (y : RsD [.own tIs, .own tI] × PsO [.ro tYs]) (h : spec_DrawMark_F x = some y) : evFn spec_DrawMark_E spec_DrawMark_T Try.f64 spec_DrawMark_b [.ro tYs] [.own tIs, .own tI] x = some y := h
theorem spec_DrawMark_c : ∀ f c, get spec_DrawMark_E.ct f = some c → Sat Try.prog f c := ct_cons spec_l1New_S (ct_cons spec_l1Below_S (ct_cons spec_l2DrawMarks_S (ct_nil)))
theorem spec_DrawMark_S : Sat Try.prog 64 spec_DrawMark_C := fn_ok2 (envOk _) spec_DrawMark_c mixedOk Try.func64 (by kernel_rfl : Try.f64.body = some spec_DrawMark_b) (by kernel_rfl) (by kernel_rfl) spec_DrawMark_h
noncomputable def spec_DrawMark_Ke  (x0 : List Int) : Ex → AS → Option (RsD [.own tIs, .own tI] × PsO [.ro tYs]) := endK spec_DrawMark_E Try.f64 [.ro tYs] [.own tIs, .own tI] (initL [.ro tYs] (x0, ()) 0).1
theorem spec_DrawMark_main (x0 : List Int) : spec_DrawMark_F (x0, ()) =
 (spec_l1New_F (x0, ())).bind fun y7 =>
 (spec_l2DrawMarks_F ((y7.1.1.1, (y7.1.1.2.1, (y7.1.1.2.2.1, ()))), ())).bind fun y9 =>
 (spec_l1Below_F ((y9.2.1.1, (y9.2.1.2.1, (y9.2.1.2.2.1, ()))), ((11 : Int), ()))).bind fun y12 =>
 some ((y9.1.1, (IntKind.i64.wrap (y12.1.1 - (1 : Int)), ())), ((), ())) := by kernel_rfl
/-! laws.at -/
noncomputable def laws_at_b : Code := bd Try.f65
def laws_at_T : List (Nat × Tm) := []
noncomputable def laws_at_E : Env := ⟨tt0, []⟩
noncomputable def laws_at_F : PsD [.ro tYs, .ro tI] → Option (RsD [.own tI] × PsO [.ro tYs, .ro tI]) := fun x => evFn laws_at_E laws_at_T Try.f65 laws_at_b [.ro tYs, .ro tI] [.own tI] x
@[reducible] noncomputable def laws_at_C : Ct := ⟨[.ro tYs, .ro tI], [.own tI], laws_at_F⟩
theorem laws_at_h (x : PsD [.ro tYs, .ro tI]) (y : RsD [.own tI] × PsO [.ro tYs, .ro tI]) (h : laws_at_F x = some y) : evFn laws_at_E laws_at_T Try.f65 laws_at_b [.ro tYs, .ro tI] [.own tI] x = some y := h
theorem laws_at_c : ∀ f c, get laws_at_E.ct f = some c → Sat Try.prog f c := ct_nil
theorem laws_at_S : Sat Try.prog 65 laws_at_C := fn_ok2 (envOk _) laws_at_c mixedOk Try.func65 (by kernel_rfl : Try.f65.body = some laws_at_b) (by kernel_rfl) (by kernel_rfl) laws_at_h
noncomputable def laws_at_Ke  (x0 : List Int) (x1 : Int) : Ex → AS → Option (RsD [.own tI] × PsO [.ro tYs, .ro tI]) := endK laws_at_E Try.f65 [.ro tYs, .ro tI] [.own tI] (initL [.ro tYs, .ro tI] (x0, (x1, ())) 0).1
theorem laws_at_main (x0 : List Int) (x1 : Int) : laws_at_F (x0, (x1, ())) =
 brk (decide (x1 < (x0.length : Int)))
 (ck (decide (0 ≤ x1) && decide (x1 < x0.length)) (some ((IntKind.i64.wrap (rdD tY x0 x1), ()), ((), ((), ())))))
 (some (((IntKind.i64.wrap ((IntKind.i64.wrap (x1 * (7 : Int))) + (x0.length : Int))).tmod (256 : Int), ()), ((), ((), ())))) := by kernel_rfl
/-! laws.sameInts -/
noncomputable def laws_sameInts_b : Code := bd Try.f66
@[reducible] def laws_sameInts_t0 : Tm := ⟨[], [], [(0, .sc true tIs), (1, .sc true tIs), (5, .sc true tI)], [], [4], []⟩
def laws_sameInts_T : List (Nat × Tm) := [(0, laws_sameInts_t0)]
noncomputable def laws_sameInts_E : Env := ⟨tt0, []⟩
noncomputable def laws_sameInts_F : PsD [.ro tIs, .ro tIs] → Option (RsD [.own tB] × PsO [.ro tIs, .ro tIs]) := fun x => evFn laws_sameInts_E laws_sameInts_T Try.f66 laws_sameInts_b [.ro tIs, .ro tIs] [.own tB] x
@[reducible] noncomputable def laws_sameInts_C : Ct := ⟨[.ro tIs, .ro tIs], [.own tB], laws_sameInts_F⟩
theorem laws_sameInts_h (x : PsD [.ro tIs, .ro tIs]) (y : RsD [.own tB] × PsO [.ro tIs, .ro tIs]) (h : laws_sameInts_F x = some y) : evFn laws_sameInts_E laws_sameInts_T Try.f66 laws_sameInts_b [.ro tIs, .ro tIs] [.own tB] x = some y := h
theorem laws_sameInts_c : ∀ f c, get laws_sameInts_E.ct f = some c → Sat Try.prog f c := ct_nil
theorem laws_sameInts_S : Sat Try.prog 66 laws_sameInts_C := fn_ok2 (envOk _) laws_sameInts_c mixedOk Try.func66 (by kernel_rfl : Try.f66.body = some laws_sameInts_b) (by kernel_rfl) (by kernel_rfl) laws_sameInts_h
noncomputable def laws_sameInts_Ke  (x0 : List Int) (x1 : List Int) : Ex → AS → Option (RsD [.own tB] × PsO [.ro tIs, .ro tIs]) := endK laws_sameInts_E Try.f66 [.ro tIs, .ro tIs] [.own tB] (initL [.ro tIs, .ro tIs] (x0, (x1, ())) 0).1
noncomputable def laws_sameInts_B0 {R : Type} : AS → (Ex → AS → Option R) → Option R := fun A K => ev laws_sameInts_E laws_sameInts_T 0 (cA (cA (cB (cA (cB (cB laws_sameInts_b)))))) A K
noncomputable def laws_sameInts_K0  (x0 : List Int) (x1 : List Int) : Ex → AS → Option (RsD [.own tB] × PsO [.ro tIs, .ro tIs]) := kBlk 0 (kSeq (fun A K => ev laws_sameInts_E laws_sameInts_T 1000 (cB (cB (cB laws_sameInts_b))) A K) (laws_sameInts_Ke x0 x1))
noncomputable def laws_sameInts_x0_0 (d0 : Bool) : AS := ⟨[(4, .v (.one (.d true tB d0)))], []⟩
noncomputable def laws_sameInts_x0_1 : AS := ⟨[], []⟩
theorem laws_sameInts_l0 {R : Type} {K : Ex → AS → Option R} {s : laws_sameInts_t0.D} (n : Nat) {v : Option R} (h : iterG laws_sameInts_t0 laws_sameInts_B0 K n s = v) (hv : ∃ r, v = some r) : loopG laws_sameInts_t0 laws_sameInts_B0 K s = v := loop_eq (ev_mono _ _) n h hv
theorem laws_sameInts_main (x0 : List Int) (x1 : List Int) : laws_sameInts_F (x0, (x1, ())) =
 brk (!decide ((x0.length : Int) = (x1.length : Int)))
 (some ((false, ()), ((), ((), ()))))
 (loopG laws_sameInts_t0 laws_sameInts_B0 (laws_sameInts_K0 x0 x1) ((x0, (x1, ((0 : Int), ()))), ())) := by kernel_rfl
theorem laws_sameInts_r0 {R : Type} (K : Ex → AS → Option R) (n : Nat) (t0 : List Int) (t1 : List Int) (t5 : Int) : iterG laws_sameInts_t0 laws_sameInts_B0 K (n + 1) ((t0, (t1, (t5, ()))), ()) =
 brk (decide (t5 < (t0.length : Int)))
 (ck (decide (0 ≤ t5) && decide (t5 < t0.length)) (ck (decide (0 ≤ t5) && decide (t5 < t1.length)) (brk (!decide (rdD tI t0 t5 = rdD tI t1 t5))
 (K .ret (laws_sameInts_x0_0 false))
 (iterG laws_sameInts_t0 laws_sameInts_B0 K n ((t0, (t1, (IntKind.i64.wrap (t5 + (1 : Int)), ()))), ())))))
 (K (.exit 0) (laws_sameInts_x0_1)) := by kernel_rfl
theorem laws_sameInts_e0_0 (x0 : List Int) (x1 : List Int) (d0 : Bool) : laws_sameInts_K0 x0 x1 .ret (laws_sameInts_x0_0 d0) =
 some ((d0, ()), ((), ((), ()))) := by kernel_rfl
theorem laws_sameInts_e0_1 (x0 : List Int) (x1 : List Int) : laws_sameInts_K0 x0 x1 (.exit 0) (laws_sameInts_x0_1) =
 some ((true, ()), ((), ((), ()))) := by kernel_rfl
/-! impl.MarksOk -/
noncomputable def impl_MarksOk_b : Code := bd Try.f67
@[reducible] def impl_MarksOk_t0 : Tm := ⟨[], [], [(0, .sc true tIs), (5, .sc true tIs), (6, .sc true tI), (7, .sc true tI)], [], [2], []⟩
def impl_MarksOk_T : List (Nat × Tm) := [(0, impl_MarksOk_t0)]
noncomputable def impl_MarksOk_E : Env := ⟨tt0, [(108, impl_isCell_C)]⟩
noncomputable def impl_MarksOk_F : PsD [.ro tIs] → Option (RsD [.own tB] × PsO [.ro tIs]) := fun x => evFn impl_MarksOk_E impl_MarksOk_T Try.f67 impl_MarksOk_b [.ro tIs] [.own tB] x
@[reducible] noncomputable def impl_MarksOk_C : Ct := ⟨[.ro tIs], [.own tB], impl_MarksOk_F⟩
theorem impl_MarksOk_h (x : PsD [.ro tIs]) (y : RsD [.own tB] × PsO [.ro tIs]) (h : impl_MarksOk_F x = some y) : evFn impl_MarksOk_E impl_MarksOk_T Try.f67 impl_MarksOk_b [.ro tIs] [.own tB] x = some y := h
theorem impl_MarksOk_c : ∀ f c, get impl_MarksOk_E.ct f = some c → Sat Try.prog f c := ct_cons impl_isCell_S (ct_nil)
theorem impl_MarksOk_S : Sat Try.prog 67 impl_MarksOk_C := fn_ok2 (envOk _) impl_MarksOk_c mixedOk Try.func67 (by kernel_rfl : Try.f67.body = some impl_MarksOk_b) (by kernel_rfl) (by kernel_rfl) impl_MarksOk_h
noncomputable def impl_MarksOk_Ke  (x0 : List Int) : Ex → AS → Option (RsD [.own tB] × PsO [.ro tIs]) := endK impl_MarksOk_E Try.f67 [.ro tIs] [.own tB] (initL [.ro tIs] (x0, ()) 0).1
noncomputable def impl_MarksOk_B0 {R : Type} : AS → (Ex → AS → Option R) → Option R := fun A K => ev impl_MarksOk_E impl_MarksOk_T 0 (cA (cA (cB (cA (cB impl_MarksOk_b))))) A K
noncomputable def impl_MarksOk_K0  (x0 : List Int) : Ex → AS → Option (RsD [.own tB] × PsO [.ro tIs]) := kBlk 0 (kSeq (fun A K => ev impl_MarksOk_E impl_MarksOk_T 1000 (cB (cB impl_MarksOk_b)) A K) (impl_MarksOk_Ke x0))
noncomputable def impl_MarksOk_x0_0 (d0 : Bool) : AS := ⟨[(2, .v (.one (.d true tB d0)))], []⟩
noncomputable def impl_MarksOk_x0_1 : AS := ⟨[], []⟩
theorem impl_MarksOk_l0 {R : Type} {K : Ex → AS → Option R} {s : impl_MarksOk_t0.D} (n : Nat) {v : Option R} (h : iterG impl_MarksOk_t0 impl_MarksOk_B0 K n s = v) (hv : ∃ r, v = some r) : loopG impl_MarksOk_t0 impl_MarksOk_B0 K s = v := loop_eq (ev_mono _ _) n h hv
theorem impl_MarksOk_main (x0 : List Int) : impl_MarksOk_F (x0, ()) =
 loopG impl_MarksOk_t0 impl_MarksOk_B0 (impl_MarksOk_K0 x0) ((x0, (x0, ((x0.length : Int), ((0 : Int), ())))), ()) := by kernel_rfl
theorem impl_MarksOk_r0 {R : Type} (K : Ex → AS → Option R) (n : Nat) (t0 : List Int) (t5 : List Int) (t6 : Int) (t7 : Int) : iterG impl_MarksOk_t0 impl_MarksOk_B0 K (n + 1) ((t0, (t5, (t6, (t7, ())))), ()) =
 brk (decide (t7 < t6))
 (ck (decide (0 ≤ t7) && decide (t7 < t5.length)) ((impl_isCell_F (rdD tI t5 t7, ())).bind fun y13 =>
 brk (!y13.1.1)
 (K .ret (impl_MarksOk_x0_0 false))
 (brk (decide ((0 : Int) < t7))
 (ck (decide (0 ≤ IntKind.i64.wrap (t7 - (1 : Int))) && decide (IntKind.i64.wrap (t7 - (1 : Int)) < t0.length)) (brk (decide (rdD tI t5 t7 ≤ rdD tI t0 (IntKind.i64.wrap (t7 - (1 : Int)))))
 (K .ret (impl_MarksOk_x0_0 false))
 (iterG impl_MarksOk_t0 impl_MarksOk_B0 K n ((t0, (t5, (t6, (IntKind.i64.wrap (t7 + (1 : Int)), ())))), ()))))
 (iterG impl_MarksOk_t0 impl_MarksOk_B0 K n ((t0, (t5, (t6, (IntKind.i64.wrap (t7 + (1 : Int)), ())))), ())))))
 (K (.exit 0) (impl_MarksOk_x0_1)) := by kernel_rfl
theorem impl_MarksOk_e0_0 (x0 : List Int) (d0 : Bool) : impl_MarksOk_K0 x0 .ret (impl_MarksOk_x0_0 d0) =
 some ((d0, ()), ((), ())) := by kernel_rfl
theorem impl_MarksOk_e0_1 (x0 : List Int) : impl_MarksOk_K0 x0 (.exit 0) (impl_MarksOk_x0_1) =
 some ((true, ()), ((), ())) := by kernel_rfl
/-! impl.Clear$1 -/
noncomputable def impl_Clear_1_b : Code := bd Try.f132
def impl_Clear_1_T : List (Nat × Tm) := []
noncomputable def impl_Clear_1_E : Env := ⟨tt0, []⟩
noncomputable def impl_Clear_1_F : PsD [.ro tI, .st tI] → Option (RsD [.own tB] × PsO [.ro tI, .st tI]) := fun x => evFn impl_Clear_1_E impl_Clear_1_T Try.f132 impl_Clear_1_b [.ro tI, .st tI] [.own tB] x
@[reducible] noncomputable def impl_Clear_1_C : Ct := ⟨[.ro tI, .st tI], [.own tB], impl_Clear_1_F⟩
theorem impl_Clear_1_h (x : PsD [.ro tI, .st tI]) (y : RsD [.own tB] × PsO [.ro tI, .st tI]) (h : impl_Clear_1_F x = some y) : evFn impl_Clear_1_E impl_Clear_1_T Try.f132 impl_Clear_1_b [.ro tI, .st tI] [.own tB] x = some y := h
theorem impl_Clear_1_c : ∀ f c, get impl_Clear_1_E.ct f = some c → Sat Try.prog f c := ct_nil
theorem impl_Clear_1_S : Sat Try.prog 132 impl_Clear_1_C := fn_ok2 (envOk _) impl_Clear_1_c mixedOk Try.func132 (by kernel_rfl : Try.f132.body = some impl_Clear_1_b) (by kernel_rfl) (by kernel_rfl) impl_Clear_1_h
noncomputable def impl_Clear_1_Ke  (x0 : Int) (x1 : Int) : Ex → AS → Option (RsD [.own tB] × PsO [.ro tI, .st tI]) := endK impl_Clear_1_E Try.f132 [.ro tI, .st tI] [.own tB] (initL [.ro tI, .st tI] (x0, (x1, ())) 0).1
theorem impl_Clear_1_main (x0 : Int) (x1 : Int) : impl_Clear_1_F (x0, (x1, ())) =
 some ((decide (x0 = x1), ()), ((), (x1, ()))) := by kernel_rfl
/-! slices.IndexFunc[[]int,int] -/
noncomputable def slices_IndexFunc_intD_b : Code := bd Try.f146
@[reducible] def slices_IndexFunc_intD_t0 : Tm := ⟨[], [], [(0, .sc true tIs), (1, .fnv 132 [1000016]), (7, .sc true tI), (8, .sc true tI)], [(1000016, .box [.sc true tI])], [4], []⟩
def slices_IndexFunc_intD_T : List (Nat × Tm) := [(0, slices_IndexFunc_intD_t0)]
noncomputable def slices_IndexFunc_intD_E : Env := ⟨tt0, [(132, impl_Clear_1_C)]⟩
noncomputable def slices_IndexFunc_intD_F : PsD [.ro tIs, .fn 132 [tI]] → Option (RsD [.own tI] × PsO [.ro tIs, .fn 132 [tI]]) := fun x => evFn slices_IndexFunc_intD_E slices_IndexFunc_intD_T Try.f146 slices_IndexFunc_intD_b [.ro tIs, .fn 132 [tI]] [.own tI] x
@[reducible] noncomputable def slices_IndexFunc_intD_C : Ct := ⟨[.ro tIs, .fn 132 [tI]], [.own tI], slices_IndexFunc_intD_F⟩
theorem slices_IndexFunc_intD_h (x : PsD [.ro tIs, .fn 132 [tI]]) (y : RsD [.own tI] × PsO [.ro tIs, .fn 132 [tI]]) (h : slices_IndexFunc_intD_F x = some y) : evFn slices_IndexFunc_intD_E slices_IndexFunc_intD_T Try.f146 slices_IndexFunc_intD_b [.ro tIs, .fn 132 [tI]] [.own tI] x = some y := h
theorem slices_IndexFunc_intD_c : ∀ f c, get slices_IndexFunc_intD_E.ct f = some c → Sat Try.prog f c := ct_cons impl_Clear_1_S (ct_nil)
theorem slices_IndexFunc_intD_S : Sat Try.prog 146 slices_IndexFunc_intD_C := fn_ok2 (envOk _) slices_IndexFunc_intD_c mixedOk Try.func146 (by kernel_rfl : Try.f146.body = some slices_IndexFunc_intD_b) (by kernel_rfl) (by kernel_rfl) slices_IndexFunc_intD_h
noncomputable def slices_IndexFunc_intD_Ke  (x0 : List Int) (x1 : Int × Unit) : Ex → AS → Option (RsD [.own tI] × PsO [.ro tIs, .fn 132 [tI]]) := endK slices_IndexFunc_intD_E Try.f146 [.ro tIs, .fn 132 [tI]] [.own tI] (initL [.ro tIs, .fn 132 [tI]] (x0, (x1, ())) 0).1
noncomputable def slices_IndexFunc_intD_B0 {R : Type} : AS → (Ex → AS → Option R) → Option R := fun A K => ev slices_IndexFunc_intD_E slices_IndexFunc_intD_T 0 (cA (cA (cB (cA (cB slices_IndexFunc_intD_b))))) A K
noncomputable def slices_IndexFunc_intD_K0  (x0 : List Int) (x1 : Int × Unit) : Ex → AS → Option (RsD [.own tI] × PsO [.ro tIs, .fn 132 [tI]]) := kBlk 0 (kSeq (fun A K => ev slices_IndexFunc_intD_E slices_IndexFunc_intD_T 1000 (cB (cB slices_IndexFunc_intD_b)) A K) (slices_IndexFunc_intD_Ke x0 x1))
noncomputable def slices_IndexFunc_intD_x0_0 (d0 : Int) (d1 : Int) : AS := ⟨[(4, .v (.one (.d true tI d0)))], [(1000016, .box [.d true tI d1])]⟩
noncomputable def slices_IndexFunc_intD_x0_1 (d0 : Int) : AS := ⟨[], [(1000016, .box [.d true tI d0])]⟩
theorem slices_IndexFunc_intD_l0 {R : Type} {K : Ex → AS → Option R} {s : slices_IndexFunc_intD_t0.D} (n : Nat) {v : Option R} (h : iterG slices_IndexFunc_intD_t0 slices_IndexFunc_intD_B0 K n s = v) (hv : ∃ r, v = some r) : loopG slices_IndexFunc_intD_t0 slices_IndexFunc_intD_B0 K s = v := loop_eq (ev_mono _ _) n h hv
theorem slices_IndexFunc_intD_main (x0 : List Int) (x1 : Int × Unit) : slices_IndexFunc_intD_F (x0, (x1, ())) =
 loopG slices_IndexFunc_intD_t0 slices_IndexFunc_intD_B0 (slices_IndexFunc_intD_K0 x0 x1) ((x0, ((x0.length : Int), ((0 : Int), ()))), ((x1.1, ()), ())) := by kernel_rfl
theorem slices_IndexFunc_intD_r0 {R : Type} (K : Ex → AS → Option R) (n : Nat) (t0 : List Int) (t7 : Int) (t8 : Int) (b1000016_0 : Int) : iterG slices_IndexFunc_intD_t0 slices_IndexFunc_intD_B0 K (n + 1) ((t0, (t7, (t8, ()))), ((b1000016_0, ()), ())) =
 brk (decide (t8 < t7))
 (ck (decide (0 ≤ t8) && decide (t8 < t0.length)) ((impl_Clear_1_F (rdD tI t0 t8, (b1000016_0, ()))).bind fun y16 =>
 brk y16.1.1
 (K .ret (slices_IndexFunc_intD_x0_0 t8 y16.2.2.1))
 (iterG slices_IndexFunc_intD_t0 slices_IndexFunc_intD_B0 K n ((t0, (t7, (IntKind.i64.wrap (t8 + (1 : Int)), ()))), ((y16.2.2.1, ()), ())))))
 (K (.exit 0) (slices_IndexFunc_intD_x0_1 b1000016_0)) := by kernel_rfl
theorem slices_IndexFunc_intD_e0_0 (x0 : List Int) (x1 : Int × Unit) (d0 : Int) (d1 : Int) : slices_IndexFunc_intD_K0 x0 x1 .ret (slices_IndexFunc_intD_x0_0 d0 d1) =
 some ((d0, ()), ((), ((d1, ()), ()))) := by kernel_rfl
theorem slices_IndexFunc_intD_e0_1 (x0 : List Int) (x1 : Int × Unit) (d0 : Int) : slices_IndexFunc_intD_K0 x0 x1 (.exit 0) (slices_IndexFunc_intD_x0_1 d0) =
 some (((-1 : Int), ()), ((), ((d0, ()), ()))) := by kernel_rfl
/-! slices.DeleteFunc[[]int,int] -/
noncomputable def slices_DeleteFunc_int_b : Code := bd Try.f131
@[reducible] def slices_DeleteFunc_int_t0 : Tm := ⟨[], [], [(0, .own 1000000), (1, .fnv 132 [1000016]), (5, .sc true tI), (6, .sc true tI)], [(1000000, .arr 3 tI), (1000016, .box [.sc true tI])], [0, 5], []⟩
def slices_DeleteFunc_int_T : List (Nat × Tm) := [(0, slices_DeleteFunc_int_t0)]
noncomputable def slices_DeleteFunc_int_E : Env := ⟨tt0, [(132, impl_Clear_1_C), (146, slices_IndexFunc_intD_C)]⟩
noncomputable def slices_DeleteFunc_int_F : PsD [.mv tIs, .fn 132 [tI]] → Option (RsD [.own tIs] × PsO [.mv tIs, .fn 132 [tI]]) := fun x => evFn slices_DeleteFunc_int_E slices_DeleteFunc_int_T Try.f131 slices_DeleteFunc_int_b [.mv tIs, .fn 132 [tI]] [.own tIs] x
@[reducible] noncomputable def slices_DeleteFunc_int_C : Ct := ⟨[.mv tIs, .fn 132 [tI]], [.own tIs], slices_DeleteFunc_int_F⟩
theorem slices_DeleteFunc_int_h (x : PsD [.mv tIs, .fn 132 [tI]]) (y : RsD [.own tIs] × PsO [.mv tIs, .fn 132 [tI]]) (h : slices_DeleteFunc_int_F x = some y) : evFn slices_DeleteFunc_int_E slices_DeleteFunc_int_T Try.f131 slices_DeleteFunc_int_b [.mv tIs, .fn 132 [tI]] [.own tIs] x = some y := h
theorem slices_DeleteFunc_int_c : ∀ f c, get slices_DeleteFunc_int_E.ct f = some c → Sat Try.prog f c := ct_cons impl_Clear_1_S (ct_cons slices_IndexFunc_intD_S (ct_nil))
theorem slices_DeleteFunc_int_S : Sat Try.prog 131 slices_DeleteFunc_int_C := fn_ok2 (envOk _) slices_DeleteFunc_int_c mixedOk Try.func131 (by kernel_rfl : Try.f131.body = some slices_DeleteFunc_int_b) (by kernel_rfl) (by kernel_rfl) slices_DeleteFunc_int_h
noncomputable def slices_DeleteFunc_int_Ke  (x0 : List Int) (x1 : Int × Unit) : Ex → AS → Option (RsD [.own tIs] × PsO [.mv tIs, .fn 132 [tI]]) := endK slices_DeleteFunc_int_E Try.f131 [.mv tIs, .fn 132 [tI]] [.own tIs] (initL [.mv tIs, .fn 132 [tI]] (x0, (x1, ())) 0).1
noncomputable def slices_DeleteFunc_int_B0 {R : Type} : AS → (Ex → AS → Option R) → Option R := fun A K => ev slices_DeleteFunc_int_E slices_DeleteFunc_int_T 0 (cA (cA (cB (cA (cB (cB (cB slices_DeleteFunc_int_b))))))) A K
noncomputable def slices_DeleteFunc_int_K0  (x0 : List Int) (x1 : Int × Unit) : Ex → AS → Option (RsD [.own tIs] × PsO [.mv tIs, .fn 132 [tI]]) := kBlk 0 (kSeq (fun A K => ev slices_DeleteFunc_int_E slices_DeleteFunc_int_T 1000 (cB (cB (cB (cB slices_DeleteFunc_int_b)))) A K) (slices_DeleteFunc_int_Ke x0 x1))
noncomputable def slices_DeleteFunc_int_x0_0 (d0 : Int) (d1 : List Int) (d2 : Int) : AS := ⟨[(0, .v (.one (.own 1000000))), (5, .v (.one (.d true tI d0)))], [(1000000, .arr 3 tI d1), (1000016, .box [.d true tI d2])]⟩
theorem slices_DeleteFunc_int_l0 {R : Type} {K : Ex → AS → Option R} {s : slices_DeleteFunc_int_t0.D} (n : Nat) {v : Option R} (h : iterG slices_DeleteFunc_int_t0 slices_DeleteFunc_int_B0 K n s = v) (hv : ∃ r, v = some r) : loopG slices_DeleteFunc_int_t0 slices_DeleteFunc_int_B0 K s = v := loop_eq (ev_mono _ _) n h hv
theorem slices_DeleteFunc_int_main (x0 : List Int) (x1 : Int × Unit) : slices_DeleteFunc_int_F (x0, (x1, ())) =
 (slices_IndexFunc_intD_F (x0, ((x1.1, ()), ()))).bind fun y10 =>
 brk (decide (y10.1.1 = (-1 : Int)))
 (some ((x0, ()), ((), ((y10.2.2.1.1, ()), ()))))
 (loopG slices_DeleteFunc_int_t0 slices_DeleteFunc_int_B0 (slices_DeleteFunc_int_K0 x0 x1) ((y10.1.1, (IntKind.i64.wrap (y10.1.1 + (1 : Int)), ())), (x0, ((y10.2.2.1.1, ()), ())))) := by kernel_rfl
theorem slices_DeleteFunc_int_r0 {R : Type} (K : Ex → AS → Option R) (n : Nat) (t5 : Int) (t6 : Int) (a1000000 : List Int) (b1000016_0 : Int) : iterG slices_DeleteFunc_int_t0 slices_DeleteFunc_int_B0 K (n + 1) ((t5, (t6, ())), (a1000000, ((b1000016_0, ()), ()))) =
 brk (decide (t6 < (a1000000.length : Int)))
 (ck (decide (0 ≤ t6) && decide (t6 < a1000000.length)) ((impl_Clear_1_F (rdD tI a1000000 t6, (b1000016_0, ()))).bind fun y28 =>
 brk (!y28.1.1)
 (ck (decide (0 ≤ t5) && decide (t5 < a1000000.length)) (iterG slices_DeleteFunc_int_t0 slices_DeleteFunc_int_B0 K n ((IntKind.i64.wrap (t5 + (1 : Int)), (IntKind.i64.wrap (t6 + (1 : Int)), ())), (a1000000.set t5.toNat (rdD tI a1000000 t6), ((y28.2.2.1, ()), ())))))
 (iterG slices_DeleteFunc_int_t0 slices_DeleteFunc_int_B0 K n ((t5, (IntKind.i64.wrap (t6 + (1 : Int)), ())), (a1000000, ((y28.2.2.1, ()), ()))))))
 (K (.exit 0) (slices_DeleteFunc_int_x0_0 t5 a1000000 b1000016_0)) := by kernel_rfl
theorem slices_DeleteFunc_int_e0_0 (x0 : List Int) (x1 : Int × Unit) (d0 : Int) (d1 : List Int) (d2 : Int) : slices_DeleteFunc_int_K0 x0 x1 (.exit 0) (slices_DeleteFunc_int_x0_0 d0 d1 d2) =
 ck (decide (0 ≤ d0) && decide (d0 ≤ (d1.length : Int)) && decide ((d1.length : Int) ≤ d1.length)) (ck (decide (0 ≤ (0 : Int)) && decide ((0 : Int) ≤ d0) && decide (d0 ≤ (d1.take d0.toNat ++ List.replicate ((d1.length : Int).toNat - d0.toNat) tI.zero ++ d1.drop (d1.length : Int).toNat).length)) (some (((d1.take d0.toNat ++ List.replicate ((d1.length : Int).toNat - d0.toNat) tI.zero ++ d1.drop (d1.length : Int).toNat).take d0.toNat, ()), ((), ((d2, ()), ()))))) := by kernel_rfl
/-! impl.Clear -/
noncomputable def impl_Clear_b : Code := bd Try.f68
def impl_Clear_T : List (Nat × Tm) := []
noncomputable def impl_Clear_E : Env := ⟨tt0, [(109, slices_Clone_int_C), (131, slices_DeleteFunc_int_C)]⟩
noncomputable def impl_Clear_F : PsD [.ro tIs, .ro tI] → Option (RsD [.own tIs] × PsO [.ro tIs, .ro tI]) := fun x => evFn impl_Clear_E impl_Clear_T Try.f68 impl_Clear_b [.ro tIs, .ro tI] [.own tIs] x
@[reducible] noncomputable def impl_Clear_C : Ct := ⟨[.ro tIs, .ro tI], [.own tIs], impl_Clear_F⟩
theorem impl_Clear_h (x : PsD [.ro tIs, .ro tI]) (y : RsD [.own tIs] × PsO [.ro tIs, .ro tI]) (h : impl_Clear_F x = some y) : evFn impl_Clear_E impl_Clear_T Try.f68 impl_Clear_b [.ro tIs, .ro tI] [.own tIs] x = some y := h
theorem impl_Clear_c : ∀ f c, get impl_Clear_E.ct f = some c → Sat Try.prog f c := ct_cons slices_Clone_int_S (ct_cons slices_DeleteFunc_int_S (ct_nil))
theorem impl_Clear_S : Sat Try.prog 68 impl_Clear_C := fn_ok2 (envOk _) impl_Clear_c mixedOk Try.func68 (by kernel_rfl : Try.f68.body = some impl_Clear_b) (by kernel_rfl) (by kernel_rfl) impl_Clear_h
noncomputable def impl_Clear_Ke  (x0 : List Int) (x1 : Int) : Ex → AS → Option (RsD [.own tIs] × PsO [.ro tIs, .ro tI]) := endK impl_Clear_E Try.f68 [.ro tIs, .ro tI] [.own tIs] (initL [.ro tIs, .ro tI] (x0, (x1, ())) 0).1
theorem impl_Clear_main (x0 : List Int) (x1 : Int) : impl_Clear_F (x0, (x1, ())) =
 (slices_Clone_int_F (x0, ())).bind fun y6 =>
 (slices_DeleteFunc_int_F (y6.1.1, ((x1, ()), ()))).bind fun y8 =>
 some ((y8.1.1, ()), ((), ((), ()))) := by kernel_rfl
/-! laws.FnMarksAlgebra -/
noncomputable def laws_FnMarksAlgebra_b : Code := bd Try.f10
def laws_FnMarksAlgebra_T : List (Nat × Tm) := []
noncomputable def laws_FnMarksAlgebra_E : Env := ⟨tt0, [(15, laws_big_C), (33, spec_Mark_C), (35, impl_Mark_C), (57, spec_Union_C), (58, impl_Union_C), (63, spec_DrawUnion_C), (64, spec_DrawMark_C), (65, laws_at_C), (66, laws_sameInts_C), (67, impl_MarksOk_C), (68, impl_Clear_C)]⟩
noncomputable def laws_FnMarksAlgebra_F : PsD [.ro tYs] → Option (RsD [.own tB] × PsO [.ro tYs]) := fun x => evFn laws_FnMarksAlgebra_E laws_FnMarksAlgebra_T Try.f10 laws_FnMarksAlgebra_b [.ro tYs] [.own tB] x
@[reducible] noncomputable def laws_FnMarksAlgebra_C : Ct := ⟨[.ro tYs], [.own tB], laws_FnMarksAlgebra_F⟩
theorem laws_FnMarksAlgebra_h (x : PsD [.ro tYs]) (y : RsD [.own tB] × PsO [.ro tYs]) (h : laws_FnMarksAlgebra_F x = some y) : evFn laws_FnMarksAlgebra_E laws_FnMarksAlgebra_T Try.f10 laws_FnMarksAlgebra_b [.ro tYs] [.own tB] x = some y := h
theorem laws_FnMarksAlgebra_c : ∀ f c, get laws_FnMarksAlgebra_E.ct f = some c → Sat Try.prog f c := ct_cons laws_big_S (ct_cons spec_Mark_S (ct_cons impl_Mark_S (ct_cons spec_Union_S (ct_cons impl_Union_S (ct_cons spec_DrawUnion_S (ct_cons spec_DrawMark_S (ct_cons laws_at_S (ct_cons laws_sameInts_S (ct_cons impl_MarksOk_S (ct_cons impl_Clear_S (ct_nil)))))))))))
theorem laws_FnMarksAlgebra_S : Sat Try.prog 10 laws_FnMarksAlgebra_C := fn_ok2 (envOk _) laws_FnMarksAlgebra_c mixedOk Try.func10 (by kernel_rfl : Try.f10.body = some laws_FnMarksAlgebra_b) (by kernel_rfl) (by kernel_rfl) laws_FnMarksAlgebra_h
noncomputable def laws_FnMarksAlgebra_Ke  (x0 : List Int) : Ex → AS → Option (RsD [.own tB] × PsO [.ro tYs]) := endK laws_FnMarksAlgebra_E Try.f10 [.ro tYs] [.own tB] (initL [.ro tYs] (x0, ()) 0).1
theorem laws_FnMarksAlgebra_main (x0 : List Int) : laws_FnMarksAlgebra_F (x0, ()) =
 (laws_big_F (x0, ())).bind fun y10 =>
 brk y10.1.1
 (some ((true, ()), ((), ())))
 ((spec_DrawUnion_F (x0, ())).bind fun y13 =>
 (spec_DrawMark_F (x0, ())).bind fun y18 =>
 (laws_at_F (x0, ((3 : Int), ()))).bind fun y22 =>
 (impl_Union_F (y13.1.1, (y13.1.2.1, ()))).bind fun y26 =>
 (spec_Union_F (y13.1.1, (y13.1.2.1, ()))).bind fun y30 =>
 (laws_sameInts_F (y26.1.1, (y30.1.1, ()))).bind fun y31 =>
 brk (!y31.1.1)
 (some ((false, ()), ((), ())))
 ((impl_Mark_F (y18.1.1, (y18.1.2.1, ()))).bind fun y36 =>
 (spec_Mark_F (y18.1.1, (y18.1.2.1, ()))).bind fun y39 =>
 (laws_sameInts_F (y36.1.1, (y39.1.1, ()))).bind fun y40 =>
 brk (!y40.1.1)
 (some ((false, ()), ((), ())))
 ((impl_MarksOk_F (y13.1.1, ())).bind fun y44 =>
 brk (!y44.1.1)
 (some ((true, ()), ((), ())))
 ((impl_MarksOk_F (y13.1.2.1, ())).bind fun y48 =>
 brk (!y48.1.1)
 (some ((true, ()), ((), ())))
 ((impl_MarksOk_F (y18.1.1, ())).bind fun y53 =>
 brk (!y53.1.1)
 (some ((true, ()), ((), ())))
 ((impl_Union_F (y13.1.2.1, (y13.1.1, ()))).bind fun y59 =>
 (laws_sameInts_F (y26.1.1, (y59.1.1, ()))).bind fun y60 =>
 brk y60.1.1
 ((impl_Union_F (y26.1.1, (y13.1.1, ()))).bind fun y64 =>
 (laws_sameInts_F (y64.1.1, (y26.1.1, ()))).bind fun y66 =>
 brk y66.1.1
 ((impl_Union_F (y13.1.1, (y13.1.1, ()))).bind fun y71 =>
 (laws_sameInts_F (y71.1.1, (y13.1.1, ()))).bind fun y73 =>
 brk y73.1.1
 ((impl_Mark_F (y18.1.1, (y18.1.2.1, ()))).bind fun y78 =>
 (impl_Mark_F (y78.1.1, (y22.1.1.tmod (8 : Int), ()))).bind fun y80 =>
 (impl_Mark_F (y18.1.1, (y22.1.1.tmod (8 : Int), ()))).bind fun y83 =>
 (impl_Mark_F (y83.1.1, (y18.1.2.1, ()))).bind fun y85 =>
 (laws_sameInts_F (y80.1.1, (y85.1.1, ()))).bind fun y86 =>
 brk y86.1.1
 ((impl_Mark_F (y18.1.1, (y22.1.1.tmod (8 : Int), ()))).bind fun y91 =>
 (impl_Clear_F (y91.1.1, (y22.1.1.tmod (8 : Int), ()))).bind fun y93 =>
 (impl_Clear_F (y18.1.1, (y22.1.1.tmod (8 : Int), ()))).bind fun y96 =>
 (laws_sameInts_F (y93.1.1, (y96.1.1, ()))).bind fun y97 =>
 some ((y97.1.1, ()), ((), ())))
 (some ((false, ()), ((), ()))))
 (some ((false, ()), ((), ()))))
 (some ((false, ()), ((), ()))))
 (some ((false, ()), ((), ()))))))))) := by kernel_rfl
end Go.Refl
