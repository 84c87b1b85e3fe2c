/- Functions of the program, told by the evaluator: printed by a program of this claim. No condition. -/
import Derived.Test.YtbhonnfinekpcaaFnSlotsGf
namespace Go.Refl
open Go.RowKit Go.Proofs
set_option linter.unusedVariables false
set_option maxRecDepth 100000
/-! spec.l5Draw -/
noncomputable def spec_l5Draw_b : Code := bd Try.f76
def spec_l5Draw_T : List (Nat × Tm) := []
noncomputable def spec_l5Draw_E : Env := ⟨tt0, [(50, spec_l5DrawRight_C), (51, spec_l1PickInt_C), (100, spec_l1Below_C), (117, spec_l2DrawMarks_C)]⟩
noncomputable def spec_l5Draw_F : PsD [.st tL1Cur] → Option (RsD [.own tMeta] × PsO [.st tL1Cur]) := fun x => evFn spec_l5Draw_E spec_l5Draw_T Try.f76 spec_l5Draw_b [.st tL1Cur] [.own tMeta] x
@[reducible] noncomputable def spec_l5Draw_C : Ct := ⟨[.st tL1Cur], [.own tMeta], spec_l5Draw_F⟩
theorem spec_l5Draw_h (x : PsD [.st tL1Cur]) (y : RsD [.own tMeta] × PsO [.st tL1Cur]) (h : spec_l5Draw_F x = some y) : evFn spec_l5Draw_E spec_l5Draw_T Try.f76 spec_l5Draw_b [.st tL1Cur] [.own tMeta] x = some y := h
theorem spec_l5Draw_c : ∀ f c, get spec_l5Draw_E.ct f = some c → Sat Try.prog f c := ct_cons spec_l5DrawRight_S (ct_cons spec_l1PickInt_S (ct_cons spec_l1Below_S (ct_cons spec_l2DrawMarks_S (ct_nil))))
theorem spec_l5Draw_S : Sat Try.prog 76 spec_l5Draw_C := fn_ok2 (envOk _) spec_l5Draw_c mixedOk Try.func76 (by kernel_rfl : Try.f76.body = some spec_l5Draw_b) (by kernel_rfl) (by kernel_rfl) spec_l5Draw_h
noncomputable def spec_l5Draw_Ke  (x0 : List Int × Int × Int × Unit) : Ex → AS → Option (RsD [.own tMeta] × PsO [.st tL1Cur]) := endK spec_l5Draw_E Try.f76 [.st tL1Cur] [.own tMeta] (initL [.st tL1Cur] (x0, ()) 0).1
theorem spec_l5Draw_main (x0 : List Int × Int × Int × Unit) : spec_l5Draw_F (x0, ()) =
 (spec_l5DrawRight_F ((x0.1, (x0.2.1, (x0.2.2.1, ()))), ())).bind fun y5 =>
 (spec_l1Below_F ((y5.2.1.1, (y5.2.1.2.1, (y5.2.1.2.2.1, ()))), ((12 : Int), ()))).bind fun y7 =>
 brk (decide (y7.1.1 = (0 : Int)))
 (both ((spec_l1PickInt_F ((y7.2.1.1, (y7.2.1.2.1, (y7.2.1.2.2.1, ()))), ([(0 : Int), (1 : Int), (9 : Int), (100001 : Int)], ()))).bind fun y14 =>
 ck (decide ((y5.1.1.1.length + [y14.1.1].length) * 8 ≤ big47)) (some (((y5.1.1.1 ++ [y14.1.1], (y5.1.1.2.1, (y5.1.1.2.2.1, (y5.1.1.2.2.2.1, (y5.1.1.2.2.2.2.1, (y5.1.1.2.2.2.2.2.1, ())))))), ()), ((y14.2.1.1, (y14.2.1.2.1, (y14.2.1.2.2.1, ()))), ()))))
 (both ((spec_l1PickInt_F ((y7.2.1.1, (y7.2.1.2.1, (y7.2.1.2.2.1, ()))), ([(0 : Int), (1 : Int), (9 : Int), (100001 : Int)], ()))).bind fun y14 =>
 ck (decide ((y5.1.1.1.length + [y14.1.1].length) * 8 ≤ big47)) (some (((y5.1.1.1 ++ [y14.1.1], (y5.1.1.2.1, (y5.1.1.2.2.1, (y5.1.1.2.2.2.1, (y5.1.1.2.2.2.2.1, (y5.1.1.2.2.2.2.2.1, ())))))), ()), ((y14.2.1.1, (y14.2.1.2.1, (y14.2.1.2.2.1, ()))), ()))))
 ((spec_l1PickInt_F ((y7.2.1.1, (y7.2.1.2.1, (y7.2.1.2.2.1, ()))), ([(0 : Int), (1 : Int), (9 : Int), (100001 : Int)], ()))).bind fun y14 =>
 both (ck (decide ((y5.1.1.1.length + [y14.1.1].length) * 8 ≤ big47)) (some (((y5.1.1.1 ++ [y14.1.1], (y5.1.1.2.1, (y5.1.1.2.2.1, (y5.1.1.2.2.2.1, (y5.1.1.2.2.2.2.1, (y5.1.1.2.2.2.2.2.1, ())))))), ()), ((y14.2.1.1, (y14.2.1.2.1, (y14.2.1.2.2.1, ()))), ()))))
 (ck (decide ((y5.1.1.1.length + [y14.1.1].length) * 8 ≤ big47)) (some (((y5.1.1.1 ++ [y14.1.1], (y5.1.1.2.1, (y5.1.1.2.2.1, (y5.1.1.2.2.2.1, (y5.1.1.2.2.2.2.1, (y5.1.1.2.2.2.2.2.1, ())))))), ()), ((y14.2.1.1, (y14.2.1.2.1, (y14.2.1.2.2.1, ()))), ())))))))
 (brk (decide (y7.1.1 = (1 : Int)))
 (both ((spec_l1Below_F ((y7.2.1.1, (y7.2.1.2.1, (y7.2.1.2.2.1, ()))), ((3 : Int), ()))).bind fun y23 =>
 (spec_l2DrawMarks_F ((y23.2.1.1, (y23.2.1.2.1, (y23.2.1.2.2.1, ()))), ())).bind fun y25 =>
 ck (decide (0 ≤ y23.1.1) && decide (y23.1.1 < y5.1.1.2.1.length)) (some (((y5.1.1.1, (y5.1.1.2.1.set y23.1.1.toNat y25.1.1, (y5.1.1.2.2.1, (y5.1.1.2.2.2.1, (y5.1.1.2.2.2.2.1, (y5.1.1.2.2.2.2.2.1, ())))))), ()), ((y25.2.1.1, (y25.2.1.2.1, (y25.2.1.2.2.1, ()))), ()))))
 ((spec_l1Below_F ((y7.2.1.1, (y7.2.1.2.1, (y7.2.1.2.2.1, ()))), ((3 : Int), ()))).bind fun y23 =>
 both ((spec_l2DrawMarks_F ((y23.2.1.1, (y23.2.1.2.1, (y23.2.1.2.2.1, ()))), ())).bind fun y25 =>
 ck (decide (0 ≤ y23.1.1) && decide (y23.1.1 < y5.1.1.2.1.length)) (some (((y5.1.1.1, (y5.1.1.2.1.set y23.1.1.toNat y25.1.1, (y5.1.1.2.2.1, (y5.1.1.2.2.2.1, (y5.1.1.2.2.2.2.1, (y5.1.1.2.2.2.2.2.1, ())))))), ()), ((y25.2.1.1, (y25.2.1.2.1, (y25.2.1.2.2.1, ()))), ()))))
 ((spec_l2DrawMarks_F ((y23.2.1.1, (y23.2.1.2.1, (y23.2.1.2.2.1, ()))), ())).bind fun y25 =>
 ck (decide (0 ≤ y23.1.1) && decide (y23.1.1 < y5.1.1.2.1.length)) (some (((y5.1.1.1, (y5.1.1.2.1.set y23.1.1.toNat y25.1.1, (y5.1.1.2.2.1, (y5.1.1.2.2.2.1, (y5.1.1.2.2.2.2.1, (y5.1.1.2.2.2.2.2.1, ())))))), ()), ((y25.2.1.1, (y25.2.1.2.1, (y25.2.1.2.2.1, ()))), ()))))))
 (brk (decide (y7.1.1 = (2 : Int)))
 (ck (decide (0 ≤ (0 : Int)) && decide ((0 : Int) ≤ (2 : Int)) && decide ((2 : Int) ≤ y5.1.1.2.1.length)) (some (((y5.1.1.1, (y5.1.1.2.1.take (2 : Int).toNat, (y5.1.1.2.2.1, (y5.1.1.2.2.2.1, (y5.1.1.2.2.2.2.1, (y5.1.1.2.2.2.2.2.1, ())))))), ()), ((y7.2.1.1, (y7.2.1.2.1, (y7.2.1.2.2.1, ()))), ()))))
 (brk (decide (y7.1.1 = (3 : Int)))
 (some (((y5.1.1.1, (y5.1.1.2.1, (y5.1.1.2.2.1, (true, (true, (y5.1.1.2.2.2.2.2.1, ())))))), ()), ((y7.2.1.1, (y7.2.1.2.1, (y7.2.1.2.2.1, ()))), ())))
 (brk (decide (y7.1.1 = (4 : Int)))
 ((spec_l1PickInt_F ((y7.2.1.1, (y7.2.1.2.1, (y7.2.1.2.2.1, ()))), ([(-1 : Int), (200 : Int), (201 : Int)], ()))).bind fun y41 =>
 some (((y5.1.1.1, (y5.1.1.2.1, (y5.1.1.2.2.1, (y5.1.1.2.2.2.1, (y5.1.1.2.2.2.2.1, (y41.1.1, ())))))), ()), ((y41.2.1.1, (y41.2.1.2.1, (y41.2.1.2.2.1, ()))), ())))
 (brk (decide (y7.1.1 = (5 : Int)))
 (some (((([] : List Int), (y5.1.1.2.1, (y5.1.1.2.2.1, (y5.1.1.2.2.2.1, (y5.1.1.2.2.2.2.1, (y5.1.1.2.2.2.2.2.1, ())))))), ()), ((y7.2.1.1, (y7.2.1.2.1, (y7.2.1.2.2.1, ()))), ())))
 (some (((y5.1.1.1, (y5.1.1.2.1, (y5.1.1.2.2.1, (y5.1.1.2.2.2.1, (y5.1.1.2.2.2.2.1, (y5.1.1.2.2.2.2.2.1, ())))))), ()), ((y7.2.1.1, (y7.2.1.2.1, (y7.2.1.2.2.1, ()))), ())))))))) := by kernel_rfl
/-! spec.DrawSlotPut -/
noncomputable def spec_DrawSlotPut_b : Code := bd Try.f31
def spec_DrawSlotPut_T : List (Nat × Tm) := []
noncomputable def spec_DrawSlotPut_E : Env := ⟨tt0, [(48, spec_l1New_C), (49, spec_l6Draw_C), (50, spec_l5DrawRight_C), (64, spec_l6Slot_C), (75, spec_l1Once_C), (76, spec_l5Draw_C)]⟩
noncomputable def spec_DrawSlotPut_F : PsD [.ro tYs] → Option (RsD [.own tSlots, .own tMeta] × PsO [.ro tYs]) := fun x => evFn spec_DrawSlotPut_E spec_DrawSlotPut_T Try.f31 spec_DrawSlotPut_b [.ro tYs] [.own tSlots, .own tMeta] x
@[reducible] noncomputable def spec_DrawSlotPut_C : Ct := ⟨[.ro tYs], [.own tSlots, .own tMeta], spec_DrawSlotPut_F⟩
theorem spec_DrawSlotPut_h (x : PsD [.ro tYs]) (y : RsD [.own tSlots, .own tMeta] × PsO [.ro tYs]) (h : spec_DrawSlotPut_F x = some y) : evFn spec_DrawSlotPut_E spec_DrawSlotPut_T Try.f31 spec_DrawSlotPut_b [.ro tYs] [.own tSlots, .own tMeta] x = some y := h
theorem spec_DrawSlotPut_c : ∀ f c, get spec_DrawSlotPut_E.ct f = some c → Sat Try.prog f c := ct_cons spec_l1New_S (ct_cons spec_l6Draw_S (ct_cons spec_l5DrawRight_S (ct_cons spec_l6Slot_S (ct_cons spec_l1Once_S (ct_cons spec_l5Draw_S (ct_nil))))))
theorem spec_DrawSlotPut_S : Sat Try.prog 31 spec_DrawSlotPut_C := fn_ok2 (envOk _) spec_DrawSlotPut_c mixedOk Try.func31 (by kernel_rfl : Try.f31.body = some spec_DrawSlotPut_b) (by kernel_rfl) (by kernel_rfl) spec_DrawSlotPut_h
noncomputable def spec_DrawSlotPut_Ke  (x0 : List Int) : Ex → AS → Option (RsD [.own tSlots, .own tMeta] × PsO [.ro tYs]) := endK spec_DrawSlotPut_E Try.f31 [.ro tYs] [.own tSlots, .own tMeta] (initL [.ro tYs] (x0, ()) 0).1
theorem spec_DrawSlotPut_main (x0 : List Int) : spec_DrawSlotPut_F (x0, ()) =
 (spec_l1New_F (x0, ())).bind fun y7 =>
 (spec_l6Draw_F ((y7.1.1.1, (y7.1.1.2.1, (y7.1.1.2.2.1, ()))), ())).bind fun y9 =>
 (spec_l1Once_F ((y9.2.1.1, (y9.2.1.2.1, (y9.2.1.2.2.1, ()))), ((20 : Int), ()))).bind fun y11 =>
 brk y11.1.1
 ((spec_l5DrawRight_F ((y11.2.1.1, (y11.2.1.2.1, (y11.2.1.2.2.1, ()))), ())).bind fun y13 =>
 (spec_l6Slot_F ((y13.1.1.1, (y13.1.1.2.1, (y13.1.1.2.2.1, (y13.1.1.2.2.2.1, (y13.1.1.2.2.2.2.1, (y13.1.1.2.2.2.2.2.1, ())))))), ((1000000 : Int), ()))).bind fun y14 =>
 both ((spec_l5Draw_F ((y13.2.1.1, (y13.2.1.2.1, (y13.2.1.2.2.1, ()))), ())).bind fun y18 =>
 some (((y14.1.1, (y9.1.1.2.1, ())), ((y18.1.1.1, (y18.1.1.2.1, (y18.1.1.2.2.1, (y18.1.1.2.2.2.1, (y18.1.1.2.2.2.2.1, (y18.1.1.2.2.2.2.2.1, ())))))), ())), ((), ())))
 ((spec_l5Draw_F ((y13.2.1.1, (y13.2.1.2.1, (y13.2.1.2.2.1, ()))), ())).bind fun y18 =>
 some (((y14.1.1, (y9.1.1.2.1, ())), ((y18.1.1.1, (y18.1.1.2.1, (y18.1.1.2.2.1, (y18.1.1.2.2.2.1, (y18.1.1.2.2.2.2.1, (y18.1.1.2.2.2.2.2.1, ())))))), ())), ((), ()))))
 (both ((spec_l5Draw_F ((y11.2.1.1, (y11.2.1.2.1, (y11.2.1.2.2.1, ()))), ())).bind fun y18 =>
 some (((y9.1.1.1, (y9.1.1.2.1, ())), ((y18.1.1.1, (y18.1.1.2.1, (y18.1.1.2.2.1, (y18.1.1.2.2.2.1, (y18.1.1.2.2.2.2.1, (y18.1.1.2.2.2.2.2.1, ())))))), ())), ((), ())))
 ((spec_l5Draw_F ((y11.2.1.1, (y11.2.1.2.1, (y11.2.1.2.2.1, ()))), ())).bind fun y18 =>
 some (((y9.1.1.1, (y9.1.1.2.1, ())), ((y18.1.1.1, (y18.1.1.2.1, (y18.1.1.2.2.1, (y18.1.1.2.2.2.1, (y18.1.1.2.2.2.2.1, (y18.1.1.2.2.2.2.2.1, ())))))), ())), ((), ())))) := by kernel_rfl
/-! spec.DrawSlotGet -/
noncomputable def spec_DrawSlotGet_b : Code := bd Try.f33
def spec_DrawSlotGet_T : List (Nat × Tm) := []
noncomputable def spec_DrawSlotGet_E : Env := ⟨tt0, [(48, spec_l1New_C), (49, spec_l6Draw_C)]⟩
noncomputable def spec_DrawSlotGet_F : PsD [.ro tYs] → Option (RsD [.own tSlots] × PsO [.ro tYs]) := fun x => evFn spec_DrawSlotGet_E spec_DrawSlotGet_T Try.f33 spec_DrawSlotGet_b [.ro tYs] [.own tSlots] x
@[reducible] noncomputable def spec_DrawSlotGet_C : Ct := ⟨[.ro tYs], [.own tSlots], spec_DrawSlotGet_F⟩
theorem spec_DrawSlotGet_h (x : PsD [.ro tYs]) (y : RsD [.own tSlots] × PsO [.ro tYs]) (h : spec_DrawSlotGet_F x = some y) : evFn spec_DrawSlotGet_E spec_DrawSlotGet_T Try.f33 spec_DrawSlotGet_b [.ro tYs] [.own tSlots] x = some y := h
theorem spec_DrawSlotGet_c : ∀ f c, get spec_DrawSlotGet_E.ct f = some c → Sat Try.prog f c := ct_cons spec_l1New_S (ct_cons spec_l6Draw_S (ct_nil))
theorem spec_DrawSlotGet_S : Sat Try.prog 33 spec_DrawSlotGet_C := fn_ok2 (envOk _) spec_DrawSlotGet_c mixedOk Try.func33 (by kernel_rfl : Try.f33.body = some spec_DrawSlotGet_b) (by kernel_rfl) (by kernel_rfl) spec_DrawSlotGet_h
noncomputable def spec_DrawSlotGet_Ke  (x0 : List Int) : Ex → AS → Option (RsD [.own tSlots] × PsO [.ro tYs]) := endK spec_DrawSlotGet_E Try.f33 [.ro tYs] [.own tSlots] (initL [.ro tYs] (x0, ()) 0).1
theorem spec_DrawSlotGet_main (x0 : List Int) : spec_DrawSlotGet_F (x0, ()) =
 (spec_l1New_F (x0, ())).bind fun y4 =>
 (spec_l6Draw_F ((y4.1.1.1, (y4.1.1.2.1, (y4.1.1.2.2.1, ()))), ())).bind fun y5 =>
 some (((y5.1.1.1, (y5.1.1.2.1, ())), ()), ((), ())) := by kernel_rfl
/-! spec.DrawSlotOf -/
noncomputable def spec_DrawSlotOf_b : Code := bd Try.f34
def spec_DrawSlotOf_T : List (Nat × Tm) := []
noncomputable def spec_DrawSlotOf_E : Env := ⟨tt0, [(48, spec_l1New_C), (49, spec_l6Draw_C), (50, spec_l5DrawRight_C), (51, spec_l1PickInt_C), (64, spec_l6Slot_C), (75, spec_l1Once_C)]⟩
noncomputable def spec_DrawSlotOf_F : PsD [.ro tYs] → Option (RsD [.own tYs] × PsO [.ro tYs]) := fun x => evFn spec_DrawSlotOf_E spec_DrawSlotOf_T Try.f34 spec_DrawSlotOf_b [.ro tYs] [.own tYs] x
@[reducible] noncomputable def spec_DrawSlotOf_C : Ct := ⟨[.ro tYs], [.own tYs], spec_DrawSlotOf_F⟩
theorem spec_DrawSlotOf_h (x : PsD [.ro tYs]) (y : RsD [.own tYs] × PsO [.ro tYs]) (h : spec_DrawSlotOf_F x = some y) : evFn spec_DrawSlotOf_E spec_DrawSlotOf_T Try.f34 spec_DrawSlotOf_b [.ro tYs] [.own tYs] x = some y := h
theorem spec_DrawSlotOf_c : ∀ f c, get spec_DrawSlotOf_E.ct f = some c → Sat Try.prog f c := ct_cons spec_l1New_S (ct_cons spec_l6Draw_S (ct_cons spec_l5DrawRight_S (ct_cons spec_l1PickInt_S (ct_cons spec_l6Slot_S (ct_cons spec_l1Once_S (ct_nil))))))
theorem spec_DrawSlotOf_S : Sat Try.prog 34 spec_DrawSlotOf_C := fn_ok2 (envOk _) spec_DrawSlotOf_c mixedOk Try.func34 (by kernel_rfl : Try.f34.body = some spec_DrawSlotOf_b) (by kernel_rfl) (by kernel_rfl) spec_DrawSlotOf_h
noncomputable def spec_DrawSlotOf_Ke  (x0 : List Int) : Ex → AS → Option (RsD [.own tYs] × PsO [.ro tYs]) := endK spec_DrawSlotOf_E Try.f34 [.ro tYs] [.own tYs] (initL [.ro tYs] (x0, ()) 0).1
theorem spec_DrawSlotOf_main (x0 : List Int) : spec_DrawSlotOf_F (x0, ()) =
 (spec_l1New_F (x0, ())).bind fun y6 =>
 (spec_l6Draw_F ((y6.1.1.1, (y6.1.1.2.1, (y6.1.1.2.2.1, ()))), ())).bind fun y8 =>
 (spec_l1Once_F ((y8.2.1.1, (y8.2.1.2.1, (y8.2.1.2.2.1, ()))), ((3 : Int), ()))).bind fun y10 =>
 brk y10.1.1
 ((spec_l5DrawRight_F ((y10.2.1.1, (y10.2.1.2.1, (y10.2.1.2.2.1, ()))), ())).bind fun y12 =>
 (spec_l1PickInt_F ((y12.2.1.1, (y12.2.1.2.1, (y12.2.1.2.2.1, ()))), ([(0 : Int), (1 : Int), (1000000 : Int)], ()))).bind fun y15 =>
 (spec_l6Slot_F ((y12.1.1.1, (y12.1.1.2.1, (y12.1.1.2.2.1, (y12.1.1.2.2.2.1, (y12.1.1.2.2.2.2.1, (y12.1.1.2.2.2.2.2.1, ())))))), (y15.1.1, ()))).bind fun y16 =>
 some ((y16.1.1, ()), ((), ())))
 (some ((y8.1.1.1, ()), ((), ()))) := by kernel_rfl
/-! laws.FnSlots -/
noncomputable def laws_FnSlots_b : Code := bd Try.f6
def laws_FnSlots_T : List (Nat × Tm) := []
noncomputable def laws_FnSlots_E : Env := ⟨tt0, [(11, laws_big_C), (15, impl_SlotGet_C), (16, impl_SlotPut_C), (17, impl_SameMeta_C), (18, spec_SlotOf_C), (20, impl_SlotOf_C), (27, spec_SlotGet_C), (31, spec_DrawSlotPut_C), (32, spec_SlotPut_C), (33, spec_DrawSlotGet_C), (34, spec_DrawSlotOf_C), (35, impl_MetaOk_C)]⟩
noncomputable def laws_FnSlots_F : PsD [.ro tYs] → Option (RsD [.own tB] × PsO [.ro tYs]) := fun x => evFn laws_FnSlots_E laws_FnSlots_T Try.f6 laws_FnSlots_b [.ro tYs] [.own tB] x
@[reducible] noncomputable def laws_FnSlots_C : Ct := ⟨[.ro tYs], [.own tB], laws_FnSlots_F⟩
theorem laws_FnSlots_h (x : PsD [.ro tYs]) (y : RsD [.own tB] × PsO [.ro tYs]) (h : laws_FnSlots_F x = some y) : evFn laws_FnSlots_E laws_FnSlots_T Try.f6 laws_FnSlots_b [.ro tYs] [.own tB] x = some y := h
theorem laws_FnSlots_c : ∀ f c, get laws_FnSlots_E.ct f = some c → Sat Try.prog f c := ct_cons laws_big_S (ct_cons impl_SlotGet_S (ct_cons impl_SlotPut_S (ct_cons impl_SameMeta_S (ct_cons spec_SlotOf_S (ct_cons impl_SlotOf_S (ct_cons spec_SlotGet_S (ct_cons spec_DrawSlotPut_S (ct_cons spec_SlotPut_S (ct_cons spec_DrawSlotGet_S (ct_cons spec_DrawSlotOf_S (ct_cons impl_MetaOk_S (ct_nil))))))))))))
theorem laws_FnSlots_S : Sat Try.prog 6 laws_FnSlots_C := fn_ok2 (envOk _) laws_FnSlots_c mixedOk Try.func6 (by kernel_rfl : Try.f6.body = some laws_FnSlots_b) (by kernel_rfl) (by kernel_rfl) laws_FnSlots_h
noncomputable def laws_FnSlots_Ke  (x0 : List Int) : Ex → AS → Option (RsD [.own tB] × PsO [.ro tYs]) := endK laws_FnSlots_E Try.f6 [.ro tYs] [.own tB] (initL [.ro tYs] (x0, ()) 0).1
theorem laws_FnSlots_main (x0 : List Int) : laws_FnSlots_F (x0, ()) =
 (laws_big_F (x0, ())).bind fun y28 =>
 brk y28.1.1
 (some ((true, ()), ((), ())))
 ((spec_DrawSlotPut_F (x0, ())).bind fun y31 =>
 (impl_SlotPut_F ((y31.1.1.1, (y31.1.1.2.1, ())), ((y31.1.2.1.1, (y31.1.2.1.2.1, (y31.1.2.1.2.2.1, (y31.1.2.1.2.2.2.1, (y31.1.2.1.2.2.2.2.1, (y31.1.2.1.2.2.2.2.2.1, ())))))), ()))).bind fun y36 =>
 (spec_SlotPut_F ((y31.1.1.1, (y31.1.1.2.1, ())), ((y31.1.2.1.1, (y31.1.2.1.2.1, (y31.1.2.1.2.2.1, (y31.1.2.1.2.2.2.1, (y31.1.2.1.2.2.2.2.1, (y31.1.2.1.2.2.2.2.2.1, ())))))), ()))).bind fun y39 =>
 (spec_DrawSlotGet_F (x0, ())).bind fun y41 =>
 (impl_SlotGet_F ((y41.1.1.1, (y41.1.1.2.1, ())), ())).bind fun y44 =>
 (spec_SlotGet_F ((y41.1.1.1, (y41.1.1.2.1, ())), ())).bind fun y50 =>
 (spec_DrawSlotOf_F (x0, ())).bind fun y55 =>
 (impl_SlotOf_F (y55.1.1, ())).bind fun y58 =>
 (spec_SlotOf_F (y55.1.1, ())).bind fun y64 =>
 brk (!decide (y36.1.1.1 = y39.1.1.1))
 (some ((false, ()), ((), ())))
 (brk (!decide (y36.1.1.2.1 = y39.1.1.2.1))
 (some ((false, ()), ((), ())))
 (brk (!(y44.1.2.2.1 == y50.1.2.2.1))
 (some ((false, ()), ((), ())))
 (brk (!decide (y44.1.2.1 = y50.1.2.1))
 (some ((false, ()), ((), ())))
 ((impl_SameMeta_F ((y44.1.1.1, (y44.1.1.2.1, (y44.1.1.2.2.1, (y44.1.1.2.2.2.1, (y44.1.1.2.2.2.2.1, (y44.1.1.2.2.2.2.2.1, ())))))), ((y50.1.1.1, (y50.1.1.2.1, (y50.1.1.2.2.1, (y50.1.1.2.2.2.1, (y50.1.1.2.2.2.2.1, (y50.1.1.2.2.2.2.2.1, ())))))), ()))).bind fun y97 =>
 brk (!y97.1.1)
 (some ((false, ()), ((), ())))
 (brk (!(y58.1.2.2.1 == y64.1.2.2.1))
 (some ((false, ()), ((), ())))
 (brk (!decide (y58.1.2.1 = y64.1.2.1))
 (some ((false, ()), ((), ())))
 ((impl_SameMeta_F ((y58.1.1.1, (y58.1.1.2.1, (y58.1.1.2.2.1, (y58.1.1.2.2.2.1, (y58.1.1.2.2.2.2.1, (y58.1.1.2.2.2.2.2.1, ())))))), ((y64.1.1.1, (y64.1.1.2.1, (y64.1.1.2.2.1, (y64.1.1.2.2.2.1, (y64.1.1.2.2.2.2.1, (y64.1.1.2.2.2.2.2.1, ())))))), ()))).bind fun y113 =>
 brk (!y113.1.1)
 (some ((false, ()), ((), ())))
 ((impl_SlotGet_F ((y31.1.1.1, (y31.1.1.2.1, ())), ())).bind fun y118 =>
 (impl_MetaOk_F ((y31.1.2.1.1, (y31.1.2.1.2.1, (y31.1.2.1.2.2.1, (y31.1.2.1.2.2.2.1, (y31.1.2.1.2.2.2.2.1, (y31.1.2.1.2.2.2.2.2.1, ())))))), ())).bind fun y123 =>
 brk (!y123.1.1)
 (brk (decide (y36.1.1.1 = y31.1.1.1))
 (some ((decide (y36.1.1.2.1 = y31.1.1.2.1), ()), ((), ())))
 (some ((false, ()), ((), ()))))
 (brk (decide ((1000000 : Int) ≤ y118.1.2.1))
 (brk (decide (y36.1.1.1 = y31.1.1.1))
 (some ((decide (y36.1.1.2.1 = y31.1.1.2.1), ()), ((), ())))
 (some ((false, ()), ((), ()))))
 ((impl_SlotGet_F ((y36.1.1.1, (y36.1.1.2.1, ())), ())).bind fun y147 =>
 brk y147.1.2.2.1
 (brk (decide (y147.1.2.1 = IntKind.i64.wrap (y118.1.2.1 + (1 : Int))))
 ((impl_SameMeta_F ((y147.1.1.1, (y147.1.1.2.1, (y147.1.1.2.2.1, (y147.1.1.2.2.2.1, (y147.1.1.2.2.2.2.1, (y147.1.1.2.2.2.2.2.1, ())))))), ((y31.1.2.1.1, (y31.1.2.1.2.1, (y31.1.2.1.2.2.1, (y31.1.2.1.2.2.2.1, (y31.1.2.1.2.2.2.2.1, (y31.1.2.1.2.2.2.2.2.1, ())))))), ()))).bind fun y161 =>
 some ((y161.1.1, ()), ((), ())))
 (some ((false, ()), ((), ()))))
 (some ((false, ()), ((), ())))))))))))))) := by kernel_rfl
end Go.Refl
