/- Functions of the program, told by the evaluator: printed by a program of this claim. No condition. -/
import Derived.Test.YtfikbjbijpbdkaaFnNumbersGt
namespace Go.Refl
open Go.RowKit Go.Proofs
set_option linter.unusedVariables false
set_option maxRecDepth 100000
/-! laws.big -/
noncomputable def laws_big_b : Code := bd Try.f15
def laws_big_T : List (Nat × Tm) := []
noncomputable def laws_big_E : Env := ⟨tt0, []⟩
noncomputable def laws_big_F : PsD [.ro tYs] → Option (RsD [.own tB] × PsO [.ro tYs]) := fun x => evFn laws_big_E laws_big_T Try.f15 laws_big_b [.ro tYs] [.own tB] x
@[reducible] noncomputable def laws_big_C : Ct := ⟨[.ro tYs], [.own tB], laws_big_F⟩
theorem laws_big_h (x : PsD [.ro tYs]) (y : RsD [.own tB] × PsO [.ro tYs]) (h : laws_big_F x = some y) : evFn laws_big_E laws_big_T Try.f15 laws_big_b [.ro tYs] [.own tB] x = some y := h
theorem laws_big_c : ∀ f c, get laws_big_E.ct f = some c → Sat Try.prog f c := ct_nil
theorem laws_big_S : Sat Try.prog 15 laws_big_C := fn_ok2 (envOk _) laws_big_c mixedOk Try.func15 (by kernel_rfl : Try.f15.body = some laws_big_b) (by kernel_rfl) (by kernel_rfl) laws_big_h
noncomputable def laws_big_Ke  (x0 : List Int) : Ex → AS → Option (RsD [.own tB] × PsO [.ro tYs]) := endK laws_big_E Try.f15 [.ro tYs] [.own tB] (initL [.ro tYs] (x0, ()) 0).1
theorem laws_big_main (x0 : List Int) : laws_big_F (x0, ()) =
 some ((decide ((1048576 : Int) < (x0.length : Int)), ()), ((), ())) := by kernel_rfl
/-! spec.l1Byte -/
noncomputable def spec_l1Byte_b : Code := bd Try.f149
def spec_l1Byte_T : List (Nat × Tm) := []
noncomputable def spec_l1Byte_E : Env := ⟨tt0, []⟩
noncomputable def spec_l1Byte_F : PsD [.st tL1Cur] → Option (RsD [.own tI] × PsO [.st tL1Cur]) := fun x => evFn spec_l1Byte_E spec_l1Byte_T Try.f149 spec_l1Byte_b [.st tL1Cur] [.own tI] x
@[reducible] noncomputable def spec_l1Byte_C : Ct := ⟨[.st tL1Cur], [.own tI], spec_l1Byte_F⟩
theorem spec_l1Byte_h (x : PsD [.st tL1Cur]) (y : RsD [.own tI] × PsO [.st tL1Cur]) (h : spec_l1Byte_F x = some y) : evFn spec_l1Byte_E spec_l1Byte_T Try.f149 spec_l1Byte_b [.st tL1Cur] [.own tI] x = some y := h
theorem spec_l1Byte_c : ∀ f c, get spec_l1Byte_E.ct f = some c → Sat Try.prog f c := ct_nil
theorem spec_l1Byte_S : Sat Try.prog 149 spec_l1Byte_C := fn_ok2 (envOk _) spec_l1Byte_c mixedOk Try.func149 (by kernel_rfl : Try.f149.body = some spec_l1Byte_b) (by kernel_rfl) (by kernel_rfl) spec_l1Byte_h
noncomputable def spec_l1Byte_Ke  (x0 : List Int × Int × Int × Unit) : Ex → AS → Option (RsD [.own tI] × PsO [.st tL1Cur]) := endK spec_l1Byte_E Try.f149 [.st tL1Cur] [.own tI] (initL [.st tL1Cur] (x0, ()) 0).1
theorem spec_l1Byte_main (x0 : List Int × Int × Int × Unit) : spec_l1Byte_F (x0, ()) =
 brk (decide (x0.2.1 < (x0.1.length : Int)))
 (ck (decide (0 ≤ x0.2.1) && decide (x0.2.1 < x0.1.length)) (some ((andN IntKind.i64 (IntKind.i64.wrap ((andN IntKind.i64 (xorN IntKind.i64 (shrN IntKind.i64 (IntKind.i64.wrap ((IntKind.i64.wrap (x0.2.2.1 * (6364136223846793005 : Int))) + (1442695040888963407 : Int))) (33 : Int)) (shrN IntKind.i64 (IntKind.i64.wrap ((IntKind.i64.wrap (x0.2.2.1 * (6364136223846793005 : Int))) + (1442695040888963407 : Int))) (45 : Int))) (255 : Int)) + (IntKind.i64.wrap (rdD tY x0.1 x0.2.1)))) (255 : Int), ()), ((x0.1, (IntKind.i64.wrap (x0.2.1 + (1 : Int)), (IntKind.i64.wrap ((IntKind.i64.wrap (x0.2.2.1 * (6364136223846793005 : Int))) + (1442695040888963407 : Int)), ()))), ()))))
 (some ((andN IntKind.i64 (xorN IntKind.i64 (shrN IntKind.i64 (IntKind.i64.wrap ((IntKind.i64.wrap (x0.2.2.1 * (6364136223846793005 : Int))) + (1442695040888963407 : Int))) (33 : Int)) (shrN IntKind.i64 (IntKind.i64.wrap ((IntKind.i64.wrap (x0.2.2.1 * (6364136223846793005 : Int))) + (1442695040888963407 : Int))) (45 : Int))) (255 : Int), ()), ((x0.1, (x0.2.1, (IntKind.i64.wrap ((IntKind.i64.wrap (x0.2.2.1 * (6364136223846793005 : Int))) + (1442695040888963407 : Int)), ()))), ()))) := by kernel_rfl
/-! spec.l1Below -/
noncomputable def spec_l1Below_b : Code := bd Try.f112
def spec_l1Below_T : List (Nat × Tm) := []
noncomputable def spec_l1Below_E : Env := ⟨tt0, [(149, spec_l1Byte_C)]⟩
noncomputable def spec_l1Below_F : PsD [.st tL1Cur, .ro tI] → Option (RsD [.own tI] × PsO [.st tL1Cur, .ro tI]) := fun x => evFn spec_l1Below_E spec_l1Below_T Try.f112 spec_l1Below_b [.st tL1Cur, .ro tI] [.own tI] x
@[reducible] noncomputable def spec_l1Below_C : Ct := ⟨[.st tL1Cur, .ro tI], [.own tI], spec_l1Below_F⟩
theorem spec_l1Below_h (x : PsD [.st tL1Cur, .ro tI]) (y : RsD [.own tI] × PsO [.st tL1Cur, .ro tI]) (h : spec_l1Below_F x = some y) : evFn spec_l1Below_E spec_l1Below_T Try.f112 spec_l1Below_b [.st tL1Cur, .ro tI] [.own tI] x = some y := h
theorem spec_l1Below_c : ∀ f c, get spec_l1Below_E.ct f = some c → Sat Try.prog f c := ct_cons spec_l1Byte_S (ct_nil)
theorem spec_l1Below_S : Sat Try.prog 112 spec_l1Below_C := fn_ok2 (envOk _) spec_l1Below_c mixedOk Try.func112 (by kernel_rfl : Try.f112.body = some spec_l1Below_b) (by kernel_rfl) (by kernel_rfl) spec_l1Below_h
noncomputable def spec_l1Below_Ke  (x0 : List Int × Int × Int × Unit) (x1 : Int) : Ex → AS → Option (RsD [.own tI] × PsO [.st tL1Cur, .ro tI]) := endK spec_l1Below_E Try.f112 [.st tL1Cur, .ro tI] [.own tI] (initL [.st tL1Cur, .ro tI] (x0, (x1, ())) 0).1
theorem spec_l1Below_main (x0 : List Int × Int × Int × Unit) (x1 : Int) : spec_l1Below_F (x0, (x1, ())) =
 brk (decide (x1 ≤ (0 : Int)))
 (some (((0 : Int), ()), ((x0.1, (x0.2.1, (x0.2.2.1, ()))), ((), ()))))
 (brk (decide (x1 ≤ (256 : Int)))
 ((spec_l1Byte_F ((x0.1, (x0.2.1, (x0.2.2.1, ()))), ())).bind fun y14 =>
 ck (decide (x1 ≠ 0)) (some ((y14.1.1.tmod x1, ()), ((y14.2.1.1, (y14.2.1.2.1, (y14.2.1.2.2.1, ()))), ((), ())))))
 ((spec_l1Byte_F ((x0.1, (x0.2.1, (x0.2.2.1, ()))), ())).bind fun y18 =>
 (spec_l1Byte_F ((y18.2.1.1, (y18.2.1.2.1, (y18.2.1.2.2.1, ()))), ())).bind fun y20 =>
 (spec_l1Byte_F ((y20.2.1.1, (y20.2.1.2.1, (y20.2.1.2.2.1, ()))), ())).bind fun y22 =>
 (spec_l1Byte_F ((y22.2.1.1, (y22.2.1.2.1, (y22.2.1.2.2.1, ()))), ())).bind fun y24 =>
 ck (decide (x1 ≠ 0)) (some (((IntKind.i64.wrap ((IntKind.i64.wrap ((IntKind.i64.wrap ((IntKind.i64.wrap (y18.1.1 * (16777216 : Int))) + (IntKind.i64.wrap (y20.1.1 * (65536 : Int))))) + (IntKind.i64.wrap (y22.1.1 * (256 : Int))))) + y24.1.1)).tmod x1, ()), ((y24.2.1.1, (y24.2.1.2.1, (y24.2.1.2.2.1, ()))), ((), ())))))) := by kernel_rfl
/-! spec.l1PickInt -/
noncomputable def spec_l1PickInt_b : Code := bd Try.f97
def spec_l1PickInt_T : List (Nat × Tm) := []
noncomputable def spec_l1PickInt_E : Env := ⟨tt0, [(112, spec_l1Below_C)]⟩
noncomputable def spec_l1PickInt_F : PsD [.st tL1Cur, .ro tIs] → Option (RsD [.own tI] × PsO [.st tL1Cur, .ro tIs]) := fun x => evFn spec_l1PickInt_E spec_l1PickInt_T Try.f97 spec_l1PickInt_b [.st tL1Cur, .ro tIs] [.own tI] x
@[reducible] noncomputable def spec_l1PickInt_C : Ct := ⟨[.st tL1Cur, .ro tIs], [.own tI], spec_l1PickInt_F⟩
theorem spec_l1PickInt_h (x : PsD [.st tL1Cur, .ro tIs]) (y : RsD [.own tI] × PsO [.st tL1Cur, .ro tIs]) (h : spec_l1PickInt_F x = some y) : evFn spec_l1PickInt_E spec_l1PickInt_T Try.f97 spec_l1PickInt_b [.st tL1Cur, .ro tIs] [.own tI] x = some y := h
theorem spec_l1PickInt_c : ∀ f c, get spec_l1PickInt_E.ct f = some c → Sat Try.prog f c := ct_cons spec_l1Below_S (ct_nil)
theorem spec_l1PickInt_S : Sat Try.prog 97 spec_l1PickInt_C := fn_ok2 (envOk _) spec_l1PickInt_c mixedOk Try.func97 (by kernel_rfl : Try.f97.body = some spec_l1PickInt_b) (by kernel_rfl) (by kernel_rfl) spec_l1PickInt_h
noncomputable def spec_l1PickInt_Ke  (x0 : List Int × Int × Int × Unit) (x1 : List Int) : Ex → AS → Option (RsD [.own tI] × PsO [.st tL1Cur, .ro tIs]) := endK spec_l1PickInt_E Try.f97 [.st tL1Cur, .ro tIs] [.own tI] (initL [.st tL1Cur, .ro tIs] (x0, (x1, ())) 0).1
theorem spec_l1PickInt_main (x0 : List Int × Int × Int × Unit) (x1 : List Int) : spec_l1PickInt_F (x0, (x1, ())) =
 (spec_l1Below_F ((x0.1, (x0.2.1, (x0.2.2.1, ()))), ((x1.length : Int), ()))).bind fun y9 =>
 ck (decide (0 ≤ y9.1.1) && decide (y9.1.1 < x1.length)) (some ((rdD tI x1 y9.1.1, ()), ((y9.2.1.1, (y9.2.1.2.1, (y9.2.1.2.2.1, ()))), ((), ())))) := by kernel_rfl
/-! spec.l1New -/
noncomputable def spec_l1New_b : Code := bd Try.f98
@[reducible] def spec_l1New_t0 : Tm := ⟨[], [], [(0, .sc true tYs), (3, .sc true tI), (4, .sc true tI)], [], [0, 3], []⟩
def spec_l1New_T : List (Nat × Tm) := [(0, spec_l1New_t0)]
noncomputable def spec_l1New_E : Env := ⟨tt0, []⟩
noncomputable def spec_l1New_F : PsD [.ro tYs] → Option (RsD [.box tL1Cur] × PsO [.ro tYs]) := fun x => evFn spec_l1New_E spec_l1New_T Try.f98 spec_l1New_b [.ro tYs] [.box tL1Cur] x
@[reducible] noncomputable def spec_l1New_C : Ct := ⟨[.ro tYs], [.box tL1Cur], spec_l1New_F⟩
theorem spec_l1New_h (x : PsD [.ro tYs]) (y : RsD [.box tL1Cur] × PsO [.ro tYs]) (h : spec_l1New_F x = some y) : evFn spec_l1New_E spec_l1New_T Try.f98 spec_l1New_b [.ro tYs] [.box tL1Cur] x = some y := h
theorem spec_l1New_c : ∀ f c, get spec_l1New_E.ct f = some c → Sat Try.prog f c := ct_nil
theorem spec_l1New_S : Sat Try.prog 98 spec_l1New_C := fn_ok2 (envOk _) spec_l1New_c mixedOk Try.func98 (by kernel_rfl : Try.f98.body = some spec_l1New_b) (by kernel_rfl) (by kernel_rfl) spec_l1New_h
noncomputable def spec_l1New_Ke  (x0 : List Int) : Ex → AS → Option (RsD [.box tL1Cur] × PsO [.ro tYs]) := endK spec_l1New_E Try.f98 [.ro tYs] [.box tL1Cur] (initL [.ro tYs] (x0, ()) 0).1
noncomputable def spec_l1New_B0 {R : Type} : AS → (Ex → AS → Option R) → Option R := fun A K => ev spec_l1New_E spec_l1New_T 0 (cA (cA (cB (cA (cB (cB spec_l1New_b)))))) A K
noncomputable def spec_l1New_K0  (x0 : List Int) : Ex → AS → Option (RsD [.box tL1Cur] × PsO [.ro tYs]) := kBlk 0 (kSeq (fun A K => ev spec_l1New_E spec_l1New_T 1000 (cB (cB (cB spec_l1New_b))) A K) (spec_l1New_Ke x0))
noncomputable def spec_l1New_x0_0 (d0 : List Int) (d1 : Int) : AS := ⟨[(0, .v (.one (.d true tYs d0))), (3, .v (.one (.d true tI d1)))], []⟩
theorem spec_l1New_l0 {R : Type} {K : Ex → AS → Option R} {s : spec_l1New_t0.D} (n : Nat) {v : Option R} (h : iterG spec_l1New_t0 spec_l1New_B0 K n s = v) (hv : ∃ r, v = some r) : loopG spec_l1New_t0 spec_l1New_B0 K s = v := loop_eq (ev_mono _ _) n h hv
theorem spec_l1New_main (x0 : List Int) : spec_l1New_F (x0, ()) =
 loopG spec_l1New_t0 spec_l1New_B0 (spec_l1New_K0 x0) ((x0, (IntKind.i64.wrap ((24770 : Int) + (x0.length : Int)), ((0 : Int), ()))), ()) := by kernel_rfl
theorem spec_l1New_r0 {R : Type} (K : Ex → AS → Option R) (n : Nat) (t0 : List Int) (t3 : Int) (t4 : Int) : iterG spec_l1New_t0 spec_l1New_B0 K (n + 1) ((t0, (t3, (t4, ()))), ()) =
 brk (decide (t4 < (t0.length : Int)))
 (brk (decide (t4 < (4000 : Int)))
 (ck (decide (0 ≤ t4) && decide (t4 < t0.length)) (iterG spec_l1New_t0 spec_l1New_B0 K n ((t0, (andN IntKind.i64 (IntKind.i64.wrap ((IntKind.i64.wrap ((IntKind.i64.wrap (t3 * (131 : Int))) + (IntKind.i64.wrap (rdD tY t0 t4)))) + (7 : Int))) (1073741823 : Int), (IntKind.i64.wrap (t4 + (1 : Int)), ()))), ())))
 (K (.exit 0) (spec_l1New_x0_0 t0 t3)))
 (K (.exit 0) (spec_l1New_x0_0 t0 t3)) := by kernel_rfl
theorem spec_l1New_e0_0 (x0 : List Int) (d0 : List Int) (d1 : Int) : spec_l1New_K0 x0 (.exit 0) (spec_l1New_x0_0 d0 d1) =
 some (((d0, ((0 : Int), (d1, ()))), ()), ((), ())) := by kernel_rfl
/-! spec.DrawPutNum -/
noncomputable def spec_DrawPutNum_b : Code := bd Try.f16
def spec_DrawPutNum_T : List (Nat × Tm) := []
noncomputable def spec_DrawPutNum_E : Env := ⟨tt0, [(97, spec_l1PickInt_C), (98, spec_l1New_C)]⟩
noncomputable def spec_DrawPutNum_F : PsD [.ro tYs] → Option (RsD [.own tI] × PsO [.ro tYs]) := fun x => evFn spec_DrawPutNum_E spec_DrawPutNum_T Try.f16 spec_DrawPutNum_b [.ro tYs] [.own tI] x
@[reducible] noncomputable def spec_DrawPutNum_C : Ct := ⟨[.ro tYs], [.own tI], spec_DrawPutNum_F⟩
theorem spec_DrawPutNum_h (x : PsD [.ro tYs]) (y : RsD [.own tI] × PsO [.ro tYs]) (h : spec_DrawPutNum_F x = some y) : evFn spec_DrawPutNum_E spec_DrawPutNum_T Try.f16 spec_DrawPutNum_b [.ro tYs] [.own tI] x = some y := h
theorem spec_DrawPutNum_c : ∀ f c, get spec_DrawPutNum_E.ct f = some c → Sat Try.prog f c := ct_cons spec_l1PickInt_S (ct_cons spec_l1New_S (ct_nil))
theorem spec_DrawPutNum_S : Sat Try.prog 16 spec_DrawPutNum_C := fn_ok2 (envOk _) spec_DrawPutNum_c mixedOk Try.func16 (by kernel_rfl : Try.f16.body = some spec_DrawPutNum_b) (by kernel_rfl) (by kernel_rfl) spec_DrawPutNum_h
noncomputable def spec_DrawPutNum_Ke  (x0 : List Int) : Ex → AS → Option (RsD [.own tI] × PsO [.ro tYs]) := endK spec_DrawPutNum_E Try.f16 [.ro tYs] [.own tI] (initL [.ro tYs] (x0, ()) 0).1
theorem spec_DrawPutNum_main (x0 : List Int) : spec_DrawPutNum_F (x0, ()) =
 (spec_l1New_F (x0, ())).bind fun y4 =>
 (spec_l1PickInt_F ((y4.1.1.1, (y4.1.1.2.1, (y4.1.1.2.2.1, ()))), ([(0 : Int), (1 : Int), (127 : Int), (128 : Int), (300 : Int), (16384 : Int), (2147483647 : Int), (2147483648 : Int), (-1 : Int), (9223372036854775807 : Int)], ()))).bind fun y6 =>
 some ((y6.1.1, ()), ((), ())) := by kernel_rfl
/-! impl.PutNum -/
noncomputable def impl_PutNum_b : Code := bd Try.f17
@[reducible] def impl_PutNum_t0 : Tm := ⟨[(3, 960000)], [], [(0, .sc true tI), (3, .own 960000)], [(960000, .arr 5 tY)], [0, 3], [960000]⟩
def impl_PutNum_T : List (Nat × Tm) := [(0, impl_PutNum_t0)]
noncomputable def impl_PutNum_E : Env := ⟨tt0, []⟩
noncomputable def impl_PutNum_F : PsD [.ro tI] → Option (RsD [.own tYs] × PsO [.ro tI]) := fun x => evFn impl_PutNum_E impl_PutNum_T Try.f17 impl_PutNum_b [.ro tI] [.own tYs] x
@[reducible] noncomputable def impl_PutNum_C : Ct := ⟨[.ro tI], [.own tYs], impl_PutNum_F⟩
theorem impl_PutNum_h (x : PsD [.ro tI]) (y : RsD [.own tYs] × PsO [.ro tI]) (h : impl_PutNum_F x = some y) : evFn impl_PutNum_E impl_PutNum_T Try.f17 impl_PutNum_b [.ro tI] [.own tYs] x = some y := h
theorem impl_PutNum_c : ∀ f c, get impl_PutNum_E.ct f = some c → Sat Try.prog f c := ct_nil
theorem impl_PutNum_S : Sat Try.prog 17 impl_PutNum_C := fn_ok2 (envOk _) impl_PutNum_c mixedOk Try.func17 (by kernel_rfl : Try.f17.body = some impl_PutNum_b) (by kernel_rfl) (by kernel_rfl) impl_PutNum_h
noncomputable def impl_PutNum_Ke  (x0 : Int) : Ex → AS → Option (RsD [.own tYs] × PsO [.ro tI]) := endK impl_PutNum_E Try.f17 [.ro tI] [.own tYs] (initL [.ro tI] (x0, ()) 0).1
noncomputable def impl_PutNum_B0 {R : Type} : AS → (Ex → AS → Option R) → Option R := fun A K => ev impl_PutNum_E impl_PutNum_T 0 (cA (cA (cA (cB (cB (cB impl_PutNum_b)))))) A K
noncomputable def impl_PutNum_K0  (x0 : Int) : Ex → AS → Option (RsD [.own tYs] × PsO [.ro tI]) := kBlk 0 (kSeq (fun A K => ev impl_PutNum_E impl_PutNum_T 1000 (cB (cB (cB (cB impl_PutNum_b)))) A K) (impl_PutNum_Ke x0))
noncomputable def impl_PutNum_x0_0 (d0 : Int) (d1 : List Int) : AS := ⟨[(0, .v (.one (.d true tI d0))), (3, .v (.one (.own 960000)))], [(960000, .arr 5 tY d1)]⟩
theorem impl_PutNum_l0 {R : Type} {K : Ex → AS → Option R} {s : impl_PutNum_t0.D} (n : Nat) {v : Option R} (h : iterG impl_PutNum_t0 impl_PutNum_B0 K n s = v) (hv : ∃ r, v = some r) : loopG impl_PutNum_t0 impl_PutNum_B0 K s = v := loop_eq (ev_mono _ _) n h hv
theorem impl_PutNum_main (x0 : Int) : impl_PutNum_F (x0, ()) =
 brk (decide (x0 < (0 : Int)))
 (some ((([] : List Int), ()), ((), ())))
 (brk (decide ((2147483647 : Int) < x0))
 (some ((([] : List Int), ()), ((), ())))
 (loopG impl_PutNum_t0 impl_PutNum_B0 (impl_PutNum_K0 x0) ((x0, ()), (([] : List Int), ())))) := by kernel_rfl
theorem impl_PutNum_r0 {R : Type} (K : Ex → AS → Option R) (n : Nat) (t0 : Int) (a960000 : List Int) : iterG impl_PutNum_t0 impl_PutNum_B0 K (n + 1) ((t0, ()), (a960000, ())) =
 brk (decide ((127 : Int) < t0))
 (ck (decide ((a960000.length + [IntKind.u8.wrap (IntKind.i64.wrap ((t0.tmod (128 : Int)) + (128 : Int)))].length) * 1 ≤ big47)) (iterG impl_PutNum_t0 impl_PutNum_B0 K n ((IntKind.i64.wrap (t0.tdiv (128 : Int)), ()), (a960000 ++ [IntKind.u8.wrap (IntKind.i64.wrap ((t0.tmod (128 : Int)) + (128 : Int)))], ()))))
 (K (.exit 0) (impl_PutNum_x0_0 t0 a960000)) := by kernel_rfl
theorem impl_PutNum_e0_0 (x0 : Int) (d0 : Int) (d1 : List Int) : impl_PutNum_K0 x0 (.exit 0) (impl_PutNum_x0_0 d0 d1) =
 ck (decide ((d1.length + [IntKind.u8.wrap d0].length) * 1 ≤ big47)) (some ((d1 ++ [IntKind.u8.wrap d0], ()), ((), ()))) := by kernel_rfl
/-! spec.DrawDigits -/
noncomputable def spec_DrawDigits_b : Code := bd Try.f18
def spec_DrawDigits_T : List (Nat × Tm) := []
noncomputable def spec_DrawDigits_E : Env := ⟨tt0, [(97, spec_l1PickInt_C), (98, spec_l1New_C)]⟩
noncomputable def spec_DrawDigits_F : PsD [.ro tYs] → Option (RsD [.own tI] × PsO [.ro tYs]) := fun x => evFn spec_DrawDigits_E spec_DrawDigits_T Try.f18 spec_DrawDigits_b [.ro tYs] [.own tI] x
@[reducible] noncomputable def spec_DrawDigits_C : Ct := ⟨[.ro tYs], [.own tI], spec_DrawDigits_F⟩
theorem spec_DrawDigits_h (x : PsD [.ro tYs]) (y : RsD [.own tI] × PsO [.ro tYs]) (h : spec_DrawDigits_F x = some y) : evFn spec_DrawDigits_E spec_DrawDigits_T Try.f18 spec_DrawDigits_b [.ro tYs] [.own tI] x = some y := h
theorem spec_DrawDigits_c : ∀ f c, get spec_DrawDigits_E.ct f = some c → Sat Try.prog f c := ct_cons spec_l1PickInt_S (ct_cons spec_l1New_S (ct_nil))
theorem spec_DrawDigits_S : Sat Try.prog 18 spec_DrawDigits_C := fn_ok2 (envOk _) spec_DrawDigits_c mixedOk Try.func18 (by kernel_rfl : Try.f18.body = some spec_DrawDigits_b) (by kernel_rfl) (by kernel_rfl) spec_DrawDigits_h
noncomputable def spec_DrawDigits_Ke  (x0 : List Int) : Ex → AS → Option (RsD [.own tI] × PsO [.ro tYs]) := endK spec_DrawDigits_E Try.f18 [.ro tYs] [.own tI] (initL [.ro tYs] (x0, ()) 0).1
theorem spec_DrawDigits_main (x0 : List Int) : spec_DrawDigits_F (x0, ()) =
 (spec_l1New_F (x0, ())).bind fun y4 =>
 (spec_l1PickInt_F ((y4.1.1.1, (y4.1.1.2.1, (y4.1.1.2.2.1, ()))), ([(0 : Int), (7 : Int), (-12 : Int), (100000 : Int), (9223372036854775807 : Int), (-9223372036854775808 : Int)], ()))).bind fun y6 =>
 some ((y6.1.1, ()), ((), ())) := by kernel_rfl
/-! spec.l3DrawBytes -/
noncomputable def spec_l3DrawBytes_b : Code := bd Try.f99
@[reducible] def spec_l3DrawBytes_t0 : Tm := ⟨[(3, 960000)], [], [(0, .ptr 1000000 0), (3, .own 960000), (4, .sc true tI)], [(960000, .arr 5 tY), (1000000, .box [.sc true tYs, .sc true tI, .sc true tI])], [3], [960000]⟩
@[reducible] def spec_l3DrawBytes_t3 : Tm := ⟨[(3, 960900)], [], [(0, .ptr 1000000 0), (3, .own 960900), (4, .sc true tI), (5, .sc true tI)], [(960900, .arr 5 tY), (1000000, .box [.sc true tYs, .sc true tI, .sc true tI])], [0, 3, 4], [960900]⟩
def spec_l3DrawBytes_T : List (Nat × Tm) := [(0, spec_l3DrawBytes_t0), (3, spec_l3DrawBytes_t3)]
noncomputable def spec_l3DrawBytes_E : Env := ⟨tt0, [(97, spec_l1PickInt_C), (112, spec_l1Below_C)]⟩
noncomputable def spec_l3DrawBytes_F : PsD [.st tL1Cur] → Option (RsD [.own tYs] × PsO [.st tL1Cur]) := fun x => evFn spec_l3DrawBytes_E spec_l3DrawBytes_T Try.f99 spec_l3DrawBytes_b [.st tL1Cur] [.own tYs] x
@[reducible] noncomputable def spec_l3DrawBytes_C : Ct := ⟨[.st tL1Cur], [.own tYs], spec_l3DrawBytes_F⟩
theorem spec_l3DrawBytes_h (x : PsD [.st tL1Cur]) (y : RsD [.own tYs] × PsO [.st tL1Cur]) (h : spec_l3DrawBytes_F x = some y) : evFn spec_l3DrawBytes_E spec_l3DrawBytes_T Try.f99 spec_l3DrawBytes_b [.st tL1Cur] [.own tYs] x = some y := h
theorem spec_l3DrawBytes_c : ∀ f c, get spec_l3DrawBytes_E.ct f = some c → Sat Try.prog f c := ct_cons spec_l1PickInt_S (ct_cons spec_l1Below_S (ct_nil))
theorem spec_l3DrawBytes_S : Sat Try.prog 99 spec_l3DrawBytes_C := fn_ok2 (envOk _) spec_l3DrawBytes_c mixedOk Try.func99 (by kernel_rfl : Try.f99.body = some spec_l3DrawBytes_b) (by kernel_rfl) (by kernel_rfl) spec_l3DrawBytes_h
noncomputable def spec_l3DrawBytes_Ke  (x0 : List Int × Int × Int × Unit) : Ex → AS → Option (RsD [.own tYs] × PsO [.st tL1Cur]) := endK spec_l3DrawBytes_E Try.f99 [.st tL1Cur] [.own tYs] (initL [.st tL1Cur] (x0, ()) 0).1
noncomputable def spec_l3DrawBytes_B0 {R : Type} : AS → (Ex → AS → Option R) → Option R := fun A K => ev spec_l3DrawBytes_E spec_l3DrawBytes_T 0 (cA (cA (cB (cA (cB (cB spec_l3DrawBytes_b)))))) A K
noncomputable def spec_l3DrawBytes_B3 {R : Type} : AS → (Ex → AS → Option R) → Option R := fun A K => ev spec_l3DrawBytes_E spec_l3DrawBytes_T 3 (cA (cA (cB (cA (cB (cA (cB (cA (cA (cB (cA (cA (cB (cA (cB (cB spec_l3DrawBytes_b)))))))))))))))) A K
noncomputable def spec_l3DrawBytes_K0  (x0 : List Int × Int × Int × Unit) : Ex → AS → Option (RsD [.own tYs] × PsO [.st tL1Cur]) := kBlk 0 (kSeq (fun A K => ev spec_l3DrawBytes_E spec_l3DrawBytes_T 1000 (cB (cB (cB spec_l3DrawBytes_b))) A K) (spec_l3DrawBytes_Ke x0))
noncomputable def spec_l3DrawBytes_K3 {R : Type} (K : Ex → AS → Option R) (n : Nat) : Ex → AS → Option R := kBlk 3 (kBlk 2 (kBlk 1 (kSeq (fun A K => ev spec_l3DrawBytes_E spec_l3DrawBytes_T 0 (cB (cB (cA (cA (cB (cA (cB (cB spec_l3DrawBytes_b)))))))) A K) (iterK spec_l3DrawBytes_t0 K (iterG spec_l3DrawBytes_t0 spec_l3DrawBytes_B0 K n)))))
noncomputable def spec_l3DrawBytes_x0_0 (d0 : List Int) (d1 : List Int) (d2 : Int) (d3 : Int) : AS := ⟨[(3, .v (.one (.own 960000)))], [(960000, .arr 5 tY d0), (1000000, .box [.d true tYs d1, .d true tI d2, .d true tI d3])]⟩
noncomputable def spec_l3DrawBytes_x3_0 (d0 : Int) (d1 : List Int) (d2 : List Int) (d3 : Int) (d4 : Int) : AS := ⟨[(0, .v (.one (.bptr 1000000 0))), (3, .v (.one (.own 960900))), (4, .v (.one (.d true tI d0)))], [(960900, .arr 5 tY d1), (1000000, .box [.d true tYs d2, .d true tI d3, .d true tI d4])]⟩
theorem spec_l3DrawBytes_l0 {R : Type} {K : Ex → AS → Option R} {s : spec_l3DrawBytes_t0.D} (n : Nat) {v : Option R} (h : iterG spec_l3DrawBytes_t0 spec_l3DrawBytes_B0 K n s = v) (hv : ∃ r, v = some r) : loopG spec_l3DrawBytes_t0 spec_l3DrawBytes_B0 K s = v := loop_eq (ev_mono _ _) n h hv
theorem spec_l3DrawBytes_l3 {R : Type} {K : Ex → AS → Option R} {s : spec_l3DrawBytes_t3.D} (n : Nat) {v : Option R} (h : iterG spec_l3DrawBytes_t3 spec_l3DrawBytes_B3 K n s = v) (hv : ∃ r, v = some r) : loopG spec_l3DrawBytes_t3 spec_l3DrawBytes_B3 K s = v := loop_eq (ev_mono _ _) n h hv
theorem spec_l3DrawBytes_main (x0 : List Int × Int × Int × Unit) : spec_l3DrawBytes_F (x0, ()) =
 loopG spec_l3DrawBytes_t0 spec_l3DrawBytes_B0 (spec_l3DrawBytes_K0 x0) (((0 : Int), ()), (([] : List Int), ((x0.1, (x0.2.1, (x0.2.2.1, ()))), ()))) := by kernel_rfl
theorem spec_l3DrawBytes_r0 {R : Type} (K : Ex → AS → Option R) (n : Nat) (t4 : Int) (a960000 : List Int) (b1000000_0 : List Int) (b1000000_1 : Int) (b1000000_2 : Int) : iterG spec_l3DrawBytes_t0 spec_l3DrawBytes_B0 K (n + 1) ((t4, ()), (a960000, ((b1000000_0, (b1000000_1, (b1000000_2, ()))), ()))) =
 (spec_l1Below_F ((b1000000_0, (b1000000_1, (b1000000_2, ()))), ((12 : Int), ()))).bind fun y9 =>
 brk (decide (t4 < y9.1.1))
 ((spec_l1Below_F ((y9.2.1.1, (y9.2.1.2.1, (y9.2.1.2.2.1, ()))), ((4 : Int), ()))).bind fun y14 =>
 brk (decide (y14.1.1 = (0 : Int)))
 (loopG spec_l3DrawBytes_t3 spec_l3DrawBytes_B3 (spec_l3DrawBytes_K3 K n) ((t4, ((0 : Int), ())), (a960000, ((y14.2.1.1, (y14.2.1.2.1, (y14.2.1.2.2.1, ()))), ()))))
 (brk (decide (y14.1.1 = (1 : Int)))
 (ck (decide (0 < [(97 : Int), (98 : Int), (99 : Int), (97 : Int), (98 : Int), (99 : Int), (97 : Int), (98 : Int)].length)) (ck (decide ((a960000.length + [(97 : Int), (98 : Int), (99 : Int), (97 : Int), (98 : Int), (99 : Int), (97 : Int), (98 : Int)].length) * 1 ≤ big47)) (iterG spec_l3DrawBytes_t0 spec_l3DrawBytes_B0 K n ((IntKind.i64.wrap (t4 + (1 : Int)), ()), (a960000 ++ [(97 : Int), (98 : Int), (99 : Int), (97 : Int), (98 : Int), (99 : Int), (97 : Int), (98 : Int)], ((y14.2.1.1, (y14.2.1.2.1, (y14.2.1.2.2.1, ()))), ()))))))
 (brk (decide (y14.1.1 = (2 : Int)))
 ((spec_l1PickInt_F ((y14.2.1.1, (y14.2.1.2.1, (y14.2.1.2.2.1, ()))), ([(0 : Int), (127 : Int), (128 : Int), (255 : Int)], ()))).bind fun y43 =>
 ck (decide ((a960000.length + [IntKind.u8.wrap y43.1.1].length) * 1 ≤ big47)) (iterG spec_l3DrawBytes_t0 spec_l3DrawBytes_B0 K n ((IntKind.i64.wrap (t4 + (1 : Int)), ()), (a960000 ++ [IntKind.u8.wrap y43.1.1], ((y43.2.1.1, (y43.2.1.2.1, (y43.2.1.2.2.1, ()))), ())))))
 ((spec_l1Below_F ((y14.2.1.1, (y14.2.1.2.1, (y14.2.1.2.2.1, ()))), ((5 : Int), ()))).bind fun y17 =>
 ck (decide ((a960000.length + [IntKind.u8.wrap y17.1.1].length) * 1 ≤ big47)) (iterG spec_l3DrawBytes_t0 spec_l3DrawBytes_B0 K n ((IntKind.i64.wrap (t4 + (1 : Int)), ()), (a960000 ++ [IntKind.u8.wrap y17.1.1], ((y17.2.1.1, (y17.2.1.2.1, (y17.2.1.2.2.1, ()))), ()))))))))
 (K (.exit 0) (spec_l3DrawBytes_x0_0 a960000 y9.2.1.1 y9.2.1.2.1 y9.2.1.2.2.1)) := by kernel_rfl
theorem spec_l3DrawBytes_r3 {R : Type} (K : Ex → AS → Option R) (n : Nat) (t4 : Int) (t5 : Int) (a960900 : List Int) (b1000000_0 : List Int) (b1000000_1 : Int) (b1000000_2 : Int) : iterG spec_l3DrawBytes_t3 spec_l3DrawBytes_B3 K (n + 1) ((t4, (t5, ())), (a960900, ((b1000000_0, (b1000000_1, (b1000000_2, ()))), ()))) =
 (spec_l1Below_F ((b1000000_0, (b1000000_1, (b1000000_2, ()))), ((150 : Int), ()))).bind fun y25 =>
 brk (decide (t5 < y25.1.1))
 (ck (decide ((a960900.length + [(7 : Int)].length) * 1 ≤ big47)) (iterG spec_l3DrawBytes_t3 spec_l3DrawBytes_B3 K n ((t4, (IntKind.i64.wrap (t5 + (1 : Int)), ())), (a960900 ++ [(7 : Int)], ((y25.2.1.1, (y25.2.1.2.1, (y25.2.1.2.2.1, ()))), ())))))
 (K (.exit 3) (spec_l3DrawBytes_x3_0 t4 a960900 y25.2.1.1 y25.2.1.2.1 y25.2.1.2.2.1)) := by kernel_rfl
theorem spec_l3DrawBytes_e0_0 (x0 : List Int × Int × Int × Unit) (d0 : List Int) (d1 : List Int) (d2 : Int) (d3 : Int) : spec_l3DrawBytes_K0 x0 (.exit 0) (spec_l3DrawBytes_x0_0 d0 d1 d2 d3) =
 some ((d0, ()), ((d1, (d2, (d3, ()))), ())) := by kernel_rfl
theorem spec_l3DrawBytes_e3_0 {R : Type} (K : Ex → AS → Option R) (n : Nat) (d0 : Int) (d1 : List Int) (d2 : List Int) (d3 : Int) (d4 : Int) : spec_l3DrawBytes_K3 K n (.exit 3) (spec_l3DrawBytes_x3_0 d0 d1 d2 d3 d4) =
 iterG spec_l3DrawBytes_t0 spec_l3DrawBytes_B0 K n ((IntKind.i64.wrap (d0 + (1 : Int)), ()), (d1, ((d2, (d3, (d4, ()))), ()))) := by kernel_rfl
/-! spec.DrawSumOf -/
noncomputable def spec_DrawSumOf_b : Code := bd Try.f19
def spec_DrawSumOf_T : List (Nat × Tm) := []
noncomputable def spec_DrawSumOf_E : Env := ⟨tt0, [(98, spec_l1New_C), (99, spec_l3DrawBytes_C)]⟩
noncomputable def spec_DrawSumOf_F : PsD [.ro tYs] → Option (RsD [.own tYs] × PsO [.ro tYs]) := fun x => evFn spec_DrawSumOf_E spec_DrawSumOf_T Try.f19 spec_DrawSumOf_b [.ro tYs] [.own tYs] x
@[reducible] noncomputable def spec_DrawSumOf_C : Ct := ⟨[.ro tYs], [.own tYs], spec_DrawSumOf_F⟩
theorem spec_DrawSumOf_h (x : PsD [.ro tYs]) (y : RsD [.own tYs] × PsO [.ro tYs]) (h : spec_DrawSumOf_F x = some y) : evFn spec_DrawSumOf_E spec_DrawSumOf_T Try.f19 spec_DrawSumOf_b [.ro tYs] [.own tYs] x = some y := h
theorem spec_DrawSumOf_c : ∀ f c, get spec_DrawSumOf_E.ct f = some c → Sat Try.prog f c := ct_cons spec_l1New_S (ct_cons spec_l3DrawBytes_S (ct_nil))
theorem spec_DrawSumOf_S : Sat Try.prog 19 spec_DrawSumOf_C := fn_ok2 (envOk _) spec_DrawSumOf_c mixedOk Try.func19 (by kernel_rfl : Try.f19.body = some spec_DrawSumOf_b) (by kernel_rfl) (by kernel_rfl) spec_DrawSumOf_h
noncomputable def spec_DrawSumOf_Ke  (x0 : List Int) : Ex → AS → Option (RsD [.own tYs] × PsO [.ro tYs]) := endK spec_DrawSumOf_E Try.f19 [.ro tYs] [.own tYs] (initL [.ro tYs] (x0, ()) 0).1
theorem spec_DrawSumOf_main (x0 : List Int) : spec_DrawSumOf_F (x0, ()) =
 (spec_l1New_F (x0, ())).bind fun y4 =>
 (spec_l3DrawBytes_F ((y4.1.1.1, (y4.1.1.2.1, (y4.1.1.2.2.1, ()))), ())).bind fun y5 =>
 some ((y5.1.1, ()), ((), ())) := by kernel_rfl
/-! spec.l1In -/
noncomputable def spec_l1In_b : Code := bd Try.f101
def spec_l1In_T : List (Nat × Tm) := []
noncomputable def spec_l1In_E : Env := ⟨tt0, []⟩
noncomputable def spec_l1In_F : PsD [.ro tI, .ro tI, .ro tI] → Option (RsD [.own tB] × PsO [.ro tI, .ro tI, .ro tI]) := fun x => evFn spec_l1In_E spec_l1In_T Try.f101 spec_l1In_b [.ro tI, .ro tI, .ro tI] [.own tB] x
@[reducible] noncomputable def spec_l1In_C : Ct := ⟨[.ro tI, .ro tI, .ro tI], [.own tB], spec_l1In_F⟩
theorem spec_l1In_h (x : PsD [.ro tI, .ro tI, .ro tI]) (y : RsD [.own tB] × PsO [.ro tI, .ro tI, .ro tI]) (h : spec_l1In_F x = some y) : evFn spec_l1In_E spec_l1In_T Try.f101 spec_l1In_b [.ro tI, .ro tI, .ro tI] [.own tB] x = some y := h
theorem spec_l1In_c : ∀ f c, get spec_l1In_E.ct f = some c → Sat Try.prog f c := ct_nil
theorem spec_l1In_S : Sat Try.prog 101 spec_l1In_C := fn_ok2 (envOk _) spec_l1In_c mixedOk Try.func101 (by kernel_rfl : Try.f101.body = some spec_l1In_b) (by kernel_rfl) (by kernel_rfl) spec_l1In_h
noncomputable def spec_l1In_Ke  (x0 : Int) (x1 : Int) (x2 : Int) : Ex → AS → Option (RsD [.own tB] × PsO [.ro tI, .ro tI, .ro tI]) := endK spec_l1In_E Try.f101 [.ro tI, .ro tI, .ro tI] [.own tB] (initL [.ro tI, .ro tI, .ro tI] (x0, (x1, (x2, ()))) 0).1
theorem spec_l1In_main (x0 : Int) (x1 : Int) (x2 : Int) : spec_l1In_F (x0, (x1, (x2, ()))) =
 brk (decide (x1 ≤ x0))
 (some ((decide (x0 ≤ x2), ()), ((), ((), ((), ())))))
 (some ((false, ()), ((), ((), ((), ()))))) := by kernel_rfl
/-! spec.PutNum -/
noncomputable def spec_PutNum_b : Code := bd Try.f23
@[reducible] def spec_PutNum_t0 : Tm := ⟨[(3, 960000)], [], [(0, .sc true tI), (3, .own 960000)], [(960000, .arr 5 tY)], [0, 3], [960000]⟩
def spec_PutNum_T : List (Nat × Tm) := [(0, spec_PutNum_t0)]
noncomputable def spec_PutNum_E : Env := ⟨tt0, [(101, spec_l1In_C)]⟩
noncomputable def spec_PutNum_F : PsD [.ro tI] → Option (RsD [.own tYs] × PsO [.ro tI]) := fun x => evFn spec_PutNum_E spec_PutNum_T Try.f23 spec_PutNum_b [.ro tI] [.own tYs] x
@[reducible] noncomputable def spec_PutNum_C : Ct := ⟨[.ro tI], [.own tYs], spec_PutNum_F⟩
theorem spec_PutNum_h (x : PsD [.ro tI]) (y : RsD [.own tYs] × PsO [.ro tI]) (h : spec_PutNum_F x = some y) : evFn spec_PutNum_E spec_PutNum_T Try.f23 spec_PutNum_b [.ro tI] [.own tYs] x = some y := h
theorem spec_PutNum_c : ∀ f c, get spec_PutNum_E.ct f = some c → Sat Try.prog f c := ct_cons spec_l1In_S (ct_nil)
theorem spec_PutNum_S : Sat Try.prog 23 spec_PutNum_C := fn_ok2 (envOk _) spec_PutNum_c mixedOk Try.func23 (by kernel_rfl : Try.f23.body = some spec_PutNum_b) (by kernel_rfl) (by kernel_rfl) spec_PutNum_h
noncomputable def spec_PutNum_Ke  (x0 : Int) : Ex → AS → Option (RsD [.own tYs] × PsO [.ro tI]) := endK spec_PutNum_E Try.f23 [.ro tI] [.own tYs] (initL [.ro tI] (x0, ()) 0).1
noncomputable def spec_PutNum_B0 {R : Type} : AS → (Ex → AS → Option R) → Option R := fun A K => ev spec_PutNum_E spec_PutNum_T 0 (cA (cA (cA (cB (cB (cB spec_PutNum_b)))))) A K
noncomputable def spec_PutNum_K0  (x0 : Int) : Ex → AS → Option (RsD [.own tYs] × PsO [.ro tI]) := kBlk 0 (kSeq (fun A K => ev spec_PutNum_E spec_PutNum_T 1000 (cB (cB (cB (cB spec_PutNum_b)))) A K) (spec_PutNum_Ke x0))
noncomputable def spec_PutNum_x0_0 (d0 : Int) (d1 : List Int) : AS := ⟨[(0, .v (.one (.d true tI d0))), (3, .v (.one (.own 960000)))], [(960000, .arr 5 tY d1)]⟩
theorem spec_PutNum_l0 {R : Type} {K : Ex → AS → Option R} {s : spec_PutNum_t0.D} (n : Nat) {v : Option R} (h : iterG spec_PutNum_t0 spec_PutNum_B0 K n s = v) (hv : ∃ r, v = some r) : loopG spec_PutNum_t0 spec_PutNum_B0 K s = v := loop_eq (ev_mono _ _) n h hv
theorem spec_PutNum_main (x0 : Int) : spec_PutNum_F (x0, ()) =
 (spec_l1In_F (x0, ((0 : Int), ((2147483647 : Int), ())))).bind fun y6 =>
 brk (!y6.1.1)
 (some ((([] : List Int), ()), ((), ())))
 (loopG spec_PutNum_t0 spec_PutNum_B0 (spec_PutNum_K0 x0) ((x0, ()), (([] : List Int), ()))) := by kernel_rfl
theorem spec_PutNum_r0 {R : Type} (K : Ex → AS → Option R) (n : Nat) (t0 : Int) (a960000 : List Int) : iterG spec_PutNum_t0 spec_PutNum_B0 K (n + 1) ((t0, ()), (a960000, ())) =
 brk (decide ((127 : Int) < t0))
 (ck (decide ((a960000.length + [IntKind.u8.wrap (IntKind.i64.wrap ((t0.tmod (128 : Int)) + (128 : Int)))].length) * 1 ≤ big47)) (iterG spec_PutNum_t0 spec_PutNum_B0 K n ((IntKind.i64.wrap (t0.tdiv (128 : Int)), ()), (a960000 ++ [IntKind.u8.wrap (IntKind.i64.wrap ((t0.tmod (128 : Int)) + (128 : Int)))], ()))))
 (K (.exit 0) (spec_PutNum_x0_0 t0 a960000)) := by kernel_rfl
theorem spec_PutNum_e0_0 (x0 : Int) (d0 : Int) (d1 : List Int) : spec_PutNum_K0 x0 (.exit 0) (spec_PutNum_x0_0 d0 d1) =
 ck (decide ((d1.length + [IntKind.u8.wrap d0].length) * 1 ≤ big47)) (some ((d1 ++ [IntKind.u8.wrap d0], ()), ((), ()))) := by kernel_rfl
/-! spec.l1Once -/
noncomputable def spec_l1Once_b : Code := bd Try.f111
def spec_l1Once_T : List (Nat × Tm) := []
noncomputable def spec_l1Once_E : Env := ⟨tt0, [(112, spec_l1Below_C)]⟩
noncomputable def spec_l1Once_F : PsD [.st tL1Cur, .ro tI] → Option (RsD [.own tB] × PsO [.st tL1Cur, .ro tI]) := fun x => evFn spec_l1Once_E spec_l1Once_T Try.f111 spec_l1Once_b [.st tL1Cur, .ro tI] [.own tB] x
@[reducible] noncomputable def spec_l1Once_C : Ct := ⟨[.st tL1Cur, .ro tI], [.own tB], spec_l1Once_F⟩
theorem spec_l1Once_h (x : PsD [.st tL1Cur, .ro tI]) (y : RsD [.own tB] × PsO [.st tL1Cur, .ro tI]) (h : spec_l1Once_F x = some y) : evFn spec_l1Once_E spec_l1Once_T Try.f111 spec_l1Once_b [.st tL1Cur, .ro tI] [.own tB] x = some y := h
theorem spec_l1Once_c : ∀ f c, get spec_l1Once_E.ct f = some c → Sat Try.prog f c := ct_cons spec_l1Below_S (ct_nil)
theorem spec_l1Once_S : Sat Try.prog 111 spec_l1Once_C := fn_ok2 (envOk _) spec_l1Once_c mixedOk Try.func111 (by kernel_rfl : Try.f111.body = some spec_l1Once_b) (by kernel_rfl) (by kernel_rfl) spec_l1Once_h
noncomputable def spec_l1Once_Ke  (x0 : List Int × Int × Int × Unit) (x1 : Int) : Ex → AS → Option (RsD [.own tB] × PsO [.st tL1Cur, .ro tI]) := endK spec_l1Once_E Try.f111 [.st tL1Cur, .ro tI] [.own tB] (initL [.st tL1Cur, .ro tI] (x0, (x1, ())) 0).1
theorem spec_l1Once_main (x0 : List Int × Int × Int × Unit) (x1 : Int) : spec_l1Once_F (x0, (x1, ())) =
 (spec_l1Below_F ((x0.1, (x0.2.1, (x0.2.2.1, ()))), (x1, ()))).bind fun y7 =>
 some ((decide (y7.1.1 = (0 : Int)), ()), ((y7.2.1.1, (y7.2.1.2.1, (y7.2.1.2.2.1, ()))), ((), ()))) := by kernel_rfl
/-! spec.l1DrawNums -/
noncomputable def spec_l1DrawNums_b : Code := bd Try.f100
@[reducible] def spec_l1DrawNums_t0 : Tm := ⟨[(3, 960000)], [], [(0, .ptr 1000000 0), (3, .own 960000), (4, .sc true tI)], [(960000, .arr 5 tY), (1000000, .box [.sc true tYs, .sc true tI, .sc true tI])], [0, 3], [960000]⟩
def spec_l1DrawNums_T : List (Nat × Tm) := [(0, spec_l1DrawNums_t0)]
noncomputable def spec_l1DrawNums_E : Env := ⟨tt0, [(23, spec_PutNum_C), (97, spec_l1PickInt_C), (111, spec_l1Once_C), (112, spec_l1Below_C)]⟩
noncomputable def spec_l1DrawNums_F : PsD [.st tL1Cur] → Option (RsD [.own tYs] × PsO [.st tL1Cur]) := fun x => evFn spec_l1DrawNums_E spec_l1DrawNums_T Try.f100 spec_l1DrawNums_b [.st tL1Cur] [.own tYs] x
@[reducible] noncomputable def spec_l1DrawNums_C : Ct := ⟨[.st tL1Cur], [.own tYs], spec_l1DrawNums_F⟩
theorem spec_l1DrawNums_h (x : PsD [.st tL1Cur]) (y : RsD [.own tYs] × PsO [.st tL1Cur]) (h : spec_l1DrawNums_F x = some y) : evFn spec_l1DrawNums_E spec_l1DrawNums_T Try.f100 spec_l1DrawNums_b [.st tL1Cur] [.own tYs] x = some y := h
theorem spec_l1DrawNums_c : ∀ f c, get spec_l1DrawNums_E.ct f = some c → Sat Try.prog f c := ct_cons spec_PutNum_S (ct_cons spec_l1PickInt_S (ct_cons spec_l1Once_S (ct_cons spec_l1Below_S (ct_nil))))
theorem spec_l1DrawNums_S : Sat Try.prog 100 spec_l1DrawNums_C := fn_ok2 (envOk _) spec_l1DrawNums_c mixedOk Try.func100 (by kernel_rfl : Try.f100.body = some spec_l1DrawNums_b) (by kernel_rfl) (by kernel_rfl) spec_l1DrawNums_h
noncomputable def spec_l1DrawNums_Ke  (x0 : List Int × Int × Int × Unit) : Ex → AS → Option (RsD [.own tYs] × PsO [.st tL1Cur]) := endK spec_l1DrawNums_E Try.f100 [.st tL1Cur] [.own tYs] (initL [.st tL1Cur] (x0, ()) 0).1
noncomputable def spec_l1DrawNums_B0 {R : Type} : AS → (Ex → AS → Option R) → Option R := fun A K => ev spec_l1DrawNums_E spec_l1DrawNums_T 0 (cA (cA (cB (cA (cB (cB spec_l1DrawNums_b)))))) A K
noncomputable def spec_l1DrawNums_K0  (x0 : List Int × Int × Int × Unit) : Ex → AS → Option (RsD [.own tYs] × PsO [.st tL1Cur]) := kBlk 0 (kSeq (fun A K => ev spec_l1DrawNums_E spec_l1DrawNums_T 1000 (cB (cB (cB spec_l1DrawNums_b))) A K) (spec_l1DrawNums_Ke x0))
noncomputable def spec_l1DrawNums_x0_0 (d0 : List Int) (d1 : List Int) (d2 : Int) (d3 : Int) : AS := ⟨[(0, .v (.one (.bptr 1000000 0))), (3, .v (.one (.own 960000)))], [(960000, .arr 5 tY d0), (1000000, .box [.d true tYs d1, .d true tI d2, .d true tI d3])]⟩
theorem spec_l1DrawNums_l0 {R : Type} {K : Ex → AS → Option R} {s : spec_l1DrawNums_t0.D} (n : Nat) {v : Option R} (h : iterG spec_l1DrawNums_t0 spec_l1DrawNums_B0 K n s = v) (hv : ∃ r, v = some r) : loopG spec_l1DrawNums_t0 spec_l1DrawNums_B0 K s = v := loop_eq (ev_mono _ _) n h hv
theorem spec_l1DrawNums_main (x0 : List Int × Int × Int × Unit) : spec_l1DrawNums_F (x0, ()) =
 loopG spec_l1DrawNums_t0 spec_l1DrawNums_B0 (spec_l1DrawNums_K0 x0) (((0 : Int), ()), (([] : List Int), ((x0.1, (x0.2.1, (x0.2.2.1, ()))), ()))) := by kernel_rfl
theorem spec_l1DrawNums_r0 {R : Type} (K : Ex → AS → Option R) (n : Nat) (t4 : Int) (a960000 : List Int) (b1000000_0 : List Int) (b1000000_1 : Int) (b1000000_2 : Int) : iterG spec_l1DrawNums_t0 spec_l1DrawNums_B0 K (n + 1) ((t4, ()), (a960000, ((b1000000_0, (b1000000_1, (b1000000_2, ()))), ()))) =
 (spec_l1Below_F ((b1000000_0, (b1000000_1, (b1000000_2, ()))), ((4 : Int), ()))).bind fun y8 =>
 brk (decide (t4 < y8.1.1))
 ((spec_l1PickInt_F ((y8.2.1.1, (y8.2.1.2.1, (y8.2.1.2.2.1, ()))), ([(0 : Int), (1 : Int), (127 : Int), (128 : Int), (300 : Int), (2147483647 : Int)], ()))).bind fun y15 =>
 (spec_PutNum_F (y15.1.1, ())).bind fun y16 =>
 ck (decide ((a960000.length + y16.1.1.length) * 1 ≤ big47)) (iterG spec_l1DrawNums_t0 spec_l1DrawNums_B0 K n ((IntKind.i64.wrap (t4 + (1 : Int)), ()), (a960000 ++ y16.1.1, ((y15.2.1.1, (y15.2.1.2.1, (y15.2.1.2.2.1, ()))), ())))))
 (K (.exit 0) (spec_l1DrawNums_x0_0 a960000 y8.2.1.1 y8.2.1.2.1 y8.2.1.2.2.1)) := by kernel_rfl
theorem spec_l1DrawNums_e0_0 (x0 : List Int × Int × Int × Unit) (d0 : List Int) (d1 : List Int) (d2 : Int) (d3 : Int) : spec_l1DrawNums_K0 x0 (.exit 0) (spec_l1DrawNums_x0_0 d0 d1 d2 d3) =
 (spec_l1Once_F ((d1, (d2, (d3, ()))), ((3 : Int), ()))).bind fun y19 =>
 brk y19.1.1
 ((spec_l1PickInt_F ((y19.2.1.1, (y19.2.1.2.1, (y19.2.1.2.2.1, ()))), ([(0 : Int), (128 : Int), (255 : Int)], ()))).bind fun y23 =>
 (spec_l1Below_F ((y23.2.1.1, (y23.2.1.2.1, (y23.2.1.2.2.1, ()))), ((3 : Int), ()))).bind fun y26 =>
 ck (decide ((d0.length + [IntKind.u8.wrap y23.1.1, IntKind.u8.wrap y26.1.1].length) * 1 ≤ big47)) (some ((d0 ++ [IntKind.u8.wrap y23.1.1, IntKind.u8.wrap y26.1.1], ()), ((y26.2.1.1, (y26.2.1.2.1, (y26.2.1.2.2.1, ()))), ()))))
 (some ((d0, ()), ((y19.2.1.1, (y19.2.1.2.1, (y19.2.1.2.2.1, ()))), ()))) := by kernel_rfl
/-! spec.DrawGetNum -/
noncomputable def spec_DrawGetNum_b : Code := bd Try.f20
def spec_DrawGetNum_T : List (Nat × Tm) := []
noncomputable def spec_DrawGetNum_E : Env := ⟨tt0, [(97, spec_l1PickInt_C), (98, spec_l1New_C), (100, spec_l1DrawNums_C)]⟩
noncomputable def spec_DrawGetNum_F : PsD [.ro tYs] → Option (RsD [.own tYs, .own tI] × PsO [.ro tYs]) := fun x => evFn spec_DrawGetNum_E spec_DrawGetNum_T Try.f20 spec_DrawGetNum_b [.ro tYs] [.own tYs, .own tI] x
@[reducible] noncomputable def spec_DrawGetNum_C : Ct := ⟨[.ro tYs], [.own tYs, .own tI], spec_DrawGetNum_F⟩
theorem spec_DrawGetNum_h (x : PsD [.ro tYs]) (y : RsD [.own tYs, .own tI] × PsO [.ro tYs]) (h : spec_DrawGetNum_F x = some y) : evFn spec_DrawGetNum_E spec_DrawGetNum_T Try.f20 spec_DrawGetNum_b [.ro tYs] [.own tYs, .own tI] x = some y := h
theorem spec_DrawGetNum_c : ∀ f c, get spec_DrawGetNum_E.ct f = some c → Sat Try.prog f c := ct_cons spec_l1PickInt_S (ct_cons spec_l1New_S (ct_cons spec_l1DrawNums_S (ct_nil)))
theorem spec_DrawGetNum_S : Sat Try.prog 20 spec_DrawGetNum_C := fn_ok2 (envOk _) spec_DrawGetNum_c mixedOk Try.func20 (by kernel_rfl : Try.f20.body = some spec_DrawGetNum_b) (by kernel_rfl) (by kernel_rfl) spec_DrawGetNum_h
noncomputable def spec_DrawGetNum_Ke  (x0 : List Int) : Ex → AS → Option (RsD [.own tYs, .own tI] × PsO [.ro tYs]) := endK spec_DrawGetNum_E Try.f20 [.ro tYs] [.own tYs, .own tI] (initL [.ro tYs] (x0, ()) 0).1
theorem spec_DrawGetNum_main (x0 : List Int) : spec_DrawGetNum_F (x0, ()) =
 (spec_l1New_F (x0, ())).bind fun y7 =>
 (spec_l1DrawNums_F ((y7.1.1.1, (y7.1.1.2.1, (y7.1.1.2.2.1, ()))), ())).bind fun y9 =>
 (spec_l1PickInt_F ((y9.2.1.1, (y9.2.1.2.1, (y9.2.1.2.2.1, ()))), ([(0 : Int), (0 : Int), (1 : Int), (y9.1.1.length : Int), IntKind.i64.wrap ((y9.1.1.length : Int) - (5 : Int)), (-1 : Int), (9223372036854775807 : Int)], ()))).bind fun y18 =>
 some ((y9.1.1, (y18.1.1, ())), ((), ())) := by kernel_rfl
/-! impl.GetNum -/
noncomputable def impl_GetNum_b : Code := bd Try.f21
@[reducible] def impl_GetNum_t0 : Tm := ⟨[], [], [(0, .sc true tYs), (1, .sc true tI), (7, .sc true tI), (8, .sc true tI), (9, .sc true tI)], [], [4, 5, 6], []⟩
def impl_GetNum_T : List (Nat × Tm) := [(0, impl_GetNum_t0)]
noncomputable def impl_GetNum_E : Env := ⟨tt0, []⟩
noncomputable def impl_GetNum_F : PsD [.ro tYs, .ro tI] → Option (RsD [.own tI, .own tI, .own tB] × PsO [.ro tYs, .ro tI]) := fun x => evFn impl_GetNum_E impl_GetNum_T Try.f21 impl_GetNum_b [.ro tYs, .ro tI] [.own tI, .own tI, .own tB] x
@[reducible] noncomputable def impl_GetNum_C : Ct := ⟨[.ro tYs, .ro tI], [.own tI, .own tI, .own tB], impl_GetNum_F⟩
theorem impl_GetNum_h (x : PsD [.ro tYs, .ro tI]) (y : RsD [.own tI, .own tI, .own tB] × PsO [.ro tYs, .ro tI]) (h : impl_GetNum_F x = some y) : evFn impl_GetNum_E impl_GetNum_T Try.f21 impl_GetNum_b [.ro tYs, .ro tI] [.own tI, .own tI, .own tB] x = some y := h
theorem impl_GetNum_c : ∀ f c, get impl_GetNum_E.ct f = some c → Sat Try.prog f c := ct_nil
theorem impl_GetNum_S : Sat Try.prog 21 impl_GetNum_C := fn_ok2 (envOk _) impl_GetNum_c mixedOk Try.func21 (by kernel_rfl : Try.f21.body = some impl_GetNum_b) (by kernel_rfl) (by kernel_rfl) impl_GetNum_h
noncomputable def impl_GetNum_Ke  (x0 : List Int) (x1 : Int) : Ex → AS → Option (RsD [.own tI, .own tI, .own tB] × PsO [.ro tYs, .ro tI]) := endK impl_GetNum_E Try.f21 [.ro tYs, .ro tI] [.own tI, .own tI, .own tB] (initL [.ro tYs, .ro tI] (x0, (x1, ())) 0).1
noncomputable def impl_GetNum_B0 {R : Type} : AS → (Ex → AS → Option R) → Option R := fun A K => ev impl_GetNum_E impl_GetNum_T 0 (cA (cA (cB (cA (cB (cB (cB (cB impl_GetNum_b)))))))) A K
noncomputable def impl_GetNum_K0  (x0 : List Int) (x1 : Int) : Ex → AS → Option (RsD [.own tI, .own tI, .own tB] × PsO [.ro tYs, .ro tI]) := kBlk 0 (kSeq (fun A K => ev impl_GetNum_E impl_GetNum_T 1000 (cB (cB (cB (cB (cB impl_GetNum_b))))) A K) (impl_GetNum_Ke x0 x1))
noncomputable def impl_GetNum_x0_0 : AS := ⟨[], []⟩
noncomputable def impl_GetNum_x0_1 (d0 : Int) (d1 : Int) (d2 : Bool) : AS := ⟨[(4, .v (.one (.d true tI d0))), (5, .v (.one (.d true tI d1))), (6, .v (.one (.d true tB d2)))], []⟩
theorem impl_GetNum_l0 {R : Type} {K : Ex → AS → Option R} {s : impl_GetNum_t0.D} (n : Nat) {v : Option R} (h : iterG impl_GetNum_t0 impl_GetNum_B0 K n s = v) (hv : ∃ r, v = some r) : loopG impl_GetNum_t0 impl_GetNum_B0 K s = v := loop_eq (ev_mono _ _) n h hv
theorem impl_GetNum_main (x0 : List Int) (x1 : Int) : impl_GetNum_F (x0, (x1, ())) =
 brk (decide (x1 < (0 : Int)))
 (some (((0 : Int), ((0 : Int), (false, ()))), ((), ((), ()))))
 (loopG impl_GetNum_t0 impl_GetNum_B0 (impl_GetNum_K0 x0 x1) ((x0, (x1, ((0 : Int), ((1 : Int), ((0 : Int), ()))))), ())) := by kernel_rfl
theorem impl_GetNum_r0 {R : Type} (K : Ex → AS → Option R) (n : Nat) (t0 : List Int) (t1 : Int) (t7 : Int) (t8 : Int) (t9 : Int) : iterG impl_GetNum_t0 impl_GetNum_B0 K (n + 1) ((t0, (t1, (t7, (t8, (t9, ()))))), ()) =
 brk (decide (t9 < (5 : Int)))
 (brk (decide (t1 < IntKind.i64.wrap ((t0.length : Int) - t9)))
 (ck (decide (0 ≤ IntKind.i64.wrap (t1 + t9)) && decide (IntKind.i64.wrap (t1 + t9) < t0.length)) (brk (decide ((128 : Int) ≤ IntKind.i64.wrap (rdD tY t0 (IntKind.i64.wrap (t1 + t9)))))
 (iterG impl_GetNum_t0 impl_GetNum_B0 K n ((t0, (t1, (IntKind.i64.wrap (t7 + (IntKind.i64.wrap (((IntKind.i64.wrap (rdD tY t0 (IntKind.i64.wrap (t1 + t9)))).tmod (128 : Int)) * t8))), (IntKind.i64.wrap (t8 * (128 : Int)), (IntKind.i64.wrap (t9 + (1 : Int)), ()))))), ()))
 (brk (decide ((2147483647 : Int) < IntKind.i64.wrap (t7 + (IntKind.i64.wrap (((IntKind.i64.wrap (rdD tY t0 (IntKind.i64.wrap (t1 + t9)))).tmod (128 : Int)) * t8)))))
 (K (.exit 0) (impl_GetNum_x0_0))
 (brk (decide (IntKind.i64.wrap (rdD tY t0 (IntKind.i64.wrap (t1 + t9))) = (0 : Int)))
 (brk (decide ((0 : Int) < t9))
 (K (.exit 0) (impl_GetNum_x0_0))
 (K .ret (impl_GetNum_x0_1 (IntKind.i64.wrap (t7 + (IntKind.i64.wrap (((IntKind.i64.wrap (rdD tY t0 (IntKind.i64.wrap (t1 + t9)))).tmod (128 : Int)) * t8)))) (IntKind.i64.wrap ((IntKind.i64.wrap (t1 + t9)) + (1 : Int))) true)))
 (K .ret (impl_GetNum_x0_1 (IntKind.i64.wrap (t7 + (IntKind.i64.wrap (((IntKind.i64.wrap (rdD tY t0 (IntKind.i64.wrap (t1 + t9)))).tmod (128 : Int)) * t8)))) (IntKind.i64.wrap ((IntKind.i64.wrap (t1 + t9)) + (1 : Int))) true))))))
 (K (.exit 0) (impl_GetNum_x0_0)))
 (K (.exit 0) (impl_GetNum_x0_0)) := by kernel_rfl
theorem impl_GetNum_e0_0 (x0 : List Int) (x1 : Int) : impl_GetNum_K0 x0 x1 (.exit 0) (impl_GetNum_x0_0) =
 some (((0 : Int), ((0 : Int), (false, ()))), ((), ((), ()))) := by kernel_rfl
theorem impl_GetNum_e0_1 (x0 : List Int) (x1 : Int) (d0 : Int) (d1 : Int) (d2 : Bool) : impl_GetNum_K0 x0 x1 .ret (impl_GetNum_x0_1 d0 d1 d2) =
 some ((d0, (d1, (d2, ()))), ((), ((), ()))) := by kernel_rfl
/-! spec.GetNum -/
noncomputable def spec_GetNum_b : Code := bd Try.f22
@[reducible] def spec_GetNum_t0 : Tm := ⟨[], [], [(0, .sc true tYs), (1, .sc true tI), (7, .sc true tI), (8, .sc true tI)], [], [4, 5, 6], []⟩
def spec_GetNum_T : List (Nat × Tm) := [(0, spec_GetNum_t0)]
noncomputable def spec_GetNum_E : Env := ⟨tt0, []⟩
noncomputable def spec_GetNum_F : PsD [.ro tYs, .ro tI] → Option (RsD [.own tI, .own tI, .own tB] × PsO [.ro tYs, .ro tI]) := fun x => evFn spec_GetNum_E spec_GetNum_T Try.f22 spec_GetNum_b [.ro tYs, .ro tI] [.own tI, .own tI, .own tB] x
@[reducible] noncomputable def spec_GetNum_C : Ct := ⟨[.ro tYs, .ro tI], [.own tI, .own tI, .own tB], spec_GetNum_F⟩
theorem spec_GetNum_h (x : PsD [.ro tYs, .ro tI]) (y : RsD [.own tI, .own tI, .own tB] × PsO [.ro tYs, .ro tI]) (h : spec_GetNum_F x = some y) : evFn spec_GetNum_E spec_GetNum_T Try.f22 spec_GetNum_b [.ro tYs, .ro tI] [.own tI, .own tI, .own tB] x = some y := h
theorem spec_GetNum_c : ∀ f c, get spec_GetNum_E.ct f = some c → Sat Try.prog f c := ct_nil
theorem spec_GetNum_S : Sat Try.prog 22 spec_GetNum_C := fn_ok2 (envOk _) spec_GetNum_c mixedOk Try.func22 (by kernel_rfl : Try.f22.body = some spec_GetNum_b) (by kernel_rfl) (by kernel_rfl) spec_GetNum_h
noncomputable def spec_GetNum_Ke  (x0 : List Int) (x1 : Int) : Ex → AS → Option (RsD [.own tI, .own tI, .own tB] × PsO [.ro tYs, .ro tI]) := endK spec_GetNum_E Try.f22 [.ro tYs, .ro tI] [.own tI, .own tI, .own tB] (initL [.ro tYs, .ro tI] (x0, (x1, ())) 0).1
noncomputable def spec_GetNum_B0 {R : Type} : AS → (Ex → AS → Option R) → Option R := fun A K => ev spec_GetNum_E spec_GetNum_T 0 (cA (cA (cB (cA (cB (cB spec_GetNum_b)))))) A K
noncomputable def spec_GetNum_K0  (x0 : List Int) (x1 : Int) : Ex → AS → Option (RsD [.own tI, .own tI, .own tB] × PsO [.ro tYs, .ro tI]) := kBlk 0 (kSeq (fun A K => ev spec_GetNum_E spec_GetNum_T 1000 (cB (cB (cB spec_GetNum_b))) A K) (spec_GetNum_Ke x0 x1))
noncomputable def spec_GetNum_x0_0 (d0 : Int) (d1 : Int) (d2 : Bool) : AS := ⟨[(4, .v (.one (.d true tI d0))), (5, .v (.one (.d true tI d1))), (6, .v (.one (.d true tB d2)))], []⟩
noncomputable def spec_GetNum_x0_1 : AS := ⟨[], []⟩
theorem spec_GetNum_l0 {R : Type} {K : Ex → AS → Option R} {s : spec_GetNum_t0.D} (n : Nat) {v : Option R} (h : iterG spec_GetNum_t0 spec_GetNum_B0 K n s = v) (hv : ∃ r, v = some r) : loopG spec_GetNum_t0 spec_GetNum_B0 K s = v := loop_eq (ev_mono _ _) n h hv
theorem spec_GetNum_main (x0 : List Int) (x1 : Int) : spec_GetNum_F (x0, (x1, ())) =
 loopG spec_GetNum_t0 spec_GetNum_B0 (spec_GetNum_K0 x0 x1) ((x0, (x1, ((0 : Int), ((0 : Int), ())))), ()) := by kernel_rfl
theorem spec_GetNum_r0 {R : Type} (K : Ex → AS → Option R) (n : Nat) (t0 : List Int) (t1 : Int) (t7 : Int) (t8 : Int) : iterG spec_GetNum_t0 spec_GetNum_B0 K (n + 1) ((t0, (t1, (t7, (t8, ())))), ()) =
 brk (decide (t8 < (5 : Int)))
 (brk (decide (t1 < (0 : Int)))
 (K .ret (spec_GetNum_x0_0 (0 : Int) (0 : Int) false))
 (brk (decide (IntKind.i64.wrap ((t0.length : Int) - t8) ≤ t1))
 (K .ret (spec_GetNum_x0_0 (0 : Int) (0 : Int) false))
 (ck (decide (0 ≤ IntKind.i64.wrap (t1 + t8)) && decide (IntKind.i64.wrap (t1 + t8) < t0.length)) (ck (decide (0 ≤ IntKind.i64.wrap ((7 : Int) * t8))) (brk (decide (IntKind.i64.wrap (rdD tY t0 (IntKind.i64.wrap (t1 + t8))) < (128 : Int)))
 (brk (decide ((0 : Int) < t8))
 (brk (decide (IntKind.i64.wrap (rdD tY t0 (IntKind.i64.wrap (t1 + t8))) = (0 : Int)))
 (K .ret (spec_GetNum_x0_0 (0 : Int) (0 : Int) false))
 (brk (decide ((2147483647 : Int) < orN IntKind.i64 t7 (shlN IntKind.i64 ((IntKind.i64.wrap (rdD tY t0 (IntKind.i64.wrap (t1 + t8)))).tmod (128 : Int)) (IntKind.i64.wrap ((7 : Int) * t8)))))
 (K .ret (spec_GetNum_x0_0 (0 : Int) (0 : Int) false))
 (K .ret (spec_GetNum_x0_0 (orN IntKind.i64 t7 (shlN IntKind.i64 ((IntKind.i64.wrap (rdD tY t0 (IntKind.i64.wrap (t1 + t8)))).tmod (128 : Int)) (IntKind.i64.wrap ((7 : Int) * t8)))) (IntKind.i64.wrap ((IntKind.i64.wrap (t1 + t8)) + (1 : Int))) true))))
 (brk (decide ((2147483647 : Int) < orN IntKind.i64 t7 (shlN IntKind.i64 ((IntKind.i64.wrap (rdD tY t0 (IntKind.i64.wrap (t1 + t8)))).tmod (128 : Int)) (IntKind.i64.wrap ((7 : Int) * t8)))))
 (K .ret (spec_GetNum_x0_0 (0 : Int) (0 : Int) false))
 (K .ret (spec_GetNum_x0_0 (orN IntKind.i64 t7 (shlN IntKind.i64 ((IntKind.i64.wrap (rdD tY t0 (IntKind.i64.wrap (t1 + t8)))).tmod (128 : Int)) (IntKind.i64.wrap ((7 : Int) * t8)))) (IntKind.i64.wrap ((IntKind.i64.wrap (t1 + t8)) + (1 : Int))) true))))
 (iterG spec_GetNum_t0 spec_GetNum_B0 K n ((t0, (t1, (orN IntKind.i64 t7 (shlN IntKind.i64 ((IntKind.i64.wrap (rdD tY t0 (IntKind.i64.wrap (t1 + t8)))).tmod (128 : Int)) (IntKind.i64.wrap ((7 : Int) * t8))), (IntKind.i64.wrap (t8 + (1 : Int)), ())))), ())))))))
 (K (.exit 0) (spec_GetNum_x0_1)) := by kernel_rfl
theorem spec_GetNum_e0_0 (x0 : List Int) (x1 : Int) (d0 : Int) (d1 : Int) (d2 : Bool) : spec_GetNum_K0 x0 x1 .ret (spec_GetNum_x0_0 d0 d1 d2) =
 some ((d0, (d1, (d2, ()))), ((), ((), ()))) := by kernel_rfl
theorem spec_GetNum_e0_1 (x0 : List Int) (x1 : Int) : spec_GetNum_K0 x0 x1 (.exit 0) (spec_GetNum_x0_1) =
 some (((0 : Int), ((0 : Int), (false, ()))), ((), ((), ()))) := by kernel_rfl
/-! impl.Digits -/
noncomputable def impl_Digits_b : Code := bd Try.f24
def impl_Digits_T : List (Nat × Tm) := []
noncomputable def impl_Digits_E (F : PsD [.ro tI] → Option (RsD [.own tS] × PsO [.ro tI])) : Env := ⟨tt0, [(24, ⟨[.ro tI], [.own tS], F⟩)]⟩
noncomputable def impl_Digits_step (F : PsD [.ro tI] → Option (RsD [.own tS] × PsO [.ro tI])) : PsD [.ro tI] → Option (RsD [.own tS] × PsO [.ro tI]) := fun x => evFn (impl_Digits_E F) impl_Digits_T Try.f24 impl_Digits_b [.ro tI] [.own tS] x
noncomputable def impl_Digits_it : Nat → PsD [.ro tI] → Option (RsD [.own tS] × PsO [.ro tI])
  | 0 => fun _ => none
  | k + 1 => impl_Digits_step (impl_Digits_it k)
noncomputable def impl_Digits_F : PsD [.ro tI] → Option (RsD [.own tS] × PsO [.ro tI]) := impl_Digits_it 24
@[reducible] noncomputable def impl_Digits_C : Ct := ⟨[.ro tI], [.own tS], impl_Digits_F⟩
theorem impl_Digits_i : ∀ k, Sat Try.prog 24 ⟨[.ro tI], [.own tS], impl_Digits_it k⟩
  | 0 => fn_ok2 (TM := []) (envOk []) ct_nil mixedOk Try.func24 (by kernel_rfl : Try.f24.body = some impl_Digits_b) (by kernel_rfl) (by kernel_rfl) (fun x y h => nomatch h)
  | k + 1 => fn_ok2 (TM := impl_Digits_T) (envOk _) (ct_cons (impl_Digits_i k) (ct_nil)) mixedOk Try.func24 (by kernel_rfl : Try.f24.body = some impl_Digits_b) (by kernel_rfl) (by kernel_rfl) (fun x y h => h)
theorem impl_Digits_S : Sat Try.prog 24 impl_Digits_C := impl_Digits_i 24
theorem impl_Digits_main (F : PsD [.ro tI] → Option (RsD [.own tS] × PsO [.ro tI])) (x0 : Int) : impl_Digits_step F (x0, ()) =
 brk (decide (x0 < (0 : Int)))
 (brk (decide ((-10 : Int) < x0))
 ((F (IntKind.i64.wrap (0 - x0), ())).bind fun y12 =>
 ck (decide (([45] : List Int).length + y12.1.1.length ≤ big47)) (some ((([45] : List Int) ++ y12.1.1, ()), ((), ()))))
 (brk (decide (x0 < (0 : Int)))
 ((F (IntKind.i64.wrap (x0.tdiv (10 : Int)), ())).bind fun y19 =>
 (F (IntKind.i64.wrap (0 - (x0.tmod (10 : Int))), ())).bind fun y23 =>
 ck (decide (y19.1.1.length + y23.1.1.length ≤ big47)) (some ((y19.1.1 ++ y23.1.1, ()), ((), ()))))
 (brk (decide (x0 < (10 : Int)))
 (ck (decide (0 ≤ IntKind.i32.wrap (IntKind.i64.wrap ((48 : Int) + x0))) && decide (IntKind.i32.wrap (IntKind.i64.wrap ((48 : Int) + x0)) < 128)) (some (([IntKind.i32.wrap (IntKind.i64.wrap ((48 : Int) + x0))], ()), ((), ()))))
 ((F (IntKind.i64.wrap (x0.tdiv (10 : Int)), ())).bind fun y34 =>
 ck (decide (0 ≤ IntKind.i32.wrap (IntKind.i64.wrap ((48 : Int) + (x0.tmod (10 : Int))))) && decide (IntKind.i32.wrap (IntKind.i64.wrap ((48 : Int) + (x0.tmod (10 : Int)))) < 128)) (ck (decide (y34.1.1.length + [IntKind.i32.wrap (IntKind.i64.wrap ((48 : Int) + (x0.tmod (10 : Int))))].length ≤ big47)) (some ((y34.1.1 ++ [IntKind.i32.wrap (IntKind.i64.wrap ((48 : Int) + (x0.tmod (10 : Int))))], ()), ((), ()))))))))
 (brk (decide (x0 < (0 : Int)))
 ((F (IntKind.i64.wrap (x0.tdiv (10 : Int)), ())).bind fun y19 =>
 (F (IntKind.i64.wrap (0 - (x0.tmod (10 : Int))), ())).bind fun y23 =>
 ck (decide (y19.1.1.length + y23.1.1.length ≤ big47)) (some ((y19.1.1 ++ y23.1.1, ()), ((), ()))))
 (brk (decide (x0 < (10 : Int)))
 (ck (decide (0 ≤ IntKind.i32.wrap (IntKind.i64.wrap ((48 : Int) + x0))) && decide (IntKind.i32.wrap (IntKind.i64.wrap ((48 : Int) + x0)) < 128)) (some (([IntKind.i32.wrap (IntKind.i64.wrap ((48 : Int) + x0))], ()), ((), ()))))
 ((F (IntKind.i64.wrap (x0.tdiv (10 : Int)), ())).bind fun y34 =>
 ck (decide (0 ≤ IntKind.i32.wrap (IntKind.i64.wrap ((48 : Int) + (x0.tmod (10 : Int))))) && decide (IntKind.i32.wrap (IntKind.i64.wrap ((48 : Int) + (x0.tmod (10 : Int)))) < 128)) (ck (decide (y34.1.1.length + [IntKind.i32.wrap (IntKind.i64.wrap ((48 : Int) + (x0.tmod (10 : Int))))].length ≤ big47)) (some ((y34.1.1 ++ [IntKind.i32.wrap (IntKind.i64.wrap ((48 : Int) + (x0.tmod (10 : Int))))], ()), ((), ()))))))) := by kernel_rfl
/-! spec.Digits -/
noncomputable def spec_Digits_b : Code := bd Try.f25
@[reducible] def spec_Digits_t0 : Tm := ⟨[], [], [(0, .sc true tI), (3, .sc true tB), (4, .sc true tS)], [], [3, 4], []⟩
def spec_Digits_T : List (Nat × Tm) := [(0, spec_Digits_t0)]
noncomputable def spec_Digits_E : Env := ⟨tt0, []⟩
noncomputable def spec_Digits_F : PsD [.ro tI] → Option (RsD [.own tS] × PsO [.ro tI]) := fun x => evFn spec_Digits_E spec_Digits_T Try.f25 spec_Digits_b [.ro tI] [.own tS] x
@[reducible] noncomputable def spec_Digits_C : Ct := ⟨[.ro tI], [.own tS], spec_Digits_F⟩
theorem spec_Digits_h (x : PsD [.ro tI]) (y : RsD [.own tS] × PsO [.ro tI]) (h : spec_Digits_F x = some y) : evFn spec_Digits_E spec_Digits_T Try.f25 spec_Digits_b [.ro tI] [.own tS] x = some y := h
theorem spec_Digits_c : ∀ f c, get spec_Digits_E.ct f = some c → Sat Try.prog f c := ct_nil
theorem spec_Digits_S : Sat Try.prog 25 spec_Digits_C := fn_ok2 (envOk _) spec_Digits_c mixedOk Try.func25 (by kernel_rfl : Try.f25.body = some spec_Digits_b) (by kernel_rfl) (by kernel_rfl) spec_Digits_h
noncomputable def spec_Digits_Ke  (x0 : Int) : Ex → AS → Option (RsD [.own tS] × PsO [.ro tI]) := endK spec_Digits_E Try.f25 [.ro tI] [.own tS] (initL [.ro tI] (x0, ()) 0).1
noncomputable def spec_Digits_B0 {R : Type} : AS → (Ex → AS → Option R) → Option R := fun A K => ev spec_Digits_E spec_Digits_T 0 (cA (cA (cA (cB (cB (cB (cB spec_Digits_b))))))) A K
noncomputable def spec_Digits_K0  (x0 : Int) : Ex → AS → Option (RsD [.own tS] × PsO [.ro tI]) := kBlk 0 (kSeq (fun A K => ev spec_Digits_E spec_Digits_T 1000 (cB (cB (cB (cB (cB spec_Digits_b))))) A K) (spec_Digits_Ke x0))
noncomputable def spec_Digits_x0_0 (d0 : Bool) (d1 : List Int) : AS := ⟨[(3, .v (.one (.d true tB d0))), (4, .v (.one (.d true tS d1)))], []⟩
theorem spec_Digits_l0 {R : Type} {K : Ex → AS → Option R} {s : spec_Digits_t0.D} (n : Nat) {v : Option R} (h : iterG spec_Digits_t0 spec_Digits_B0 K n s = v) (hv : ∃ r, v = some r) : loopG spec_Digits_t0 spec_Digits_B0 K s = v := loop_eq (ev_mono _ _) n h hv
theorem spec_Digits_main (x0 : Int) : spec_Digits_F (x0, ()) =
 brk (decide (x0 = (0 : Int)))
 (some ((([48] : List Int), ()), ((), ())))
 (loopG spec_Digits_t0 spec_Digits_B0 (spec_Digits_K0 x0) ((x0, (decide (x0 < (0 : Int)), (([] : List Int), ()))), ())) := by kernel_rfl
theorem spec_Digits_r0 {R : Type} (K : Ex → AS → Option R) (n : Nat) (t0 : Int) (t3 : Bool) (t4 : List Int) : iterG spec_Digits_t0 spec_Digits_B0 K (n + 1) ((t0, (t3, (t4, ()))), ()) =
 brk (!decide (t0 = (0 : Int)))
 (brk (decide (t0.tmod (10 : Int) < (0 : Int)))
 (ck (decide ([IntKind.u8.wrap (IntKind.i64.wrap ((48 : Int) + (IntKind.i64.wrap ((0 : Int) - (t0.tmod (10 : Int))))))].length + t4.length ≤ big47)) (iterG spec_Digits_t0 spec_Digits_B0 K n ((IntKind.i64.wrap (t0.tdiv (10 : Int)), (t3, ([IntKind.u8.wrap (IntKind.i64.wrap ((48 : Int) + (IntKind.i64.wrap ((0 : Int) - (t0.tmod (10 : Int))))))] ++ t4, ()))), ())))
 (ck (decide ([IntKind.u8.wrap (IntKind.i64.wrap ((48 : Int) + (t0.tmod (10 : Int))))].length + t4.length ≤ big47)) (iterG spec_Digits_t0 spec_Digits_B0 K n ((IntKind.i64.wrap (t0.tdiv (10 : Int)), (t3, ([IntKind.u8.wrap (IntKind.i64.wrap ((48 : Int) + (t0.tmod (10 : Int))))] ++ t4, ()))), ()))))
 (K (.exit 0) (spec_Digits_x0_0 t3 t4)) := by kernel_rfl
theorem spec_Digits_e0_0 (x0 : Int) (d0 : Bool) (d1 : List Int) : spec_Digits_K0 x0 (.exit 0) (spec_Digits_x0_0 d0 d1) =
 brk d0
 (ck (decide (([45] : List Int).length + d1.length ≤ big47)) (some ((([45] : List Int) ++ d1, ()), ((), ()))))
 (some ((d1, ()), ((), ()))) := by kernel_rfl
/-! impl.SumOf -/
noncomputable def impl_SumOf_b : Code := bd Try.f26
@[reducible] def impl_SumOf_t0 : Tm := ⟨[], [], [(3, .sc true tI), (4, .sc true tI), (7, .sc true tYs), (8, .sc true tI), (9, .sc true tI)], [], [3, 4], []⟩
def impl_SumOf_T : List (Nat × Tm) := [(0, impl_SumOf_t0)]
noncomputable def impl_SumOf_E : Env := ⟨tt0, []⟩
noncomputable def impl_SumOf_F : PsD [.ro tYs] → Option (RsD [.own tI] × PsO [.ro tYs]) := fun x => evFn impl_SumOf_E impl_SumOf_T Try.f26 impl_SumOf_b [.ro tYs] [.own tI] x
@[reducible] noncomputable def impl_SumOf_C : Ct := ⟨[.ro tYs], [.own tI], impl_SumOf_F⟩
theorem impl_SumOf_h (x : PsD [.ro tYs]) (y : RsD [.own tI] × PsO [.ro tYs]) (h : impl_SumOf_F x = some y) : evFn impl_SumOf_E impl_SumOf_T Try.f26 impl_SumOf_b [.ro tYs] [.own tI] x = some y := h
theorem impl_SumOf_c : ∀ f c, get impl_SumOf_E.ct f = some c → Sat Try.prog f c := ct_nil
theorem impl_SumOf_S : Sat Try.prog 26 impl_SumOf_C := fn_ok2 (envOk _) impl_SumOf_c mixedOk Try.func26 (by kernel_rfl : Try.f26.body = some impl_SumOf_b) (by kernel_rfl) (by kernel_rfl) impl_SumOf_h
noncomputable def impl_SumOf_Ke  (x0 : List Int) : Ex → AS → Option (RsD [.own tI] × PsO [.ro tYs]) := endK impl_SumOf_E Try.f26 [.ro tYs] [.own tI] (initL [.ro tYs] (x0, ()) 0).1
noncomputable def impl_SumOf_B0 {R : Type} : AS → (Ex → AS → Option R) → Option R := fun A K => ev impl_SumOf_E impl_SumOf_T 0 (cA (cA (cB (cA (cB (cB impl_SumOf_b)))))) A K
noncomputable def impl_SumOf_K0  (x0 : List Int) : Ex → AS → Option (RsD [.own tI] × PsO [.ro tYs]) := kBlk 0 (kSeq (fun A K => ev impl_SumOf_E impl_SumOf_T 1000 (cB (cB (cB impl_SumOf_b))) A K) (impl_SumOf_Ke x0))
noncomputable def impl_SumOf_x0_0 (d0 : Int) (d1 : Int) : AS := ⟨[(3, .v (.one (.d true tI d0))), (4, .v (.one (.d true tI d1)))], []⟩
theorem impl_SumOf_l0 {R : Type} {K : Ex → AS → Option R} {s : impl_SumOf_t0.D} (n : Nat) {v : Option R} (h : iterG impl_SumOf_t0 impl_SumOf_B0 K n s = v) (hv : ∃ r, v = some r) : loopG impl_SumOf_t0 impl_SumOf_B0 K s = v := loop_eq (ev_mono _ _) n h hv
theorem impl_SumOf_main (x0 : List Int) : impl_SumOf_F (x0, ()) =
 loopG impl_SumOf_t0 impl_SumOf_B0 (impl_SumOf_K0 x0) (((1 : Int), ((0 : Int), (x0, ((x0.length : Int), ((0 : Int), ()))))), ()) := by kernel_rfl
theorem impl_SumOf_r0 {R : Type} (K : Ex → AS → Option R) (n : Nat) (t3 : Int) (t4 : Int) (t7 : List Int) (t8 : Int) (t9 : Int) : iterG impl_SumOf_t0 impl_SumOf_B0 K (n + 1) ((t3, (t4, (t7, (t8, (t9, ()))))), ()) =
 brk (decide (t9 < t8))
 (ck (decide (0 ≤ t9) && decide (t9 < t7.length)) (iterG impl_SumOf_t0 impl_SumOf_B0 K n (((IntKind.i64.wrap (t3 + (IntKind.i64.wrap (rdD tY t7 t9)))).tmod (65521 : Int), ((IntKind.i64.wrap (t4 + ((IntKind.i64.wrap (t3 + (IntKind.i64.wrap (rdD tY t7 t9)))).tmod (65521 : Int)))).tmod (65521 : Int), (t7, (t8, (IntKind.i64.wrap (t9 + (1 : Int)), ()))))), ())))
 (K (.exit 0) (impl_SumOf_x0_0 t3 t4)) := by kernel_rfl
theorem impl_SumOf_e0_0 (x0 : List Int) (d0 : Int) (d1 : Int) : impl_SumOf_K0 x0 (.exit 0) (impl_SumOf_x0_0 d0 d1) =
 some ((IntKind.i64.wrap ((IntKind.i64.wrap (d1 * (65536 : Int))) + d0), ()), ((), ())) := by kernel_rfl
/-! spec.SumOf -/
noncomputable def spec_SumOf_b : Code := bd Try.f27
@[reducible] def spec_SumOf_t0 : Tm := ⟨[], [], [(0, .sc true tYs), (3, .sc true tI), (4, .sc true tI), (5, .sc true tI)], [], [3, 4], []⟩
def spec_SumOf_T : List (Nat × Tm) := [(0, spec_SumOf_t0)]
noncomputable def spec_SumOf_E : Env := ⟨tt0, []⟩
noncomputable def spec_SumOf_F : PsD [.ro tYs] → Option (RsD [.own tI] × PsO [.ro tYs]) := fun x => evFn spec_SumOf_E spec_SumOf_T Try.f27 spec_SumOf_b [.ro tYs] [.own tI] x
@[reducible] noncomputable def spec_SumOf_C : Ct := ⟨[.ro tYs], [.own tI], spec_SumOf_F⟩
theorem spec_SumOf_h (x : PsD [.ro tYs]) (y : RsD [.own tI] × PsO [.ro tYs]) (h : spec_SumOf_F x = some y) : evFn spec_SumOf_E spec_SumOf_T Try.f27 spec_SumOf_b [.ro tYs] [.own tI] x = some y := h
theorem spec_SumOf_c : ∀ f c, get spec_SumOf_E.ct f = some c → Sat Try.prog f c := ct_nil
theorem spec_SumOf_S : Sat Try.prog 27 spec_SumOf_C := fn_ok2 (envOk _) spec_SumOf_c mixedOk Try.func27 (by kernel_rfl : Try.f27.body = some spec_SumOf_b) (by kernel_rfl) (by kernel_rfl) spec_SumOf_h
noncomputable def spec_SumOf_Ke  (x0 : List Int) : Ex → AS → Option (RsD [.own tI] × PsO [.ro tYs]) := endK spec_SumOf_E Try.f27 [.ro tYs] [.own tI] (initL [.ro tYs] (x0, ()) 0).1
noncomputable def spec_SumOf_B0 {R : Type} : AS → (Ex → AS → Option R) → Option R := fun A K => ev spec_SumOf_E spec_SumOf_T 0 (cA (cA (cB (cA (cB (cB spec_SumOf_b)))))) A K
noncomputable def spec_SumOf_K0  (x0 : List Int) : Ex → AS → Option (RsD [.own tI] × PsO [.ro tYs]) := kBlk 0 (kSeq (fun A K => ev spec_SumOf_E spec_SumOf_T 1000 (cB (cB (cB spec_SumOf_b))) A K) (spec_SumOf_Ke x0))
noncomputable def spec_SumOf_x0_0 (d0 : Int) (d1 : Int) : AS := ⟨[(3, .v (.one (.d true tI d0))), (4, .v (.one (.d true tI d1)))], []⟩
theorem spec_SumOf_l0 {R : Type} {K : Ex → AS → Option R} {s : spec_SumOf_t0.D} (n : Nat) {v : Option R} (h : iterG spec_SumOf_t0 spec_SumOf_B0 K n s = v) (hv : ∃ r, v = some r) : loopG spec_SumOf_t0 spec_SumOf_B0 K s = v := loop_eq (ev_mono _ _) n h hv
theorem spec_SumOf_main (x0 : List Int) : spec_SumOf_F (x0, ()) =
 loopG spec_SumOf_t0 spec_SumOf_B0 (spec_SumOf_K0 x0) ((x0, ((1 : Int), ((0 : Int), ((0 : Int), ())))), ()) := by kernel_rfl
theorem spec_SumOf_r0 {R : Type} (K : Ex → AS → Option R) (n : Nat) (t0 : List Int) (t3 : Int) (t4 : Int) (t5 : Int) : iterG spec_SumOf_t0 spec_SumOf_B0 K (n + 1) ((t0, (t3, (t4, (t5, ())))), ()) =
 brk (decide (t5 < (t0.length : Int)))
 (ck (decide (0 ≤ t5) && decide (t5 < t0.length)) (iterG spec_SumOf_t0 spec_SumOf_B0 K n ((t0, ((IntKind.i64.wrap (t3 + (IntKind.i64.wrap (rdD tY t0 t5)))).tmod (65521 : Int), ((IntKind.i64.wrap (t4 + ((IntKind.i64.wrap (t3 + (IntKind.i64.wrap (rdD tY t0 t5)))).tmod (65521 : Int)))).tmod (65521 : Int), (IntKind.i64.wrap (t5 + (1 : Int)), ())))), ())))
 (K (.exit 0) (spec_SumOf_x0_0 t3 t4)) := by kernel_rfl
theorem spec_SumOf_e0_0 (x0 : List Int) (d0 : Int) (d1 : Int) : spec_SumOf_K0 x0 (.exit 0) (spec_SumOf_x0_0 d0 d1) =
 some ((IntKind.i64.wrap ((IntKind.i64.wrap (d1 * (65536 : Int))) + d0), ()), ((), ())) := by kernel_rfl
/-! laws.FnNumbers -/
noncomputable def laws_FnNumbers_b : Code := bd Try.f3
def laws_FnNumbers_T : List (Nat × Tm) := []
noncomputable def laws_FnNumbers_E : Env := ⟨tt0, [(15, laws_big_C), (16, spec_DrawPutNum_C), (17, impl_PutNum_C), (18, spec_DrawDigits_C), (19, spec_DrawSumOf_C), (20, spec_DrawGetNum_C), (21, impl_GetNum_C), (22, spec_GetNum_C), (23, spec_PutNum_C), (24, impl_Digits_C), (25, spec_Digits_C), (26, impl_SumOf_C), (27, spec_SumOf_C)]⟩
noncomputable def laws_FnNumbers_F : PsD [.ro tYs] → Option (RsD [.own tB] × PsO [.ro tYs]) := fun x => evFn laws_FnNumbers_E laws_FnNumbers_T Try.f3 laws_FnNumbers_b [.ro tYs] [.own tB] x
@[reducible] noncomputable def laws_FnNumbers_C : Ct := ⟨[.ro tYs], [.own tB], laws_FnNumbers_F⟩
theorem laws_FnNumbers_h (x : PsD [.ro tYs]) (y : RsD [.own tB] × PsO [.ro tYs]) (h : laws_FnNumbers_F x = some y) : evFn laws_FnNumbers_E laws_FnNumbers_T Try.f3 laws_FnNumbers_b [.ro tYs] [.own tB] x = some y := h
theorem laws_FnNumbers_c : ∀ f c, get laws_FnNumbers_E.ct f = some c → Sat Try.prog f c := ct_cons laws_big_S (ct_cons spec_DrawPutNum_S (ct_cons impl_PutNum_S (ct_cons spec_DrawDigits_S (ct_cons spec_DrawSumOf_S (ct_cons spec_DrawGetNum_S (ct_cons impl_GetNum_S (ct_cons spec_GetNum_S (ct_cons spec_PutNum_S (ct_cons impl_Digits_S (ct_cons spec_Digits_S (ct_cons impl_SumOf_S (ct_cons spec_SumOf_S (ct_nil)))))))))))))
theorem laws_FnNumbers_S : Sat Try.prog 3 laws_FnNumbers_C := fn_ok2 (envOk _) laws_FnNumbers_c mixedOk Try.func3 (by kernel_rfl : Try.f3.body = some laws_FnNumbers_b) (by kernel_rfl) (by kernel_rfl) laws_FnNumbers_h
noncomputable def laws_FnNumbers_Ke  (x0 : List Int) : Ex → AS → Option (RsD [.own tB] × PsO [.ro tYs]) := endK laws_FnNumbers_E Try.f3 [.ro tYs] [.own tB] (initL [.ro tYs] (x0, ()) 0).1
theorem laws_FnNumbers_main (x0 : List Int) : laws_FnNumbers_F (x0, ()) =
 (laws_big_F (x0, ())).bind fun y19 =>
 brk y19.1.1
 (some ((true, ()), ((), ())))
 ((spec_DrawPutNum_F (x0, ())).bind fun y21 =>
 (impl_PutNum_F (y21.1.1, ())).bind fun y23 =>
 (spec_DrawDigits_F (x0, ())).bind fun y25 =>
 (spec_DrawSumOf_F (x0, ())).bind fun y27 =>
 (spec_DrawGetNum_F (x0, ())).bind fun y30 =>
 (impl_GetNum_F (y30.1.1, (y30.1.2.1, ()))).bind fun y36 =>
 (spec_GetNum_F (y30.1.1, (y30.1.2.1, ()))).bind fun y43 =>
 (spec_PutNum_F (y21.1.1, ())).bind fun y50 =>
 brk (!decide (y23.1.1 = y50.1.1))
 (some ((false, ()), ((), ())))
 ((impl_Digits_F (y25.1.1, ())).bind fun y55 =>
 (spec_Digits_F (y25.1.1, ())).bind fun y57 =>
 brk (!decide (y55.1.1 = y57.1.1))
 (some ((false, ()), ((), ())))
 ((impl_SumOf_F (y27.1.1, ())).bind fun y62 =>
 (spec_SumOf_F (y27.1.1, ())).bind fun y64 =>
 brk (!decide (y62.1.1 = y64.1.1))
 (some ((false, ()), ((), ())))
 (brk (!(y36.1.2.2.1 == y43.1.2.2.1))
 (some ((false, ()), ((), ())))
 (brk (!decide (y36.1.2.1 = y43.1.2.1))
 (some ((false, ()), ((), ())))
 ((impl_GetNum_F (y23.1.1, ((0 : Int), ()))).bind fun y79 =>
 brk (decide ((y23.1.1.length : Int) = (0 : Int)))
 (brk (!y36.1.2.2.1)
 (some ((true, ()), ((), ())))
 (ck (decide (0 ≤ y30.1.2.1) && decide (y30.1.2.1 ≤ y36.1.2.1) && decide (y36.1.2.1 ≤ y30.1.1.length)) ((impl_PutNum_F (y36.1.1, ())).bind fun y105 =>
 some ((decide (y105.1.1 = (y30.1.1.take y36.1.2.1.toNat).drop y30.1.2.1.toNat), ()), ((), ())))))
 (brk y79.1.2.2.1
 (brk (decide (y79.1.1 = y21.1.1))
 (brk (decide (y79.1.2.1 = (y23.1.1.length : Int)))
 (brk (!y36.1.2.2.1)
 (some ((true, ()), ((), ())))
 (ck (decide (0 ≤ y30.1.2.1) && decide (y30.1.2.1 ≤ y36.1.2.1) && decide (y36.1.2.1 ≤ y30.1.1.length)) ((impl_PutNum_F (y36.1.1, ())).bind fun y105 =>
 some ((decide (y105.1.1 = (y30.1.1.take y36.1.2.1.toNat).drop y30.1.2.1.toNat), ()), ((), ())))))
 (some ((false, ()), ((), ()))))
 (some ((false, ()), ((), ()))))
 (some ((false, ()), ((), ())))))))))) := by kernel_rfl
end Go.Refl
