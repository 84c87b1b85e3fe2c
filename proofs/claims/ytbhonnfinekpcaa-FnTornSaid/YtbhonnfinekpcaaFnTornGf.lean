/- Functions of the program, told by the evaluator: printed by a program of this claim. No condition. -/
import Derived.Test.YtbhonnfinekpcaaFnTornGt
namespace Go.Refl
open Go.RowKit Go.Proofs
set_option linter.unusedVariables false
set_option maxRecDepth 100000
/-! laws.big -/
noncomputable def laws_big_b : Code := bd Try.f11
def laws_big_T : List (Nat × Tm) := []
noncomputable def laws_big_E : Env := ⟨tt0, []⟩
noncomputable def laws_big_F : PsD [.ro tYs] → Option (RsD [.own tB] × PsO [.ro tYs]) := fun x => evFn laws_big_E laws_big_T Try.f11 laws_big_b [.ro tYs] [.own tB] x
@[reducible] noncomputable def laws_big_C : Ct := ⟨[.ro tYs], [.own tB], laws_big_F⟩
theorem laws_big_h (x : PsD [.ro tYs]) (y : RsD [.own tB] × PsO [.ro tYs]) (h : laws_big_F x = some y) : evFn laws_big_E laws_big_T Try.f11 laws_big_b [.ro tYs] [.own tB] x = some y := h
theorem laws_big_c : ∀ f c, get laws_big_E.ct f = some c → Sat Try.prog f c := ct_nil
theorem laws_big_S : Sat Try.prog 11 laws_big_C := fn_ok2 (envOk _) laws_big_c mixedOk Try.func11 (by kernel_rfl : Try.f11.body = some laws_big_b) (by kernel_rfl) (by kernel_rfl) laws_big_h
noncomputable def laws_big_Ke  (x0 : List Int) : Ex → AS → Option (RsD [.own tB] × PsO [.ro tYs]) := endK laws_big_E Try.f11 [.ro tYs] [.own tB] (initL [.ro tYs] (x0, ()) 0).1
theorem laws_big_main (x0 : List Int) : laws_big_F (x0, ()) =
 some ((decide ((1048576 : Int) < (x0.length : Int)), ()), ((), ())) := by kernel_rfl
/-! spec.l1New -/
noncomputable def spec_l1New_b : Code := bd Try.f48
@[reducible] def spec_l1New_t0 : Tm := ⟨[], [], [(0, .sc true tYs), (3, .sc true tI), (4, .sc true tI)], [], [0, 3], []⟩
def spec_l1New_T : List (Nat × Tm) := [(0, spec_l1New_t0)]
noncomputable def spec_l1New_E : Env := ⟨tt0, []⟩
noncomputable def spec_l1New_F : PsD [.ro tYs] → Option (RsD [.box tL1Cur] × PsO [.ro tYs]) := fun x => evFn spec_l1New_E spec_l1New_T Try.f48 spec_l1New_b [.ro tYs] [.box tL1Cur] x
@[reducible] noncomputable def spec_l1New_C : Ct := ⟨[.ro tYs], [.box tL1Cur], spec_l1New_F⟩
theorem spec_l1New_h (x : PsD [.ro tYs]) (y : RsD [.box tL1Cur] × PsO [.ro tYs]) (h : spec_l1New_F x = some y) : evFn spec_l1New_E spec_l1New_T Try.f48 spec_l1New_b [.ro tYs] [.box tL1Cur] x = some y := h
theorem spec_l1New_c : ∀ f c, get spec_l1New_E.ct f = some c → Sat Try.prog f c := ct_nil
theorem spec_l1New_S : Sat Try.prog 48 spec_l1New_C := fn_ok2 (envOk _) spec_l1New_c mixedOk Try.func48 (by kernel_rfl : Try.f48.body = some spec_l1New_b) (by kernel_rfl) (by kernel_rfl) spec_l1New_h
noncomputable def spec_l1New_Ke  (x0 : List Int) : Ex → AS → Option (RsD [.box tL1Cur] × PsO [.ro tYs]) := endK spec_l1New_E Try.f48 [.ro tYs] [.box tL1Cur] (initL [.ro tYs] (x0, ()) 0).1
noncomputable def spec_l1New_B0 {R : Type} : AS → (Ex → AS → Option R) → Option R := fun A K => ev spec_l1New_E spec_l1New_T 0 (cA (cA (cB (cA (cB (cB spec_l1New_b)))))) A K
noncomputable def spec_l1New_K0  (x0 : List Int) : Ex → AS → Option (RsD [.box tL1Cur] × PsO [.ro tYs]) := kBlk 0 (kSeq (fun A K => ev spec_l1New_E spec_l1New_T 1000 (cB (cB (cB spec_l1New_b))) A K) (spec_l1New_Ke x0))
noncomputable def spec_l1New_x0_0 (d0 : List Int) (d1 : Int) : AS := ⟨[(0, .v (.one (.d true tYs d0))), (3, .v (.one (.d true tI d1)))], []⟩
theorem spec_l1New_l0 {R : Type} {K : Ex → AS → Option R} {s : spec_l1New_t0.D} (n : Nat) {v : Option R} (h : iterG spec_l1New_t0 spec_l1New_B0 K n s = v) (hv : ∃ r, v = some r) : loopG spec_l1New_t0 spec_l1New_B0 K s = v := loop_eq (ev_mono _ _) n h hv
theorem spec_l1New_main (x0 : List Int) : spec_l1New_F (x0, ()) =
 loopG spec_l1New_t0 spec_l1New_B0 (spec_l1New_K0 x0) ((x0, (IntKind.i64.wrap ((24770 : Int) + (x0.length : Int)), ((0 : Int), ()))), ()) := by kernel_rfl
theorem spec_l1New_r0 {R : Type} (K : Ex → AS → Option R) (n : Nat) (t0 : List Int) (t3 : Int) (t4 : Int) : iterG spec_l1New_t0 spec_l1New_B0 K (n + 1) ((t0, (t3, (t4, ()))), ()) =
 brk (decide (t4 < (t0.length : Int)))
 (brk (decide (t4 < (4000 : Int)))
 (ck (decide (0 ≤ t4) && decide (t4 < t0.length)) (iterG spec_l1New_t0 spec_l1New_B0 K n ((t0, (andN IntKind.i64 (IntKind.i64.wrap ((IntKind.i64.wrap ((IntKind.i64.wrap (t3 * (131 : Int))) + (IntKind.i64.wrap (rdD tY t0 t4)))) + (7 : Int))) (1073741823 : Int), (IntKind.i64.wrap (t4 + (1 : Int)), ()))), ())))
 (K (.exit 0) (spec_l1New_x0_0 t0 t3)))
 (K (.exit 0) (spec_l1New_x0_0 t0 t3)) := by kernel_rfl
theorem spec_l1New_e0_0 (x0 : List Int) (d0 : List Int) (d1 : Int) : spec_l1New_K0 x0 (.exit 0) (spec_l1New_x0_0 d0 d1) =
 some (((d0, ((0 : Int), (d1, ()))), ()), ((), ())) := by kernel_rfl
/-! spec.l1In -/
noncomputable def spec_l1In_b : Code := bd Try.f62
def spec_l1In_T : List (Nat × Tm) := []
noncomputable def spec_l1In_E : Env := ⟨tt0, []⟩
noncomputable def spec_l1In_F : PsD [.ro tI, .ro tI, .ro tI] → Option (RsD [.own tB] × PsO [.ro tI, .ro tI, .ro tI]) := fun x => evFn spec_l1In_E spec_l1In_T Try.f62 spec_l1In_b [.ro tI, .ro tI, .ro tI] [.own tB] x
@[reducible] noncomputable def spec_l1In_C : Ct := ⟨[.ro tI, .ro tI, .ro tI], [.own tB], spec_l1In_F⟩
theorem spec_l1In_h (x : PsD [.ro tI, .ro tI, .ro tI]) (y : RsD [.own tB] × PsO [.ro tI, .ro tI, .ro tI]) (h : spec_l1In_F x = some y) : evFn spec_l1In_E spec_l1In_T Try.f62 spec_l1In_b [.ro tI, .ro tI, .ro tI] [.own tB] x = some y := h
theorem spec_l1In_c : ∀ f c, get spec_l1In_E.ct f = some c → Sat Try.prog f c := ct_nil
theorem spec_l1In_S : Sat Try.prog 62 spec_l1In_C := fn_ok2 (envOk _) spec_l1In_c mixedOk Try.func62 (by kernel_rfl : Try.f62.body = some spec_l1In_b) (by kernel_rfl) (by kernel_rfl) spec_l1In_h
noncomputable def spec_l1In_Ke  (x0 : Int) (x1 : Int) (x2 : Int) : Ex → AS → Option (RsD [.own tB] × PsO [.ro tI, .ro tI, .ro tI]) := endK spec_l1In_E Try.f62 [.ro tI, .ro tI, .ro tI] [.own tB] (initL [.ro tI, .ro tI, .ro tI] (x0, (x1, (x2, ()))) 0).1
theorem spec_l1In_main (x0 : Int) (x1 : Int) (x2 : Int) : spec_l1In_F (x0, (x1, (x2, ()))) =
 brk (decide (x1 ≤ x0))
 (some ((decide (x0 ≤ x2), ()), ((), ((), ((), ())))))
 (some ((false, ()), ((), ((), ((), ()))))) := by kernel_rfl
/-! spec.GetNum -/
noncomputable def spec_GetNum_b : Code := bd Try.f130
@[reducible] def spec_GetNum_t0 : Tm := ⟨[], [], [(0, .sc true tYs), (1, .sc true tI), (7, .sc true tI), (8, .sc true tI)], [], [4, 5, 6], []⟩
def spec_GetNum_T : List (Nat × Tm) := [(0, spec_GetNum_t0)]
noncomputable def spec_GetNum_E : Env := ⟨tt0, []⟩
noncomputable def spec_GetNum_F : PsD [.ro tYs, .ro tI] → Option (RsD [.own tI, .own tI, .own tB] × PsO [.ro tYs, .ro tI]) := fun x => evFn spec_GetNum_E spec_GetNum_T Try.f130 spec_GetNum_b [.ro tYs, .ro tI] [.own tI, .own tI, .own tB] x
@[reducible] noncomputable def spec_GetNum_C : Ct := ⟨[.ro tYs, .ro tI], [.own tI, .own tI, .own tB], spec_GetNum_F⟩
theorem spec_GetNum_h (x : PsD [.ro tYs, .ro tI]) (y : RsD [.own tI, .own tI, .own tB] × PsO [.ro tYs, .ro tI]) (h : spec_GetNum_F x = some y) : evFn spec_GetNum_E spec_GetNum_T Try.f130 spec_GetNum_b [.ro tYs, .ro tI] [.own tI, .own tI, .own tB] x = some y := h
theorem spec_GetNum_c : ∀ f c, get spec_GetNum_E.ct f = some c → Sat Try.prog f c := ct_nil
theorem spec_GetNum_S : Sat Try.prog 130 spec_GetNum_C := fn_ok2 (envOk _) spec_GetNum_c mixedOk Try.func130 (by kernel_rfl : Try.f130.body = some spec_GetNum_b) (by kernel_rfl) (by kernel_rfl) spec_GetNum_h
noncomputable def spec_GetNum_Ke  (x0 : List Int) (x1 : Int) : Ex → AS → Option (RsD [.own tI, .own tI, .own tB] × PsO [.ro tYs, .ro tI]) := endK spec_GetNum_E Try.f130 [.ro tYs, .ro tI] [.own tI, .own tI, .own tB] (initL [.ro tYs, .ro tI] (x0, (x1, ())) 0).1
noncomputable def spec_GetNum_B0 {R : Type} : AS → (Ex → AS → Option R) → Option R := fun A K => ev spec_GetNum_E spec_GetNum_T 0 (cA (cA (cB (cA (cB (cB spec_GetNum_b)))))) A K
noncomputable def spec_GetNum_K0  (x0 : List Int) (x1 : Int) : Ex → AS → Option (RsD [.own tI, .own tI, .own tB] × PsO [.ro tYs, .ro tI]) := kBlk 0 (kSeq (fun A K => ev spec_GetNum_E spec_GetNum_T 1000 (cB (cB (cB spec_GetNum_b))) A K) (spec_GetNum_Ke x0 x1))
noncomputable def spec_GetNum_x0_0 (d0 : Int) (d1 : Int) (d2 : Bool) : AS := ⟨[(4, .v (.one (.d true tI d0))), (5, .v (.one (.d true tI d1))), (6, .v (.one (.d true tB d2)))], []⟩
noncomputable def spec_GetNum_x0_1 : AS := ⟨[], []⟩
theorem spec_GetNum_l0 {R : Type} {K : Ex → AS → Option R} {s : spec_GetNum_t0.D} (n : Nat) {v : Option R} (h : iterG spec_GetNum_t0 spec_GetNum_B0 K n s = v) (hv : ∃ r, v = some r) : loopG spec_GetNum_t0 spec_GetNum_B0 K s = v := loop_eq (ev_mono _ _) n h hv
theorem spec_GetNum_main (x0 : List Int) (x1 : Int) : spec_GetNum_F (x0, (x1, ())) =
 loopG spec_GetNum_t0 spec_GetNum_B0 (spec_GetNum_K0 x0 x1) ((x0, (x1, ((0 : Int), ((0 : Int), ())))), ()) := by kernel_rfl
theorem spec_GetNum_r0 {R : Type} (K : Ex → AS → Option R) (n : Nat) (t0 : List Int) (t1 : Int) (t7 : Int) (t8 : Int) : iterG spec_GetNum_t0 spec_GetNum_B0 K (n + 1) ((t0, (t1, (t7, (t8, ())))), ()) =
 brk (decide (t8 < (5 : Int)))
 (brk (decide (t1 < (0 : Int)))
 (K .ret (spec_GetNum_x0_0 (0 : Int) (0 : Int) false))
 (brk (decide (IntKind.i64.wrap ((t0.length : Int) - t8) ≤ t1))
 (K .ret (spec_GetNum_x0_0 (0 : Int) (0 : Int) false))
 (ck (decide (0 ≤ IntKind.i64.wrap (t1 + t8)) && decide (IntKind.i64.wrap (t1 + t8) < t0.length)) (ck (decide (0 ≤ IntKind.i64.wrap ((7 : Int) * t8))) (brk (decide (IntKind.i64.wrap (rdD tY t0 (IntKind.i64.wrap (t1 + t8))) < (128 : Int)))
 (brk (decide ((0 : Int) < t8))
 (brk (decide (IntKind.i64.wrap (rdD tY t0 (IntKind.i64.wrap (t1 + t8))) = (0 : Int)))
 (K .ret (spec_GetNum_x0_0 (0 : Int) (0 : Int) false))
 (brk (decide ((2147483647 : Int) < orN IntKind.i64 t7 (shlN IntKind.i64 ((IntKind.i64.wrap (rdD tY t0 (IntKind.i64.wrap (t1 + t8)))).tmod (128 : Int)) (IntKind.i64.wrap ((7 : Int) * t8)))))
 (K .ret (spec_GetNum_x0_0 (0 : Int) (0 : Int) false))
 (K .ret (spec_GetNum_x0_0 (orN IntKind.i64 t7 (shlN IntKind.i64 ((IntKind.i64.wrap (rdD tY t0 (IntKind.i64.wrap (t1 + t8)))).tmod (128 : Int)) (IntKind.i64.wrap ((7 : Int) * t8)))) (IntKind.i64.wrap ((IntKind.i64.wrap (t1 + t8)) + (1 : Int))) true))))
 (brk (decide ((2147483647 : Int) < orN IntKind.i64 t7 (shlN IntKind.i64 ((IntKind.i64.wrap (rdD tY t0 (IntKind.i64.wrap (t1 + t8)))).tmod (128 : Int)) (IntKind.i64.wrap ((7 : Int) * t8)))))
 (K .ret (spec_GetNum_x0_0 (0 : Int) (0 : Int) false))
 (K .ret (spec_GetNum_x0_0 (orN IntKind.i64 t7 (shlN IntKind.i64 ((IntKind.i64.wrap (rdD tY t0 (IntKind.i64.wrap (t1 + t8)))).tmod (128 : Int)) (IntKind.i64.wrap ((7 : Int) * t8)))) (IntKind.i64.wrap ((IntKind.i64.wrap (t1 + t8)) + (1 : Int))) true))))
 (iterG spec_GetNum_t0 spec_GetNum_B0 K n ((t0, (t1, (orN IntKind.i64 t7 (shlN IntKind.i64 ((IntKind.i64.wrap (rdD tY t0 (IntKind.i64.wrap (t1 + t8)))).tmod (128 : Int)) (IntKind.i64.wrap ((7 : Int) * t8))), (IntKind.i64.wrap (t8 + (1 : Int)), ())))), ())))))))
 (K (.exit 0) (spec_GetNum_x0_1)) := by kernel_rfl
theorem spec_GetNum_e0_0 (x0 : List Int) (x1 : Int) (d0 : Int) (d1 : Int) (d2 : Bool) : spec_GetNum_K0 x0 x1 .ret (spec_GetNum_x0_0 d0 d1 d2) =
 some ((d0, (d1, (d2, ()))), ((), ((), ()))) := by kernel_rfl
theorem spec_GetNum_e0_1 (x0 : List Int) (x1 : Int) : spec_GetNum_K0 x0 x1 (.exit 0) (spec_GetNum_x0_1) =
 some (((0 : Int), ((0 : Int), (false, ()))), ((), ((), ()))) := by kernel_rfl
/-! spec.l4Num -/
noncomputable def spec_l4Num_b : Code := bd Try.f112
def spec_l4Num_T : List (Nat × Tm) := []
noncomputable def spec_l4Num_E : Env := ⟨tt0, [(130, spec_GetNum_C)]⟩
noncomputable def spec_l4Num_F : PsD [.st tL4Cur] → Option (RsD [.own tI] × PsO [.st tL4Cur]) := fun x => evFn spec_l4Num_E spec_l4Num_T Try.f112 spec_l4Num_b [.st tL4Cur] [.own tI] x
@[reducible] noncomputable def spec_l4Num_C : Ct := ⟨[.st tL4Cur], [.own tI], spec_l4Num_F⟩
theorem spec_l4Num_h (x : PsD [.st tL4Cur]) (y : RsD [.own tI] × PsO [.st tL4Cur]) (h : spec_l4Num_F x = some y) : evFn spec_l4Num_E spec_l4Num_T Try.f112 spec_l4Num_b [.st tL4Cur] [.own tI] x = some y := h
theorem spec_l4Num_c : ∀ f c, get spec_l4Num_E.ct f = some c → Sat Try.prog f c := ct_cons spec_GetNum_S (ct_nil)
theorem spec_l4Num_S : Sat Try.prog 112 spec_l4Num_C := fn_ok2 (envOk _) spec_l4Num_c mixedOk Try.func112 (by kernel_rfl : Try.f112.body = some spec_l4Num_b) (by kernel_rfl) (by kernel_rfl) spec_l4Num_h
noncomputable def spec_l4Num_Ke  (x0 : List Int × Int × Bool × Unit) : Ex → AS → Option (RsD [.own tI] × PsO [.st tL4Cur]) := endK spec_l4Num_E Try.f112 [.st tL4Cur] [.own tI] (initL [.st tL4Cur] (x0, ()) 0).1
theorem spec_l4Num_main (x0 : List Int × Int × Bool × Unit) : spec_l4Num_F (x0, ()) =
 (spec_GetNum_F (x0.1, (x0.2.1, ()))).bind fun y15 =>
 brk (!y15.1.2.2.1)
 (some (((0 : Int), ()), ((x0.1, (x0.2.1, (false, ()))), ())))
 (brk (!x0.2.2.1)
 (some (((0 : Int), ()), ((x0.1, (x0.2.1, (false, ()))), ())))
 (some ((y15.1.1, ()), ((x0.1, (y15.1.2.1, (x0.2.2.1, ()))), ())))) := by kernel_rfl
/-! spec.l5Nums -/
noncomputable def spec_l5Nums_b : Code := bd Try.f111
@[reducible] def spec_l5Nums_t0 : Tm := ⟨[(3, 960000)], [], [(0, .ptr 1000000 0), (3, .own 960000), (4, .sc true tI), (5, .sc true tI)], [(960000, .arr 3 tI), (1000000, .box [.sc true tYs, .sc true tI, .sc true tB])], [3], [960000]⟩
def spec_l5Nums_T : List (Nat × Tm) := [(0, spec_l5Nums_t0)]
noncomputable def spec_l5Nums_E : Env := ⟨tt0, [(112, spec_l4Num_C)]⟩
noncomputable def spec_l5Nums_F : PsD [.st tL4Cur] → Option (RsD [.own tIs] × PsO [.st tL4Cur]) := fun x => evFn spec_l5Nums_E spec_l5Nums_T Try.f111 spec_l5Nums_b [.st tL4Cur] [.own tIs] x
@[reducible] noncomputable def spec_l5Nums_C : Ct := ⟨[.st tL4Cur], [.own tIs], spec_l5Nums_F⟩
theorem spec_l5Nums_h (x : PsD [.st tL4Cur]) (y : RsD [.own tIs] × PsO [.st tL4Cur]) (h : spec_l5Nums_F x = some y) : evFn spec_l5Nums_E spec_l5Nums_T Try.f111 spec_l5Nums_b [.st tL4Cur] [.own tIs] x = some y := h
theorem spec_l5Nums_c : ∀ f c, get spec_l5Nums_E.ct f = some c → Sat Try.prog f c := ct_cons spec_l4Num_S (ct_nil)
theorem spec_l5Nums_S : Sat Try.prog 111 spec_l5Nums_C := fn_ok2 (envOk _) spec_l5Nums_c mixedOk Try.func111 (by kernel_rfl : Try.f111.body = some spec_l5Nums_b) (by kernel_rfl) (by kernel_rfl) spec_l5Nums_h
noncomputable def spec_l5Nums_Ke  (x0 : List Int × Int × Bool × Unit) : Ex → AS → Option (RsD [.own tIs] × PsO [.st tL4Cur]) := endK spec_l5Nums_E Try.f111 [.st tL4Cur] [.own tIs] (initL [.st tL4Cur] (x0, ()) 0).1
noncomputable def spec_l5Nums_B0 {R : Type} : AS → (Ex → AS → Option R) → Option R := fun A K => ev spec_l5Nums_E spec_l5Nums_T 0 (cA (cA (cB (cA (cB (cB (cB spec_l5Nums_b))))))) A K
noncomputable def spec_l5Nums_K0  (x0 : List Int × Int × Bool × Unit) : Ex → AS → Option (RsD [.own tIs] × PsO [.st tL4Cur]) := kBlk 0 (kSeq (fun A K => ev spec_l5Nums_E spec_l5Nums_T 1000 (cB (cB (cB (cB spec_l5Nums_b)))) A K) (spec_l5Nums_Ke x0))
noncomputable def spec_l5Nums_x0_0 (d0 : List Int) (d1 : List Int) (d2 : Int) (d3 : Bool) : AS := ⟨[(3, .v (.one (.own 960000)))], [(960000, .arr 3 tI d0), (1000000, .box [.d true tYs d1, .d true tI d2, .d true tB d3])]⟩
theorem spec_l5Nums_l0 {R : Type} {K : Ex → AS → Option R} {s : spec_l5Nums_t0.D} (n : Nat) {v : Option R} (h : iterG spec_l5Nums_t0 spec_l5Nums_B0 K n s = v) (hv : ∃ r, v = some r) : loopG spec_l5Nums_t0 spec_l5Nums_B0 K s = v := loop_eq (ev_mono _ _) n h hv
theorem spec_l5Nums_main (x0 : List Int × Int × Bool × Unit) : spec_l5Nums_F (x0, ()) =
 (spec_l4Num_F ((x0.1, (x0.2.1, (x0.2.2.1, ()))), ())).bind fun y9 =>
 loopG spec_l5Nums_t0 spec_l5Nums_B0 (spec_l5Nums_K0 x0) ((y9.1.1, ((0 : Int), ())), (([] : List Int), ((y9.2.1.1, (y9.2.1.2.1, (y9.2.1.2.2.1, ()))), ()))) := by kernel_rfl
theorem spec_l5Nums_r0 {R : Type} (K : Ex → AS → Option R) (n : Nat) (t4 : Int) (t5 : Int) (a960000 : List Int) (b1000000_0 : List Int) (b1000000_1 : Int) (b1000000_2 : Bool) : iterG spec_l5Nums_t0 spec_l5Nums_B0 K (n + 1) ((t4, (t5, ())), (a960000, ((b1000000_0, (b1000000_1, (b1000000_2, ()))), ()))) =
 brk (decide (t5 < t4))
 (brk b1000000_2
 ((spec_l4Num_F ((b1000000_0, (b1000000_1, (b1000000_2, ()))), ())).bind fun y22 =>
 ck (decide ((a960000.length + [y22.1.1].length) * 8 ≤ big47)) (iterG spec_l5Nums_t0 spec_l5Nums_B0 K n ((t4, (IntKind.i64.wrap (t5 + (1 : Int)), ())), (a960000 ++ [y22.1.1], ((y22.2.1.1, (y22.2.1.2.1, (y22.2.1.2.2.1, ()))), ())))))
 (K (.exit 0) (spec_l5Nums_x0_0 a960000 b1000000_0 b1000000_1 b1000000_2)))
 (K (.exit 0) (spec_l5Nums_x0_0 a960000 b1000000_0 b1000000_1 b1000000_2)) := by kernel_rfl
theorem spec_l5Nums_e0_0 (x0 : List Int × Int × Bool × Unit) (d0 : List Int) (d1 : List Int) (d2 : Int) (d3 : Bool) : spec_l5Nums_K0 x0 (.exit 0) (spec_l5Nums_x0_0 d0 d1 d2 d3) =
 some ((d0, ()), ((d1, (d2, (d3, ()))), ())) := by kernel_rfl
/-! spec.MarksOk -/
noncomputable def spec_MarksOk_b : Code := bd Try.f107
@[reducible] def spec_MarksOk_t0 : Tm := ⟨[], [], [(0, .sc true tIs), (3, .sc true tI)], [], [2], []⟩
def spec_MarksOk_T : List (Nat × Tm) := [(0, spec_MarksOk_t0)]
noncomputable def spec_MarksOk_E : Env := ⟨tt0, [(62, spec_l1In_C)]⟩
noncomputable def spec_MarksOk_F : PsD [.ro tIs] → Option (RsD [.own tB] × PsO [.ro tIs]) := fun x => evFn spec_MarksOk_E spec_MarksOk_T Try.f107 spec_MarksOk_b [.ro tIs] [.own tB] x
@[reducible] noncomputable def spec_MarksOk_C : Ct := ⟨[.ro tIs], [.own tB], spec_MarksOk_F⟩
theorem spec_MarksOk_h (x : PsD [.ro tIs]) (y : RsD [.own tB] × PsO [.ro tIs]) (h : spec_MarksOk_F x = some y) : evFn spec_MarksOk_E spec_MarksOk_T Try.f107 spec_MarksOk_b [.ro tIs] [.own tB] x = some y := h
theorem spec_MarksOk_c : ∀ f c, get spec_MarksOk_E.ct f = some c → Sat Try.prog f c := ct_cons spec_l1In_S (ct_nil)
theorem spec_MarksOk_S : Sat Try.prog 107 spec_MarksOk_C := fn_ok2 (envOk _) spec_MarksOk_c mixedOk Try.func107 (by kernel_rfl : Try.f107.body = some spec_MarksOk_b) (by kernel_rfl) (by kernel_rfl) spec_MarksOk_h
noncomputable def spec_MarksOk_Ke  (x0 : List Int) : Ex → AS → Option (RsD [.own tB] × PsO [.ro tIs]) := endK spec_MarksOk_E Try.f107 [.ro tIs] [.own tB] (initL [.ro tIs] (x0, ()) 0).1
noncomputable def spec_MarksOk_B0 {R : Type} : AS → (Ex → AS → Option R) → Option R := fun A K => ev spec_MarksOk_E spec_MarksOk_T 0 (cA (cA (cB (cA (cB spec_MarksOk_b))))) A K
noncomputable def spec_MarksOk_K0  (x0 : List Int) : Ex → AS → Option (RsD [.own tB] × PsO [.ro tIs]) := kBlk 0 (kSeq (fun A K => ev spec_MarksOk_E spec_MarksOk_T 1000 (cB (cB spec_MarksOk_b)) A K) (spec_MarksOk_Ke x0))
noncomputable def spec_MarksOk_x0_0 (d0 : Bool) : AS := ⟨[(2, .v (.one (.d true tB d0)))], []⟩
noncomputable def spec_MarksOk_x0_1 : AS := ⟨[], []⟩
theorem spec_MarksOk_l0 {R : Type} {K : Ex → AS → Option R} {s : spec_MarksOk_t0.D} (n : Nat) {v : Option R} (h : iterG spec_MarksOk_t0 spec_MarksOk_B0 K n s = v) (hv : ∃ r, v = some r) : loopG spec_MarksOk_t0 spec_MarksOk_B0 K s = v := loop_eq (ev_mono _ _) n h hv
theorem spec_MarksOk_main (x0 : List Int) : spec_MarksOk_F (x0, ()) =
 loopG spec_MarksOk_t0 spec_MarksOk_B0 (spec_MarksOk_K0 x0) ((x0, ((0 : Int), ())), ()) := by kernel_rfl
theorem spec_MarksOk_r0 {R : Type} (K : Ex → AS → Option R) (n : Nat) (t0 : List Int) (t3 : Int) : iterG spec_MarksOk_t0 spec_MarksOk_B0 K (n + 1) ((t0, (t3, ())), ()) =
 brk (decide (t3 < (t0.length : Int)))
 (ck (decide (0 ≤ t3) && decide (t3 < t0.length)) ((spec_l1In_F (rdD tI t0 t3, ((0 : Int), ((7 : Int), ())))).bind fun y14 =>
 brk (!y14.1.1)
 (K .ret (spec_MarksOk_x0_0 false))
 (brk (decide ((0 : Int) < t3))
 (ck (decide (0 ≤ IntKind.i64.wrap (t3 - (1 : Int))) && decide (IntKind.i64.wrap (t3 - (1 : Int)) < t0.length)) (ck (decide (0 ≤ t3) && decide (t3 < t0.length)) (brk (decide (rdD tI t0 t3 ≤ rdD tI t0 (IntKind.i64.wrap (t3 - (1 : Int)))))
 (K .ret (spec_MarksOk_x0_0 false))
 (iterG spec_MarksOk_t0 spec_MarksOk_B0 K n ((t0, (IntKind.i64.wrap (t3 + (1 : Int)), ())), ())))))
 (iterG spec_MarksOk_t0 spec_MarksOk_B0 K n ((t0, (IntKind.i64.wrap (t3 + (1 : Int)), ())), ())))))
 (K (.exit 0) (spec_MarksOk_x0_1)) := by kernel_rfl
theorem spec_MarksOk_e0_0 (x0 : List Int) (d0 : Bool) : spec_MarksOk_K0 x0 .ret (spec_MarksOk_x0_0 d0) =
 some ((d0, ()), ((), ())) := by kernel_rfl
theorem spec_MarksOk_e0_1 (x0 : List Int) : spec_MarksOk_K0 x0 (.exit 0) (spec_MarksOk_x0_1) =
 some ((true, ()), ((), ())) := by kernel_rfl
/-! spec.l2Has -/
noncomputable def spec_l2Has_b : Code := bd Try.f126
@[reducible] def spec_l2Has_t0 : Tm := ⟨[], [], [(0, .sc true tIs), (1, .sc true tI), (5, .sc true tI)], [], [4], []⟩
def spec_l2Has_T : List (Nat × Tm) := [(0, spec_l2Has_t0)]
noncomputable def spec_l2Has_E : Env := ⟨tt0, []⟩
noncomputable def spec_l2Has_F : PsD [.ro tIs, .ro tI] → Option (RsD [.own tB] × PsO [.ro tIs, .ro tI]) := fun x => evFn spec_l2Has_E spec_l2Has_T Try.f126 spec_l2Has_b [.ro tIs, .ro tI] [.own tB] x
@[reducible] noncomputable def spec_l2Has_C : Ct := ⟨[.ro tIs, .ro tI], [.own tB], spec_l2Has_F⟩
theorem spec_l2Has_h (x : PsD [.ro tIs, .ro tI]) (y : RsD [.own tB] × PsO [.ro tIs, .ro tI]) (h : spec_l2Has_F x = some y) : evFn spec_l2Has_E spec_l2Has_T Try.f126 spec_l2Has_b [.ro tIs, .ro tI] [.own tB] x = some y := h
theorem spec_l2Has_c : ∀ f c, get spec_l2Has_E.ct f = some c → Sat Try.prog f c := ct_nil
theorem spec_l2Has_S : Sat Try.prog 126 spec_l2Has_C := fn_ok2 (envOk _) spec_l2Has_c mixedOk Try.func126 (by kernel_rfl : Try.f126.body = some spec_l2Has_b) (by kernel_rfl) (by kernel_rfl) spec_l2Has_h
noncomputable def spec_l2Has_Ke  (x0 : List Int) (x1 : Int) : Ex → AS → Option (RsD [.own tB] × PsO [.ro tIs, .ro tI]) := endK spec_l2Has_E Try.f126 [.ro tIs, .ro tI] [.own tB] (initL [.ro tIs, .ro tI] (x0, (x1, ())) 0).1
noncomputable def spec_l2Has_B0 {R : Type} : AS → (Ex → AS → Option R) → Option R := fun A K => ev spec_l2Has_E spec_l2Has_T 0 (cA (cA (cB (cA (cB spec_l2Has_b))))) A K
noncomputable def spec_l2Has_K0  (x0 : List Int) (x1 : Int) : Ex → AS → Option (RsD [.own tB] × PsO [.ro tIs, .ro tI]) := kBlk 0 (kSeq (fun A K => ev spec_l2Has_E spec_l2Has_T 1000 (cB (cB spec_l2Has_b)) A K) (spec_l2Has_Ke x0 x1))
noncomputable def spec_l2Has_x0_0 (d0 : Bool) : AS := ⟨[(4, .v (.one (.d true tB d0)))], []⟩
noncomputable def spec_l2Has_x0_1 : AS := ⟨[], []⟩
theorem spec_l2Has_l0 {R : Type} {K : Ex → AS → Option R} {s : spec_l2Has_t0.D} (n : Nat) {v : Option R} (h : iterG spec_l2Has_t0 spec_l2Has_B0 K n s = v) (hv : ∃ r, v = some r) : loopG spec_l2Has_t0 spec_l2Has_B0 K s = v := loop_eq (ev_mono _ _) n h hv
theorem spec_l2Has_main (x0 : List Int) (x1 : Int) : spec_l2Has_F (x0, (x1, ())) =
 loopG spec_l2Has_t0 spec_l2Has_B0 (spec_l2Has_K0 x0 x1) ((x0, (x1, ((0 : Int), ()))), ()) := by kernel_rfl
theorem spec_l2Has_r0 {R : Type} (K : Ex → AS → Option R) (n : Nat) (t0 : List Int) (t1 : Int) (t5 : Int) : iterG spec_l2Has_t0 spec_l2Has_B0 K (n + 1) ((t0, (t1, (t5, ()))), ()) =
 brk (decide (t5 < (t0.length : Int)))
 (ck (decide (0 ≤ t5) && decide (t5 < t0.length)) (brk (decide (rdD tI t0 t5 = t1))
 (K .ret (spec_l2Has_x0_0 true))
 (iterG spec_l2Has_t0 spec_l2Has_B0 K n ((t0, (t1, (IntKind.i64.wrap (t5 + (1 : Int)), ()))), ()))))
 (K (.exit 0) (spec_l2Has_x0_1)) := by kernel_rfl
theorem spec_l2Has_e0_0 (x0 : List Int) (x1 : Int) (d0 : Bool) : spec_l2Has_K0 x0 x1 .ret (spec_l2Has_x0_0 d0) =
 some ((d0, ()), ((), ((), ()))) := by kernel_rfl
theorem spec_l2Has_e0_1 (x0 : List Int) (x1 : Int) : spec_l2Has_K0 x0 x1 (.exit 0) (spec_l2Has_x0_1) =
 some ((false, ()), ((), ((), ()))) := by kernel_rfl
/-! spec.GensOk -/
noncomputable def spec_GensOk_b : Code := bd Try.f108
@[reducible] def spec_GensOk_t0 : Tm := ⟨[], [], [(0, .sc true tIs), (3, .sc true tI)], [], [0, 2], []⟩
def spec_GensOk_T : List (Nat × Tm) := [(0, spec_GensOk_t0)]
noncomputable def spec_GensOk_E : Env := ⟨tt0, [(62, spec_l1In_C), (126, spec_l2Has_C)]⟩
noncomputable def spec_GensOk_F : PsD [.ro tIs] → Option (RsD [.own tB] × PsO [.ro tIs]) := fun x => evFn spec_GensOk_E spec_GensOk_T Try.f108 spec_GensOk_b [.ro tIs] [.own tB] x
@[reducible] noncomputable def spec_GensOk_C : Ct := ⟨[.ro tIs], [.own tB], spec_GensOk_F⟩
theorem spec_GensOk_h (x : PsD [.ro tIs]) (y : RsD [.own tB] × PsO [.ro tIs]) (h : spec_GensOk_F x = some y) : evFn spec_GensOk_E spec_GensOk_T Try.f108 spec_GensOk_b [.ro tIs] [.own tB] x = some y := h
theorem spec_GensOk_c : ∀ f c, get spec_GensOk_E.ct f = some c → Sat Try.prog f c := ct_cons spec_l1In_S (ct_cons spec_l2Has_S (ct_nil))
theorem spec_GensOk_S : Sat Try.prog 108 spec_GensOk_C := fn_ok2 (envOk _) spec_GensOk_c mixedOk Try.func108 (by kernel_rfl : Try.f108.body = some spec_GensOk_b) (by kernel_rfl) (by kernel_rfl) spec_GensOk_h
noncomputable def spec_GensOk_Ke  (x0 : List Int) : Ex → AS → Option (RsD [.own tB] × PsO [.ro tIs]) := endK spec_GensOk_E Try.f108 [.ro tIs] [.own tB] (initL [.ro tIs] (x0, ()) 0).1
noncomputable def spec_GensOk_B0 {R : Type} : AS → (Ex → AS → Option R) → Option R := fun A K => ev spec_GensOk_E spec_GensOk_T 0 (cA (cA (cB (cA (cB spec_GensOk_b))))) A K
noncomputable def spec_GensOk_K0  (x0 : List Int) : Ex → AS → Option (RsD [.own tB] × PsO [.ro tIs]) := kBlk 0 (kSeq (fun A K => ev spec_GensOk_E spec_GensOk_T 1000 (cB (cB spec_GensOk_b)) A K) (spec_GensOk_Ke x0))
noncomputable def spec_GensOk_x0_0 (d0 : List Int) (d1 : Bool) : AS := ⟨[(0, .v (.one (.d true tIs d0))), (2, .v (.one (.d true tB d1)))], []⟩
noncomputable def spec_GensOk_x0_1 (d0 : List Int) : AS := ⟨[(0, .v (.one (.d true tIs d0)))], []⟩
theorem spec_GensOk_l0 {R : Type} {K : Ex → AS → Option R} {s : spec_GensOk_t0.D} (n : Nat) {v : Option R} (h : iterG spec_GensOk_t0 spec_GensOk_B0 K n s = v) (hv : ∃ r, v = some r) : loopG spec_GensOk_t0 spec_GensOk_B0 K s = v := loop_eq (ev_mono _ _) n h hv
theorem spec_GensOk_main (x0 : List Int) : spec_GensOk_F (x0, ()) =
 loopG spec_GensOk_t0 spec_GensOk_B0 (spec_GensOk_K0 x0) ((x0, ((0 : Int), ())), ()) := by kernel_rfl
theorem spec_GensOk_r0 {R : Type} (K : Ex → AS → Option R) (n : Nat) (t0 : List Int) (t3 : Int) : iterG spec_GensOk_t0 spec_GensOk_B0 K (n + 1) ((t0, (t3, ())), ()) =
 brk (decide (t3 < (t0.length : Int)))
 (ck (decide (0 ≤ t3) && decide (t3 < t0.length)) ((spec_l1In_F (rdD tI t0 t3, ((1 : Int), ((100000 : Int), ())))).bind fun y14 =>
 brk (!y14.1.1)
 (K .ret (spec_GensOk_x0_0 t0 false))
 (ck (decide (0 ≤ (0 : Int)) && decide ((0 : Int) ≤ t3) && decide (t3 ≤ t0.length)) (ck (decide (0 ≤ t3) && decide (t3 < t0.length)) ((spec_l2Has_F ((t0.take t3.toNat).drop (0 : Int).toNat, (rdD tI t0 t3, ()))).bind fun y24 =>
 brk y24.1.1
 (K .ret (spec_GensOk_x0_0 t0 false))
 (iterG spec_GensOk_t0 spec_GensOk_B0 K n ((t0, (IntKind.i64.wrap (t3 + (1 : Int)), ())), ())))))))
 (K (.exit 0) (spec_GensOk_x0_1 t0)) := by kernel_rfl
theorem spec_GensOk_e0_0 (x0 : List Int) (d0 : List Int) (d1 : Bool) : spec_GensOk_K0 x0 .ret (spec_GensOk_x0_0 d0 d1) =
 some ((d1, ()), ((), ())) := by kernel_rfl
theorem spec_GensOk_e0_1 (x0 : List Int) (d0 : List Int) : spec_GensOk_K0 x0 (.exit 0) (spec_GensOk_x0_1 d0) =
 some ((decide ((d0.length : Int) ≤ (12 : Int)), ()), ((), ())) := by kernel_rfl
/-! spec.MetaOk -/
noncomputable def spec_MetaOk_b : Code := bd Try.f57
@[reducible] def spec_MetaOk_t0 : Tm := ⟨[], [], [(1, .ptr 16 0), (3, .sc true tI)], [(16, .box [.sc true tIs, .sc true tIss, .sc true tB, .sc true tB, .sc true tB, .sc true tI])], [1, 2, 22, 23, 24, 25, 28, 29, 30, 31, 34, 35, 36, 39, 40, 41, 42, 43, 44, 45], [16]⟩
def spec_MetaOk_T : List (Nat × Tm) := [(0, spec_MetaOk_t0)]
noncomputable def spec_MetaOk_E : Env := ⟨tt0, [(62, spec_l1In_C), (107, spec_MarksOk_C), (108, spec_GensOk_C)]⟩
noncomputable def spec_MetaOk_F : PsD [.ro tMeta] → Option (RsD [.own tB] × PsO [.ro tMeta]) := fun x => evFn spec_MetaOk_E spec_MetaOk_T Try.f57 spec_MetaOk_b [.ro tMeta] [.own tB] x
@[reducible] noncomputable def spec_MetaOk_C : Ct := ⟨[.ro tMeta], [.own tB], spec_MetaOk_F⟩
theorem spec_MetaOk_h (x : PsD [.ro tMeta]) (y : RsD [.own tB] × PsO [.ro tMeta]) (h : spec_MetaOk_F x = some y) : evFn spec_MetaOk_E spec_MetaOk_T Try.f57 spec_MetaOk_b [.ro tMeta] [.own tB] x = some y := h
theorem spec_MetaOk_c : ∀ f c, get spec_MetaOk_E.ct f = some c → Sat Try.prog f c := ct_cons spec_l1In_S (ct_cons spec_MarksOk_S (ct_cons spec_GensOk_S (ct_nil)))
theorem spec_MetaOk_S : Sat Try.prog 57 spec_MetaOk_C := fn_ok2 (envOk _) spec_MetaOk_c mixedOk Try.func57 (by kernel_rfl : Try.f57.body = some spec_MetaOk_b) (by kernel_rfl) (by kernel_rfl) spec_MetaOk_h
noncomputable def spec_MetaOk_Ke  (x0 : List Int × List (List Int) × Bool × Bool × Bool × Int × Unit) : Ex → AS → Option (RsD [.own tB] × PsO [.ro tMeta]) := endK spec_MetaOk_E Try.f57 [.ro tMeta] [.own tB] (initL [.ro tMeta] (x0, ()) 0).1
noncomputable def spec_MetaOk_B0 {R : Type} : AS → (Ex → AS → Option R) → Option R := fun A K => ev spec_MetaOk_E spec_MetaOk_T 0 (cA (cA (cB (cA (cB spec_MetaOk_b))))) A K
noncomputable def spec_MetaOk_K0  (x0 : List Int × List (List Int) × Bool × Bool × Bool × Int × Unit) : Ex → AS → Option (RsD [.own tB] × PsO [.ro tMeta]) := kBlk 0 (kSeq (fun A K => ev spec_MetaOk_E spec_MetaOk_T 1000 (cB (cB spec_MetaOk_b)) A K) (spec_MetaOk_Ke x0))
noncomputable def spec_MetaOk_x0_0 (d0 : Bool) (d1 : List Int) (d2 : List (List Int)) (d3 : Bool) (d4 : Bool) (d5 : Bool) (d6 : Int) : AS := ⟨[(1, .v (.one (.bptr 16 0))), (2, .v (.one (.d true tB d0)))], [(16, .box [.d true tIs d1, .d true tIss d2, .d true tB d3, .d true tB d4, .d true tB d5, .d true tI d6])]⟩
noncomputable def spec_MetaOk_x0_1 (d0 : List Int) (d1 : List (List Int)) (d2 : Bool) (d3 : Bool) (d4 : Bool) (d5 : Int) : AS := ⟨[(1, .v (.one (.bptr 16 0)))], [(16, .box [.d true tIs d0, .d true tIss d1, .d true tB d2, .d true tB d3, .d true tB d4, .d true tI d5])]⟩
theorem spec_MetaOk_l0 {R : Type} {K : Ex → AS → Option R} {s : spec_MetaOk_t0.D} (n : Nat) {v : Option R} (h : iterG spec_MetaOk_t0 spec_MetaOk_B0 K n s = v) (hv : ∃ r, v = some r) : loopG spec_MetaOk_t0 spec_MetaOk_B0 K s = v := loop_eq (ev_mono _ _) n h hv
theorem spec_MetaOk_main (x0 : List Int × List (List Int) × Bool × Bool × Bool × Int × Unit) : spec_MetaOk_F (x0, ()) =
 loopG spec_MetaOk_t0 spec_MetaOk_B0 (spec_MetaOk_K0 x0) (((0 : Int), ()), ((x0.1, (x0.2.1, (x0.2.2.1, (x0.2.2.2.1, (x0.2.2.2.2.1, (x0.2.2.2.2.2.1, ())))))), ())) := by kernel_rfl
theorem spec_MetaOk_r0 {R : Type} (K : Ex → AS → Option R) (n : Nat) (t3 : Int) (b16_0 : List Int) (b16_1 : List (List Int)) (b16_2 : Bool) (b16_3 : Bool) (b16_4 : Bool) (b16_5 : Int) : iterG spec_MetaOk_t0 spec_MetaOk_B0 K (n + 1) ((t3, ()), ((b16_0, (b16_1, (b16_2, (b16_3, (b16_4, (b16_5, ())))))), ())) =
 brk (decide (t3 < (b16_1.length : Int)))
 (ck (decide (0 ≤ t3) && decide (t3 < b16_1.length)) ((spec_MarksOk_F (rdD tIs b16_1 t3, ())).bind fun y16 =>
 brk (!y16.1.1)
 (K .ret (spec_MetaOk_x0_0 false b16_0 b16_1 b16_2 b16_3 b16_4 b16_5))
 (iterG spec_MetaOk_t0 spec_MetaOk_B0 K n ((IntKind.i64.wrap (t3 + (1 : Int)), ()), ((b16_0, (b16_1, (b16_2, (b16_3, (b16_4, (b16_5, ())))))), ())))))
 (K (.exit 0) (spec_MetaOk_x0_1 b16_0 b16_1 b16_2 b16_3 b16_4 b16_5)) := by kernel_rfl
theorem spec_MetaOk_e0_0 (x0 : List Int × List (List Int) × Bool × Bool × Bool × Int × Unit) (d0 : Bool) (d1 : List Int) (d2 : List (List Int)) (d3 : Bool) (d4 : Bool) (d5 : Bool) (d6 : Int) : spec_MetaOk_K0 x0 .ret (spec_MetaOk_x0_0 d0 d1 d2 d3 d4 d5 d6) =
 some ((d0, ()), ((), ())) := by kernel_rfl
theorem spec_MetaOk_e0_1 (x0 : List Int × List (List Int) × Bool × Bool × Bool × Int × Unit) (d0 : List Int) (d1 : List (List Int)) (d2 : Bool) (d3 : Bool) (d4 : Bool) (d5 : Int) : spec_MetaOk_K0 x0 (.exit 0) (spec_MetaOk_x0_1 d0 d1 d2 d3 d4 d5) =
 (spec_GensOk_F (d0, ())).bind fun y20 =>
 brk y20.1.1
 (brk (decide ((0 : Int) < (d0.length : Int)))
 (brk (decide ((d1.length : Int) = (3 : Int)))
 ((spec_l1In_F (d5, ((0 : Int), ((200 : Int), ())))).bind fun y36 =>
 brk y36.1.1
 (brk d3
 (some ((!d4, ()), ((), ())))
 (some ((true, ()), ((), ()))))
 (some ((false, ()), ((), ()))))
 (some ((false, ()), ((), ()))))
 (some ((false, ()), ((), ()))))
 (some ((false, ()), ((), ()))) := by kernel_rfl
/-! spec.PutNum -/
noncomputable def spec_PutNum_b : Code := bd Try.f131
@[reducible] def spec_PutNum_t0 : Tm := ⟨[(3, 960000)], [], [(0, .sc true tI), (3, .own 960000)], [(960000, .arr 5 tY)], [0, 3], [960000]⟩
def spec_PutNum_T : List (Nat × Tm) := [(0, spec_PutNum_t0)]
noncomputable def spec_PutNum_E : Env := ⟨tt0, [(62, spec_l1In_C)]⟩
noncomputable def spec_PutNum_F : PsD [.ro tI] → Option (RsD [.own tYs] × PsO [.ro tI]) := fun x => evFn spec_PutNum_E spec_PutNum_T Try.f131 spec_PutNum_b [.ro tI] [.own tYs] x
@[reducible] noncomputable def spec_PutNum_C : Ct := ⟨[.ro tI], [.own tYs], spec_PutNum_F⟩
theorem spec_PutNum_h (x : PsD [.ro tI]) (y : RsD [.own tYs] × PsO [.ro tI]) (h : spec_PutNum_F x = some y) : evFn spec_PutNum_E spec_PutNum_T Try.f131 spec_PutNum_b [.ro tI] [.own tYs] x = some y := h
theorem spec_PutNum_c : ∀ f c, get spec_PutNum_E.ct f = some c → Sat Try.prog f c := ct_cons spec_l1In_S (ct_nil)
theorem spec_PutNum_S : Sat Try.prog 131 spec_PutNum_C := fn_ok2 (envOk _) spec_PutNum_c mixedOk Try.func131 (by kernel_rfl : Try.f131.body = some spec_PutNum_b) (by kernel_rfl) (by kernel_rfl) spec_PutNum_h
noncomputable def spec_PutNum_Ke  (x0 : Int) : Ex → AS → Option (RsD [.own tYs] × PsO [.ro tI]) := endK spec_PutNum_E Try.f131 [.ro tI] [.own tYs] (initL [.ro tI] (x0, ()) 0).1
noncomputable def spec_PutNum_B0 {R : Type} : AS → (Ex → AS → Option R) → Option R := fun A K => ev spec_PutNum_E spec_PutNum_T 0 (cA (cA (cA (cB (cB (cB spec_PutNum_b)))))) A K
noncomputable def spec_PutNum_K0  (x0 : Int) : Ex → AS → Option (RsD [.own tYs] × PsO [.ro tI]) := kBlk 0 (kSeq (fun A K => ev spec_PutNum_E spec_PutNum_T 1000 (cB (cB (cB (cB spec_PutNum_b)))) A K) (spec_PutNum_Ke x0))
noncomputable def spec_PutNum_x0_0 (d0 : Int) (d1 : List Int) : AS := ⟨[(0, .v (.one (.d true tI d0))), (3, .v (.one (.own 960000)))], [(960000, .arr 5 tY d1)]⟩
theorem spec_PutNum_l0 {R : Type} {K : Ex → AS → Option R} {s : spec_PutNum_t0.D} (n : Nat) {v : Option R} (h : iterG spec_PutNum_t0 spec_PutNum_B0 K n s = v) (hv : ∃ r, v = some r) : loopG spec_PutNum_t0 spec_PutNum_B0 K s = v := loop_eq (ev_mono _ _) n h hv
theorem spec_PutNum_main (x0 : Int) : spec_PutNum_F (x0, ()) =
 (spec_l1In_F (x0, ((0 : Int), ((2147483647 : Int), ())))).bind fun y6 =>
 brk (!y6.1.1)
 (some ((([] : List Int), ()), ((), ())))
 (loopG spec_PutNum_t0 spec_PutNum_B0 (spec_PutNum_K0 x0) ((x0, ()), (([] : List Int), ()))) := by kernel_rfl
theorem spec_PutNum_r0 {R : Type} (K : Ex → AS → Option R) (n : Nat) (t0 : Int) (a960000 : List Int) : iterG spec_PutNum_t0 spec_PutNum_B0 K (n + 1) ((t0, ()), (a960000, ())) =
 brk (decide ((127 : Int) < t0))
 (ck (decide ((a960000.length + [IntKind.u8.wrap (IntKind.i64.wrap ((t0.tmod (128 : Int)) + (128 : Int)))].length) * 1 ≤ big47)) (iterG spec_PutNum_t0 spec_PutNum_B0 K n ((IntKind.i64.wrap (t0.tdiv (128 : Int)), ()), (a960000 ++ [IntKind.u8.wrap (IntKind.i64.wrap ((t0.tmod (128 : Int)) + (128 : Int)))], ()))))
 (K (.exit 0) (spec_PutNum_x0_0 t0 a960000)) := by kernel_rfl
theorem spec_PutNum_e0_0 (x0 : Int) (d0 : Int) (d1 : List Int) : spec_PutNum_K0 x0 (.exit 0) (spec_PutNum_x0_0 d0 d1) =
 ck (decide ((d1.length + [IntKind.u8.wrap d0].length) * 1 ≤ big47)) (some ((d1 ++ [IntKind.u8.wrap d0], ()), ((), ()))) := by kernel_rfl
/-! spec.l1Bit -/
noncomputable def spec_l1Bit_b : Code := bd Try.f132
def spec_l1Bit_T : List (Nat × Tm) := []
noncomputable def spec_l1Bit_E : Env := ⟨tt0, []⟩
noncomputable def spec_l1Bit_F : PsD [.ro tB] → Option (RsD [.own tI] × PsO [.ro tB]) := fun x => evFn spec_l1Bit_E spec_l1Bit_T Try.f132 spec_l1Bit_b [.ro tB] [.own tI] x
@[reducible] noncomputable def spec_l1Bit_C : Ct := ⟨[.ro tB], [.own tI], spec_l1Bit_F⟩
theorem spec_l1Bit_h (x : PsD [.ro tB]) (y : RsD [.own tI] × PsO [.ro tB]) (h : spec_l1Bit_F x = some y) : evFn spec_l1Bit_E spec_l1Bit_T Try.f132 spec_l1Bit_b [.ro tB] [.own tI] x = some y := h
theorem spec_l1Bit_c : ∀ f c, get spec_l1Bit_E.ct f = some c → Sat Try.prog f c := ct_nil
theorem spec_l1Bit_S : Sat Try.prog 132 spec_l1Bit_C := fn_ok2 (envOk _) spec_l1Bit_c mixedOk Try.func132 (by kernel_rfl : Try.f132.body = some spec_l1Bit_b) (by kernel_rfl) (by kernel_rfl) spec_l1Bit_h
noncomputable def spec_l1Bit_Ke  (x0 : Bool) : Ex → AS → Option (RsD [.own tI] × PsO [.ro tB]) := endK spec_l1Bit_E Try.f132 [.ro tB] [.own tI] (initL [.ro tB] (x0, ()) 0).1
theorem spec_l1Bit_main (x0 : Bool) : spec_l1Bit_F (x0, ()) =
 brk x0
 (some (((1 : Int), ()), ((), ())))
 (some (((0 : Int), ()), ((), ()))) := by kernel_rfl
/-! spec.MetaBytes -/
noncomputable def spec_MetaBytes_b : Code := bd Try.f113
@[reducible] def spec_MetaBytes_t0 : Tm := ⟨[(3, 960000)], [], [(1, .ptr 16 0), (3, .own 960000), (4, .sc true tI)], [(16, .box [.sc true tIs, .sc true tIss, .sc true tB, .sc true tB, .sc true tB, .sc true tI]), (960000, .arr 5 tY)], [1, 3], [16, 960000]⟩
@[reducible] def spec_MetaBytes_t2 : Tm := ⟨[(3, 960600)], [], [(1, .ptr 16 0), (3, .own 960600), (5, .sc true tI)], [(16, .box [.sc true tIs, .sc true tIss, .sc true tB, .sc true tB, .sc true tB, .sc true tI]), (960600, .arr 5 tY)], [1, 3], [16, 960000, 960600]⟩
@[reducible] def spec_MetaBytes_t4 : Tm := ⟨[(3, 961200)], [], [(1, .ptr 16 0), (3, .own 961200), (5, .sc true tI), (6, .sc true tI)], [(16, .box [.sc true tIs, .sc true tIss, .sc true tB, .sc true tB, .sc true tB, .sc true tI]), (961200, .arr 5 tY)], [1, 3, 5], [16, 961200]⟩
def spec_MetaBytes_T : List (Nat × Tm) := [(0, spec_MetaBytes_t0), (2, spec_MetaBytes_t2), (4, spec_MetaBytes_t4)]
noncomputable def spec_MetaBytes_E : Env := ⟨tt0, [(57, spec_MetaOk_C), (131, spec_PutNum_C), (132, spec_l1Bit_C)]⟩
noncomputable def spec_MetaBytes_F : PsD [.ro tMeta] → Option (RsD [.own tYs] × PsO [.ro tMeta]) := fun x => evFn spec_MetaBytes_E spec_MetaBytes_T Try.f113 spec_MetaBytes_b [.ro tMeta] [.own tYs] x
@[reducible] noncomputable def spec_MetaBytes_C : Ct := ⟨[.ro tMeta], [.own tYs], spec_MetaBytes_F⟩
theorem spec_MetaBytes_h (x : PsD [.ro tMeta]) (y : RsD [.own tYs] × PsO [.ro tMeta]) (h : spec_MetaBytes_F x = some y) : evFn spec_MetaBytes_E spec_MetaBytes_T Try.f113 spec_MetaBytes_b [.ro tMeta] [.own tYs] x = some y := h
theorem spec_MetaBytes_c : ∀ f c, get spec_MetaBytes_E.ct f = some c → Sat Try.prog f c := ct_cons spec_MetaOk_S (ct_cons spec_PutNum_S (ct_cons spec_l1Bit_S (ct_nil)))
theorem spec_MetaBytes_S : Sat Try.prog 113 spec_MetaBytes_C := fn_ok2 (envOk _) spec_MetaBytes_c mixedOk Try.func113 (by kernel_rfl : Try.f113.body = some spec_MetaBytes_b) (by kernel_rfl) (by kernel_rfl) spec_MetaBytes_h
noncomputable def spec_MetaBytes_Ke  (x0 : List Int × List (List Int) × Bool × Bool × Bool × Int × Unit) : Ex → AS → Option (RsD [.own tYs] × PsO [.ro tMeta]) := endK spec_MetaBytes_E Try.f113 [.ro tMeta] [.own tYs] (initL [.ro tMeta] (x0, ()) 0).1
noncomputable def spec_MetaBytes_B0 {R : Type} : AS → (Ex → AS → Option R) → Option R := fun A K => ev spec_MetaBytes_E spec_MetaBytes_T 0 (cA (cA (cB (cA (cB (cB (cB spec_MetaBytes_b))))))) A K
noncomputable def spec_MetaBytes_B2 {R : Type} : AS → (Ex → AS → Option R) → Option R := fun A K => ev spec_MetaBytes_E spec_MetaBytes_T 2 (cA (cA (cB (cA (cB (cB (cB (cB spec_MetaBytes_b)))))))) A K
noncomputable def spec_MetaBytes_B4 {R : Type} : AS → (Ex → AS → Option R) → Option R := fun A K => ev spec_MetaBytes_E spec_MetaBytes_T 4 (cA (cA (cB (cB (cA (cA (cB (cA (cA (cB (cA (cB (cB (cB (cB spec_MetaBytes_b))))))))))))))) A K
noncomputable def spec_MetaBytes_K0  (x0 : List Int × List (List Int) × Bool × Bool × Bool × Int × Unit) : Ex → AS → Option (RsD [.own tYs] × PsO [.ro tMeta]) := kBlk 0 (kSeq (fun A K => ev spec_MetaBytes_E spec_MetaBytes_T 1000 (cB (cB (cB (cB spec_MetaBytes_b)))) A K) (spec_MetaBytes_Ke x0))
noncomputable def spec_MetaBytes_K2  (x0 : List Int × List (List Int) × Bool × Bool × Bool × Int × Unit) : Ex → AS → Option (RsD [.own tYs] × PsO [.ro tMeta]) := kBlk 2 (kSeq (fun A K => ev spec_MetaBytes_E spec_MetaBytes_T 1000 (cB (cB (cB (cB (cB spec_MetaBytes_b))))) A K) (spec_MetaBytes_Ke x0))
noncomputable def spec_MetaBytes_K4 {R : Type} (K : Ex → AS → Option R) (n : Nat) : Ex → AS → Option R := kBlk 4 (kBlk 3 (kSeq (fun A K => ev spec_MetaBytes_E spec_MetaBytes_T 2 (cB (cB (cA (cA (cB (cA (cB (cB (cB (cB spec_MetaBytes_b)))))))))) A K) (iterK spec_MetaBytes_t2 K (iterG spec_MetaBytes_t2 spec_MetaBytes_B2 K n))))
noncomputable def spec_MetaBytes_x0_0 (d0 : List Int) (d1 : List (List Int)) (d2 : Bool) (d3 : Bool) (d4 : Bool) (d5 : Int) (d6 : List Int) : AS := ⟨[(1, .v (.one (.bptr 16 0))), (3, .v (.one (.own 960000)))], [(16, .box [.d true tIs d0, .d true tIss d1, .d true tB d2, .d true tB d3, .d true tB d4, .d true tI d5]), (960000, .arr 5 tY d6)]⟩
noncomputable def spec_MetaBytes_x2_0 (d0 : List Int) (d1 : List (List Int)) (d2 : Bool) (d3 : Bool) (d4 : Bool) (d5 : Int) (d6 : List Int) : AS := ⟨[(1, .v (.one (.bptr 16 0))), (3, .v (.one (.own 960600)))], [(16, .box [.d true tIs d0, .d true tIss d1, .d true tB d2, .d true tB d3, .d true tB d4, .d true tI d5]), (960600, .arr 5 tY d6)]⟩
noncomputable def spec_MetaBytes_x4_0 (d0 : Int) (d1 : List Int) (d2 : List (List Int)) (d3 : Bool) (d4 : Bool) (d5 : Bool) (d6 : Int) (d7 : List Int) : AS := ⟨[(1, .v (.one (.bptr 16 0))), (3, .v (.one (.own 961200))), (5, .v (.one (.d true tI d0)))], [(16, .box [.d true tIs d1, .d true tIss d2, .d true tB d3, .d true tB d4, .d true tB d5, .d true tI d6]), (961200, .arr 5 tY d7)]⟩
theorem spec_MetaBytes_l0 {R : Type} {K : Ex → AS → Option R} {s : spec_MetaBytes_t0.D} (n : Nat) {v : Option R} (h : iterG spec_MetaBytes_t0 spec_MetaBytes_B0 K n s = v) (hv : ∃ r, v = some r) : loopG spec_MetaBytes_t0 spec_MetaBytes_B0 K s = v := loop_eq (ev_mono _ _) n h hv
theorem spec_MetaBytes_l2 {R : Type} {K : Ex → AS → Option R} {s : spec_MetaBytes_t2.D} (n : Nat) {v : Option R} (h : iterG spec_MetaBytes_t2 spec_MetaBytes_B2 K n s = v) (hv : ∃ r, v = some r) : loopG spec_MetaBytes_t2 spec_MetaBytes_B2 K s = v := loop_eq (ev_mono _ _) n h hv
theorem spec_MetaBytes_l4 {R : Type} {K : Ex → AS → Option R} {s : spec_MetaBytes_t4.D} (n : Nat) {v : Option R} (h : iterG spec_MetaBytes_t4 spec_MetaBytes_B4 K n s = v) (hv : ∃ r, v = some r) : loopG spec_MetaBytes_t4 spec_MetaBytes_B4 K s = v := loop_eq (ev_mono _ _) n h hv
theorem spec_MetaBytes_main (x0 : List Int × List (List Int) × Bool × Bool × Bool × Int × Unit) : spec_MetaBytes_F (x0, ()) =
 (spec_MetaOk_F ((x0.1, (x0.2.1, (x0.2.2.1, (x0.2.2.2.1, (x0.2.2.2.2.1, (x0.2.2.2.2.2.1, ())))))), ())).bind fun y8 =>
 brk (!y8.1.1)
 (some ((([] : List Int), ()), ((), ())))
 ((spec_PutNum_F ((x0.1.length : Int), ())).bind fun y14 =>
 loopG spec_MetaBytes_t0 spec_MetaBytes_B0 (spec_MetaBytes_K0 x0) (((0 : Int), ()), ((x0.1, (x0.2.1, (x0.2.2.1, (x0.2.2.2.1, (x0.2.2.2.2.1, (x0.2.2.2.2.2.1, ())))))), (y14.1.1, ())))) := by kernel_rfl
theorem spec_MetaBytes_r0 {R : Type} (K : Ex → AS → Option R) (n : Nat) (t4 : Int) (b16_0 : List Int) (b16_1 : List (List Int)) (b16_2 : Bool) (b16_3 : Bool) (b16_4 : Bool) (b16_5 : Int) (a960000 : List Int) : iterG spec_MetaBytes_t0 spec_MetaBytes_B0 K (n + 1) ((t4, ()), ((b16_0, (b16_1, (b16_2, (b16_3, (b16_4, (b16_5, ())))))), (a960000, ()))) =
 brk (decide (t4 < (b16_0.length : Int)))
 (ck (decide (0 ≤ t4) && decide (t4 < b16_0.length)) ((spec_PutNum_F (rdD tI b16_0 t4, ())).bind fun y28 =>
 ck (decide ((a960000.length + y28.1.1.length) * 1 ≤ big47)) (iterG spec_MetaBytes_t0 spec_MetaBytes_B0 K n ((IntKind.i64.wrap (t4 + (1 : Int)), ()), ((b16_0, (b16_1, (b16_2, (b16_3, (b16_4, (b16_5, ())))))), (a960000 ++ y28.1.1, ()))))))
 (K (.exit 0) (spec_MetaBytes_x0_0 b16_0 b16_1 b16_2 b16_3 b16_4 b16_5 a960000)) := by kernel_rfl
theorem spec_MetaBytes_e0_0 (x0 : List Int × List (List Int) × Bool × Bool × Bool × Int × Unit) (d0 : List Int) (d1 : List (List Int)) (d2 : Bool) (d3 : Bool) (d4 : Bool) (d5 : Int) (d6 : List Int) : spec_MetaBytes_K0 x0 (.exit 0) (spec_MetaBytes_x0_0 d0 d1 d2 d3 d4 d5 d6) =
 loopG spec_MetaBytes_t2 spec_MetaBytes_B2 (spec_MetaBytes_K2 x0) (((0 : Int), ()), ((d0, (d1, (d2, (d3, (d4, (d5, ())))))), (d6, ()))) := by kernel_rfl
theorem spec_MetaBytes_r2 {R : Type} (K : Ex → AS → Option R) (n : Nat) (t5 : Int) (b16_0 : List Int) (b16_1 : List (List Int)) (b16_2 : Bool) (b16_3 : Bool) (b16_4 : Bool) (b16_5 : Int) (a960600 : List Int) : iterG spec_MetaBytes_t2 spec_MetaBytes_B2 K (n + 1) ((t5, ()), ((b16_0, (b16_1, (b16_2, (b16_3, (b16_4, (b16_5, ())))))), (a960600, ()))) =
 brk (decide (t5 < (3 : Int)))
 (ck (decide (0 ≤ t5) && decide (t5 < b16_1.length)) ((spec_PutNum_F (((rdD tIs b16_1 t5).length : Int), ())).bind fun y41 =>
 ck (decide ((a960600.length + y41.1.1.length) * 1 ≤ big47)) (loopG spec_MetaBytes_t4 spec_MetaBytes_B4 (spec_MetaBytes_K4 K n) ((t5, ((0 : Int), ())), ((b16_0, (b16_1, (b16_2, (b16_3, (b16_4, (b16_5, ())))))), (a960600 ++ y41.1.1, ()))))))
 (K (.exit 2) (spec_MetaBytes_x2_0 b16_0 b16_1 b16_2 b16_3 b16_4 b16_5 a960600)) := by kernel_rfl
theorem spec_MetaBytes_r4 {R : Type} (K : Ex → AS → Option R) (n : Nat) (t5 : Int) (t6 : Int) (b16_0 : List Int) (b16_1 : List (List Int)) (b16_2 : Bool) (b16_3 : Bool) (b16_4 : Bool) (b16_5 : Int) (a961200 : List Int) : iterG spec_MetaBytes_t4 spec_MetaBytes_B4 K (n + 1) ((t5, (t6, ())), ((b16_0, (b16_1, (b16_2, (b16_3, (b16_4, (b16_5, ())))))), (a961200, ()))) =
 ck (decide (0 ≤ t5) && decide (t5 < b16_1.length)) (brk (decide (t6 < ((rdD tIs b16_1 t5).length : Int)))
 (ck (decide (0 ≤ t5) && decide (t5 < b16_1.length)) (ck (decide (0 ≤ t6) && decide (t6 < (rdD tIs b16_1 t5).length)) ((spec_PutNum_F (rdD tI (rdD tIs b16_1 t5) t6, ())).bind fun y62 =>
 ck (decide ((a961200.length + y62.1.1.length) * 1 ≤ big47)) (iterG spec_MetaBytes_t4 spec_MetaBytes_B4 K n ((t5, (IntKind.i64.wrap (t6 + (1 : Int)), ())), ((b16_0, (b16_1, (b16_2, (b16_3, (b16_4, (b16_5, ())))))), (a961200 ++ y62.1.1, ())))))))
 (K (.exit 4) (spec_MetaBytes_x4_0 t5 b16_0 b16_1 b16_2 b16_3 b16_4 b16_5 a961200))) := by kernel_rfl
theorem spec_MetaBytes_e2_0 (x0 : List Int × List (List Int) × Bool × Bool × Bool × Int × Unit) (d0 : List Int) (d1 : List (List Int)) (d2 : Bool) (d3 : Bool) (d4 : Bool) (d5 : Int) (d6 : List Int) : spec_MetaBytes_K2 x0 (.exit 2) (spec_MetaBytes_x2_0 d0 d1 d2 d3 d4 d5 d6) =
 (spec_l1Bit_F (d2, ())).bind fun y67 =>
 (spec_l1Bit_F (d3, ())).bind fun y70 =>
 (spec_l1Bit_F (d4, ())).bind fun y75 =>
 (spec_PutNum_F (IntKind.i64.wrap ((IntKind.i64.wrap (y67.1.1 + (IntKind.i64.wrap ((2 : Int) * y70.1.1)))) + (IntKind.i64.wrap ((4 : Int) * y75.1.1))), ())).bind fun y78 =>
 ck (decide ((d6.length + y78.1.1.length) * 1 ≤ big47)) ((spec_PutNum_F (d5, ())).bind fun y83 =>
 ck (decide (((d6 ++ y78.1.1).length + y83.1.1.length) * 1 ≤ big47)) (some (((d6 ++ y78.1.1) ++ y83.1.1, ()), ((), ())))) := by kernel_rfl
theorem spec_MetaBytes_e4_0 {R : Type} (K : Ex → AS → Option R) (n : Nat) (d0 : Int) (d1 : List Int) (d2 : List (List Int)) (d3 : Bool) (d4 : Bool) (d5 : Bool) (d6 : Int) (d7 : List Int) : spec_MetaBytes_K4 K n (.exit 4) (spec_MetaBytes_x4_0 d0 d1 d2 d3 d4 d5 d6 d7) =
 iterG spec_MetaBytes_t2 spec_MetaBytes_B2 K n ((IntKind.i64.wrap (d0 + (1 : Int)), ()), ((d1, (d2, (d3, (d4, (d5, (d6, ())))))), (d7, ()))) := by kernel_rfl
/-! spec.MetaOf -/
noncomputable def spec_MetaOf_b : Code := bd Try.f63
@[reducible] def spec_MetaOf_t0 : Tm := ⟨[], [(80, 1, 960000)], [(0, .sc true tYs), (2, .ptr 32 0), (4, .ptr 176 0), (5, .ptr 80 0), (6, .sc true tI)], [(32, .box [.nil, .nil, .sc true tB, .sc true tB, .sc true tB, .sc true tI]), (80, .box [.own 224, .own 960000, .sc true tB, .sc true tB, .sc true tB, .sc true tI]), (176, .box [.sc true tYs, .sc true tI, .sc true tB]), (224, .arr 3 tI), (960000, .arr 26 tIs)], [0, 2, 4, 5, 51, 52, 53, 54, 55, 56, 59, 60, 61], [32, 80, 176, 224, 960000]⟩
def spec_MetaOf_T : List (Nat × Tm) := [(0, spec_MetaOf_t0)]
noncomputable def spec_MetaOf_E : Env := ⟨tt0, [(111, spec_l5Nums_C), (112, spec_l4Num_C), (113, spec_MetaBytes_C)]⟩
noncomputable def spec_MetaOf_F : PsD [.ro tYs] → Option (RsD [.own tMeta, .own tB] × PsO [.ro tYs]) := fun x => evFn spec_MetaOf_E spec_MetaOf_T Try.f63 spec_MetaOf_b [.ro tYs] [.own tMeta, .own tB] x
@[reducible] noncomputable def spec_MetaOf_C : Ct := ⟨[.ro tYs], [.own tMeta, .own tB], spec_MetaOf_F⟩
theorem spec_MetaOf_h (x : PsD [.ro tYs]) (y : RsD [.own tMeta, .own tB] × PsO [.ro tYs]) (h : spec_MetaOf_F x = some y) : evFn spec_MetaOf_E spec_MetaOf_T Try.f63 spec_MetaOf_b [.ro tYs] [.own tMeta, .own tB] x = some y := h
theorem spec_MetaOf_c : ∀ f c, get spec_MetaOf_E.ct f = some c → Sat Try.prog f c := ct_cons spec_l5Nums_S (ct_cons spec_l4Num_S (ct_cons spec_MetaBytes_S (ct_nil)))
theorem spec_MetaOf_S : Sat Try.prog 63 spec_MetaOf_C := fn_ok2 (envOk _) spec_MetaOf_c mixedOk Try.func63 (by kernel_rfl : Try.f63.body = some spec_MetaOf_b) (by kernel_rfl) (by kernel_rfl) spec_MetaOf_h
noncomputable def spec_MetaOf_Ke  (x0 : List Int) : Ex → AS → Option (RsD [.own tMeta, .own tB] × PsO [.ro tYs]) := endK spec_MetaOf_E Try.f63 [.ro tYs] [.own tMeta, .own tB] (initL [.ro tYs] (x0, ()) 0).1
noncomputable def spec_MetaOf_B0 {R : Type} : AS → (Ex → AS → Option R) → Option R := fun A K => ev spec_MetaOf_E spec_MetaOf_T 0 (cA (cA (cB (cA (cB (cB (cB (cB spec_MetaOf_b)))))))) A K
noncomputable def spec_MetaOf_K0  (x0 : List Int) : Ex → AS → Option (RsD [.own tMeta, .own tB] × PsO [.ro tYs]) := kBlk 0 (kSeq (fun A K => ev spec_MetaOf_E spec_MetaOf_T 1000 (cB (cB (cB (cB (cB spec_MetaOf_b))))) A K) (spec_MetaOf_Ke x0))
noncomputable def spec_MetaOf_x0_0 (d0 : List Int) (d1 : Bool) (d2 : Bool) (d3 : Bool) (d4 : Int) (d5 : Bool) (d6 : Bool) (d7 : Bool) (d8 : Int) (d9 : List Int) (d10 : Int) (d11 : Bool) (d12 : List Int) (d13 : List (List Int)) : AS := ⟨[(0, .v (.one (.d true tYs d0))), (2, .v (.one (.bptr 32 0))), (4, .v (.one (.bptr 176 0))), (5, .v (.one (.bptr 80 0)))], [(32, .box [.nil, .nil, .d true tB d1, .d true tB d2, .d true tB d3, .d true tI d4]), (80, .box [.own 224, .own 960000, .d true tB d5, .d true tB d6, .d true tB d7, .d true tI d8]), (176, .box [.d true tYs d9, .d true tI d10, .d true tB d11]), (224, .arr 3 tI d12), (960000, .arr 26 tIs d13)]⟩
theorem spec_MetaOf_l0 {R : Type} {K : Ex → AS → Option R} {s : spec_MetaOf_t0.D} (n : Nat) {v : Option R} (h : iterG spec_MetaOf_t0 spec_MetaOf_B0 K n s = v) (hv : ∃ r, v = some r) : loopG spec_MetaOf_t0 spec_MetaOf_B0 K s = v := loop_eq (ev_mono _ _) n h hv
theorem spec_MetaOf_main (x0 : List Int) : spec_MetaOf_F (x0, ()) =
 (spec_l5Nums_F ((x0, ((0 : Int), (true, ()))), ())).bind fun y14 =>
 loopG spec_MetaOf_t0 spec_MetaOf_B0 (spec_MetaOf_K0 x0) ((x0, ((0 : Int), ())), ((false, (false, (false, ((0 : Int), ())))), ((false, (false, (false, ((0 : Int), ())))), ((y14.2.1.1, (y14.2.1.2.1, (y14.2.1.2.2.1, ()))), (y14.1.1, (([] : List (List Int)), ())))))) := by kernel_rfl
theorem spec_MetaOf_r0 {R : Type} (K : Ex → AS → Option R) (n : Nat) (t0 : List Int) (t6 : Int) (b32_2 : Bool) (b32_3 : Bool) (b32_4 : Bool) (b32_5 : Int) (b80_2 : Bool) (b80_3 : Bool) (b80_4 : Bool) (b80_5 : Int) (b176_0 : List Int) (b176_1 : Int) (b176_2 : Bool) (a224 : List Int) (a960000 : List (List Int)) : iterG spec_MetaOf_t0 spec_MetaOf_B0 K (n + 1) ((t0, (t6, ())), ((b32_2, (b32_3, (b32_4, (b32_5, ())))), ((b80_2, (b80_3, (b80_4, (b80_5, ())))), ((b176_0, (b176_1, (b176_2, ()))), (a224, (a960000, ())))))) =
 brk (decide (t6 < (3 : Int)))
 ((spec_l5Nums_F ((b176_0, (b176_1, (b176_2, ()))), ())).bind fun y21 =>
 ck (decide ((a960000.length + [y21.1.1].length) * 24 ≤ big47)) (iterG spec_MetaOf_t0 spec_MetaOf_B0 K n ((t0, (IntKind.i64.wrap (t6 + (1 : Int)), ())), ((b32_2, (b32_3, (b32_4, (b32_5, ())))), ((b80_2, (b80_3, (b80_4, (b80_5, ())))), ((y21.2.1.1, (y21.2.1.2.1, (y21.2.1.2.2.1, ()))), (a224, (a960000 ++ [y21.1.1], ()))))))))
 (K (.exit 0) (spec_MetaOf_x0_0 t0 b32_2 b32_3 b32_4 b32_5 b80_2 b80_3 b80_4 b80_5 b176_0 b176_1 b176_2 a224 a960000)) := by kernel_rfl
theorem spec_MetaOf_e0_0 (x0 : List Int) (d0 : List Int) (d1 : Bool) (d2 : Bool) (d3 : Bool) (d4 : Int) (d5 : Bool) (d6 : Bool) (d7 : Bool) (d8 : Int) (d9 : List Int) (d10 : Int) (d11 : Bool) (d12 : List Int) (d13 : List (List Int)) : spec_MetaOf_K0 x0 (.exit 0) (spec_MetaOf_x0_0 d0 d1 d2 d3 d4 d5 d6 d7 d8 d9 d10 d11 d12 d13) =
 (spec_l4Num_F ((d9, (d10, (d11, ()))), ())).bind fun y29 =>
 (spec_l4Num_F ((y29.2.1.1, (y29.2.1.2.1, (y29.2.1.2.2.1, ()))), ())).bind fun y43 =>
 brk (!y43.2.1.2.2.1)
 (some (((([] : List Int), (([] : List (List Int)), (false, (false, (false, ((0 : Int), ())))))), (false, ())), ((), ())))
 ((spec_MetaBytes_F ((d12, (d13, (!decide (andN IntKind.i64 y29.1.1 (1 : Int) = (0 : Int)), (!decide (andN IntKind.i64 y29.1.1 (2 : Int) = (0 : Int)), (!decide (andN IntKind.i64 y29.1.1 (4 : Int) = (0 : Int)), (y43.1.1, ())))))), ())).bind fun y52 =>
 brk (!decide (y52.1.1 = d0))
 (some (((([] : List Int), (([] : List (List Int)), (false, (false, (false, ((0 : Int), ())))))), (false, ())), ((), ())))
 (brk (decide ((d0.length : Int) = (0 : Int)))
 (some (((([] : List Int), (([] : List (List Int)), (false, (false, (false, ((0 : Int), ())))))), (false, ())), ((), ())))
 (some (((d12, (d13, (!decide (andN IntKind.i64 y29.1.1 (1 : Int) = (0 : Int)), (!decide (andN IntKind.i64 y29.1.1 (2 : Int) = (0 : Int)), (!decide (andN IntKind.i64 y29.1.1 (4 : Int) = (0 : Int)), (y43.1.1, ())))))), (true, ())), ((), ()))))) := by kernel_rfl
/-! spec.l4Sum -/
noncomputable def spec_l4Sum_b : Code := bd Try.f114
def spec_l4Sum_T : List (Nat × Tm) := []
noncomputable def spec_l4Sum_E : Env := ⟨tt0, []⟩
noncomputable def spec_l4Sum_F : PsD [.ro tI] → Option (RsD [.own tYs] × PsO [.ro tI]) := fun x => evFn spec_l4Sum_E spec_l4Sum_T Try.f114 spec_l4Sum_b [.ro tI] [.own tYs] x
@[reducible] noncomputable def spec_l4Sum_C : Ct := ⟨[.ro tI], [.own tYs], spec_l4Sum_F⟩
theorem spec_l4Sum_h (x : PsD [.ro tI]) (y : RsD [.own tYs] × PsO [.ro tI]) (h : spec_l4Sum_F x = some y) : evFn spec_l4Sum_E spec_l4Sum_T Try.f114 spec_l4Sum_b [.ro tI] [.own tYs] x = some y := h
theorem spec_l4Sum_c : ∀ f c, get spec_l4Sum_E.ct f = some c → Sat Try.prog f c := ct_nil
theorem spec_l4Sum_S : Sat Try.prog 114 spec_l4Sum_C := fn_ok2 (envOk _) spec_l4Sum_c mixedOk Try.func114 (by kernel_rfl : Try.f114.body = some spec_l4Sum_b) (by kernel_rfl) (by kernel_rfl) spec_l4Sum_h
noncomputable def spec_l4Sum_Ke  (x0 : Int) : Ex → AS → Option (RsD [.own tYs] × PsO [.ro tI]) := endK spec_l4Sum_E Try.f114 [.ro tI] [.own tYs] (initL [.ro tI] (x0, ()) 0).1
theorem spec_l4Sum_main (x0 : Int) : spec_l4Sum_F (x0, ()) =
 some (([IntKind.u8.wrap (andN IntKind.i64 x0 (255 : Int)), IntKind.u8.wrap (andN IntKind.i64 (shrN IntKind.i64 x0 (8 : Int)) (255 : Int)), IntKind.u8.wrap (andN IntKind.i64 (shrN IntKind.i64 x0 (16 : Int)) (255 : Int)), IntKind.u8.wrap (andN IntKind.i64 (shrN IntKind.i64 x0 (24 : Int)) (255 : Int))], ()), ((), ())) := by kernel_rfl
/-! spec.l6Slot -/
noncomputable def spec_l6Slot_b : Code := bd Try.f64
@[reducible] def spec_l6Slot_t0 : Tm := ⟨[(6, 960000)], [], [(1, .sc true tI), (6, .own 960000)], [(960000, .arr 5 tY)], [1, 6], [960000]⟩
def spec_l6Slot_T : List (Nat × Tm) := [(0, spec_l6Slot_t0)]
noncomputable def spec_l6Slot_E : Env := ⟨tt0, [(113, spec_MetaBytes_C), (114, spec_l4Sum_C)]⟩
noncomputable def spec_l6Slot_F : PsD [.ro tMeta, .ro tI] → Option (RsD [.own tYs] × PsO [.ro tMeta, .ro tI]) := fun x => evFn spec_l6Slot_E spec_l6Slot_T Try.f64 spec_l6Slot_b [.ro tMeta, .ro tI] [.own tYs] x
@[reducible] noncomputable def spec_l6Slot_C : Ct := ⟨[.ro tMeta, .ro tI], [.own tYs], spec_l6Slot_F⟩
theorem spec_l6Slot_h (x : PsD [.ro tMeta, .ro tI]) (y : RsD [.own tYs] × PsO [.ro tMeta, .ro tI]) (h : spec_l6Slot_F x = some y) : evFn spec_l6Slot_E spec_l6Slot_T Try.f64 spec_l6Slot_b [.ro tMeta, .ro tI] [.own tYs] x = some y := h
theorem spec_l6Slot_c : ∀ f c, get spec_l6Slot_E.ct f = some c → Sat Try.prog f c := ct_cons spec_MetaBytes_S (ct_cons spec_l4Sum_S (ct_nil))
theorem spec_l6Slot_S : Sat Try.prog 64 spec_l6Slot_C := fn_ok2 (envOk _) spec_l6Slot_c mixedOk Try.func64 (by kernel_rfl : Try.f64.body = some spec_l6Slot_b) (by kernel_rfl) (by kernel_rfl) spec_l6Slot_h
noncomputable def spec_l6Slot_Ke  (x0 : List Int × List (List Int) × Bool × Bool × Bool × Int × Unit) (x1 : Int) : Ex → AS → Option (RsD [.own tYs] × PsO [.ro tMeta, .ro tI]) := endK spec_l6Slot_E Try.f64 [.ro tMeta, .ro tI] [.own tYs] (initL [.ro tMeta, .ro tI] (x0, (x1, ())) 0).1
noncomputable def spec_l6Slot_B0 {R : Type} : AS → (Ex → AS → Option R) → Option R := fun A K => ev spec_l6Slot_E spec_l6Slot_T 0 (cA (cA (cA (cB (cB (cB (cB spec_l6Slot_b))))))) A K
noncomputable def spec_l6Slot_K0  (x0 : List Int × List (List Int) × Bool × Bool × Bool × Int × Unit) (x1 : Int) : Ex → AS → Option (RsD [.own tYs] × PsO [.ro tMeta, .ro tI]) := kBlk 0 (kSeq (fun A K => ev spec_l6Slot_E spec_l6Slot_T 1000 (cB (cB (cB (cB (cB spec_l6Slot_b))))) A K) (spec_l6Slot_Ke x0 x1))
noncomputable def spec_l6Slot_x0_0 (d0 : Int) (d1 : List Int) : AS := ⟨[(1, .v (.one (.d true tI d0))), (6, .v (.one (.own 960000)))], [(960000, .arr 5 tY d1)]⟩
theorem spec_l6Slot_l0 {R : Type} {K : Ex → AS → Option R} {s : spec_l6Slot_t0.D} (n : Nat) {v : Option R} (h : iterG spec_l6Slot_t0 spec_l6Slot_B0 K n s = v) (hv : ∃ r, v = some r) : loopG spec_l6Slot_t0 spec_l6Slot_B0 K s = v := loop_eq (ev_mono _ _) n h hv
theorem spec_l6Slot_main (x0 : List Int × List (List Int) × Bool × Bool × Bool × Int × Unit) (x1 : Int) : spec_l6Slot_F (x0, (x1, ())) =
 (spec_MetaBytes_F ((x0.1, (x0.2.1, (x0.2.2.1, (x0.2.2.2.1, (x0.2.2.2.2.1, (x0.2.2.2.2.2.1, ())))))), ())).bind fun y8 =>
 (spec_l4Sum_F (x1, ())).bind fun y10 =>
 ck (decide ((y10.1.1.length + [IntKind.u8.wrap (y8.1.1.length : Int)].length) * 1 ≤ big47)) (ck (decide (((y10.1.1 ++ [IntKind.u8.wrap (y8.1.1.length : Int)]).length + y8.1.1.length) * 1 ≤ big47)) (loopG spec_l6Slot_t0 spec_l6Slot_B0 (spec_l6Slot_K0 x0 x1) ((x1, ()), ((y10.1.1 ++ [IntKind.u8.wrap (y8.1.1.length : Int)]) ++ y8.1.1, ())))) := by kernel_rfl
theorem spec_l6Slot_r0 {R : Type} (K : Ex → AS → Option R) (n : Nat) (t1 : Int) (a960000 : List Int) : iterG spec_l6Slot_t0 spec_l6Slot_B0 K (n + 1) ((t1, ()), (a960000, ())) =
 brk (decide ((a960000.length : Int) < (156 : Int)))
 (ck (decide ((a960000.length + [(0 : Int)].length) * 1 ≤ big47)) (iterG spec_l6Slot_t0 spec_l6Slot_B0 K n ((t1, ()), (a960000 ++ [(0 : Int)], ()))))
 (K (.exit 0) (spec_l6Slot_x0_0 t1 a960000)) := by kernel_rfl
theorem spec_l6Slot_e0_0 (x0 : List Int × List (List Int) × Bool × Bool × Bool × Int × Unit) (x1 : Int) (d0 : Int) (d1 : List Int) : spec_l6Slot_K0 x0 x1 (.exit 0) (spec_l6Slot_x0_0 d0 d1) =
 (spec_l4Sum_F (d0, ())).bind fun y27 =>
 ck (decide ((d1.length + y27.1.1.length) * 1 ≤ big47)) (some ((d1 ++ y27.1.1, ()), ((), ((), ())))) := by kernel_rfl
/-! spec.SlotOf -/
noncomputable def spec_SlotOf_b : Code := bd Try.f18
def spec_SlotOf_T : List (Nat × Tm) := []
noncomputable def spec_SlotOf_E : Env := ⟨tt0, [(62, spec_l1In_C), (63, spec_MetaOf_C), (64, spec_l6Slot_C)]⟩
noncomputable def spec_SlotOf_F : PsD [.ro tYs] → Option (RsD [.own tMeta, .own tI, .own tB] × PsO [.ro tYs]) := fun x => evFn spec_SlotOf_E spec_SlotOf_T Try.f18 spec_SlotOf_b [.ro tYs] [.own tMeta, .own tI, .own tB] x
@[reducible] noncomputable def spec_SlotOf_C : Ct := ⟨[.ro tYs], [.own tMeta, .own tI, .own tB], spec_SlotOf_F⟩
theorem spec_SlotOf_h (x : PsD [.ro tYs]) (y : RsD [.own tMeta, .own tI, .own tB] × PsO [.ro tYs]) (h : spec_SlotOf_F x = some y) : evFn spec_SlotOf_E spec_SlotOf_T Try.f18 spec_SlotOf_b [.ro tYs] [.own tMeta, .own tI, .own tB] x = some y := h
theorem spec_SlotOf_c : ∀ f c, get spec_SlotOf_E.ct f = some c → Sat Try.prog f c := ct_cons spec_l1In_S (ct_cons spec_MetaOf_S (ct_cons spec_l6Slot_S (ct_nil)))
theorem spec_SlotOf_S : Sat Try.prog 18 spec_SlotOf_C := fn_ok2 (envOk _) spec_SlotOf_c mixedOk Try.func18 (by kernel_rfl : Try.f18.body = some spec_SlotOf_b) (by kernel_rfl) (by kernel_rfl) spec_SlotOf_h
noncomputable def spec_SlotOf_Ke  (x0 : List Int) : Ex → AS → Option (RsD [.own tMeta, .own tI, .own tB] × PsO [.ro tYs]) := endK spec_SlotOf_E Try.f18 [.ro tYs] [.own tMeta, .own tI, .own tB] (initL [.ro tYs] (x0, ()) 0).1
theorem spec_SlotOf_main (x0 : List Int) : spec_SlotOf_F (x0, ()) =
 brk (!decide ((x0.length : Int) = (160 : Int)))
 (some (((([] : List Int), (([] : List (List Int)), (false, (false, (false, ((0 : Int), ())))))), ((0 : Int), (false, ()))), ((), ())))
 (ck (decide (0 ≤ (0 : Int)) && decide ((0 : Int) < x0.length)) (ck (decide (0 ≤ (1 : Int)) && decide ((1 : Int) < x0.length)) (ck (decide (0 ≤ (2 : Int)) && decide ((2 : Int) < x0.length)) (ck (decide (0 ≤ (3 : Int)) && decide ((3 : Int) < x0.length)) (ck (decide (0 ≤ (4 : Int)) && decide ((4 : Int) < x0.length)) ((spec_l1In_F (IntKind.i64.wrap ((IntKind.i64.wrap ((IntKind.i64.wrap ((IntKind.i64.wrap (rdD tY x0 (0 : Int))) + (shlN IntKind.i64 (IntKind.i64.wrap (rdD tY x0 (1 : Int))) (8 : Int)))) + (shlN IntKind.i64 (IntKind.i64.wrap (rdD tY x0 (2 : Int))) (16 : Int)))) + (shlN IntKind.i64 (IntKind.i64.wrap (rdD tY x0 (3 : Int))) (24 : Int))), ((1 : Int), ((1000000 : Int), ())))).bind fun y40 =>
 brk (!y40.1.1)
 (some (((([] : List Int), (([] : List (List Int)), (false, (false, (false, ((0 : Int), ())))))), ((0 : Int), (false, ()))), ((), ())))
 (brk (decide ((151 : Int) < IntKind.i64.wrap (rdD tY x0 (4 : Int))))
 (some (((([] : List Int), (([] : List (List Int)), (false, (false, (false, ((0 : Int), ())))))), ((0 : Int), (false, ()))), ((), ())))
 (ck (decide (0 ≤ (5 : Int)) && decide ((5 : Int) ≤ IntKind.i64.wrap ((5 : Int) + (IntKind.i64.wrap (rdD tY x0 (4 : Int))))) && decide (IntKind.i64.wrap ((5 : Int) + (IntKind.i64.wrap (rdD tY x0 (4 : Int)))) ≤ x0.length)) ((spec_MetaOf_F ((x0.take (IntKind.i64.wrap ((5 : Int) + (IntKind.i64.wrap (rdD tY x0 (4 : Int))))).toNat).drop (5 : Int).toNat, ())).bind fun y52 =>
 brk (!y52.1.2.1)
 (some (((([] : List Int), (([] : List (List Int)), (false, (false, (false, ((0 : Int), ())))))), ((0 : Int), (false, ()))), ((), ())))
 ((spec_l6Slot_F ((y52.1.1.1, (y52.1.1.2.1, (y52.1.1.2.2.1, (y52.1.1.2.2.2.1, (y52.1.1.2.2.2.2.1, (y52.1.1.2.2.2.2.2.1, ())))))), (IntKind.i64.wrap ((IntKind.i64.wrap ((IntKind.i64.wrap ((IntKind.i64.wrap (rdD tY x0 (0 : Int))) + (shlN IntKind.i64 (IntKind.i64.wrap (rdD tY x0 (1 : Int))) (8 : Int)))) + (shlN IntKind.i64 (IntKind.i64.wrap (rdD tY x0 (2 : Int))) (16 : Int)))) + (shlN IntKind.i64 (IntKind.i64.wrap (rdD tY x0 (3 : Int))) (24 : Int))), ()))).bind fun y60 =>
 brk (!decide (y60.1.1 = x0))
 (some (((([] : List Int), (([] : List (List Int)), (false, (false, (false, ((0 : Int), ())))))), ((0 : Int), (false, ()))), ((), ())))
 (some (((y52.1.1.1, (y52.1.1.2.1, (y52.1.1.2.2.1, (y52.1.1.2.2.2.1, (y52.1.1.2.2.2.2.1, (y52.1.1.2.2.2.2.2.1, ())))))), (IntKind.i64.wrap ((IntKind.i64.wrap ((IntKind.i64.wrap ((IntKind.i64.wrap (rdD tY x0 (0 : Int))) + (shlN IntKind.i64 (IntKind.i64.wrap (rdD tY x0 (1 : Int))) (8 : Int)))) + (shlN IntKind.i64 (IntKind.i64.wrap (rdD tY x0 (2 : Int))) (16 : Int)))) + (shlN IntKind.i64 (IntKind.i64.wrap (rdD tY x0 (3 : Int))) (24 : Int))), (true, ()))), ((), ()))))))))))))) := by kernel_rfl
/-! spec.l6Which -/
noncomputable def spec_l6Which_b : Code := bd Try.f58
def spec_l6Which_T : List (Nat × Tm) := []
noncomputable def spec_l6Which_E : Env := ⟨tt0, [(18, spec_SlotOf_C)]⟩
noncomputable def spec_l6Which_F : PsD [.ro tSlots] → Option (RsD [.own tI] × PsO [.ro tSlots]) := fun x => evFn spec_l6Which_E spec_l6Which_T Try.f58 spec_l6Which_b [.ro tSlots] [.own tI] x
@[reducible] noncomputable def spec_l6Which_C : Ct := ⟨[.ro tSlots], [.own tI], spec_l6Which_F⟩
theorem spec_l6Which_h (x : PsD [.ro tSlots]) (y : RsD [.own tI] × PsO [.ro tSlots]) (h : spec_l6Which_F x = some y) : evFn spec_l6Which_E spec_l6Which_T Try.f58 spec_l6Which_b [.ro tSlots] [.own tI] x = some y := h
theorem spec_l6Which_c : ∀ f c, get spec_l6Which_E.ct f = some c → Sat Try.prog f c := ct_cons spec_SlotOf_S (ct_nil)
theorem spec_l6Which_S : Sat Try.prog 58 spec_l6Which_C := fn_ok2 (envOk _) spec_l6Which_c mixedOk Try.func58 (by kernel_rfl : Try.f58.body = some spec_l6Which_b) (by kernel_rfl) (by kernel_rfl) spec_l6Which_h
noncomputable def spec_l6Which_Ke  (x0 : List Int × List Int × Unit) : Ex → AS → Option (RsD [.own tI] × PsO [.ro tSlots]) := endK spec_l6Which_E Try.f58 [.ro tSlots] [.own tI] (initL [.ro tSlots] (x0, ()) 0).1
theorem spec_l6Which_main (x0 : List Int × List Int × Unit) : spec_l6Which_F (x0, ()) =
 (spec_SlotOf_F (x0.1, ())).bind fun y12 =>
 (spec_SlotOf_F (x0.2.1, ())).bind fun y19 =>
 brk y12.1.2.2.1
 (brk (!y19.1.2.2.1)
 (some (((0 : Int), ()), ((), ())))
 (brk (decide (y19.1.2.1 ≤ y12.1.2.1))
 (some (((0 : Int), ()), ((), ())))
 (brk y19.1.2.2.1
 (some (((1 : Int), ()), ((), ())))
 (some (((-1 : Int), ()), ((), ()))))))
 (brk y19.1.2.2.1
 (some (((1 : Int), ()), ((), ())))
 (some (((-1 : Int), ()), ((), ())))) := by kernel_rfl
/-! spec.SlotGet -/
noncomputable def spec_SlotGet_b : Code := bd Try.f27
def spec_SlotGet_T : List (Nat × Tm) := []
noncomputable def spec_SlotGet_E : Env := ⟨tt0, [(18, spec_SlotOf_C), (58, spec_l6Which_C)]⟩
noncomputable def spec_SlotGet_F : PsD [.ro tSlots] → Option (RsD [.own tMeta, .own tI, .own tB] × PsO [.ro tSlots]) := fun x => evFn spec_SlotGet_E spec_SlotGet_T Try.f27 spec_SlotGet_b [.ro tSlots] [.own tMeta, .own tI, .own tB] x
@[reducible] noncomputable def spec_SlotGet_C : Ct := ⟨[.ro tSlots], [.own tMeta, .own tI, .own tB], spec_SlotGet_F⟩
theorem spec_SlotGet_h (x : PsD [.ro tSlots]) (y : RsD [.own tMeta, .own tI, .own tB] × PsO [.ro tSlots]) (h : spec_SlotGet_F x = some y) : evFn spec_SlotGet_E spec_SlotGet_T Try.f27 spec_SlotGet_b [.ro tSlots] [.own tMeta, .own tI, .own tB] x = some y := h
theorem spec_SlotGet_c : ∀ f c, get spec_SlotGet_E.ct f = some c → Sat Try.prog f c := ct_cons spec_SlotOf_S (ct_cons spec_l6Which_S (ct_nil))
theorem spec_SlotGet_S : Sat Try.prog 27 spec_SlotGet_C := fn_ok2 (envOk _) spec_SlotGet_c mixedOk Try.func27 (by kernel_rfl : Try.f27.body = some spec_SlotGet_b) (by kernel_rfl) (by kernel_rfl) spec_SlotGet_h
noncomputable def spec_SlotGet_Ke  (x0 : List Int × List Int × Unit) : Ex → AS → Option (RsD [.own tMeta, .own tI, .own tB] × PsO [.ro tSlots]) := endK spec_SlotGet_E Try.f27 [.ro tSlots] [.own tMeta, .own tI, .own tB] (initL [.ro tSlots] (x0, ()) 0).1
theorem spec_SlotGet_main (x0 : List Int × List Int × Unit) : spec_SlotGet_F (x0, ()) =
 (spec_l6Which_F ((x0.1, (x0.2.1, ())), ())).bind fun y12 =>
 brk (decide (y12.1.1 = (1 : Int)))
 ((spec_SlotOf_F (x0.2.1, ())).bind fun y18 =>
 some (((y18.1.1.1, (y18.1.1.2.1, (y18.1.1.2.2.1, (y18.1.1.2.2.2.1, (y18.1.1.2.2.2.2.1, (y18.1.1.2.2.2.2.2.1, ())))))), (y18.1.2.1, (y18.1.2.2.1, ()))), ((), ())))
 ((spec_SlotOf_F (x0.1, ())).bind fun y18 =>
 some (((y18.1.1.1, (y18.1.1.2.1, (y18.1.1.2.2.1, (y18.1.1.2.2.2.1, (y18.1.1.2.2.2.2.1, (y18.1.1.2.2.2.2.2.1, ())))))), (y18.1.2.1, (y18.1.2.2.1, ()))), ((), ()))) := by kernel_rfl
/-! spec.l6Copy -/
noncomputable def spec_l6Copy_b : Code := bd Try.f56
def spec_l6Copy_T : List (Nat × Tm) := []
noncomputable def spec_l6Copy_E : Env := ⟨tt0, []⟩
noncomputable def spec_l6Copy_F : PsD [.ro tSlots] → Option (RsD [.own tSlots] × PsO [.ro tSlots]) := fun x => evFn spec_l6Copy_E spec_l6Copy_T Try.f56 spec_l6Copy_b [.ro tSlots] [.own tSlots] x
@[reducible] noncomputable def spec_l6Copy_C : Ct := ⟨[.ro tSlots], [.own tSlots], spec_l6Copy_F⟩
theorem spec_l6Copy_h (x : PsD [.ro tSlots]) (y : RsD [.own tSlots] × PsO [.ro tSlots]) (h : spec_l6Copy_F x = some y) : evFn spec_l6Copy_E spec_l6Copy_T Try.f56 spec_l6Copy_b [.ro tSlots] [.own tSlots] x = some y := h
theorem spec_l6Copy_c : ∀ f c, get spec_l6Copy_E.ct f = some c → Sat Try.prog f c := ct_nil
theorem spec_l6Copy_S : Sat Try.prog 56 spec_l6Copy_C := fn_ok2 (envOk _) spec_l6Copy_c mixedOk Try.func56 (by kernel_rfl : Try.f56.body = some spec_l6Copy_b) (by kernel_rfl) (by kernel_rfl) spec_l6Copy_h
noncomputable def spec_l6Copy_Ke  (x0 : List Int × List Int × Unit) : Ex → AS → Option (RsD [.own tSlots] × PsO [.ro tSlots]) := endK spec_l6Copy_E Try.f56 [.ro tSlots] [.own tSlots] (initL [.ro tSlots] (x0, ()) 0).1
theorem spec_l6Copy_main (x0 : List Int × List Int × Unit) : spec_l6Copy_F (x0, ()) =
 both (both (ck (decide ((([] : List Int).length + x0.1.length) * 1 ≤ big47)) (ck (decide ((([] : List Int).length + x0.2.1.length) * 1 ≤ big47)) (some (((([] : List Int) ++ x0.1, (([] : List Int) ++ x0.2.1, ())), ()), ((), ())))))
 (ck (decide ((([] : List Int).length + x0.1.length) * 1 ≤ big47)) (ck (decide ((([] : List Int).length + x0.2.1.length) * 1 ≤ big47)) (some (((([] : List Int) ++ x0.1, (([] : List Int) ++ x0.2.1, ())), ()), ((), ()))))))
 (ck (decide ((([] : List Int).length + x0.1.length) * 1 ≤ big47)) (ck (decide ((([] : List Int).length + x0.2.1.length) * 1 ≤ big47)) (some (((([] : List Int) ++ x0.1, (([] : List Int) ++ x0.2.1, ())), ()), ((), ()))))) := by kernel_rfl
/-! spec.SlotPut -/
noncomputable def spec_SlotPut_b : Code := bd Try.f32
def spec_SlotPut_T : List (Nat × Tm) := []
noncomputable def spec_SlotPut_E : Env := ⟨tt0, [(27, spec_SlotGet_C), (56, spec_l6Copy_C), (57, spec_MetaOk_C), (58, spec_l6Which_C), (64, spec_l6Slot_C)]⟩
noncomputable def spec_SlotPut_F : PsD [.ro tSlots, .ro tMeta] → Option (RsD [.own tSlots] × PsO [.ro tSlots, .ro tMeta]) := fun x => evFn spec_SlotPut_E spec_SlotPut_T Try.f32 spec_SlotPut_b [.ro tSlots, .ro tMeta] [.own tSlots] x
@[reducible] noncomputable def spec_SlotPut_C : Ct := ⟨[.ro tSlots, .ro tMeta], [.own tSlots], spec_SlotPut_F⟩
theorem spec_SlotPut_h (x : PsD [.ro tSlots, .ro tMeta]) (y : RsD [.own tSlots] × PsO [.ro tSlots, .ro tMeta]) (h : spec_SlotPut_F x = some y) : evFn spec_SlotPut_E spec_SlotPut_T Try.f32 spec_SlotPut_b [.ro tSlots, .ro tMeta] [.own tSlots] x = some y := h
theorem spec_SlotPut_c : ∀ f c, get spec_SlotPut_E.ct f = some c → Sat Try.prog f c := ct_cons spec_SlotGet_S (ct_cons spec_l6Copy_S (ct_cons spec_MetaOk_S (ct_cons spec_l6Which_S (ct_cons spec_l6Slot_S (ct_nil)))))
theorem spec_SlotPut_S : Sat Try.prog 32 spec_SlotPut_C := fn_ok2 (envOk _) spec_SlotPut_c mixedOk Try.func32 (by kernel_rfl : Try.f32.body = some spec_SlotPut_b) (by kernel_rfl) (by kernel_rfl) spec_SlotPut_h
noncomputable def spec_SlotPut_Ke  (x0 : List Int × List Int × Unit) (x1 : List Int × List (List Int) × Bool × Bool × Bool × Int × Unit) : Ex → AS → Option (RsD [.own tSlots] × PsO [.ro tSlots, .ro tMeta]) := endK spec_SlotPut_E Try.f32 [.ro tSlots, .ro tMeta] [.own tSlots] (initL [.ro tSlots, .ro tMeta] (x0, (x1, ())) 0).1
theorem spec_SlotPut_main (x0 : List Int × List Int × Unit) (x1 : List Int × List (List Int) × Bool × Bool × Bool × Int × Unit) : spec_SlotPut_F (x0, (x1, ())) =
 (spec_l6Copy_F ((x0.1, (x0.2.1, ())), ())).bind fun y10 =>
 (spec_SlotGet_F ((x0.1, (x0.2.1, ())), ())).bind fun y13 =>
 (spec_MetaOk_F ((x1.1, (x1.2.1, (x1.2.2.1, (x1.2.2.2.1, (x1.2.2.2.2.1, (x1.2.2.2.2.2.1, ())))))), ())).bind fun y18 =>
 brk (!y18.1.1)
 (some (((y10.1.1.1, (y10.1.1.2.1, ())), ()), ((), ((), ()))))
 (brk (decide ((1000000 : Int) ≤ y13.1.2.1))
 (some (((y10.1.1.1, (y10.1.1.2.1, ())), ()), ((), ((), ()))))
 ((spec_l6Which_F ((x0.1, (x0.2.1, ())), ())).bind fun y26 =>
 brk (decide (y26.1.1 = (0 : Int)))
 ((spec_l6Slot_F ((x1.1, (x1.2.1, (x1.2.2.1, (x1.2.2.2.1, (x1.2.2.2.2.1, (x1.2.2.2.2.2.1, ())))))), (IntKind.i64.wrap (y13.1.2.1 + (1 : Int)), ()))).bind fun y31 =>
 some (((y10.1.1.1, (y31.1.1, ())), ()), ((), ((), ()))))
 ((spec_l6Slot_F ((x1.1, (x1.2.1, (x1.2.2.1, (x1.2.2.2.1, (x1.2.2.2.2.1, (x1.2.2.2.2.2.1, ())))))), (IntKind.i64.wrap (y13.1.2.1 + (1 : Int)), ()))).bind fun y36 =>
 some (((y36.1.1, (y10.1.1.2.1, ())), ()), ((), ((), ())))))) := by kernel_rfl
/-! spec.l1Byte -/
noncomputable def spec_l1Byte_b : Code := bd Try.f125
def spec_l1Byte_T : List (Nat × Tm) := []
noncomputable def spec_l1Byte_E : Env := ⟨tt0, []⟩
noncomputable def spec_l1Byte_F : PsD [.st tL1Cur] → Option (RsD [.own tI] × PsO [.st tL1Cur]) := fun x => evFn spec_l1Byte_E spec_l1Byte_T Try.f125 spec_l1Byte_b [.st tL1Cur] [.own tI] x
@[reducible] noncomputable def spec_l1Byte_C : Ct := ⟨[.st tL1Cur], [.own tI], spec_l1Byte_F⟩
theorem spec_l1Byte_h (x : PsD [.st tL1Cur]) (y : RsD [.own tI] × PsO [.st tL1Cur]) (h : spec_l1Byte_F x = some y) : evFn spec_l1Byte_E spec_l1Byte_T Try.f125 spec_l1Byte_b [.st tL1Cur] [.own tI] x = some y := h
theorem spec_l1Byte_c : ∀ f c, get spec_l1Byte_E.ct f = some c → Sat Try.prog f c := ct_nil
theorem spec_l1Byte_S : Sat Try.prog 125 spec_l1Byte_C := fn_ok2 (envOk _) spec_l1Byte_c mixedOk Try.func125 (by kernel_rfl : Try.f125.body = some spec_l1Byte_b) (by kernel_rfl) (by kernel_rfl) spec_l1Byte_h
noncomputable def spec_l1Byte_Ke  (x0 : List Int × Int × Int × Unit) : Ex → AS → Option (RsD [.own tI] × PsO [.st tL1Cur]) := endK spec_l1Byte_E Try.f125 [.st tL1Cur] [.own tI] (initL [.st tL1Cur] (x0, ()) 0).1
theorem spec_l1Byte_main (x0 : List Int × Int × Int × Unit) : spec_l1Byte_F (x0, ()) =
 brk (decide (x0.2.1 < (x0.1.length : Int)))
 (ck (decide (0 ≤ x0.2.1) && decide (x0.2.1 < x0.1.length)) (some ((andN IntKind.i64 (IntKind.i64.wrap ((andN IntKind.i64 (xorN IntKind.i64 (shrN IntKind.i64 (IntKind.i64.wrap ((IntKind.i64.wrap (x0.2.2.1 * (6364136223846793005 : Int))) + (1442695040888963407 : Int))) (33 : Int)) (shrN IntKind.i64 (IntKind.i64.wrap ((IntKind.i64.wrap (x0.2.2.1 * (6364136223846793005 : Int))) + (1442695040888963407 : Int))) (45 : Int))) (255 : Int)) + (IntKind.i64.wrap (rdD tY x0.1 x0.2.1)))) (255 : Int), ()), ((x0.1, (IntKind.i64.wrap (x0.2.1 + (1 : Int)), (IntKind.i64.wrap ((IntKind.i64.wrap (x0.2.2.1 * (6364136223846793005 : Int))) + (1442695040888963407 : Int)), ()))), ()))))
 (some ((andN IntKind.i64 (xorN IntKind.i64 (shrN IntKind.i64 (IntKind.i64.wrap ((IntKind.i64.wrap (x0.2.2.1 * (6364136223846793005 : Int))) + (1442695040888963407 : Int))) (33 : Int)) (shrN IntKind.i64 (IntKind.i64.wrap ((IntKind.i64.wrap (x0.2.2.1 * (6364136223846793005 : Int))) + (1442695040888963407 : Int))) (45 : Int))) (255 : Int), ()), ((x0.1, (x0.2.1, (IntKind.i64.wrap ((IntKind.i64.wrap (x0.2.2.1 * (6364136223846793005 : Int))) + (1442695040888963407 : Int)), ()))), ()))) := by kernel_rfl
/-! spec.l1Below -/
noncomputable def spec_l1Below_b : Code := bd Try.f100
def spec_l1Below_T : List (Nat × Tm) := []
noncomputable def spec_l1Below_E : Env := ⟨tt0, [(125, spec_l1Byte_C)]⟩
noncomputable def spec_l1Below_F : PsD [.st tL1Cur, .ro tI] → Option (RsD [.own tI] × PsO [.st tL1Cur, .ro tI]) := fun x => evFn spec_l1Below_E spec_l1Below_T Try.f100 spec_l1Below_b [.st tL1Cur, .ro tI] [.own tI] x
@[reducible] noncomputable def spec_l1Below_C : Ct := ⟨[.st tL1Cur, .ro tI], [.own tI], spec_l1Below_F⟩
theorem spec_l1Below_h (x : PsD [.st tL1Cur, .ro tI]) (y : RsD [.own tI] × PsO [.st tL1Cur, .ro tI]) (h : spec_l1Below_F x = some y) : evFn spec_l1Below_E spec_l1Below_T Try.f100 spec_l1Below_b [.st tL1Cur, .ro tI] [.own tI] x = some y := h
theorem spec_l1Below_c : ∀ f c, get spec_l1Below_E.ct f = some c → Sat Try.prog f c := ct_cons spec_l1Byte_S (ct_nil)
theorem spec_l1Below_S : Sat Try.prog 100 spec_l1Below_C := fn_ok2 (envOk _) spec_l1Below_c mixedOk Try.func100 (by kernel_rfl : Try.f100.body = some spec_l1Below_b) (by kernel_rfl) (by kernel_rfl) spec_l1Below_h
noncomputable def spec_l1Below_Ke  (x0 : List Int × Int × Int × Unit) (x1 : Int) : Ex → AS → Option (RsD [.own tI] × PsO [.st tL1Cur, .ro tI]) := endK spec_l1Below_E Try.f100 [.st tL1Cur, .ro tI] [.own tI] (initL [.st tL1Cur, .ro tI] (x0, (x1, ())) 0).1
theorem spec_l1Below_main (x0 : List Int × Int × Int × Unit) (x1 : Int) : spec_l1Below_F (x0, (x1, ())) =
 brk (decide (x1 ≤ (0 : Int)))
 (some (((0 : Int), ()), ((x0.1, (x0.2.1, (x0.2.2.1, ()))), ((), ()))))
 (brk (decide (x1 ≤ (256 : Int)))
 ((spec_l1Byte_F ((x0.1, (x0.2.1, (x0.2.2.1, ()))), ())).bind fun y14 =>
 ck (decide (x1 ≠ 0)) (some ((y14.1.1.tmod x1, ()), ((y14.2.1.1, (y14.2.1.2.1, (y14.2.1.2.2.1, ()))), ((), ())))))
 ((spec_l1Byte_F ((x0.1, (x0.2.1, (x0.2.2.1, ()))), ())).bind fun y18 =>
 (spec_l1Byte_F ((y18.2.1.1, (y18.2.1.2.1, (y18.2.1.2.2.1, ()))), ())).bind fun y20 =>
 (spec_l1Byte_F ((y20.2.1.1, (y20.2.1.2.1, (y20.2.1.2.2.1, ()))), ())).bind fun y22 =>
 (spec_l1Byte_F ((y22.2.1.1, (y22.2.1.2.1, (y22.2.1.2.2.1, ()))), ())).bind fun y24 =>
 ck (decide (x1 ≠ 0)) (some (((IntKind.i64.wrap ((IntKind.i64.wrap ((IntKind.i64.wrap ((IntKind.i64.wrap (y18.1.1 * (16777216 : Int))) + (IntKind.i64.wrap (y20.1.1 * (65536 : Int))))) + (IntKind.i64.wrap (y22.1.1 * (256 : Int))))) + y24.1.1)).tmod x1, ()), ((y24.2.1.1, (y24.2.1.2.1, (y24.2.1.2.2.1, ()))), ((), ())))))) := by kernel_rfl
/-! spec.l1Once -/
noncomputable def spec_l1Once_b : Code := bd Try.f75
def spec_l1Once_T : List (Nat × Tm) := []
noncomputable def spec_l1Once_E : Env := ⟨tt0, [(100, spec_l1Below_C)]⟩
noncomputable def spec_l1Once_F : PsD [.st tL1Cur, .ro tI] → Option (RsD [.own tB] × PsO [.st tL1Cur, .ro tI]) := fun x => evFn spec_l1Once_E spec_l1Once_T Try.f75 spec_l1Once_b [.st tL1Cur, .ro tI] [.own tB] x
@[reducible] noncomputable def spec_l1Once_C : Ct := ⟨[.st tL1Cur, .ro tI], [.own tB], spec_l1Once_F⟩
theorem spec_l1Once_h (x : PsD [.st tL1Cur, .ro tI]) (y : RsD [.own tB] × PsO [.st tL1Cur, .ro tI]) (h : spec_l1Once_F x = some y) : evFn spec_l1Once_E spec_l1Once_T Try.f75 spec_l1Once_b [.st tL1Cur, .ro tI] [.own tB] x = some y := h
theorem spec_l1Once_c : ∀ f c, get spec_l1Once_E.ct f = some c → Sat Try.prog f c := ct_cons spec_l1Below_S (ct_nil)
theorem spec_l1Once_S : Sat Try.prog 75 spec_l1Once_C := fn_ok2 (envOk _) spec_l1Once_c mixedOk Try.func75 (by kernel_rfl : Try.f75.body = some spec_l1Once_b) (by kernel_rfl) (by kernel_rfl) spec_l1Once_h
noncomputable def spec_l1Once_Ke  (x0 : List Int × Int × Int × Unit) (x1 : Int) : Ex → AS → Option (RsD [.own tB] × PsO [.st tL1Cur, .ro tI]) := endK spec_l1Once_E Try.f75 [.st tL1Cur, .ro tI] [.own tB] (initL [.st tL1Cur, .ro tI] (x0, (x1, ())) 0).1
theorem spec_l1Once_main (x0 : List Int × Int × Int × Unit) (x1 : Int) : spec_l1Once_F (x0, (x1, ())) =
 (spec_l1Below_F ((x0.1, (x0.2.1, (x0.2.2.1, ()))), (x1, ()))).bind fun y7 =>
 some ((decide (y7.1.1 = (0 : Int)), ()), ((y7.2.1.1, (y7.2.1.2.1, (y7.2.1.2.2.1, ()))), ((), ()))) := by kernel_rfl
/-! spec.MetaNew -/
noncomputable def spec_MetaNew_b : Code := bd Try.f84
def spec_MetaNew_T : List (Nat × Tm) := []
noncomputable def spec_MetaNew_E : Env := ⟨tt0, [(57, spec_MetaOk_C)]⟩
noncomputable def spec_MetaNew_F : PsD [.ro tI] → Option (RsD [.own tMeta] × PsO [.ro tI]) := fun x => evFn spec_MetaNew_E spec_MetaNew_T Try.f84 spec_MetaNew_b [.ro tI] [.own tMeta] x
@[reducible] noncomputable def spec_MetaNew_C : Ct := ⟨[.ro tI], [.own tMeta], spec_MetaNew_F⟩
theorem spec_MetaNew_h (x : PsD [.ro tI]) (y : RsD [.own tMeta] × PsO [.ro tI]) (h : spec_MetaNew_F x = some y) : evFn spec_MetaNew_E spec_MetaNew_T Try.f84 spec_MetaNew_b [.ro tI] [.own tMeta] x = some y := h
theorem spec_MetaNew_c : ∀ f c, get spec_MetaNew_E.ct f = some c → Sat Try.prog f c := ct_cons spec_MetaOk_S (ct_nil)
theorem spec_MetaNew_S : Sat Try.prog 84 spec_MetaNew_C := fn_ok2 (envOk _) spec_MetaNew_c mixedOk Try.func84 (by kernel_rfl : Try.f84.body = some spec_MetaNew_b) (by kernel_rfl) (by kernel_rfl) spec_MetaNew_h
noncomputable def spec_MetaNew_Ke  (x0 : Int) : Ex → AS → Option (RsD [.own tMeta] × PsO [.ro tI]) := endK spec_MetaNew_E Try.f84 [.ro tI] [.own tMeta] (initL [.ro tI] (x0, ()) 0).1
theorem spec_MetaNew_main (x0 : Int) : spec_MetaNew_F (x0, ()) =
 ck (decide (0 ≤ (3 : Int)) && decide ((3 : Int) = (3 : Int)) && decide ((3 : Int) * (24 : Int) ≤ 140737488355328) && decide ((3 : Int) ≤ 140737488355328)) ((spec_MetaOk_F (([x0], (List.replicate (3 : Int).toNat tIs.zero, (true, (false, (false, ((0 : Int), ())))))), ())).bind fun y9 =>
 brk (!y9.1.1)
 (some (((([] : List Int), (([] : List (List Int)), (false, (false, (false, ((0 : Int), ())))))), ()), ((), ())))
 (some ((([x0], (List.replicate (3 : Int).toNat tIs.zero, (true, (false, (false, ((0 : Int), ())))))), ()), ((), ())))) := by kernel_rfl
/-! spec.Mark -/
noncomputable def spec_Mark_b : Code := bd Try.f102
@[reducible] def spec_Mark_t0 : Tm := ⟨[], [], [(0, .sc true tIs), (1, .sc true tI), (5, .sc true tI)], [], [0, 1, 5], []⟩
def spec_Mark_T : List (Nat × Tm) := [(0, spec_Mark_t0)]
noncomputable def spec_Mark_E : Env := ⟨tt0, [(62, spec_l1In_C), (126, spec_l2Has_C)]⟩
noncomputable def spec_Mark_F : PsD [.ro tIs, .ro tI] → Option (RsD [.own tIs] × PsO [.ro tIs, .ro tI]) := fun x => evFn spec_Mark_E spec_Mark_T Try.f102 spec_Mark_b [.ro tIs, .ro tI] [.own tIs] x
@[reducible] noncomputable def spec_Mark_C : Ct := ⟨[.ro tIs, .ro tI], [.own tIs], spec_Mark_F⟩
theorem spec_Mark_h (x : PsD [.ro tIs, .ro tI]) (y : RsD [.own tIs] × PsO [.ro tIs, .ro tI]) (h : spec_Mark_F x = some y) : evFn spec_Mark_E spec_Mark_T Try.f102 spec_Mark_b [.ro tIs, .ro tI] [.own tIs] x = some y := h
theorem spec_Mark_c : ∀ f c, get spec_Mark_E.ct f = some c → Sat Try.prog f c := ct_cons spec_l1In_S (ct_cons spec_l2Has_S (ct_nil))
theorem spec_Mark_S : Sat Try.prog 102 spec_Mark_C := fn_ok2 (envOk _) spec_Mark_c mixedOk Try.func102 (by kernel_rfl : Try.f102.body = some spec_Mark_b) (by kernel_rfl) (by kernel_rfl) spec_Mark_h
noncomputable def spec_Mark_Ke  (x0 : List Int) (x1 : Int) : Ex → AS → Option (RsD [.own tIs] × PsO [.ro tIs, .ro tI]) := endK spec_Mark_E Try.f102 [.ro tIs, .ro tI] [.own tIs] (initL [.ro tIs, .ro tI] (x0, (x1, ())) 0).1
noncomputable def spec_Mark_B0 {R : Type} : AS → (Ex → AS → Option R) → Option R := fun A K => ev spec_Mark_E spec_Mark_T 0 (cA (cA (cA (cB (cB (cB spec_Mark_b)))))) A K
noncomputable def spec_Mark_K0  (x0 : List Int) (x1 : Int) : Ex → AS → Option (RsD [.own tIs] × PsO [.ro tIs, .ro tI]) := kBlk 0 (kSeq (fun A K => ev spec_Mark_E spec_Mark_T 1000 (cB (cB (cB (cB spec_Mark_b)))) A K) (spec_Mark_Ke x0 x1))
noncomputable def spec_Mark_x0_0 (d0 : List Int) (d1 : Int) (d2 : Int) : AS := ⟨[(0, .v (.one (.d true tIs d0))), (1, .v (.one (.d true tI d1))), (5, .v (.one (.d true tI d2)))], []⟩
theorem spec_Mark_l0 {R : Type} {K : Ex → AS → Option R} {s : spec_Mark_t0.D} (n : Nat) {v : Option R} (h : iterG spec_Mark_t0 spec_Mark_B0 K n s = v) (hv : ∃ r, v = some r) : loopG spec_Mark_t0 spec_Mark_B0 K s = v := loop_eq (ev_mono _ _) n h hv
theorem spec_Mark_main (x0 : List Int) (x1 : Int) : spec_Mark_F (x0, (x1, ())) =
 (spec_l2Has_F (x0, (x1, ()))).bind fun y9 =>
 brk y9.1.1
 (ck (decide ((([] : List Int).length + x0.length) * 8 ≤ big47)) (some ((([] : List Int) ++ x0, ()), ((), ((), ())))))
 ((spec_l1In_F (x1, ((0 : Int), ((7 : Int), ())))).bind fun y12 =>
 brk (!y12.1.1)
 (ck (decide ((([] : List Int).length + x0.length) * 8 ≤ big47)) (some ((([] : List Int) ++ x0, ()), ((), ((), ())))))
 (loopG spec_Mark_t0 spec_Mark_B0 (spec_Mark_K0 x0 x1) ((x0, (x1, ((0 : Int), ()))), ()))) := by kernel_rfl
theorem spec_Mark_r0 {R : Type} (K : Ex → AS → Option R) (n : Nat) (t0 : List Int) (t1 : Int) (t5 : Int) : iterG spec_Mark_t0 spec_Mark_B0 K (n + 1) ((t0, (t1, (t5, ()))), ()) =
 brk (decide (t5 < (t0.length : Int)))
 (ck (decide (0 ≤ t5) && decide (t5 < t0.length)) (brk (decide (rdD tI t0 t5 < t1))
 (iterG spec_Mark_t0 spec_Mark_B0 K n ((t0, (t1, (IntKind.i64.wrap (t5 + (1 : Int)), ()))), ()))
 (K (.exit 0) (spec_Mark_x0_0 t0 t1 t5))))
 (K (.exit 0) (spec_Mark_x0_0 t0 t1 t5)) := by kernel_rfl
theorem spec_Mark_e0_0 (x0 : List Int) (x1 : Int) (d0 : List Int) (d1 : Int) (d2 : Int) : spec_Mark_K0 x0 x1 (.exit 0) (spec_Mark_x0_0 d0 d1 d2) =
 ck (decide (0 ≤ (0 : Int)) && decide ((0 : Int) ≤ d2) && decide (d2 ≤ d0.length)) (ck (decide ((([] : List Int).length + ((d0.take d2.toNat).drop (0 : Int).toNat).length) * 8 ≤ big47)) (ck (decide (((([] : List Int) ++ ((d0.take d2.toNat).drop (0 : Int).toNat)).length + [d1].length) * 8 ≤ big47)) (ck (decide (0 ≤ d2) && decide (d2 ≤ (d0.length : Int)) && decide ((d0.length : Int) ≤ d0.length)) (ck (decide ((((([] : List Int) ++ ((d0.take d2.toNat).drop (0 : Int).toNat)) ++ [d1]).length + ((d0.take (d0.length : Int).toNat).drop d2.toNat).length) * 8 ≤ big47)) (some ((((([] : List Int) ++ ((d0.take d2.toNat).drop (0 : Int).toNat)) ++ [d1]) ++ ((d0.take (d0.length : Int).toNat).drop d2.toNat), ()), ((), ((), ())))))))) := by kernel_rfl
/-! spec.l5DrawRight -/
noncomputable def spec_l5DrawRight_b : Code := bd Try.f50
@[reducible] def spec_l5DrawRight_t0 : Tm := ⟨[], [], [(0, .ptr 1000000 0), (2, .ptr 32 0), (3, .ptr 48 0), (4, .sc true tI)], [(32, .box [.nil, .nil, .sc true tB, .sc true tB, .sc true tB, .sc true tI]), (48, .box [.own 208, .own 97, .sc true tB, .sc true tB, .sc true tB, .sc true tI]), (97, .arr 26 tIs), (208, .arr 3 tI), (1000000, .box [.sc true tYs, .sc true tI, .sc true tI])], [0, 2, 3, 47, 48], [32, 48, 97, 208]⟩
@[reducible] def spec_l5DrawRight_t2 : Tm := ⟨[], [], [(0, .ptr 1000000 0), (2, .ptr 32 0), (3, .ptr 48 0), (4, .sc true tI), (5, .sc true tI)], [(32, .box [.nil, .nil, .sc true tB, .sc true tB, .sc true tB, .sc true tI]), (48, .box [.own 208, .own 97, .sc true tB, .sc true tB, .sc true tB, .sc true tI]), (97, .arr 26 tIs), (208, .arr 3 tI), (1000000, .box [.sc true tYs, .sc true tI, .sc true tI])], [0, 2, 3, 4, 47, 48], [32, 48, 97, 208]⟩
def spec_l5DrawRight_T : List (Nat × Tm) := [(0, spec_l5DrawRight_t0), (2, spec_l5DrawRight_t2)]
noncomputable def spec_l5DrawRight_E : Env := ⟨tt0, [(75, spec_l1Once_C), (84, spec_MetaNew_C), (100, spec_l1Below_C), (102, spec_Mark_C)]⟩
noncomputable def spec_l5DrawRight_F : PsD [.st tL1Cur] → Option (RsD [.own tMeta] × PsO [.st tL1Cur]) := fun x => evFn spec_l5DrawRight_E spec_l5DrawRight_T Try.f50 spec_l5DrawRight_b [.st tL1Cur] [.own tMeta] x
@[reducible] noncomputable def spec_l5DrawRight_C : Ct := ⟨[.st tL1Cur], [.own tMeta], spec_l5DrawRight_F⟩
theorem spec_l5DrawRight_h (x : PsD [.st tL1Cur]) (y : RsD [.own tMeta] × PsO [.st tL1Cur]) (h : spec_l5DrawRight_F x = some y) : evFn spec_l5DrawRight_E spec_l5DrawRight_T Try.f50 spec_l5DrawRight_b [.st tL1Cur] [.own tMeta] x = some y := h
theorem spec_l5DrawRight_c : ∀ f c, get spec_l5DrawRight_E.ct f = some c → Sat Try.prog f c := ct_cons spec_l1Once_S (ct_cons spec_MetaNew_S (ct_cons spec_l1Below_S (ct_cons spec_Mark_S (ct_nil))))
theorem spec_l5DrawRight_S : Sat Try.prog 50 spec_l5DrawRight_C := fn_ok2 (envOk _) spec_l5DrawRight_c mixedOk Try.func50 (by kernel_rfl : Try.f50.body = some spec_l5DrawRight_b) (by kernel_rfl) (by kernel_rfl) spec_l5DrawRight_h
noncomputable def spec_l5DrawRight_Ke  (x0 : List Int × Int × Int × Unit) : Ex → AS → Option (RsD [.own tMeta] × PsO [.st tL1Cur]) := endK spec_l5DrawRight_E Try.f50 [.st tL1Cur] [.own tMeta] (initL [.st tL1Cur] (x0, ()) 0).1
noncomputable def spec_l5DrawRight_B0 {R : Type} : AS → (Ex → AS → Option R) → Option R := fun A K => ev spec_l5DrawRight_E spec_l5DrawRight_T 0 (cA (cA (cB (cA (cB (cB (cB spec_l5DrawRight_b))))))) A K
noncomputable def spec_l5DrawRight_B2 {R : Type} : AS → (Ex → AS → Option R) → Option R := fun A K => ev spec_l5DrawRight_E spec_l5DrawRight_T 2 (cA (cA (cB (cA (cA (cB (cA (cA (cB (cA (cB (cB (cB spec_l5DrawRight_b))))))))))))) A K
noncomputable def spec_l5DrawRight_K0  (x0 : List Int × Int × Int × Unit) : Ex → AS → Option (RsD [.own tMeta] × PsO [.st tL1Cur]) := kBlk 0 (kSeq (fun A K => ev spec_l5DrawRight_E spec_l5DrawRight_T 1000 (cB (cB (cB (cB spec_l5DrawRight_b)))) A K) (spec_l5DrawRight_Ke x0))
noncomputable def spec_l5DrawRight_K2 {R : Type} (K : Ex → AS → Option R) (n : Nat) : Ex → AS → Option R := kBlk 2 (kBlk 1 (kSeq (fun A K => ev spec_l5DrawRight_E spec_l5DrawRight_T 0 (cB (cB (cA (cA (cB (cA (cB (cB (cB spec_l5DrawRight_b))))))))) A K) (iterK spec_l5DrawRight_t0 K (iterG spec_l5DrawRight_t0 spec_l5DrawRight_B0 K n))))
noncomputable def spec_l5DrawRight_x0_0 (d0 : Bool) (d1 : Bool) (d2 : Bool) (d3 : Int) (d4 : Bool) (d5 : Bool) (d6 : Bool) (d7 : Int) (d8 : List (List Int)) (d9 : List Int) (d10 : List Int) (d11 : Int) (d12 : Int) : AS := ⟨[(0, .v (.one (.bptr 1000000 0))), (2, .v (.one (.bptr 32 0))), (3, .v (.one (.bptr 48 0)))], [(32, .box [.nil, .nil, .d true tB d0, .d true tB d1, .d true tB d2, .d true tI d3]), (48, .box [.own 208, .own 97, .d true tB d4, .d true tB d5, .d true tB d6, .d true tI d7]), (97, .arr 26 tIs d8), (208, .arr 3 tI d9), (1000000, .box [.d true tYs d10, .d true tI d11, .d true tI d12])]⟩
noncomputable def spec_l5DrawRight_x2_0 (d0 : Int) (d1 : Bool) (d2 : Bool) (d3 : Bool) (d4 : Int) (d5 : Bool) (d6 : Bool) (d7 : Bool) (d8 : Int) (d9 : List (List Int)) (d10 : List Int) (d11 : List Int) (d12 : Int) (d13 : Int) : AS := ⟨[(0, .v (.one (.bptr 1000000 0))), (2, .v (.one (.bptr 32 0))), (3, .v (.one (.bptr 48 0))), (4, .v (.one (.d true tI d0)))], [(32, .box [.nil, .nil, .d true tB d1, .d true tB d2, .d true tB d3, .d true tI d4]), (48, .box [.own 208, .own 97, .d true tB d5, .d true tB d6, .d true tB d7, .d true tI d8]), (97, .arr 26 tIs d9), (208, .arr 3 tI d10), (1000000, .box [.d true tYs d11, .d true tI d12, .d true tI d13])]⟩
theorem spec_l5DrawRight_l0 {R : Type} {K : Ex → AS → Option R} {s : spec_l5DrawRight_t0.D} (n : Nat) {v : Option R} (h : iterG spec_l5DrawRight_t0 spec_l5DrawRight_B0 K n s = v) (hv : ∃ r, v = some r) : loopG spec_l5DrawRight_t0 spec_l5DrawRight_B0 K s = v := loop_eq (ev_mono _ _) n h hv
theorem spec_l5DrawRight_l2 {R : Type} {K : Ex → AS → Option R} {s : spec_l5DrawRight_t2.D} (n : Nat) {v : Option R} (h : iterG spec_l5DrawRight_t2 spec_l5DrawRight_B2 K n s = v) (hv : ∃ r, v = some r) : loopG spec_l5DrawRight_t2 spec_l5DrawRight_B2 K s = v := loop_eq (ev_mono _ _) n h hv
theorem spec_l5DrawRight_main (x0 : List Int × Int × Int × Unit) : spec_l5DrawRight_F (x0, ()) =
 (spec_MetaNew_F ((1 : Int), ())).bind fun y6 =>
 both ((spec_l1Below_F ((x0.1, (x0.2.1, (x0.2.2.1, ()))), ((3 : Int), ()))).bind fun y10 =>
 ck (decide ((y6.1.1.1.length + [IntKind.i64.wrap ((2 : Int) + y10.1.1)].length) * 8 ≤ big47)) (loopG spec_l5DrawRight_t0 spec_l5DrawRight_B0 (spec_l5DrawRight_K0 x0) (((0 : Int), ()), ((false, (false, (false, ((0 : Int), ())))), ((y6.1.1.2.2.1, (y6.1.1.2.2.2.1, (y6.1.1.2.2.2.2.1, (y6.1.1.2.2.2.2.2.1, ())))), (y6.1.1.2.1, (y6.1.1.1 ++ [IntKind.i64.wrap ((2 : Int) + y10.1.1)], ((y10.2.1.1, (y10.2.1.2.1, (y10.2.1.2.2.1, ()))), ()))))))))
 ((spec_l1Below_F ((x0.1, (x0.2.1, (x0.2.2.1, ()))), ((3 : Int), ()))).bind fun y10 =>
 both (ck (decide ((y6.1.1.1.length + [IntKind.i64.wrap ((2 : Int) + y10.1.1)].length) * 8 ≤ big47)) (loopG spec_l5DrawRight_t0 spec_l5DrawRight_B0 (spec_l5DrawRight_K0 x0) (((0 : Int), ()), ((false, (false, (false, ((0 : Int), ())))), ((y6.1.1.2.2.1, (y6.1.1.2.2.2.1, (y6.1.1.2.2.2.2.1, (y6.1.1.2.2.2.2.2.1, ())))), (y6.1.1.2.1, (y6.1.1.1 ++ [IntKind.i64.wrap ((2 : Int) + y10.1.1)], ((y10.2.1.1, (y10.2.1.2.1, (y10.2.1.2.2.1, ()))), ()))))))))
 (both (ck (decide ((y6.1.1.1.length + [IntKind.i64.wrap ((2 : Int) + y10.1.1)].length) * 8 ≤ big47)) (loopG spec_l5DrawRight_t0 spec_l5DrawRight_B0 (spec_l5DrawRight_K0 x0) (((0 : Int), ()), ((false, (false, (false, ((0 : Int), ())))), ((y6.1.1.2.2.1, (y6.1.1.2.2.2.1, (y6.1.1.2.2.2.2.1, (y6.1.1.2.2.2.2.2.1, ())))), (y6.1.1.2.1, (y6.1.1.1 ++ [IntKind.i64.wrap ((2 : Int) + y10.1.1)], ((y10.2.1.1, (y10.2.1.2.1, (y10.2.1.2.2.1, ()))), ()))))))))
 (ck (decide ((y6.1.1.1.length + [IntKind.i64.wrap ((2 : Int) + y10.1.1)].length) * 8 ≤ big47)) (loopG spec_l5DrawRight_t0 spec_l5DrawRight_B0 (spec_l5DrawRight_K0 x0) (((0 : Int), ()), ((false, (false, (false, ((0 : Int), ())))), ((y6.1.1.2.2.1, (y6.1.1.2.2.2.1, (y6.1.1.2.2.2.2.1, (y6.1.1.2.2.2.2.2.1, ())))), (y6.1.1.2.1, (y6.1.1.1 ++ [IntKind.i64.wrap ((2 : Int) + y10.1.1)], ((y10.2.1.1, (y10.2.1.2.1, (y10.2.1.2.2.1, ()))), ())))))))))) := by kernel_rfl
theorem spec_l5DrawRight_r0 {R : Type} (K : Ex → AS → Option R) (n : Nat) (t4 : Int) (b32_2 : Bool) (b32_3 : Bool) (b32_4 : Bool) (b32_5 : Int) (b48_2 : Bool) (b48_3 : Bool) (b48_4 : Bool) (b48_5 : Int) (a97 : List (List Int)) (a208 : List Int) (b1000000_0 : List Int) (b1000000_1 : Int) (b1000000_2 : Int) : iterG spec_l5DrawRight_t0 spec_l5DrawRight_B0 K (n + 1) ((t4, ()), ((b32_2, (b32_3, (b32_4, (b32_5, ())))), ((b48_2, (b48_3, (b48_4, (b48_5, ())))), (a97, (a208, ((b1000000_0, (b1000000_1, (b1000000_2, ()))), ())))))) =
 brk (decide (t4 < (3 : Int)))
 (loopG spec_l5DrawRight_t2 spec_l5DrawRight_B2 (spec_l5DrawRight_K2 K n) ((t4, ((0 : Int), ())), ((b32_2, (b32_3, (b32_4, (b32_5, ())))), ((b48_2, (b48_3, (b48_4, (b48_5, ())))), (a97, (a208, ((b1000000_0, (b1000000_1, (b1000000_2, ()))), ())))))))
 (K (.exit 0) (spec_l5DrawRight_x0_0 b32_2 b32_3 b32_4 b32_5 b48_2 b48_3 b48_4 b48_5 a97 a208 b1000000_0 b1000000_1 b1000000_2)) := by kernel_rfl
theorem spec_l5DrawRight_r2 {R : Type} (K : Ex → AS → Option R) (n : Nat) (t4 : Int) (t5 : Int) (b32_2 : Bool) (b32_3 : Bool) (b32_4 : Bool) (b32_5 : Int) (b48_2 : Bool) (b48_3 : Bool) (b48_4 : Bool) (b48_5 : Int) (a97 : List (List Int)) (a208 : List Int) (b1000000_0 : List Int) (b1000000_1 : Int) (b1000000_2 : Int) : iterG spec_l5DrawRight_t2 spec_l5DrawRight_B2 K (n + 1) ((t4, (t5, ())), ((b32_2, (b32_3, (b32_4, (b32_5, ())))), ((b48_2, (b48_3, (b48_4, (b48_5, ())))), (a97, (a208, ((b1000000_0, (b1000000_1, (b1000000_2, ()))), ())))))) =
 (spec_l1Below_F ((b1000000_0, (b1000000_1, (b1000000_2, ()))), ((3 : Int), ()))).bind fun y21 =>
 brk (decide (t5 < y21.1.1))
 (both (both (both (ck (decide (0 ≤ t4) && decide (t4 < a97.length)) (both ((spec_l1Below_F ((y21.2.1.1, (y21.2.1.2.1, (y21.2.1.2.2.1, ()))), ((8 : Int), ()))).bind fun y34 =>
 (spec_Mark_F (rdD tIs a97 t4, (y34.1.1, ()))).bind fun y35 =>
 ck (decide (0 ≤ t4) && decide (t4 < a97.length)) (iterG spec_l5DrawRight_t2 spec_l5DrawRight_B2 K n ((t4, (IntKind.i64.wrap (t5 + (1 : Int)), ())), ((b32_2, (b32_3, (b32_4, (b32_5, ())))), ((b48_2, (b48_3, (b48_4, (b48_5, ())))), (a97.set t4.toNat y35.1.1, (a208, ((y34.2.1.1, (y34.2.1.2.1, (y34.2.1.2.2.1, ()))), ()))))))))
 ((spec_l1Below_F ((y21.2.1.1, (y21.2.1.2.1, (y21.2.1.2.2.1, ()))), ((8 : Int), ()))).bind fun y34 =>
 (spec_Mark_F (rdD tIs a97 t4, (y34.1.1, ()))).bind fun y35 =>
 ck (decide (0 ≤ t4) && decide (t4 < a97.length)) (iterG spec_l5DrawRight_t2 spec_l5DrawRight_B2 K n ((t4, (IntKind.i64.wrap (t5 + (1 : Int)), ())), ((b32_2, (b32_3, (b32_4, (b32_5, ())))), ((b48_2, (b48_3, (b48_4, (b48_5, ())))), (a97.set t4.toNat y35.1.1, (a208, ((y34.2.1.1, (y34.2.1.2.1, (y34.2.1.2.2.1, ()))), ()))))))))))
 ((spec_l1Below_F ((y21.2.1.1, (y21.2.1.2.1, (y21.2.1.2.2.1, ()))), ((8 : Int), ()))).bind fun y34 =>
 ck (decide (0 ≤ t4) && decide (t4 < a97.length)) ((spec_Mark_F (rdD tIs a97 t4, (y34.1.1, ()))).bind fun y35 =>
 ck (decide (0 ≤ t4) && decide (t4 < a97.length)) (iterG spec_l5DrawRight_t2 spec_l5DrawRight_B2 K n ((t4, (IntKind.i64.wrap (t5 + (1 : Int)), ())), ((b32_2, (b32_3, (b32_4, (b32_5, ())))), ((b48_2, (b48_3, (b48_4, (b48_5, ())))), (a97.set t4.toNat y35.1.1, (a208, ((y34.2.1.1, (y34.2.1.2.1, (y34.2.1.2.2.1, ()))), ()))))))))))
 ((spec_l1Below_F ((y21.2.1.1, (y21.2.1.2.1, (y21.2.1.2.2.1, ()))), ((8 : Int), ()))).bind fun y34 =>
 ck (decide (0 ≤ t4) && decide (t4 < a97.length)) ((spec_Mark_F (rdD tIs a97 t4, (y34.1.1, ()))).bind fun y35 =>
 ck (decide (0 ≤ t4) && decide (t4 < a97.length)) (iterG spec_l5DrawRight_t2 spec_l5DrawRight_B2 K n ((t4, (IntKind.i64.wrap (t5 + (1 : Int)), ())), ((b32_2, (b32_3, (b32_4, (b32_5, ())))), ((b48_2, (b48_3, (b48_4, (b48_5, ())))), (a97.set t4.toNat y35.1.1, (a208, ((y34.2.1.1, (y34.2.1.2.1, (y34.2.1.2.2.1, ()))), ()))))))))))
 (both (both (both (ck (decide (0 ≤ t4) && decide (t4 < a97.length)) (both ((spec_l1Below_F ((y21.2.1.1, (y21.2.1.2.1, (y21.2.1.2.2.1, ()))), ((8 : Int), ()))).bind fun y34 =>
 (spec_Mark_F (rdD tIs a97 t4, (y34.1.1, ()))).bind fun y35 =>
 ck (decide (0 ≤ t4) && decide (t4 < a97.length)) (iterG spec_l5DrawRight_t2 spec_l5DrawRight_B2 K n ((t4, (IntKind.i64.wrap (t5 + (1 : Int)), ())), ((b32_2, (b32_3, (b32_4, (b32_5, ())))), ((b48_2, (b48_3, (b48_4, (b48_5, ())))), (a97.set t4.toNat y35.1.1, (a208, ((y34.2.1.1, (y34.2.1.2.1, (y34.2.1.2.2.1, ()))), ()))))))))
 ((spec_l1Below_F ((y21.2.1.1, (y21.2.1.2.1, (y21.2.1.2.2.1, ()))), ((8 : Int), ()))).bind fun y34 =>
 (spec_Mark_F (rdD tIs a97 t4, (y34.1.1, ()))).bind fun y35 =>
 ck (decide (0 ≤ t4) && decide (t4 < a97.length)) (iterG spec_l5DrawRight_t2 spec_l5DrawRight_B2 K n ((t4, (IntKind.i64.wrap (t5 + (1 : Int)), ())), ((b32_2, (b32_3, (b32_4, (b32_5, ())))), ((b48_2, (b48_3, (b48_4, (b48_5, ())))), (a97.set t4.toNat y35.1.1, (a208, ((y34.2.1.1, (y34.2.1.2.1, (y34.2.1.2.2.1, ()))), ()))))))))))
 ((spec_l1Below_F ((y21.2.1.1, (y21.2.1.2.1, (y21.2.1.2.2.1, ()))), ((8 : Int), ()))).bind fun y34 =>
 ck (decide (0 ≤ t4) && decide (t4 < a97.length)) ((spec_Mark_F (rdD tIs a97 t4, (y34.1.1, ()))).bind fun y35 =>
 ck (decide (0 ≤ t4) && decide (t4 < a97.length)) (iterG spec_l5DrawRight_t2 spec_l5DrawRight_B2 K n ((t4, (IntKind.i64.wrap (t5 + (1 : Int)), ())), ((b32_2, (b32_3, (b32_4, (b32_5, ())))), ((b48_2, (b48_3, (b48_4, (b48_5, ())))), (a97.set t4.toNat y35.1.1, (a208, ((y34.2.1.1, (y34.2.1.2.1, (y34.2.1.2.2.1, ()))), ()))))))))))
 (both (ck (decide (0 ≤ t4) && decide (t4 < a97.length)) (both (both ((spec_l1Below_F ((y21.2.1.1, (y21.2.1.2.1, (y21.2.1.2.2.1, ()))), ((8 : Int), ()))).bind fun y34 =>
 (spec_Mark_F (rdD tIs a97 t4, (y34.1.1, ()))).bind fun y35 =>
 ck (decide (0 ≤ t4) && decide (t4 < a97.length)) (iterG spec_l5DrawRight_t2 spec_l5DrawRight_B2 K n ((t4, (IntKind.i64.wrap (t5 + (1 : Int)), ())), ((b32_2, (b32_3, (b32_4, (b32_5, ())))), ((b48_2, (b48_3, (b48_4, (b48_5, ())))), (a97.set t4.toNat y35.1.1, (a208, ((y34.2.1.1, (y34.2.1.2.1, (y34.2.1.2.2.1, ()))), ()))))))))
 ((spec_l1Below_F ((y21.2.1.1, (y21.2.1.2.1, (y21.2.1.2.2.1, ()))), ((8 : Int), ()))).bind fun y34 =>
 (spec_Mark_F (rdD tIs a97 t4, (y34.1.1, ()))).bind fun y35 =>
 ck (decide (0 ≤ t4) && decide (t4 < a97.length)) (iterG spec_l5DrawRight_t2 spec_l5DrawRight_B2 K n ((t4, (IntKind.i64.wrap (t5 + (1 : Int)), ())), ((b32_2, (b32_3, (b32_4, (b32_5, ())))), ((b48_2, (b48_3, (b48_4, (b48_5, ())))), (a97.set t4.toNat y35.1.1, (a208, ((y34.2.1.1, (y34.2.1.2.1, (y34.2.1.2.2.1, ()))), ())))))))))
 (both (both ((spec_l1Below_F ((y21.2.1.1, (y21.2.1.2.1, (y21.2.1.2.2.1, ()))), ((8 : Int), ()))).bind fun y34 =>
 (spec_Mark_F (rdD tIs a97 t4, (y34.1.1, ()))).bind fun y35 =>
 ck (decide (0 ≤ t4) && decide (t4 < a97.length)) (iterG spec_l5DrawRight_t2 spec_l5DrawRight_B2 K n ((t4, (IntKind.i64.wrap (t5 + (1 : Int)), ())), ((b32_2, (b32_3, (b32_4, (b32_5, ())))), ((b48_2, (b48_3, (b48_4, (b48_5, ())))), (a97.set t4.toNat y35.1.1, (a208, ((y34.2.1.1, (y34.2.1.2.1, (y34.2.1.2.2.1, ()))), ()))))))))
 ((spec_l1Below_F ((y21.2.1.1, (y21.2.1.2.1, (y21.2.1.2.2.1, ()))), ((8 : Int), ()))).bind fun y34 =>
 both ((spec_Mark_F (rdD tIs a97 t4, (y34.1.1, ()))).bind fun y35 =>
 ck (decide (0 ≤ t4) && decide (t4 < a97.length)) (iterG spec_l5DrawRight_t2 spec_l5DrawRight_B2 K n ((t4, (IntKind.i64.wrap (t5 + (1 : Int)), ())), ((b32_2, (b32_3, (b32_4, (b32_5, ())))), ((b48_2, (b48_3, (b48_4, (b48_5, ())))), (a97.set t4.toNat y35.1.1, (a208, ((y34.2.1.1, (y34.2.1.2.1, (y34.2.1.2.2.1, ()))), ()))))))))
 ((spec_Mark_F (rdD tIs a97 t4, (y34.1.1, ()))).bind fun y35 =>
 ck (decide (0 ≤ t4) && decide (t4 < a97.length)) (iterG spec_l5DrawRight_t2 spec_l5DrawRight_B2 K n ((t4, (IntKind.i64.wrap (t5 + (1 : Int)), ())), ((b32_2, (b32_3, (b32_4, (b32_5, ())))), ((b48_2, (b48_3, (b48_4, (b48_5, ())))), (a97.set t4.toNat y35.1.1, (a208, ((y34.2.1.1, (y34.2.1.2.1, (y34.2.1.2.2.1, ()))), ()))))))))))
 ((spec_l1Below_F ((y21.2.1.1, (y21.2.1.2.1, (y21.2.1.2.2.1, ()))), ((8 : Int), ()))).bind fun y34 =>
 both ((spec_Mark_F (rdD tIs a97 t4, (y34.1.1, ()))).bind fun y35 =>
 ck (decide (0 ≤ t4) && decide (t4 < a97.length)) (iterG spec_l5DrawRight_t2 spec_l5DrawRight_B2 K n ((t4, (IntKind.i64.wrap (t5 + (1 : Int)), ())), ((b32_2, (b32_3, (b32_4, (b32_5, ())))), ((b48_2, (b48_3, (b48_4, (b48_5, ())))), (a97.set t4.toNat y35.1.1, (a208, ((y34.2.1.1, (y34.2.1.2.1, (y34.2.1.2.2.1, ()))), ()))))))))
 (both ((spec_Mark_F (rdD tIs a97 t4, (y34.1.1, ()))).bind fun y35 =>
 ck (decide (0 ≤ t4) && decide (t4 < a97.length)) (iterG spec_l5DrawRight_t2 spec_l5DrawRight_B2 K n ((t4, (IntKind.i64.wrap (t5 + (1 : Int)), ())), ((b32_2, (b32_3, (b32_4, (b32_5, ())))), ((b48_2, (b48_3, (b48_4, (b48_5, ())))), (a97.set t4.toNat y35.1.1, (a208, ((y34.2.1.1, (y34.2.1.2.1, (y34.2.1.2.2.1, ()))), ()))))))))
 ((spec_Mark_F (rdD tIs a97 t4, (y34.1.1, ()))).bind fun y35 =>
 ck (decide (0 ≤ t4) && decide (t4 < a97.length)) (iterG spec_l5DrawRight_t2 spec_l5DrawRight_B2 K n ((t4, (IntKind.i64.wrap (t5 + (1 : Int)), ())), ((b32_2, (b32_3, (b32_4, (b32_5, ())))), ((b48_2, (b48_3, (b48_4, (b48_5, ())))), (a97.set t4.toNat y35.1.1, (a208, ((y34.2.1.1, (y34.2.1.2.1, (y34.2.1.2.2.1, ()))), ())))))))))))))
 ((spec_l1Below_F ((y21.2.1.1, (y21.2.1.2.1, (y21.2.1.2.2.1, ()))), ((8 : Int), ()))).bind fun y34 =>
 both (ck (decide (0 ≤ t4) && decide (t4 < a97.length)) ((spec_Mark_F (rdD tIs a97 t4, (y34.1.1, ()))).bind fun y35 =>
 ck (decide (0 ≤ t4) && decide (t4 < a97.length)) (iterG spec_l5DrawRight_t2 spec_l5DrawRight_B2 K n ((t4, (IntKind.i64.wrap (t5 + (1 : Int)), ())), ((b32_2, (b32_3, (b32_4, (b32_5, ())))), ((b48_2, (b48_3, (b48_4, (b48_5, ())))), (a97.set t4.toNat y35.1.1, (a208, ((y34.2.1.1, (y34.2.1.2.1, (y34.2.1.2.2.1, ()))), ())))))))))
 (ck (decide (0 ≤ t4) && decide (t4 < a97.length)) (both ((spec_Mark_F (rdD tIs a97 t4, (y34.1.1, ()))).bind fun y35 =>
 ck (decide (0 ≤ t4) && decide (t4 < a97.length)) (iterG spec_l5DrawRight_t2 spec_l5DrawRight_B2 K n ((t4, (IntKind.i64.wrap (t5 + (1 : Int)), ())), ((b32_2, (b32_3, (b32_4, (b32_5, ())))), ((b48_2, (b48_3, (b48_4, (b48_5, ())))), (a97.set t4.toNat y35.1.1, (a208, ((y34.2.1.1, (y34.2.1.2.1, (y34.2.1.2.2.1, ()))), ()))))))))
 (both ((spec_Mark_F (rdD tIs a97 t4, (y34.1.1, ()))).bind fun y35 =>
 ck (decide (0 ≤ t4) && decide (t4 < a97.length)) (iterG spec_l5DrawRight_t2 spec_l5DrawRight_B2 K n ((t4, (IntKind.i64.wrap (t5 + (1 : Int)), ())), ((b32_2, (b32_3, (b32_4, (b32_5, ())))), ((b48_2, (b48_3, (b48_4, (b48_5, ())))), (a97.set t4.toNat y35.1.1, (a208, ((y34.2.1.1, (y34.2.1.2.1, (y34.2.1.2.2.1, ()))), ()))))))))
 ((spec_Mark_F (rdD tIs a97 t4, (y34.1.1, ()))).bind fun y35 =>
 ck (decide (0 ≤ t4) && decide (t4 < a97.length)) (iterG spec_l5DrawRight_t2 spec_l5DrawRight_B2 K n ((t4, (IntKind.i64.wrap (t5 + (1 : Int)), ())), ((b32_2, (b32_3, (b32_4, (b32_5, ())))), ((b48_2, (b48_3, (b48_4, (b48_5, ())))), (a97.set t4.toNat y35.1.1, (a208, ((y34.2.1.1, (y34.2.1.2.1, (y34.2.1.2.2.1, ()))), ()))))))))))))))
 ((spec_l1Below_F ((y21.2.1.1, (y21.2.1.2.1, (y21.2.1.2.2.1, ()))), ((8 : Int), ()))).bind fun y34 =>
 both (ck (decide (0 ≤ t4) && decide (t4 < a97.length)) ((spec_Mark_F (rdD tIs a97 t4, (y34.1.1, ()))).bind fun y35 =>
 ck (decide (0 ≤ t4) && decide (t4 < a97.length)) (iterG spec_l5DrawRight_t2 spec_l5DrawRight_B2 K n ((t4, (IntKind.i64.wrap (t5 + (1 : Int)), ())), ((b32_2, (b32_3, (b32_4, (b32_5, ())))), ((b48_2, (b48_3, (b48_4, (b48_5, ())))), (a97.set t4.toNat y35.1.1, (a208, ((y34.2.1.1, (y34.2.1.2.1, (y34.2.1.2.2.1, ()))), ())))))))))
 (both (ck (decide (0 ≤ t4) && decide (t4 < a97.length)) ((spec_Mark_F (rdD tIs a97 t4, (y34.1.1, ()))).bind fun y35 =>
 ck (decide (0 ≤ t4) && decide (t4 < a97.length)) (iterG spec_l5DrawRight_t2 spec_l5DrawRight_B2 K n ((t4, (IntKind.i64.wrap (t5 + (1 : Int)), ())), ((b32_2, (b32_3, (b32_4, (b32_5, ())))), ((b48_2, (b48_3, (b48_4, (b48_5, ())))), (a97.set t4.toNat y35.1.1, (a208, ((y34.2.1.1, (y34.2.1.2.1, (y34.2.1.2.2.1, ()))), ())))))))))
 (ck (decide (0 ≤ t4) && decide (t4 < a97.length)) (both ((spec_Mark_F (rdD tIs a97 t4, (y34.1.1, ()))).bind fun y35 =>
 ck (decide (0 ≤ t4) && decide (t4 < a97.length)) (iterG spec_l5DrawRight_t2 spec_l5DrawRight_B2 K n ((t4, (IntKind.i64.wrap (t5 + (1 : Int)), ())), ((b32_2, (b32_3, (b32_4, (b32_5, ())))), ((b48_2, (b48_3, (b48_4, (b48_5, ())))), (a97.set t4.toNat y35.1.1, (a208, ((y34.2.1.1, (y34.2.1.2.1, (y34.2.1.2.2.1, ()))), ()))))))))
 (both ((spec_Mark_F (rdD tIs a97 t4, (y34.1.1, ()))).bind fun y35 =>
 ck (decide (0 ≤ t4) && decide (t4 < a97.length)) (iterG spec_l5DrawRight_t2 spec_l5DrawRight_B2 K n ((t4, (IntKind.i64.wrap (t5 + (1 : Int)), ())), ((b32_2, (b32_3, (b32_4, (b32_5, ())))), ((b48_2, (b48_3, (b48_4, (b48_5, ())))), (a97.set t4.toNat y35.1.1, (a208, ((y34.2.1.1, (y34.2.1.2.1, (y34.2.1.2.2.1, ()))), ()))))))))
 ((spec_Mark_F (rdD tIs a97 t4, (y34.1.1, ()))).bind fun y35 =>
 ck (decide (0 ≤ t4) && decide (t4 < a97.length)) (iterG spec_l5DrawRight_t2 spec_l5DrawRight_B2 K n ((t4, (IntKind.i64.wrap (t5 + (1 : Int)), ())), ((b32_2, (b32_3, (b32_4, (b32_5, ())))), ((b48_2, (b48_3, (b48_4, (b48_5, ())))), (a97.set t4.toNat y35.1.1, (a208, ((y34.2.1.1, (y34.2.1.2.1, (y34.2.1.2.2.1, ()))), ())))))))))))))))
 (K (.exit 2) (spec_l5DrawRight_x2_0 t4 b32_2 b32_3 b32_4 b32_5 b48_2 b48_3 b48_4 b48_5 a97 a208 y21.2.1.1 y21.2.1.2.1 y21.2.1.2.2.1)) := by kernel_rfl
theorem spec_l5DrawRight_e0_0 (x0 : List Int × Int × Int × Unit) (d0 : Bool) (d1 : Bool) (d2 : Bool) (d3 : Int) (d4 : Bool) (d5 : Bool) (d6 : Bool) (d7 : Int) (d8 : List (List Int)) (d9 : List Int) (d10 : List Int) (d11 : Int) (d12 : Int) : spec_l5DrawRight_K0 x0 (.exit 0) (spec_l5DrawRight_x0_0 d0 d1 d2 d3 d4 d5 d6 d7 d8 d9 d10 d11 d12) =
 (spec_l1Once_F ((d10, (d11, (d12, ()))), ((2 : Int), ()))).bind fun y38 =>
 (spec_l1Once_F ((y38.2.1.1, (y38.2.1.2.1, (y38.2.1.2.2.1, ()))), ((3 : Int), ()))).bind fun y41 =>
 brk (!y41.1.1)
 ((spec_l1Once_F ((y41.2.1.1, (y41.2.1.2.1, (y41.2.1.2.2.1, ()))), ((3 : Int), ()))).bind fun y48 =>
 (spec_l1Below_F ((y48.2.1.1, (y48.2.1.2.1, (y48.2.1.2.2.1, ()))), ((9 : Int), ()))).bind fun y52 =>
 some (((d9, (d8, (y38.1.1, (y41.1.1, (y48.1.1, (y52.1.1, ())))))), ()), ((y52.2.1.1, (y52.2.1.2.1, (y52.2.1.2.2.1, ()))), ())))
 ((spec_l1Below_F ((y41.2.1.1, (y41.2.1.2.1, (y41.2.1.2.2.1, ()))), ((9 : Int), ()))).bind fun y52 =>
 some (((d9, (d8, (y38.1.1, (y41.1.1, (false, (y52.1.1, ())))))), ()), ((y52.2.1.1, (y52.2.1.2.1, (y52.2.1.2.2.1, ()))), ()))) := by kernel_rfl
theorem spec_l5DrawRight_e2_0 {R : Type} (K : Ex → AS → Option R) (n : Nat) (d0 : Int) (d1 : Bool) (d2 : Bool) (d3 : Bool) (d4 : Int) (d5 : Bool) (d6 : Bool) (d7 : Bool) (d8 : Int) (d9 : List (List Int)) (d10 : List Int) (d11 : List Int) (d12 : Int) (d13 : Int) : spec_l5DrawRight_K2 K n (.exit 2) (spec_l5DrawRight_x2_0 d0 d1 d2 d3 d4 d5 d6 d7 d8 d9 d10 d11 d12 d13) =
 iterG spec_l5DrawRight_t0 spec_l5DrawRight_B0 K n ((IntKind.i64.wrap (d0 + (1 : Int)), ()), ((d1, (d2, (d3, (d4, ())))), ((d5, (d6, (d7, (d8, ())))), (d9, (d10, ((d11, (d12, (d13, ()))), ())))))) := by kernel_rfl
/-! spec.l6DrawRight -/
noncomputable def spec_l6DrawRight_b : Code := bd Try.f99
@[reducible] def spec_l6DrawRight_t0 : Tm := ⟨[], [(48, 0, 960000), (48, 1, 960001)], [(0, .ptr 1000000 0), (2, .ptr 32 0), (3, .ptr 48 0), (4, .sc true tI)], [(32, .box [.nil, .nil]), (48, .box [.own 960000, .own 960001]), (960000, .arr 5 tY), (960001, .arr 5 tY), (1000000, .box [.sc true tYs, .sc true tI, .sc true tI])], [2, 3], [32, 48, 960000, 960001]⟩
def spec_l6DrawRight_T : List (Nat × Tm) := [(0, spec_l6DrawRight_t0)]
noncomputable def spec_l6DrawRight_E : Env := ⟨tt0, [(32, spec_SlotPut_C), (50, spec_l5DrawRight_C), (100, spec_l1Below_C)]⟩
noncomputable def spec_l6DrawRight_F : PsD [.st tL1Cur] → Option (RsD [.own tSlots] × PsO [.st tL1Cur]) := fun x => evFn spec_l6DrawRight_E spec_l6DrawRight_T Try.f99 spec_l6DrawRight_b [.st tL1Cur] [.own tSlots] x
@[reducible] noncomputable def spec_l6DrawRight_C : Ct := ⟨[.st tL1Cur], [.own tSlots], spec_l6DrawRight_F⟩
theorem spec_l6DrawRight_h (x : PsD [.st tL1Cur]) (y : RsD [.own tSlots] × PsO [.st tL1Cur]) (h : spec_l6DrawRight_F x = some y) : evFn spec_l6DrawRight_E spec_l6DrawRight_T Try.f99 spec_l6DrawRight_b [.st tL1Cur] [.own tSlots] x = some y := h
theorem spec_l6DrawRight_c : ∀ f c, get spec_l6DrawRight_E.ct f = some c → Sat Try.prog f c := ct_cons spec_SlotPut_S (ct_cons spec_l5DrawRight_S (ct_cons spec_l1Below_S (ct_nil)))
theorem spec_l6DrawRight_S : Sat Try.prog 99 spec_l6DrawRight_C := fn_ok2 (envOk _) spec_l6DrawRight_c mixedOk Try.func99 (by kernel_rfl : Try.f99.body = some spec_l6DrawRight_b) (by kernel_rfl) (by kernel_rfl) spec_l6DrawRight_h
noncomputable def spec_l6DrawRight_Ke  (x0 : List Int × Int × Int × Unit) : Ex → AS → Option (RsD [.own tSlots] × PsO [.st tL1Cur]) := endK spec_l6DrawRight_E Try.f99 [.st tL1Cur] [.own tSlots] (initL [.st tL1Cur] (x0, ()) 0).1
noncomputable def spec_l6DrawRight_B0 {R : Type} : AS → (Ex → AS → Option R) → Option R := fun A K => ev spec_l6DrawRight_E spec_l6DrawRight_T 0 (cA (cA (cB (cA (cB (cB spec_l6DrawRight_b)))))) A K
noncomputable def spec_l6DrawRight_K0  (x0 : List Int × Int × Int × Unit) : Ex → AS → Option (RsD [.own tSlots] × PsO [.st tL1Cur]) := kBlk 0 (kSeq (fun A K => ev spec_l6DrawRight_E spec_l6DrawRight_T 1000 (cB (cB (cB spec_l6DrawRight_b))) A K) (spec_l6DrawRight_Ke x0))
noncomputable def spec_l6DrawRight_x0_0 (d0 : List Int) (d1 : List Int) (d2 : List Int) (d3 : Int) (d4 : Int) : AS := ⟨[(2, .v (.one (.bptr 32 0))), (3, .v (.one (.bptr 48 0)))], [(32, .box [.nil, .nil]), (48, .box [.own 960000, .own 960001]), (960000, .arr 5 tY d0), (960001, .arr 5 tY d1), (1000000, .box [.d true tYs d2, .d true tI d3, .d true tI d4])]⟩
theorem spec_l6DrawRight_l0 {R : Type} {K : Ex → AS → Option R} {s : spec_l6DrawRight_t0.D} (n : Nat) {v : Option R} (h : iterG spec_l6DrawRight_t0 spec_l6DrawRight_B0 K n s = v) (hv : ∃ r, v = some r) : loopG spec_l6DrawRight_t0 spec_l6DrawRight_B0 K s = v := loop_eq (ev_mono _ _) n h hv
theorem spec_l6DrawRight_main (x0 : List Int × Int × Int × Unit) : spec_l6DrawRight_F (x0, ()) =
 loopG spec_l6DrawRight_t0 spec_l6DrawRight_B0 (spec_l6DrawRight_K0 x0) (((0 : Int), ()), ((), ((), (([] : List Int), (([] : List Int), ((x0.1, (x0.2.1, (x0.2.2.1, ()))), ())))))) := by kernel_rfl
theorem spec_l6DrawRight_r0 {R : Type} (K : Ex → AS → Option R) (n : Nat) (t4 : Int) (a960000 : List Int) (a960001 : List Int) (b1000000_0 : List Int) (b1000000_1 : Int) (b1000000_2 : Int) : iterG spec_l6DrawRight_t0 spec_l6DrawRight_B0 K (n + 1) ((t4, ()), ((), ((), (a960000, (a960001, ((b1000000_0, (b1000000_1, (b1000000_2, ()))), ())))))) =
 (spec_l1Below_F ((b1000000_0, (b1000000_1, (b1000000_2, ()))), ((4 : Int), ()))).bind fun y8 =>
 brk (decide (t4 < y8.1.1))
 (both ((spec_l5DrawRight_F ((y8.2.1.1, (y8.2.1.2.1, (y8.2.1.2.2.1, ()))), ())).bind fun y14 =>
 (spec_SlotPut_F ((a960000, (a960001, ())), ((y14.1.1.1, (y14.1.1.2.1, (y14.1.1.2.2.1, (y14.1.1.2.2.2.1, (y14.1.1.2.2.2.2.1, (y14.1.1.2.2.2.2.2.1, ())))))), ()))).bind fun y15 =>
 iterG spec_l6DrawRight_t0 spec_l6DrawRight_B0 K n ((IntKind.i64.wrap (t4 + (1 : Int)), ()), ((), ((), (y15.1.1.1, (y15.1.1.2.1, ((y14.2.1.1, (y14.2.1.2.1, (y14.2.1.2.2.1, ()))), ())))))))
 ((spec_l5DrawRight_F ((y8.2.1.1, (y8.2.1.2.1, (y8.2.1.2.2.1, ()))), ())).bind fun y14 =>
 (spec_SlotPut_F ((a960000, (a960001, ())), ((y14.1.1.1, (y14.1.1.2.1, (y14.1.1.2.2.1, (y14.1.1.2.2.2.1, (y14.1.1.2.2.2.2.1, (y14.1.1.2.2.2.2.2.1, ())))))), ()))).bind fun y15 =>
 iterG spec_l6DrawRight_t0 spec_l6DrawRight_B0 K n ((IntKind.i64.wrap (t4 + (1 : Int)), ()), ((), ((), (y15.1.1.1, (y15.1.1.2.1, ((y14.2.1.1, (y14.2.1.2.1, (y14.2.1.2.2.1, ()))), ()))))))))
 (K (.exit 0) (spec_l6DrawRight_x0_0 a960000 a960001 y8.2.1.1 y8.2.1.2.1 y8.2.1.2.2.1)) := by kernel_rfl
theorem spec_l6DrawRight_e0_0 (x0 : List Int × Int × Int × Unit) (d0 : List Int) (d1 : List Int) (d2 : List Int) (d3 : Int) (d4 : Int) : spec_l6DrawRight_K0 x0 (.exit 0) (spec_l6DrawRight_x0_0 d0 d1 d2 d3 d4) =
 some (((d0, (d1, ())), ()), ((d2, (d3, (d4, ()))), ())) := by kernel_rfl
/-! spec.l1PickInt -/
noncomputable def spec_l1PickInt_b : Code := bd Try.f51
def spec_l1PickInt_T : List (Nat × Tm) := []
noncomputable def spec_l1PickInt_E : Env := ⟨tt0, [(100, spec_l1Below_C)]⟩
noncomputable def spec_l1PickInt_F : PsD [.st tL1Cur, .ro tIs] → Option (RsD [.own tI] × PsO [.st tL1Cur, .ro tIs]) := fun x => evFn spec_l1PickInt_E spec_l1PickInt_T Try.f51 spec_l1PickInt_b [.st tL1Cur, .ro tIs] [.own tI] x
@[reducible] noncomputable def spec_l1PickInt_C : Ct := ⟨[.st tL1Cur, .ro tIs], [.own tI], spec_l1PickInt_F⟩
theorem spec_l1PickInt_h (x : PsD [.st tL1Cur, .ro tIs]) (y : RsD [.own tI] × PsO [.st tL1Cur, .ro tIs]) (h : spec_l1PickInt_F x = some y) : evFn spec_l1PickInt_E spec_l1PickInt_T Try.f51 spec_l1PickInt_b [.st tL1Cur, .ro tIs] [.own tI] x = some y := h
theorem spec_l1PickInt_c : ∀ f c, get spec_l1PickInt_E.ct f = some c → Sat Try.prog f c := ct_cons spec_l1Below_S (ct_nil)
theorem spec_l1PickInt_S : Sat Try.prog 51 spec_l1PickInt_C := fn_ok2 (envOk _) spec_l1PickInt_c mixedOk Try.func51 (by kernel_rfl : Try.f51.body = some spec_l1PickInt_b) (by kernel_rfl) (by kernel_rfl) spec_l1PickInt_h
noncomputable def spec_l1PickInt_Ke  (x0 : List Int × Int × Int × Unit) (x1 : List Int) : Ex → AS → Option (RsD [.own tI] × PsO [.st tL1Cur, .ro tIs]) := endK spec_l1PickInt_E Try.f51 [.st tL1Cur, .ro tIs] [.own tI] (initL [.st tL1Cur, .ro tIs] (x0, (x1, ())) 0).1
theorem spec_l1PickInt_main (x0 : List Int × Int × Int × Unit) (x1 : List Int) : spec_l1PickInt_F (x0, (x1, ())) =
 (spec_l1Below_F ((x0.1, (x0.2.1, (x0.2.2.1, ()))), ((x1.length : Int), ()))).bind fun y9 =>
 ck (decide (0 ≤ y9.1.1) && decide (y9.1.1 < x1.length)) (some ((rdD tI x1 y9.1.1, ()), ((y9.2.1.1, (y9.2.1.2.1, (y9.2.1.2.2.1, ()))), ((), ())))) := by kernel_rfl
/-! spec.l4Dent -/
noncomputable def spec_l4Dent_b : Code := bd Try.f101
def spec_l4Dent_T : List (Nat × Tm) := []
noncomputable def spec_l4Dent_E : Env := ⟨tt0, [(51, spec_l1PickInt_C), (100, spec_l1Below_C)]⟩
noncomputable def spec_l4Dent_F : PsD [.st tL1Cur, .mv tYs] → Option (RsD [.own tYs] × PsO [.st tL1Cur, .mv tYs]) := fun x => evFn spec_l4Dent_E spec_l4Dent_T Try.f101 spec_l4Dent_b [.st tL1Cur, .mv tYs] [.own tYs] x
@[reducible] noncomputable def spec_l4Dent_C : Ct := ⟨[.st tL1Cur, .mv tYs], [.own tYs], spec_l4Dent_F⟩
theorem spec_l4Dent_h (x : PsD [.st tL1Cur, .mv tYs]) (y : RsD [.own tYs] × PsO [.st tL1Cur, .mv tYs]) (h : spec_l4Dent_F x = some y) : evFn spec_l4Dent_E spec_l4Dent_T Try.f101 spec_l4Dent_b [.st tL1Cur, .mv tYs] [.own tYs] x = some y := h
theorem spec_l4Dent_c : ∀ f c, get spec_l4Dent_E.ct f = some c → Sat Try.prog f c := ct_cons spec_l1PickInt_S (ct_cons spec_l1Below_S (ct_nil))
theorem spec_l4Dent_S : Sat Try.prog 101 spec_l4Dent_C := fn_ok2 (envOk _) spec_l4Dent_c mixedOk Try.func101 (by kernel_rfl : Try.f101.body = some spec_l4Dent_b) (by kernel_rfl) (by kernel_rfl) spec_l4Dent_h
noncomputable def spec_l4Dent_Ke  (x0 : List Int × Int × Int × Unit) (x1 : List Int) : Ex → AS → Option (RsD [.own tYs] × PsO [.st tL1Cur, .mv tYs]) := endK spec_l4Dent_E Try.f101 [.st tL1Cur, .mv tYs] [.own tYs] (initL [.st tL1Cur, .mv tYs] (x0, (x1, ())) 0).1
theorem spec_l4Dent_main (x0 : List Int × Int × Int × Unit) (x1 : List Int) : spec_l4Dent_F (x0, (x1, ())) =
 (spec_l1Below_F ((x0.1, (x0.2.1, (x0.2.2.1, ()))), (IntKind.i64.wrap ((x1.length : Int) + (1 : Int)), ()))).bind fun y10 =>
 (spec_l1Below_F ((y10.2.1.1, (y10.2.1.2.1, (y10.2.1.2.2.1, ()))), ((5 : Int), ()))).bind fun y12 =>
 brk (decide (y12.1.1 = (0 : Int)))
 (ck (decide (0 ≤ (0 : Int)) && decide ((0 : Int) ≤ y10.1.1) && decide (y10.1.1 ≤ x1.length)) (some ((x1.take y10.1.1.toNat, ()), ((y12.2.1.1, (y12.2.1.2.1, (y12.2.1.2.2.1, ()))), ((), ())))))
 (brk (decide (y12.1.1 = (1 : Int)))
 (both (both (ck (decide (0 ≤ (0 : Int)) && decide ((0 : Int) ≤ y10.1.1) && decide (y10.1.1 ≤ x1.length)) (both (ck (decide ((([] : List Int).length + ((x1.take y10.1.1.toNat).drop (0 : Int).toNat).length) * 1 ≤ big47)) (both (both ((spec_l1PickInt_F ((y12.2.1.1, (y12.2.1.2.1, (y12.2.1.2.2.1, ()))), ([(0 : Int), (1 : Int), (128 : Int), (3 : Int)], ()))).bind fun y27 =>
 both (both (ck (decide (0 ≤ y10.1.1) && decide (y10.1.1 ≤ (x1.length : Int)) && decide ((x1.length : Int) ≤ x1.length)) (ck (decide (([IntKind.u8.wrap y27.1.1].length + ((x1.take (x1.length : Int).toNat).drop y10.1.1.toNat).length) * 1 ≤ big47)) (ck (decide (((([] : List Int) ++ ((x1.take y10.1.1.toNat).drop (0 : Int).toNat)).length + ([IntKind.u8.wrap y27.1.1] ++ ((x1.take (x1.length : Int).toNat).drop y10.1.1.toNat)).length) * 1 ≤ big47)) (some (((([] : List Int) ++ ((x1.take y10.1.1.toNat).drop (0 : Int).toNat)) ++ ([IntKind.u8.wrap y27.1.1] ++ ((x1.take (x1.length : Int).toNat).drop y10.1.1.toNat)), ()), ((y27.2.1.1, (y27.2.1.2.1, (y27.2.1.2.2.1, ()))), ((), ())))))))
 (ck (decide (0 ≤ y10.1.1) && decide (y10.1.1 ≤ (x1.length : Int)) && decide ((x1.length : Int) ≤ x1.length)) (ck (decide (([IntKind.u8.wrap y27.1.1].length + ((x1.take (x1.length : Int).toNat).drop y10.1.1.toNat).length) * 1 ≤ big47)) (ck (decide (((([] : List Int) ++ ((x1.take y10.1.1.toNat).drop (0 : Int).toNat)).length + ([IntKind.u8.wrap y27.1.1] ++ ((x1.take (x1.length : Int).toNat).drop y10.1.1.toNat)).length) * 1 ≤ big47)) (some (((([] : List Int) ++ ((x1.take y10.1.1.toNat).drop (0 : Int).toNat)) ++ ([IntKind.u8.wrap y27.1.1] ++ ((x1.take (x1.length : Int).toNat).drop y10.1.1.toNat)), ()), ((y27.2.1.1, (y27.2.1.2.1, (y27.2.1.2.2.1, ()))), ((), ()))))))))
 (ck (decide (0 ≤ y10.1.1) && decide (y10.1.1 ≤ (x1.length : Int)) && decide ((x1.length : Int) ≤ x1.length)) (ck (decide (([IntKind.u8.wrap y27.1.1].length + ((x1.take (x1.length : Int).toNat).drop y10.1.1.toNat).length) * 1 ≤ big47)) (ck (decide (((([] : List Int) ++ ((x1.take y10.1.1.toNat).drop (0 : Int).toNat)).length + ([IntKind.u8.wrap y27.1.1] ++ ((x1.take (x1.length : Int).toNat).drop y10.1.1.toNat)).length) * 1 ≤ big47)) (some (((([] : List Int) ++ ((x1.take y10.1.1.toNat).drop (0 : Int).toNat)) ++ ([IntKind.u8.wrap y27.1.1] ++ ((x1.take (x1.length : Int).toNat).drop y10.1.1.toNat)), ()), ((y27.2.1.1, (y27.2.1.2.1, (y27.2.1.2.2.1, ()))), ((), ()))))))))
 (ck (decide (0 ≤ y10.1.1) && decide (y10.1.1 ≤ (x1.length : Int)) && decide ((x1.length : Int) ≤ x1.length)) ((spec_l1PickInt_F ((y12.2.1.1, (y12.2.1.2.1, (y12.2.1.2.2.1, ()))), ([(0 : Int), (1 : Int), (128 : Int), (3 : Int)], ()))).bind fun y27 =>
 ck (decide (([IntKind.u8.wrap y27.1.1].length + ((x1.take (x1.length : Int).toNat).drop y10.1.1.toNat).length) * 1 ≤ big47)) (ck (decide (((([] : List Int) ++ ((x1.take y10.1.1.toNat).drop (0 : Int).toNat)).length + ([IntKind.u8.wrap y27.1.1] ++ ((x1.take (x1.length : Int).toNat).drop y10.1.1.toNat)).length) * 1 ≤ big47)) (some (((([] : List Int) ++ ((x1.take y10.1.1.toNat).drop (0 : Int).toNat)) ++ ([IntKind.u8.wrap y27.1.1] ++ ((x1.take (x1.length : Int).toNat).drop y10.1.1.toNat)), ()), ((y27.2.1.1, (y27.2.1.2.1, (y27.2.1.2.2.1, ()))), ((), ()))))))))
 (ck (decide (0 ≤ y10.1.1) && decide (y10.1.1 ≤ (x1.length : Int)) && decide ((x1.length : Int) ≤ x1.length)) ((spec_l1PickInt_F ((y12.2.1.1, (y12.2.1.2.1, (y12.2.1.2.2.1, ()))), ([(0 : Int), (1 : Int), (128 : Int), (3 : Int)], ()))).bind fun y27 =>
 ck (decide (([IntKind.u8.wrap y27.1.1].length + ((x1.take (x1.length : Int).toNat).drop y10.1.1.toNat).length) * 1 ≤ big47)) (ck (decide (((([] : List Int) ++ ((x1.take y10.1.1.toNat).drop (0 : Int).toNat)).length + ([IntKind.u8.wrap y27.1.1] ++ ((x1.take (x1.length : Int).toNat).drop y10.1.1.toNat)).length) * 1 ≤ big47)) (some (((([] : List Int) ++ ((x1.take y10.1.1.toNat).drop (0 : Int).toNat)) ++ ([IntKind.u8.wrap y27.1.1] ++ ((x1.take (x1.length : Int).toNat).drop y10.1.1.toNat)), ()), ((y27.2.1.1, (y27.2.1.2.1, (y27.2.1.2.2.1, ()))), ((), ())))))))))
 (both (both (ck (decide ((([] : List Int).length + ((x1.take y10.1.1.toNat).drop (0 : Int).toNat).length) * 1 ≤ big47)) (both ((spec_l1PickInt_F ((y12.2.1.1, (y12.2.1.2.1, (y12.2.1.2.2.1, ()))), ([(0 : Int), (1 : Int), (128 : Int), (3 : Int)], ()))).bind fun y27 =>
 both (both (ck (decide (0 ≤ y10.1.1) && decide (y10.1.1 ≤ (x1.length : Int)) && decide ((x1.length : Int) ≤ x1.length)) (ck (decide (([IntKind.u8.wrap y27.1.1].length + ((x1.take (x1.length : Int).toNat).drop y10.1.1.toNat).length) * 1 ≤ big47)) (ck (decide (((([] : List Int) ++ ((x1.take y10.1.1.toNat).drop (0 : Int).toNat)).length + ([IntKind.u8.wrap y27.1.1] ++ ((x1.take (x1.length : Int).toNat).drop y10.1.1.toNat)).length) * 1 ≤ big47)) (some (((([] : List Int) ++ ((x1.take y10.1.1.toNat).drop (0 : Int).toNat)) ++ ([IntKind.u8.wrap y27.1.1] ++ ((x1.take (x1.length : Int).toNat).drop y10.1.1.toNat)), ()), ((y27.2.1.1, (y27.2.1.2.1, (y27.2.1.2.2.1, ()))), ((), ())))))))
 (ck (decide (0 ≤ y10.1.1) && decide (y10.1.1 ≤ (x1.length : Int)) && decide ((x1.length : Int) ≤ x1.length)) (ck (decide (([IntKind.u8.wrap y27.1.1].length + ((x1.take (x1.length : Int).toNat).drop y10.1.1.toNat).length) * 1 ≤ big47)) (ck (decide (((([] : List Int) ++ ((x1.take y10.1.1.toNat).drop (0 : Int).toNat)).length + ([IntKind.u8.wrap y27.1.1] ++ ((x1.take (x1.length : Int).toNat).drop y10.1.1.toNat)).length) * 1 ≤ big47)) (some (((([] : List Int) ++ ((x1.take y10.1.1.toNat).drop (0 : Int).toNat)) ++ ([IntKind.u8.wrap y27.1.1] ++ ((x1.take (x1.length : Int).toNat).drop y10.1.1.toNat)), ()), ((y27.2.1.1, (y27.2.1.2.1, (y27.2.1.2.2.1, ()))), ((), ()))))))))
 (ck (decide (0 ≤ y10.1.1) && decide (y10.1.1 ≤ (x1.length : Int)) && decide ((x1.length : Int) ≤ x1.length)) (ck (decide (([IntKind.u8.wrap y27.1.1].length + ((x1.take (x1.length : Int).toNat).drop y10.1.1.toNat).length) * 1 ≤ big47)) (ck (decide (((([] : List Int) ++ ((x1.take y10.1.1.toNat).drop (0 : Int).toNat)).length + ([IntKind.u8.wrap y27.1.1] ++ ((x1.take (x1.length : Int).toNat).drop y10.1.1.toNat)).length) * 1 ≤ big47)) (some (((([] : List Int) ++ ((x1.take y10.1.1.toNat).drop (0 : Int).toNat)) ++ ([IntKind.u8.wrap y27.1.1] ++ ((x1.take (x1.length : Int).toNat).drop y10.1.1.toNat)), ()), ((y27.2.1.1, (y27.2.1.2.1, (y27.2.1.2.2.1, ()))), ((), ()))))))))
 (ck (decide (0 ≤ y10.1.1) && decide (y10.1.1 ≤ (x1.length : Int)) && decide ((x1.length : Int) ≤ x1.length)) ((spec_l1PickInt_F ((y12.2.1.1, (y12.2.1.2.1, (y12.2.1.2.2.1, ()))), ([(0 : Int), (1 : Int), (128 : Int), (3 : Int)], ()))).bind fun y27 =>
 ck (decide (([IntKind.u8.wrap y27.1.1].length + ((x1.take (x1.length : Int).toNat).drop y10.1.1.toNat).length) * 1 ≤ big47)) (ck (decide (((([] : List Int) ++ ((x1.take y10.1.1.toNat).drop (0 : Int).toNat)).length + ([IntKind.u8.wrap y27.1.1] ++ ((x1.take (x1.length : Int).toNat).drop y10.1.1.toNat)).length) * 1 ≤ big47)) (some (((([] : List Int) ++ ((x1.take y10.1.1.toNat).drop (0 : Int).toNat)) ++ ([IntKind.u8.wrap y27.1.1] ++ ((x1.take (x1.length : Int).toNat).drop y10.1.1.toNat)), ()), ((y27.2.1.1, (y27.2.1.2.1, (y27.2.1.2.2.1, ()))), ((), ())))))))))
 (ck (decide (0 ≤ y10.1.1) && decide (y10.1.1 ≤ (x1.length : Int)) && decide ((x1.length : Int) ≤ x1.length)) (ck (decide ((([] : List Int).length + ((x1.take y10.1.1.toNat).drop (0 : Int).toNat).length) * 1 ≤ big47)) ((spec_l1PickInt_F ((y12.2.1.1, (y12.2.1.2.1, (y12.2.1.2.2.1, ()))), ([(0 : Int), (1 : Int), (128 : Int), (3 : Int)], ()))).bind fun y27 =>
 ck (decide (([IntKind.u8.wrap y27.1.1].length + ((x1.take (x1.length : Int).toNat).drop y10.1.1.toNat).length) * 1 ≤ big47)) (ck (decide (((([] : List Int) ++ ((x1.take y10.1.1.toNat).drop (0 : Int).toNat)).length + ([IntKind.u8.wrap y27.1.1] ++ ((x1.take (x1.length : Int).toNat).drop y10.1.1.toNat)).length) * 1 ≤ big47)) (some (((([] : List Int) ++ ((x1.take y10.1.1.toNat).drop (0 : Int).toNat)) ++ ([IntKind.u8.wrap y27.1.1] ++ ((x1.take (x1.length : Int).toNat).drop y10.1.1.toNat)), ()), ((y27.2.1.1, (y27.2.1.2.1, (y27.2.1.2.2.1, ()))), ((), ())))))))))
 (ck (decide (0 ≤ y10.1.1) && decide (y10.1.1 ≤ (x1.length : Int)) && decide ((x1.length : Int) ≤ x1.length)) (both (ck (decide ((([] : List Int).length + ((x1.take y10.1.1.toNat).drop (0 : Int).toNat).length) * 1 ≤ big47)) ((spec_l1PickInt_F ((y12.2.1.1, (y12.2.1.2.1, (y12.2.1.2.2.1, ()))), ([(0 : Int), (1 : Int), (128 : Int), (3 : Int)], ()))).bind fun y27 =>
 ck (decide (([IntKind.u8.wrap y27.1.1].length + ((x1.take (x1.length : Int).toNat).drop y10.1.1.toNat).length) * 1 ≤ big47)) (ck (decide (((([] : List Int) ++ ((x1.take y10.1.1.toNat).drop (0 : Int).toNat)).length + ([IntKind.u8.wrap y27.1.1] ++ ((x1.take (x1.length : Int).toNat).drop y10.1.1.toNat)).length) * 1 ≤ big47)) (some (((([] : List Int) ++ ((x1.take y10.1.1.toNat).drop (0 : Int).toNat)) ++ ([IntKind.u8.wrap y27.1.1] ++ ((x1.take (x1.length : Int).toNat).drop y10.1.1.toNat)), ()), ((y27.2.1.1, (y27.2.1.2.1, (y27.2.1.2.2.1, ()))), ((), ())))))))
 (ck (decide ((([] : List Int).length + ((x1.take y10.1.1.toNat).drop (0 : Int).toNat).length) * 1 ≤ big47)) ((spec_l1PickInt_F ((y12.2.1.1, (y12.2.1.2.1, (y12.2.1.2.2.1, ()))), ([(0 : Int), (1 : Int), (128 : Int), (3 : Int)], ()))).bind fun y27 =>
 ck (decide (([IntKind.u8.wrap y27.1.1].length + ((x1.take (x1.length : Int).toNat).drop y10.1.1.toNat).length) * 1 ≤ big47)) (ck (decide (((([] : List Int) ++ ((x1.take y10.1.1.toNat).drop (0 : Int).toNat)).length + ([IntKind.u8.wrap y27.1.1] ++ ((x1.take (x1.length : Int).toNat).drop y10.1.1.toNat)).length) * 1 ≤ big47)) (some (((([] : List Int) ++ ((x1.take y10.1.1.toNat).drop (0 : Int).toNat)) ++ ([IntKind.u8.wrap y27.1.1] ++ ((x1.take (x1.length : Int).toNat).drop y10.1.1.toNat)), ()), ((y27.2.1.1, (y27.2.1.2.1, (y27.2.1.2.2.1, ()))), ((), ()))))))))))))
 (both (both (ck (decide (0 ≤ (0 : Int)) && decide ((0 : Int) ≤ y10.1.1) && decide (y10.1.1 ≤ x1.length)) (both (ck (decide ((([] : List Int).length + ((x1.take y10.1.1.toNat).drop (0 : Int).toNat).length) * 1 ≤ big47)) (both ((spec_l1PickInt_F ((y12.2.1.1, (y12.2.1.2.1, (y12.2.1.2.2.1, ()))), ([(0 : Int), (1 : Int), (128 : Int), (3 : Int)], ()))).bind fun y27 =>
 both (both (ck (decide (0 ≤ y10.1.1) && decide (y10.1.1 ≤ (x1.length : Int)) && decide ((x1.length : Int) ≤ x1.length)) (ck (decide (([IntKind.u8.wrap y27.1.1].length + ((x1.take (x1.length : Int).toNat).drop y10.1.1.toNat).length) * 1 ≤ big47)) (ck (decide (((([] : List Int) ++ ((x1.take y10.1.1.toNat).drop (0 : Int).toNat)).length + ([IntKind.u8.wrap y27.1.1] ++ ((x1.take (x1.length : Int).toNat).drop y10.1.1.toNat)).length) * 1 ≤ big47)) (some (((([] : List Int) ++ ((x1.take y10.1.1.toNat).drop (0 : Int).toNat)) ++ ([IntKind.u8.wrap y27.1.1] ++ ((x1.take (x1.length : Int).toNat).drop y10.1.1.toNat)), ()), ((y27.2.1.1, (y27.2.1.2.1, (y27.2.1.2.2.1, ()))), ((), ())))))))
 (ck (decide (0 ≤ y10.1.1) && decide (y10.1.1 ≤ (x1.length : Int)) && decide ((x1.length : Int) ≤ x1.length)) (ck (decide (([IntKind.u8.wrap y27.1.1].length + ((x1.take (x1.length : Int).toNat).drop y10.1.1.toNat).length) * 1 ≤ big47)) (ck (decide (((([] : List Int) ++ ((x1.take y10.1.1.toNat).drop (0 : Int).toNat)).length + ([IntKind.u8.wrap y27.1.1] ++ ((x1.take (x1.length : Int).toNat).drop y10.1.1.toNat)).length) * 1 ≤ big47)) (some (((([] : List Int) ++ ((x1.take y10.1.1.toNat).drop (0 : Int).toNat)) ++ ([IntKind.u8.wrap y27.1.1] ++ ((x1.take (x1.length : Int).toNat).drop y10.1.1.toNat)), ()), ((y27.2.1.1, (y27.2.1.2.1, (y27.2.1.2.2.1, ()))), ((), ()))))))))
 (ck (decide (0 ≤ y10.1.1) && decide (y10.1.1 ≤ (x1.length : Int)) && decide ((x1.length : Int) ≤ x1.length)) (ck (decide (([IntKind.u8.wrap y27.1.1].length + ((x1.take (x1.length : Int).toNat).drop y10.1.1.toNat).length) * 1 ≤ big47)) (ck (decide (((([] : List Int) ++ ((x1.take y10.1.1.toNat).drop (0 : Int).toNat)).length + ([IntKind.u8.wrap y27.1.1] ++ ((x1.take (x1.length : Int).toNat).drop y10.1.1.toNat)).length) * 1 ≤ big47)) (some (((([] : List Int) ++ ((x1.take y10.1.1.toNat).drop (0 : Int).toNat)) ++ ([IntKind.u8.wrap y27.1.1] ++ ((x1.take (x1.length : Int).toNat).drop y10.1.1.toNat)), ()), ((y27.2.1.1, (y27.2.1.2.1, (y27.2.1.2.2.1, ()))), ((), ()))))))))
 (ck (decide (0 ≤ y10.1.1) && decide (y10.1.1 ≤ (x1.length : Int)) && decide ((x1.length : Int) ≤ x1.length)) ((spec_l1PickInt_F ((y12.2.1.1, (y12.2.1.2.1, (y12.2.1.2.2.1, ()))), ([(0 : Int), (1 : Int), (128 : Int), (3 : Int)], ()))).bind fun y27 =>
 ck (decide (([IntKind.u8.wrap y27.1.1].length + ((x1.take (x1.length : Int).toNat).drop y10.1.1.toNat).length) * 1 ≤ big47)) (ck (decide (((([] : List Int) ++ ((x1.take y10.1.1.toNat).drop (0 : Int).toNat)).length + ([IntKind.u8.wrap y27.1.1] ++ ((x1.take (x1.length : Int).toNat).drop y10.1.1.toNat)).length) * 1 ≤ big47)) (some (((([] : List Int) ++ ((x1.take y10.1.1.toNat).drop (0 : Int).toNat)) ++ ([IntKind.u8.wrap y27.1.1] ++ ((x1.take (x1.length : Int).toNat).drop y10.1.1.toNat)), ()), ((y27.2.1.1, (y27.2.1.2.1, (y27.2.1.2.2.1, ()))), ((), ())))))))))
 (ck (decide (0 ≤ y10.1.1) && decide (y10.1.1 ≤ (x1.length : Int)) && decide ((x1.length : Int) ≤ x1.length)) (ck (decide ((([] : List Int).length + ((x1.take y10.1.1.toNat).drop (0 : Int).toNat).length) * 1 ≤ big47)) ((spec_l1PickInt_F ((y12.2.1.1, (y12.2.1.2.1, (y12.2.1.2.2.1, ()))), ([(0 : Int), (1 : Int), (128 : Int), (3 : Int)], ()))).bind fun y27 =>
 ck (decide (([IntKind.u8.wrap y27.1.1].length + ((x1.take (x1.length : Int).toNat).drop y10.1.1.toNat).length) * 1 ≤ big47)) (ck (decide (((([] : List Int) ++ ((x1.take y10.1.1.toNat).drop (0 : Int).toNat)).length + ([IntKind.u8.wrap y27.1.1] ++ ((x1.take (x1.length : Int).toNat).drop y10.1.1.toNat)).length) * 1 ≤ big47)) (some (((([] : List Int) ++ ((x1.take y10.1.1.toNat).drop (0 : Int).toNat)) ++ ([IntKind.u8.wrap y27.1.1] ++ ((x1.take (x1.length : Int).toNat).drop y10.1.1.toNat)), ()), ((y27.2.1.1, (y27.2.1.2.1, (y27.2.1.2.2.1, ()))), ((), ()))))))))))
 (ck (decide (0 ≤ y10.1.1) && decide (y10.1.1 ≤ (x1.length : Int)) && decide ((x1.length : Int) ≤ x1.length)) (ck (decide (0 ≤ (0 : Int)) && decide ((0 : Int) ≤ y10.1.1) && decide (y10.1.1 ≤ x1.length)) (ck (decide ((([] : List Int).length + ((x1.take y10.1.1.toNat).drop (0 : Int).toNat).length) * 1 ≤ big47)) ((spec_l1PickInt_F ((y12.2.1.1, (y12.2.1.2.1, (y12.2.1.2.2.1, ()))), ([(0 : Int), (1 : Int), (128 : Int), (3 : Int)], ()))).bind fun y27 =>
 ck (decide (([IntKind.u8.wrap y27.1.1].length + ((x1.take (x1.length : Int).toNat).drop y10.1.1.toNat).length) * 1 ≤ big47)) (ck (decide (((([] : List Int) ++ ((x1.take y10.1.1.toNat).drop (0 : Int).toNat)).length + ([IntKind.u8.wrap y27.1.1] ++ ((x1.take (x1.length : Int).toNat).drop y10.1.1.toNat)).length) * 1 ≤ big47)) (some (((([] : List Int) ++ ((x1.take y10.1.1.toNat).drop (0 : Int).toNat)) ++ ([IntKind.u8.wrap y27.1.1] ++ ((x1.take (x1.length : Int).toNat).drop y10.1.1.toNat)), ()), ((y27.2.1.1, (y27.2.1.2.1, (y27.2.1.2.2.1, ()))), ((), ()))))))))))
 (ck (decide (0 ≤ y10.1.1) && decide (y10.1.1 ≤ (x1.length : Int)) && decide ((x1.length : Int) ≤ x1.length)) (both (ck (decide (0 ≤ (0 : Int)) && decide ((0 : Int) ≤ y10.1.1) && decide (y10.1.1 ≤ x1.length)) (both (ck (decide ((([] : List Int).length + ((x1.take y10.1.1.toNat).drop (0 : Int).toNat).length) * 1 ≤ big47)) ((spec_l1PickInt_F ((y12.2.1.1, (y12.2.1.2.1, (y12.2.1.2.2.1, ()))), ([(0 : Int), (1 : Int), (128 : Int), (3 : Int)], ()))).bind fun y27 =>
 ck (decide (([IntKind.u8.wrap y27.1.1].length + ((x1.take (x1.length : Int).toNat).drop y10.1.1.toNat).length) * 1 ≤ big47)) (ck (decide (((([] : List Int) ++ ((x1.take y10.1.1.toNat).drop (0 : Int).toNat)).length + ([IntKind.u8.wrap y27.1.1] ++ ((x1.take (x1.length : Int).toNat).drop y10.1.1.toNat)).length) * 1 ≤ big47)) (some (((([] : List Int) ++ ((x1.take y10.1.1.toNat).drop (0 : Int).toNat)) ++ ([IntKind.u8.wrap y27.1.1] ++ ((x1.take (x1.length : Int).toNat).drop y10.1.1.toNat)), ()), ((y27.2.1.1, (y27.2.1.2.1, (y27.2.1.2.2.1, ()))), ((), ())))))))
 (ck (decide ((([] : List Int).length + ((x1.take y10.1.1.toNat).drop (0 : Int).toNat).length) * 1 ≤ big47)) ((spec_l1PickInt_F ((y12.2.1.1, (y12.2.1.2.1, (y12.2.1.2.2.1, ()))), ([(0 : Int), (1 : Int), (128 : Int), (3 : Int)], ()))).bind fun y27 =>
 ck (decide (([IntKind.u8.wrap y27.1.1].length + ((x1.take (x1.length : Int).toNat).drop y10.1.1.toNat).length) * 1 ≤ big47)) (ck (decide (((([] : List Int) ++ ((x1.take y10.1.1.toNat).drop (0 : Int).toNat)).length + ([IntKind.u8.wrap y27.1.1] ++ ((x1.take (x1.length : Int).toNat).drop y10.1.1.toNat)).length) * 1 ≤ big47)) (some (((([] : List Int) ++ ((x1.take y10.1.1.toNat).drop (0 : Int).toNat)) ++ ([IntKind.u8.wrap y27.1.1] ++ ((x1.take (x1.length : Int).toNat).drop y10.1.1.toNat)), ()), ((y27.2.1.1, (y27.2.1.2.1, (y27.2.1.2.2.1, ()))), ((), ())))))))))
 (ck (decide (0 ≤ (0 : Int)) && decide ((0 : Int) ≤ y10.1.1) && decide (y10.1.1 ≤ x1.length)) (ck (decide ((([] : List Int).length + ((x1.take y10.1.1.toNat).drop (0 : Int).toNat).length) * 1 ≤ big47)) ((spec_l1PickInt_F ((y12.2.1.1, (y12.2.1.2.1, (y12.2.1.2.2.1, ()))), ([(0 : Int), (1 : Int), (128 : Int), (3 : Int)], ()))).bind fun y27 =>
 ck (decide (([IntKind.u8.wrap y27.1.1].length + ((x1.take (x1.length : Int).toNat).drop y10.1.1.toNat).length) * 1 ≤ big47)) (ck (decide (((([] : List Int) ++ ((x1.take y10.1.1.toNat).drop (0 : Int).toNat)).length + ([IntKind.u8.wrap y27.1.1] ++ ((x1.take (x1.length : Int).toNat).drop y10.1.1.toNat)).length) * 1 ≤ big47)) (some (((([] : List Int) ++ ((x1.take y10.1.1.toNat).drop (0 : Int).toNat)) ++ ([IntKind.u8.wrap y27.1.1] ++ ((x1.take (x1.length : Int).toNat).drop y10.1.1.toNat)), ()), ((y27.2.1.1, (y27.2.1.2.1, (y27.2.1.2.2.1, ()))), ((), ()))))))))))))
 (both (ck (decide (0 ≤ (0 : Int)) && decide ((0 : Int) ≤ y10.1.1) && decide (y10.1.1 ≤ x1.length)) (both (both (ck (decide ((([] : List Int).length + ((x1.take y10.1.1.toNat).drop (0 : Int).toNat).length) * 1 ≤ big47)) (both (both ((spec_l1PickInt_F ((y12.2.1.1, (y12.2.1.2.1, (y12.2.1.2.2.1, ()))), ([(0 : Int), (1 : Int), (128 : Int), (3 : Int)], ()))).bind fun y27 =>
 both (both (ck (decide (0 ≤ y10.1.1) && decide (y10.1.1 ≤ (x1.length : Int)) && decide ((x1.length : Int) ≤ x1.length)) (ck (decide (([IntKind.u8.wrap y27.1.1].length + ((x1.take (x1.length : Int).toNat).drop y10.1.1.toNat).length) * 1 ≤ big47)) (ck (decide (((([] : List Int) ++ ((x1.take y10.1.1.toNat).drop (0 : Int).toNat)).length + ([IntKind.u8.wrap y27.1.1] ++ ((x1.take (x1.length : Int).toNat).drop y10.1.1.toNat)).length) * 1 ≤ big47)) (some (((([] : List Int) ++ ((x1.take y10.1.1.toNat).drop (0 : Int).toNat)) ++ ([IntKind.u8.wrap y27.1.1] ++ ((x1.take (x1.length : Int).toNat).drop y10.1.1.toNat)), ()), ((y27.2.1.1, (y27.2.1.2.1, (y27.2.1.2.2.1, ()))), ((), ())))))))
 (ck (decide (0 ≤ y10.1.1) && decide (y10.1.1 ≤ (x1.length : Int)) && decide ((x1.length : Int) ≤ x1.length)) (ck (decide (([IntKind.u8.wrap y27.1.1].length + ((x1.take (x1.length : Int).toNat).drop y10.1.1.toNat).length) * 1 ≤ big47)) (ck (decide (((([] : List Int) ++ ((x1.take y10.1.1.toNat).drop (0 : Int).toNat)).length + ([IntKind.u8.wrap y27.1.1] ++ ((x1.take (x1.length : Int).toNat).drop y10.1.1.toNat)).length) * 1 ≤ big47)) (some (((([] : List Int) ++ ((x1.take y10.1.1.toNat).drop (0 : Int).toNat)) ++ ([IntKind.u8.wrap y27.1.1] ++ ((x1.take (x1.length : Int).toNat).drop y10.1.1.toNat)), ()), ((y27.2.1.1, (y27.2.1.2.1, (y27.2.1.2.2.1, ()))), ((), ()))))))))
 (ck (decide (0 ≤ y10.1.1) && decide (y10.1.1 ≤ (x1.length : Int)) && decide ((x1.length : Int) ≤ x1.length)) (ck (decide (([IntKind.u8.wrap y27.1.1].length + ((x1.take (x1.length : Int).toNat).drop y10.1.1.toNat).length) * 1 ≤ big47)) (ck (decide (((([] : List Int) ++ ((x1.take y10.1.1.toNat).drop (0 : Int).toNat)).length + ([IntKind.u8.wrap y27.1.1] ++ ((x1.take (x1.length : Int).toNat).drop y10.1.1.toNat)).length) * 1 ≤ big47)) (some (((([] : List Int) ++ ((x1.take y10.1.1.toNat).drop (0 : Int).toNat)) ++ ([IntKind.u8.wrap y27.1.1] ++ ((x1.take (x1.length : Int).toNat).drop y10.1.1.toNat)), ()), ((y27.2.1.1, (y27.2.1.2.1, (y27.2.1.2.2.1, ()))), ((), ()))))))))
 (ck (decide (0 ≤ y10.1.1) && decide (y10.1.1 ≤ (x1.length : Int)) && decide ((x1.length : Int) ≤ x1.length)) ((spec_l1PickInt_F ((y12.2.1.1, (y12.2.1.2.1, (y12.2.1.2.2.1, ()))), ([(0 : Int), (1 : Int), (128 : Int), (3 : Int)], ()))).bind fun y27 =>
 ck (decide (([IntKind.u8.wrap y27.1.1].length + ((x1.take (x1.length : Int).toNat).drop y10.1.1.toNat).length) * 1 ≤ big47)) (ck (decide (((([] : List Int) ++ ((x1.take y10.1.1.toNat).drop (0 : Int).toNat)).length + ([IntKind.u8.wrap y27.1.1] ++ ((x1.take (x1.length : Int).toNat).drop y10.1.1.toNat)).length) * 1 ≤ big47)) (some (((([] : List Int) ++ ((x1.take y10.1.1.toNat).drop (0 : Int).toNat)) ++ ([IntKind.u8.wrap y27.1.1] ++ ((x1.take (x1.length : Int).toNat).drop y10.1.1.toNat)), ()), ((y27.2.1.1, (y27.2.1.2.1, (y27.2.1.2.2.1, ()))), ((), ()))))))))
 (ck (decide (0 ≤ y10.1.1) && decide (y10.1.1 ≤ (x1.length : Int)) && decide ((x1.length : Int) ≤ x1.length)) ((spec_l1PickInt_F ((y12.2.1.1, (y12.2.1.2.1, (y12.2.1.2.2.1, ()))), ([(0 : Int), (1 : Int), (128 : Int), (3 : Int)], ()))).bind fun y27 =>
 ck (decide (([IntKind.u8.wrap y27.1.1].length + ((x1.take (x1.length : Int).toNat).drop y10.1.1.toNat).length) * 1 ≤ big47)) (ck (decide (((([] : List Int) ++ ((x1.take y10.1.1.toNat).drop (0 : Int).toNat)).length + ([IntKind.u8.wrap y27.1.1] ++ ((x1.take (x1.length : Int).toNat).drop y10.1.1.toNat)).length) * 1 ≤ big47)) (some (((([] : List Int) ++ ((x1.take y10.1.1.toNat).drop (0 : Int).toNat)) ++ ([IntKind.u8.wrap y27.1.1] ++ ((x1.take (x1.length : Int).toNat).drop y10.1.1.toNat)), ()), ((y27.2.1.1, (y27.2.1.2.1, (y27.2.1.2.2.1, ()))), ((), ())))))))))
 (both (both (ck (decide ((([] : List Int).length + ((x1.take y10.1.1.toNat).drop (0 : Int).toNat).length) * 1 ≤ big47)) (both ((spec_l1PickInt_F ((y12.2.1.1, (y12.2.1.2.1, (y12.2.1.2.2.1, ()))), ([(0 : Int), (1 : Int), (128 : Int), (3 : Int)], ()))).bind fun y27 =>
 both (both (ck (decide (0 ≤ y10.1.1) && decide (y10.1.1 ≤ (x1.length : Int)) && decide ((x1.length : Int) ≤ x1.length)) (ck (decide (([IntKind.u8.wrap y27.1.1].length + ((x1.take (x1.length : Int).toNat).drop y10.1.1.toNat).length) * 1 ≤ big47)) (ck (decide (((([] : List Int) ++ ((x1.take y10.1.1.toNat).drop (0 : Int).toNat)).length + ([IntKind.u8.wrap y27.1.1] ++ ((x1.take (x1.length : Int).toNat).drop y10.1.1.toNat)).length) * 1 ≤ big47)) (some (((([] : List Int) ++ ((x1.take y10.1.1.toNat).drop (0 : Int).toNat)) ++ ([IntKind.u8.wrap y27.1.1] ++ ((x1.take (x1.length : Int).toNat).drop y10.1.1.toNat)), ()), ((y27.2.1.1, (y27.2.1.2.1, (y27.2.1.2.2.1, ()))), ((), ())))))))
 (ck (decide (0 ≤ y10.1.1) && decide (y10.1.1 ≤ (x1.length : Int)) && decide ((x1.length : Int) ≤ x1.length)) (ck (decide (([IntKind.u8.wrap y27.1.1].length + ((x1.take (x1.length : Int).toNat).drop y10.1.1.toNat).length) * 1 ≤ big47)) (ck (decide (((([] : List Int) ++ ((x1.take y10.1.1.toNat).drop (0 : Int).toNat)).length + ([IntKind.u8.wrap y27.1.1] ++ ((x1.take (x1.length : Int).toNat).drop y10.1.1.toNat)).length) * 1 ≤ big47)) (some (((([] : List Int) ++ ((x1.take y10.1.1.toNat).drop (0 : Int).toNat)) ++ ([IntKind.u8.wrap y27.1.1] ++ ((x1.take (x1.length : Int).toNat).drop y10.1.1.toNat)), ()), ((y27.2.1.1, (y27.2.1.2.1, (y27.2.1.2.2.1, ()))), ((), ()))))))))
 (ck (decide (0 ≤ y10.1.1) && decide (y10.1.1 ≤ (x1.length : Int)) && decide ((x1.length : Int) ≤ x1.length)) (ck (decide (([IntKind.u8.wrap y27.1.1].length + ((x1.take (x1.length : Int).toNat).drop y10.1.1.toNat).length) * 1 ≤ big47)) (ck (decide (((([] : List Int) ++ ((x1.take y10.1.1.toNat).drop (0 : Int).toNat)).length + ([IntKind.u8.wrap y27.1.1] ++ ((x1.take (x1.length : Int).toNat).drop y10.1.1.toNat)).length) * 1 ≤ big47)) (some (((([] : List Int) ++ ((x1.take y10.1.1.toNat).drop (0 : Int).toNat)) ++ ([IntKind.u8.wrap y27.1.1] ++ ((x1.take (x1.length : Int).toNat).drop y10.1.1.toNat)), ()), ((y27.2.1.1, (y27.2.1.2.1, (y27.2.1.2.2.1, ()))), ((), ()))))))))
 (ck (decide (0 ≤ y10.1.1) && decide (y10.1.1 ≤ (x1.length : Int)) && decide ((x1.length : Int) ≤ x1.length)) ((spec_l1PickInt_F ((y12.2.1.1, (y12.2.1.2.1, (y12.2.1.2.2.1, ()))), ([(0 : Int), (1 : Int), (128 : Int), (3 : Int)], ()))).bind fun y27 =>
 ck (decide (([IntKind.u8.wrap y27.1.1].length + ((x1.take (x1.length : Int).toNat).drop y10.1.1.toNat).length) * 1 ≤ big47)) (ck (decide (((([] : List Int) ++ ((x1.take y10.1.1.toNat).drop (0 : Int).toNat)).length + ([IntKind.u8.wrap y27.1.1] ++ ((x1.take (x1.length : Int).toNat).drop y10.1.1.toNat)).length) * 1 ≤ big47)) (some (((([] : List Int) ++ ((x1.take y10.1.1.toNat).drop (0 : Int).toNat)) ++ ([IntKind.u8.wrap y27.1.1] ++ ((x1.take (x1.length : Int).toNat).drop y10.1.1.toNat)), ()), ((y27.2.1.1, (y27.2.1.2.1, (y27.2.1.2.2.1, ()))), ((), ())))))))))
 (ck (decide (0 ≤ y10.1.1) && decide (y10.1.1 ≤ (x1.length : Int)) && decide ((x1.length : Int) ≤ x1.length)) (ck (decide ((([] : List Int).length + ((x1.take y10.1.1.toNat).drop (0 : Int).toNat).length) * 1 ≤ big47)) ((spec_l1PickInt_F ((y12.2.1.1, (y12.2.1.2.1, (y12.2.1.2.2.1, ()))), ([(0 : Int), (1 : Int), (128 : Int), (3 : Int)], ()))).bind fun y27 =>
 ck (decide (([IntKind.u8.wrap y27.1.1].length + ((x1.take (x1.length : Int).toNat).drop y10.1.1.toNat).length) * 1 ≤ big47)) (ck (decide (((([] : List Int) ++ ((x1.take y10.1.1.toNat).drop (0 : Int).toNat)).length + ([IntKind.u8.wrap y27.1.1] ++ ((x1.take (x1.length : Int).toNat).drop y10.1.1.toNat)).length) * 1 ≤ big47)) (some (((([] : List Int) ++ ((x1.take y10.1.1.toNat).drop (0 : Int).toNat)) ++ ([IntKind.u8.wrap y27.1.1] ++ ((x1.take (x1.length : Int).toNat).drop y10.1.1.toNat)), ()), ((y27.2.1.1, (y27.2.1.2.1, (y27.2.1.2.2.1, ()))), ((), ())))))))))
 (ck (decide (0 ≤ y10.1.1) && decide (y10.1.1 ≤ (x1.length : Int)) && decide ((x1.length : Int) ≤ x1.length)) (both (ck (decide ((([] : List Int).length + ((x1.take y10.1.1.toNat).drop (0 : Int).toNat).length) * 1 ≤ big47)) ((spec_l1PickInt_F ((y12.2.1.1, (y12.2.1.2.1, (y12.2.1.2.2.1, ()))), ([(0 : Int), (1 : Int), (128 : Int), (3 : Int)], ()))).bind fun y27 =>
 ck (decide (([IntKind.u8.wrap y27.1.1].length + ((x1.take (x1.length : Int).toNat).drop y10.1.1.toNat).length) * 1 ≤ big47)) (ck (decide (((([] : List Int) ++ ((x1.take y10.1.1.toNat).drop (0 : Int).toNat)).length + ([IntKind.u8.wrap y27.1.1] ++ ((x1.take (x1.length : Int).toNat).drop y10.1.1.toNat)).length) * 1 ≤ big47)) (some (((([] : List Int) ++ ((x1.take y10.1.1.toNat).drop (0 : Int).toNat)) ++ ([IntKind.u8.wrap y27.1.1] ++ ((x1.take (x1.length : Int).toNat).drop y10.1.1.toNat)), ()), ((y27.2.1.1, (y27.2.1.2.1, (y27.2.1.2.2.1, ()))), ((), ())))))))
 (ck (decide ((([] : List Int).length + ((x1.take y10.1.1.toNat).drop (0 : Int).toNat).length) * 1 ≤ big47)) ((spec_l1PickInt_F ((y12.2.1.1, (y12.2.1.2.1, (y12.2.1.2.2.1, ()))), ([(0 : Int), (1 : Int), (128 : Int), (3 : Int)], ()))).bind fun y27 =>
 ck (decide (([IntKind.u8.wrap y27.1.1].length + ((x1.take (x1.length : Int).toNat).drop y10.1.1.toNat).length) * 1 ≤ big47)) (ck (decide (((([] : List Int) ++ ((x1.take y10.1.1.toNat).drop (0 : Int).toNat)).length + ([IntKind.u8.wrap y27.1.1] ++ ((x1.take (x1.length : Int).toNat).drop y10.1.1.toNat)).length) * 1 ≤ big47)) (some (((([] : List Int) ++ ((x1.take y10.1.1.toNat).drop (0 : Int).toNat)) ++ ([IntKind.u8.wrap y27.1.1] ++ ((x1.take (x1.length : Int).toNat).drop y10.1.1.toNat)), ()), ((y27.2.1.1, (y27.2.1.2.1, (y27.2.1.2.2.1, ()))), ((), ())))))))))))
 (both (both (both (ck (decide ((([] : List Int).length + ((x1.take y10.1.1.toNat).drop (0 : Int).toNat).length) * 1 ≤ big47)) (both ((spec_l1PickInt_F ((y12.2.1.1, (y12.2.1.2.1, (y12.2.1.2.2.1, ()))), ([(0 : Int), (1 : Int), (128 : Int), (3 : Int)], ()))).bind fun y27 =>
 both (both (ck (decide (0 ≤ y10.1.1) && decide (y10.1.1 ≤ (x1.length : Int)) && decide ((x1.length : Int) ≤ x1.length)) (ck (decide (([IntKind.u8.wrap y27.1.1].length + ((x1.take (x1.length : Int).toNat).drop y10.1.1.toNat).length) * 1 ≤ big47)) (ck (decide (((([] : List Int) ++ ((x1.take y10.1.1.toNat).drop (0 : Int).toNat)).length + ([IntKind.u8.wrap y27.1.1] ++ ((x1.take (x1.length : Int).toNat).drop y10.1.1.toNat)).length) * 1 ≤ big47)) (some (((([] : List Int) ++ ((x1.take y10.1.1.toNat).drop (0 : Int).toNat)) ++ ([IntKind.u8.wrap y27.1.1] ++ ((x1.take (x1.length : Int).toNat).drop y10.1.1.toNat)), ()), ((y27.2.1.1, (y27.2.1.2.1, (y27.2.1.2.2.1, ()))), ((), ())))))))
 (ck (decide (0 ≤ y10.1.1) && decide (y10.1.1 ≤ (x1.length : Int)) && decide ((x1.length : Int) ≤ x1.length)) (ck (decide (([IntKind.u8.wrap y27.1.1].length + ((x1.take (x1.length : Int).toNat).drop y10.1.1.toNat).length) * 1 ≤ big47)) (ck (decide (((([] : List Int) ++ ((x1.take y10.1.1.toNat).drop (0 : Int).toNat)).length + ([IntKind.u8.wrap y27.1.1] ++ ((x1.take (x1.length : Int).toNat).drop y10.1.1.toNat)).length) * 1 ≤ big47)) (some (((([] : List Int) ++ ((x1.take y10.1.1.toNat).drop (0 : Int).toNat)) ++ ([IntKind.u8.wrap y27.1.1] ++ ((x1.take (x1.length : Int).toNat).drop y10.1.1.toNat)), ()), ((y27.2.1.1, (y27.2.1.2.1, (y27.2.1.2.2.1, ()))), ((), ()))))))))
 (ck (decide (0 ≤ y10.1.1) && decide (y10.1.1 ≤ (x1.length : Int)) && decide ((x1.length : Int) ≤ x1.length)) (ck (decide (([IntKind.u8.wrap y27.1.1].length + ((x1.take (x1.length : Int).toNat).drop y10.1.1.toNat).length) * 1 ≤ big47)) (ck (decide (((([] : List Int) ++ ((x1.take y10.1.1.toNat).drop (0 : Int).toNat)).length + ([IntKind.u8.wrap y27.1.1] ++ ((x1.take (x1.length : Int).toNat).drop y10.1.1.toNat)).length) * 1 ≤ big47)) (some (((([] : List Int) ++ ((x1.take y10.1.1.toNat).drop (0 : Int).toNat)) ++ ([IntKind.u8.wrap y27.1.1] ++ ((x1.take (x1.length : Int).toNat).drop y10.1.1.toNat)), ()), ((y27.2.1.1, (y27.2.1.2.1, (y27.2.1.2.2.1, ()))), ((), ()))))))))
 (ck (decide (0 ≤ y10.1.1) && decide (y10.1.1 ≤ (x1.length : Int)) && decide ((x1.length : Int) ≤ x1.length)) ((spec_l1PickInt_F ((y12.2.1.1, (y12.2.1.2.1, (y12.2.1.2.2.1, ()))), ([(0 : Int), (1 : Int), (128 : Int), (3 : Int)], ()))).bind fun y27 =>
 ck (decide (([IntKind.u8.wrap y27.1.1].length + ((x1.take (x1.length : Int).toNat).drop y10.1.1.toNat).length) * 1 ≤ big47)) (ck (decide (((([] : List Int) ++ ((x1.take y10.1.1.toNat).drop (0 : Int).toNat)).length + ([IntKind.u8.wrap y27.1.1] ++ ((x1.take (x1.length : Int).toNat).drop y10.1.1.toNat)).length) * 1 ≤ big47)) (some (((([] : List Int) ++ ((x1.take y10.1.1.toNat).drop (0 : Int).toNat)) ++ ([IntKind.u8.wrap y27.1.1] ++ ((x1.take (x1.length : Int).toNat).drop y10.1.1.toNat)), ()), ((y27.2.1.1, (y27.2.1.2.1, (y27.2.1.2.2.1, ()))), ((), ())))))))))
 (ck (decide (0 ≤ y10.1.1) && decide (y10.1.1 ≤ (x1.length : Int)) && decide ((x1.length : Int) ≤ x1.length)) (ck (decide ((([] : List Int).length + ((x1.take y10.1.1.toNat).drop (0 : Int).toNat).length) * 1 ≤ big47)) ((spec_l1PickInt_F ((y12.2.1.1, (y12.2.1.2.1, (y12.2.1.2.2.1, ()))), ([(0 : Int), (1 : Int), (128 : Int), (3 : Int)], ()))).bind fun y27 =>
 ck (decide (([IntKind.u8.wrap y27.1.1].length + ((x1.take (x1.length : Int).toNat).drop y10.1.1.toNat).length) * 1 ≤ big47)) (ck (decide (((([] : List Int) ++ ((x1.take y10.1.1.toNat).drop (0 : Int).toNat)).length + ([IntKind.u8.wrap y27.1.1] ++ ((x1.take (x1.length : Int).toNat).drop y10.1.1.toNat)).length) * 1 ≤ big47)) (some (((([] : List Int) ++ ((x1.take y10.1.1.toNat).drop (0 : Int).toNat)) ++ ([IntKind.u8.wrap y27.1.1] ++ ((x1.take (x1.length : Int).toNat).drop y10.1.1.toNat)), ()), ((y27.2.1.1, (y27.2.1.2.1, (y27.2.1.2.2.1, ()))), ((), ())))))))))
 (ck (decide (0 ≤ y10.1.1) && decide (y10.1.1 ≤ (x1.length : Int)) && decide ((x1.length : Int) ≤ x1.length)) (ck (decide ((([] : List Int).length + ((x1.take y10.1.1.toNat).drop (0 : Int).toNat).length) * 1 ≤ big47)) ((spec_l1PickInt_F ((y12.2.1.1, (y12.2.1.2.1, (y12.2.1.2.2.1, ()))), ([(0 : Int), (1 : Int), (128 : Int), (3 : Int)], ()))).bind fun y27 =>
 ck (decide (([IntKind.u8.wrap y27.1.1].length + ((x1.take (x1.length : Int).toNat).drop y10.1.1.toNat).length) * 1 ≤ big47)) (ck (decide (((([] : List Int) ++ ((x1.take y10.1.1.toNat).drop (0 : Int).toNat)).length + ([IntKind.u8.wrap y27.1.1] ++ ((x1.take (x1.length : Int).toNat).drop y10.1.1.toNat)).length) * 1 ≤ big47)) (some (((([] : List Int) ++ ((x1.take y10.1.1.toNat).drop (0 : Int).toNat)) ++ ([IntKind.u8.wrap y27.1.1] ++ ((x1.take (x1.length : Int).toNat).drop y10.1.1.toNat)), ()), ((y27.2.1.1, (y27.2.1.2.1, (y27.2.1.2.2.1, ()))), ((), ())))))))))
 (ck (decide (0 ≤ y10.1.1) && decide (y10.1.1 ≤ (x1.length : Int)) && decide ((x1.length : Int) ≤ x1.length)) (both (both (ck (decide ((([] : List Int).length + ((x1.take y10.1.1.toNat).drop (0 : Int).toNat).length) * 1 ≤ big47)) ((spec_l1PickInt_F ((y12.2.1.1, (y12.2.1.2.1, (y12.2.1.2.2.1, ()))), ([(0 : Int), (1 : Int), (128 : Int), (3 : Int)], ()))).bind fun y27 =>
 ck (decide (([IntKind.u8.wrap y27.1.1].length + ((x1.take (x1.length : Int).toNat).drop y10.1.1.toNat).length) * 1 ≤ big47)) (ck (decide (((([] : List Int) ++ ((x1.take y10.1.1.toNat).drop (0 : Int).toNat)).length + ([IntKind.u8.wrap y27.1.1] ++ ((x1.take (x1.length : Int).toNat).drop y10.1.1.toNat)).length) * 1 ≤ big47)) (some (((([] : List Int) ++ ((x1.take y10.1.1.toNat).drop (0 : Int).toNat)) ++ ([IntKind.u8.wrap y27.1.1] ++ ((x1.take (x1.length : Int).toNat).drop y10.1.1.toNat)), ()), ((y27.2.1.1, (y27.2.1.2.1, (y27.2.1.2.2.1, ()))), ((), ())))))))
 (ck (decide ((([] : List Int).length + ((x1.take y10.1.1.toNat).drop (0 : Int).toNat).length) * 1 ≤ big47)) ((spec_l1PickInt_F ((y12.2.1.1, (y12.2.1.2.1, (y12.2.1.2.2.1, ()))), ([(0 : Int), (1 : Int), (128 : Int), (3 : Int)], ()))).bind fun y27 =>
 ck (decide (([IntKind.u8.wrap y27.1.1].length + ((x1.take (x1.length : Int).toNat).drop y10.1.1.toNat).length) * 1 ≤ big47)) (ck (decide (((([] : List Int) ++ ((x1.take y10.1.1.toNat).drop (0 : Int).toNat)).length + ([IntKind.u8.wrap y27.1.1] ++ ((x1.take (x1.length : Int).toNat).drop y10.1.1.toNat)).length) * 1 ≤ big47)) (some (((([] : List Int) ++ ((x1.take y10.1.1.toNat).drop (0 : Int).toNat)) ++ ([IntKind.u8.wrap y27.1.1] ++ ((x1.take (x1.length : Int).toNat).drop y10.1.1.toNat)), ()), ((y27.2.1.1, (y27.2.1.2.1, (y27.2.1.2.2.1, ()))), ((), ()))))))))
 (ck (decide ((([] : List Int).length + ((x1.take y10.1.1.toNat).drop (0 : Int).toNat).length) * 1 ≤ big47)) ((spec_l1PickInt_F ((y12.2.1.1, (y12.2.1.2.1, (y12.2.1.2.2.1, ()))), ([(0 : Int), (1 : Int), (128 : Int), (3 : Int)], ()))).bind fun y27 =>
 ck (decide (([IntKind.u8.wrap y27.1.1].length + ((x1.take (x1.length : Int).toNat).drop y10.1.1.toNat).length) * 1 ≤ big47)) (ck (decide (((([] : List Int) ++ ((x1.take y10.1.1.toNat).drop (0 : Int).toNat)).length + ([IntKind.u8.wrap y27.1.1] ++ ((x1.take (x1.length : Int).toNat).drop y10.1.1.toNat)).length) * 1 ≤ big47)) (some (((([] : List Int) ++ ((x1.take y10.1.1.toNat).drop (0 : Int).toNat)) ++ ([IntKind.u8.wrap y27.1.1] ++ ((x1.take (x1.length : Int).toNat).drop y10.1.1.toNat)), ()), ((y27.2.1.1, (y27.2.1.2.1, (y27.2.1.2.2.1, ()))), ((), ()))))))))))))
 (both (both (both (ck (decide (0 ≤ (0 : Int)) && decide ((0 : Int) ≤ y10.1.1) && decide (y10.1.1 ≤ x1.length)) (both (ck (decide ((([] : List Int).length + ((x1.take y10.1.1.toNat).drop (0 : Int).toNat).length) * 1 ≤ big47)) (both ((spec_l1PickInt_F ((y12.2.1.1, (y12.2.1.2.1, (y12.2.1.2.2.1, ()))), ([(0 : Int), (1 : Int), (128 : Int), (3 : Int)], ()))).bind fun y27 =>
 both (both (ck (decide (0 ≤ y10.1.1) && decide (y10.1.1 ≤ (x1.length : Int)) && decide ((x1.length : Int) ≤ x1.length)) (ck (decide (([IntKind.u8.wrap y27.1.1].length + ((x1.take (x1.length : Int).toNat).drop y10.1.1.toNat).length) * 1 ≤ big47)) (ck (decide (((([] : List Int) ++ ((x1.take y10.1.1.toNat).drop (0 : Int).toNat)).length + ([IntKind.u8.wrap y27.1.1] ++ ((x1.take (x1.length : Int).toNat).drop y10.1.1.toNat)).length) * 1 ≤ big47)) (some (((([] : List Int) ++ ((x1.take y10.1.1.toNat).drop (0 : Int).toNat)) ++ ([IntKind.u8.wrap y27.1.1] ++ ((x1.take (x1.length : Int).toNat).drop y10.1.1.toNat)), ()), ((y27.2.1.1, (y27.2.1.2.1, (y27.2.1.2.2.1, ()))), ((), ())))))))
 (ck (decide (0 ≤ y10.1.1) && decide (y10.1.1 ≤ (x1.length : Int)) && decide ((x1.length : Int) ≤ x1.length)) (ck (decide (([IntKind.u8.wrap y27.1.1].length + ((x1.take (x1.length : Int).toNat).drop y10.1.1.toNat).length) * 1 ≤ big47)) (ck (decide (((([] : List Int) ++ ((x1.take y10.1.1.toNat).drop (0 : Int).toNat)).length + ([IntKind.u8.wrap y27.1.1] ++ ((x1.take (x1.length : Int).toNat).drop y10.1.1.toNat)).length) * 1 ≤ big47)) (some (((([] : List Int) ++ ((x1.take y10.1.1.toNat).drop (0 : Int).toNat)) ++ ([IntKind.u8.wrap y27.1.1] ++ ((x1.take (x1.length : Int).toNat).drop y10.1.1.toNat)), ()), ((y27.2.1.1, (y27.2.1.2.1, (y27.2.1.2.2.1, ()))), ((), ()))))))))
 (ck (decide (0 ≤ y10.1.1) && decide (y10.1.1 ≤ (x1.length : Int)) && decide ((x1.length : Int) ≤ x1.length)) (ck (decide (([IntKind.u8.wrap y27.1.1].length + ((x1.take (x1.length : Int).toNat).drop y10.1.1.toNat).length) * 1 ≤ big47)) (ck (decide (((([] : List Int) ++ ((x1.take y10.1.1.toNat).drop (0 : Int).toNat)).length + ([IntKind.u8.wrap y27.1.1] ++ ((x1.take (x1.length : Int).toNat).drop y10.1.1.toNat)).length) * 1 ≤ big47)) (some (((([] : List Int) ++ ((x1.take y10.1.1.toNat).drop (0 : Int).toNat)) ++ ([IntKind.u8.wrap y27.1.1] ++ ((x1.take (x1.length : Int).toNat).drop y10.1.1.toNat)), ()), ((y27.2.1.1, (y27.2.1.2.1, (y27.2.1.2.2.1, ()))), ((), ()))))))))
 (ck (decide (0 ≤ y10.1.1) && decide (y10.1.1 ≤ (x1.length : Int)) && decide ((x1.length : Int) ≤ x1.length)) ((spec_l1PickInt_F ((y12.2.1.1, (y12.2.1.2.1, (y12.2.1.2.2.1, ()))), ([(0 : Int), (1 : Int), (128 : Int), (3 : Int)], ()))).bind fun y27 =>
 ck (decide (([IntKind.u8.wrap y27.1.1].length + ((x1.take (x1.length : Int).toNat).drop y10.1.1.toNat).length) * 1 ≤ big47)) (ck (decide (((([] : List Int) ++ ((x1.take y10.1.1.toNat).drop (0 : Int).toNat)).length + ([IntKind.u8.wrap y27.1.1] ++ ((x1.take (x1.length : Int).toNat).drop y10.1.1.toNat)).length) * 1 ≤ big47)) (some (((([] : List Int) ++ ((x1.take y10.1.1.toNat).drop (0 : Int).toNat)) ++ ([IntKind.u8.wrap y27.1.1] ++ ((x1.take (x1.length : Int).toNat).drop y10.1.1.toNat)), ()), ((y27.2.1.1, (y27.2.1.2.1, (y27.2.1.2.2.1, ()))), ((), ())))))))))
 (ck (decide (0 ≤ y10.1.1) && decide (y10.1.1 ≤ (x1.length : Int)) && decide ((x1.length : Int) ≤ x1.length)) (ck (decide ((([] : List Int).length + ((x1.take y10.1.1.toNat).drop (0 : Int).toNat).length) * 1 ≤ big47)) ((spec_l1PickInt_F ((y12.2.1.1, (y12.2.1.2.1, (y12.2.1.2.2.1, ()))), ([(0 : Int), (1 : Int), (128 : Int), (3 : Int)], ()))).bind fun y27 =>
 ck (decide (([IntKind.u8.wrap y27.1.1].length + ((x1.take (x1.length : Int).toNat).drop y10.1.1.toNat).length) * 1 ≤ big47)) (ck (decide (((([] : List Int) ++ ((x1.take y10.1.1.toNat).drop (0 : Int).toNat)).length + ([IntKind.u8.wrap y27.1.1] ++ ((x1.take (x1.length : Int).toNat).drop y10.1.1.toNat)).length) * 1 ≤ big47)) (some (((([] : List Int) ++ ((x1.take y10.1.1.toNat).drop (0 : Int).toNat)) ++ ([IntKind.u8.wrap y27.1.1] ++ ((x1.take (x1.length : Int).toNat).drop y10.1.1.toNat)), ()), ((y27.2.1.1, (y27.2.1.2.1, (y27.2.1.2.2.1, ()))), ((), ()))))))))))
 (ck (decide (0 ≤ y10.1.1) && decide (y10.1.1 ≤ (x1.length : Int)) && decide ((x1.length : Int) ≤ x1.length)) (ck (decide (0 ≤ (0 : Int)) && decide ((0 : Int) ≤ y10.1.1) && decide (y10.1.1 ≤ x1.length)) (ck (decide ((([] : List Int).length + ((x1.take y10.1.1.toNat).drop (0 : Int).toNat).length) * 1 ≤ big47)) ((spec_l1PickInt_F ((y12.2.1.1, (y12.2.1.2.1, (y12.2.1.2.2.1, ()))), ([(0 : Int), (1 : Int), (128 : Int), (3 : Int)], ()))).bind fun y27 =>
 ck (decide (([IntKind.u8.wrap y27.1.1].length + ((x1.take (x1.length : Int).toNat).drop y10.1.1.toNat).length) * 1 ≤ big47)) (ck (decide (((([] : List Int) ++ ((x1.take y10.1.1.toNat).drop (0 : Int).toNat)).length + ([IntKind.u8.wrap y27.1.1] ++ ((x1.take (x1.length : Int).toNat).drop y10.1.1.toNat)).length) * 1 ≤ big47)) (some (((([] : List Int) ++ ((x1.take y10.1.1.toNat).drop (0 : Int).toNat)) ++ ([IntKind.u8.wrap y27.1.1] ++ ((x1.take (x1.length : Int).toNat).drop y10.1.1.toNat)), ()), ((y27.2.1.1, (y27.2.1.2.1, (y27.2.1.2.2.1, ()))), ((), ()))))))))))
 (both (ck (decide (0 ≤ (0 : Int)) && decide ((0 : Int) ≤ y10.1.1) && decide (y10.1.1 ≤ x1.length)) (both (both (ck (decide ((([] : List Int).length + ((x1.take y10.1.1.toNat).drop (0 : Int).toNat).length) * 1 ≤ big47)) (both ((spec_l1PickInt_F ((y12.2.1.1, (y12.2.1.2.1, (y12.2.1.2.2.1, ()))), ([(0 : Int), (1 : Int), (128 : Int), (3 : Int)], ()))).bind fun y27 =>
 both (both (ck (decide (0 ≤ y10.1.1) && decide (y10.1.1 ≤ (x1.length : Int)) && decide ((x1.length : Int) ≤ x1.length)) (ck (decide (([IntKind.u8.wrap y27.1.1].length + ((x1.take (x1.length : Int).toNat).drop y10.1.1.toNat).length) * 1 ≤ big47)) (ck (decide (((([] : List Int) ++ ((x1.take y10.1.1.toNat).drop (0 : Int).toNat)).length + ([IntKind.u8.wrap y27.1.1] ++ ((x1.take (x1.length : Int).toNat).drop y10.1.1.toNat)).length) * 1 ≤ big47)) (some (((([] : List Int) ++ ((x1.take y10.1.1.toNat).drop (0 : Int).toNat)) ++ ([IntKind.u8.wrap y27.1.1] ++ ((x1.take (x1.length : Int).toNat).drop y10.1.1.toNat)), ()), ((y27.2.1.1, (y27.2.1.2.1, (y27.2.1.2.2.1, ()))), ((), ())))))))
 (ck (decide (0 ≤ y10.1.1) && decide (y10.1.1 ≤ (x1.length : Int)) && decide ((x1.length : Int) ≤ x1.length)) (ck (decide (([IntKind.u8.wrap y27.1.1].length + ((x1.take (x1.length : Int).toNat).drop y10.1.1.toNat).length) * 1 ≤ big47)) (ck (decide (((([] : List Int) ++ ((x1.take y10.1.1.toNat).drop (0 : Int).toNat)).length + ([IntKind.u8.wrap y27.1.1] ++ ((x1.take (x1.length : Int).toNat).drop y10.1.1.toNat)).length) * 1 ≤ big47)) (some (((([] : List Int) ++ ((x1.take y10.1.1.toNat).drop (0 : Int).toNat)) ++ ([IntKind.u8.wrap y27.1.1] ++ ((x1.take (x1.length : Int).toNat).drop y10.1.1.toNat)), ()), ((y27.2.1.1, (y27.2.1.2.1, (y27.2.1.2.2.1, ()))), ((), ()))))))))
 (ck (decide (0 ≤ y10.1.1) && decide (y10.1.1 ≤ (x1.length : Int)) && decide ((x1.length : Int) ≤ x1.length)) (ck (decide (([IntKind.u8.wrap y27.1.1].length + ((x1.take (x1.length : Int).toNat).drop y10.1.1.toNat).length) * 1 ≤ big47)) (ck (decide (((([] : List Int) ++ ((x1.take y10.1.1.toNat).drop (0 : Int).toNat)).length + ([IntKind.u8.wrap y27.1.1] ++ ((x1.take (x1.length : Int).toNat).drop y10.1.1.toNat)).length) * 1 ≤ big47)) (some (((([] : List Int) ++ ((x1.take y10.1.1.toNat).drop (0 : Int).toNat)) ++ ([IntKind.u8.wrap y27.1.1] ++ ((x1.take (x1.length : Int).toNat).drop y10.1.1.toNat)), ()), ((y27.2.1.1, (y27.2.1.2.1, (y27.2.1.2.2.1, ()))), ((), ()))))))))
 (ck (decide (0 ≤ y10.1.1) && decide (y10.1.1 ≤ (x1.length : Int)) && decide ((x1.length : Int) ≤ x1.length)) ((spec_l1PickInt_F ((y12.2.1.1, (y12.2.1.2.1, (y12.2.1.2.2.1, ()))), ([(0 : Int), (1 : Int), (128 : Int), (3 : Int)], ()))).bind fun y27 =>
 ck (decide (([IntKind.u8.wrap y27.1.1].length + ((x1.take (x1.length : Int).toNat).drop y10.1.1.toNat).length) * 1 ≤ big47)) (ck (decide (((([] : List Int) ++ ((x1.take y10.1.1.toNat).drop (0 : Int).toNat)).length + ([IntKind.u8.wrap y27.1.1] ++ ((x1.take (x1.length : Int).toNat).drop y10.1.1.toNat)).length) * 1 ≤ big47)) (some (((([] : List Int) ++ ((x1.take y10.1.1.toNat).drop (0 : Int).toNat)) ++ ([IntKind.u8.wrap y27.1.1] ++ ((x1.take (x1.length : Int).toNat).drop y10.1.1.toNat)), ()), ((y27.2.1.1, (y27.2.1.2.1, (y27.2.1.2.2.1, ()))), ((), ())))))))))
 (ck (decide (0 ≤ y10.1.1) && decide (y10.1.1 ≤ (x1.length : Int)) && decide ((x1.length : Int) ≤ x1.length)) (ck (decide ((([] : List Int).length + ((x1.take y10.1.1.toNat).drop (0 : Int).toNat).length) * 1 ≤ big47)) ((spec_l1PickInt_F ((y12.2.1.1, (y12.2.1.2.1, (y12.2.1.2.2.1, ()))), ([(0 : Int), (1 : Int), (128 : Int), (3 : Int)], ()))).bind fun y27 =>
 ck (decide (([IntKind.u8.wrap y27.1.1].length + ((x1.take (x1.length : Int).toNat).drop y10.1.1.toNat).length) * 1 ≤ big47)) (ck (decide (((([] : List Int) ++ ((x1.take y10.1.1.toNat).drop (0 : Int).toNat)).length + ([IntKind.u8.wrap y27.1.1] ++ ((x1.take (x1.length : Int).toNat).drop y10.1.1.toNat)).length) * 1 ≤ big47)) (some (((([] : List Int) ++ ((x1.take y10.1.1.toNat).drop (0 : Int).toNat)) ++ ([IntKind.u8.wrap y27.1.1] ++ ((x1.take (x1.length : Int).toNat).drop y10.1.1.toNat)), ()), ((y27.2.1.1, (y27.2.1.2.1, (y27.2.1.2.2.1, ()))), ((), ())))))))))
 (ck (decide (0 ≤ y10.1.1) && decide (y10.1.1 ≤ (x1.length : Int)) && decide ((x1.length : Int) ≤ x1.length)) (ck (decide ((([] : List Int).length + ((x1.take y10.1.1.toNat).drop (0 : Int).toNat).length) * 1 ≤ big47)) ((spec_l1PickInt_F ((y12.2.1.1, (y12.2.1.2.1, (y12.2.1.2.2.1, ()))), ([(0 : Int), (1 : Int), (128 : Int), (3 : Int)], ()))).bind fun y27 =>
 ck (decide (([IntKind.u8.wrap y27.1.1].length + ((x1.take (x1.length : Int).toNat).drop y10.1.1.toNat).length) * 1 ≤ big47)) (ck (decide (((([] : List Int) ++ ((x1.take y10.1.1.toNat).drop (0 : Int).toNat)).length + ([IntKind.u8.wrap y27.1.1] ++ ((x1.take (x1.length : Int).toNat).drop y10.1.1.toNat)).length) * 1 ≤ big47)) (some (((([] : List Int) ++ ((x1.take y10.1.1.toNat).drop (0 : Int).toNat)) ++ ([IntKind.u8.wrap y27.1.1] ++ ((x1.take (x1.length : Int).toNat).drop y10.1.1.toNat)), ()), ((y27.2.1.1, (y27.2.1.2.1, (y27.2.1.2.2.1, ()))), ((), ()))))))))))
 (ck (decide (0 ≤ y10.1.1) && decide (y10.1.1 ≤ (x1.length : Int)) && decide ((x1.length : Int) ≤ x1.length)) (both (ck (decide (0 ≤ (0 : Int)) && decide ((0 : Int) ≤ y10.1.1) && decide (y10.1.1 ≤ x1.length)) (ck (decide ((([] : List Int).length + ((x1.take y10.1.1.toNat).drop (0 : Int).toNat).length) * 1 ≤ big47)) ((spec_l1PickInt_F ((y12.2.1.1, (y12.2.1.2.1, (y12.2.1.2.2.1, ()))), ([(0 : Int), (1 : Int), (128 : Int), (3 : Int)], ()))).bind fun y27 =>
 ck (decide (([IntKind.u8.wrap y27.1.1].length + ((x1.take (x1.length : Int).toNat).drop y10.1.1.toNat).length) * 1 ≤ big47)) (ck (decide (((([] : List Int) ++ ((x1.take y10.1.1.toNat).drop (0 : Int).toNat)).length + ([IntKind.u8.wrap y27.1.1] ++ ((x1.take (x1.length : Int).toNat).drop y10.1.1.toNat)).length) * 1 ≤ big47)) (some (((([] : List Int) ++ ((x1.take y10.1.1.toNat).drop (0 : Int).toNat)) ++ ([IntKind.u8.wrap y27.1.1] ++ ((x1.take (x1.length : Int).toNat).drop y10.1.1.toNat)), ()), ((y27.2.1.1, (y27.2.1.2.1, (y27.2.1.2.2.1, ()))), ((), ()))))))))
 (ck (decide (0 ≤ (0 : Int)) && decide ((0 : Int) ≤ y10.1.1) && decide (y10.1.1 ≤ x1.length)) (ck (decide ((([] : List Int).length + ((x1.take y10.1.1.toNat).drop (0 : Int).toNat).length) * 1 ≤ big47)) ((spec_l1PickInt_F ((y12.2.1.1, (y12.2.1.2.1, (y12.2.1.2.2.1, ()))), ([(0 : Int), (1 : Int), (128 : Int), (3 : Int)], ()))).bind fun y27 =>
 ck (decide (([IntKind.u8.wrap y27.1.1].length + ((x1.take (x1.length : Int).toNat).drop y10.1.1.toNat).length) * 1 ≤ big47)) (ck (decide (((([] : List Int) ++ ((x1.take y10.1.1.toNat).drop (0 : Int).toNat)).length + ([IntKind.u8.wrap y27.1.1] ++ ((x1.take (x1.length : Int).toNat).drop y10.1.1.toNat)).length) * 1 ≤ big47)) (some (((([] : List Int) ++ ((x1.take y10.1.1.toNat).drop (0 : Int).toNat)) ++ ([IntKind.u8.wrap y27.1.1] ++ ((x1.take (x1.length : Int).toNat).drop y10.1.1.toNat)), ()), ((y27.2.1.1, (y27.2.1.2.1, (y27.2.1.2.2.1, ()))), ((), ()))))))))))))
 (ck (decide (0 ≤ y10.1.1) && decide (y10.1.1 ≤ (x1.length : Int)) && decide ((x1.length : Int) ≤ x1.length)) (both (both (ck (decide (0 ≤ (0 : Int)) && decide ((0 : Int) ≤ y10.1.1) && decide (y10.1.1 ≤ x1.length)) (both (ck (decide ((([] : List Int).length + ((x1.take y10.1.1.toNat).drop (0 : Int).toNat).length) * 1 ≤ big47)) ((spec_l1PickInt_F ((y12.2.1.1, (y12.2.1.2.1, (y12.2.1.2.2.1, ()))), ([(0 : Int), (1 : Int), (128 : Int), (3 : Int)], ()))).bind fun y27 =>
 ck (decide (([IntKind.u8.wrap y27.1.1].length + ((x1.take (x1.length : Int).toNat).drop y10.1.1.toNat).length) * 1 ≤ big47)) (ck (decide (((([] : List Int) ++ ((x1.take y10.1.1.toNat).drop (0 : Int).toNat)).length + ([IntKind.u8.wrap y27.1.1] ++ ((x1.take (x1.length : Int).toNat).drop y10.1.1.toNat)).length) * 1 ≤ big47)) (some (((([] : List Int) ++ ((x1.take y10.1.1.toNat).drop (0 : Int).toNat)) ++ ([IntKind.u8.wrap y27.1.1] ++ ((x1.take (x1.length : Int).toNat).drop y10.1.1.toNat)), ()), ((y27.2.1.1, (y27.2.1.2.1, (y27.2.1.2.2.1, ()))), ((), ())))))))
 (ck (decide ((([] : List Int).length + ((x1.take y10.1.1.toNat).drop (0 : Int).toNat).length) * 1 ≤ big47)) ((spec_l1PickInt_F ((y12.2.1.1, (y12.2.1.2.1, (y12.2.1.2.2.1, ()))), ([(0 : Int), (1 : Int), (128 : Int), (3 : Int)], ()))).bind fun y27 =>
 ck (decide (([IntKind.u8.wrap y27.1.1].length + ((x1.take (x1.length : Int).toNat).drop y10.1.1.toNat).length) * 1 ≤ big47)) (ck (decide (((([] : List Int) ++ ((x1.take y10.1.1.toNat).drop (0 : Int).toNat)).length + ([IntKind.u8.wrap y27.1.1] ++ ((x1.take (x1.length : Int).toNat).drop y10.1.1.toNat)).length) * 1 ≤ big47)) (some (((([] : List Int) ++ ((x1.take y10.1.1.toNat).drop (0 : Int).toNat)) ++ ([IntKind.u8.wrap y27.1.1] ++ ((x1.take (x1.length : Int).toNat).drop y10.1.1.toNat)), ()), ((y27.2.1.1, (y27.2.1.2.1, (y27.2.1.2.2.1, ()))), ((), ())))))))))
 (ck (decide (0 ≤ (0 : Int)) && decide ((0 : Int) ≤ y10.1.1) && decide (y10.1.1 ≤ x1.length)) (ck (decide ((([] : List Int).length + ((x1.take y10.1.1.toNat).drop (0 : Int).toNat).length) * 1 ≤ big47)) ((spec_l1PickInt_F ((y12.2.1.1, (y12.2.1.2.1, (y12.2.1.2.2.1, ()))), ([(0 : Int), (1 : Int), (128 : Int), (3 : Int)], ()))).bind fun y27 =>
 ck (decide (([IntKind.u8.wrap y27.1.1].length + ((x1.take (x1.length : Int).toNat).drop y10.1.1.toNat).length) * 1 ≤ big47)) (ck (decide (((([] : List Int) ++ ((x1.take y10.1.1.toNat).drop (0 : Int).toNat)).length + ([IntKind.u8.wrap y27.1.1] ++ ((x1.take (x1.length : Int).toNat).drop y10.1.1.toNat)).length) * 1 ≤ big47)) (some (((([] : List Int) ++ ((x1.take y10.1.1.toNat).drop (0 : Int).toNat)) ++ ([IntKind.u8.wrap y27.1.1] ++ ((x1.take (x1.length : Int).toNat).drop y10.1.1.toNat)), ()), ((y27.2.1.1, (y27.2.1.2.1, (y27.2.1.2.2.1, ()))), ((), ())))))))))
 (both (ck (decide (0 ≤ (0 : Int)) && decide ((0 : Int) ≤ y10.1.1) && decide (y10.1.1 ≤ x1.length)) (both (both (ck (decide ((([] : List Int).length + ((x1.take y10.1.1.toNat).drop (0 : Int).toNat).length) * 1 ≤ big47)) ((spec_l1PickInt_F ((y12.2.1.1, (y12.2.1.2.1, (y12.2.1.2.2.1, ()))), ([(0 : Int), (1 : Int), (128 : Int), (3 : Int)], ()))).bind fun y27 =>
 ck (decide (([IntKind.u8.wrap y27.1.1].length + ((x1.take (x1.length : Int).toNat).drop y10.1.1.toNat).length) * 1 ≤ big47)) (ck (decide (((([] : List Int) ++ ((x1.take y10.1.1.toNat).drop (0 : Int).toNat)).length + ([IntKind.u8.wrap y27.1.1] ++ ((x1.take (x1.length : Int).toNat).drop y10.1.1.toNat)).length) * 1 ≤ big47)) (some (((([] : List Int) ++ ((x1.take y10.1.1.toNat).drop (0 : Int).toNat)) ++ ([IntKind.u8.wrap y27.1.1] ++ ((x1.take (x1.length : Int).toNat).drop y10.1.1.toNat)), ()), ((y27.2.1.1, (y27.2.1.2.1, (y27.2.1.2.2.1, ()))), ((), ())))))))
 (ck (decide ((([] : List Int).length + ((x1.take y10.1.1.toNat).drop (0 : Int).toNat).length) * 1 ≤ big47)) ((spec_l1PickInt_F ((y12.2.1.1, (y12.2.1.2.1, (y12.2.1.2.2.1, ()))), ([(0 : Int), (1 : Int), (128 : Int), (3 : Int)], ()))).bind fun y27 =>
 ck (decide (([IntKind.u8.wrap y27.1.1].length + ((x1.take (x1.length : Int).toNat).drop y10.1.1.toNat).length) * 1 ≤ big47)) (ck (decide (((([] : List Int) ++ ((x1.take y10.1.1.toNat).drop (0 : Int).toNat)).length + ([IntKind.u8.wrap y27.1.1] ++ ((x1.take (x1.length : Int).toNat).drop y10.1.1.toNat)).length) * 1 ≤ big47)) (some (((([] : List Int) ++ ((x1.take y10.1.1.toNat).drop (0 : Int).toNat)) ++ ([IntKind.u8.wrap y27.1.1] ++ ((x1.take (x1.length : Int).toNat).drop y10.1.1.toNat)), ()), ((y27.2.1.1, (y27.2.1.2.1, (y27.2.1.2.2.1, ()))), ((), ()))))))))
 (ck (decide ((([] : List Int).length + ((x1.take y10.1.1.toNat).drop (0 : Int).toNat).length) * 1 ≤ big47)) ((spec_l1PickInt_F ((y12.2.1.1, (y12.2.1.2.1, (y12.2.1.2.2.1, ()))), ([(0 : Int), (1 : Int), (128 : Int), (3 : Int)], ()))).bind fun y27 =>
 ck (decide (([IntKind.u8.wrap y27.1.1].length + ((x1.take (x1.length : Int).toNat).drop y10.1.1.toNat).length) * 1 ≤ big47)) (ck (decide (((([] : List Int) ++ ((x1.take y10.1.1.toNat).drop (0 : Int).toNat)).length + ([IntKind.u8.wrap y27.1.1] ++ ((x1.take (x1.length : Int).toNat).drop y10.1.1.toNat)).length) * 1 ≤ big47)) (some (((([] : List Int) ++ ((x1.take y10.1.1.toNat).drop (0 : Int).toNat)) ++ ([IntKind.u8.wrap y27.1.1] ++ ((x1.take (x1.length : Int).toNat).drop y10.1.1.toNat)), ()), ((y27.2.1.1, (y27.2.1.2.1, (y27.2.1.2.2.1, ()))), ((), ())))))))))
 (both (ck (decide (0 ≤ (0 : Int)) && decide ((0 : Int) ≤ y10.1.1) && decide (y10.1.1 ≤ x1.length)) (ck (decide ((([] : List Int).length + ((x1.take y10.1.1.toNat).drop (0 : Int).toNat).length) * 1 ≤ big47)) ((spec_l1PickInt_F ((y12.2.1.1, (y12.2.1.2.1, (y12.2.1.2.2.1, ()))), ([(0 : Int), (1 : Int), (128 : Int), (3 : Int)], ()))).bind fun y27 =>
 ck (decide (([IntKind.u8.wrap y27.1.1].length + ((x1.take (x1.length : Int).toNat).drop y10.1.1.toNat).length) * 1 ≤ big47)) (ck (decide (((([] : List Int) ++ ((x1.take y10.1.1.toNat).drop (0 : Int).toNat)).length + ([IntKind.u8.wrap y27.1.1] ++ ((x1.take (x1.length : Int).toNat).drop y10.1.1.toNat)).length) * 1 ≤ big47)) (some (((([] : List Int) ++ ((x1.take y10.1.1.toNat).drop (0 : Int).toNat)) ++ ([IntKind.u8.wrap y27.1.1] ++ ((x1.take (x1.length : Int).toNat).drop y10.1.1.toNat)), ()), ((y27.2.1.1, (y27.2.1.2.1, (y27.2.1.2.2.1, ()))), ((), ()))))))))
 (ck (decide (0 ≤ (0 : Int)) && decide ((0 : Int) ≤ y10.1.1) && decide (y10.1.1 ≤ x1.length)) (ck (decide ((([] : List Int).length + ((x1.take y10.1.1.toNat).drop (0 : Int).toNat).length) * 1 ≤ big47)) ((spec_l1PickInt_F ((y12.2.1.1, (y12.2.1.2.1, (y12.2.1.2.2.1, ()))), ([(0 : Int), (1 : Int), (128 : Int), (3 : Int)], ()))).bind fun y27 =>
 ck (decide (([IntKind.u8.wrap y27.1.1].length + ((x1.take (x1.length : Int).toNat).drop y10.1.1.toNat).length) * 1 ≤ big47)) (ck (decide (((([] : List Int) ++ ((x1.take y10.1.1.toNat).drop (0 : Int).toNat)).length + ([IntKind.u8.wrap y27.1.1] ++ ((x1.take (x1.length : Int).toNat).drop y10.1.1.toNat)).length) * 1 ≤ big47)) (some (((([] : List Int) ++ ((x1.take y10.1.1.toNat).drop (0 : Int).toNat)) ++ ([IntKind.u8.wrap y27.1.1] ++ ((x1.take (x1.length : Int).toNat).drop y10.1.1.toNat)), ()), ((y27.2.1.1, (y27.2.1.2.1, (y27.2.1.2.2.1, ()))), ((), ())))))))))))))))
 (some ((x1, ()), ((y12.2.1.1, (y12.2.1.2.1, (y12.2.1.2.2.1, ()))), ((), ()))))) := by kernel_rfl
/-! spec.l6Draw -/
noncomputable def spec_l6Draw_b : Code := bd Try.f49
def spec_l6Draw_T : List (Nat × Tm) := []
noncomputable def spec_l6Draw_E : Env := ⟨tt0, [(99, spec_l6DrawRight_C), (100, spec_l1Below_C), (101, spec_l4Dent_C)]⟩
noncomputable def spec_l6Draw_F : PsD [.st tL1Cur] → Option (RsD [.own tSlots] × PsO [.st tL1Cur]) := fun x => evFn spec_l6Draw_E spec_l6Draw_T Try.f49 spec_l6Draw_b [.st tL1Cur] [.own tSlots] x
@[reducible] noncomputable def spec_l6Draw_C : Ct := ⟨[.st tL1Cur], [.own tSlots], spec_l6Draw_F⟩
theorem spec_l6Draw_h (x : PsD [.st tL1Cur]) (y : RsD [.own tSlots] × PsO [.st tL1Cur]) (h : spec_l6Draw_F x = some y) : evFn spec_l6Draw_E spec_l6Draw_T Try.f49 spec_l6Draw_b [.st tL1Cur] [.own tSlots] x = some y := h
theorem spec_l6Draw_c : ∀ f c, get spec_l6Draw_E.ct f = some c → Sat Try.prog f c := ct_cons spec_l6DrawRight_S (ct_cons spec_l1Below_S (ct_cons spec_l4Dent_S (ct_nil)))
theorem spec_l6Draw_S : Sat Try.prog 49 spec_l6Draw_C := fn_ok2 (envOk _) spec_l6Draw_c mixedOk Try.func49 (by kernel_rfl : Try.f49.body = some spec_l6Draw_b) (by kernel_rfl) (by kernel_rfl) spec_l6Draw_h
noncomputable def spec_l6Draw_Ke  (x0 : List Int × Int × Int × Unit) : Ex → AS → Option (RsD [.own tSlots] × PsO [.st tL1Cur]) := endK spec_l6Draw_E Try.f49 [.st tL1Cur] [.own tSlots] (initL [.st tL1Cur] (x0, ()) 0).1
theorem spec_l6Draw_main (x0 : List Int × Int × Int × Unit) : spec_l6Draw_F (x0, ()) =
 (spec_l6DrawRight_F ((x0.1, (x0.2.1, (x0.2.2.1, ()))), ())).bind fun y5 =>
 (spec_l1Below_F ((y5.2.1.1, (y5.2.1.2.1, (y5.2.1.2.2.1, ()))), ((8 : Int), ()))).bind fun y7 =>
 brk (decide (y7.1.1 = (0 : Int)))
 ((spec_l4Dent_F ((y7.2.1.1, (y7.2.1.2.1, (y7.2.1.2.2.1, ()))), (y5.1.1.1, ()))).bind fun y13 =>
 some (((y13.1.1, (y5.1.1.2.1, ())), ()), ((y13.2.1.1, (y13.2.1.2.1, (y13.2.1.2.2.1, ()))), ())))
 (brk (decide (y7.1.1 = (1 : Int)))
 ((spec_l4Dent_F ((y7.2.1.1, (y7.2.1.2.1, (y7.2.1.2.2.1, ()))), (y5.1.1.2.1, ()))).bind fun y20 =>
 some (((y5.1.1.1, (y20.1.1, ())), ()), ((y20.2.1.1, (y20.2.1.2.1, (y20.2.1.2.2.1, ()))), ())))
 (brk (decide (y7.1.1 = (2 : Int)))
 (ck (decide ((y5.1.1.1.length + [(9 : Int)].length) * 1 ≤ big47)) (some (((y5.1.1.1 ++ [(9 : Int)], (y5.1.1.2.1, ())), ()), ((y7.2.1.1, (y7.2.1.2.1, (y7.2.1.2.2.1, ()))), ()))))
 (some (((y5.1.1.1, (y5.1.1.2.1, ())), ()), ((y7.2.1.1, (y7.2.1.2.1, (y7.2.1.2.2.1, ()))), ()))))) := by kernel_rfl
/-! spec.DrawTear -/
noncomputable def spec_DrawTear_b : Code := bd Try.f12
def spec_DrawTear_T : List (Nat × Tm) := []
noncomputable def spec_DrawTear_E : Env := ⟨tt0, [(48, spec_l1New_C), (49, spec_l6Draw_C), (50, spec_l5DrawRight_C), (51, spec_l1PickInt_C)]⟩
noncomputable def spec_DrawTear_F : PsD [.ro tYs] → Option (RsD [.own tSlots, .own tMeta, .own tI] × PsO [.ro tYs]) := fun x => evFn spec_DrawTear_E spec_DrawTear_T Try.f12 spec_DrawTear_b [.ro tYs] [.own tSlots, .own tMeta, .own tI] x
@[reducible] noncomputable def spec_DrawTear_C : Ct := ⟨[.ro tYs], [.own tSlots, .own tMeta, .own tI], spec_DrawTear_F⟩
theorem spec_DrawTear_h (x : PsD [.ro tYs]) (y : RsD [.own tSlots, .own tMeta, .own tI] × PsO [.ro tYs]) (h : spec_DrawTear_F x = some y) : evFn spec_DrawTear_E spec_DrawTear_T Try.f12 spec_DrawTear_b [.ro tYs] [.own tSlots, .own tMeta, .own tI] x = some y := h
theorem spec_DrawTear_c : ∀ f c, get spec_DrawTear_E.ct f = some c → Sat Try.prog f c := ct_cons spec_l1New_S (ct_cons spec_l6Draw_S (ct_cons spec_l5DrawRight_S (ct_cons spec_l1PickInt_S (ct_nil))))
theorem spec_DrawTear_S : Sat Try.prog 12 spec_DrawTear_C := fn_ok2 (envOk _) spec_DrawTear_c mixedOk Try.func12 (by kernel_rfl : Try.f12.body = some spec_DrawTear_b) (by kernel_rfl) (by kernel_rfl) spec_DrawTear_h
noncomputable def spec_DrawTear_Ke  (x0 : List Int) : Ex → AS → Option (RsD [.own tSlots, .own tMeta, .own tI] × PsO [.ro tYs]) := endK spec_DrawTear_E Try.f12 [.ro tYs] [.own tSlots, .own tMeta, .own tI] (initL [.ro tYs] (x0, ()) 0).1
theorem spec_DrawTear_main (x0 : List Int) : spec_DrawTear_F (x0, ()) =
 (spec_l1New_F (x0, ())).bind fun y9 =>
 (spec_l6Draw_F ((y9.1.1.1, (y9.1.1.2.1, (y9.1.1.2.2.1, ()))), ())).bind fun y11 =>
 (spec_l5DrawRight_F ((y11.2.1.1, (y11.2.1.2.1, (y11.2.1.2.2.1, ()))), ())).bind fun y13 =>
 both (both ((spec_l1PickInt_F ((y13.2.1.1, (y13.2.1.2.1, (y13.2.1.2.2.1, ()))), ([(0 : Int), (1 : Int), (2 : Int), (5 : Int), (9 : Int), (14 : Int), (99 : Int), (-1 : Int)], ()))).bind fun y18 =>
 some (((y11.1.1.1, (y11.1.1.2.1, ())), ((y13.1.1.1, (y13.1.1.2.1, (y13.1.1.2.2.1, (y13.1.1.2.2.2.1, (y13.1.1.2.2.2.2.1, (y13.1.1.2.2.2.2.2.1, ())))))), (y18.1.1, ()))), ((), ())))
 (both ((spec_l1PickInt_F ((y13.2.1.1, (y13.2.1.2.1, (y13.2.1.2.2.1, ()))), ([(0 : Int), (1 : Int), (2 : Int), (5 : Int), (9 : Int), (14 : Int), (99 : Int), (-1 : Int)], ()))).bind fun y18 =>
 some (((y11.1.1.1, (y11.1.1.2.1, ())), ((y13.1.1.1, (y13.1.1.2.1, (y13.1.1.2.2.1, (y13.1.1.2.2.2.1, (y13.1.1.2.2.2.2.1, (y13.1.1.2.2.2.2.2.1, ())))))), (y18.1.1, ()))), ((), ())))
 ((spec_l1PickInt_F ((y13.2.1.1, (y13.2.1.2.1, (y13.2.1.2.2.1, ()))), ([(0 : Int), (1 : Int), (2 : Int), (5 : Int), (9 : Int), (14 : Int), (99 : Int), (-1 : Int)], ()))).bind fun y18 =>
 both (some (((y11.1.1.1, (y11.1.1.2.1, ())), ((y13.1.1.1, (y13.1.1.2.1, (y13.1.1.2.2.1, (y13.1.1.2.2.2.1, (y13.1.1.2.2.2.2.1, (y13.1.1.2.2.2.2.2.1, ())))))), (y18.1.1, ()))), ((), ())))
 (some (((y11.1.1.1, (y11.1.1.2.1, ())), ((y13.1.1.1, (y13.1.1.2.1, (y13.1.1.2.2.1, (y13.1.1.2.2.2.1, (y13.1.1.2.2.2.2.1, (y13.1.1.2.2.2.2.2.1, ())))))), (y18.1.1, ()))), ((), ()))))))
 (both (both ((spec_l1PickInt_F ((y13.2.1.1, (y13.2.1.2.1, (y13.2.1.2.2.1, ()))), ([(0 : Int), (1 : Int), (2 : Int), (5 : Int), (9 : Int), (14 : Int), (99 : Int), (-1 : Int)], ()))).bind fun y18 =>
 some (((y11.1.1.1, (y11.1.1.2.1, ())), ((y13.1.1.1, (y13.1.1.2.1, (y13.1.1.2.2.1, (y13.1.1.2.2.2.1, (y13.1.1.2.2.2.2.1, (y13.1.1.2.2.2.2.2.1, ())))))), (y18.1.1, ()))), ((), ())))
 (both ((spec_l1PickInt_F ((y13.2.1.1, (y13.2.1.2.1, (y13.2.1.2.2.1, ()))), ([(0 : Int), (1 : Int), (2 : Int), (5 : Int), (9 : Int), (14 : Int), (99 : Int), (-1 : Int)], ()))).bind fun y18 =>
 some (((y11.1.1.1, (y11.1.1.2.1, ())), ((y13.1.1.1, (y13.1.1.2.1, (y13.1.1.2.2.1, (y13.1.1.2.2.2.1, (y13.1.1.2.2.2.2.1, (y13.1.1.2.2.2.2.2.1, ())))))), (y18.1.1, ()))), ((), ())))
 ((spec_l1PickInt_F ((y13.2.1.1, (y13.2.1.2.1, (y13.2.1.2.2.1, ()))), ([(0 : Int), (1 : Int), (2 : Int), (5 : Int), (9 : Int), (14 : Int), (99 : Int), (-1 : Int)], ()))).bind fun y18 =>
 some (((y11.1.1.1, (y11.1.1.2.1, ())), ((y13.1.1.1, (y13.1.1.2.1, (y13.1.1.2.2.1, (y13.1.1.2.2.2.1, (y13.1.1.2.2.2.2.1, (y13.1.1.2.2.2.2.2.1, ())))))), (y18.1.1, ()))), ((), ())))))
 (both (both ((spec_l1PickInt_F ((y13.2.1.1, (y13.2.1.2.1, (y13.2.1.2.2.1, ()))), ([(0 : Int), (1 : Int), (2 : Int), (5 : Int), (9 : Int), (14 : Int), (99 : Int), (-1 : Int)], ()))).bind fun y18 =>
 some (((y11.1.1.1, (y11.1.1.2.1, ())), ((y13.1.1.1, (y13.1.1.2.1, (y13.1.1.2.2.1, (y13.1.1.2.2.2.1, (y13.1.1.2.2.2.2.1, (y13.1.1.2.2.2.2.2.1, ())))))), (y18.1.1, ()))), ((), ())))
 ((spec_l1PickInt_F ((y13.2.1.1, (y13.2.1.2.1, (y13.2.1.2.2.1, ()))), ([(0 : Int), (1 : Int), (2 : Int), (5 : Int), (9 : Int), (14 : Int), (99 : Int), (-1 : Int)], ()))).bind fun y18 =>
 both (some (((y11.1.1.1, (y11.1.1.2.1, ())), ((y13.1.1.1, (y13.1.1.2.1, (y13.1.1.2.2.1, (y13.1.1.2.2.2.1, (y13.1.1.2.2.2.2.1, (y13.1.1.2.2.2.2.2.1, ())))))), (y18.1.1, ()))), ((), ())))
 (some (((y11.1.1.1, (y11.1.1.2.1, ())), ((y13.1.1.1, (y13.1.1.2.1, (y13.1.1.2.2.1, (y13.1.1.2.2.2.1, (y13.1.1.2.2.2.2.1, (y13.1.1.2.2.2.2.2.1, ())))))), (y18.1.1, ()))), ((), ())))))
 (both (both ((spec_l1PickInt_F ((y13.2.1.1, (y13.2.1.2.1, (y13.2.1.2.2.1, ()))), ([(0 : Int), (1 : Int), (2 : Int), (5 : Int), (9 : Int), (14 : Int), (99 : Int), (-1 : Int)], ()))).bind fun y18 =>
 some (((y11.1.1.1, (y11.1.1.2.1, ())), ((y13.1.1.1, (y13.1.1.2.1, (y13.1.1.2.2.1, (y13.1.1.2.2.2.1, (y13.1.1.2.2.2.2.1, (y13.1.1.2.2.2.2.2.1, ())))))), (y18.1.1, ()))), ((), ())))
 ((spec_l1PickInt_F ((y13.2.1.1, (y13.2.1.2.1, (y13.2.1.2.2.1, ()))), ([(0 : Int), (1 : Int), (2 : Int), (5 : Int), (9 : Int), (14 : Int), (99 : Int), (-1 : Int)], ()))).bind fun y18 =>
 some (((y11.1.1.1, (y11.1.1.2.1, ())), ((y13.1.1.1, (y13.1.1.2.1, (y13.1.1.2.2.1, (y13.1.1.2.2.2.1, (y13.1.1.2.2.2.2.1, (y13.1.1.2.2.2.2.2.1, ())))))), (y18.1.1, ()))), ((), ()))))
 ((spec_l1PickInt_F ((y13.2.1.1, (y13.2.1.2.1, (y13.2.1.2.2.1, ()))), ([(0 : Int), (1 : Int), (2 : Int), (5 : Int), (9 : Int), (14 : Int), (99 : Int), (-1 : Int)], ()))).bind fun y18 =>
 both (both (some (((y11.1.1.1, (y11.1.1.2.1, ())), ((y13.1.1.1, (y13.1.1.2.1, (y13.1.1.2.2.1, (y13.1.1.2.2.2.1, (y13.1.1.2.2.2.2.1, (y13.1.1.2.2.2.2.2.1, ())))))), (y18.1.1, ()))), ((), ())))
 (some (((y11.1.1.1, (y11.1.1.2.1, ())), ((y13.1.1.1, (y13.1.1.2.1, (y13.1.1.2.2.1, (y13.1.1.2.2.2.1, (y13.1.1.2.2.2.2.1, (y13.1.1.2.2.2.2.2.1, ())))))), (y18.1.1, ()))), ((), ()))))
 (some (((y11.1.1.1, (y11.1.1.2.1, ())), ((y13.1.1.1, (y13.1.1.2.1, (y13.1.1.2.2.1, (y13.1.1.2.2.2.1, (y13.1.1.2.2.2.2.1, (y13.1.1.2.2.2.2.2.1, ())))))), (y18.1.1, ()))), ((), ()))))))) := by kernel_rfl
/-! impl.from -/
noncomputable def impl_from_b : Code := bd Try.f65
def impl_from_T : List (Nat × Tm) := []
noncomputable def impl_from_E : Env := ⟨tt0, []⟩
noncomputable def impl_from_F : PsD [.ro tI, .ro tI, .ro tI] → Option (RsD [.own tB] × PsO [.ro tI, .ro tI, .ro tI]) := fun x => evFn impl_from_E impl_from_T Try.f65 impl_from_b [.ro tI, .ro tI, .ro tI] [.own tB] x
@[reducible] noncomputable def impl_from_C : Ct := ⟨[.ro tI, .ro tI, .ro tI], [.own tB], impl_from_F⟩
theorem impl_from_h (x : PsD [.ro tI, .ro tI, .ro tI]) (y : RsD [.own tB] × PsO [.ro tI, .ro tI, .ro tI]) (h : impl_from_F x = some y) : evFn impl_from_E impl_from_T Try.f65 impl_from_b [.ro tI, .ro tI, .ro tI] [.own tB] x = some y := h
theorem impl_from_c : ∀ f c, get impl_from_E.ct f = some c → Sat Try.prog f c := ct_nil
theorem impl_from_S : Sat Try.prog 65 impl_from_C := fn_ok2 (envOk _) impl_from_c mixedOk Try.func65 (by kernel_rfl : Try.f65.body = some impl_from_b) (by kernel_rfl) (by kernel_rfl) impl_from_h
noncomputable def impl_from_Ke  (x0 : Int) (x1 : Int) (x2 : Int) : Ex → AS → Option (RsD [.own tB] × PsO [.ro tI, .ro tI, .ro tI]) := endK impl_from_E Try.f65 [.ro tI, .ro tI, .ro tI] [.own tB] (initL [.ro tI, .ro tI, .ro tI] (x0, (x1, (x2, ()))) 0).1
theorem impl_from_main (x0 : Int) (x1 : Int) (x2 : Int) : impl_from_F (x0, (x1, (x2, ()))) =
 brk (decide (x1 ≤ x0))
 (some ((decide (x0 ≤ x2), ()), ((), ((), ((), ())))))
 (some ((false, ()), ((), ((), ((), ()))))) := by kernel_rfl
/-! slices.Index[[]int,int] -/
noncomputable def slices_Index_int_b : Code := bd Try.f134
@[reducible] def slices_Index_int_t0 : Tm := ⟨[], [], [(0, .sc true tIs), (1, .sc true tI), (7, .sc true tI), (8, .sc true tI)], [], [4], []⟩
def slices_Index_int_T : List (Nat × Tm) := [(0, slices_Index_int_t0)]
noncomputable def slices_Index_int_E : Env := ⟨tt0, []⟩
noncomputable def slices_Index_int_F : PsD [.ro tIs, .ro tI] → Option (RsD [.own tI] × PsO [.ro tIs, .ro tI]) := fun x => evFn slices_Index_int_E slices_Index_int_T Try.f134 slices_Index_int_b [.ro tIs, .ro tI] [.own tI] x
@[reducible] noncomputable def slices_Index_int_C : Ct := ⟨[.ro tIs, .ro tI], [.own tI], slices_Index_int_F⟩
theorem slices_Index_int_h (x : PsD [.ro tIs, .ro tI]) (y : RsD [.own tI] × PsO [.ro tIs, .ro tI]) (h : slices_Index_int_F x = some y) : evFn slices_Index_int_E slices_Index_int_T Try.f134 slices_Index_int_b [.ro tIs, .ro tI] [.own tI] x = some y := h
theorem slices_Index_int_c : ∀ f c, get slices_Index_int_E.ct f = some c → Sat Try.prog f c := ct_nil
theorem slices_Index_int_S : Sat Try.prog 134 slices_Index_int_C := fn_ok2 (envOk _) slices_Index_int_c mixedOk Try.func134 (by kernel_rfl : Try.f134.body = some slices_Index_int_b) (by kernel_rfl) (by kernel_rfl) slices_Index_int_h
noncomputable def slices_Index_int_Ke  (x0 : List Int) (x1 : Int) : Ex → AS → Option (RsD [.own tI] × PsO [.ro tIs, .ro tI]) := endK slices_Index_int_E Try.f134 [.ro tIs, .ro tI] [.own tI] (initL [.ro tIs, .ro tI] (x0, (x1, ())) 0).1
noncomputable def slices_Index_int_B0 {R : Type} : AS → (Ex → AS → Option R) → Option R := fun A K => ev slices_Index_int_E slices_Index_int_T 0 (cA (cA (cB (cA (cB slices_Index_int_b))))) A K
noncomputable def slices_Index_int_K0  (x0 : List Int) (x1 : Int) : Ex → AS → Option (RsD [.own tI] × PsO [.ro tIs, .ro tI]) := kBlk 0 (kSeq (fun A K => ev slices_Index_int_E slices_Index_int_T 1000 (cB (cB slices_Index_int_b)) A K) (slices_Index_int_Ke x0 x1))
noncomputable def slices_Index_int_x0_0 (d0 : Int) : AS := ⟨[(4, .v (.one (.d true tI d0)))], []⟩
noncomputable def slices_Index_int_x0_1 : AS := ⟨[], []⟩
theorem slices_Index_int_l0 {R : Type} {K : Ex → AS → Option R} {s : slices_Index_int_t0.D} (n : Nat) {v : Option R} (h : iterG slices_Index_int_t0 slices_Index_int_B0 K n s = v) (hv : ∃ r, v = some r) : loopG slices_Index_int_t0 slices_Index_int_B0 K s = v := loop_eq (ev_mono _ _) n h hv
theorem slices_Index_int_main (x0 : List Int) (x1 : Int) : slices_Index_int_F (x0, (x1, ())) =
 loopG slices_Index_int_t0 slices_Index_int_B0 (slices_Index_int_K0 x0 x1) ((x0, (x1, ((x0.length : Int), ((0 : Int), ())))), ()) := by kernel_rfl
theorem slices_Index_int_r0 {R : Type} (K : Ex → AS → Option R) (n : Nat) (t0 : List Int) (t1 : Int) (t7 : Int) (t8 : Int) : iterG slices_Index_int_t0 slices_Index_int_B0 K (n + 1) ((t0, (t1, (t7, (t8, ())))), ()) =
 brk (decide (t8 < t7))
 (ck (decide (0 ≤ t8) && decide (t8 < t0.length)) (brk (decide (t1 = rdD tI t0 t8))
 (K .ret (slices_Index_int_x0_0 t8))
 (iterG slices_Index_int_t0 slices_Index_int_B0 K n ((t0, (t1, (t7, (IntKind.i64.wrap (t8 + (1 : Int)), ())))), ()))))
 (K (.exit 0) (slices_Index_int_x0_1)) := by kernel_rfl
theorem slices_Index_int_e0_0 (x0 : List Int) (x1 : Int) (d0 : Int) : slices_Index_int_K0 x0 x1 .ret (slices_Index_int_x0_0 d0) =
 some ((d0, ()), ((), ((), ()))) := by kernel_rfl
theorem slices_Index_int_e0_1 (x0 : List Int) (x1 : Int) : slices_Index_int_K0 x0 x1 (.exit 0) (slices_Index_int_x0_1) =
 some (((-1 : Int), ()), ((), ((), ()))) := by kernel_rfl
/-! slices.Contains[[]int,int] -/
noncomputable def slices_Contains_int_b : Code := bd Try.f118
def slices_Contains_int_T : List (Nat × Tm) := []
noncomputable def slices_Contains_int_E : Env := ⟨tt0, [(134, slices_Index_int_C)]⟩
noncomputable def slices_Contains_int_F : PsD [.ro tIs, .ro tI] → Option (RsD [.own tB] × PsO [.ro tIs, .ro tI]) := fun x => evFn slices_Contains_int_E slices_Contains_int_T Try.f118 slices_Contains_int_b [.ro tIs, .ro tI] [.own tB] x
@[reducible] noncomputable def slices_Contains_int_C : Ct := ⟨[.ro tIs, .ro tI], [.own tB], slices_Contains_int_F⟩
theorem slices_Contains_int_h (x : PsD [.ro tIs, .ro tI]) (y : RsD [.own tB] × PsO [.ro tIs, .ro tI]) (h : slices_Contains_int_F x = some y) : evFn slices_Contains_int_E slices_Contains_int_T Try.f118 slices_Contains_int_b [.ro tIs, .ro tI] [.own tB] x = some y := h
theorem slices_Contains_int_c : ∀ f c, get slices_Contains_int_E.ct f = some c → Sat Try.prog f c := ct_cons slices_Index_int_S (ct_nil)
theorem slices_Contains_int_S : Sat Try.prog 118 slices_Contains_int_C := fn_ok2 (envOk _) slices_Contains_int_c mixedOk Try.func118 (by kernel_rfl : Try.f118.body = some slices_Contains_int_b) (by kernel_rfl) (by kernel_rfl) slices_Contains_int_h
noncomputable def slices_Contains_int_Ke  (x0 : List Int) (x1 : Int) : Ex → AS → Option (RsD [.own tB] × PsO [.ro tIs, .ro tI]) := endK slices_Contains_int_E Try.f118 [.ro tIs, .ro tI] [.own tB] (initL [.ro tIs, .ro tI] (x0, (x1, ())) 0).1
theorem slices_Contains_int_main (x0 : List Int) (x1 : Int) : slices_Contains_int_F (x0, (x1, ())) =
 (slices_Index_int_F (x0, (x1, ()))).bind fun y7 =>
 some ((decide ((0 : Int) ≤ y7.1.1), ()), ((), ((), ()))) := by kernel_rfl
/-! impl.GensOk -/
noncomputable def impl_GensOk_b : Code := bd Try.f77
@[reducible] def impl_GensOk_t0 : Tm := ⟨[], [], [(0, .sc true tIs), (5, .sc true tIs), (6, .sc true tI), (7, .sc true tI)], [], [0, 2], []⟩
def impl_GensOk_T : List (Nat × Tm) := [(0, impl_GensOk_t0)]
noncomputable def impl_GensOk_E : Env := ⟨tt0, [(65, impl_from_C), (118, slices_Contains_int_C)]⟩
noncomputable def impl_GensOk_F : PsD [.ro tIs] → Option (RsD [.own tB] × PsO [.ro tIs]) := fun x => evFn impl_GensOk_E impl_GensOk_T Try.f77 impl_GensOk_b [.ro tIs] [.own tB] x
@[reducible] noncomputable def impl_GensOk_C : Ct := ⟨[.ro tIs], [.own tB], impl_GensOk_F⟩
theorem impl_GensOk_h (x : PsD [.ro tIs]) (y : RsD [.own tB] × PsO [.ro tIs]) (h : impl_GensOk_F x = some y) : evFn impl_GensOk_E impl_GensOk_T Try.f77 impl_GensOk_b [.ro tIs] [.own tB] x = some y := h
theorem impl_GensOk_c : ∀ f c, get impl_GensOk_E.ct f = some c → Sat Try.prog f c := ct_cons impl_from_S (ct_cons slices_Contains_int_S (ct_nil))
theorem impl_GensOk_S : Sat Try.prog 77 impl_GensOk_C := fn_ok2 (envOk _) impl_GensOk_c mixedOk Try.func77 (by kernel_rfl : Try.f77.body = some impl_GensOk_b) (by kernel_rfl) (by kernel_rfl) impl_GensOk_h
noncomputable def impl_GensOk_Ke  (x0 : List Int) : Ex → AS → Option (RsD [.own tB] × PsO [.ro tIs]) := endK impl_GensOk_E Try.f77 [.ro tIs] [.own tB] (initL [.ro tIs] (x0, ()) 0).1
noncomputable def impl_GensOk_B0 {R : Type} : AS → (Ex → AS → Option R) → Option R := fun A K => ev impl_GensOk_E impl_GensOk_T 0 (cA (cA (cB (cA (cB impl_GensOk_b))))) A K
noncomputable def impl_GensOk_K0  (x0 : List Int) : Ex → AS → Option (RsD [.own tB] × PsO [.ro tIs]) := kBlk 0 (kSeq (fun A K => ev impl_GensOk_E impl_GensOk_T 1000 (cB (cB impl_GensOk_b)) A K) (impl_GensOk_Ke x0))
noncomputable def impl_GensOk_x0_0 (d0 : List Int) (d1 : Bool) : AS := ⟨[(0, .v (.one (.d true tIs d0))), (2, .v (.one (.d true tB d1)))], []⟩
noncomputable def impl_GensOk_x0_1 (d0 : List Int) : AS := ⟨[(0, .v (.one (.d true tIs d0)))], []⟩
theorem impl_GensOk_l0 {R : Type} {K : Ex → AS → Option R} {s : impl_GensOk_t0.D} (n : Nat) {v : Option R} (h : iterG impl_GensOk_t0 impl_GensOk_B0 K n s = v) (hv : ∃ r, v = some r) : loopG impl_GensOk_t0 impl_GensOk_B0 K s = v := loop_eq (ev_mono _ _) n h hv
theorem impl_GensOk_main (x0 : List Int) : impl_GensOk_F (x0, ()) =
 loopG impl_GensOk_t0 impl_GensOk_B0 (impl_GensOk_K0 x0) ((x0, (x0, ((x0.length : Int), ((0 : Int), ())))), ()) := by kernel_rfl
theorem impl_GensOk_r0 {R : Type} (K : Ex → AS → Option R) (n : Nat) (t0 : List Int) (t5 : List Int) (t6 : Int) (t7 : Int) : iterG impl_GensOk_t0 impl_GensOk_B0 K (n + 1) ((t0, (t5, (t6, (t7, ())))), ()) =
 brk (decide (t7 < t6))
 (ck (decide (0 ≤ t7) && decide (t7 < t5.length)) ((impl_from_F (rdD tI t5 t7, ((1 : Int), ((100000 : Int), ())))).bind fun y13 =>
 brk (!y13.1.1)
 (K .ret (impl_GensOk_x0_0 t0 false))
 (ck (decide (0 ≤ (0 : Int)) && decide ((0 : Int) ≤ t7) && decide (t7 ≤ t0.length)) ((slices_Contains_int_F ((t0.take t7.toNat).drop (0 : Int).toNat, (rdD tI t5 t7, ()))).bind fun y20 =>
 brk y20.1.1
 (K .ret (impl_GensOk_x0_0 t0 false))
 (iterG impl_GensOk_t0 impl_GensOk_B0 K n ((t0, (t5, (t6, (IntKind.i64.wrap (t7 + (1 : Int)), ())))), ()))))))
 (K (.exit 0) (impl_GensOk_x0_1 t0)) := by kernel_rfl
theorem impl_GensOk_e0_0 (x0 : List Int) (d0 : List Int) (d1 : Bool) : impl_GensOk_K0 x0 .ret (impl_GensOk_x0_0 d0 d1) =
 some ((d1, ()), ((), ())) := by kernel_rfl
theorem impl_GensOk_e0_1 (x0 : List Int) (d0 : List Int) : impl_GensOk_K0 x0 (.exit 0) (impl_GensOk_x0_1 d0) =
 some ((decide ((d0.length : Int) ≤ (12 : Int)), ()), ((), ())) := by kernel_rfl
/-! impl.isCell -/
noncomputable def impl_isCell_b : Code := bd Try.f136
def impl_isCell_T : List (Nat × Tm) := []
noncomputable def impl_isCell_E : Env := ⟨tt0, [(65, impl_from_C)]⟩
noncomputable def impl_isCell_F : PsD [.ro tI] → Option (RsD [.own tB] × PsO [.ro tI]) := fun x => evFn impl_isCell_E impl_isCell_T Try.f136 impl_isCell_b [.ro tI] [.own tB] x
@[reducible] noncomputable def impl_isCell_C : Ct := ⟨[.ro tI], [.own tB], impl_isCell_F⟩
theorem impl_isCell_h (x : PsD [.ro tI]) (y : RsD [.own tB] × PsO [.ro tI]) (h : impl_isCell_F x = some y) : evFn impl_isCell_E impl_isCell_T Try.f136 impl_isCell_b [.ro tI] [.own tB] x = some y := h
theorem impl_isCell_c : ∀ f c, get impl_isCell_E.ct f = some c → Sat Try.prog f c := ct_cons impl_from_S (ct_nil)
theorem impl_isCell_S : Sat Try.prog 136 impl_isCell_C := fn_ok2 (envOk _) impl_isCell_c mixedOk Try.func136 (by kernel_rfl : Try.f136.body = some impl_isCell_b) (by kernel_rfl) (by kernel_rfl) impl_isCell_h
noncomputable def impl_isCell_Ke  (x0 : Int) : Ex → AS → Option (RsD [.own tB] × PsO [.ro tI]) := endK impl_isCell_E Try.f136 [.ro tI] [.own tB] (initL [.ro tI] (x0, ()) 0).1
theorem impl_isCell_main (x0 : Int) : impl_isCell_F (x0, ()) =
 (impl_from_F (x0, ((0 : Int), ((7 : Int), ())))).bind fun y4 =>
 some ((y4.1.1, ()), ((), ())) := by kernel_rfl
/-! impl.MarksOk -/
noncomputable def impl_MarksOk_b : Code := bd Try.f121
@[reducible] def impl_MarksOk_t0 : Tm := ⟨[], [], [(0, .sc true tIs), (5, .sc true tIs), (6, .sc true tI), (7, .sc true tI)], [], [2], []⟩
def impl_MarksOk_T : List (Nat × Tm) := [(0, impl_MarksOk_t0)]
noncomputable def impl_MarksOk_E : Env := ⟨tt0, [(136, impl_isCell_C)]⟩
noncomputable def impl_MarksOk_F : PsD [.ro tIs] → Option (RsD [.own tB] × PsO [.ro tIs]) := fun x => evFn impl_MarksOk_E impl_MarksOk_T Try.f121 impl_MarksOk_b [.ro tIs] [.own tB] x
@[reducible] noncomputable def impl_MarksOk_C : Ct := ⟨[.ro tIs], [.own tB], impl_MarksOk_F⟩
theorem impl_MarksOk_h (x : PsD [.ro tIs]) (y : RsD [.own tB] × PsO [.ro tIs]) (h : impl_MarksOk_F x = some y) : evFn impl_MarksOk_E impl_MarksOk_T Try.f121 impl_MarksOk_b [.ro tIs] [.own tB] x = some y := h
theorem impl_MarksOk_c : ∀ f c, get impl_MarksOk_E.ct f = some c → Sat Try.prog f c := ct_cons impl_isCell_S (ct_nil)
theorem impl_MarksOk_S : Sat Try.prog 121 impl_MarksOk_C := fn_ok2 (envOk _) impl_MarksOk_c mixedOk Try.func121 (by kernel_rfl : Try.f121.body = some impl_MarksOk_b) (by kernel_rfl) (by kernel_rfl) impl_MarksOk_h
noncomputable def impl_MarksOk_Ke  (x0 : List Int) : Ex → AS → Option (RsD [.own tB] × PsO [.ro tIs]) := endK impl_MarksOk_E Try.f121 [.ro tIs] [.own tB] (initL [.ro tIs] (x0, ()) 0).1
noncomputable def impl_MarksOk_B0 {R : Type} : AS → (Ex → AS → Option R) → Option R := fun A K => ev impl_MarksOk_E impl_MarksOk_T 0 (cA (cA (cB (cA (cB impl_MarksOk_b))))) A K
noncomputable def impl_MarksOk_K0  (x0 : List Int) : Ex → AS → Option (RsD [.own tB] × PsO [.ro tIs]) := kBlk 0 (kSeq (fun A K => ev impl_MarksOk_E impl_MarksOk_T 1000 (cB (cB impl_MarksOk_b)) A K) (impl_MarksOk_Ke x0))
noncomputable def impl_MarksOk_x0_0 (d0 : Bool) : AS := ⟨[(2, .v (.one (.d true tB d0)))], []⟩
noncomputable def impl_MarksOk_x0_1 : AS := ⟨[], []⟩
theorem impl_MarksOk_l0 {R : Type} {K : Ex → AS → Option R} {s : impl_MarksOk_t0.D} (n : Nat) {v : Option R} (h : iterG impl_MarksOk_t0 impl_MarksOk_B0 K n s = v) (hv : ∃ r, v = some r) : loopG impl_MarksOk_t0 impl_MarksOk_B0 K s = v := loop_eq (ev_mono _ _) n h hv
theorem impl_MarksOk_main (x0 : List Int) : impl_MarksOk_F (x0, ()) =
 loopG impl_MarksOk_t0 impl_MarksOk_B0 (impl_MarksOk_K0 x0) ((x0, (x0, ((x0.length : Int), ((0 : Int), ())))), ()) := by kernel_rfl
theorem impl_MarksOk_r0 {R : Type} (K : Ex → AS → Option R) (n : Nat) (t0 : List Int) (t5 : List Int) (t6 : Int) (t7 : Int) : iterG impl_MarksOk_t0 impl_MarksOk_B0 K (n + 1) ((t0, (t5, (t6, (t7, ())))), ()) =
 brk (decide (t7 < t6))
 (ck (decide (0 ≤ t7) && decide (t7 < t5.length)) ((impl_isCell_F (rdD tI t5 t7, ())).bind fun y13 =>
 brk (!y13.1.1)
 (K .ret (impl_MarksOk_x0_0 false))
 (brk (decide ((0 : Int) < t7))
 (ck (decide (0 ≤ IntKind.i64.wrap (t7 - (1 : Int))) && decide (IntKind.i64.wrap (t7 - (1 : Int)) < t0.length)) (brk (decide (rdD tI t5 t7 ≤ rdD tI t0 (IntKind.i64.wrap (t7 - (1 : Int)))))
 (K .ret (impl_MarksOk_x0_0 false))
 (iterG impl_MarksOk_t0 impl_MarksOk_B0 K n ((t0, (t5, (t6, (IntKind.i64.wrap (t7 + (1 : Int)), ())))), ()))))
 (iterG impl_MarksOk_t0 impl_MarksOk_B0 K n ((t0, (t5, (t6, (IntKind.i64.wrap (t7 + (1 : Int)), ())))), ())))))
 (K (.exit 0) (impl_MarksOk_x0_1)) := by kernel_rfl
theorem impl_MarksOk_e0_0 (x0 : List Int) (d0 : Bool) : impl_MarksOk_K0 x0 .ret (impl_MarksOk_x0_0 d0) =
 some ((d0, ()), ((), ())) := by kernel_rfl
theorem impl_MarksOk_e0_1 (x0 : List Int) : impl_MarksOk_K0 x0 (.exit 0) (impl_MarksOk_x0_1) =
 some ((true, ()), ((), ())) := by kernel_rfl
/-! impl.marksAll$1 -/
noncomputable def impl_marksAll_1_b : Code := bd Try.f120
def impl_marksAll_1_T : List (Nat × Tm) := []
noncomputable def impl_marksAll_1_E : Env := ⟨tt0, [(121, impl_MarksOk_C)]⟩
noncomputable def impl_marksAll_1_F : PsD [.ro tIs] → Option (RsD [.own tB] × PsO [.ro tIs]) := fun x => evFn impl_marksAll_1_E impl_marksAll_1_T Try.f120 impl_marksAll_1_b [.ro tIs] [.own tB] x
@[reducible] noncomputable def impl_marksAll_1_C : Ct := ⟨[.ro tIs], [.own tB], impl_marksAll_1_F⟩
theorem impl_marksAll_1_h (x : PsD [.ro tIs]) (y : RsD [.own tB] × PsO [.ro tIs]) (h : impl_marksAll_1_F x = some y) : evFn impl_marksAll_1_E impl_marksAll_1_T Try.f120 impl_marksAll_1_b [.ro tIs] [.own tB] x = some y := h
theorem impl_marksAll_1_c : ∀ f c, get impl_marksAll_1_E.ct f = some c → Sat Try.prog f c := ct_cons impl_MarksOk_S (ct_nil)
theorem impl_marksAll_1_S : Sat Try.prog 120 impl_marksAll_1_C := fn_ok2 (envOk _) impl_marksAll_1_c mixedOk Try.func120 (by kernel_rfl : Try.f120.body = some impl_marksAll_1_b) (by kernel_rfl) (by kernel_rfl) impl_marksAll_1_h
noncomputable def impl_marksAll_1_Ke  (x0 : List Int) : Ex → AS → Option (RsD [.own tB] × PsO [.ro tIs]) := endK impl_marksAll_1_E Try.f120 [.ro tIs] [.own tB] (initL [.ro tIs] (x0, ()) 0).1
theorem impl_marksAll_1_main (x0 : List Int) : impl_marksAll_1_F (x0, ()) =
 (impl_MarksOk_F (x0, ())).bind fun y4 =>
 some ((!y4.1.1, ()), ((), ())) := by kernel_rfl
/-! slices.IndexFunc[[][]int,[]int] -/
noncomputable def slices_IndexFunc__int_b : Code := bd Try.f135
@[reducible] def slices_IndexFunc__int_t0 : Tm := ⟨[], [], [(0, .sc true tIss), (1, .fnv 120 []), (7, .sc true tI), (8, .sc true tI)], [], [4], []⟩
def slices_IndexFunc__int_T : List (Nat × Tm) := [(0, slices_IndexFunc__int_t0)]
noncomputable def slices_IndexFunc__int_E : Env := ⟨tt0, [(120, impl_marksAll_1_C)]⟩
noncomputable def slices_IndexFunc__int_F : PsD [.ro tIss, .fn 120 []] → Option (RsD [.own tI] × PsO [.ro tIss, .fn 120 []]) := fun x => evFn slices_IndexFunc__int_E slices_IndexFunc__int_T Try.f135 slices_IndexFunc__int_b [.ro tIss, .fn 120 []] [.own tI] x
@[reducible] noncomputable def slices_IndexFunc__int_C : Ct := ⟨[.ro tIss, .fn 120 []], [.own tI], slices_IndexFunc__int_F⟩
theorem slices_IndexFunc__int_h (x : PsD [.ro tIss, .fn 120 []]) (y : RsD [.own tI] × PsO [.ro tIss, .fn 120 []]) (h : slices_IndexFunc__int_F x = some y) : evFn slices_IndexFunc__int_E slices_IndexFunc__int_T Try.f135 slices_IndexFunc__int_b [.ro tIss, .fn 120 []] [.own tI] x = some y := h
theorem slices_IndexFunc__int_c : ∀ f c, get slices_IndexFunc__int_E.ct f = some c → Sat Try.prog f c := ct_cons impl_marksAll_1_S (ct_nil)
theorem slices_IndexFunc__int_S : Sat Try.prog 135 slices_IndexFunc__int_C := fn_ok2 (envOk _) slices_IndexFunc__int_c mixedOk Try.func135 (by kernel_rfl : Try.f135.body = some slices_IndexFunc__int_b) (by kernel_rfl) (by kernel_rfl) slices_IndexFunc__int_h
noncomputable def slices_IndexFunc__int_Ke  (x0 : List (List Int)) (x1 : Unit) : Ex → AS → Option (RsD [.own tI] × PsO [.ro tIss, .fn 120 []]) := endK slices_IndexFunc__int_E Try.f135 [.ro tIss, .fn 120 []] [.own tI] (initL [.ro tIss, .fn 120 []] (x0, (x1, ())) 0).1
noncomputable def slices_IndexFunc__int_B0 {R : Type} : AS → (Ex → AS → Option R) → Option R := fun A K => ev slices_IndexFunc__int_E slices_IndexFunc__int_T 0 (cA (cA (cB (cA (cB slices_IndexFunc__int_b))))) A K
noncomputable def slices_IndexFunc__int_K0  (x0 : List (List Int)) (x1 : Unit) : Ex → AS → Option (RsD [.own tI] × PsO [.ro tIss, .fn 120 []]) := kBlk 0 (kSeq (fun A K => ev slices_IndexFunc__int_E slices_IndexFunc__int_T 1000 (cB (cB slices_IndexFunc__int_b)) A K) (slices_IndexFunc__int_Ke x0 x1))
noncomputable def slices_IndexFunc__int_x0_0 (d0 : Int) : AS := ⟨[(4, .v (.one (.d true tI d0)))], []⟩
noncomputable def slices_IndexFunc__int_x0_1 : AS := ⟨[], []⟩
theorem slices_IndexFunc__int_l0 {R : Type} {K : Ex → AS → Option R} {s : slices_IndexFunc__int_t0.D} (n : Nat) {v : Option R} (h : iterG slices_IndexFunc__int_t0 slices_IndexFunc__int_B0 K n s = v) (hv : ∃ r, v = some r) : loopG slices_IndexFunc__int_t0 slices_IndexFunc__int_B0 K s = v := loop_eq (ev_mono _ _) n h hv
theorem slices_IndexFunc__int_main (x0 : List (List Int)) (x1 : Unit) : slices_IndexFunc__int_F (x0, (x1, ())) =
 loopG slices_IndexFunc__int_t0 slices_IndexFunc__int_B0 (slices_IndexFunc__int_K0 x0 x1) ((x0, ((x0.length : Int), ((0 : Int), ()))), ()) := by kernel_rfl
theorem slices_IndexFunc__int_r0 {R : Type} (K : Ex → AS → Option R) (n : Nat) (t0 : List (List Int)) (t7 : Int) (t8 : Int) : iterG slices_IndexFunc__int_t0 slices_IndexFunc__int_B0 K (n + 1) ((t0, (t7, (t8, ()))), ()) =
 brk (decide (t8 < t7))
 (ck (decide (0 ≤ t8) && decide (t8 < t0.length)) ((impl_marksAll_1_F (rdD tIs t0 t8, ())).bind fun y16 =>
 brk y16.1.1
 (K .ret (slices_IndexFunc__int_x0_0 t8))
 (iterG slices_IndexFunc__int_t0 slices_IndexFunc__int_B0 K n ((t0, (t7, (IntKind.i64.wrap (t8 + (1 : Int)), ()))), ()))))
 (K (.exit 0) (slices_IndexFunc__int_x0_1)) := by kernel_rfl
theorem slices_IndexFunc__int_e0_0 (x0 : List (List Int)) (x1 : Unit) (d0 : Int) : slices_IndexFunc__int_K0 x0 x1 .ret (slices_IndexFunc__int_x0_0 d0) =
 some ((d0, ()), ((), ((), ()))) := by kernel_rfl
theorem slices_IndexFunc__int_e0_1 (x0 : List (List Int)) (x1 : Unit) : slices_IndexFunc__int_K0 x0 x1 (.exit 0) (slices_IndexFunc__int_x0_1) =
 some (((-1 : Int), ()), ((), ((), ()))) := by kernel_rfl
/-! slices.ContainsFunc[[][]int,[]int] -/
noncomputable def slices_ContainsFunc__int_b : Code := bd Try.f119
def slices_ContainsFunc__int_T : List (Nat × Tm) := []
noncomputable def slices_ContainsFunc__int_E : Env := ⟨tt0, [(135, slices_IndexFunc__int_C)]⟩
noncomputable def slices_ContainsFunc__int_F : PsD [.ro tIss, .fn 120 []] → Option (RsD [.own tB] × PsO [.ro tIss, .fn 120 []]) := fun x => evFn slices_ContainsFunc__int_E slices_ContainsFunc__int_T Try.f119 slices_ContainsFunc__int_b [.ro tIss, .fn 120 []] [.own tB] x
@[reducible] noncomputable def slices_ContainsFunc__int_C : Ct := ⟨[.ro tIss, .fn 120 []], [.own tB], slices_ContainsFunc__int_F⟩
theorem slices_ContainsFunc__int_h (x : PsD [.ro tIss, .fn 120 []]) (y : RsD [.own tB] × PsO [.ro tIss, .fn 120 []]) (h : slices_ContainsFunc__int_F x = some y) : evFn slices_ContainsFunc__int_E slices_ContainsFunc__int_T Try.f119 slices_ContainsFunc__int_b [.ro tIss, .fn 120 []] [.own tB] x = some y := h
theorem slices_ContainsFunc__int_c : ∀ f c, get slices_ContainsFunc__int_E.ct f = some c → Sat Try.prog f c := ct_cons slices_IndexFunc__int_S (ct_nil)
theorem slices_ContainsFunc__int_S : Sat Try.prog 119 slices_ContainsFunc__int_C := fn_ok2 (envOk _) slices_ContainsFunc__int_c mixedOk Try.func119 (by kernel_rfl : Try.f119.body = some slices_ContainsFunc__int_b) (by kernel_rfl) (by kernel_rfl) slices_ContainsFunc__int_h
noncomputable def slices_ContainsFunc__int_Ke  (x0 : List (List Int)) (x1 : Unit) : Ex → AS → Option (RsD [.own tB] × PsO [.ro tIss, .fn 120 []]) := endK slices_ContainsFunc__int_E Try.f119 [.ro tIss, .fn 120 []] [.own tB] (initL [.ro tIss, .fn 120 []] (x0, (x1, ())) 0).1
theorem slices_ContainsFunc__int_main (x0 : List (List Int)) (x1 : Unit) : slices_ContainsFunc__int_F (x0, (x1, ())) =
 (slices_IndexFunc__int_F (x0, ((), ()))).bind fun y7 =>
 some ((decide ((0 : Int) ≤ y7.1.1), ()), ((), ((), ()))) := by kernel_rfl
/-! impl.marksAll -/
noncomputable def impl_marksAll_b : Code := bd Try.f78
def impl_marksAll_T : List (Nat × Tm) := []
noncomputable def impl_marksAll_E : Env := ⟨tt0, [(119, slices_ContainsFunc__int_C)]⟩
noncomputable def impl_marksAll_F : PsD [.ro tIss] → Option (RsD [.own tB] × PsO [.ro tIss]) := fun x => evFn impl_marksAll_E impl_marksAll_T Try.f78 impl_marksAll_b [.ro tIss] [.own tB] x
@[reducible] noncomputable def impl_marksAll_C : Ct := ⟨[.ro tIss], [.own tB], impl_marksAll_F⟩
theorem impl_marksAll_h (x : PsD [.ro tIss]) (y : RsD [.own tB] × PsO [.ro tIss]) (h : impl_marksAll_F x = some y) : evFn impl_marksAll_E impl_marksAll_T Try.f78 impl_marksAll_b [.ro tIss] [.own tB] x = some y := h
theorem impl_marksAll_c : ∀ f c, get impl_marksAll_E.ct f = some c → Sat Try.prog f c := ct_cons slices_ContainsFunc__int_S (ct_nil)
theorem impl_marksAll_S : Sat Try.prog 78 impl_marksAll_C := fn_ok2 (envOk _) impl_marksAll_c mixedOk Try.func78 (by kernel_rfl : Try.f78.body = some impl_marksAll_b) (by kernel_rfl) (by kernel_rfl) impl_marksAll_h
noncomputable def impl_marksAll_Ke  (x0 : List (List Int)) : Ex → AS → Option (RsD [.own tB] × PsO [.ro tIss]) := endK impl_marksAll_E Try.f78 [.ro tIss] [.own tB] (initL [.ro tIss] (x0, ()) 0).1
theorem impl_marksAll_main (x0 : List (List Int)) : impl_marksAll_F (x0, ()) =
 brk (decide ((x0.length : Int) = (3 : Int)))
 ((slices_ContainsFunc__int_F (x0, ((), ()))).bind fun y8 =>
 some ((!y8.1.1, ()), ((), ())))
 (some ((false, ()), ((), ()))) := by kernel_rfl
/-! impl.MetaOk -/
noncomputable def impl_MetaOk_b : Code := bd Try.f35
def impl_MetaOk_T : List (Nat × Tm) := []
noncomputable def impl_MetaOk_E : Env := ⟨tt0, [(65, impl_from_C), (77, impl_GensOk_C), (78, impl_marksAll_C)]⟩
noncomputable def impl_MetaOk_F : PsD [.ro tMeta] → Option (RsD [.own tB] × PsO [.ro tMeta]) := fun x => evFn impl_MetaOk_E impl_MetaOk_T Try.f35 impl_MetaOk_b [.ro tMeta] [.own tB] x
@[reducible] noncomputable def impl_MetaOk_C : Ct := ⟨[.ro tMeta], [.own tB], impl_MetaOk_F⟩
theorem impl_MetaOk_h (x : PsD [.ro tMeta]) (y : RsD [.own tB] × PsO [.ro tMeta]) (h : impl_MetaOk_F x = some y) : evFn impl_MetaOk_E impl_MetaOk_T Try.f35 impl_MetaOk_b [.ro tMeta] [.own tB] x = some y := h
theorem impl_MetaOk_c : ∀ f c, get impl_MetaOk_E.ct f = some c → Sat Try.prog f c := ct_cons impl_from_S (ct_cons impl_GensOk_S (ct_cons impl_marksAll_S (ct_nil)))
theorem impl_MetaOk_S : Sat Try.prog 35 impl_MetaOk_C := fn_ok2 (envOk _) impl_MetaOk_c mixedOk Try.func35 (by kernel_rfl : Try.f35.body = some impl_MetaOk_b) (by kernel_rfl) (by kernel_rfl) impl_MetaOk_h
noncomputable def impl_MetaOk_Ke  (x0 : List Int × List (List Int) × Bool × Bool × Bool × Int × Unit) : Ex → AS → Option (RsD [.own tB] × PsO [.ro tMeta]) := endK impl_MetaOk_E Try.f35 [.ro tMeta] [.own tB] (initL [.ro tMeta] (x0, ()) 0).1
theorem impl_MetaOk_main (x0 : List Int × List (List Int) × Bool × Bool × Bool × Int × Unit) : impl_MetaOk_F (x0, ()) =
 (impl_GensOk_F (x0.1, ())).bind fun y5 =>
 brk y5.1.1
 (brk (decide ((0 : Int) < (x0.1.length : Int)))
 ((impl_marksAll_F (x0.2.1, ())).bind fun y15 =>
 brk y15.1.1
 ((impl_from_F (x0.2.2.2.2.2.1, ((0 : Int), ((200 : Int), ())))).bind fun y20 =>
 brk y20.1.1
 (brk x0.2.2.2.1
 (some ((!x0.2.2.2.2.1, ()), ((), ())))
 (some ((true, ()), ((), ()))))
 (some ((false, ()), ((), ()))))
 (some ((false, ()), ((), ()))))
 (some ((false, ()), ((), ()))))
 (some ((false, ()), ((), ()))) := by kernel_rfl
/-! slices.Clone[[]byte,byte] -/
noncomputable def slices_Clone_byte_b : Code := bd Try.f103
def slices_Clone_byte_T : List (Nat × Tm) := []
noncomputable def slices_Clone_byte_E : Env := ⟨tt0, []⟩
noncomputable def slices_Clone_byte_F : PsD [.ro tYs] → Option (RsD [.own tYs] × PsO [.ro tYs]) := fun x => evFn slices_Clone_byte_E slices_Clone_byte_T Try.f103 slices_Clone_byte_b [.ro tYs] [.own tYs] x
@[reducible] noncomputable def slices_Clone_byte_C : Ct := ⟨[.ro tYs], [.own tYs], slices_Clone_byte_F⟩
theorem slices_Clone_byte_h (x : PsD [.ro tYs]) (y : RsD [.own tYs] × PsO [.ro tYs]) (h : slices_Clone_byte_F x = some y) : evFn slices_Clone_byte_E slices_Clone_byte_T Try.f103 slices_Clone_byte_b [.ro tYs] [.own tYs] x = some y := h
theorem slices_Clone_byte_c : ∀ f c, get slices_Clone_byte_E.ct f = some c → Sat Try.prog f c := ct_nil
theorem slices_Clone_byte_S : Sat Try.prog 103 slices_Clone_byte_C := fn_ok2 (envOk _) slices_Clone_byte_c mixedOk Try.func103 (by kernel_rfl : Try.f103.body = some slices_Clone_byte_b) (by kernel_rfl) (by kernel_rfl) slices_Clone_byte_h
noncomputable def slices_Clone_byte_Ke  (x0 : List Int) : Ex → AS → Option (RsD [.own tYs] × PsO [.ro tYs]) := endK slices_Clone_byte_E Try.f103 [.ro tYs] [.own tYs] (initL [.ro tYs] (x0, ()) 0).1
theorem slices_Clone_byte_main (x0 : List Int) : slices_Clone_byte_F (x0, ()) =
 brk (decide (x0.length = 0))
 (both (some ((([] : List Int), ()), ((), ())))
 (ck (decide ((([] : List Int).length + x0.length) * 1 ≤ big47)) (some ((([] : List Int) ++ x0, ()), ((), ())))))
 (ck (decide ((([] : List Int).length + x0.length) * 1 ≤ big47)) (some ((([] : List Int) ++ x0, ()), ((), ())))) := by kernel_rfl
/-! impl.copySlots -/
noncomputable def impl_copySlots_b : Code := bd Try.f52
def impl_copySlots_T : List (Nat × Tm) := []
noncomputable def impl_copySlots_E : Env := ⟨tt0, [(103, slices_Clone_byte_C)]⟩
noncomputable def impl_copySlots_F : PsD [.ro tSlots] → Option (RsD [.own tSlots] × PsO [.ro tSlots]) := fun x => evFn impl_copySlots_E impl_copySlots_T Try.f52 impl_copySlots_b [.ro tSlots] [.own tSlots] x
@[reducible] noncomputable def impl_copySlots_C : Ct := ⟨[.ro tSlots], [.own tSlots], impl_copySlots_F⟩
theorem impl_copySlots_h (x : PsD [.ro tSlots]) (y : RsD [.own tSlots] × PsO [.ro tSlots]) (h : impl_copySlots_F x = some y) : evFn impl_copySlots_E impl_copySlots_T Try.f52 impl_copySlots_b [.ro tSlots] [.own tSlots] x = some y := h
theorem impl_copySlots_c : ∀ f c, get impl_copySlots_E.ct f = some c → Sat Try.prog f c := ct_cons slices_Clone_byte_S (ct_nil)
theorem impl_copySlots_S : Sat Try.prog 52 impl_copySlots_C := fn_ok2 (envOk _) impl_copySlots_c mixedOk Try.func52 (by kernel_rfl : Try.f52.body = some impl_copySlots_b) (by kernel_rfl) (by kernel_rfl) impl_copySlots_h
noncomputable def impl_copySlots_Ke  (x0 : List Int × List Int × Unit) : Ex → AS → Option (RsD [.own tSlots] × PsO [.ro tSlots]) := endK impl_copySlots_E Try.f52 [.ro tSlots] [.own tSlots] (initL [.ro tSlots] (x0, ()) 0).1
theorem impl_copySlots_main (x0 : List Int × List Int × Unit) : impl_copySlots_F (x0, ()) =
 (slices_Clone_byte_F (x0.1, ())).bind fun y5 =>
 (slices_Clone_byte_F (x0.2.1, ())).bind fun y8 =>
 some (((y5.1.1, (y8.1.1, ())), ()), ((), ())) := by kernel_rfl
/-! impl.PutNum -/
noncomputable def impl_PutNum_b : Code := bd Try.f138
@[reducible] def impl_PutNum_t0 : Tm := ⟨[(3, 960000)], [], [(0, .sc true tI), (3, .own 960000)], [(960000, .arr 5 tY)], [0, 3], [960000]⟩
def impl_PutNum_T : List (Nat × Tm) := [(0, impl_PutNum_t0)]
noncomputable def impl_PutNum_E : Env := ⟨tt0, []⟩
noncomputable def impl_PutNum_F : PsD [.ro tI] → Option (RsD [.own tYs] × PsO [.ro tI]) := fun x => evFn impl_PutNum_E impl_PutNum_T Try.f138 impl_PutNum_b [.ro tI] [.own tYs] x
@[reducible] noncomputable def impl_PutNum_C : Ct := ⟨[.ro tI], [.own tYs], impl_PutNum_F⟩
theorem impl_PutNum_h (x : PsD [.ro tI]) (y : RsD [.own tYs] × PsO [.ro tI]) (h : impl_PutNum_F x = some y) : evFn impl_PutNum_E impl_PutNum_T Try.f138 impl_PutNum_b [.ro tI] [.own tYs] x = some y := h
theorem impl_PutNum_c : ∀ f c, get impl_PutNum_E.ct f = some c → Sat Try.prog f c := ct_nil
theorem impl_PutNum_S : Sat Try.prog 138 impl_PutNum_C := fn_ok2 (envOk _) impl_PutNum_c mixedOk Try.func138 (by kernel_rfl : Try.f138.body = some impl_PutNum_b) (by kernel_rfl) (by kernel_rfl) impl_PutNum_h
noncomputable def impl_PutNum_Ke  (x0 : Int) : Ex → AS → Option (RsD [.own tYs] × PsO [.ro tI]) := endK impl_PutNum_E Try.f138 [.ro tI] [.own tYs] (initL [.ro tI] (x0, ()) 0).1
noncomputable def impl_PutNum_B0 {R : Type} : AS → (Ex → AS → Option R) → Option R := fun A K => ev impl_PutNum_E impl_PutNum_T 0 (cA (cA (cA (cB (cB (cB impl_PutNum_b)))))) A K
noncomputable def impl_PutNum_K0  (x0 : Int) : Ex → AS → Option (RsD [.own tYs] × PsO [.ro tI]) := kBlk 0 (kSeq (fun A K => ev impl_PutNum_E impl_PutNum_T 1000 (cB (cB (cB (cB impl_PutNum_b)))) A K) (impl_PutNum_Ke x0))
noncomputable def impl_PutNum_x0_0 (d0 : Int) (d1 : List Int) : AS := ⟨[(0, .v (.one (.d true tI d0))), (3, .v (.one (.own 960000)))], [(960000, .arr 5 tY d1)]⟩
theorem impl_PutNum_l0 {R : Type} {K : Ex → AS → Option R} {s : impl_PutNum_t0.D} (n : Nat) {v : Option R} (h : iterG impl_PutNum_t0 impl_PutNum_B0 K n s = v) (hv : ∃ r, v = some r) : loopG impl_PutNum_t0 impl_PutNum_B0 K s = v := loop_eq (ev_mono _ _) n h hv
theorem impl_PutNum_main (x0 : Int) : impl_PutNum_F (x0, ()) =
 brk (decide (x0 < (0 : Int)))
 (some ((([] : List Int), ()), ((), ())))
 (brk (decide ((2147483647 : Int) < x0))
 (some ((([] : List Int), ()), ((), ())))
 (loopG impl_PutNum_t0 impl_PutNum_B0 (impl_PutNum_K0 x0) ((x0, ()), (([] : List Int), ())))) := by kernel_rfl
theorem impl_PutNum_r0 {R : Type} (K : Ex → AS → Option R) (n : Nat) (t0 : Int) (a960000 : List Int) : iterG impl_PutNum_t0 impl_PutNum_B0 K (n + 1) ((t0, ()), (a960000, ())) =
 brk (decide ((127 : Int) < t0))
 (ck (decide ((a960000.length + [IntKind.u8.wrap (IntKind.i64.wrap ((t0.tmod (128 : Int)) + (128 : Int)))].length) * 1 ≤ big47)) (iterG impl_PutNum_t0 impl_PutNum_B0 K n ((IntKind.i64.wrap (t0.tdiv (128 : Int)), ()), (a960000 ++ [IntKind.u8.wrap (IntKind.i64.wrap ((t0.tmod (128 : Int)) + (128 : Int)))], ()))))
 (K (.exit 0) (impl_PutNum_x0_0 t0 a960000)) := by kernel_rfl
theorem impl_PutNum_e0_0 (x0 : Int) (d0 : Int) (d1 : List Int) : impl_PutNum_K0 x0 (.exit 0) (impl_PutNum_x0_0 d0 d1) =
 ck (decide ((d1.length + [IntKind.u8.wrap d0].length) * 1 ≤ big47)) (some ((d1 ++ [IntKind.u8.wrap d0], ()), ((), ()))) := by kernel_rfl
/-! impl.putNums -/
noncomputable def impl_putNums_b : Code := bd Try.f128
@[reducible] def impl_putNums_t0 : Tm := ⟨[(3, 960000)], [], [(3, .own 960000), (7, .sc true tIs), (8, .sc true tI), (9, .sc true tI)], [(960000, .arr 5 tY)], [3], [960000]⟩
def impl_putNums_T : List (Nat × Tm) := [(0, impl_putNums_t0)]
noncomputable def impl_putNums_E : Env := ⟨tt0, [(138, impl_PutNum_C)]⟩
noncomputable def impl_putNums_F : PsD [.ro tIs] → Option (RsD [.own tYs] × PsO [.ro tIs]) := fun x => evFn impl_putNums_E impl_putNums_T Try.f128 impl_putNums_b [.ro tIs] [.own tYs] x
@[reducible] noncomputable def impl_putNums_C : Ct := ⟨[.ro tIs], [.own tYs], impl_putNums_F⟩
theorem impl_putNums_h (x : PsD [.ro tIs]) (y : RsD [.own tYs] × PsO [.ro tIs]) (h : impl_putNums_F x = some y) : evFn impl_putNums_E impl_putNums_T Try.f128 impl_putNums_b [.ro tIs] [.own tYs] x = some y := h
theorem impl_putNums_c : ∀ f c, get impl_putNums_E.ct f = some c → Sat Try.prog f c := ct_cons impl_PutNum_S (ct_nil)
theorem impl_putNums_S : Sat Try.prog 128 impl_putNums_C := fn_ok2 (envOk _) impl_putNums_c mixedOk Try.func128 (by kernel_rfl : Try.f128.body = some impl_putNums_b) (by kernel_rfl) (by kernel_rfl) impl_putNums_h
noncomputable def impl_putNums_Ke  (x0 : List Int) : Ex → AS → Option (RsD [.own tYs] × PsO [.ro tIs]) := endK impl_putNums_E Try.f128 [.ro tIs] [.own tYs] (initL [.ro tIs] (x0, ()) 0).1
noncomputable def impl_putNums_B0 {R : Type} : AS → (Ex → AS → Option R) → Option R := fun A K => ev impl_putNums_E impl_putNums_T 0 (cA (cA (cB (cA (cB (cB impl_putNums_b)))))) A K
noncomputable def impl_putNums_K0  (x0 : List Int) : Ex → AS → Option (RsD [.own tYs] × PsO [.ro tIs]) := kBlk 0 (kSeq (fun A K => ev impl_putNums_E impl_putNums_T 1000 (cB (cB (cB impl_putNums_b))) A K) (impl_putNums_Ke x0))
noncomputable def impl_putNums_x0_0 (d0 : List Int) : AS := ⟨[(3, .v (.one (.own 960000)))], [(960000, .arr 5 tY d0)]⟩
theorem impl_putNums_l0 {R : Type} {K : Ex → AS → Option R} {s : impl_putNums_t0.D} (n : Nat) {v : Option R} (h : iterG impl_putNums_t0 impl_putNums_B0 K n s = v) (hv : ∃ r, v = some r) : loopG impl_putNums_t0 impl_putNums_B0 K s = v := loop_eq (ev_mono _ _) n h hv
theorem impl_putNums_main (x0 : List Int) : impl_putNums_F (x0, ()) =
 loopG impl_putNums_t0 impl_putNums_B0 (impl_putNums_K0 x0) ((x0, ((x0.length : Int), ((0 : Int), ()))), (([] : List Int), ())) := by kernel_rfl
theorem impl_putNums_r0 {R : Type} (K : Ex → AS → Option R) (n : Nat) (t7 : List Int) (t8 : Int) (t9 : Int) (a960000 : List Int) : iterG impl_putNums_t0 impl_putNums_B0 K (n + 1) ((t7, (t8, (t9, ()))), (a960000, ())) =
 brk (decide (t9 < t8))
 (ck (decide (0 ≤ t9) && decide (t9 < t7.length)) ((impl_PutNum_F (rdD tI t7 t9, ())).bind fun y15 =>
 ck (decide ((a960000.length + y15.1.1.length) * 1 ≤ big47)) (iterG impl_putNums_t0 impl_putNums_B0 K n ((t7, (t8, (IntKind.i64.wrap (t9 + (1 : Int)), ()))), (a960000 ++ y15.1.1, ())))))
 (K (.exit 0) (impl_putNums_x0_0 a960000)) := by kernel_rfl
theorem impl_putNums_e0_0 (x0 : List Int) (d0 : List Int) : impl_putNums_K0 x0 (.exit 0) (impl_putNums_x0_0 d0) =
 some ((d0, ()), ((), ())) := by kernel_rfl
/-! impl.putList -/
noncomputable def impl_putList_b : Code := bd Try.f127
def impl_putList_T : List (Nat × Tm) := []
noncomputable def impl_putList_E : Env := ⟨tt0, [(128, impl_putNums_C)]⟩
noncomputable def impl_putList_F : PsD [.ro tIs] → Option (RsD [.own tYs] × PsO [.ro tIs]) := fun x => evFn impl_putList_E impl_putList_T Try.f127 impl_putList_b [.ro tIs] [.own tYs] x
@[reducible] noncomputable def impl_putList_C : Ct := ⟨[.ro tIs], [.own tYs], impl_putList_F⟩
theorem impl_putList_h (x : PsD [.ro tIs]) (y : RsD [.own tYs] × PsO [.ro tIs]) (h : impl_putList_F x = some y) : evFn impl_putList_E impl_putList_T Try.f127 impl_putList_b [.ro tIs] [.own tYs] x = some y := h
theorem impl_putList_c : ∀ f c, get impl_putList_E.ct f = some c → Sat Try.prog f c := ct_cons impl_putNums_S (ct_nil)
theorem impl_putList_S : Sat Try.prog 127 impl_putList_C := fn_ok2 (envOk _) impl_putList_c mixedOk Try.func127 (by kernel_rfl : Try.f127.body = some impl_putList_b) (by kernel_rfl) (by kernel_rfl) impl_putList_h
noncomputable def impl_putList_Ke  (x0 : List Int) : Ex → AS → Option (RsD [.own tYs] × PsO [.ro tIs]) := endK impl_putList_E Try.f127 [.ro tIs] [.own tYs] (initL [.ro tIs] (x0, ()) 0).1
theorem impl_putList_main (x0 : List Int) : impl_putList_F (x0, ()) =
 (impl_putNums_F ([(x0.length : Int)], ())).bind fun y6 =>
 (impl_putNums_F (x0, ())).bind fun y8 =>
 ck (decide ((y6.1.1.length + y8.1.1.length) * 1 ≤ big47)) (some ((y6.1.1 ++ y8.1.1, ()), ((), ()))) := by kernel_rfl
/-! impl.flag -/
noncomputable def impl_flag_b : Code := bd Try.f129
def impl_flag_T : List (Nat × Tm) := []
noncomputable def impl_flag_E : Env := ⟨tt0, []⟩
noncomputable def impl_flag_F : PsD [.ro tB, .ro tI] → Option (RsD [.own tI] × PsO [.ro tB, .ro tI]) := fun x => evFn impl_flag_E impl_flag_T Try.f129 impl_flag_b [.ro tB, .ro tI] [.own tI] x
@[reducible] noncomputable def impl_flag_C : Ct := ⟨[.ro tB, .ro tI], [.own tI], impl_flag_F⟩
theorem impl_flag_h (x : PsD [.ro tB, .ro tI]) (y : RsD [.own tI] × PsO [.ro tB, .ro tI]) (h : impl_flag_F x = some y) : evFn impl_flag_E impl_flag_T Try.f129 impl_flag_b [.ro tB, .ro tI] [.own tI] x = some y := h
theorem impl_flag_c : ∀ f c, get impl_flag_E.ct f = some c → Sat Try.prog f c := ct_nil
theorem impl_flag_S : Sat Try.prog 129 impl_flag_C := fn_ok2 (envOk _) impl_flag_c mixedOk Try.func129 (by kernel_rfl : Try.f129.body = some impl_flag_b) (by kernel_rfl) (by kernel_rfl) impl_flag_h
noncomputable def impl_flag_Ke  (x0 : Bool) (x1 : Int) : Ex → AS → Option (RsD [.own tI] × PsO [.ro tB, .ro tI]) := endK impl_flag_E Try.f129 [.ro tB, .ro tI] [.own tI] (initL [.ro tB, .ro tI] (x0, (x1, ())) 0).1
theorem impl_flag_main (x0 : Bool) (x1 : Int) : impl_flag_F (x0, (x1, ())) =
 brk x0
 (some ((x1, ()), ((), ((), ()))))
 (some (((0 : Int), ()), ((), ((), ())))) := by kernel_rfl
/-! impl.MetaBytes -/
noncomputable def impl_MetaBytes_b : Code := bd Try.f105
@[reducible] def impl_MetaBytes_t0 : Tm := ⟨[(3, 960000)], [], [(1, .ptr 16 0), (3, .own 960000), (13, .sc true tIss), (14, .sc true tI), (15, .sc true tI)], [(16, .box [.sc true tIs, .sc true tIss, .sc true tB, .sc true tB, .sc true tB, .sc true tI]), (960000, .arr 5 tY)], [1, 3], [16, 960000]⟩
def impl_MetaBytes_T : List (Nat × Tm) := [(0, impl_MetaBytes_t0)]
noncomputable def impl_MetaBytes_E : Env := ⟨tt0, [(35, impl_MetaOk_C), (127, impl_putList_C), (128, impl_putNums_C), (129, impl_flag_C)]⟩
noncomputable def impl_MetaBytes_F : PsD [.ro tMeta] → Option (RsD [.own tYs] × PsO [.ro tMeta]) := fun x => evFn impl_MetaBytes_E impl_MetaBytes_T Try.f105 impl_MetaBytes_b [.ro tMeta] [.own tYs] x
@[reducible] noncomputable def impl_MetaBytes_C : Ct := ⟨[.ro tMeta], [.own tYs], impl_MetaBytes_F⟩
theorem impl_MetaBytes_h (x : PsD [.ro tMeta]) (y : RsD [.own tYs] × PsO [.ro tMeta]) (h : impl_MetaBytes_F x = some y) : evFn impl_MetaBytes_E impl_MetaBytes_T Try.f105 impl_MetaBytes_b [.ro tMeta] [.own tYs] x = some y := h
theorem impl_MetaBytes_c : ∀ f c, get impl_MetaBytes_E.ct f = some c → Sat Try.prog f c := ct_cons impl_MetaOk_S (ct_cons impl_putList_S (ct_cons impl_putNums_S (ct_cons impl_flag_S (ct_nil))))
theorem impl_MetaBytes_S : Sat Try.prog 105 impl_MetaBytes_C := fn_ok2 (envOk _) impl_MetaBytes_c mixedOk Try.func105 (by kernel_rfl : Try.f105.body = some impl_MetaBytes_b) (by kernel_rfl) (by kernel_rfl) impl_MetaBytes_h
noncomputable def impl_MetaBytes_Ke  (x0 : List Int × List (List Int) × Bool × Bool × Bool × Int × Unit) : Ex → AS → Option (RsD [.own tYs] × PsO [.ro tMeta]) := endK impl_MetaBytes_E Try.f105 [.ro tMeta] [.own tYs] (initL [.ro tMeta] (x0, ()) 0).1
noncomputable def impl_MetaBytes_B0 {R : Type} : AS → (Ex → AS → Option R) → Option R := fun A K => ev impl_MetaBytes_E impl_MetaBytes_T 0 (cA (cA (cB (cA (cB (cB (cB impl_MetaBytes_b))))))) A K
noncomputable def impl_MetaBytes_K0  (x0 : List Int × List (List Int) × Bool × Bool × Bool × Int × Unit) : Ex → AS → Option (RsD [.own tYs] × PsO [.ro tMeta]) := kBlk 0 (kSeq (fun A K => ev impl_MetaBytes_E impl_MetaBytes_T 1000 (cB (cB (cB (cB impl_MetaBytes_b)))) A K) (impl_MetaBytes_Ke x0))
noncomputable def impl_MetaBytes_x0_0 (d0 : List Int) (d1 : List (List Int)) (d2 : Bool) (d3 : Bool) (d4 : Bool) (d5 : Int) (d6 : List Int) : AS := ⟨[(1, .v (.one (.bptr 16 0))), (3, .v (.one (.own 960000)))], [(16, .box [.d true tIs d0, .d true tIss d1, .d true tB d2, .d true tB d3, .d true tB d4, .d true tI d5]), (960000, .arr 5 tY d6)]⟩
theorem impl_MetaBytes_l0 {R : Type} {K : Ex → AS → Option R} {s : impl_MetaBytes_t0.D} (n : Nat) {v : Option R} (h : iterG impl_MetaBytes_t0 impl_MetaBytes_B0 K n s = v) (hv : ∃ r, v = some r) : loopG impl_MetaBytes_t0 impl_MetaBytes_B0 K s = v := loop_eq (ev_mono _ _) n h hv
theorem impl_MetaBytes_main (x0 : List Int × List (List Int) × Bool × Bool × Bool × Int × Unit) : impl_MetaBytes_F (x0, ()) =
 (impl_MetaOk_F ((x0.1, (x0.2.1, (x0.2.2.1, (x0.2.2.2.1, (x0.2.2.2.2.1, (x0.2.2.2.2.2.1, ())))))), ())).bind fun y7 =>
 brk (!y7.1.1)
 (some ((([] : List Int), ()), ((), ())))
 ((impl_putList_F (x0.1, ())).bind fun y11 =>
 loopG impl_MetaBytes_t0 impl_MetaBytes_B0 (impl_MetaBytes_K0 x0) ((x0.2.1, ((x0.2.1.length : Int), ((0 : Int), ()))), ((x0.1, (x0.2.1, (x0.2.2.1, (x0.2.2.2.1, (x0.2.2.2.2.1, (x0.2.2.2.2.2.1, ())))))), (y11.1.1, ())))) := by kernel_rfl
theorem impl_MetaBytes_r0 {R : Type} (K : Ex → AS → Option R) (n : Nat) (t13 : List (List Int)) (t14 : Int) (t15 : Int) (b16_0 : List Int) (b16_1 : List (List Int)) (b16_2 : Bool) (b16_3 : Bool) (b16_4 : Bool) (b16_5 : Int) (a960000 : List Int) : iterG impl_MetaBytes_t0 impl_MetaBytes_B0 K (n + 1) ((t13, (t14, (t15, ()))), ((b16_0, (b16_1, (b16_2, (b16_3, (b16_4, (b16_5, ())))))), (a960000, ()))) =
 brk (decide (t15 < t14))
 (ck (decide (0 ≤ t15) && decide (t15 < t13.length)) ((impl_putList_F (rdD tIs t13 t15, ())).bind fun y21 =>
 ck (decide ((a960000.length + y21.1.1.length) * 1 ≤ big47)) (iterG impl_MetaBytes_t0 impl_MetaBytes_B0 K n ((t13, (t14, (IntKind.i64.wrap (t15 + (1 : Int)), ()))), ((b16_0, (b16_1, (b16_2, (b16_3, (b16_4, (b16_5, ())))))), (a960000 ++ y21.1.1, ()))))))
 (K (.exit 0) (impl_MetaBytes_x0_0 b16_0 b16_1 b16_2 b16_3 b16_4 b16_5 a960000)) := by kernel_rfl
theorem impl_MetaBytes_e0_0 (x0 : List Int × List (List Int) × Bool × Bool × Bool × Int × Unit) (d0 : List Int) (d1 : List (List Int)) (d2 : Bool) (d3 : Bool) (d4 : Bool) (d5 : Int) (d6 : List Int) : impl_MetaBytes_K0 x0 (.exit 0) (impl_MetaBytes_x0_0 d0 d1 d2 d3 d4 d5 d6) =
 (impl_flag_F (d2, ((1 : Int), ()))).bind fun y27 =>
 (impl_flag_F (d3, ((2 : Int), ()))).bind fun y30 =>
 (impl_flag_F (d4, ((4 : Int), ()))).bind fun y34 =>
 (impl_putNums_F ([IntKind.i64.wrap ((IntKind.i64.wrap (y27.1.1 + y30.1.1)) + y34.1.1), d5], ())).bind fun y39 =>
 ck (decide ((d6.length + y39.1.1.length) * 1 ≤ big47)) (some ((d6 ++ y39.1.1, ()), ((), ()))) := by kernel_rfl
/-! impl.four -/
noncomputable def impl_four_b : Code := bd Try.f106
def impl_four_T : List (Nat × Tm) := []
noncomputable def impl_four_E : Env := ⟨tt0, []⟩
noncomputable def impl_four_F : PsD [.ro tI] → Option (RsD [.own tYs] × PsO [.ro tI]) := fun x => evFn impl_four_E impl_four_T Try.f106 impl_four_b [.ro tI] [.own tYs] x
@[reducible] noncomputable def impl_four_C : Ct := ⟨[.ro tI], [.own tYs], impl_four_F⟩
theorem impl_four_h (x : PsD [.ro tI]) (y : RsD [.own tYs] × PsO [.ro tI]) (h : impl_four_F x = some y) : evFn impl_four_E impl_four_T Try.f106 impl_four_b [.ro tI] [.own tYs] x = some y := h
theorem impl_four_c : ∀ f c, get impl_four_E.ct f = some c → Sat Try.prog f c := ct_nil
theorem impl_four_S : Sat Try.prog 106 impl_four_C := fn_ok2 (envOk _) impl_four_c mixedOk Try.func106 (by kernel_rfl : Try.f106.body = some impl_four_b) (by kernel_rfl) (by kernel_rfl) impl_four_h
noncomputable def impl_four_Ke  (x0 : Int) : Ex → AS → Option (RsD [.own tYs] × PsO [.ro tI]) := endK impl_four_E Try.f106 [.ro tI] [.own tYs] (initL [.ro tI] (x0, ()) 0).1
theorem impl_four_main (x0 : Int) : impl_four_F (x0, ()) =
 some (([IntKind.u8.wrap x0, IntKind.u8.wrap (shrN IntKind.i64 x0 (8 : Int)), IntKind.u8.wrap (shrN IntKind.i64 x0 (16 : Int)), IntKind.u8.wrap (shrN IntKind.i64 x0 (24 : Int))], ()), ((), ())) := by kernel_rfl
/-! impl.slotBytes -/
noncomputable def impl_slotBytes_b : Code := bd Try.f55
def impl_slotBytes_T : List (Nat × Tm) := []
noncomputable def impl_slotBytes_E : Env := ⟨tt0, [(105, impl_MetaBytes_C), (106, impl_four_C)]⟩
noncomputable def impl_slotBytes_F : PsD [.ro tMeta, .ro tI] → Option (RsD [.own tYs] × PsO [.ro tMeta, .ro tI]) := fun x => evFn impl_slotBytes_E impl_slotBytes_T Try.f55 impl_slotBytes_b [.ro tMeta, .ro tI] [.own tYs] x
@[reducible] noncomputable def impl_slotBytes_C : Ct := ⟨[.ro tMeta, .ro tI], [.own tYs], impl_slotBytes_F⟩
theorem impl_slotBytes_h (x : PsD [.ro tMeta, .ro tI]) (y : RsD [.own tYs] × PsO [.ro tMeta, .ro tI]) (h : impl_slotBytes_F x = some y) : evFn impl_slotBytes_E impl_slotBytes_T Try.f55 impl_slotBytes_b [.ro tMeta, .ro tI] [.own tYs] x = some y := h
theorem impl_slotBytes_c : ∀ f c, get impl_slotBytes_E.ct f = some c → Sat Try.prog f c := ct_cons impl_MetaBytes_S (ct_cons impl_four_S (ct_nil))
theorem impl_slotBytes_S : Sat Try.prog 55 impl_slotBytes_C := fn_ok2 (envOk _) impl_slotBytes_c mixedOk Try.func55 (by kernel_rfl : Try.f55.body = some impl_slotBytes_b) (by kernel_rfl) (by kernel_rfl) impl_slotBytes_h
noncomputable def impl_slotBytes_Ke  (x0 : List Int × List (List Int) × Bool × Bool × Bool × Int × Unit) (x1 : Int) : Ex → AS → Option (RsD [.own tYs] × PsO [.ro tMeta, .ro tI]) := endK impl_slotBytes_E Try.f55 [.ro tMeta, .ro tI] [.own tYs] (initL [.ro tMeta, .ro tI] (x0, (x1, ())) 0).1
theorem impl_slotBytes_main (x0 : List Int × List (List Int) × Bool × Bool × Bool × Int × Unit) (x1 : Int) : impl_slotBytes_F (x0, (x1, ())) =
 (impl_MetaBytes_F ((x0.1, (x0.2.1, (x0.2.2.1, (x0.2.2.2.1, (x0.2.2.2.2.1, (x0.2.2.2.2.2.1, ())))))), ())).bind fun y8 =>
 (impl_four_F (x1, ())).bind fun y10 =>
 ck (decide ((y10.1.1.length + [IntKind.u8.wrap (y8.1.1.length : Int)].length) * 1 ≤ big47)) (ck (decide (((y10.1.1 ++ [IntKind.u8.wrap (y8.1.1.length : Int)]).length + y8.1.1.length) * 1 ≤ big47)) (ck (decide (0 ≤ IntKind.i64.wrap ((156 : Int) - (((y10.1.1 ++ [IntKind.u8.wrap (y8.1.1.length : Int)]) ++ y8.1.1).length : Int)))) (ck (decide ((((y10.1.1 ++ [IntKind.u8.wrap (y8.1.1.length : Int)]) ++ y8.1.1).length + (IntKind.i64.wrap ((156 : Int) - (((y10.1.1 ++ [IntKind.u8.wrap (y8.1.1.length : Int)]) ++ y8.1.1).length : Int))).toNat) * 1 ≤ big47)) ((impl_four_F (x1, ())).bind fun y26 =>
 ck (decide (((((y10.1.1 ++ [IntKind.u8.wrap (y8.1.1.length : Int)]) ++ y8.1.1) ++ List.replicate (IntKind.i64.wrap ((156 : Int) - (((y10.1.1 ++ [IntKind.u8.wrap (y8.1.1.length : Int)]) ++ y8.1.1).length : Int))).toNat tY.zero).length + y26.1.1.length) * 1 ≤ big47)) (some (((((y10.1.1 ++ [IntKind.u8.wrap (y8.1.1.length : Int)]) ++ y8.1.1) ++ List.replicate (IntKind.i64.wrap ((156 : Int) - (((y10.1.1 ++ [IntKind.u8.wrap (y8.1.1.length : Int)]) ++ y8.1.1).length : Int))).toNat tY.zero) ++ y26.1.1, ()), ((), ((), ())))))))) := by kernel_rfl
/-! bytes.Equal -/
noncomputable def bytes_Equal_b : Code := bd Try.f67
def bytes_Equal_T : List (Nat × Tm) := []
noncomputable def bytes_Equal_E : Env := ⟨tt0, []⟩
noncomputable def bytes_Equal_F : PsD [.ro tYs, .ro tYs] → Option (RsD [.own tB] × PsO [.ro tYs, .ro tYs]) := fun x => evFn bytes_Equal_E bytes_Equal_T Try.f67 bytes_Equal_b [.ro tYs, .ro tYs] [.own tB] x
@[reducible] noncomputable def bytes_Equal_C : Ct := ⟨[.ro tYs, .ro tYs], [.own tB], bytes_Equal_F⟩
theorem bytes_Equal_h (x : PsD [.ro tYs, .ro tYs]) (y : RsD [.own tB] × PsO [.ro tYs, .ro tYs]) (h : bytes_Equal_F x = some y) : evFn bytes_Equal_E bytes_Equal_T Try.f67 bytes_Equal_b [.ro tYs, .ro tYs] [.own tB] x = some y := h
theorem bytes_Equal_c : ∀ f c, get bytes_Equal_E.ct f = some c → Sat Try.prog f c := ct_nil
theorem bytes_Equal_S : Sat Try.prog 67 bytes_Equal_C := fn_ok2 (envOk _) bytes_Equal_c mixedOk Try.func67 (by kernel_rfl : Try.f67.body = some bytes_Equal_b) (by kernel_rfl) (by kernel_rfl) bytes_Equal_h
noncomputable def bytes_Equal_Ke  (x0 : List Int) (x1 : List Int) : Ex → AS → Option (RsD [.own tB] × PsO [.ro tYs, .ro tYs]) := endK bytes_Equal_E Try.f67 [.ro tYs, .ro tYs] [.own tB] (initL [.ro tYs, .ro tYs] (x0, (x1, ())) 0).1
theorem bytes_Equal_main (x0 : List Int) (x1 : List Int) : bytes_Equal_F (x0, (x1, ())) =
 some ((decide (x0 = x1), ()), ((), ((), ()))) := by kernel_rfl
/-! impl.GetNum -/
noncomputable def impl_GetNum_b : Code := bd Try.f133
@[reducible] def impl_GetNum_t0 : Tm := ⟨[], [], [(0, .sc true tYs), (1, .sc true tI), (7, .sc true tI), (8, .sc true tI), (9, .sc true tI)], [], [4, 5, 6], []⟩
def impl_GetNum_T : List (Nat × Tm) := [(0, impl_GetNum_t0)]
noncomputable def impl_GetNum_E : Env := ⟨tt0, []⟩
noncomputable def impl_GetNum_F : PsD [.ro tYs, .ro tI] → Option (RsD [.own tI, .own tI, .own tB] × PsO [.ro tYs, .ro tI]) := fun x => evFn impl_GetNum_E impl_GetNum_T Try.f133 impl_GetNum_b [.ro tYs, .ro tI] [.own tI, .own tI, .own tB] x
@[reducible] noncomputable def impl_GetNum_C : Ct := ⟨[.ro tYs, .ro tI], [.own tI, .own tI, .own tB], impl_GetNum_F⟩
theorem impl_GetNum_h (x : PsD [.ro tYs, .ro tI]) (y : RsD [.own tI, .own tI, .own tB] × PsO [.ro tYs, .ro tI]) (h : impl_GetNum_F x = some y) : evFn impl_GetNum_E impl_GetNum_T Try.f133 impl_GetNum_b [.ro tYs, .ro tI] [.own tI, .own tI, .own tB] x = some y := h
theorem impl_GetNum_c : ∀ f c, get impl_GetNum_E.ct f = some c → Sat Try.prog f c := ct_nil
theorem impl_GetNum_S : Sat Try.prog 133 impl_GetNum_C := fn_ok2 (envOk _) impl_GetNum_c mixedOk Try.func133 (by kernel_rfl : Try.f133.body = some impl_GetNum_b) (by kernel_rfl) (by kernel_rfl) impl_GetNum_h
noncomputable def impl_GetNum_Ke  (x0 : List Int) (x1 : Int) : Ex → AS → Option (RsD [.own tI, .own tI, .own tB] × PsO [.ro tYs, .ro tI]) := endK impl_GetNum_E Try.f133 [.ro tYs, .ro tI] [.own tI, .own tI, .own tB] (initL [.ro tYs, .ro tI] (x0, (x1, ())) 0).1
noncomputable def impl_GetNum_B0 {R : Type} : AS → (Ex → AS → Option R) → Option R := fun A K => ev impl_GetNum_E impl_GetNum_T 0 (cA (cA (cB (cA (cB (cB (cB (cB impl_GetNum_b)))))))) A K
noncomputable def impl_GetNum_K0  (x0 : List Int) (x1 : Int) : Ex → AS → Option (RsD [.own tI, .own tI, .own tB] × PsO [.ro tYs, .ro tI]) := kBlk 0 (kSeq (fun A K => ev impl_GetNum_E impl_GetNum_T 1000 (cB (cB (cB (cB (cB impl_GetNum_b))))) A K) (impl_GetNum_Ke x0 x1))
noncomputable def impl_GetNum_x0_0 : AS := ⟨[], []⟩
noncomputable def impl_GetNum_x0_1 (d0 : Int) (d1 : Int) (d2 : Bool) : AS := ⟨[(4, .v (.one (.d true tI d0))), (5, .v (.one (.d true tI d1))), (6, .v (.one (.d true tB d2)))], []⟩
theorem impl_GetNum_l0 {R : Type} {K : Ex → AS → Option R} {s : impl_GetNum_t0.D} (n : Nat) {v : Option R} (h : iterG impl_GetNum_t0 impl_GetNum_B0 K n s = v) (hv : ∃ r, v = some r) : loopG impl_GetNum_t0 impl_GetNum_B0 K s = v := loop_eq (ev_mono _ _) n h hv
theorem impl_GetNum_main (x0 : List Int) (x1 : Int) : impl_GetNum_F (x0, (x1, ())) =
 brk (decide (x1 < (0 : Int)))
 (some (((0 : Int), ((0 : Int), (false, ()))), ((), ((), ()))))
 (loopG impl_GetNum_t0 impl_GetNum_B0 (impl_GetNum_K0 x0 x1) ((x0, (x1, ((0 : Int), ((1 : Int), ((0 : Int), ()))))), ())) := by kernel_rfl
theorem impl_GetNum_r0 {R : Type} (K : Ex → AS → Option R) (n : Nat) (t0 : List Int) (t1 : Int) (t7 : Int) (t8 : Int) (t9 : Int) : iterG impl_GetNum_t0 impl_GetNum_B0 K (n + 1) ((t0, (t1, (t7, (t8, (t9, ()))))), ()) =
 brk (decide (t9 < (5 : Int)))
 (brk (decide (t1 < IntKind.i64.wrap ((t0.length : Int) - t9)))
 (ck (decide (0 ≤ IntKind.i64.wrap (t1 + t9)) && decide (IntKind.i64.wrap (t1 + t9) < t0.length)) (brk (decide ((128 : Int) ≤ IntKind.i64.wrap (rdD tY t0 (IntKind.i64.wrap (t1 + t9)))))
 (iterG impl_GetNum_t0 impl_GetNum_B0 K n ((t0, (t1, (IntKind.i64.wrap (t7 + (IntKind.i64.wrap (((IntKind.i64.wrap (rdD tY t0 (IntKind.i64.wrap (t1 + t9)))).tmod (128 : Int)) * t8))), (IntKind.i64.wrap (t8 * (128 : Int)), (IntKind.i64.wrap (t9 + (1 : Int)), ()))))), ()))
 (brk (decide ((2147483647 : Int) < IntKind.i64.wrap (t7 + (IntKind.i64.wrap (((IntKind.i64.wrap (rdD tY t0 (IntKind.i64.wrap (t1 + t9)))).tmod (128 : Int)) * t8)))))
 (K (.exit 0) (impl_GetNum_x0_0))
 (brk (decide (IntKind.i64.wrap (rdD tY t0 (IntKind.i64.wrap (t1 + t9))) = (0 : Int)))
 (brk (decide ((0 : Int) < t9))
 (K (.exit 0) (impl_GetNum_x0_0))
 (K .ret (impl_GetNum_x0_1 (IntKind.i64.wrap (t7 + (IntKind.i64.wrap (((IntKind.i64.wrap (rdD tY t0 (IntKind.i64.wrap (t1 + t9)))).tmod (128 : Int)) * t8)))) (IntKind.i64.wrap ((IntKind.i64.wrap (t1 + t9)) + (1 : Int))) true)))
 (K .ret (impl_GetNum_x0_1 (IntKind.i64.wrap (t7 + (IntKind.i64.wrap (((IntKind.i64.wrap (rdD tY t0 (IntKind.i64.wrap (t1 + t9)))).tmod (128 : Int)) * t8)))) (IntKind.i64.wrap ((IntKind.i64.wrap (t1 + t9)) + (1 : Int))) true))))))
 (K (.exit 0) (impl_GetNum_x0_0)))
 (K (.exit 0) (impl_GetNum_x0_0)) := by kernel_rfl
theorem impl_GetNum_e0_0 (x0 : List Int) (x1 : Int) : impl_GetNum_K0 x0 x1 (.exit 0) (impl_GetNum_x0_0) =
 some (((0 : Int), ((0 : Int), (false, ()))), ((), ((), ()))) := by kernel_rfl
theorem impl_GetNum_e0_1 (x0 : List Int) (x1 : Int) (d0 : Int) (d1 : Int) (d2 : Bool) : impl_GetNum_K0 x0 x1 .ret (impl_GetNum_x0_1 d0 d1 d2) =
 some ((d0, (d1, (d2, ()))), ((), ((), ()))) := by kernel_rfl
/-! impl.reader).num -/
noncomputable def impl_reader_num_b : Code := bd Try.f116
def impl_reader_num_T : List (Nat × Tm) := []
noncomputable def impl_reader_num_E : Env := ⟨tt0, [(133, impl_GetNum_C)]⟩
noncomputable def impl_reader_num_F : PsD [.st tL4Cur] → Option (RsD [.own tI] × PsO [.st tL4Cur]) := fun x => evFn impl_reader_num_E impl_reader_num_T Try.f116 impl_reader_num_b [.st tL4Cur] [.own tI] x
@[reducible] noncomputable def impl_reader_num_C : Ct := ⟨[.st tL4Cur], [.own tI], impl_reader_num_F⟩
theorem impl_reader_num_h (x : PsD [.st tL4Cur]) (y : RsD [.own tI] × PsO [.st tL4Cur]) (h : impl_reader_num_F x = some y) : evFn impl_reader_num_E impl_reader_num_T Try.f116 impl_reader_num_b [.st tL4Cur] [.own tI] x = some y := h
theorem impl_reader_num_c : ∀ f c, get impl_reader_num_E.ct f = some c → Sat Try.prog f c := ct_cons impl_GetNum_S (ct_nil)
theorem impl_reader_num_S : Sat Try.prog 116 impl_reader_num_C := fn_ok2 (envOk _) impl_reader_num_c mixedOk Try.func116 (by kernel_rfl : Try.f116.body = some impl_reader_num_b) (by kernel_rfl) (by kernel_rfl) impl_reader_num_h
noncomputable def impl_reader_num_Ke  (x0 : List Int × Int × Bool × Unit) : Ex → AS → Option (RsD [.own tI] × PsO [.st tL4Cur]) := endK impl_reader_num_E Try.f116 [.st tL4Cur] [.own tI] (initL [.st tL4Cur] (x0, ()) 0).1
theorem impl_reader_num_main (x0 : List Int × Int × Bool × Unit) : impl_reader_num_F (x0, ()) =
 brk (!x0.2.2.1)
 (some (((0 : Int), ()), ((x0.1, (x0.2.1, (x0.2.2.1, ()))), ())))
 ((impl_GetNum_F (x0.1, (x0.2.1, ()))).bind fun y20 =>
 some ((y20.1.1, ()), ((x0.1, (y20.1.2.1, (y20.1.2.2.1, ()))), ()))) := by kernel_rfl
/-! impl.reader).list -/
noncomputable def impl_reader_list_b : Code := bd Try.f115
@[reducible] def impl_reader_list_t0 : Tm := ⟨[(3, 960000)], [], [(0, .ptr 1000000 0), (3, .own 960000), (4, .sc true tI), (5, .sc true tI)], [(960000, .arr 3 tI), (1000000, .box [.sc true tYs, .sc true tI, .sc true tB])], [3], [960000]⟩
def impl_reader_list_T : List (Nat × Tm) := [(0, impl_reader_list_t0)]
noncomputable def impl_reader_list_E : Env := ⟨tt0, [(116, impl_reader_num_C)]⟩
noncomputable def impl_reader_list_F : PsD [.st tL4Cur] → Option (RsD [.own tIs] × PsO [.st tL4Cur]) := fun x => evFn impl_reader_list_E impl_reader_list_T Try.f115 impl_reader_list_b [.st tL4Cur] [.own tIs] x
@[reducible] noncomputable def impl_reader_list_C : Ct := ⟨[.st tL4Cur], [.own tIs], impl_reader_list_F⟩
theorem impl_reader_list_h (x : PsD [.st tL4Cur]) (y : RsD [.own tIs] × PsO [.st tL4Cur]) (h : impl_reader_list_F x = some y) : evFn impl_reader_list_E impl_reader_list_T Try.f115 impl_reader_list_b [.st tL4Cur] [.own tIs] x = some y := h
theorem impl_reader_list_c : ∀ f c, get impl_reader_list_E.ct f = some c → Sat Try.prog f c := ct_cons impl_reader_num_S (ct_nil)
theorem impl_reader_list_S : Sat Try.prog 115 impl_reader_list_C := fn_ok2 (envOk _) impl_reader_list_c mixedOk Try.func115 (by kernel_rfl : Try.f115.body = some impl_reader_list_b) (by kernel_rfl) (by kernel_rfl) impl_reader_list_h
noncomputable def impl_reader_list_Ke  (x0 : List Int × Int × Bool × Unit) : Ex → AS → Option (RsD [.own tIs] × PsO [.st tL4Cur]) := endK impl_reader_list_E Try.f115 [.st tL4Cur] [.own tIs] (initL [.st tL4Cur] (x0, ()) 0).1
noncomputable def impl_reader_list_B0 {R : Type} : AS → (Ex → AS → Option R) → Option R := fun A K => ev impl_reader_list_E impl_reader_list_T 0 (cA (cA (cB (cA (cB (cB (cB impl_reader_list_b))))))) A K
noncomputable def impl_reader_list_K0  (x0 : List Int × Int × Bool × Unit) : Ex → AS → Option (RsD [.own tIs] × PsO [.st tL4Cur]) := kBlk 0 (kSeq (fun A K => ev impl_reader_list_E impl_reader_list_T 1000 (cB (cB (cB (cB impl_reader_list_b)))) A K) (impl_reader_list_Ke x0))
noncomputable def impl_reader_list_x0_0 (d0 : List Int) (d1 : List Int) (d2 : Int) (d3 : Bool) : AS := ⟨[(3, .v (.one (.own 960000)))], [(960000, .arr 3 tI d0), (1000000, .box [.d true tYs d1, .d true tI d2, .d true tB d3])]⟩
theorem impl_reader_list_l0 {R : Type} {K : Ex → AS → Option R} {s : impl_reader_list_t0.D} (n : Nat) {v : Option R} (h : iterG impl_reader_list_t0 impl_reader_list_B0 K n s = v) (hv : ∃ r, v = some r) : loopG impl_reader_list_t0 impl_reader_list_B0 K s = v := loop_eq (ev_mono _ _) n h hv
theorem impl_reader_list_main (x0 : List Int × Int × Bool × Unit) : impl_reader_list_F (x0, ()) =
 (impl_reader_num_F ((x0.1, (x0.2.1, (x0.2.2.1, ()))), ())).bind fun y9 =>
 loopG impl_reader_list_t0 impl_reader_list_B0 (impl_reader_list_K0 x0) ((y9.1.1, ((0 : Int), ())), (([] : List Int), ((y9.2.1.1, (y9.2.1.2.1, (y9.2.1.2.2.1, ()))), ()))) := by kernel_rfl
theorem impl_reader_list_r0 {R : Type} (K : Ex → AS → Option R) (n : Nat) (t4 : Int) (t5 : Int) (a960000 : List Int) (b1000000_0 : List Int) (b1000000_1 : Int) (b1000000_2 : Bool) : iterG impl_reader_list_t0 impl_reader_list_B0 K (n + 1) ((t4, (t5, ())), (a960000, ((b1000000_0, (b1000000_1, (b1000000_2, ()))), ()))) =
 brk (decide (t5 < t4))
 (brk b1000000_2
 ((impl_reader_num_F ((b1000000_0, (b1000000_1, (b1000000_2, ()))), ())).bind fun y22 =>
 ck (decide ((a960000.length + [y22.1.1].length) * 8 ≤ big47)) (iterG impl_reader_list_t0 impl_reader_list_B0 K n ((t4, (IntKind.i64.wrap (t5 + (1 : Int)), ())), (a960000 ++ [y22.1.1], ((y22.2.1.1, (y22.2.1.2.1, (y22.2.1.2.2.1, ()))), ())))))
 (K (.exit 0) (impl_reader_list_x0_0 a960000 b1000000_0 b1000000_1 b1000000_2)))
 (K (.exit 0) (impl_reader_list_x0_0 a960000 b1000000_0 b1000000_1 b1000000_2)) := by kernel_rfl
theorem impl_reader_list_e0_0 (x0 : List Int × Int × Bool × Unit) (d0 : List Int) (d1 : List Int) (d2 : Int) (d3 : Bool) : impl_reader_list_K0 x0 (.exit 0) (impl_reader_list_x0_0 d0 d1 d2 d3) =
 some ((d0, ()), ((d1, (d2, (d3, ()))), ())) := by kernel_rfl
/-! impl.MetaOf -/
noncomputable def impl_MetaOf_b : Code := bd Try.f66
@[reducible] def impl_MetaOf_t0 : Tm := ⟨[], [(80, 1, 960000)], [(0, .sc true tYs), (2, .ptr 32 0), (4, .ptr 176 0), (5, .ptr 80 0), (16, .sc true tI)], [(32, .box [.nil, .nil, .sc true tB, .sc true tB, .sc true tB, .sc true tI]), (80, .box [.own 224, .own 960000, .sc true tB, .sc true tB, .sc true tB, .sc true tI]), (176, .box [.sc true tYs, .sc true tI, .sc true tB]), (224, .arr 3 tI), (960000, .arr 26 tIs)], [0, 2, 4, 5, 52, 53, 54, 57, 58, 59, 60], [32, 80, 176, 224, 960000]⟩
def impl_MetaOf_T : List (Nat × Tm) := [(0, impl_MetaOf_t0)]
noncomputable def impl_MetaOf_E : Env := ⟨tt0, [(67, bytes_Equal_C), (105, impl_MetaBytes_C), (115, impl_reader_list_C), (116, impl_reader_num_C)]⟩
noncomputable def impl_MetaOf_F : PsD [.ro tYs] → Option (RsD [.own tMeta, .own tB] × PsO [.ro tYs]) := fun x => evFn impl_MetaOf_E impl_MetaOf_T Try.f66 impl_MetaOf_b [.ro tYs] [.own tMeta, .own tB] x
@[reducible] noncomputable def impl_MetaOf_C : Ct := ⟨[.ro tYs], [.own tMeta, .own tB], impl_MetaOf_F⟩
theorem impl_MetaOf_h (x : PsD [.ro tYs]) (y : RsD [.own tMeta, .own tB] × PsO [.ro tYs]) (h : impl_MetaOf_F x = some y) : evFn impl_MetaOf_E impl_MetaOf_T Try.f66 impl_MetaOf_b [.ro tYs] [.own tMeta, .own tB] x = some y := h
theorem impl_MetaOf_c : ∀ f c, get impl_MetaOf_E.ct f = some c → Sat Try.prog f c := ct_cons bytes_Equal_S (ct_cons impl_MetaBytes_S (ct_cons impl_reader_list_S (ct_cons impl_reader_num_S (ct_nil))))
theorem impl_MetaOf_S : Sat Try.prog 66 impl_MetaOf_C := fn_ok2 (envOk _) impl_MetaOf_c mixedOk Try.func66 (by kernel_rfl : Try.f66.body = some impl_MetaOf_b) (by kernel_rfl) (by kernel_rfl) impl_MetaOf_h
noncomputable def impl_MetaOf_Ke  (x0 : List Int) : Ex → AS → Option (RsD [.own tMeta, .own tB] × PsO [.ro tYs]) := endK impl_MetaOf_E Try.f66 [.ro tYs] [.own tMeta, .own tB] (initL [.ro tYs] (x0, ()) 0).1
noncomputable def impl_MetaOf_B0 {R : Type} : AS → (Ex → AS → Option R) → Option R := fun A K => ev impl_MetaOf_E impl_MetaOf_T 0 (cA (cA (cB (cA (cB (cB (cB (cB impl_MetaOf_b)))))))) A K
noncomputable def impl_MetaOf_K0  (x0 : List Int) : Ex → AS → Option (RsD [.own tMeta, .own tB] × PsO [.ro tYs]) := kBlk 0 (kSeq (fun A K => ev impl_MetaOf_E impl_MetaOf_T 1000 (cB (cB (cB (cB (cB impl_MetaOf_b))))) A K) (impl_MetaOf_Ke x0))
noncomputable def impl_MetaOf_x0_0 (d0 : List Int) (d1 : Bool) (d2 : Bool) (d3 : Bool) (d4 : Int) (d5 : Bool) (d6 : Bool) (d7 : Bool) (d8 : Int) (d9 : List Int) (d10 : Int) (d11 : Bool) (d12 : List Int) (d13 : List (List Int)) : AS := ⟨[(0, .v (.one (.d true tYs d0))), (2, .v (.one (.bptr 32 0))), (4, .v (.one (.bptr 176 0))), (5, .v (.one (.bptr 80 0)))], [(32, .box [.nil, .nil, .d true tB d1, .d true tB d2, .d true tB d3, .d true tI d4]), (80, .box [.own 224, .own 960000, .d true tB d5, .d true tB d6, .d true tB d7, .d true tI d8]), (176, .box [.d true tYs d9, .d true tI d10, .d true tB d11]), (224, .arr 3 tI d12), (960000, .arr 26 tIs d13)]⟩
theorem impl_MetaOf_l0 {R : Type} {K : Ex → AS → Option R} {s : impl_MetaOf_t0.D} (n : Nat) {v : Option R} (h : iterG impl_MetaOf_t0 impl_MetaOf_B0 K n s = v) (hv : ∃ r, v = some r) : loopG impl_MetaOf_t0 impl_MetaOf_B0 K s = v := loop_eq (ev_mono _ _) n h hv
theorem impl_MetaOf_main (x0 : List Int) : impl_MetaOf_F (x0, ()) =
 (impl_reader_list_F ((x0, ((0 : Int), (true, ()))), ())).bind fun y14 =>
 loopG impl_MetaOf_t0 impl_MetaOf_B0 (impl_MetaOf_K0 x0) ((x0, ((0 : Int), ())), ((false, (false, (false, ((0 : Int), ())))), ((false, (false, (false, ((0 : Int), ())))), ((y14.2.1.1, (y14.2.1.2.1, (y14.2.1.2.2.1, ()))), (y14.1.1, (([] : List (List Int)), ())))))) := by kernel_rfl
theorem impl_MetaOf_r0 {R : Type} (K : Ex → AS → Option R) (n : Nat) (t0 : List Int) (t16 : Int) (b32_2 : Bool) (b32_3 : Bool) (b32_4 : Bool) (b32_5 : Int) (b80_2 : Bool) (b80_3 : Bool) (b80_4 : Bool) (b80_5 : Int) (b176_0 : List Int) (b176_1 : Int) (b176_2 : Bool) (a224 : List Int) (a960000 : List (List Int)) : iterG impl_MetaOf_t0 impl_MetaOf_B0 K (n + 1) ((t0, (t16, ())), ((b32_2, (b32_3, (b32_4, (b32_5, ())))), ((b80_2, (b80_3, (b80_4, (b80_5, ())))), ((b176_0, (b176_1, (b176_2, ()))), (a224, (a960000, ())))))) =
 brk (decide (t16 < (3 : Int)))
 ((impl_reader_list_F ((b176_0, (b176_1, (b176_2, ()))), ())).bind fun y19 =>
 ck (decide ((a960000.length + [y19.1.1].length) * 24 ≤ big47)) (iterG impl_MetaOf_t0 impl_MetaOf_B0 K n ((t0, (IntKind.i64.wrap (t16 + (1 : Int)), ())), ((b32_2, (b32_3, (b32_4, (b32_5, ())))), ((b80_2, (b80_3, (b80_4, (b80_5, ())))), ((y19.2.1.1, (y19.2.1.2.1, (y19.2.1.2.2.1, ()))), (a224, (a960000 ++ [y19.1.1], ()))))))))
 (K (.exit 0) (impl_MetaOf_x0_0 t0 b32_2 b32_3 b32_4 b32_5 b80_2 b80_3 b80_4 b80_5 b176_0 b176_1 b176_2 a224 a960000)) := by kernel_rfl
theorem impl_MetaOf_e0_0 (x0 : List Int) (d0 : List Int) (d1 : Bool) (d2 : Bool) (d3 : Bool) (d4 : Int) (d5 : Bool) (d6 : Bool) (d7 : Bool) (d8 : Int) (d9 : List Int) (d10 : Int) (d11 : Bool) (d12 : List Int) (d13 : List (List Int)) : impl_MetaOf_K0 x0 (.exit 0) (impl_MetaOf_x0_0 d0 d1 d2 d3 d4 d5 d6 d7 d8 d9 d10 d11 d12 d13) =
 (impl_reader_num_F ((d9, (d10, (d11, ()))), ())).bind fun y28 =>
 (impl_reader_num_F ((y28.2.1.1, (y28.2.1.2.1, (y28.2.1.2.2.1, ()))), ())).bind fun y30 =>
 (impl_MetaBytes_F ((d12, (d13, (!decide (andN IntKind.i64 y28.1.1 (1 : Int) = (0 : Int)), (!decide (andN IntKind.i64 y28.1.1 (2 : Int) = (0 : Int)), (!decide (andN IntKind.i64 y28.1.1 (4 : Int) = (0 : Int)), (y30.1.1, ())))))), ())).bind fun y45 =>
 brk (!y30.2.1.2.2.1)
 (some (((([] : List Int), (([] : List (List Int)), (false, (false, (false, ((0 : Int), ())))))), (false, ())), ((), ())))
 (brk (decide ((y45.1.1.length : Int) = (0 : Int)))
 (some (((([] : List Int), (([] : List (List Int)), (false, (false, (false, ((0 : Int), ())))))), (false, ())), ((), ())))
 ((bytes_Equal_F (y45.1.1, (d0, ()))).bind fun y59 =>
 brk (!y59.1.1)
 (some (((([] : List Int), (([] : List (List Int)), (false, (false, (false, ((0 : Int), ())))))), (false, ())), ((), ())))
 (some (((d12, (d13, (!decide (andN IntKind.i64 y28.1.1 (1 : Int) = (0 : Int)), (!decide (andN IntKind.i64 y28.1.1 (2 : Int) = (0 : Int)), (!decide (andN IntKind.i64 y28.1.1 (4 : Int) = (0 : Int)), (y30.1.1, ())))))), (true, ())), ((), ()))))) := by kernel_rfl
/-! impl.SlotOf -/
noncomputable def impl_SlotOf_b : Code := bd Try.f20
def impl_SlotOf_T : List (Nat × Tm) := []
noncomputable def impl_SlotOf_E : Env := ⟨tt0, [(55, impl_slotBytes_C), (65, impl_from_C), (66, impl_MetaOf_C), (67, bytes_Equal_C)]⟩
noncomputable def impl_SlotOf_F : PsD [.ro tYs] → Option (RsD [.own tMeta, .own tI, .own tB] × PsO [.ro tYs]) := fun x => evFn impl_SlotOf_E impl_SlotOf_T Try.f20 impl_SlotOf_b [.ro tYs] [.own tMeta, .own tI, .own tB] x
@[reducible] noncomputable def impl_SlotOf_C : Ct := ⟨[.ro tYs], [.own tMeta, .own tI, .own tB], impl_SlotOf_F⟩
theorem impl_SlotOf_h (x : PsD [.ro tYs]) (y : RsD [.own tMeta, .own tI, .own tB] × PsO [.ro tYs]) (h : impl_SlotOf_F x = some y) : evFn impl_SlotOf_E impl_SlotOf_T Try.f20 impl_SlotOf_b [.ro tYs] [.own tMeta, .own tI, .own tB] x = some y := h
theorem impl_SlotOf_c : ∀ f c, get impl_SlotOf_E.ct f = some c → Sat Try.prog f c := ct_cons impl_slotBytes_S (ct_cons impl_from_S (ct_cons impl_MetaOf_S (ct_cons bytes_Equal_S (ct_nil))))
theorem impl_SlotOf_S : Sat Try.prog 20 impl_SlotOf_C := fn_ok2 (envOk _) impl_SlotOf_c mixedOk Try.func20 (by kernel_rfl : Try.f20.body = some impl_SlotOf_b) (by kernel_rfl) (by kernel_rfl) impl_SlotOf_h
noncomputable def impl_SlotOf_Ke  (x0 : List Int) : Ex → AS → Option (RsD [.own tMeta, .own tI, .own tB] × PsO [.ro tYs]) := endK impl_SlotOf_E Try.f20 [.ro tYs] [.own tMeta, .own tI, .own tB] (initL [.ro tYs] (x0, ()) 0).1
theorem impl_SlotOf_main (x0 : List Int) : impl_SlotOf_F (x0, ()) =
 brk (!decide ((x0.length : Int) = (160 : Int)))
 (some (((([] : List Int), (([] : List (List Int)), (false, (false, (false, ((0 : Int), ())))))), ((0 : Int), (false, ()))), ((), ())))
 (ck (decide (0 ≤ (0 : Int)) && decide ((0 : Int) < x0.length)) (ck (decide (0 ≤ (1 : Int)) && decide ((1 : Int) < x0.length)) (ck (decide (0 ≤ (2 : Int)) && decide ((2 : Int) < x0.length)) (ck (decide (0 ≤ (3 : Int)) && decide ((3 : Int) < x0.length)) (ck (decide (0 ≤ (4 : Int)) && decide ((4 : Int) < x0.length)) ((impl_from_F (orN IntKind.i64 (orN IntKind.i64 (orN IntKind.i64 (IntKind.i64.wrap (rdD tY x0 (0 : Int))) (shlN IntKind.i64 (IntKind.i64.wrap (rdD tY x0 (1 : Int))) (8 : Int))) (shlN IntKind.i64 (IntKind.i64.wrap (rdD tY x0 (2 : Int))) (16 : Int))) (shlN IntKind.i64 (IntKind.i64.wrap (rdD tY x0 (3 : Int))) (24 : Int)), ((1 : Int), ((1000000 : Int), ())))).bind fun y40 =>
 brk (!y40.1.1)
 (some (((([] : List Int), (([] : List (List Int)), (false, (false, (false, ((0 : Int), ())))))), ((0 : Int), (false, ()))), ((), ())))
 (brk (decide ((151 : Int) < IntKind.i64.wrap (rdD tY x0 (4 : Int))))
 (some (((([] : List Int), (([] : List (List Int)), (false, (false, (false, ((0 : Int), ())))))), ((0 : Int), (false, ()))), ((), ())))
 (ck (decide (0 ≤ (5 : Int)) && decide ((5 : Int) ≤ IntKind.i64.wrap ((5 : Int) + (IntKind.i64.wrap (rdD tY x0 (4 : Int))))) && decide (IntKind.i64.wrap ((5 : Int) + (IntKind.i64.wrap (rdD tY x0 (4 : Int)))) ≤ x0.length)) ((impl_MetaOf_F ((x0.take (IntKind.i64.wrap ((5 : Int) + (IntKind.i64.wrap (rdD tY x0 (4 : Int))))).toNat).drop (5 : Int).toNat, ())).bind fun y52 =>
 brk (!y52.1.2.1)
 (some (((([] : List Int), (([] : List (List Int)), (false, (false, (false, ((0 : Int), ())))))), ((0 : Int), (false, ()))), ((), ())))
 ((impl_slotBytes_F ((y52.1.1.1, (y52.1.1.2.1, (y52.1.1.2.2.1, (y52.1.1.2.2.2.1, (y52.1.1.2.2.2.2.1, (y52.1.1.2.2.2.2.2.1, ())))))), (orN IntKind.i64 (orN IntKind.i64 (orN IntKind.i64 (IntKind.i64.wrap (rdD tY x0 (0 : Int))) (shlN IntKind.i64 (IntKind.i64.wrap (rdD tY x0 (1 : Int))) (8 : Int))) (shlN IntKind.i64 (IntKind.i64.wrap (rdD tY x0 (2 : Int))) (16 : Int))) (shlN IntKind.i64 (IntKind.i64.wrap (rdD tY x0 (3 : Int))) (24 : Int)), ()))).bind fun y60 =>
 (bytes_Equal_F (y60.1.1, (x0, ()))).bind fun y62 =>
 brk (!y62.1.1)
 (some (((([] : List Int), (([] : List (List Int)), (false, (false, (false, ((0 : Int), ())))))), ((0 : Int), (false, ()))), ((), ())))
 (some (((y52.1.1.1, (y52.1.1.2.1, (y52.1.1.2.2.1, (y52.1.1.2.2.2.1, (y52.1.1.2.2.2.2.1, (y52.1.1.2.2.2.2.2.1, ())))))), (orN IntKind.i64 (orN IntKind.i64 (orN IntKind.i64 (IntKind.i64.wrap (rdD tY x0 (0 : Int))) (shlN IntKind.i64 (IntKind.i64.wrap (rdD tY x0 (1 : Int))) (8 : Int))) (shlN IntKind.i64 (IntKind.i64.wrap (rdD tY x0 (2 : Int))) (16 : Int))) (shlN IntKind.i64 (IntKind.i64.wrap (rdD tY x0 (3 : Int))) (24 : Int)), (true, ()))), ((), ()))))))))))))) := by kernel_rfl
/-! impl.latest -/
noncomputable def impl_latest_b : Code := bd Try.f53
def impl_latest_T : List (Nat × Tm) := []
noncomputable def impl_latest_E : Env := ⟨tt0, [(20, impl_SlotOf_C)]⟩
noncomputable def impl_latest_F : PsD [.ro tSlots] → Option (RsD [.own tMeta, .own tI, .own tB] × PsO [.ro tSlots]) := fun x => evFn impl_latest_E impl_latest_T Try.f53 impl_latest_b [.ro tSlots] [.own tMeta, .own tI, .own tB] x
@[reducible] noncomputable def impl_latest_C : Ct := ⟨[.ro tSlots], [.own tMeta, .own tI, .own tB], impl_latest_F⟩
theorem impl_latest_h (x : PsD [.ro tSlots]) (y : RsD [.own tMeta, .own tI, .own tB] × PsO [.ro tSlots]) (h : impl_latest_F x = some y) : evFn impl_latest_E impl_latest_T Try.f53 impl_latest_b [.ro tSlots] [.own tMeta, .own tI, .own tB] x = some y := h
theorem impl_latest_c : ∀ f c, get impl_latest_E.ct f = some c → Sat Try.prog f c := ct_cons impl_SlotOf_S (ct_nil)
theorem impl_latest_S : Sat Try.prog 53 impl_latest_C := fn_ok2 (envOk _) impl_latest_c mixedOk Try.func53 (by kernel_rfl : Try.f53.body = some impl_latest_b) (by kernel_rfl) (by kernel_rfl) impl_latest_h
noncomputable def impl_latest_Ke  (x0 : List Int × List Int × Unit) : Ex → AS → Option (RsD [.own tMeta, .own tI, .own tB] × PsO [.ro tSlots]) := endK impl_latest_E Try.f53 [.ro tSlots] [.own tMeta, .own tI, .own tB] (initL [.ro tSlots] (x0, ()) 0).1
theorem impl_latest_main (x0 : List Int × List Int × Unit) : impl_latest_F (x0, ()) =
 (impl_SlotOf_F (x0.1, ())).bind fun y14 =>
 (impl_SlotOf_F (x0.2.1, ())).bind fun y21 =>
 brk y21.1.2.2.1
 (brk (!y14.1.2.2.1)
 (some (((y21.1.1.1, (y21.1.1.2.1, (y21.1.1.2.2.1, (y21.1.1.2.2.2.1, (y21.1.1.2.2.2.2.1, (y21.1.1.2.2.2.2.2.1, ())))))), (y21.1.2.1, (false, ()))), ((), ())))
 (brk (decide (y14.1.2.1 < y21.1.2.1))
 (some (((y21.1.1.1, (y21.1.1.2.1, (y21.1.1.2.2.1, (y21.1.1.2.2.2.1, (y21.1.1.2.2.2.2.1, (y21.1.1.2.2.2.2.2.1, ())))))), (y21.1.2.1, (false, ()))), ((), ())))
 (some (((y14.1.1.1, (y14.1.1.2.1, (y14.1.1.2.2.1, (y14.1.1.2.2.2.1, (y14.1.1.2.2.2.2.1, (y14.1.1.2.2.2.2.2.1, ())))))), (y14.1.2.1, (y14.1.2.2.1, ()))), ((), ())))))
 (some (((y14.1.1.1, (y14.1.1.2.1, (y14.1.1.2.2.1, (y14.1.1.2.2.2.1, (y14.1.1.2.2.2.2.1, (y14.1.1.2.2.2.2.2.1, ())))))), (y14.1.2.1, (y14.1.2.2.1, ()))), ((), ()))) := by kernel_rfl
/-! slices_Grow_byte: off the shelf -/
noncomputable def slices_Grow_byte_F : PsD [.mv tYs, .ro tI] → Option (RsD [.own tYs] × PsO [.mv tYs, .ro tI]) := fun x => growF x.1 x.2.1
@[reducible] noncomputable def slices_Grow_byte_C : Ct := ⟨[.mv tYs, .ro tI], [.own tYs], slices_Grow_byte_F⟩
end Go.Refl
namespace Go.Proofs
open Go.Shelf
def Ytbhonnfinekpcaa.slices_Grow_byte_lay_ren : Go.Shelf.Ren := ⟨fun | 4 => 104 | n => n, fun | 22 => 22 | 25 => 5 | 3 => 3 | 4 => 4 | 9 => 9 | 20 => 20 | 0 => 0 | n => n, fun | n => n⟩
theorem Ytbhonnfinekpcaa.slices_Grow_byte_lay : Go.Proofs.Lays8.n4 Try.prog Ytbhonnfinekpcaa.slices_Grow_byte_lay_ren := {
  mixed := by kernel_rfl
  f4 := ⟨Try.f104.name, by decide, Try.func104.trans (congrArg some (by kernel_rfl))⟩
  t0 := Try.underlying0
  a0 := Try.isAgg0
  z0 := Try.sizeOf0
  v0 := Try.zeroValue0
  t3 := Try.underlying3
  a3 := Try.isAgg3
  z3 := Try.sizeOf3
  v3 := Try.zeroValue3
  t4 := Try.underlying4
  a4 := Try.isAgg4
  z4 := Try.sizeOf4
  v4 := Try.zeroValue4
  t9 := Try.underlying9
  a9 := Try.isAgg9
  z9 := Try.sizeOf9
  v9 := Try.zeroValue9
  t20 := Try.underlying20
  a20 := Try.isAgg20
  z20 := Try.sizeOf20
  v20 := Try.zeroValue20
  t22 := Try.underlying22
  a22 := Try.isAgg22
  z22 := Try.sizeOf22
  v22 := Try.zeroValue22 }
end Go.Proofs
namespace Go.Refl
open Go.RowKit Go.Proofs
set_option linter.unusedVariables false
set_option maxRecDepth 100000
theorem slices_Grow_byte_S : Sat Try.prog 104 slices_Grow_byte_C := grow_sat Ytbhonnfinekpcaa.slices_Grow_byte_lay fit5 (by decide) ⟨_, Try.func104, by kernel_rfl, by kernel_rfl⟩
/-! slices.Concat[[]byte,byte] -/
noncomputable def slices_Concat_byte_b : Code := bd Try.f54
@[reducible] def slices_Concat_byte_t0 : Tm := ⟨[], [], [(0, .sc true tYss), (3, .sc true tI), (9, .sc true tYss), (10, .sc true tI), (11, .sc true tI)], [], [0, 3], []⟩
@[reducible] def slices_Concat_byte_t2 : Tm := ⟨[(6, 960600)], [], [(6, .own 960600), (25, .sc true tYss), (26, .sc true tI), (27, .sc true tI)], [(960600, .arr 5 tY)], [6], [960600]⟩
def slices_Concat_byte_T : List (Nat × Tm) := [(0, slices_Concat_byte_t0), (2, slices_Concat_byte_t2)]
noncomputable def slices_Concat_byte_E : Env := ⟨tt0, [(104, slices_Grow_byte_C)]⟩
noncomputable def slices_Concat_byte_F : PsD [.ro tYss] → Option (RsD [.own tYs] × PsO [.ro tYss]) := fun x => evFn slices_Concat_byte_E slices_Concat_byte_T Try.f54 slices_Concat_byte_b [.ro tYss] [.own tYs] x
@[reducible] noncomputable def slices_Concat_byte_C : Ct := ⟨[.ro tYss], [.own tYs], slices_Concat_byte_F⟩
theorem slices_Concat_byte_h (x : PsD [.ro tYss]) (y : RsD [.own tYs] × PsO [.ro tYss]) (h : slices_Concat_byte_F x = some y) : evFn slices_Concat_byte_E slices_Concat_byte_T Try.f54 slices_Concat_byte_b [.ro tYss] [.own tYs] x = some y := h
theorem slices_Concat_byte_c : ∀ f c, get slices_Concat_byte_E.ct f = some c → Sat Try.prog f c := ct_cons slices_Grow_byte_S (ct_nil)
theorem slices_Concat_byte_S : Sat Try.prog 54 slices_Concat_byte_C := fn_ok2 (envOk _) slices_Concat_byte_c mixedOk Try.func54 (by kernel_rfl : Try.f54.body = some slices_Concat_byte_b) (by kernel_rfl) (by kernel_rfl) slices_Concat_byte_h
noncomputable def slices_Concat_byte_Ke  (x0 : List (List Int)) : Ex → AS → Option (RsD [.own tYs] × PsO [.ro tYss]) := endK slices_Concat_byte_E Try.f54 [.ro tYss] [.own tYs] (initL [.ro tYss] (x0, ()) 0).1
noncomputable def slices_Concat_byte_B0 {R : Type} : AS → (Ex → AS → Option R) → Option R := fun A K => ev slices_Concat_byte_E slices_Concat_byte_T 0 (cA (cA (cB (cA (cB (cB slices_Concat_byte_b)))))) A K
noncomputable def slices_Concat_byte_B2 {R : Type} : AS → (Ex → AS → Option R) → Option R := fun A K => ev slices_Concat_byte_E slices_Concat_byte_T 2 (cA (cA (cB (cA (cB (cB (cB (cB slices_Concat_byte_b)))))))) A K
noncomputable def slices_Concat_byte_K0  (x0 : List (List Int)) : Ex → AS → Option (RsD [.own tYs] × PsO [.ro tYss]) := kBlk 0 (kSeq (fun A K => ev slices_Concat_byte_E slices_Concat_byte_T 1000 (cB (cB (cB slices_Concat_byte_b))) A K) (slices_Concat_byte_Ke x0))
noncomputable def slices_Concat_byte_K2  (x0 : List (List Int)) : Ex → AS → Option (RsD [.own tYs] × PsO [.ro tYss]) := kBlk 2 (kSeq (fun A K => ev slices_Concat_byte_E slices_Concat_byte_T 1000 (cB (cB (cB (cB (cB slices_Concat_byte_b))))) A K) (slices_Concat_byte_Ke x0))
noncomputable def slices_Concat_byte_x0_0 (d0 : List (List Int)) (d1 : Int) : AS := ⟨[(0, .v (.one (.d true tYss d0))), (3, .v (.one (.d true tI d1)))], []⟩
noncomputable def slices_Concat_byte_x2_0 (d0 : List Int) : AS := ⟨[(6, .v (.one (.own 960600)))], [(960600, .arr 5 tY d0)]⟩
theorem slices_Concat_byte_l0 {R : Type} {K : Ex → AS → Option R} {s : slices_Concat_byte_t0.D} (n : Nat) {v : Option R} (h : iterG slices_Concat_byte_t0 slices_Concat_byte_B0 K n s = v) (hv : ∃ r, v = some r) : loopG slices_Concat_byte_t0 slices_Concat_byte_B0 K s = v := loop_eq (ev_mono _ _) n h hv
theorem slices_Concat_byte_l2 {R : Type} {K : Ex → AS → Option R} {s : slices_Concat_byte_t2.D} (n : Nat) {v : Option R} (h : iterG slices_Concat_byte_t2 slices_Concat_byte_B2 K n s = v) (hv : ∃ r, v = some r) : loopG slices_Concat_byte_t2 slices_Concat_byte_B2 K s = v := loop_eq (ev_mono _ _) n h hv
theorem slices_Concat_byte_main (x0 : List (List Int)) : slices_Concat_byte_F (x0, ()) =
 loopG slices_Concat_byte_t0 slices_Concat_byte_B0 (slices_Concat_byte_K0 x0) ((x0, ((0 : Int), (x0, ((x0.length : Int), ((0 : Int), ()))))), ()) := by kernel_rfl
theorem slices_Concat_byte_r0 {R : Type} (K : Ex → AS → Option R) (n : Nat) (t0 : List (List Int)) (t3 : Int) (t9 : List (List Int)) (t10 : Int) (t11 : Int) : iterG slices_Concat_byte_t0 slices_Concat_byte_B0 K (n + 1) ((t0, (t3, (t9, (t10, (t11, ()))))), ()) =
 brk (decide (t11 < t10))
 (ck (decide (0 ≤ t11) && decide (t11 < t9.length)) (brk (decide (IntKind.i64.wrap (t3 + ((rdD tYs t9 t11).length : Int)) < (0 : Int)))
 (none)
 (iterG slices_Concat_byte_t0 slices_Concat_byte_B0 K n ((t0, (IntKind.i64.wrap (t3 + ((rdD tYs t9 t11).length : Int)), (t9, (t10, (IntKind.i64.wrap (t11 + (1 : Int)), ()))))), ()))))
 (K (.exit 0) (slices_Concat_byte_x0_0 t0 t3)) := by kernel_rfl
theorem slices_Concat_byte_e0_0 (x0 : List (List Int)) (d0 : List (List Int)) (d1 : Int) : slices_Concat_byte_K0 x0 (.exit 0) (slices_Concat_byte_x0_0 d0 d1) =
 (slices_Grow_byte_F (([] : List Int), (d1, ()))).bind fun y24 =>
 loopG slices_Concat_byte_t2 slices_Concat_byte_B2 (slices_Concat_byte_K2 x0) ((d0, ((d0.length : Int), ((0 : Int), ()))), (y24.1.1, ())) := by kernel_rfl
theorem slices_Concat_byte_r2 {R : Type} (K : Ex → AS → Option R) (n : Nat) (t25 : List (List Int)) (t26 : Int) (t27 : Int) (a960600 : List Int) : iterG slices_Concat_byte_t2 slices_Concat_byte_B2 K (n + 1) ((t25, (t26, (t27, ()))), (a960600, ())) =
 brk (decide (t27 < t26))
 (ck (decide (0 ≤ t27) && decide (t27 < t25.length)) (ck (decide ((a960600.length + (rdD tYs t25 t27).length) * 1 ≤ big47)) (iterG slices_Concat_byte_t2 slices_Concat_byte_B2 K n ((t25, (t26, (IntKind.i64.wrap (t27 + (1 : Int)), ()))), (a960600 ++ (rdD tYs t25 t27), ())))))
 (K (.exit 2) (slices_Concat_byte_x2_0 a960600)) := by kernel_rfl
theorem slices_Concat_byte_e2_0 (x0 : List (List Int)) (d0 : List Int) : slices_Concat_byte_K2 x0 (.exit 2) (slices_Concat_byte_x2_0 d0) =
 some ((d0, ()), ((), ())) := by kernel_rfl
/-! impl.Tear -/
noncomputable def impl_Tear_b : Code := bd Try.f13
def impl_Tear_T : List (Nat × Tm) := []
noncomputable def impl_Tear_E : Env := ⟨tt0, [(35, impl_MetaOk_C), (52, impl_copySlots_C), (53, impl_latest_C), (54, slices_Concat_byte_C), (55, impl_slotBytes_C)]⟩
noncomputable def impl_Tear_F : PsD [.ro tSlots, .ro tMeta, .ro tI] → Option (RsD [.own tSlots] × PsO [.ro tSlots, .ro tMeta, .ro tI]) := fun x => evFn impl_Tear_E impl_Tear_T Try.f13 impl_Tear_b [.ro tSlots, .ro tMeta, .ro tI] [.own tSlots] x
@[reducible] noncomputable def impl_Tear_C : Ct := ⟨[.ro tSlots, .ro tMeta, .ro tI], [.own tSlots], impl_Tear_F⟩
theorem impl_Tear_h (x : PsD [.ro tSlots, .ro tMeta, .ro tI]) (y : RsD [.own tSlots] × PsO [.ro tSlots, .ro tMeta, .ro tI]) (h : impl_Tear_F x = some y) : evFn impl_Tear_E impl_Tear_T Try.f13 impl_Tear_b [.ro tSlots, .ro tMeta, .ro tI] [.own tSlots] x = some y := h
theorem impl_Tear_c : ∀ f c, get impl_Tear_E.ct f = some c → Sat Try.prog f c := ct_cons impl_MetaOk_S (ct_cons impl_copySlots_S (ct_cons impl_latest_S (ct_cons slices_Concat_byte_S (ct_cons impl_slotBytes_S (ct_nil)))))
theorem impl_Tear_S : Sat Try.prog 13 impl_Tear_C := fn_ok2 (envOk _) impl_Tear_c mixedOk Try.func13 (by kernel_rfl : Try.f13.body = some impl_Tear_b) (by kernel_rfl) (by kernel_rfl) impl_Tear_h
noncomputable def impl_Tear_Ke  (x0 : List Int × List Int × Unit) (x1 : List Int × List (List Int) × Bool × Bool × Bool × Int × Unit) (x2 : Int) : Ex → AS → Option (RsD [.own tSlots] × PsO [.ro tSlots, .ro tMeta, .ro tI]) := endK impl_Tear_E Try.f13 [.ro tSlots, .ro tMeta, .ro tI] [.own tSlots] (initL [.ro tSlots, .ro tMeta, .ro tI] (x0, (x1, (x2, ()))) 0).1
theorem impl_Tear_main (x0 : List Int × List Int × Unit) (x1 : List Int × List (List Int) × Bool × Bool × Bool × Int × Unit) (x2 : Int) : impl_Tear_F (x0, (x1, (x2, ()))) =
 (impl_copySlots_F ((x0.1, (x0.2.1, ())), ())).bind fun y13 =>
 (impl_latest_F ((y13.1.1.1, (y13.1.1.2.1, ())), ())).bind fun y16 =>
 (impl_MetaOk_F ((x1.1, (x1.2.1, (x1.2.2.1, (x1.2.2.2.1, (x1.2.2.2.2.1, (x1.2.2.2.2.2.1, ())))))), ())).bind fun y21 =>
 brk (!y21.1.1)
 (some (((y13.1.1.1, (y13.1.1.2.1, ())), ()), ((), ((), ((), ())))))
 (brk (decide (y16.1.2.1 = (1000000 : Int)))
 (some (((y13.1.1.1, (y13.1.1.2.1, ())), ()), ((), ((), ((), ())))))
 (brk y16.1.2.2.1
 (ck (decide (0 ≤ minN (maxN (0 : Int) (minN x2 (160 : Int))) (y13.1.1.2.1.length : Int)) && decide (minN (maxN (0 : Int) (minN x2 (160 : Int))) (y13.1.1.2.1.length : Int) ≤ (y13.1.1.2.1.length : Int)) && decide ((y13.1.1.2.1.length : Int) ≤ y13.1.1.2.1.length)) ((impl_slotBytes_F ((x1.1, (x1.2.1, (x1.2.2.1, (x1.2.2.2.1, (x1.2.2.2.2.1, (x1.2.2.2.2.2.1, ())))))), (IntKind.i64.wrap (y16.1.2.1 + (1 : Int)), ()))).bind fun y41 =>
 ck (decide (0 ≤ (0 : Int)) && decide ((0 : Int) ≤ maxN (0 : Int) (minN x2 (160 : Int))) && decide (maxN (0 : Int) (minN x2 (160 : Int)) ≤ y41.1.1.length)) ((slices_Concat_byte_F ([(y41.1.1.take (maxN (0 : Int) (minN x2 (160 : Int))).toNat).drop (0 : Int).toNat, (y13.1.1.2.1.take (y13.1.1.2.1.length : Int).toNat).drop (minN (maxN (0 : Int) (minN x2 (160 : Int))) (y13.1.1.2.1.length : Int)).toNat], ())).bind fun y51 =>
 some (((y13.1.1.1, (y51.1.1, ())), ()), ((), ((), ((), ())))))))
 (ck (decide (0 ≤ minN (maxN (0 : Int) (minN x2 (160 : Int))) (y13.1.1.1.length : Int)) && decide (minN (maxN (0 : Int) (minN x2 (160 : Int))) (y13.1.1.1.length : Int) ≤ (y13.1.1.1.length : Int)) && decide ((y13.1.1.1.length : Int) ≤ y13.1.1.1.length)) ((impl_slotBytes_F ((x1.1, (x1.2.1, (x1.2.2.1, (x1.2.2.2.1, (x1.2.2.2.2.1, (x1.2.2.2.2.2.1, ())))))), (IntKind.i64.wrap (y16.1.2.1 + (1 : Int)), ()))).bind fun y41 =>
 ck (decide (0 ≤ (0 : Int)) && decide ((0 : Int) ≤ maxN (0 : Int) (minN x2 (160 : Int))) && decide (maxN (0 : Int) (minN x2 (160 : Int)) ≤ y41.1.1.length)) ((slices_Concat_byte_F ([(y41.1.1.take (maxN (0 : Int) (minN x2 (160 : Int))).toNat).drop (0 : Int).toNat, (y13.1.1.1.take (y13.1.1.1.length : Int).toNat).drop (minN (maxN (0 : Int) (minN x2 (160 : Int))) (y13.1.1.1.length : Int)).toNat], ())).bind fun y51 =>
 some (((y51.1.1, (y13.1.1.2.1, ())), ()), ((), ((), ((), ()))))))))) := by kernel_rfl
/-! spec.l1Max -/
noncomputable def spec_l1Max_b : Code := bd Try.f109
def spec_l1Max_T : List (Nat × Tm) := []
noncomputable def spec_l1Max_E : Env := ⟨tt0, []⟩
noncomputable def spec_l1Max_F : PsD [.ro tI, .ro tI] → Option (RsD [.own tI] × PsO [.ro tI, .ro tI]) := fun x => evFn spec_l1Max_E spec_l1Max_T Try.f109 spec_l1Max_b [.ro tI, .ro tI] [.own tI] x
@[reducible] noncomputable def spec_l1Max_C : Ct := ⟨[.ro tI, .ro tI], [.own tI], spec_l1Max_F⟩
theorem spec_l1Max_h (x : PsD [.ro tI, .ro tI]) (y : RsD [.own tI] × PsO [.ro tI, .ro tI]) (h : spec_l1Max_F x = some y) : evFn spec_l1Max_E spec_l1Max_T Try.f109 spec_l1Max_b [.ro tI, .ro tI] [.own tI] x = some y := h
theorem spec_l1Max_c : ∀ f c, get spec_l1Max_E.ct f = some c → Sat Try.prog f c := ct_nil
theorem spec_l1Max_S : Sat Try.prog 109 spec_l1Max_C := fn_ok2 (envOk _) spec_l1Max_c mixedOk Try.func109 (by kernel_rfl : Try.f109.body = some spec_l1Max_b) (by kernel_rfl) (by kernel_rfl) spec_l1Max_h
noncomputable def spec_l1Max_Ke  (x0 : Int) (x1 : Int) : Ex → AS → Option (RsD [.own tI] × PsO [.ro tI, .ro tI]) := endK spec_l1Max_E Try.f109 [.ro tI, .ro tI] [.own tI] (initL [.ro tI, .ro tI] (x0, (x1, ())) 0).1
theorem spec_l1Max_main (x0 : Int) (x1 : Int) : spec_l1Max_F (x0, (x1, ())) =
 brk (decide (x1 < x0))
 (some ((x0, ()), ((), ((), ()))))
 (some ((x1, ()), ((), ((), ())))) := by kernel_rfl
/-! spec.l1Min -/
noncomputable def spec_l1Min_b : Code := bd Try.f110
def spec_l1Min_T : List (Nat × Tm) := []
noncomputable def spec_l1Min_E : Env := ⟨tt0, []⟩
noncomputable def spec_l1Min_F : PsD [.ro tI, .ro tI] → Option (RsD [.own tI] × PsO [.ro tI, .ro tI]) := fun x => evFn spec_l1Min_E spec_l1Min_T Try.f110 spec_l1Min_b [.ro tI, .ro tI] [.own tI] x
@[reducible] noncomputable def spec_l1Min_C : Ct := ⟨[.ro tI, .ro tI], [.own tI], spec_l1Min_F⟩
theorem spec_l1Min_h (x : PsD [.ro tI, .ro tI]) (y : RsD [.own tI] × PsO [.ro tI, .ro tI]) (h : spec_l1Min_F x = some y) : evFn spec_l1Min_E spec_l1Min_T Try.f110 spec_l1Min_b [.ro tI, .ro tI] [.own tI] x = some y := h
theorem spec_l1Min_c : ∀ f c, get spec_l1Min_E.ct f = some c → Sat Try.prog f c := ct_nil
theorem spec_l1Min_S : Sat Try.prog 110 spec_l1Min_C := fn_ok2 (envOk _) spec_l1Min_c mixedOk Try.func110 (by kernel_rfl : Try.f110.body = some spec_l1Min_b) (by kernel_rfl) (by kernel_rfl) spec_l1Min_h
noncomputable def spec_l1Min_Ke  (x0 : Int) (x1 : Int) : Ex → AS → Option (RsD [.own tI] × PsO [.ro tI, .ro tI]) := endK spec_l1Min_E Try.f110 [.ro tI, .ro tI] [.own tI] (initL [.ro tI, .ro tI] (x0, (x1, ())) 0).1
theorem spec_l1Min_main (x0 : Int) (x1 : Int) : spec_l1Min_F (x0, (x1, ())) =
 brk (decide (x0 < x1))
 (some ((x0, ()), ((), ((), ()))))
 (some ((x1, ()), ((), ((), ())))) := by kernel_rfl
/-! spec.l6Torn -/
noncomputable def spec_l6Torn_b : Code := bd Try.f59
def spec_l6Torn_T : List (Nat × Tm) := []
noncomputable def spec_l6Torn_E : Env := ⟨tt0, [(109, spec_l1Max_C), (110, spec_l1Min_C)]⟩
noncomputable def spec_l6Torn_F : PsD [.ro tYs, .ro tYs, .ro tI] → Option (RsD [.own tYs] × PsO [.ro tYs, .ro tYs, .ro tI]) := fun x => evFn spec_l6Torn_E spec_l6Torn_T Try.f59 spec_l6Torn_b [.ro tYs, .ro tYs, .ro tI] [.own tYs] x
@[reducible] noncomputable def spec_l6Torn_C : Ct := ⟨[.ro tYs, .ro tYs, .ro tI], [.own tYs], spec_l6Torn_F⟩
theorem spec_l6Torn_h (x : PsD [.ro tYs, .ro tYs, .ro tI]) (y : RsD [.own tYs] × PsO [.ro tYs, .ro tYs, .ro tI]) (h : spec_l6Torn_F x = some y) : evFn spec_l6Torn_E spec_l6Torn_T Try.f59 spec_l6Torn_b [.ro tYs, .ro tYs, .ro tI] [.own tYs] x = some y := h
theorem spec_l6Torn_c : ∀ f c, get spec_l6Torn_E.ct f = some c → Sat Try.prog f c := ct_cons spec_l1Max_S (ct_cons spec_l1Min_S (ct_nil))
theorem spec_l6Torn_S : Sat Try.prog 59 spec_l6Torn_C := fn_ok2 (envOk _) spec_l6Torn_c mixedOk Try.func59 (by kernel_rfl : Try.f59.body = some spec_l6Torn_b) (by kernel_rfl) (by kernel_rfl) spec_l6Torn_h
noncomputable def spec_l6Torn_Ke  (x0 : List Int) (x1 : List Int) (x2 : Int) : Ex → AS → Option (RsD [.own tYs] × PsO [.ro tYs, .ro tYs, .ro tI]) := endK spec_l6Torn_E Try.f59 [.ro tYs, .ro tYs, .ro tI] [.own tYs] (initL [.ro tYs, .ro tYs, .ro tI] (x0, (x1, (x2, ()))) 0).1
theorem spec_l6Torn_main (x0 : List Int) (x1 : List Int) (x2 : Int) : spec_l6Torn_F (x0, (x1, (x2, ()))) =
 (spec_l1Min_F (x2, ((x1.length : Int), ()))).bind fun y12 =>
 (spec_l1Max_F ((0 : Int), (y12.1.1, ()))).bind fun y13 =>
 ck (decide (0 ≤ (0 : Int)) && decide ((0 : Int) ≤ y13.1.1) && decide (y13.1.1 ≤ x1.length)) (ck (decide ((([] : List Int).length + ((x1.take y13.1.1.toNat).drop (0 : Int).toNat).length) * 1 ≤ big47)) (brk (decide (y13.1.1 < (x0.length : Int)))
 (ck (decide (0 ≤ y13.1.1) && decide (y13.1.1 ≤ (x0.length : Int)) && decide ((x0.length : Int) ≤ x0.length)) (ck (decide (((([] : List Int) ++ ((x1.take y13.1.1.toNat).drop (0 : Int).toNat)).length + ((x0.take (x0.length : Int).toNat).drop y13.1.1.toNat).length) * 1 ≤ big47)) (some (((([] : List Int) ++ ((x1.take y13.1.1.toNat).drop (0 : Int).toNat)) ++ ((x0.take (x0.length : Int).toNat).drop y13.1.1.toNat), ()), ((), ((), ((), ())))))))
 (some ((([] : List Int) ++ ((x1.take y13.1.1.toNat).drop (0 : Int).toNat), ()), ((), ((), ((), ()))))))) := by kernel_rfl
/-! spec.Tear -/
noncomputable def spec_Tear_b : Code := bd Try.f14
def spec_Tear_T : List (Nat × Tm) := []
noncomputable def spec_Tear_E : Env := ⟨tt0, [(27, spec_SlotGet_C), (32, spec_SlotPut_C), (56, spec_l6Copy_C), (57, spec_MetaOk_C), (58, spec_l6Which_C), (59, spec_l6Torn_C)]⟩
noncomputable def spec_Tear_F : PsD [.ro tSlots, .ro tMeta, .ro tI] → Option (RsD [.own tSlots] × PsO [.ro tSlots, .ro tMeta, .ro tI]) := fun x => evFn spec_Tear_E spec_Tear_T Try.f14 spec_Tear_b [.ro tSlots, .ro tMeta, .ro tI] [.own tSlots] x
@[reducible] noncomputable def spec_Tear_C : Ct := ⟨[.ro tSlots, .ro tMeta, .ro tI], [.own tSlots], spec_Tear_F⟩
theorem spec_Tear_h (x : PsD [.ro tSlots, .ro tMeta, .ro tI]) (y : RsD [.own tSlots] × PsO [.ro tSlots, .ro tMeta, .ro tI]) (h : spec_Tear_F x = some y) : evFn spec_Tear_E spec_Tear_T Try.f14 spec_Tear_b [.ro tSlots, .ro tMeta, .ro tI] [.own tSlots] x = some y := h
theorem spec_Tear_c : ∀ f c, get spec_Tear_E.ct f = some c → Sat Try.prog f c := ct_cons spec_SlotGet_S (ct_cons spec_SlotPut_S (ct_cons spec_l6Copy_S (ct_cons spec_MetaOk_S (ct_cons spec_l6Which_S (ct_cons spec_l6Torn_S (ct_nil))))))
theorem spec_Tear_S : Sat Try.prog 14 spec_Tear_C := fn_ok2 (envOk _) spec_Tear_c mixedOk Try.func14 (by kernel_rfl : Try.f14.body = some spec_Tear_b) (by kernel_rfl) (by kernel_rfl) spec_Tear_h
noncomputable def spec_Tear_Ke  (x0 : List Int × List Int × Unit) (x1 : List Int × List (List Int) × Bool × Bool × Bool × Int × Unit) (x2 : Int) : Ex → AS → Option (RsD [.own tSlots] × PsO [.ro tSlots, .ro tMeta, .ro tI]) := endK spec_Tear_E Try.f14 [.ro tSlots, .ro tMeta, .ro tI] [.own tSlots] (initL [.ro tSlots, .ro tMeta, .ro tI] (x0, (x1, (x2, ()))) 0).1
theorem spec_Tear_main (x0 : List Int × List Int × Unit) (x1 : List Int × List (List Int) × Bool × Bool × Bool × Int × Unit) (x2 : Int) : spec_Tear_F (x0, (x1, (x2, ()))) =
 (spec_l6Copy_F ((x0.1, (x0.2.1, ())), ())).bind fun y13 =>
 (spec_SlotPut_F ((x0.1, (x0.2.1, ())), ((x1.1, (x1.2.1, (x1.2.2.1, (x1.2.2.2.1, (x1.2.2.2.2.1, (x1.2.2.2.2.2.1, ())))))), ()))).bind fun y16 =>
 (spec_SlotGet_F ((x0.1, (x0.2.1, ())), ())).bind fun y19 =>
 (spec_MetaOk_F ((x1.1, (x1.2.1, (x1.2.2.1, (x1.2.2.2.1, (x1.2.2.2.2.1, (x1.2.2.2.2.2.1, ())))))), ())).bind fun y24 =>
 brk (!y24.1.1)
 (some (((y13.1.1.1, (y13.1.1.2.1, ())), ()), ((), ((), ((), ())))))
 (brk (decide ((1000000 : Int) ≤ y19.1.2.1))
 (some (((y13.1.1.1, (y13.1.1.2.1, ())), ()), ((), ((), ((), ())))))
 ((spec_l6Which_F ((x0.1, (x0.2.1, ())), ())).bind fun y32 =>
 brk (decide (y32.1.1 = (0 : Int)))
 ((spec_l6Torn_F (x0.2.1, (y16.1.1.2.1, (x2, ())))).bind fun y39 =>
 some (((y13.1.1.1, (y39.1.1, ())), ()), ((), ((), ((), ())))))
 ((spec_l6Torn_F (x0.1, (y16.1.1.1, (x2, ())))).bind fun y46 =>
 some (((y46.1.1, (y13.1.1.2.1, ())), ()), ((), ((), ((), ()))))))) := by kernel_rfl
/-! impl.SlotGet -/
noncomputable def impl_SlotGet_b : Code := bd Try.f15
def impl_SlotGet_T : List (Nat × Tm) := []
noncomputable def impl_SlotGet_E : Env := ⟨tt0, [(53, impl_latest_C)]⟩
noncomputable def impl_SlotGet_F : PsD [.ro tSlots] → Option (RsD [.own tMeta, .own tI, .own tB] × PsO [.ro tSlots]) := fun x => evFn impl_SlotGet_E impl_SlotGet_T Try.f15 impl_SlotGet_b [.ro tSlots] [.own tMeta, .own tI, .own tB] x
@[reducible] noncomputable def impl_SlotGet_C : Ct := ⟨[.ro tSlots], [.own tMeta, .own tI, .own tB], impl_SlotGet_F⟩
theorem impl_SlotGet_h (x : PsD [.ro tSlots]) (y : RsD [.own tMeta, .own tI, .own tB] × PsO [.ro tSlots]) (h : impl_SlotGet_F x = some y) : evFn impl_SlotGet_E impl_SlotGet_T Try.f15 impl_SlotGet_b [.ro tSlots] [.own tMeta, .own tI, .own tB] x = some y := h
theorem impl_SlotGet_c : ∀ f c, get impl_SlotGet_E.ct f = some c → Sat Try.prog f c := ct_cons impl_latest_S (ct_nil)
theorem impl_SlotGet_S : Sat Try.prog 15 impl_SlotGet_C := fn_ok2 (envOk _) impl_SlotGet_c mixedOk Try.func15 (by kernel_rfl : Try.f15.body = some impl_SlotGet_b) (by kernel_rfl) (by kernel_rfl) impl_SlotGet_h
noncomputable def impl_SlotGet_Ke  (x0 : List Int × List Int × Unit) : Ex → AS → Option (RsD [.own tMeta, .own tI, .own tB] × PsO [.ro tSlots]) := endK impl_SlotGet_E Try.f15 [.ro tSlots] [.own tMeta, .own tI, .own tB] (initL [.ro tSlots] (x0, ()) 0).1
theorem impl_SlotGet_main (x0 : List Int × List Int × Unit) : impl_SlotGet_F (x0, ()) =
 (impl_latest_F ((x0.1, (x0.2.1, ())), ())).bind fun y10 =>
 some (((y10.1.1.1, (y10.1.1.2.1, (y10.1.1.2.2.1, (y10.1.1.2.2.2.1, (y10.1.1.2.2.2.2.1, (y10.1.1.2.2.2.2.2.1, ())))))), (y10.1.2.1, (decide ((0 : Int) < y10.1.2.1), ()))), ((), ())) := by kernel_rfl
/-! impl.SlotPut -/
noncomputable def impl_SlotPut_b : Code := bd Try.f16
def impl_SlotPut_T : List (Nat × Tm) := []
noncomputable def impl_SlotPut_E : Env := ⟨tt0, [(13, impl_Tear_C), (35, impl_MetaOk_C), (53, impl_latest_C)]⟩
noncomputable def impl_SlotPut_F : PsD [.ro tSlots, .ro tMeta] → Option (RsD [.own tSlots] × PsO [.ro tSlots, .ro tMeta]) := fun x => evFn impl_SlotPut_E impl_SlotPut_T Try.f16 impl_SlotPut_b [.ro tSlots, .ro tMeta] [.own tSlots] x
@[reducible] noncomputable def impl_SlotPut_C : Ct := ⟨[.ro tSlots, .ro tMeta], [.own tSlots], impl_SlotPut_F⟩
theorem impl_SlotPut_h (x : PsD [.ro tSlots, .ro tMeta]) (y : RsD [.own tSlots] × PsO [.ro tSlots, .ro tMeta]) (h : impl_SlotPut_F x = some y) : evFn impl_SlotPut_E impl_SlotPut_T Try.f16 impl_SlotPut_b [.ro tSlots, .ro tMeta] [.own tSlots] x = some y := h
theorem impl_SlotPut_c : ∀ f c, get impl_SlotPut_E.ct f = some c → Sat Try.prog f c := ct_cons impl_Tear_S (ct_cons impl_MetaOk_S (ct_cons impl_latest_S (ct_nil)))
theorem impl_SlotPut_S : Sat Try.prog 16 impl_SlotPut_C := fn_ok2 (envOk _) impl_SlotPut_c mixedOk Try.func16 (by kernel_rfl : Try.f16.body = some impl_SlotPut_b) (by kernel_rfl) (by kernel_rfl) impl_SlotPut_h
noncomputable def impl_SlotPut_Ke  (x0 : List Int × List Int × Unit) (x1 : List Int × List (List Int) × Bool × Bool × Bool × Int × Unit) : Ex → AS → Option (RsD [.own tSlots] × PsO [.ro tSlots, .ro tMeta]) := endK impl_SlotPut_E Try.f16 [.ro tSlots, .ro tMeta] [.own tSlots] (initL [.ro tSlots, .ro tMeta] (x0, (x1, ())) 0).1
theorem impl_SlotPut_main (x0 : List Int × List Int × Unit) (x1 : List Int × List (List Int) × Bool × Bool × Bool × Int × Unit) : impl_SlotPut_F (x0, (x1, ())) =
 (impl_latest_F ((x0.1, (x0.2.1, ())), ())).bind fun y11 =>
 (impl_Tear_F ((x0.1, (x0.2.1, ())), ((x1.1, (x1.2.1, (x1.2.2.1, (x1.2.2.2.1, (x1.2.2.2.2.1, (x1.2.2.2.2.2.1, ())))))), ((160 : Int), ())))).bind fun y17 =>
 (impl_MetaOk_F ((x1.1, (x1.2.1, (x1.2.2.1, (x1.2.2.2.1, (x1.2.2.2.2.1, (x1.2.2.2.2.2.1, ())))))), ())).bind fun y24 =>
 brk (!y24.1.1)
 (some (((y17.1.1.1, (y17.1.1.2.1, ())), ()), ((), ((), ()))))
 (brk (decide (y11.1.2.1 = (1000000 : Int)))
 (some (((y17.1.1.1, (y17.1.1.2.1, ())), ()), ((), ((), ()))))
 (brk y11.1.2.2.1
 (ck (decide (0 ≤ (0 : Int)) && decide ((0 : Int) ≤ (160 : Int)) && decide ((160 : Int) ≤ y17.1.1.2.1.length)) (some (((y17.1.1.1, (y17.1.1.2.1.take (160 : Int).toNat, ())), ()), ((), ((), ())))))
 (ck (decide (0 ≤ (0 : Int)) && decide ((0 : Int) ≤ (160 : Int)) && decide ((160 : Int) ≤ y17.1.1.1.length)) (some (((y17.1.1.1.take (160 : Int).toNat, (y17.1.1.2.1, ())), ()), ((), ((), ()))))))) := by kernel_rfl
end Go.Refl
