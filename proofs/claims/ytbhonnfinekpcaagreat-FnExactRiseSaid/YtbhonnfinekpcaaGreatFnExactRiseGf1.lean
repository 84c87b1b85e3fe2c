/- Functions of the program, told by the evaluator: printed by a program of this claim. No condition. -/
import Derived.Test.YtbhonnfinekpcaaGreatFnExactRiseGf
namespace Go.Refl
open Go.RowKit Go.Proofs
set_option linter.unusedVariables false
set_option maxRecDepth 100000
/-! impl.NodeOk -/
noncomputable def impl_NodeOk_b : Code := bd Tryz.f33
@[reducible] def impl_NodeOk_t0 : Tm := ⟨[], [], [(1, .ptr 16 0), (85, .sc true tI)], [(16, .box [.sc true tI, .sc true tB, .sc true tB, .sc true tIs, .sc true tIs, .sc true tIss, .sc true tB, .sc true tB, .sc true tB, .sc true tI, .sc true tYs, .sc true tYs, .sc true tBs, .sc true tIss, .sc true tBs, .sc true tIs])], [1, 2, 150, 151, 152, 153, 154, 155, 156, 157, 158, 159, 160, 161], [16]⟩
@[reducible] def impl_NodeOk_t2 : Tm := ⟨[], [], [(1, .ptr 16 0), (139, .sc true tIs), (140, .sc true tI), (141, .sc true tI)], [(16, .box [.sc true tI, .sc true tB, .sc true tB, .sc true tIs, .sc true tIs, .sc true tIss, .sc true tB, .sc true tB, .sc true tB, .sc true tI, .sc true tYs, .sc true tYs, .sc true tBs, .sc true tIss, .sc true tBs, .sc true tIs])], [2], []⟩
def impl_NodeOk_T : List (Nat × Tm) := [(0, impl_NodeOk_t0), (2, impl_NodeOk_t2)]
noncomputable def impl_NodeOk_E : Env := ⟨tt0, [(34, impl_SlotGet_C), (67, impl_isNode_C), (68, impl_ImageOk_C), (69, impl_MetaOk_C), (70, impl_marksAll_C), (71, impl_SameMeta_C), (72, impl_isWrite_C)]⟩
noncomputable def impl_NodeOk_F : PsD [.ro tNode] → Option (RsD [.own tB] × PsO [.ro tNode]) := fun x => evFn impl_NodeOk_E impl_NodeOk_T Tryz.f33 impl_NodeOk_b [.ro tNode] [.own tB] x
@[reducible] noncomputable def impl_NodeOk_C : Ct := ⟨[.ro tNode], [.own tB], impl_NodeOk_F⟩
theorem impl_NodeOk_h (x : PsD [.ro tNode]) (y : RsD [.own tB] × PsO [.ro tNode]) (h : impl_NodeOk_F x = some y) : evFn impl_NodeOk_E impl_NodeOk_T Tryz.f33 impl_NodeOk_b [.ro tNode] [.own tB] x = some y := h
theorem impl_NodeOk_c : ∀ f c, get impl_NodeOk_E.ct f = some c → Sat Tryz.prog f c := ct_cons impl_SlotGet_S (ct_cons impl_isNode_S (ct_cons impl_ImageOk_S (ct_cons impl_MetaOk_S (ct_cons impl_marksAll_S (ct_cons impl_SameMeta_S (ct_cons impl_isWrite_S (ct_nil)))))))
theorem impl_NodeOk_S : Sat Tryz.prog 33 impl_NodeOk_C := fn_ok2 (envOk _) impl_NodeOk_c mixedOk Tryz.func33 (by kernel_rfl : Tryz.f33.body = some impl_NodeOk_b) (by kernel_rfl) (by kernel_rfl) impl_NodeOk_h
noncomputable def impl_NodeOk_Ke  (x0 : Int × Bool × Bool × List Int × (List Int × List (List Int) × Bool × Bool × Bool × Int × Unit) × (List Int × List Int × Unit) × List Bool × List (List Int) × List Bool × List Int × Unit) : Ex → AS → Option (RsD [.own tB] × PsO [.ro tNode]) := endK impl_NodeOk_E Tryz.f33 [.ro tNode] [.own tB] (initL [.ro tNode] (x0, ()) 0).1
noncomputable def impl_NodeOk_B0 {R : Type} : AS → (Ex → AS → Option R) → Option R := fun A K => ev impl_NodeOk_E impl_NodeOk_T 0 (cA (cA (cB (cA (cB (cB (cB impl_NodeOk_b))))))) A K
noncomputable def impl_NodeOk_B2 {R : Type} : AS → (Ex → AS → Option R) → Option R := fun A K => ev impl_NodeOk_E impl_NodeOk_T 2 (cA (cA (cB (cA (cB (cB (cB (cB impl_NodeOk_b)))))))) A K
noncomputable def impl_NodeOk_K0  (x0 : Int × Bool × Bool × List Int × (List Int × List (List Int) × Bool × Bool × Bool × Int × Unit) × (List Int × List Int × Unit) × List Bool × List (List Int) × List Bool × List Int × Unit) : Ex → AS → Option (RsD [.own tB] × PsO [.ro tNode]) := kBlk 0 (kSeq (fun A K => ev impl_NodeOk_E impl_NodeOk_T 1000 (cB (cB (cB (cB impl_NodeOk_b)))) A K) (impl_NodeOk_Ke x0))
noncomputable def impl_NodeOk_K2  (x0 : Int × Bool × Bool × List Int × (List Int × List (List Int) × Bool × Bool × Bool × Int × Unit) × (List Int × List Int × Unit) × List Bool × List (List Int) × List Bool × List Int × Unit) : Ex → AS → Option (RsD [.own tB] × PsO [.ro tNode]) := kBlk 2 (kSeq (fun A K => ev impl_NodeOk_E impl_NodeOk_T 1000 (cB (cB (cB (cB (cB impl_NodeOk_b))))) A K) (impl_NodeOk_Ke x0))
noncomputable def impl_NodeOk_x0_0 (d0 : Bool) (d1 : Int) (d2 : Bool) (d3 : Bool) (d4 : List Int) (d5 : List Int) (d6 : List (List Int)) (d7 : Bool) (d8 : Bool) (d9 : Bool) (d10 : Int) (d11 : List Int) (d12 : List Int) (d13 : List Bool) (d14 : List (List Int)) (d15 : List Bool) (d16 : List Int) : AS := ⟨[(1, .v (.one (.bptr 16 0))), (2, .v (.one (.d true tB d0)))], [(16, .box [.d true tI d1, .d true tB d2, .d true tB d3, .d true tIs d4, .d true tIs d5, .d true tIss d6, .d true tB d7, .d true tB d8, .d true tB d9, .d true tI d10, .d true tYs d11, .d true tYs d12, .d true tBs d13, .d true tIss d14, .d true tBs d15, .d true tIs d16])]⟩
noncomputable def impl_NodeOk_x0_1 (d0 : Int) (d1 : Bool) (d2 : Bool) (d3 : List Int) (d4 : List Int) (d5 : List (List Int)) (d6 : Bool) (d7 : Bool) (d8 : Bool) (d9 : Int) (d10 : List Int) (d11 : List Int) (d12 : List Bool) (d13 : List (List Int)) (d14 : List Bool) (d15 : List Int) : AS := ⟨[(1, .v (.one (.bptr 16 0)))], [(16, .box [.d true tI d0, .d true tB d1, .d true tB d2, .d true tIs d3, .d true tIs d4, .d true tIss d5, .d true tB d6, .d true tB d7, .d true tB d8, .d true tI d9, .d true tYs d10, .d true tYs d11, .d true tBs d12, .d true tIss d13, .d true tBs d14, .d true tIs d15])]⟩
noncomputable def impl_NodeOk_x2_0 (d0 : Bool) : AS := ⟨[(2, .v (.one (.d true tB d0)))], []⟩
noncomputable def impl_NodeOk_x2_1 : AS := ⟨[], []⟩
theorem impl_NodeOk_l0 {R : Type} {K : Ex → AS → Option R} {s : impl_NodeOk_t0.D} (n : Nat) {v : Option R} (h : iterG impl_NodeOk_t0 impl_NodeOk_B0 K n s = v) (hv : ∃ r, v = some r) : loopG impl_NodeOk_t0 impl_NodeOk_B0 K s = v := loop_eq (ev_mono _ _) n h hv
theorem impl_NodeOk_l2 {R : Type} {K : Ex → AS → Option R} {s : impl_NodeOk_t2.D} (n : Nat) {v : Option R} (h : iterG impl_NodeOk_t2 impl_NodeOk_B2 K n s = v) (hv : ∃ r, v = some r) : loopG impl_NodeOk_t2 impl_NodeOk_B2 K s = v := loop_eq (ev_mono _ _) n h hv
theorem impl_NodeOk_main (x0 : Int × Bool × Bool × List Int × (List Int × List (List Int) × Bool × Bool × Bool × Int × Unit) × (List Int × List Int × Unit) × List Bool × List (List Int) × List Bool × List Int × Unit) : impl_NodeOk_F (x0, ()) =
 (impl_isNode_F (x0.1, ())).bind fun y12 =>
 brk (!y12.1.1)
 (some ((false, ()), ((), ())))
 ((impl_ImageOk_F (x0.2.2.2.1, ())).bind fun y17 =>
 brk (!y17.1.1)
 (some ((false, ()), ((), ())))
 ((impl_MetaOk_F ((x0.2.2.2.2.1.1, (x0.2.2.2.2.1.2.1, (x0.2.2.2.2.1.2.2.1, (x0.2.2.2.2.1.2.2.2.1, (x0.2.2.2.2.1.2.2.2.2.1, (x0.2.2.2.2.1.2.2.2.2.2.1, ())))))), ())).bind fun y23 =>
 brk (!y23.1.1)
 (some ((false, ()), ((), ())))
 (brk (!decide ((x0.2.2.2.2.2.2.1.length : Int) = (3 : Int)))
 (some ((false, ()), ((), ())))
 ((impl_marksAll_F (x0.2.2.2.2.2.2.2.1, ())).bind fun y35 =>
 brk (!y35.1.1)
 (some ((false, ()), ((), ())))
 (brk (!decide ((x0.2.2.2.2.2.2.2.2.1.length : Int) = (3 : Int)))
 (some ((false, ()), ((), ())))
 (brk x0.2.2.1
 (brk (!x0.2.1)
 (some ((false, ()), ((), ())))
 (brk (decide (x0.1 = (2 : Int)))
 (some ((false, ()), ((), ())))
 (brk (!x0.2.1)
 (brk (decide ((0 : Int) < (x0.2.2.2.2.2.2.2.2.2.1.length : Int)))
 (some ((false, ()), ((), ())))
 ((impl_SlotGet_F ((x0.2.2.2.2.2.1.1, (x0.2.2.2.2.2.1.2.1, ())), ())).bind fun y72 =>
 brk (!y72.1.2.2.1)
 (some ((false, ()), ((), ())))
 ((impl_SameMeta_F ((y72.1.1.1, (y72.1.1.2.1, (y72.1.1.2.2.1, (y72.1.1.2.2.2.1, (y72.1.1.2.2.2.2.1, (y72.1.1.2.2.2.2.2.1, ())))))), ((x0.2.2.2.2.1.1, (x0.2.2.2.2.1.2.1, (x0.2.2.2.2.1.2.2.1, (x0.2.2.2.2.1.2.2.2.1, (x0.2.2.2.2.1.2.2.2.2.1, (x0.2.2.2.2.1.2.2.2.2.2.1, ())))))), ()))).bind fun y82 =>
 brk (!y82.1.1)
 (some ((false, ()), ((), ())))
 (loopG impl_NodeOk_t0 impl_NodeOk_B0 (impl_NodeOk_K0 x0) (((0 : Int), ()), ((x0.1, (x0.2.1, (x0.2.2.1, (x0.2.2.2.1, (x0.2.2.2.2.1.1, (x0.2.2.2.2.1.2.1, (x0.2.2.2.2.1.2.2.1, (x0.2.2.2.2.1.2.2.2.1, (x0.2.2.2.2.1.2.2.2.2.1, (x0.2.2.2.2.1.2.2.2.2.2.1, (x0.2.2.2.2.2.1.1, (x0.2.2.2.2.2.1.2.1, (x0.2.2.2.2.2.2.1, (x0.2.2.2.2.2.2.2.1, (x0.2.2.2.2.2.2.2.2.1, (x0.2.2.2.2.2.2.2.2.2.1, ())))))))))))))))), ()))))))
 ((impl_SlotGet_F ((x0.2.2.2.2.2.1.1, (x0.2.2.2.2.2.1.2.1, ())), ())).bind fun y72 =>
 brk (!y72.1.2.2.1)
 (some ((false, ()), ((), ())))
 ((impl_SameMeta_F ((y72.1.1.1, (y72.1.1.2.1, (y72.1.1.2.2.1, (y72.1.1.2.2.2.1, (y72.1.1.2.2.2.2.1, (y72.1.1.2.2.2.2.2.1, ())))))), ((x0.2.2.2.2.1.1, (x0.2.2.2.2.1.2.1, (x0.2.2.2.2.1.2.2.1, (x0.2.2.2.2.1.2.2.2.1, (x0.2.2.2.2.1.2.2.2.2.1, (x0.2.2.2.2.1.2.2.2.2.2.1, ())))))), ()))).bind fun y82 =>
 brk (!y82.1.1)
 (some ((false, ()), ((), ())))
 (loopG impl_NodeOk_t0 impl_NodeOk_B0 (impl_NodeOk_K0 x0) (((0 : Int), ()), ((x0.1, (x0.2.1, (x0.2.2.1, (x0.2.2.2.1, (x0.2.2.2.2.1.1, (x0.2.2.2.2.1.2.1, (x0.2.2.2.2.1.2.2.1, (x0.2.2.2.2.1.2.2.2.1, (x0.2.2.2.2.1.2.2.2.2.1, (x0.2.2.2.2.1.2.2.2.2.2.1, (x0.2.2.2.2.2.1.1, (x0.2.2.2.2.2.1.2.1, (x0.2.2.2.2.2.2.1, (x0.2.2.2.2.2.2.2.1, (x0.2.2.2.2.2.2.2.2.1, (x0.2.2.2.2.2.2.2.2.2.1, ())))))))))))))))), ()))))))))
 (brk (!x0.2.1)
 (brk (decide ((0 : Int) < (x0.2.2.2.2.2.2.2.2.2.1.length : Int)))
 (some ((false, ()), ((), ())))
 ((impl_SlotGet_F ((x0.2.2.2.2.2.1.1, (x0.2.2.2.2.2.1.2.1, ())), ())).bind fun y72 =>
 brk (!y72.1.2.2.1)
 (some ((false, ()), ((), ())))
 ((impl_SameMeta_F ((y72.1.1.1, (y72.1.1.2.1, (y72.1.1.2.2.1, (y72.1.1.2.2.2.1, (y72.1.1.2.2.2.2.1, (y72.1.1.2.2.2.2.2.1, ())))))), ((x0.2.2.2.2.1.1, (x0.2.2.2.2.1.2.1, (x0.2.2.2.2.1.2.2.1, (x0.2.2.2.2.1.2.2.2.1, (x0.2.2.2.2.1.2.2.2.2.1, (x0.2.2.2.2.1.2.2.2.2.2.1, ())))))), ()))).bind fun y82 =>
 brk (!y82.1.1)
 (some ((false, ()), ((), ())))
 (loopG impl_NodeOk_t0 impl_NodeOk_B0 (impl_NodeOk_K0 x0) (((0 : Int), ()), ((x0.1, (x0.2.1, (x0.2.2.1, (x0.2.2.2.1, (x0.2.2.2.2.1.1, (x0.2.2.2.2.1.2.1, (x0.2.2.2.2.1.2.2.1, (x0.2.2.2.2.1.2.2.2.1, (x0.2.2.2.2.1.2.2.2.2.1, (x0.2.2.2.2.1.2.2.2.2.2.1, (x0.2.2.2.2.2.1.1, (x0.2.2.2.2.2.1.2.1, (x0.2.2.2.2.2.2.1, (x0.2.2.2.2.2.2.2.1, (x0.2.2.2.2.2.2.2.2.1, (x0.2.2.2.2.2.2.2.2.2.1, ())))))))))))))))), ()))))))
 ((impl_SlotGet_F ((x0.2.2.2.2.2.1.1, (x0.2.2.2.2.2.1.2.1, ())), ())).bind fun y72 =>
 brk (!y72.1.2.2.1)
 (some ((false, ()), ((), ())))
 ((impl_SameMeta_F ((y72.1.1.1, (y72.1.1.2.1, (y72.1.1.2.2.1, (y72.1.1.2.2.2.1, (y72.1.1.2.2.2.2.1, (y72.1.1.2.2.2.2.2.1, ())))))), ((x0.2.2.2.2.1.1, (x0.2.2.2.2.1.2.1, (x0.2.2.2.2.1.2.2.1, (x0.2.2.2.2.1.2.2.2.1, (x0.2.2.2.2.1.2.2.2.2.1, (x0.2.2.2.2.1.2.2.2.2.2.1, ())))))), ()))).bind fun y82 =>
 brk (!y82.1.1)
 (some ((false, ()), ((), ())))
 (loopG impl_NodeOk_t0 impl_NodeOk_B0 (impl_NodeOk_K0 x0) (((0 : Int), ()), ((x0.1, (x0.2.1, (x0.2.2.1, (x0.2.2.2.1, (x0.2.2.2.2.1.1, (x0.2.2.2.2.1.2.1, (x0.2.2.2.2.1.2.2.1, (x0.2.2.2.2.1.2.2.2.1, (x0.2.2.2.2.1.2.2.2.2.1, (x0.2.2.2.2.1.2.2.2.2.2.1, (x0.2.2.2.2.2.1.1, (x0.2.2.2.2.2.1.2.1, (x0.2.2.2.2.2.2.1, (x0.2.2.2.2.2.2.2.1, (x0.2.2.2.2.2.2.2.2.1, (x0.2.2.2.2.2.2.2.2.2.1, ())))))))))))))))), ())))))))))))) := by kernel_rfl
theorem impl_NodeOk_r0 {R : Type} (K : Ex → AS → Option R) (n : Nat) (t85 : Int) (b16_0 : Int) (b16_1 : Bool) (b16_2 : Bool) (b16_3 : List Int) (b16_4 : List Int) (b16_5 : List (List Int)) (b16_6 : Bool) (b16_7 : Bool) (b16_8 : Bool) (b16_9 : Int) (b16_10 : List Int) (b16_11 : List Int) (b16_12 : List Bool) (b16_13 : List (List Int)) (b16_14 : List Bool) (b16_15 : List Int) : iterG impl_NodeOk_t0 impl_NodeOk_B0 K (n + 1) ((t85, ()), ((b16_0, (b16_1, (b16_2, (b16_3, (b16_4, (b16_5, (b16_6, (b16_7, (b16_8, (b16_9, (b16_10, (b16_11, (b16_12, (b16_13, (b16_14, (b16_15, ())))))))))))))))), ())) =
 brk (decide (t85 < (3 : Int)))
 (brk b16_1
 (ck (decide (0 ≤ t85) && decide (t85 < b16_12.length)) (brk (rdD tB b16_12 t85)
 (brk (!(!decide (t85 = b16_0)))
 (K .ret (impl_NodeOk_x0_0 false b16_0 b16_1 b16_2 b16_3 b16_4 b16_5 b16_6 b16_7 b16_8 b16_9 b16_10 b16_11 b16_12 b16_13 b16_14 b16_15))
 (ck (decide (0 ≤ t85) && decide (t85 < b16_14.length)) (brk (rdD tB b16_14 t85)
 (ck (decide (0 ≤ t85) && decide (t85 < b16_12.length)) (brk (!(rdD tB b16_12 t85))
 (K .ret (impl_NodeOk_x0_0 false b16_0 b16_1 b16_2 b16_3 b16_4 b16_5 b16_6 b16_7 b16_8 b16_9 b16_10 b16_11 b16_12 b16_13 b16_14 b16_15))
 (ck (decide (0 ≤ t85) && decide (t85 < b16_13.length)) (brk (decide ((0 : Int) < ((rdD tIs b16_13 t85).length : Int)))
 (ck (decide (0 ≤ t85) && decide (t85 < b16_14.length)) (brk (!(rdD tB b16_14 t85))
 (K .ret (impl_NodeOk_x0_0 false b16_0 b16_1 b16_2 b16_3 b16_4 b16_5 b16_6 b16_7 b16_8 b16_9 b16_10 b16_11 b16_12 b16_13 b16_14 b16_15))
 (iterG impl_NodeOk_t0 impl_NodeOk_B0 K n ((IntKind.i64.wrap (t85 + (1 : Int)), ()), ((b16_0, (b16_1, (b16_2, (b16_3, (b16_4, (b16_5, (b16_6, (b16_7, (b16_8, (b16_9, (b16_10, (b16_11, (b16_12, (b16_13, (b16_14, (b16_15, ())))))))))))))))), ())))))
 (iterG impl_NodeOk_t0 impl_NodeOk_B0 K n ((IntKind.i64.wrap (t85 + (1 : Int)), ()), ((b16_0, (b16_1, (b16_2, (b16_3, (b16_4, (b16_5, (b16_6, (b16_7, (b16_8, (b16_9, (b16_10, (b16_11, (b16_12, (b16_13, (b16_14, (b16_15, ())))))))))))))))), ())))))))
 (ck (decide (0 ≤ t85) && decide (t85 < b16_13.length)) (brk (decide ((0 : Int) < ((rdD tIs b16_13 t85).length : Int)))
 (ck (decide (0 ≤ t85) && decide (t85 < b16_14.length)) (brk (!(rdD tB b16_14 t85))
 (K .ret (impl_NodeOk_x0_0 false b16_0 b16_1 b16_2 b16_3 b16_4 b16_5 b16_6 b16_7 b16_8 b16_9 b16_10 b16_11 b16_12 b16_13 b16_14 b16_15))
 (iterG impl_NodeOk_t0 impl_NodeOk_B0 K n ((IntKind.i64.wrap (t85 + (1 : Int)), ()), ((b16_0, (b16_1, (b16_2, (b16_3, (b16_4, (b16_5, (b16_6, (b16_7, (b16_8, (b16_9, (b16_10, (b16_11, (b16_12, (b16_13, (b16_14, (b16_15, ())))))))))))))))), ())))))
 (iterG impl_NodeOk_t0 impl_NodeOk_B0 K n ((IntKind.i64.wrap (t85 + (1 : Int)), ()), ((b16_0, (b16_1, (b16_2, (b16_3, (b16_4, (b16_5, (b16_6, (b16_7, (b16_8, (b16_9, (b16_10, (b16_11, (b16_12, (b16_13, (b16_14, (b16_15, ())))))))))))))))), ()))))))))
 (ck (decide (0 ≤ t85) && decide (t85 < b16_14.length)) (brk (rdD tB b16_14 t85)
 (ck (decide (0 ≤ t85) && decide (t85 < b16_12.length)) (brk (!(rdD tB b16_12 t85))
 (K .ret (impl_NodeOk_x0_0 false b16_0 b16_1 b16_2 b16_3 b16_4 b16_5 b16_6 b16_7 b16_8 b16_9 b16_10 b16_11 b16_12 b16_13 b16_14 b16_15))
 (ck (decide (0 ≤ t85) && decide (t85 < b16_13.length)) (brk (decide ((0 : Int) < ((rdD tIs b16_13 t85).length : Int)))
 (ck (decide (0 ≤ t85) && decide (t85 < b16_14.length)) (brk (!(rdD tB b16_14 t85))
 (K .ret (impl_NodeOk_x0_0 false b16_0 b16_1 b16_2 b16_3 b16_4 b16_5 b16_6 b16_7 b16_8 b16_9 b16_10 b16_11 b16_12 b16_13 b16_14 b16_15))
 (iterG impl_NodeOk_t0 impl_NodeOk_B0 K n ((IntKind.i64.wrap (t85 + (1 : Int)), ()), ((b16_0, (b16_1, (b16_2, (b16_3, (b16_4, (b16_5, (b16_6, (b16_7, (b16_8, (b16_9, (b16_10, (b16_11, (b16_12, (b16_13, (b16_14, (b16_15, ())))))))))))))))), ())))))
 (iterG impl_NodeOk_t0 impl_NodeOk_B0 K n ((IntKind.i64.wrap (t85 + (1 : Int)), ()), ((b16_0, (b16_1, (b16_2, (b16_3, (b16_4, (b16_5, (b16_6, (b16_7, (b16_8, (b16_9, (b16_10, (b16_11, (b16_12, (b16_13, (b16_14, (b16_15, ())))))))))))))))), ())))))))
 (ck (decide (0 ≤ t85) && decide (t85 < b16_13.length)) (brk (decide ((0 : Int) < ((rdD tIs b16_13 t85).length : Int)))
 (ck (decide (0 ≤ t85) && decide (t85 < b16_14.length)) (brk (!(rdD tB b16_14 t85))
 (K .ret (impl_NodeOk_x0_0 false b16_0 b16_1 b16_2 b16_3 b16_4 b16_5 b16_6 b16_7 b16_8 b16_9 b16_10 b16_11 b16_12 b16_13 b16_14 b16_15))
 (iterG impl_NodeOk_t0 impl_NodeOk_B0 K n ((IntKind.i64.wrap (t85 + (1 : Int)), ()), ((b16_0, (b16_1, (b16_2, (b16_3, (b16_4, (b16_5, (b16_6, (b16_7, (b16_8, (b16_9, (b16_10, (b16_11, (b16_12, (b16_13, (b16_14, (b16_15, ())))))))))))))))), ())))))
 (iterG impl_NodeOk_t0 impl_NodeOk_B0 K n ((IntKind.i64.wrap (t85 + (1 : Int)), ()), ((b16_0, (b16_1, (b16_2, (b16_3, (b16_4, (b16_5, (b16_6, (b16_7, (b16_8, (b16_9, (b16_10, (b16_11, (b16_12, (b16_13, (b16_14, (b16_15, ())))))))))))))))), ())))))))))
 (ck (decide (0 ≤ t85) && decide (t85 < b16_12.length)) (brk (rdD tB b16_12 t85)
 (K .ret (impl_NodeOk_x0_0 false b16_0 b16_1 b16_2 b16_3 b16_4 b16_5 b16_6 b16_7 b16_8 b16_9 b16_10 b16_11 b16_12 b16_13 b16_14 b16_15))
 (ck (decide (0 ≤ t85) && decide (t85 < b16_14.length)) (brk (rdD tB b16_14 t85)
 (ck (decide (0 ≤ t85) && decide (t85 < b16_12.length)) (brk (!(rdD tB b16_12 t85))
 (K .ret (impl_NodeOk_x0_0 false b16_0 b16_1 b16_2 b16_3 b16_4 b16_5 b16_6 b16_7 b16_8 b16_9 b16_10 b16_11 b16_12 b16_13 b16_14 b16_15))
 (ck (decide (0 ≤ t85) && decide (t85 < b16_13.length)) (brk (decide ((0 : Int) < ((rdD tIs b16_13 t85).length : Int)))
 (ck (decide (0 ≤ t85) && decide (t85 < b16_14.length)) (brk (!(rdD tB b16_14 t85))
 (K .ret (impl_NodeOk_x0_0 false b16_0 b16_1 b16_2 b16_3 b16_4 b16_5 b16_6 b16_7 b16_8 b16_9 b16_10 b16_11 b16_12 b16_13 b16_14 b16_15))
 (iterG impl_NodeOk_t0 impl_NodeOk_B0 K n ((IntKind.i64.wrap (t85 + (1 : Int)), ()), ((b16_0, (b16_1, (b16_2, (b16_3, (b16_4, (b16_5, (b16_6, (b16_7, (b16_8, (b16_9, (b16_10, (b16_11, (b16_12, (b16_13, (b16_14, (b16_15, ())))))))))))))))), ())))))
 (iterG impl_NodeOk_t0 impl_NodeOk_B0 K n ((IntKind.i64.wrap (t85 + (1 : Int)), ()), ((b16_0, (b16_1, (b16_2, (b16_3, (b16_4, (b16_5, (b16_6, (b16_7, (b16_8, (b16_9, (b16_10, (b16_11, (b16_12, (b16_13, (b16_14, (b16_15, ())))))))))))))))), ())))))))
 (ck (decide (0 ≤ t85) && decide (t85 < b16_13.length)) (brk (decide ((0 : Int) < ((rdD tIs b16_13 t85).length : Int)))
 (ck (decide (0 ≤ t85) && decide (t85 < b16_14.length)) (brk (!(rdD tB b16_14 t85))
 (K .ret (impl_NodeOk_x0_0 false b16_0 b16_1 b16_2 b16_3 b16_4 b16_5 b16_6 b16_7 b16_8 b16_9 b16_10 b16_11 b16_12 b16_13 b16_14 b16_15))
 (iterG impl_NodeOk_t0 impl_NodeOk_B0 K n ((IntKind.i64.wrap (t85 + (1 : Int)), ()), ((b16_0, (b16_1, (b16_2, (b16_3, (b16_4, (b16_5, (b16_6, (b16_7, (b16_8, (b16_9, (b16_10, (b16_11, (b16_12, (b16_13, (b16_14, (b16_15, ())))))))))))))))), ())))))
 (iterG impl_NodeOk_t0 impl_NodeOk_B0 K n ((IntKind.i64.wrap (t85 + (1 : Int)), ()), ((b16_0, (b16_1, (b16_2, (b16_3, (b16_4, (b16_5, (b16_6, (b16_7, (b16_8, (b16_9, (b16_10, (b16_11, (b16_12, (b16_13, (b16_14, (b16_15, ())))))))))))))))), ()))))))))))
 (K (.exit 0) (impl_NodeOk_x0_1 b16_0 b16_1 b16_2 b16_3 b16_4 b16_5 b16_6 b16_7 b16_8 b16_9 b16_10 b16_11 b16_12 b16_13 b16_14 b16_15)) := by kernel_rfl
theorem impl_NodeOk_e0_0 (x0 : Int × Bool × Bool × List Int × (List Int × List (List Int) × Bool × Bool × Bool × Int × Unit) × (List Int × List Int × Unit) × List Bool × List (List Int) × List Bool × List Int × Unit) (d0 : Bool) (d1 : Int) (d2 : Bool) (d3 : Bool) (d4 : List Int) (d5 : List Int) (d6 : List (List Int)) (d7 : Bool) (d8 : Bool) (d9 : Bool) (d10 : Int) (d11 : List Int) (d12 : List Int) (d13 : List Bool) (d14 : List (List Int)) (d15 : List Bool) (d16 : List Int) : impl_NodeOk_K0 x0 .ret (impl_NodeOk_x0_0 d0 d1 d2 d3 d4 d5 d6 d7 d8 d9 d10 d11 d12 d13 d14 d15 d16) =
 some ((d0, ()), ((), ())) := by kernel_rfl
theorem impl_NodeOk_e0_1 (x0 : Int × Bool × Bool × List Int × (List Int × List (List Int) × Bool × Bool × Bool × Int × Unit) × (List Int × List Int × Unit) × List Bool × List (List Int) × List Bool × List Int × Unit) (d0 : Int) (d1 : Bool) (d2 : Bool) (d3 : List Int) (d4 : List Int) (d5 : List (List Int)) (d6 : Bool) (d7 : Bool) (d8 : Bool) (d9 : Int) (d10 : List Int) (d11 : List Int) (d12 : List Bool) (d13 : List (List Int)) (d14 : List Bool) (d15 : List Int) : impl_NodeOk_K0 x0 (.exit 0) (impl_NodeOk_x0_1 d0 d1 d2 d3 d4 d5 d6 d7 d8 d9 d10 d11 d12 d13 d14 d15) =
 loopG impl_NodeOk_t2 impl_NodeOk_B2 (impl_NodeOk_K2 x0) ((d15, ((d15.length : Int), ((0 : Int), ()))), ((d0, (d1, (d2, (d3, (d4, (d5, (d6, (d7, (d8, (d9, (d10, (d11, (d12, (d13, (d14, (d15, ())))))))))))))))), ())) := by kernel_rfl
theorem impl_NodeOk_r2 {R : Type} (K : Ex → AS → Option R) (n : Nat) (t139 : List Int) (t140 : Int) (t141 : Int) (b16_0 : Int) (b16_1 : Bool) (b16_2 : Bool) (b16_3 : List Int) (b16_4 : List Int) (b16_5 : List (List Int)) (b16_6 : Bool) (b16_7 : Bool) (b16_8 : Bool) (b16_9 : Int) (b16_10 : List Int) (b16_11 : List Int) (b16_12 : List Bool) (b16_13 : List (List Int)) (b16_14 : List Bool) (b16_15 : List Int) : iterG impl_NodeOk_t2 impl_NodeOk_B2 K (n + 1) ((t139, (t140, (t141, ()))), ((b16_0, (b16_1, (b16_2, (b16_3, (b16_4, (b16_5, (b16_6, (b16_7, (b16_8, (b16_9, (b16_10, (b16_11, (b16_12, (b16_13, (b16_14, (b16_15, ())))))))))))))))), ())) =
 brk (decide (t141 < t140))
 (ck (decide (0 ≤ t141) && decide (t141 < t139.length)) ((impl_isWrite_F (rdD tI t139 t141, ())).bind fun y147 =>
 brk (!y147.1.1)
 (K .ret (impl_NodeOk_x2_0 false))
 (brk (decide ((0 : Int) < t141))
 (ck (decide (0 ≤ IntKind.i64.wrap (t141 - (1 : Int))) && decide (IntKind.i64.wrap (t141 - (1 : Int)) < b16_15.length)) (brk (decide (rdD tI t139 t141 ≤ rdD tI b16_15 (IntKind.i64.wrap (t141 - (1 : Int)))))
 (K .ret (impl_NodeOk_x2_0 false))
 (iterG impl_NodeOk_t2 impl_NodeOk_B2 K n ((t139, (t140, (IntKind.i64.wrap (t141 + (1 : Int)), ()))), ((b16_0, (b16_1, (b16_2, (b16_3, (b16_4, (b16_5, (b16_6, (b16_7, (b16_8, (b16_9, (b16_10, (b16_11, (b16_12, (b16_13, (b16_14, (b16_15, ())))))))))))))))), ())))))
 (iterG impl_NodeOk_t2 impl_NodeOk_B2 K n ((t139, (t140, (IntKind.i64.wrap (t141 + (1 : Int)), ()))), ((b16_0, (b16_1, (b16_2, (b16_3, (b16_4, (b16_5, (b16_6, (b16_7, (b16_8, (b16_9, (b16_10, (b16_11, (b16_12, (b16_13, (b16_14, (b16_15, ())))))))))))))))), ()))))))
 (K (.exit 2) (impl_NodeOk_x2_1)) := by kernel_rfl
theorem impl_NodeOk_e2_0 (x0 : Int × Bool × Bool × List Int × (List Int × List (List Int) × Bool × Bool × Bool × Int × Unit) × (List Int × List Int × Unit) × List Bool × List (List Int) × List Bool × List Int × Unit) (d0 : Bool) : impl_NodeOk_K2 x0 .ret (impl_NodeOk_x2_0 d0) =
 some ((d0, ()), ((), ())) := by kernel_rfl
theorem impl_NodeOk_e2_1 (x0 : Int × Bool × Bool × List Int × (List Int × List (List Int) × Bool × Bool × Bool × Int × Unit) × (List Int × List Int × Unit) × List Bool × List (List Int) × List Bool × List Int × Unit) : impl_NodeOk_K2 x0 (.exit 2) (impl_NodeOk_x2_1) =
 some ((true, ()), ((), ())) := by kernel_rfl
/-! impl.Rise -/
noncomputable def impl_Rise_b : Code := bd Tryz.f9
def impl_Rise_T : List (Nat × Tm) := []
noncomputable def impl_Rise_E : Env := ⟨tt0, [(32, impl_copyNode_C), (33, impl_NodeOk_C), (34, impl_SlotGet_C)]⟩
noncomputable def impl_Rise_F : PsD [.ro tNode] → Option (RsD [.own tNode] × PsO [.ro tNode]) := fun x => evFn impl_Rise_E impl_Rise_T Tryz.f9 impl_Rise_b [.ro tNode] [.own tNode] x
@[reducible] noncomputable def impl_Rise_C : Ct := ⟨[.ro tNode], [.own tNode], impl_Rise_F⟩
theorem impl_Rise_h (x : PsD [.ro tNode]) (y : RsD [.own tNode] × PsO [.ro tNode]) (h : impl_Rise_F x = some y) : evFn impl_Rise_E impl_Rise_T Tryz.f9 impl_Rise_b [.ro tNode] [.own tNode] x = some y := h
theorem impl_Rise_c : ∀ f c, get impl_Rise_E.ct f = some c → Sat Tryz.prog f c := ct_cons impl_copyNode_S (ct_cons impl_NodeOk_S (ct_cons impl_SlotGet_S (ct_nil)))
theorem impl_Rise_S : Sat Tryz.prog 9 impl_Rise_C := fn_ok2 (envOk _) impl_Rise_c mixedOk Tryz.func9 (by kernel_rfl : Tryz.f9.body = some impl_Rise_b) (by kernel_rfl) (by kernel_rfl) impl_Rise_h
noncomputable def impl_Rise_Ke  (x0 : Int × Bool × Bool × List Int × (List Int × List (List Int) × Bool × Bool × Bool × Int × Unit) × (List Int × List Int × Unit) × List Bool × List (List Int) × List Bool × List Int × Unit) : Ex → AS → Option (RsD [.own tNode] × PsO [.ro tNode]) := endK impl_Rise_E Tryz.f9 [.ro tNode] [.own tNode] (initL [.ro tNode] (x0, ()) 0).1
theorem impl_Rise_main (x0 : Int × Bool × Bool × List Int × (List Int × List (List Int) × Bool × Bool × Bool × Int × Unit) × (List Int × List Int × Unit) × List Bool × List (List Int) × List Bool × List Int × Unit) : impl_Rise_F (x0, ()) =
 (impl_copyNode_F ((x0.1, (x0.2.1, (x0.2.2.1, (x0.2.2.2.1, ((x0.2.2.2.2.1.1, (x0.2.2.2.2.1.2.1, (x0.2.2.2.2.1.2.2.1, (x0.2.2.2.2.1.2.2.2.1, (x0.2.2.2.2.1.2.2.2.2.1, (x0.2.2.2.2.1.2.2.2.2.2.1, ())))))), ((x0.2.2.2.2.2.1.1, (x0.2.2.2.2.2.1.2.1, ())), (x0.2.2.2.2.2.2.1, (x0.2.2.2.2.2.2.2.1, (x0.2.2.2.2.2.2.2.2.1, (x0.2.2.2.2.2.2.2.2.2.1, ())))))))))), ())).bind fun y4 =>
 (impl_NodeOk_F ((y4.1.1.1, (y4.1.1.2.1, (y4.1.1.2.2.1, (y4.1.1.2.2.2.1, ((y4.1.1.2.2.2.2.1.1, (y4.1.1.2.2.2.2.1.2.1, (y4.1.1.2.2.2.2.1.2.2.1, (y4.1.1.2.2.2.2.1.2.2.2.1, (y4.1.1.2.2.2.2.1.2.2.2.2.1, (y4.1.1.2.2.2.2.1.2.2.2.2.2.1, ())))))), ((y4.1.1.2.2.2.2.2.1.1, (y4.1.1.2.2.2.2.2.1.2.1, ())), (y4.1.1.2.2.2.2.2.2.1, (y4.1.1.2.2.2.2.2.2.2.1, (y4.1.1.2.2.2.2.2.2.2.2.1, (y4.1.1.2.2.2.2.2.2.2.2.2.1, ())))))))))), ())).bind fun y6 =>
 brk (!y6.1.1)
 (some (((y4.1.1.1, (y4.1.1.2.1, (y4.1.1.2.2.1, (y4.1.1.2.2.2.1, ((y4.1.1.2.2.2.2.1.1, (y4.1.1.2.2.2.2.1.2.1, (y4.1.1.2.2.2.2.1.2.2.1, (y4.1.1.2.2.2.2.1.2.2.2.1, (y4.1.1.2.2.2.2.1.2.2.2.2.1, (y4.1.1.2.2.2.2.1.2.2.2.2.2.1, ())))))), ((y4.1.1.2.2.2.2.2.1.1, (y4.1.1.2.2.2.2.2.1.2.1, ())), (y4.1.1.2.2.2.2.2.2.1, (y4.1.1.2.2.2.2.2.2.2.1, (y4.1.1.2.2.2.2.2.2.2.2.1, (y4.1.1.2.2.2.2.2.2.2.2.2.1, ())))))))))), ()), ((), ())))
 (brk y4.1.1.2.1
 (some (((y4.1.1.1, (y4.1.1.2.1, (y4.1.1.2.2.1, (y4.1.1.2.2.2.1, ((y4.1.1.2.2.2.2.1.1, (y4.1.1.2.2.2.2.1.2.1, (y4.1.1.2.2.2.2.1.2.2.1, (y4.1.1.2.2.2.2.1.2.2.2.1, (y4.1.1.2.2.2.2.1.2.2.2.2.1, (y4.1.1.2.2.2.2.1.2.2.2.2.2.1, ())))))), ((y4.1.1.2.2.2.2.2.1.1, (y4.1.1.2.2.2.2.2.1.2.1, ())), (y4.1.1.2.2.2.2.2.2.1, (y4.1.1.2.2.2.2.2.2.2.1, (y4.1.1.2.2.2.2.2.2.2.2.1, (y4.1.1.2.2.2.2.2.2.2.2.2.1, ())))))))))), ()), ((), ())))
 ((impl_SlotGet_F ((y4.1.1.2.2.2.2.2.1.1, (y4.1.1.2.2.2.2.2.1.2.1, ())), ())).bind fun y17 =>
 some (((y4.1.1.1, (true, (y4.1.1.2.2.1, (y4.1.1.2.2.2.1, ((y17.1.1.1, (y17.1.1.2.1, (y17.1.1.2.2.1, (y17.1.1.2.2.2.1, (y17.1.1.2.2.2.2.1, (y17.1.1.2.2.2.2.2.1, ())))))), ((y4.1.1.2.2.2.2.2.1.1, (y4.1.1.2.2.2.2.2.1.2.1, ())), (y4.1.1.2.2.2.2.2.2.1, (y4.1.1.2.2.2.2.2.2.2.1, (y4.1.1.2.2.2.2.2.2.2.2.1, (y4.1.1.2.2.2.2.2.2.2.2.2.1, ())))))))))), ()), ((), ())))) := by kernel_rfl
/-! laws.eqIntS -/
noncomputable def laws_eqIntS_b : Code := bd Tryz.f35
@[reducible] def laws_eqIntS_t0 : Tm := ⟨[], [], [(0, .sc true tIs), (1, .sc true tIs), (5, .sc true tI)], [], [4], []⟩
def laws_eqIntS_T : List (Nat × Tm) := [(0, laws_eqIntS_t0)]
noncomputable def laws_eqIntS_E : Env := ⟨tt0, []⟩
noncomputable def laws_eqIntS_F : PsD [.ro tIs, .ro tIs] → Option (RsD [.own tB] × PsO [.ro tIs, .ro tIs]) := fun x => evFn laws_eqIntS_E laws_eqIntS_T Tryz.f35 laws_eqIntS_b [.ro tIs, .ro tIs] [.own tB] x
@[reducible] noncomputable def laws_eqIntS_C : Ct := ⟨[.ro tIs, .ro tIs], [.own tB], laws_eqIntS_F⟩
theorem laws_eqIntS_h (x : PsD [.ro tIs, .ro tIs]) (y : RsD [.own tB] × PsO [.ro tIs, .ro tIs]) (h : laws_eqIntS_F x = some y) : evFn laws_eqIntS_E laws_eqIntS_T Tryz.f35 laws_eqIntS_b [.ro tIs, .ro tIs] [.own tB] x = some y := h
theorem laws_eqIntS_c : ∀ f c, get laws_eqIntS_E.ct f = some c → Sat Tryz.prog f c := ct_nil
theorem laws_eqIntS_S : Sat Tryz.prog 35 laws_eqIntS_C := fn_ok2 (envOk _) laws_eqIntS_c mixedOk Tryz.func35 (by kernel_rfl : Tryz.f35.body = some laws_eqIntS_b) (by kernel_rfl) (by kernel_rfl) laws_eqIntS_h
noncomputable def laws_eqIntS_Ke  (x0 : List Int) (x1 : List Int) : Ex → AS → Option (RsD [.own tB] × PsO [.ro tIs, .ro tIs]) := endK laws_eqIntS_E Tryz.f35 [.ro tIs, .ro tIs] [.own tB] (initL [.ro tIs, .ro tIs] (x0, (x1, ())) 0).1
noncomputable def laws_eqIntS_B0 {R : Type} : AS → (Ex → AS → Option R) → Option R := fun A K => ev laws_eqIntS_E laws_eqIntS_T 0 (cA (cA (cB (cA (cB (cB laws_eqIntS_b)))))) A K
noncomputable def laws_eqIntS_K0  (x0 : List Int) (x1 : List Int) : Ex → AS → Option (RsD [.own tB] × PsO [.ro tIs, .ro tIs]) := kBlk 0 (kSeq (fun A K => ev laws_eqIntS_E laws_eqIntS_T 1000 (cB (cB (cB laws_eqIntS_b))) A K) (laws_eqIntS_Ke x0 x1))
noncomputable def laws_eqIntS_x0_0 (d0 : Bool) : AS := ⟨[(4, .v (.one (.d true tB d0)))], []⟩
noncomputable def laws_eqIntS_x0_1 : AS := ⟨[], []⟩
theorem laws_eqIntS_l0 {R : Type} {K : Ex → AS → Option R} {s : laws_eqIntS_t0.D} (n : Nat) {v : Option R} (h : iterG laws_eqIntS_t0 laws_eqIntS_B0 K n s = v) (hv : ∃ r, v = some r) : loopG laws_eqIntS_t0 laws_eqIntS_B0 K s = v := loop_eq (ev_mono _ _) n h hv
theorem laws_eqIntS_main (x0 : List Int) (x1 : List Int) : laws_eqIntS_F (x0, (x1, ())) =
 brk (!decide ((x0.length : Int) = (x1.length : Int)))
 (some ((false, ()), ((), ((), ()))))
 (loopG laws_eqIntS_t0 laws_eqIntS_B0 (laws_eqIntS_K0 x0 x1) ((x0, (x1, ((0 : Int), ()))), ())) := by kernel_rfl
theorem laws_eqIntS_r0 {R : Type} (K : Ex → AS → Option R) (n : Nat) (t0 : List Int) (t1 : List Int) (t5 : Int) : iterG laws_eqIntS_t0 laws_eqIntS_B0 K (n + 1) ((t0, (t1, (t5, ()))), ()) =
 brk (decide (t5 < (t0.length : Int)))
 (ck (decide (0 ≤ t5) && decide (t5 < t0.length)) (ck (decide (0 ≤ t5) && decide (t5 < t1.length)) (brk (!decide (rdD tI t0 t5 = rdD tI t1 t5))
 (K .ret (laws_eqIntS_x0_0 false))
 (iterG laws_eqIntS_t0 laws_eqIntS_B0 K n ((t0, (t1, (IntKind.i64.wrap (t5 + (1 : Int)), ()))), ())))))
 (K (.exit 0) (laws_eqIntS_x0_1)) := by kernel_rfl
theorem laws_eqIntS_e0_0 (x0 : List Int) (x1 : List Int) (d0 : Bool) : laws_eqIntS_K0 x0 x1 .ret (laws_eqIntS_x0_0 d0) =
 some ((d0, ()), ((), ((), ()))) := by kernel_rfl
theorem laws_eqIntS_e0_1 (x0 : List Int) (x1 : List Int) : laws_eqIntS_K0 x0 x1 (.exit 0) (laws_eqIntS_x0_1) =
 some ((true, ()), ((), ((), ()))) := by kernel_rfl
/-! laws.eqIntSS -/
noncomputable def laws_eqIntSS_b : Code := bd Tryz.f38
@[reducible] def laws_eqIntSS_t0 : Tm := ⟨[], [], [(0, .sc true tIss), (1, .sc true tIss), (5, .sc true tI)], [], [4], []⟩
def laws_eqIntSS_T : List (Nat × Tm) := [(0, laws_eqIntSS_t0)]
noncomputable def laws_eqIntSS_E : Env := ⟨tt0, [(35, laws_eqIntS_C)]⟩
noncomputable def laws_eqIntSS_F : PsD [.ro tIss, .ro tIss] → Option (RsD [.own tB] × PsO [.ro tIss, .ro tIss]) := fun x => evFn laws_eqIntSS_E laws_eqIntSS_T Tryz.f38 laws_eqIntSS_b [.ro tIss, .ro tIss] [.own tB] x
@[reducible] noncomputable def laws_eqIntSS_C : Ct := ⟨[.ro tIss, .ro tIss], [.own tB], laws_eqIntSS_F⟩
theorem laws_eqIntSS_h (x : PsD [.ro tIss, .ro tIss]) (y : RsD [.own tB] × PsO [.ro tIss, .ro tIss]) (h : laws_eqIntSS_F x = some y) : evFn laws_eqIntSS_E laws_eqIntSS_T Tryz.f38 laws_eqIntSS_b [.ro tIss, .ro tIss] [.own tB] x = some y := h
theorem laws_eqIntSS_c : ∀ f c, get laws_eqIntSS_E.ct f = some c → Sat Tryz.prog f c := ct_cons laws_eqIntS_S (ct_nil)
theorem laws_eqIntSS_S : Sat Tryz.prog 38 laws_eqIntSS_C := fn_ok2 (envOk _) laws_eqIntSS_c mixedOk Tryz.func38 (by kernel_rfl : Tryz.f38.body = some laws_eqIntSS_b) (by kernel_rfl) (by kernel_rfl) laws_eqIntSS_h
noncomputable def laws_eqIntSS_Ke  (x0 : List (List Int)) (x1 : List (List Int)) : Ex → AS → Option (RsD [.own tB] × PsO [.ro tIss, .ro tIss]) := endK laws_eqIntSS_E Tryz.f38 [.ro tIss, .ro tIss] [.own tB] (initL [.ro tIss, .ro tIss] (x0, (x1, ())) 0).1
noncomputable def laws_eqIntSS_B0 {R : Type} : AS → (Ex → AS → Option R) → Option R := fun A K => ev laws_eqIntSS_E laws_eqIntSS_T 0 (cA (cA (cB (cA (cB (cB laws_eqIntSS_b)))))) A K
noncomputable def laws_eqIntSS_K0  (x0 : List (List Int)) (x1 : List (List Int)) : Ex → AS → Option (RsD [.own tB] × PsO [.ro tIss, .ro tIss]) := kBlk 0 (kSeq (fun A K => ev laws_eqIntSS_E laws_eqIntSS_T 1000 (cB (cB (cB laws_eqIntSS_b))) A K) (laws_eqIntSS_Ke x0 x1))
noncomputable def laws_eqIntSS_x0_0 (d0 : Bool) : AS := ⟨[(4, .v (.one (.d true tB d0)))], []⟩
noncomputable def laws_eqIntSS_x0_1 : AS := ⟨[], []⟩
theorem laws_eqIntSS_l0 {R : Type} {K : Ex → AS → Option R} {s : laws_eqIntSS_t0.D} (n : Nat) {v : Option R} (h : iterG laws_eqIntSS_t0 laws_eqIntSS_B0 K n s = v) (hv : ∃ r, v = some r) : loopG laws_eqIntSS_t0 laws_eqIntSS_B0 K s = v := loop_eq (ev_mono _ _) n h hv
theorem laws_eqIntSS_main (x0 : List (List Int)) (x1 : List (List Int)) : laws_eqIntSS_F (x0, (x1, ())) =
 brk (!decide ((x0.length : Int) = (x1.length : Int)))
 (some ((false, ()), ((), ((), ()))))
 (loopG laws_eqIntSS_t0 laws_eqIntSS_B0 (laws_eqIntSS_K0 x0 x1) ((x0, (x1, ((0 : Int), ()))), ())) := by kernel_rfl
theorem laws_eqIntSS_r0 {R : Type} (K : Ex → AS → Option R) (n : Nat) (t0 : List (List Int)) (t1 : List (List Int)) (t5 : Int) : iterG laws_eqIntSS_t0 laws_eqIntSS_B0 K (n + 1) ((t0, (t1, (t5, ()))), ()) =
 brk (decide (t5 < (t0.length : Int)))
 (ck (decide (0 ≤ t5) && decide (t5 < t0.length)) (ck (decide (0 ≤ t5) && decide (t5 < t1.length)) ((laws_eqIntS_F (rdD tIs t0 t5, (rdD tIs t1 t5, ()))).bind fun y25 =>
 brk (!y25.1.1)
 (K .ret (laws_eqIntSS_x0_0 false))
 (iterG laws_eqIntSS_t0 laws_eqIntSS_B0 K n ((t0, (t1, (IntKind.i64.wrap (t5 + (1 : Int)), ()))), ())))))
 (K (.exit 0) (laws_eqIntSS_x0_1)) := by kernel_rfl
theorem laws_eqIntSS_e0_0 (x0 : List (List Int)) (x1 : List (List Int)) (d0 : Bool) : laws_eqIntSS_K0 x0 x1 .ret (laws_eqIntSS_x0_0 d0) =
 some ((d0, ()), ((), ((), ()))) := by kernel_rfl
theorem laws_eqIntSS_e0_1 (x0 : List (List Int)) (x1 : List (List Int)) : laws_eqIntSS_K0 x0 x1 (.exit 0) (laws_eqIntSS_x0_1) =
 some ((true, ()), ((), ((), ()))) := by kernel_rfl
/-! laws.eqMeta -/
noncomputable def laws_eqMeta_b : Code := bd Tryz.f19
def laws_eqMeta_T : List (Nat × Tm) := []
noncomputable def laws_eqMeta_E : Env := ⟨tt0, [(35, laws_eqIntS_C), (38, laws_eqIntSS_C)]⟩
noncomputable def laws_eqMeta_F : PsD [.ro tMeta, .ro tMeta] → Option (RsD [.own tB] × PsO [.ro tMeta, .ro tMeta]) := fun x => evFn laws_eqMeta_E laws_eqMeta_T Tryz.f19 laws_eqMeta_b [.ro tMeta, .ro tMeta] [.own tB] x
@[reducible] noncomputable def laws_eqMeta_C : Ct := ⟨[.ro tMeta, .ro tMeta], [.own tB], laws_eqMeta_F⟩
theorem laws_eqMeta_h (x : PsD [.ro tMeta, .ro tMeta]) (y : RsD [.own tB] × PsO [.ro tMeta, .ro tMeta]) (h : laws_eqMeta_F x = some y) : evFn laws_eqMeta_E laws_eqMeta_T Tryz.f19 laws_eqMeta_b [.ro tMeta, .ro tMeta] [.own tB] x = some y := h
theorem laws_eqMeta_c : ∀ f c, get laws_eqMeta_E.ct f = some c → Sat Tryz.prog f c := ct_cons laws_eqIntS_S (ct_cons laws_eqIntSS_S (ct_nil))
theorem laws_eqMeta_S : Sat Tryz.prog 19 laws_eqMeta_C := fn_ok2 (envOk _) laws_eqMeta_c mixedOk Tryz.func19 (by kernel_rfl : Tryz.f19.body = some laws_eqMeta_b) (by kernel_rfl) (by kernel_rfl) laws_eqMeta_h
noncomputable def laws_eqMeta_Ke  (x0 : List Int × List (List Int) × Bool × Bool × Bool × Int × Unit) (x1 : List Int × List (List Int) × Bool × Bool × Bool × Int × Unit) : Ex → AS → Option (RsD [.own tB] × PsO [.ro tMeta, .ro tMeta]) := endK laws_eqMeta_E Tryz.f19 [.ro tMeta, .ro tMeta] [.own tB] (initL [.ro tMeta, .ro tMeta] (x0, (x1, ())) 0).1
theorem laws_eqMeta_main (x0 : List Int × List (List Int) × Bool × Bool × Bool × Int × Unit) (x1 : List Int × List (List Int) × Bool × Bool × Bool × Int × Unit) : laws_eqMeta_F (x0, (x1, ())) =
 (laws_eqIntS_F (x0.1, (x1.1, ()))).bind fun y9 =>
 brk (!y9.1.1)
 (some ((false, ()), ((), ((), ()))))
 ((laws_eqIntSS_F (x0.2.1, (x1.2.1, ()))).bind fun y15 =>
 brk (!y15.1.1)
 (some ((false, ()), ((), ((), ()))))
 (brk (!(x0.2.2.1 == x1.2.2.1))
 (some ((false, ()), ((), ((), ()))))
 (brk (!(x0.2.2.2.1 == x1.2.2.2.1))
 (some ((false, ()), ((), ((), ()))))
 (brk (!(x0.2.2.2.2.1 == x1.2.2.2.2.1))
 (some ((false, ()), ((), ((), ()))))
 (brk (!decide (x0.2.2.2.2.2.1 = x1.2.2.2.2.2.1))
 (some ((false, ()), ((), ((), ()))))
 (some ((true, ()), ((), ((), ()))))))))) := by kernel_rfl
/-! laws.eqByteS -/
noncomputable def laws_eqByteS_b : Code := bd Tryz.f74
@[reducible] def laws_eqByteS_t0 : Tm := ⟨[], [], [(0, .sc true tYs), (1, .sc true tYs), (5, .sc true tI)], [], [4], []⟩
def laws_eqByteS_T : List (Nat × Tm) := [(0, laws_eqByteS_t0)]
noncomputable def laws_eqByteS_E : Env := ⟨tt0, []⟩
noncomputable def laws_eqByteS_F : PsD [.ro tYs, .ro tYs] → Option (RsD [.own tB] × PsO [.ro tYs, .ro tYs]) := fun x => evFn laws_eqByteS_E laws_eqByteS_T Tryz.f74 laws_eqByteS_b [.ro tYs, .ro tYs] [.own tB] x
@[reducible] noncomputable def laws_eqByteS_C : Ct := ⟨[.ro tYs, .ro tYs], [.own tB], laws_eqByteS_F⟩
theorem laws_eqByteS_h (x : PsD [.ro tYs, .ro tYs]) (y : RsD [.own tB] × PsO [.ro tYs, .ro tYs]) (h : laws_eqByteS_F x = some y) : evFn laws_eqByteS_E laws_eqByteS_T Tryz.f74 laws_eqByteS_b [.ro tYs, .ro tYs] [.own tB] x = some y := h
theorem laws_eqByteS_c : ∀ f c, get laws_eqByteS_E.ct f = some c → Sat Tryz.prog f c := ct_nil
theorem laws_eqByteS_S : Sat Tryz.prog 74 laws_eqByteS_C := fn_ok2 (envOk _) laws_eqByteS_c mixedOk Tryz.func74 (by kernel_rfl : Tryz.f74.body = some laws_eqByteS_b) (by kernel_rfl) (by kernel_rfl) laws_eqByteS_h
noncomputable def laws_eqByteS_Ke  (x0 : List Int) (x1 : List Int) : Ex → AS → Option (RsD [.own tB] × PsO [.ro tYs, .ro tYs]) := endK laws_eqByteS_E Tryz.f74 [.ro tYs, .ro tYs] [.own tB] (initL [.ro tYs, .ro tYs] (x0, (x1, ())) 0).1
noncomputable def laws_eqByteS_B0 {R : Type} : AS → (Ex → AS → Option R) → Option R := fun A K => ev laws_eqByteS_E laws_eqByteS_T 0 (cA (cA (cB (cA (cB (cB laws_eqByteS_b)))))) A K
noncomputable def laws_eqByteS_K0  (x0 : List Int) (x1 : List Int) : Ex → AS → Option (RsD [.own tB] × PsO [.ro tYs, .ro tYs]) := kBlk 0 (kSeq (fun A K => ev laws_eqByteS_E laws_eqByteS_T 1000 (cB (cB (cB laws_eqByteS_b))) A K) (laws_eqByteS_Ke x0 x1))
noncomputable def laws_eqByteS_x0_0 (d0 : Bool) : AS := ⟨[(4, .v (.one (.d true tB d0)))], []⟩
noncomputable def laws_eqByteS_x0_1 : AS := ⟨[], []⟩
theorem laws_eqByteS_l0 {R : Type} {K : Ex → AS → Option R} {s : laws_eqByteS_t0.D} (n : Nat) {v : Option R} (h : iterG laws_eqByteS_t0 laws_eqByteS_B0 K n s = v) (hv : ∃ r, v = some r) : loopG laws_eqByteS_t0 laws_eqByteS_B0 K s = v := loop_eq (ev_mono _ _) n h hv
theorem laws_eqByteS_main (x0 : List Int) (x1 : List Int) : laws_eqByteS_F (x0, (x1, ())) =
 brk (!decide ((x0.length : Int) = (x1.length : Int)))
 (some ((false, ()), ((), ((), ()))))
 (loopG laws_eqByteS_t0 laws_eqByteS_B0 (laws_eqByteS_K0 x0 x1) ((x0, (x1, ((0 : Int), ()))), ())) := by kernel_rfl
theorem laws_eqByteS_r0 {R : Type} (K : Ex → AS → Option R) (n : Nat) (t0 : List Int) (t1 : List Int) (t5 : Int) : iterG laws_eqByteS_t0 laws_eqByteS_B0 K (n + 1) ((t0, (t1, (t5, ()))), ()) =
 brk (decide (t5 < (t0.length : Int)))
 (ck (decide (0 ≤ t5) && decide (t5 < t0.length)) (ck (decide (0 ≤ t5) && decide (t5 < t1.length)) (brk (!decide (rdD tY t0 t5 = rdD tY t1 t5))
 (K .ret (laws_eqByteS_x0_0 false))
 (iterG laws_eqByteS_t0 laws_eqByteS_B0 K n ((t0, (t1, (IntKind.i64.wrap (t5 + (1 : Int)), ()))), ())))))
 (K (.exit 0) (laws_eqByteS_x0_1)) := by kernel_rfl
theorem laws_eqByteS_e0_0 (x0 : List Int) (x1 : List Int) (d0 : Bool) : laws_eqByteS_K0 x0 x1 .ret (laws_eqByteS_x0_0 d0) =
 some ((d0, ()), ((), ((), ()))) := by kernel_rfl
theorem laws_eqByteS_e0_1 (x0 : List Int) (x1 : List Int) : laws_eqByteS_K0 x0 x1 (.exit 0) (laws_eqByteS_x0_1) =
 some ((true, ()), ((), ((), ()))) := by kernel_rfl
/-! laws.eqSlots -/
noncomputable def laws_eqSlots_b : Code := bd Tryz.f36
def laws_eqSlots_T : List (Nat × Tm) := []
noncomputable def laws_eqSlots_E : Env := ⟨tt0, [(74, laws_eqByteS_C)]⟩
noncomputable def laws_eqSlots_F : PsD [.ro tSlots, .ro tSlots] → Option (RsD [.own tB] × PsO [.ro tSlots, .ro tSlots]) := fun x => evFn laws_eqSlots_E laws_eqSlots_T Tryz.f36 laws_eqSlots_b [.ro tSlots, .ro tSlots] [.own tB] x
@[reducible] noncomputable def laws_eqSlots_C : Ct := ⟨[.ro tSlots, .ro tSlots], [.own tB], laws_eqSlots_F⟩
theorem laws_eqSlots_h (x : PsD [.ro tSlots, .ro tSlots]) (y : RsD [.own tB] × PsO [.ro tSlots, .ro tSlots]) (h : laws_eqSlots_F x = some y) : evFn laws_eqSlots_E laws_eqSlots_T Tryz.f36 laws_eqSlots_b [.ro tSlots, .ro tSlots] [.own tB] x = some y := h
theorem laws_eqSlots_c : ∀ f c, get laws_eqSlots_E.ct f = some c → Sat Tryz.prog f c := ct_cons laws_eqByteS_S (ct_nil)
theorem laws_eqSlots_S : Sat Tryz.prog 36 laws_eqSlots_C := fn_ok2 (envOk _) laws_eqSlots_c mixedOk Tryz.func36 (by kernel_rfl : Tryz.f36.body = some laws_eqSlots_b) (by kernel_rfl) (by kernel_rfl) laws_eqSlots_h
noncomputable def laws_eqSlots_Ke  (x0 : List Int × List Int × Unit) (x1 : List Int × List Int × Unit) : Ex → AS → Option (RsD [.own tB] × PsO [.ro tSlots, .ro tSlots]) := endK laws_eqSlots_E Tryz.f36 [.ro tSlots, .ro tSlots] [.own tB] (initL [.ro tSlots, .ro tSlots] (x0, (x1, ())) 0).1
theorem laws_eqSlots_main (x0 : List Int × List Int × Unit) (x1 : List Int × List Int × Unit) : laws_eqSlots_F (x0, (x1, ())) =
 (laws_eqByteS_F (x0.1, (x1.1, ()))).bind fun y9 =>
 brk (!y9.1.1)
 (some ((false, ()), ((), ((), ()))))
 ((laws_eqByteS_F (x0.2.1, (x1.2.1, ()))).bind fun y15 =>
 brk (!y15.1.1)
 (some ((false, ()), ((), ((), ()))))
 (some ((true, ()), ((), ((), ()))))) := by kernel_rfl
/-! laws.eqBoolS -/
noncomputable def laws_eqBoolS_b : Code := bd Tryz.f37
@[reducible] def laws_eqBoolS_t0 : Tm := ⟨[], [], [(0, .sc true tBs), (1, .sc true tBs), (5, .sc true tI)], [], [4], []⟩
def laws_eqBoolS_T : List (Nat × Tm) := [(0, laws_eqBoolS_t0)]
noncomputable def laws_eqBoolS_E : Env := ⟨tt0, []⟩
noncomputable def laws_eqBoolS_F : PsD [.ro tBs, .ro tBs] → Option (RsD [.own tB] × PsO [.ro tBs, .ro tBs]) := fun x => evFn laws_eqBoolS_E laws_eqBoolS_T Tryz.f37 laws_eqBoolS_b [.ro tBs, .ro tBs] [.own tB] x
@[reducible] noncomputable def laws_eqBoolS_C : Ct := ⟨[.ro tBs, .ro tBs], [.own tB], laws_eqBoolS_F⟩
theorem laws_eqBoolS_h (x : PsD [.ro tBs, .ro tBs]) (y : RsD [.own tB] × PsO [.ro tBs, .ro tBs]) (h : laws_eqBoolS_F x = some y) : evFn laws_eqBoolS_E laws_eqBoolS_T Tryz.f37 laws_eqBoolS_b [.ro tBs, .ro tBs] [.own tB] x = some y := h
theorem laws_eqBoolS_c : ∀ f c, get laws_eqBoolS_E.ct f = some c → Sat Tryz.prog f c := ct_nil
theorem laws_eqBoolS_S : Sat Tryz.prog 37 laws_eqBoolS_C := fn_ok2 (envOk _) laws_eqBoolS_c mixedOk Tryz.func37 (by kernel_rfl : Tryz.f37.body = some laws_eqBoolS_b) (by kernel_rfl) (by kernel_rfl) laws_eqBoolS_h
noncomputable def laws_eqBoolS_Ke  (x0 : List Bool) (x1 : List Bool) : Ex → AS → Option (RsD [.own tB] × PsO [.ro tBs, .ro tBs]) := endK laws_eqBoolS_E Tryz.f37 [.ro tBs, .ro tBs] [.own tB] (initL [.ro tBs, .ro tBs] (x0, (x1, ())) 0).1
noncomputable def laws_eqBoolS_B0 {R : Type} : AS → (Ex → AS → Option R) → Option R := fun A K => ev laws_eqBoolS_E laws_eqBoolS_T 0 (cA (cA (cB (cA (cB (cB laws_eqBoolS_b)))))) A K
noncomputable def laws_eqBoolS_K0  (x0 : List Bool) (x1 : List Bool) : Ex → AS → Option (RsD [.own tB] × PsO [.ro tBs, .ro tBs]) := kBlk 0 (kSeq (fun A K => ev laws_eqBoolS_E laws_eqBoolS_T 1000 (cB (cB (cB laws_eqBoolS_b))) A K) (laws_eqBoolS_Ke x0 x1))
noncomputable def laws_eqBoolS_x0_0 (d0 : Bool) : AS := ⟨[(4, .v (.one (.d true tB d0)))], []⟩
noncomputable def laws_eqBoolS_x0_1 : AS := ⟨[], []⟩
theorem laws_eqBoolS_l0 {R : Type} {K : Ex → AS → Option R} {s : laws_eqBoolS_t0.D} (n : Nat) {v : Option R} (h : iterG laws_eqBoolS_t0 laws_eqBoolS_B0 K n s = v) (hv : ∃ r, v = some r) : loopG laws_eqBoolS_t0 laws_eqBoolS_B0 K s = v := loop_eq (ev_mono _ _) n h hv
theorem laws_eqBoolS_main (x0 : List Bool) (x1 : List Bool) : laws_eqBoolS_F (x0, (x1, ())) =
 brk (!decide ((x0.length : Int) = (x1.length : Int)))
 (some ((false, ()), ((), ((), ()))))
 (loopG laws_eqBoolS_t0 laws_eqBoolS_B0 (laws_eqBoolS_K0 x0 x1) ((x0, (x1, ((0 : Int), ()))), ())) := by kernel_rfl
theorem laws_eqBoolS_r0 {R : Type} (K : Ex → AS → Option R) (n : Nat) (t0 : List Bool) (t1 : List Bool) (t5 : Int) : iterG laws_eqBoolS_t0 laws_eqBoolS_B0 K (n + 1) ((t0, (t1, (t5, ()))), ()) =
 brk (decide (t5 < (t0.length : Int)))
 (ck (decide (0 ≤ t5) && decide (t5 < t0.length)) (ck (decide (0 ≤ t5) && decide (t5 < t1.length)) (brk (!((rdD tB t0 t5) == (rdD tB t1 t5)))
 (K .ret (laws_eqBoolS_x0_0 false))
 (iterG laws_eqBoolS_t0 laws_eqBoolS_B0 K n ((t0, (t1, (IntKind.i64.wrap (t5 + (1 : Int)), ()))), ())))))
 (K (.exit 0) (laws_eqBoolS_x0_1)) := by kernel_rfl
theorem laws_eqBoolS_e0_0 (x0 : List Bool) (x1 : List Bool) (d0 : Bool) : laws_eqBoolS_K0 x0 x1 .ret (laws_eqBoolS_x0_0 d0) =
 some ((d0, ()), ((), ((), ()))) := by kernel_rfl
theorem laws_eqBoolS_e0_1 (x0 : List Bool) (x1 : List Bool) : laws_eqBoolS_K0 x0 x1 (.exit 0) (laws_eqBoolS_x0_1) =
 some ((true, ()), ((), ((), ()))) := by kernel_rfl
/-! laws.eqNode -/
noncomputable def laws_eqNode_b : Code := bd Tryz.f10
def laws_eqNode_T : List (Nat × Tm) := []
noncomputable def laws_eqNode_E : Env := ⟨tt0, [(19, laws_eqMeta_C), (35, laws_eqIntS_C), (36, laws_eqSlots_C), (37, laws_eqBoolS_C), (38, laws_eqIntSS_C)]⟩
noncomputable def laws_eqNode_F : PsD [.ro tNode, .ro tNode] → Option (RsD [.own tB] × PsO [.ro tNode, .ro tNode]) := fun x => evFn laws_eqNode_E laws_eqNode_T Tryz.f10 laws_eqNode_b [.ro tNode, .ro tNode] [.own tB] x
@[reducible] noncomputable def laws_eqNode_C : Ct := ⟨[.ro tNode, .ro tNode], [.own tB], laws_eqNode_F⟩
theorem laws_eqNode_h (x : PsD [.ro tNode, .ro tNode]) (y : RsD [.own tB] × PsO [.ro tNode, .ro tNode]) (h : laws_eqNode_F x = some y) : evFn laws_eqNode_E laws_eqNode_T Tryz.f10 laws_eqNode_b [.ro tNode, .ro tNode] [.own tB] x = some y := h
theorem laws_eqNode_c : ∀ f c, get laws_eqNode_E.ct f = some c → Sat Tryz.prog f c := ct_cons laws_eqMeta_S (ct_cons laws_eqIntS_S (ct_cons laws_eqSlots_S (ct_cons laws_eqBoolS_S (ct_cons laws_eqIntSS_S (ct_nil)))))
theorem laws_eqNode_S : Sat Tryz.prog 10 laws_eqNode_C := fn_ok2 (envOk _) laws_eqNode_c mixedOk Tryz.func10 (by kernel_rfl : Tryz.f10.body = some laws_eqNode_b) (by kernel_rfl) (by kernel_rfl) laws_eqNode_h
noncomputable def laws_eqNode_Ke  (x0 : Int × Bool × Bool × List Int × (List Int × List (List Int) × Bool × Bool × Bool × Int × Unit) × (List Int × List Int × Unit) × List Bool × List (List Int) × List Bool × List Int × Unit) (x1 : Int × Bool × Bool × List Int × (List Int × List (List Int) × Bool × Bool × Bool × Int × Unit) × (List Int × List Int × Unit) × List Bool × List (List Int) × List Bool × List Int × Unit) : Ex → AS → Option (RsD [.own tB] × PsO [.ro tNode, .ro tNode]) := endK laws_eqNode_E Tryz.f10 [.ro tNode, .ro tNode] [.own tB] (initL [.ro tNode, .ro tNode] (x0, (x1, ())) 0).1
theorem laws_eqNode_main (x0 : Int × Bool × Bool × List Int × (List Int × List (List Int) × Bool × Bool × Bool × Int × Unit) × (List Int × List Int × Unit) × List Bool × List (List Int) × List Bool × List Int × Unit) (x1 : Int × Bool × Bool × List Int × (List Int × List (List Int) × Bool × Bool × Bool × Int × Unit) × (List Int × List Int × Unit) × List Bool × List (List Int) × List Bool × List Int × Unit) : laws_eqNode_F (x0, (x1, ())) =
 brk (!decide (x0.1 = x1.1))
 (some ((false, ()), ((), ((), ()))))
 (brk (!(x0.2.1 == x1.2.1))
 (some ((false, ()), ((), ((), ()))))
 (brk (!(x0.2.2.1 == x1.2.2.1))
 (some ((false, ()), ((), ((), ()))))
 ((laws_eqIntS_F (x0.2.2.2.1, (x1.2.2.2.1, ()))).bind fun y24 =>
 brk (!y24.1.1)
 (some ((false, ()), ((), ((), ()))))
 ((laws_eqMeta_F ((x0.2.2.2.2.1.1, (x0.2.2.2.2.1.2.1, (x0.2.2.2.2.1.2.2.1, (x0.2.2.2.2.1.2.2.2.1, (x0.2.2.2.2.1.2.2.2.2.1, (x0.2.2.2.2.1.2.2.2.2.2.1, ())))))), ((x1.2.2.2.2.1.1, (x1.2.2.2.2.1.2.1, (x1.2.2.2.2.1.2.2.1, (x1.2.2.2.2.1.2.2.2.1, (x1.2.2.2.2.1.2.2.2.2.1, (x1.2.2.2.2.1.2.2.2.2.2.1, ())))))), ()))).bind fun y30 =>
 brk (!y30.1.1)
 (some ((false, ()), ((), ((), ()))))
 ((laws_eqSlots_F ((x0.2.2.2.2.2.1.1, (x0.2.2.2.2.2.1.2.1, ())), ((x1.2.2.2.2.2.1.1, (x1.2.2.2.2.2.1.2.1, ())), ()))).bind fun y36 =>
 brk (!y36.1.1)
 (some ((false, ()), ((), ((), ()))))
 ((laws_eqBoolS_F (x0.2.2.2.2.2.2.1, (x1.2.2.2.2.2.2.1, ()))).bind fun y42 =>
 brk (!y42.1.1)
 (some ((false, ()), ((), ((), ()))))
 ((laws_eqIntSS_F (x0.2.2.2.2.2.2.2.1, (x1.2.2.2.2.2.2.2.1, ()))).bind fun y48 =>
 brk (!y48.1.1)
 (some ((false, ()), ((), ((), ()))))
 ((laws_eqBoolS_F (x0.2.2.2.2.2.2.2.2.1, (x1.2.2.2.2.2.2.2.2.1, ()))).bind fun y54 =>
 brk (!y54.1.1)
 (some ((false, ()), ((), ((), ()))))
 ((laws_eqIntS_F (x0.2.2.2.2.2.2.2.2.2.1, (x1.2.2.2.2.2.2.2.2.2.1, ()))).bind fun y60 =>
 brk (!y60.1.1)
 (some ((false, ()), ((), ((), ()))))
 (some ((true, ()), ((), ((), ()))))))))))))) := by kernel_rfl
/-! laws.markIntS -/
noncomputable def laws_markIntS_b : Code := bd Tryz.f39
@[reducible] def laws_markIntS_t0 : Tm := ⟨[], [], [(0, .own 1000000), (1, .sc true tI), (5, .sc true tI)], [(1000000, .arr 3 tI)], [1], []⟩
def laws_markIntS_T : List (Nat × Tm) := [(0, laws_markIntS_t0)]
noncomputable def laws_markIntS_E : Env := ⟨tt0, []⟩
noncomputable def laws_markIntS_F : PsD [.inp tIs, .ro tI] → Option (RsD [.own tI] × PsO [.inp tIs, .ro tI]) := fun x => evFn laws_markIntS_E laws_markIntS_T Tryz.f39 laws_markIntS_b [.inp tIs, .ro tI] [.own tI] x
@[reducible] noncomputable def laws_markIntS_C : Ct := ⟨[.inp tIs, .ro tI], [.own tI], laws_markIntS_F⟩
theorem laws_markIntS_h (x : PsD [.inp tIs, .ro tI]) (y : RsD [.own tI] × PsO [.inp tIs, .ro tI]) (h : laws_markIntS_F x = some y) : evFn laws_markIntS_E laws_markIntS_T Tryz.f39 laws_markIntS_b [.inp tIs, .ro tI] [.own tI] x = some y := h
theorem laws_markIntS_c : ∀ f c, get laws_markIntS_E.ct f = some c → Sat Tryz.prog f c := ct_nil
theorem laws_markIntS_S : Sat Tryz.prog 39 laws_markIntS_C := fn_ok2 (envOk _) laws_markIntS_c mixedOk Tryz.func39 (by kernel_rfl : Tryz.f39.body = some laws_markIntS_b) (by kernel_rfl) (by kernel_rfl) laws_markIntS_h
noncomputable def laws_markIntS_Ke  (x0 : List Int) (x1 : Int) : Ex → AS → Option (RsD [.own tI] × PsO [.inp tIs, .ro tI]) := endK laws_markIntS_E Tryz.f39 [.inp tIs, .ro tI] [.own tI] (initL [.inp tIs, .ro tI] (x0, (x1, ())) 0).1
noncomputable def laws_markIntS_B0 {R : Type} : AS → (Ex → AS → Option R) → Option R := fun A K => ev laws_markIntS_E laws_markIntS_T 0 (cA (cA (cB (cA (cB laws_markIntS_b))))) A K
noncomputable def laws_markIntS_K0  (x0 : List Int) (x1 : Int) : Ex → AS → Option (RsD [.own tI] × PsO [.inp tIs, .ro tI]) := kBlk 0 (kSeq (fun A K => ev laws_markIntS_E laws_markIntS_T 1000 (cB (cB laws_markIntS_b)) A K) (laws_markIntS_Ke x0 x1))
noncomputable def laws_markIntS_x0_0 (d0 : Int) (d1 : List Int) : AS := ⟨[(1, .v (.one (.d true tI d0)))], [(1000000, .arr 3 tI d1)]⟩
theorem laws_markIntS_l0 {R : Type} {K : Ex → AS → Option R} {s : laws_markIntS_t0.D} (n : Nat) {v : Option R} (h : iterG laws_markIntS_t0 laws_markIntS_B0 K n s = v) (hv : ∃ r, v = some r) : loopG laws_markIntS_t0 laws_markIntS_B0 K s = v := loop_eq (ev_mono _ _) n h hv
theorem laws_markIntS_main (x0 : List Int) (x1 : Int) : laws_markIntS_F (x0, (x1, ())) =
 loopG laws_markIntS_t0 laws_markIntS_B0 (laws_markIntS_K0 x0 x1) ((x1, ((0 : Int), ())), (x0, ())) := by kernel_rfl
theorem laws_markIntS_r0 {R : Type} (K : Ex → AS → Option R) (n : Nat) (t1 : Int) (t5 : Int) (a1000000 : List Int) : iterG laws_markIntS_t0 laws_markIntS_B0 K (n + 1) ((t1, (t5, ())), (a1000000, ())) =
 brk (decide (t5 < (a1000000.length : Int)))
 (ck (decide (0 ≤ t5) && decide (t5 < a1000000.length)) (iterG laws_markIntS_t0 laws_markIntS_B0 K n ((IntKind.i64.wrap (t1 + (1 : Int)), (IntKind.i64.wrap (t5 + (1 : Int)), ())), (a1000000.set t5.toNat t1, ()))))
 (K (.exit 0) (laws_markIntS_x0_0 t1 a1000000)) := by kernel_rfl
theorem laws_markIntS_e0_0 (x0 : List Int) (x1 : Int) (d0 : Int) (d1 : List Int) : laws_markIntS_K0 x0 x1 (.exit 0) (laws_markIntS_x0_0 d0 d1) =
 some ((d0, ()), (d1, ((), ()))) := by kernel_rfl
/-! laws.markIntSS -/
noncomputable def laws_markIntSS_b : Code := bd Tryz.f42
@[reducible] def laws_markIntSS_t0 : Tm := ⟨[], [], [(0, .own 1000000), (1, .sc true tI), (5, .sc true tI)], [(1000000, .arr 22 tIs)], [1], []⟩
def laws_markIntSS_T : List (Nat × Tm) := [(0, laws_markIntSS_t0)]
noncomputable def laws_markIntSS_E : Env := ⟨tt0, [(39, laws_markIntS_C)]⟩
noncomputable def laws_markIntSS_F : PsD [.inp tIss, .ro tI] → Option (RsD [.own tI] × PsO [.inp tIss, .ro tI]) := fun x => evFn laws_markIntSS_E laws_markIntSS_T Tryz.f42 laws_markIntSS_b [.inp tIss, .ro tI] [.own tI] x
@[reducible] noncomputable def laws_markIntSS_C : Ct := ⟨[.inp tIss, .ro tI], [.own tI], laws_markIntSS_F⟩
theorem laws_markIntSS_h (x : PsD [.inp tIss, .ro tI]) (y : RsD [.own tI] × PsO [.inp tIss, .ro tI]) (h : laws_markIntSS_F x = some y) : evFn laws_markIntSS_E laws_markIntSS_T Tryz.f42 laws_markIntSS_b [.inp tIss, .ro tI] [.own tI] x = some y := h
theorem laws_markIntSS_c : ∀ f c, get laws_markIntSS_E.ct f = some c → Sat Tryz.prog f c := ct_cons laws_markIntS_S (ct_nil)
theorem laws_markIntSS_S : Sat Tryz.prog 42 laws_markIntSS_C := fn_ok2 (envOk _) laws_markIntSS_c mixedOk Tryz.func42 (by kernel_rfl : Tryz.f42.body = some laws_markIntSS_b) (by kernel_rfl) (by kernel_rfl) laws_markIntSS_h
noncomputable def laws_markIntSS_Ke  (x0 : List (List Int)) (x1 : Int) : Ex → AS → Option (RsD [.own tI] × PsO [.inp tIss, .ro tI]) := endK laws_markIntSS_E Tryz.f42 [.inp tIss, .ro tI] [.own tI] (initL [.inp tIss, .ro tI] (x0, (x1, ())) 0).1
noncomputable def laws_markIntSS_B0 {R : Type} : AS → (Ex → AS → Option R) → Option R := fun A K => ev laws_markIntSS_E laws_markIntSS_T 0 (cA (cA (cB (cA (cB laws_markIntSS_b))))) A K
noncomputable def laws_markIntSS_K0  (x0 : List (List Int)) (x1 : Int) : Ex → AS → Option (RsD [.own tI] × PsO [.inp tIss, .ro tI]) := kBlk 0 (kSeq (fun A K => ev laws_markIntSS_E laws_markIntSS_T 1000 (cB (cB laws_markIntSS_b)) A K) (laws_markIntSS_Ke x0 x1))
noncomputable def laws_markIntSS_x0_0 (d0 : Int) (d1 : List (List Int)) : AS := ⟨[(1, .v (.one (.d true tI d0)))], [(1000000, .arr 22 tIs d1)]⟩
theorem laws_markIntSS_l0 {R : Type} {K : Ex → AS → Option R} {s : laws_markIntSS_t0.D} (n : Nat) {v : Option R} (h : iterG laws_markIntSS_t0 laws_markIntSS_B0 K n s = v) (hv : ∃ r, v = some r) : loopG laws_markIntSS_t0 laws_markIntSS_B0 K s = v := loop_eq (ev_mono _ _) n h hv
theorem laws_markIntSS_main (x0 : List (List Int)) (x1 : Int) : laws_markIntSS_F (x0, (x1, ())) =
 loopG laws_markIntSS_t0 laws_markIntSS_B0 (laws_markIntSS_K0 x0 x1) ((x1, ((0 : Int), ())), (x0, ())) := by kernel_rfl
theorem laws_markIntSS_r0 {R : Type} (K : Ex → AS → Option R) (n : Nat) (t1 : Int) (t5 : Int) (a1000000 : List (List Int)) : iterG laws_markIntSS_t0 laws_markIntSS_B0 K (n + 1) ((t1, (t5, ())), (a1000000, ())) =
 brk (decide (t5 < (a1000000.length : Int)))
 (ck (decide (0 ≤ t5) && decide (t5 < a1000000.length)) ((laws_markIntS_F (rdD tIs a1000000 t5, (t1, ()))).bind fun y17 =>
 iterG laws_markIntSS_t0 laws_markIntSS_B0 K n ((y17.1.1, (IntKind.i64.wrap (t5 + (1 : Int)), ())), (a1000000.set t5.toNat y17.2.1, ()))))
 (K (.exit 0) (laws_markIntSS_x0_0 t1 a1000000)) := by kernel_rfl
theorem laws_markIntSS_e0_0 (x0 : List (List Int)) (x1 : Int) (d0 : Int) (d1 : List (List Int)) : laws_markIntSS_K0 x0 x1 (.exit 0) (laws_markIntSS_x0_0 d0 d1) =
 some ((d0, ()), (d1, ((), ()))) := by kernel_rfl
/-! laws.markMeta -/
noncomputable def laws_markMeta_b : Code := bd Tryz.f20
def laws_markMeta_T : List (Nat × Tm) := []
noncomputable def laws_markMeta_E : Env := ⟨tt0, [(39, laws_markIntS_C), (42, laws_markIntSS_C)]⟩
noncomputable def laws_markMeta_F : PsD [.inp tMeta, .ro tI] → Option (RsD [.own tI] × PsO [.inp tMeta, .ro tI]) := fun x => evFn laws_markMeta_E laws_markMeta_T Tryz.f20 laws_markMeta_b [.inp tMeta, .ro tI] [.own tI] x
@[reducible] noncomputable def laws_markMeta_C : Ct := ⟨[.inp tMeta, .ro tI], [.own tI], laws_markMeta_F⟩
theorem laws_markMeta_h (x : PsD [.inp tMeta, .ro tI]) (y : RsD [.own tI] × PsO [.inp tMeta, .ro tI]) (h : laws_markMeta_F x = some y) : evFn laws_markMeta_E laws_markMeta_T Tryz.f20 laws_markMeta_b [.inp tMeta, .ro tI] [.own tI] x = some y := h
theorem laws_markMeta_c : ∀ f c, get laws_markMeta_E.ct f = some c → Sat Tryz.prog f c := ct_cons laws_markIntS_S (ct_cons laws_markIntSS_S (ct_nil))
theorem laws_markMeta_S : Sat Tryz.prog 20 laws_markMeta_C := fn_ok2 (envOk _) laws_markMeta_c mixedOk Tryz.func20 (by kernel_rfl : Tryz.f20.body = some laws_markMeta_b) (by kernel_rfl) (by kernel_rfl) laws_markMeta_h
noncomputable def laws_markMeta_Ke  (x0 : List Int × List (List Int) × Bool × Bool × Bool × Int × Unit) (x1 : Int) : Ex → AS → Option (RsD [.own tI] × PsO [.inp tMeta, .ro tI]) := endK laws_markMeta_E Tryz.f20 [.inp tMeta, .ro tI] [.own tI] (initL [.inp tMeta, .ro tI] (x0, (x1, ())) 0).1
theorem laws_markMeta_main (x0 : List Int × List (List Int) × Bool × Bool × Bool × Int × Unit) (x1 : Int) : laws_markMeta_F (x0, (x1, ())) =
 (laws_markIntS_F (x0.1, (x1, ()))).bind fun y8 =>
 (laws_markIntSS_F (x0.2.1, (y8.1.1, ()))).bind fun y12 =>
 some ((y12.1.1, ()), ((y8.2.1, (y12.2.1, (x0.2.2.1, (x0.2.2.2.1, (x0.2.2.2.2.1, (x0.2.2.2.2.2.1, ())))))), ((), ()))) := by kernel_rfl
/-! laws.markByteS -/
noncomputable def laws_markByteS_b : Code := bd Tryz.f75
@[reducible] def laws_markByteS_t0 : Tm := ⟨[], [], [(0, .own 1000000), (1, .sc true tI), (5, .sc true tI)], [(1000000, .arr 5 tY)], [1], []⟩
def laws_markByteS_T : List (Nat × Tm) := [(0, laws_markByteS_t0)]
noncomputable def laws_markByteS_E : Env := ⟨tt0, []⟩
noncomputable def laws_markByteS_F : PsD [.inp tYs, .ro tI] → Option (RsD [.own tI] × PsO [.inp tYs, .ro tI]) := fun x => evFn laws_markByteS_E laws_markByteS_T Tryz.f75 laws_markByteS_b [.inp tYs, .ro tI] [.own tI] x
@[reducible] noncomputable def laws_markByteS_C : Ct := ⟨[.inp tYs, .ro tI], [.own tI], laws_markByteS_F⟩
theorem laws_markByteS_h (x : PsD [.inp tYs, .ro tI]) (y : RsD [.own tI] × PsO [.inp tYs, .ro tI]) (h : laws_markByteS_F x = some y) : evFn laws_markByteS_E laws_markByteS_T Tryz.f75 laws_markByteS_b [.inp tYs, .ro tI] [.own tI] x = some y := h
theorem laws_markByteS_c : ∀ f c, get laws_markByteS_E.ct f = some c → Sat Tryz.prog f c := ct_nil
theorem laws_markByteS_S : Sat Tryz.prog 75 laws_markByteS_C := fn_ok2 (envOk _) laws_markByteS_c mixedOk Tryz.func75 (by kernel_rfl : Tryz.f75.body = some laws_markByteS_b) (by kernel_rfl) (by kernel_rfl) laws_markByteS_h
noncomputable def laws_markByteS_Ke  (x0 : List Int) (x1 : Int) : Ex → AS → Option (RsD [.own tI] × PsO [.inp tYs, .ro tI]) := endK laws_markByteS_E Tryz.f75 [.inp tYs, .ro tI] [.own tI] (initL [.inp tYs, .ro tI] (x0, (x1, ())) 0).1
noncomputable def laws_markByteS_B0 {R : Type} : AS → (Ex → AS → Option R) → Option R := fun A K => ev laws_markByteS_E laws_markByteS_T 0 (cA (cA (cB (cA (cB laws_markByteS_b))))) A K
noncomputable def laws_markByteS_K0  (x0 : List Int) (x1 : Int) : Ex → AS → Option (RsD [.own tI] × PsO [.inp tYs, .ro tI]) := kBlk 0 (kSeq (fun A K => ev laws_markByteS_E laws_markByteS_T 1000 (cB (cB laws_markByteS_b)) A K) (laws_markByteS_Ke x0 x1))
noncomputable def laws_markByteS_x0_0 (d0 : Int) (d1 : List Int) : AS := ⟨[(1, .v (.one (.d true tI d0)))], [(1000000, .arr 5 tY d1)]⟩
theorem laws_markByteS_l0 {R : Type} {K : Ex → AS → Option R} {s : laws_markByteS_t0.D} (n : Nat) {v : Option R} (h : iterG laws_markByteS_t0 laws_markByteS_B0 K n s = v) (hv : ∃ r, v = some r) : loopG laws_markByteS_t0 laws_markByteS_B0 K s = v := loop_eq (ev_mono _ _) n h hv
theorem laws_markByteS_main (x0 : List Int) (x1 : Int) : laws_markByteS_F (x0, (x1, ())) =
 loopG laws_markByteS_t0 laws_markByteS_B0 (laws_markByteS_K0 x0 x1) ((x1, ((0 : Int), ())), (x0, ())) := by kernel_rfl
theorem laws_markByteS_r0 {R : Type} (K : Ex → AS → Option R) (n : Nat) (t1 : Int) (t5 : Int) (a1000000 : List Int) : iterG laws_markByteS_t0 laws_markByteS_B0 K (n + 1) ((t1, (t5, ())), (a1000000, ())) =
 brk (decide (t5 < (a1000000.length : Int)))
 (ck (decide (0 ≤ t5) && decide (t5 < a1000000.length)) (iterG laws_markByteS_t0 laws_markByteS_B0 K n ((IntKind.i64.wrap (t1 + (1 : Int)), (IntKind.i64.wrap (t5 + (1 : Int)), ())), (a1000000.set t5.toNat (IntKind.u8.wrap t1), ()))))
 (K (.exit 0) (laws_markByteS_x0_0 t1 a1000000)) := by kernel_rfl
theorem laws_markByteS_e0_0 (x0 : List Int) (x1 : Int) (d0 : Int) (d1 : List Int) : laws_markByteS_K0 x0 x1 (.exit 0) (laws_markByteS_x0_0 d0 d1) =
 some ((d0, ()), (d1, ((), ()))) := by kernel_rfl
/-! laws.markSlots -/
noncomputable def laws_markSlots_b : Code := bd Tryz.f40
def laws_markSlots_T : List (Nat × Tm) := []
noncomputable def laws_markSlots_E : Env := ⟨tt0, [(75, laws_markByteS_C)]⟩
noncomputable def laws_markSlots_F : PsD [.inp tSlots, .ro tI] → Option (RsD [.own tI] × PsO [.inp tSlots, .ro tI]) := fun x => evFn laws_markSlots_E laws_markSlots_T Tryz.f40 laws_markSlots_b [.inp tSlots, .ro tI] [.own tI] x
@[reducible] noncomputable def laws_markSlots_C : Ct := ⟨[.inp tSlots, .ro tI], [.own tI], laws_markSlots_F⟩
theorem laws_markSlots_h (x : PsD [.inp tSlots, .ro tI]) (y : RsD [.own tI] × PsO [.inp tSlots, .ro tI]) (h : laws_markSlots_F x = some y) : evFn laws_markSlots_E laws_markSlots_T Tryz.f40 laws_markSlots_b [.inp tSlots, .ro tI] [.own tI] x = some y := h
theorem laws_markSlots_c : ∀ f c, get laws_markSlots_E.ct f = some c → Sat Tryz.prog f c := ct_cons laws_markByteS_S (ct_nil)
theorem laws_markSlots_S : Sat Tryz.prog 40 laws_markSlots_C := fn_ok2 (envOk _) laws_markSlots_c mixedOk Tryz.func40 (by kernel_rfl : Tryz.f40.body = some laws_markSlots_b) (by kernel_rfl) (by kernel_rfl) laws_markSlots_h
noncomputable def laws_markSlots_Ke  (x0 : List Int × List Int × Unit) (x1 : Int) : Ex → AS → Option (RsD [.own tI] × PsO [.inp tSlots, .ro tI]) := endK laws_markSlots_E Tryz.f40 [.inp tSlots, .ro tI] [.own tI] (initL [.inp tSlots, .ro tI] (x0, (x1, ())) 0).1
theorem laws_markSlots_main (x0 : List Int × List Int × Unit) (x1 : Int) : laws_markSlots_F (x0, (x1, ())) =
 (laws_markByteS_F (x0.1, (x1, ()))).bind fun y8 =>
 (laws_markByteS_F (x0.2.1, (y8.1.1, ()))).bind fun y12 =>
 some ((y12.1.1, ()), ((y8.2.1, (y12.2.1, ())), ((), ()))) := by kernel_rfl
/-! laws.markBoolS -/
noncomputable def laws_markBoolS_b : Code := bd Tryz.f41
@[reducible] def laws_markBoolS_t0 : Tm := ⟨[], [], [(0, .own 1000000), (1, .sc true tI), (5, .sc true tI)], [(1000000, .arr 4 tB)], [1], []⟩
def laws_markBoolS_T : List (Nat × Tm) := [(0, laws_markBoolS_t0)]
noncomputable def laws_markBoolS_E : Env := ⟨tt0, []⟩
noncomputable def laws_markBoolS_F : PsD [.inp tBs, .ro tI] → Option (RsD [.own tI] × PsO [.inp tBs, .ro tI]) := fun x => evFn laws_markBoolS_E laws_markBoolS_T Tryz.f41 laws_markBoolS_b [.inp tBs, .ro tI] [.own tI] x
@[reducible] noncomputable def laws_markBoolS_C : Ct := ⟨[.inp tBs, .ro tI], [.own tI], laws_markBoolS_F⟩
theorem laws_markBoolS_h (x : PsD [.inp tBs, .ro tI]) (y : RsD [.own tI] × PsO [.inp tBs, .ro tI]) (h : laws_markBoolS_F x = some y) : evFn laws_markBoolS_E laws_markBoolS_T Tryz.f41 laws_markBoolS_b [.inp tBs, .ro tI] [.own tI] x = some y := h
theorem laws_markBoolS_c : ∀ f c, get laws_markBoolS_E.ct f = some c → Sat Tryz.prog f c := ct_nil
theorem laws_markBoolS_S : Sat Tryz.prog 41 laws_markBoolS_C := fn_ok2 (envOk _) laws_markBoolS_c mixedOk Tryz.func41 (by kernel_rfl : Tryz.f41.body = some laws_markBoolS_b) (by kernel_rfl) (by kernel_rfl) laws_markBoolS_h
noncomputable def laws_markBoolS_Ke  (x0 : List Bool) (x1 : Int) : Ex → AS → Option (RsD [.own tI] × PsO [.inp tBs, .ro tI]) := endK laws_markBoolS_E Tryz.f41 [.inp tBs, .ro tI] [.own tI] (initL [.inp tBs, .ro tI] (x0, (x1, ())) 0).1
noncomputable def laws_markBoolS_B0 {R : Type} : AS → (Ex → AS → Option R) → Option R := fun A K => ev laws_markBoolS_E laws_markBoolS_T 0 (cA (cA (cB (cA (cB laws_markBoolS_b))))) A K
noncomputable def laws_markBoolS_K0  (x0 : List Bool) (x1 : Int) : Ex → AS → Option (RsD [.own tI] × PsO [.inp tBs, .ro tI]) := kBlk 0 (kSeq (fun A K => ev laws_markBoolS_E laws_markBoolS_T 1000 (cB (cB laws_markBoolS_b)) A K) (laws_markBoolS_Ke x0 x1))
noncomputable def laws_markBoolS_x0_0 (d0 : Int) (d1 : List Bool) : AS := ⟨[(1, .v (.one (.d true tI d0)))], [(1000000, .arr 4 tB d1)]⟩
theorem laws_markBoolS_l0 {R : Type} {K : Ex → AS → Option R} {s : laws_markBoolS_t0.D} (n : Nat) {v : Option R} (h : iterG laws_markBoolS_t0 laws_markBoolS_B0 K n s = v) (hv : ∃ r, v = some r) : loopG laws_markBoolS_t0 laws_markBoolS_B0 K s = v := loop_eq (ev_mono _ _) n h hv
theorem laws_markBoolS_main (x0 : List Bool) (x1 : Int) : laws_markBoolS_F (x0, (x1, ())) =
 loopG laws_markBoolS_t0 laws_markBoolS_B0 (laws_markBoolS_K0 x0 x1) ((x1, ((0 : Int), ())), (x0, ())) := by kernel_rfl
theorem laws_markBoolS_r0 {R : Type} (K : Ex → AS → Option R) (n : Nat) (t1 : Int) (t5 : Int) (a1000000 : List Bool) : iterG laws_markBoolS_t0 laws_markBoolS_B0 K (n + 1) ((t1, (t5, ())), (a1000000, ())) =
 brk (decide (t5 < (a1000000.length : Int)))
 (ck (decide (0 ≤ t5) && decide (t5 < a1000000.length)) (iterG laws_markBoolS_t0 laws_markBoolS_B0 K n ((IntKind.i64.wrap (t1 + (1 : Int)), (IntKind.i64.wrap (t5 + (1 : Int)), ())), (a1000000.set t5.toNat (decide (t1.tmod (3 : Int) = (0 : Int))), ()))))
 (K (.exit 0) (laws_markBoolS_x0_0 t1 a1000000)) := by kernel_rfl
theorem laws_markBoolS_e0_0 (x0 : List Bool) (x1 : Int) (d0 : Int) (d1 : List Bool) : laws_markBoolS_K0 x0 x1 (.exit 0) (laws_markBoolS_x0_0 d0 d1) =
 some ((d0, ()), (d1, ((), ()))) := by kernel_rfl
/-! laws.markNode -/
noncomputable def laws_markNode_b : Code := bd Tryz.f11
def laws_markNode_T : List (Nat × Tm) := []
noncomputable def laws_markNode_E : Env := ⟨tt0, [(20, laws_markMeta_C), (39, laws_markIntS_C), (40, laws_markSlots_C), (41, laws_markBoolS_C), (42, laws_markIntSS_C)]⟩
noncomputable def laws_markNode_F : PsD [.inp tNode, .ro tI] → Option (RsD [.own tI] × PsO [.inp tNode, .ro tI]) := fun x => evFn laws_markNode_E laws_markNode_T Tryz.f11 laws_markNode_b [.inp tNode, .ro tI] [.own tI] x
@[reducible] noncomputable def laws_markNode_C : Ct := ⟨[.inp tNode, .ro tI], [.own tI], laws_markNode_F⟩
theorem laws_markNode_h (x : PsD [.inp tNode, .ro tI]) (y : RsD [.own tI] × PsO [.inp tNode, .ro tI]) (h : laws_markNode_F x = some y) : evFn laws_markNode_E laws_markNode_T Tryz.f11 laws_markNode_b [.inp tNode, .ro tI] [.own tI] x = some y := h
theorem laws_markNode_c : ∀ f c, get laws_markNode_E.ct f = some c → Sat Tryz.prog f c := ct_cons laws_markMeta_S (ct_cons laws_markIntS_S (ct_cons laws_markSlots_S (ct_cons laws_markBoolS_S (ct_cons laws_markIntSS_S (ct_nil)))))
theorem laws_markNode_S : Sat Tryz.prog 11 laws_markNode_C := fn_ok2 (envOk _) laws_markNode_c mixedOk Tryz.func11 (by kernel_rfl : Tryz.f11.body = some laws_markNode_b) (by kernel_rfl) (by kernel_rfl) laws_markNode_h
noncomputable def laws_markNode_Ke  (x0 : Int × Bool × Bool × List Int × (List Int × List (List Int) × Bool × Bool × Bool × Int × Unit) × (List Int × List Int × Unit) × List Bool × List (List Int) × List Bool × List Int × Unit) (x1 : Int) : Ex → AS → Option (RsD [.own tI] × PsO [.inp tNode, .ro tI]) := endK laws_markNode_E Tryz.f11 [.inp tNode, .ro tI] [.own tI] (initL [.inp tNode, .ro tI] (x0, (x1, ())) 0).1
theorem laws_markNode_main (x0 : Int × Bool × Bool × List Int × (List Int × List (List Int) × Bool × Bool × Bool × Int × Unit) × (List Int × List Int × Unit) × List Bool × List (List Int) × List Bool × List Int × Unit) (x1 : Int) : laws_markNode_F (x0, (x1, ())) =
 (laws_markIntS_F (x0.2.2.2.1, (x1, ()))).bind fun y8 =>
 (laws_markMeta_F ((x0.2.2.2.2.1.1, (x0.2.2.2.2.1.2.1, (x0.2.2.2.2.1.2.2.1, (x0.2.2.2.2.1.2.2.2.1, (x0.2.2.2.2.1.2.2.2.2.1, (x0.2.2.2.2.1.2.2.2.2.2.1, ())))))), (y8.1.1, ()))).bind fun y12 =>
 (laws_markSlots_F ((x0.2.2.2.2.2.1.1, (x0.2.2.2.2.2.1.2.1, ())), (y12.1.1, ()))).bind fun y16 =>
 (laws_markBoolS_F (x0.2.2.2.2.2.2.1, (y16.1.1, ()))).bind fun y20 =>
 (laws_markIntSS_F (x0.2.2.2.2.2.2.2.1, (y20.1.1, ()))).bind fun y24 =>
 (laws_markBoolS_F (x0.2.2.2.2.2.2.2.2.1, (y24.1.1, ()))).bind fun y28 =>
 (laws_markIntS_F (x0.2.2.2.2.2.2.2.2.2.1, (y28.1.1, ()))).bind fun y32 =>
 some ((y32.1.1, ()), ((x0.1, (x0.2.1, (x0.2.2.1, (y8.2.1, ((y12.2.1.1, (y12.2.1.2.1, (x0.2.2.2.2.1.2.2.1, (x0.2.2.2.2.1.2.2.2.1, (x0.2.2.2.2.1.2.2.2.2.1, (x0.2.2.2.2.1.2.2.2.2.2.1, ())))))), ((y16.2.1.1, (y16.2.1.2.1, ())), (y20.2.1, (y24.2.1, (y28.2.1, (y32.2.1, ())))))))))), ((), ()))) := by kernel_rfl
/-! laws.heldIntS -/
noncomputable def laws_heldIntS_b : Code := bd Tryz.f43
@[reducible] def laws_heldIntS_t0 : Tm := ⟨[], [], [(0, .sc true tIs), (1, .sc true tI), (5, .sc true tI)], [], [1, 4], []⟩
def laws_heldIntS_T : List (Nat × Tm) := [(0, laws_heldIntS_t0)]
noncomputable def laws_heldIntS_E : Env := ⟨tt0, []⟩
noncomputable def laws_heldIntS_F : PsD [.ro tIs, .ro tI] → Option (RsD [.own tI] × PsO [.ro tIs, .ro tI]) := fun x => evFn laws_heldIntS_E laws_heldIntS_T Tryz.f43 laws_heldIntS_b [.ro tIs, .ro tI] [.own tI] x
@[reducible] noncomputable def laws_heldIntS_C : Ct := ⟨[.ro tIs, .ro tI], [.own tI], laws_heldIntS_F⟩
theorem laws_heldIntS_h (x : PsD [.ro tIs, .ro tI]) (y : RsD [.own tI] × PsO [.ro tIs, .ro tI]) (h : laws_heldIntS_F x = some y) : evFn laws_heldIntS_E laws_heldIntS_T Tryz.f43 laws_heldIntS_b [.ro tIs, .ro tI] [.own tI] x = some y := h
theorem laws_heldIntS_c : ∀ f c, get laws_heldIntS_E.ct f = some c → Sat Tryz.prog f c := ct_nil
theorem laws_heldIntS_S : Sat Tryz.prog 43 laws_heldIntS_C := fn_ok2 (envOk _) laws_heldIntS_c mixedOk Tryz.func43 (by kernel_rfl : Tryz.f43.body = some laws_heldIntS_b) (by kernel_rfl) (by kernel_rfl) laws_heldIntS_h
noncomputable def laws_heldIntS_Ke  (x0 : List Int) (x1 : Int) : Ex → AS → Option (RsD [.own tI] × PsO [.ro tIs, .ro tI]) := endK laws_heldIntS_E Tryz.f43 [.ro tIs, .ro tI] [.own tI] (initL [.ro tIs, .ro tI] (x0, (x1, ())) 0).1
noncomputable def laws_heldIntS_B0 {R : Type} : AS → (Ex → AS → Option R) → Option R := fun A K => ev laws_heldIntS_E laws_heldIntS_T 0 (cA (cA (cB (cA (cB laws_heldIntS_b))))) A K
noncomputable def laws_heldIntS_K0  (x0 : List Int) (x1 : Int) : Ex → AS → Option (RsD [.own tI] × PsO [.ro tIs, .ro tI]) := kBlk 0 (kSeq (fun A K => ev laws_heldIntS_E laws_heldIntS_T 1000 (cB (cB laws_heldIntS_b)) A K) (laws_heldIntS_Ke x0 x1))
noncomputable def laws_heldIntS_x0_0 (d0 : Int) (d1 : Int) : AS := ⟨[(1, .v (.one (.d true tI d0))), (4, .v (.one (.d true tI d1)))], []⟩
noncomputable def laws_heldIntS_x0_1 (d0 : Int) : AS := ⟨[(1, .v (.one (.d true tI d0)))], []⟩
theorem laws_heldIntS_l0 {R : Type} {K : Ex → AS → Option R} {s : laws_heldIntS_t0.D} (n : Nat) {v : Option R} (h : iterG laws_heldIntS_t0 laws_heldIntS_B0 K n s = v) (hv : ∃ r, v = some r) : loopG laws_heldIntS_t0 laws_heldIntS_B0 K s = v := loop_eq (ev_mono _ _) n h hv
theorem laws_heldIntS_main (x0 : List Int) (x1 : Int) : laws_heldIntS_F (x0, (x1, ())) =
 loopG laws_heldIntS_t0 laws_heldIntS_B0 (laws_heldIntS_K0 x0 x1) ((x0, (x1, ((0 : Int), ()))), ()) := by kernel_rfl
theorem laws_heldIntS_r0 {R : Type} (K : Ex → AS → Option R) (n : Nat) (t0 : List Int) (t1 : Int) (t5 : Int) : iterG laws_heldIntS_t0 laws_heldIntS_B0 K (n + 1) ((t0, (t1, (t5, ()))), ()) =
 brk (decide (t5 < (t0.length : Int)))
 (ck (decide (0 ≤ t5) && decide (t5 < t0.length)) (brk (!decide (rdD tI t0 t5 = t1))
 (K .ret (laws_heldIntS_x0_0 t1 (-1 : Int)))
 (iterG laws_heldIntS_t0 laws_heldIntS_B0 K n ((t0, (IntKind.i64.wrap (t1 + (1 : Int)), (IntKind.i64.wrap (t5 + (1 : Int)), ()))), ()))))
 (K (.exit 0) (laws_heldIntS_x0_1 t1)) := by kernel_rfl
theorem laws_heldIntS_e0_0 (x0 : List Int) (x1 : Int) (d0 : Int) (d1 : Int) : laws_heldIntS_K0 x0 x1 .ret (laws_heldIntS_x0_0 d0 d1) =
 some ((d1, ()), ((), ((), ()))) := by kernel_rfl
theorem laws_heldIntS_e0_1 (x0 : List Int) (x1 : Int) (d0 : Int) : laws_heldIntS_K0 x0 x1 (.exit 0) (laws_heldIntS_x0_1 d0) =
 some ((d0, ()), ((), ((), ()))) := by kernel_rfl
/-! laws.heldIntSS -/
noncomputable def laws_heldIntSS_b : Code := bd Tryz.f47
@[reducible] def laws_heldIntSS_t0 : Tm := ⟨[], [], [(0, .sc true tIss), (1, .sc true tI), (5, .sc true tI)], [], [1, 4], []⟩
def laws_heldIntSS_T : List (Nat × Tm) := [(0, laws_heldIntSS_t0)]
noncomputable def laws_heldIntSS_E : Env := ⟨tt0, [(43, laws_heldIntS_C)]⟩
noncomputable def laws_heldIntSS_F : PsD [.ro tIss, .ro tI] → Option (RsD [.own tI] × PsO [.ro tIss, .ro tI]) := fun x => evFn laws_heldIntSS_E laws_heldIntSS_T Tryz.f47 laws_heldIntSS_b [.ro tIss, .ro tI] [.own tI] x
@[reducible] noncomputable def laws_heldIntSS_C : Ct := ⟨[.ro tIss, .ro tI], [.own tI], laws_heldIntSS_F⟩
theorem laws_heldIntSS_h (x : PsD [.ro tIss, .ro tI]) (y : RsD [.own tI] × PsO [.ro tIss, .ro tI]) (h : laws_heldIntSS_F x = some y) : evFn laws_heldIntSS_E laws_heldIntSS_T Tryz.f47 laws_heldIntSS_b [.ro tIss, .ro tI] [.own tI] x = some y := h
theorem laws_heldIntSS_c : ∀ f c, get laws_heldIntSS_E.ct f = some c → Sat Tryz.prog f c := ct_cons laws_heldIntS_S (ct_nil)
theorem laws_heldIntSS_S : Sat Tryz.prog 47 laws_heldIntSS_C := fn_ok2 (envOk _) laws_heldIntSS_c mixedOk Tryz.func47 (by kernel_rfl : Tryz.f47.body = some laws_heldIntSS_b) (by kernel_rfl) (by kernel_rfl) laws_heldIntSS_h
noncomputable def laws_heldIntSS_Ke  (x0 : List (List Int)) (x1 : Int) : Ex → AS → Option (RsD [.own tI] × PsO [.ro tIss, .ro tI]) := endK laws_heldIntSS_E Tryz.f47 [.ro tIss, .ro tI] [.own tI] (initL [.ro tIss, .ro tI] (x0, (x1, ())) 0).1
noncomputable def laws_heldIntSS_B0 {R : Type} : AS → (Ex → AS → Option R) → Option R := fun A K => ev laws_heldIntSS_E laws_heldIntSS_T 0 (cA (cA (cB (cA (cB laws_heldIntSS_b))))) A K
noncomputable def laws_heldIntSS_K0  (x0 : List (List Int)) (x1 : Int) : Ex → AS → Option (RsD [.own tI] × PsO [.ro tIss, .ro tI]) := kBlk 0 (kSeq (fun A K => ev laws_heldIntSS_E laws_heldIntSS_T 1000 (cB (cB laws_heldIntSS_b)) A K) (laws_heldIntSS_Ke x0 x1))
noncomputable def laws_heldIntSS_x0_0 (d0 : Int) (d1 : Int) : AS := ⟨[(1, .v (.one (.d true tI d0))), (4, .v (.one (.d true tI d1)))], []⟩
noncomputable def laws_heldIntSS_x0_1 (d0 : Int) : AS := ⟨[(1, .v (.one (.d true tI d0)))], []⟩
theorem laws_heldIntSS_l0 {R : Type} {K : Ex → AS → Option R} {s : laws_heldIntSS_t0.D} (n : Nat) {v : Option R} (h : iterG laws_heldIntSS_t0 laws_heldIntSS_B0 K n s = v) (hv : ∃ r, v = some r) : loopG laws_heldIntSS_t0 laws_heldIntSS_B0 K s = v := loop_eq (ev_mono _ _) n h hv
theorem laws_heldIntSS_main (x0 : List (List Int)) (x1 : Int) : laws_heldIntSS_F (x0, (x1, ())) =
 loopG laws_heldIntSS_t0 laws_heldIntSS_B0 (laws_heldIntSS_K0 x0 x1) ((x0, (x1, ((0 : Int), ()))), ()) := by kernel_rfl
theorem laws_heldIntSS_r0 {R : Type} (K : Ex → AS → Option R) (n : Nat) (t0 : List (List Int)) (t1 : Int) (t5 : Int) : iterG laws_heldIntSS_t0 laws_heldIntSS_B0 K (n + 1) ((t0, (t1, (t5, ()))), ()) =
 brk (decide (t5 < (t0.length : Int)))
 (ck (decide (0 ≤ t5) && decide (t5 < t0.length)) ((laws_heldIntS_F (rdD tIs t0 t5, (t1, ()))).bind fun y17 =>
 brk (decide (y17.1.1 < (0 : Int)))
 (K .ret (laws_heldIntSS_x0_0 y17.1.1 (-1 : Int)))
 (iterG laws_heldIntSS_t0 laws_heldIntSS_B0 K n ((t0, (y17.1.1, (IntKind.i64.wrap (t5 + (1 : Int)), ()))), ()))))
 (K (.exit 0) (laws_heldIntSS_x0_1 t1)) := by kernel_rfl
theorem laws_heldIntSS_e0_0 (x0 : List (List Int)) (x1 : Int) (d0 : Int) (d1 : Int) : laws_heldIntSS_K0 x0 x1 .ret (laws_heldIntSS_x0_0 d0 d1) =
 some ((d1, ()), ((), ((), ()))) := by kernel_rfl
theorem laws_heldIntSS_e0_1 (x0 : List (List Int)) (x1 : Int) (d0 : Int) : laws_heldIntSS_K0 x0 x1 (.exit 0) (laws_heldIntSS_x0_1 d0) =
 some ((d0, ()), ((), ((), ()))) := by kernel_rfl
/-! laws.heldMeta -/
noncomputable def laws_heldMeta_b : Code := bd Tryz.f44
def laws_heldMeta_T : List (Nat × Tm) := []
noncomputable def laws_heldMeta_E : Env := ⟨tt0, [(43, laws_heldIntS_C), (47, laws_heldIntSS_C)]⟩
noncomputable def laws_heldMeta_F : PsD [.ro tMeta, .ro tI] → Option (RsD [.own tI] × PsO [.ro tMeta, .ro tI]) := fun x => evFn laws_heldMeta_E laws_heldMeta_T Tryz.f44 laws_heldMeta_b [.ro tMeta, .ro tI] [.own tI] x
@[reducible] noncomputable def laws_heldMeta_C : Ct := ⟨[.ro tMeta, .ro tI], [.own tI], laws_heldMeta_F⟩
theorem laws_heldMeta_h (x : PsD [.ro tMeta, .ro tI]) (y : RsD [.own tI] × PsO [.ro tMeta, .ro tI]) (h : laws_heldMeta_F x = some y) : evFn laws_heldMeta_E laws_heldMeta_T Tryz.f44 laws_heldMeta_b [.ro tMeta, .ro tI] [.own tI] x = some y := h
theorem laws_heldMeta_c : ∀ f c, get laws_heldMeta_E.ct f = some c → Sat Tryz.prog f c := ct_cons laws_heldIntS_S (ct_cons laws_heldIntSS_S (ct_nil))
theorem laws_heldMeta_S : Sat Tryz.prog 44 laws_heldMeta_C := fn_ok2 (envOk _) laws_heldMeta_c mixedOk Tryz.func44 (by kernel_rfl : Tryz.f44.body = some laws_heldMeta_b) (by kernel_rfl) (by kernel_rfl) laws_heldMeta_h
noncomputable def laws_heldMeta_Ke  (x0 : List Int × List (List Int) × Bool × Bool × Bool × Int × Unit) (x1 : Int) : Ex → AS → Option (RsD [.own tI] × PsO [.ro tMeta, .ro tI]) := endK laws_heldMeta_E Tryz.f44 [.ro tMeta, .ro tI] [.own tI] (initL [.ro tMeta, .ro tI] (x0, (x1, ())) 0).1
theorem laws_heldMeta_main (x0 : List Int × List (List Int) × Bool × Bool × Bool × Int × Unit) (x1 : Int) : laws_heldMeta_F (x0, (x1, ())) =
 (laws_heldIntS_F (x0.1, (x1, ()))).bind fun y8 =>
 brk (decide (y8.1.1 < (0 : Int)))
 (some (((-1 : Int), ()), ((), ((), ()))))
 ((laws_heldIntSS_F (x0.2.1, (y8.1.1, ()))).bind fun y14 =>
 brk (decide (y14.1.1 < (0 : Int)))
 (some (((-1 : Int), ()), ((), ((), ()))))
 (some ((y14.1.1, ()), ((), ((), ()))))) := by kernel_rfl
/-! laws.heldByteS -/
noncomputable def laws_heldByteS_b : Code := bd Tryz.f76
@[reducible] def laws_heldByteS_t0 : Tm := ⟨[], [], [(0, .sc true tYs), (1, .sc true tI), (5, .sc true tI)], [], [1, 4], []⟩
def laws_heldByteS_T : List (Nat × Tm) := [(0, laws_heldByteS_t0)]
noncomputable def laws_heldByteS_E : Env := ⟨tt0, []⟩
noncomputable def laws_heldByteS_F : PsD [.ro tYs, .ro tI] → Option (RsD [.own tI] × PsO [.ro tYs, .ro tI]) := fun x => evFn laws_heldByteS_E laws_heldByteS_T Tryz.f76 laws_heldByteS_b [.ro tYs, .ro tI] [.own tI] x
@[reducible] noncomputable def laws_heldByteS_C : Ct := ⟨[.ro tYs, .ro tI], [.own tI], laws_heldByteS_F⟩
theorem laws_heldByteS_h (x : PsD [.ro tYs, .ro tI]) (y : RsD [.own tI] × PsO [.ro tYs, .ro tI]) (h : laws_heldByteS_F x = some y) : evFn laws_heldByteS_E laws_heldByteS_T Tryz.f76 laws_heldByteS_b [.ro tYs, .ro tI] [.own tI] x = some y := h
theorem laws_heldByteS_c : ∀ f c, get laws_heldByteS_E.ct f = some c → Sat Tryz.prog f c := ct_nil
theorem laws_heldByteS_S : Sat Tryz.prog 76 laws_heldByteS_C := fn_ok2 (envOk _) laws_heldByteS_c mixedOk Tryz.func76 (by kernel_rfl : Tryz.f76.body = some laws_heldByteS_b) (by kernel_rfl) (by kernel_rfl) laws_heldByteS_h
noncomputable def laws_heldByteS_Ke  (x0 : List Int) (x1 : Int) : Ex → AS → Option (RsD [.own tI] × PsO [.ro tYs, .ro tI]) := endK laws_heldByteS_E Tryz.f76 [.ro tYs, .ro tI] [.own tI] (initL [.ro tYs, .ro tI] (x0, (x1, ())) 0).1
noncomputable def laws_heldByteS_B0 {R : Type} : AS → (Ex → AS → Option R) → Option R := fun A K => ev laws_heldByteS_E laws_heldByteS_T 0 (cA (cA (cB (cA (cB laws_heldByteS_b))))) A K
noncomputable def laws_heldByteS_K0  (x0 : List Int) (x1 : Int) : Ex → AS → Option (RsD [.own tI] × PsO [.ro tYs, .ro tI]) := kBlk 0 (kSeq (fun A K => ev laws_heldByteS_E laws_heldByteS_T 1000 (cB (cB laws_heldByteS_b)) A K) (laws_heldByteS_Ke x0 x1))
noncomputable def laws_heldByteS_x0_0 (d0 : Int) (d1 : Int) : AS := ⟨[(1, .v (.one (.d true tI d0))), (4, .v (.one (.d true tI d1)))], []⟩
noncomputable def laws_heldByteS_x0_1 (d0 : Int) : AS := ⟨[(1, .v (.one (.d true tI d0)))], []⟩
theorem laws_heldByteS_l0 {R : Type} {K : Ex → AS → Option R} {s : laws_heldByteS_t0.D} (n : Nat) {v : Option R} (h : iterG laws_heldByteS_t0 laws_heldByteS_B0 K n s = v) (hv : ∃ r, v = some r) : loopG laws_heldByteS_t0 laws_heldByteS_B0 K s = v := loop_eq (ev_mono _ _) n h hv
theorem laws_heldByteS_main (x0 : List Int) (x1 : Int) : laws_heldByteS_F (x0, (x1, ())) =
 loopG laws_heldByteS_t0 laws_heldByteS_B0 (laws_heldByteS_K0 x0 x1) ((x0, (x1, ((0 : Int), ()))), ()) := by kernel_rfl
theorem laws_heldByteS_r0 {R : Type} (K : Ex → AS → Option R) (n : Nat) (t0 : List Int) (t1 : Int) (t5 : Int) : iterG laws_heldByteS_t0 laws_heldByteS_B0 K (n + 1) ((t0, (t1, (t5, ()))), ()) =
 brk (decide (t5 < (t0.length : Int)))
 (ck (decide (0 ≤ t5) && decide (t5 < t0.length)) (brk (!decide (rdD tY t0 t5 = IntKind.u8.wrap t1))
 (K .ret (laws_heldByteS_x0_0 t1 (-1 : Int)))
 (iterG laws_heldByteS_t0 laws_heldByteS_B0 K n ((t0, (IntKind.i64.wrap (t1 + (1 : Int)), (IntKind.i64.wrap (t5 + (1 : Int)), ()))), ()))))
 (K (.exit 0) (laws_heldByteS_x0_1 t1)) := by kernel_rfl
theorem laws_heldByteS_e0_0 (x0 : List Int) (x1 : Int) (d0 : Int) (d1 : Int) : laws_heldByteS_K0 x0 x1 .ret (laws_heldByteS_x0_0 d0 d1) =
 some ((d1, ()), ((), ((), ()))) := by kernel_rfl
theorem laws_heldByteS_e0_1 (x0 : List Int) (x1 : Int) (d0 : Int) : laws_heldByteS_K0 x0 x1 (.exit 0) (laws_heldByteS_x0_1 d0) =
 some ((d0, ()), ((), ((), ()))) := by kernel_rfl
/-! laws.heldSlots -/
noncomputable def laws_heldSlots_b : Code := bd Tryz.f45
def laws_heldSlots_T : List (Nat × Tm) := []
noncomputable def laws_heldSlots_E : Env := ⟨tt0, [(76, laws_heldByteS_C)]⟩
noncomputable def laws_heldSlots_F : PsD [.ro tSlots, .ro tI] → Option (RsD [.own tI] × PsO [.ro tSlots, .ro tI]) := fun x => evFn laws_heldSlots_E laws_heldSlots_T Tryz.f45 laws_heldSlots_b [.ro tSlots, .ro tI] [.own tI] x
@[reducible] noncomputable def laws_heldSlots_C : Ct := ⟨[.ro tSlots, .ro tI], [.own tI], laws_heldSlots_F⟩
theorem laws_heldSlots_h (x : PsD [.ro tSlots, .ro tI]) (y : RsD [.own tI] × PsO [.ro tSlots, .ro tI]) (h : laws_heldSlots_F x = some y) : evFn laws_heldSlots_E laws_heldSlots_T Tryz.f45 laws_heldSlots_b [.ro tSlots, .ro tI] [.own tI] x = some y := h
theorem laws_heldSlots_c : ∀ f c, get laws_heldSlots_E.ct f = some c → Sat Tryz.prog f c := ct_cons laws_heldByteS_S (ct_nil)
theorem laws_heldSlots_S : Sat Tryz.prog 45 laws_heldSlots_C := fn_ok2 (envOk _) laws_heldSlots_c mixedOk Tryz.func45 (by kernel_rfl : Tryz.f45.body = some laws_heldSlots_b) (by kernel_rfl) (by kernel_rfl) laws_heldSlots_h
noncomputable def laws_heldSlots_Ke  (x0 : List Int × List Int × Unit) (x1 : Int) : Ex → AS → Option (RsD [.own tI] × PsO [.ro tSlots, .ro tI]) := endK laws_heldSlots_E Tryz.f45 [.ro tSlots, .ro tI] [.own tI] (initL [.ro tSlots, .ro tI] (x0, (x1, ())) 0).1
theorem laws_heldSlots_main (x0 : List Int × List Int × Unit) (x1 : Int) : laws_heldSlots_F (x0, (x1, ())) =
 (laws_heldByteS_F (x0.1, (x1, ()))).bind fun y8 =>
 brk (decide (y8.1.1 < (0 : Int)))
 (some (((-1 : Int), ()), ((), ((), ()))))
 ((laws_heldByteS_F (x0.2.1, (y8.1.1, ()))).bind fun y14 =>
 brk (decide (y14.1.1 < (0 : Int)))
 (some (((-1 : Int), ()), ((), ((), ()))))
 (some ((y14.1.1, ()), ((), ((), ()))))) := by kernel_rfl
/-! laws.heldBoolS -/
noncomputable def laws_heldBoolS_b : Code := bd Tryz.f46
@[reducible] def laws_heldBoolS_t0 : Tm := ⟨[], [], [(0, .sc true tBs), (1, .sc true tI), (5, .sc true tI)], [], [1, 4], []⟩
def laws_heldBoolS_T : List (Nat × Tm) := [(0, laws_heldBoolS_t0)]
noncomputable def laws_heldBoolS_E : Env := ⟨tt0, []⟩
noncomputable def laws_heldBoolS_F : PsD [.ro tBs, .ro tI] → Option (RsD [.own tI] × PsO [.ro tBs, .ro tI]) := fun x => evFn laws_heldBoolS_E laws_heldBoolS_T Tryz.f46 laws_heldBoolS_b [.ro tBs, .ro tI] [.own tI] x
@[reducible] noncomputable def laws_heldBoolS_C : Ct := ⟨[.ro tBs, .ro tI], [.own tI], laws_heldBoolS_F⟩
theorem laws_heldBoolS_h (x : PsD [.ro tBs, .ro tI]) (y : RsD [.own tI] × PsO [.ro tBs, .ro tI]) (h : laws_heldBoolS_F x = some y) : evFn laws_heldBoolS_E laws_heldBoolS_T Tryz.f46 laws_heldBoolS_b [.ro tBs, .ro tI] [.own tI] x = some y := h
theorem laws_heldBoolS_c : ∀ f c, get laws_heldBoolS_E.ct f = some c → Sat Tryz.prog f c := ct_nil
theorem laws_heldBoolS_S : Sat Tryz.prog 46 laws_heldBoolS_C := fn_ok2 (envOk _) laws_heldBoolS_c mixedOk Tryz.func46 (by kernel_rfl : Tryz.f46.body = some laws_heldBoolS_b) (by kernel_rfl) (by kernel_rfl) laws_heldBoolS_h
noncomputable def laws_heldBoolS_Ke  (x0 : List Bool) (x1 : Int) : Ex → AS → Option (RsD [.own tI] × PsO [.ro tBs, .ro tI]) := endK laws_heldBoolS_E Tryz.f46 [.ro tBs, .ro tI] [.own tI] (initL [.ro tBs, .ro tI] (x0, (x1, ())) 0).1
noncomputable def laws_heldBoolS_B0 {R : Type} : AS → (Ex → AS → Option R) → Option R := fun A K => ev laws_heldBoolS_E laws_heldBoolS_T 0 (cA (cA (cB (cA (cB laws_heldBoolS_b))))) A K
noncomputable def laws_heldBoolS_K0  (x0 : List Bool) (x1 : Int) : Ex → AS → Option (RsD [.own tI] × PsO [.ro tBs, .ro tI]) := kBlk 0 (kSeq (fun A K => ev laws_heldBoolS_E laws_heldBoolS_T 1000 (cB (cB laws_heldBoolS_b)) A K) (laws_heldBoolS_Ke x0 x1))
noncomputable def laws_heldBoolS_x0_0 (d0 : Int) (d1 : Int) : AS := ⟨[(1, .v (.one (.d true tI d0))), (4, .v (.one (.d true tI d1)))], []⟩
noncomputable def laws_heldBoolS_x0_1 (d0 : Int) : AS := ⟨[(1, .v (.one (.d true tI d0)))], []⟩
theorem laws_heldBoolS_l0 {R : Type} {K : Ex → AS → Option R} {s : laws_heldBoolS_t0.D} (n : Nat) {v : Option R} (h : iterG laws_heldBoolS_t0 laws_heldBoolS_B0 K n s = v) (hv : ∃ r, v = some r) : loopG laws_heldBoolS_t0 laws_heldBoolS_B0 K s = v := loop_eq (ev_mono _ _) n h hv
theorem laws_heldBoolS_main (x0 : List Bool) (x1 : Int) : laws_heldBoolS_F (x0, (x1, ())) =
 loopG laws_heldBoolS_t0 laws_heldBoolS_B0 (laws_heldBoolS_K0 x0 x1) ((x0, (x1, ((0 : Int), ()))), ()) := by kernel_rfl
theorem laws_heldBoolS_r0 {R : Type} (K : Ex → AS → Option R) (n : Nat) (t0 : List Bool) (t1 : Int) (t5 : Int) : iterG laws_heldBoolS_t0 laws_heldBoolS_B0 K (n + 1) ((t0, (t1, (t5, ()))), ()) =
 brk (decide (t5 < (t0.length : Int)))
 (ck (decide (0 ≤ t5) && decide (t5 < t0.length)) (brk (!((rdD tB t0 t5) == (decide (t1.tmod (3 : Int) = (0 : Int)))))
 (K .ret (laws_heldBoolS_x0_0 t1 (-1 : Int)))
 (iterG laws_heldBoolS_t0 laws_heldBoolS_B0 K n ((t0, (IntKind.i64.wrap (t1 + (1 : Int)), (IntKind.i64.wrap (t5 + (1 : Int)), ()))), ()))))
 (K (.exit 0) (laws_heldBoolS_x0_1 t1)) := by kernel_rfl
theorem laws_heldBoolS_e0_0 (x0 : List Bool) (x1 : Int) (d0 : Int) (d1 : Int) : laws_heldBoolS_K0 x0 x1 .ret (laws_heldBoolS_x0_0 d0 d1) =
 some ((d1, ()), ((), ((), ()))) := by kernel_rfl
theorem laws_heldBoolS_e0_1 (x0 : List Bool) (x1 : Int) (d0 : Int) : laws_heldBoolS_K0 x0 x1 (.exit 0) (laws_heldBoolS_x0_1 d0) =
 some ((d0, ()), ((), ((), ()))) := by kernel_rfl
/-! laws.heldNode -/
noncomputable def laws_heldNode_b : Code := bd Tryz.f12
def laws_heldNode_T : List (Nat × Tm) := []
noncomputable def laws_heldNode_E : Env := ⟨tt0, [(43, laws_heldIntS_C), (44, laws_heldMeta_C), (45, laws_heldSlots_C), (46, laws_heldBoolS_C), (47, laws_heldIntSS_C)]⟩
noncomputable def laws_heldNode_F : PsD [.ro tNode, .ro tI] → Option (RsD [.own tI] × PsO [.ro tNode, .ro tI]) := fun x => evFn laws_heldNode_E laws_heldNode_T Tryz.f12 laws_heldNode_b [.ro tNode, .ro tI] [.own tI] x
@[reducible] noncomputable def laws_heldNode_C : Ct := ⟨[.ro tNode, .ro tI], [.own tI], laws_heldNode_F⟩
theorem laws_heldNode_h (x : PsD [.ro tNode, .ro tI]) (y : RsD [.own tI] × PsO [.ro tNode, .ro tI]) (h : laws_heldNode_F x = some y) : evFn laws_heldNode_E laws_heldNode_T Tryz.f12 laws_heldNode_b [.ro tNode, .ro tI] [.own tI] x = some y := h
theorem laws_heldNode_c : ∀ f c, get laws_heldNode_E.ct f = some c → Sat Tryz.prog f c := ct_cons laws_heldIntS_S (ct_cons laws_heldMeta_S (ct_cons laws_heldSlots_S (ct_cons laws_heldBoolS_S (ct_cons laws_heldIntSS_S (ct_nil)))))
theorem laws_heldNode_S : Sat Tryz.prog 12 laws_heldNode_C := fn_ok2 (envOk _) laws_heldNode_c mixedOk Tryz.func12 (by kernel_rfl : Tryz.f12.body = some laws_heldNode_b) (by kernel_rfl) (by kernel_rfl) laws_heldNode_h
noncomputable def laws_heldNode_Ke  (x0 : Int × Bool × Bool × List Int × (List Int × List (List Int) × Bool × Bool × Bool × Int × Unit) × (List Int × List Int × Unit) × List Bool × List (List Int) × List Bool × List Int × Unit) (x1 : Int) : Ex → AS → Option (RsD [.own tI] × PsO [.ro tNode, .ro tI]) := endK laws_heldNode_E Tryz.f12 [.ro tNode, .ro tI] [.own tI] (initL [.ro tNode, .ro tI] (x0, (x1, ())) 0).1
theorem laws_heldNode_main (x0 : Int × Bool × Bool × List Int × (List Int × List (List Int) × Bool × Bool × Bool × Int × Unit) × (List Int × List Int × Unit) × List Bool × List (List Int) × List Bool × List Int × Unit) (x1 : Int) : laws_heldNode_F (x0, (x1, ())) =
 (laws_heldIntS_F (x0.2.2.2.1, (x1, ()))).bind fun y8 =>
 brk (decide (y8.1.1 < (0 : Int)))
 (some (((-1 : Int), ()), ((), ((), ()))))
 ((laws_heldMeta_F ((x0.2.2.2.2.1.1, (x0.2.2.2.2.1.2.1, (x0.2.2.2.2.1.2.2.1, (x0.2.2.2.2.1.2.2.2.1, (x0.2.2.2.2.1.2.2.2.2.1, (x0.2.2.2.2.1.2.2.2.2.2.1, ())))))), (y8.1.1, ()))).bind fun y14 =>
 brk (decide (y14.1.1 < (0 : Int)))
 (some (((-1 : Int), ()), ((), ((), ()))))
 ((laws_heldSlots_F ((x0.2.2.2.2.2.1.1, (x0.2.2.2.2.2.1.2.1, ())), (y14.1.1, ()))).bind fun y20 =>
 brk (decide (y20.1.1 < (0 : Int)))
 (some (((-1 : Int), ()), ((), ((), ()))))
 ((laws_heldBoolS_F (x0.2.2.2.2.2.2.1, (y20.1.1, ()))).bind fun y26 =>
 brk (decide (y26.1.1 < (0 : Int)))
 (some (((-1 : Int), ()), ((), ((), ()))))
 ((laws_heldIntSS_F (x0.2.2.2.2.2.2.2.1, (y26.1.1, ()))).bind fun y32 =>
 brk (decide (y32.1.1 < (0 : Int)))
 (some (((-1 : Int), ()), ((), ((), ()))))
 ((laws_heldBoolS_F (x0.2.2.2.2.2.2.2.2.1, (y32.1.1, ()))).bind fun y38 =>
 brk (decide (y38.1.1 < (0 : Int)))
 (some (((-1 : Int), ()), ((), ((), ()))))
 ((laws_heldIntS_F (x0.2.2.2.2.2.2.2.2.2.1, (y38.1.1, ()))).bind fun y44 =>
 brk (decide (y44.1.1 < (0 : Int)))
 (some (((-1 : Int), ()), ((), ((), ()))))
 (some ((y44.1.1, ()), ((), ((), ())))))))))) := by kernel_rfl
/-! laws.FnExactRise -/
noncomputable def laws_FnExactRise_b : Code := bd Tryz.f3
def laws_FnExactRise_T : List (Nat × Tm) := []
noncomputable def laws_FnExactRise_E : Env := ⟨tt0, [(6, laws_szNode_C), (7, spec_Rise_C), (8, laws_toNode_C), (9, impl_Rise_C), (10, laws_eqNode_C), (11, laws_markNode_C), (12, laws_heldNode_C)]⟩
noncomputable def laws_FnExactRise_F : PsD [.ro tNode] → Option (RsD [.own tB] × PsO [.ro tNode]) := fun x => evFn laws_FnExactRise_E laws_FnExactRise_T Tryz.f3 laws_FnExactRise_b [.ro tNode] [.own tB] x
@[reducible] noncomputable def laws_FnExactRise_C : Ct := ⟨[.ro tNode], [.own tB], laws_FnExactRise_F⟩
theorem laws_FnExactRise_h (x : PsD [.ro tNode]) (y : RsD [.own tB] × PsO [.ro tNode]) (h : laws_FnExactRise_F x = some y) : evFn laws_FnExactRise_E laws_FnExactRise_T Tryz.f3 laws_FnExactRise_b [.ro tNode] [.own tB] x = some y := h
theorem laws_FnExactRise_c : ∀ f c, get laws_FnExactRise_E.ct f = some c → Sat Tryz.prog f c := ct_cons laws_szNode_S (ct_cons spec_Rise_S (ct_cons laws_toNode_S (ct_cons impl_Rise_S (ct_cons laws_eqNode_S (ct_cons laws_markNode_S (ct_cons laws_heldNode_S (ct_nil)))))))
theorem laws_FnExactRise_S : Sat Tryz.prog 3 laws_FnExactRise_C := fn_ok2 (envOk _) laws_FnExactRise_c mixedOk Tryz.func3 (by kernel_rfl : Tryz.f3.body = some laws_FnExactRise_b) (by kernel_rfl) (by kernel_rfl) laws_FnExactRise_h
noncomputable def laws_FnExactRise_Ke  (x0 : Int × Bool × Bool × List Int × (List Int × List (List Int) × Bool × Bool × Bool × Int × Unit) × (List Int × List Int × Unit) × List Bool × List (List Int) × List Bool × List Int × Unit) : Ex → AS → Option (RsD [.own tB] × PsO [.ro tNode]) := endK laws_FnExactRise_E Tryz.f3 [.ro tNode] [.own tB] (initL [.ro tNode] (x0, ()) 0).1
theorem laws_FnExactRise_main (x0 : Int × Bool × Bool × List Int × (List Int × List (List Int) × Bool × Bool × Bool × Int × Unit) × (List Int × List Int × Unit) × List Bool × List (List Int) × List Bool × List Int × Unit) : laws_FnExactRise_F (x0, ()) =
 (laws_szNode_F ((x0.1, (x0.2.1, (x0.2.2.1, (x0.2.2.2.1, ((x0.2.2.2.2.1.1, (x0.2.2.2.2.1.2.1, (x0.2.2.2.2.1.2.2.1, (x0.2.2.2.2.1.2.2.2.1, (x0.2.2.2.2.1.2.2.2.2.1, (x0.2.2.2.2.1.2.2.2.2.2.1, ())))))), ((x0.2.2.2.2.2.1.1, (x0.2.2.2.2.2.1.2.1, ())), (x0.2.2.2.2.2.2.1, (x0.2.2.2.2.2.2.2.1, (x0.2.2.2.2.2.2.2.2.1, (x0.2.2.2.2.2.2.2.2.2.1, ())))))))))), ((1048576 : Int), ()))).bind fun y13 =>
 brk (decide (y13.1.1 < (0 : Int)))
 (some ((true, ()), ((), ())))
 ((laws_toNode_F ((x0.1, (x0.2.1, (x0.2.2.1, (x0.2.2.2.1, ((x0.2.2.2.2.1.1, (x0.2.2.2.2.1.2.1, (x0.2.2.2.2.1.2.2.1, (x0.2.2.2.2.1.2.2.2.1, (x0.2.2.2.2.1.2.2.2.2.1, (x0.2.2.2.2.1.2.2.2.2.2.1, ())))))), ((x0.2.2.2.2.2.1.1, (x0.2.2.2.2.2.1.2.1, ())), (x0.2.2.2.2.2.2.1, (x0.2.2.2.2.2.2.2.1, (x0.2.2.2.2.2.2.2.2.1, (x0.2.2.2.2.2.2.2.2.2.1, ())))))))))), ())).bind fun y17 =>
 (spec_Rise_F ((y17.1.1.1, (y17.1.1.2.1, (y17.1.1.2.2.1, (y17.1.1.2.2.2.1, ((y17.1.1.2.2.2.2.1.1, (y17.1.1.2.2.2.2.1.2.1, (y17.1.1.2.2.2.2.1.2.2.1, (y17.1.1.2.2.2.2.1.2.2.2.1, (y17.1.1.2.2.2.2.1.2.2.2.2.1, (y17.1.1.2.2.2.2.1.2.2.2.2.2.1, ())))))), ((y17.1.1.2.2.2.2.2.1.1, (y17.1.1.2.2.2.2.2.1.2.1, ())), (y17.1.1.2.2.2.2.2.2.1, (y17.1.1.2.2.2.2.2.2.2.1, (y17.1.1.2.2.2.2.2.2.2.2.1, (y17.1.1.2.2.2.2.2.2.2.2.2.1, ())))))))))), ())).bind fun y18 =>
 (laws_toNode_F ((x0.1, (x0.2.1, (x0.2.2.1, (x0.2.2.2.1, ((x0.2.2.2.2.1.1, (x0.2.2.2.2.1.2.1, (x0.2.2.2.2.1.2.2.1, (x0.2.2.2.2.1.2.2.2.1, (x0.2.2.2.2.1.2.2.2.2.1, (x0.2.2.2.2.1.2.2.2.2.2.1, ())))))), ((x0.2.2.2.2.2.1.1, (x0.2.2.2.2.2.1.2.1, ())), (x0.2.2.2.2.2.2.1, (x0.2.2.2.2.2.2.2.1, (x0.2.2.2.2.2.2.2.2.1, (x0.2.2.2.2.2.2.2.2.2.1, ())))))))))), ())).bind fun y20 =>
 (impl_Rise_F ((y20.1.1.1, (y20.1.1.2.1, (y20.1.1.2.2.1, (y20.1.1.2.2.2.1, ((y20.1.1.2.2.2.2.1.1, (y20.1.1.2.2.2.2.1.2.1, (y20.1.1.2.2.2.2.1.2.2.1, (y20.1.1.2.2.2.2.1.2.2.2.1, (y20.1.1.2.2.2.2.1.2.2.2.2.1, (y20.1.1.2.2.2.2.1.2.2.2.2.2.1, ())))))), ((y20.1.1.2.2.2.2.2.1.1, (y20.1.1.2.2.2.2.2.1.2.1, ())), (y20.1.1.2.2.2.2.2.2.1, (y20.1.1.2.2.2.2.2.2.2.1, (y20.1.1.2.2.2.2.2.2.2.2.1, (y20.1.1.2.2.2.2.2.2.2.2.2.1, ())))))))))), ())).bind fun y22 =>
 (laws_eqNode_F ((y22.1.1.1, (y22.1.1.2.1, (y22.1.1.2.2.1, (y22.1.1.2.2.2.1, ((y22.1.1.2.2.2.2.1.1, (y22.1.1.2.2.2.2.1.2.1, (y22.1.1.2.2.2.2.1.2.2.1, (y22.1.1.2.2.2.2.1.2.2.2.1, (y22.1.1.2.2.2.2.1.2.2.2.2.1, (y22.1.1.2.2.2.2.1.2.2.2.2.2.1, ())))))), ((y22.1.1.2.2.2.2.2.1.1, (y22.1.1.2.2.2.2.2.1.2.1, ())), (y22.1.1.2.2.2.2.2.2.1, (y22.1.1.2.2.2.2.2.2.2.1, (y22.1.1.2.2.2.2.2.2.2.2.1, (y22.1.1.2.2.2.2.2.2.2.2.2.1, ())))))))))), ((y18.1.1.1, (y18.1.1.2.1, (y18.1.1.2.2.1, (y18.1.1.2.2.2.1, ((y18.1.1.2.2.2.2.1.1, (y18.1.1.2.2.2.2.1.2.1, (y18.1.1.2.2.2.2.1.2.2.1, (y18.1.1.2.2.2.2.1.2.2.2.1, (y18.1.1.2.2.2.2.1.2.2.2.2.1, (y18.1.1.2.2.2.2.1.2.2.2.2.2.1, ())))))), ((y18.1.1.2.2.2.2.2.1.1, (y18.1.1.2.2.2.2.2.1.2.1, ())), (y18.1.1.2.2.2.2.2.2.1, (y18.1.1.2.2.2.2.2.2.2.1, (y18.1.1.2.2.2.2.2.2.2.2.1, (y18.1.1.2.2.2.2.2.2.2.2.2.1, ())))))))))), ()))).bind fun y25 =>
 brk (!y25.1.1)
 (some ((false, ()), ((), ())))
 ((laws_toNode_F ((x0.1, (x0.2.1, (x0.2.2.1, (x0.2.2.2.1, ((x0.2.2.2.2.1.1, (x0.2.2.2.2.1.2.1, (x0.2.2.2.2.1.2.2.1, (x0.2.2.2.2.1.2.2.2.1, (x0.2.2.2.2.1.2.2.2.2.1, (x0.2.2.2.2.1.2.2.2.2.2.1, ())))))), ((x0.2.2.2.2.2.1.1, (x0.2.2.2.2.2.1.2.1, ())), (x0.2.2.2.2.2.2.1, (x0.2.2.2.2.2.2.2.1, (x0.2.2.2.2.2.2.2.2.1, (x0.2.2.2.2.2.2.2.2.2.1, ())))))))))), ())).bind fun y29 =>
 (laws_eqNode_F ((y20.1.1.1, (y20.1.1.2.1, (y20.1.1.2.2.1, (y20.1.1.2.2.2.1, ((y20.1.1.2.2.2.2.1.1, (y20.1.1.2.2.2.2.1.2.1, (y20.1.1.2.2.2.2.1.2.2.1, (y20.1.1.2.2.2.2.1.2.2.2.1, (y20.1.1.2.2.2.2.1.2.2.2.2.1, (y20.1.1.2.2.2.2.1.2.2.2.2.2.1, ())))))), ((y20.1.1.2.2.2.2.2.1.1, (y20.1.1.2.2.2.2.2.1.2.1, ())), (y20.1.1.2.2.2.2.2.2.1, (y20.1.1.2.2.2.2.2.2.2.1, (y20.1.1.2.2.2.2.2.2.2.2.1, (y20.1.1.2.2.2.2.2.2.2.2.2.1, ())))))))))), ((y29.1.1.1, (y29.1.1.2.1, (y29.1.1.2.2.1, (y29.1.1.2.2.2.1, ((y29.1.1.2.2.2.2.1.1, (y29.1.1.2.2.2.2.1.2.1, (y29.1.1.2.2.2.2.1.2.2.1, (y29.1.1.2.2.2.2.1.2.2.2.1, (y29.1.1.2.2.2.2.1.2.2.2.2.1, (y29.1.1.2.2.2.2.1.2.2.2.2.2.1, ())))))), ((y29.1.1.2.2.2.2.2.1.1, (y29.1.1.2.2.2.2.2.1.2.1, ())), (y29.1.1.2.2.2.2.2.2.1, (y29.1.1.2.2.2.2.2.2.2.1, (y29.1.1.2.2.2.2.2.2.2.2.1, (y29.1.1.2.2.2.2.2.2.2.2.2.1, ())))))))))), ()))).bind fun y30 =>
 brk (!y30.1.1)
 (some ((false, ()), ((), ())))
 ((laws_markNode_F ((y20.1.1.1, (y20.1.1.2.1, (y20.1.1.2.2.1, (y20.1.1.2.2.2.1, ((y20.1.1.2.2.2.2.1.1, (y20.1.1.2.2.2.2.1.2.1, (y20.1.1.2.2.2.2.1.2.2.1, (y20.1.1.2.2.2.2.1.2.2.2.1, (y20.1.1.2.2.2.2.1.2.2.2.2.1, (y20.1.1.2.2.2.2.1.2.2.2.2.2.1, ())))))), ((y20.1.1.2.2.2.2.2.1.1, (y20.1.1.2.2.2.2.2.1.2.1, ())), (y20.1.1.2.2.2.2.2.2.1, (y20.1.1.2.2.2.2.2.2.2.1, (y20.1.1.2.2.2.2.2.2.2.2.1, (y20.1.1.2.2.2.2.2.2.2.2.2.1, ())))))))))), ((1 : Int), ()))).bind fun y34 =>
 brk (decide (y34.1.1 < (0 : Int)))
 (some ((false, ()), ((), ())))
 ((laws_eqNode_F ((y22.1.1.1, (y22.1.1.2.1, (y22.1.1.2.2.1, (y22.1.1.2.2.2.1, ((y22.1.1.2.2.2.2.1.1, (y22.1.1.2.2.2.2.1.2.1, (y22.1.1.2.2.2.2.1.2.2.1, (y22.1.1.2.2.2.2.1.2.2.2.1, (y22.1.1.2.2.2.2.1.2.2.2.2.1, (y22.1.1.2.2.2.2.1.2.2.2.2.2.1, ())))))), ((y22.1.1.2.2.2.2.2.1.1, (y22.1.1.2.2.2.2.2.1.2.1, ())), (y22.1.1.2.2.2.2.2.2.1, (y22.1.1.2.2.2.2.2.2.2.1, (y22.1.1.2.2.2.2.2.2.2.2.1, (y22.1.1.2.2.2.2.2.2.2.2.2.1, ())))))))))), ((y18.1.1.1, (y18.1.1.2.1, (y18.1.1.2.2.1, (y18.1.1.2.2.2.1, ((y18.1.1.2.2.2.2.1.1, (y18.1.1.2.2.2.2.1.2.1, (y18.1.1.2.2.2.2.1.2.2.1, (y18.1.1.2.2.2.2.1.2.2.2.1, (y18.1.1.2.2.2.2.1.2.2.2.2.1, (y18.1.1.2.2.2.2.1.2.2.2.2.2.1, ())))))), ((y18.1.1.2.2.2.2.2.1.1, (y18.1.1.2.2.2.2.2.1.2.1, ())), (y18.1.1.2.2.2.2.2.2.1, (y18.1.1.2.2.2.2.2.2.2.1, (y18.1.1.2.2.2.2.2.2.2.2.1, (y18.1.1.2.2.2.2.2.2.2.2.2.1, ())))))))))), ()))).bind fun y40 =>
 brk (!y40.1.1)
 (some ((false, ()), ((), ())))
 ((laws_markNode_F ((y22.1.1.1, (y22.1.1.2.1, (y22.1.1.2.2.1, (y22.1.1.2.2.2.1, ((y22.1.1.2.2.2.2.1.1, (y22.1.1.2.2.2.2.1.2.1, (y22.1.1.2.2.2.2.1.2.2.1, (y22.1.1.2.2.2.2.1.2.2.2.1, (y22.1.1.2.2.2.2.1.2.2.2.2.1, (y22.1.1.2.2.2.2.1.2.2.2.2.2.1, ())))))), ((y22.1.1.2.2.2.2.2.1.1, (y22.1.1.2.2.2.2.2.1.2.1, ())), (y22.1.1.2.2.2.2.2.2.1, (y22.1.1.2.2.2.2.2.2.2.1, (y22.1.1.2.2.2.2.2.2.2.2.1, (y22.1.1.2.2.2.2.2.2.2.2.2.1, ())))))))))), ((1 : Int), ()))).bind fun y45 =>
 (laws_heldNode_F ((y22.1.1.1, (y22.1.1.2.1, (y22.1.1.2.2.1, (y45.2.1.2.2.2.1, ((y45.2.1.2.2.2.2.1.1, (y45.2.1.2.2.2.2.1.2.1, (y22.1.1.2.2.2.2.1.2.2.1, (y22.1.1.2.2.2.2.1.2.2.2.1, (y22.1.1.2.2.2.2.1.2.2.2.2.1, (y22.1.1.2.2.2.2.1.2.2.2.2.2.1, ())))))), ((y45.2.1.2.2.2.2.2.1.1, (y45.2.1.2.2.2.2.2.1.2.1, ())), (y45.2.1.2.2.2.2.2.2.1, (y45.2.1.2.2.2.2.2.2.2.1, (y45.2.1.2.2.2.2.2.2.2.2.1, (y45.2.1.2.2.2.2.2.2.2.2.2.1, ())))))))))), ((1 : Int), ()))).bind fun y48 =>
 brk (decide (y48.1.1 < (0 : Int)))
 (some ((false, ()), ((), ())))
 (brk (!decide (y48.1.1 = y45.1.1))
 (some ((false, ()), ((), ())))
 ((laws_toNode_F ((x0.1, (x0.2.1, (x0.2.2.1, (x0.2.2.2.1, ((x0.2.2.2.2.1.1, (x0.2.2.2.2.1.2.1, (x0.2.2.2.2.1.2.2.1, (x0.2.2.2.2.1.2.2.2.1, (x0.2.2.2.2.1.2.2.2.2.1, (x0.2.2.2.2.1.2.2.2.2.2.1, ())))))), ((x0.2.2.2.2.2.1.1, (x0.2.2.2.2.2.1.2.1, ())), (x0.2.2.2.2.2.2.1, (x0.2.2.2.2.2.2.2.1, (x0.2.2.2.2.2.2.2.2.1, (x0.2.2.2.2.2.2.2.2.2.1, ())))))))))), ())).bind fun y55 =>
 (impl_Rise_F ((y55.1.1.1, (y55.1.1.2.1, (y55.1.1.2.2.1, (y55.1.1.2.2.2.1, ((y55.1.1.2.2.2.2.1.1, (y55.1.1.2.2.2.2.1.2.1, (y55.1.1.2.2.2.2.1.2.2.1, (y55.1.1.2.2.2.2.1.2.2.2.1, (y55.1.1.2.2.2.2.1.2.2.2.2.1, (y55.1.1.2.2.2.2.1.2.2.2.2.2.1, ())))))), ((y55.1.1.2.2.2.2.2.1.1, (y55.1.1.2.2.2.2.2.1.2.1, ())), (y55.1.1.2.2.2.2.2.2.1, (y55.1.1.2.2.2.2.2.2.2.1, (y55.1.1.2.2.2.2.2.2.2.2.1, (y55.1.1.2.2.2.2.2.2.2.2.2.1, ())))))))))), ())).bind fun y56 =>
 (laws_eqNode_F ((y56.1.1.1, (y56.1.1.2.1, (y56.1.1.2.2.1, (y56.1.1.2.2.2.1, ((y56.1.1.2.2.2.2.1.1, (y56.1.1.2.2.2.2.1.2.1, (y56.1.1.2.2.2.2.1.2.2.1, (y56.1.1.2.2.2.2.1.2.2.2.1, (y56.1.1.2.2.2.2.1.2.2.2.2.1, (y56.1.1.2.2.2.2.1.2.2.2.2.2.1, ())))))), ((y56.1.1.2.2.2.2.2.1.1, (y56.1.1.2.2.2.2.2.1.2.1, ())), (y56.1.1.2.2.2.2.2.2.1, (y56.1.1.2.2.2.2.2.2.2.1, (y56.1.1.2.2.2.2.2.2.2.2.1, (y56.1.1.2.2.2.2.2.2.2.2.2.1, ())))))))))), ((y18.1.1.1, (y18.1.1.2.1, (y18.1.1.2.2.1, (y18.1.1.2.2.2.1, ((y18.1.1.2.2.2.2.1.1, (y18.1.1.2.2.2.2.1.2.1, (y18.1.1.2.2.2.2.1.2.2.1, (y18.1.1.2.2.2.2.1.2.2.2.1, (y18.1.1.2.2.2.2.1.2.2.2.2.1, (y18.1.1.2.2.2.2.1.2.2.2.2.2.1, ())))))), ((y18.1.1.2.2.2.2.2.1.1, (y18.1.1.2.2.2.2.2.1.2.1, ())), (y18.1.1.2.2.2.2.2.2.1, (y18.1.1.2.2.2.2.2.2.2.1, (y18.1.1.2.2.2.2.2.2.2.2.1, (y18.1.1.2.2.2.2.2.2.2.2.2.1, ())))))))))), ()))).bind fun y59 =>
 brk (!y59.1.1)
 (some ((false, ()), ((), ())))
 ((laws_heldNode_F ((y22.1.1.1, (y22.1.1.2.1, (y22.1.1.2.2.1, (y45.2.1.2.2.2.1, ((y45.2.1.2.2.2.2.1.1, (y45.2.1.2.2.2.2.1.2.1, (y22.1.1.2.2.2.2.1.2.2.1, (y22.1.1.2.2.2.2.1.2.2.2.1, (y22.1.1.2.2.2.2.1.2.2.2.2.1, (y22.1.1.2.2.2.2.1.2.2.2.2.2.1, ())))))), ((y45.2.1.2.2.2.2.2.1.1, (y45.2.1.2.2.2.2.2.1.2.1, ())), (y45.2.1.2.2.2.2.2.2.1, (y45.2.1.2.2.2.2.2.2.2.1, (y45.2.1.2.2.2.2.2.2.2.2.1, (y45.2.1.2.2.2.2.2.2.2.2.2.1, ())))))))))), ((1 : Int), ()))).bind fun y63 =>
 brk (decide (y63.1.1 < (0 : Int)))
 (some ((false, ()), ((), ())))
 (brk (!decide (y63.1.1 = y45.1.1))
 (some ((false, ()), ((), ())))
 (some ((true, ()), ((), ())))))))))))) := by kernel_rfl
end Go.Refl
