/- Functions of the program, told by the evaluator: printed by a program of this claim. No condition. -/
import Derived.Test.YtbhonnfinekpcaaGreatFnExactFallGf
namespace Go.Refl
open Go.RowKit Go.Proofs
set_option linter.unusedVariables false
set_option maxRecDepth 100000
/-! impl.MetaBytes -/
noncomputable def impl_MetaBytes_b : Code := bd Tryz.f115
@[reducible] def impl_MetaBytes_t0 : Tm := ⟨[(3, 960000)], [], [(1, .ptr 16 0), (3, .own 960000), (13, .sc true tIss), (14, .sc true tI), (15, .sc true tI)], [(16, .box [.sc true tIs, .sc true tIss, .sc true tB, .sc true tB, .sc true tB, .sc true tI]), (960000, .arr 5 tY)], [1, 3], [16, 960000]⟩
def impl_MetaBytes_T : List (Nat × Tm) := [(0, impl_MetaBytes_t0)]
noncomputable def impl_MetaBytes_E : Env := ⟨tt0, [(69, impl_MetaOk_C), (119, impl_putList_C), (120, impl_putNums_C), (121, impl_flag_C)]⟩
noncomputable def impl_MetaBytes_F : PsD [.ro tMeta] → Option (RsD [.own tYs] × PsO [.ro tMeta]) := fun x => evFn impl_MetaBytes_E impl_MetaBytes_T Tryz.f115 impl_MetaBytes_b [.ro tMeta] [.own tYs] x
@[reducible] noncomputable def impl_MetaBytes_C : Ct := ⟨[.ro tMeta], [.own tYs], impl_MetaBytes_F⟩
theorem impl_MetaBytes_h (x : PsD [.ro tMeta]) (y : RsD [.own tYs] × PsO [.ro tMeta]) (h : impl_MetaBytes_F x = some y) : evFn impl_MetaBytes_E impl_MetaBytes_T Tryz.f115 impl_MetaBytes_b [.ro tMeta] [.own tYs] x = some y := h
theorem impl_MetaBytes_c : ∀ f c, get impl_MetaBytes_E.ct f = some c → Sat Tryz.prog f c := ct_cons impl_MetaOk_S (ct_cons impl_putList_S (ct_cons impl_putNums_S (ct_cons impl_flag_S (ct_nil))))
theorem impl_MetaBytes_S : Sat Tryz.prog 115 impl_MetaBytes_C := fn_ok2 (envOk _) impl_MetaBytes_c mixedOk Tryz.func115 (by kernel_rfl : Tryz.f115.body = some impl_MetaBytes_b) (by kernel_rfl) (by kernel_rfl) impl_MetaBytes_h
noncomputable def impl_MetaBytes_Ke  (x0 : List Int × List (List Int) × Bool × Bool × Bool × Int × Unit) : Ex → AS → Option (RsD [.own tYs] × PsO [.ro tMeta]) := endK impl_MetaBytes_E Tryz.f115 [.ro tMeta] [.own tYs] (initL [.ro tMeta] (x0, ()) 0).1
noncomputable def impl_MetaBytes_B0 {R : Type} : AS → (Ex → AS → Option R) → Option R := fun A K => ev impl_MetaBytes_E impl_MetaBytes_T 0 (cA (cA (cB (cA (cB (cB (cB impl_MetaBytes_b))))))) A K
noncomputable def impl_MetaBytes_K0  (x0 : List Int × List (List Int) × Bool × Bool × Bool × Int × Unit) : Ex → AS → Option (RsD [.own tYs] × PsO [.ro tMeta]) := kBlk 0 (kSeq (fun A K => ev impl_MetaBytes_E impl_MetaBytes_T 1000 (cB (cB (cB (cB impl_MetaBytes_b)))) A K) (impl_MetaBytes_Ke x0))
noncomputable def impl_MetaBytes_x0_0 (d0 : List Int) (d1 : List (List Int)) (d2 : Bool) (d3 : Bool) (d4 : Bool) (d5 : Int) (d6 : List Int) : AS := ⟨[(1, .v (.one (.bptr 16 0))), (3, .v (.one (.own 960000)))], [(16, .box [.d true tIs d0, .d true tIss d1, .d true tB d2, .d true tB d3, .d true tB d4, .d true tI d5]), (960000, .arr 5 tY d6)]⟩
theorem impl_MetaBytes_l0 {R : Type} {K : Ex → AS → Option R} {s : impl_MetaBytes_t0.D} (n : Nat) {v : Option R} (h : iterG impl_MetaBytes_t0 impl_MetaBytes_B0 K n s = v) (hv : ∃ r, v = some r) : loopG impl_MetaBytes_t0 impl_MetaBytes_B0 K s = v := loop_eq (ev_mono _ _) n h hv
theorem impl_MetaBytes_main (x0 : List Int × List (List Int) × Bool × Bool × Bool × Int × Unit) : impl_MetaBytes_F (x0, ()) =
 (impl_MetaOk_F ((x0.1, (x0.2.1, (x0.2.2.1, (x0.2.2.2.1, (x0.2.2.2.2.1, (x0.2.2.2.2.2.1, ())))))), ())).bind fun y7 =>
 brk (!y7.1.1)
 (some ((([] : List Int), ()), ((), ())))
 ((impl_putList_F (x0.1, ())).bind fun y11 =>
 loopG impl_MetaBytes_t0 impl_MetaBytes_B0 (impl_MetaBytes_K0 x0) ((x0.2.1, ((x0.2.1.length : Int), ((0 : Int), ()))), ((x0.1, (x0.2.1, (x0.2.2.1, (x0.2.2.2.1, (x0.2.2.2.2.1, (x0.2.2.2.2.2.1, ())))))), (y11.1.1, ())))) := by kernel_rfl
theorem impl_MetaBytes_r0 {R : Type} (K : Ex → AS → Option R) (n : Nat) (t13 : List (List Int)) (t14 : Int) (t15 : Int) (b16_0 : List Int) (b16_1 : List (List Int)) (b16_2 : Bool) (b16_3 : Bool) (b16_4 : Bool) (b16_5 : Int) (a960000 : List Int) : iterG impl_MetaBytes_t0 impl_MetaBytes_B0 K (n + 1) ((t13, (t14, (t15, ()))), ((b16_0, (b16_1, (b16_2, (b16_3, (b16_4, (b16_5, ())))))), (a960000, ()))) =
 brk (decide (t15 < t14))
 (ck (decide (0 ≤ t15) && decide (t15 < t13.length)) ((impl_putList_F (rdD tIs t13 t15, ())).bind fun y21 =>
 ck (decide ((a960000.length + y21.1.1.length) * 1 ≤ big47)) (iterG impl_MetaBytes_t0 impl_MetaBytes_B0 K n ((t13, (t14, (IntKind.i64.wrap (t15 + (1 : Int)), ()))), ((b16_0, (b16_1, (b16_2, (b16_3, (b16_4, (b16_5, ())))))), (a960000 ++ y21.1.1, ()))))))
 (K (.exit 0) (impl_MetaBytes_x0_0 b16_0 b16_1 b16_2 b16_3 b16_4 b16_5 a960000)) := by kernel_rfl
theorem impl_MetaBytes_e0_0 (x0 : List Int × List (List Int) × Bool × Bool × Bool × Int × Unit) (d0 : List Int) (d1 : List (List Int)) (d2 : Bool) (d3 : Bool) (d4 : Bool) (d5 : Int) (d6 : List Int) : impl_MetaBytes_K0 x0 (.exit 0) (impl_MetaBytes_x0_0 d0 d1 d2 d3 d4 d5 d6) =
 (impl_flag_F (d2, ((1 : Int), ()))).bind fun y27 =>
 (impl_flag_F (d3, ((2 : Int), ()))).bind fun y30 =>
 (impl_flag_F (d4, ((4 : Int), ()))).bind fun y34 =>
 (impl_putNums_F ([IntKind.i64.wrap ((IntKind.i64.wrap (y27.1.1 + y30.1.1)) + y34.1.1), d5], ())).bind fun y39 =>
 ck (decide ((d6.length + y39.1.1.length) * 1 ≤ big47)) (some ((d6 ++ y39.1.1, ()), ((), ()))) := by kernel_rfl
/-! impl.MetaOf -/
noncomputable def impl_MetaOf_b : Code := bd Tryz.f105
@[reducible] def impl_MetaOf_t0 : Tm := ⟨[], [(80, 1, 960000)], [(0, .sc true tYs), (2, .ptr 32 0), (4, .ptr 176 0), (5, .ptr 80 0), (16, .sc true tI)], [(32, .box [.nil, .nil, .sc true tB, .sc true tB, .sc true tB, .sc true tI]), (80, .box [.own 224, .own 960000, .sc true tB, .sc true tB, .sc true tB, .sc true tI]), (176, .box [.sc true tYs, .sc true tI, .sc true tB]), (224, .arr 3 tI), (960000, .arr 22 tIs)], [0, 2, 4, 5, 52, 53, 54, 57, 58, 59, 60], [32, 80, 176, 224, 960000]⟩
def impl_MetaOf_T : List (Nat × Tm) := [(0, impl_MetaOf_t0)]
noncomputable def impl_MetaOf_E : Env := ⟨tt0, [(106, bytes_Equal_C), (113, impl_reader_list_C), (114, impl_reader_num_C), (115, impl_MetaBytes_C)]⟩
noncomputable def impl_MetaOf_F : PsD [.ro tYs] → Option (RsD [.own tMeta, .own tB] × PsO [.ro tYs]) := fun x => evFn impl_MetaOf_E impl_MetaOf_T Tryz.f105 impl_MetaOf_b [.ro tYs] [.own tMeta, .own tB] x
@[reducible] noncomputable def impl_MetaOf_C : Ct := ⟨[.ro tYs], [.own tMeta, .own tB], impl_MetaOf_F⟩
theorem impl_MetaOf_h (x : PsD [.ro tYs]) (y : RsD [.own tMeta, .own tB] × PsO [.ro tYs]) (h : impl_MetaOf_F x = some y) : evFn impl_MetaOf_E impl_MetaOf_T Tryz.f105 impl_MetaOf_b [.ro tYs] [.own tMeta, .own tB] x = some y := h
theorem impl_MetaOf_c : ∀ f c, get impl_MetaOf_E.ct f = some c → Sat Tryz.prog f c := ct_cons bytes_Equal_S (ct_cons impl_reader_list_S (ct_cons impl_reader_num_S (ct_cons impl_MetaBytes_S (ct_nil))))
theorem impl_MetaOf_S : Sat Tryz.prog 105 impl_MetaOf_C := fn_ok2 (envOk _) impl_MetaOf_c mixedOk Tryz.func105 (by kernel_rfl : Tryz.f105.body = some impl_MetaOf_b) (by kernel_rfl) (by kernel_rfl) impl_MetaOf_h
noncomputable def impl_MetaOf_Ke  (x0 : List Int) : Ex → AS → Option (RsD [.own tMeta, .own tB] × PsO [.ro tYs]) := endK impl_MetaOf_E Tryz.f105 [.ro tYs] [.own tMeta, .own tB] (initL [.ro tYs] (x0, ()) 0).1
noncomputable def impl_MetaOf_B0 {R : Type} : AS → (Ex → AS → Option R) → Option R := fun A K => ev impl_MetaOf_E impl_MetaOf_T 0 (cA (cA (cB (cA (cB (cB (cB (cB impl_MetaOf_b)))))))) A K
noncomputable def impl_MetaOf_K0  (x0 : List Int) : Ex → AS → Option (RsD [.own tMeta, .own tB] × PsO [.ro tYs]) := kBlk 0 (kSeq (fun A K => ev impl_MetaOf_E impl_MetaOf_T 1000 (cB (cB (cB (cB (cB impl_MetaOf_b))))) A K) (impl_MetaOf_Ke x0))
noncomputable def impl_MetaOf_x0_0 (d0 : List Int) (d1 : Bool) (d2 : Bool) (d3 : Bool) (d4 : Int) (d5 : Bool) (d6 : Bool) (d7 : Bool) (d8 : Int) (d9 : List Int) (d10 : Int) (d11 : Bool) (d12 : List Int) (d13 : List (List Int)) : AS := ⟨[(0, .v (.one (.d true tYs d0))), (2, .v (.one (.bptr 32 0))), (4, .v (.one (.bptr 176 0))), (5, .v (.one (.bptr 80 0)))], [(32, .box [.nil, .nil, .d true tB d1, .d true tB d2, .d true tB d3, .d true tI d4]), (80, .box [.own 224, .own 960000, .d true tB d5, .d true tB d6, .d true tB d7, .d true tI d8]), (176, .box [.d true tYs d9, .d true tI d10, .d true tB d11]), (224, .arr 3 tI d12), (960000, .arr 22 tIs d13)]⟩
theorem impl_MetaOf_l0 {R : Type} {K : Ex → AS → Option R} {s : impl_MetaOf_t0.D} (n : Nat) {v : Option R} (h : iterG impl_MetaOf_t0 impl_MetaOf_B0 K n s = v) (hv : ∃ r, v = some r) : loopG impl_MetaOf_t0 impl_MetaOf_B0 K s = v := loop_eq (ev_mono _ _) n h hv
theorem impl_MetaOf_main (x0 : List Int) : impl_MetaOf_F (x0, ()) =
 (impl_reader_list_F ((x0, ((0 : Int), (true, ()))), ())).bind fun y14 =>
 loopG impl_MetaOf_t0 impl_MetaOf_B0 (impl_MetaOf_K0 x0) ((x0, ((0 : Int), ())), ((false, (false, (false, ((0 : Int), ())))), ((false, (false, (false, ((0 : Int), ())))), ((y14.2.1.1, (y14.2.1.2.1, (y14.2.1.2.2.1, ()))), (y14.1.1, (([] : List (List Int)), ())))))) := by kernel_rfl
theorem impl_MetaOf_r0 {R : Type} (K : Ex → AS → Option R) (n : Nat) (t0 : List Int) (t16 : Int) (b32_2 : Bool) (b32_3 : Bool) (b32_4 : Bool) (b32_5 : Int) (b80_2 : Bool) (b80_3 : Bool) (b80_4 : Bool) (b80_5 : Int) (b176_0 : List Int) (b176_1 : Int) (b176_2 : Bool) (a224 : List Int) (a960000 : List (List Int)) : iterG impl_MetaOf_t0 impl_MetaOf_B0 K (n + 1) ((t0, (t16, ())), ((b32_2, (b32_3, (b32_4, (b32_5, ())))), ((b80_2, (b80_3, (b80_4, (b80_5, ())))), ((b176_0, (b176_1, (b176_2, ()))), (a224, (a960000, ())))))) =
 brk (decide (t16 < (3 : Int)))
 ((impl_reader_list_F ((b176_0, (b176_1, (b176_2, ()))), ())).bind fun y19 =>
 ck (decide ((a960000.length + [y19.1.1].length) * 24 ≤ big47)) (iterG impl_MetaOf_t0 impl_MetaOf_B0 K n ((t0, (IntKind.i64.wrap (t16 + (1 : Int)), ())), ((b32_2, (b32_3, (b32_4, (b32_5, ())))), ((b80_2, (b80_3, (b80_4, (b80_5, ())))), ((y19.2.1.1, (y19.2.1.2.1, (y19.2.1.2.2.1, ()))), (a224, (a960000 ++ [y19.1.1], ()))))))))
 (K (.exit 0) (impl_MetaOf_x0_0 t0 b32_2 b32_3 b32_4 b32_5 b80_2 b80_3 b80_4 b80_5 b176_0 b176_1 b176_2 a224 a960000)) := by kernel_rfl
theorem impl_MetaOf_e0_0 (x0 : List Int) (d0 : List Int) (d1 : Bool) (d2 : Bool) (d3 : Bool) (d4 : Int) (d5 : Bool) (d6 : Bool) (d7 : Bool) (d8 : Int) (d9 : List Int) (d10 : Int) (d11 : Bool) (d12 : List Int) (d13 : List (List Int)) : impl_MetaOf_K0 x0 (.exit 0) (impl_MetaOf_x0_0 d0 d1 d2 d3 d4 d5 d6 d7 d8 d9 d10 d11 d12 d13) =
 (impl_reader_num_F ((d9, (d10, (d11, ()))), ())).bind fun y28 =>
 (impl_reader_num_F ((y28.2.1.1, (y28.2.1.2.1, (y28.2.1.2.2.1, ()))), ())).bind fun y30 =>
 (impl_MetaBytes_F ((d12, (d13, (!decide (andN IntKind.i64 y28.1.1 (1 : Int) = (0 : Int)), (!decide (andN IntKind.i64 y28.1.1 (2 : Int) = (0 : Int)), (!decide (andN IntKind.i64 y28.1.1 (4 : Int) = (0 : Int)), (y30.1.1, ())))))), ())).bind fun y45 =>
 brk (!y30.2.1.2.2.1)
 (some (((([] : List Int), (([] : List (List Int)), (false, (false, (false, ((0 : Int), ())))))), (false, ())), ((), ())))
 (brk (decide ((y45.1.1.length : Int) = (0 : Int)))
 (some (((([] : List Int), (([] : List (List Int)), (false, (false, (false, ((0 : Int), ())))))), (false, ())), ((), ())))
 ((bytes_Equal_F (y45.1.1, (d0, ()))).bind fun y59 =>
 brk (!y59.1.1)
 (some (((([] : List Int), (([] : List (List Int)), (false, (false, (false, ((0 : Int), ())))))), (false, ())), ((), ())))
 (some (((d12, (d13, (!decide (andN IntKind.i64 y28.1.1 (1 : Int) = (0 : Int)), (!decide (andN IntKind.i64 y28.1.1 (2 : Int) = (0 : Int)), (!decide (andN IntKind.i64 y28.1.1 (4 : Int) = (0 : Int)), (y30.1.1, ())))))), (true, ())), ((), ()))))) := by kernel_rfl
/-! impl.four -/
noncomputable def impl_four_b : Code := bd Tryz.f116
def impl_four_T : List (Nat × Tm) := []
noncomputable def impl_four_E : Env := ⟨tt0, []⟩
noncomputable def impl_four_F : PsD [.ro tI] → Option (RsD [.own tYs] × PsO [.ro tI]) := fun x => evFn impl_four_E impl_four_T Tryz.f116 impl_four_b [.ro tI] [.own tYs] x
@[reducible] noncomputable def impl_four_C : Ct := ⟨[.ro tI], [.own tYs], impl_four_F⟩
theorem impl_four_h (x : PsD [.ro tI]) (y : RsD [.own tYs] × PsO [.ro tI]) (h : impl_four_F x = some y) : evFn impl_four_E impl_four_T Tryz.f116 impl_four_b [.ro tI] [.own tYs] x = some y := h
theorem impl_four_c : ∀ f c, get impl_four_E.ct f = some c → Sat Tryz.prog f c := ct_nil
theorem impl_four_S : Sat Tryz.prog 116 impl_four_C := fn_ok2 (envOk _) impl_four_c mixedOk Tryz.func116 (by kernel_rfl : Tryz.f116.body = some impl_four_b) (by kernel_rfl) (by kernel_rfl) impl_four_h
noncomputable def impl_four_Ke  (x0 : Int) : Ex → AS → Option (RsD [.own tYs] × PsO [.ro tI]) := endK impl_four_E Tryz.f116 [.ro tI] [.own tYs] (initL [.ro tI] (x0, ()) 0).1
theorem impl_four_main (x0 : Int) : impl_four_F (x0, ()) =
 some (([IntKind.u8.wrap x0, IntKind.u8.wrap (shrN IntKind.i64 x0 (8 : Int)), IntKind.u8.wrap (shrN IntKind.i64 x0 (16 : Int)), IntKind.u8.wrap (shrN IntKind.i64 x0 (24 : Int))], ()), ((), ())) := by kernel_rfl
/-! impl.slotBytes -/
noncomputable def impl_slotBytes_b : Code := bd Tryz.f107
def impl_slotBytes_T : List (Nat × Tm) := []
noncomputable def impl_slotBytes_E : Env := ⟨tt0, [(115, impl_MetaBytes_C), (116, impl_four_C)]⟩
noncomputable def impl_slotBytes_F : PsD [.ro tMeta, .ro tI] → Option (RsD [.own tYs] × PsO [.ro tMeta, .ro tI]) := fun x => evFn impl_slotBytes_E impl_slotBytes_T Tryz.f107 impl_slotBytes_b [.ro tMeta, .ro tI] [.own tYs] x
@[reducible] noncomputable def impl_slotBytes_C : Ct := ⟨[.ro tMeta, .ro tI], [.own tYs], impl_slotBytes_F⟩
theorem impl_slotBytes_h (x : PsD [.ro tMeta, .ro tI]) (y : RsD [.own tYs] × PsO [.ro tMeta, .ro tI]) (h : impl_slotBytes_F x = some y) : evFn impl_slotBytes_E impl_slotBytes_T Tryz.f107 impl_slotBytes_b [.ro tMeta, .ro tI] [.own tYs] x = some y := h
theorem impl_slotBytes_c : ∀ f c, get impl_slotBytes_E.ct f = some c → Sat Tryz.prog f c := ct_cons impl_MetaBytes_S (ct_cons impl_four_S (ct_nil))
theorem impl_slotBytes_S : Sat Tryz.prog 107 impl_slotBytes_C := fn_ok2 (envOk _) impl_slotBytes_c mixedOk Tryz.func107 (by kernel_rfl : Tryz.f107.body = some impl_slotBytes_b) (by kernel_rfl) (by kernel_rfl) impl_slotBytes_h
noncomputable def impl_slotBytes_Ke  (x0 : List Int × List (List Int) × Bool × Bool × Bool × Int × Unit) (x1 : Int) : Ex → AS → Option (RsD [.own tYs] × PsO [.ro tMeta, .ro tI]) := endK impl_slotBytes_E Tryz.f107 [.ro tMeta, .ro tI] [.own tYs] (initL [.ro tMeta, .ro tI] (x0, (x1, ())) 0).1
theorem impl_slotBytes_main (x0 : List Int × List (List Int) × Bool × Bool × Bool × Int × Unit) (x1 : Int) : impl_slotBytes_F (x0, (x1, ())) =
 (impl_MetaBytes_F ((x0.1, (x0.2.1, (x0.2.2.1, (x0.2.2.2.1, (x0.2.2.2.2.1, (x0.2.2.2.2.2.1, ())))))), ())).bind fun y8 =>
 (impl_four_F (x1, ())).bind fun y10 =>
 ck (decide ((y10.1.1.length + [IntKind.u8.wrap (y8.1.1.length : Int)].length) * 1 ≤ big47)) (ck (decide (((y10.1.1 ++ [IntKind.u8.wrap (y8.1.1.length : Int)]).length + y8.1.1.length) * 1 ≤ big47)) (ck (decide (0 ≤ IntKind.i64.wrap ((156 : Int) - (((y10.1.1 ++ [IntKind.u8.wrap (y8.1.1.length : Int)]) ++ y8.1.1).length : Int)))) (ck (decide ((((y10.1.1 ++ [IntKind.u8.wrap (y8.1.1.length : Int)]) ++ y8.1.1).length + (IntKind.i64.wrap ((156 : Int) - (((y10.1.1 ++ [IntKind.u8.wrap (y8.1.1.length : Int)]) ++ y8.1.1).length : Int))).toNat) * 1 ≤ big47)) ((impl_four_F (x1, ())).bind fun y26 =>
 ck (decide (((((y10.1.1 ++ [IntKind.u8.wrap (y8.1.1.length : Int)]) ++ y8.1.1) ++ List.replicate (IntKind.i64.wrap ((156 : Int) - (((y10.1.1 ++ [IntKind.u8.wrap (y8.1.1.length : Int)]) ++ y8.1.1).length : Int))).toNat tY.zero).length + y26.1.1.length) * 1 ≤ big47)) (some (((((y10.1.1 ++ [IntKind.u8.wrap (y8.1.1.length : Int)]) ++ y8.1.1) ++ List.replicate (IntKind.i64.wrap ((156 : Int) - (((y10.1.1 ++ [IntKind.u8.wrap (y8.1.1.length : Int)]) ++ y8.1.1).length : Int))).toNat tY.zero) ++ y26.1.1, ()), ((), ((), ())))))))) := by kernel_rfl
/-! impl.SlotOf -/
noncomputable def impl_SlotOf_b : Code := bd Tryz.f94
def impl_SlotOf_T : List (Nat × Tm) := []
noncomputable def impl_SlotOf_E : Env := ⟨tt0, [(85, impl_from_C), (105, impl_MetaOf_C), (106, bytes_Equal_C), (107, impl_slotBytes_C)]⟩
noncomputable def impl_SlotOf_F : PsD [.ro tYs] → Option (RsD [.own tMeta, .own tI, .own tB] × PsO [.ro tYs]) := fun x => evFn impl_SlotOf_E impl_SlotOf_T Tryz.f94 impl_SlotOf_b [.ro tYs] [.own tMeta, .own tI, .own tB] x
@[reducible] noncomputable def impl_SlotOf_C : Ct := ⟨[.ro tYs], [.own tMeta, .own tI, .own tB], impl_SlotOf_F⟩
theorem impl_SlotOf_h (x : PsD [.ro tYs]) (y : RsD [.own tMeta, .own tI, .own tB] × PsO [.ro tYs]) (h : impl_SlotOf_F x = some y) : evFn impl_SlotOf_E impl_SlotOf_T Tryz.f94 impl_SlotOf_b [.ro tYs] [.own tMeta, .own tI, .own tB] x = some y := h
theorem impl_SlotOf_c : ∀ f c, get impl_SlotOf_E.ct f = some c → Sat Tryz.prog f c := ct_cons impl_from_S (ct_cons impl_MetaOf_S (ct_cons bytes_Equal_S (ct_cons impl_slotBytes_S (ct_nil))))
theorem impl_SlotOf_S : Sat Tryz.prog 94 impl_SlotOf_C := fn_ok2 (envOk _) impl_SlotOf_c mixedOk Tryz.func94 (by kernel_rfl : Tryz.f94.body = some impl_SlotOf_b) (by kernel_rfl) (by kernel_rfl) impl_SlotOf_h
noncomputable def impl_SlotOf_Ke  (x0 : List Int) : Ex → AS → Option (RsD [.own tMeta, .own tI, .own tB] × PsO [.ro tYs]) := endK impl_SlotOf_E Tryz.f94 [.ro tYs] [.own tMeta, .own tI, .own tB] (initL [.ro tYs] (x0, ()) 0).1
theorem impl_SlotOf_main (x0 : List Int) : impl_SlotOf_F (x0, ()) =
 brk (!decide ((x0.length : Int) = (160 : Int)))
 (some (((([] : List Int), (([] : List (List Int)), (false, (false, (false, ((0 : Int), ())))))), ((0 : Int), (false, ()))), ((), ())))
 (ck (decide (0 ≤ (0 : Int)) && decide ((0 : Int) < x0.length)) (ck (decide (0 ≤ (1 : Int)) && decide ((1 : Int) < x0.length)) (ck (decide (0 ≤ (2 : Int)) && decide ((2 : Int) < x0.length)) (ck (decide (0 ≤ (3 : Int)) && decide ((3 : Int) < x0.length)) (ck (decide (0 ≤ (4 : Int)) && decide ((4 : Int) < x0.length)) ((impl_from_F (orN IntKind.i64 (orN IntKind.i64 (orN IntKind.i64 (IntKind.i64.wrap (rdD tY x0 (0 : Int))) (shlN IntKind.i64 (IntKind.i64.wrap (rdD tY x0 (1 : Int))) (8 : Int))) (shlN IntKind.i64 (IntKind.i64.wrap (rdD tY x0 (2 : Int))) (16 : Int))) (shlN IntKind.i64 (IntKind.i64.wrap (rdD tY x0 (3 : Int))) (24 : Int)), ((1 : Int), ((1000000 : Int), ())))).bind fun y40 =>
 brk (!y40.1.1)
 (some (((([] : List Int), (([] : List (List Int)), (false, (false, (false, ((0 : Int), ())))))), ((0 : Int), (false, ()))), ((), ())))
 (brk (decide ((151 : Int) < IntKind.i64.wrap (rdD tY x0 (4 : Int))))
 (some (((([] : List Int), (([] : List (List Int)), (false, (false, (false, ((0 : Int), ())))))), ((0 : Int), (false, ()))), ((), ())))
 (ck (decide (0 ≤ (5 : Int)) && decide ((5 : Int) ≤ IntKind.i64.wrap ((5 : Int) + (IntKind.i64.wrap (rdD tY x0 (4 : Int))))) && decide (IntKind.i64.wrap ((5 : Int) + (IntKind.i64.wrap (rdD tY x0 (4 : Int)))) ≤ x0.length)) ((impl_MetaOf_F ((x0.take (IntKind.i64.wrap ((5 : Int) + (IntKind.i64.wrap (rdD tY x0 (4 : Int))))).toNat).drop (5 : Int).toNat, ())).bind fun y52 =>
 brk (!y52.1.2.1)
 (some (((([] : List Int), (([] : List (List Int)), (false, (false, (false, ((0 : Int), ())))))), ((0 : Int), (false, ()))), ((), ())))
 ((impl_slotBytes_F ((y52.1.1.1, (y52.1.1.2.1, (y52.1.1.2.2.1, (y52.1.1.2.2.2.1, (y52.1.1.2.2.2.2.1, (y52.1.1.2.2.2.2.2.1, ())))))), (orN IntKind.i64 (orN IntKind.i64 (orN IntKind.i64 (IntKind.i64.wrap (rdD tY x0 (0 : Int))) (shlN IntKind.i64 (IntKind.i64.wrap (rdD tY x0 (1 : Int))) (8 : Int))) (shlN IntKind.i64 (IntKind.i64.wrap (rdD tY x0 (2 : Int))) (16 : Int))) (shlN IntKind.i64 (IntKind.i64.wrap (rdD tY x0 (3 : Int))) (24 : Int)), ()))).bind fun y60 =>
 (bytes_Equal_F (y60.1.1, (x0, ()))).bind fun y62 =>
 brk (!y62.1.1)
 (some (((([] : List Int), (([] : List (List Int)), (false, (false, (false, ((0 : Int), ())))))), ((0 : Int), (false, ()))), ((), ())))
 (some (((y52.1.1.1, (y52.1.1.2.1, (y52.1.1.2.2.1, (y52.1.1.2.2.2.1, (y52.1.1.2.2.2.2.1, (y52.1.1.2.2.2.2.2.1, ())))))), (orN IntKind.i64 (orN IntKind.i64 (orN IntKind.i64 (IntKind.i64.wrap (rdD tY x0 (0 : Int))) (shlN IntKind.i64 (IntKind.i64.wrap (rdD tY x0 (1 : Int))) (8 : Int))) (shlN IntKind.i64 (IntKind.i64.wrap (rdD tY x0 (2 : Int))) (16 : Int))) (shlN IntKind.i64 (IntKind.i64.wrap (rdD tY x0 (3 : Int))) (24 : Int)), (true, ()))), ((), ()))))))))))))) := by kernel_rfl
/-! impl.latest -/
noncomputable def impl_latest_b : Code := bd Tryz.f73
def impl_latest_T : List (Nat × Tm) := []
noncomputable def impl_latest_E : Env := ⟨tt0, [(94, impl_SlotOf_C)]⟩
noncomputable def impl_latest_F : PsD [.ro tSlots] → Option (RsD [.own tMeta, .own tI, .own tB] × PsO [.ro tSlots]) := fun x => evFn impl_latest_E impl_latest_T Tryz.f73 impl_latest_b [.ro tSlots] [.own tMeta, .own tI, .own tB] x
@[reducible] noncomputable def impl_latest_C : Ct := ⟨[.ro tSlots], [.own tMeta, .own tI, .own tB], impl_latest_F⟩
theorem impl_latest_h (x : PsD [.ro tSlots]) (y : RsD [.own tMeta, .own tI, .own tB] × PsO [.ro tSlots]) (h : impl_latest_F x = some y) : evFn impl_latest_E impl_latest_T Tryz.f73 impl_latest_b [.ro tSlots] [.own tMeta, .own tI, .own tB] x = some y := h
theorem impl_latest_c : ∀ f c, get impl_latest_E.ct f = some c → Sat Tryz.prog f c := ct_cons impl_SlotOf_S (ct_nil)
theorem impl_latest_S : Sat Tryz.prog 73 impl_latest_C := fn_ok2 (envOk _) impl_latest_c mixedOk Tryz.func73 (by kernel_rfl : Tryz.f73.body = some impl_latest_b) (by kernel_rfl) (by kernel_rfl) impl_latest_h
noncomputable def impl_latest_Ke  (x0 : List Int × List Int × Unit) : Ex → AS → Option (RsD [.own tMeta, .own tI, .own tB] × PsO [.ro tSlots]) := endK impl_latest_E Tryz.f73 [.ro tSlots] [.own tMeta, .own tI, .own tB] (initL [.ro tSlots] (x0, ()) 0).1
theorem impl_latest_main (x0 : List Int × List Int × Unit) : impl_latest_F (x0, ()) =
 (impl_SlotOf_F (x0.1, ())).bind fun y14 =>
 (impl_SlotOf_F (x0.2.1, ())).bind fun y21 =>
 brk y21.1.2.2.1
 (brk (!y14.1.2.2.1)
 (some (((y21.1.1.1, (y21.1.1.2.1, (y21.1.1.2.2.1, (y21.1.1.2.2.2.1, (y21.1.1.2.2.2.2.1, (y21.1.1.2.2.2.2.2.1, ())))))), (y21.1.2.1, (false, ()))), ((), ())))
 (brk (decide (y14.1.2.1 < y21.1.2.1))
 (some (((y21.1.1.1, (y21.1.1.2.1, (y21.1.1.2.2.1, (y21.1.1.2.2.2.1, (y21.1.1.2.2.2.2.1, (y21.1.1.2.2.2.2.2.1, ())))))), (y21.1.2.1, (false, ()))), ((), ())))
 (some (((y14.1.1.1, (y14.1.1.2.1, (y14.1.1.2.2.1, (y14.1.1.2.2.2.1, (y14.1.1.2.2.2.2.1, (y14.1.1.2.2.2.2.2.1, ())))))), (y14.1.2.1, (y14.1.2.2.1, ()))), ((), ())))))
 (some (((y14.1.1.1, (y14.1.1.2.1, (y14.1.1.2.2.1, (y14.1.1.2.2.2.1, (y14.1.1.2.2.2.2.1, (y14.1.1.2.2.2.2.2.1, ())))))), (y14.1.2.1, (y14.1.2.2.1, ()))), ((), ()))) := by kernel_rfl
/-! impl.SlotGet -/
noncomputable def impl_SlotGet_b : Code := bd Tryz.f34
def impl_SlotGet_T : List (Nat × Tm) := []
noncomputable def impl_SlotGet_E : Env := ⟨tt0, [(73, impl_latest_C)]⟩
noncomputable def impl_SlotGet_F : PsD [.ro tSlots] → Option (RsD [.own tMeta, .own tI, .own tB] × PsO [.ro tSlots]) := fun x => evFn impl_SlotGet_E impl_SlotGet_T Tryz.f34 impl_SlotGet_b [.ro tSlots] [.own tMeta, .own tI, .own tB] x
@[reducible] noncomputable def impl_SlotGet_C : Ct := ⟨[.ro tSlots], [.own tMeta, .own tI, .own tB], impl_SlotGet_F⟩
theorem impl_SlotGet_h (x : PsD [.ro tSlots]) (y : RsD [.own tMeta, .own tI, .own tB] × PsO [.ro tSlots]) (h : impl_SlotGet_F x = some y) : evFn impl_SlotGet_E impl_SlotGet_T Tryz.f34 impl_SlotGet_b [.ro tSlots] [.own tMeta, .own tI, .own tB] x = some y := h
theorem impl_SlotGet_c : ∀ f c, get impl_SlotGet_E.ct f = some c → Sat Tryz.prog f c := ct_cons impl_latest_S (ct_nil)
theorem impl_SlotGet_S : Sat Tryz.prog 34 impl_SlotGet_C := fn_ok2 (envOk _) impl_SlotGet_c mixedOk Tryz.func34 (by kernel_rfl : Tryz.f34.body = some impl_SlotGet_b) (by kernel_rfl) (by kernel_rfl) impl_SlotGet_h
noncomputable def impl_SlotGet_Ke  (x0 : List Int × List Int × Unit) : Ex → AS → Option (RsD [.own tMeta, .own tI, .own tB] × PsO [.ro tSlots]) := endK impl_SlotGet_E Tryz.f34 [.ro tSlots] [.own tMeta, .own tI, .own tB] (initL [.ro tSlots] (x0, ()) 0).1
theorem impl_SlotGet_main (x0 : List Int × List Int × Unit) : impl_SlotGet_F (x0, ()) =
 (impl_latest_F ((x0.1, (x0.2.1, ())), ())).bind fun y10 =>
 some (((y10.1.1.1, (y10.1.1.2.1, (y10.1.1.2.2.1, (y10.1.1.2.2.2.1, (y10.1.1.2.2.2.2.1, (y10.1.1.2.2.2.2.2.1, ())))))), (y10.1.2.1, (decide ((0 : Int) < y10.1.2.1), ()))), ((), ())) := by kernel_rfl
/-! impl.isNode -/
noncomputable def impl_isNode_b : Code := bd Tryz.f67
def impl_isNode_T : List (Nat × Tm) := []
noncomputable def impl_isNode_E : Env := ⟨tt0, [(85, impl_from_C)]⟩
noncomputable def impl_isNode_F : PsD [.ro tI] → Option (RsD [.own tB] × PsO [.ro tI]) := fun x => evFn impl_isNode_E impl_isNode_T Tryz.f67 impl_isNode_b [.ro tI] [.own tB] x
@[reducible] noncomputable def impl_isNode_C : Ct := ⟨[.ro tI], [.own tB], impl_isNode_F⟩
theorem impl_isNode_h (x : PsD [.ro tI]) (y : RsD [.own tB] × PsO [.ro tI]) (h : impl_isNode_F x = some y) : evFn impl_isNode_E impl_isNode_T Tryz.f67 impl_isNode_b [.ro tI] [.own tB] x = some y := h
theorem impl_isNode_c : ∀ f c, get impl_isNode_E.ct f = some c → Sat Tryz.prog f c := ct_cons impl_from_S (ct_nil)
theorem impl_isNode_S : Sat Tryz.prog 67 impl_isNode_C := fn_ok2 (envOk _) impl_isNode_c mixedOk Tryz.func67 (by kernel_rfl : Tryz.f67.body = some impl_isNode_b) (by kernel_rfl) (by kernel_rfl) impl_isNode_h
noncomputable def impl_isNode_Ke  (x0 : Int) : Ex → AS → Option (RsD [.own tB] × PsO [.ro tI]) := endK impl_isNode_E Tryz.f67 [.ro tI] [.own tB] (initL [.ro tI] (x0, ()) 0).1
theorem impl_isNode_main (x0 : Int) : impl_isNode_F (x0, ()) =
 (impl_from_F (x0, ((0 : Int), ((2 : Int), ())))).bind fun y4 =>
 some ((y4.1.1, ()), ((), ())) := by kernel_rfl
/-! impl.ImageOk$1 -/
noncomputable def impl_ImageOk_1_b : Code := bd Tryz.f87
def impl_ImageOk_1_T : List (Nat × Tm) := []
noncomputable def impl_ImageOk_1_E : Env := ⟨tt0, [(85, impl_from_C)]⟩
noncomputable def impl_ImageOk_1_F : PsD [.ro tI] → Option (RsD [.own tB] × PsO [.ro tI]) := fun x => evFn impl_ImageOk_1_E impl_ImageOk_1_T Tryz.f87 impl_ImageOk_1_b [.ro tI] [.own tB] x
@[reducible] noncomputable def impl_ImageOk_1_C : Ct := ⟨[.ro tI], [.own tB], impl_ImageOk_1_F⟩
theorem impl_ImageOk_1_h (x : PsD [.ro tI]) (y : RsD [.own tB] × PsO [.ro tI]) (h : impl_ImageOk_1_F x = some y) : evFn impl_ImageOk_1_E impl_ImageOk_1_T Tryz.f87 impl_ImageOk_1_b [.ro tI] [.own tB] x = some y := h
theorem impl_ImageOk_1_c : ∀ f c, get impl_ImageOk_1_E.ct f = some c → Sat Tryz.prog f c := ct_cons impl_from_S (ct_nil)
theorem impl_ImageOk_1_S : Sat Tryz.prog 87 impl_ImageOk_1_C := fn_ok2 (envOk _) impl_ImageOk_1_c mixedOk Tryz.func87 (by kernel_rfl : Tryz.f87.body = some impl_ImageOk_1_b) (by kernel_rfl) (by kernel_rfl) impl_ImageOk_1_h
noncomputable def impl_ImageOk_1_Ke  (x0 : Int) : Ex → AS → Option (RsD [.own tB] × PsO [.ro tI]) := endK impl_ImageOk_1_E Tryz.f87 [.ro tI] [.own tB] (initL [.ro tI] (x0, ()) 0).1
theorem impl_ImageOk_1_main (x0 : Int) : impl_ImageOk_1_F (x0, ()) =
 (impl_from_F (x0, ((0 : Int), ((200 : Int), ())))).bind fun y4 =>
 some ((!y4.1.1, ()), ((), ())) := by kernel_rfl
/-! slices.IndexFunc[[]int,int] -/
noncomputable def slices_IndexFunc_intO_b : Code := bd Tryz.f101
@[reducible] def slices_IndexFunc_intO_t0 : Tm := ⟨[], [], [(0, .sc true tIs), (1, .fnv 87 []), (7, .sc true tI), (8, .sc true tI)], [], [4], []⟩
def slices_IndexFunc_intO_T : List (Nat × Tm) := [(0, slices_IndexFunc_intO_t0)]
noncomputable def slices_IndexFunc_intO_E : Env := ⟨tt0, [(87, impl_ImageOk_1_C)]⟩
noncomputable def slices_IndexFunc_intO_F : PsD [.ro tIs, .fn 87 []] → Option (RsD [.own tI] × PsO [.ro tIs, .fn 87 []]) := fun x => evFn slices_IndexFunc_intO_E slices_IndexFunc_intO_T Tryz.f101 slices_IndexFunc_intO_b [.ro tIs, .fn 87 []] [.own tI] x
@[reducible] noncomputable def slices_IndexFunc_intO_C : Ct := ⟨[.ro tIs, .fn 87 []], [.own tI], slices_IndexFunc_intO_F⟩
theorem slices_IndexFunc_intO_h (x : PsD [.ro tIs, .fn 87 []]) (y : RsD [.own tI] × PsO [.ro tIs, .fn 87 []]) (h : slices_IndexFunc_intO_F x = some y) : evFn slices_IndexFunc_intO_E slices_IndexFunc_intO_T Tryz.f101 slices_IndexFunc_intO_b [.ro tIs, .fn 87 []] [.own tI] x = some y := h
theorem slices_IndexFunc_intO_c : ∀ f c, get slices_IndexFunc_intO_E.ct f = some c → Sat Tryz.prog f c := ct_cons impl_ImageOk_1_S (ct_nil)
theorem slices_IndexFunc_intO_S : Sat Tryz.prog 101 slices_IndexFunc_intO_C := fn_ok2 (envOk _) slices_IndexFunc_intO_c mixedOk Tryz.func101 (by kernel_rfl : Tryz.f101.body = some slices_IndexFunc_intO_b) (by kernel_rfl) (by kernel_rfl) slices_IndexFunc_intO_h
noncomputable def slices_IndexFunc_intO_Ke  (x0 : List Int) (x1 : Unit) : Ex → AS → Option (RsD [.own tI] × PsO [.ro tIs, .fn 87 []]) := endK slices_IndexFunc_intO_E Tryz.f101 [.ro tIs, .fn 87 []] [.own tI] (initL [.ro tIs, .fn 87 []] (x0, (x1, ())) 0).1
noncomputable def slices_IndexFunc_intO_B0 {R : Type} : AS → (Ex → AS → Option R) → Option R := fun A K => ev slices_IndexFunc_intO_E slices_IndexFunc_intO_T 0 (cA (cA (cB (cA (cB slices_IndexFunc_intO_b))))) A K
noncomputable def slices_IndexFunc_intO_K0  (x0 : List Int) (x1 : Unit) : Ex → AS → Option (RsD [.own tI] × PsO [.ro tIs, .fn 87 []]) := kBlk 0 (kSeq (fun A K => ev slices_IndexFunc_intO_E slices_IndexFunc_intO_T 1000 (cB (cB slices_IndexFunc_intO_b)) A K) (slices_IndexFunc_intO_Ke x0 x1))
noncomputable def slices_IndexFunc_intO_x0_0 (d0 : Int) : AS := ⟨[(4, .v (.one (.d true tI d0)))], []⟩
noncomputable def slices_IndexFunc_intO_x0_1 : AS := ⟨[], []⟩
theorem slices_IndexFunc_intO_l0 {R : Type} {K : Ex → AS → Option R} {s : slices_IndexFunc_intO_t0.D} (n : Nat) {v : Option R} (h : iterG slices_IndexFunc_intO_t0 slices_IndexFunc_intO_B0 K n s = v) (hv : ∃ r, v = some r) : loopG slices_IndexFunc_intO_t0 slices_IndexFunc_intO_B0 K s = v := loop_eq (ev_mono _ _) n h hv
theorem slices_IndexFunc_intO_main (x0 : List Int) (x1 : Unit) : slices_IndexFunc_intO_F (x0, (x1, ())) =
 loopG slices_IndexFunc_intO_t0 slices_IndexFunc_intO_B0 (slices_IndexFunc_intO_K0 x0 x1) ((x0, ((x0.length : Int), ((0 : Int), ()))), ()) := by kernel_rfl
theorem slices_IndexFunc_intO_r0 {R : Type} (K : Ex → AS → Option R) (n : Nat) (t0 : List Int) (t7 : Int) (t8 : Int) : iterG slices_IndexFunc_intO_t0 slices_IndexFunc_intO_B0 K (n + 1) ((t0, (t7, (t8, ()))), ()) =
 brk (decide (t8 < t7))
 (ck (decide (0 ≤ t8) && decide (t8 < t0.length)) ((impl_ImageOk_1_F (rdD tI t0 t8, ())).bind fun y16 =>
 brk y16.1.1
 (K .ret (slices_IndexFunc_intO_x0_0 t8))
 (iterG slices_IndexFunc_intO_t0 slices_IndexFunc_intO_B0 K n ((t0, (t7, (IntKind.i64.wrap (t8 + (1 : Int)), ()))), ()))))
 (K (.exit 0) (slices_IndexFunc_intO_x0_1)) := by kernel_rfl
theorem slices_IndexFunc_intO_e0_0 (x0 : List Int) (x1 : Unit) (d0 : Int) : slices_IndexFunc_intO_K0 x0 x1 .ret (slices_IndexFunc_intO_x0_0 d0) =
 some ((d0, ()), ((), ((), ()))) := by kernel_rfl
theorem slices_IndexFunc_intO_e0_1 (x0 : List Int) (x1 : Unit) : slices_IndexFunc_intO_K0 x0 x1 (.exit 0) (slices_IndexFunc_intO_x0_1) =
 some (((-1 : Int), ()), ((), ((), ()))) := by kernel_rfl
/-! slices.ContainsFunc[[]int,int] -/
noncomputable def slices_ContainsFunc_int_b : Code := bd Tryz.f86
def slices_ContainsFunc_int_T : List (Nat × Tm) := []
noncomputable def slices_ContainsFunc_int_E : Env := ⟨tt0, [(101, slices_IndexFunc_intO_C)]⟩
noncomputable def slices_ContainsFunc_int_F : PsD [.ro tIs, .fn 87 []] → Option (RsD [.own tB] × PsO [.ro tIs, .fn 87 []]) := fun x => evFn slices_ContainsFunc_int_E slices_ContainsFunc_int_T Tryz.f86 slices_ContainsFunc_int_b [.ro tIs, .fn 87 []] [.own tB] x
@[reducible] noncomputable def slices_ContainsFunc_int_C : Ct := ⟨[.ro tIs, .fn 87 []], [.own tB], slices_ContainsFunc_int_F⟩
theorem slices_ContainsFunc_int_h (x : PsD [.ro tIs, .fn 87 []]) (y : RsD [.own tB] × PsO [.ro tIs, .fn 87 []]) (h : slices_ContainsFunc_int_F x = some y) : evFn slices_ContainsFunc_int_E slices_ContainsFunc_int_T Tryz.f86 slices_ContainsFunc_int_b [.ro tIs, .fn 87 []] [.own tB] x = some y := h
theorem slices_ContainsFunc_int_c : ∀ f c, get slices_ContainsFunc_int_E.ct f = some c → Sat Tryz.prog f c := ct_cons slices_IndexFunc_intO_S (ct_nil)
theorem slices_ContainsFunc_int_S : Sat Tryz.prog 86 slices_ContainsFunc_int_C := fn_ok2 (envOk _) slices_ContainsFunc_int_c mixedOk Tryz.func86 (by kernel_rfl : Tryz.f86.body = some slices_ContainsFunc_int_b) (by kernel_rfl) (by kernel_rfl) slices_ContainsFunc_int_h
noncomputable def slices_ContainsFunc_int_Ke  (x0 : List Int) (x1 : Unit) : Ex → AS → Option (RsD [.own tB] × PsO [.ro tIs, .fn 87 []]) := endK slices_ContainsFunc_int_E Tryz.f86 [.ro tIs, .fn 87 []] [.own tB] (initL [.ro tIs, .fn 87 []] (x0, (x1, ())) 0).1
theorem slices_ContainsFunc_int_main (x0 : List Int) (x1 : Unit) : slices_ContainsFunc_int_F (x0, (x1, ())) =
 (slices_IndexFunc_intO_F (x0, ((), ()))).bind fun y7 =>
 some ((decide ((0 : Int) ≤ y7.1.1), ()), ((), ((), ()))) := by kernel_rfl
/-! impl.ImageOk -/
noncomputable def impl_ImageOk_b : Code := bd Tryz.f68
def impl_ImageOk_T : List (Nat × Tm) := []
noncomputable def impl_ImageOk_E : Env := ⟨tt0, [(86, slices_ContainsFunc_int_C)]⟩
noncomputable def impl_ImageOk_F : PsD [.ro tIs] → Option (RsD [.own tB] × PsO [.ro tIs]) := fun x => evFn impl_ImageOk_E impl_ImageOk_T Tryz.f68 impl_ImageOk_b [.ro tIs] [.own tB] x
@[reducible] noncomputable def impl_ImageOk_C : Ct := ⟨[.ro tIs], [.own tB], impl_ImageOk_F⟩
theorem impl_ImageOk_h (x : PsD [.ro tIs]) (y : RsD [.own tB] × PsO [.ro tIs]) (h : impl_ImageOk_F x = some y) : evFn impl_ImageOk_E impl_ImageOk_T Tryz.f68 impl_ImageOk_b [.ro tIs] [.own tB] x = some y := h
theorem impl_ImageOk_c : ∀ f c, get impl_ImageOk_E.ct f = some c → Sat Tryz.prog f c := ct_cons slices_ContainsFunc_int_S (ct_nil)
theorem impl_ImageOk_S : Sat Tryz.prog 68 impl_ImageOk_C := fn_ok2 (envOk _) impl_ImageOk_c mixedOk Tryz.func68 (by kernel_rfl : Tryz.f68.body = some impl_ImageOk_b) (by kernel_rfl) (by kernel_rfl) impl_ImageOk_h
noncomputable def impl_ImageOk_Ke  (x0 : List Int) : Ex → AS → Option (RsD [.own tB] × PsO [.ro tIs]) := endK impl_ImageOk_E Tryz.f68 [.ro tIs] [.own tB] (initL [.ro tIs] (x0, ()) 0).1
theorem impl_ImageOk_main (x0 : List Int) : impl_ImageOk_F (x0, ()) =
 brk (decide ((x0.length : Int) = (8 : Int)))
 ((slices_ContainsFunc_int_F (x0, ((), ()))).bind fun y8 =>
 some ((!y8.1.1, ()), ((), ())))
 (some ((false, ()), ((), ()))) := by kernel_rfl
/-! slices.Equal[[]int,int] -/
noncomputable def slices_Equal_int_b : Code := bd Tryz.f92
@[reducible] def slices_Equal_int_t0 : Tm := ⟨[], [], [(0, .sc true tIs), (1, .sc true tIs), (12, .sc true tI), (13, .sc true tI)], [], [4], []⟩
def slices_Equal_int_T : List (Nat × Tm) := [(0, slices_Equal_int_t0)]
noncomputable def slices_Equal_int_E : Env := ⟨tt0, []⟩
noncomputable def slices_Equal_int_F : PsD [.ro tIs, .ro tIs] → Option (RsD [.own tB] × PsO [.ro tIs, .ro tIs]) := fun x => evFn slices_Equal_int_E slices_Equal_int_T Tryz.f92 slices_Equal_int_b [.ro tIs, .ro tIs] [.own tB] x
@[reducible] noncomputable def slices_Equal_int_C : Ct := ⟨[.ro tIs, .ro tIs], [.own tB], slices_Equal_int_F⟩
theorem slices_Equal_int_h (x : PsD [.ro tIs, .ro tIs]) (y : RsD [.own tB] × PsO [.ro tIs, .ro tIs]) (h : slices_Equal_int_F x = some y) : evFn slices_Equal_int_E slices_Equal_int_T Tryz.f92 slices_Equal_int_b [.ro tIs, .ro tIs] [.own tB] x = some y := h
theorem slices_Equal_int_c : ∀ f c, get slices_Equal_int_E.ct f = some c → Sat Tryz.prog f c := ct_nil
theorem slices_Equal_int_S : Sat Tryz.prog 92 slices_Equal_int_C := fn_ok2 (envOk _) slices_Equal_int_c mixedOk Tryz.func92 (by kernel_rfl : Tryz.f92.body = some slices_Equal_int_b) (by kernel_rfl) (by kernel_rfl) slices_Equal_int_h
noncomputable def slices_Equal_int_Ke  (x0 : List Int) (x1 : List Int) : Ex → AS → Option (RsD [.own tB] × PsO [.ro tIs, .ro tIs]) := endK slices_Equal_int_E Tryz.f92 [.ro tIs, .ro tIs] [.own tB] (initL [.ro tIs, .ro tIs] (x0, (x1, ())) 0).1
noncomputable def slices_Equal_int_B0 {R : Type} : AS → (Ex → AS → Option R) → Option R := fun A K => ev slices_Equal_int_E slices_Equal_int_T 0 (cA (cA (cB (cA (cB (cB slices_Equal_int_b)))))) A K
noncomputable def slices_Equal_int_K0  (x0 : List Int) (x1 : List Int) : Ex → AS → Option (RsD [.own tB] × PsO [.ro tIs, .ro tIs]) := kBlk 0 (kSeq (fun A K => ev slices_Equal_int_E slices_Equal_int_T 1000 (cB (cB (cB slices_Equal_int_b))) A K) (slices_Equal_int_Ke x0 x1))
noncomputable def slices_Equal_int_x0_0 (d0 : Bool) : AS := ⟨[(4, .v (.one (.d true tB d0)))], []⟩
noncomputable def slices_Equal_int_x0_1 : AS := ⟨[], []⟩
theorem slices_Equal_int_l0 {R : Type} {K : Ex → AS → Option R} {s : slices_Equal_int_t0.D} (n : Nat) {v : Option R} (h : iterG slices_Equal_int_t0 slices_Equal_int_B0 K n s = v) (hv : ∃ r, v = some r) : loopG slices_Equal_int_t0 slices_Equal_int_B0 K s = v := loop_eq (ev_mono _ _) n h hv
theorem slices_Equal_int_main (x0 : List Int) (x1 : List Int) : slices_Equal_int_F (x0, (x1, ())) =
 brk (!decide ((x0.length : Int) = (x1.length : Int)))
 (some ((false, ()), ((), ((), ()))))
 (loopG slices_Equal_int_t0 slices_Equal_int_B0 (slices_Equal_int_K0 x0 x1) ((x0, (x1, ((x0.length : Int), ((0 : Int), ())))), ())) := by kernel_rfl
theorem slices_Equal_int_r0 {R : Type} (K : Ex → AS → Option R) (n : Nat) (t0 : List Int) (t1 : List Int) (t12 : Int) (t13 : Int) : iterG slices_Equal_int_t0 slices_Equal_int_B0 K (n + 1) ((t0, (t1, (t12, (t13, ())))), ()) =
 brk (decide (t13 < t12))
 (ck (decide (0 ≤ t13) && decide (t13 < t0.length)) (ck (decide (0 ≤ t13) && decide (t13 < t1.length)) (brk (!decide (rdD tI t0 t13 = rdD tI t1 t13))
 (K .ret (slices_Equal_int_x0_0 false))
 (iterG slices_Equal_int_t0 slices_Equal_int_B0 K n ((t0, (t1, (t12, (IntKind.i64.wrap (t13 + (1 : Int)), ())))), ())))))
 (K (.exit 0) (slices_Equal_int_x0_1)) := by kernel_rfl
theorem slices_Equal_int_e0_0 (x0 : List Int) (x1 : List Int) (d0 : Bool) : slices_Equal_int_K0 x0 x1 .ret (slices_Equal_int_x0_0 d0) =
 some ((d0, ()), ((), ((), ()))) := by kernel_rfl
theorem slices_Equal_int_e0_1 (x0 : List Int) (x1 : List Int) : slices_Equal_int_K0 x0 x1 (.exit 0) (slices_Equal_int_x0_1) =
 some ((true, ()), ((), ((), ()))) := by kernel_rfl
/-! slices.EqualFunc[[][]int,[][]int,[]int,[]int] -/
noncomputable def slices_EqualFunc__int_b : Code := bd Tryz.f93
@[reducible] def slices_EqualFunc__int_t0 : Tm := ⟨[], [], [(1, .sc true tIss), (2, .fnv 92 []), (15, .sc true tIss), (16, .sc true tI), (17, .sc true tI)], [], [6], []⟩
def slices_EqualFunc__int_T : List (Nat × Tm) := [(0, slices_EqualFunc__int_t0)]
noncomputable def slices_EqualFunc__int_E : Env := ⟨tt0, [(92, slices_Equal_int_C)]⟩
noncomputable def slices_EqualFunc__int_F : PsD [.ro tIss, .ro tIss, .fn 92 []] → Option (RsD [.own tB] × PsO [.ro tIss, .ro tIss, .fn 92 []]) := fun x => evFn slices_EqualFunc__int_E slices_EqualFunc__int_T Tryz.f93 slices_EqualFunc__int_b [.ro tIss, .ro tIss, .fn 92 []] [.own tB] x
@[reducible] noncomputable def slices_EqualFunc__int_C : Ct := ⟨[.ro tIss, .ro tIss, .fn 92 []], [.own tB], slices_EqualFunc__int_F⟩
theorem slices_EqualFunc__int_h (x : PsD [.ro tIss, .ro tIss, .fn 92 []]) (y : RsD [.own tB] × PsO [.ro tIss, .ro tIss, .fn 92 []]) (h : slices_EqualFunc__int_F x = some y) : evFn slices_EqualFunc__int_E slices_EqualFunc__int_T Tryz.f93 slices_EqualFunc__int_b [.ro tIss, .ro tIss, .fn 92 []] [.own tB] x = some y := h
theorem slices_EqualFunc__int_c : ∀ f c, get slices_EqualFunc__int_E.ct f = some c → Sat Tryz.prog f c := ct_cons slices_Equal_int_S (ct_nil)
theorem slices_EqualFunc__int_S : Sat Tryz.prog 93 slices_EqualFunc__int_C := fn_ok2 (envOk _) slices_EqualFunc__int_c mixedOk Tryz.func93 (by kernel_rfl : Tryz.f93.body = some slices_EqualFunc__int_b) (by kernel_rfl) (by kernel_rfl) slices_EqualFunc__int_h
noncomputable def slices_EqualFunc__int_Ke  (x0 : List (List Int)) (x1 : List (List Int)) (x2 : Unit) : Ex → AS → Option (RsD [.own tB] × PsO [.ro tIss, .ro tIss, .fn 92 []]) := endK slices_EqualFunc__int_E Tryz.f93 [.ro tIss, .ro tIss, .fn 92 []] [.own tB] (initL [.ro tIss, .ro tIss, .fn 92 []] (x0, (x1, (x2, ()))) 0).1
noncomputable def slices_EqualFunc__int_B0 {R : Type} : AS → (Ex → AS → Option R) → Option R := fun A K => ev slices_EqualFunc__int_E slices_EqualFunc__int_T 0 (cA (cA (cB (cA (cB (cB slices_EqualFunc__int_b)))))) A K
noncomputable def slices_EqualFunc__int_K0  (x0 : List (List Int)) (x1 : List (List Int)) (x2 : Unit) : Ex → AS → Option (RsD [.own tB] × PsO [.ro tIss, .ro tIss, .fn 92 []]) := kBlk 0 (kSeq (fun A K => ev slices_EqualFunc__int_E slices_EqualFunc__int_T 1000 (cB (cB (cB slices_EqualFunc__int_b))) A K) (slices_EqualFunc__int_Ke x0 x1 x2))
noncomputable def slices_EqualFunc__int_x0_0 (d0 : Bool) : AS := ⟨[(6, .v (.one (.d true tB d0)))], []⟩
noncomputable def slices_EqualFunc__int_x0_1 : AS := ⟨[], []⟩
theorem slices_EqualFunc__int_l0 {R : Type} {K : Ex → AS → Option R} {s : slices_EqualFunc__int_t0.D} (n : Nat) {v : Option R} (h : iterG slices_EqualFunc__int_t0 slices_EqualFunc__int_B0 K n s = v) (hv : ∃ r, v = some r) : loopG slices_EqualFunc__int_t0 slices_EqualFunc__int_B0 K s = v := loop_eq (ev_mono _ _) n h hv
theorem slices_EqualFunc__int_main (x0 : List (List Int)) (x1 : List (List Int)) (x2 : Unit) : slices_EqualFunc__int_F (x0, (x1, (x2, ()))) =
 brk (!decide ((x0.length : Int) = (x1.length : Int)))
 (some ((false, ()), ((), ((), ((), ())))))
 (loopG slices_EqualFunc__int_t0 slices_EqualFunc__int_B0 (slices_EqualFunc__int_K0 x0 x1 x2) ((x1, (x0, ((x0.length : Int), ((0 : Int), ())))), ())) := by kernel_rfl
theorem slices_EqualFunc__int_r0 {R : Type} (K : Ex → AS → Option R) (n : Nat) (t1 : List (List Int)) (t15 : List (List Int)) (t16 : Int) (t17 : Int) : iterG slices_EqualFunc__int_t0 slices_EqualFunc__int_B0 K (n + 1) ((t1, (t15, (t16, (t17, ())))), ()) =
 brk (decide (t17 < t16))
 (ck (decide (0 ≤ t17) && decide (t17 < t15.length)) (ck (decide (0 ≤ t17) && decide (t17 < t1.length)) ((slices_Equal_int_F (rdD tIs t15 t17, (rdD tIs t1 t17, ()))).bind fun y29 =>
 brk (!y29.1.1)
 (K .ret (slices_EqualFunc__int_x0_0 false))
 (iterG slices_EqualFunc__int_t0 slices_EqualFunc__int_B0 K n ((t1, (t15, (t16, (IntKind.i64.wrap (t17 + (1 : Int)), ())))), ())))))
 (K (.exit 0) (slices_EqualFunc__int_x0_1)) := by kernel_rfl
theorem slices_EqualFunc__int_e0_0 (x0 : List (List Int)) (x1 : List (List Int)) (x2 : Unit) (d0 : Bool) : slices_EqualFunc__int_K0 x0 x1 x2 .ret (slices_EqualFunc__int_x0_0 d0) =
 some ((d0, ()), ((), ((), ((), ())))) := by kernel_rfl
theorem slices_EqualFunc__int_e0_1 (x0 : List (List Int)) (x1 : List (List Int)) (x2 : Unit) : slices_EqualFunc__int_K0 x0 x1 x2 (.exit 0) (slices_EqualFunc__int_x0_1) =
 some ((true, ()), ((), ((), ((), ())))) := by kernel_rfl
/-! impl.SameMeta -/
noncomputable def impl_SameMeta_b : Code := bd Tryz.f71
def impl_SameMeta_T : List (Nat × Tm) := []
noncomputable def impl_SameMeta_E : Env := ⟨tt0, [(92, slices_Equal_int_C), (93, slices_EqualFunc__int_C)]⟩
noncomputable def impl_SameMeta_F : PsD [.ro tMeta, .ro tMeta] → Option (RsD [.own tB] × PsO [.ro tMeta, .ro tMeta]) := fun x => evFn impl_SameMeta_E impl_SameMeta_T Tryz.f71 impl_SameMeta_b [.ro tMeta, .ro tMeta] [.own tB] x
@[reducible] noncomputable def impl_SameMeta_C : Ct := ⟨[.ro tMeta, .ro tMeta], [.own tB], impl_SameMeta_F⟩
theorem impl_SameMeta_h (x : PsD [.ro tMeta, .ro tMeta]) (y : RsD [.own tB] × PsO [.ro tMeta, .ro tMeta]) (h : impl_SameMeta_F x = some y) : evFn impl_SameMeta_E impl_SameMeta_T Tryz.f71 impl_SameMeta_b [.ro tMeta, .ro tMeta] [.own tB] x = some y := h
theorem impl_SameMeta_c : ∀ f c, get impl_SameMeta_E.ct f = some c → Sat Tryz.prog f c := ct_cons slices_Equal_int_S (ct_cons slices_EqualFunc__int_S (ct_nil))
theorem impl_SameMeta_S : Sat Tryz.prog 71 impl_SameMeta_C := fn_ok2 (envOk _) impl_SameMeta_c mixedOk Tryz.func71 (by kernel_rfl : Tryz.f71.body = some impl_SameMeta_b) (by kernel_rfl) (by kernel_rfl) impl_SameMeta_h
noncomputable def impl_SameMeta_Ke  (x0 : List Int × List (List Int) × Bool × Bool × Bool × Int × Unit) (x1 : List Int × List (List Int) × Bool × Bool × Bool × Int × Unit) : Ex → AS → Option (RsD [.own tB] × PsO [.ro tMeta, .ro tMeta]) := endK impl_SameMeta_E Tryz.f71 [.ro tMeta, .ro tMeta] [.own tB] (initL [.ro tMeta, .ro tMeta] (x0, (x1, ())) 0).1
theorem impl_SameMeta_main (x0 : List Int × List (List Int) × Bool × Bool × Bool × Int × Unit) (x1 : List Int × List (List Int) × Bool × Bool × Bool × Int × Unit) : impl_SameMeta_F (x0, (x1, ())) =
 (slices_Equal_int_F (x0.1, (x1.1, ()))).bind fun y9 =>
 brk y9.1.1
 ((slices_EqualFunc__int_F (x0.2.1, (x1.2.1, ((), ())))).bind fun y15 =>
 brk y15.1.1
 (brk (x0.2.2.1 == x1.2.2.1)
 (brk (x0.2.2.2.1 == x1.2.2.2.1)
 (brk (x0.2.2.2.2.1 == x1.2.2.2.2.1)
 (some ((decide (x0.2.2.2.2.2.1 = x1.2.2.2.2.2.1), ()), ((), ((), ()))))
 (some ((false, ()), ((), ((), ())))))
 (some ((false, ()), ((), ((), ())))))
 (some ((false, ()), ((), ((), ())))))
 (some ((false, ()), ((), ((), ())))))
 (some ((false, ()), ((), ((), ())))) := by kernel_rfl
/-! impl.isWrite -/
noncomputable def impl_isWrite_b : Code := bd Tryz.f72
def impl_isWrite_T : List (Nat × Tm) := []
noncomputable def impl_isWrite_E : Env := ⟨tt0, [(85, impl_from_C)]⟩
noncomputable def impl_isWrite_F : PsD [.ro tI] → Option (RsD [.own tB] × PsO [.ro tI]) := fun x => evFn impl_isWrite_E impl_isWrite_T Tryz.f72 impl_isWrite_b [.ro tI] [.own tB] x
@[reducible] noncomputable def impl_isWrite_C : Ct := ⟨[.ro tI], [.own tB], impl_isWrite_F⟩
theorem impl_isWrite_h (x : PsD [.ro tI]) (y : RsD [.own tB] × PsO [.ro tI]) (h : impl_isWrite_F x = some y) : evFn impl_isWrite_E impl_isWrite_T Tryz.f72 impl_isWrite_b [.ro tI] [.own tB] x = some y := h
theorem impl_isWrite_c : ∀ f c, get impl_isWrite_E.ct f = some c → Sat Tryz.prog f c := ct_cons impl_from_S (ct_nil)
theorem impl_isWrite_S : Sat Tryz.prog 72 impl_isWrite_C := fn_ok2 (envOk _) impl_isWrite_c mixedOk Tryz.func72 (by kernel_rfl : Tryz.f72.body = some impl_isWrite_b) (by kernel_rfl) (by kernel_rfl) impl_isWrite_h
noncomputable def impl_isWrite_Ke  (x0 : Int) : Ex → AS → Option (RsD [.own tB] × PsO [.ro tI]) := endK impl_isWrite_E Tryz.f72 [.ro tI] [.own tB] (initL [.ro tI] (x0, ()) 0).1
theorem impl_isWrite_main (x0 : Int) : impl_isWrite_F (x0, ()) =
 (impl_from_F (x0, ((1 : Int), ((200 : Int), ())))).bind fun y4 =>
 some ((y4.1.1, ()), ((), ())) := by kernel_rfl
/-! impl.NodeOk -/
noncomputable def impl_NodeOk_b : Code := bd Tryz.f33
@[reducible] def impl_NodeOk_t0 : Tm := ⟨[], [], [(1, .ptr 16 0), (85, .sc true tI)], [(16, .box [.sc true tI, .sc true tB, .sc true tB, .sc true tIs, .sc true tIs, .sc true tIss, .sc true tB, .sc true tB, .sc true tB, .sc true tI, .sc true tYs, .sc true tYs, .sc true tBs, .sc true tIss, .sc true tBs, .sc true tIs])], [1, 2, 150, 151, 152, 153, 154, 155, 156, 157, 158, 159, 160, 161], [16]⟩
@[reducible] def impl_NodeOk_t2 : Tm := ⟨[], [], [(1, .ptr 16 0), (139, .sc true tIs), (140, .sc true tI), (141, .sc true tI)], [(16, .box [.sc true tI, .sc true tB, .sc true tB, .sc true tIs, .sc true tIs, .sc true tIss, .sc true tB, .sc true tB, .sc true tB, .sc true tI, .sc true tYs, .sc true tYs, .sc true tBs, .sc true tIss, .sc true tBs, .sc true tIs])], [2], []⟩
def impl_NodeOk_T : List (Nat × Tm) := [(0, impl_NodeOk_t0), (2, impl_NodeOk_t2)]
noncomputable def impl_NodeOk_E : Env := ⟨tt0, [(34, impl_SlotGet_C), (67, impl_isNode_C), (68, impl_ImageOk_C), (69, impl_MetaOk_C), (70, impl_marksAll_C), (71, impl_SameMeta_C), (72, impl_isWrite_C)]⟩
noncomputable def impl_NodeOk_F : PsD [.ro tNode] → Option (RsD [.own tB] × PsO [.ro tNode]) := fun x => evFn impl_NodeOk_E impl_NodeOk_T Tryz.f33 impl_NodeOk_b [.ro tNode] [.own tB] x
@[reducible] noncomputable def impl_NodeOk_C : Ct := ⟨[.ro tNode], [.own tB], impl_NodeOk_F⟩
theorem impl_NodeOk_h (x : PsD [.ro tNode]) (y : RsD [.own tB] × PsO [.ro tNode]) (h : impl_NodeOk_F x = some y) : evFn impl_NodeOk_E impl_NodeOk_T Tryz.f33 impl_NodeOk_b [.ro tNode] [.own tB] x = some y := h
theorem impl_NodeOk_c : ∀ f c, get impl_NodeOk_E.ct f = some c → Sat Tryz.prog f c := ct_cons impl_SlotGet_S (ct_cons impl_isNode_S (ct_cons impl_ImageOk_S (ct_cons impl_MetaOk_S (ct_cons impl_marksAll_S (ct_cons impl_SameMeta_S (ct_cons impl_isWrite_S (ct_nil)))))))
theorem impl_NodeOk_S : Sat Tryz.prog 33 impl_NodeOk_C := fn_ok2 (envOk _) impl_NodeOk_c mixedOk Tryz.func33 (by kernel_rfl : Tryz.f33.body = some impl_NodeOk_b) (by kernel_rfl) (by kernel_rfl) impl_NodeOk_h
noncomputable def impl_NodeOk_Ke  (x0 : Int × Bool × Bool × List Int × (List Int × List (List Int) × Bool × Bool × Bool × Int × Unit) × (List Int × List Int × Unit) × List Bool × List (List Int) × List Bool × List Int × Unit) : Ex → AS → Option (RsD [.own tB] × PsO [.ro tNode]) := endK impl_NodeOk_E Tryz.f33 [.ro tNode] [.own tB] (initL [.ro tNode] (x0, ()) 0).1
noncomputable def impl_NodeOk_B0 {R : Type} : AS → (Ex → AS → Option R) → Option R := fun A K => ev impl_NodeOk_E impl_NodeOk_T 0 (cA (cA (cB (cA (cB (cB (cB impl_NodeOk_b))))))) A K
noncomputable def impl_NodeOk_B2 {R : Type} : AS → (Ex → AS → Option R) → Option R := fun A K => ev impl_NodeOk_E impl_NodeOk_T 2 (cA (cA (cB (cA (cB (cB (cB (cB impl_NodeOk_b)))))))) A K
noncomputable def impl_NodeOk_K0  (x0 : Int × Bool × Bool × List Int × (List Int × List (List Int) × Bool × Bool × Bool × Int × Unit) × (List Int × List Int × Unit) × List Bool × List (List Int) × List Bool × List Int × Unit) : Ex → AS → Option (RsD [.own tB] × PsO [.ro tNode]) := kBlk 0 (kSeq (fun A K => ev impl_NodeOk_E impl_NodeOk_T 1000 (cB (cB (cB (cB impl_NodeOk_b)))) A K) (impl_NodeOk_Ke x0))
noncomputable def impl_NodeOk_K2  (x0 : Int × Bool × Bool × List Int × (List Int × List (List Int) × Bool × Bool × Bool × Int × Unit) × (List Int × List Int × Unit) × List Bool × List (List Int) × List Bool × List Int × Unit) : Ex → AS → Option (RsD [.own tB] × PsO [.ro tNode]) := kBlk 2 (kSeq (fun A K => ev impl_NodeOk_E impl_NodeOk_T 1000 (cB (cB (cB (cB (cB impl_NodeOk_b))))) A K) (impl_NodeOk_Ke x0))
noncomputable def impl_NodeOk_x0_0 (d0 : Bool) (d1 : Int) (d2 : Bool) (d3 : Bool) (d4 : List Int) (d5 : List Int) (d6 : List (List Int)) (d7 : Bool) (d8 : Bool) (d9 : Bool) (d10 : Int) (d11 : List Int) (d12 : List Int) (d13 : List Bool) (d14 : List (List Int)) (d15 : List Bool) (d16 : List Int) : AS := ⟨[(1, .v (.one (.bptr 16 0))), (2, .v (.one (.d true tB d0)))], [(16, .box [.d true tI d1, .d true tB d2, .d true tB d3, .d true tIs d4, .d true tIs d5, .d true tIss d6, .d true tB d7, .d true tB d8, .d true tB d9, .d true tI d10, .d true tYs d11, .d true tYs d12, .d true tBs d13, .d true tIss d14, .d true tBs d15, .d true tIs d16])]⟩
noncomputable def impl_NodeOk_x0_1 (d0 : Int) (d1 : Bool) (d2 : Bool) (d3 : List Int) (d4 : List Int) (d5 : List (List Int)) (d6 : Bool) (d7 : Bool) (d8 : Bool) (d9 : Int) (d10 : List Int) (d11 : List Int) (d12 : List Bool) (d13 : List (List Int)) (d14 : List Bool) (d15 : List Int) : AS := ⟨[(1, .v (.one (.bptr 16 0)))], [(16, .box [.d true tI d0, .d true tB d1, .d true tB d2, .d true tIs d3, .d true tIs d4, .d true tIss d5, .d true tB d6, .d true tB d7, .d true tB d8, .d true tI d9, .d true tYs d10, .d true tYs d11, .d true tBs d12, .d true tIss d13, .d true tBs d14, .d true tIs d15])]⟩
noncomputable def impl_NodeOk_x2_0 (d0 : Bool) : AS := ⟨[(2, .v (.one (.d true tB d0)))], []⟩
noncomputable def impl_NodeOk_x2_1 : AS := ⟨[], []⟩
theorem impl_NodeOk_l0 {R : Type} {K : Ex → AS → Option R} {s : impl_NodeOk_t0.D} (n : Nat) {v : Option R} (h : iterG impl_NodeOk_t0 impl_NodeOk_B0 K n s = v) (hv : ∃ r, v = some r) : loopG impl_NodeOk_t0 impl_NodeOk_B0 K s = v := loop_eq (ev_mono _ _) n h hv
theorem impl_NodeOk_l2 {R : Type} {K : Ex → AS → Option R} {s : impl_NodeOk_t2.D} (n : Nat) {v : Option R} (h : iterG impl_NodeOk_t2 impl_NodeOk_B2 K n s = v) (hv : ∃ r, v = some r) : loopG impl_NodeOk_t2 impl_NodeOk_B2 K s = v := loop_eq (ev_mono _ _) n h hv
theorem impl_NodeOk_main (x0 : Int × Bool × Bool × List Int × (List Int × List (List Int) × Bool × Bool × Bool × Int × Unit) × (List Int × List Int × Unit) × List Bool × List (List Int) × List Bool × List Int × Unit) : impl_NodeOk_F (x0, ()) =
 (impl_isNode_F (x0.1, ())).bind fun y12 =>
 brk (!y12.1.1)
 (some ((false, ()), ((), ())))
 ((impl_ImageOk_F (x0.2.2.2.1, ())).bind fun y17 =>
 brk (!y17.1.1)
 (some ((false, ()), ((), ())))
 ((impl_MetaOk_F ((x0.2.2.2.2.1.1, (x0.2.2.2.2.1.2.1, (x0.2.2.2.2.1.2.2.1, (x0.2.2.2.2.1.2.2.2.1, (x0.2.2.2.2.1.2.2.2.2.1, (x0.2.2.2.2.1.2.2.2.2.2.1, ())))))), ())).bind fun y23 =>
 brk (!y23.1.1)
 (some ((false, ()), ((), ())))
 (brk (!decide ((x0.2.2.2.2.2.2.1.length : Int) = (3 : Int)))
 (some ((false, ()), ((), ())))
 ((impl_marksAll_F (x0.2.2.2.2.2.2.2.1, ())).bind fun y35 =>
 brk (!y35.1.1)
 (some ((false, ()), ((), ())))
 (brk (!decide ((x0.2.2.2.2.2.2.2.2.1.length : Int) = (3 : Int)))
 (some ((false, ()), ((), ())))
 (brk x0.2.2.1
 (brk (!x0.2.1)
 (some ((false, ()), ((), ())))
 (brk (decide (x0.1 = (2 : Int)))
 (some ((false, ()), ((), ())))
 (brk (!x0.2.1)
 (brk (decide ((0 : Int) < (x0.2.2.2.2.2.2.2.2.2.1.length : Int)))
 (some ((false, ()), ((), ())))
 ((impl_SlotGet_F ((x0.2.2.2.2.2.1.1, (x0.2.2.2.2.2.1.2.1, ())), ())).bind fun y72 =>
 brk (!y72.1.2.2.1)
 (some ((false, ()), ((), ())))
 ((impl_SameMeta_F ((y72.1.1.1, (y72.1.1.2.1, (y72.1.1.2.2.1, (y72.1.1.2.2.2.1, (y72.1.1.2.2.2.2.1, (y72.1.1.2.2.2.2.2.1, ())))))), ((x0.2.2.2.2.1.1, (x0.2.2.2.2.1.2.1, (x0.2.2.2.2.1.2.2.1, (x0.2.2.2.2.1.2.2.2.1, (x0.2.2.2.2.1.2.2.2.2.1, (x0.2.2.2.2.1.2.2.2.2.2.1, ())))))), ()))).bind fun y82 =>
 brk (!y82.1.1)
 (some ((false, ()), ((), ())))
 (loopG impl_NodeOk_t0 impl_NodeOk_B0 (impl_NodeOk_K0 x0) (((0 : Int), ()), ((x0.1, (x0.2.1, (x0.2.2.1, (x0.2.2.2.1, (x0.2.2.2.2.1.1, (x0.2.2.2.2.1.2.1, (x0.2.2.2.2.1.2.2.1, (x0.2.2.2.2.1.2.2.2.1, (x0.2.2.2.2.1.2.2.2.2.1, (x0.2.2.2.2.1.2.2.2.2.2.1, (x0.2.2.2.2.2.1.1, (x0.2.2.2.2.2.1.2.1, (x0.2.2.2.2.2.2.1, (x0.2.2.2.2.2.2.2.1, (x0.2.2.2.2.2.2.2.2.1, (x0.2.2.2.2.2.2.2.2.2.1, ())))))))))))))))), ()))))))
 ((impl_SlotGet_F ((x0.2.2.2.2.2.1.1, (x0.2.2.2.2.2.1.2.1, ())), ())).bind fun y72 =>
 brk (!y72.1.2.2.1)
 (some ((false, ()), ((), ())))
 ((impl_SameMeta_F ((y72.1.1.1, (y72.1.1.2.1, (y72.1.1.2.2.1, (y72.1.1.2.2.2.1, (y72.1.1.2.2.2.2.1, (y72.1.1.2.2.2.2.2.1, ())))))), ((x0.2.2.2.2.1.1, (x0.2.2.2.2.1.2.1, (x0.2.2.2.2.1.2.2.1, (x0.2.2.2.2.1.2.2.2.1, (x0.2.2.2.2.1.2.2.2.2.1, (x0.2.2.2.2.1.2.2.2.2.2.1, ())))))), ()))).bind fun y82 =>
 brk (!y82.1.1)
 (some ((false, ()), ((), ())))
 (loopG impl_NodeOk_t0 impl_NodeOk_B0 (impl_NodeOk_K0 x0) (((0 : Int), ()), ((x0.1, (x0.2.1, (x0.2.2.1, (x0.2.2.2.1, (x0.2.2.2.2.1.1, (x0.2.2.2.2.1.2.1, (x0.2.2.2.2.1.2.2.1, (x0.2.2.2.2.1.2.2.2.1, (x0.2.2.2.2.1.2.2.2.2.1, (x0.2.2.2.2.1.2.2.2.2.2.1, (x0.2.2.2.2.2.1.1, (x0.2.2.2.2.2.1.2.1, (x0.2.2.2.2.2.2.1, (x0.2.2.2.2.2.2.2.1, (x0.2.2.2.2.2.2.2.2.1, (x0.2.2.2.2.2.2.2.2.2.1, ())))))))))))))))), ()))))))))
 (brk (!x0.2.1)
 (brk (decide ((0 : Int) < (x0.2.2.2.2.2.2.2.2.2.1.length : Int)))
 (some ((false, ()), ((), ())))
 ((impl_SlotGet_F ((x0.2.2.2.2.2.1.1, (x0.2.2.2.2.2.1.2.1, ())), ())).bind fun y72 =>
 brk (!y72.1.2.2.1)
 (some ((false, ()), ((), ())))
 ((impl_SameMeta_F ((y72.1.1.1, (y72.1.1.2.1, (y72.1.1.2.2.1, (y72.1.1.2.2.2.1, (y72.1.1.2.2.2.2.1, (y72.1.1.2.2.2.2.2.1, ())))))), ((x0.2.2.2.2.1.1, (x0.2.2.2.2.1.2.1, (x0.2.2.2.2.1.2.2.1, (x0.2.2.2.2.1.2.2.2.1, (x0.2.2.2.2.1.2.2.2.2.1, (x0.2.2.2.2.1.2.2.2.2.2.1, ())))))), ()))).bind fun y82 =>
 brk (!y82.1.1)
 (some ((false, ()), ((), ())))
 (loopG impl_NodeOk_t0 impl_NodeOk_B0 (impl_NodeOk_K0 x0) (((0 : Int), ()), ((x0.1, (x0.2.1, (x0.2.2.1, (x0.2.2.2.1, (x0.2.2.2.2.1.1, (x0.2.2.2.2.1.2.1, (x0.2.2.2.2.1.2.2.1, (x0.2.2.2.2.1.2.2.2.1, (x0.2.2.2.2.1.2.2.2.2.1, (x0.2.2.2.2.1.2.2.2.2.2.1, (x0.2.2.2.2.2.1.1, (x0.2.2.2.2.2.1.2.1, (x0.2.2.2.2.2.2.1, (x0.2.2.2.2.2.2.2.1, (x0.2.2.2.2.2.2.2.2.1, (x0.2.2.2.2.2.2.2.2.2.1, ())))))))))))))))), ()))))))
 ((impl_SlotGet_F ((x0.2.2.2.2.2.1.1, (x0.2.2.2.2.2.1.2.1, ())), ())).bind fun y72 =>
 brk (!y72.1.2.2.1)
 (some ((false, ()), ((), ())))
 ((impl_SameMeta_F ((y72.1.1.1, (y72.1.1.2.1, (y72.1.1.2.2.1, (y72.1.1.2.2.2.1, (y72.1.1.2.2.2.2.1, (y72.1.1.2.2.2.2.2.1, ())))))), ((x0.2.2.2.2.1.1, (x0.2.2.2.2.1.2.1, (x0.2.2.2.2.1.2.2.1, (x0.2.2.2.2.1.2.2.2.1, (x0.2.2.2.2.1.2.2.2.2.1, (x0.2.2.2.2.1.2.2.2.2.2.1, ())))))), ()))).bind fun y82 =>
 brk (!y82.1.1)
 (some ((false, ()), ((), ())))
 (loopG impl_NodeOk_t0 impl_NodeOk_B0 (impl_NodeOk_K0 x0) (((0 : Int), ()), ((x0.1, (x0.2.1, (x0.2.2.1, (x0.2.2.2.1, (x0.2.2.2.2.1.1, (x0.2.2.2.2.1.2.1, (x0.2.2.2.2.1.2.2.1, (x0.2.2.2.2.1.2.2.2.1, (x0.2.2.2.2.1.2.2.2.2.1, (x0.2.2.2.2.1.2.2.2.2.2.1, (x0.2.2.2.2.2.1.1, (x0.2.2.2.2.2.1.2.1, (x0.2.2.2.2.2.2.1, (x0.2.2.2.2.2.2.2.1, (x0.2.2.2.2.2.2.2.2.1, (x0.2.2.2.2.2.2.2.2.2.1, ())))))))))))))))), ())))))))))))) := by kernel_rfl
theorem impl_NodeOk_r0 {R : Type} (K : Ex → AS → Option R) (n : Nat) (t85 : Int) (b16_0 : Int) (b16_1 : Bool) (b16_2 : Bool) (b16_3 : List Int) (b16_4 : List Int) (b16_5 : List (List Int)) (b16_6 : Bool) (b16_7 : Bool) (b16_8 : Bool) (b16_9 : Int) (b16_10 : List Int) (b16_11 : List Int) (b16_12 : List Bool) (b16_13 : List (List Int)) (b16_14 : List Bool) (b16_15 : List Int) : iterG impl_NodeOk_t0 impl_NodeOk_B0 K (n + 1) ((t85, ()), ((b16_0, (b16_1, (b16_2, (b16_3, (b16_4, (b16_5, (b16_6, (b16_7, (b16_8, (b16_9, (b16_10, (b16_11, (b16_12, (b16_13, (b16_14, (b16_15, ())))))))))))))))), ())) =
 brk (decide (t85 < (3 : Int)))
 (brk b16_1
 (ck (decide (0 ≤ t85) && decide (t85 < b16_12.length)) (brk (rdD tB b16_12 t85)
 (brk (!(!decide (t85 = b16_0)))
 (K .ret (impl_NodeOk_x0_0 false b16_0 b16_1 b16_2 b16_3 b16_4 b16_5 b16_6 b16_7 b16_8 b16_9 b16_10 b16_11 b16_12 b16_13 b16_14 b16_15))
 (ck (decide (0 ≤ t85) && decide (t85 < b16_14.length)) (brk (rdD tB b16_14 t85)
 (ck (decide (0 ≤ t85) && decide (t85 < b16_12.length)) (brk (!(rdD tB b16_12 t85))
 (K .ret (impl_NodeOk_x0_0 false b16_0 b16_1 b16_2 b16_3 b16_4 b16_5 b16_6 b16_7 b16_8 b16_9 b16_10 b16_11 b16_12 b16_13 b16_14 b16_15))
 (ck (decide (0 ≤ t85) && decide (t85 < b16_13.length)) (brk (decide ((0 : Int) < ((rdD tIs b16_13 t85).length : Int)))
 (ck (decide (0 ≤ t85) && decide (t85 < b16_14.length)) (brk (!(rdD tB b16_14 t85))
 (K .ret (impl_NodeOk_x0_0 false b16_0 b16_1 b16_2 b16_3 b16_4 b16_5 b16_6 b16_7 b16_8 b16_9 b16_10 b16_11 b16_12 b16_13 b16_14 b16_15))
 (iterG impl_NodeOk_t0 impl_NodeOk_B0 K n ((IntKind.i64.wrap (t85 + (1 : Int)), ()), ((b16_0, (b16_1, (b16_2, (b16_3, (b16_4, (b16_5, (b16_6, (b16_7, (b16_8, (b16_9, (b16_10, (b16_11, (b16_12, (b16_13, (b16_14, (b16_15, ())))))))))))))))), ())))))
 (iterG impl_NodeOk_t0 impl_NodeOk_B0 K n ((IntKind.i64.wrap (t85 + (1 : Int)), ()), ((b16_0, (b16_1, (b16_2, (b16_3, (b16_4, (b16_5, (b16_6, (b16_7, (b16_8, (b16_9, (b16_10, (b16_11, (b16_12, (b16_13, (b16_14, (b16_15, ())))))))))))))))), ())))))))
 (ck (decide (0 ≤ t85) && decide (t85 < b16_13.length)) (brk (decide ((0 : Int) < ((rdD tIs b16_13 t85).length : Int)))
 (ck (decide (0 ≤ t85) && decide (t85 < b16_14.length)) (brk (!(rdD tB b16_14 t85))
 (K .ret (impl_NodeOk_x0_0 false b16_0 b16_1 b16_2 b16_3 b16_4 b16_5 b16_6 b16_7 b16_8 b16_9 b16_10 b16_11 b16_12 b16_13 b16_14 b16_15))
 (iterG impl_NodeOk_t0 impl_NodeOk_B0 K n ((IntKind.i64.wrap (t85 + (1 : Int)), ()), ((b16_0, (b16_1, (b16_2, (b16_3, (b16_4, (b16_5, (b16_6, (b16_7, (b16_8, (b16_9, (b16_10, (b16_11, (b16_12, (b16_13, (b16_14, (b16_15, ())))))))))))))))), ())))))
 (iterG impl_NodeOk_t0 impl_NodeOk_B0 K n ((IntKind.i64.wrap (t85 + (1 : Int)), ()), ((b16_0, (b16_1, (b16_2, (b16_3, (b16_4, (b16_5, (b16_6, (b16_7, (b16_8, (b16_9, (b16_10, (b16_11, (b16_12, (b16_13, (b16_14, (b16_15, ())))))))))))))))), ()))))))))
 (ck (decide (0 ≤ t85) && decide (t85 < b16_14.length)) (brk (rdD tB b16_14 t85)
 (ck (decide (0 ≤ t85) && decide (t85 < b16_12.length)) (brk (!(rdD tB b16_12 t85))
 (K .ret (impl_NodeOk_x0_0 false b16_0 b16_1 b16_2 b16_3 b16_4 b16_5 b16_6 b16_7 b16_8 b16_9 b16_10 b16_11 b16_12 b16_13 b16_14 b16_15))
 (ck (decide (0 ≤ t85) && decide (t85 < b16_13.length)) (brk (decide ((0 : Int) < ((rdD tIs b16_13 t85).length : Int)))
 (ck (decide (0 ≤ t85) && decide (t85 < b16_14.length)) (brk (!(rdD tB b16_14 t85))
 (K .ret (impl_NodeOk_x0_0 false b16_0 b16_1 b16_2 b16_3 b16_4 b16_5 b16_6 b16_7 b16_8 b16_9 b16_10 b16_11 b16_12 b16_13 b16_14 b16_15))
 (iterG impl_NodeOk_t0 impl_NodeOk_B0 K n ((IntKind.i64.wrap (t85 + (1 : Int)), ()), ((b16_0, (b16_1, (b16_2, (b16_3, (b16_4, (b16_5, (b16_6, (b16_7, (b16_8, (b16_9, (b16_10, (b16_11, (b16_12, (b16_13, (b16_14, (b16_15, ())))))))))))))))), ())))))
 (iterG impl_NodeOk_t0 impl_NodeOk_B0 K n ((IntKind.i64.wrap (t85 + (1 : Int)), ()), ((b16_0, (b16_1, (b16_2, (b16_3, (b16_4, (b16_5, (b16_6, (b16_7, (b16_8, (b16_9, (b16_10, (b16_11, (b16_12, (b16_13, (b16_14, (b16_15, ())))))))))))))))), ())))))))
 (ck (decide (0 ≤ t85) && decide (t85 < b16_13.length)) (brk (decide ((0 : Int) < ((rdD tIs b16_13 t85).length : Int)))
 (ck (decide (0 ≤ t85) && decide (t85 < b16_14.length)) (brk (!(rdD tB b16_14 t85))
 (K .ret (impl_NodeOk_x0_0 false b16_0 b16_1 b16_2 b16_3 b16_4 b16_5 b16_6 b16_7 b16_8 b16_9 b16_10 b16_11 b16_12 b16_13 b16_14 b16_15))
 (iterG impl_NodeOk_t0 impl_NodeOk_B0 K n ((IntKind.i64.wrap (t85 + (1 : Int)), ()), ((b16_0, (b16_1, (b16_2, (b16_3, (b16_4, (b16_5, (b16_6, (b16_7, (b16_8, (b16_9, (b16_10, (b16_11, (b16_12, (b16_13, (b16_14, (b16_15, ())))))))))))))))), ())))))
 (iterG impl_NodeOk_t0 impl_NodeOk_B0 K n ((IntKind.i64.wrap (t85 + (1 : Int)), ()), ((b16_0, (b16_1, (b16_2, (b16_3, (b16_4, (b16_5, (b16_6, (b16_7, (b16_8, (b16_9, (b16_10, (b16_11, (b16_12, (b16_13, (b16_14, (b16_15, ())))))))))))))))), ())))))))))
 (ck (decide (0 ≤ t85) && decide (t85 < b16_12.length)) (brk (rdD tB b16_12 t85)
 (K .ret (impl_NodeOk_x0_0 false b16_0 b16_1 b16_2 b16_3 b16_4 b16_5 b16_6 b16_7 b16_8 b16_9 b16_10 b16_11 b16_12 b16_13 b16_14 b16_15))
 (ck (decide (0 ≤ t85) && decide (t85 < b16_14.length)) (brk (rdD tB b16_14 t85)
 (ck (decide (0 ≤ t85) && decide (t85 < b16_12.length)) (brk (!(rdD tB b16_12 t85))
 (K .ret (impl_NodeOk_x0_0 false b16_0 b16_1 b16_2 b16_3 b16_4 b16_5 b16_6 b16_7 b16_8 b16_9 b16_10 b16_11 b16_12 b16_13 b16_14 b16_15))
 (ck (decide (0 ≤ t85) && decide (t85 < b16_13.length)) (brk (decide ((0 : Int) < ((rdD tIs b16_13 t85).length : Int)))
 (ck (decide (0 ≤ t85) && decide (t85 < b16_14.length)) (brk (!(rdD tB b16_14 t85))
 (K .ret (impl_NodeOk_x0_0 false b16_0 b16_1 b16_2 b16_3 b16_4 b16_5 b16_6 b16_7 b16_8 b16_9 b16_10 b16_11 b16_12 b16_13 b16_14 b16_15))
 (iterG impl_NodeOk_t0 impl_NodeOk_B0 K n ((IntKind.i64.wrap (t85 + (1 : Int)), ()), ((b16_0, (b16_1, (b16_2, (b16_3, (b16_4, (b16_5, (b16_6, (b16_7, (b16_8, (b16_9, (b16_10, (b16_11, (b16_12, (b16_13, (b16_14, (b16_15, ())))))))))))))))), ())))))
 (iterG impl_NodeOk_t0 impl_NodeOk_B0 K n ((IntKind.i64.wrap (t85 + (1 : Int)), ()), ((b16_0, (b16_1, (b16_2, (b16_3, (b16_4, (b16_5, (b16_6, (b16_7, (b16_8, (b16_9, (b16_10, (b16_11, (b16_12, (b16_13, (b16_14, (b16_15, ())))))))))))))))), ())))))))
 (ck (decide (0 ≤ t85) && decide (t85 < b16_13.length)) (brk (decide ((0 : Int) < ((rdD tIs b16_13 t85).length : Int)))
 (ck (decide (0 ≤ t85) && decide (t85 < b16_14.length)) (brk (!(rdD tB b16_14 t85))
 (K .ret (impl_NodeOk_x0_0 false b16_0 b16_1 b16_2 b16_3 b16_4 b16_5 b16_6 b16_7 b16_8 b16_9 b16_10 b16_11 b16_12 b16_13 b16_14 b16_15))
 (iterG impl_NodeOk_t0 impl_NodeOk_B0 K n ((IntKind.i64.wrap (t85 + (1 : Int)), ()), ((b16_0, (b16_1, (b16_2, (b16_3, (b16_4, (b16_5, (b16_6, (b16_7, (b16_8, (b16_9, (b16_10, (b16_11, (b16_12, (b16_13, (b16_14, (b16_15, ())))))))))))))))), ())))))
 (iterG impl_NodeOk_t0 impl_NodeOk_B0 K n ((IntKind.i64.wrap (t85 + (1 : Int)), ()), ((b16_0, (b16_1, (b16_2, (b16_3, (b16_4, (b16_5, (b16_6, (b16_7, (b16_8, (b16_9, (b16_10, (b16_11, (b16_12, (b16_13, (b16_14, (b16_15, ())))))))))))))))), ()))))))))))
 (K (.exit 0) (impl_NodeOk_x0_1 b16_0 b16_1 b16_2 b16_3 b16_4 b16_5 b16_6 b16_7 b16_8 b16_9 b16_10 b16_11 b16_12 b16_13 b16_14 b16_15)) := by kernel_rfl
theorem impl_NodeOk_e0_0 (x0 : Int × Bool × Bool × List Int × (List Int × List (List Int) × Bool × Bool × Bool × Int × Unit) × (List Int × List Int × Unit) × List Bool × List (List Int) × List Bool × List Int × Unit) (d0 : Bool) (d1 : Int) (d2 : Bool) (d3 : Bool) (d4 : List Int) (d5 : List Int) (d6 : List (List Int)) (d7 : Bool) (d8 : Bool) (d9 : Bool) (d10 : Int) (d11 : List Int) (d12 : List Int) (d13 : List Bool) (d14 : List (List Int)) (d15 : List Bool) (d16 : List Int) : impl_NodeOk_K0 x0 .ret (impl_NodeOk_x0_0 d0 d1 d2 d3 d4 d5 d6 d7 d8 d9 d10 d11 d12 d13 d14 d15 d16) =
 some ((d0, ()), ((), ())) := by kernel_rfl
theorem impl_NodeOk_e0_1 (x0 : Int × Bool × Bool × List Int × (List Int × List (List Int) × Bool × Bool × Bool × Int × Unit) × (List Int × List Int × Unit) × List Bool × List (List Int) × List Bool × List Int × Unit) (d0 : Int) (d1 : Bool) (d2 : Bool) (d3 : List Int) (d4 : List Int) (d5 : List (List Int)) (d6 : Bool) (d7 : Bool) (d8 : Bool) (d9 : Int) (d10 : List Int) (d11 : List Int) (d12 : List Bool) (d13 : List (List Int)) (d14 : List Bool) (d15 : List Int) : impl_NodeOk_K0 x0 (.exit 0) (impl_NodeOk_x0_1 d0 d1 d2 d3 d4 d5 d6 d7 d8 d9 d10 d11 d12 d13 d14 d15) =
 loopG impl_NodeOk_t2 impl_NodeOk_B2 (impl_NodeOk_K2 x0) ((d15, ((d15.length : Int), ((0 : Int), ()))), ((d0, (d1, (d2, (d3, (d4, (d5, (d6, (d7, (d8, (d9, (d10, (d11, (d12, (d13, (d14, (d15, ())))))))))))))))), ())) := by kernel_rfl
theorem impl_NodeOk_r2 {R : Type} (K : Ex → AS → Option R) (n : Nat) (t139 : List Int) (t140 : Int) (t141 : Int) (b16_0 : Int) (b16_1 : Bool) (b16_2 : Bool) (b16_3 : List Int) (b16_4 : List Int) (b16_5 : List (List Int)) (b16_6 : Bool) (b16_7 : Bool) (b16_8 : Bool) (b16_9 : Int) (b16_10 : List Int) (b16_11 : List Int) (b16_12 : List Bool) (b16_13 : List (List Int)) (b16_14 : List Bool) (b16_15 : List Int) : iterG impl_NodeOk_t2 impl_NodeOk_B2 K (n + 1) ((t139, (t140, (t141, ()))), ((b16_0, (b16_1, (b16_2, (b16_3, (b16_4, (b16_5, (b16_6, (b16_7, (b16_8, (b16_9, (b16_10, (b16_11, (b16_12, (b16_13, (b16_14, (b16_15, ())))))))))))))))), ())) =
 brk (decide (t141 < t140))
 (ck (decide (0 ≤ t141) && decide (t141 < t139.length)) ((impl_isWrite_F (rdD tI t139 t141, ())).bind fun y147 =>
 brk (!y147.1.1)
 (K .ret (impl_NodeOk_x2_0 false))
 (brk (decide ((0 : Int) < t141))
 (ck (decide (0 ≤ IntKind.i64.wrap (t141 - (1 : Int))) && decide (IntKind.i64.wrap (t141 - (1 : Int)) < b16_15.length)) (brk (decide (rdD tI t139 t141 ≤ rdD tI b16_15 (IntKind.i64.wrap (t141 - (1 : Int)))))
 (K .ret (impl_NodeOk_x2_0 false))
 (iterG impl_NodeOk_t2 impl_NodeOk_B2 K n ((t139, (t140, (IntKind.i64.wrap (t141 + (1 : Int)), ()))), ((b16_0, (b16_1, (b16_2, (b16_3, (b16_4, (b16_5, (b16_6, (b16_7, (b16_8, (b16_9, (b16_10, (b16_11, (b16_12, (b16_13, (b16_14, (b16_15, ())))))))))))))))), ())))))
 (iterG impl_NodeOk_t2 impl_NodeOk_B2 K n ((t139, (t140, (IntKind.i64.wrap (t141 + (1 : Int)), ()))), ((b16_0, (b16_1, (b16_2, (b16_3, (b16_4, (b16_5, (b16_6, (b16_7, (b16_8, (b16_9, (b16_10, (b16_11, (b16_12, (b16_13, (b16_14, (b16_15, ())))))))))))))))), ()))))))
 (K (.exit 2) (impl_NodeOk_x2_1)) := by kernel_rfl
theorem impl_NodeOk_e2_0 (x0 : Int × Bool × Bool × List Int × (List Int × List (List Int) × Bool × Bool × Bool × Int × Unit) × (List Int × List Int × Unit) × List Bool × List (List Int) × List Bool × List Int × Unit) (d0 : Bool) : impl_NodeOk_K2 x0 .ret (impl_NodeOk_x2_0 d0) =
 some ((d0, ()), ((), ())) := by kernel_rfl
theorem impl_NodeOk_e2_1 (x0 : Int × Bool × Bool × List Int × (List Int × List (List Int) × Bool × Bool × Bool × Int × Unit) × (List Int × List Int × Unit) × List Bool × List (List Int) × List Bool × List Int × Unit) : impl_NodeOk_K2 x0 (.exit 2) (impl_NodeOk_x2_1) =
 some ((true, ()), ((), ())) := by kernel_rfl
/-! impl.Fall -/
noncomputable def impl_Fall_b : Code := bd Tryz.f14
def impl_Fall_T : List (Nat × Tm) := []
noncomputable def impl_Fall_E : Env := ⟨tt0, [(32, impl_copyNode_C), (33, impl_NodeOk_C)]⟩
noncomputable def impl_Fall_F : PsD [.ro tNode] → Option (RsD [.own tNode] × PsO [.ro tNode]) := fun x => evFn impl_Fall_E impl_Fall_T Tryz.f14 impl_Fall_b [.ro tNode] [.own tNode] x
@[reducible] noncomputable def impl_Fall_C : Ct := ⟨[.ro tNode], [.own tNode], impl_Fall_F⟩
theorem impl_Fall_h (x : PsD [.ro tNode]) (y : RsD [.own tNode] × PsO [.ro tNode]) (h : impl_Fall_F x = some y) : evFn impl_Fall_E impl_Fall_T Tryz.f14 impl_Fall_b [.ro tNode] [.own tNode] x = some y := h
theorem impl_Fall_c : ∀ f c, get impl_Fall_E.ct f = some c → Sat Tryz.prog f c := ct_cons impl_copyNode_S (ct_cons impl_NodeOk_S (ct_nil))
theorem impl_Fall_S : Sat Tryz.prog 14 impl_Fall_C := fn_ok2 (envOk _) impl_Fall_c mixedOk Tryz.func14 (by kernel_rfl : Tryz.f14.body = some impl_Fall_b) (by kernel_rfl) (by kernel_rfl) impl_Fall_h
noncomputable def impl_Fall_Ke  (x0 : Int × Bool × Bool × List Int × (List Int × List (List Int) × Bool × Bool × Bool × Int × Unit) × (List Int × List Int × Unit) × List Bool × List (List Int) × List Bool × List Int × Unit) : Ex → AS → Option (RsD [.own tNode] × PsO [.ro tNode]) := endK impl_Fall_E Tryz.f14 [.ro tNode] [.own tNode] (initL [.ro tNode] (x0, ()) 0).1
theorem impl_Fall_main (x0 : Int × Bool × Bool × List Int × (List Int × List (List Int) × Bool × Bool × Bool × Int × Unit) × (List Int × List Int × Unit) × List Bool × List (List Int) × List Bool × List Int × Unit) : impl_Fall_F (x0, ()) =
 (impl_copyNode_F ((x0.1, (x0.2.1, (x0.2.2.1, (x0.2.2.2.1, ((x0.2.2.2.2.1.1, (x0.2.2.2.2.1.2.1, (x0.2.2.2.2.1.2.2.1, (x0.2.2.2.2.1.2.2.2.1, (x0.2.2.2.2.1.2.2.2.2.1, (x0.2.2.2.2.1.2.2.2.2.2.1, ())))))), ((x0.2.2.2.2.2.1.1, (x0.2.2.2.2.2.1.2.1, ())), (x0.2.2.2.2.2.2.1, (x0.2.2.2.2.2.2.2.1, (x0.2.2.2.2.2.2.2.2.1, (x0.2.2.2.2.2.2.2.2.2.1, ())))))))))), ())).bind fun y4 =>
 (impl_NodeOk_F ((y4.1.1.1, (y4.1.1.2.1, (y4.1.1.2.2.1, (y4.1.1.2.2.2.1, ((y4.1.1.2.2.2.2.1.1, (y4.1.1.2.2.2.2.1.2.1, (y4.1.1.2.2.2.2.1.2.2.1, (y4.1.1.2.2.2.2.1.2.2.2.1, (y4.1.1.2.2.2.2.1.2.2.2.2.1, (y4.1.1.2.2.2.2.1.2.2.2.2.2.1, ())))))), ((y4.1.1.2.2.2.2.2.1.1, (y4.1.1.2.2.2.2.2.1.2.1, ())), (y4.1.1.2.2.2.2.2.2.1, (y4.1.1.2.2.2.2.2.2.2.1, (y4.1.1.2.2.2.2.2.2.2.2.1, (y4.1.1.2.2.2.2.2.2.2.2.2.1, ())))))))))), ())).bind fun y6 =>
 brk (!y6.1.1)
 (some (((y4.1.1.1, (y4.1.1.2.1, (y4.1.1.2.2.1, (y4.1.1.2.2.2.1, ((y4.1.1.2.2.2.2.1.1, (y4.1.1.2.2.2.2.1.2.1, (y4.1.1.2.2.2.2.1.2.2.1, (y4.1.1.2.2.2.2.1.2.2.2.1, (y4.1.1.2.2.2.2.1.2.2.2.2.1, (y4.1.1.2.2.2.2.1.2.2.2.2.2.1, ())))))), ((y4.1.1.2.2.2.2.2.1.1, (y4.1.1.2.2.2.2.2.1.2.1, ())), (y4.1.1.2.2.2.2.2.2.1, (y4.1.1.2.2.2.2.2.2.2.1, (y4.1.1.2.2.2.2.2.2.2.2.1, (y4.1.1.2.2.2.2.2.2.2.2.2.1, ())))))))))), ()), ((), ())))
 (ck (decide (0 ≤ (3 : Int)) && decide ((3 : Int) = (3 : Int)) && decide ((3 : Int) * (1 : Int) ≤ 140737488355328) && decide ((3 : Int) ≤ 140737488355328)) (ck (decide (0 ≤ (3 : Int)) && decide ((3 : Int) = (3 : Int)) && decide ((3 : Int) * (24 : Int) ≤ 140737488355328) && decide ((3 : Int) ≤ 140737488355328)) (ck (decide (0 ≤ (3 : Int)) && decide ((3 : Int) = (3 : Int)) && decide ((3 : Int) * (1 : Int) ≤ 140737488355328) && decide ((3 : Int) ≤ 140737488355328)) (some (((y4.1.1.1, (false, (false, (y4.1.1.2.2.2.1, ((y4.1.1.2.2.2.2.1.1, (y4.1.1.2.2.2.2.1.2.1, (y4.1.1.2.2.2.2.1.2.2.1, (y4.1.1.2.2.2.2.1.2.2.2.1, (y4.1.1.2.2.2.2.1.2.2.2.2.1, (y4.1.1.2.2.2.2.1.2.2.2.2.2.1, ())))))), ((y4.1.1.2.2.2.2.2.1.1, (y4.1.1.2.2.2.2.2.1.2.1, ())), (List.replicate (3 : Int).toNat tB.zero, (List.replicate (3 : Int).toNat tIs.zero, (List.replicate (3 : Int).toNat tB.zero, (([] : List Int), ())))))))))), ()), ((), ())))))) := by kernel_rfl
/-! laws.FnExactFall -/
noncomputable def laws_FnExactFall_b : Code := bd Tryz.f4
def laws_FnExactFall_T : List (Nat × Tm) := []
noncomputable def laws_FnExactFall_E : Env := ⟨tt0, [(6, laws_szNode_C), (8, laws_toNode_C), (10, laws_eqNode_C), (11, laws_markNode_C), (12, laws_heldNode_C), (13, spec_Fall_C), (14, impl_Fall_C)]⟩
noncomputable def laws_FnExactFall_F : PsD [.ro tNode] → Option (RsD [.own tB] × PsO [.ro tNode]) := fun x => evFn laws_FnExactFall_E laws_FnExactFall_T Tryz.f4 laws_FnExactFall_b [.ro tNode] [.own tB] x
@[reducible] noncomputable def laws_FnExactFall_C : Ct := ⟨[.ro tNode], [.own tB], laws_FnExactFall_F⟩
theorem laws_FnExactFall_h (x : PsD [.ro tNode]) (y : RsD [.own tB] × PsO [.ro tNode]) (h : laws_FnExactFall_F x = some y) : evFn laws_FnExactFall_E laws_FnExactFall_T Tryz.f4 laws_FnExactFall_b [.ro tNode] [.own tB] x = some y := h
theorem laws_FnExactFall_c : ∀ f c, get laws_FnExactFall_E.ct f = some c → Sat Tryz.prog f c := ct_cons laws_szNode_S (ct_cons laws_toNode_S (ct_cons laws_eqNode_S (ct_cons laws_markNode_S (ct_cons laws_heldNode_S (ct_cons spec_Fall_S (ct_cons impl_Fall_S (ct_nil)))))))
theorem laws_FnExactFall_S : Sat Tryz.prog 4 laws_FnExactFall_C := fn_ok2 (envOk _) laws_FnExactFall_c mixedOk Tryz.func4 (by kernel_rfl : Tryz.f4.body = some laws_FnExactFall_b) (by kernel_rfl) (by kernel_rfl) laws_FnExactFall_h
noncomputable def laws_FnExactFall_Ke  (x0 : Int × Bool × Bool × List Int × (List Int × List (List Int) × Bool × Bool × Bool × Int × Unit) × (List Int × List Int × Unit) × List Bool × List (List Int) × List Bool × List Int × Unit) : Ex → AS → Option (RsD [.own tB] × PsO [.ro tNode]) := endK laws_FnExactFall_E Tryz.f4 [.ro tNode] [.own tB] (initL [.ro tNode] (x0, ()) 0).1
theorem laws_FnExactFall_main (x0 : Int × Bool × Bool × List Int × (List Int × List (List Int) × Bool × Bool × Bool × Int × Unit) × (List Int × List Int × Unit) × List Bool × List (List Int) × List Bool × List Int × Unit) : laws_FnExactFall_F (x0, ()) =
 (laws_szNode_F ((x0.1, (x0.2.1, (x0.2.2.1, (x0.2.2.2.1, ((x0.2.2.2.2.1.1, (x0.2.2.2.2.1.2.1, (x0.2.2.2.2.1.2.2.1, (x0.2.2.2.2.1.2.2.2.1, (x0.2.2.2.2.1.2.2.2.2.1, (x0.2.2.2.2.1.2.2.2.2.2.1, ())))))), ((x0.2.2.2.2.2.1.1, (x0.2.2.2.2.2.1.2.1, ())), (x0.2.2.2.2.2.2.1, (x0.2.2.2.2.2.2.2.1, (x0.2.2.2.2.2.2.2.2.1, (x0.2.2.2.2.2.2.2.2.2.1, ())))))))))), ((1048576 : Int), ()))).bind fun y13 =>
 brk (decide (y13.1.1 < (0 : Int)))
 (some ((true, ()), ((), ())))
 ((laws_toNode_F ((x0.1, (x0.2.1, (x0.2.2.1, (x0.2.2.2.1, ((x0.2.2.2.2.1.1, (x0.2.2.2.2.1.2.1, (x0.2.2.2.2.1.2.2.1, (x0.2.2.2.2.1.2.2.2.1, (x0.2.2.2.2.1.2.2.2.2.1, (x0.2.2.2.2.1.2.2.2.2.2.1, ())))))), ((x0.2.2.2.2.2.1.1, (x0.2.2.2.2.2.1.2.1, ())), (x0.2.2.2.2.2.2.1, (x0.2.2.2.2.2.2.2.1, (x0.2.2.2.2.2.2.2.2.1, (x0.2.2.2.2.2.2.2.2.2.1, ())))))))))), ())).bind fun y17 =>
 (spec_Fall_F ((y17.1.1.1, (y17.1.1.2.1, (y17.1.1.2.2.1, (y17.1.1.2.2.2.1, ((y17.1.1.2.2.2.2.1.1, (y17.1.1.2.2.2.2.1.2.1, (y17.1.1.2.2.2.2.1.2.2.1, (y17.1.1.2.2.2.2.1.2.2.2.1, (y17.1.1.2.2.2.2.1.2.2.2.2.1, (y17.1.1.2.2.2.2.1.2.2.2.2.2.1, ())))))), ((y17.1.1.2.2.2.2.2.1.1, (y17.1.1.2.2.2.2.2.1.2.1, ())), (y17.1.1.2.2.2.2.2.2.1, (y17.1.1.2.2.2.2.2.2.2.1, (y17.1.1.2.2.2.2.2.2.2.2.1, (y17.1.1.2.2.2.2.2.2.2.2.2.1, ())))))))))), ())).bind fun y18 =>
 (laws_toNode_F ((x0.1, (x0.2.1, (x0.2.2.1, (x0.2.2.2.1, ((x0.2.2.2.2.1.1, (x0.2.2.2.2.1.2.1, (x0.2.2.2.2.1.2.2.1, (x0.2.2.2.2.1.2.2.2.1, (x0.2.2.2.2.1.2.2.2.2.1, (x0.2.2.2.2.1.2.2.2.2.2.1, ())))))), ((x0.2.2.2.2.2.1.1, (x0.2.2.2.2.2.1.2.1, ())), (x0.2.2.2.2.2.2.1, (x0.2.2.2.2.2.2.2.1, (x0.2.2.2.2.2.2.2.2.1, (x0.2.2.2.2.2.2.2.2.2.1, ())))))))))), ())).bind fun y20 =>
 (impl_Fall_F ((y20.1.1.1, (y20.1.1.2.1, (y20.1.1.2.2.1, (y20.1.1.2.2.2.1, ((y20.1.1.2.2.2.2.1.1, (y20.1.1.2.2.2.2.1.2.1, (y20.1.1.2.2.2.2.1.2.2.1, (y20.1.1.2.2.2.2.1.2.2.2.1, (y20.1.1.2.2.2.2.1.2.2.2.2.1, (y20.1.1.2.2.2.2.1.2.2.2.2.2.1, ())))))), ((y20.1.1.2.2.2.2.2.1.1, (y20.1.1.2.2.2.2.2.1.2.1, ())), (y20.1.1.2.2.2.2.2.2.1, (y20.1.1.2.2.2.2.2.2.2.1, (y20.1.1.2.2.2.2.2.2.2.2.1, (y20.1.1.2.2.2.2.2.2.2.2.2.1, ())))))))))), ())).bind fun y22 =>
 (laws_eqNode_F ((y22.1.1.1, (y22.1.1.2.1, (y22.1.1.2.2.1, (y22.1.1.2.2.2.1, ((y22.1.1.2.2.2.2.1.1, (y22.1.1.2.2.2.2.1.2.1, (y22.1.1.2.2.2.2.1.2.2.1, (y22.1.1.2.2.2.2.1.2.2.2.1, (y22.1.1.2.2.2.2.1.2.2.2.2.1, (y22.1.1.2.2.2.2.1.2.2.2.2.2.1, ())))))), ((y22.1.1.2.2.2.2.2.1.1, (y22.1.1.2.2.2.2.2.1.2.1, ())), (y22.1.1.2.2.2.2.2.2.1, (y22.1.1.2.2.2.2.2.2.2.1, (y22.1.1.2.2.2.2.2.2.2.2.1, (y22.1.1.2.2.2.2.2.2.2.2.2.1, ())))))))))), ((y18.1.1.1, (y18.1.1.2.1, (y18.1.1.2.2.1, (y18.1.1.2.2.2.1, ((y18.1.1.2.2.2.2.1.1, (y18.1.1.2.2.2.2.1.2.1, (y18.1.1.2.2.2.2.1.2.2.1, (y18.1.1.2.2.2.2.1.2.2.2.1, (y18.1.1.2.2.2.2.1.2.2.2.2.1, (y18.1.1.2.2.2.2.1.2.2.2.2.2.1, ())))))), ((y18.1.1.2.2.2.2.2.1.1, (y18.1.1.2.2.2.2.2.1.2.1, ())), (y18.1.1.2.2.2.2.2.2.1, (y18.1.1.2.2.2.2.2.2.2.1, (y18.1.1.2.2.2.2.2.2.2.2.1, (y18.1.1.2.2.2.2.2.2.2.2.2.1, ())))))))))), ()))).bind fun y25 =>
 brk (!y25.1.1)
 (some ((false, ()), ((), ())))
 ((laws_toNode_F ((x0.1, (x0.2.1, (x0.2.2.1, (x0.2.2.2.1, ((x0.2.2.2.2.1.1, (x0.2.2.2.2.1.2.1, (x0.2.2.2.2.1.2.2.1, (x0.2.2.2.2.1.2.2.2.1, (x0.2.2.2.2.1.2.2.2.2.1, (x0.2.2.2.2.1.2.2.2.2.2.1, ())))))), ((x0.2.2.2.2.2.1.1, (x0.2.2.2.2.2.1.2.1, ())), (x0.2.2.2.2.2.2.1, (x0.2.2.2.2.2.2.2.1, (x0.2.2.2.2.2.2.2.2.1, (x0.2.2.2.2.2.2.2.2.2.1, ())))))))))), ())).bind fun y29 =>
 (laws_eqNode_F ((y20.1.1.1, (y20.1.1.2.1, (y20.1.1.2.2.1, (y20.1.1.2.2.2.1, ((y20.1.1.2.2.2.2.1.1, (y20.1.1.2.2.2.2.1.2.1, (y20.1.1.2.2.2.2.1.2.2.1, (y20.1.1.2.2.2.2.1.2.2.2.1, (y20.1.1.2.2.2.2.1.2.2.2.2.1, (y20.1.1.2.2.2.2.1.2.2.2.2.2.1, ())))))), ((y20.1.1.2.2.2.2.2.1.1, (y20.1.1.2.2.2.2.2.1.2.1, ())), (y20.1.1.2.2.2.2.2.2.1, (y20.1.1.2.2.2.2.2.2.2.1, (y20.1.1.2.2.2.2.2.2.2.2.1, (y20.1.1.2.2.2.2.2.2.2.2.2.1, ())))))))))), ((y29.1.1.1, (y29.1.1.2.1, (y29.1.1.2.2.1, (y29.1.1.2.2.2.1, ((y29.1.1.2.2.2.2.1.1, (y29.1.1.2.2.2.2.1.2.1, (y29.1.1.2.2.2.2.1.2.2.1, (y29.1.1.2.2.2.2.1.2.2.2.1, (y29.1.1.2.2.2.2.1.2.2.2.2.1, (y29.1.1.2.2.2.2.1.2.2.2.2.2.1, ())))))), ((y29.1.1.2.2.2.2.2.1.1, (y29.1.1.2.2.2.2.2.1.2.1, ())), (y29.1.1.2.2.2.2.2.2.1, (y29.1.1.2.2.2.2.2.2.2.1, (y29.1.1.2.2.2.2.2.2.2.2.1, (y29.1.1.2.2.2.2.2.2.2.2.2.1, ())))))))))), ()))).bind fun y30 =>
 brk (!y30.1.1)
 (some ((false, ()), ((), ())))
 ((laws_markNode_F ((y20.1.1.1, (y20.1.1.2.1, (y20.1.1.2.2.1, (y20.1.1.2.2.2.1, ((y20.1.1.2.2.2.2.1.1, (y20.1.1.2.2.2.2.1.2.1, (y20.1.1.2.2.2.2.1.2.2.1, (y20.1.1.2.2.2.2.1.2.2.2.1, (y20.1.1.2.2.2.2.1.2.2.2.2.1, (y20.1.1.2.2.2.2.1.2.2.2.2.2.1, ())))))), ((y20.1.1.2.2.2.2.2.1.1, (y20.1.1.2.2.2.2.2.1.2.1, ())), (y20.1.1.2.2.2.2.2.2.1, (y20.1.1.2.2.2.2.2.2.2.1, (y20.1.1.2.2.2.2.2.2.2.2.1, (y20.1.1.2.2.2.2.2.2.2.2.2.1, ())))))))))), ((1 : Int), ()))).bind fun y34 =>
 brk (decide (y34.1.1 < (0 : Int)))
 (some ((false, ()), ((), ())))
 ((laws_eqNode_F ((y22.1.1.1, (y22.1.1.2.1, (y22.1.1.2.2.1, (y22.1.1.2.2.2.1, ((y22.1.1.2.2.2.2.1.1, (y22.1.1.2.2.2.2.1.2.1, (y22.1.1.2.2.2.2.1.2.2.1, (y22.1.1.2.2.2.2.1.2.2.2.1, (y22.1.1.2.2.2.2.1.2.2.2.2.1, (y22.1.1.2.2.2.2.1.2.2.2.2.2.1, ())))))), ((y22.1.1.2.2.2.2.2.1.1, (y22.1.1.2.2.2.2.2.1.2.1, ())), (y22.1.1.2.2.2.2.2.2.1, (y22.1.1.2.2.2.2.2.2.2.1, (y22.1.1.2.2.2.2.2.2.2.2.1, (y22.1.1.2.2.2.2.2.2.2.2.2.1, ())))))))))), ((y18.1.1.1, (y18.1.1.2.1, (y18.1.1.2.2.1, (y18.1.1.2.2.2.1, ((y18.1.1.2.2.2.2.1.1, (y18.1.1.2.2.2.2.1.2.1, (y18.1.1.2.2.2.2.1.2.2.1, (y18.1.1.2.2.2.2.1.2.2.2.1, (y18.1.1.2.2.2.2.1.2.2.2.2.1, (y18.1.1.2.2.2.2.1.2.2.2.2.2.1, ())))))), ((y18.1.1.2.2.2.2.2.1.1, (y18.1.1.2.2.2.2.2.1.2.1, ())), (y18.1.1.2.2.2.2.2.2.1, (y18.1.1.2.2.2.2.2.2.2.1, (y18.1.1.2.2.2.2.2.2.2.2.1, (y18.1.1.2.2.2.2.2.2.2.2.2.1, ())))))))))), ()))).bind fun y40 =>
 brk (!y40.1.1)
 (some ((false, ()), ((), ())))
 ((laws_markNode_F ((y22.1.1.1, (y22.1.1.2.1, (y22.1.1.2.2.1, (y22.1.1.2.2.2.1, ((y22.1.1.2.2.2.2.1.1, (y22.1.1.2.2.2.2.1.2.1, (y22.1.1.2.2.2.2.1.2.2.1, (y22.1.1.2.2.2.2.1.2.2.2.1, (y22.1.1.2.2.2.2.1.2.2.2.2.1, (y22.1.1.2.2.2.2.1.2.2.2.2.2.1, ())))))), ((y22.1.1.2.2.2.2.2.1.1, (y22.1.1.2.2.2.2.2.1.2.1, ())), (y22.1.1.2.2.2.2.2.2.1, (y22.1.1.2.2.2.2.2.2.2.1, (y22.1.1.2.2.2.2.2.2.2.2.1, (y22.1.1.2.2.2.2.2.2.2.2.2.1, ())))))))))), ((1 : Int), ()))).bind fun y45 =>
 (laws_heldNode_F ((y22.1.1.1, (y22.1.1.2.1, (y22.1.1.2.2.1, (y45.2.1.2.2.2.1, ((y45.2.1.2.2.2.2.1.1, (y45.2.1.2.2.2.2.1.2.1, (y22.1.1.2.2.2.2.1.2.2.1, (y22.1.1.2.2.2.2.1.2.2.2.1, (y22.1.1.2.2.2.2.1.2.2.2.2.1, (y22.1.1.2.2.2.2.1.2.2.2.2.2.1, ())))))), ((y45.2.1.2.2.2.2.2.1.1, (y45.2.1.2.2.2.2.2.1.2.1, ())), (y45.2.1.2.2.2.2.2.2.1, (y45.2.1.2.2.2.2.2.2.2.1, (y45.2.1.2.2.2.2.2.2.2.2.1, (y45.2.1.2.2.2.2.2.2.2.2.2.1, ())))))))))), ((1 : Int), ()))).bind fun y48 =>
 brk (decide (y48.1.1 < (0 : Int)))
 (some ((false, ()), ((), ())))
 (brk (!decide (y48.1.1 = y45.1.1))
 (some ((false, ()), ((), ())))
 ((laws_toNode_F ((x0.1, (x0.2.1, (x0.2.2.1, (x0.2.2.2.1, ((x0.2.2.2.2.1.1, (x0.2.2.2.2.1.2.1, (x0.2.2.2.2.1.2.2.1, (x0.2.2.2.2.1.2.2.2.1, (x0.2.2.2.2.1.2.2.2.2.1, (x0.2.2.2.2.1.2.2.2.2.2.1, ())))))), ((x0.2.2.2.2.2.1.1, (x0.2.2.2.2.2.1.2.1, ())), (x0.2.2.2.2.2.2.1, (x0.2.2.2.2.2.2.2.1, (x0.2.2.2.2.2.2.2.2.1, (x0.2.2.2.2.2.2.2.2.2.1, ())))))))))), ())).bind fun y55 =>
 (impl_Fall_F ((y55.1.1.1, (y55.1.1.2.1, (y55.1.1.2.2.1, (y55.1.1.2.2.2.1, ((y55.1.1.2.2.2.2.1.1, (y55.1.1.2.2.2.2.1.2.1, (y55.1.1.2.2.2.2.1.2.2.1, (y55.1.1.2.2.2.2.1.2.2.2.1, (y55.1.1.2.2.2.2.1.2.2.2.2.1, (y55.1.1.2.2.2.2.1.2.2.2.2.2.1, ())))))), ((y55.1.1.2.2.2.2.2.1.1, (y55.1.1.2.2.2.2.2.1.2.1, ())), (y55.1.1.2.2.2.2.2.2.1, (y55.1.1.2.2.2.2.2.2.2.1, (y55.1.1.2.2.2.2.2.2.2.2.1, (y55.1.1.2.2.2.2.2.2.2.2.2.1, ())))))))))), ())).bind fun y56 =>
 (laws_eqNode_F ((y56.1.1.1, (y56.1.1.2.1, (y56.1.1.2.2.1, (y56.1.1.2.2.2.1, ((y56.1.1.2.2.2.2.1.1, (y56.1.1.2.2.2.2.1.2.1, (y56.1.1.2.2.2.2.1.2.2.1, (y56.1.1.2.2.2.2.1.2.2.2.1, (y56.1.1.2.2.2.2.1.2.2.2.2.1, (y56.1.1.2.2.2.2.1.2.2.2.2.2.1, ())))))), ((y56.1.1.2.2.2.2.2.1.1, (y56.1.1.2.2.2.2.2.1.2.1, ())), (y56.1.1.2.2.2.2.2.2.1, (y56.1.1.2.2.2.2.2.2.2.1, (y56.1.1.2.2.2.2.2.2.2.2.1, (y56.1.1.2.2.2.2.2.2.2.2.2.1, ())))))))))), ((y18.1.1.1, (y18.1.1.2.1, (y18.1.1.2.2.1, (y18.1.1.2.2.2.1, ((y18.1.1.2.2.2.2.1.1, (y18.1.1.2.2.2.2.1.2.1, (y18.1.1.2.2.2.2.1.2.2.1, (y18.1.1.2.2.2.2.1.2.2.2.1, (y18.1.1.2.2.2.2.1.2.2.2.2.1, (y18.1.1.2.2.2.2.1.2.2.2.2.2.1, ())))))), ((y18.1.1.2.2.2.2.2.1.1, (y18.1.1.2.2.2.2.2.1.2.1, ())), (y18.1.1.2.2.2.2.2.2.1, (y18.1.1.2.2.2.2.2.2.2.1, (y18.1.1.2.2.2.2.2.2.2.2.1, (y18.1.1.2.2.2.2.2.2.2.2.2.1, ())))))))))), ()))).bind fun y59 =>
 brk (!y59.1.1)
 (some ((false, ()), ((), ())))
 ((laws_heldNode_F ((y22.1.1.1, (y22.1.1.2.1, (y22.1.1.2.2.1, (y45.2.1.2.2.2.1, ((y45.2.1.2.2.2.2.1.1, (y45.2.1.2.2.2.2.1.2.1, (y22.1.1.2.2.2.2.1.2.2.1, (y22.1.1.2.2.2.2.1.2.2.2.1, (y22.1.1.2.2.2.2.1.2.2.2.2.1, (y22.1.1.2.2.2.2.1.2.2.2.2.2.1, ())))))), ((y45.2.1.2.2.2.2.2.1.1, (y45.2.1.2.2.2.2.2.1.2.1, ())), (y45.2.1.2.2.2.2.2.2.1, (y45.2.1.2.2.2.2.2.2.2.1, (y45.2.1.2.2.2.2.2.2.2.2.1, (y45.2.1.2.2.2.2.2.2.2.2.2.1, ())))))))))), ((1 : Int), ()))).bind fun y63 =>
 brk (decide (y63.1.1 < (0 : Int)))
 (some ((false, ()), ((), ())))
 (brk (!decide (y63.1.1 = y45.1.1))
 (some ((false, ()), ((), ())))
 (some ((true, ()), ((), ())))))))))))) := by kernel_rfl
end Go.Refl
