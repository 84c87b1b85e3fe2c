/- Functions of the program, told by the evaluator: printed by a program of this claim. No condition. -/
import Derived.Test.YthmaaogfmakohaaFnMessagesGf
namespace Go.Refl
open Go.RowKit Go.Proofs
set_option linter.unusedVariables false
set_option maxRecDepth 100000
/-! laws.FnMessages -/
noncomputable def laws_FnMessages_b : Code := bd Try.f5
@[reducible] def laws_FnMessages_t0 : Tm := ⟨[], [], [(3, .ptr 48 0), (4, .own 592), (14, .own 960), (15, .own 992), (21, .sc true tB), (22, .sc true tI)], [(48, .box [.sc true tI, .sc true tI, .sc true tI, .sc true tI, .own 560]), (560, .arr 3 tI), (592, .arr 5 tY), (960, .arr 47 tMsg), (992, .arr 5 tY)], [3, 4, 14, 15, 21, 164, 165, 166, 167, 168, 210, 211, 212, 213, 216, 217, 218, 221, 222], [48, 560, 592, 960, 992]⟩
@[reducible] def laws_FnMessages_t2 : Tm := ⟨[], [], [(3, .ptr 48 0), (4, .own 592), (14, .own 960), (23, .own 2528), (25, .sc true tI)], [(48, .box [.sc true tI, .sc true tI, .sc true tI, .sc true tI, .own 560]), (560, .arr 3 tI), (592, .arr 5 tY), (960, .arr 47 tMsg), (2528, .arr 47 tMsg)], [2, 3, 4, 210, 211, 212, 213, 216, 217, 218, 221, 222], [48, 560, 592]⟩
def laws_FnMessages_T : List (Nat × Tm) := [(0, laws_FnMessages_t0), (2, laws_FnMessages_t2)]
noncomputable def laws_FnMessages_E : Env := ⟨tt0, [(6, laws_big_C), (22, spec_Unpack_C), (24, impl_Unpack_C), (30, spec_DrawMsgBytes_C), (31, impl_MsgBytes_C), (32, spec_DrawMsgOf_C), (33, impl_MsgOf_C), (34, spec_MsgOf_C), (35, spec_DrawMsgOk_C), (36, spec_DrawPack_C), (37, impl_Pack_C), (38, spec_DrawUnpack_C), (39, spec_MsgBytes_C), (40, impl_MsgOk_C), (41, spec_MsgOk_C), (42, spec_Pack_C), (43, laws_sameMsg_C)]⟩
noncomputable def laws_FnMessages_F : PsD [.ro tYs] → Option (RsD [.own tB] × PsO [.ro tYs]) := fun x => evFn laws_FnMessages_E laws_FnMessages_T Try.f5 laws_FnMessages_b [.ro tYs] [.own tB] x
@[reducible] noncomputable def laws_FnMessages_C : Ct := ⟨[.ro tYs], [.own tB], laws_FnMessages_F⟩
theorem laws_FnMessages_h (x : PsD [.ro tYs]) (y : RsD [.own tB] × PsO [.ro tYs]) (h : laws_FnMessages_F x = some y) : evFn laws_FnMessages_E laws_FnMessages_T Try.f5 laws_FnMessages_b [.ro tYs] [.own tB] x = some y := h
theorem laws_FnMessages_c : ∀ f c, get laws_FnMessages_E.ct f = some c → Sat Try.prog f c := ct_cons laws_big_S (ct_cons spec_Unpack_S (ct_cons impl_Unpack_S (ct_cons spec_DrawMsgBytes_S (ct_cons impl_MsgBytes_S (ct_cons spec_DrawMsgOf_S (ct_cons impl_MsgOf_S (ct_cons spec_MsgOf_S (ct_cons spec_DrawMsgOk_S (ct_cons spec_DrawPack_S (ct_cons impl_Pack_S (ct_cons spec_DrawUnpack_S (ct_cons spec_MsgBytes_S (ct_cons impl_MsgOk_S (ct_cons spec_MsgOk_S (ct_cons spec_Pack_S (ct_cons laws_sameMsg_S (ct_nil)))))))))))))))))
theorem laws_FnMessages_S : Sat Try.prog 5 laws_FnMessages_C := fn_ok2 (envOk _) laws_FnMessages_c mixedOk Try.func5 (by kernel_rfl : Try.f5.body = some laws_FnMessages_b) (by kernel_rfl) (by kernel_rfl) laws_FnMessages_h
noncomputable def laws_FnMessages_Ke  (x0 : List Int) : Ex → AS → Option (RsD [.own tB] × PsO [.ro tYs]) := endK laws_FnMessages_E Try.f5 [.ro tYs] [.own tB] (initL [.ro tYs] (x0, ()) 0).1
noncomputable def laws_FnMessages_B0 {R : Type} : AS → (Ex → AS → Option R) → Option R := fun A K => ev laws_FnMessages_E laws_FnMessages_T 0 (cA (cA (cB (cA (cB (cB (cB (cB (cB (cB (cB (cB (cB (cB (cB (cB (cB (cB (cB (cB laws_FnMessages_b)))))))))))))))))))) A K
noncomputable def laws_FnMessages_B2 {R : Type} : AS → (Ex → AS → Option R) → Option R := fun A K => ev laws_FnMessages_E laws_FnMessages_T 2 (cA (cA (cB (cB (cB (cA (cB (cA (cB (cB (cB (cB (cB (cB (cB (cB (cB (cB (cB (cB (cB (cB (cB (cB (cB laws_FnMessages_b))))))))))))))))))))))))) A K
noncomputable def laws_FnMessages_K0  (x0 : List Int) : Ex → AS → Option (RsD [.own tB] × PsO [.ro tYs]) := kBlk 0 (kSeq (fun A K => ev laws_FnMessages_E laws_FnMessages_T 1000 (cB (cB (cB (cB (cB (cB (cB (cB (cB (cB (cB (cB (cB (cB (cB (cB (cB laws_FnMessages_b))))))))))))))))) A K) (laws_FnMessages_Ke x0))
noncomputable def laws_FnMessages_K2  (x0 : List Int) : Ex → AS → Option (RsD [.own tB] × PsO [.ro tYs]) := kBlk 2 (kSeq (fun A K => ev laws_FnMessages_E laws_FnMessages_T 1000 (cB (cB (cB (cB (cB (cB (cB (cB (cB (cB (cB (cB (cB (cB (cB (cB (cB (cB laws_FnMessages_b)))))))))))))))))) A K) (laws_FnMessages_Ke x0))
noncomputable def laws_FnMessages_x0_0 (d0 : Bool) (d1 : Int) (d2 : Int) (d3 : Int) (d4 : Int) (d5 : List Int) (d6 : List Int) (d7 : List (Int × Int × Int × Int × List Int × Unit)) (d8 : List Int) : AS := ⟨[(3, .v (.one (.bptr 48 0))), (4, .v (.one (.own 592))), (14, .v (.one (.own 960))), (15, .v (.one (.own 992))), (21, .v (.one (.d true tB d0)))], [(48, .box [.d true tI d1, .d true tI d2, .d true tI d3, .d true tI d4, .own 560]), (560, .arr 3 tI d5), (592, .arr 5 tY d6), (960, .arr 47 tMsg d7), (992, .arr 5 tY d8)]⟩
noncomputable def laws_FnMessages_x2_0 (d0 : Bool) (d1 : Int) (d2 : Int) (d3 : Int) (d4 : Int) (d5 : List Int) (d6 : List Int) : AS := ⟨[(2, .v (.one (.d true tB d0))), (3, .v (.one (.bptr 48 0))), (4, .v (.one (.own 592)))], [(48, .box [.d true tI d1, .d true tI d2, .d true tI d3, .d true tI d4, .own 560]), (560, .arr 3 tI d5), (592, .arr 5 tY d6)]⟩
noncomputable def laws_FnMessages_x2_1 (d0 : Int) (d1 : Int) (d2 : Int) (d3 : Int) (d4 : List Int) (d5 : List Int) : AS := ⟨[(3, .v (.one (.bptr 48 0))), (4, .v (.one (.own 592)))], [(48, .box [.d true tI d0, .d true tI d1, .d true tI d2, .d true tI d3, .own 560]), (560, .arr 3 tI d4), (592, .arr 5 tY d5)]⟩
theorem laws_FnMessages_l0 {R : Type} {K : Ex → AS → Option R} {s : laws_FnMessages_t0.D} (n : Nat) {v : Option R} (h : iterG laws_FnMessages_t0 laws_FnMessages_B0 K n s = v) (hv : ∃ r, v = some r) : loopG laws_FnMessages_t0 laws_FnMessages_B0 K s = v := loop_eq (ev_mono _ _) n h hv
theorem laws_FnMessages_l2 {R : Type} {K : Ex → AS → Option R} {s : laws_FnMessages_t2.D} (n : Nat) {v : Option R} (h : iterG laws_FnMessages_t2 laws_FnMessages_B2 K n s = v) (hv : ∃ r, v = some r) : loopG laws_FnMessages_t2 laws_FnMessages_B2 K s = v := loop_eq (ev_mono _ _) n h hv
theorem laws_FnMessages_main (x0 : List Int) : laws_FnMessages_F (x0, ()) =
 (laws_big_F (x0, ())).bind fun y33 =>
 brk y33.1.1
 (some ((true, ()), ((), ())))
 ((spec_DrawMsgBytes_F (x0, ())).bind fun y35 =>
 (impl_MsgBytes_F ((y35.1.1.1, (y35.1.1.2.1, (y35.1.1.2.2.1, (y35.1.1.2.2.2.1, (y35.1.1.2.2.2.2.1, ()))))), ())).bind fun y37 =>
 (spec_DrawMsgOf_F (x0, ())).bind fun y40 =>
 (impl_MsgOf_F (y40.1.1, (y40.1.2.1, ()))).bind fun y46 =>
 (spec_MsgOf_F (y40.1.1, (y40.1.2.1, ()))).bind fun y53 =>
 (spec_DrawMsgOk_F (x0, ())).bind fun y58 =>
 (spec_DrawPack_F (x0, ())).bind fun y60 =>
 (impl_Pack_F (y60.1.1, ())).bind fun y62 =>
 (spec_DrawUnpack_F (x0, ())).bind fun y64 =>
 (impl_Unpack_F (y64.1.1, ())).bind fun y67 =>
 (spec_Unpack_F (y64.1.1, ())).bind fun y72 =>
 (spec_MsgBytes_F ((y35.1.1.1, (y35.1.1.2.1, (y35.1.1.2.2.1, (y35.1.1.2.2.2.1, (y35.1.1.2.2.2.2.1, ()))))), ())).bind fun y78 =>
 brk (!decide (y37.1.1 = y78.1.1))
 (some ((false, ()), ((), ())))
 (brk (!(y46.1.2.2.1 == y53.1.2.2.1))
 (some ((false, ()), ((), ())))
 (brk (!decide (y46.1.2.1 = y53.1.2.1))
 (some ((false, ()), ((), ())))
 ((impl_MsgOk_F ((y58.1.1.1, (y58.1.1.2.1, (y58.1.1.2.2.1, (y58.1.1.2.2.2.1, (y58.1.1.2.2.2.2.1, ()))))), ())).bind fun y93 =>
 (spec_MsgOk_F ((y58.1.1.1, (y58.1.1.2.1, (y58.1.1.2.2.1, (y58.1.1.2.2.2.1, (y58.1.1.2.2.2.2.1, ()))))), ())).bind fun y95 =>
 brk (!(y93.1.1 == y95.1.1))
 (some ((false, ()), ((), ())))
 ((spec_Pack_F (y60.1.1, ())).bind fun y102 =>
 brk (!decide (y62.1.1 = y102.1.1))
 (some ((false, ()), ((), ())))
 (brk (!(y67.1.2.1 == y72.1.2.1))
 (some ((false, ()), ((), ())))
 (brk (!decide ((y67.1.1.length : Int) = (y72.1.1.length : Int)))
 (some ((false, ()), ((), ())))
 (brk y46.1.2.2.1
 (ck (decide (0 ≤ y40.1.2.1) && decide (y40.1.2.1 ≤ y46.1.2.1) && decide (y46.1.2.1 ≤ y40.1.1.length)) ((impl_MsgBytes_F ((y46.1.1.1, (y46.1.1.2.1, (y46.1.1.2.2.1, (y46.1.1.2.2.2.1, (y46.1.1.2.2.2.2.1, ()))))), ())).bind fun y121 =>
 brk (!decide (y121.1.1 = (y40.1.1.take y46.1.2.1.toNat).drop y40.1.2.1.toNat))
 (some ((false, ()), ((), ())))
 (brk y67.1.2.1
 ((impl_Pack_F (y67.1.1, ())).bind fun y134 =>
 brk (!decide (y134.1.1 = y64.1.1))
 (some ((false, ()), ((), ())))
 (loopG laws_FnMessages_t0 laws_FnMessages_B0 (laws_FnMessages_K0 x0) ((true, ((0 : Int), ())), ((y35.1.1.1, (y35.1.1.2.1, (y35.1.1.2.2.1, (y35.1.1.2.2.2.1, ())))), (y35.1.1.2.2.2.2.1, (y37.1.1, (y60.1.1, (y62.1.1, ()))))))))
 (loopG laws_FnMessages_t0 laws_FnMessages_B0 (laws_FnMessages_K0 x0) ((true, ((0 : Int), ())), ((y35.1.1.1, (y35.1.1.2.1, (y35.1.1.2.2.1, (y35.1.1.2.2.2.1, ())))), (y35.1.1.2.2.2.2.1, (y37.1.1, (y60.1.1, (y62.1.1, ()))))))))))
 (brk y67.1.2.1
 ((impl_Pack_F (y67.1.1, ())).bind fun y134 =>
 brk (!decide (y134.1.1 = y64.1.1))
 (some ((false, ()), ((), ())))
 (loopG laws_FnMessages_t0 laws_FnMessages_B0 (laws_FnMessages_K0 x0) ((true, ((0 : Int), ())), ((y35.1.1.1, (y35.1.1.2.1, (y35.1.1.2.2.1, (y35.1.1.2.2.2.1, ())))), (y35.1.1.2.2.2.2.1, (y37.1.1, (y60.1.1, (y62.1.1, ()))))))))
 (loopG laws_FnMessages_t0 laws_FnMessages_B0 (laws_FnMessages_K0 x0) ((true, ((0 : Int), ())), ((y35.1.1.1, (y35.1.1.2.1, (y35.1.1.2.2.1, (y35.1.1.2.2.2.1, ())))), (y35.1.1.2.2.2.2.1, (y37.1.1, (y60.1.1, (y62.1.1, ())))))))))))))))) := by kernel_rfl
theorem laws_FnMessages_r0 {R : Type} (K : Ex → AS → Option R) (n : Nat) (t21 : Bool) (t22 : Int) (b48_0 : Int) (b48_1 : Int) (b48_2 : Int) (b48_3 : Int) (a560 : List Int) (a592 : List Int) (a960 : List (Int × Int × Int × Int × List Int × Unit)) (a992 : List Int) : iterG laws_FnMessages_t0 laws_FnMessages_B0 K (n + 1) ((t21, (t22, ())), ((b48_0, (b48_1, (b48_2, (b48_3, ())))), (a560, (a592, (a960, (a992, ())))))) =
 brk (decide (t22 < (a960.length : Int)))
 (brk t21
 (ck (decide (0 ≤ t22) && decide (t22 < a960.length)) ((impl_MsgOk_F (((rdD tMsg a960 t22).1, (((rdD tMsg a960 t22).2).1, ((((rdD tMsg a960 t22).2).2).1, (((((rdD tMsg a960 t22).2).2).2).1, ((((((rdD tMsg a960 t22).2).2).2).2).1, ()))))), ())).bind fun y153 =>
 iterG laws_FnMessages_t0 laws_FnMessages_B0 K n ((y153.1.1, (IntKind.i64.wrap (t22 + (1 : Int)), ())), ((b48_0, (b48_1, (b48_2, (b48_3, ())))), (a560, (a592, (a960, (a992, ()))))))))
 (iterG laws_FnMessages_t0 laws_FnMessages_B0 K n ((false, (IntKind.i64.wrap (t22 + (1 : Int)), ())), ((b48_0, (b48_1, (b48_2, (b48_3, ())))), (a560, (a592, (a960, (a992, ()))))))))
 (K (.exit 0) (laws_FnMessages_x0_0 t21 b48_0 b48_1 b48_2 b48_3 a560 a592 a960 a992)) := by kernel_rfl
theorem laws_FnMessages_e0_0 (x0 : List Int) (d0 : Bool) (d1 : Int) (d2 : Int) (d3 : Int) (d4 : Int) (d5 : List Int) (d6 : List Int) (d7 : List (Int × Int × Int × Int × List Int × Unit)) (d8 : List Int) : laws_FnMessages_K0 x0 (.exit 0) (laws_FnMessages_x0_0 d0 d1 d2 d3 d4 d5 d6 d7 d8) =
 brk d0
 ((impl_Unpack_F (d8, ())).bind fun y158 =>
 brk (!y158.1.2.1)
 (some ((false, ()), ((), ())))
 (brk (!decide ((y158.1.1.length : Int) = (d7.length : Int)))
 (some ((false, ()), ((), ())))
 (loopG laws_FnMessages_t2 laws_FnMessages_B2 (laws_FnMessages_K2 x0) (((0 : Int), ()), ((d1, (d2, (d3, (d4, ())))), (d5, (d6, (d7, (y158.1.1, ())))))))))
 ((impl_MsgOk_F ((d1, (d2, (d3, (d4, (d5, ()))))), ())).bind fun y187 =>
 brk (!y187.1.1)
 (some ((decide ((d6.length : Int) = (0 : Int)), ()), ((), ())))
 ((impl_MsgOf_F (d6, ((0 : Int), ()))).bind fun y194 =>
 ck (decide (0 ≤ (0 : Int)) && decide ((0 : Int) ≤ IntKind.i64.wrap ((d6.length : Int) - (1 : Int))) && decide (IntKind.i64.wrap ((d6.length : Int) - (1 : Int)) ≤ d6.length)) ((impl_MsgOf_F ((d6.take (IntKind.i64.wrap ((d6.length : Int) - (1 : Int))).toNat).drop (0 : Int).toNat, ((0 : Int), ()))).bind fun y204 =>
 brk y194.1.2.2.1
 (brk (decide (y194.1.2.1 = (d6.length : Int)))
 ((laws_sameMsg_F ((y194.1.1.1, (y194.1.1.2.1, (y194.1.1.2.2.1, (y194.1.1.2.2.2.1, (y194.1.1.2.2.2.2.1, ()))))), ((d1, (d2, (d3, (d4, (d5, ()))))), ()))).bind fun y218 =>
 brk y218.1.1
 (some ((!y204.1.2.2.1, ()), ((), ())))
 (some ((false, ()), ((), ()))))
 (some ((false, ()), ((), ()))))
 (some ((false, ()), ((), ())))))) := by kernel_rfl
theorem laws_FnMessages_r2 {R : Type} (K : Ex → AS → Option R) (n : Nat) (t25 : Int) (b48_0 : Int) (b48_1 : Int) (b48_2 : Int) (b48_3 : Int) (a560 : List Int) (a592 : List Int) (a960 : List (Int × Int × Int × Int × List Int × Unit)) (a2528 : List (Int × Int × Int × Int × List Int × Unit)) : iterG laws_FnMessages_t2 laws_FnMessages_B2 K (n + 1) ((t25, ()), ((b48_0, (b48_1, (b48_2, (b48_3, ())))), (a560, (a592, (a960, (a2528, ())))))) =
 brk (decide (t25 < (a960.length : Int)))
 (ck (decide (0 ≤ t25) && decide (t25 < a2528.length)) (ck (decide (0 ≤ t25) && decide (t25 < a960.length)) ((laws_sameMsg_F (((rdD tMsg a2528 t25).1, (((rdD tMsg a2528 t25).2).1, ((((rdD tMsg a2528 t25).2).2).1, (((((rdD tMsg a2528 t25).2).2).2).1, ((((((rdD tMsg a2528 t25).2).2).2).2).1, ()))))), (((rdD tMsg a960 t25).1, (((rdD tMsg a960 t25).2).1, ((((rdD tMsg a960 t25).2).2).1, (((((rdD tMsg a960 t25).2).2).2).1, ((((((rdD tMsg a960 t25).2).2).2).2).1, ()))))), ()))).bind fun y184 =>
 brk (!y184.1.1)
 (K .ret (laws_FnMessages_x2_0 false b48_0 b48_1 b48_2 b48_3 a560 a592))
 (iterG laws_FnMessages_t2 laws_FnMessages_B2 K n ((IntKind.i64.wrap (t25 + (1 : Int)), ()), ((b48_0, (b48_1, (b48_2, (b48_3, ())))), (a560, (a592, (a960, (a2528, ()))))))))))
 (K (.exit 2) (laws_FnMessages_x2_1 b48_0 b48_1 b48_2 b48_3 a560 a592)) := by kernel_rfl
theorem laws_FnMessages_e2_0 (x0 : List Int) (d0 : Bool) (d1 : Int) (d2 : Int) (d3 : Int) (d4 : Int) (d5 : List Int) (d6 : List Int) : laws_FnMessages_K2 x0 .ret (laws_FnMessages_x2_0 d0 d1 d2 d3 d4 d5 d6) =
 some ((d0, ()), ((), ())) := by kernel_rfl
theorem laws_FnMessages_e2_1 (x0 : List Int) (d0 : Int) (d1 : Int) (d2 : Int) (d3 : Int) (d4 : List Int) (d5 : List Int) : laws_FnMessages_K2 x0 (.exit 2) (laws_FnMessages_x2_1 d0 d1 d2 d3 d4 d5) =
 (impl_MsgOk_F ((d0, (d1, (d2, (d3, (d4, ()))))), ())).bind fun y187 =>
 brk (!y187.1.1)
 (some ((decide ((d5.length : Int) = (0 : Int)), ()), ((), ())))
 ((impl_MsgOf_F (d5, ((0 : Int), ()))).bind fun y194 =>
 ck (decide (0 ≤ (0 : Int)) && decide ((0 : Int) ≤ IntKind.i64.wrap ((d5.length : Int) - (1 : Int))) && decide (IntKind.i64.wrap ((d5.length : Int) - (1 : Int)) ≤ d5.length)) ((impl_MsgOf_F ((d5.take (IntKind.i64.wrap ((d5.length : Int) - (1 : Int))).toNat).drop (0 : Int).toNat, ((0 : Int), ()))).bind fun y204 =>
 brk y194.1.2.2.1
 (brk (decide (y194.1.2.1 = (d5.length : Int)))
 ((laws_sameMsg_F ((y194.1.1.1, (y194.1.1.2.1, (y194.1.1.2.2.1, (y194.1.1.2.2.2.1, (y194.1.1.2.2.2.2.1, ()))))), ((d0, (d1, (d2, (d3, (d4, ()))))), ()))).bind fun y218 =>
 brk y218.1.1
 (some ((!y204.1.2.2.1, ()), ((), ())))
 (some ((false, ()), ((), ()))))
 (some ((false, ()), ((), ()))))
 (some ((false, ()), ((), ()))))) := by kernel_rfl
end Go.Refl
