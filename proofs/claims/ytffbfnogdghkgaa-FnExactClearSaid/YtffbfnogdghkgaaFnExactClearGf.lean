/- Functions of the program, told by the evaluator: printed by a program of this claim. No condition. -/
import Derived.Test.YtffbfnogdghkgaaFnExactClearGt
namespace Go.Refl
open Go.RowKit Go.Proofs
set_option linter.unusedVariables false
set_option maxRecDepth 100000
/-! spec.Clear -/
noncomputable def spec_Clear_b : Code := bd Try.f13
@[reducible] def spec_Clear_t0 : Tm := ⟨[(5, 960000)], [], [(0, .sc true tIs), (1, .sc true tI), (5, .own 960000), (6, .sc true tI)], [(960000, .arr 3 tI)], [5], [960000]⟩
def spec_Clear_T : List (Nat × Tm) := [(0, spec_Clear_t0)]
noncomputable def spec_Clear_E : Env := ⟨tt0, []⟩
noncomputable def spec_Clear_F : PsD [.ro tIs, .ro tI] → Option (RsD [.own tIs] × PsO [.ro tIs, .ro tI]) := fun x => evFn spec_Clear_E spec_Clear_T Try.f13 spec_Clear_b [.ro tIs, .ro tI] [.own tIs] x
@[reducible] noncomputable def spec_Clear_C : Ct := ⟨[.ro tIs, .ro tI], [.own tIs], spec_Clear_F⟩
theorem spec_Clear_h (x : PsD [.ro tIs, .ro tI]) (y : RsD [.own tIs] × PsO [.ro tIs, .ro tI]) (h : spec_Clear_F x = some y) : evFn spec_Clear_E spec_Clear_T Try.f13 spec_Clear_b [.ro tIs, .ro tI] [.own tIs] x = some y := h
theorem spec_Clear_c : ∀ f c, get spec_Clear_E.ct f = some c → Sat Try.prog f c := ct_nil
theorem spec_Clear_S : Sat Try.prog 13 spec_Clear_C := fn_ok2 (envOk _) spec_Clear_c mixedOk Try.func13 (by kernel_rfl : Try.f13.body = some spec_Clear_b) (by kernel_rfl) (by kernel_rfl) spec_Clear_h
noncomputable def spec_Clear_Ke  (x0 : List Int) (x1 : Int) : Ex → AS → Option (RsD [.own tIs] × PsO [.ro tIs, .ro tI]) := endK spec_Clear_E Try.f13 [.ro tIs, .ro tI] [.own tIs] (initL [.ro tIs, .ro tI] (x0, (x1, ())) 0).1
noncomputable def spec_Clear_B0 {R : Type} : AS → (Ex → AS → Option R) → Option R := fun A K => ev spec_Clear_E spec_Clear_T 0 (cA (cA (cB (cA (cB (cB spec_Clear_b)))))) A K
noncomputable def spec_Clear_K0  (x0 : List Int) (x1 : Int) : Ex → AS → Option (RsD [.own tIs] × PsO [.ro tIs, .ro tI]) := kBlk 0 (kSeq (fun A K => ev spec_Clear_E spec_Clear_T 1000 (cB (cB (cB spec_Clear_b))) A K) (spec_Clear_Ke x0 x1))
noncomputable def spec_Clear_x0_0 (d0 : List Int) : AS := ⟨[(5, .v (.one (.own 960000)))], [(960000, .arr 3 tI d0)]⟩
theorem spec_Clear_l0 {R : Type} {K : Ex → AS → Option R} {s : spec_Clear_t0.D} (n : Nat) {v : Option R} (h : iterG spec_Clear_t0 spec_Clear_B0 K n s = v) (hv : ∃ r, v = some r) : loopG spec_Clear_t0 spec_Clear_B0 K s = v := loop_eq (ev_mono _ _) n h hv
theorem spec_Clear_main (x0 : List Int) (x1 : Int) : spec_Clear_F (x0, (x1, ())) =
 loopG spec_Clear_t0 spec_Clear_B0 (spec_Clear_K0 x0 x1) ((x0, (x1, ((0 : Int), ()))), (([] : List Int), ())) := by kernel_rfl
theorem spec_Clear_r0 {R : Type} (K : Ex → AS → Option R) (n : Nat) (t0 : List Int) (t1 : Int) (t6 : Int) (a960000 : List Int) : iterG spec_Clear_t0 spec_Clear_B0 K (n + 1) ((t0, (t1, (t6, ()))), (a960000, ())) =
 brk (decide (t6 < (t0.length : Int)))
 (ck (decide (0 ≤ t6) && decide (t6 < t0.length)) (brk (!decide (rdD tI t0 t6 = t1))
 (ck (decide (0 ≤ t6) && decide (t6 < t0.length)) (ck (decide ((a960000.length + [rdD tI t0 t6].length) * 8 ≤ big47)) (iterG spec_Clear_t0 spec_Clear_B0 K n ((t0, (t1, (IntKind.i64.wrap (t6 + (1 : Int)), ()))), (a960000 ++ [rdD tI t0 t6], ())))))
 (iterG spec_Clear_t0 spec_Clear_B0 K n ((t0, (t1, (IntKind.i64.wrap (t6 + (1 : Int)), ()))), (a960000, ())))))
 (K (.exit 0) (spec_Clear_x0_0 a960000)) := by kernel_rfl
theorem spec_Clear_e0_0 (x0 : List Int) (x1 : Int) (d0 : List Int) : spec_Clear_K0 x0 x1 (.exit 0) (spec_Clear_x0_0 d0) =
 some ((d0, ()), ((), ((), ()))) := by kernel_rfl
/-! laws.toIntS -/
noncomputable def laws_toIntS_b : Code := bd Try.f14
@[reducible] def laws_toIntS_t0 : Tm := ⟨[], [], [(0, .sc true tIs), (3, .own 112), (4, .sc true tI)], [(112, .arr 3 tI)], [3], [112]⟩
def laws_toIntS_T : List (Nat × Tm) := [(0, laws_toIntS_t0)]
noncomputable def laws_toIntS_E : Env := ⟨tt0, []⟩
noncomputable def laws_toIntS_F : PsD [.ro tIs] → Option (RsD [.own tIs] × PsO [.ro tIs]) := fun x => evFn laws_toIntS_E laws_toIntS_T Try.f14 laws_toIntS_b [.ro tIs] [.own tIs] x
@[reducible] noncomputable def laws_toIntS_C : Ct := ⟨[.ro tIs], [.own tIs], laws_toIntS_F⟩
theorem laws_toIntS_h (x : PsD [.ro tIs]) (y : RsD [.own tIs] × PsO [.ro tIs]) (h : laws_toIntS_F x = some y) : evFn laws_toIntS_E laws_toIntS_T Try.f14 laws_toIntS_b [.ro tIs] [.own tIs] x = some y := h
theorem laws_toIntS_c : ∀ f c, get laws_toIntS_E.ct f = some c → Sat Try.prog f c := ct_nil
theorem laws_toIntS_S : Sat Try.prog 14 laws_toIntS_C := fn_ok2 (envOk _) laws_toIntS_c mixedOk Try.func14 (by kernel_rfl : Try.f14.body = some laws_toIntS_b) (by kernel_rfl) (by kernel_rfl) laws_toIntS_h
noncomputable def laws_toIntS_Ke  (x0 : List Int) : Ex → AS → Option (RsD [.own tIs] × PsO [.ro tIs]) := endK laws_toIntS_E Try.f14 [.ro tIs] [.own tIs] (initL [.ro tIs] (x0, ()) 0).1
noncomputable def laws_toIntS_B0 {R : Type} : AS → (Ex → AS → Option R) → Option R := fun A K => ev laws_toIntS_E laws_toIntS_T 0 (cA (cA (cB (cA (cB (cB laws_toIntS_b)))))) A K
noncomputable def laws_toIntS_K0  (x0 : List Int) : Ex → AS → Option (RsD [.own tIs] × PsO [.ro tIs]) := kBlk 0 (kSeq (fun A K => ev laws_toIntS_E laws_toIntS_T 1000 (cB (cB (cB laws_toIntS_b))) A K) (laws_toIntS_Ke x0))
noncomputable def laws_toIntS_x0_0 (d0 : List Int) : AS := ⟨[(3, .v (.one (.own 112)))], [(112, .arr 3 tI d0)]⟩
theorem laws_toIntS_l0 {R : Type} {K : Ex → AS → Option R} {s : laws_toIntS_t0.D} (n : Nat) {v : Option R} (h : iterG laws_toIntS_t0 laws_toIntS_B0 K n s = v) (hv : ∃ r, v = some r) : loopG laws_toIntS_t0 laws_toIntS_B0 K s = v := loop_eq (ev_mono _ _) n h hv
theorem laws_toIntS_main (x0 : List Int) : laws_toIntS_F (x0, ()) =
 ck (decide (0 ≤ (x0.length : Int)) && decide ((x0.length : Int) = (x0.length : Int)) && decide ((x0.length : Int) * (8 : Int) ≤ 140737488355328) && decide ((x0.length : Int) ≤ 140737488355328)) (loopG laws_toIntS_t0 laws_toIntS_B0 (laws_toIntS_K0 x0) ((x0, ((0 : Int), ())), (List.replicate (x0.length : Int).toNat tI.zero, ()))) := by kernel_rfl
theorem laws_toIntS_r0 {R : Type} (K : Ex → AS → Option R) (n : Nat) (t0 : List Int) (t4 : Int) (a112 : List Int) : iterG laws_toIntS_t0 laws_toIntS_B0 K (n + 1) ((t0, (t4, ())), (a112, ())) =
 brk (decide (t4 < (t0.length : Int)))
 (ck (decide (0 ≤ t4) && decide (t4 < t0.length)) (ck (decide (0 ≤ t4) && decide (t4 < a112.length)) (iterG laws_toIntS_t0 laws_toIntS_B0 K n ((t0, (IntKind.i64.wrap (t4 + (1 : Int)), ())), (a112.set t4.toNat (rdD tI t0 t4), ())))))
 (K (.exit 0) (laws_toIntS_x0_0 a112)) := by kernel_rfl
theorem laws_toIntS_e0_0 (x0 : List Int) (d0 : List Int) : laws_toIntS_K0 x0 (.exit 0) (laws_toIntS_x0_0 d0) =
 some ((d0, ()), ((), ())) := by kernel_rfl
/-! impl.Clear$1 -/
noncomputable def impl_Clear_1_b : Code := bd Try.f65
def impl_Clear_1_T : List (Nat × Tm) := []
noncomputable def impl_Clear_1_E : Env := ⟨tt0, []⟩
noncomputable def impl_Clear_1_F : PsD [.ro tI, .st tI] → Option (RsD [.own tB] × PsO [.ro tI, .st tI]) := fun x => evFn impl_Clear_1_E impl_Clear_1_T Try.f65 impl_Clear_1_b [.ro tI, .st tI] [.own tB] x
@[reducible] noncomputable def impl_Clear_1_C : Ct := ⟨[.ro tI, .st tI], [.own tB], impl_Clear_1_F⟩
theorem impl_Clear_1_h (x : PsD [.ro tI, .st tI]) (y : RsD [.own tB] × PsO [.ro tI, .st tI]) (h : impl_Clear_1_F x = some y) : evFn impl_Clear_1_E impl_Clear_1_T Try.f65 impl_Clear_1_b [.ro tI, .st tI] [.own tB] x = some y := h
theorem impl_Clear_1_c : ∀ f c, get impl_Clear_1_E.ct f = some c → Sat Try.prog f c := ct_nil
theorem impl_Clear_1_S : Sat Try.prog 65 impl_Clear_1_C := fn_ok2 (envOk _) impl_Clear_1_c mixedOk Try.func65 (by kernel_rfl : Try.f65.body = some impl_Clear_1_b) (by kernel_rfl) (by kernel_rfl) impl_Clear_1_h
noncomputable def impl_Clear_1_Ke  (x0 : Int) (x1 : Int) : Ex → AS → Option (RsD [.own tB] × PsO [.ro tI, .st tI]) := endK impl_Clear_1_E Try.f65 [.ro tI, .st tI] [.own tB] (initL [.ro tI, .st tI] (x0, (x1, ())) 0).1
theorem impl_Clear_1_main (x0 : Int) (x1 : Int) : impl_Clear_1_F (x0, (x1, ())) =
 some ((decide (x0 = x1), ()), ((), (x1, ()))) := by kernel_rfl
/-! slices.IndexFunc[[]int,int] -/
noncomputable def slices_IndexFunc_intD_b : Code := bd Try.f115
@[reducible] def slices_IndexFunc_intD_t0 : Tm := ⟨[], [], [(0, .sc true tIs), (1, .fnv 65 [1000016]), (7, .sc true tI), (8, .sc true tI)], [(1000016, .box [.sc true tI])], [4], []⟩
def slices_IndexFunc_intD_T : List (Nat × Tm) := [(0, slices_IndexFunc_intD_t0)]
noncomputable def slices_IndexFunc_intD_E : Env := ⟨tt0, [(65, impl_Clear_1_C)]⟩
noncomputable def slices_IndexFunc_intD_F : PsD [.ro tIs, .fn 65 [tI]] → Option (RsD [.own tI] × PsO [.ro tIs, .fn 65 [tI]]) := fun x => evFn slices_IndexFunc_intD_E slices_IndexFunc_intD_T Try.f115 slices_IndexFunc_intD_b [.ro tIs, .fn 65 [tI]] [.own tI] x
@[reducible] noncomputable def slices_IndexFunc_intD_C : Ct := ⟨[.ro tIs, .fn 65 [tI]], [.own tI], slices_IndexFunc_intD_F⟩
theorem slices_IndexFunc_intD_h (x : PsD [.ro tIs, .fn 65 [tI]]) (y : RsD [.own tI] × PsO [.ro tIs, .fn 65 [tI]]) (h : slices_IndexFunc_intD_F x = some y) : evFn slices_IndexFunc_intD_E slices_IndexFunc_intD_T Try.f115 slices_IndexFunc_intD_b [.ro tIs, .fn 65 [tI]] [.own tI] x = some y := h
theorem slices_IndexFunc_intD_c : ∀ f c, get slices_IndexFunc_intD_E.ct f = some c → Sat Try.prog f c := ct_cons impl_Clear_1_S (ct_nil)
theorem slices_IndexFunc_intD_S : Sat Try.prog 115 slices_IndexFunc_intD_C := fn_ok2 (envOk _) slices_IndexFunc_intD_c mixedOk Try.func115 (by kernel_rfl : Try.f115.body = some slices_IndexFunc_intD_b) (by kernel_rfl) (by kernel_rfl) slices_IndexFunc_intD_h
noncomputable def slices_IndexFunc_intD_Ke  (x0 : List Int) (x1 : Int × Unit) : Ex → AS → Option (RsD [.own tI] × PsO [.ro tIs, .fn 65 [tI]]) := endK slices_IndexFunc_intD_E Try.f115 [.ro tIs, .fn 65 [tI]] [.own tI] (initL [.ro tIs, .fn 65 [tI]] (x0, (x1, ())) 0).1
noncomputable def slices_IndexFunc_intD_B0 {R : Type} : AS → (Ex → AS → Option R) → Option R := fun A K => ev slices_IndexFunc_intD_E slices_IndexFunc_intD_T 0 (cA (cA (cB (cA (cB slices_IndexFunc_intD_b))))) A K
noncomputable def slices_IndexFunc_intD_K0  (x0 : List Int) (x1 : Int × Unit) : Ex → AS → Option (RsD [.own tI] × PsO [.ro tIs, .fn 65 [tI]]) := kBlk 0 (kSeq (fun A K => ev slices_IndexFunc_intD_E slices_IndexFunc_intD_T 1000 (cB (cB slices_IndexFunc_intD_b)) A K) (slices_IndexFunc_intD_Ke x0 x1))
noncomputable def slices_IndexFunc_intD_x0_0 (d0 : Int) (d1 : Int) : AS := ⟨[(4, .v (.one (.d true tI d0)))], [(1000016, .box [.d true tI d1])]⟩
noncomputable def slices_IndexFunc_intD_x0_1 (d0 : Int) : AS := ⟨[], [(1000016, .box [.d true tI d0])]⟩
theorem slices_IndexFunc_intD_l0 {R : Type} {K : Ex → AS → Option R} {s : slices_IndexFunc_intD_t0.D} (n : Nat) {v : Option R} (h : iterG slices_IndexFunc_intD_t0 slices_IndexFunc_intD_B0 K n s = v) (hv : ∃ r, v = some r) : loopG slices_IndexFunc_intD_t0 slices_IndexFunc_intD_B0 K s = v := loop_eq (ev_mono _ _) n h hv
theorem slices_IndexFunc_intD_main (x0 : List Int) (x1 : Int × Unit) : slices_IndexFunc_intD_F (x0, (x1, ())) =
 loopG slices_IndexFunc_intD_t0 slices_IndexFunc_intD_B0 (slices_IndexFunc_intD_K0 x0 x1) ((x0, ((x0.length : Int), ((0 : Int), ()))), ((x1.1, ()), ())) := by kernel_rfl
theorem slices_IndexFunc_intD_r0 {R : Type} (K : Ex → AS → Option R) (n : Nat) (t0 : List Int) (t7 : Int) (t8 : Int) (b1000016_0 : Int) : iterG slices_IndexFunc_intD_t0 slices_IndexFunc_intD_B0 K (n + 1) ((t0, (t7, (t8, ()))), ((b1000016_0, ()), ())) =
 brk (decide (t8 < t7))
 (ck (decide (0 ≤ t8) && decide (t8 < t0.length)) ((impl_Clear_1_F (rdD tI t0 t8, (b1000016_0, ()))).bind fun y16 =>
 brk y16.1.1
 (K .ret (slices_IndexFunc_intD_x0_0 t8 y16.2.2.1))
 (iterG slices_IndexFunc_intD_t0 slices_IndexFunc_intD_B0 K n ((t0, (t7, (IntKind.i64.wrap (t8 + (1 : Int)), ()))), ((y16.2.2.1, ()), ())))))
 (K (.exit 0) (slices_IndexFunc_intD_x0_1 b1000016_0)) := by kernel_rfl
theorem slices_IndexFunc_intD_e0_0 (x0 : List Int) (x1 : Int × Unit) (d0 : Int) (d1 : Int) : slices_IndexFunc_intD_K0 x0 x1 .ret (slices_IndexFunc_intD_x0_0 d0 d1) =
 some ((d0, ()), ((), ((d1, ()), ()))) := by kernel_rfl
theorem slices_IndexFunc_intD_e0_1 (x0 : List Int) (x1 : Int × Unit) (d0 : Int) : slices_IndexFunc_intD_K0 x0 x1 (.exit 0) (slices_IndexFunc_intD_x0_1 d0) =
 some (((-1 : Int), ()), ((), ((d0, ()), ()))) := by kernel_rfl
/-! slices.DeleteFunc[[]int,int] -/
noncomputable def slices_DeleteFunc_int_b : Code := bd Try.f63
@[reducible] def slices_DeleteFunc_int_t0 : Tm := ⟨[], [], [(0, .own 1000000), (1, .fnv 65 [1000016]), (5, .sc true tI), (6, .sc true tI)], [(1000000, .arr 3 tI), (1000016, .box [.sc true tI])], [0, 5], []⟩
def slices_DeleteFunc_int_T : List (Nat × Tm) := [(0, slices_DeleteFunc_int_t0)]
noncomputable def slices_DeleteFunc_int_E : Env := ⟨tt0, [(65, impl_Clear_1_C), (115, slices_IndexFunc_intD_C)]⟩
noncomputable def slices_DeleteFunc_int_F : PsD [.mv tIs, .fn 65 [tI]] → Option (RsD [.own tIs] × PsO [.mv tIs, .fn 65 [tI]]) := fun x => evFn slices_DeleteFunc_int_E slices_DeleteFunc_int_T Try.f63 slices_DeleteFunc_int_b [.mv tIs, .fn 65 [tI]] [.own tIs] x
@[reducible] noncomputable def slices_DeleteFunc_int_C : Ct := ⟨[.mv tIs, .fn 65 [tI]], [.own tIs], slices_DeleteFunc_int_F⟩
theorem slices_DeleteFunc_int_h (x : PsD [.mv tIs, .fn 65 [tI]]) (y : RsD [.own tIs] × PsO [.mv tIs, .fn 65 [tI]]) (h : slices_DeleteFunc_int_F x = some y) : evFn slices_DeleteFunc_int_E slices_DeleteFunc_int_T Try.f63 slices_DeleteFunc_int_b [.mv tIs, .fn 65 [tI]] [.own tIs] x = some y := h
theorem slices_DeleteFunc_int_c : ∀ f c, get slices_DeleteFunc_int_E.ct f = some c → Sat Try.prog f c := ct_cons impl_Clear_1_S (ct_cons slices_IndexFunc_intD_S (ct_nil))
theorem slices_DeleteFunc_int_S : Sat Try.prog 63 slices_DeleteFunc_int_C := fn_ok2 (envOk _) slices_DeleteFunc_int_c mixedOk Try.func63 (by kernel_rfl : Try.f63.body = some slices_DeleteFunc_int_b) (by kernel_rfl) (by kernel_rfl) slices_DeleteFunc_int_h
noncomputable def slices_DeleteFunc_int_Ke  (x0 : List Int) (x1 : Int × Unit) : Ex → AS → Option (RsD [.own tIs] × PsO [.mv tIs, .fn 65 [tI]]) := endK slices_DeleteFunc_int_E Try.f63 [.mv tIs, .fn 65 [tI]] [.own tIs] (initL [.mv tIs, .fn 65 [tI]] (x0, (x1, ())) 0).1
noncomputable def slices_DeleteFunc_int_B0 {R : Type} : AS → (Ex → AS → Option R) → Option R := fun A K => ev slices_DeleteFunc_int_E slices_DeleteFunc_int_T 0 (cA (cA (cB (cA (cB (cB (cB slices_DeleteFunc_int_b))))))) A K
noncomputable def slices_DeleteFunc_int_K0  (x0 : List Int) (x1 : Int × Unit) : Ex → AS → Option (RsD [.own tIs] × PsO [.mv tIs, .fn 65 [tI]]) := kBlk 0 (kSeq (fun A K => ev slices_DeleteFunc_int_E slices_DeleteFunc_int_T 1000 (cB (cB (cB (cB slices_DeleteFunc_int_b)))) A K) (slices_DeleteFunc_int_Ke x0 x1))
noncomputable def slices_DeleteFunc_int_x0_0 (d0 : Int) (d1 : List Int) (d2 : Int) : AS := ⟨[(0, .v (.one (.own 1000000))), (5, .v (.one (.d true tI d0)))], [(1000000, .arr 3 tI d1), (1000016, .box [.d true tI d2])]⟩
theorem slices_DeleteFunc_int_l0 {R : Type} {K : Ex → AS → Option R} {s : slices_DeleteFunc_int_t0.D} (n : Nat) {v : Option R} (h : iterG slices_DeleteFunc_int_t0 slices_DeleteFunc_int_B0 K n s = v) (hv : ∃ r, v = some r) : loopG slices_DeleteFunc_int_t0 slices_DeleteFunc_int_B0 K s = v := loop_eq (ev_mono _ _) n h hv
theorem slices_DeleteFunc_int_main (x0 : List Int) (x1 : Int × Unit) : slices_DeleteFunc_int_F (x0, (x1, ())) =
 (slices_IndexFunc_intD_F (x0, ((x1.1, ()), ()))).bind fun y10 =>
 brk (decide (y10.1.1 = (-1 : Int)))
 (some ((x0, ()), ((), ((y10.2.2.1.1, ()), ()))))
 (loopG slices_DeleteFunc_int_t0 slices_DeleteFunc_int_B0 (slices_DeleteFunc_int_K0 x0 x1) ((y10.1.1, (IntKind.i64.wrap (y10.1.1 + (1 : Int)), ())), (x0, ((y10.2.2.1.1, ()), ())))) := by kernel_rfl
theorem slices_DeleteFunc_int_r0 {R : Type} (K : Ex → AS → Option R) (n : Nat) (t5 : Int) (t6 : Int) (a1000000 : List Int) (b1000016_0 : Int) : iterG slices_DeleteFunc_int_t0 slices_DeleteFunc_int_B0 K (n + 1) ((t5, (t6, ())), (a1000000, ((b1000016_0, ()), ()))) =
 brk (decide (t6 < (a1000000.length : Int)))
 (ck (decide (0 ≤ t6) && decide (t6 < a1000000.length)) ((impl_Clear_1_F (rdD tI a1000000 t6, (b1000016_0, ()))).bind fun y28 =>
 brk (!y28.1.1)
 (ck (decide (0 ≤ t5) && decide (t5 < a1000000.length)) (iterG slices_DeleteFunc_int_t0 slices_DeleteFunc_int_B0 K n ((IntKind.i64.wrap (t5 + (1 : Int)), (IntKind.i64.wrap (t6 + (1 : Int)), ())), (a1000000.set t5.toNat (rdD tI a1000000 t6), ((y28.2.2.1, ()), ())))))
 (iterG slices_DeleteFunc_int_t0 slices_DeleteFunc_int_B0 K n ((t5, (IntKind.i64.wrap (t6 + (1 : Int)), ())), (a1000000, ((y28.2.2.1, ()), ()))))))
 (K (.exit 0) (slices_DeleteFunc_int_x0_0 t5 a1000000 b1000016_0)) := by kernel_rfl
theorem slices_DeleteFunc_int_e0_0 (x0 : List Int) (x1 : Int × Unit) (d0 : Int) (d1 : List Int) (d2 : Int) : slices_DeleteFunc_int_K0 x0 x1 (.exit 0) (slices_DeleteFunc_int_x0_0 d0 d1 d2) =
 ck (decide (0 ≤ d0) && decide (d0 ≤ (d1.length : Int)) && decide ((d1.length : Int) ≤ d1.length)) (ck (decide (0 ≤ (0 : Int)) && decide ((0 : Int) ≤ d0) && decide (d0 ≤ (d1.take d0.toNat ++ List.replicate ((d1.length : Int).toNat - d0.toNat) tI.zero ++ d1.drop (d1.length : Int).toNat).length)) (some (((d1.take d0.toNat ++ List.replicate ((d1.length : Int).toNat - d0.toNat) tI.zero ++ d1.drop (d1.length : Int).toNat).take d0.toNat, ()), ((), ((d2, ()), ()))))) := by kernel_rfl
/-! slices.Clone[[]int,int] -/
noncomputable def slices_Clone_int_b : Code := bd Try.f64
def slices_Clone_int_T : List (Nat × Tm) := []
noncomputable def slices_Clone_int_E : Env := ⟨tt0, []⟩
noncomputable def slices_Clone_int_F : PsD [.ro tIs] → Option (RsD [.own tIs] × PsO [.ro tIs]) := fun x => evFn slices_Clone_int_E slices_Clone_int_T Try.f64 slices_Clone_int_b [.ro tIs] [.own tIs] x
@[reducible] noncomputable def slices_Clone_int_C : Ct := ⟨[.ro tIs], [.own tIs], slices_Clone_int_F⟩
theorem slices_Clone_int_h (x : PsD [.ro tIs]) (y : RsD [.own tIs] × PsO [.ro tIs]) (h : slices_Clone_int_F x = some y) : evFn slices_Clone_int_E slices_Clone_int_T Try.f64 slices_Clone_int_b [.ro tIs] [.own tIs] x = some y := h
theorem slices_Clone_int_c : ∀ f c, get slices_Clone_int_E.ct f = some c → Sat Try.prog f c := ct_nil
theorem slices_Clone_int_S : Sat Try.prog 64 slices_Clone_int_C := fn_ok2 (envOk _) slices_Clone_int_c mixedOk Try.func64 (by kernel_rfl : Try.f64.body = some slices_Clone_int_b) (by kernel_rfl) (by kernel_rfl) slices_Clone_int_h
noncomputable def slices_Clone_int_Ke  (x0 : List Int) : Ex → AS → Option (RsD [.own tIs] × PsO [.ro tIs]) := endK slices_Clone_int_E Try.f64 [.ro tIs] [.own tIs] (initL [.ro tIs] (x0, ()) 0).1
theorem slices_Clone_int_main (x0 : List Int) : slices_Clone_int_F (x0, ()) =
 brk (decide (x0.length = 0))
 (both (some ((([] : List Int), ()), ((), ())))
 (ck (decide ((([] : List Int).length + x0.length) * 8 ≤ big47)) (some ((([] : List Int) ++ x0, ()), ((), ())))))
 (ck (decide ((([] : List Int).length + x0.length) * 8 ≤ big47)) (some ((([] : List Int) ++ x0, ()), ((), ())))) := by kernel_rfl
/-! impl.Clear -/
noncomputable def impl_Clear_b : Code := bd Try.f15
def impl_Clear_T : List (Nat × Tm) := []
noncomputable def impl_Clear_E : Env := ⟨tt0, [(63, slices_DeleteFunc_int_C), (64, slices_Clone_int_C)]⟩
noncomputable def impl_Clear_F : PsD [.ro tIs, .ro tI] → Option (RsD [.own tIs] × PsO [.ro tIs, .ro tI]) := fun x => evFn impl_Clear_E impl_Clear_T Try.f15 impl_Clear_b [.ro tIs, .ro tI] [.own tIs] x
@[reducible] noncomputable def impl_Clear_C : Ct := ⟨[.ro tIs, .ro tI], [.own tIs], impl_Clear_F⟩
theorem impl_Clear_h (x : PsD [.ro tIs, .ro tI]) (y : RsD [.own tIs] × PsO [.ro tIs, .ro tI]) (h : impl_Clear_F x = some y) : evFn impl_Clear_E impl_Clear_T Try.f15 impl_Clear_b [.ro tIs, .ro tI] [.own tIs] x = some y := h
theorem impl_Clear_c : ∀ f c, get impl_Clear_E.ct f = some c → Sat Try.prog f c := ct_cons slices_DeleteFunc_int_S (ct_cons slices_Clone_int_S (ct_nil))
theorem impl_Clear_S : Sat Try.prog 15 impl_Clear_C := fn_ok2 (envOk _) impl_Clear_c mixedOk Try.func15 (by kernel_rfl : Try.f15.body = some impl_Clear_b) (by kernel_rfl) (by kernel_rfl) impl_Clear_h
noncomputable def impl_Clear_Ke  (x0 : List Int) (x1 : Int) : Ex → AS → Option (RsD [.own tIs] × PsO [.ro tIs, .ro tI]) := endK impl_Clear_E Try.f15 [.ro tIs, .ro tI] [.own tIs] (initL [.ro tIs, .ro tI] (x0, (x1, ())) 0).1
theorem impl_Clear_main (x0 : List Int) (x1 : Int) : impl_Clear_F (x0, (x1, ())) =
 (slices_Clone_int_F (x0, ())).bind fun y6 =>
 (slices_DeleteFunc_int_F (y6.1.1, ((x1, ()), ()))).bind fun y8 =>
 some ((y8.1.1, ()), ((), ((), ()))) := by kernel_rfl
/-! laws.eqIntS -/
noncomputable def laws_eqIntS_b : Code := bd Try.f16
@[reducible] def laws_eqIntS_t0 : Tm := ⟨[], [], [(0, .sc true tIs), (1, .sc true tIs), (5, .sc true tI)], [], [4], []⟩
def laws_eqIntS_T : List (Nat × Tm) := [(0, laws_eqIntS_t0)]
noncomputable def laws_eqIntS_E : Env := ⟨tt0, []⟩
noncomputable def laws_eqIntS_F : PsD [.ro tIs, .ro tIs] → Option (RsD [.own tB] × PsO [.ro tIs, .ro tIs]) := fun x => evFn laws_eqIntS_E laws_eqIntS_T Try.f16 laws_eqIntS_b [.ro tIs, .ro tIs] [.own tB] x
@[reducible] noncomputable def laws_eqIntS_C : Ct := ⟨[.ro tIs, .ro tIs], [.own tB], laws_eqIntS_F⟩
theorem laws_eqIntS_h (x : PsD [.ro tIs, .ro tIs]) (y : RsD [.own tB] × PsO [.ro tIs, .ro tIs]) (h : laws_eqIntS_F x = some y) : evFn laws_eqIntS_E laws_eqIntS_T Try.f16 laws_eqIntS_b [.ro tIs, .ro tIs] [.own tB] x = some y := h
theorem laws_eqIntS_c : ∀ f c, get laws_eqIntS_E.ct f = some c → Sat Try.prog f c := ct_nil
theorem laws_eqIntS_S : Sat Try.prog 16 laws_eqIntS_C := fn_ok2 (envOk _) laws_eqIntS_c mixedOk Try.func16 (by kernel_rfl : Try.f16.body = some laws_eqIntS_b) (by kernel_rfl) (by kernel_rfl) laws_eqIntS_h
noncomputable def laws_eqIntS_Ke  (x0 : List Int) (x1 : List Int) : Ex → AS → Option (RsD [.own tB] × PsO [.ro tIs, .ro tIs]) := endK laws_eqIntS_E Try.f16 [.ro tIs, .ro tIs] [.own tB] (initL [.ro tIs, .ro tIs] (x0, (x1, ())) 0).1
noncomputable def laws_eqIntS_B0 {R : Type} : AS → (Ex → AS → Option R) → Option R := fun A K => ev laws_eqIntS_E laws_eqIntS_T 0 (cA (cA (cB (cA (cB (cB laws_eqIntS_b)))))) A K
noncomputable def laws_eqIntS_K0  (x0 : List Int) (x1 : List Int) : Ex → AS → Option (RsD [.own tB] × PsO [.ro tIs, .ro tIs]) := kBlk 0 (kSeq (fun A K => ev laws_eqIntS_E laws_eqIntS_T 1000 (cB (cB (cB laws_eqIntS_b))) A K) (laws_eqIntS_Ke x0 x1))
noncomputable def laws_eqIntS_x0_0 (d0 : Bool) : AS := ⟨[(4, .v (.one (.d true tB d0)))], []⟩
noncomputable def laws_eqIntS_x0_1 : AS := ⟨[], []⟩
theorem laws_eqIntS_l0 {R : Type} {K : Ex → AS → Option R} {s : laws_eqIntS_t0.D} (n : Nat) {v : Option R} (h : iterG laws_eqIntS_t0 laws_eqIntS_B0 K n s = v) (hv : ∃ r, v = some r) : loopG laws_eqIntS_t0 laws_eqIntS_B0 K s = v := loop_eq (ev_mono _ _) n h hv
theorem laws_eqIntS_main (x0 : List Int) (x1 : List Int) : laws_eqIntS_F (x0, (x1, ())) =
 brk (!decide ((x0.length : Int) = (x1.length : Int)))
 (some ((false, ()), ((), ((), ()))))
 (loopG laws_eqIntS_t0 laws_eqIntS_B0 (laws_eqIntS_K0 x0 x1) ((x0, (x1, ((0 : Int), ()))), ())) := by kernel_rfl
theorem laws_eqIntS_r0 {R : Type} (K : Ex → AS → Option R) (n : Nat) (t0 : List Int) (t1 : List Int) (t5 : Int) : iterG laws_eqIntS_t0 laws_eqIntS_B0 K (n + 1) ((t0, (t1, (t5, ()))), ()) =
 brk (decide (t5 < (t0.length : Int)))
 (ck (decide (0 ≤ t5) && decide (t5 < t0.length)) (ck (decide (0 ≤ t5) && decide (t5 < t1.length)) (brk (!decide (rdD tI t0 t5 = rdD tI t1 t5))
 (K .ret (laws_eqIntS_x0_0 false))
 (iterG laws_eqIntS_t0 laws_eqIntS_B0 K n ((t0, (t1, (IntKind.i64.wrap (t5 + (1 : Int)), ()))), ())))))
 (K (.exit 0) (laws_eqIntS_x0_1)) := by kernel_rfl
theorem laws_eqIntS_e0_0 (x0 : List Int) (x1 : List Int) (d0 : Bool) : laws_eqIntS_K0 x0 x1 .ret (laws_eqIntS_x0_0 d0) =
 some ((d0, ()), ((), ((), ()))) := by kernel_rfl
theorem laws_eqIntS_e0_1 (x0 : List Int) (x1 : List Int) : laws_eqIntS_K0 x0 x1 (.exit 0) (laws_eqIntS_x0_1) =
 some ((true, ()), ((), ((), ()))) := by kernel_rfl
/-! laws.markIntS -/
noncomputable def laws_markIntS_b : Code := bd Try.f17
@[reducible] def laws_markIntS_t0 : Tm := ⟨[], [], [(0, .own 1000000), (1, .sc true tI), (5, .sc true tI)], [(1000000, .arr 3 tI)], [1], []⟩
def laws_markIntS_T : List (Nat × Tm) := [(0, laws_markIntS_t0)]
noncomputable def laws_markIntS_E : Env := ⟨tt0, []⟩
noncomputable def laws_markIntS_F : PsD [.inp tIs, .ro tI] → Option (RsD [.own tI] × PsO [.inp tIs, .ro tI]) := fun x => evFn laws_markIntS_E laws_markIntS_T Try.f17 laws_markIntS_b [.inp tIs, .ro tI] [.own tI] x
@[reducible] noncomputable def laws_markIntS_C : Ct := ⟨[.inp tIs, .ro tI], [.own tI], laws_markIntS_F⟩
theorem laws_markIntS_h (x : PsD [.inp tIs, .ro tI]) (y : RsD [.own tI] × PsO [.inp tIs, .ro tI]) (h : laws_markIntS_F x = some y) : evFn laws_markIntS_E laws_markIntS_T Try.f17 laws_markIntS_b [.inp tIs, .ro tI] [.own tI] x = some y := h
theorem laws_markIntS_c : ∀ f c, get laws_markIntS_E.ct f = some c → Sat Try.prog f c := ct_nil
theorem laws_markIntS_S : Sat Try.prog 17 laws_markIntS_C := fn_ok2 (envOk _) laws_markIntS_c mixedOk Try.func17 (by kernel_rfl : Try.f17.body = some laws_markIntS_b) (by kernel_rfl) (by kernel_rfl) laws_markIntS_h
noncomputable def laws_markIntS_Ke  (x0 : List Int) (x1 : Int) : Ex → AS → Option (RsD [.own tI] × PsO [.inp tIs, .ro tI]) := endK laws_markIntS_E Try.f17 [.inp tIs, .ro tI] [.own tI] (initL [.inp tIs, .ro tI] (x0, (x1, ())) 0).1
noncomputable def laws_markIntS_B0 {R : Type} : AS → (Ex → AS → Option R) → Option R := fun A K => ev laws_markIntS_E laws_markIntS_T 0 (cA (cA (cB (cA (cB laws_markIntS_b))))) A K
noncomputable def laws_markIntS_K0  (x0 : List Int) (x1 : Int) : Ex → AS → Option (RsD [.own tI] × PsO [.inp tIs, .ro tI]) := kBlk 0 (kSeq (fun A K => ev laws_markIntS_E laws_markIntS_T 1000 (cB (cB laws_markIntS_b)) A K) (laws_markIntS_Ke x0 x1))
noncomputable def laws_markIntS_x0_0 (d0 : Int) (d1 : List Int) : AS := ⟨[(1, .v (.one (.d true tI d0)))], [(1000000, .arr 3 tI d1)]⟩
theorem laws_markIntS_l0 {R : Type} {K : Ex → AS → Option R} {s : laws_markIntS_t0.D} (n : Nat) {v : Option R} (h : iterG laws_markIntS_t0 laws_markIntS_B0 K n s = v) (hv : ∃ r, v = some r) : loopG laws_markIntS_t0 laws_markIntS_B0 K s = v := loop_eq (ev_mono _ _) n h hv
theorem laws_markIntS_main (x0 : List Int) (x1 : Int) : laws_markIntS_F (x0, (x1, ())) =
 loopG laws_markIntS_t0 laws_markIntS_B0 (laws_markIntS_K0 x0 x1) ((x1, ((0 : Int), ())), (x0, ())) := by kernel_rfl
theorem laws_markIntS_r0 {R : Type} (K : Ex → AS → Option R) (n : Nat) (t1 : Int) (t5 : Int) (a1000000 : List Int) : iterG laws_markIntS_t0 laws_markIntS_B0 K (n + 1) ((t1, (t5, ())), (a1000000, ())) =
 brk (decide (t5 < (a1000000.length : Int)))
 (ck (decide (0 ≤ t5) && decide (t5 < a1000000.length)) (iterG laws_markIntS_t0 laws_markIntS_B0 K n ((IntKind.i64.wrap (t1 + (1 : Int)), (IntKind.i64.wrap (t5 + (1 : Int)), ())), (a1000000.set t5.toNat t1, ()))))
 (K (.exit 0) (laws_markIntS_x0_0 t1 a1000000)) := by kernel_rfl
theorem laws_markIntS_e0_0 (x0 : List Int) (x1 : Int) (d0 : Int) (d1 : List Int) : laws_markIntS_K0 x0 x1 (.exit 0) (laws_markIntS_x0_0 d0 d1) =
 some ((d0, ()), (d1, ((), ()))) := by kernel_rfl
/-! laws.heldIntS -/
noncomputable def laws_heldIntS_b : Code := bd Try.f18
@[reducible] def laws_heldIntS_t0 : Tm := ⟨[], [], [(0, .sc true tIs), (1, .sc true tI), (5, .sc true tI)], [], [1, 4], []⟩
def laws_heldIntS_T : List (Nat × Tm) := [(0, laws_heldIntS_t0)]
noncomputable def laws_heldIntS_E : Env := ⟨tt0, []⟩
noncomputable def laws_heldIntS_F : PsD [.ro tIs, .ro tI] → Option (RsD [.own tI] × PsO [.ro tIs, .ro tI]) := fun x => evFn laws_heldIntS_E laws_heldIntS_T Try.f18 laws_heldIntS_b [.ro tIs, .ro tI] [.own tI] x
@[reducible] noncomputable def laws_heldIntS_C : Ct := ⟨[.ro tIs, .ro tI], [.own tI], laws_heldIntS_F⟩
theorem laws_heldIntS_h (x : PsD [.ro tIs, .ro tI]) (y : RsD [.own tI] × PsO [.ro tIs, .ro tI]) (h : laws_heldIntS_F x = some y) : evFn laws_heldIntS_E laws_heldIntS_T Try.f18 laws_heldIntS_b [.ro tIs, .ro tI] [.own tI] x = some y := h
theorem laws_heldIntS_c : ∀ f c, get laws_heldIntS_E.ct f = some c → Sat Try.prog f c := ct_nil
theorem laws_heldIntS_S : Sat Try.prog 18 laws_heldIntS_C := fn_ok2 (envOk _) laws_heldIntS_c mixedOk Try.func18 (by kernel_rfl : Try.f18.body = some laws_heldIntS_b) (by kernel_rfl) (by kernel_rfl) laws_heldIntS_h
noncomputable def laws_heldIntS_Ke  (x0 : List Int) (x1 : Int) : Ex → AS → Option (RsD [.own tI] × PsO [.ro tIs, .ro tI]) := endK laws_heldIntS_E Try.f18 [.ro tIs, .ro tI] [.own tI] (initL [.ro tIs, .ro tI] (x0, (x1, ())) 0).1
noncomputable def laws_heldIntS_B0 {R : Type} : AS → (Ex → AS → Option R) → Option R := fun A K => ev laws_heldIntS_E laws_heldIntS_T 0 (cA (cA (cB (cA (cB laws_heldIntS_b))))) A K
noncomputable def laws_heldIntS_K0  (x0 : List Int) (x1 : Int) : Ex → AS → Option (RsD [.own tI] × PsO [.ro tIs, .ro tI]) := kBlk 0 (kSeq (fun A K => ev laws_heldIntS_E laws_heldIntS_T 1000 (cB (cB laws_heldIntS_b)) A K) (laws_heldIntS_Ke x0 x1))
noncomputable def laws_heldIntS_x0_0 (d0 : Int) (d1 : Int) : AS := ⟨[(1, .v (.one (.d true tI d0))), (4, .v (.one (.d true tI d1)))], []⟩
noncomputable def laws_heldIntS_x0_1 (d0 : Int) : AS := ⟨[(1, .v (.one (.d true tI d0)))], []⟩
theorem laws_heldIntS_l0 {R : Type} {K : Ex → AS → Option R} {s : laws_heldIntS_t0.D} (n : Nat) {v : Option R} (h : iterG laws_heldIntS_t0 laws_heldIntS_B0 K n s = v) (hv : ∃ r, v = some r) : loopG laws_heldIntS_t0 laws_heldIntS_B0 K s = v := loop_eq (ev_mono _ _) n h hv
theorem laws_heldIntS_main (x0 : List Int) (x1 : Int) : laws_heldIntS_F (x0, (x1, ())) =
 loopG laws_heldIntS_t0 laws_heldIntS_B0 (laws_heldIntS_K0 x0 x1) ((x0, (x1, ((0 : Int), ()))), ()) := by kernel_rfl
theorem laws_heldIntS_r0 {R : Type} (K : Ex → AS → Option R) (n : Nat) (t0 : List Int) (t1 : Int) (t5 : Int) : iterG laws_heldIntS_t0 laws_heldIntS_B0 K (n + 1) ((t0, (t1, (t5, ()))), ()) =
 brk (decide (t5 < (t0.length : Int)))
 (ck (decide (0 ≤ t5) && decide (t5 < t0.length)) (brk (!decide (rdD tI t0 t5 = t1))
 (K .ret (laws_heldIntS_x0_0 t1 (-1 : Int)))
 (iterG laws_heldIntS_t0 laws_heldIntS_B0 K n ((t0, (IntKind.i64.wrap (t1 + (1 : Int)), (IntKind.i64.wrap (t5 + (1 : Int)), ()))), ()))))
 (K (.exit 0) (laws_heldIntS_x0_1 t1)) := by kernel_rfl
theorem laws_heldIntS_e0_0 (x0 : List Int) (x1 : Int) (d0 : Int) (d1 : Int) : laws_heldIntS_K0 x0 x1 .ret (laws_heldIntS_x0_0 d0 d1) =
 some ((d1, ()), ((), ((), ()))) := by kernel_rfl
theorem laws_heldIntS_e0_1 (x0 : List Int) (x1 : Int) (d0 : Int) : laws_heldIntS_K0 x0 x1 (.exit 0) (laws_heldIntS_x0_1 d0) =
 some ((d0, ()), ((), ((), ()))) := by kernel_rfl
/-! laws.FnExactClear -/
noncomputable def laws_FnExactClear_b : Code := bd Try.f4
def laws_FnExactClear_T : List (Nat × Tm) := []
noncomputable def laws_FnExactClear_E : Env := ⟨tt0, [(13, spec_Clear_C), (14, laws_toIntS_C), (15, impl_Clear_C), (16, laws_eqIntS_C), (17, laws_markIntS_C), (18, laws_heldIntS_C)]⟩
noncomputable def laws_FnExactClear_F : PsD [.ro tIs, .ro tI] → Option (RsD [.own tB] × PsO [.ro tIs, .ro tI]) := fun x => evFn laws_FnExactClear_E laws_FnExactClear_T Try.f4 laws_FnExactClear_b [.ro tIs, .ro tI] [.own tB] x
@[reducible] noncomputable def laws_FnExactClear_C : Ct := ⟨[.ro tIs, .ro tI], [.own tB], laws_FnExactClear_F⟩
theorem laws_FnExactClear_h (x : PsD [.ro tIs, .ro tI]) (y : RsD [.own tB] × PsO [.ro tIs, .ro tI]) (h : laws_FnExactClear_F x = some y) : evFn laws_FnExactClear_E laws_FnExactClear_T Try.f4 laws_FnExactClear_b [.ro tIs, .ro tI] [.own tB] x = some y := h
theorem laws_FnExactClear_c : ∀ f c, get laws_FnExactClear_E.ct f = some c → Sat Try.prog f c := ct_cons spec_Clear_S (ct_cons laws_toIntS_S (ct_cons impl_Clear_S (ct_cons laws_eqIntS_S (ct_cons laws_markIntS_S (ct_cons laws_heldIntS_S (ct_nil))))))
theorem laws_FnExactClear_S : Sat Try.prog 4 laws_FnExactClear_C := fn_ok2 (envOk _) laws_FnExactClear_c mixedOk Try.func4 (by kernel_rfl : Try.f4.body = some laws_FnExactClear_b) (by kernel_rfl) (by kernel_rfl) laws_FnExactClear_h
noncomputable def laws_FnExactClear_Ke  (x0 : List Int) (x1 : Int) : Ex → AS → Option (RsD [.own tB] × PsO [.ro tIs, .ro tI]) := endK laws_FnExactClear_E Try.f4 [.ro tIs, .ro tI] [.own tB] (initL [.ro tIs, .ro tI] (x0, (x1, ())) 0).1
theorem laws_FnExactClear_main (x0 : List Int) (x1 : Int) : laws_FnExactClear_F (x0, (x1, ())) =
 brk (decide ((1048576 : Int) < (x0.length : Int)))
 (some ((true, ()), ((), ((), ()))))
 ((laws_toIntS_F (x0, ())).bind fun y16 =>
 (spec_Clear_F (y16.1.1, (x1, ()))).bind fun y18 =>
 (laws_toIntS_F (x0, ())).bind fun y20 =>
 (impl_Clear_F (y20.1.1, (x1, ()))).bind fun y23 =>
 (laws_eqIntS_F (y23.1.1, (y18.1.1, ()))).bind fun y26 =>
 brk (!y26.1.1)
 (some ((false, ()), ((), ((), ()))))
 ((laws_toIntS_F (x0, ())).bind fun y30 =>
 (laws_eqIntS_F (y20.1.1, (y30.1.1, ()))).bind fun y31 =>
 brk (!y31.1.1)
 (some ((false, ()), ((), ((), ()))))
 ((laws_markIntS_F (y20.1.1, ((1 : Int), ()))).bind fun y35 =>
 brk (decide (y35.1.1 < (0 : Int)))
 (some ((false, ()), ((), ((), ()))))
 ((laws_eqIntS_F (y23.1.1, (y18.1.1, ()))).bind fun y41 =>
 brk (!y41.1.1)
 (some ((false, ()), ((), ((), ()))))
 ((laws_markIntS_F (y23.1.1, ((1 : Int), ()))).bind fun y46 =>
 (laws_heldIntS_F (y46.2.1, ((1 : Int), ()))).bind fun y49 =>
 brk (decide (y49.1.1 < (0 : Int)))
 (some ((false, ()), ((), ((), ()))))
 (brk (!decide (y49.1.1 = y46.1.1))
 (some ((false, ()), ((), ((), ()))))
 ((laws_toIntS_F (x0, ())).bind fun y56 =>
 (impl_Clear_F (y56.1.1, (x1, ()))).bind fun y58 =>
 (laws_eqIntS_F (y58.1.1, (y18.1.1, ()))).bind fun y61 =>
 brk (!y61.1.1)
 (some ((false, ()), ((), ((), ()))))
 ((laws_heldIntS_F (y46.2.1, ((1 : Int), ()))).bind fun y65 =>
 brk (decide (y65.1.1 < (0 : Int)))
 (some ((false, ()), ((), ((), ()))))
 (brk (!decide (y65.1.1 = y46.1.1))
 (some ((false, ()), ((), ((), ()))))
 (some ((true, ()), ((), ((), ()))))))))))))) := by kernel_rfl
end Go.Refl
