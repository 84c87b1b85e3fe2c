/- Functions of the program, told by the evaluator: printed by a program of this claim. No condition. -/
import Derived.Test.YtbhonnfinekpcaaFnTornGf
namespace Go.Refl
open Go.RowKit Go.Proofs
set_option linter.unusedVariables false
set_option maxRecDepth 100000
/-! slices.Equal[[]int,int] -/
noncomputable def slices_Equal_int_b : Code := bd Try.f60
@[reducible] def slices_Equal_int_t0 : Tm := ⟨[], [], [(0, .sc true tIs), (1, .sc true tIs), (12, .sc true tI), (13, .sc true tI)], [], [4], []⟩
def slices_Equal_int_T : List (Nat × Tm) := [(0, slices_Equal_int_t0)]
noncomputable def slices_Equal_int_E : Env := ⟨tt0, []⟩
noncomputable def slices_Equal_int_F : PsD [.ro tIs, .ro tIs] → Option (RsD [.own tB] × PsO [.ro tIs, .ro tIs]) := fun x => evFn slices_Equal_int_E slices_Equal_int_T Try.f60 slices_Equal_int_b [.ro tIs, .ro tIs] [.own tB] x
@[reducible] noncomputable def slices_Equal_int_C : Ct := ⟨[.ro tIs, .ro tIs], [.own tB], slices_Equal_int_F⟩
theorem slices_Equal_int_h (x : PsD [.ro tIs, .ro tIs]) (y : RsD [.own tB] × PsO [.ro tIs, .ro tIs]) (h : slices_Equal_int_F x = some y) : evFn slices_Equal_int_E slices_Equal_int_T Try.f60 slices_Equal_int_b [.ro tIs, .ro tIs] [.own tB] x = some y := h
theorem slices_Equal_int_c : ∀ f c, get slices_Equal_int_E.ct f = some c → Sat Try.prog f c := ct_nil
theorem slices_Equal_int_S : Sat Try.prog 60 slices_Equal_int_C := fn_ok2 (envOk _) slices_Equal_int_c mixedOk Try.func60 (by kernel_rfl : Try.f60.body = some slices_Equal_int_b) (by kernel_rfl) (by kernel_rfl) slices_Equal_int_h
noncomputable def slices_Equal_int_Ke  (x0 : List Int) (x1 : List Int) : Ex → AS → Option (RsD [.own tB] × PsO [.ro tIs, .ro tIs]) := endK slices_Equal_int_E Try.f60 [.ro tIs, .ro tIs] [.own tB] (initL [.ro tIs, .ro tIs] (x0, (x1, ())) 0).1
noncomputable def slices_Equal_int_B0 {R : Type} : AS → (Ex → AS → Option R) → Option R := fun A K => ev slices_Equal_int_E slices_Equal_int_T 0 (cA (cA (cB (cA (cB (cB slices_Equal_int_b)))))) A K
noncomputable def slices_Equal_int_K0  (x0 : List Int) (x1 : List Int) : Ex → AS → Option (RsD [.own tB] × PsO [.ro tIs, .ro tIs]) := kBlk 0 (kSeq (fun A K => ev slices_Equal_int_E slices_Equal_int_T 1000 (cB (cB (cB slices_Equal_int_b))) A K) (slices_Equal_int_Ke x0 x1))
noncomputable def slices_Equal_int_x0_0 (d0 : Bool) : AS := ⟨[(4, .v (.one (.d true tB d0)))], []⟩
noncomputable def slices_Equal_int_x0_1 : AS := ⟨[], []⟩
theorem slices_Equal_int_l0 {R : Type} {K : Ex → AS → Option R} {s : slices_Equal_int_t0.D} (n : Nat) {v : Option R} (h : iterG slices_Equal_int_t0 slices_Equal_int_B0 K n s = v) (hv : ∃ r, v = some r) : loopG slices_Equal_int_t0 slices_Equal_int_B0 K s = v := loop_eq (ev_mono _ _) n h hv
theorem slices_Equal_int_main (x0 : List Int) (x1 : List Int) : slices_Equal_int_F (x0, (x1, ())) =
 brk (!decide ((x0.length : Int) = (x1.length : Int)))
 (some ((false, ()), ((), ((), ()))))
 (loopG slices_Equal_int_t0 slices_Equal_int_B0 (slices_Equal_int_K0 x0 x1) ((x0, (x1, ((x0.length : Int), ((0 : Int), ())))), ())) := by kernel_rfl
theorem slices_Equal_int_r0 {R : Type} (K : Ex → AS → Option R) (n : Nat) (t0 : List Int) (t1 : List Int) (t12 : Int) (t13 : Int) : iterG slices_Equal_int_t0 slices_Equal_int_B0 K (n + 1) ((t0, (t1, (t12, (t13, ())))), ()) =
 brk (decide (t13 < t12))
 (ck (decide (0 ≤ t13) && decide (t13 < t0.length)) (ck (decide (0 ≤ t13) && decide (t13 < t1.length)) (brk (!decide (rdD tI t0 t13 = rdD tI t1 t13))
 (K .ret (slices_Equal_int_x0_0 false))
 (iterG slices_Equal_int_t0 slices_Equal_int_B0 K n ((t0, (t1, (t12, (IntKind.i64.wrap (t13 + (1 : Int)), ())))), ())))))
 (K (.exit 0) (slices_Equal_int_x0_1)) := by kernel_rfl
theorem slices_Equal_int_e0_0 (x0 : List Int) (x1 : List Int) (d0 : Bool) : slices_Equal_int_K0 x0 x1 .ret (slices_Equal_int_x0_0 d0) =
 some ((d0, ()), ((), ((), ()))) := by kernel_rfl
theorem slices_Equal_int_e0_1 (x0 : List Int) (x1 : List Int) : slices_Equal_int_K0 x0 x1 (.exit 0) (slices_Equal_int_x0_1) =
 some ((true, ()), ((), ((), ()))) := by kernel_rfl
/-! slices.EqualFunc[[][]int,[][]int,[]int,[]int] -/
noncomputable def slices_EqualFunc__int_b : Code := bd Try.f61
@[reducible] def slices_EqualFunc__int_t0 : Tm := ⟨[], [], [(1, .sc true tIss), (2, .fnv 60 []), (15, .sc true tIss), (16, .sc true tI), (17, .sc true tI)], [], [6], []⟩
def slices_EqualFunc__int_T : List (Nat × Tm) := [(0, slices_EqualFunc__int_t0)]
noncomputable def slices_EqualFunc__int_E : Env := ⟨tt0, [(60, slices_Equal_int_C)]⟩
noncomputable def slices_EqualFunc__int_F : PsD [.ro tIss, .ro tIss, .fn 60 []] → Option (RsD [.own tB] × PsO [.ro tIss, .ro tIss, .fn 60 []]) := fun x => evFn slices_EqualFunc__int_E slices_EqualFunc__int_T Try.f61 slices_EqualFunc__int_b [.ro tIss, .ro tIss, .fn 60 []] [.own tB] x
@[reducible] noncomputable def slices_EqualFunc__int_C : Ct := ⟨[.ro tIss, .ro tIss, .fn 60 []], [.own tB], slices_EqualFunc__int_F⟩
theorem slices_EqualFunc__int_h (x : PsD [.ro tIss, .ro tIss, .fn 60 []]) (y : RsD [.own tB] × PsO [.ro tIss, .ro tIss, .fn 60 []]) (h : slices_EqualFunc__int_F x = some y) : evFn slices_EqualFunc__int_E slices_EqualFunc__int_T Try.f61 slices_EqualFunc__int_b [.ro tIss, .ro tIss, .fn 60 []] [.own tB] x = some y := h
theorem slices_EqualFunc__int_c : ∀ f c, get slices_EqualFunc__int_E.ct f = some c → Sat Try.prog f c := ct_cons slices_Equal_int_S (ct_nil)
theorem slices_EqualFunc__int_S : Sat Try.prog 61 slices_EqualFunc__int_C := fn_ok2 (envOk _) slices_EqualFunc__int_c mixedOk Try.func61 (by kernel_rfl : Try.f61.body = some slices_EqualFunc__int_b) (by kernel_rfl) (by kernel_rfl) slices_EqualFunc__int_h
noncomputable def slices_EqualFunc__int_Ke  (x0 : List (List Int)) (x1 : List (List Int)) (x2 : Unit) : Ex → AS → Option (RsD [.own tB] × PsO [.ro tIss, .ro tIss, .fn 60 []]) := endK slices_EqualFunc__int_E Try.f61 [.ro tIss, .ro tIss, .fn 60 []] [.own tB] (initL [.ro tIss, .ro tIss, .fn 60 []] (x0, (x1, (x2, ()))) 0).1
noncomputable def slices_EqualFunc__int_B0 {R : Type} : AS → (Ex → AS → Option R) → Option R := fun A K => ev slices_EqualFunc__int_E slices_EqualFunc__int_T 0 (cA (cA (cB (cA (cB (cB slices_EqualFunc__int_b)))))) A K
noncomputable def slices_EqualFunc__int_K0  (x0 : List (List Int)) (x1 : List (List Int)) (x2 : Unit) : Ex → AS → Option (RsD [.own tB] × PsO [.ro tIss, .ro tIss, .fn 60 []]) := kBlk 0 (kSeq (fun A K => ev slices_EqualFunc__int_E slices_EqualFunc__int_T 1000 (cB (cB (cB slices_EqualFunc__int_b))) A K) (slices_EqualFunc__int_Ke x0 x1 x2))
noncomputable def slices_EqualFunc__int_x0_0 (d0 : Bool) : AS := ⟨[(6, .v (.one (.d true tB d0)))], []⟩
noncomputable def slices_EqualFunc__int_x0_1 : AS := ⟨[], []⟩
theorem slices_EqualFunc__int_l0 {R : Type} {K : Ex → AS → Option R} {s : slices_EqualFunc__int_t0.D} (n : Nat) {v : Option R} (h : iterG slices_EqualFunc__int_t0 slices_EqualFunc__int_B0 K n s = v) (hv : ∃ r, v = some r) : loopG slices_EqualFunc__int_t0 slices_EqualFunc__int_B0 K s = v := loop_eq (ev_mono _ _) n h hv
theorem slices_EqualFunc__int_main (x0 : List (List Int)) (x1 : List (List Int)) (x2 : Unit) : slices_EqualFunc__int_F (x0, (x1, (x2, ()))) =
 brk (!decide ((x0.length : Int) = (x1.length : Int)))
 (some ((false, ()), ((), ((), ((), ())))))
 (loopG slices_EqualFunc__int_t0 slices_EqualFunc__int_B0 (slices_EqualFunc__int_K0 x0 x1 x2) ((x1, (x0, ((x0.length : Int), ((0 : Int), ())))), ())) := by kernel_rfl
theorem slices_EqualFunc__int_r0 {R : Type} (K : Ex → AS → Option R) (n : Nat) (t1 : List (List Int)) (t15 : List (List Int)) (t16 : Int) (t17 : Int) : iterG slices_EqualFunc__int_t0 slices_EqualFunc__int_B0 K (n + 1) ((t1, (t15, (t16, (t17, ())))), ()) =
 brk (decide (t17 < t16))
 (ck (decide (0 ≤ t17) && decide (t17 < t15.length)) (ck (decide (0 ≤ t17) && decide (t17 < t1.length)) ((slices_Equal_int_F (rdD tIs t15 t17, (rdD tIs t1 t17, ()))).bind fun y29 =>
 brk (!y29.1.1)
 (K .ret (slices_EqualFunc__int_x0_0 false))
 (iterG slices_EqualFunc__int_t0 slices_EqualFunc__int_B0 K n ((t1, (t15, (t16, (IntKind.i64.wrap (t17 + (1 : Int)), ())))), ())))))
 (K (.exit 0) (slices_EqualFunc__int_x0_1)) := by kernel_rfl
theorem slices_EqualFunc__int_e0_0 (x0 : List (List Int)) (x1 : List (List Int)) (x2 : Unit) (d0 : Bool) : slices_EqualFunc__int_K0 x0 x1 x2 .ret (slices_EqualFunc__int_x0_0 d0) =
 some ((d0, ()), ((), ((), ((), ())))) := by kernel_rfl
theorem slices_EqualFunc__int_e0_1 (x0 : List (List Int)) (x1 : List (List Int)) (x2 : Unit) : slices_EqualFunc__int_K0 x0 x1 x2 (.exit 0) (slices_EqualFunc__int_x0_1) =
 some ((true, ()), ((), ((), ((), ())))) := by kernel_rfl
/-! impl.SameMeta -/
noncomputable def impl_SameMeta_b : Code := bd Try.f17
def impl_SameMeta_T : List (Nat × Tm) := []
noncomputable def impl_SameMeta_E : Env := ⟨tt0, [(60, slices_Equal_int_C), (61, slices_EqualFunc__int_C)]⟩
noncomputable def impl_SameMeta_F : PsD [.ro tMeta, .ro tMeta] → Option (RsD [.own tB] × PsO [.ro tMeta, .ro tMeta]) := fun x => evFn impl_SameMeta_E impl_SameMeta_T Try.f17 impl_SameMeta_b [.ro tMeta, .ro tMeta] [.own tB] x
@[reducible] noncomputable def impl_SameMeta_C : Ct := ⟨[.ro tMeta, .ro tMeta], [.own tB], impl_SameMeta_F⟩
theorem impl_SameMeta_h (x : PsD [.ro tMeta, .ro tMeta]) (y : RsD [.own tB] × PsO [.ro tMeta, .ro tMeta]) (h : impl_SameMeta_F x = some y) : evFn impl_SameMeta_E impl_SameMeta_T Try.f17 impl_SameMeta_b [.ro tMeta, .ro tMeta] [.own tB] x = some y := h
theorem impl_SameMeta_c : ∀ f c, get impl_SameMeta_E.ct f = some c → Sat Try.prog f c := ct_cons slices_Equal_int_S (ct_cons slices_EqualFunc__int_S (ct_nil))
theorem impl_SameMeta_S : Sat Try.prog 17 impl_SameMeta_C := fn_ok2 (envOk _) impl_SameMeta_c mixedOk Try.func17 (by kernel_rfl : Try.f17.body = some impl_SameMeta_b) (by kernel_rfl) (by kernel_rfl) impl_SameMeta_h
noncomputable def impl_SameMeta_Ke  (x0 : List Int × List (List Int) × Bool × Bool × Bool × Int × Unit) (x1 : List Int × List (List Int) × Bool × Bool × Bool × Int × Unit) : Ex → AS → Option (RsD [.own tB] × PsO [.ro tMeta, .ro tMeta]) := endK impl_SameMeta_E Try.f17 [.ro tMeta, .ro tMeta] [.own tB] (initL [.ro tMeta, .ro tMeta] (x0, (x1, ())) 0).1
theorem impl_SameMeta_main (x0 : List Int × List (List Int) × Bool × Bool × Bool × Int × Unit) (x1 : List Int × List (List Int) × Bool × Bool × Bool × Int × Unit) : impl_SameMeta_F (x0, (x1, ())) =
 (slices_Equal_int_F (x0.1, (x1.1, ()))).bind fun y9 =>
 brk y9.1.1
 ((slices_EqualFunc__int_F (x0.2.1, (x1.2.1, ((), ())))).bind fun y15 =>
 brk y15.1.1
 (brk (x0.2.2.1 == x1.2.2.1)
 (brk (x0.2.2.2.1 == x1.2.2.2.1)
 (brk (x0.2.2.2.2.1 == x1.2.2.2.2.1)
 (some ((decide (x0.2.2.2.2.2.1 = x1.2.2.2.2.2.1), ()), ((), ((), ()))))
 (some ((false, ()), ((), ((), ())))))
 (some ((false, ()), ((), ((), ())))))
 (some ((false, ()), ((), ((), ())))))
 (some ((false, ()), ((), ((), ())))))
 (some ((false, ()), ((), ((), ())))) := by kernel_rfl
/-! laws.FnTorn -/
noncomputable def laws_FnTorn_b : Code := bd Try.f3
def laws_FnTorn_T : List (Nat × Tm) := []
noncomputable def laws_FnTorn_E : Env := ⟨tt0, [(11, laws_big_C), (12, spec_DrawTear_C), (13, impl_Tear_C), (14, spec_Tear_C), (15, impl_SlotGet_C), (16, impl_SlotPut_C), (17, impl_SameMeta_C)]⟩
noncomputable def laws_FnTorn_F : PsD [.ro tYs] → Option (RsD [.own tB] × PsO [.ro tYs]) := fun x => evFn laws_FnTorn_E laws_FnTorn_T Try.f3 laws_FnTorn_b [.ro tYs] [.own tB] x
@[reducible] noncomputable def laws_FnTorn_C : Ct := ⟨[.ro tYs], [.own tB], laws_FnTorn_F⟩
theorem laws_FnTorn_h (x : PsD [.ro tYs]) (y : RsD [.own tB] × PsO [.ro tYs]) (h : laws_FnTorn_F x = some y) : evFn laws_FnTorn_E laws_FnTorn_T Try.f3 laws_FnTorn_b [.ro tYs] [.own tB] x = some y := h
theorem laws_FnTorn_c : ∀ f c, get laws_FnTorn_E.ct f = some c → Sat Try.prog f c := ct_cons laws_big_S (ct_cons spec_DrawTear_S (ct_cons impl_Tear_S (ct_cons spec_Tear_S (ct_cons impl_SlotGet_S (ct_cons impl_SlotPut_S (ct_cons impl_SameMeta_S (ct_nil)))))))
theorem laws_FnTorn_S : Sat Try.prog 3 laws_FnTorn_C := fn_ok2 (envOk _) laws_FnTorn_c mixedOk Try.func3 (by kernel_rfl : Try.f3.body = some laws_FnTorn_b) (by kernel_rfl) (by kernel_rfl) laws_FnTorn_h
noncomputable def laws_FnTorn_Ke  (x0 : List Int) : Ex → AS → Option (RsD [.own tB] × PsO [.ro tYs]) := endK laws_FnTorn_E Try.f3 [.ro tYs] [.own tB] (initL [.ro tYs] (x0, ()) 0).1
theorem laws_FnTorn_main (x0 : List Int) : laws_FnTorn_F (x0, ()) =
 (laws_big_F (x0, ())).bind fun y19 =>
 brk y19.1.1
 (some ((true, ()), ((), ())))
 ((spec_DrawTear_F (x0, ())).bind fun y22 =>
 (impl_Tear_F ((y22.1.1.1, (y22.1.1.2.1, ())), ((y22.1.2.1.1, (y22.1.2.1.2.1, (y22.1.2.1.2.2.1, (y22.1.2.1.2.2.2.1, (y22.1.2.1.2.2.2.2.1, (y22.1.2.1.2.2.2.2.2.1, ())))))), (y22.1.2.2.1, ())))).bind fun y29 =>
 (spec_Tear_F ((y22.1.1.1, (y22.1.1.2.1, ())), ((y22.1.2.1.1, (y22.1.2.1.2.1, (y22.1.2.1.2.2.1, (y22.1.2.1.2.2.2.1, (y22.1.2.1.2.2.2.2.1, (y22.1.2.1.2.2.2.2.2.1, ())))))), (y22.1.2.2.1, ())))).bind fun y33 =>
 brk (!decide (y29.1.1.1 = y33.1.1.1))
 (some ((false, ()), ((), ())))
 (brk (!decide (y29.1.1.2.1 = y33.1.1.2.1))
 (some ((false, ()), ((), ())))
 ((impl_SlotGet_F ((y29.1.1.1, (y29.1.1.2.1, ())), ())).bind fun y52 =>
 (impl_SlotGet_F ((y22.1.1.1, (y22.1.1.2.1, ())), ())).bind fun y58 =>
 (impl_SlotPut_F ((y22.1.1.1, (y22.1.1.2.1, ())), ((y22.1.2.1.1, (y22.1.2.1.2.1, (y22.1.2.1.2.2.1, (y22.1.2.1.2.2.2.1, (y22.1.2.1.2.2.2.2.1, (y22.1.2.1.2.2.2.2.2.1, ())))))), ()))).bind fun y65 =>
 (impl_SlotGet_F ((y65.1.1.1, (y65.1.1.2.1, ())), ())).bind fun y66 =>
 brk (y52.1.2.2.1 == y58.1.2.2.1)
 (brk (decide (y52.1.2.1 = y58.1.2.1))
 ((impl_SameMeta_F ((y52.1.1.1, (y52.1.1.2.1, (y52.1.1.2.2.1, (y52.1.1.2.2.2.1, (y52.1.1.2.2.2.2.1, (y52.1.1.2.2.2.2.2.1, ())))))), ((y58.1.1.1, (y58.1.1.2.1, (y58.1.1.2.2.1, (y58.1.1.2.2.2.1, (y58.1.1.2.2.2.2.1, (y58.1.1.2.2.2.2.2.1, ())))))), ()))).bind fun y81 =>
 brk y81.1.1
 (some ((true, ()), ((), ())))
 (brk (y52.1.2.2.1 == y66.1.2.2.1)
 (brk (decide (y52.1.2.1 = y66.1.2.1))
 ((impl_SameMeta_F ((y52.1.1.1, (y52.1.1.2.1, (y52.1.1.2.2.1, (y52.1.1.2.2.2.1, (y52.1.1.2.2.2.2.1, (y52.1.1.2.2.2.2.2.1, ())))))), ((y66.1.1.1, (y66.1.1.2.1, (y66.1.1.2.2.1, (y66.1.1.2.2.2.1, (y66.1.1.2.2.2.2.1, (y66.1.1.2.2.2.2.2.1, ())))))), ()))).bind fun y96 =>
 some ((y96.1.1, ()), ((), ())))
 (some ((false, ()), ((), ()))))
 (some ((false, ()), ((), ())))))
 (brk (y52.1.2.2.1 == y66.1.2.2.1)
 (brk (decide (y52.1.2.1 = y66.1.2.1))
 ((impl_SameMeta_F ((y52.1.1.1, (y52.1.1.2.1, (y52.1.1.2.2.1, (y52.1.1.2.2.2.1, (y52.1.1.2.2.2.2.1, (y52.1.1.2.2.2.2.2.1, ())))))), ((y66.1.1.1, (y66.1.1.2.1, (y66.1.1.2.2.1, (y66.1.1.2.2.2.1, (y66.1.1.2.2.2.2.1, (y66.1.1.2.2.2.2.2.1, ())))))), ()))).bind fun y96 =>
 some ((y96.1.1, ()), ((), ())))
 (some ((false, ()), ((), ()))))
 (some ((false, ()), ((), ())))))
 (brk (y52.1.2.2.1 == y66.1.2.2.1)
 (brk (decide (y52.1.2.1 = y66.1.2.1))
 ((impl_SameMeta_F ((y52.1.1.1, (y52.1.1.2.1, (y52.1.1.2.2.1, (y52.1.1.2.2.2.1, (y52.1.1.2.2.2.2.1, (y52.1.1.2.2.2.2.2.1, ())))))), ((y66.1.1.1, (y66.1.1.2.1, (y66.1.1.2.2.1, (y66.1.1.2.2.2.1, (y66.1.1.2.2.2.2.1, (y66.1.1.2.2.2.2.2.1, ())))))), ()))).bind fun y96 =>
 some ((y96.1.1, ()), ((), ())))
 (some ((false, ()), ((), ()))))
 (some ((false, ()), ((), ()))))))) := by kernel_rfl
end Go.Refl
