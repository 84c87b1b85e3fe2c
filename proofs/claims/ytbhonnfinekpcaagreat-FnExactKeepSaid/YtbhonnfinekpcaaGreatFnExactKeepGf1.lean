/- Functions of the program, told by the evaluator: printed by a program of this claim. No condition. -/
import Derived.Test.YtbhonnfinekpcaaGreatFnExactKeepGf
namespace Go.Refl
open Go.RowKit Go.Proofs
set_option linter.unusedVariables false
set_option maxRecDepth 100000
/-! impl.reader).num -/
noncomputable def impl_reader_num_b : Code := bd Tryz.f114
def impl_reader_num_T : List (Nat × Tm) := []
noncomputable def impl_reader_num_E : Env := ⟨tt0, [(118, impl_GetNum_C)]⟩
noncomputable def impl_reader_num_F : PsD [.st tL4Cur] → Option (RsD [.own tI] × PsO [.st tL4Cur]) := fun x => evFn impl_reader_num_E impl_reader_num_T Tryz.f114 impl_reader_num_b [.st tL4Cur] [.own tI] x
@[reducible] noncomputable def impl_reader_num_C : Ct := ⟨[.st tL4Cur], [.own tI], impl_reader_num_F⟩
theorem impl_reader_num_h (x : PsD [.st tL4Cur]) (y : RsD [.own tI] × PsO [.st tL4Cur]) (h : impl_reader_num_F x = some y) : evFn impl_reader_num_E impl_reader_num_T Tryz.f114 impl_reader_num_b [.st tL4Cur] [.own tI] x = some y := h
theorem impl_reader_num_c : ∀ f c, get impl_reader_num_E.ct f = some c → Sat Tryz.prog f c := ct_cons impl_GetNum_S (ct_nil)
theorem impl_reader_num_S : Sat Tryz.prog 114 impl_reader_num_C := fn_ok2 (envOk _) impl_reader_num_c mixedOk Tryz.func114 (by kernel_rfl : Tryz.f114.body = some impl_reader_num_b) (by kernel_rfl) (by kernel_rfl) impl_reader_num_h
noncomputable def impl_reader_num_Ke  (x0 : List Int × Int × Bool × Unit) : Ex → AS → Option (RsD [.own tI] × PsO [.st tL4Cur]) := endK impl_reader_num_E Tryz.f114 [.st tL4Cur] [.own tI] (initL [.st tL4Cur] (x0, ()) 0).1
theorem impl_reader_num_main (x0 : List Int × Int × Bool × Unit) : impl_reader_num_F (x0, ()) =
 brk (!x0.2.2.1)
 (some (((0 : Int), ()), ((x0.1, (x0.2.1, (x0.2.2.1, ()))), ())))
 ((impl_GetNum_F (x0.1, (x0.2.1, ()))).bind fun y20 =>
 some ((y20.1.1, ()), ((x0.1, (y20.1.2.1, (y20.1.2.2.1, ()))), ()))) := by kernel_rfl
/-! impl.reader).list -/
noncomputable def impl_reader_list_b : Code := bd Tryz.f113
@[reducible] def impl_reader_list_t0 : Tm := ⟨[(3, 960000)], [], [(0, .ptr 1000000 0), (3, .own 960000), (4, .sc true tI), (5, .sc true tI)], [(960000, .arr 3 tI), (1000000, .box [.sc true tYs, .sc true tI, .sc true tB])], [3], [960000]⟩
def impl_reader_list_T : List (Nat × Tm) := [(0, impl_reader_list_t0)]
noncomputable def impl_reader_list_E : Env := ⟨tt0, [(114, impl_reader_num_C)]⟩
noncomputable def impl_reader_list_F : PsD [.st tL4Cur] → Option (RsD [.own tIs] × PsO [.st tL4Cur]) := fun x => evFn impl_reader_list_E impl_reader_list_T Tryz.f113 impl_reader_list_b [.st tL4Cur] [.own tIs] x
@[reducible] noncomputable def impl_reader_list_C : Ct := ⟨[.st tL4Cur], [.own tIs], impl_reader_list_F⟩
theorem impl_reader_list_h (x : PsD [.st tL4Cur]) (y : RsD [.own tIs] × PsO [.st tL4Cur]) (h : impl_reader_list_F x = some y) : evFn impl_reader_list_E impl_reader_list_T Tryz.f113 impl_reader_list_b [.st tL4Cur] [.own tIs] x = some y := h
theorem impl_reader_list_c : ∀ f c, get impl_reader_list_E.ct f = some c → Sat Tryz.prog f c := ct_cons impl_reader_num_S (ct_nil)
theorem impl_reader_list_S : Sat Tryz.prog 113 impl_reader_list_C := fn_ok2 (envOk _) impl_reader_list_c mixedOk Tryz.func113 (by kernel_rfl : Tryz.f113.body = some impl_reader_list_b) (by kernel_rfl) (by kernel_rfl) impl_reader_list_h
noncomputable def impl_reader_list_Ke  (x0 : List Int × Int × Bool × Unit) : Ex → AS → Option (RsD [.own tIs] × PsO [.st tL4Cur]) := endK impl_reader_list_E Tryz.f113 [.st tL4Cur] [.own tIs] (initL [.st tL4Cur] (x0, ()) 0).1
noncomputable def impl_reader_list_B0 {R : Type} : AS → (Ex → AS → Option R) → Option R := fun A K => ev impl_reader_list_E impl_reader_list_T 0 (cA (cA (cB (cA (cB (cB (cB impl_reader_list_b))))))) A K
noncomputable def impl_reader_list_K0  (x0 : List Int × Int × Bool × Unit) : Ex → AS → Option (RsD [.own tIs] × PsO [.st tL4Cur]) := kBlk 0 (kSeq (fun A K => ev impl_reader_list_E impl_reader_list_T 1000 (cB (cB (cB (cB impl_reader_list_b)))) A K) (impl_reader_list_Ke x0))
noncomputable def impl_reader_list_x0_0 (d0 : List Int) (d1 : List Int) (d2 : Int) (d3 : Bool) : AS := ⟨[(3, .v (.one (.own 960000)))], [(960000, .arr 3 tI d0), (1000000, .box [.d true tYs d1, .d true tI d2, .d true tB d3])]⟩
theorem impl_reader_list_l0 {R : Type} {K : Ex → AS → Option R} {s : impl_reader_list_t0.D} (n : Nat) {v : Option R} (h : iterG impl_reader_list_t0 impl_reader_list_B0 K n s = v) (hv : ∃ r, v = some r) : loopG impl_reader_list_t0 impl_reader_list_B0 K s = v := loop_eq (ev_mono _ _) n h hv
theorem impl_reader_list_main (x0 : List Int × Int × Bool × Unit) : impl_reader_list_F (x0, ()) =
 (impl_reader_num_F ((x0.1, (x0.2.1, (x0.2.2.1, ()))), ())).bind fun y9 =>
 loopG impl_reader_list_t0 impl_reader_list_B0 (impl_reader_list_K0 x0) ((y9.1.1, ((0 : Int), ())), (([] : List Int), ((y9.2.1.1, (y9.2.1.2.1, (y9.2.1.2.2.1, ()))), ()))) := by kernel_rfl
theorem impl_reader_list_r0 {R : Type} (K : Ex → AS → Option R) (n : Nat) (t4 : Int) (t5 : Int) (a960000 : List Int) (b1000000_0 : List Int) (b1000000_1 : Int) (b1000000_2 : Bool) : iterG impl_reader_list_t0 impl_reader_list_B0 K (n + 1) ((t4, (t5, ())), (a960000, ((b1000000_0, (b1000000_1, (b1000000_2, ()))), ()))) =
 brk (decide (t5 < t4))
 (brk b1000000_2
 ((impl_reader_num_F ((b1000000_0, (b1000000_1, (b1000000_2, ()))), ())).bind fun y22 =>
 ck (decide ((a960000.length + [y22.1.1].length) * 8 ≤ big47)) (iterG impl_reader_list_t0 impl_reader_list_B0 K n ((t4, (IntKind.i64.wrap (t5 + (1 : Int)), ())), (a960000 ++ [y22.1.1], ((y22.2.1.1, (y22.2.1.2.1, (y22.2.1.2.2.1, ()))), ())))))
 (K (.exit 0) (impl_reader_list_x0_0 a960000 b1000000_0 b1000000_1 b1000000_2)))
 (K (.exit 0) (impl_reader_list_x0_0 a960000 b1000000_0 b1000000_1 b1000000_2)) := by kernel_rfl
theorem impl_reader_list_e0_0 (x0 : List Int × Int × Bool × Unit) (d0 : List Int) (d1 : List Int) (d2 : Int) (d3 : Bool) : impl_reader_list_K0 x0 (.exit 0) (impl_reader_list_x0_0 d0 d1 d2 d3) =
 some ((d0, ()), ((d1, (d2, (d3, ()))), ())) := by kernel_rfl
/-! impl.isCell -/
noncomputable def impl_isCell_b : Code := bd Tryz.f104
def impl_isCell_T : List (Nat × Tm) := []
noncomputable def impl_isCell_E : Env := ⟨tt0, [(85, impl_from_C)]⟩
noncomputable def impl_isCell_F : PsD [.ro tI] → Option (RsD [.own tB] × PsO [.ro tI]) := fun x => evFn impl_isCell_E impl_isCell_T Tryz.f104 impl_isCell_b [.ro tI] [.own tB] x
@[reducible] noncomputable def impl_isCell_C : Ct := ⟨[.ro tI], [.own tB], impl_isCell_F⟩
theorem impl_isCell_h (x : PsD [.ro tI]) (y : RsD [.own tB] × PsO [.ro tI]) (h : impl_isCell_F x = some y) : evFn impl_isCell_E impl_isCell_T Tryz.f104 impl_isCell_b [.ro tI] [.own tB] x = some y := h
theorem impl_isCell_c : ∀ f c, get impl_isCell_E.ct f = some c → Sat Tryz.prog f c := ct_cons impl_from_S (ct_nil)
theorem impl_isCell_S : Sat Tryz.prog 104 impl_isCell_C := fn_ok2 (envOk _) impl_isCell_c mixedOk Tryz.func104 (by kernel_rfl : Tryz.f104.body = some impl_isCell_b) (by kernel_rfl) (by kernel_rfl) impl_isCell_h
noncomputable def impl_isCell_Ke  (x0 : Int) : Ex → AS → Option (RsD [.own tB] × PsO [.ro tI]) := endK impl_isCell_E Tryz.f104 [.ro tI] [.own tB] (initL [.ro tI] (x0, ()) 0).1
theorem impl_isCell_main (x0 : Int) : impl_isCell_F (x0, ()) =
 (impl_from_F (x0, ((0 : Int), ((7 : Int), ())))).bind fun y4 =>
 some ((y4.1.1, ()), ((), ())) := by kernel_rfl
/-! impl.MarksOk -/
noncomputable def impl_MarksOk_b : Code := bd Tryz.f91
@[reducible] def impl_MarksOk_t0 : Tm := ⟨[], [], [(0, .sc true tIs), (5, .sc true tIs), (6, .sc true tI), (7, .sc true tI)], [], [2], []⟩
def impl_MarksOk_T : List (Nat × Tm) := [(0, impl_MarksOk_t0)]
noncomputable def impl_MarksOk_E : Env := ⟨tt0, [(104, impl_isCell_C)]⟩
noncomputable def impl_MarksOk_F : PsD [.ro tIs] → Option (RsD [.own tB] × PsO [.ro tIs]) := fun x => evFn impl_MarksOk_E impl_MarksOk_T Tryz.f91 impl_MarksOk_b [.ro tIs] [.own tB] x
@[reducible] noncomputable def impl_MarksOk_C : Ct := ⟨[.ro tIs], [.own tB], impl_MarksOk_F⟩
theorem impl_MarksOk_h (x : PsD [.ro tIs]) (y : RsD [.own tB] × PsO [.ro tIs]) (h : impl_MarksOk_F x = some y) : evFn impl_MarksOk_E impl_MarksOk_T Tryz.f91 impl_MarksOk_b [.ro tIs] [.own tB] x = some y := h
theorem impl_MarksOk_c : ∀ f c, get impl_MarksOk_E.ct f = some c → Sat Tryz.prog f c := ct_cons impl_isCell_S (ct_nil)
theorem impl_MarksOk_S : Sat Tryz.prog 91 impl_MarksOk_C := fn_ok2 (envOk _) impl_MarksOk_c mixedOk Tryz.func91 (by kernel_rfl : Tryz.f91.body = some impl_MarksOk_b) (by kernel_rfl) (by kernel_rfl) impl_MarksOk_h
noncomputable def impl_MarksOk_Ke  (x0 : List Int) : Ex → AS → Option (RsD [.own tB] × PsO [.ro tIs]) := endK impl_MarksOk_E Tryz.f91 [.ro tIs] [.own tB] (initL [.ro tIs] (x0, ()) 0).1
noncomputable def impl_MarksOk_B0 {R : Type} : AS → (Ex → AS → Option R) → Option R := fun A K => ev impl_MarksOk_E impl_MarksOk_T 0 (cA (cA (cB (cA (cB impl_MarksOk_b))))) A K
noncomputable def impl_MarksOk_K0  (x0 : List Int) : Ex → AS → Option (RsD [.own tB] × PsO [.ro tIs]) := kBlk 0 (kSeq (fun A K => ev impl_MarksOk_E impl_MarksOk_T 1000 (cB (cB impl_MarksOk_b)) A K) (impl_MarksOk_Ke x0))
noncomputable def impl_MarksOk_x0_0 (d0 : Bool) : AS := ⟨[(2, .v (.one (.d true tB d0)))], []⟩
noncomputable def impl_MarksOk_x0_1 : AS := ⟨[], []⟩
theorem impl_MarksOk_l0 {R : Type} {K : Ex → AS → Option R} {s : impl_MarksOk_t0.D} (n : Nat) {v : Option R} (h : iterG impl_MarksOk_t0 impl_MarksOk_B0 K n s = v) (hv : ∃ r, v = some r) : loopG impl_MarksOk_t0 impl_MarksOk_B0 K s = v := loop_eq (ev_mono _ _) n h hv
theorem impl_MarksOk_main (x0 : List Int) : impl_MarksOk_F (x0, ()) =
 loopG impl_MarksOk_t0 impl_MarksOk_B0 (impl_MarksOk_K0 x0) ((x0, (x0, ((x0.length : Int), ((0 : Int), ())))), ()) := by kernel_rfl
theorem impl_MarksOk_r0 {R : Type} (K : Ex → AS → Option R) (n : Nat) (t0 : List Int) (t5 : List Int) (t6 : Int) (t7 : Int) : iterG impl_MarksOk_t0 impl_MarksOk_B0 K (n + 1) ((t0, (t5, (t6, (t7, ())))), ()) =
 brk (decide (t7 < t6))
 (ck (decide (0 ≤ t7) && decide (t7 < t5.length)) ((impl_isCell_F (rdD tI t5 t7, ())).bind fun y13 =>
 brk (!y13.1.1)
 (K .ret (impl_MarksOk_x0_0 false))
 (brk (decide ((0 : Int) < t7))
 (ck (decide (0 ≤ IntKind.i64.wrap (t7 - (1 : Int))) && decide (IntKind.i64.wrap (t7 - (1 : Int)) < t0.length)) (brk (decide (rdD tI t5 t7 ≤ rdD tI t0 (IntKind.i64.wrap (t7 - (1 : Int)))))
 (K .ret (impl_MarksOk_x0_0 false))
 (iterG impl_MarksOk_t0 impl_MarksOk_B0 K n ((t0, (t5, (t6, (IntKind.i64.wrap (t7 + (1 : Int)), ())))), ()))))
 (iterG impl_MarksOk_t0 impl_MarksOk_B0 K n ((t0, (t5, (t6, (IntKind.i64.wrap (t7 + (1 : Int)), ())))), ())))))
 (K (.exit 0) (impl_MarksOk_x0_1)) := by kernel_rfl
theorem impl_MarksOk_e0_0 (x0 : List Int) (d0 : Bool) : impl_MarksOk_K0 x0 .ret (impl_MarksOk_x0_0 d0) =
 some ((d0, ()), ((), ())) := by kernel_rfl
theorem impl_MarksOk_e0_1 (x0 : List Int) : impl_MarksOk_K0 x0 (.exit 0) (impl_MarksOk_x0_1) =
 some ((true, ()), ((), ())) := by kernel_rfl
/-! impl.marksAll$1 -/
noncomputable def impl_marksAll_1_b : Code := bd Tryz.f90
def impl_marksAll_1_T : List (Nat × Tm) := []
noncomputable def impl_marksAll_1_E : Env := ⟨tt0, [(91, impl_MarksOk_C)]⟩
noncomputable def impl_marksAll_1_F : PsD [.ro tIs] → Option (RsD [.own tB] × PsO [.ro tIs]) := fun x => evFn impl_marksAll_1_E impl_marksAll_1_T Tryz.f90 impl_marksAll_1_b [.ro tIs] [.own tB] x
@[reducible] noncomputable def impl_marksAll_1_C : Ct := ⟨[.ro tIs], [.own tB], impl_marksAll_1_F⟩
theorem impl_marksAll_1_h (x : PsD [.ro tIs]) (y : RsD [.own tB] × PsO [.ro tIs]) (h : impl_marksAll_1_F x = some y) : evFn impl_marksAll_1_E impl_marksAll_1_T Tryz.f90 impl_marksAll_1_b [.ro tIs] [.own tB] x = some y := h
theorem impl_marksAll_1_c : ∀ f c, get impl_marksAll_1_E.ct f = some c → Sat Tryz.prog f c := ct_cons impl_MarksOk_S (ct_nil)
theorem impl_marksAll_1_S : Sat Tryz.prog 90 impl_marksAll_1_C := fn_ok2 (envOk _) impl_marksAll_1_c mixedOk Tryz.func90 (by kernel_rfl : Tryz.f90.body = some impl_marksAll_1_b) (by kernel_rfl) (by kernel_rfl) impl_marksAll_1_h
noncomputable def impl_marksAll_1_Ke  (x0 : List Int) : Ex → AS → Option (RsD [.own tB] × PsO [.ro tIs]) := endK impl_marksAll_1_E Tryz.f90 [.ro tIs] [.own tB] (initL [.ro tIs] (x0, ()) 0).1
theorem impl_marksAll_1_main (x0 : List Int) : impl_marksAll_1_F (x0, ()) =
 (impl_MarksOk_F (x0, ())).bind fun y4 =>
 some ((!y4.1.1, ()), ((), ())) := by kernel_rfl
/-! slices.IndexFunc[[][]int,[]int] -/
noncomputable def slices_IndexFunc__int_b : Code := bd Tryz.f103
@[reducible] def slices_IndexFunc__int_t0 : Tm := ⟨[], [], [(0, .sc true tIss), (1, .fnv 90 []), (7, .sc true tI), (8, .sc true tI)], [], [4], []⟩
def slices_IndexFunc__int_T : List (Nat × Tm) := [(0, slices_IndexFunc__int_t0)]
noncomputable def slices_IndexFunc__int_E : Env := ⟨tt0, [(90, impl_marksAll_1_C)]⟩
noncomputable def slices_IndexFunc__int_F : PsD [.ro tIss, .fn 90 []] → Option (RsD [.own tI] × PsO [.ro tIss, .fn 90 []]) := fun x => evFn slices_IndexFunc__int_E slices_IndexFunc__int_T Tryz.f103 slices_IndexFunc__int_b [.ro tIss, .fn 90 []] [.own tI] x
@[reducible] noncomputable def slices_IndexFunc__int_C : Ct := ⟨[.ro tIss, .fn 90 []], [.own tI], slices_IndexFunc__int_F⟩
theorem slices_IndexFunc__int_h (x : PsD [.ro tIss, .fn 90 []]) (y : RsD [.own tI] × PsO [.ro tIss, .fn 90 []]) (h : slices_IndexFunc__int_F x = some y) : evFn slices_IndexFunc__int_E slices_IndexFunc__int_T Tryz.f103 slices_IndexFunc__int_b [.ro tIss, .fn 90 []] [.own tI] x = some y := h
theorem slices_IndexFunc__int_c : ∀ f c, get slices_IndexFunc__int_E.ct f = some c → Sat Tryz.prog f c := ct_cons impl_marksAll_1_S (ct_nil)
theorem slices_IndexFunc__int_S : Sat Tryz.prog 103 slices_IndexFunc__int_C := fn_ok2 (envOk _) slices_IndexFunc__int_c mixedOk Tryz.func103 (by kernel_rfl : Tryz.f103.body = some slices_IndexFunc__int_b) (by kernel_rfl) (by kernel_rfl) slices_IndexFunc__int_h
noncomputable def slices_IndexFunc__int_Ke  (x0 : List (List Int)) (x1 : Unit) : Ex → AS → Option (RsD [.own tI] × PsO [.ro tIss, .fn 90 []]) := endK slices_IndexFunc__int_E Tryz.f103 [.ro tIss, .fn 90 []] [.own tI] (initL [.ro tIss, .fn 90 []] (x0, (x1, ())) 0).1
noncomputable def slices_IndexFunc__int_B0 {R : Type} : AS → (Ex → AS → Option R) → Option R := fun A K => ev slices_IndexFunc__int_E slices_IndexFunc__int_T 0 (cA (cA (cB (cA (cB slices_IndexFunc__int_b))))) A K
noncomputable def slices_IndexFunc__int_K0  (x0 : List (List Int)) (x1 : Unit) : Ex → AS → Option (RsD [.own tI] × PsO [.ro tIss, .fn 90 []]) := kBlk 0 (kSeq (fun A K => ev slices_IndexFunc__int_E slices_IndexFunc__int_T 1000 (cB (cB slices_IndexFunc__int_b)) A K) (slices_IndexFunc__int_Ke x0 x1))
noncomputable def slices_IndexFunc__int_x0_0 (d0 : Int) : AS := ⟨[(4, .v (.one (.d true tI d0)))], []⟩
noncomputable def slices_IndexFunc__int_x0_1 : AS := ⟨[], []⟩
theorem slices_IndexFunc__int_l0 {R : Type} {K : Ex → AS → Option R} {s : slices_IndexFunc__int_t0.D} (n : Nat) {v : Option R} (h : iterG slices_IndexFunc__int_t0 slices_IndexFunc__int_B0 K n s = v) (hv : ∃ r, v = some r) : loopG slices_IndexFunc__int_t0 slices_IndexFunc__int_B0 K s = v := loop_eq (ev_mono _ _) n h hv
theorem slices_IndexFunc__int_main (x0 : List (List Int)) (x1 : Unit) : slices_IndexFunc__int_F (x0, (x1, ())) =
 loopG slices_IndexFunc__int_t0 slices_IndexFunc__int_B0 (slices_IndexFunc__int_K0 x0 x1) ((x0, ((x0.length : Int), ((0 : Int), ()))), ()) := by kernel_rfl
theorem slices_IndexFunc__int_r0 {R : Type} (K : Ex → AS → Option R) (n : Nat) (t0 : List (List Int)) (t7 : Int) (t8 : Int) : iterG slices_IndexFunc__int_t0 slices_IndexFunc__int_B0 K (n + 1) ((t0, (t7, (t8, ()))), ()) =
 brk (decide (t8 < t7))
 (ck (decide (0 ≤ t8) && decide (t8 < t0.length)) ((impl_marksAll_1_F (rdD tIs t0 t8, ())).bind fun y16 =>
 brk y16.1.1
 (K .ret (slices_IndexFunc__int_x0_0 t8))
 (iterG slices_IndexFunc__int_t0 slices_IndexFunc__int_B0 K n ((t0, (t7, (IntKind.i64.wrap (t8 + (1 : Int)), ()))), ()))))
 (K (.exit 0) (slices_IndexFunc__int_x0_1)) := by kernel_rfl
theorem slices_IndexFunc__int_e0_0 (x0 : List (List Int)) (x1 : Unit) (d0 : Int) : slices_IndexFunc__int_K0 x0 x1 .ret (slices_IndexFunc__int_x0_0 d0) =
 some ((d0, ()), ((), ((), ()))) := by kernel_rfl
theorem slices_IndexFunc__int_e0_1 (x0 : List (List Int)) (x1 : Unit) : slices_IndexFunc__int_K0 x0 x1 (.exit 0) (slices_IndexFunc__int_x0_1) =
 some (((-1 : Int), ()), ((), ((), ()))) := by kernel_rfl
/-! slices.ContainsFunc[[][]int,[]int] -/
noncomputable def slices_ContainsFunc__int_b : Code := bd Tryz.f89
def slices_ContainsFunc__int_T : List (Nat × Tm) := []
noncomputable def slices_ContainsFunc__int_E : Env := ⟨tt0, [(103, slices_IndexFunc__int_C)]⟩
noncomputable def slices_ContainsFunc__int_F : PsD [.ro tIss, .fn 90 []] → Option (RsD [.own tB] × PsO [.ro tIss, .fn 90 []]) := fun x => evFn slices_ContainsFunc__int_E slices_ContainsFunc__int_T Tryz.f89 slices_ContainsFunc__int_b [.ro tIss, .fn 90 []] [.own tB] x
@[reducible] noncomputable def slices_ContainsFunc__int_C : Ct := ⟨[.ro tIss, .fn 90 []], [.own tB], slices_ContainsFunc__int_F⟩
theorem slices_ContainsFunc__int_h (x : PsD [.ro tIss, .fn 90 []]) (y : RsD [.own tB] × PsO [.ro tIss, .fn 90 []]) (h : slices_ContainsFunc__int_F x = some y) : evFn slices_ContainsFunc__int_E slices_ContainsFunc__int_T Tryz.f89 slices_ContainsFunc__int_b [.ro tIss, .fn 90 []] [.own tB] x = some y := h
theorem slices_ContainsFunc__int_c : ∀ f c, get slices_ContainsFunc__int_E.ct f = some c → Sat Tryz.prog f c := ct_cons slices_IndexFunc__int_S (ct_nil)
theorem slices_ContainsFunc__int_S : Sat Tryz.prog 89 slices_ContainsFunc__int_C := fn_ok2 (envOk _) slices_ContainsFunc__int_c mixedOk Tryz.func89 (by kernel_rfl : Tryz.f89.body = some slices_ContainsFunc__int_b) (by kernel_rfl) (by kernel_rfl) slices_ContainsFunc__int_h
noncomputable def slices_ContainsFunc__int_Ke  (x0 : List (List Int)) (x1 : Unit) : Ex → AS → Option (RsD [.own tB] × PsO [.ro tIss, .fn 90 []]) := endK slices_ContainsFunc__int_E Tryz.f89 [.ro tIss, .fn 90 []] [.own tB] (initL [.ro tIss, .fn 90 []] (x0, (x1, ())) 0).1
theorem slices_ContainsFunc__int_main (x0 : List (List Int)) (x1 : Unit) : slices_ContainsFunc__int_F (x0, (x1, ())) =
 (slices_IndexFunc__int_F (x0, ((), ()))).bind fun y7 =>
 some ((decide ((0 : Int) ≤ y7.1.1), ()), ((), ((), ()))) := by kernel_rfl
/-! impl.marksAll -/
noncomputable def impl_marksAll_b : Code := bd Tryz.f70
def impl_marksAll_T : List (Nat × Tm) := []
noncomputable def impl_marksAll_E : Env := ⟨tt0, [(89, slices_ContainsFunc__int_C)]⟩
noncomputable def impl_marksAll_F : PsD [.ro tIss] → Option (RsD [.own tB] × PsO [.ro tIss]) := fun x => evFn impl_marksAll_E impl_marksAll_T Tryz.f70 impl_marksAll_b [.ro tIss] [.own tB] x
@[reducible] noncomputable def impl_marksAll_C : Ct := ⟨[.ro tIss], [.own tB], impl_marksAll_F⟩
theorem impl_marksAll_h (x : PsD [.ro tIss]) (y : RsD [.own tB] × PsO [.ro tIss]) (h : impl_marksAll_F x = some y) : evFn impl_marksAll_E impl_marksAll_T Tryz.f70 impl_marksAll_b [.ro tIss] [.own tB] x = some y := h
theorem impl_marksAll_c : ∀ f c, get impl_marksAll_E.ct f = some c → Sat Tryz.prog f c := ct_cons slices_ContainsFunc__int_S (ct_nil)
theorem impl_marksAll_S : Sat Tryz.prog 70 impl_marksAll_C := fn_ok2 (envOk _) impl_marksAll_c mixedOk Tryz.func70 (by kernel_rfl : Tryz.f70.body = some impl_marksAll_b) (by kernel_rfl) (by kernel_rfl) impl_marksAll_h
noncomputable def impl_marksAll_Ke  (x0 : List (List Int)) : Ex → AS → Option (RsD [.own tB] × PsO [.ro tIss]) := endK impl_marksAll_E Tryz.f70 [.ro tIss] [.own tB] (initL [.ro tIss] (x0, ()) 0).1
theorem impl_marksAll_main (x0 : List (List Int)) : impl_marksAll_F (x0, ()) =
 brk (decide ((x0.length : Int) = (3 : Int)))
 ((slices_ContainsFunc__int_F (x0, ((), ()))).bind fun y8 =>
 some ((!y8.1.1, ()), ((), ())))
 (some ((false, ()), ((), ()))) := by kernel_rfl
/-! slices.Index[[]int,int] -/
noncomputable def slices_Index_int_b : Code := bd Tryz.f112
@[reducible] def slices_Index_int_t0 : Tm := ⟨[], [], [(0, .sc true tIs), (1, .sc true tI), (7, .sc true tI), (8, .sc true tI)], [], [4], []⟩
def slices_Index_int_T : List (Nat × Tm) := [(0, slices_Index_int_t0)]
noncomputable def slices_Index_int_E : Env := ⟨tt0, []⟩
noncomputable def slices_Index_int_F : PsD [.ro tIs, .ro tI] → Option (RsD [.own tI] × PsO [.ro tIs, .ro tI]) := fun x => evFn slices_Index_int_E slices_Index_int_T Tryz.f112 slices_Index_int_b [.ro tIs, .ro tI] [.own tI] x
@[reducible] noncomputable def slices_Index_int_C : Ct := ⟨[.ro tIs, .ro tI], [.own tI], slices_Index_int_F⟩
theorem slices_Index_int_h (x : PsD [.ro tIs, .ro tI]) (y : RsD [.own tI] × PsO [.ro tIs, .ro tI]) (h : slices_Index_int_F x = some y) : evFn slices_Index_int_E slices_Index_int_T Tryz.f112 slices_Index_int_b [.ro tIs, .ro tI] [.own tI] x = some y := h
theorem slices_Index_int_c : ∀ f c, get slices_Index_int_E.ct f = some c → Sat Tryz.prog f c := ct_nil
theorem slices_Index_int_S : Sat Tryz.prog 112 slices_Index_int_C := fn_ok2 (envOk _) slices_Index_int_c mixedOk Tryz.func112 (by kernel_rfl : Tryz.f112.body = some slices_Index_int_b) (by kernel_rfl) (by kernel_rfl) slices_Index_int_h
noncomputable def slices_Index_int_Ke  (x0 : List Int) (x1 : Int) : Ex → AS → Option (RsD [.own tI] × PsO [.ro tIs, .ro tI]) := endK slices_Index_int_E Tryz.f112 [.ro tIs, .ro tI] [.own tI] (initL [.ro tIs, .ro tI] (x0, (x1, ())) 0).1
noncomputable def slices_Index_int_B0 {R : Type} : AS → (Ex → AS → Option R) → Option R := fun A K => ev slices_Index_int_E slices_Index_int_T 0 (cA (cA (cB (cA (cB slices_Index_int_b))))) A K
noncomputable def slices_Index_int_K0  (x0 : List Int) (x1 : Int) : Ex → AS → Option (RsD [.own tI] × PsO [.ro tIs, .ro tI]) := kBlk 0 (kSeq (fun A K => ev slices_Index_int_E slices_Index_int_T 1000 (cB (cB slices_Index_int_b)) A K) (slices_Index_int_Ke x0 x1))
noncomputable def slices_Index_int_x0_0 (d0 : Int) : AS := ⟨[(4, .v (.one (.d true tI d0)))], []⟩
noncomputable def slices_Index_int_x0_1 : AS := ⟨[], []⟩
theorem slices_Index_int_l0 {R : Type} {K : Ex → AS → Option R} {s : slices_Index_int_t0.D} (n : Nat) {v : Option R} (h : iterG slices_Index_int_t0 slices_Index_int_B0 K n s = v) (hv : ∃ r, v = some r) : loopG slices_Index_int_t0 slices_Index_int_B0 K s = v := loop_eq (ev_mono _ _) n h hv
theorem slices_Index_int_main (x0 : List Int) (x1 : Int) : slices_Index_int_F (x0, (x1, ())) =
 loopG slices_Index_int_t0 slices_Index_int_B0 (slices_Index_int_K0 x0 x1) ((x0, (x1, ((x0.length : Int), ((0 : Int), ())))), ()) := by kernel_rfl
theorem slices_Index_int_r0 {R : Type} (K : Ex → AS → Option R) (n : Nat) (t0 : List Int) (t1 : Int) (t7 : Int) (t8 : Int) : iterG slices_Index_int_t0 slices_Index_int_B0 K (n + 1) ((t0, (t1, (t7, (t8, ())))), ()) =
 brk (decide (t8 < t7))
 (ck (decide (0 ≤ t8) && decide (t8 < t0.length)) (brk (decide (t1 = rdD tI t0 t8))
 (K .ret (slices_Index_int_x0_0 t8))
 (iterG slices_Index_int_t0 slices_Index_int_B0 K n ((t0, (t1, (t7, (IntKind.i64.wrap (t8 + (1 : Int)), ())))), ()))))
 (K (.exit 0) (slices_Index_int_x0_1)) := by kernel_rfl
theorem slices_Index_int_e0_0 (x0 : List Int) (x1 : Int) (d0 : Int) : slices_Index_int_K0 x0 x1 .ret (slices_Index_int_x0_0 d0) =
 some ((d0, ()), ((), ((), ()))) := by kernel_rfl
theorem slices_Index_int_e0_1 (x0 : List Int) (x1 : Int) : slices_Index_int_K0 x0 x1 (.exit 0) (slices_Index_int_x0_1) =
 some (((-1 : Int), ()), ((), ((), ()))) := by kernel_rfl
/-! slices.Contains[[]int,int] -/
noncomputable def slices_Contains_int_b : Code := bd Tryz.f102
def slices_Contains_int_T : List (Nat × Tm) := []
noncomputable def slices_Contains_int_E : Env := ⟨tt0, [(112, slices_Index_int_C)]⟩
noncomputable def slices_Contains_int_F : PsD [.ro tIs, .ro tI] → Option (RsD [.own tB] × PsO [.ro tIs, .ro tI]) := fun x => evFn slices_Contains_int_E slices_Contains_int_T Tryz.f102 slices_Contains_int_b [.ro tIs, .ro tI] [.own tB] x
@[reducible] noncomputable def slices_Contains_int_C : Ct := ⟨[.ro tIs, .ro tI], [.own tB], slices_Contains_int_F⟩
theorem slices_Contains_int_h (x : PsD [.ro tIs, .ro tI]) (y : RsD [.own tB] × PsO [.ro tIs, .ro tI]) (h : slices_Contains_int_F x = some y) : evFn slices_Contains_int_E slices_Contains_int_T Tryz.f102 slices_Contains_int_b [.ro tIs, .ro tI] [.own tB] x = some y := h
theorem slices_Contains_int_c : ∀ f c, get slices_Contains_int_E.ct f = some c → Sat Tryz.prog f c := ct_cons slices_Index_int_S (ct_nil)
theorem slices_Contains_int_S : Sat Tryz.prog 102 slices_Contains_int_C := fn_ok2 (envOk _) slices_Contains_int_c mixedOk Tryz.func102 (by kernel_rfl : Tryz.f102.body = some slices_Contains_int_b) (by kernel_rfl) (by kernel_rfl) slices_Contains_int_h
noncomputable def slices_Contains_int_Ke  (x0 : List Int) (x1 : Int) : Ex → AS → Option (RsD [.own tB] × PsO [.ro tIs, .ro tI]) := endK slices_Contains_int_E Tryz.f102 [.ro tIs, .ro tI] [.own tB] (initL [.ro tIs, .ro tI] (x0, (x1, ())) 0).1
theorem slices_Contains_int_main (x0 : List Int) (x1 : Int) : slices_Contains_int_F (x0, (x1, ())) =
 (slices_Index_int_F (x0, (x1, ()))).bind fun y7 =>
 some ((decide ((0 : Int) ≤ y7.1.1), ()), ((), ((), ()))) := by kernel_rfl
/-! impl.GensOk -/
noncomputable def impl_GensOk_b : Code := bd Tryz.f88
@[reducible] def impl_GensOk_t0 : Tm := ⟨[], [], [(0, .sc true tIs), (5, .sc true tIs), (6, .sc true tI), (7, .sc true tI)], [], [0, 2], []⟩
def impl_GensOk_T : List (Nat × Tm) := [(0, impl_GensOk_t0)]
noncomputable def impl_GensOk_E : Env := ⟨tt0, [(85, impl_from_C), (102, slices_Contains_int_C)]⟩
noncomputable def impl_GensOk_F : PsD [.ro tIs] → Option (RsD [.own tB] × PsO [.ro tIs]) := fun x => evFn impl_GensOk_E impl_GensOk_T Tryz.f88 impl_GensOk_b [.ro tIs] [.own tB] x
@[reducible] noncomputable def impl_GensOk_C : Ct := ⟨[.ro tIs], [.own tB], impl_GensOk_F⟩
theorem impl_GensOk_h (x : PsD [.ro tIs]) (y : RsD [.own tB] × PsO [.ro tIs]) (h : impl_GensOk_F x = some y) : evFn impl_GensOk_E impl_GensOk_T Tryz.f88 impl_GensOk_b [.ro tIs] [.own tB] x = some y := h
theorem impl_GensOk_c : ∀ f c, get impl_GensOk_E.ct f = some c → Sat Tryz.prog f c := ct_cons impl_from_S (ct_cons slices_Contains_int_S (ct_nil))
theorem impl_GensOk_S : Sat Tryz.prog 88 impl_GensOk_C := fn_ok2 (envOk _) impl_GensOk_c mixedOk Tryz.func88 (by kernel_rfl : Tryz.f88.body = some impl_GensOk_b) (by kernel_rfl) (by kernel_rfl) impl_GensOk_h
noncomputable def impl_GensOk_Ke  (x0 : List Int) : Ex → AS → Option (RsD [.own tB] × PsO [.ro tIs]) := endK impl_GensOk_E Tryz.f88 [.ro tIs] [.own tB] (initL [.ro tIs] (x0, ()) 0).1
noncomputable def impl_GensOk_B0 {R : Type} : AS → (Ex → AS → Option R) → Option R := fun A K => ev impl_GensOk_E impl_GensOk_T 0 (cA (cA (cB (cA (cB impl_GensOk_b))))) A K
noncomputable def impl_GensOk_K0  (x0 : List Int) : Ex → AS → Option (RsD [.own tB] × PsO [.ro tIs]) := kBlk 0 (kSeq (fun A K => ev impl_GensOk_E impl_GensOk_T 1000 (cB (cB impl_GensOk_b)) A K) (impl_GensOk_Ke x0))
noncomputable def impl_GensOk_x0_0 (d0 : List Int) (d1 : Bool) : AS := ⟨[(0, .v (.one (.d true tIs d0))), (2, .v (.one (.d true tB d1)))], []⟩
noncomputable def impl_GensOk_x0_1 (d0 : List Int) : AS := ⟨[(0, .v (.one (.d true tIs d0)))], []⟩
theorem impl_GensOk_l0 {R : Type} {K : Ex → AS → Option R} {s : impl_GensOk_t0.D} (n : Nat) {v : Option R} (h : iterG impl_GensOk_t0 impl_GensOk_B0 K n s = v) (hv : ∃ r, v = some r) : loopG impl_GensOk_t0 impl_GensOk_B0 K s = v := loop_eq (ev_mono _ _) n h hv
theorem impl_GensOk_main (x0 : List Int) : impl_GensOk_F (x0, ()) =
 loopG impl_GensOk_t0 impl_GensOk_B0 (impl_GensOk_K0 x0) ((x0, (x0, ((x0.length : Int), ((0 : Int), ())))), ()) := by kernel_rfl
theorem impl_GensOk_r0 {R : Type} (K : Ex → AS → Option R) (n : Nat) (t0 : List Int) (t5 : List Int) (t6 : Int) (t7 : Int) : iterG impl_GensOk_t0 impl_GensOk_B0 K (n + 1) ((t0, (t5, (t6, (t7, ())))), ()) =
 brk (decide (t7 < t6))
 (ck (decide (0 ≤ t7) && decide (t7 < t5.length)) ((impl_from_F (rdD tI t5 t7, ((1 : Int), ((100000 : Int), ())))).bind fun y13 =>
 brk (!y13.1.1)
 (K .ret (impl_GensOk_x0_0 t0 false))
 (ck (decide (0 ≤ (0 : Int)) && decide ((0 : Int) ≤ t7) && decide (t7 ≤ t0.length)) ((slices_Contains_int_F ((t0.take t7.toNat).drop (0 : Int).toNat, (rdD tI t5 t7, ()))).bind fun y20 =>
 brk y20.1.1
 (K .ret (impl_GensOk_x0_0 t0 false))
 (iterG impl_GensOk_t0 impl_GensOk_B0 K n ((t0, (t5, (t6, (IntKind.i64.wrap (t7 + (1 : Int)), ())))), ()))))))
 (K (.exit 0) (impl_GensOk_x0_1 t0)) := by kernel_rfl
theorem impl_GensOk_e0_0 (x0 : List Int) (d0 : List Int) (d1 : Bool) : impl_GensOk_K0 x0 .ret (impl_GensOk_x0_0 d0 d1) =
 some ((d1, ()), ((), ())) := by kernel_rfl
theorem impl_GensOk_e0_1 (x0 : List Int) (d0 : List Int) : impl_GensOk_K0 x0 (.exit 0) (impl_GensOk_x0_1 d0) =
 some ((decide ((d0.length : Int) ≤ (12 : Int)), ()), ((), ())) := by kernel_rfl
/-! impl.MetaOk -/
noncomputable def impl_MetaOk_b : Code := bd Tryz.f69
def impl_MetaOk_T : List (Nat × Tm) := []
noncomputable def impl_MetaOk_E : Env := ⟨tt0, [(70, impl_marksAll_C), (85, impl_from_C), (88, impl_GensOk_C)]⟩
noncomputable def impl_MetaOk_F : PsD [.ro tMeta] → Option (RsD [.own tB] × PsO [.ro tMeta]) := fun x => evFn impl_MetaOk_E impl_MetaOk_T Tryz.f69 impl_MetaOk_b [.ro tMeta] [.own tB] x
@[reducible] noncomputable def impl_MetaOk_C : Ct := ⟨[.ro tMeta], [.own tB], impl_MetaOk_F⟩
theorem impl_MetaOk_h (x : PsD [.ro tMeta]) (y : RsD [.own tB] × PsO [.ro tMeta]) (h : impl_MetaOk_F x = some y) : evFn impl_MetaOk_E impl_MetaOk_T Tryz.f69 impl_MetaOk_b [.ro tMeta] [.own tB] x = some y := h
theorem impl_MetaOk_c : ∀ f c, get impl_MetaOk_E.ct f = some c → Sat Tryz.prog f c := ct_cons impl_marksAll_S (ct_cons impl_from_S (ct_cons impl_GensOk_S (ct_nil)))
theorem impl_MetaOk_S : Sat Tryz.prog 69 impl_MetaOk_C := fn_ok2 (envOk _) impl_MetaOk_c mixedOk Tryz.func69 (by kernel_rfl : Tryz.f69.body = some impl_MetaOk_b) (by kernel_rfl) (by kernel_rfl) impl_MetaOk_h
noncomputable def impl_MetaOk_Ke  (x0 : List Int × List (List Int) × Bool × Bool × Bool × Int × Unit) : Ex → AS → Option (RsD [.own tB] × PsO [.ro tMeta]) := endK impl_MetaOk_E Tryz.f69 [.ro tMeta] [.own tB] (initL [.ro tMeta] (x0, ()) 0).1
theorem impl_MetaOk_main (x0 : List Int × List (List Int) × Bool × Bool × Bool × Int × Unit) : impl_MetaOk_F (x0, ()) =
 (impl_GensOk_F (x0.1, ())).bind fun y5 =>
 brk y5.1.1
 (brk (decide ((0 : Int) < (x0.1.length : Int)))
 ((impl_marksAll_F (x0.2.1, ())).bind fun y15 =>
 brk y15.1.1
 ((impl_from_F (x0.2.2.2.2.2.1, ((0 : Int), ((200 : Int), ())))).bind fun y20 =>
 brk y20.1.1
 (brk x0.2.2.2.1
 (some ((!x0.2.2.2.2.1, ()), ((), ())))
 (some ((true, ()), ((), ()))))
 (some ((false, ()), ((), ()))))
 (some ((false, ()), ((), ()))))
 (some ((false, ()), ((), ()))))
 (some ((false, ()), ((), ()))) := by kernel_rfl
/-! impl.PutNum -/
noncomputable def impl_PutNum_b : Code := bd Tryz.f122
@[reducible] def impl_PutNum_t0 : Tm := ⟨[(3, 960000)], [], [(0, .sc true tI), (3, .own 960000)], [(960000, .arr 5 tY)], [0, 3], [960000]⟩
def impl_PutNum_T : List (Nat × Tm) := [(0, impl_PutNum_t0)]
noncomputable def impl_PutNum_E : Env := ⟨tt0, []⟩
noncomputable def impl_PutNum_F : PsD [.ro tI] → Option (RsD [.own tYs] × PsO [.ro tI]) := fun x => evFn impl_PutNum_E impl_PutNum_T Tryz.f122 impl_PutNum_b [.ro tI] [.own tYs] x
@[reducible] noncomputable def impl_PutNum_C : Ct := ⟨[.ro tI], [.own tYs], impl_PutNum_F⟩
theorem impl_PutNum_h (x : PsD [.ro tI]) (y : RsD [.own tYs] × PsO [.ro tI]) (h : impl_PutNum_F x = some y) : evFn impl_PutNum_E impl_PutNum_T Tryz.f122 impl_PutNum_b [.ro tI] [.own tYs] x = some y := h
theorem impl_PutNum_c : ∀ f c, get impl_PutNum_E.ct f = some c → Sat Tryz.prog f c := ct_nil
theorem impl_PutNum_S : Sat Tryz.prog 122 impl_PutNum_C := fn_ok2 (envOk _) impl_PutNum_c mixedOk Tryz.func122 (by kernel_rfl : Tryz.f122.body = some impl_PutNum_b) (by kernel_rfl) (by kernel_rfl) impl_PutNum_h
noncomputable def impl_PutNum_Ke  (x0 : Int) : Ex → AS → Option (RsD [.own tYs] × PsO [.ro tI]) := endK impl_PutNum_E Tryz.f122 [.ro tI] [.own tYs] (initL [.ro tI] (x0, ()) 0).1
noncomputable def impl_PutNum_B0 {R : Type} : AS → (Ex → AS → Option R) → Option R := fun A K => ev impl_PutNum_E impl_PutNum_T 0 (cA (cA (cA (cB (cB (cB impl_PutNum_b)))))) A K
noncomputable def impl_PutNum_K0  (x0 : Int) : Ex → AS → Option (RsD [.own tYs] × PsO [.ro tI]) := kBlk 0 (kSeq (fun A K => ev impl_PutNum_E impl_PutNum_T 1000 (cB (cB (cB (cB impl_PutNum_b)))) A K) (impl_PutNum_Ke x0))
noncomputable def impl_PutNum_x0_0 (d0 : Int) (d1 : List Int) : AS := ⟨[(0, .v (.one (.d true tI d0))), (3, .v (.one (.own 960000)))], [(960000, .arr 5 tY d1)]⟩
theorem impl_PutNum_l0 {R : Type} {K : Ex → AS → Option R} {s : impl_PutNum_t0.D} (n : Nat) {v : Option R} (h : iterG impl_PutNum_t0 impl_PutNum_B0 K n s = v) (hv : ∃ r, v = some r) : loopG impl_PutNum_t0 impl_PutNum_B0 K s = v := loop_eq (ev_mono _ _) n h hv
theorem impl_PutNum_main (x0 : Int) : impl_PutNum_F (x0, ()) =
 brk (decide (x0 < (0 : Int)))
 (some ((([] : List Int), ()), ((), ())))
 (brk (decide ((2147483647 : Int) < x0))
 (some ((([] : List Int), ()), ((), ())))
 (loopG impl_PutNum_t0 impl_PutNum_B0 (impl_PutNum_K0 x0) ((x0, ()), (([] : List Int), ())))) := by kernel_rfl
theorem impl_PutNum_r0 {R : Type} (K : Ex → AS → Option R) (n : Nat) (t0 : Int) (a960000 : List Int) : iterG impl_PutNum_t0 impl_PutNum_B0 K (n + 1) ((t0, ()), (a960000, ())) =
 brk (decide ((127 : Int) < t0))
 (ck (decide ((a960000.length + [IntKind.u8.wrap (IntKind.i64.wrap ((t0.tmod (128 : Int)) + (128 : Int)))].length) * 1 ≤ big47)) (iterG impl_PutNum_t0 impl_PutNum_B0 K n ((IntKind.i64.wrap (t0.tdiv (128 : Int)), ()), (a960000 ++ [IntKind.u8.wrap (IntKind.i64.wrap ((t0.tmod (128 : Int)) + (128 : Int)))], ()))))
 (K (.exit 0) (impl_PutNum_x0_0 t0 a960000)) := by kernel_rfl
theorem impl_PutNum_e0_0 (x0 : Int) (d0 : Int) (d1 : List Int) : impl_PutNum_K0 x0 (.exit 0) (impl_PutNum_x0_0 d0 d1) =
 ck (decide ((d1.length + [IntKind.u8.wrap d0].length) * 1 ≤ big47)) (some ((d1 ++ [IntKind.u8.wrap d0], ()), ((), ()))) := by kernel_rfl
/-! impl.putNums -/
noncomputable def impl_putNums_b : Code := bd Tryz.f120
@[reducible] def impl_putNums_t0 : Tm := ⟨[(3, 960000)], [], [(3, .own 960000), (7, .sc true tIs), (8, .sc true tI), (9, .sc true tI)], [(960000, .arr 5 tY)], [3], [960000]⟩
def impl_putNums_T : List (Nat × Tm) := [(0, impl_putNums_t0)]
noncomputable def impl_putNums_E : Env := ⟨tt0, [(122, impl_PutNum_C)]⟩
noncomputable def impl_putNums_F : PsD [.ro tIs] → Option (RsD [.own tYs] × PsO [.ro tIs]) := fun x => evFn impl_putNums_E impl_putNums_T Tryz.f120 impl_putNums_b [.ro tIs] [.own tYs] x
@[reducible] noncomputable def impl_putNums_C : Ct := ⟨[.ro tIs], [.own tYs], impl_putNums_F⟩
theorem impl_putNums_h (x : PsD [.ro tIs]) (y : RsD [.own tYs] × PsO [.ro tIs]) (h : impl_putNums_F x = some y) : evFn impl_putNums_E impl_putNums_T Tryz.f120 impl_putNums_b [.ro tIs] [.own tYs] x = some y := h
theorem impl_putNums_c : ∀ f c, get impl_putNums_E.ct f = some c → Sat Tryz.prog f c := ct_cons impl_PutNum_S (ct_nil)
theorem impl_putNums_S : Sat Tryz.prog 120 impl_putNums_C := fn_ok2 (envOk _) impl_putNums_c mixedOk Tryz.func120 (by kernel_rfl : Tryz.f120.body = some impl_putNums_b) (by kernel_rfl) (by kernel_rfl) impl_putNums_h
noncomputable def impl_putNums_Ke  (x0 : List Int) : Ex → AS → Option (RsD [.own tYs] × PsO [.ro tIs]) := endK impl_putNums_E Tryz.f120 [.ro tIs] [.own tYs] (initL [.ro tIs] (x0, ()) 0).1
noncomputable def impl_putNums_B0 {R : Type} : AS → (Ex → AS → Option R) → Option R := fun A K => ev impl_putNums_E impl_putNums_T 0 (cA (cA (cB (cA (cB (cB impl_putNums_b)))))) A K
noncomputable def impl_putNums_K0  (x0 : List Int) : Ex → AS → Option (RsD [.own tYs] × PsO [.ro tIs]) := kBlk 0 (kSeq (fun A K => ev impl_putNums_E impl_putNums_T 1000 (cB (cB (cB impl_putNums_b))) A K) (impl_putNums_Ke x0))
noncomputable def impl_putNums_x0_0 (d0 : List Int) : AS := ⟨[(3, .v (.one (.own 960000)))], [(960000, .arr 5 tY d0)]⟩
theorem impl_putNums_l0 {R : Type} {K : Ex → AS → Option R} {s : impl_putNums_t0.D} (n : Nat) {v : Option R} (h : iterG impl_putNums_t0 impl_putNums_B0 K n s = v) (hv : ∃ r, v = some r) : loopG impl_putNums_t0 impl_putNums_B0 K s = v := loop_eq (ev_mono _ _) n h hv
theorem impl_putNums_main (x0 : List Int) : impl_putNums_F (x0, ()) =
 loopG impl_putNums_t0 impl_putNums_B0 (impl_putNums_K0 x0) ((x0, ((x0.length : Int), ((0 : Int), ()))), (([] : List Int), ())) := by kernel_rfl
theorem impl_putNums_r0 {R : Type} (K : Ex → AS → Option R) (n : Nat) (t7 : List Int) (t8 : Int) (t9 : Int) (a960000 : List Int) : iterG impl_putNums_t0 impl_putNums_B0 K (n + 1) ((t7, (t8, (t9, ()))), (a960000, ())) =
 brk (decide (t9 < t8))
 (ck (decide (0 ≤ t9) && decide (t9 < t7.length)) ((impl_PutNum_F (rdD tI t7 t9, ())).bind fun y15 =>
 ck (decide ((a960000.length + y15.1.1.length) * 1 ≤ big47)) (iterG impl_putNums_t0 impl_putNums_B0 K n ((t7, (t8, (IntKind.i64.wrap (t9 + (1 : Int)), ()))), (a960000 ++ y15.1.1, ())))))
 (K (.exit 0) (impl_putNums_x0_0 a960000)) := by kernel_rfl
theorem impl_putNums_e0_0 (x0 : List Int) (d0 : List Int) : impl_putNums_K0 x0 (.exit 0) (impl_putNums_x0_0 d0) =
 some ((d0, ()), ((), ())) := by kernel_rfl
/-! impl.putList -/
noncomputable def impl_putList_b : Code := bd Tryz.f119
def impl_putList_T : List (Nat × Tm) := []
noncomputable def impl_putList_E : Env := ⟨tt0, [(120, impl_putNums_C)]⟩
noncomputable def impl_putList_F : PsD [.ro tIs] → Option (RsD [.own tYs] × PsO [.ro tIs]) := fun x => evFn impl_putList_E impl_putList_T Tryz.f119 impl_putList_b [.ro tIs] [.own tYs] x
@[reducible] noncomputable def impl_putList_C : Ct := ⟨[.ro tIs], [.own tYs], impl_putList_F⟩
theorem impl_putList_h (x : PsD [.ro tIs]) (y : RsD [.own tYs] × PsO [.ro tIs]) (h : impl_putList_F x = some y) : evFn impl_putList_E impl_putList_T Tryz.f119 impl_putList_b [.ro tIs] [.own tYs] x = some y := h
theorem impl_putList_c : ∀ f c, get impl_putList_E.ct f = some c → Sat Tryz.prog f c := ct_cons impl_putNums_S (ct_nil)
theorem impl_putList_S : Sat Tryz.prog 119 impl_putList_C := fn_ok2 (envOk _) impl_putList_c mixedOk Tryz.func119 (by kernel_rfl : Tryz.f119.body = some impl_putList_b) (by kernel_rfl) (by kernel_rfl) impl_putList_h
noncomputable def impl_putList_Ke  (x0 : List Int) : Ex → AS → Option (RsD [.own tYs] × PsO [.ro tIs]) := endK impl_putList_E Tryz.f119 [.ro tIs] [.own tYs] (initL [.ro tIs] (x0, ()) 0).1
theorem impl_putList_main (x0 : List Int) : impl_putList_F (x0, ()) =
 (impl_putNums_F ([(x0.length : Int)], ())).bind fun y6 =>
 (impl_putNums_F (x0, ())).bind fun y8 =>
 ck (decide ((y6.1.1.length + y8.1.1.length) * 1 ≤ big47)) (some ((y6.1.1 ++ y8.1.1, ()), ((), ()))) := by kernel_rfl
/-! impl.flag -/
noncomputable def impl_flag_b : Code := bd Tryz.f121
def impl_flag_T : List (Nat × Tm) := []
noncomputable def impl_flag_E : Env := ⟨tt0, []⟩
noncomputable def impl_flag_F : PsD [.ro tB, .ro tI] → Option (RsD [.own tI] × PsO [.ro tB, .ro tI]) := fun x => evFn impl_flag_E impl_flag_T Tryz.f121 impl_flag_b [.ro tB, .ro tI] [.own tI] x
@[reducible] noncomputable def impl_flag_C : Ct := ⟨[.ro tB, .ro tI], [.own tI], impl_flag_F⟩
theorem impl_flag_h (x : PsD [.ro tB, .ro tI]) (y : RsD [.own tI] × PsO [.ro tB, .ro tI]) (h : impl_flag_F x = some y) : evFn impl_flag_E impl_flag_T Tryz.f121 impl_flag_b [.ro tB, .ro tI] [.own tI] x = some y := h
theorem impl_flag_c : ∀ f c, get impl_flag_E.ct f = some c → Sat Tryz.prog f c := ct_nil
theorem impl_flag_S : Sat Tryz.prog 121 impl_flag_C := fn_ok2 (envOk _) impl_flag_c mixedOk Tryz.func121 (by kernel_rfl : Tryz.f121.body = some impl_flag_b) (by kernel_rfl) (by kernel_rfl) impl_flag_h
noncomputable def impl_flag_Ke  (x0 : Bool) (x1 : Int) : Ex → AS → Option (RsD [.own tI] × PsO [.ro tB, .ro tI]) := endK impl_flag_E Tryz.f121 [.ro tB, .ro tI] [.own tI] (initL [.ro tB, .ro tI] (x0, (x1, ())) 0).1
theorem impl_flag_main (x0 : Bool) (x1 : Int) : impl_flag_F (x0, (x1, ())) =
 brk x0
 (some ((x1, ()), ((), ((), ()))))
 (some (((0 : Int), ()), ((), ((), ())))) := by kernel_rfl
/-! impl.MetaBytes -/
noncomputable def impl_MetaBytes_b : Code := bd Tryz.f115
@[reducible] def impl_MetaBytes_t0 : Tm := ⟨[(3, 960000)], [], [(1, .ptr 16 0), (3, .own 960000), (13, .sc true tIss), (14, .sc true tI), (15, .sc true tI)], [(16, .box [.sc true tIs, .sc true tIss, .sc true tB, .sc true tB, .sc true tB, .sc true tI]), (960000, .arr 5 tY)], [1, 3], [16, 960000]⟩
def impl_MetaBytes_T : List (Nat × Tm) := [(0, impl_MetaBytes_t0)]
noncomputable def impl_MetaBytes_E : Env := ⟨tt0, [(69, impl_MetaOk_C), (119, impl_putList_C), (120, impl_putNums_C), (121, impl_flag_C)]⟩
noncomputable def impl_MetaBytes_F : PsD [.ro tMeta] → Option (RsD [.own tYs] × PsO [.ro tMeta]) := fun x => evFn impl_MetaBytes_E impl_MetaBytes_T Tryz.f115 impl_MetaBytes_b [.ro tMeta] [.own tYs] x
@[reducible] noncomputable def impl_MetaBytes_C : Ct := ⟨[.ro tMeta], [.own tYs], impl_MetaBytes_F⟩
theorem impl_MetaBytes_h (x : PsD [.ro tMeta]) (y : RsD [.own tYs] × PsO [.ro tMeta]) (h : impl_MetaBytes_F x = some y) : evFn impl_MetaBytes_E impl_MetaBytes_T Tryz.f115 impl_MetaBytes_b [.ro tMeta] [.own tYs] x = some y := h
theorem impl_MetaBytes_c : ∀ f c, get impl_MetaBytes_E.ct f = some c → Sat Tryz.prog f c := ct_cons impl_MetaOk_S (ct_cons impl_putList_S (ct_cons impl_putNums_S (ct_cons impl_flag_S (ct_nil))))
theorem impl_MetaBytes_S : Sat Tryz.prog 115 impl_MetaBytes_C := fn_ok2 (envOk _) impl_MetaBytes_c mixedOk Tryz.func115 (by kernel_rfl : Tryz.f115.body = some impl_MetaBytes_b) (by kernel_rfl) (by kernel_rfl) impl_MetaBytes_h
noncomputable def impl_MetaBytes_Ke  (x0 : List Int × List (List Int) × Bool × Bool × Bool × Int × Unit) : Ex → AS → Option (RsD [.own tYs] × PsO [.ro tMeta]) := endK impl_MetaBytes_E Tryz.f115 [.ro tMeta] [.own tYs] (initL [.ro tMeta] (x0, ()) 0).1
noncomputable def impl_MetaBytes_B0 {R : Type} : AS → (Ex → AS → Option R) → Option R := fun A K => ev impl_MetaBytes_E impl_MetaBytes_T 0 (cA (cA (cB (cA (cB (cB (cB impl_MetaBytes_b))))))) A K
noncomputable def impl_MetaBytes_K0  (x0 : List Int × List (List Int) × Bool × Bool × Bool × Int × Unit) : Ex → AS → Option (RsD [.own tYs] × PsO [.ro tMeta]) := kBlk 0 (kSeq (fun A K => ev impl_MetaBytes_E impl_MetaBytes_T 1000 (cB (cB (cB (cB impl_MetaBytes_b)))) A K) (impl_MetaBytes_Ke x0))
noncomputable def impl_MetaBytes_x0_0 (d0 : List Int) (d1 : List (List Int)) (d2 : Bool) (d3 : Bool) (d4 : Bool) (d5 : Int) (d6 : List Int) : AS := ⟨[(1, .v (.one (.bptr 16 0))), (3, .v (.one (.own 960000)))], [(16, .box [.d true tIs d0, .d true tIss d1, .d true tB d2, .d true tB d3, .d true tB d4, .d true tI d5]), (960000, .arr 5 tY d6)]⟩
theorem impl_MetaBytes_l0 {R : Type} {K : Ex → AS → Option R} {s : impl_MetaBytes_t0.D} (n : Nat) {v : Option R} (h : iterG impl_MetaBytes_t0 impl_MetaBytes_B0 K n s = v) (hv : ∃ r, v = some r) : loopG impl_MetaBytes_t0 impl_MetaBytes_B0 K s = v := loop_eq (ev_mono _ _) n h hv
theorem impl_MetaBytes_main (x0 : List Int × List (List Int) × Bool × Bool × Bool × Int × Unit) : impl_MetaBytes_F (x0, ()) =
 (impl_MetaOk_F ((x0.1, (x0.2.1, (x0.2.2.1, (x0.2.2.2.1, (x0.2.2.2.2.1, (x0.2.2.2.2.2.1, ())))))), ())).bind fun y7 =>
 brk (!y7.1.1)
 (some ((([] : List Int), ()), ((), ())))
 ((impl_putList_F (x0.1, ())).bind fun y11 =>
 loopG impl_MetaBytes_t0 impl_MetaBytes_B0 (impl_MetaBytes_K0 x0) ((x0.2.1, ((x0.2.1.length : Int), ((0 : Int), ()))), ((x0.1, (x0.2.1, (x0.2.2.1, (x0.2.2.2.1, (x0.2.2.2.2.1, (x0.2.2.2.2.2.1, ())))))), (y11.1.1, ())))) := by kernel_rfl
theorem impl_MetaBytes_r0 {R : Type} (K : Ex → AS → Option R) (n : Nat) (t13 : List (List Int)) (t14 : Int) (t15 : Int) (b16_0 : List Int) (b16_1 : List (List Int)) (b16_2 : Bool) (b16_3 : Bool) (b16_4 : Bool) (b16_5 : Int) (a960000 : List Int) : iterG impl_MetaBytes_t0 impl_MetaBytes_B0 K (n + 1) ((t13, (t14, (t15, ()))), ((b16_0, (b16_1, (b16_2, (b16_3, (b16_4, (b16_5, ())))))), (a960000, ()))) =
 brk (decide (t15 < t14))
 (ck (decide (0 ≤ t15) && decide (t15 < t13.length)) ((impl_putList_F (rdD tIs t13 t15, ())).bind fun y21 =>
 ck (decide ((a960000.length + y21.1.1.length) * 1 ≤ big47)) (iterG impl_MetaBytes_t0 impl_MetaBytes_B0 K n ((t13, (t14, (IntKind.i64.wrap (t15 + (1 : Int)), ()))), ((b16_0, (b16_1, (b16_2, (b16_3, (b16_4, (b16_5, ())))))), (a960000 ++ y21.1.1, ()))))))
 (K (.exit 0) (impl_MetaBytes_x0_0 b16_0 b16_1 b16_2 b16_3 b16_4 b16_5 a960000)) := by kernel_rfl
theorem impl_MetaBytes_e0_0 (x0 : List Int × List (List Int) × Bool × Bool × Bool × Int × Unit) (d0 : List Int) (d1 : List (List Int)) (d2 : Bool) (d3 : Bool) (d4 : Bool) (d5 : Int) (d6 : List Int) : impl_MetaBytes_K0 x0 (.exit 0) (impl_MetaBytes_x0_0 d0 d1 d2 d3 d4 d5 d6) =
 (impl_flag_F (d2, ((1 : Int), ()))).bind fun y27 =>
 (impl_flag_F (d3, ((2 : Int), ()))).bind fun y30 =>
 (impl_flag_F (d4, ((4 : Int), ()))).bind fun y34 =>
 (impl_putNums_F ([IntKind.i64.wrap ((IntKind.i64.wrap (y27.1.1 + y30.1.1)) + y34.1.1), d5], ())).bind fun y39 =>
 ck (decide ((d6.length + y39.1.1.length) * 1 ≤ big47)) (some ((d6 ++ y39.1.1, ()), ((), ()))) := by kernel_rfl
/-! impl.MetaOf -/
noncomputable def impl_MetaOf_b : Code := bd Tryz.f105
@[reducible] def impl_MetaOf_t0 : Tm := ⟨[], [(80, 1, 960000)], [(0, .sc true tYs), (2, .ptr 32 0), (4, .ptr 176 0), (5, .ptr 80 0), (16, .sc true tI)], [(32, .box [.nil, .nil, .sc true tB, .sc true tB, .sc true tB, .sc true tI]), (80, .box [.own 224, .own 960000, .sc true tB, .sc true tB, .sc true tB, .sc true tI]), (176, .box [.sc true tYs, .sc true tI, .sc true tB]), (224, .arr 3 tI), (960000, .arr 22 tIs)], [0, 2, 4, 5, 52, 53, 54, 57, 58, 59, 60], [32, 80, 176, 224, 960000]⟩
def impl_MetaOf_T : List (Nat × Tm) := [(0, impl_MetaOf_t0)]
noncomputable def impl_MetaOf_E : Env := ⟨tt0, [(106, bytes_Equal_C), (113, impl_reader_list_C), (114, impl_reader_num_C), (115, impl_MetaBytes_C)]⟩
noncomputable def impl_MetaOf_F : PsD [.ro tYs] → Option (RsD [.own tMeta, .own tB] × PsO [.ro tYs]) := fun x => evFn impl_MetaOf_E impl_MetaOf_T Tryz.f105 impl_MetaOf_b [.ro tYs] [.own tMeta, .own tB] x
@[reducible] noncomputable def impl_MetaOf_C : Ct := ⟨[.ro tYs], [.own tMeta, .own tB], impl_MetaOf_F⟩
theorem impl_MetaOf_h (x : PsD [.ro tYs]) (y : RsD [.own tMeta, .own tB] × PsO [.ro tYs]) (h : impl_MetaOf_F x = some y) : evFn impl_MetaOf_E impl_MetaOf_T Tryz.f105 impl_MetaOf_b [.ro tYs] [.own tMeta, .own tB] x = some y := h
theorem impl_MetaOf_c : ∀ f c, get impl_MetaOf_E.ct f = some c → Sat Tryz.prog f c := ct_cons bytes_Equal_S (ct_cons impl_reader_list_S (ct_cons impl_reader_num_S (ct_cons impl_MetaBytes_S (ct_nil))))
theorem impl_MetaOf_S : Sat Tryz.prog 105 impl_MetaOf_C := fn_ok2 (envOk _) impl_MetaOf_c mixedOk Tryz.func105 (by kernel_rfl : Tryz.f105.body = some impl_MetaOf_b) (by kernel_rfl) (by kernel_rfl) impl_MetaOf_h
noncomputable def impl_MetaOf_Ke  (x0 : List Int) : Ex → AS → Option (RsD [.own tMeta, .own tB] × PsO [.ro tYs]) := endK impl_MetaOf_E Tryz.f105 [.ro tYs] [.own tMeta, .own tB] (initL [.ro tYs] (x0, ()) 0).1
noncomputable def impl_MetaOf_B0 {R : Type} : AS → (Ex → AS → Option R) → Option R := fun A K => ev impl_MetaOf_E impl_MetaOf_T 0 (cA (cA (cB (cA (cB (cB (cB (cB impl_MetaOf_b)))))))) A K
noncomputable def impl_MetaOf_K0  (x0 : List Int) : Ex → AS → Option (RsD [.own tMeta, .own tB] × PsO [.ro tYs]) := kBlk 0 (kSeq (fun A K => ev impl_MetaOf_E impl_MetaOf_T 1000 (cB (cB (cB (cB (cB impl_MetaOf_b))))) A K) (impl_MetaOf_Ke x0))
noncomputable def impl_MetaOf_x0_0 (d0 : List Int) (d1 : Bool) (d2 : Bool) (d3 : Bool) (d4 : Int) (d5 : Bool) (d6 : Bool) (d7 : Bool) (d8 : Int) (d9 : List Int) (d10 : Int) (d11 : Bool) (d12 : List Int) (d13 : List (List Int)) : AS := ⟨[(0, .v (.one (.d true tYs d0))), (2, .v (.one (.bptr 32 0))), (4, .v (.one (.bptr 176 0))), (5, .v (.one (.bptr 80 0)))], [(32, .box [.nil, .nil, .d true tB d1, .d true tB d2, .d true tB d3, .d true tI d4]), (80, .box [.own 224, .own 960000, .d true tB d5, .d true tB d6, .d true tB d7, .d true tI d8]), (176, .box [.d true tYs d9, .d true tI d10, .d true tB d11]), (224, .arr 3 tI d12), (960000, .arr 22 tIs d13)]⟩
theorem impl_MetaOf_l0 {R : Type} {K : Ex → AS → Option R} {s : impl_MetaOf_t0.D} (n : Nat) {v : Option R} (h : iterG impl_MetaOf_t0 impl_MetaOf_B0 K n s = v) (hv : ∃ r, v = some r) : loopG impl_MetaOf_t0 impl_MetaOf_B0 K s = v := loop_eq (ev_mono _ _) n h hv
theorem impl_MetaOf_main (x0 : List Int) : impl_MetaOf_F (x0, ()) =
 (impl_reader_list_F ((x0, ((0 : Int), (true, ()))), ())).bind fun y14 =>
 loopG impl_MetaOf_t0 impl_MetaOf_B0 (impl_MetaOf_K0 x0) ((x0, ((0 : Int), ())), ((false, (false, (false, ((0 : Int), ())))), ((false, (false, (false, ((0 : Int), ())))), ((y14.2.1.1, (y14.2.1.2.1, (y14.2.1.2.2.1, ()))), (y14.1.1, (([] : List (List Int)), ())))))) := by kernel_rfl
theorem impl_MetaOf_r0 {R : Type} (K : Ex → AS → Option R) (n : Nat) (t0 : List Int) (t16 : Int) (b32_2 : Bool) (b32_3 : Bool) (b32_4 : Bool) (b32_5 : Int) (b80_2 : Bool) (b80_3 : Bool) (b80_4 : Bool) (b80_5 : Int) (b176_0 : List Int) (b176_1 : Int) (b176_2 : Bool) (a224 : List Int) (a960000 : List (List Int)) : iterG impl_MetaOf_t0 impl_MetaOf_B0 K (n + 1) ((t0, (t16, ())), ((b32_2, (b32_3, (b32_4, (b32_5, ())))), ((b80_2, (b80_3, (b80_4, (b80_5, ())))), ((b176_0, (b176_1, (b176_2, ()))), (a224, (a960000, ())))))) =
 brk (decide (t16 < (3 : Int)))
 ((impl_reader_list_F ((b176_0, (b176_1, (b176_2, ()))), ())).bind fun y19 =>
 ck (decide ((a960000.length + [y19.1.1].length) * 24 ≤ big47)) (iterG impl_MetaOf_t0 impl_MetaOf_B0 K n ((t0, (IntKind.i64.wrap (t16 + (1 : Int)), ())), ((b32_2, (b32_3, (b32_4, (b32_5, ())))), ((b80_2, (b80_3, (b80_4, (b80_5, ())))), ((y19.2.1.1, (y19.2.1.2.1, (y19.2.1.2.2.1, ()))), (a224, (a960000 ++ [y19.1.1], ()))))))))
 (K (.exit 0) (impl_MetaOf_x0_0 t0 b32_2 b32_3 b32_4 b32_5 b80_2 b80_3 b80_4 b80_5 b176_0 b176_1 b176_2 a224 a960000)) := by kernel_rfl
theorem impl_MetaOf_e0_0 (x0 : List Int) (d0 : List Int) (d1 : Bool) (d2 : Bool) (d3 : Bool) (d4 : Int) (d5 : Bool) (d6 : Bool) (d7 : Bool) (d8 : Int) (d9 : List Int) (d10 : Int) (d11 : Bool) (d12 : List Int) (d13 : List (List Int)) : impl_MetaOf_K0 x0 (.exit 0) (impl_MetaOf_x0_0 d0 d1 d2 d3 d4 d5 d6 d7 d8 d9 d10 d11 d12 d13) =
 (impl_reader_num_F ((d9, (d10, (d11, ()))), ())).bind fun y28 =>
 (impl_reader_num_F ((y28.2.1.1, (y28.2.1.2.1, (y28.2.1.2.2.1, ()))), ())).bind fun y30 =>
 (impl_MetaBytes_F ((d12, (d13, (!decide (andN IntKind.i64 y28.1.1 (1 : Int) = (0 : Int)), (!decide (andN IntKind.i64 y28.1.1 (2 : Int) = (0 : Int)), (!decide (andN IntKind.i64 y28.1.1 (4 : Int) = (0 : Int)), (y30.1.1, ())))))), ())).bind fun y45 =>
 brk (!y30.2.1.2.2.1)
 (some (((([] : List Int), (([] : List (List Int)), (false, (false, (false, ((0 : Int), ())))))), (false, ())), ((), ())))
 (brk (decide ((y45.1.1.length : Int) = (0 : Int)))
 (some (((([] : List Int), (([] : List (List Int)), (false, (false, (false, ((0 : Int), ())))))), (false, ())), ((), ())))
 ((bytes_Equal_F (y45.1.1, (d0, ()))).bind fun y59 =>
 brk (!y59.1.1)
 (some (((([] : List Int), (([] : List (List Int)), (false, (false, (false, ((0 : Int), ())))))), (false, ())), ((), ())))
 (some (((d12, (d13, (!decide (andN IntKind.i64 y28.1.1 (1 : Int) = (0 : Int)), (!decide (andN IntKind.i64 y28.1.1 (2 : Int) = (0 : Int)), (!decide (andN IntKind.i64 y28.1.1 (4 : Int) = (0 : Int)), (y30.1.1, ())))))), (true, ())), ((), ()))))) := by kernel_rfl
/-! impl.four -/
noncomputable def impl_four_b : Code := bd Tryz.f116
def impl_four_T : List (Nat × Tm) := []
noncomputable def impl_four_E : Env := ⟨tt0, []⟩
noncomputable def impl_four_F : PsD [.ro tI] → Option (RsD [.own tYs] × PsO [.ro tI]) := fun x => evFn impl_four_E impl_four_T Tryz.f116 impl_four_b [.ro tI] [.own tYs] x
@[reducible] noncomputable def impl_four_C : Ct := ⟨[.ro tI], [.own tYs], impl_four_F⟩
theorem impl_four_h (x : PsD [.ro tI]) (y : RsD [.own tYs] × PsO [.ro tI]) (h : impl_four_F x = some y) : evFn impl_four_E impl_four_T Tryz.f116 impl_four_b [.ro tI] [.own tYs] x = some y := h
theorem impl_four_c : ∀ f c, get impl_four_E.ct f = some c → Sat Tryz.prog f c := ct_nil
theorem impl_four_S : Sat Tryz.prog 116 impl_four_C := fn_ok2 (envOk _) impl_four_c mixedOk Tryz.func116 (by kernel_rfl : Tryz.f116.body = some impl_four_b) (by kernel_rfl) (by kernel_rfl) impl_four_h
noncomputable def impl_four_Ke  (x0 : Int) : Ex → AS → Option (RsD [.own tYs] × PsO [.ro tI]) := endK impl_four_E Tryz.f116 [.ro tI] [.own tYs] (initL [.ro tI] (x0, ()) 0).1
theorem impl_four_main (x0 : Int) : impl_four_F (x0, ()) =
 some (([IntKind.u8.wrap x0, IntKind.u8.wrap (shrN IntKind.i64 x0 (8 : Int)), IntKind.u8.wrap (shrN IntKind.i64 x0 (16 : Int)), IntKind.u8.wrap (shrN IntKind.i64 x0 (24 : Int))], ()), ((), ())) := by kernel_rfl
/-! impl.slotBytes -/
noncomputable def impl_slotBytes_b : Code := bd Tryz.f107
def impl_slotBytes_T : List (Nat × Tm) := []
noncomputable def impl_slotBytes_E : Env := ⟨tt0, [(115, impl_MetaBytes_C), (116, impl_four_C)]⟩
noncomputable def impl_slotBytes_F : PsD [.ro tMeta, .ro tI] → Option (RsD [.own tYs] × PsO [.ro tMeta, .ro tI]) := fun x => evFn impl_slotBytes_E impl_slotBytes_T Tryz.f107 impl_slotBytes_b [.ro tMeta, .ro tI] [.own tYs] x
@[reducible] noncomputable def impl_slotBytes_C : Ct := ⟨[.ro tMeta, .ro tI], [.own tYs], impl_slotBytes_F⟩
theorem impl_slotBytes_h (x : PsD [.ro tMeta, .ro tI]) (y : RsD [.own tYs] × PsO [.ro tMeta, .ro tI]) (h : impl_slotBytes_F x = some y) : evFn impl_slotBytes_E impl_slotBytes_T Tryz.f107 impl_slotBytes_b [.ro tMeta, .ro tI] [.own tYs] x = some y := h
theorem impl_slotBytes_c : ∀ f c, get impl_slotBytes_E.ct f = some c → Sat Tryz.prog f c := ct_cons impl_MetaBytes_S (ct_cons impl_four_S (ct_nil))
theorem impl_slotBytes_S : Sat Tryz.prog 107 impl_slotBytes_C := fn_ok2 (envOk _) impl_slotBytes_c mixedOk Tryz.func107 (by kernel_rfl : Tryz.f107.body = some impl_slotBytes_b) (by kernel_rfl) (by kernel_rfl) impl_slotBytes_h
noncomputable def impl_slotBytes_Ke  (x0 : List Int × List (List Int) × Bool × Bool × Bool × Int × Unit) (x1 : Int) : Ex → AS → Option (RsD [.own tYs] × PsO [.ro tMeta, .ro tI]) := endK impl_slotBytes_E Tryz.f107 [.ro tMeta, .ro tI] [.own tYs] (initL [.ro tMeta, .ro tI] (x0, (x1, ())) 0).1
theorem impl_slotBytes_main (x0 : List Int × List (List Int) × Bool × Bool × Bool × Int × Unit) (x1 : Int) : impl_slotBytes_F (x0, (x1, ())) =
 (impl_MetaBytes_F ((x0.1, (x0.2.1, (x0.2.2.1, (x0.2.2.2.1, (x0.2.2.2.2.1, (x0.2.2.2.2.2.1, ())))))), ())).bind fun y8 =>
 (impl_four_F (x1, ())).bind fun y10 =>
 ck (decide ((y10.1.1.length + [IntKind.u8.wrap (y8.1.1.length : Int)].length) * 1 ≤ big47)) (ck (decide (((y10.1.1 ++ [IntKind.u8.wrap (y8.1.1.length : Int)]).length + y8.1.1.length) * 1 ≤ big47)) (ck (decide (0 ≤ IntKind.i64.wrap ((156 : Int) - (((y10.1.1 ++ [IntKind.u8.wrap (y8.1.1.length : Int)]) ++ y8.1.1).length : Int)))) (ck (decide ((((y10.1.1 ++ [IntKind.u8.wrap (y8.1.1.length : Int)]) ++ y8.1.1).length + (IntKind.i64.wrap ((156 : Int) - (((y10.1.1 ++ [IntKind.u8.wrap (y8.1.1.length : Int)]) ++ y8.1.1).length : Int))).toNat) * 1 ≤ big47)) ((impl_four_F (x1, ())).bind fun y26 =>
 ck (decide (((((y10.1.1 ++ [IntKind.u8.wrap (y8.1.1.length : Int)]) ++ y8.1.1) ++ List.replicate (IntKind.i64.wrap ((156 : Int) - (((y10.1.1 ++ [IntKind.u8.wrap (y8.1.1.length : Int)]) ++ y8.1.1).length : Int))).toNat tY.zero).length + y26.1.1.length) * 1 ≤ big47)) (some (((((y10.1.1 ++ [IntKind.u8.wrap (y8.1.1.length : Int)]) ++ y8.1.1) ++ List.replicate (IntKind.i64.wrap ((156 : Int) - (((y10.1.1 ++ [IntKind.u8.wrap (y8.1.1.length : Int)]) ++ y8.1.1).length : Int))).toNat tY.zero) ++ y26.1.1, ()), ((), ((), ())))))))) := by kernel_rfl
/-! impl.SlotOf -/
noncomputable def impl_SlotOf_b : Code := bd Tryz.f94
def impl_SlotOf_T : List (Nat × Tm) := []
noncomputable def impl_SlotOf_E : Env := ⟨tt0, [(85, impl_from_C), (105, impl_MetaOf_C), (106, bytes_Equal_C), (107, impl_slotBytes_C)]⟩
noncomputable def impl_SlotOf_F : PsD [.ro tYs] → Option (RsD [.own tMeta, .own tI, .own tB] × PsO [.ro tYs]) := fun x => evFn impl_SlotOf_E impl_SlotOf_T Tryz.f94 impl_SlotOf_b [.ro tYs] [.own tMeta, .own tI, .own tB] x
@[reducible] noncomputable def impl_SlotOf_C : Ct := ⟨[.ro tYs], [.own tMeta, .own tI, .own tB], impl_SlotOf_F⟩
theorem impl_SlotOf_h (x : PsD [.ro tYs]) (y : RsD [.own tMeta, .own tI, .own tB] × PsO [.ro tYs]) (h : impl_SlotOf_F x = some y) : evFn impl_SlotOf_E impl_SlotOf_T Tryz.f94 impl_SlotOf_b [.ro tYs] [.own tMeta, .own tI, .own tB] x = some y := h
theorem impl_SlotOf_c : ∀ f c, get impl_SlotOf_E.ct f = some c → Sat Tryz.prog f c := ct_cons impl_from_S (ct_cons impl_MetaOf_S (ct_cons bytes_Equal_S (ct_cons impl_slotBytes_S (ct_nil))))
theorem impl_SlotOf_S : Sat Tryz.prog 94 impl_SlotOf_C := fn_ok2 (envOk _) impl_SlotOf_c mixedOk Tryz.func94 (by kernel_rfl : Tryz.f94.body = some impl_SlotOf_b) (by kernel_rfl) (by kernel_rfl) impl_SlotOf_h
noncomputable def impl_SlotOf_Ke  (x0 : List Int) : Ex → AS → Option (RsD [.own tMeta, .own tI, .own tB] × PsO [.ro tYs]) := endK impl_SlotOf_E Tryz.f94 [.ro tYs] [.own tMeta, .own tI, .own tB] (initL [.ro tYs] (x0, ()) 0).1
theorem impl_SlotOf_main (x0 : List Int) : impl_SlotOf_F (x0, ()) =
 brk (!decide ((x0.length : Int) = (160 : Int)))
 (some (((([] : List Int), (([] : List (List Int)), (false, (false, (false, ((0 : Int), ())))))), ((0 : Int), (false, ()))), ((), ())))
 (ck (decide (0 ≤ (0 : Int)) && decide ((0 : Int) < x0.length)) (ck (decide (0 ≤ (1 : Int)) && decide ((1 : Int) < x0.length)) (ck (decide (0 ≤ (2 : Int)) && decide ((2 : Int) < x0.length)) (ck (decide (0 ≤ (3 : Int)) && decide ((3 : Int) < x0.length)) (ck (decide (0 ≤ (4 : Int)) && decide ((4 : Int) < x0.length)) ((impl_from_F (orN IntKind.i64 (orN IntKind.i64 (orN IntKind.i64 (IntKind.i64.wrap (rdD tY x0 (0 : Int))) (shlN IntKind.i64 (IntKind.i64.wrap (rdD tY x0 (1 : Int))) (8 : Int))) (shlN IntKind.i64 (IntKind.i64.wrap (rdD tY x0 (2 : Int))) (16 : Int))) (shlN IntKind.i64 (IntKind.i64.wrap (rdD tY x0 (3 : Int))) (24 : Int)), ((1 : Int), ((1000000 : Int), ())))).bind fun y40 =>
 brk (!y40.1.1)
 (some (((([] : List Int), (([] : List (List Int)), (false, (false, (false, ((0 : Int), ())))))), ((0 : Int), (false, ()))), ((), ())))
 (brk (decide ((151 : Int) < IntKind.i64.wrap (rdD tY x0 (4 : Int))))
 (some (((([] : List Int), (([] : List (List Int)), (false, (false, (false, ((0 : Int), ())))))), ((0 : Int), (false, ()))), ((), ())))
 (ck (decide (0 ≤ (5 : Int)) && decide ((5 : Int) ≤ IntKind.i64.wrap ((5 : Int) + (IntKind.i64.wrap (rdD tY x0 (4 : Int))))) && decide (IntKind.i64.wrap ((5 : Int) + (IntKind.i64.wrap (rdD tY x0 (4 : Int)))) ≤ x0.length)) ((impl_MetaOf_F ((x0.take (IntKind.i64.wrap ((5 : Int) + (IntKind.i64.wrap (rdD tY x0 (4 : Int))))).toNat).drop (5 : Int).toNat, ())).bind fun y52 =>
 brk (!y52.1.2.1)
 (some (((([] : List Int), (([] : List (List Int)), (false, (false, (false, ((0 : Int), ())))))), ((0 : Int), (false, ()))), ((), ())))
 ((impl_slotBytes_F ((y52.1.1.1, (y52.1.1.2.1, (y52.1.1.2.2.1, (y52.1.1.2.2.2.1, (y52.1.1.2.2.2.2.1, (y52.1.1.2.2.2.2.2.1, ())))))), (orN IntKind.i64 (orN IntKind.i64 (orN IntKind.i64 (IntKind.i64.wrap (rdD tY x0 (0 : Int))) (shlN IntKind.i64 (IntKind.i64.wrap (rdD tY x0 (1 : Int))) (8 : Int))) (shlN IntKind.i64 (IntKind.i64.wrap (rdD tY x0 (2 : Int))) (16 : Int))) (shlN IntKind.i64 (IntKind.i64.wrap (rdD tY x0 (3 : Int))) (24 : Int)), ()))).bind fun y60 =>
 (bytes_Equal_F (y60.1.1, (x0, ()))).bind fun y62 =>
 brk (!y62.1.1)
 (some (((([] : List Int), (([] : List (List Int)), (false, (false, (false, ((0 : Int), ())))))), ((0 : Int), (false, ()))), ((), ())))
 (some (((y52.1.1.1, (y52.1.1.2.1, (y52.1.1.2.2.1, (y52.1.1.2.2.2.1, (y52.1.1.2.2.2.2.1, (y52.1.1.2.2.2.2.2.1, ())))))), (orN IntKind.i64 (orN IntKind.i64 (orN IntKind.i64 (IntKind.i64.wrap (rdD tY x0 (0 : Int))) (shlN IntKind.i64 (IntKind.i64.wrap (rdD tY x0 (1 : Int))) (8 : Int))) (shlN IntKind.i64 (IntKind.i64.wrap (rdD tY x0 (2 : Int))) (16 : Int))) (shlN IntKind.i64 (IntKind.i64.wrap (rdD tY x0 (3 : Int))) (24 : Int)), (true, ()))), ((), ()))))))))))))) := by kernel_rfl
/-! impl.latest -/
noncomputable def impl_latest_b : Code := bd Tryz.f73
def impl_latest_T : List (Nat × Tm) := []
noncomputable def impl_latest_E : Env := ⟨tt0, [(94, impl_SlotOf_C)]⟩
noncomputable def impl_latest_F : PsD [.ro tSlots] → Option (RsD [.own tMeta, .own tI, .own tB] × PsO [.ro tSlots]) := fun x => evFn impl_latest_E impl_latest_T Tryz.f73 impl_latest_b [.ro tSlots] [.own tMeta, .own tI, .own tB] x
@[reducible] noncomputable def impl_latest_C : Ct := ⟨[.ro tSlots], [.own tMeta, .own tI, .own tB], impl_latest_F⟩
theorem impl_latest_h (x : PsD [.ro tSlots]) (y : RsD [.own tMeta, .own tI, .own tB] × PsO [.ro tSlots]) (h : impl_latest_F x = some y) : evFn impl_latest_E impl_latest_T Tryz.f73 impl_latest_b [.ro tSlots] [.own tMeta, .own tI, .own tB] x = some y := h
theorem impl_latest_c : ∀ f c, get impl_latest_E.ct f = some c → Sat Tryz.prog f c := ct_cons impl_SlotOf_S (ct_nil)
theorem impl_latest_S : Sat Tryz.prog 73 impl_latest_C := fn_ok2 (envOk _) impl_latest_c mixedOk Tryz.func73 (by kernel_rfl : Tryz.f73.body = some impl_latest_b) (by kernel_rfl) (by kernel_rfl) impl_latest_h
noncomputable def impl_latest_Ke  (x0 : List Int × List Int × Unit) : Ex → AS → Option (RsD [.own tMeta, .own tI, .own tB] × PsO [.ro tSlots]) := endK impl_latest_E Tryz.f73 [.ro tSlots] [.own tMeta, .own tI, .own tB] (initL [.ro tSlots] (x0, ()) 0).1
theorem impl_latest_main (x0 : List Int × List Int × Unit) : impl_latest_F (x0, ()) =
 (impl_SlotOf_F (x0.1, ())).bind fun y14 =>
 (impl_SlotOf_F (x0.2.1, ())).bind fun y21 =>
 brk y21.1.2.2.1
 (brk (!y14.1.2.2.1)
 (some (((y21.1.1.1, (y21.1.1.2.1, (y21.1.1.2.2.1, (y21.1.1.2.2.2.1, (y21.1.1.2.2.2.2.1, (y21.1.1.2.2.2.2.2.1, ())))))), (y21.1.2.1, (false, ()))), ((), ())))
 (brk (decide (y14.1.2.1 < y21.1.2.1))
 (some (((y21.1.1.1, (y21.1.1.2.1, (y21.1.1.2.2.1, (y21.1.1.2.2.2.1, (y21.1.1.2.2.2.2.1, (y21.1.1.2.2.2.2.2.1, ())))))), (y21.1.2.1, (false, ()))), ((), ())))
 (some (((y14.1.1.1, (y14.1.1.2.1, (y14.1.1.2.2.1, (y14.1.1.2.2.2.1, (y14.1.1.2.2.2.2.1, (y14.1.1.2.2.2.2.2.1, ())))))), (y14.1.2.1, (y14.1.2.2.1, ()))), ((), ())))))
 (some (((y14.1.1.1, (y14.1.1.2.1, (y14.1.1.2.2.1, (y14.1.1.2.2.2.1, (y14.1.1.2.2.2.2.1, (y14.1.1.2.2.2.2.2.1, ())))))), (y14.1.2.1, (y14.1.2.2.1, ()))), ((), ()))) := by kernel_rfl
/-! impl.SlotGet -/
noncomputable def impl_SlotGet_b : Code := bd Tryz.f34
def impl_SlotGet_T : List (Nat × Tm) := []
noncomputable def impl_SlotGet_E : Env := ⟨tt0, [(73, impl_latest_C)]⟩
noncomputable def impl_SlotGet_F : PsD [.ro tSlots] → Option (RsD [.own tMeta, .own tI, .own tB] × PsO [.ro tSlots]) := fun x => evFn impl_SlotGet_E impl_SlotGet_T Tryz.f34 impl_SlotGet_b [.ro tSlots] [.own tMeta, .own tI, .own tB] x
@[reducible] noncomputable def impl_SlotGet_C : Ct := ⟨[.ro tSlots], [.own tMeta, .own tI, .own tB], impl_SlotGet_F⟩
theorem impl_SlotGet_h (x : PsD [.ro tSlots]) (y : RsD [.own tMeta, .own tI, .own tB] × PsO [.ro tSlots]) (h : impl_SlotGet_F x = some y) : evFn impl_SlotGet_E impl_SlotGet_T Tryz.f34 impl_SlotGet_b [.ro tSlots] [.own tMeta, .own tI, .own tB] x = some y := h
theorem impl_SlotGet_c : ∀ f c, get impl_SlotGet_E.ct f = some c → Sat Tryz.prog f c := ct_cons impl_latest_S (ct_nil)
theorem impl_SlotGet_S : Sat Tryz.prog 34 impl_SlotGet_C := fn_ok2 (envOk _) impl_SlotGet_c mixedOk Tryz.func34 (by kernel_rfl : Tryz.f34.body = some impl_SlotGet_b) (by kernel_rfl) (by kernel_rfl) impl_SlotGet_h
noncomputable def impl_SlotGet_Ke  (x0 : List Int × List Int × Unit) : Ex → AS → Option (RsD [.own tMeta, .own tI, .own tB] × PsO [.ro tSlots]) := endK impl_SlotGet_E Tryz.f34 [.ro tSlots] [.own tMeta, .own tI, .own tB] (initL [.ro tSlots] (x0, ()) 0).1
theorem impl_SlotGet_main (x0 : List Int × List Int × Unit) : impl_SlotGet_F (x0, ()) =
 (impl_latest_F ((x0.1, (x0.2.1, ())), ())).bind fun y10 =>
 some (((y10.1.1.1, (y10.1.1.2.1, (y10.1.1.2.2.1, (y10.1.1.2.2.2.1, (y10.1.1.2.2.2.2.1, (y10.1.1.2.2.2.2.2.1, ())))))), (y10.1.2.1, (decide ((0 : Int) < y10.1.2.1), ()))), ((), ())) := by kernel_rfl
/-! impl.isNode -/
noncomputable def impl_isNode_b : Code := bd Tryz.f67
def impl_isNode_T : List (Nat × Tm) := []
noncomputable def impl_isNode_E : Env := ⟨tt0, [(85, impl_from_C)]⟩
noncomputable def impl_isNode_F : PsD [.ro tI] → Option (RsD [.own tB] × PsO [.ro tI]) := fun x => evFn impl_isNode_E impl_isNode_T Tryz.f67 impl_isNode_b [.ro tI] [.own tB] x
@[reducible] noncomputable def impl_isNode_C : Ct := ⟨[.ro tI], [.own tB], impl_isNode_F⟩
theorem impl_isNode_h (x : PsD [.ro tI]) (y : RsD [.own tB] × PsO [.ro tI]) (h : impl_isNode_F x = some y) : evFn impl_isNode_E impl_isNode_T Tryz.f67 impl_isNode_b [.ro tI] [.own tB] x = some y := h
theorem impl_isNode_c : ∀ f c, get impl_isNode_E.ct f = some c → Sat Tryz.prog f c := ct_cons impl_from_S (ct_nil)
theorem impl_isNode_S : Sat Tryz.prog 67 impl_isNode_C := fn_ok2 (envOk _) impl_isNode_c mixedOk Tryz.func67 (by kernel_rfl : Tryz.f67.body = some impl_isNode_b) (by kernel_rfl) (by kernel_rfl) impl_isNode_h
noncomputable def impl_isNode_Ke  (x0 : Int) : Ex → AS → Option (RsD [.own tB] × PsO [.ro tI]) := endK impl_isNode_E Tryz.f67 [.ro tI] [.own tB] (initL [.ro tI] (x0, ()) 0).1
theorem impl_isNode_main (x0 : Int) : impl_isNode_F (x0, ()) =
 (impl_from_F (x0, ((0 : Int), ((2 : Int), ())))).bind fun y4 =>
 some ((y4.1.1, ()), ((), ())) := by kernel_rfl
/-! impl.ImageOk$1 -/
noncomputable def impl_ImageOk_1_b : Code := bd Tryz.f87
def impl_ImageOk_1_T : List (Nat × Tm) := []
noncomputable def impl_ImageOk_1_E : Env := ⟨tt0, [(85, impl_from_C)]⟩
noncomputable def impl_ImageOk_1_F : PsD [.ro tI] → Option (RsD [.own tB] × PsO [.ro tI]) := fun x => evFn impl_ImageOk_1_E impl_ImageOk_1_T Tryz.f87 impl_ImageOk_1_b [.ro tI] [.own tB] x
@[reducible] noncomputable def impl_ImageOk_1_C : Ct := ⟨[.ro tI], [.own tB], impl_ImageOk_1_F⟩
theorem impl_ImageOk_1_h (x : PsD [.ro tI]) (y : RsD [.own tB] × PsO [.ro tI]) (h : impl_ImageOk_1_F x = some y) : evFn impl_ImageOk_1_E impl_ImageOk_1_T Tryz.f87 impl_ImageOk_1_b [.ro tI] [.own tB] x = some y := h
theorem impl_ImageOk_1_c : ∀ f c, get impl_ImageOk_1_E.ct f = some c → Sat Tryz.prog f c := ct_cons impl_from_S (ct_nil)
theorem impl_ImageOk_1_S : Sat Tryz.prog 87 impl_ImageOk_1_C := fn_ok2 (envOk _) impl_ImageOk_1_c mixedOk Tryz.func87 (by kernel_rfl : Tryz.f87.body = some impl_ImageOk_1_b) (by kernel_rfl) (by kernel_rfl) impl_ImageOk_1_h
noncomputable def impl_ImageOk_1_Ke  (x0 : Int) : Ex → AS → Option (RsD [.own tB] × PsO [.ro tI]) := endK impl_ImageOk_1_E Tryz.f87 [.ro tI] [.own tB] (initL [.ro tI] (x0, ()) 0).1
theorem impl_ImageOk_1_main (x0 : Int) : impl_ImageOk_1_F (x0, ()) =
 (impl_from_F (x0, ((0 : Int), ((200 : Int), ())))).bind fun y4 =>
 some ((!y4.1.1, ()), ((), ())) := by kernel_rfl
/-! slices.IndexFunc[[]int,int] -/
noncomputable def slices_IndexFunc_intO_b : Code := bd Tryz.f101
@[reducible] def slices_IndexFunc_intO_t0 : Tm := ⟨[], [], [(0, .sc true tIs), (1, .fnv 87 []), (7, .sc true tI), (8, .sc true tI)], [], [4], []⟩
def slices_IndexFunc_intO_T : List (Nat × Tm) := [(0, slices_IndexFunc_intO_t0)]
noncomputable def slices_IndexFunc_intO_E : Env := ⟨tt0, [(87, impl_ImageOk_1_C)]⟩
noncomputable def slices_IndexFunc_intO_F : PsD [.ro tIs, .fn 87 []] → Option (RsD [.own tI] × PsO [.ro tIs, .fn 87 []]) := fun x => evFn slices_IndexFunc_intO_E slices_IndexFunc_intO_T Tryz.f101 slices_IndexFunc_intO_b [.ro tIs, .fn 87 []] [.own tI] x
@[reducible] noncomputable def slices_IndexFunc_intO_C : Ct := ⟨[.ro tIs, .fn 87 []], [.own tI], slices_IndexFunc_intO_F⟩
theorem slices_IndexFunc_intO_h (x : PsD [.ro tIs, .fn 87 []]) (y : RsD [.own tI] × PsO [.ro tIs, .fn 87 []]) (h : slices_IndexFunc_intO_F x = some y) : evFn slices_IndexFunc_intO_E slices_IndexFunc_intO_T Tryz.f101 slices_IndexFunc_intO_b [.ro tIs, .fn 87 []] [.own tI] x = some y := h
theorem slices_IndexFunc_intO_c : ∀ f c, get slices_IndexFunc_intO_E.ct f = some c → Sat Tryz.prog f c := ct_cons impl_ImageOk_1_S (ct_nil)
theorem slices_IndexFunc_intO_S : Sat Tryz.prog 101 slices_IndexFunc_intO_C := fn_ok2 (envOk _) slices_IndexFunc_intO_c mixedOk Tryz.func101 (by kernel_rfl : Tryz.f101.body = some slices_IndexFunc_intO_b) (by kernel_rfl) (by kernel_rfl) slices_IndexFunc_intO_h
noncomputable def slices_IndexFunc_intO_Ke  (x0 : List Int) (x1 : Unit) : Ex → AS → Option (RsD [.own tI] × PsO [.ro tIs, .fn 87 []]) := endK slices_IndexFunc_intO_E Tryz.f101 [.ro tIs, .fn 87 []] [.own tI] (initL [.ro tIs, .fn 87 []] (x0, (x1, ())) 0).1
noncomputable def slices_IndexFunc_intO_B0 {R : Type} : AS → (Ex → AS → Option R) → Option R := fun A K => ev slices_IndexFunc_intO_E slices_IndexFunc_intO_T 0 (cA (cA (cB (cA (cB slices_IndexFunc_intO_b))))) A K
noncomputable def slices_IndexFunc_intO_K0  (x0 : List Int) (x1 : Unit) : Ex → AS → Option (RsD [.own tI] × PsO [.ro tIs, .fn 87 []]) := kBlk 0 (kSeq (fun A K => ev slices_IndexFunc_intO_E slices_IndexFunc_intO_T 1000 (cB (cB slices_IndexFunc_intO_b)) A K) (slices_IndexFunc_intO_Ke x0 x1))
noncomputable def slices_IndexFunc_intO_x0_0 (d0 : Int) : AS := ⟨[(4, .v (.one (.d true tI d0)))], []⟩
noncomputable def slices_IndexFunc_intO_x0_1 : AS := ⟨[], []⟩
theorem slices_IndexFunc_intO_l0 {R : Type} {K : Ex → AS → Option R} {s : slices_IndexFunc_intO_t0.D} (n : Nat) {v : Option R} (h : iterG slices_IndexFunc_intO_t0 slices_IndexFunc_intO_B0 K n s = v) (hv : ∃ r, v = some r) : loopG slices_IndexFunc_intO_t0 slices_IndexFunc_intO_B0 K s = v := loop_eq (ev_mono _ _) n h hv
theorem slices_IndexFunc_intO_main (x0 : List Int) (x1 : Unit) : slices_IndexFunc_intO_F (x0, (x1, ())) =
 loopG slices_IndexFunc_intO_t0 slices_IndexFunc_intO_B0 (slices_IndexFunc_intO_K0 x0 x1) ((x0, ((x0.length : Int), ((0 : Int), ()))), ()) := by kernel_rfl
theorem slices_IndexFunc_intO_r0 {R : Type} (K : Ex → AS → Option R) (n : Nat) (t0 : List Int) (t7 : Int) (t8 : Int) : iterG slices_IndexFunc_intO_t0 slices_IndexFunc_intO_B0 K (n + 1) ((t0, (t7, (t8, ()))), ()) =
 brk (decide (t8 < t7))
 (ck (decide (0 ≤ t8) && decide (t8 < t0.length)) ((impl_ImageOk_1_F (rdD tI t0 t8, ())).bind fun y16 =>
 brk y16.1.1
 (K .ret (slices_IndexFunc_intO_x0_0 t8))
 (iterG slices_IndexFunc_intO_t0 slices_IndexFunc_intO_B0 K n ((t0, (t7, (IntKind.i64.wrap (t8 + (1 : Int)), ()))), ()))))
 (K (.exit 0) (slices_IndexFunc_intO_x0_1)) := by kernel_rfl
theorem slices_IndexFunc_intO_e0_0 (x0 : List Int) (x1 : Unit) (d0 : Int) : slices_IndexFunc_intO_K0 x0 x1 .ret (slices_IndexFunc_intO_x0_0 d0) =
 some ((d0, ()), ((), ((), ()))) := by kernel_rfl
theorem slices_IndexFunc_intO_e0_1 (x0 : List Int) (x1 : Unit) : slices_IndexFunc_intO_K0 x0 x1 (.exit 0) (slices_IndexFunc_intO_x0_1) =
 some (((-1 : Int), ()), ((), ((), ()))) := by kernel_rfl
/-! slices.ContainsFunc[[]int,int] -/
noncomputable def slices_ContainsFunc_int_b : Code := bd Tryz.f86
def slices_ContainsFunc_int_T : List (Nat × Tm) := []
noncomputable def slices_ContainsFunc_int_E : Env := ⟨tt0, [(101, slices_IndexFunc_intO_C)]⟩
noncomputable def slices_ContainsFunc_int_F : PsD [.ro tIs, .fn 87 []] → Option (RsD [.own tB] × PsO [.ro tIs, .fn 87 []]) := fun x => evFn slices_ContainsFunc_int_E slices_ContainsFunc_int_T Tryz.f86 slices_ContainsFunc_int_b [.ro tIs, .fn 87 []] [.own tB] x
@[reducible] noncomputable def slices_ContainsFunc_int_C : Ct := ⟨[.ro tIs, .fn 87 []], [.own tB], slices_ContainsFunc_int_F⟩
theorem slices_ContainsFunc_int_h (x : PsD [.ro tIs, .fn 87 []]) (y : RsD [.own tB] × PsO [.ro tIs, .fn 87 []]) (h : slices_ContainsFunc_int_F x = some y) : evFn slices_ContainsFunc_int_E slices_ContainsFunc_int_T Tryz.f86 slices_ContainsFunc_int_b [.ro tIs, .fn 87 []] [.own tB] x = some y := h
theorem slices_ContainsFunc_int_c : ∀ f c, get slices_ContainsFunc_int_E.ct f = some c → Sat Tryz.prog f c := ct_cons slices_IndexFunc_intO_S (ct_nil)
theorem slices_ContainsFunc_int_S : Sat Tryz.prog 86 slices_ContainsFunc_int_C := fn_ok2 (envOk _) slices_ContainsFunc_int_c mixedOk Tryz.func86 (by kernel_rfl : Tryz.f86.body = some slices_ContainsFunc_int_b) (by kernel_rfl) (by kernel_rfl) slices_ContainsFunc_int_h
noncomputable def slices_ContainsFunc_int_Ke  (x0 : List Int) (x1 : Unit) : Ex → AS → Option (RsD [.own tB] × PsO [.ro tIs, .fn 87 []]) := endK slices_ContainsFunc_int_E Tryz.f86 [.ro tIs, .fn 87 []] [.own tB] (initL [.ro tIs, .fn 87 []] (x0, (x1, ())) 0).1
theorem slices_ContainsFunc_int_main (x0 : List Int) (x1 : Unit) : slices_ContainsFunc_int_F (x0, (x1, ())) =
 (slices_IndexFunc_intO_F (x0, ((), ()))).bind fun y7 =>
 some ((decide ((0 : Int) ≤ y7.1.1), ()), ((), ((), ()))) := by kernel_rfl
/-! impl.ImageOk -/
noncomputable def impl_ImageOk_b : Code := bd Tryz.f68
def impl_ImageOk_T : List (Nat × Tm) := []
noncomputable def impl_ImageOk_E : Env := ⟨tt0, [(86, slices_ContainsFunc_int_C)]⟩
noncomputable def impl_ImageOk_F : PsD [.ro tIs] → Option (RsD [.own tB] × PsO [.ro tIs]) := fun x => evFn impl_ImageOk_E impl_ImageOk_T Tryz.f68 impl_ImageOk_b [.ro tIs] [.own tB] x
@[reducible] noncomputable def impl_ImageOk_C : Ct := ⟨[.ro tIs], [.own tB], impl_ImageOk_F⟩
theorem impl_ImageOk_h (x : PsD [.ro tIs]) (y : RsD [.own tB] × PsO [.ro tIs]) (h : impl_ImageOk_F x = some y) : evFn impl_ImageOk_E impl_ImageOk_T Tryz.f68 impl_ImageOk_b [.ro tIs] [.own tB] x = some y := h
theorem impl_ImageOk_c : ∀ f c, get impl_ImageOk_E.ct f = some c → Sat Tryz.prog f c := ct_cons slices_ContainsFunc_int_S (ct_nil)
theorem impl_ImageOk_S : Sat Tryz.prog 68 impl_ImageOk_C := fn_ok2 (envOk _) impl_ImageOk_c mixedOk Tryz.func68 (by kernel_rfl : Tryz.f68.body = some impl_ImageOk_b) (by kernel_rfl) (by kernel_rfl) impl_ImageOk_h
noncomputable def impl_ImageOk_Ke  (x0 : List Int) : Ex → AS → Option (RsD [.own tB] × PsO [.ro tIs]) := endK impl_ImageOk_E Tryz.f68 [.ro tIs] [.own tB] (initL [.ro tIs] (x0, ()) 0).1
theorem impl_ImageOk_main (x0 : List Int) : impl_ImageOk_F (x0, ()) =
 brk (decide ((x0.length : Int) = (8 : Int)))
 ((slices_ContainsFunc_int_F (x0, ((), ()))).bind fun y8 =>
 some ((!y8.1.1, ()), ((), ())))
 (some ((false, ()), ((), ()))) := by kernel_rfl
/-! slices.Equal[[]int,int] -/
noncomputable def slices_Equal_int_b : Code := bd Tryz.f92
@[reducible] def slices_Equal_int_t0 : Tm := ⟨[], [], [(0, .sc true tIs), (1, .sc true tIs), (12, .sc true tI), (13, .sc true tI)], [], [4], []⟩
def slices_Equal_int_T : List (Nat × Tm) := [(0, slices_Equal_int_t0)]
noncomputable def slices_Equal_int_E : Env := ⟨tt0, []⟩
noncomputable def slices_Equal_int_F : PsD [.ro tIs, .ro tIs] → Option (RsD [.own tB] × PsO [.ro tIs, .ro tIs]) := fun x => evFn slices_Equal_int_E slices_Equal_int_T Tryz.f92 slices_Equal_int_b [.ro tIs, .ro tIs] [.own tB] x
@[reducible] noncomputable def slices_Equal_int_C : Ct := ⟨[.ro tIs, .ro tIs], [.own tB], slices_Equal_int_F⟩
theorem slices_Equal_int_h (x : PsD [.ro tIs, .ro tIs]) (y : RsD [.own tB] × PsO [.ro tIs, .ro tIs]) (h : slices_Equal_int_F x = some y) : evFn slices_Equal_int_E slices_Equal_int_T Tryz.f92 slices_Equal_int_b [.ro tIs, .ro tIs] [.own tB] x = some y := h
theorem slices_Equal_int_c : ∀ f c, get slices_Equal_int_E.ct f = some c → Sat Tryz.prog f c := ct_nil
theorem slices_Equal_int_S : Sat Tryz.prog 92 slices_Equal_int_C := fn_ok2 (envOk _) slices_Equal_int_c mixedOk Tryz.func92 (by kernel_rfl : Tryz.f92.body = some slices_Equal_int_b) (by kernel_rfl) (by kernel_rfl) slices_Equal_int_h
noncomputable def slices_Equal_int_Ke  (x0 : List Int) (x1 : List Int) : Ex → AS → Option (RsD [.own tB] × PsO [.ro tIs, .ro tIs]) := endK slices_Equal_int_E Tryz.f92 [.ro tIs, .ro tIs] [.own tB] (initL [.ro tIs, .ro tIs] (x0, (x1, ())) 0).1
noncomputable def slices_Equal_int_B0 {R : Type} : AS → (Ex → AS → Option R) → Option R := fun A K => ev slices_Equal_int_E slices_Equal_int_T 0 (cA (cA (cB (cA (cB (cB slices_Equal_int_b)))))) A K
noncomputable def slices_Equal_int_K0  (x0 : List Int) (x1 : List Int) : Ex → AS → Option (RsD [.own tB] × PsO [.ro tIs, .ro tIs]) := kBlk 0 (kSeq (fun A K => ev slices_Equal_int_E slices_Equal_int_T 1000 (cB (cB (cB slices_Equal_int_b))) A K) (slices_Equal_int_Ke x0 x1))
noncomputable def slices_Equal_int_x0_0 (d0 : Bool) : AS := ⟨[(4, .v (.one (.d true tB d0)))], []⟩
noncomputable def slices_Equal_int_x0_1 : AS := ⟨[], []⟩
theorem slices_Equal_int_l0 {R : Type} {K : Ex → AS → Option R} {s : slices_Equal_int_t0.D} (n : Nat) {v : Option R} (h : iterG slices_Equal_int_t0 slices_Equal_int_B0 K n s = v) (hv : ∃ r, v = some r) : loopG slices_Equal_int_t0 slices_Equal_int_B0 K s = v := loop_eq (ev_mono _ _) n h hv
theorem slices_Equal_int_main (x0 : List Int) (x1 : List Int) : slices_Equal_int_F (x0, (x1, ())) =
 brk (!decide ((x0.length : Int) = (x1.length : Int)))
 (some ((false, ()), ((), ((), ()))))
 (loopG slices_Equal_int_t0 slices_Equal_int_B0 (slices_Equal_int_K0 x0 x1) ((x0, (x1, ((x0.length : Int), ((0 : Int), ())))), ())) := by kernel_rfl
theorem slices_Equal_int_r0 {R : Type} (K : Ex → AS → Option R) (n : Nat) (t0 : List Int) (t1 : List Int) (t12 : Int) (t13 : Int) : iterG slices_Equal_int_t0 slices_Equal_int_B0 K (n + 1) ((t0, (t1, (t12, (t13, ())))), ()) =
 brk (decide (t13 < t12))
 (ck (decide (0 ≤ t13) && decide (t13 < t0.length)) (ck (decide (0 ≤ t13) && decide (t13 < t1.length)) (brk (!decide (rdD tI t0 t13 = rdD tI t1 t13))
 (K .ret (slices_Equal_int_x0_0 false))
 (iterG slices_Equal_int_t0 slices_Equal_int_B0 K n ((t0, (t1, (t12, (IntKind.i64.wrap (t13 + (1 : Int)), ())))), ())))))
 (K (.exit 0) (slices_Equal_int_x0_1)) := by kernel_rfl
theorem slices_Equal_int_e0_0 (x0 : List Int) (x1 : List Int) (d0 : Bool) : slices_Equal_int_K0 x0 x1 .ret (slices_Equal_int_x0_0 d0) =
 some ((d0, ()), ((), ((), ()))) := by kernel_rfl
theorem slices_Equal_int_e0_1 (x0 : List Int) (x1 : List Int) : slices_Equal_int_K0 x0 x1 (.exit 0) (slices_Equal_int_x0_1) =
 some ((true, ()), ((), ((), ()))) := by kernel_rfl
/-! slices.EqualFunc[[][]int,[][]int,[]int,[]int] -/
noncomputable def slices_EqualFunc__int_b : Code := bd Tryz.f93
@[reducible] def slices_EqualFunc__int_t0 : Tm := ⟨[], [], [(1, .sc true tIss), (2, .fnv 92 []), (15, .sc true tIss), (16, .sc true tI), (17, .sc true tI)], [], [6], []⟩
def slices_EqualFunc__int_T : List (Nat × Tm) := [(0, slices_EqualFunc__int_t0)]
noncomputable def slices_EqualFunc__int_E : Env := ⟨tt0, [(92, slices_Equal_int_C)]⟩
noncomputable def slices_EqualFunc__int_F : PsD [.ro tIss, .ro tIss, .fn 92 []] → Option (RsD [.own tB] × PsO [.ro tIss, .ro tIss, .fn 92 []]) := fun x => evFn slices_EqualFunc__int_E slices_EqualFunc__int_T Tryz.f93 slices_EqualFunc__int_b [.ro tIss, .ro tIss, .fn 92 []] [.own tB] x
@[reducible] noncomputable def slices_EqualFunc__int_C : Ct := ⟨[.ro tIss, .ro tIss, .fn 92 []], [.own tB], slices_EqualFunc__int_F⟩
theorem slices_EqualFunc__int_h (x : PsD [.ro tIss, .ro tIss, .fn 92 []]) (y : RsD [.own tB] × PsO [.ro tIss, .ro tIss, .fn 92 []]) (h : slices_EqualFunc__int_F x = some y) : evFn slices_EqualFunc__int_E slices_EqualFunc__int_T Tryz.f93 slices_EqualFunc__int_b [.ro tIss, .ro tIss, .fn 92 []] [.own tB] x = some y := h
theorem slices_EqualFunc__int_c : ∀ f c, get slices_EqualFunc__int_E.ct f = some c → Sat Tryz.prog f c := ct_cons slices_Equal_int_S (ct_nil)
theorem slices_EqualFunc__int_S : Sat Tryz.prog 93 slices_EqualFunc__int_C := fn_ok2 (envOk _) slices_EqualFunc__int_c mixedOk Tryz.func93 (by kernel_rfl : Tryz.f93.body = some slices_EqualFunc__int_b) (by kernel_rfl) (by kernel_rfl) slices_EqualFunc__int_h
noncomputable def slices_EqualFunc__int_Ke  (x0 : List (List Int)) (x1 : List (List Int)) (x2 : Unit) : Ex → AS → Option (RsD [.own tB] × PsO [.ro tIss, .ro tIss, .fn 92 []]) := endK slices_EqualFunc__int_E Tryz.f93 [.ro tIss, .ro tIss, .fn 92 []] [.own tB] (initL [.ro tIss, .ro tIss, .fn 92 []] (x0, (x1, (x2, ()))) 0).1
noncomputable def slices_EqualFunc__int_B0 {R : Type} : AS → (Ex → AS → Option R) → Option R := fun A K => ev slices_EqualFunc__int_E slices_EqualFunc__int_T 0 (cA (cA (cB (cA (cB (cB slices_EqualFunc__int_b)))))) A K
noncomputable def slices_EqualFunc__int_K0  (x0 : List (List Int)) (x1 : List (List Int)) (x2 : Unit) : Ex → AS → Option (RsD [.own tB] × PsO [.ro tIss, .ro tIss, .fn 92 []]) := kBlk 0 (kSeq (fun A K => ev slices_EqualFunc__int_E slices_EqualFunc__int_T 1000 (cB (cB (cB slices_EqualFunc__int_b))) A K) (slices_EqualFunc__int_Ke x0 x1 x2))
noncomputable def slices_EqualFunc__int_x0_0 (d0 : Bool) : AS := ⟨[(6, .v (.one (.d true tB d0)))], []⟩
noncomputable def slices_EqualFunc__int_x0_1 : AS := ⟨[], []⟩
theorem slices_EqualFunc__int_l0 {R : Type} {K : Ex → AS → Option R} {s : slices_EqualFunc__int_t0.D} (n : Nat) {v : Option R} (h : iterG slices_EqualFunc__int_t0 slices_EqualFunc__int_B0 K n s = v) (hv : ∃ r, v = some r) : loopG slices_EqualFunc__int_t0 slices_EqualFunc__int_B0 K s = v := loop_eq (ev_mono _ _) n h hv
theorem slices_EqualFunc__int_main (x0 : List (List Int)) (x1 : List (List Int)) (x2 : Unit) : slices_EqualFunc__int_F (x0, (x1, (x2, ()))) =
 brk (!decide ((x0.length : Int) = (x1.length : Int)))
 (some ((false, ()), ((), ((), ((), ())))))
 (loopG slices_EqualFunc__int_t0 slices_EqualFunc__int_B0 (slices_EqualFunc__int_K0 x0 x1 x2) ((x1, (x0, ((x0.length : Int), ((0 : Int), ())))), ())) := by kernel_rfl
theorem slices_EqualFunc__int_r0 {R : Type} (K : Ex → AS → Option R) (n : Nat) (t1 : List (List Int)) (t15 : List (List Int)) (t16 : Int) (t17 : Int) : iterG slices_EqualFunc__int_t0 slices_EqualFunc__int_B0 K (n + 1) ((t1, (t15, (t16, (t17, ())))), ()) =
 brk (decide (t17 < t16))
 (ck (decide (0 ≤ t17) && decide (t17 < t15.length)) (ck (decide (0 ≤ t17) && decide (t17 < t1.length)) ((slices_Equal_int_F (rdD tIs t15 t17, (rdD tIs t1 t17, ()))).bind fun y29 =>
 brk (!y29.1.1)
 (K .ret (slices_EqualFunc__int_x0_0 false))
 (iterG slices_EqualFunc__int_t0 slices_EqualFunc__int_B0 K n ((t1, (t15, (t16, (IntKind.i64.wrap (t17 + (1 : Int)), ())))), ())))))
 (K (.exit 0) (slices_EqualFunc__int_x0_1)) := by kernel_rfl
theorem slices_EqualFunc__int_e0_0 (x0 : List (List Int)) (x1 : List (List Int)) (x2 : Unit) (d0 : Bool) : slices_EqualFunc__int_K0 x0 x1 x2 .ret (slices_EqualFunc__int_x0_0 d0) =
 some ((d0, ()), ((), ((), ((), ())))) := by kernel_rfl
theorem slices_EqualFunc__int_e0_1 (x0 : List (List Int)) (x1 : List (List Int)) (x2 : Unit) : slices_EqualFunc__int_K0 x0 x1 x2 (.exit 0) (slices_EqualFunc__int_x0_1) =
 some ((true, ()), ((), ((), ((), ())))) := by kernel_rfl
/-! impl.SameMeta -/
noncomputable def impl_SameMeta_b : Code := bd Tryz.f71
def impl_SameMeta_T : List (Nat × Tm) := []
noncomputable def impl_SameMeta_E : Env := ⟨tt0, [(92, slices_Equal_int_C), (93, slices_EqualFunc__int_C)]⟩
noncomputable def impl_SameMeta_F : PsD [.ro tMeta, .ro tMeta] → Option (RsD [.own tB] × PsO [.ro tMeta, .ro tMeta]) := fun x => evFn impl_SameMeta_E impl_SameMeta_T Tryz.f71 impl_SameMeta_b [.ro tMeta, .ro tMeta] [.own tB] x
@[reducible] noncomputable def impl_SameMeta_C : Ct := ⟨[.ro tMeta, .ro tMeta], [.own tB], impl_SameMeta_F⟩
theorem impl_SameMeta_h (x : PsD [.ro tMeta, .ro tMeta]) (y : RsD [.own tB] × PsO [.ro tMeta, .ro tMeta]) (h : impl_SameMeta_F x = some y) : evFn impl_SameMeta_E impl_SameMeta_T Tryz.f71 impl_SameMeta_b [.ro tMeta, .ro tMeta] [.own tB] x = some y := h
theorem impl_SameMeta_c : ∀ f c, get impl_SameMeta_E.ct f = some c → Sat Tryz.prog f c := ct_cons slices_Equal_int_S (ct_cons slices_EqualFunc__int_S (ct_nil))
theorem impl_SameMeta_S : Sat Tryz.prog 71 impl_SameMeta_C := fn_ok2 (envOk _) impl_SameMeta_c mixedOk Tryz.func71 (by kernel_rfl : Tryz.f71.body = some impl_SameMeta_b) (by kernel_rfl) (by kernel_rfl) impl_SameMeta_h
noncomputable def impl_SameMeta_Ke  (x0 : List Int × List (List Int) × Bool × Bool × Bool × Int × Unit) (x1 : List Int × List (List Int) × Bool × Bool × Bool × Int × Unit) : Ex → AS → Option (RsD [.own tB] × PsO [.ro tMeta, .ro tMeta]) := endK impl_SameMeta_E Tryz.f71 [.ro tMeta, .ro tMeta] [.own tB] (initL [.ro tMeta, .ro tMeta] (x0, (x1, ())) 0).1
theorem impl_SameMeta_main (x0 : List Int × List (List Int) × Bool × Bool × Bool × Int × Unit) (x1 : List Int × List (List Int) × Bool × Bool × Bool × Int × Unit) : impl_SameMeta_F (x0, (x1, ())) =
 (slices_Equal_int_F (x0.1, (x1.1, ()))).bind fun y9 =>
 brk y9.1.1
 ((slices_EqualFunc__int_F (x0.2.1, (x1.2.1, ((), ())))).bind fun y15 =>
 brk y15.1.1
 (brk (x0.2.2.1 == x1.2.2.1)
 (brk (x0.2.2.2.1 == x1.2.2.2.1)
 (brk (x0.2.2.2.2.1 == x1.2.2.2.2.1)
 (some ((decide (x0.2.2.2.2.2.1 = x1.2.2.2.2.2.1), ()), ((), ((), ()))))
 (some ((false, ()), ((), ((), ())))))
 (some ((false, ()), ((), ((), ())))))
 (some ((false, ()), ((), ((), ())))))
 (some ((false, ()), ((), ((), ())))))
 (some ((false, ()), ((), ((), ())))) := by kernel_rfl
/-! impl.isWrite -/
noncomputable def impl_isWrite_b : Code := bd Tryz.f72
def impl_isWrite_T : List (Nat × Tm) := []
noncomputable def impl_isWrite_E : Env := ⟨tt0, [(85, impl_from_C)]⟩
noncomputable def impl_isWrite_F : PsD [.ro tI] → Option (RsD [.own tB] × PsO [.ro tI]) := fun x => evFn impl_isWrite_E impl_isWrite_T Tryz.f72 impl_isWrite_b [.ro tI] [.own tB] x
@[reducible] noncomputable def impl_isWrite_C : Ct := ⟨[.ro tI], [.own tB], impl_isWrite_F⟩
theorem impl_isWrite_h (x : PsD [.ro tI]) (y : RsD [.own tB] × PsO [.ro tI]) (h : impl_isWrite_F x = some y) : evFn impl_isWrite_E impl_isWrite_T Tryz.f72 impl_isWrite_b [.ro tI] [.own tB] x = some y := h
theorem impl_isWrite_c : ∀ f c, get impl_isWrite_E.ct f = some c → Sat Tryz.prog f c := ct_cons impl_from_S (ct_nil)
theorem impl_isWrite_S : Sat Tryz.prog 72 impl_isWrite_C := fn_ok2 (envOk _) impl_isWrite_c mixedOk Tryz.func72 (by kernel_rfl : Tryz.f72.body = some impl_isWrite_b) (by kernel_rfl) (by kernel_rfl) impl_isWrite_h
noncomputable def impl_isWrite_Ke  (x0 : Int) : Ex → AS → Option (RsD [.own tB] × PsO [.ro tI]) := endK impl_isWrite_E Tryz.f72 [.ro tI] [.own tB] (initL [.ro tI] (x0, ()) 0).1
theorem impl_isWrite_main (x0 : Int) : impl_isWrite_F (x0, ()) =
 (impl_from_F (x0, ((1 : Int), ((200 : Int), ())))).bind fun y4 =>
 some ((y4.1.1, ()), ((), ())) := by kernel_rfl
/-! impl.NodeOk -/
noncomputable def impl_NodeOk_b : Code := bd Tryz.f33
@[reducible] def impl_NodeOk_t0 : Tm := ⟨[], [], [(1, .ptr 16 0), (85, .sc true tI)], [(16, .box [.sc true tI, .sc true tB, .sc true tB, .sc true tIs, .sc true tIs, .sc true tIss, .sc true tB, .sc true tB, .sc true tB, .sc true tI, .sc true tYs, .sc true tYs, .sc true tBs, .sc true tIss, .sc true tBs, .sc true tIs])], [1, 2, 150, 151, 152, 153, 154, 155, 156, 157, 158, 159, 160, 161], [16]⟩
@[reducible] def impl_NodeOk_t2 : Tm := ⟨[], [], [(1, .ptr 16 0), (139, .sc true tIs), (140, .sc true tI), (141, .sc true tI)], [(16, .box [.sc true tI, .sc true tB, .sc true tB, .sc true tIs, .sc true tIs, .sc true tIss, .sc true tB, .sc true tB, .sc true tB, .sc true tI, .sc true tYs, .sc true tYs, .sc true tBs, .sc true tIss, .sc true tBs, .sc true tIs])], [2], []⟩
def impl_NodeOk_T : List (Nat × Tm) := [(0, impl_NodeOk_t0), (2, impl_NodeOk_t2)]
noncomputable def impl_NodeOk_E : Env := ⟨tt0, [(34, impl_SlotGet_C), (67, impl_isNode_C), (68, impl_ImageOk_C), (69, impl_MetaOk_C), (70, impl_marksAll_C), (71, impl_SameMeta_C), (72, impl_isWrite_C)]⟩
noncomputable def impl_NodeOk_F : PsD [.ro tNode] → Option (RsD [.own tB] × PsO [.ro tNode]) := fun x => evFn impl_NodeOk_E impl_NodeOk_T Tryz.f33 impl_NodeOk_b [.ro tNode] [.own tB] x
@[reducible] noncomputable def impl_NodeOk_C : Ct := ⟨[.ro tNode], [.own tB], impl_NodeOk_F⟩
theorem impl_NodeOk_h (x : PsD [.ro tNode]) (y : RsD [.own tB] × PsO [.ro tNode]) (h : impl_NodeOk_F x = some y) : evFn impl_NodeOk_E impl_NodeOk_T Tryz.f33 impl_NodeOk_b [.ro tNode] [.own tB] x = some y := h
theorem impl_NodeOk_c : ∀ f c, get impl_NodeOk_E.ct f = some c → Sat Tryz.prog f c := ct_cons impl_SlotGet_S (ct_cons impl_isNode_S (ct_cons impl_ImageOk_S (ct_cons impl_MetaOk_S (ct_cons impl_marksAll_S (ct_cons impl_SameMeta_S (ct_cons impl_isWrite_S (ct_nil)))))))
theorem impl_NodeOk_S : Sat Tryz.prog 33 impl_NodeOk_C := fn_ok2 (envOk _) impl_NodeOk_c mixedOk Tryz.func33 (by kernel_rfl : Tryz.f33.body = some impl_NodeOk_b) (by kernel_rfl) (by kernel_rfl) impl_NodeOk_h
noncomputable def impl_NodeOk_Ke  (x0 : Int × Bool × Bool × List Int × (List Int × List (List Int) × Bool × Bool × Bool × Int × Unit) × (List Int × List Int × Unit) × List Bool × List (List Int) × List Bool × List Int × Unit) : Ex → AS → Option (RsD [.own tB] × PsO [.ro tNode]) := endK impl_NodeOk_E Tryz.f33 [.ro tNode] [.own tB] (initL [.ro tNode] (x0, ()) 0).1
noncomputable def impl_NodeOk_B0 {R : Type} : AS → (Ex → AS → Option R) → Option R := fun A K => ev impl_NodeOk_E impl_NodeOk_T 0 (cA (cA (cB (cA (cB (cB (cB impl_NodeOk_b))))))) A K
noncomputable def impl_NodeOk_B2 {R : Type} : AS → (Ex → AS → Option R) → Option R := fun A K => ev impl_NodeOk_E impl_NodeOk_T 2 (cA (cA (cB (cA (cB (cB (cB (cB impl_NodeOk_b)))))))) A K
noncomputable def impl_NodeOk_K0  (x0 : Int × Bool × Bool × List Int × (List Int × List (List Int) × Bool × Bool × Bool × Int × Unit) × (List Int × List Int × Unit) × List Bool × List (List Int) × List Bool × List Int × Unit) : Ex → AS → Option (RsD [.own tB] × PsO [.ro tNode]) := kBlk 0 (kSeq (fun A K => ev impl_NodeOk_E impl_NodeOk_T 1000 (cB (cB (cB (cB impl_NodeOk_b)))) A K) (impl_NodeOk_Ke x0))
noncomputable def impl_NodeOk_K2  (x0 : Int × Bool × Bool × List Int × (List Int × List (List Int) × Bool × Bool × Bool × Int × Unit) × (List Int × List Int × Unit) × List Bool × List (List Int) × List Bool × List Int × Unit) : Ex → AS → Option (RsD [.own tB] × PsO [.ro tNode]) := kBlk 2 (kSeq (fun A K => ev impl_NodeOk_E impl_NodeOk_T 1000 (cB (cB (cB (cB (cB impl_NodeOk_b))))) A K) (impl_NodeOk_Ke x0))
noncomputable def impl_NodeOk_x0_0 (d0 : Bool) (d1 : Int) (d2 : Bool) (d3 : Bool) (d4 : List Int) (d5 : List Int) (d6 : List (List Int)) (d7 : Bool) (d8 : Bool) (d9 : Bool) (d10 : Int) (d11 : List Int) (d12 : List Int) (d13 : List Bool) (d14 : List (List Int)) (d15 : List Bool) (d16 : List Int) : AS := ⟨[(1, .v (.one (.bptr 16 0))), (2, .v (.one (.d true tB d0)))], [(16, .box [.d true tI d1, .d true tB d2, .d true tB d3, .d true tIs d4, .d true tIs d5, .d true tIss d6, .d true tB d7, .d true tB d8, .d true tB d9, .d true tI d10, .d true tYs d11, .d true tYs d12, .d true tBs d13, .d true tIss d14, .d true tBs d15, .d true tIs d16])]⟩
noncomputable def impl_NodeOk_x0_1 (d0 : Int) (d1 : Bool) (d2 : Bool) (d3 : List Int) (d4 : List Int) (d5 : List (List Int)) (d6 : Bool) (d7 : Bool) (d8 : Bool) (d9 : Int) (d10 : List Int) (d11 : List Int) (d12 : List Bool) (d13 : List (List Int)) (d14 : List Bool) (d15 : List Int) : AS := ⟨[(1, .v (.one (.bptr 16 0)))], [(16, .box [.d true tI d0, .d true tB d1, .d true tB d2, .d true tIs d3, .d true tIs d4, .d true tIss d5, .d true tB d6, .d true tB d7, .d true tB d8, .d true tI d9, .d true tYs d10, .d true tYs d11, .d true tBs d12, .d true tIss d13, .d true tBs d14, .d true tIs d15])]⟩
noncomputable def impl_NodeOk_x2_0 (d0 : Bool) : AS := ⟨[(2, .v (.one (.d true tB d0)))], []⟩
noncomputable def impl_NodeOk_x2_1 : AS := ⟨[], []⟩
theorem impl_NodeOk_l0 {R : Type} {K : Ex → AS → Option R} {s : impl_NodeOk_t0.D} (n : Nat) {v : Option R} (h : iterG impl_NodeOk_t0 impl_NodeOk_B0 K n s = v) (hv : ∃ r, v = some r) : loopG impl_NodeOk_t0 impl_NodeOk_B0 K s = v := loop_eq (ev_mono _ _) n h hv
theorem impl_NodeOk_l2 {R : Type} {K : Ex → AS → Option R} {s : impl_NodeOk_t2.D} (n : Nat) {v : Option R} (h : iterG impl_NodeOk_t2 impl_NodeOk_B2 K n s = v) (hv : ∃ r, v = some r) : loopG impl_NodeOk_t2 impl_NodeOk_B2 K s = v := loop_eq (ev_mono _ _) n h hv
theorem impl_NodeOk_main (x0 : Int × Bool × Bool × List Int × (List Int × List (List Int) × Bool × Bool × Bool × Int × Unit) × (List Int × List Int × Unit) × List Bool × List (List Int) × List Bool × List Int × Unit) : impl_NodeOk_F (x0, ()) =
 (impl_isNode_F (x0.1, ())).bind fun y12 =>
 brk (!y12.1.1)
 (some ((false, ()), ((), ())))
 ((impl_ImageOk_F (x0.2.2.2.1, ())).bind fun y17 =>
 brk (!y17.1.1)
 (some ((false, ()), ((), ())))
 ((impl_MetaOk_F ((x0.2.2.2.2.1.1, (x0.2.2.2.2.1.2.1, (x0.2.2.2.2.1.2.2.1, (x0.2.2.2.2.1.2.2.2.1, (x0.2.2.2.2.1.2.2.2.2.1, (x0.2.2.2.2.1.2.2.2.2.2.1, ())))))), ())).bind fun y23 =>
 brk (!y23.1.1)
 (some ((false, ()), ((), ())))
 (brk (!decide ((x0.2.2.2.2.2.2.1.length : Int) = (3 : Int)))
 (some ((false, ()), ((), ())))
 ((impl_marksAll_F (x0.2.2.2.2.2.2.2.1, ())).bind fun y35 =>
 brk (!y35.1.1)
 (some ((false, ()), ((), ())))
 (brk (!decide ((x0.2.2.2.2.2.2.2.2.1.length : Int) = (3 : Int)))
 (some ((false, ()), ((), ())))
 (brk x0.2.2.1
 (brk (!x0.2.1)
 (some ((false, ()), ((), ())))
 (brk (decide (x0.1 = (2 : Int)))
 (some ((false, ()), ((), ())))
 (brk (!x0.2.1)
 (brk (decide ((0 : Int) < (x0.2.2.2.2.2.2.2.2.2.1.length : Int)))
 (some ((false, ()), ((), ())))
 ((impl_SlotGet_F ((x0.2.2.2.2.2.1.1, (x0.2.2.2.2.2.1.2.1, ())), ())).bind fun y72 =>
 brk (!y72.1.2.2.1)
 (some ((false, ()), ((), ())))
 ((impl_SameMeta_F ((y72.1.1.1, (y72.1.1.2.1, (y72.1.1.2.2.1, (y72.1.1.2.2.2.1, (y72.1.1.2.2.2.2.1, (y72.1.1.2.2.2.2.2.1, ())))))), ((x0.2.2.2.2.1.1, (x0.2.2.2.2.1.2.1, (x0.2.2.2.2.1.2.2.1, (x0.2.2.2.2.1.2.2.2.1, (x0.2.2.2.2.1.2.2.2.2.1, (x0.2.2.2.2.1.2.2.2.2.2.1, ())))))), ()))).bind fun y82 =>
 brk (!y82.1.1)
 (some ((false, ()), ((), ())))
 (loopG impl_NodeOk_t0 impl_NodeOk_B0 (impl_NodeOk_K0 x0) (((0 : Int), ()), ((x0.1, (x0.2.1, (x0.2.2.1, (x0.2.2.2.1, (x0.2.2.2.2.1.1, (x0.2.2.2.2.1.2.1, (x0.2.2.2.2.1.2.2.1, (x0.2.2.2.2.1.2.2.2.1, (x0.2.2.2.2.1.2.2.2.2.1, (x0.2.2.2.2.1.2.2.2.2.2.1, (x0.2.2.2.2.2.1.1, (x0.2.2.2.2.2.1.2.1, (x0.2.2.2.2.2.2.1, (x0.2.2.2.2.2.2.2.1, (x0.2.2.2.2.2.2.2.2.1, (x0.2.2.2.2.2.2.2.2.2.1, ())))))))))))))))), ()))))))
 ((impl_SlotGet_F ((x0.2.2.2.2.2.1.1, (x0.2.2.2.2.2.1.2.1, ())), ())).bind fun y72 =>
 brk (!y72.1.2.2.1)
 (some ((false, ()), ((), ())))
 ((impl_SameMeta_F ((y72.1.1.1, (y72.1.1.2.1, (y72.1.1.2.2.1, (y72.1.1.2.2.2.1, (y72.1.1.2.2.2.2.1, (y72.1.1.2.2.2.2.2.1, ())))))), ((x0.2.2.2.2.1.1, (x0.2.2.2.2.1.2.1, (x0.2.2.2.2.1.2.2.1, (x0.2.2.2.2.1.2.2.2.1, (x0.2.2.2.2.1.2.2.2.2.1, (x0.2.2.2.2.1.2.2.2.2.2.1, ())))))), ()))).bind fun y82 =>
 brk (!y82.1.1)
 (some ((false, ()), ((), ())))
 (loopG impl_NodeOk_t0 impl_NodeOk_B0 (impl_NodeOk_K0 x0) (((0 : Int), ()), ((x0.1, (x0.2.1, (x0.2.2.1, (x0.2.2.2.1, (x0.2.2.2.2.1.1, (x0.2.2.2.2.1.2.1, (x0.2.2.2.2.1.2.2.1, (x0.2.2.2.2.1.2.2.2.1, (x0.2.2.2.2.1.2.2.2.2.1, (x0.2.2.2.2.1.2.2.2.2.2.1, (x0.2.2.2.2.2.1.1, (x0.2.2.2.2.2.1.2.1, (x0.2.2.2.2.2.2.1, (x0.2.2.2.2.2.2.2.1, (x0.2.2.2.2.2.2.2.2.1, (x0.2.2.2.2.2.2.2.2.2.1, ())))))))))))))))), ()))))))))
 (brk (!x0.2.1)
 (brk (decide ((0 : Int) < (x0.2.2.2.2.2.2.2.2.2.1.length : Int)))
 (some ((false, ()), ((), ())))
 ((impl_SlotGet_F ((x0.2.2.2.2.2.1.1, (x0.2.2.2.2.2.1.2.1, ())), ())).bind fun y72 =>
 brk (!y72.1.2.2.1)
 (some ((false, ()), ((), ())))
 ((impl_SameMeta_F ((y72.1.1.1, (y72.1.1.2.1, (y72.1.1.2.2.1, (y72.1.1.2.2.2.1, (y72.1.1.2.2.2.2.1, (y72.1.1.2.2.2.2.2.1, ())))))), ((x0.2.2.2.2.1.1, (x0.2.2.2.2.1.2.1, (x0.2.2.2.2.1.2.2.1, (x0.2.2.2.2.1.2.2.2.1, (x0.2.2.2.2.1.2.2.2.2.1, (x0.2.2.2.2.1.2.2.2.2.2.1, ())))))), ()))).bind fun y82 =>
 brk (!y82.1.1)
 (some ((false, ()), ((), ())))
 (loopG impl_NodeOk_t0 impl_NodeOk_B0 (impl_NodeOk_K0 x0) (((0 : Int), ()), ((x0.1, (x0.2.1, (x0.2.2.1, (x0.2.2.2.1, (x0.2.2.2.2.1.1, (x0.2.2.2.2.1.2.1, (x0.2.2.2.2.1.2.2.1, (x0.2.2.2.2.1.2.2.2.1, (x0.2.2.2.2.1.2.2.2.2.1, (x0.2.2.2.2.1.2.2.2.2.2.1, (x0.2.2.2.2.2.1.1, (x0.2.2.2.2.2.1.2.1, (x0.2.2.2.2.2.2.1, (x0.2.2.2.2.2.2.2.1, (x0.2.2.2.2.2.2.2.2.1, (x0.2.2.2.2.2.2.2.2.2.1, ())))))))))))))))), ()))))))
 ((impl_SlotGet_F ((x0.2.2.2.2.2.1.1, (x0.2.2.2.2.2.1.2.1, ())), ())).bind fun y72 =>
 brk (!y72.1.2.2.1)
 (some ((false, ()), ((), ())))
 ((impl_SameMeta_F ((y72.1.1.1, (y72.1.1.2.1, (y72.1.1.2.2.1, (y72.1.1.2.2.2.1, (y72.1.1.2.2.2.2.1, (y72.1.1.2.2.2.2.2.1, ())))))), ((x0.2.2.2.2.1.1, (x0.2.2.2.2.1.2.1, (x0.2.2.2.2.1.2.2.1, (x0.2.2.2.2.1.2.2.2.1, (x0.2.2.2.2.1.2.2.2.2.1, (x0.2.2.2.2.1.2.2.2.2.2.1, ())))))), ()))).bind fun y82 =>
 brk (!y82.1.1)
 (some ((false, ()), ((), ())))
 (loopG impl_NodeOk_t0 impl_NodeOk_B0 (impl_NodeOk_K0 x0) (((0 : Int), ()), ((x0.1, (x0.2.1, (x0.2.2.1, (x0.2.2.2.1, (x0.2.2.2.2.1.1, (x0.2.2.2.2.1.2.1, (x0.2.2.2.2.1.2.2.1, (x0.2.2.2.2.1.2.2.2.1, (x0.2.2.2.2.1.2.2.2.2.1, (x0.2.2.2.2.1.2.2.2.2.2.1, (x0.2.2.2.2.2.1.1, (x0.2.2.2.2.2.1.2.1, (x0.2.2.2.2.2.2.1, (x0.2.2.2.2.2.2.2.1, (x0.2.2.2.2.2.2.2.2.1, (x0.2.2.2.2.2.2.2.2.2.1, ())))))))))))))))), ())))))))))))) := by kernel_rfl
theorem impl_NodeOk_r0 {R : Type} (K : Ex → AS → Option R) (n : Nat) (t85 : Int) (b16_0 : Int) (b16_1 : Bool) (b16_2 : Bool) (b16_3 : List Int) (b16_4 : List Int) (b16_5 : List (List Int)) (b16_6 : Bool) (b16_7 : Bool) (b16_8 : Bool) (b16_9 : Int) (b16_10 : List Int) (b16_11 : List Int) (b16_12 : List Bool) (b16_13 : List (List Int)) (b16_14 : List Bool) (b16_15 : List Int) : iterG impl_NodeOk_t0 impl_NodeOk_B0 K (n + 1) ((t85, ()), ((b16_0, (b16_1, (b16_2, (b16_3, (b16_4, (b16_5, (b16_6, (b16_7, (b16_8, (b16_9, (b16_10, (b16_11, (b16_12, (b16_13, (b16_14, (b16_15, ())))))))))))))))), ())) =
 brk (decide (t85 < (3 : Int)))
 (brk b16_1
 (ck (decide (0 ≤ t85) && decide (t85 < b16_12.length)) (brk (rdD tB b16_12 t85)
 (brk (!(!decide (t85 = b16_0)))
 (K .ret (impl_NodeOk_x0_0 false b16_0 b16_1 b16_2 b16_3 b16_4 b16_5 b16_6 b16_7 b16_8 b16_9 b16_10 b16_11 b16_12 b16_13 b16_14 b16_15))
 (ck (decide (0 ≤ t85) && decide (t85 < b16_14.length)) (brk (rdD tB b16_14 t85)
 (ck (decide (0 ≤ t85) && decide (t85 < b16_12.length)) (brk (!(rdD tB b16_12 t85))
 (K .ret (impl_NodeOk_x0_0 false b16_0 b16_1 b16_2 b16_3 b16_4 b16_5 b16_6 b16_7 b16_8 b16_9 b16_10 b16_11 b16_12 b16_13 b16_14 b16_15))
 (ck (decide (0 ≤ t85) && decide (t85 < b16_13.length)) (brk (decide ((0 : Int) < ((rdD tIs b16_13 t85).length : Int)))
 (ck (decide (0 ≤ t85) && decide (t85 < b16_14.length)) (brk (!(rdD tB b16_14 t85))
 (K .ret (impl_NodeOk_x0_0 false b16_0 b16_1 b16_2 b16_3 b16_4 b16_5 b16_6 b16_7 b16_8 b16_9 b16_10 b16_11 b16_12 b16_13 b16_14 b16_15))
 (iterG impl_NodeOk_t0 impl_NodeOk_B0 K n ((IntKind.i64.wrap (t85 + (1 : Int)), ()), ((b16_0, (b16_1, (b16_2, (b16_3, (b16_4, (b16_5, (b16_6, (b16_7, (b16_8, (b16_9, (b16_10, (b16_11, (b16_12, (b16_13, (b16_14, (b16_15, ())))))))))))))))), ())))))
 (iterG impl_NodeOk_t0 impl_NodeOk_B0 K n ((IntKind.i64.wrap (t85 + (1 : Int)), ()), ((b16_0, (b16_1, (b16_2, (b16_3, (b16_4, (b16_5, (b16_6, (b16_7, (b16_8, (b16_9, (b16_10, (b16_11, (b16_12, (b16_13, (b16_14, (b16_15, ())))))))))))))))), ())))))))
 (ck (decide (0 ≤ t85) && decide (t85 < b16_13.length)) (brk (decide ((0 : Int) < ((rdD tIs b16_13 t85).length : Int)))
 (ck (decide (0 ≤ t85) && decide (t85 < b16_14.length)) (brk (!(rdD tB b16_14 t85))
 (K .ret (impl_NodeOk_x0_0 false b16_0 b16_1 b16_2 b16_3 b16_4 b16_5 b16_6 b16_7 b16_8 b16_9 b16_10 b16_11 b16_12 b16_13 b16_14 b16_15))
 (iterG impl_NodeOk_t0 impl_NodeOk_B0 K n ((IntKind.i64.wrap (t85 + (1 : Int)), ()), ((b16_0, (b16_1, (b16_2, (b16_3, (b16_4, (b16_5, (b16_6, (b16_7, (b16_8, (b16_9, (b16_10, (b16_11, (b16_12, (b16_13, (b16_14, (b16_15, ())))))))))))))))), ())))))
 (iterG impl_NodeOk_t0 impl_NodeOk_B0 K n ((IntKind.i64.wrap (t85 + (1 : Int)), ()), ((b16_0, (b16_1, (b16_2, (b16_3, (b16_4, (b16_5, (b16_6, (b16_7, (b16_8, (b16_9, (b16_10, (b16_11, (b16_12, (b16_13, (b16_14, (b16_15, ())))))))))))))))), ()))))))))
 (ck (decide (0 ≤ t85) && decide (t85 < b16_14.length)) (brk (rdD tB b16_14 t85)
 (ck (decide (0 ≤ t85) && decide (t85 < b16_12.length)) (brk (!(rdD tB b16_12 t85))
 (K .ret (impl_NodeOk_x0_0 false b16_0 b16_1 b16_2 b16_3 b16_4 b16_5 b16_6 b16_7 b16_8 b16_9 b16_10 b16_11 b16_12 b16_13 b16_14 b16_15))
 (ck (decide (0 ≤ t85) && decide (t85 < b16_13.length)) (brk (decide ((0 : Int) < ((rdD tIs b16_13 t85).length : Int)))
 (ck (decide (0 ≤ t85) && decide (t85 < b16_14.length)) (brk (!(rdD tB b16_14 t85))
 (K .ret (impl_NodeOk_x0_0 false b16_0 b16_1 b16_2 b16_3 b16_4 b16_5 b16_6 b16_7 b16_8 b16_9 b16_10 b16_11 b16_12 b16_13 b16_14 b16_15))
 (iterG impl_NodeOk_t0 impl_NodeOk_B0 K n ((IntKind.i64.wrap (t85 + (1 : Int)), ()), ((b16_0, (b16_1, (b16_2, (b16_3, (b16_4, (b16_5, (b16_6, (b16_7, (b16_8, (b16_9, (b16_10, (b16_11, (b16_12, (b16_13, (b16_14, (b16_15, ())))))))))))))))), ())))))
 (iterG impl_NodeOk_t0 impl_NodeOk_B0 K n ((IntKind.i64.wrap (t85 + (1 : Int)), ()), ((b16_0, (b16_1, (b16_2, (b16_3, (b16_4, (b16_5, (b16_6, (b16_7, (b16_8, (b16_9, (b16_10, (b16_11, (b16_12, (b16_13, (b16_14, (b16_15, ())))))))))))))))), ())))))))
 (ck (decide (0 ≤ t85) && decide (t85 < b16_13.length)) (brk (decide ((0 : Int) < ((rdD tIs b16_13 t85).length : Int)))
 (ck (decide (0 ≤ t85) && decide (t85 < b16_14.length)) (brk (!(rdD tB b16_14 t85))
 (K .ret (impl_NodeOk_x0_0 false b16_0 b16_1 b16_2 b16_3 b16_4 b16_5 b16_6 b16_7 b16_8 b16_9 b16_10 b16_11 b16_12 b16_13 b16_14 b16_15))
 (iterG impl_NodeOk_t0 impl_NodeOk_B0 K n ((IntKind.i64.wrap (t85 + (1 : Int)), ()), ((b16_0, (b16_1, (b16_2, (b16_3, (b16_4, (b16_5, (b16_6, (b16_7, (b16_8, (b16_9, (b16_10, (b16_11, (b16_12, (b16_13, (b16_14, (b16_15, ())))))))))))))))), ())))))
 (iterG impl_NodeOk_t0 impl_NodeOk_B0 K n ((IntKind.i64.wrap (t85 + (1 : Int)), ()), ((b16_0, (b16_1, (b16_2, (b16_3, (b16_4, (b16_5, (b16_6, (b16_7, (b16_8, (b16_9, (b16_10, (b16_11, (b16_12, (b16_13, (b16_14, (b16_15, ())))))))))))))))), ())))))))))
 (ck (decide (0 ≤ t85) && decide (t85 < b16_12.length)) (brk (rdD tB b16_12 t85)
 (K .ret (impl_NodeOk_x0_0 false b16_0 b16_1 b16_2 b16_3 b16_4 b16_5 b16_6 b16_7 b16_8 b16_9 b16_10 b16_11 b16_12 b16_13 b16_14 b16_15))
 (ck (decide (0 ≤ t85) && decide (t85 < b16_14.length)) (brk (rdD tB b16_14 t85)
 (ck (decide (0 ≤ t85) && decide (t85 < b16_12.length)) (brk (!(rdD tB b16_12 t85))
 (K .ret (impl_NodeOk_x0_0 false b16_0 b16_1 b16_2 b16_3 b16_4 b16_5 b16_6 b16_7 b16_8 b16_9 b16_10 b16_11 b16_12 b16_13 b16_14 b16_15))
 (ck (decide (0 ≤ t85) && decide (t85 < b16_13.length)) (brk (decide ((0 : Int) < ((rdD tIs b16_13 t85).length : Int)))
 (ck (decide (0 ≤ t85) && decide (t85 < b16_14.length)) (brk (!(rdD tB b16_14 t85))
 (K .ret (impl_NodeOk_x0_0 false b16_0 b16_1 b16_2 b16_3 b16_4 b16_5 b16_6 b16_7 b16_8 b16_9 b16_10 b16_11 b16_12 b16_13 b16_14 b16_15))
 (iterG impl_NodeOk_t0 impl_NodeOk_B0 K n ((IntKind.i64.wrap (t85 + (1 : Int)), ()), ((b16_0, (b16_1, (b16_2, (b16_3, (b16_4, (b16_5, (b16_6, (b16_7, (b16_8, (b16_9, (b16_10, (b16_11, (b16_12, (b16_13, (b16_14, (b16_15, ())))))))))))))))), ())))))
 (iterG impl_NodeOk_t0 impl_NodeOk_B0 K n ((IntKind.i64.wrap (t85 + (1 : Int)), ()), ((b16_0, (b16_1, (b16_2, (b16_3, (b16_4, (b16_5, (b16_6, (b16_7, (b16_8, (b16_9, (b16_10, (b16_11, (b16_12, (b16_13, (b16_14, (b16_15, ())))))))))))))))), ())))))))
 (ck (decide (0 ≤ t85) && decide (t85 < b16_13.length)) (brk (decide ((0 : Int) < ((rdD tIs b16_13 t85).length : Int)))
 (ck (decide (0 ≤ t85) && decide (t85 < b16_14.length)) (brk (!(rdD tB b16_14 t85))
 (K .ret (impl_NodeOk_x0_0 false b16_0 b16_1 b16_2 b16_3 b16_4 b16_5 b16_6 b16_7 b16_8 b16_9 b16_10 b16_11 b16_12 b16_13 b16_14 b16_15))
 (iterG impl_NodeOk_t0 impl_NodeOk_B0 K n ((IntKind.i64.wrap (t85 + (1 : Int)), ()), ((b16_0, (b16_1, (b16_2, (b16_3, (b16_4, (b16_5, (b16_6, (b16_7, (b16_8, (b16_9, (b16_10, (b16_11, (b16_12, (b16_13, (b16_14, (b16_15, ())))))))))))))))), ())))))
 (iterG impl_NodeOk_t0 impl_NodeOk_B0 K n ((IntKind.i64.wrap (t85 + (1 : Int)), ()), ((b16_0, (b16_1, (b16_2, (b16_3, (b16_4, (b16_5, (b16_6, (b16_7, (b16_8, (b16_9, (b16_10, (b16_11, (b16_12, (b16_13, (b16_14, (b16_15, ())))))))))))))))), ()))))))))))
 (K (.exit 0) (impl_NodeOk_x0_1 b16_0 b16_1 b16_2 b16_3 b16_4 b16_5 b16_6 b16_7 b16_8 b16_9 b16_10 b16_11 b16_12 b16_13 b16_14 b16_15)) := by kernel_rfl
theorem impl_NodeOk_e0_0 (x0 : Int × Bool × Bool × List Int × (List Int × List (List Int) × Bool × Bool × Bool × Int × Unit) × (List Int × List Int × Unit) × List Bool × List (List Int) × List Bool × List Int × Unit) (d0 : Bool) (d1 : Int) (d2 : Bool) (d3 : Bool) (d4 : List Int) (d5 : List Int) (d6 : List (List Int)) (d7 : Bool) (d8 : Bool) (d9 : Bool) (d10 : Int) (d11 : List Int) (d12 : List Int) (d13 : List Bool) (d14 : List (List Int)) (d15 : List Bool) (d16 : List Int) : impl_NodeOk_K0 x0 .ret (impl_NodeOk_x0_0 d0 d1 d2 d3 d4 d5 d6 d7 d8 d9 d10 d11 d12 d13 d14 d15 d16) =
 some ((d0, ()), ((), ())) := by kernel_rfl
theorem impl_NodeOk_e0_1 (x0 : Int × Bool × Bool × List Int × (List Int × List (List Int) × Bool × Bool × Bool × Int × Unit) × (List Int × List Int × Unit) × List Bool × List (List Int) × List Bool × List Int × Unit) (d0 : Int) (d1 : Bool) (d2 : Bool) (d3 : List Int) (d4 : List Int) (d5 : List (List Int)) (d6 : Bool) (d7 : Bool) (d8 : Bool) (d9 : Int) (d10 : List Int) (d11 : List Int) (d12 : List Bool) (d13 : List (List Int)) (d14 : List Bool) (d15 : List Int) : impl_NodeOk_K0 x0 (.exit 0) (impl_NodeOk_x0_1 d0 d1 d2 d3 d4 d5 d6 d7 d8 d9 d10 d11 d12 d13 d14 d15) =
 loopG impl_NodeOk_t2 impl_NodeOk_B2 (impl_NodeOk_K2 x0) ((d15, ((d15.length : Int), ((0 : Int), ()))), ((d0, (d1, (d2, (d3, (d4, (d5, (d6, (d7, (d8, (d9, (d10, (d11, (d12, (d13, (d14, (d15, ())))))))))))))))), ())) := by kernel_rfl
theorem impl_NodeOk_r2 {R : Type} (K : Ex → AS → Option R) (n : Nat) (t139 : List Int) (t140 : Int) (t141 : Int) (b16_0 : Int) (b16_1 : Bool) (b16_2 : Bool) (b16_3 : List Int) (b16_4 : List Int) (b16_5 : List (List Int)) (b16_6 : Bool) (b16_7 : Bool) (b16_8 : Bool) (b16_9 : Int) (b16_10 : List Int) (b16_11 : List Int) (b16_12 : List Bool) (b16_13 : List (List Int)) (b16_14 : List Bool) (b16_15 : List Int) : iterG impl_NodeOk_t2 impl_NodeOk_B2 K (n + 1) ((t139, (t140, (t141, ()))), ((b16_0, (b16_1, (b16_2, (b16_3, (b16_4, (b16_5, (b16_6, (b16_7, (b16_8, (b16_9, (b16_10, (b16_11, (b16_12, (b16_13, (b16_14, (b16_15, ())))))))))))))))), ())) =
 brk (decide (t141 < t140))
 (ck (decide (0 ≤ t141) && decide (t141 < t139.length)) ((impl_isWrite_F (rdD tI t139 t141, ())).bind fun y147 =>
 brk (!y147.1.1)
 (K .ret (impl_NodeOk_x2_0 false))
 (brk (decide ((0 : Int) < t141))
 (ck (decide (0 ≤ IntKind.i64.wrap (t141 - (1 : Int))) && decide (IntKind.i64.wrap (t141 - (1 : Int)) < b16_15.length)) (brk (decide (rdD tI t139 t141 ≤ rdD tI b16_15 (IntKind.i64.wrap (t141 - (1 : Int)))))
 (K .ret (impl_NodeOk_x2_0 false))
 (iterG impl_NodeOk_t2 impl_NodeOk_B2 K n ((t139, (t140, (IntKind.i64.wrap (t141 + (1 : Int)), ()))), ((b16_0, (b16_1, (b16_2, (b16_3, (b16_4, (b16_5, (b16_6, (b16_7, (b16_8, (b16_9, (b16_10, (b16_11, (b16_12, (b16_13, (b16_14, (b16_15, ())))))))))))))))), ())))))
 (iterG impl_NodeOk_t2 impl_NodeOk_B2 K n ((t139, (t140, (IntKind.i64.wrap (t141 + (1 : Int)), ()))), ((b16_0, (b16_1, (b16_2, (b16_3, (b16_4, (b16_5, (b16_6, (b16_7, (b16_8, (b16_9, (b16_10, (b16_11, (b16_12, (b16_13, (b16_14, (b16_15, ())))))))))))))))), ()))))))
 (K (.exit 2) (impl_NodeOk_x2_1)) := by kernel_rfl
theorem impl_NodeOk_e2_0 (x0 : Int × Bool × Bool × List Int × (List Int × List (List Int) × Bool × Bool × Bool × Int × Unit) × (List Int × List Int × Unit) × List Bool × List (List Int) × List Bool × List Int × Unit) (d0 : Bool) : impl_NodeOk_K2 x0 .ret (impl_NodeOk_x2_0 d0) =
 some ((d0, ()), ((), ())) := by kernel_rfl
theorem impl_NodeOk_e2_1 (x0 : Int × Bool × Bool × List Int × (List Int × List (List Int) × Bool × Bool × Bool × Int × Unit) × (List Int × List Int × Unit) × List Bool × List (List Int) × List Bool × List Int × Unit) : impl_NodeOk_K2 x0 (.exit 2) (impl_NodeOk_x2_1) =
 some ((true, ()), ((), ())) := by kernel_rfl
/-! slices_Grow_byte: off the shelf -/
noncomputable def slices_Grow_byte_F : PsD [.mv tYs, .ro tI] → Option (RsD [.own tYs] × PsO [.mv tYs, .ro tI]) := fun x => growF x.1 x.2.1
@[reducible] noncomputable def slices_Grow_byte_C : Ct := ⟨[.mv tYs, .ro tI], [.own tYs], slices_Grow_byte_F⟩
end Go.Refl
namespace Go.Proofs
open Go.Shelf
def YtbhonnfinekpcaaGreat.slices_Grow_byte_lay_ren : Go.Shelf.Ren := ⟨fun | 4 => 117 | n => n, fun | 22 => 26 | 25 => 5 | 3 => 3 | 4 => 4 | 9 => 9 | 20 => 20 | 0 => 0 | n => n, fun | n => n⟩
theorem YtbhonnfinekpcaaGreat.slices_Grow_byte_lay : Go.Proofs.Lays8.n4 Tryz.prog YtbhonnfinekpcaaGreat.slices_Grow_byte_lay_ren := {
  mixed := by kernel_rfl
  f4 := ⟨Tryz.f117.name, by decide, Tryz.func117.trans (congrArg some (by kernel_rfl))⟩
  t0 := Tryz.underlying0
  a0 := Tryz.isAgg0
  z0 := Tryz.sizeOf0
  v0 := Tryz.zeroValue0
  t3 := Tryz.underlying3
  a3 := Tryz.isAgg3
  z3 := Tryz.sizeOf3
  v3 := Tryz.zeroValue3
  t4 := Tryz.underlying4
  a4 := Tryz.isAgg4
  z4 := Tryz.sizeOf4
  v4 := Tryz.zeroValue4
  t9 := Tryz.underlying9
  a9 := Tryz.isAgg9
  z9 := Tryz.sizeOf9
  v9 := Tryz.zeroValue9
  t20 := Tryz.underlying20
  a20 := Tryz.isAgg20
  z20 := Tryz.sizeOf20
  v20 := Tryz.zeroValue20
  t22 := Tryz.underlying26
  a22 := Tryz.isAgg26
  z22 := Tryz.sizeOf26
  v22 := Tryz.zeroValue26 }
end Go.Proofs
namespace Go.Refl
open Go.RowKit Go.Proofs
set_option linter.unusedVariables false
set_option maxRecDepth 100000
theorem slices_Grow_byte_S : Sat Tryz.prog 117 slices_Grow_byte_C := grow_sat YtbhonnfinekpcaaGreat.slices_Grow_byte_lay fit5 (by decide) ⟨_, Tryz.func117, by kernel_rfl, by kernel_rfl⟩
/-! slices.Concat[[]byte,byte] -/
noncomputable def slices_Concat_byte_b : Code := bd Tryz.f108
@[reducible] def slices_Concat_byte_t0 : Tm := ⟨[], [], [(0, .sc true tYss), (3, .sc true tI), (9, .sc true tYss), (10, .sc true tI), (11, .sc true tI)], [], [0, 3], []⟩
@[reducible] def slices_Concat_byte_t2 : Tm := ⟨[(6, 960600)], [], [(6, .own 960600), (25, .sc true tYss), (26, .sc true tI), (27, .sc true tI)], [(960600, .arr 5 tY)], [6], [960600]⟩
def slices_Concat_byte_T : List (Nat × Tm) := [(0, slices_Concat_byte_t0), (2, slices_Concat_byte_t2)]
noncomputable def slices_Concat_byte_E : Env := ⟨tt0, [(117, slices_Grow_byte_C)]⟩
noncomputable def slices_Concat_byte_F : PsD [.ro tYss] → Option (RsD [.own tYs] × PsO [.ro tYss]) := fun x => evFn slices_Concat_byte_E slices_Concat_byte_T Tryz.f108 slices_Concat_byte_b [.ro tYss] [.own tYs] x
@[reducible] noncomputable def slices_Concat_byte_C : Ct := ⟨[.ro tYss], [.own tYs], slices_Concat_byte_F⟩
theorem slices_Concat_byte_h (x : PsD [.ro tYss]) (y : RsD [.own tYs] × PsO [.ro tYss]) (h : slices_Concat_byte_F x = some y) : evFn slices_Concat_byte_E slices_Concat_byte_T Tryz.f108 slices_Concat_byte_b [.ro tYss] [.own tYs] x = some y := h
theorem slices_Concat_byte_c : ∀ f c, get slices_Concat_byte_E.ct f = some c → Sat Tryz.prog f c := ct_cons slices_Grow_byte_S (ct_nil)
theorem slices_Concat_byte_S : Sat Tryz.prog 108 slices_Concat_byte_C := fn_ok2 (envOk _) slices_Concat_byte_c mixedOk Tryz.func108 (by kernel_rfl : Tryz.f108.body = some slices_Concat_byte_b) (by kernel_rfl) (by kernel_rfl) slices_Concat_byte_h
noncomputable def slices_Concat_byte_Ke  (x0 : List (List Int)) : Ex → AS → Option (RsD [.own tYs] × PsO [.ro tYss]) := endK slices_Concat_byte_E Tryz.f108 [.ro tYss] [.own tYs] (initL [.ro tYss] (x0, ()) 0).1
noncomputable def slices_Concat_byte_B0 {R : Type} : AS → (Ex → AS → Option R) → Option R := fun A K => ev slices_Concat_byte_E slices_Concat_byte_T 0 (cA (cA (cB (cA (cB (cB slices_Concat_byte_b)))))) A K
noncomputable def slices_Concat_byte_B2 {R : Type} : AS → (Ex → AS → Option R) → Option R := fun A K => ev slices_Concat_byte_E slices_Concat_byte_T 2 (cA (cA (cB (cA (cB (cB (cB (cB slices_Concat_byte_b)))))))) A K
noncomputable def slices_Concat_byte_K0  (x0 : List (List Int)) : Ex → AS → Option (RsD [.own tYs] × PsO [.ro tYss]) := kBlk 0 (kSeq (fun A K => ev slices_Concat_byte_E slices_Concat_byte_T 1000 (cB (cB (cB slices_Concat_byte_b))) A K) (slices_Concat_byte_Ke x0))
noncomputable def slices_Concat_byte_K2  (x0 : List (List Int)) : Ex → AS → Option (RsD [.own tYs] × PsO [.ro tYss]) := kBlk 2 (kSeq (fun A K => ev slices_Concat_byte_E slices_Concat_byte_T 1000 (cB (cB (cB (cB (cB slices_Concat_byte_b))))) A K) (slices_Concat_byte_Ke x0))
noncomputable def slices_Concat_byte_x0_0 (d0 : List (List Int)) (d1 : Int) : AS := ⟨[(0, .v (.one (.d true tYss d0))), (3, .v (.one (.d true tI d1)))], []⟩
noncomputable def slices_Concat_byte_x2_0 (d0 : List Int) : AS := ⟨[(6, .v (.one (.own 960600)))], [(960600, .arr 5 tY d0)]⟩
theorem slices_Concat_byte_l0 {R : Type} {K : Ex → AS → Option R} {s : slices_Concat_byte_t0.D} (n : Nat) {v : Option R} (h : iterG slices_Concat_byte_t0 slices_Concat_byte_B0 K n s = v) (hv : ∃ r, v = some r) : loopG slices_Concat_byte_t0 slices_Concat_byte_B0 K s = v := loop_eq (ev_mono _ _) n h hv
theorem slices_Concat_byte_l2 {R : Type} {K : Ex → AS → Option R} {s : slices_Concat_byte_t2.D} (n : Nat) {v : Option R} (h : iterG slices_Concat_byte_t2 slices_Concat_byte_B2 K n s = v) (hv : ∃ r, v = some r) : loopG slices_Concat_byte_t2 slices_Concat_byte_B2 K s = v := loop_eq (ev_mono _ _) n h hv
theorem slices_Concat_byte_main (x0 : List (List Int)) : slices_Concat_byte_F (x0, ()) =
 loopG slices_Concat_byte_t0 slices_Concat_byte_B0 (slices_Concat_byte_K0 x0) ((x0, ((0 : Int), (x0, ((x0.length : Int), ((0 : Int), ()))))), ()) := by kernel_rfl
theorem slices_Concat_byte_r0 {R : Type} (K : Ex → AS → Option R) (n : Nat) (t0 : List (List Int)) (t3 : Int) (t9 : List (List Int)) (t10 : Int) (t11 : Int) : iterG slices_Concat_byte_t0 slices_Concat_byte_B0 K (n + 1) ((t0, (t3, (t9, (t10, (t11, ()))))), ()) =
 brk (decide (t11 < t10))
 (ck (decide (0 ≤ t11) && decide (t11 < t9.length)) (brk (decide (IntKind.i64.wrap (t3 + ((rdD tYs t9 t11).length : Int)) < (0 : Int)))
 (none)
 (iterG slices_Concat_byte_t0 slices_Concat_byte_B0 K n ((t0, (IntKind.i64.wrap (t3 + ((rdD tYs t9 t11).length : Int)), (t9, (t10, (IntKind.i64.wrap (t11 + (1 : Int)), ()))))), ()))))
 (K (.exit 0) (slices_Concat_byte_x0_0 t0 t3)) := by kernel_rfl
theorem slices_Concat_byte_e0_0 (x0 : List (List Int)) (d0 : List (List Int)) (d1 : Int) : slices_Concat_byte_K0 x0 (.exit 0) (slices_Concat_byte_x0_0 d0 d1) =
 (slices_Grow_byte_F (([] : List Int), (d1, ()))).bind fun y24 =>
 loopG slices_Concat_byte_t2 slices_Concat_byte_B2 (slices_Concat_byte_K2 x0) ((d0, ((d0.length : Int), ((0 : Int), ()))), (y24.1.1, ())) := by kernel_rfl
theorem slices_Concat_byte_r2 {R : Type} (K : Ex → AS → Option R) (n : Nat) (t25 : List (List Int)) (t26 : Int) (t27 : Int) (a960600 : List Int) : iterG slices_Concat_byte_t2 slices_Concat_byte_B2 K (n + 1) ((t25, (t26, (t27, ()))), (a960600, ())) =
 brk (decide (t27 < t26))
 (ck (decide (0 ≤ t27) && decide (t27 < t25.length)) (ck (decide ((a960600.length + (rdD tYs t25 t27).length) * 1 ≤ big47)) (iterG slices_Concat_byte_t2 slices_Concat_byte_B2 K n ((t25, (t26, (IntKind.i64.wrap (t27 + (1 : Int)), ()))), (a960600 ++ (rdD tYs t25 t27), ())))))
 (K (.exit 2) (slices_Concat_byte_x2_0 a960600)) := by kernel_rfl
theorem slices_Concat_byte_e2_0 (x0 : List (List Int)) (d0 : List Int) : slices_Concat_byte_K2 x0 (.exit 2) (slices_Concat_byte_x2_0 d0) =
 some ((d0, ()), ((), ())) := by kernel_rfl
/-! impl.Tear -/
noncomputable def impl_Tear_b : Code := bd Tryz.f95
def impl_Tear_T : List (Nat × Tm) := []
noncomputable def impl_Tear_E : Env := ⟨tt0, [(64, impl_copySlots_C), (69, impl_MetaOk_C), (73, impl_latest_C), (107, impl_slotBytes_C), (108, slices_Concat_byte_C)]⟩
noncomputable def impl_Tear_F : PsD [.ro tSlots, .ro tMeta, .ro tI] → Option (RsD [.own tSlots] × PsO [.ro tSlots, .ro tMeta, .ro tI]) := fun x => evFn impl_Tear_E impl_Tear_T Tryz.f95 impl_Tear_b [.ro tSlots, .ro tMeta, .ro tI] [.own tSlots] x
@[reducible] noncomputable def impl_Tear_C : Ct := ⟨[.ro tSlots, .ro tMeta, .ro tI], [.own tSlots], impl_Tear_F⟩
theorem impl_Tear_h (x : PsD [.ro tSlots, .ro tMeta, .ro tI]) (y : RsD [.own tSlots] × PsO [.ro tSlots, .ro tMeta, .ro tI]) (h : impl_Tear_F x = some y) : evFn impl_Tear_E impl_Tear_T Tryz.f95 impl_Tear_b [.ro tSlots, .ro tMeta, .ro tI] [.own tSlots] x = some y := h
theorem impl_Tear_c : ∀ f c, get impl_Tear_E.ct f = some c → Sat Tryz.prog f c := ct_cons impl_copySlots_S (ct_cons impl_MetaOk_S (ct_cons impl_latest_S (ct_cons impl_slotBytes_S (ct_cons slices_Concat_byte_S (ct_nil)))))
theorem impl_Tear_S : Sat Tryz.prog 95 impl_Tear_C := fn_ok2 (envOk _) impl_Tear_c mixedOk Tryz.func95 (by kernel_rfl : Tryz.f95.body = some impl_Tear_b) (by kernel_rfl) (by kernel_rfl) impl_Tear_h
noncomputable def impl_Tear_Ke  (x0 : List Int × List Int × Unit) (x1 : List Int × List (List Int) × Bool × Bool × Bool × Int × Unit) (x2 : Int) : Ex → AS → Option (RsD [.own tSlots] × PsO [.ro tSlots, .ro tMeta, .ro tI]) := endK impl_Tear_E Tryz.f95 [.ro tSlots, .ro tMeta, .ro tI] [.own tSlots] (initL [.ro tSlots, .ro tMeta, .ro tI] (x0, (x1, (x2, ()))) 0).1
theorem impl_Tear_main (x0 : List Int × List Int × Unit) (x1 : List Int × List (List Int) × Bool × Bool × Bool × Int × Unit) (x2 : Int) : impl_Tear_F (x0, (x1, (x2, ()))) =
 (impl_copySlots_F ((x0.1, (x0.2.1, ())), ())).bind fun y13 =>
 (impl_latest_F ((y13.1.1.1, (y13.1.1.2.1, ())), ())).bind fun y16 =>
 (impl_MetaOk_F ((x1.1, (x1.2.1, (x1.2.2.1, (x1.2.2.2.1, (x1.2.2.2.2.1, (x1.2.2.2.2.2.1, ())))))), ())).bind fun y21 =>
 brk (!y21.1.1)
 (some (((y13.1.1.1, (y13.1.1.2.1, ())), ()), ((), ((), ((), ())))))
 (brk (decide (y16.1.2.1 = (1000000 : Int)))
 (some (((y13.1.1.1, (y13.1.1.2.1, ())), ()), ((), ((), ((), ())))))
 (brk y16.1.2.2.1
 (ck (decide (0 ≤ minN (maxN (0 : Int) (minN x2 (160 : Int))) (y13.1.1.2.1.length : Int)) && decide (minN (maxN (0 : Int) (minN x2 (160 : Int))) (y13.1.1.2.1.length : Int) ≤ (y13.1.1.2.1.length : Int)) && decide ((y13.1.1.2.1.length : Int) ≤ y13.1.1.2.1.length)) ((impl_slotBytes_F ((x1.1, (x1.2.1, (x1.2.2.1, (x1.2.2.2.1, (x1.2.2.2.2.1, (x1.2.2.2.2.2.1, ())))))), (IntKind.i64.wrap (y16.1.2.1 + (1 : Int)), ()))).bind fun y41 =>
 ck (decide (0 ≤ (0 : Int)) && decide ((0 : Int) ≤ maxN (0 : Int) (minN x2 (160 : Int))) && decide (maxN (0 : Int) (minN x2 (160 : Int)) ≤ y41.1.1.length)) ((slices_Concat_byte_F ([(y41.1.1.take (maxN (0 : Int) (minN x2 (160 : Int))).toNat).drop (0 : Int).toNat, (y13.1.1.2.1.take (y13.1.1.2.1.length : Int).toNat).drop (minN (maxN (0 : Int) (minN x2 (160 : Int))) (y13.1.1.2.1.length : Int)).toNat], ())).bind fun y51 =>
 some (((y13.1.1.1, (y51.1.1, ())), ()), ((), ((), ((), ())))))))
 (ck (decide (0 ≤ minN (maxN (0 : Int) (minN x2 (160 : Int))) (y13.1.1.1.length : Int)) && decide (minN (maxN (0 : Int) (minN x2 (160 : Int))) (y13.1.1.1.length : Int) ≤ (y13.1.1.1.length : Int)) && decide ((y13.1.1.1.length : Int) ≤ y13.1.1.1.length)) ((impl_slotBytes_F ((x1.1, (x1.2.1, (x1.2.2.1, (x1.2.2.2.1, (x1.2.2.2.2.1, (x1.2.2.2.2.2.1, ())))))), (IntKind.i64.wrap (y16.1.2.1 + (1 : Int)), ()))).bind fun y41 =>
 ck (decide (0 ≤ (0 : Int)) && decide ((0 : Int) ≤ maxN (0 : Int) (minN x2 (160 : Int))) && decide (maxN (0 : Int) (minN x2 (160 : Int)) ≤ y41.1.1.length)) ((slices_Concat_byte_F ([(y41.1.1.take (maxN (0 : Int) (minN x2 (160 : Int))).toNat).drop (0 : Int).toNat, (y13.1.1.1.take (y13.1.1.1.length : Int).toNat).drop (minN (maxN (0 : Int) (minN x2 (160 : Int))) (y13.1.1.1.length : Int)).toNat], ())).bind fun y51 =>
 some (((y51.1.1, (y13.1.1.2.1, ())), ()), ((), ((), ((), ()))))))))) := by kernel_rfl
/-! impl.SlotPut -/
noncomputable def impl_SlotPut_b : Code := bd Tryz.f78
def impl_SlotPut_T : List (Nat × Tm) := []
noncomputable def impl_SlotPut_E : Env := ⟨tt0, [(69, impl_MetaOk_C), (73, impl_latest_C), (95, impl_Tear_C)]⟩
noncomputable def impl_SlotPut_F : PsD [.ro tSlots, .ro tMeta] → Option (RsD [.own tSlots] × PsO [.ro tSlots, .ro tMeta]) := fun x => evFn impl_SlotPut_E impl_SlotPut_T Tryz.f78 impl_SlotPut_b [.ro tSlots, .ro tMeta] [.own tSlots] x
@[reducible] noncomputable def impl_SlotPut_C : Ct := ⟨[.ro tSlots, .ro tMeta], [.own tSlots], impl_SlotPut_F⟩
theorem impl_SlotPut_h (x : PsD [.ro tSlots, .ro tMeta]) (y : RsD [.own tSlots] × PsO [.ro tSlots, .ro tMeta]) (h : impl_SlotPut_F x = some y) : evFn impl_SlotPut_E impl_SlotPut_T Tryz.f78 impl_SlotPut_b [.ro tSlots, .ro tMeta] [.own tSlots] x = some y := h
theorem impl_SlotPut_c : ∀ f c, get impl_SlotPut_E.ct f = some c → Sat Tryz.prog f c := ct_cons impl_MetaOk_S (ct_cons impl_latest_S (ct_cons impl_Tear_S (ct_nil)))
theorem impl_SlotPut_S : Sat Tryz.prog 78 impl_SlotPut_C := fn_ok2 (envOk _) impl_SlotPut_c mixedOk Tryz.func78 (by kernel_rfl : Tryz.f78.body = some impl_SlotPut_b) (by kernel_rfl) (by kernel_rfl) impl_SlotPut_h
noncomputable def impl_SlotPut_Ke  (x0 : List Int × List Int × Unit) (x1 : List Int × List (List Int) × Bool × Bool × Bool × Int × Unit) : Ex → AS → Option (RsD [.own tSlots] × PsO [.ro tSlots, .ro tMeta]) := endK impl_SlotPut_E Tryz.f78 [.ro tSlots, .ro tMeta] [.own tSlots] (initL [.ro tSlots, .ro tMeta] (x0, (x1, ())) 0).1
theorem impl_SlotPut_main (x0 : List Int × List Int × Unit) (x1 : List Int × List (List Int) × Bool × Bool × Bool × Int × Unit) : impl_SlotPut_F (x0, (x1, ())) =
 (impl_latest_F ((x0.1, (x0.2.1, ())), ())).bind fun y11 =>
 (impl_Tear_F ((x0.1, (x0.2.1, ())), ((x1.1, (x1.2.1, (x1.2.2.1, (x1.2.2.2.1, (x1.2.2.2.2.1, (x1.2.2.2.2.2.1, ())))))), ((160 : Int), ())))).bind fun y17 =>
 (impl_MetaOk_F ((x1.1, (x1.2.1, (x1.2.2.1, (x1.2.2.2.1, (x1.2.2.2.2.1, (x1.2.2.2.2.2.1, ())))))), ())).bind fun y24 =>
 brk (!y24.1.1)
 (some (((y17.1.1.1, (y17.1.1.2.1, ())), ()), ((), ((), ()))))
 (brk (decide (y11.1.2.1 = (1000000 : Int)))
 (some (((y17.1.1.1, (y17.1.1.2.1, ())), ()), ((), ((), ()))))
 (brk y11.1.2.2.1
 (ck (decide (0 ≤ (0 : Int)) && decide ((0 : Int) ≤ (160 : Int)) && decide ((160 : Int) ≤ y17.1.1.2.1.length)) (some (((y17.1.1.1, (y17.1.1.2.1.take (160 : Int).toNat, ())), ()), ((), ((), ())))))
 (ck (decide (0 ≤ (0 : Int)) && decide ((0 : Int) ≤ (160 : Int)) && decide ((160 : Int) ≤ y17.1.1.1.length)) (some (((y17.1.1.1.take (160 : Int).toNat, (y17.1.1.2.1, ())), ()), ((), ((), ()))))))) := by kernel_rfl
/-! impl.keep -/
noncomputable def impl_keep_b : Code := bd Tryz.f50
def impl_keep_T : List (Nat × Tm) := []
noncomputable def impl_keep_E : Env := ⟨tt0, [(33, impl_NodeOk_C), (63, impl_copyMeta_C), (78, impl_SlotPut_C)]⟩
noncomputable def impl_keep_F : PsD [.mv tNode, .ro tMeta] → Option (RsD [.own tNode, .own tB] × PsO [.mv tNode, .ro tMeta]) := fun x => evFn impl_keep_E impl_keep_T Tryz.f50 impl_keep_b [.mv tNode, .ro tMeta] [.own tNode, .own tB] x
@[reducible] noncomputable def impl_keep_C : Ct := ⟨[.mv tNode, .ro tMeta], [.own tNode, .own tB], impl_keep_F⟩
theorem impl_keep_h (x : PsD [.mv tNode, .ro tMeta]) (y : RsD [.own tNode, .own tB] × PsO [.mv tNode, .ro tMeta]) (h : impl_keep_F x = some y) : evFn impl_keep_E impl_keep_T Tryz.f50 impl_keep_b [.mv tNode, .ro tMeta] [.own tNode, .own tB] x = some y := h
theorem impl_keep_c : ∀ f c, get impl_keep_E.ct f = some c → Sat Tryz.prog f c := ct_cons impl_NodeOk_S (ct_cons impl_copyMeta_S (ct_cons impl_SlotPut_S (ct_nil)))
theorem impl_keep_S : Sat Tryz.prog 50 impl_keep_C := fn_ok2 (envOk _) impl_keep_c mixedOk Tryz.func50 (by kernel_rfl : Tryz.f50.body = some impl_keep_b) (by kernel_rfl) (by kernel_rfl) impl_keep_h
noncomputable def impl_keep_Ke  (x0 : Int × Bool × Bool × List Int × (List Int × List (List Int) × Bool × Bool × Bool × Int × Unit) × (List Int × List Int × Unit) × List Bool × List (List Int) × List Bool × List Int × Unit) (x1 : List Int × List (List Int) × Bool × Bool × Bool × Int × Unit) : Ex → AS → Option (RsD [.own tNode, .own tB] × PsO [.mv tNode, .ro tMeta]) := endK impl_keep_E Tryz.f50 [.mv tNode, .ro tMeta] [.own tNode, .own tB] (initL [.mv tNode, .ro tMeta] (x0, (x1, ())) 0).1
theorem impl_keep_main (x0 : Int × Bool × Bool × List Int × (List Int × List (List Int) × Bool × Bool × Bool × Int × Unit) × (List Int × List Int × Unit) × List Bool × List (List Int) × List Bool × List Int × Unit) (x1 : List Int × List (List Int) × Bool × Bool × Bool × Int × Unit) : impl_keep_F (x0, (x1, ())) =
 (impl_copyMeta_F ((x1.1, (x1.2.1, (x1.2.2.1, (x1.2.2.2.1, (x1.2.2.2.2.1, (x1.2.2.2.2.2.1, ())))))), ())).bind fun y7 =>
 (impl_SlotPut_F ((x0.2.2.2.2.2.1.1, (x0.2.2.2.2.2.1.2.1, ())), ((x1.1, (x1.2.1, (x1.2.2.1, (x1.2.2.2.1, (x1.2.2.2.2.1, (x1.2.2.2.2.2.1, ())))))), ()))).bind fun y12 =>
 (impl_NodeOk_F ((x0.1, (x0.2.1, (x0.2.2.1, (x0.2.2.2.1, ((y7.1.1.1, (y7.1.1.2.1, (y7.1.1.2.2.1, (y7.1.1.2.2.2.1, (y7.1.1.2.2.2.2.1, (y7.1.1.2.2.2.2.2.1, ())))))), ((y12.1.1.1, (y12.1.1.2.1, ())), (x0.2.2.2.2.2.2.1, (x0.2.2.2.2.2.2.2.1, (x0.2.2.2.2.2.2.2.2.1, (x0.2.2.2.2.2.2.2.2.2.1, ())))))))))), ())).bind fun y16 =>
 some (((x0.1, (x0.2.1, (x0.2.2.1, (x0.2.2.2.1, ((y7.1.1.1, (y7.1.1.2.1, (y7.1.1.2.2.1, (y7.1.1.2.2.2.1, (y7.1.1.2.2.2.2.1, (y7.1.1.2.2.2.2.2.1, ())))))), ((y12.1.1.1, (y12.1.1.2.1, ())), (x0.2.2.2.2.2.2.1, (x0.2.2.2.2.2.2.2.1, (x0.2.2.2.2.2.2.2.2.1, (x0.2.2.2.2.2.2.2.2.2.1, ())))))))))), (y16.1.1, ())), ((), ((), ()))) := by kernel_rfl
/-! impl.Keep -/
noncomputable def impl_Keep_b : Code := bd Tryz.f18
def impl_Keep_T : List (Nat × Tm) := []
noncomputable def impl_Keep_E : Env := ⟨tt0, [(32, impl_copyNode_C), (33, impl_NodeOk_C), (50, impl_keep_C)]⟩
noncomputable def impl_Keep_F : PsD [.ro tNode, .ro tMeta] → Option (RsD [.own tNode] × PsO [.ro tNode, .ro tMeta]) := fun x => evFn impl_Keep_E impl_Keep_T Tryz.f18 impl_Keep_b [.ro tNode, .ro tMeta] [.own tNode] x
@[reducible] noncomputable def impl_Keep_C : Ct := ⟨[.ro tNode, .ro tMeta], [.own tNode], impl_Keep_F⟩
theorem impl_Keep_h (x : PsD [.ro tNode, .ro tMeta]) (y : RsD [.own tNode] × PsO [.ro tNode, .ro tMeta]) (h : impl_Keep_F x = some y) : evFn impl_Keep_E impl_Keep_T Tryz.f18 impl_Keep_b [.ro tNode, .ro tMeta] [.own tNode] x = some y := h
theorem impl_Keep_c : ∀ f c, get impl_Keep_E.ct f = some c → Sat Tryz.prog f c := ct_cons impl_copyNode_S (ct_cons impl_NodeOk_S (ct_cons impl_keep_S (ct_nil)))
theorem impl_Keep_S : Sat Tryz.prog 18 impl_Keep_C := fn_ok2 (envOk _) impl_Keep_c mixedOk Tryz.func18 (by kernel_rfl : Tryz.f18.body = some impl_Keep_b) (by kernel_rfl) (by kernel_rfl) impl_Keep_h
noncomputable def impl_Keep_Ke  (x0 : Int × Bool × Bool × List Int × (List Int × List (List Int) × Bool × Bool × Bool × Int × Unit) × (List Int × List Int × Unit) × List Bool × List (List Int) × List Bool × List Int × Unit) (x1 : List Int × List (List Int) × Bool × Bool × Bool × Int × Unit) : Ex → AS → Option (RsD [.own tNode] × PsO [.ro tNode, .ro tMeta]) := endK impl_Keep_E Tryz.f18 [.ro tNode, .ro tMeta] [.own tNode] (initL [.ro tNode, .ro tMeta] (x0, (x1, ())) 0).1
theorem impl_Keep_main (x0 : Int × Bool × Bool × List Int × (List Int × List (List Int) × Bool × Bool × Bool × Int × Unit) × (List Int × List Int × Unit) × List Bool × List (List Int) × List Bool × List Int × Unit) (x1 : List Int × List (List Int) × Bool × Bool × Bool × Int × Unit) : impl_Keep_F (x0, (x1, ())) =
 both (both ((impl_copyNode_F ((x0.1, (x0.2.1, (x0.2.2.1, (x0.2.2.2.1, ((x0.2.2.2.2.1.1, (x0.2.2.2.2.1.2.1, (x0.2.2.2.2.1.2.2.1, (x0.2.2.2.2.1.2.2.2.1, (x0.2.2.2.2.1.2.2.2.2.1, (x0.2.2.2.2.1.2.2.2.2.2.1, ())))))), ((x0.2.2.2.2.2.1.1, (x0.2.2.2.2.2.1.2.1, ())), (x0.2.2.2.2.2.2.1, (x0.2.2.2.2.2.2.2.1, (x0.2.2.2.2.2.2.2.2.1, (x0.2.2.2.2.2.2.2.2.2.1, ())))))))))), ())).bind fun y9 =>
 both (both ((impl_keep_F ((y9.1.1.1, (y9.1.1.2.1, (y9.1.1.2.2.1, (y9.1.1.2.2.2.1, ((y9.1.1.2.2.2.2.1.1, (y9.1.1.2.2.2.2.1.2.1, (y9.1.1.2.2.2.2.1.2.2.1, (y9.1.1.2.2.2.2.1.2.2.2.1, (y9.1.1.2.2.2.2.1.2.2.2.2.1, (y9.1.1.2.2.2.2.1.2.2.2.2.2.1, ())))))), ((y9.1.1.2.2.2.2.2.1.1, (y9.1.1.2.2.2.2.2.1.2.1, ())), (y9.1.1.2.2.2.2.2.2.1, (y9.1.1.2.2.2.2.2.2.2.1, (y9.1.1.2.2.2.2.2.2.2.2.1, (y9.1.1.2.2.2.2.2.2.2.2.2.1, ())))))))))), ((x1.1, (x1.2.1, (x1.2.2.1, (x1.2.2.2.1, (x1.2.2.2.2.1, (x1.2.2.2.2.2.1, ())))))), ()))).bind fun y11 =>
 brk (!y11.1.2.1)
 ((impl_copyNode_F ((x0.1, (x0.2.1, (x0.2.2.1, (x0.2.2.2.1, ((x0.2.2.2.2.1.1, (x0.2.2.2.2.1.2.1, (x0.2.2.2.2.1.2.2.1, (x0.2.2.2.2.1.2.2.2.1, (x0.2.2.2.2.1.2.2.2.2.1, (x0.2.2.2.2.1.2.2.2.2.2.1, ())))))), ((x0.2.2.2.2.2.1.1, (x0.2.2.2.2.2.1.2.1, ())), (x0.2.2.2.2.2.2.1, (x0.2.2.2.2.2.2.2.1, (x0.2.2.2.2.2.2.2.2.1, (x0.2.2.2.2.2.2.2.2.2.1, ())))))))))), ())).bind fun y22 =>
 some (((y22.1.1.1, (y22.1.1.2.1, (y22.1.1.2.2.1, (y22.1.1.2.2.2.1, ((y22.1.1.2.2.2.2.1.1, (y22.1.1.2.2.2.2.1.2.1, (y22.1.1.2.2.2.2.1.2.2.1, (y22.1.1.2.2.2.2.1.2.2.2.1, (y22.1.1.2.2.2.2.1.2.2.2.2.1, (y22.1.1.2.2.2.2.1.2.2.2.2.2.1, ())))))), ((y22.1.1.2.2.2.2.2.1.1, (y22.1.1.2.2.2.2.2.1.2.1, ())), (y22.1.1.2.2.2.2.2.2.1, (y22.1.1.2.2.2.2.2.2.2.1, (y22.1.1.2.2.2.2.2.2.2.2.1, (y22.1.1.2.2.2.2.2.2.2.2.2.1, ())))))))))), ()), ((), ((), ()))))
 ((impl_NodeOk_F ((x0.1, (x0.2.1, (x0.2.2.1, (x0.2.2.2.1, ((x0.2.2.2.2.1.1, (x0.2.2.2.2.1.2.1, (x0.2.2.2.2.1.2.2.1, (x0.2.2.2.2.1.2.2.2.1, (x0.2.2.2.2.1.2.2.2.2.1, (x0.2.2.2.2.1.2.2.2.2.2.1, ())))))), ((x0.2.2.2.2.2.1.1, (x0.2.2.2.2.2.1.2.1, ())), (x0.2.2.2.2.2.2.1, (x0.2.2.2.2.2.2.2.1, (x0.2.2.2.2.2.2.2.2.1, (x0.2.2.2.2.2.2.2.2.2.1, ())))))))))), ())).bind fun y18 =>
 brk (!y18.1.1)
 ((impl_copyNode_F ((x0.1, (x0.2.1, (x0.2.2.1, (x0.2.2.2.1, ((x0.2.2.2.2.1.1, (x0.2.2.2.2.1.2.1, (x0.2.2.2.2.1.2.2.1, (x0.2.2.2.2.1.2.2.2.1, (x0.2.2.2.2.1.2.2.2.2.1, (x0.2.2.2.2.1.2.2.2.2.2.1, ())))))), ((x0.2.2.2.2.2.1.1, (x0.2.2.2.2.2.1.2.1, ())), (x0.2.2.2.2.2.2.1, (x0.2.2.2.2.2.2.2.1, (x0.2.2.2.2.2.2.2.2.1, (x0.2.2.2.2.2.2.2.2.2.1, ())))))))))), ())).bind fun y22 =>
 some (((y22.1.1.1, (y22.1.1.2.1, (y22.1.1.2.2.1, (y22.1.1.2.2.2.1, ((y22.1.1.2.2.2.2.1.1, (y22.1.1.2.2.2.2.1.2.1, (y22.1.1.2.2.2.2.1.2.2.1, (y22.1.1.2.2.2.2.1.2.2.2.1, (y22.1.1.2.2.2.2.1.2.2.2.2.1, (y22.1.1.2.2.2.2.1.2.2.2.2.2.1, ())))))), ((y22.1.1.2.2.2.2.2.1.1, (y22.1.1.2.2.2.2.2.1.2.1, ())), (y22.1.1.2.2.2.2.2.2.1, (y22.1.1.2.2.2.2.2.2.2.1, (y22.1.1.2.2.2.2.2.2.2.2.1, (y22.1.1.2.2.2.2.2.2.2.2.2.1, ())))))))))), ()), ((), ((), ()))))
 (some (((y11.1.1.1, (y11.1.1.2.1, (y11.1.1.2.2.1, (y11.1.1.2.2.2.1, ((y11.1.1.2.2.2.2.1.1, (y11.1.1.2.2.2.2.1.2.1, (y11.1.1.2.2.2.2.1.2.2.1, (y11.1.1.2.2.2.2.1.2.2.2.1, (y11.1.1.2.2.2.2.1.2.2.2.2.1, (y11.1.1.2.2.2.2.1.2.2.2.2.2.1, ())))))), ((y11.1.1.2.2.2.2.2.1.1, (y11.1.1.2.2.2.2.2.1.2.1, ())), (y11.1.1.2.2.2.2.2.2.1, (y11.1.1.2.2.2.2.2.2.2.1, (y11.1.1.2.2.2.2.2.2.2.2.1, (y11.1.1.2.2.2.2.2.2.2.2.2.1, ())))))))))), ()), ((), ((), ()))))))
 ((impl_keep_F ((y9.1.1.1, (y9.1.1.2.1, (y9.1.1.2.2.1, (y9.1.1.2.2.2.1, ((y9.1.1.2.2.2.2.1.1, (y9.1.1.2.2.2.2.1.2.1, (y9.1.1.2.2.2.2.1.2.2.1, (y9.1.1.2.2.2.2.1.2.2.2.1, (y9.1.1.2.2.2.2.1.2.2.2.2.1, (y9.1.1.2.2.2.2.1.2.2.2.2.2.1, ())))))), ((y9.1.1.2.2.2.2.2.1.1, (y9.1.1.2.2.2.2.2.1.2.1, ())), (y9.1.1.2.2.2.2.2.2.1, (y9.1.1.2.2.2.2.2.2.2.1, (y9.1.1.2.2.2.2.2.2.2.2.1, (y9.1.1.2.2.2.2.2.2.2.2.2.1, ())))))))))), ((x1.1, (x1.2.1, (x1.2.2.1, (x1.2.2.2.1, (x1.2.2.2.2.1, (x1.2.2.2.2.2.1, ())))))), ()))).bind fun y11 =>
 brk (!y11.1.2.1)
 ((impl_copyNode_F ((x0.1, (x0.2.1, (x0.2.2.1, (x0.2.2.2.1, ((x0.2.2.2.2.1.1, (x0.2.2.2.2.1.2.1, (x0.2.2.2.2.1.2.2.1, (x0.2.2.2.2.1.2.2.2.1, (x0.2.2.2.2.1.2.2.2.2.1, (x0.2.2.2.2.1.2.2.2.2.2.1, ())))))), ((x0.2.2.2.2.2.1.1, (x0.2.2.2.2.2.1.2.1, ())), (x0.2.2.2.2.2.2.1, (x0.2.2.2.2.2.2.2.1, (x0.2.2.2.2.2.2.2.2.1, (x0.2.2.2.2.2.2.2.2.2.1, ())))))))))), ())).bind fun y22 =>
 some (((y22.1.1.1, (y22.1.1.2.1, (y22.1.1.2.2.1, (y22.1.1.2.2.2.1, ((y22.1.1.2.2.2.2.1.1, (y22.1.1.2.2.2.2.1.2.1, (y22.1.1.2.2.2.2.1.2.2.1, (y22.1.1.2.2.2.2.1.2.2.2.1, (y22.1.1.2.2.2.2.1.2.2.2.2.1, (y22.1.1.2.2.2.2.1.2.2.2.2.2.1, ())))))), ((y22.1.1.2.2.2.2.2.1.1, (y22.1.1.2.2.2.2.2.1.2.1, ())), (y22.1.1.2.2.2.2.2.2.1, (y22.1.1.2.2.2.2.2.2.2.1, (y22.1.1.2.2.2.2.2.2.2.2.1, (y22.1.1.2.2.2.2.2.2.2.2.2.1, ())))))))))), ()), ((), ((), ()))))
 ((impl_NodeOk_F ((x0.1, (x0.2.1, (x0.2.2.1, (x0.2.2.2.1, ((x0.2.2.2.2.1.1, (x0.2.2.2.2.1.2.1, (x0.2.2.2.2.1.2.2.1, (x0.2.2.2.2.1.2.2.2.1, (x0.2.2.2.2.1.2.2.2.2.1, (x0.2.2.2.2.1.2.2.2.2.2.1, ())))))), ((x0.2.2.2.2.2.1.1, (x0.2.2.2.2.2.1.2.1, ())), (x0.2.2.2.2.2.2.1, (x0.2.2.2.2.2.2.2.1, (x0.2.2.2.2.2.2.2.2.1, (x0.2.2.2.2.2.2.2.2.2.1, ())))))))))), ())).bind fun y18 =>
 brk (!y18.1.1)
 ((impl_copyNode_F ((x0.1, (x0.2.1, (x0.2.2.1, (x0.2.2.2.1, ((x0.2.2.2.2.1.1, (x0.2.2.2.2.1.2.1, (x0.2.2.2.2.1.2.2.1, (x0.2.2.2.2.1.2.2.2.1, (x0.2.2.2.2.1.2.2.2.2.1, (x0.2.2.2.2.1.2.2.2.2.2.1, ())))))), ((x0.2.2.2.2.2.1.1, (x0.2.2.2.2.2.1.2.1, ())), (x0.2.2.2.2.2.2.1, (x0.2.2.2.2.2.2.2.1, (x0.2.2.2.2.2.2.2.2.1, (x0.2.2.2.2.2.2.2.2.2.1, ())))))))))), ())).bind fun y22 =>
 some (((y22.1.1.1, (y22.1.1.2.1, (y22.1.1.2.2.1, (y22.1.1.2.2.2.1, ((y22.1.1.2.2.2.2.1.1, (y22.1.1.2.2.2.2.1.2.1, (y22.1.1.2.2.2.2.1.2.2.1, (y22.1.1.2.2.2.2.1.2.2.2.1, (y22.1.1.2.2.2.2.1.2.2.2.2.1, (y22.1.1.2.2.2.2.1.2.2.2.2.2.1, ())))))), ((y22.1.1.2.2.2.2.2.1.1, (y22.1.1.2.2.2.2.2.1.2.1, ())), (y22.1.1.2.2.2.2.2.2.1, (y22.1.1.2.2.2.2.2.2.2.1, (y22.1.1.2.2.2.2.2.2.2.2.1, (y22.1.1.2.2.2.2.2.2.2.2.2.1, ())))))))))), ()), ((), ((), ()))))
 (some (((y11.1.1.1, (y11.1.1.2.1, (y11.1.1.2.2.1, (y11.1.1.2.2.2.1, ((y11.1.1.2.2.2.2.1.1, (y11.1.1.2.2.2.2.1.2.1, (y11.1.1.2.2.2.2.1.2.2.1, (y11.1.1.2.2.2.2.1.2.2.2.1, (y11.1.1.2.2.2.2.1.2.2.2.2.1, (y11.1.1.2.2.2.2.1.2.2.2.2.2.1, ())))))), ((y11.1.1.2.2.2.2.2.1.1, (y11.1.1.2.2.2.2.2.1.2.1, ())), (y11.1.1.2.2.2.2.2.2.1, (y11.1.1.2.2.2.2.2.2.2.1, (y11.1.1.2.2.2.2.2.2.2.2.1, (y11.1.1.2.2.2.2.2.2.2.2.2.1, ())))))))))), ()), ((), ((), ())))))))
 ((impl_keep_F ((y9.1.1.1, (y9.1.1.2.1, (y9.1.1.2.2.1, (y9.1.1.2.2.2.1, ((y9.1.1.2.2.2.2.1.1, (y9.1.1.2.2.2.2.1.2.1, (y9.1.1.2.2.2.2.1.2.2.1, (y9.1.1.2.2.2.2.1.2.2.2.1, (y9.1.1.2.2.2.2.1.2.2.2.2.1, (y9.1.1.2.2.2.2.1.2.2.2.2.2.1, ())))))), ((y9.1.1.2.2.2.2.2.1.1, (y9.1.1.2.2.2.2.2.1.2.1, ())), (y9.1.1.2.2.2.2.2.2.1, (y9.1.1.2.2.2.2.2.2.2.1, (y9.1.1.2.2.2.2.2.2.2.2.1, (y9.1.1.2.2.2.2.2.2.2.2.2.1, ())))))))))), ((x1.1, (x1.2.1, (x1.2.2.1, (x1.2.2.2.1, (x1.2.2.2.2.1, (x1.2.2.2.2.2.1, ())))))), ()))).bind fun y11 =>
 brk (!y11.1.2.1)
 ((impl_copyNode_F ((x0.1, (x0.2.1, (x0.2.2.1, (x0.2.2.2.1, ((x0.2.2.2.2.1.1, (x0.2.2.2.2.1.2.1, (x0.2.2.2.2.1.2.2.1, (x0.2.2.2.2.1.2.2.2.1, (x0.2.2.2.2.1.2.2.2.2.1, (x0.2.2.2.2.1.2.2.2.2.2.1, ())))))), ((x0.2.2.2.2.2.1.1, (x0.2.2.2.2.2.1.2.1, ())), (x0.2.2.2.2.2.2.1, (x0.2.2.2.2.2.2.2.1, (x0.2.2.2.2.2.2.2.2.1, (x0.2.2.2.2.2.2.2.2.2.1, ())))))))))), ())).bind fun y22 =>
 some (((y22.1.1.1, (y22.1.1.2.1, (y22.1.1.2.2.1, (y22.1.1.2.2.2.1, ((y22.1.1.2.2.2.2.1.1, (y22.1.1.2.2.2.2.1.2.1, (y22.1.1.2.2.2.2.1.2.2.1, (y22.1.1.2.2.2.2.1.2.2.2.1, (y22.1.1.2.2.2.2.1.2.2.2.2.1, (y22.1.1.2.2.2.2.1.2.2.2.2.2.1, ())))))), ((y22.1.1.2.2.2.2.2.1.1, (y22.1.1.2.2.2.2.2.1.2.1, ())), (y22.1.1.2.2.2.2.2.2.1, (y22.1.1.2.2.2.2.2.2.2.1, (y22.1.1.2.2.2.2.2.2.2.2.1, (y22.1.1.2.2.2.2.2.2.2.2.2.1, ())))))))))), ()), ((), ((), ()))))
 ((impl_NodeOk_F ((x0.1, (x0.2.1, (x0.2.2.1, (x0.2.2.2.1, ((x0.2.2.2.2.1.1, (x0.2.2.2.2.1.2.1, (x0.2.2.2.2.1.2.2.1, (x0.2.2.2.2.1.2.2.2.1, (x0.2.2.2.2.1.2.2.2.2.1, (x0.2.2.2.2.1.2.2.2.2.2.1, ())))))), ((x0.2.2.2.2.2.1.1, (x0.2.2.2.2.2.1.2.1, ())), (x0.2.2.2.2.2.2.1, (x0.2.2.2.2.2.2.2.1, (x0.2.2.2.2.2.2.2.2.1, (x0.2.2.2.2.2.2.2.2.2.1, ())))))))))), ())).bind fun y18 =>
 brk (!y18.1.1)
 ((impl_copyNode_F ((x0.1, (x0.2.1, (x0.2.2.1, (x0.2.2.2.1, ((x0.2.2.2.2.1.1, (x0.2.2.2.2.1.2.1, (x0.2.2.2.2.1.2.2.1, (x0.2.2.2.2.1.2.2.2.1, (x0.2.2.2.2.1.2.2.2.2.1, (x0.2.2.2.2.1.2.2.2.2.2.1, ())))))), ((x0.2.2.2.2.2.1.1, (x0.2.2.2.2.2.1.2.1, ())), (x0.2.2.2.2.2.2.1, (x0.2.2.2.2.2.2.2.1, (x0.2.2.2.2.2.2.2.2.1, (x0.2.2.2.2.2.2.2.2.2.1, ())))))))))), ())).bind fun y22 =>
 some (((y22.1.1.1, (y22.1.1.2.1, (y22.1.1.2.2.1, (y22.1.1.2.2.2.1, ((y22.1.1.2.2.2.2.1.1, (y22.1.1.2.2.2.2.1.2.1, (y22.1.1.2.2.2.2.1.2.2.1, (y22.1.1.2.2.2.2.1.2.2.2.1, (y22.1.1.2.2.2.2.1.2.2.2.2.1, (y22.1.1.2.2.2.2.1.2.2.2.2.2.1, ())))))), ((y22.1.1.2.2.2.2.2.1.1, (y22.1.1.2.2.2.2.2.1.2.1, ())), (y22.1.1.2.2.2.2.2.2.1, (y22.1.1.2.2.2.2.2.2.2.1, (y22.1.1.2.2.2.2.2.2.2.2.1, (y22.1.1.2.2.2.2.2.2.2.2.2.1, ())))))))))), ()), ((), ((), ()))))
 (some (((y11.1.1.1, (y11.1.1.2.1, (y11.1.1.2.2.1, (y11.1.1.2.2.2.1, ((y11.1.1.2.2.2.2.1.1, (y11.1.1.2.2.2.2.1.2.1, (y11.1.1.2.2.2.2.1.2.2.1, (y11.1.1.2.2.2.2.1.2.2.2.1, (y11.1.1.2.2.2.2.1.2.2.2.2.1, (y11.1.1.2.2.2.2.1.2.2.2.2.2.1, ())))))), ((y11.1.1.2.2.2.2.2.1.1, (y11.1.1.2.2.2.2.2.1.2.1, ())), (y11.1.1.2.2.2.2.2.2.1, (y11.1.1.2.2.2.2.2.2.2.1, (y11.1.1.2.2.2.2.2.2.2.2.1, (y11.1.1.2.2.2.2.2.2.2.2.2.1, ())))))))))), ()), ((), ((), ())))))))
 (both (both ((impl_copyNode_F ((x0.1, (x0.2.1, (x0.2.2.1, (x0.2.2.2.1, ((x0.2.2.2.2.1.1, (x0.2.2.2.2.1.2.1, (x0.2.2.2.2.1.2.2.1, (x0.2.2.2.2.1.2.2.2.1, (x0.2.2.2.2.1.2.2.2.2.1, (x0.2.2.2.2.1.2.2.2.2.2.1, ())))))), ((x0.2.2.2.2.2.1.1, (x0.2.2.2.2.2.1.2.1, ())), (x0.2.2.2.2.2.2.1, (x0.2.2.2.2.2.2.2.1, (x0.2.2.2.2.2.2.2.2.1, (x0.2.2.2.2.2.2.2.2.2.1, ())))))))))), ())).bind fun y9 =>
 both ((impl_keep_F ((y9.1.1.1, (y9.1.1.2.1, (y9.1.1.2.2.1, (y9.1.1.2.2.2.1, ((y9.1.1.2.2.2.2.1.1, (y9.1.1.2.2.2.2.1.2.1, (y9.1.1.2.2.2.2.1.2.2.1, (y9.1.1.2.2.2.2.1.2.2.2.1, (y9.1.1.2.2.2.2.1.2.2.2.2.1, (y9.1.1.2.2.2.2.1.2.2.2.2.2.1, ())))))), ((y9.1.1.2.2.2.2.2.1.1, (y9.1.1.2.2.2.2.2.1.2.1, ())), (y9.1.1.2.2.2.2.2.2.1, (y9.1.1.2.2.2.2.2.2.2.1, (y9.1.1.2.2.2.2.2.2.2.2.1, (y9.1.1.2.2.2.2.2.2.2.2.2.1, ())))))))))), ((x1.1, (x1.2.1, (x1.2.2.1, (x1.2.2.2.1, (x1.2.2.2.2.1, (x1.2.2.2.2.2.1, ())))))), ()))).bind fun y11 =>
 brk (!y11.1.2.1)
 ((impl_copyNode_F ((x0.1, (x0.2.1, (x0.2.2.1, (x0.2.2.2.1, ((x0.2.2.2.2.1.1, (x0.2.2.2.2.1.2.1, (x0.2.2.2.2.1.2.2.1, (x0.2.2.2.2.1.2.2.2.1, (x0.2.2.2.2.1.2.2.2.2.1, (x0.2.2.2.2.1.2.2.2.2.2.1, ())))))), ((x0.2.2.2.2.2.1.1, (x0.2.2.2.2.2.1.2.1, ())), (x0.2.2.2.2.2.2.1, (x0.2.2.2.2.2.2.2.1, (x0.2.2.2.2.2.2.2.2.1, (x0.2.2.2.2.2.2.2.2.2.1, ())))))))))), ())).bind fun y22 =>
 some (((y22.1.1.1, (y22.1.1.2.1, (y22.1.1.2.2.1, (y22.1.1.2.2.2.1, ((y22.1.1.2.2.2.2.1.1, (y22.1.1.2.2.2.2.1.2.1, (y22.1.1.2.2.2.2.1.2.2.1, (y22.1.1.2.2.2.2.1.2.2.2.1, (y22.1.1.2.2.2.2.1.2.2.2.2.1, (y22.1.1.2.2.2.2.1.2.2.2.2.2.1, ())))))), ((y22.1.1.2.2.2.2.2.1.1, (y22.1.1.2.2.2.2.2.1.2.1, ())), (y22.1.1.2.2.2.2.2.2.1, (y22.1.1.2.2.2.2.2.2.2.1, (y22.1.1.2.2.2.2.2.2.2.2.1, (y22.1.1.2.2.2.2.2.2.2.2.2.1, ())))))))))), ()), ((), ((), ()))))
 ((impl_NodeOk_F ((x0.1, (x0.2.1, (x0.2.2.1, (x0.2.2.2.1, ((x0.2.2.2.2.1.1, (x0.2.2.2.2.1.2.1, (x0.2.2.2.2.1.2.2.1, (x0.2.2.2.2.1.2.2.2.1, (x0.2.2.2.2.1.2.2.2.2.1, (x0.2.2.2.2.1.2.2.2.2.2.1, ())))))), ((x0.2.2.2.2.2.1.1, (x0.2.2.2.2.2.1.2.1, ())), (x0.2.2.2.2.2.2.1, (x0.2.2.2.2.2.2.2.1, (x0.2.2.2.2.2.2.2.2.1, (x0.2.2.2.2.2.2.2.2.2.1, ())))))))))), ())).bind fun y18 =>
 brk (!y18.1.1)
 ((impl_copyNode_F ((x0.1, (x0.2.1, (x0.2.2.1, (x0.2.2.2.1, ((x0.2.2.2.2.1.1, (x0.2.2.2.2.1.2.1, (x0.2.2.2.2.1.2.2.1, (x0.2.2.2.2.1.2.2.2.1, (x0.2.2.2.2.1.2.2.2.2.1, (x0.2.2.2.2.1.2.2.2.2.2.1, ())))))), ((x0.2.2.2.2.2.1.1, (x0.2.2.2.2.2.1.2.1, ())), (x0.2.2.2.2.2.2.1, (x0.2.2.2.2.2.2.2.1, (x0.2.2.2.2.2.2.2.2.1, (x0.2.2.2.2.2.2.2.2.2.1, ())))))))))), ())).bind fun y22 =>
 some (((y22.1.1.1, (y22.1.1.2.1, (y22.1.1.2.2.1, (y22.1.1.2.2.2.1, ((y22.1.1.2.2.2.2.1.1, (y22.1.1.2.2.2.2.1.2.1, (y22.1.1.2.2.2.2.1.2.2.1, (y22.1.1.2.2.2.2.1.2.2.2.1, (y22.1.1.2.2.2.2.1.2.2.2.2.1, (y22.1.1.2.2.2.2.1.2.2.2.2.2.1, ())))))), ((y22.1.1.2.2.2.2.2.1.1, (y22.1.1.2.2.2.2.2.1.2.1, ())), (y22.1.1.2.2.2.2.2.2.1, (y22.1.1.2.2.2.2.2.2.2.1, (y22.1.1.2.2.2.2.2.2.2.2.1, (y22.1.1.2.2.2.2.2.2.2.2.2.1, ())))))))))), ()), ((), ((), ()))))
 (some (((y11.1.1.1, (y11.1.1.2.1, (y11.1.1.2.2.1, (y11.1.1.2.2.2.1, ((y11.1.1.2.2.2.2.1.1, (y11.1.1.2.2.2.2.1.2.1, (y11.1.1.2.2.2.2.1.2.2.1, (y11.1.1.2.2.2.2.1.2.2.2.1, (y11.1.1.2.2.2.2.1.2.2.2.2.1, (y11.1.1.2.2.2.2.1.2.2.2.2.2.1, ())))))), ((y11.1.1.2.2.2.2.2.1.1, (y11.1.1.2.2.2.2.2.1.2.1, ())), (y11.1.1.2.2.2.2.2.2.1, (y11.1.1.2.2.2.2.2.2.2.1, (y11.1.1.2.2.2.2.2.2.2.2.1, (y11.1.1.2.2.2.2.2.2.2.2.2.1, ())))))))))), ()), ((), ((), ()))))))
 ((impl_keep_F ((y9.1.1.1, (y9.1.1.2.1, (y9.1.1.2.2.1, (y9.1.1.2.2.2.1, ((y9.1.1.2.2.2.2.1.1, (y9.1.1.2.2.2.2.1.2.1, (y9.1.1.2.2.2.2.1.2.2.1, (y9.1.1.2.2.2.2.1.2.2.2.1, (y9.1.1.2.2.2.2.1.2.2.2.2.1, (y9.1.1.2.2.2.2.1.2.2.2.2.2.1, ())))))), ((y9.1.1.2.2.2.2.2.1.1, (y9.1.1.2.2.2.2.2.1.2.1, ())), (y9.1.1.2.2.2.2.2.2.1, (y9.1.1.2.2.2.2.2.2.2.1, (y9.1.1.2.2.2.2.2.2.2.2.1, (y9.1.1.2.2.2.2.2.2.2.2.2.1, ())))))))))), ((x1.1, (x1.2.1, (x1.2.2.1, (x1.2.2.2.1, (x1.2.2.2.2.1, (x1.2.2.2.2.2.1, ())))))), ()))).bind fun y11 =>
 brk (!y11.1.2.1)
 ((impl_copyNode_F ((x0.1, (x0.2.1, (x0.2.2.1, (x0.2.2.2.1, ((x0.2.2.2.2.1.1, (x0.2.2.2.2.1.2.1, (x0.2.2.2.2.1.2.2.1, (x0.2.2.2.2.1.2.2.2.1, (x0.2.2.2.2.1.2.2.2.2.1, (x0.2.2.2.2.1.2.2.2.2.2.1, ())))))), ((x0.2.2.2.2.2.1.1, (x0.2.2.2.2.2.1.2.1, ())), (x0.2.2.2.2.2.2.1, (x0.2.2.2.2.2.2.2.1, (x0.2.2.2.2.2.2.2.2.1, (x0.2.2.2.2.2.2.2.2.2.1, ())))))))))), ())).bind fun y22 =>
 some (((y22.1.1.1, (y22.1.1.2.1, (y22.1.1.2.2.1, (y22.1.1.2.2.2.1, ((y22.1.1.2.2.2.2.1.1, (y22.1.1.2.2.2.2.1.2.1, (y22.1.1.2.2.2.2.1.2.2.1, (y22.1.1.2.2.2.2.1.2.2.2.1, (y22.1.1.2.2.2.2.1.2.2.2.2.1, (y22.1.1.2.2.2.2.1.2.2.2.2.2.1, ())))))), ((y22.1.1.2.2.2.2.2.1.1, (y22.1.1.2.2.2.2.2.1.2.1, ())), (y22.1.1.2.2.2.2.2.2.1, (y22.1.1.2.2.2.2.2.2.2.1, (y22.1.1.2.2.2.2.2.2.2.2.1, (y22.1.1.2.2.2.2.2.2.2.2.2.1, ())))))))))), ()), ((), ((), ()))))
 ((impl_NodeOk_F ((x0.1, (x0.2.1, (x0.2.2.1, (x0.2.2.2.1, ((x0.2.2.2.2.1.1, (x0.2.2.2.2.1.2.1, (x0.2.2.2.2.1.2.2.1, (x0.2.2.2.2.1.2.2.2.1, (x0.2.2.2.2.1.2.2.2.2.1, (x0.2.2.2.2.1.2.2.2.2.2.1, ())))))), ((x0.2.2.2.2.2.1.1, (x0.2.2.2.2.2.1.2.1, ())), (x0.2.2.2.2.2.2.1, (x0.2.2.2.2.2.2.2.1, (x0.2.2.2.2.2.2.2.2.1, (x0.2.2.2.2.2.2.2.2.2.1, ())))))))))), ())).bind fun y18 =>
 brk (!y18.1.1)
 ((impl_copyNode_F ((x0.1, (x0.2.1, (x0.2.2.1, (x0.2.2.2.1, ((x0.2.2.2.2.1.1, (x0.2.2.2.2.1.2.1, (x0.2.2.2.2.1.2.2.1, (x0.2.2.2.2.1.2.2.2.1, (x0.2.2.2.2.1.2.2.2.2.1, (x0.2.2.2.2.1.2.2.2.2.2.1, ())))))), ((x0.2.2.2.2.2.1.1, (x0.2.2.2.2.2.1.2.1, ())), (x0.2.2.2.2.2.2.1, (x0.2.2.2.2.2.2.2.1, (x0.2.2.2.2.2.2.2.2.1, (x0.2.2.2.2.2.2.2.2.2.1, ())))))))))), ())).bind fun y22 =>
 some (((y22.1.1.1, (y22.1.1.2.1, (y22.1.1.2.2.1, (y22.1.1.2.2.2.1, ((y22.1.1.2.2.2.2.1.1, (y22.1.1.2.2.2.2.1.2.1, (y22.1.1.2.2.2.2.1.2.2.1, (y22.1.1.2.2.2.2.1.2.2.2.1, (y22.1.1.2.2.2.2.1.2.2.2.2.1, (y22.1.1.2.2.2.2.1.2.2.2.2.2.1, ())))))), ((y22.1.1.2.2.2.2.2.1.1, (y22.1.1.2.2.2.2.2.1.2.1, ())), (y22.1.1.2.2.2.2.2.2.1, (y22.1.1.2.2.2.2.2.2.2.1, (y22.1.1.2.2.2.2.2.2.2.2.1, (y22.1.1.2.2.2.2.2.2.2.2.2.1, ())))))))))), ()), ((), ((), ()))))
 (some (((y11.1.1.1, (y11.1.1.2.1, (y11.1.1.2.2.1, (y11.1.1.2.2.2.1, ((y11.1.1.2.2.2.2.1.1, (y11.1.1.2.2.2.2.1.2.1, (y11.1.1.2.2.2.2.1.2.2.1, (y11.1.1.2.2.2.2.1.2.2.2.1, (y11.1.1.2.2.2.2.1.2.2.2.2.1, (y11.1.1.2.2.2.2.1.2.2.2.2.2.1, ())))))), ((y11.1.1.2.2.2.2.2.1.1, (y11.1.1.2.2.2.2.2.1.2.1, ())), (y11.1.1.2.2.2.2.2.2.1, (y11.1.1.2.2.2.2.2.2.2.1, (y11.1.1.2.2.2.2.2.2.2.2.1, (y11.1.1.2.2.2.2.2.2.2.2.2.1, ())))))))))), ()), ((), ((), ())))))))
 ((impl_copyNode_F ((x0.1, (x0.2.1, (x0.2.2.1, (x0.2.2.2.1, ((x0.2.2.2.2.1.1, (x0.2.2.2.2.1.2.1, (x0.2.2.2.2.1.2.2.1, (x0.2.2.2.2.1.2.2.2.1, (x0.2.2.2.2.1.2.2.2.2.1, (x0.2.2.2.2.1.2.2.2.2.2.1, ())))))), ((x0.2.2.2.2.2.1.1, (x0.2.2.2.2.2.1.2.1, ())), (x0.2.2.2.2.2.2.1, (x0.2.2.2.2.2.2.2.1, (x0.2.2.2.2.2.2.2.2.1, (x0.2.2.2.2.2.2.2.2.2.1, ())))))))))), ())).bind fun y9 =>
 (impl_keep_F ((y9.1.1.1, (y9.1.1.2.1, (y9.1.1.2.2.1, (y9.1.1.2.2.2.1, ((y9.1.1.2.2.2.2.1.1, (y9.1.1.2.2.2.2.1.2.1, (y9.1.1.2.2.2.2.1.2.2.1, (y9.1.1.2.2.2.2.1.2.2.2.1, (y9.1.1.2.2.2.2.1.2.2.2.2.1, (y9.1.1.2.2.2.2.1.2.2.2.2.2.1, ())))))), ((y9.1.1.2.2.2.2.2.1.1, (y9.1.1.2.2.2.2.2.1.2.1, ())), (y9.1.1.2.2.2.2.2.2.1, (y9.1.1.2.2.2.2.2.2.2.1, (y9.1.1.2.2.2.2.2.2.2.2.1, (y9.1.1.2.2.2.2.2.2.2.2.2.1, ())))))))))), ((x1.1, (x1.2.1, (x1.2.2.1, (x1.2.2.2.1, (x1.2.2.2.2.1, (x1.2.2.2.2.2.1, ())))))), ()))).bind fun y11 =>
 brk (!y11.1.2.1)
 ((impl_copyNode_F ((x0.1, (x0.2.1, (x0.2.2.1, (x0.2.2.2.1, ((x0.2.2.2.2.1.1, (x0.2.2.2.2.1.2.1, (x0.2.2.2.2.1.2.2.1, (x0.2.2.2.2.1.2.2.2.1, (x0.2.2.2.2.1.2.2.2.2.1, (x0.2.2.2.2.1.2.2.2.2.2.1, ())))))), ((x0.2.2.2.2.2.1.1, (x0.2.2.2.2.2.1.2.1, ())), (x0.2.2.2.2.2.2.1, (x0.2.2.2.2.2.2.2.1, (x0.2.2.2.2.2.2.2.2.1, (x0.2.2.2.2.2.2.2.2.2.1, ())))))))))), ())).bind fun y22 =>
 some (((y22.1.1.1, (y22.1.1.2.1, (y22.1.1.2.2.1, (y22.1.1.2.2.2.1, ((y22.1.1.2.2.2.2.1.1, (y22.1.1.2.2.2.2.1.2.1, (y22.1.1.2.2.2.2.1.2.2.1, (y22.1.1.2.2.2.2.1.2.2.2.1, (y22.1.1.2.2.2.2.1.2.2.2.2.1, (y22.1.1.2.2.2.2.1.2.2.2.2.2.1, ())))))), ((y22.1.1.2.2.2.2.2.1.1, (y22.1.1.2.2.2.2.2.1.2.1, ())), (y22.1.1.2.2.2.2.2.2.1, (y22.1.1.2.2.2.2.2.2.2.1, (y22.1.1.2.2.2.2.2.2.2.2.1, (y22.1.1.2.2.2.2.2.2.2.2.2.1, ())))))))))), ()), ((), ((), ()))))
 ((impl_NodeOk_F ((x0.1, (x0.2.1, (x0.2.2.1, (x0.2.2.2.1, ((x0.2.2.2.2.1.1, (x0.2.2.2.2.1.2.1, (x0.2.2.2.2.1.2.2.1, (x0.2.2.2.2.1.2.2.2.1, (x0.2.2.2.2.1.2.2.2.2.1, (x0.2.2.2.2.1.2.2.2.2.2.1, ())))))), ((x0.2.2.2.2.2.1.1, (x0.2.2.2.2.2.1.2.1, ())), (x0.2.2.2.2.2.2.1, (x0.2.2.2.2.2.2.2.1, (x0.2.2.2.2.2.2.2.2.1, (x0.2.2.2.2.2.2.2.2.2.1, ())))))))))), ())).bind fun y18 =>
 brk (!y18.1.1)
 ((impl_copyNode_F ((x0.1, (x0.2.1, (x0.2.2.1, (x0.2.2.2.1, ((x0.2.2.2.2.1.1, (x0.2.2.2.2.1.2.1, (x0.2.2.2.2.1.2.2.1, (x0.2.2.2.2.1.2.2.2.1, (x0.2.2.2.2.1.2.2.2.2.1, (x0.2.2.2.2.1.2.2.2.2.2.1, ())))))), ((x0.2.2.2.2.2.1.1, (x0.2.2.2.2.2.1.2.1, ())), (x0.2.2.2.2.2.2.1, (x0.2.2.2.2.2.2.2.1, (x0.2.2.2.2.2.2.2.2.1, (x0.2.2.2.2.2.2.2.2.2.1, ())))))))))), ())).bind fun y22 =>
 some (((y22.1.1.1, (y22.1.1.2.1, (y22.1.1.2.2.1, (y22.1.1.2.2.2.1, ((y22.1.1.2.2.2.2.1.1, (y22.1.1.2.2.2.2.1.2.1, (y22.1.1.2.2.2.2.1.2.2.1, (y22.1.1.2.2.2.2.1.2.2.2.1, (y22.1.1.2.2.2.2.1.2.2.2.2.1, (y22.1.1.2.2.2.2.1.2.2.2.2.2.1, ())))))), ((y22.1.1.2.2.2.2.2.1.1, (y22.1.1.2.2.2.2.2.1.2.1, ())), (y22.1.1.2.2.2.2.2.2.1, (y22.1.1.2.2.2.2.2.2.2.1, (y22.1.1.2.2.2.2.2.2.2.2.1, (y22.1.1.2.2.2.2.2.2.2.2.2.1, ())))))))))), ()), ((), ((), ()))))
 (some (((y11.1.1.1, (y11.1.1.2.1, (y11.1.1.2.2.1, (y11.1.1.2.2.2.1, ((y11.1.1.2.2.2.2.1.1, (y11.1.1.2.2.2.2.1.2.1, (y11.1.1.2.2.2.2.1.2.2.1, (y11.1.1.2.2.2.2.1.2.2.2.1, (y11.1.1.2.2.2.2.1.2.2.2.2.1, (y11.1.1.2.2.2.2.1.2.2.2.2.2.1, ())))))), ((y11.1.1.2.2.2.2.2.1.1, (y11.1.1.2.2.2.2.2.1.2.1, ())), (y11.1.1.2.2.2.2.2.2.1, (y11.1.1.2.2.2.2.2.2.2.1, (y11.1.1.2.2.2.2.2.2.2.2.1, (y11.1.1.2.2.2.2.2.2.2.2.2.1, ())))))))))), ()), ((), ((), ())))))))
 (both ((impl_copyNode_F ((x0.1, (x0.2.1, (x0.2.2.1, (x0.2.2.2.1, ((x0.2.2.2.2.1.1, (x0.2.2.2.2.1.2.1, (x0.2.2.2.2.1.2.2.1, (x0.2.2.2.2.1.2.2.2.1, (x0.2.2.2.2.1.2.2.2.2.1, (x0.2.2.2.2.1.2.2.2.2.2.1, ())))))), ((x0.2.2.2.2.2.1.1, (x0.2.2.2.2.2.1.2.1, ())), (x0.2.2.2.2.2.2.1, (x0.2.2.2.2.2.2.2.1, (x0.2.2.2.2.2.2.2.2.1, (x0.2.2.2.2.2.2.2.2.2.1, ())))))))))), ())).bind fun y9 =>
 (impl_keep_F ((y9.1.1.1, (y9.1.1.2.1, (y9.1.1.2.2.1, (y9.1.1.2.2.2.1, ((y9.1.1.2.2.2.2.1.1, (y9.1.1.2.2.2.2.1.2.1, (y9.1.1.2.2.2.2.1.2.2.1, (y9.1.1.2.2.2.2.1.2.2.2.1, (y9.1.1.2.2.2.2.1.2.2.2.2.1, (y9.1.1.2.2.2.2.1.2.2.2.2.2.1, ())))))), ((y9.1.1.2.2.2.2.2.1.1, (y9.1.1.2.2.2.2.2.1.2.1, ())), (y9.1.1.2.2.2.2.2.2.1, (y9.1.1.2.2.2.2.2.2.2.1, (y9.1.1.2.2.2.2.2.2.2.2.1, (y9.1.1.2.2.2.2.2.2.2.2.2.1, ())))))))))), ((x1.1, (x1.2.1, (x1.2.2.1, (x1.2.2.2.1, (x1.2.2.2.2.1, (x1.2.2.2.2.2.1, ())))))), ()))).bind fun y11 =>
 brk (!y11.1.2.1)
 ((impl_copyNode_F ((x0.1, (x0.2.1, (x0.2.2.1, (x0.2.2.2.1, ((x0.2.2.2.2.1.1, (x0.2.2.2.2.1.2.1, (x0.2.2.2.2.1.2.2.1, (x0.2.2.2.2.1.2.2.2.1, (x0.2.2.2.2.1.2.2.2.2.1, (x0.2.2.2.2.1.2.2.2.2.2.1, ())))))), ((x0.2.2.2.2.2.1.1, (x0.2.2.2.2.2.1.2.1, ())), (x0.2.2.2.2.2.2.1, (x0.2.2.2.2.2.2.2.1, (x0.2.2.2.2.2.2.2.2.1, (x0.2.2.2.2.2.2.2.2.2.1, ())))))))))), ())).bind fun y22 =>
 some (((y22.1.1.1, (y22.1.1.2.1, (y22.1.1.2.2.1, (y22.1.1.2.2.2.1, ((y22.1.1.2.2.2.2.1.1, (y22.1.1.2.2.2.2.1.2.1, (y22.1.1.2.2.2.2.1.2.2.1, (y22.1.1.2.2.2.2.1.2.2.2.1, (y22.1.1.2.2.2.2.1.2.2.2.2.1, (y22.1.1.2.2.2.2.1.2.2.2.2.2.1, ())))))), ((y22.1.1.2.2.2.2.2.1.1, (y22.1.1.2.2.2.2.2.1.2.1, ())), (y22.1.1.2.2.2.2.2.2.1, (y22.1.1.2.2.2.2.2.2.2.1, (y22.1.1.2.2.2.2.2.2.2.2.1, (y22.1.1.2.2.2.2.2.2.2.2.2.1, ())))))))))), ()), ((), ((), ()))))
 ((impl_NodeOk_F ((x0.1, (x0.2.1, (x0.2.2.1, (x0.2.2.2.1, ((x0.2.2.2.2.1.1, (x0.2.2.2.2.1.2.1, (x0.2.2.2.2.1.2.2.1, (x0.2.2.2.2.1.2.2.2.1, (x0.2.2.2.2.1.2.2.2.2.1, (x0.2.2.2.2.1.2.2.2.2.2.1, ())))))), ((x0.2.2.2.2.2.1.1, (x0.2.2.2.2.2.1.2.1, ())), (x0.2.2.2.2.2.2.1, (x0.2.2.2.2.2.2.2.1, (x0.2.2.2.2.2.2.2.2.1, (x0.2.2.2.2.2.2.2.2.2.1, ())))))))))), ())).bind fun y18 =>
 brk (!y18.1.1)
 ((impl_copyNode_F ((x0.1, (x0.2.1, (x0.2.2.1, (x0.2.2.2.1, ((x0.2.2.2.2.1.1, (x0.2.2.2.2.1.2.1, (x0.2.2.2.2.1.2.2.1, (x0.2.2.2.2.1.2.2.2.1, (x0.2.2.2.2.1.2.2.2.2.1, (x0.2.2.2.2.1.2.2.2.2.2.1, ())))))), ((x0.2.2.2.2.2.1.1, (x0.2.2.2.2.2.1.2.1, ())), (x0.2.2.2.2.2.2.1, (x0.2.2.2.2.2.2.2.1, (x0.2.2.2.2.2.2.2.2.1, (x0.2.2.2.2.2.2.2.2.2.1, ())))))))))), ())).bind fun y22 =>
 some (((y22.1.1.1, (y22.1.1.2.1, (y22.1.1.2.2.1, (y22.1.1.2.2.2.1, ((y22.1.1.2.2.2.2.1.1, (y22.1.1.2.2.2.2.1.2.1, (y22.1.1.2.2.2.2.1.2.2.1, (y22.1.1.2.2.2.2.1.2.2.2.1, (y22.1.1.2.2.2.2.1.2.2.2.2.1, (y22.1.1.2.2.2.2.1.2.2.2.2.2.1, ())))))), ((y22.1.1.2.2.2.2.2.1.1, (y22.1.1.2.2.2.2.2.1.2.1, ())), (y22.1.1.2.2.2.2.2.2.1, (y22.1.1.2.2.2.2.2.2.2.1, (y22.1.1.2.2.2.2.2.2.2.2.1, (y22.1.1.2.2.2.2.2.2.2.2.2.1, ())))))))))), ()), ((), ((), ()))))
 (some (((y11.1.1.1, (y11.1.1.2.1, (y11.1.1.2.2.1, (y11.1.1.2.2.2.1, ((y11.1.1.2.2.2.2.1.1, (y11.1.1.2.2.2.2.1.2.1, (y11.1.1.2.2.2.2.1.2.2.1, (y11.1.1.2.2.2.2.1.2.2.2.1, (y11.1.1.2.2.2.2.1.2.2.2.2.1, (y11.1.1.2.2.2.2.1.2.2.2.2.2.1, ())))))), ((y11.1.1.2.2.2.2.2.1.1, (y11.1.1.2.2.2.2.2.1.2.1, ())), (y11.1.1.2.2.2.2.2.2.1, (y11.1.1.2.2.2.2.2.2.2.1, (y11.1.1.2.2.2.2.2.2.2.2.1, (y11.1.1.2.2.2.2.2.2.2.2.2.1, ())))))))))), ()), ((), ((), ()))))))
 ((impl_copyNode_F ((x0.1, (x0.2.1, (x0.2.2.1, (x0.2.2.2.1, ((x0.2.2.2.2.1.1, (x0.2.2.2.2.1.2.1, (x0.2.2.2.2.1.2.2.1, (x0.2.2.2.2.1.2.2.2.1, (x0.2.2.2.2.1.2.2.2.2.1, (x0.2.2.2.2.1.2.2.2.2.2.1, ())))))), ((x0.2.2.2.2.2.1.1, (x0.2.2.2.2.2.1.2.1, ())), (x0.2.2.2.2.2.2.1, (x0.2.2.2.2.2.2.2.1, (x0.2.2.2.2.2.2.2.2.1, (x0.2.2.2.2.2.2.2.2.2.1, ())))))))))), ())).bind fun y9 =>
 (impl_keep_F ((y9.1.1.1, (y9.1.1.2.1, (y9.1.1.2.2.1, (y9.1.1.2.2.2.1, ((y9.1.1.2.2.2.2.1.1, (y9.1.1.2.2.2.2.1.2.1, (y9.1.1.2.2.2.2.1.2.2.1, (y9.1.1.2.2.2.2.1.2.2.2.1, (y9.1.1.2.2.2.2.1.2.2.2.2.1, (y9.1.1.2.2.2.2.1.2.2.2.2.2.1, ())))))), ((y9.1.1.2.2.2.2.2.1.1, (y9.1.1.2.2.2.2.2.1.2.1, ())), (y9.1.1.2.2.2.2.2.2.1, (y9.1.1.2.2.2.2.2.2.2.1, (y9.1.1.2.2.2.2.2.2.2.2.1, (y9.1.1.2.2.2.2.2.2.2.2.2.1, ())))))))))), ((x1.1, (x1.2.1, (x1.2.2.1, (x1.2.2.2.1, (x1.2.2.2.2.1, (x1.2.2.2.2.2.1, ())))))), ()))).bind fun y11 =>
 brk (!y11.1.2.1)
 ((impl_copyNode_F ((x0.1, (x0.2.1, (x0.2.2.1, (x0.2.2.2.1, ((x0.2.2.2.2.1.1, (x0.2.2.2.2.1.2.1, (x0.2.2.2.2.1.2.2.1, (x0.2.2.2.2.1.2.2.2.1, (x0.2.2.2.2.1.2.2.2.2.1, (x0.2.2.2.2.1.2.2.2.2.2.1, ())))))), ((x0.2.2.2.2.2.1.1, (x0.2.2.2.2.2.1.2.1, ())), (x0.2.2.2.2.2.2.1, (x0.2.2.2.2.2.2.2.1, (x0.2.2.2.2.2.2.2.2.1, (x0.2.2.2.2.2.2.2.2.2.1, ())))))))))), ())).bind fun y22 =>
 some (((y22.1.1.1, (y22.1.1.2.1, (y22.1.1.2.2.1, (y22.1.1.2.2.2.1, ((y22.1.1.2.2.2.2.1.1, (y22.1.1.2.2.2.2.1.2.1, (y22.1.1.2.2.2.2.1.2.2.1, (y22.1.1.2.2.2.2.1.2.2.2.1, (y22.1.1.2.2.2.2.1.2.2.2.2.1, (y22.1.1.2.2.2.2.1.2.2.2.2.2.1, ())))))), ((y22.1.1.2.2.2.2.2.1.1, (y22.1.1.2.2.2.2.2.1.2.1, ())), (y22.1.1.2.2.2.2.2.2.1, (y22.1.1.2.2.2.2.2.2.2.1, (y22.1.1.2.2.2.2.2.2.2.2.1, (y22.1.1.2.2.2.2.2.2.2.2.2.1, ())))))))))), ()), ((), ((), ()))))
 ((impl_NodeOk_F ((x0.1, (x0.2.1, (x0.2.2.1, (x0.2.2.2.1, ((x0.2.2.2.2.1.1, (x0.2.2.2.2.1.2.1, (x0.2.2.2.2.1.2.2.1, (x0.2.2.2.2.1.2.2.2.1, (x0.2.2.2.2.1.2.2.2.2.1, (x0.2.2.2.2.1.2.2.2.2.2.1, ())))))), ((x0.2.2.2.2.2.1.1, (x0.2.2.2.2.2.1.2.1, ())), (x0.2.2.2.2.2.2.1, (x0.2.2.2.2.2.2.2.1, (x0.2.2.2.2.2.2.2.2.1, (x0.2.2.2.2.2.2.2.2.2.1, ())))))))))), ())).bind fun y18 =>
 brk (!y18.1.1)
 ((impl_copyNode_F ((x0.1, (x0.2.1, (x0.2.2.1, (x0.2.2.2.1, ((x0.2.2.2.2.1.1, (x0.2.2.2.2.1.2.1, (x0.2.2.2.2.1.2.2.1, (x0.2.2.2.2.1.2.2.2.1, (x0.2.2.2.2.1.2.2.2.2.1, (x0.2.2.2.2.1.2.2.2.2.2.1, ())))))), ((x0.2.2.2.2.2.1.1, (x0.2.2.2.2.2.1.2.1, ())), (x0.2.2.2.2.2.2.1, (x0.2.2.2.2.2.2.2.1, (x0.2.2.2.2.2.2.2.2.1, (x0.2.2.2.2.2.2.2.2.2.1, ())))))))))), ())).bind fun y22 =>
 some (((y22.1.1.1, (y22.1.1.2.1, (y22.1.1.2.2.1, (y22.1.1.2.2.2.1, ((y22.1.1.2.2.2.2.1.1, (y22.1.1.2.2.2.2.1.2.1, (y22.1.1.2.2.2.2.1.2.2.1, (y22.1.1.2.2.2.2.1.2.2.2.1, (y22.1.1.2.2.2.2.1.2.2.2.2.1, (y22.1.1.2.2.2.2.1.2.2.2.2.2.1, ())))))), ((y22.1.1.2.2.2.2.2.1.1, (y22.1.1.2.2.2.2.2.1.2.1, ())), (y22.1.1.2.2.2.2.2.2.1, (y22.1.1.2.2.2.2.2.2.2.1, (y22.1.1.2.2.2.2.2.2.2.2.1, (y22.1.1.2.2.2.2.2.2.2.2.2.1, ())))))))))), ()), ((), ((), ()))))
 (some (((y11.1.1.1, (y11.1.1.2.1, (y11.1.1.2.2.1, (y11.1.1.2.2.2.1, ((y11.1.1.2.2.2.2.1.1, (y11.1.1.2.2.2.2.1.2.1, (y11.1.1.2.2.2.2.1.2.2.1, (y11.1.1.2.2.2.2.1.2.2.2.1, (y11.1.1.2.2.2.2.1.2.2.2.2.1, (y11.1.1.2.2.2.2.1.2.2.2.2.2.1, ())))))), ((y11.1.1.2.2.2.2.2.1.1, (y11.1.1.2.2.2.2.2.1.2.1, ())), (y11.1.1.2.2.2.2.2.2.1, (y11.1.1.2.2.2.2.2.2.2.1, (y11.1.1.2.2.2.2.2.2.2.2.1, (y11.1.1.2.2.2.2.2.2.2.2.2.1, ())))))))))), ()), ((), ((), ())))))))))
 (both (both (both ((impl_copyNode_F ((x0.1, (x0.2.1, (x0.2.2.1, (x0.2.2.2.1, ((x0.2.2.2.2.1.1, (x0.2.2.2.2.1.2.1, (x0.2.2.2.2.1.2.2.1, (x0.2.2.2.2.1.2.2.2.1, (x0.2.2.2.2.1.2.2.2.2.1, (x0.2.2.2.2.1.2.2.2.2.2.1, ())))))), ((x0.2.2.2.2.2.1.1, (x0.2.2.2.2.2.1.2.1, ())), (x0.2.2.2.2.2.2.1, (x0.2.2.2.2.2.2.2.1, (x0.2.2.2.2.2.2.2.2.1, (x0.2.2.2.2.2.2.2.2.2.1, ())))))))))), ())).bind fun y9 =>
 both ((impl_keep_F ((y9.1.1.1, (y9.1.1.2.1, (y9.1.1.2.2.1, (y9.1.1.2.2.2.1, ((y9.1.1.2.2.2.2.1.1, (y9.1.1.2.2.2.2.1.2.1, (y9.1.1.2.2.2.2.1.2.2.1, (y9.1.1.2.2.2.2.1.2.2.2.1, (y9.1.1.2.2.2.2.1.2.2.2.2.1, (y9.1.1.2.2.2.2.1.2.2.2.2.2.1, ())))))), ((y9.1.1.2.2.2.2.2.1.1, (y9.1.1.2.2.2.2.2.1.2.1, ())), (y9.1.1.2.2.2.2.2.2.1, (y9.1.1.2.2.2.2.2.2.2.1, (y9.1.1.2.2.2.2.2.2.2.2.1, (y9.1.1.2.2.2.2.2.2.2.2.2.1, ())))))))))), ((x1.1, (x1.2.1, (x1.2.2.1, (x1.2.2.2.1, (x1.2.2.2.2.1, (x1.2.2.2.2.2.1, ())))))), ()))).bind fun y11 =>
 brk (!y11.1.2.1)
 ((impl_copyNode_F ((x0.1, (x0.2.1, (x0.2.2.1, (x0.2.2.2.1, ((x0.2.2.2.2.1.1, (x0.2.2.2.2.1.2.1, (x0.2.2.2.2.1.2.2.1, (x0.2.2.2.2.1.2.2.2.1, (x0.2.2.2.2.1.2.2.2.2.1, (x0.2.2.2.2.1.2.2.2.2.2.1, ())))))), ((x0.2.2.2.2.2.1.1, (x0.2.2.2.2.2.1.2.1, ())), (x0.2.2.2.2.2.2.1, (x0.2.2.2.2.2.2.2.1, (x0.2.2.2.2.2.2.2.2.1, (x0.2.2.2.2.2.2.2.2.2.1, ())))))))))), ())).bind fun y22 =>
 some (((y22.1.1.1, (y22.1.1.2.1, (y22.1.1.2.2.1, (y22.1.1.2.2.2.1, ((y22.1.1.2.2.2.2.1.1, (y22.1.1.2.2.2.2.1.2.1, (y22.1.1.2.2.2.2.1.2.2.1, (y22.1.1.2.2.2.2.1.2.2.2.1, (y22.1.1.2.2.2.2.1.2.2.2.2.1, (y22.1.1.2.2.2.2.1.2.2.2.2.2.1, ())))))), ((y22.1.1.2.2.2.2.2.1.1, (y22.1.1.2.2.2.2.2.1.2.1, ())), (y22.1.1.2.2.2.2.2.2.1, (y22.1.1.2.2.2.2.2.2.2.1, (y22.1.1.2.2.2.2.2.2.2.2.1, (y22.1.1.2.2.2.2.2.2.2.2.2.1, ())))))))))), ()), ((), ((), ()))))
 ((impl_NodeOk_F ((x0.1, (x0.2.1, (x0.2.2.1, (x0.2.2.2.1, ((x0.2.2.2.2.1.1, (x0.2.2.2.2.1.2.1, (x0.2.2.2.2.1.2.2.1, (x0.2.2.2.2.1.2.2.2.1, (x0.2.2.2.2.1.2.2.2.2.1, (x0.2.2.2.2.1.2.2.2.2.2.1, ())))))), ((x0.2.2.2.2.2.1.1, (x0.2.2.2.2.2.1.2.1, ())), (x0.2.2.2.2.2.2.1, (x0.2.2.2.2.2.2.2.1, (x0.2.2.2.2.2.2.2.2.1, (x0.2.2.2.2.2.2.2.2.2.1, ())))))))))), ())).bind fun y18 =>
 brk (!y18.1.1)
 ((impl_copyNode_F ((x0.1, (x0.2.1, (x0.2.2.1, (x0.2.2.2.1, ((x0.2.2.2.2.1.1, (x0.2.2.2.2.1.2.1, (x0.2.2.2.2.1.2.2.1, (x0.2.2.2.2.1.2.2.2.1, (x0.2.2.2.2.1.2.2.2.2.1, (x0.2.2.2.2.1.2.2.2.2.2.1, ())))))), ((x0.2.2.2.2.2.1.1, (x0.2.2.2.2.2.1.2.1, ())), (x0.2.2.2.2.2.2.1, (x0.2.2.2.2.2.2.2.1, (x0.2.2.2.2.2.2.2.2.1, (x0.2.2.2.2.2.2.2.2.2.1, ())))))))))), ())).bind fun y22 =>
 some (((y22.1.1.1, (y22.1.1.2.1, (y22.1.1.2.2.1, (y22.1.1.2.2.2.1, ((y22.1.1.2.2.2.2.1.1, (y22.1.1.2.2.2.2.1.2.1, (y22.1.1.2.2.2.2.1.2.2.1, (y22.1.1.2.2.2.2.1.2.2.2.1, (y22.1.1.2.2.2.2.1.2.2.2.2.1, (y22.1.1.2.2.2.2.1.2.2.2.2.2.1, ())))))), ((y22.1.1.2.2.2.2.2.1.1, (y22.1.1.2.2.2.2.2.1.2.1, ())), (y22.1.1.2.2.2.2.2.2.1, (y22.1.1.2.2.2.2.2.2.2.1, (y22.1.1.2.2.2.2.2.2.2.2.1, (y22.1.1.2.2.2.2.2.2.2.2.2.1, ())))))))))), ()), ((), ((), ()))))
 (some (((y11.1.1.1, (y11.1.1.2.1, (y11.1.1.2.2.1, (y11.1.1.2.2.2.1, ((y11.1.1.2.2.2.2.1.1, (y11.1.1.2.2.2.2.1.2.1, (y11.1.1.2.2.2.2.1.2.2.1, (y11.1.1.2.2.2.2.1.2.2.2.1, (y11.1.1.2.2.2.2.1.2.2.2.2.1, (y11.1.1.2.2.2.2.1.2.2.2.2.2.1, ())))))), ((y11.1.1.2.2.2.2.2.1.1, (y11.1.1.2.2.2.2.2.1.2.1, ())), (y11.1.1.2.2.2.2.2.2.1, (y11.1.1.2.2.2.2.2.2.2.1, (y11.1.1.2.2.2.2.2.2.2.2.1, (y11.1.1.2.2.2.2.2.2.2.2.2.1, ())))))))))), ()), ((), ((), ()))))))
 ((impl_keep_F ((y9.1.1.1, (y9.1.1.2.1, (y9.1.1.2.2.1, (y9.1.1.2.2.2.1, ((y9.1.1.2.2.2.2.1.1, (y9.1.1.2.2.2.2.1.2.1, (y9.1.1.2.2.2.2.1.2.2.1, (y9.1.1.2.2.2.2.1.2.2.2.1, (y9.1.1.2.2.2.2.1.2.2.2.2.1, (y9.1.1.2.2.2.2.1.2.2.2.2.2.1, ())))))), ((y9.1.1.2.2.2.2.2.1.1, (y9.1.1.2.2.2.2.2.1.2.1, ())), (y9.1.1.2.2.2.2.2.2.1, (y9.1.1.2.2.2.2.2.2.2.1, (y9.1.1.2.2.2.2.2.2.2.2.1, (y9.1.1.2.2.2.2.2.2.2.2.2.1, ())))))))))), ((x1.1, (x1.2.1, (x1.2.2.1, (x1.2.2.2.1, (x1.2.2.2.2.1, (x1.2.2.2.2.2.1, ())))))), ()))).bind fun y11 =>
 brk (!y11.1.2.1)
 ((impl_copyNode_F ((x0.1, (x0.2.1, (x0.2.2.1, (x0.2.2.2.1, ((x0.2.2.2.2.1.1, (x0.2.2.2.2.1.2.1, (x0.2.2.2.2.1.2.2.1, (x0.2.2.2.2.1.2.2.2.1, (x0.2.2.2.2.1.2.2.2.2.1, (x0.2.2.2.2.1.2.2.2.2.2.1, ())))))), ((x0.2.2.2.2.2.1.1, (x0.2.2.2.2.2.1.2.1, ())), (x0.2.2.2.2.2.2.1, (x0.2.2.2.2.2.2.2.1, (x0.2.2.2.2.2.2.2.2.1, (x0.2.2.2.2.2.2.2.2.2.1, ())))))))))), ())).bind fun y22 =>
 some (((y22.1.1.1, (y22.1.1.2.1, (y22.1.1.2.2.1, (y22.1.1.2.2.2.1, ((y22.1.1.2.2.2.2.1.1, (y22.1.1.2.2.2.2.1.2.1, (y22.1.1.2.2.2.2.1.2.2.1, (y22.1.1.2.2.2.2.1.2.2.2.1, (y22.1.1.2.2.2.2.1.2.2.2.2.1, (y22.1.1.2.2.2.2.1.2.2.2.2.2.1, ())))))), ((y22.1.1.2.2.2.2.2.1.1, (y22.1.1.2.2.2.2.2.1.2.1, ())), (y22.1.1.2.2.2.2.2.2.1, (y22.1.1.2.2.2.2.2.2.2.1, (y22.1.1.2.2.2.2.2.2.2.2.1, (y22.1.1.2.2.2.2.2.2.2.2.2.1, ())))))))))), ()), ((), ((), ()))))
 ((impl_NodeOk_F ((x0.1, (x0.2.1, (x0.2.2.1, (x0.2.2.2.1, ((x0.2.2.2.2.1.1, (x0.2.2.2.2.1.2.1, (x0.2.2.2.2.1.2.2.1, (x0.2.2.2.2.1.2.2.2.1, (x0.2.2.2.2.1.2.2.2.2.1, (x0.2.2.2.2.1.2.2.2.2.2.1, ())))))), ((x0.2.2.2.2.2.1.1, (x0.2.2.2.2.2.1.2.1, ())), (x0.2.2.2.2.2.2.1, (x0.2.2.2.2.2.2.2.1, (x0.2.2.2.2.2.2.2.2.1, (x0.2.2.2.2.2.2.2.2.2.1, ())))))))))), ())).bind fun y18 =>
 brk (!y18.1.1)
 ((impl_copyNode_F ((x0.1, (x0.2.1, (x0.2.2.1, (x0.2.2.2.1, ((x0.2.2.2.2.1.1, (x0.2.2.2.2.1.2.1, (x0.2.2.2.2.1.2.2.1, (x0.2.2.2.2.1.2.2.2.1, (x0.2.2.2.2.1.2.2.2.2.1, (x0.2.2.2.2.1.2.2.2.2.2.1, ())))))), ((x0.2.2.2.2.2.1.1, (x0.2.2.2.2.2.1.2.1, ())), (x0.2.2.2.2.2.2.1, (x0.2.2.2.2.2.2.2.1, (x0.2.2.2.2.2.2.2.2.1, (x0.2.2.2.2.2.2.2.2.2.1, ())))))))))), ())).bind fun y22 =>
 some (((y22.1.1.1, (y22.1.1.2.1, (y22.1.1.2.2.1, (y22.1.1.2.2.2.1, ((y22.1.1.2.2.2.2.1.1, (y22.1.1.2.2.2.2.1.2.1, (y22.1.1.2.2.2.2.1.2.2.1, (y22.1.1.2.2.2.2.1.2.2.2.1, (y22.1.1.2.2.2.2.1.2.2.2.2.1, (y22.1.1.2.2.2.2.1.2.2.2.2.2.1, ())))))), ((y22.1.1.2.2.2.2.2.1.1, (y22.1.1.2.2.2.2.2.1.2.1, ())), (y22.1.1.2.2.2.2.2.2.1, (y22.1.1.2.2.2.2.2.2.2.1, (y22.1.1.2.2.2.2.2.2.2.2.1, (y22.1.1.2.2.2.2.2.2.2.2.2.1, ())))))))))), ()), ((), ((), ()))))
 (some (((y11.1.1.1, (y11.1.1.2.1, (y11.1.1.2.2.1, (y11.1.1.2.2.2.1, ((y11.1.1.2.2.2.2.1.1, (y11.1.1.2.2.2.2.1.2.1, (y11.1.1.2.2.2.2.1.2.2.1, (y11.1.1.2.2.2.2.1.2.2.2.1, (y11.1.1.2.2.2.2.1.2.2.2.2.1, (y11.1.1.2.2.2.2.1.2.2.2.2.2.1, ())))))), ((y11.1.1.2.2.2.2.2.1.1, (y11.1.1.2.2.2.2.2.1.2.1, ())), (y11.1.1.2.2.2.2.2.2.1, (y11.1.1.2.2.2.2.2.2.2.1, (y11.1.1.2.2.2.2.2.2.2.2.1, (y11.1.1.2.2.2.2.2.2.2.2.2.1, ())))))))))), ()), ((), ((), ())))))))
 ((impl_copyNode_F ((x0.1, (x0.2.1, (x0.2.2.1, (x0.2.2.2.1, ((x0.2.2.2.2.1.1, (x0.2.2.2.2.1.2.1, (x0.2.2.2.2.1.2.2.1, (x0.2.2.2.2.1.2.2.2.1, (x0.2.2.2.2.1.2.2.2.2.1, (x0.2.2.2.2.1.2.2.2.2.2.1, ())))))), ((x0.2.2.2.2.2.1.1, (x0.2.2.2.2.2.1.2.1, ())), (x0.2.2.2.2.2.2.1, (x0.2.2.2.2.2.2.2.1, (x0.2.2.2.2.2.2.2.2.1, (x0.2.2.2.2.2.2.2.2.2.1, ())))))))))), ())).bind fun y9 =>
 (impl_keep_F ((y9.1.1.1, (y9.1.1.2.1, (y9.1.1.2.2.1, (y9.1.1.2.2.2.1, ((y9.1.1.2.2.2.2.1.1, (y9.1.1.2.2.2.2.1.2.1, (y9.1.1.2.2.2.2.1.2.2.1, (y9.1.1.2.2.2.2.1.2.2.2.1, (y9.1.1.2.2.2.2.1.2.2.2.2.1, (y9.1.1.2.2.2.2.1.2.2.2.2.2.1, ())))))), ((y9.1.1.2.2.2.2.2.1.1, (y9.1.1.2.2.2.2.2.1.2.1, ())), (y9.1.1.2.2.2.2.2.2.1, (y9.1.1.2.2.2.2.2.2.2.1, (y9.1.1.2.2.2.2.2.2.2.2.1, (y9.1.1.2.2.2.2.2.2.2.2.2.1, ())))))))))), ((x1.1, (x1.2.1, (x1.2.2.1, (x1.2.2.2.1, (x1.2.2.2.2.1, (x1.2.2.2.2.2.1, ())))))), ()))).bind fun y11 =>
 brk (!y11.1.2.1)
 ((impl_copyNode_F ((x0.1, (x0.2.1, (x0.2.2.1, (x0.2.2.2.1, ((x0.2.2.2.2.1.1, (x0.2.2.2.2.1.2.1, (x0.2.2.2.2.1.2.2.1, (x0.2.2.2.2.1.2.2.2.1, (x0.2.2.2.2.1.2.2.2.2.1, (x0.2.2.2.2.1.2.2.2.2.2.1, ())))))), ((x0.2.2.2.2.2.1.1, (x0.2.2.2.2.2.1.2.1, ())), (x0.2.2.2.2.2.2.1, (x0.2.2.2.2.2.2.2.1, (x0.2.2.2.2.2.2.2.2.1, (x0.2.2.2.2.2.2.2.2.2.1, ())))))))))), ())).bind fun y22 =>
 some (((y22.1.1.1, (y22.1.1.2.1, (y22.1.1.2.2.1, (y22.1.1.2.2.2.1, ((y22.1.1.2.2.2.2.1.1, (y22.1.1.2.2.2.2.1.2.1, (y22.1.1.2.2.2.2.1.2.2.1, (y22.1.1.2.2.2.2.1.2.2.2.1, (y22.1.1.2.2.2.2.1.2.2.2.2.1, (y22.1.1.2.2.2.2.1.2.2.2.2.2.1, ())))))), ((y22.1.1.2.2.2.2.2.1.1, (y22.1.1.2.2.2.2.2.1.2.1, ())), (y22.1.1.2.2.2.2.2.2.1, (y22.1.1.2.2.2.2.2.2.2.1, (y22.1.1.2.2.2.2.2.2.2.2.1, (y22.1.1.2.2.2.2.2.2.2.2.2.1, ())))))))))), ()), ((), ((), ()))))
 ((impl_NodeOk_F ((x0.1, (x0.2.1, (x0.2.2.1, (x0.2.2.2.1, ((x0.2.2.2.2.1.1, (x0.2.2.2.2.1.2.1, (x0.2.2.2.2.1.2.2.1, (x0.2.2.2.2.1.2.2.2.1, (x0.2.2.2.2.1.2.2.2.2.1, (x0.2.2.2.2.1.2.2.2.2.2.1, ())))))), ((x0.2.2.2.2.2.1.1, (x0.2.2.2.2.2.1.2.1, ())), (x0.2.2.2.2.2.2.1, (x0.2.2.2.2.2.2.2.1, (x0.2.2.2.2.2.2.2.2.1, (x0.2.2.2.2.2.2.2.2.2.1, ())))))))))), ())).bind fun y18 =>
 brk (!y18.1.1)
 ((impl_copyNode_F ((x0.1, (x0.2.1, (x0.2.2.1, (x0.2.2.2.1, ((x0.2.2.2.2.1.1, (x0.2.2.2.2.1.2.1, (x0.2.2.2.2.1.2.2.1, (x0.2.2.2.2.1.2.2.2.1, (x0.2.2.2.2.1.2.2.2.2.1, (x0.2.2.2.2.1.2.2.2.2.2.1, ())))))), ((x0.2.2.2.2.2.1.1, (x0.2.2.2.2.2.1.2.1, ())), (x0.2.2.2.2.2.2.1, (x0.2.2.2.2.2.2.2.1, (x0.2.2.2.2.2.2.2.2.1, (x0.2.2.2.2.2.2.2.2.2.1, ())))))))))), ())).bind fun y22 =>
 some (((y22.1.1.1, (y22.1.1.2.1, (y22.1.1.2.2.1, (y22.1.1.2.2.2.1, ((y22.1.1.2.2.2.2.1.1, (y22.1.1.2.2.2.2.1.2.1, (y22.1.1.2.2.2.2.1.2.2.1, (y22.1.1.2.2.2.2.1.2.2.2.1, (y22.1.1.2.2.2.2.1.2.2.2.2.1, (y22.1.1.2.2.2.2.1.2.2.2.2.2.1, ())))))), ((y22.1.1.2.2.2.2.2.1.1, (y22.1.1.2.2.2.2.2.1.2.1, ())), (y22.1.1.2.2.2.2.2.2.1, (y22.1.1.2.2.2.2.2.2.2.1, (y22.1.1.2.2.2.2.2.2.2.2.1, (y22.1.1.2.2.2.2.2.2.2.2.2.1, ())))))))))), ()), ((), ((), ()))))
 (some (((y11.1.1.1, (y11.1.1.2.1, (y11.1.1.2.2.1, (y11.1.1.2.2.2.1, ((y11.1.1.2.2.2.2.1.1, (y11.1.1.2.2.2.2.1.2.1, (y11.1.1.2.2.2.2.1.2.2.1, (y11.1.1.2.2.2.2.1.2.2.2.1, (y11.1.1.2.2.2.2.1.2.2.2.2.1, (y11.1.1.2.2.2.2.1.2.2.2.2.2.1, ())))))), ((y11.1.1.2.2.2.2.2.1.1, (y11.1.1.2.2.2.2.2.1.2.1, ())), (y11.1.1.2.2.2.2.2.2.1, (y11.1.1.2.2.2.2.2.2.2.1, (y11.1.1.2.2.2.2.2.2.2.2.1, (y11.1.1.2.2.2.2.2.2.2.2.2.1, ())))))))))), ()), ((), ((), ())))))))
 ((impl_copyNode_F ((x0.1, (x0.2.1, (x0.2.2.1, (x0.2.2.2.1, ((x0.2.2.2.2.1.1, (x0.2.2.2.2.1.2.1, (x0.2.2.2.2.1.2.2.1, (x0.2.2.2.2.1.2.2.2.1, (x0.2.2.2.2.1.2.2.2.2.1, (x0.2.2.2.2.1.2.2.2.2.2.1, ())))))), ((x0.2.2.2.2.2.1.1, (x0.2.2.2.2.2.1.2.1, ())), (x0.2.2.2.2.2.2.1, (x0.2.2.2.2.2.2.2.1, (x0.2.2.2.2.2.2.2.2.1, (x0.2.2.2.2.2.2.2.2.2.1, ())))))))))), ())).bind fun y9 =>
 (impl_keep_F ((y9.1.1.1, (y9.1.1.2.1, (y9.1.1.2.2.1, (y9.1.1.2.2.2.1, ((y9.1.1.2.2.2.2.1.1, (y9.1.1.2.2.2.2.1.2.1, (y9.1.1.2.2.2.2.1.2.2.1, (y9.1.1.2.2.2.2.1.2.2.2.1, (y9.1.1.2.2.2.2.1.2.2.2.2.1, (y9.1.1.2.2.2.2.1.2.2.2.2.2.1, ())))))), ((y9.1.1.2.2.2.2.2.1.1, (y9.1.1.2.2.2.2.2.1.2.1, ())), (y9.1.1.2.2.2.2.2.2.1, (y9.1.1.2.2.2.2.2.2.2.1, (y9.1.1.2.2.2.2.2.2.2.2.1, (y9.1.1.2.2.2.2.2.2.2.2.2.1, ())))))))))), ((x1.1, (x1.2.1, (x1.2.2.1, (x1.2.2.2.1, (x1.2.2.2.2.1, (x1.2.2.2.2.2.1, ())))))), ()))).bind fun y11 =>
 brk (!y11.1.2.1)
 ((impl_copyNode_F ((x0.1, (x0.2.1, (x0.2.2.1, (x0.2.2.2.1, ((x0.2.2.2.2.1.1, (x0.2.2.2.2.1.2.1, (x0.2.2.2.2.1.2.2.1, (x0.2.2.2.2.1.2.2.2.1, (x0.2.2.2.2.1.2.2.2.2.1, (x0.2.2.2.2.1.2.2.2.2.2.1, ())))))), ((x0.2.2.2.2.2.1.1, (x0.2.2.2.2.2.1.2.1, ())), (x0.2.2.2.2.2.2.1, (x0.2.2.2.2.2.2.2.1, (x0.2.2.2.2.2.2.2.2.1, (x0.2.2.2.2.2.2.2.2.2.1, ())))))))))), ())).bind fun y22 =>
 some (((y22.1.1.1, (y22.1.1.2.1, (y22.1.1.2.2.1, (y22.1.1.2.2.2.1, ((y22.1.1.2.2.2.2.1.1, (y22.1.1.2.2.2.2.1.2.1, (y22.1.1.2.2.2.2.1.2.2.1, (y22.1.1.2.2.2.2.1.2.2.2.1, (y22.1.1.2.2.2.2.1.2.2.2.2.1, (y22.1.1.2.2.2.2.1.2.2.2.2.2.1, ())))))), ((y22.1.1.2.2.2.2.2.1.1, (y22.1.1.2.2.2.2.2.1.2.1, ())), (y22.1.1.2.2.2.2.2.2.1, (y22.1.1.2.2.2.2.2.2.2.1, (y22.1.1.2.2.2.2.2.2.2.2.1, (y22.1.1.2.2.2.2.2.2.2.2.2.1, ())))))))))), ()), ((), ((), ()))))
 ((impl_NodeOk_F ((x0.1, (x0.2.1, (x0.2.2.1, (x0.2.2.2.1, ((x0.2.2.2.2.1.1, (x0.2.2.2.2.1.2.1, (x0.2.2.2.2.1.2.2.1, (x0.2.2.2.2.1.2.2.2.1, (x0.2.2.2.2.1.2.2.2.2.1, (x0.2.2.2.2.1.2.2.2.2.2.1, ())))))), ((x0.2.2.2.2.2.1.1, (x0.2.2.2.2.2.1.2.1, ())), (x0.2.2.2.2.2.2.1, (x0.2.2.2.2.2.2.2.1, (x0.2.2.2.2.2.2.2.2.1, (x0.2.2.2.2.2.2.2.2.2.1, ())))))))))), ())).bind fun y18 =>
 brk (!y18.1.1)
 ((impl_copyNode_F ((x0.1, (x0.2.1, (x0.2.2.1, (x0.2.2.2.1, ((x0.2.2.2.2.1.1, (x0.2.2.2.2.1.2.1, (x0.2.2.2.2.1.2.2.1, (x0.2.2.2.2.1.2.2.2.1, (x0.2.2.2.2.1.2.2.2.2.1, (x0.2.2.2.2.1.2.2.2.2.2.1, ())))))), ((x0.2.2.2.2.2.1.1, (x0.2.2.2.2.2.1.2.1, ())), (x0.2.2.2.2.2.2.1, (x0.2.2.2.2.2.2.2.1, (x0.2.2.2.2.2.2.2.2.1, (x0.2.2.2.2.2.2.2.2.2.1, ())))))))))), ())).bind fun y22 =>
 some (((y22.1.1.1, (y22.1.1.2.1, (y22.1.1.2.2.1, (y22.1.1.2.2.2.1, ((y22.1.1.2.2.2.2.1.1, (y22.1.1.2.2.2.2.1.2.1, (y22.1.1.2.2.2.2.1.2.2.1, (y22.1.1.2.2.2.2.1.2.2.2.1, (y22.1.1.2.2.2.2.1.2.2.2.2.1, (y22.1.1.2.2.2.2.1.2.2.2.2.2.1, ())))))), ((y22.1.1.2.2.2.2.2.1.1, (y22.1.1.2.2.2.2.2.1.2.1, ())), (y22.1.1.2.2.2.2.2.2.1, (y22.1.1.2.2.2.2.2.2.2.1, (y22.1.1.2.2.2.2.2.2.2.2.1, (y22.1.1.2.2.2.2.2.2.2.2.2.1, ())))))))))), ()), ((), ((), ()))))
 (some (((y11.1.1.1, (y11.1.1.2.1, (y11.1.1.2.2.1, (y11.1.1.2.2.2.1, ((y11.1.1.2.2.2.2.1.1, (y11.1.1.2.2.2.2.1.2.1, (y11.1.1.2.2.2.2.1.2.2.1, (y11.1.1.2.2.2.2.1.2.2.2.1, (y11.1.1.2.2.2.2.1.2.2.2.2.1, (y11.1.1.2.2.2.2.1.2.2.2.2.2.1, ())))))), ((y11.1.1.2.2.2.2.2.1.1, (y11.1.1.2.2.2.2.2.1.2.1, ())), (y11.1.1.2.2.2.2.2.2.1, (y11.1.1.2.2.2.2.2.2.2.1, (y11.1.1.2.2.2.2.2.2.2.2.1, (y11.1.1.2.2.2.2.2.2.2.2.2.1, ())))))))))), ()), ((), ((), ())))))))
 (both (both ((impl_copyNode_F ((x0.1, (x0.2.1, (x0.2.2.1, (x0.2.2.2.1, ((x0.2.2.2.2.1.1, (x0.2.2.2.2.1.2.1, (x0.2.2.2.2.1.2.2.1, (x0.2.2.2.2.1.2.2.2.1, (x0.2.2.2.2.1.2.2.2.2.1, (x0.2.2.2.2.1.2.2.2.2.2.1, ())))))), ((x0.2.2.2.2.2.1.1, (x0.2.2.2.2.2.1.2.1, ())), (x0.2.2.2.2.2.2.1, (x0.2.2.2.2.2.2.2.1, (x0.2.2.2.2.2.2.2.2.1, (x0.2.2.2.2.2.2.2.2.2.1, ())))))))))), ())).bind fun y9 =>
 (impl_keep_F ((y9.1.1.1, (y9.1.1.2.1, (y9.1.1.2.2.1, (y9.1.1.2.2.2.1, ((y9.1.1.2.2.2.2.1.1, (y9.1.1.2.2.2.2.1.2.1, (y9.1.1.2.2.2.2.1.2.2.1, (y9.1.1.2.2.2.2.1.2.2.2.1, (y9.1.1.2.2.2.2.1.2.2.2.2.1, (y9.1.1.2.2.2.2.1.2.2.2.2.2.1, ())))))), ((y9.1.1.2.2.2.2.2.1.1, (y9.1.1.2.2.2.2.2.1.2.1, ())), (y9.1.1.2.2.2.2.2.2.1, (y9.1.1.2.2.2.2.2.2.2.1, (y9.1.1.2.2.2.2.2.2.2.2.1, (y9.1.1.2.2.2.2.2.2.2.2.2.1, ())))))))))), ((x1.1, (x1.2.1, (x1.2.2.1, (x1.2.2.2.1, (x1.2.2.2.2.1, (x1.2.2.2.2.2.1, ())))))), ()))).bind fun y11 =>
 brk (!y11.1.2.1)
 ((impl_copyNode_F ((x0.1, (x0.2.1, (x0.2.2.1, (x0.2.2.2.1, ((x0.2.2.2.2.1.1, (x0.2.2.2.2.1.2.1, (x0.2.2.2.2.1.2.2.1, (x0.2.2.2.2.1.2.2.2.1, (x0.2.2.2.2.1.2.2.2.2.1, (x0.2.2.2.2.1.2.2.2.2.2.1, ())))))), ((x0.2.2.2.2.2.1.1, (x0.2.2.2.2.2.1.2.1, ())), (x0.2.2.2.2.2.2.1, (x0.2.2.2.2.2.2.2.1, (x0.2.2.2.2.2.2.2.2.1, (x0.2.2.2.2.2.2.2.2.2.1, ())))))))))), ())).bind fun y22 =>
 some (((y22.1.1.1, (y22.1.1.2.1, (y22.1.1.2.2.1, (y22.1.1.2.2.2.1, ((y22.1.1.2.2.2.2.1.1, (y22.1.1.2.2.2.2.1.2.1, (y22.1.1.2.2.2.2.1.2.2.1, (y22.1.1.2.2.2.2.1.2.2.2.1, (y22.1.1.2.2.2.2.1.2.2.2.2.1, (y22.1.1.2.2.2.2.1.2.2.2.2.2.1, ())))))), ((y22.1.1.2.2.2.2.2.1.1, (y22.1.1.2.2.2.2.2.1.2.1, ())), (y22.1.1.2.2.2.2.2.2.1, (y22.1.1.2.2.2.2.2.2.2.1, (y22.1.1.2.2.2.2.2.2.2.2.1, (y22.1.1.2.2.2.2.2.2.2.2.2.1, ())))))))))), ()), ((), ((), ()))))
 ((impl_NodeOk_F ((x0.1, (x0.2.1, (x0.2.2.1, (x0.2.2.2.1, ((x0.2.2.2.2.1.1, (x0.2.2.2.2.1.2.1, (x0.2.2.2.2.1.2.2.1, (x0.2.2.2.2.1.2.2.2.1, (x0.2.2.2.2.1.2.2.2.2.1, (x0.2.2.2.2.1.2.2.2.2.2.1, ())))))), ((x0.2.2.2.2.2.1.1, (x0.2.2.2.2.2.1.2.1, ())), (x0.2.2.2.2.2.2.1, (x0.2.2.2.2.2.2.2.1, (x0.2.2.2.2.2.2.2.2.1, (x0.2.2.2.2.2.2.2.2.2.1, ())))))))))), ())).bind fun y18 =>
 brk (!y18.1.1)
 ((impl_copyNode_F ((x0.1, (x0.2.1, (x0.2.2.1, (x0.2.2.2.1, ((x0.2.2.2.2.1.1, (x0.2.2.2.2.1.2.1, (x0.2.2.2.2.1.2.2.1, (x0.2.2.2.2.1.2.2.2.1, (x0.2.2.2.2.1.2.2.2.2.1, (x0.2.2.2.2.1.2.2.2.2.2.1, ())))))), ((x0.2.2.2.2.2.1.1, (x0.2.2.2.2.2.1.2.1, ())), (x0.2.2.2.2.2.2.1, (x0.2.2.2.2.2.2.2.1, (x0.2.2.2.2.2.2.2.2.1, (x0.2.2.2.2.2.2.2.2.2.1, ())))))))))), ())).bind fun y22 =>
 some (((y22.1.1.1, (y22.1.1.2.1, (y22.1.1.2.2.1, (y22.1.1.2.2.2.1, ((y22.1.1.2.2.2.2.1.1, (y22.1.1.2.2.2.2.1.2.1, (y22.1.1.2.2.2.2.1.2.2.1, (y22.1.1.2.2.2.2.1.2.2.2.1, (y22.1.1.2.2.2.2.1.2.2.2.2.1, (y22.1.1.2.2.2.2.1.2.2.2.2.2.1, ())))))), ((y22.1.1.2.2.2.2.2.1.1, (y22.1.1.2.2.2.2.2.1.2.1, ())), (y22.1.1.2.2.2.2.2.2.1, (y22.1.1.2.2.2.2.2.2.2.1, (y22.1.1.2.2.2.2.2.2.2.2.1, (y22.1.1.2.2.2.2.2.2.2.2.2.1, ())))))))))), ()), ((), ((), ()))))
 (some (((y11.1.1.1, (y11.1.1.2.1, (y11.1.1.2.2.1, (y11.1.1.2.2.2.1, ((y11.1.1.2.2.2.2.1.1, (y11.1.1.2.2.2.2.1.2.1, (y11.1.1.2.2.2.2.1.2.2.1, (y11.1.1.2.2.2.2.1.2.2.2.1, (y11.1.1.2.2.2.2.1.2.2.2.2.1, (y11.1.1.2.2.2.2.1.2.2.2.2.2.1, ())))))), ((y11.1.1.2.2.2.2.2.1.1, (y11.1.1.2.2.2.2.2.1.2.1, ())), (y11.1.1.2.2.2.2.2.2.1, (y11.1.1.2.2.2.2.2.2.2.1, (y11.1.1.2.2.2.2.2.2.2.2.1, (y11.1.1.2.2.2.2.2.2.2.2.2.1, ())))))))))), ()), ((), ((), ()))))))
 ((impl_copyNode_F ((x0.1, (x0.2.1, (x0.2.2.1, (x0.2.2.2.1, ((x0.2.2.2.2.1.1, (x0.2.2.2.2.1.2.1, (x0.2.2.2.2.1.2.2.1, (x0.2.2.2.2.1.2.2.2.1, (x0.2.2.2.2.1.2.2.2.2.1, (x0.2.2.2.2.1.2.2.2.2.2.1, ())))))), ((x0.2.2.2.2.2.1.1, (x0.2.2.2.2.2.1.2.1, ())), (x0.2.2.2.2.2.2.1, (x0.2.2.2.2.2.2.2.1, (x0.2.2.2.2.2.2.2.2.1, (x0.2.2.2.2.2.2.2.2.2.1, ())))))))))), ())).bind fun y9 =>
 (impl_keep_F ((y9.1.1.1, (y9.1.1.2.1, (y9.1.1.2.2.1, (y9.1.1.2.2.2.1, ((y9.1.1.2.2.2.2.1.1, (y9.1.1.2.2.2.2.1.2.1, (y9.1.1.2.2.2.2.1.2.2.1, (y9.1.1.2.2.2.2.1.2.2.2.1, (y9.1.1.2.2.2.2.1.2.2.2.2.1, (y9.1.1.2.2.2.2.1.2.2.2.2.2.1, ())))))), ((y9.1.1.2.2.2.2.2.1.1, (y9.1.1.2.2.2.2.2.1.2.1, ())), (y9.1.1.2.2.2.2.2.2.1, (y9.1.1.2.2.2.2.2.2.2.1, (y9.1.1.2.2.2.2.2.2.2.2.1, (y9.1.1.2.2.2.2.2.2.2.2.2.1, ())))))))))), ((x1.1, (x1.2.1, (x1.2.2.1, (x1.2.2.2.1, (x1.2.2.2.2.1, (x1.2.2.2.2.2.1, ())))))), ()))).bind fun y11 =>
 brk (!y11.1.2.1)
 ((impl_copyNode_F ((x0.1, (x0.2.1, (x0.2.2.1, (x0.2.2.2.1, ((x0.2.2.2.2.1.1, (x0.2.2.2.2.1.2.1, (x0.2.2.2.2.1.2.2.1, (x0.2.2.2.2.1.2.2.2.1, (x0.2.2.2.2.1.2.2.2.2.1, (x0.2.2.2.2.1.2.2.2.2.2.1, ())))))), ((x0.2.2.2.2.2.1.1, (x0.2.2.2.2.2.1.2.1, ())), (x0.2.2.2.2.2.2.1, (x0.2.2.2.2.2.2.2.1, (x0.2.2.2.2.2.2.2.2.1, (x0.2.2.2.2.2.2.2.2.2.1, ())))))))))), ())).bind fun y22 =>
 some (((y22.1.1.1, (y22.1.1.2.1, (y22.1.1.2.2.1, (y22.1.1.2.2.2.1, ((y22.1.1.2.2.2.2.1.1, (y22.1.1.2.2.2.2.1.2.1, (y22.1.1.2.2.2.2.1.2.2.1, (y22.1.1.2.2.2.2.1.2.2.2.1, (y22.1.1.2.2.2.2.1.2.2.2.2.1, (y22.1.1.2.2.2.2.1.2.2.2.2.2.1, ())))))), ((y22.1.1.2.2.2.2.2.1.1, (y22.1.1.2.2.2.2.2.1.2.1, ())), (y22.1.1.2.2.2.2.2.2.1, (y22.1.1.2.2.2.2.2.2.2.1, (y22.1.1.2.2.2.2.2.2.2.2.1, (y22.1.1.2.2.2.2.2.2.2.2.2.1, ())))))))))), ()), ((), ((), ()))))
 ((impl_NodeOk_F ((x0.1, (x0.2.1, (x0.2.2.1, (x0.2.2.2.1, ((x0.2.2.2.2.1.1, (x0.2.2.2.2.1.2.1, (x0.2.2.2.2.1.2.2.1, (x0.2.2.2.2.1.2.2.2.1, (x0.2.2.2.2.1.2.2.2.2.1, (x0.2.2.2.2.1.2.2.2.2.2.1, ())))))), ((x0.2.2.2.2.2.1.1, (x0.2.2.2.2.2.1.2.1, ())), (x0.2.2.2.2.2.2.1, (x0.2.2.2.2.2.2.2.1, (x0.2.2.2.2.2.2.2.2.1, (x0.2.2.2.2.2.2.2.2.2.1, ())))))))))), ())).bind fun y18 =>
 brk (!y18.1.1)
 ((impl_copyNode_F ((x0.1, (x0.2.1, (x0.2.2.1, (x0.2.2.2.1, ((x0.2.2.2.2.1.1, (x0.2.2.2.2.1.2.1, (x0.2.2.2.2.1.2.2.1, (x0.2.2.2.2.1.2.2.2.1, (x0.2.2.2.2.1.2.2.2.2.1, (x0.2.2.2.2.1.2.2.2.2.2.1, ())))))), ((x0.2.2.2.2.2.1.1, (x0.2.2.2.2.2.1.2.1, ())), (x0.2.2.2.2.2.2.1, (x0.2.2.2.2.2.2.2.1, (x0.2.2.2.2.2.2.2.2.1, (x0.2.2.2.2.2.2.2.2.2.1, ())))))))))), ())).bind fun y22 =>
 some (((y22.1.1.1, (y22.1.1.2.1, (y22.1.1.2.2.1, (y22.1.1.2.2.2.1, ((y22.1.1.2.2.2.2.1.1, (y22.1.1.2.2.2.2.1.2.1, (y22.1.1.2.2.2.2.1.2.2.1, (y22.1.1.2.2.2.2.1.2.2.2.1, (y22.1.1.2.2.2.2.1.2.2.2.2.1, (y22.1.1.2.2.2.2.1.2.2.2.2.2.1, ())))))), ((y22.1.1.2.2.2.2.2.1.1, (y22.1.1.2.2.2.2.2.1.2.1, ())), (y22.1.1.2.2.2.2.2.2.1, (y22.1.1.2.2.2.2.2.2.2.1, (y22.1.1.2.2.2.2.2.2.2.2.1, (y22.1.1.2.2.2.2.2.2.2.2.2.1, ())))))))))), ()), ((), ((), ()))))
 (some (((y11.1.1.1, (y11.1.1.2.1, (y11.1.1.2.2.1, (y11.1.1.2.2.2.1, ((y11.1.1.2.2.2.2.1.1, (y11.1.1.2.2.2.2.1.2.1, (y11.1.1.2.2.2.2.1.2.2.1, (y11.1.1.2.2.2.2.1.2.2.2.1, (y11.1.1.2.2.2.2.1.2.2.2.2.1, (y11.1.1.2.2.2.2.1.2.2.2.2.2.1, ())))))), ((y11.1.1.2.2.2.2.2.1.1, (y11.1.1.2.2.2.2.2.1.2.1, ())), (y11.1.1.2.2.2.2.2.2.1, (y11.1.1.2.2.2.2.2.2.2.1, (y11.1.1.2.2.2.2.2.2.2.2.1, (y11.1.1.2.2.2.2.2.2.2.2.2.1, ())))))))))), ()), ((), ((), ())))))))
 ((impl_copyNode_F ((x0.1, (x0.2.1, (x0.2.2.1, (x0.2.2.2.1, ((x0.2.2.2.2.1.1, (x0.2.2.2.2.1.2.1, (x0.2.2.2.2.1.2.2.1, (x0.2.2.2.2.1.2.2.2.1, (x0.2.2.2.2.1.2.2.2.2.1, (x0.2.2.2.2.1.2.2.2.2.2.1, ())))))), ((x0.2.2.2.2.2.1.1, (x0.2.2.2.2.2.1.2.1, ())), (x0.2.2.2.2.2.2.1, (x0.2.2.2.2.2.2.2.1, (x0.2.2.2.2.2.2.2.2.1, (x0.2.2.2.2.2.2.2.2.2.1, ())))))))))), ())).bind fun y9 =>
 (impl_keep_F ((y9.1.1.1, (y9.1.1.2.1, (y9.1.1.2.2.1, (y9.1.1.2.2.2.1, ((y9.1.1.2.2.2.2.1.1, (y9.1.1.2.2.2.2.1.2.1, (y9.1.1.2.2.2.2.1.2.2.1, (y9.1.1.2.2.2.2.1.2.2.2.1, (y9.1.1.2.2.2.2.1.2.2.2.2.1, (y9.1.1.2.2.2.2.1.2.2.2.2.2.1, ())))))), ((y9.1.1.2.2.2.2.2.1.1, (y9.1.1.2.2.2.2.2.1.2.1, ())), (y9.1.1.2.2.2.2.2.2.1, (y9.1.1.2.2.2.2.2.2.2.1, (y9.1.1.2.2.2.2.2.2.2.2.1, (y9.1.1.2.2.2.2.2.2.2.2.2.1, ())))))))))), ((x1.1, (x1.2.1, (x1.2.2.1, (x1.2.2.2.1, (x1.2.2.2.2.1, (x1.2.2.2.2.2.1, ())))))), ()))).bind fun y11 =>
 brk (!y11.1.2.1)
 ((impl_copyNode_F ((x0.1, (x0.2.1, (x0.2.2.1, (x0.2.2.2.1, ((x0.2.2.2.2.1.1, (x0.2.2.2.2.1.2.1, (x0.2.2.2.2.1.2.2.1, (x0.2.2.2.2.1.2.2.2.1, (x0.2.2.2.2.1.2.2.2.2.1, (x0.2.2.2.2.1.2.2.2.2.2.1, ())))))), ((x0.2.2.2.2.2.1.1, (x0.2.2.2.2.2.1.2.1, ())), (x0.2.2.2.2.2.2.1, (x0.2.2.2.2.2.2.2.1, (x0.2.2.2.2.2.2.2.2.1, (x0.2.2.2.2.2.2.2.2.2.1, ())))))))))), ())).bind fun y22 =>
 some (((y22.1.1.1, (y22.1.1.2.1, (y22.1.1.2.2.1, (y22.1.1.2.2.2.1, ((y22.1.1.2.2.2.2.1.1, (y22.1.1.2.2.2.2.1.2.1, (y22.1.1.2.2.2.2.1.2.2.1, (y22.1.1.2.2.2.2.1.2.2.2.1, (y22.1.1.2.2.2.2.1.2.2.2.2.1, (y22.1.1.2.2.2.2.1.2.2.2.2.2.1, ())))))), ((y22.1.1.2.2.2.2.2.1.1, (y22.1.1.2.2.2.2.2.1.2.1, ())), (y22.1.1.2.2.2.2.2.2.1, (y22.1.1.2.2.2.2.2.2.2.1, (y22.1.1.2.2.2.2.2.2.2.2.1, (y22.1.1.2.2.2.2.2.2.2.2.2.1, ())))))))))), ()), ((), ((), ()))))
 ((impl_NodeOk_F ((x0.1, (x0.2.1, (x0.2.2.1, (x0.2.2.2.1, ((x0.2.2.2.2.1.1, (x0.2.2.2.2.1.2.1, (x0.2.2.2.2.1.2.2.1, (x0.2.2.2.2.1.2.2.2.1, (x0.2.2.2.2.1.2.2.2.2.1, (x0.2.2.2.2.1.2.2.2.2.2.1, ())))))), ((x0.2.2.2.2.2.1.1, (x0.2.2.2.2.2.1.2.1, ())), (x0.2.2.2.2.2.2.1, (x0.2.2.2.2.2.2.2.1, (x0.2.2.2.2.2.2.2.2.1, (x0.2.2.2.2.2.2.2.2.2.1, ())))))))))), ())).bind fun y18 =>
 brk (!y18.1.1)
 ((impl_copyNode_F ((x0.1, (x0.2.1, (x0.2.2.1, (x0.2.2.2.1, ((x0.2.2.2.2.1.1, (x0.2.2.2.2.1.2.1, (x0.2.2.2.2.1.2.2.1, (x0.2.2.2.2.1.2.2.2.1, (x0.2.2.2.2.1.2.2.2.2.1, (x0.2.2.2.2.1.2.2.2.2.2.1, ())))))), ((x0.2.2.2.2.2.1.1, (x0.2.2.2.2.2.1.2.1, ())), (x0.2.2.2.2.2.2.1, (x0.2.2.2.2.2.2.2.1, (x0.2.2.2.2.2.2.2.2.1, (x0.2.2.2.2.2.2.2.2.2.1, ())))))))))), ())).bind fun y22 =>
 some (((y22.1.1.1, (y22.1.1.2.1, (y22.1.1.2.2.1, (y22.1.1.2.2.2.1, ((y22.1.1.2.2.2.2.1.1, (y22.1.1.2.2.2.2.1.2.1, (y22.1.1.2.2.2.2.1.2.2.1, (y22.1.1.2.2.2.2.1.2.2.2.1, (y22.1.1.2.2.2.2.1.2.2.2.2.1, (y22.1.1.2.2.2.2.1.2.2.2.2.2.1, ())))))), ((y22.1.1.2.2.2.2.2.1.1, (y22.1.1.2.2.2.2.2.1.2.1, ())), (y22.1.1.2.2.2.2.2.2.1, (y22.1.1.2.2.2.2.2.2.2.1, (y22.1.1.2.2.2.2.2.2.2.2.1, (y22.1.1.2.2.2.2.2.2.2.2.2.1, ())))))))))), ()), ((), ((), ()))))
 (some (((y11.1.1.1, (y11.1.1.2.1, (y11.1.1.2.2.1, (y11.1.1.2.2.2.1, ((y11.1.1.2.2.2.2.1.1, (y11.1.1.2.2.2.2.1.2.1, (y11.1.1.2.2.2.2.1.2.2.1, (y11.1.1.2.2.2.2.1.2.2.2.1, (y11.1.1.2.2.2.2.1.2.2.2.2.1, (y11.1.1.2.2.2.2.1.2.2.2.2.2.1, ())))))), ((y11.1.1.2.2.2.2.2.1.1, (y11.1.1.2.2.2.2.2.1.2.1, ())), (y11.1.1.2.2.2.2.2.2.1, (y11.1.1.2.2.2.2.2.2.2.1, (y11.1.1.2.2.2.2.2.2.2.2.1, (y11.1.1.2.2.2.2.2.2.2.2.2.1, ())))))))))), ()), ((), ((), ())))))))) := by kernel_rfl
/-! laws.FnExactKeep -/
noncomputable def laws_FnExactKeep_b : Code := bd Tryz.f5
def laws_FnExactKeep_T : List (Nat × Tm) := []
noncomputable def laws_FnExactKeep_E : Env := ⟨tt0, [(6, laws_szNode_C), (8, laws_toNode_C), (10, laws_eqNode_C), (11, laws_markNode_C), (12, laws_heldNode_C), (15, laws_szMeta_C), (16, spec_Keep_C), (17, laws_toMeta_C), (18, impl_Keep_C), (19, laws_eqMeta_C), (20, laws_markMeta_C)]⟩
noncomputable def laws_FnExactKeep_F : PsD [.ro tNode, .ro tMeta] → Option (RsD [.own tB] × PsO [.ro tNode, .ro tMeta]) := fun x => evFn laws_FnExactKeep_E laws_FnExactKeep_T Tryz.f5 laws_FnExactKeep_b [.ro tNode, .ro tMeta] [.own tB] x
@[reducible] noncomputable def laws_FnExactKeep_C : Ct := ⟨[.ro tNode, .ro tMeta], [.own tB], laws_FnExactKeep_F⟩
theorem laws_FnExactKeep_h (x : PsD [.ro tNode, .ro tMeta]) (y : RsD [.own tB] × PsO [.ro tNode, .ro tMeta]) (h : laws_FnExactKeep_F x = some y) : evFn laws_FnExactKeep_E laws_FnExactKeep_T Tryz.f5 laws_FnExactKeep_b [.ro tNode, .ro tMeta] [.own tB] x = some y := h
theorem laws_FnExactKeep_c : ∀ f c, get laws_FnExactKeep_E.ct f = some c → Sat Tryz.prog f c := ct_cons laws_szNode_S (ct_cons laws_toNode_S (ct_cons laws_eqNode_S (ct_cons laws_markNode_S (ct_cons laws_heldNode_S (ct_cons laws_szMeta_S (ct_cons spec_Keep_S (ct_cons laws_toMeta_S (ct_cons impl_Keep_S (ct_cons laws_eqMeta_S (ct_cons laws_markMeta_S (ct_nil)))))))))))
theorem laws_FnExactKeep_S : Sat Tryz.prog 5 laws_FnExactKeep_C := fn_ok2 (envOk _) laws_FnExactKeep_c mixedOk Tryz.func5 (by kernel_rfl : Tryz.f5.body = some laws_FnExactKeep_b) (by kernel_rfl) (by kernel_rfl) laws_FnExactKeep_h
noncomputable def laws_FnExactKeep_Ke  (x0 : Int × Bool × Bool × List Int × (List Int × List (List Int) × Bool × Bool × Bool × Int × Unit) × (List Int × List Int × Unit) × List Bool × List (List Int) × List Bool × List Int × Unit) (x1 : List Int × List (List Int) × Bool × Bool × Bool × Int × Unit) : Ex → AS → Option (RsD [.own tB] × PsO [.ro tNode, .ro tMeta]) := endK laws_FnExactKeep_E Tryz.f5 [.ro tNode, .ro tMeta] [.own tB] (initL [.ro tNode, .ro tMeta] (x0, (x1, ())) 0).1
theorem laws_FnExactKeep_main (x0 : Int × Bool × Bool × List Int × (List Int × List (List Int) × Bool × Bool × Bool × Int × Unit) × (List Int × List Int × Unit) × List Bool × List (List Int) × List Bool × List Int × Unit) (x1 : List Int × List (List Int) × Bool × Bool × Bool × Int × Unit) : laws_FnExactKeep_F (x0, (x1, ())) =
 (laws_szNode_F ((x0.1, (x0.2.1, (x0.2.2.1, (x0.2.2.2.1, ((x0.2.2.2.2.1.1, (x0.2.2.2.2.1.2.1, (x0.2.2.2.2.1.2.2.1, (x0.2.2.2.2.1.2.2.2.1, (x0.2.2.2.2.1.2.2.2.2.1, (x0.2.2.2.2.1.2.2.2.2.2.1, ())))))), ((x0.2.2.2.2.2.1.1, (x0.2.2.2.2.2.1.2.1, ())), (x0.2.2.2.2.2.2.1, (x0.2.2.2.2.2.2.2.1, (x0.2.2.2.2.2.2.2.2.1, (x0.2.2.2.2.2.2.2.2.2.1, ())))))))))), ((1048576 : Int), ()))).bind fun y16 =>
 brk (decide (y16.1.1 < (0 : Int)))
 (some ((true, ()), ((), ((), ()))))
 ((laws_szMeta_F ((x1.1, (x1.2.1, (x1.2.2.1, (x1.2.2.2.1, (x1.2.2.2.2.1, (x1.2.2.2.2.2.1, ())))))), (y16.1.1, ()))).bind fun y21 =>
 brk (decide (y21.1.1 < (0 : Int)))
 (some ((true, ()), ((), ((), ()))))
 (both ((laws_toNode_F ((x0.1, (x0.2.1, (x0.2.2.1, (x0.2.2.2.1, ((x0.2.2.2.2.1.1, (x0.2.2.2.2.1.2.1, (x0.2.2.2.2.1.2.2.1, (x0.2.2.2.2.1.2.2.2.1, (x0.2.2.2.2.1.2.2.2.2.1, (x0.2.2.2.2.1.2.2.2.2.2.1, ())))))), ((x0.2.2.2.2.2.1.1, (x0.2.2.2.2.2.1.2.1, ())), (x0.2.2.2.2.2.2.1, (x0.2.2.2.2.2.2.2.1, (x0.2.2.2.2.2.2.2.2.1, (x0.2.2.2.2.2.2.2.2.2.1, ())))))))))), ())).bind fun y25 =>
 both ((laws_toMeta_F ((x1.1, (x1.2.1, (x1.2.2.1, (x1.2.2.2.1, (x1.2.2.2.2.1, (x1.2.2.2.2.2.1, ())))))), ())).bind fun y27 =>
 both ((spec_Keep_F ((y25.1.1.1, (y25.1.1.2.1, (y25.1.1.2.2.1, (y25.1.1.2.2.2.1, ((y25.1.1.2.2.2.2.1.1, (y25.1.1.2.2.2.2.1.2.1, (y25.1.1.2.2.2.2.1.2.2.1, (y25.1.1.2.2.2.2.1.2.2.2.1, (y25.1.1.2.2.2.2.1.2.2.2.2.1, (y25.1.1.2.2.2.2.1.2.2.2.2.2.1, ())))))), ((y25.1.1.2.2.2.2.2.1.1, (y25.1.1.2.2.2.2.2.1.2.1, ())), (y25.1.1.2.2.2.2.2.2.1, (y25.1.1.2.2.2.2.2.2.2.1, (y25.1.1.2.2.2.2.2.2.2.2.1, (y25.1.1.2.2.2.2.2.2.2.2.2.1, ())))))))))), ((y27.1.1.1, (y27.1.1.2.1, (y27.1.1.2.2.1, (y27.1.1.2.2.2.1, (y27.1.1.2.2.2.2.1, (y27.1.1.2.2.2.2.2.1, ())))))), ()))).bind fun y28 =>
 (laws_toNode_F ((x0.1, (x0.2.1, (x0.2.2.1, (x0.2.2.2.1, ((x0.2.2.2.2.1.1, (x0.2.2.2.2.1.2.1, (x0.2.2.2.2.1.2.2.1, (x0.2.2.2.2.1.2.2.2.1, (x0.2.2.2.2.1.2.2.2.2.1, (x0.2.2.2.2.1.2.2.2.2.2.1, ())))))), ((x0.2.2.2.2.2.1.1, (x0.2.2.2.2.2.1.2.1, ())), (x0.2.2.2.2.2.2.1, (x0.2.2.2.2.2.2.2.1, (x0.2.2.2.2.2.2.2.2.1, (x0.2.2.2.2.2.2.2.2.2.1, ())))))))))), ())).bind fun y30 =>
 (laws_toMeta_F ((x1.1, (x1.2.1, (x1.2.2.1, (x1.2.2.2.1, (x1.2.2.2.2.1, (x1.2.2.2.2.2.1, ())))))), ())).bind fun y32 =>
 (impl_Keep_F ((y30.1.1.1, (y30.1.1.2.1, (y30.1.1.2.2.1, (y30.1.1.2.2.2.1, ((y30.1.1.2.2.2.2.1.1, (y30.1.1.2.2.2.2.1.2.1, (y30.1.1.2.2.2.2.1.2.2.1, (y30.1.1.2.2.2.2.1.2.2.2.1, (y30.1.1.2.2.2.2.1.2.2.2.2.1, (y30.1.1.2.2.2.2.1.2.2.2.2.2.1, ())))))), ((y30.1.1.2.2.2.2.2.1.1, (y30.1.1.2.2.2.2.2.1.2.1, ())), (y30.1.1.2.2.2.2.2.2.1, (y30.1.1.2.2.2.2.2.2.2.1, (y30.1.1.2.2.2.2.2.2.2.2.1, (y30.1.1.2.2.2.2.2.2.2.2.2.1, ())))))))))), ((y32.1.1.1, (y32.1.1.2.1, (y32.1.1.2.2.1, (y32.1.1.2.2.2.1, (y32.1.1.2.2.2.2.1, (y32.1.1.2.2.2.2.2.1, ())))))), ()))).bind fun y35 =>
 (laws_eqNode_F ((y35.1.1.1, (y35.1.1.2.1, (y35.1.1.2.2.1, (y35.1.1.2.2.2.1, ((y35.1.1.2.2.2.2.1.1, (y35.1.1.2.2.2.2.1.2.1, (y35.1.1.2.2.2.2.1.2.2.1, (y35.1.1.2.2.2.2.1.2.2.2.1, (y35.1.1.2.2.2.2.1.2.2.2.2.1, (y35.1.1.2.2.2.2.1.2.2.2.2.2.1, ())))))), ((y35.1.1.2.2.2.2.2.1.1, (y35.1.1.2.2.2.2.2.1.2.1, ())), (y35.1.1.2.2.2.2.2.2.1, (y35.1.1.2.2.2.2.2.2.2.1, (y35.1.1.2.2.2.2.2.2.2.2.1, (y35.1.1.2.2.2.2.2.2.2.2.2.1, ())))))))))), ((y28.1.1.1, (y28.1.1.2.1, (y28.1.1.2.2.1, (y28.1.1.2.2.2.1, ((y28.1.1.2.2.2.2.1.1, (y28.1.1.2.2.2.2.1.2.1, (y28.1.1.2.2.2.2.1.2.2.1, (y28.1.1.2.2.2.2.1.2.2.2.1, (y28.1.1.2.2.2.2.1.2.2.2.2.1, (y28.1.1.2.2.2.2.1.2.2.2.2.2.1, ())))))), ((y28.1.1.2.2.2.2.2.1.1, (y28.1.1.2.2.2.2.2.1.2.1, ())), (y28.1.1.2.2.2.2.2.2.1, (y28.1.1.2.2.2.2.2.2.2.1, (y28.1.1.2.2.2.2.2.2.2.2.1, (y28.1.1.2.2.2.2.2.2.2.2.2.1, ())))))))))), ()))).bind fun y38 =>
 brk (!y38.1.1)
 (some ((false, ()), ((), ((), ()))))
 ((laws_toNode_F ((x0.1, (x0.2.1, (x0.2.2.1, (x0.2.2.2.1, ((x0.2.2.2.2.1.1, (x0.2.2.2.2.1.2.1, (x0.2.2.2.2.1.2.2.1, (x0.2.2.2.2.1.2.2.2.1, (x0.2.2.2.2.1.2.2.2.2.1, (x0.2.2.2.2.1.2.2.2.2.2.1, ())))))), ((x0.2.2.2.2.2.1.1, (x0.2.2.2.2.2.1.2.1, ())), (x0.2.2.2.2.2.2.1, (x0.2.2.2.2.2.2.2.1, (x0.2.2.2.2.2.2.2.2.1, (x0.2.2.2.2.2.2.2.2.2.1, ())))))))))), ())).bind fun y42 =>
 (laws_eqNode_F ((y30.1.1.1, (y30.1.1.2.1, (y30.1.1.2.2.1, (y30.1.1.2.2.2.1, ((y30.1.1.2.2.2.2.1.1, (y30.1.1.2.2.2.2.1.2.1, (y30.1.1.2.2.2.2.1.2.2.1, (y30.1.1.2.2.2.2.1.2.2.2.1, (y30.1.1.2.2.2.2.1.2.2.2.2.1, (y30.1.1.2.2.2.2.1.2.2.2.2.2.1, ())))))), ((y30.1.1.2.2.2.2.2.1.1, (y30.1.1.2.2.2.2.2.1.2.1, ())), (y30.1.1.2.2.2.2.2.2.1, (y30.1.1.2.2.2.2.2.2.2.1, (y30.1.1.2.2.2.2.2.2.2.2.1, (y30.1.1.2.2.2.2.2.2.2.2.2.1, ())))))))))), ((y42.1.1.1, (y42.1.1.2.1, (y42.1.1.2.2.1, (y42.1.1.2.2.2.1, ((y42.1.1.2.2.2.2.1.1, (y42.1.1.2.2.2.2.1.2.1, (y42.1.1.2.2.2.2.1.2.2.1, (y42.1.1.2.2.2.2.1.2.2.2.1, (y42.1.1.2.2.2.2.1.2.2.2.2.1, (y42.1.1.2.2.2.2.1.2.2.2.2.2.1, ())))))), ((y42.1.1.2.2.2.2.2.1.1, (y42.1.1.2.2.2.2.2.1.2.1, ())), (y42.1.1.2.2.2.2.2.2.1, (y42.1.1.2.2.2.2.2.2.2.1, (y42.1.1.2.2.2.2.2.2.2.2.1, (y42.1.1.2.2.2.2.2.2.2.2.2.1, ())))))))))), ()))).bind fun y43 =>
 brk (!y43.1.1)
 (some ((false, ()), ((), ((), ()))))
 ((laws_toMeta_F ((x1.1, (x1.2.1, (x1.2.2.1, (x1.2.2.2.1, (x1.2.2.2.2.1, (x1.2.2.2.2.2.1, ())))))), ())).bind fun y47 =>
 (laws_eqMeta_F ((y32.1.1.1, (y32.1.1.2.1, (y32.1.1.2.2.1, (y32.1.1.2.2.2.1, (y32.1.1.2.2.2.2.1, (y32.1.1.2.2.2.2.2.1, ())))))), ((y47.1.1.1, (y47.1.1.2.1, (y47.1.1.2.2.1, (y47.1.1.2.2.2.1, (y47.1.1.2.2.2.2.1, (y47.1.1.2.2.2.2.2.1, ())))))), ()))).bind fun y48 =>
 brk (!y48.1.1)
 (some ((false, ()), ((), ((), ()))))
 ((laws_markNode_F ((y30.1.1.1, (y30.1.1.2.1, (y30.1.1.2.2.1, (y30.1.1.2.2.2.1, ((y30.1.1.2.2.2.2.1.1, (y30.1.1.2.2.2.2.1.2.1, (y30.1.1.2.2.2.2.1.2.2.1, (y30.1.1.2.2.2.2.1.2.2.2.1, (y30.1.1.2.2.2.2.1.2.2.2.2.1, (y30.1.1.2.2.2.2.1.2.2.2.2.2.1, ())))))), ((y30.1.1.2.2.2.2.2.1.1, (y30.1.1.2.2.2.2.2.1.2.1, ())), (y30.1.1.2.2.2.2.2.2.1, (y30.1.1.2.2.2.2.2.2.2.1, (y30.1.1.2.2.2.2.2.2.2.2.1, (y30.1.1.2.2.2.2.2.2.2.2.2.1, ())))))))))), ((1 : Int), ()))).bind fun y52 =>
 (laws_markMeta_F ((y32.1.1.1, (y32.1.1.2.1, (y32.1.1.2.2.1, (y32.1.1.2.2.2.1, (y32.1.1.2.2.2.2.1, (y32.1.1.2.2.2.2.2.1, ())))))), (y52.1.1, ()))).bind fun y55 =>
 brk (decide (y55.1.1 < (0 : Int)))
 (some ((false, ()), ((), ((), ()))))
 ((laws_eqNode_F ((y35.1.1.1, (y35.1.1.2.1, (y35.1.1.2.2.1, (y35.1.1.2.2.2.1, ((y35.1.1.2.2.2.2.1.1, (y35.1.1.2.2.2.2.1.2.1, (y35.1.1.2.2.2.2.1.2.2.1, (y35.1.1.2.2.2.2.1.2.2.2.1, (y35.1.1.2.2.2.2.1.2.2.2.2.1, (y35.1.1.2.2.2.2.1.2.2.2.2.2.1, ())))))), ((y35.1.1.2.2.2.2.2.1.1, (y35.1.1.2.2.2.2.2.1.2.1, ())), (y35.1.1.2.2.2.2.2.2.1, (y35.1.1.2.2.2.2.2.2.2.1, (y35.1.1.2.2.2.2.2.2.2.2.1, (y35.1.1.2.2.2.2.2.2.2.2.2.1, ())))))))))), ((y28.1.1.1, (y28.1.1.2.1, (y28.1.1.2.2.1, (y28.1.1.2.2.2.1, ((y28.1.1.2.2.2.2.1.1, (y28.1.1.2.2.2.2.1.2.1, (y28.1.1.2.2.2.2.1.2.2.1, (y28.1.1.2.2.2.2.1.2.2.2.1, (y28.1.1.2.2.2.2.1.2.2.2.2.1, (y28.1.1.2.2.2.2.1.2.2.2.2.2.1, ())))))), ((y28.1.1.2.2.2.2.2.1.1, (y28.1.1.2.2.2.2.2.1.2.1, ())), (y28.1.1.2.2.2.2.2.2.1, (y28.1.1.2.2.2.2.2.2.2.1, (y28.1.1.2.2.2.2.2.2.2.2.1, (y28.1.1.2.2.2.2.2.2.2.2.2.1, ())))))))))), ()))).bind fun y61 =>
 brk (!y61.1.1)
 (some ((false, ()), ((), ((), ()))))
 ((laws_markNode_F ((y35.1.1.1, (y35.1.1.2.1, (y35.1.1.2.2.1, (y35.1.1.2.2.2.1, ((y35.1.1.2.2.2.2.1.1, (y35.1.1.2.2.2.2.1.2.1, (y35.1.1.2.2.2.2.1.2.2.1, (y35.1.1.2.2.2.2.1.2.2.2.1, (y35.1.1.2.2.2.2.1.2.2.2.2.1, (y35.1.1.2.2.2.2.1.2.2.2.2.2.1, ())))))), ((y35.1.1.2.2.2.2.2.1.1, (y35.1.1.2.2.2.2.2.1.2.1, ())), (y35.1.1.2.2.2.2.2.2.1, (y35.1.1.2.2.2.2.2.2.2.1, (y35.1.1.2.2.2.2.2.2.2.2.1, (y35.1.1.2.2.2.2.2.2.2.2.2.1, ())))))))))), ((1 : Int), ()))).bind fun y66 =>
 (laws_heldNode_F ((y35.1.1.1, (y35.1.1.2.1, (y35.1.1.2.2.1, (y66.2.1.2.2.2.1, ((y66.2.1.2.2.2.2.1.1, (y66.2.1.2.2.2.2.1.2.1, (y35.1.1.2.2.2.2.1.2.2.1, (y35.1.1.2.2.2.2.1.2.2.2.1, (y35.1.1.2.2.2.2.1.2.2.2.2.1, (y35.1.1.2.2.2.2.1.2.2.2.2.2.1, ())))))), ((y66.2.1.2.2.2.2.2.1.1, (y66.2.1.2.2.2.2.2.1.2.1, ())), (y66.2.1.2.2.2.2.2.2.1, (y66.2.1.2.2.2.2.2.2.2.1, (y66.2.1.2.2.2.2.2.2.2.2.1, (y66.2.1.2.2.2.2.2.2.2.2.2.1, ())))))))))), ((1 : Int), ()))).bind fun y69 =>
 brk (decide (y69.1.1 < (0 : Int)))
 (some ((false, ()), ((), ((), ()))))
 (brk (!decide (y69.1.1 = y66.1.1))
 (some ((false, ()), ((), ((), ()))))
 (both ((laws_toNode_F ((x0.1, (x0.2.1, (x0.2.2.1, (x0.2.2.2.1, ((x0.2.2.2.2.1.1, (x0.2.2.2.2.1.2.1, (x0.2.2.2.2.1.2.2.1, (x0.2.2.2.2.1.2.2.2.1, (x0.2.2.2.2.1.2.2.2.2.1, (x0.2.2.2.2.1.2.2.2.2.2.1, ())))))), ((x0.2.2.2.2.2.1.1, (x0.2.2.2.2.2.1.2.1, ())), (x0.2.2.2.2.2.2.1, (x0.2.2.2.2.2.2.2.1, (x0.2.2.2.2.2.2.2.2.1, (x0.2.2.2.2.2.2.2.2.2.1, ())))))))))), ())).bind fun y76 =>
 both ((laws_toMeta_F ((x1.1, (x1.2.1, (x1.2.2.1, (x1.2.2.2.1, (x1.2.2.2.2.1, (x1.2.2.2.2.2.1, ())))))), ())).bind fun y78 =>
 both ((impl_Keep_F ((y76.1.1.1, (y76.1.1.2.1, (y76.1.1.2.2.1, (y76.1.1.2.2.2.1, ((y76.1.1.2.2.2.2.1.1, (y76.1.1.2.2.2.2.1.2.1, (y76.1.1.2.2.2.2.1.2.2.1, (y76.1.1.2.2.2.2.1.2.2.2.1, (y76.1.1.2.2.2.2.1.2.2.2.2.1, (y76.1.1.2.2.2.2.1.2.2.2.2.2.1, ())))))), ((y76.1.1.2.2.2.2.2.1.1, (y76.1.1.2.2.2.2.2.1.2.1, ())), (y76.1.1.2.2.2.2.2.2.1, (y76.1.1.2.2.2.2.2.2.2.1, (y76.1.1.2.2.2.2.2.2.2.2.1, (y76.1.1.2.2.2.2.2.2.2.2.2.1, ())))))))))), ((y78.1.1.1, (y78.1.1.2.1, (y78.1.1.2.2.1, (y78.1.1.2.2.2.1, (y78.1.1.2.2.2.2.1, (y78.1.1.2.2.2.2.2.1, ())))))), ()))).bind fun y79 =>
 (laws_eqNode_F ((y79.1.1.1, (y79.1.1.2.1, (y79.1.1.2.2.1, (y79.1.1.2.2.2.1, ((y79.1.1.2.2.2.2.1.1, (y79.1.1.2.2.2.2.1.2.1, (y79.1.1.2.2.2.2.1.2.2.1, (y79.1.1.2.2.2.2.1.2.2.2.1, (y79.1.1.2.2.2.2.1.2.2.2.2.1, (y79.1.1.2.2.2.2.1.2.2.2.2.2.1, ())))))), ((y79.1.1.2.2.2.2.2.1.1, (y79.1.1.2.2.2.2.2.1.2.1, ())), (y79.1.1.2.2.2.2.2.2.1, (y79.1.1.2.2.2.2.2.2.2.1, (y79.1.1.2.2.2.2.2.2.2.2.1, (y79.1.1.2.2.2.2.2.2.2.2.2.1, ())))))))))), ((y28.1.1.1, (y28.1.1.2.1, (y28.1.1.2.2.1, (y28.1.1.2.2.2.1, ((y28.1.1.2.2.2.2.1.1, (y28.1.1.2.2.2.2.1.2.1, (y28.1.1.2.2.2.2.1.2.2.1, (y28.1.1.2.2.2.2.1.2.2.2.1, (y28.1.1.2.2.2.2.1.2.2.2.2.1, (y28.1.1.2.2.2.2.1.2.2.2.2.2.1, ())))))), ((y28.1.1.2.2.2.2.2.1.1, (y28.1.1.2.2.2.2.2.1.2.1, ())), (y28.1.1.2.2.2.2.2.2.1, (y28.1.1.2.2.2.2.2.2.2.1, (y28.1.1.2.2.2.2.2.2.2.2.1, (y28.1.1.2.2.2.2.2.2.2.2.2.1, ())))))))))), ()))).bind fun y82 =>
 brk (!y82.1.1)
 (some ((false, ()), ((), ((), ()))))
 ((laws_heldNode_F ((y35.1.1.1, (y35.1.1.2.1, (y35.1.1.2.2.1, (y66.2.1.2.2.2.1, ((y66.2.1.2.2.2.2.1.1, (y66.2.1.2.2.2.2.1.2.1, (y35.1.1.2.2.2.2.1.2.2.1, (y35.1.1.2.2.2.2.1.2.2.2.1, (y35.1.1.2.2.2.2.1.2.2.2.2.1, (y35.1.1.2.2.2.2.1.2.2.2.2.2.1, ())))))), ((y66.2.1.2.2.2.2.2.1.1, (y66.2.1.2.2.2.2.2.1.2.1, ())), (y66.2.1.2.2.2.2.2.2.1, (y66.2.1.2.2.2.2.2.2.2.1, (y66.2.1.2.2.2.2.2.2.2.2.1, (y66.2.1.2.2.2.2.2.2.2.2.2.1, ())))))))))), ((1 : Int), ()))).bind fun y86 =>
 brk (decide (y86.1.1 < (0 : Int)))
 (some ((false, ()), ((), ((), ()))))
 (brk (!decide (y86.1.1 = y66.1.1))
 (some ((false, ()), ((), ((), ()))))
 (some ((true, ()), ((), ((), ())))))))
 ((impl_Keep_F ((y76.1.1.1, (y76.1.1.2.1, (y76.1.1.2.2.1, (y76.1.1.2.2.2.1, ((y76.1.1.2.2.2.2.1.1, (y76.1.1.2.2.2.2.1.2.1, (y76.1.1.2.2.2.2.1.2.2.1, (y76.1.1.2.2.2.2.1.2.2.2.1, (y76.1.1.2.2.2.2.1.2.2.2.2.1, (y76.1.1.2.2.2.2.1.2.2.2.2.2.1, ())))))), ((y76.1.1.2.2.2.2.2.1.1, (y76.1.1.2.2.2.2.2.1.2.1, ())), (y76.1.1.2.2.2.2.2.2.1, (y76.1.1.2.2.2.2.2.2.2.1, (y76.1.1.2.2.2.2.2.2.2.2.1, (y76.1.1.2.2.2.2.2.2.2.2.2.1, ())))))))))), ((y78.1.1.1, (y78.1.1.2.1, (y78.1.1.2.2.1, (y78.1.1.2.2.2.1, (y78.1.1.2.2.2.2.1, (y78.1.1.2.2.2.2.2.1, ())))))), ()))).bind fun y79 =>
 (laws_eqNode_F ((y79.1.1.1, (y79.1.1.2.1, (y79.1.1.2.2.1, (y79.1.1.2.2.2.1, ((y79.1.1.2.2.2.2.1.1, (y79.1.1.2.2.2.2.1.2.1, (y79.1.1.2.2.2.2.1.2.2.1, (y79.1.1.2.2.2.2.1.2.2.2.1, (y79.1.1.2.2.2.2.1.2.2.2.2.1, (y79.1.1.2.2.2.2.1.2.2.2.2.2.1, ())))))), ((y79.1.1.2.2.2.2.2.1.1, (y79.1.1.2.2.2.2.2.1.2.1, ())), (y79.1.1.2.2.2.2.2.2.1, (y79.1.1.2.2.2.2.2.2.2.1, (y79.1.1.2.2.2.2.2.2.2.2.1, (y79.1.1.2.2.2.2.2.2.2.2.2.1, ())))))))))), ((y28.1.1.1, (y28.1.1.2.1, (y28.1.1.2.2.1, (y28.1.1.2.2.2.1, ((y28.1.1.2.2.2.2.1.1, (y28.1.1.2.2.2.2.1.2.1, (y28.1.1.2.2.2.2.1.2.2.1, (y28.1.1.2.2.2.2.1.2.2.2.1, (y28.1.1.2.2.2.2.1.2.2.2.2.1, (y28.1.1.2.2.2.2.1.2.2.2.2.2.1, ())))))), ((y28.1.1.2.2.2.2.2.1.1, (y28.1.1.2.2.2.2.2.1.2.1, ())), (y28.1.1.2.2.2.2.2.2.1, (y28.1.1.2.2.2.2.2.2.2.1, (y28.1.1.2.2.2.2.2.2.2.2.1, (y28.1.1.2.2.2.2.2.2.2.2.2.1, ())))))))))), ()))).bind fun y82 =>
 brk (!y82.1.1)
 (some ((false, ()), ((), ((), ()))))
 ((laws_heldNode_F ((y35.1.1.1, (y35.1.1.2.1, (y35.1.1.2.2.1, (y66.2.1.2.2.2.1, ((y66.2.1.2.2.2.2.1.1, (y66.2.1.2.2.2.2.1.2.1, (y35.1.1.2.2.2.2.1.2.2.1, (y35.1.1.2.2.2.2.1.2.2.2.1, (y35.1.1.2.2.2.2.1.2.2.2.2.1, (y35.1.1.2.2.2.2.1.2.2.2.2.2.1, ())))))), ((y66.2.1.2.2.2.2.2.1.1, (y66.2.1.2.2.2.2.2.1.2.1, ())), (y66.2.1.2.2.2.2.2.2.1, (y66.2.1.2.2.2.2.2.2.2.1, (y66.2.1.2.2.2.2.2.2.2.2.1, (y66.2.1.2.2.2.2.2.2.2.2.2.1, ())))))))))), ((1 : Int), ()))).bind fun y86 =>
 brk (decide (y86.1.1 < (0 : Int)))
 (some ((false, ()), ((), ((), ()))))
 (brk (!decide (y86.1.1 = y66.1.1))
 (some ((false, ()), ((), ((), ()))))
 (some ((true, ()), ((), ((), ()))))))))
 ((laws_toMeta_F ((x1.1, (x1.2.1, (x1.2.2.1, (x1.2.2.2.1, (x1.2.2.2.2.1, (x1.2.2.2.2.2.1, ())))))), ())).bind fun y78 =>
 (impl_Keep_F ((y76.1.1.1, (y76.1.1.2.1, (y76.1.1.2.2.1, (y76.1.1.2.2.2.1, ((y76.1.1.2.2.2.2.1.1, (y76.1.1.2.2.2.2.1.2.1, (y76.1.1.2.2.2.2.1.2.2.1, (y76.1.1.2.2.2.2.1.2.2.2.1, (y76.1.1.2.2.2.2.1.2.2.2.2.1, (y76.1.1.2.2.2.2.1.2.2.2.2.2.1, ())))))), ((y76.1.1.2.2.2.2.2.1.1, (y76.1.1.2.2.2.2.2.1.2.1, ())), (y76.1.1.2.2.2.2.2.2.1, (y76.1.1.2.2.2.2.2.2.2.1, (y76.1.1.2.2.2.2.2.2.2.2.1, (y76.1.1.2.2.2.2.2.2.2.2.2.1, ())))))))))), ((y78.1.1.1, (y78.1.1.2.1, (y78.1.1.2.2.1, (y78.1.1.2.2.2.1, (y78.1.1.2.2.2.2.1, (y78.1.1.2.2.2.2.2.1, ())))))), ()))).bind fun y79 =>
 (laws_eqNode_F ((y79.1.1.1, (y79.1.1.2.1, (y79.1.1.2.2.1, (y79.1.1.2.2.2.1, ((y79.1.1.2.2.2.2.1.1, (y79.1.1.2.2.2.2.1.2.1, (y79.1.1.2.2.2.2.1.2.2.1, (y79.1.1.2.2.2.2.1.2.2.2.1, (y79.1.1.2.2.2.2.1.2.2.2.2.1, (y79.1.1.2.2.2.2.1.2.2.2.2.2.1, ())))))), ((y79.1.1.2.2.2.2.2.1.1, (y79.1.1.2.2.2.2.2.1.2.1, ())), (y79.1.1.2.2.2.2.2.2.1, (y79.1.1.2.2.2.2.2.2.2.1, (y79.1.1.2.2.2.2.2.2.2.2.1, (y79.1.1.2.2.2.2.2.2.2.2.2.1, ())))))))))), ((y28.1.1.1, (y28.1.1.2.1, (y28.1.1.2.2.1, (y28.1.1.2.2.2.1, ((y28.1.1.2.2.2.2.1.1, (y28.1.1.2.2.2.2.1.2.1, (y28.1.1.2.2.2.2.1.2.2.1, (y28.1.1.2.2.2.2.1.2.2.2.1, (y28.1.1.2.2.2.2.1.2.2.2.2.1, (y28.1.1.2.2.2.2.1.2.2.2.2.2.1, ())))))), ((y28.1.1.2.2.2.2.2.1.1, (y28.1.1.2.2.2.2.2.1.2.1, ())), (y28.1.1.2.2.2.2.2.2.1, (y28.1.1.2.2.2.2.2.2.2.1, (y28.1.1.2.2.2.2.2.2.2.2.1, (y28.1.1.2.2.2.2.2.2.2.2.2.1, ())))))))))), ()))).bind fun y82 =>
 brk (!y82.1.1)
 (some ((false, ()), ((), ((), ()))))
 ((laws_heldNode_F ((y35.1.1.1, (y35.1.1.2.1, (y35.1.1.2.2.1, (y66.2.1.2.2.2.1, ((y66.2.1.2.2.2.2.1.1, (y66.2.1.2.2.2.2.1.2.1, (y35.1.1.2.2.2.2.1.2.2.1, (y35.1.1.2.2.2.2.1.2.2.2.1, (y35.1.1.2.2.2.2.1.2.2.2.2.1, (y35.1.1.2.2.2.2.1.2.2.2.2.2.1, ())))))), ((y66.2.1.2.2.2.2.2.1.1, (y66.2.1.2.2.2.2.2.1.2.1, ())), (y66.2.1.2.2.2.2.2.2.1, (y66.2.1.2.2.2.2.2.2.2.1, (y66.2.1.2.2.2.2.2.2.2.2.1, (y66.2.1.2.2.2.2.2.2.2.2.2.1, ())))))))))), ((1 : Int), ()))).bind fun y86 =>
 brk (decide (y86.1.1 < (0 : Int)))
 (some ((false, ()), ((), ((), ()))))
 (brk (!decide (y86.1.1 = y66.1.1))
 (some ((false, ()), ((), ((), ()))))
 (some ((true, ()), ((), ((), ()))))))))
 ((laws_toNode_F ((x0.1, (x0.2.1, (x0.2.2.1, (x0.2.2.2.1, ((x0.2.2.2.2.1.1, (x0.2.2.2.2.1.2.1, (x0.2.2.2.2.1.2.2.1, (x0.2.2.2.2.1.2.2.2.1, (x0.2.2.2.2.1.2.2.2.2.1, (x0.2.2.2.2.1.2.2.2.2.2.1, ())))))), ((x0.2.2.2.2.2.1.1, (x0.2.2.2.2.2.1.2.1, ())), (x0.2.2.2.2.2.2.1, (x0.2.2.2.2.2.2.2.1, (x0.2.2.2.2.2.2.2.2.1, (x0.2.2.2.2.2.2.2.2.2.1, ())))))))))), ())).bind fun y76 =>
 (laws_toMeta_F ((x1.1, (x1.2.1, (x1.2.2.1, (x1.2.2.2.1, (x1.2.2.2.2.1, (x1.2.2.2.2.2.1, ())))))), ())).bind fun y78 =>
 (impl_Keep_F ((y76.1.1.1, (y76.1.1.2.1, (y76.1.1.2.2.1, (y76.1.1.2.2.2.1, ((y76.1.1.2.2.2.2.1.1, (y76.1.1.2.2.2.2.1.2.1, (y76.1.1.2.2.2.2.1.2.2.1, (y76.1.1.2.2.2.2.1.2.2.2.1, (y76.1.1.2.2.2.2.1.2.2.2.2.1, (y76.1.1.2.2.2.2.1.2.2.2.2.2.1, ())))))), ((y76.1.1.2.2.2.2.2.1.1, (y76.1.1.2.2.2.2.2.1.2.1, ())), (y76.1.1.2.2.2.2.2.2.1, (y76.1.1.2.2.2.2.2.2.2.1, (y76.1.1.2.2.2.2.2.2.2.2.1, (y76.1.1.2.2.2.2.2.2.2.2.2.1, ())))))))))), ((y78.1.1.1, (y78.1.1.2.1, (y78.1.1.2.2.1, (y78.1.1.2.2.2.1, (y78.1.1.2.2.2.2.1, (y78.1.1.2.2.2.2.2.1, ())))))), ()))).bind fun y79 =>
 (laws_eqNode_F ((y79.1.1.1, (y79.1.1.2.1, (y79.1.1.2.2.1, (y79.1.1.2.2.2.1, ((y79.1.1.2.2.2.2.1.1, (y79.1.1.2.2.2.2.1.2.1, (y79.1.1.2.2.2.2.1.2.2.1, (y79.1.1.2.2.2.2.1.2.2.2.1, (y79.1.1.2.2.2.2.1.2.2.2.2.1, (y79.1.1.2.2.2.2.1.2.2.2.2.2.1, ())))))), ((y79.1.1.2.2.2.2.2.1.1, (y79.1.1.2.2.2.2.2.1.2.1, ())), (y79.1.1.2.2.2.2.2.2.1, (y79.1.1.2.2.2.2.2.2.2.1, (y79.1.1.2.2.2.2.2.2.2.2.1, (y79.1.1.2.2.2.2.2.2.2.2.2.1, ())))))))))), ((y28.1.1.1, (y28.1.1.2.1, (y28.1.1.2.2.1, (y28.1.1.2.2.2.1, ((y28.1.1.2.2.2.2.1.1, (y28.1.1.2.2.2.2.1.2.1, (y28.1.1.2.2.2.2.1.2.2.1, (y28.1.1.2.2.2.2.1.2.2.2.1, (y28.1.1.2.2.2.2.1.2.2.2.2.1, (y28.1.1.2.2.2.2.1.2.2.2.2.2.1, ())))))), ((y28.1.1.2.2.2.2.2.1.1, (y28.1.1.2.2.2.2.2.1.2.1, ())), (y28.1.1.2.2.2.2.2.2.1, (y28.1.1.2.2.2.2.2.2.2.1, (y28.1.1.2.2.2.2.2.2.2.2.1, (y28.1.1.2.2.2.2.2.2.2.2.2.1, ())))))))))), ()))).bind fun y82 =>
 brk (!y82.1.1)
 (some ((false, ()), ((), ((), ()))))
 ((laws_heldNode_F ((y35.1.1.1, (y35.1.1.2.1, (y35.1.1.2.2.1, (y66.2.1.2.2.2.1, ((y66.2.1.2.2.2.2.1.1, (y66.2.1.2.2.2.2.1.2.1, (y35.1.1.2.2.2.2.1.2.2.1, (y35.1.1.2.2.2.2.1.2.2.2.1, (y35.1.1.2.2.2.2.1.2.2.2.2.1, (y35.1.1.2.2.2.2.1.2.2.2.2.2.1, ())))))), ((y66.2.1.2.2.2.2.2.1.1, (y66.2.1.2.2.2.2.2.1.2.1, ())), (y66.2.1.2.2.2.2.2.2.1, (y66.2.1.2.2.2.2.2.2.2.1, (y66.2.1.2.2.2.2.2.2.2.2.1, (y66.2.1.2.2.2.2.2.2.2.2.2.1, ())))))))))), ((1 : Int), ()))).bind fun y86 =>
 brk (decide (y86.1.1 < (0 : Int)))
 (some ((false, ()), ((), ((), ()))))
 (brk (!decide (y86.1.1 = y66.1.1))
 (some ((false, ()), ((), ((), ()))))
 (some ((true, ()), ((), ((), ())))))))))))))))
 ((spec_Keep_F ((y25.1.1.1, (y25.1.1.2.1, (y25.1.1.2.2.1, (y25.1.1.2.2.2.1, ((y25.1.1.2.2.2.2.1.1, (y25.1.1.2.2.2.2.1.2.1, (y25.1.1.2.2.2.2.1.2.2.1, (y25.1.1.2.2.2.2.1.2.2.2.1, (y25.1.1.2.2.2.2.1.2.2.2.2.1, (y25.1.1.2.2.2.2.1.2.2.2.2.2.1, ())))))), ((y25.1.1.2.2.2.2.2.1.1, (y25.1.1.2.2.2.2.2.1.2.1, ())), (y25.1.1.2.2.2.2.2.2.1, (y25.1.1.2.2.2.2.2.2.2.1, (y25.1.1.2.2.2.2.2.2.2.2.1, (y25.1.1.2.2.2.2.2.2.2.2.2.1, ())))))))))), ((y27.1.1.1, (y27.1.1.2.1, (y27.1.1.2.2.1, (y27.1.1.2.2.2.1, (y27.1.1.2.2.2.2.1, (y27.1.1.2.2.2.2.2.1, ())))))), ()))).bind fun y28 =>
 (laws_toNode_F ((x0.1, (x0.2.1, (x0.2.2.1, (x0.2.2.2.1, ((x0.2.2.2.2.1.1, (x0.2.2.2.2.1.2.1, (x0.2.2.2.2.1.2.2.1, (x0.2.2.2.2.1.2.2.2.1, (x0.2.2.2.2.1.2.2.2.2.1, (x0.2.2.2.2.1.2.2.2.2.2.1, ())))))), ((x0.2.2.2.2.2.1.1, (x0.2.2.2.2.2.1.2.1, ())), (x0.2.2.2.2.2.2.1, (x0.2.2.2.2.2.2.2.1, (x0.2.2.2.2.2.2.2.2.1, (x0.2.2.2.2.2.2.2.2.2.1, ())))))))))), ())).bind fun y30 =>
 (laws_toMeta_F ((x1.1, (x1.2.1, (x1.2.2.1, (x1.2.2.2.1, (x1.2.2.2.2.1, (x1.2.2.2.2.2.1, ())))))), ())).bind fun y32 =>
 (impl_Keep_F ((y30.1.1.1, (y30.1.1.2.1, (y30.1.1.2.2.1, (y30.1.1.2.2.2.1, ((y30.1.1.2.2.2.2.1.1, (y30.1.1.2.2.2.2.1.2.1, (y30.1.1.2.2.2.2.1.2.2.1, (y30.1.1.2.2.2.2.1.2.2.2.1, (y30.1.1.2.2.2.2.1.2.2.2.2.1, (y30.1.1.2.2.2.2.1.2.2.2.2.2.1, ())))))), ((y30.1.1.2.2.2.2.2.1.1, (y30.1.1.2.2.2.2.2.1.2.1, ())), (y30.1.1.2.2.2.2.2.2.1, (y30.1.1.2.2.2.2.2.2.2.1, (y30.1.1.2.2.2.2.2.2.2.2.1, (y30.1.1.2.2.2.2.2.2.2.2.2.1, ())))))))))), ((y32.1.1.1, (y32.1.1.2.1, (y32.1.1.2.2.1, (y32.1.1.2.2.2.1, (y32.1.1.2.2.2.2.1, (y32.1.1.2.2.2.2.2.1, ())))))), ()))).bind fun y35 =>
 (laws_eqNode_F ((y35.1.1.1, (y35.1.1.2.1, (y35.1.1.2.2.1, (y35.1.1.2.2.2.1, ((y35.1.1.2.2.2.2.1.1, (y35.1.1.2.2.2.2.1.2.1, (y35.1.1.2.2.2.2.1.2.2.1, (y35.1.1.2.2.2.2.1.2.2.2.1, (y35.1.1.2.2.2.2.1.2.2.2.2.1, (y35.1.1.2.2.2.2.1.2.2.2.2.2.1, ())))))), ((y35.1.1.2.2.2.2.2.1.1, (y35.1.1.2.2.2.2.2.1.2.1, ())), (y35.1.1.2.2.2.2.2.2.1, (y35.1.1.2.2.2.2.2.2.2.1, (y35.1.1.2.2.2.2.2.2.2.2.1, (y35.1.1.2.2.2.2.2.2.2.2.2.1, ())))))))))), ((y28.1.1.1, (y28.1.1.2.1, (y28.1.1.2.2.1, (y28.1.1.2.2.2.1, ((y28.1.1.2.2.2.2.1.1, (y28.1.1.2.2.2.2.1.2.1, (y28.1.1.2.2.2.2.1.2.2.1, (y28.1.1.2.2.2.2.1.2.2.2.1, (y28.1.1.2.2.2.2.1.2.2.2.2.1, (y28.1.1.2.2.2.2.1.2.2.2.2.2.1, ())))))), ((y28.1.1.2.2.2.2.2.1.1, (y28.1.1.2.2.2.2.2.1.2.1, ())), (y28.1.1.2.2.2.2.2.2.1, (y28.1.1.2.2.2.2.2.2.2.1, (y28.1.1.2.2.2.2.2.2.2.2.1, (y28.1.1.2.2.2.2.2.2.2.2.2.1, ())))))))))), ()))).bind fun y38 =>
 brk (!y38.1.1)
 (some ((false, ()), ((), ((), ()))))
 ((laws_toNode_F ((x0.1, (x0.2.1, (x0.2.2.1, (x0.2.2.2.1, ((x0.2.2.2.2.1.1, (x0.2.2.2.2.1.2.1, (x0.2.2.2.2.1.2.2.1, (x0.2.2.2.2.1.2.2.2.1, (x0.2.2.2.2.1.2.2.2.2.1, (x0.2.2.2.2.1.2.2.2.2.2.1, ())))))), ((x0.2.2.2.2.2.1.1, (x0.2.2.2.2.2.1.2.1, ())), (x0.2.2.2.2.2.2.1, (x0.2.2.2.2.2.2.2.1, (x0.2.2.2.2.2.2.2.2.1, (x0.2.2.2.2.2.2.2.2.2.1, ())))))))))), ())).bind fun y42 =>
 (laws_eqNode_F ((y30.1.1.1, (y30.1.1.2.1, (y30.1.1.2.2.1, (y30.1.1.2.2.2.1, ((y30.1.1.2.2.2.2.1.1, (y30.1.1.2.2.2.2.1.2.1, (y30.1.1.2.2.2.2.1.2.2.1, (y30.1.1.2.2.2.2.1.2.2.2.1, (y30.1.1.2.2.2.2.1.2.2.2.2.1, (y30.1.1.2.2.2.2.1.2.2.2.2.2.1, ())))))), ((y30.1.1.2.2.2.2.2.1.1, (y30.1.1.2.2.2.2.2.1.2.1, ())), (y30.1.1.2.2.2.2.2.2.1, (y30.1.1.2.2.2.2.2.2.2.1, (y30.1.1.2.2.2.2.2.2.2.2.1, (y30.1.1.2.2.2.2.2.2.2.2.2.1, ())))))))))), ((y42.1.1.1, (y42.1.1.2.1, (y42.1.1.2.2.1, (y42.1.1.2.2.2.1, ((y42.1.1.2.2.2.2.1.1, (y42.1.1.2.2.2.2.1.2.1, (y42.1.1.2.2.2.2.1.2.2.1, (y42.1.1.2.2.2.2.1.2.2.2.1, (y42.1.1.2.2.2.2.1.2.2.2.2.1, (y42.1.1.2.2.2.2.1.2.2.2.2.2.1, ())))))), ((y42.1.1.2.2.2.2.2.1.1, (y42.1.1.2.2.2.2.2.1.2.1, ())), (y42.1.1.2.2.2.2.2.2.1, (y42.1.1.2.2.2.2.2.2.2.1, (y42.1.1.2.2.2.2.2.2.2.2.1, (y42.1.1.2.2.2.2.2.2.2.2.2.1, ())))))))))), ()))).bind fun y43 =>
 brk (!y43.1.1)
 (some ((false, ()), ((), ((), ()))))
 ((laws_toMeta_F ((x1.1, (x1.2.1, (x1.2.2.1, (x1.2.2.2.1, (x1.2.2.2.2.1, (x1.2.2.2.2.2.1, ())))))), ())).bind fun y47 =>
 (laws_eqMeta_F ((y32.1.1.1, (y32.1.1.2.1, (y32.1.1.2.2.1, (y32.1.1.2.2.2.1, (y32.1.1.2.2.2.2.1, (y32.1.1.2.2.2.2.2.1, ())))))), ((y47.1.1.1, (y47.1.1.2.1, (y47.1.1.2.2.1, (y47.1.1.2.2.2.1, (y47.1.1.2.2.2.2.1, (y47.1.1.2.2.2.2.2.1, ())))))), ()))).bind fun y48 =>
 brk (!y48.1.1)
 (some ((false, ()), ((), ((), ()))))
 ((laws_markNode_F ((y30.1.1.1, (y30.1.1.2.1, (y30.1.1.2.2.1, (y30.1.1.2.2.2.1, ((y30.1.1.2.2.2.2.1.1, (y30.1.1.2.2.2.2.1.2.1, (y30.1.1.2.2.2.2.1.2.2.1, (y30.1.1.2.2.2.2.1.2.2.2.1, (y30.1.1.2.2.2.2.1.2.2.2.2.1, (y30.1.1.2.2.2.2.1.2.2.2.2.2.1, ())))))), ((y30.1.1.2.2.2.2.2.1.1, (y30.1.1.2.2.2.2.2.1.2.1, ())), (y30.1.1.2.2.2.2.2.2.1, (y30.1.1.2.2.2.2.2.2.2.1, (y30.1.1.2.2.2.2.2.2.2.2.1, (y30.1.1.2.2.2.2.2.2.2.2.2.1, ())))))))))), ((1 : Int), ()))).bind fun y52 =>
 (laws_markMeta_F ((y32.1.1.1, (y32.1.1.2.1, (y32.1.1.2.2.1, (y32.1.1.2.2.2.1, (y32.1.1.2.2.2.2.1, (y32.1.1.2.2.2.2.2.1, ())))))), (y52.1.1, ()))).bind fun y55 =>
 brk (decide (y55.1.1 < (0 : Int)))
 (some ((false, ()), ((), ((), ()))))
 ((laws_eqNode_F ((y35.1.1.1, (y35.1.1.2.1, (y35.1.1.2.2.1, (y35.1.1.2.2.2.1, ((y35.1.1.2.2.2.2.1.1, (y35.1.1.2.2.2.2.1.2.1, (y35.1.1.2.2.2.2.1.2.2.1, (y35.1.1.2.2.2.2.1.2.2.2.1, (y35.1.1.2.2.2.2.1.2.2.2.2.1, (y35.1.1.2.2.2.2.1.2.2.2.2.2.1, ())))))), ((y35.1.1.2.2.2.2.2.1.1, (y35.1.1.2.2.2.2.2.1.2.1, ())), (y35.1.1.2.2.2.2.2.2.1, (y35.1.1.2.2.2.2.2.2.2.1, (y35.1.1.2.2.2.2.2.2.2.2.1, (y35.1.1.2.2.2.2.2.2.2.2.2.1, ())))))))))), ((y28.1.1.1, (y28.1.1.2.1, (y28.1.1.2.2.1, (y28.1.1.2.2.2.1, ((y28.1.1.2.2.2.2.1.1, (y28.1.1.2.2.2.2.1.2.1, (y28.1.1.2.2.2.2.1.2.2.1, (y28.1.1.2.2.2.2.1.2.2.2.1, (y28.1.1.2.2.2.2.1.2.2.2.2.1, (y28.1.1.2.2.2.2.1.2.2.2.2.2.1, ())))))), ((y28.1.1.2.2.2.2.2.1.1, (y28.1.1.2.2.2.2.2.1.2.1, ())), (y28.1.1.2.2.2.2.2.2.1, (y28.1.1.2.2.2.2.2.2.2.1, (y28.1.1.2.2.2.2.2.2.2.2.1, (y28.1.1.2.2.2.2.2.2.2.2.2.1, ())))))))))), ()))).bind fun y61 =>
 brk (!y61.1.1)
 (some ((false, ()), ((), ((), ()))))
 ((laws_markNode_F ((y35.1.1.1, (y35.1.1.2.1, (y35.1.1.2.2.1, (y35.1.1.2.2.2.1, ((y35.1.1.2.2.2.2.1.1, (y35.1.1.2.2.2.2.1.2.1, (y35.1.1.2.2.2.2.1.2.2.1, (y35.1.1.2.2.2.2.1.2.2.2.1, (y35.1.1.2.2.2.2.1.2.2.2.2.1, (y35.1.1.2.2.2.2.1.2.2.2.2.2.1, ())))))), ((y35.1.1.2.2.2.2.2.1.1, (y35.1.1.2.2.2.2.2.1.2.1, ())), (y35.1.1.2.2.2.2.2.2.1, (y35.1.1.2.2.2.2.2.2.2.1, (y35.1.1.2.2.2.2.2.2.2.2.1, (y35.1.1.2.2.2.2.2.2.2.2.2.1, ())))))))))), ((1 : Int), ()))).bind fun y66 =>
 (laws_heldNode_F ((y35.1.1.1, (y35.1.1.2.1, (y35.1.1.2.2.1, (y66.2.1.2.2.2.1, ((y66.2.1.2.2.2.2.1.1, (y66.2.1.2.2.2.2.1.2.1, (y35.1.1.2.2.2.2.1.2.2.1, (y35.1.1.2.2.2.2.1.2.2.2.1, (y35.1.1.2.2.2.2.1.2.2.2.2.1, (y35.1.1.2.2.2.2.1.2.2.2.2.2.1, ())))))), ((y66.2.1.2.2.2.2.2.1.1, (y66.2.1.2.2.2.2.2.1.2.1, ())), (y66.2.1.2.2.2.2.2.2.1, (y66.2.1.2.2.2.2.2.2.2.1, (y66.2.1.2.2.2.2.2.2.2.2.1, (y66.2.1.2.2.2.2.2.2.2.2.2.1, ())))))))))), ((1 : Int), ()))).bind fun y69 =>
 brk (decide (y69.1.1 < (0 : Int)))
 (some ((false, ()), ((), ((), ()))))
 (brk (!decide (y69.1.1 = y66.1.1))
 (some ((false, ()), ((), ((), ()))))
 (both ((laws_toNode_F ((x0.1, (x0.2.1, (x0.2.2.1, (x0.2.2.2.1, ((x0.2.2.2.2.1.1, (x0.2.2.2.2.1.2.1, (x0.2.2.2.2.1.2.2.1, (x0.2.2.2.2.1.2.2.2.1, (x0.2.2.2.2.1.2.2.2.2.1, (x0.2.2.2.2.1.2.2.2.2.2.1, ())))))), ((x0.2.2.2.2.2.1.1, (x0.2.2.2.2.2.1.2.1, ())), (x0.2.2.2.2.2.2.1, (x0.2.2.2.2.2.2.2.1, (x0.2.2.2.2.2.2.2.2.1, (x0.2.2.2.2.2.2.2.2.2.1, ())))))))))), ())).bind fun y76 =>
 both ((laws_toMeta_F ((x1.1, (x1.2.1, (x1.2.2.1, (x1.2.2.2.1, (x1.2.2.2.2.1, (x1.2.2.2.2.2.1, ())))))), ())).bind fun y78 =>
 both ((impl_Keep_F ((y76.1.1.1, (y76.1.1.2.1, (y76.1.1.2.2.1, (y76.1.1.2.2.2.1, ((y76.1.1.2.2.2.2.1.1, (y76.1.1.2.2.2.2.1.2.1, (y76.1.1.2.2.2.2.1.2.2.1, (y76.1.1.2.2.2.2.1.2.2.2.1, (y76.1.1.2.2.2.2.1.2.2.2.2.1, (y76.1.1.2.2.2.2.1.2.2.2.2.2.1, ())))))), ((y76.1.1.2.2.2.2.2.1.1, (y76.1.1.2.2.2.2.2.1.2.1, ())), (y76.1.1.2.2.2.2.2.2.1, (y76.1.1.2.2.2.2.2.2.2.1, (y76.1.1.2.2.2.2.2.2.2.2.1, (y76.1.1.2.2.2.2.2.2.2.2.2.1, ())))))))))), ((y78.1.1.1, (y78.1.1.2.1, (y78.1.1.2.2.1, (y78.1.1.2.2.2.1, (y78.1.1.2.2.2.2.1, (y78.1.1.2.2.2.2.2.1, ())))))), ()))).bind fun y79 =>
 (laws_eqNode_F ((y79.1.1.1, (y79.1.1.2.1, (y79.1.1.2.2.1, (y79.1.1.2.2.2.1, ((y79.1.1.2.2.2.2.1.1, (y79.1.1.2.2.2.2.1.2.1, (y79.1.1.2.2.2.2.1.2.2.1, (y79.1.1.2.2.2.2.1.2.2.2.1, (y79.1.1.2.2.2.2.1.2.2.2.2.1, (y79.1.1.2.2.2.2.1.2.2.2.2.2.1, ())))))), ((y79.1.1.2.2.2.2.2.1.1, (y79.1.1.2.2.2.2.2.1.2.1, ())), (y79.1.1.2.2.2.2.2.2.1, (y79.1.1.2.2.2.2.2.2.2.1, (y79.1.1.2.2.2.2.2.2.2.2.1, (y79.1.1.2.2.2.2.2.2.2.2.2.1, ())))))))))), ((y28.1.1.1, (y28.1.1.2.1, (y28.1.1.2.2.1, (y28.1.1.2.2.2.1, ((y28.1.1.2.2.2.2.1.1, (y28.1.1.2.2.2.2.1.2.1, (y28.1.1.2.2.2.2.1.2.2.1, (y28.1.1.2.2.2.2.1.2.2.2.1, (y28.1.1.2.2.2.2.1.2.2.2.2.1, (y28.1.1.2.2.2.2.1.2.2.2.2.2.1, ())))))), ((y28.1.1.2.2.2.2.2.1.1, (y28.1.1.2.2.2.2.2.1.2.1, ())), (y28.1.1.2.2.2.2.2.2.1, (y28.1.1.2.2.2.2.2.2.2.1, (y28.1.1.2.2.2.2.2.2.2.2.1, (y28.1.1.2.2.2.2.2.2.2.2.2.1, ())))))))))), ()))).bind fun y82 =>
 brk (!y82.1.1)
 (some ((false, ()), ((), ((), ()))))
 ((laws_heldNode_F ((y35.1.1.1, (y35.1.1.2.1, (y35.1.1.2.2.1, (y66.2.1.2.2.2.1, ((y66.2.1.2.2.2.2.1.1, (y66.2.1.2.2.2.2.1.2.1, (y35.1.1.2.2.2.2.1.2.2.1, (y35.1.1.2.2.2.2.1.2.2.2.1, (y35.1.1.2.2.2.2.1.2.2.2.2.1, (y35.1.1.2.2.2.2.1.2.2.2.2.2.1, ())))))), ((y66.2.1.2.2.2.2.2.1.1, (y66.2.1.2.2.2.2.2.1.2.1, ())), (y66.2.1.2.2.2.2.2.2.1, (y66.2.1.2.2.2.2.2.2.2.1, (y66.2.1.2.2.2.2.2.2.2.2.1, (y66.2.1.2.2.2.2.2.2.2.2.2.1, ())))))))))), ((1 : Int), ()))).bind fun y86 =>
 brk (decide (y86.1.1 < (0 : Int)))
 (some ((false, ()), ((), ((), ()))))
 (brk (!decide (y86.1.1 = y66.1.1))
 (some ((false, ()), ((), ((), ()))))
 (some ((true, ()), ((), ((), ())))))))
 ((impl_Keep_F ((y76.1.1.1, (y76.1.1.2.1, (y76.1.1.2.2.1, (y76.1.1.2.2.2.1, ((y76.1.1.2.2.2.2.1.1, (y76.1.1.2.2.2.2.1.2.1, (y76.1.1.2.2.2.2.1.2.2.1, (y76.1.1.2.2.2.2.1.2.2.2.1, (y76.1.1.2.2.2.2.1.2.2.2.2.1, (y76.1.1.2.2.2.2.1.2.2.2.2.2.1, ())))))), ((y76.1.1.2.2.2.2.2.1.1, (y76.1.1.2.2.2.2.2.1.2.1, ())), (y76.1.1.2.2.2.2.2.2.1, (y76.1.1.2.2.2.2.2.2.2.1, (y76.1.1.2.2.2.2.2.2.2.2.1, (y76.1.1.2.2.2.2.2.2.2.2.2.1, ())))))))))), ((y78.1.1.1, (y78.1.1.2.1, (y78.1.1.2.2.1, (y78.1.1.2.2.2.1, (y78.1.1.2.2.2.2.1, (y78.1.1.2.2.2.2.2.1, ())))))), ()))).bind fun y79 =>
 (laws_eqNode_F ((y79.1.1.1, (y79.1.1.2.1, (y79.1.1.2.2.1, (y79.1.1.2.2.2.1, ((y79.1.1.2.2.2.2.1.1, (y79.1.1.2.2.2.2.1.2.1, (y79.1.1.2.2.2.2.1.2.2.1, (y79.1.1.2.2.2.2.1.2.2.2.1, (y79.1.1.2.2.2.2.1.2.2.2.2.1, (y79.1.1.2.2.2.2.1.2.2.2.2.2.1, ())))))), ((y79.1.1.2.2.2.2.2.1.1, (y79.1.1.2.2.2.2.2.1.2.1, ())), (y79.1.1.2.2.2.2.2.2.1, (y79.1.1.2.2.2.2.2.2.2.1, (y79.1.1.2.2.2.2.2.2.2.2.1, (y79.1.1.2.2.2.2.2.2.2.2.2.1, ())))))))))), ((y28.1.1.1, (y28.1.1.2.1, (y28.1.1.2.2.1, (y28.1.1.2.2.2.1, ((y28.1.1.2.2.2.2.1.1, (y28.1.1.2.2.2.2.1.2.1, (y28.1.1.2.2.2.2.1.2.2.1, (y28.1.1.2.2.2.2.1.2.2.2.1, (y28.1.1.2.2.2.2.1.2.2.2.2.1, (y28.1.1.2.2.2.2.1.2.2.2.2.2.1, ())))))), ((y28.1.1.2.2.2.2.2.1.1, (y28.1.1.2.2.2.2.2.1.2.1, ())), (y28.1.1.2.2.2.2.2.2.1, (y28.1.1.2.2.2.2.2.2.2.1, (y28.1.1.2.2.2.2.2.2.2.2.1, (y28.1.1.2.2.2.2.2.2.2.2.2.1, ())))))))))), ()))).bind fun y82 =>
 brk (!y82.1.1)
 (some ((false, ()), ((), ((), ()))))
 ((laws_heldNode_F ((y35.1.1.1, (y35.1.1.2.1, (y35.1.1.2.2.1, (y66.2.1.2.2.2.1, ((y66.2.1.2.2.2.2.1.1, (y66.2.1.2.2.2.2.1.2.1, (y35.1.1.2.2.2.2.1.2.2.1, (y35.1.1.2.2.2.2.1.2.2.2.1, (y35.1.1.2.2.2.2.1.2.2.2.2.1, (y35.1.1.2.2.2.2.1.2.2.2.2.2.1, ())))))), ((y66.2.1.2.2.2.2.2.1.1, (y66.2.1.2.2.2.2.2.1.2.1, ())), (y66.2.1.2.2.2.2.2.2.1, (y66.2.1.2.2.2.2.2.2.2.1, (y66.2.1.2.2.2.2.2.2.2.2.1, (y66.2.1.2.2.2.2.2.2.2.2.2.1, ())))))))))), ((1 : Int), ()))).bind fun y86 =>
 brk (decide (y86.1.1 < (0 : Int)))
 (some ((false, ()), ((), ((), ()))))
 (brk (!decide (y86.1.1 = y66.1.1))
 (some ((false, ()), ((), ((), ()))))
 (some ((true, ()), ((), ((), ()))))))))
 ((laws_toMeta_F ((x1.1, (x1.2.1, (x1.2.2.1, (x1.2.2.2.1, (x1.2.2.2.2.1, (x1.2.2.2.2.2.1, ())))))), ())).bind fun y78 =>
 (impl_Keep_F ((y76.1.1.1, (y76.1.1.2.1, (y76.1.1.2.2.1, (y76.1.1.2.2.2.1, ((y76.1.1.2.2.2.2.1.1, (y76.1.1.2.2.2.2.1.2.1, (y76.1.1.2.2.2.2.1.2.2.1, (y76.1.1.2.2.2.2.1.2.2.2.1, (y76.1.1.2.2.2.2.1.2.2.2.2.1, (y76.1.1.2.2.2.2.1.2.2.2.2.2.1, ())))))), ((y76.1.1.2.2.2.2.2.1.1, (y76.1.1.2.2.2.2.2.1.2.1, ())), (y76.1.1.2.2.2.2.2.2.1, (y76.1.1.2.2.2.2.2.2.2.1, (y76.1.1.2.2.2.2.2.2.2.2.1, (y76.1.1.2.2.2.2.2.2.2.2.2.1, ())))))))))), ((y78.1.1.1, (y78.1.1.2.1, (y78.1.1.2.2.1, (y78.1.1.2.2.2.1, (y78.1.1.2.2.2.2.1, (y78.1.1.2.2.2.2.2.1, ())))))), ()))).bind fun y79 =>
 (laws_eqNode_F ((y79.1.1.1, (y79.1.1.2.1, (y79.1.1.2.2.1, (y79.1.1.2.2.2.1, ((y79.1.1.2.2.2.2.1.1, (y79.1.1.2.2.2.2.1.2.1, (y79.1.1.2.2.2.2.1.2.2.1, (y79.1.1.2.2.2.2.1.2.2.2.1, (y79.1.1.2.2.2.2.1.2.2.2.2.1, (y79.1.1.2.2.2.2.1.2.2.2.2.2.1, ())))))), ((y79.1.1.2.2.2.2.2.1.1, (y79.1.1.2.2.2.2.2.1.2.1, ())), (y79.1.1.2.2.2.2.2.2.1, (y79.1.1.2.2.2.2.2.2.2.1, (y79.1.1.2.2.2.2.2.2.2.2.1, (y79.1.1.2.2.2.2.2.2.2.2.2.1, ())))))))))), ((y28.1.1.1, (y28.1.1.2.1, (y28.1.1.2.2.1, (y28.1.1.2.2.2.1, ((y28.1.1.2.2.2.2.1.1, (y28.1.1.2.2.2.2.1.2.1, (y28.1.1.2.2.2.2.1.2.2.1, (y28.1.1.2.2.2.2.1.2.2.2.1, (y28.1.1.2.2.2.2.1.2.2.2.2.1, (y28.1.1.2.2.2.2.1.2.2.2.2.2.1, ())))))), ((y28.1.1.2.2.2.2.2.1.1, (y28.1.1.2.2.2.2.2.1.2.1, ())), (y28.1.1.2.2.2.2.2.2.1, (y28.1.1.2.2.2.2.2.2.2.1, (y28.1.1.2.2.2.2.2.2.2.2.1, (y28.1.1.2.2.2.2.2.2.2.2.2.1, ())))))))))), ()))).bind fun y82 =>
 brk (!y82.1.1)
 (some ((false, ()), ((), ((), ()))))
 ((laws_heldNode_F ((y35.1.1.1, (y35.1.1.2.1, (y35.1.1.2.2.1, (y66.2.1.2.2.2.1, ((y66.2.1.2.2.2.2.1.1, (y66.2.1.2.2.2.2.1.2.1, (y35.1.1.2.2.2.2.1.2.2.1, (y35.1.1.2.2.2.2.1.2.2.2.1, (y35.1.1.2.2.2.2.1.2.2.2.2.1, (y35.1.1.2.2.2.2.1.2.2.2.2.2.1, ())))))), ((y66.2.1.2.2.2.2.2.1.1, (y66.2.1.2.2.2.2.2.1.2.1, ())), (y66.2.1.2.2.2.2.2.2.1, (y66.2.1.2.2.2.2.2.2.2.1, (y66.2.1.2.2.2.2.2.2.2.2.1, (y66.2.1.2.2.2.2.2.2.2.2.2.1, ())))))))))), ((1 : Int), ()))).bind fun y86 =>
 brk (decide (y86.1.1 < (0 : Int)))
 (some ((false, ()), ((), ((), ()))))
 (brk (!decide (y86.1.1 = y66.1.1))
 (some ((false, ()), ((), ((), ()))))
 (some ((true, ()), ((), ((), ()))))))))
 ((laws_toNode_F ((x0.1, (x0.2.1, (x0.2.2.1, (x0.2.2.2.1, ((x0.2.2.2.2.1.1, (x0.2.2.2.2.1.2.1, (x0.2.2.2.2.1.2.2.1, (x0.2.2.2.2.1.2.2.2.1, (x0.2.2.2.2.1.2.2.2.2.1, (x0.2.2.2.2.1.2.2.2.2.2.1, ())))))), ((x0.2.2.2.2.2.1.1, (x0.2.2.2.2.2.1.2.1, ())), (x0.2.2.2.2.2.2.1, (x0.2.2.2.2.2.2.2.1, (x0.2.2.2.2.2.2.2.2.1, (x0.2.2.2.2.2.2.2.2.2.1, ())))))))))), ())).bind fun y76 =>
 (laws_toMeta_F ((x1.1, (x1.2.1, (x1.2.2.1, (x1.2.2.2.1, (x1.2.2.2.2.1, (x1.2.2.2.2.2.1, ())))))), ())).bind fun y78 =>
 (impl_Keep_F ((y76.1.1.1, (y76.1.1.2.1, (y76.1.1.2.2.1, (y76.1.1.2.2.2.1, ((y76.1.1.2.2.2.2.1.1, (y76.1.1.2.2.2.2.1.2.1, (y76.1.1.2.2.2.2.1.2.2.1, (y76.1.1.2.2.2.2.1.2.2.2.1, (y76.1.1.2.2.2.2.1.2.2.2.2.1, (y76.1.1.2.2.2.2.1.2.2.2.2.2.1, ())))))), ((y76.1.1.2.2.2.2.2.1.1, (y76.1.1.2.2.2.2.2.1.2.1, ())), (y76.1.1.2.2.2.2.2.2.1, (y76.1.1.2.2.2.2.2.2.2.1, (y76.1.1.2.2.2.2.2.2.2.2.1, (y76.1.1.2.2.2.2.2.2.2.2.2.1, ())))))))))), ((y78.1.1.1, (y78.1.1.2.1, (y78.1.1.2.2.1, (y78.1.1.2.2.2.1, (y78.1.1.2.2.2.2.1, (y78.1.1.2.2.2.2.2.1, ())))))), ()))).bind fun y79 =>
 (laws_eqNode_F ((y79.1.1.1, (y79.1.1.2.1, (y79.1.1.2.2.1, (y79.1.1.2.2.2.1, ((y79.1.1.2.2.2.2.1.1, (y79.1.1.2.2.2.2.1.2.1, (y79.1.1.2.2.2.2.1.2.2.1, (y79.1.1.2.2.2.2.1.2.2.2.1, (y79.1.1.2.2.2.2.1.2.2.2.2.1, (y79.1.1.2.2.2.2.1.2.2.2.2.2.1, ())))))), ((y79.1.1.2.2.2.2.2.1.1, (y79.1.1.2.2.2.2.2.1.2.1, ())), (y79.1.1.2.2.2.2.2.2.1, (y79.1.1.2.2.2.2.2.2.2.1, (y79.1.1.2.2.2.2.2.2.2.2.1, (y79.1.1.2.2.2.2.2.2.2.2.2.1, ())))))))))), ((y28.1.1.1, (y28.1.1.2.1, (y28.1.1.2.2.1, (y28.1.1.2.2.2.1, ((y28.1.1.2.2.2.2.1.1, (y28.1.1.2.2.2.2.1.2.1, (y28.1.1.2.2.2.2.1.2.2.1, (y28.1.1.2.2.2.2.1.2.2.2.1, (y28.1.1.2.2.2.2.1.2.2.2.2.1, (y28.1.1.2.2.2.2.1.2.2.2.2.2.1, ())))))), ((y28.1.1.2.2.2.2.2.1.1, (y28.1.1.2.2.2.2.2.1.2.1, ())), (y28.1.1.2.2.2.2.2.2.1, (y28.1.1.2.2.2.2.2.2.2.1, (y28.1.1.2.2.2.2.2.2.2.2.1, (y28.1.1.2.2.2.2.2.2.2.2.2.1, ())))))))))), ()))).bind fun y82 =>
 brk (!y82.1.1)
 (some ((false, ()), ((), ((), ()))))
 ((laws_heldNode_F ((y35.1.1.1, (y35.1.1.2.1, (y35.1.1.2.2.1, (y66.2.1.2.2.2.1, ((y66.2.1.2.2.2.2.1.1, (y66.2.1.2.2.2.2.1.2.1, (y35.1.1.2.2.2.2.1.2.2.1, (y35.1.1.2.2.2.2.1.2.2.2.1, (y35.1.1.2.2.2.2.1.2.2.2.2.1, (y35.1.1.2.2.2.2.1.2.2.2.2.2.1, ())))))), ((y66.2.1.2.2.2.2.2.1.1, (y66.2.1.2.2.2.2.2.1.2.1, ())), (y66.2.1.2.2.2.2.2.2.1, (y66.2.1.2.2.2.2.2.2.2.1, (y66.2.1.2.2.2.2.2.2.2.2.1, (y66.2.1.2.2.2.2.2.2.2.2.2.1, ())))))))))), ((1 : Int), ()))).bind fun y86 =>
 brk (decide (y86.1.1 < (0 : Int)))
 (some ((false, ()), ((), ((), ()))))
 (brk (!decide (y86.1.1 = y66.1.1))
 (some ((false, ()), ((), ((), ()))))
 (some ((true, ()), ((), ((), ()))))))))))))))))
 ((laws_toMeta_F ((x1.1, (x1.2.1, (x1.2.2.1, (x1.2.2.2.1, (x1.2.2.2.2.1, (x1.2.2.2.2.2.1, ())))))), ())).bind fun y27 =>
 (spec_Keep_F ((y25.1.1.1, (y25.1.1.2.1, (y25.1.1.2.2.1, (y25.1.1.2.2.2.1, ((y25.1.1.2.2.2.2.1.1, (y25.1.1.2.2.2.2.1.2.1, (y25.1.1.2.2.2.2.1.2.2.1, (y25.1.1.2.2.2.2.1.2.2.2.1, (y25.1.1.2.2.2.2.1.2.2.2.2.1, (y25.1.1.2.2.2.2.1.2.2.2.2.2.1, ())))))), ((y25.1.1.2.2.2.2.2.1.1, (y25.1.1.2.2.2.2.2.1.2.1, ())), (y25.1.1.2.2.2.2.2.2.1, (y25.1.1.2.2.2.2.2.2.2.1, (y25.1.1.2.2.2.2.2.2.2.2.1, (y25.1.1.2.2.2.2.2.2.2.2.2.1, ())))))))))), ((y27.1.1.1, (y27.1.1.2.1, (y27.1.1.2.2.1, (y27.1.1.2.2.2.1, (y27.1.1.2.2.2.2.1, (y27.1.1.2.2.2.2.2.1, ())))))), ()))).bind fun y28 =>
 (laws_toNode_F ((x0.1, (x0.2.1, (x0.2.2.1, (x0.2.2.2.1, ((x0.2.2.2.2.1.1, (x0.2.2.2.2.1.2.1, (x0.2.2.2.2.1.2.2.1, (x0.2.2.2.2.1.2.2.2.1, (x0.2.2.2.2.1.2.2.2.2.1, (x0.2.2.2.2.1.2.2.2.2.2.1, ())))))), ((x0.2.2.2.2.2.1.1, (x0.2.2.2.2.2.1.2.1, ())), (x0.2.2.2.2.2.2.1, (x0.2.2.2.2.2.2.2.1, (x0.2.2.2.2.2.2.2.2.1, (x0.2.2.2.2.2.2.2.2.2.1, ())))))))))), ())).bind fun y30 =>
 (laws_toMeta_F ((x1.1, (x1.2.1, (x1.2.2.1, (x1.2.2.2.1, (x1.2.2.2.2.1, (x1.2.2.2.2.2.1, ())))))), ())).bind fun y32 =>
 (impl_Keep_F ((y30.1.1.1, (y30.1.1.2.1, (y30.1.1.2.2.1, (y30.1.1.2.2.2.1, ((y30.1.1.2.2.2.2.1.1, (y30.1.1.2.2.2.2.1.2.1, (y30.1.1.2.2.2.2.1.2.2.1, (y30.1.1.2.2.2.2.1.2.2.2.1, (y30.1.1.2.2.2.2.1.2.2.2.2.1, (y30.1.1.2.2.2.2.1.2.2.2.2.2.1, ())))))), ((y30.1.1.2.2.2.2.2.1.1, (y30.1.1.2.2.2.2.2.1.2.1, ())), (y30.1.1.2.2.2.2.2.2.1, (y30.1.1.2.2.2.2.2.2.2.1, (y30.1.1.2.2.2.2.2.2.2.2.1, (y30.1.1.2.2.2.2.2.2.2.2.2.1, ())))))))))), ((y32.1.1.1, (y32.1.1.2.1, (y32.1.1.2.2.1, (y32.1.1.2.2.2.1, (y32.1.1.2.2.2.2.1, (y32.1.1.2.2.2.2.2.1, ())))))), ()))).bind fun y35 =>
 (laws_eqNode_F ((y35.1.1.1, (y35.1.1.2.1, (y35.1.1.2.2.1, (y35.1.1.2.2.2.1, ((y35.1.1.2.2.2.2.1.1, (y35.1.1.2.2.2.2.1.2.1, (y35.1.1.2.2.2.2.1.2.2.1, (y35.1.1.2.2.2.2.1.2.2.2.1, (y35.1.1.2.2.2.2.1.2.2.2.2.1, (y35.1.1.2.2.2.2.1.2.2.2.2.2.1, ())))))), ((y35.1.1.2.2.2.2.2.1.1, (y35.1.1.2.2.2.2.2.1.2.1, ())), (y35.1.1.2.2.2.2.2.2.1, (y35.1.1.2.2.2.2.2.2.2.1, (y35.1.1.2.2.2.2.2.2.2.2.1, (y35.1.1.2.2.2.2.2.2.2.2.2.1, ())))))))))), ((y28.1.1.1, (y28.1.1.2.1, (y28.1.1.2.2.1, (y28.1.1.2.2.2.1, ((y28.1.1.2.2.2.2.1.1, (y28.1.1.2.2.2.2.1.2.1, (y28.1.1.2.2.2.2.1.2.2.1, (y28.1.1.2.2.2.2.1.2.2.2.1, (y28.1.1.2.2.2.2.1.2.2.2.2.1, (y28.1.1.2.2.2.2.1.2.2.2.2.2.1, ())))))), ((y28.1.1.2.2.2.2.2.1.1, (y28.1.1.2.2.2.2.2.1.2.1, ())), (y28.1.1.2.2.2.2.2.2.1, (y28.1.1.2.2.2.2.2.2.2.1, (y28.1.1.2.2.2.2.2.2.2.2.1, (y28.1.1.2.2.2.2.2.2.2.2.2.1, ())))))))))), ()))).bind fun y38 =>
 brk (!y38.1.1)
 (some ((false, ()), ((), ((), ()))))
 ((laws_toNode_F ((x0.1, (x0.2.1, (x0.2.2.1, (x0.2.2.2.1, ((x0.2.2.2.2.1.1, (x0.2.2.2.2.1.2.1, (x0.2.2.2.2.1.2.2.1, (x0.2.2.2.2.1.2.2.2.1, (x0.2.2.2.2.1.2.2.2.2.1, (x0.2.2.2.2.1.2.2.2.2.2.1, ())))))), ((x0.2.2.2.2.2.1.1, (x0.2.2.2.2.2.1.2.1, ())), (x0.2.2.2.2.2.2.1, (x0.2.2.2.2.2.2.2.1, (x0.2.2.2.2.2.2.2.2.1, (x0.2.2.2.2.2.2.2.2.2.1, ())))))))))), ())).bind fun y42 =>
 (laws_eqNode_F ((y30.1.1.1, (y30.1.1.2.1, (y30.1.1.2.2.1, (y30.1.1.2.2.2.1, ((y30.1.1.2.2.2.2.1.1, (y30.1.1.2.2.2.2.1.2.1, (y30.1.1.2.2.2.2.1.2.2.1, (y30.1.1.2.2.2.2.1.2.2.2.1, (y30.1.1.2.2.2.2.1.2.2.2.2.1, (y30.1.1.2.2.2.2.1.2.2.2.2.2.1, ())))))), ((y30.1.1.2.2.2.2.2.1.1, (y30.1.1.2.2.2.2.2.1.2.1, ())), (y30.1.1.2.2.2.2.2.2.1, (y30.1.1.2.2.2.2.2.2.2.1, (y30.1.1.2.2.2.2.2.2.2.2.1, (y30.1.1.2.2.2.2.2.2.2.2.2.1, ())))))))))), ((y42.1.1.1, (y42.1.1.2.1, (y42.1.1.2.2.1, (y42.1.1.2.2.2.1, ((y42.1.1.2.2.2.2.1.1, (y42.1.1.2.2.2.2.1.2.1, (y42.1.1.2.2.2.2.1.2.2.1, (y42.1.1.2.2.2.2.1.2.2.2.1, (y42.1.1.2.2.2.2.1.2.2.2.2.1, (y42.1.1.2.2.2.2.1.2.2.2.2.2.1, ())))))), ((y42.1.1.2.2.2.2.2.1.1, (y42.1.1.2.2.2.2.2.1.2.1, ())), (y42.1.1.2.2.2.2.2.2.1, (y42.1.1.2.2.2.2.2.2.2.1, (y42.1.1.2.2.2.2.2.2.2.2.1, (y42.1.1.2.2.2.2.2.2.2.2.2.1, ())))))))))), ()))).bind fun y43 =>
 brk (!y43.1.1)
 (some ((false, ()), ((), ((), ()))))
 ((laws_toMeta_F ((x1.1, (x1.2.1, (x1.2.2.1, (x1.2.2.2.1, (x1.2.2.2.2.1, (x1.2.2.2.2.2.1, ())))))), ())).bind fun y47 =>
 (laws_eqMeta_F ((y32.1.1.1, (y32.1.1.2.1, (y32.1.1.2.2.1, (y32.1.1.2.2.2.1, (y32.1.1.2.2.2.2.1, (y32.1.1.2.2.2.2.2.1, ())))))), ((y47.1.1.1, (y47.1.1.2.1, (y47.1.1.2.2.1, (y47.1.1.2.2.2.1, (y47.1.1.2.2.2.2.1, (y47.1.1.2.2.2.2.2.1, ())))))), ()))).bind fun y48 =>
 brk (!y48.1.1)
 (some ((false, ()), ((), ((), ()))))
 ((laws_markNode_F ((y30.1.1.1, (y30.1.1.2.1, (y30.1.1.2.2.1, (y30.1.1.2.2.2.1, ((y30.1.1.2.2.2.2.1.1, (y30.1.1.2.2.2.2.1.2.1, (y30.1.1.2.2.2.2.1.2.2.1, (y30.1.1.2.2.2.2.1.2.2.2.1, (y30.1.1.2.2.2.2.1.2.2.2.2.1, (y30.1.1.2.2.2.2.1.2.2.2.2.2.1, ())))))), ((y30.1.1.2.2.2.2.2.1.1, (y30.1.1.2.2.2.2.2.1.2.1, ())), (y30.1.1.2.2.2.2.2.2.1, (y30.1.1.2.2.2.2.2.2.2.1, (y30.1.1.2.2.2.2.2.2.2.2.1, (y30.1.1.2.2.2.2.2.2.2.2.2.1, ())))))))))), ((1 : Int), ()))).bind fun y52 =>
 (laws_markMeta_F ((y32.1.1.1, (y32.1.1.2.1, (y32.1.1.2.2.1, (y32.1.1.2.2.2.1, (y32.1.1.2.2.2.2.1, (y32.1.1.2.2.2.2.2.1, ())))))), (y52.1.1, ()))).bind fun y55 =>
 brk (decide (y55.1.1 < (0 : Int)))
 (some ((false, ()), ((), ((), ()))))
 ((laws_eqNode_F ((y35.1.1.1, (y35.1.1.2.1, (y35.1.1.2.2.1, (y35.1.1.2.2.2.1, ((y35.1.1.2.2.2.2.1.1, (y35.1.1.2.2.2.2.1.2.1, (y35.1.1.2.2.2.2.1.2.2.1, (y35.1.1.2.2.2.2.1.2.2.2.1, (y35.1.1.2.2.2.2.1.2.2.2.2.1, (y35.1.1.2.2.2.2.1.2.2.2.2.2.1, ())))))), ((y35.1.1.2.2.2.2.2.1.1, (y35.1.1.2.2.2.2.2.1.2.1, ())), (y35.1.1.2.2.2.2.2.2.1, (y35.1.1.2.2.2.2.2.2.2.1, (y35.1.1.2.2.2.2.2.2.2.2.1, (y35.1.1.2.2.2.2.2.2.2.2.2.1, ())))))))))), ((y28.1.1.1, (y28.1.1.2.1, (y28.1.1.2.2.1, (y28.1.1.2.2.2.1, ((y28.1.1.2.2.2.2.1.1, (y28.1.1.2.2.2.2.1.2.1, (y28.1.1.2.2.2.2.1.2.2.1, (y28.1.1.2.2.2.2.1.2.2.2.1, (y28.1.1.2.2.2.2.1.2.2.2.2.1, (y28.1.1.2.2.2.2.1.2.2.2.2.2.1, ())))))), ((y28.1.1.2.2.2.2.2.1.1, (y28.1.1.2.2.2.2.2.1.2.1, ())), (y28.1.1.2.2.2.2.2.2.1, (y28.1.1.2.2.2.2.2.2.2.1, (y28.1.1.2.2.2.2.2.2.2.2.1, (y28.1.1.2.2.2.2.2.2.2.2.2.1, ())))))))))), ()))).bind fun y61 =>
 brk (!y61.1.1)
 (some ((false, ()), ((), ((), ()))))
 ((laws_markNode_F ((y35.1.1.1, (y35.1.1.2.1, (y35.1.1.2.2.1, (y35.1.1.2.2.2.1, ((y35.1.1.2.2.2.2.1.1, (y35.1.1.2.2.2.2.1.2.1, (y35.1.1.2.2.2.2.1.2.2.1, (y35.1.1.2.2.2.2.1.2.2.2.1, (y35.1.1.2.2.2.2.1.2.2.2.2.1, (y35.1.1.2.2.2.2.1.2.2.2.2.2.1, ())))))), ((y35.1.1.2.2.2.2.2.1.1, (y35.1.1.2.2.2.2.2.1.2.1, ())), (y35.1.1.2.2.2.2.2.2.1, (y35.1.1.2.2.2.2.2.2.2.1, (y35.1.1.2.2.2.2.2.2.2.2.1, (y35.1.1.2.2.2.2.2.2.2.2.2.1, ())))))))))), ((1 : Int), ()))).bind fun y66 =>
 (laws_heldNode_F ((y35.1.1.1, (y35.1.1.2.1, (y35.1.1.2.2.1, (y66.2.1.2.2.2.1, ((y66.2.1.2.2.2.2.1.1, (y66.2.1.2.2.2.2.1.2.1, (y35.1.1.2.2.2.2.1.2.2.1, (y35.1.1.2.2.2.2.1.2.2.2.1, (y35.1.1.2.2.2.2.1.2.2.2.2.1, (y35.1.1.2.2.2.2.1.2.2.2.2.2.1, ())))))), ((y66.2.1.2.2.2.2.2.1.1, (y66.2.1.2.2.2.2.2.1.2.1, ())), (y66.2.1.2.2.2.2.2.2.1, (y66.2.1.2.2.2.2.2.2.2.1, (y66.2.1.2.2.2.2.2.2.2.2.1, (y66.2.1.2.2.2.2.2.2.2.2.2.1, ())))))))))), ((1 : Int), ()))).bind fun y69 =>
 brk (decide (y69.1.1 < (0 : Int)))
 (some ((false, ()), ((), ((), ()))))
 (brk (!decide (y69.1.1 = y66.1.1))
 (some ((false, ()), ((), ((), ()))))
 (both ((laws_toNode_F ((x0.1, (x0.2.1, (x0.2.2.1, (x0.2.2.2.1, ((x0.2.2.2.2.1.1, (x0.2.2.2.2.1.2.1, (x0.2.2.2.2.1.2.2.1, (x0.2.2.2.2.1.2.2.2.1, (x0.2.2.2.2.1.2.2.2.2.1, (x0.2.2.2.2.1.2.2.2.2.2.1, ())))))), ((x0.2.2.2.2.2.1.1, (x0.2.2.2.2.2.1.2.1, ())), (x0.2.2.2.2.2.2.1, (x0.2.2.2.2.2.2.2.1, (x0.2.2.2.2.2.2.2.2.1, (x0.2.2.2.2.2.2.2.2.2.1, ())))))))))), ())).bind fun y76 =>
 both ((laws_toMeta_F ((x1.1, (x1.2.1, (x1.2.2.1, (x1.2.2.2.1, (x1.2.2.2.2.1, (x1.2.2.2.2.2.1, ())))))), ())).bind fun y78 =>
 both ((impl_Keep_F ((y76.1.1.1, (y76.1.1.2.1, (y76.1.1.2.2.1, (y76.1.1.2.2.2.1, ((y76.1.1.2.2.2.2.1.1, (y76.1.1.2.2.2.2.1.2.1, (y76.1.1.2.2.2.2.1.2.2.1, (y76.1.1.2.2.2.2.1.2.2.2.1, (y76.1.1.2.2.2.2.1.2.2.2.2.1, (y76.1.1.2.2.2.2.1.2.2.2.2.2.1, ())))))), ((y76.1.1.2.2.2.2.2.1.1, (y76.1.1.2.2.2.2.2.1.2.1, ())), (y76.1.1.2.2.2.2.2.2.1, (y76.1.1.2.2.2.2.2.2.2.1, (y76.1.1.2.2.2.2.2.2.2.2.1, (y76.1.1.2.2.2.2.2.2.2.2.2.1, ())))))))))), ((y78.1.1.1, (y78.1.1.2.1, (y78.1.1.2.2.1, (y78.1.1.2.2.2.1, (y78.1.1.2.2.2.2.1, (y78.1.1.2.2.2.2.2.1, ())))))), ()))).bind fun y79 =>
 (laws_eqNode_F ((y79.1.1.1, (y79.1.1.2.1, (y79.1.1.2.2.1, (y79.1.1.2.2.2.1, ((y79.1.1.2.2.2.2.1.1, (y79.1.1.2.2.2.2.1.2.1, (y79.1.1.2.2.2.2.1.2.2.1, (y79.1.1.2.2.2.2.1.2.2.2.1, (y79.1.1.2.2.2.2.1.2.2.2.2.1, (y79.1.1.2.2.2.2.1.2.2.2.2.2.1, ())))))), ((y79.1.1.2.2.2.2.2.1.1, (y79.1.1.2.2.2.2.2.1.2.1, ())), (y79.1.1.2.2.2.2.2.2.1, (y79.1.1.2.2.2.2.2.2.2.1, (y79.1.1.2.2.2.2.2.2.2.2.1, (y79.1.1.2.2.2.2.2.2.2.2.2.1, ())))))))))), ((y28.1.1.1, (y28.1.1.2.1, (y28.1.1.2.2.1, (y28.1.1.2.2.2.1, ((y28.1.1.2.2.2.2.1.1, (y28.1.1.2.2.2.2.1.2.1, (y28.1.1.2.2.2.2.1.2.2.1, (y28.1.1.2.2.2.2.1.2.2.2.1, (y28.1.1.2.2.2.2.1.2.2.2.2.1, (y28.1.1.2.2.2.2.1.2.2.2.2.2.1, ())))))), ((y28.1.1.2.2.2.2.2.1.1, (y28.1.1.2.2.2.2.2.1.2.1, ())), (y28.1.1.2.2.2.2.2.2.1, (y28.1.1.2.2.2.2.2.2.2.1, (y28.1.1.2.2.2.2.2.2.2.2.1, (y28.1.1.2.2.2.2.2.2.2.2.2.1, ())))))))))), ()))).bind fun y82 =>
 brk (!y82.1.1)
 (some ((false, ()), ((), ((), ()))))
 ((laws_heldNode_F ((y35.1.1.1, (y35.1.1.2.1, (y35.1.1.2.2.1, (y66.2.1.2.2.2.1, ((y66.2.1.2.2.2.2.1.1, (y66.2.1.2.2.2.2.1.2.1, (y35.1.1.2.2.2.2.1.2.2.1, (y35.1.1.2.2.2.2.1.2.2.2.1, (y35.1.1.2.2.2.2.1.2.2.2.2.1, (y35.1.1.2.2.2.2.1.2.2.2.2.2.1, ())))))), ((y66.2.1.2.2.2.2.2.1.1, (y66.2.1.2.2.2.2.2.1.2.1, ())), (y66.2.1.2.2.2.2.2.2.1, (y66.2.1.2.2.2.2.2.2.2.1, (y66.2.1.2.2.2.2.2.2.2.2.1, (y66.2.1.2.2.2.2.2.2.2.2.2.1, ())))))))))), ((1 : Int), ()))).bind fun y86 =>
 brk (decide (y86.1.1 < (0 : Int)))
 (some ((false, ()), ((), ((), ()))))
 (brk (!decide (y86.1.1 = y66.1.1))
 (some ((false, ()), ((), ((), ()))))
 (some ((true, ()), ((), ((), ())))))))
 ((impl_Keep_F ((y76.1.1.1, (y76.1.1.2.1, (y76.1.1.2.2.1, (y76.1.1.2.2.2.1, ((y76.1.1.2.2.2.2.1.1, (y76.1.1.2.2.2.2.1.2.1, (y76.1.1.2.2.2.2.1.2.2.1, (y76.1.1.2.2.2.2.1.2.2.2.1, (y76.1.1.2.2.2.2.1.2.2.2.2.1, (y76.1.1.2.2.2.2.1.2.2.2.2.2.1, ())))))), ((y76.1.1.2.2.2.2.2.1.1, (y76.1.1.2.2.2.2.2.1.2.1, ())), (y76.1.1.2.2.2.2.2.2.1, (y76.1.1.2.2.2.2.2.2.2.1, (y76.1.1.2.2.2.2.2.2.2.2.1, (y76.1.1.2.2.2.2.2.2.2.2.2.1, ())))))))))), ((y78.1.1.1, (y78.1.1.2.1, (y78.1.1.2.2.1, (y78.1.1.2.2.2.1, (y78.1.1.2.2.2.2.1, (y78.1.1.2.2.2.2.2.1, ())))))), ()))).bind fun y79 =>
 (laws_eqNode_F ((y79.1.1.1, (y79.1.1.2.1, (y79.1.1.2.2.1, (y79.1.1.2.2.2.1, ((y79.1.1.2.2.2.2.1.1, (y79.1.1.2.2.2.2.1.2.1, (y79.1.1.2.2.2.2.1.2.2.1, (y79.1.1.2.2.2.2.1.2.2.2.1, (y79.1.1.2.2.2.2.1.2.2.2.2.1, (y79.1.1.2.2.2.2.1.2.2.2.2.2.1, ())))))), ((y79.1.1.2.2.2.2.2.1.1, (y79.1.1.2.2.2.2.2.1.2.1, ())), (y79.1.1.2.2.2.2.2.2.1, (y79.1.1.2.2.2.2.2.2.2.1, (y79.1.1.2.2.2.2.2.2.2.2.1, (y79.1.1.2.2.2.2.2.2.2.2.2.1, ())))))))))), ((y28.1.1.1, (y28.1.1.2.1, (y28.1.1.2.2.1, (y28.1.1.2.2.2.1, ((y28.1.1.2.2.2.2.1.1, (y28.1.1.2.2.2.2.1.2.1, (y28.1.1.2.2.2.2.1.2.2.1, (y28.1.1.2.2.2.2.1.2.2.2.1, (y28.1.1.2.2.2.2.1.2.2.2.2.1, (y28.1.1.2.2.2.2.1.2.2.2.2.2.1, ())))))), ((y28.1.1.2.2.2.2.2.1.1, (y28.1.1.2.2.2.2.2.1.2.1, ())), (y28.1.1.2.2.2.2.2.2.1, (y28.1.1.2.2.2.2.2.2.2.1, (y28.1.1.2.2.2.2.2.2.2.2.1, (y28.1.1.2.2.2.2.2.2.2.2.2.1, ())))))))))), ()))).bind fun y82 =>
 brk (!y82.1.1)
 (some ((false, ()), ((), ((), ()))))
 ((laws_heldNode_F ((y35.1.1.1, (y35.1.1.2.1, (y35.1.1.2.2.1, (y66.2.1.2.2.2.1, ((y66.2.1.2.2.2.2.1.1, (y66.2.1.2.2.2.2.1.2.1, (y35.1.1.2.2.2.2.1.2.2.1, (y35.1.1.2.2.2.2.1.2.2.2.1, (y35.1.1.2.2.2.2.1.2.2.2.2.1, (y35.1.1.2.2.2.2.1.2.2.2.2.2.1, ())))))), ((y66.2.1.2.2.2.2.2.1.1, (y66.2.1.2.2.2.2.2.1.2.1, ())), (y66.2.1.2.2.2.2.2.2.1, (y66.2.1.2.2.2.2.2.2.2.1, (y66.2.1.2.2.2.2.2.2.2.2.1, (y66.2.1.2.2.2.2.2.2.2.2.2.1, ())))))))))), ((1 : Int), ()))).bind fun y86 =>
 brk (decide (y86.1.1 < (0 : Int)))
 (some ((false, ()), ((), ((), ()))))
 (brk (!decide (y86.1.1 = y66.1.1))
 (some ((false, ()), ((), ((), ()))))
 (some ((true, ()), ((), ((), ()))))))))
 ((laws_toMeta_F ((x1.1, (x1.2.1, (x1.2.2.1, (x1.2.2.2.1, (x1.2.2.2.2.1, (x1.2.2.2.2.2.1, ())))))), ())).bind fun y78 =>
 (impl_Keep_F ((y76.1.1.1, (y76.1.1.2.1, (y76.1.1.2.2.1, (y76.1.1.2.2.2.1, ((y76.1.1.2.2.2.2.1.1, (y76.1.1.2.2.2.2.1.2.1, (y76.1.1.2.2.2.2.1.2.2.1, (y76.1.1.2.2.2.2.1.2.2.2.1, (y76.1.1.2.2.2.2.1.2.2.2.2.1, (y76.1.1.2.2.2.2.1.2.2.2.2.2.1, ())))))), ((y76.1.1.2.2.2.2.2.1.1, (y76.1.1.2.2.2.2.2.1.2.1, ())), (y76.1.1.2.2.2.2.2.2.1, (y76.1.1.2.2.2.2.2.2.2.1, (y76.1.1.2.2.2.2.2.2.2.2.1, (y76.1.1.2.2.2.2.2.2.2.2.2.1, ())))))))))), ((y78.1.1.1, (y78.1.1.2.1, (y78.1.1.2.2.1, (y78.1.1.2.2.2.1, (y78.1.1.2.2.2.2.1, (y78.1.1.2.2.2.2.2.1, ())))))), ()))).bind fun y79 =>
 (laws_eqNode_F ((y79.1.1.1, (y79.1.1.2.1, (y79.1.1.2.2.1, (y79.1.1.2.2.2.1, ((y79.1.1.2.2.2.2.1.1, (y79.1.1.2.2.2.2.1.2.1, (y79.1.1.2.2.2.2.1.2.2.1, (y79.1.1.2.2.2.2.1.2.2.2.1, (y79.1.1.2.2.2.2.1.2.2.2.2.1, (y79.1.1.2.2.2.2.1.2.2.2.2.2.1, ())))))), ((y79.1.1.2.2.2.2.2.1.1, (y79.1.1.2.2.2.2.2.1.2.1, ())), (y79.1.1.2.2.2.2.2.2.1, (y79.1.1.2.2.2.2.2.2.2.1, (y79.1.1.2.2.2.2.2.2.2.2.1, (y79.1.1.2.2.2.2.2.2.2.2.2.1, ())))))))))), ((y28.1.1.1, (y28.1.1.2.1, (y28.1.1.2.2.1, (y28.1.1.2.2.2.1, ((y28.1.1.2.2.2.2.1.1, (y28.1.1.2.2.2.2.1.2.1, (y28.1.1.2.2.2.2.1.2.2.1, (y28.1.1.2.2.2.2.1.2.2.2.1, (y28.1.1.2.2.2.2.1.2.2.2.2.1, (y28.1.1.2.2.2.2.1.2.2.2.2.2.1, ())))))), ((y28.1.1.2.2.2.2.2.1.1, (y28.1.1.2.2.2.2.2.1.2.1, ())), (y28.1.1.2.2.2.2.2.2.1, (y28.1.1.2.2.2.2.2.2.2.1, (y28.1.1.2.2.2.2.2.2.2.2.1, (y28.1.1.2.2.2.2.2.2.2.2.2.1, ())))))))))), ()))).bind fun y82 =>
 brk (!y82.1.1)
 (some ((false, ()), ((), ((), ()))))
 ((laws_heldNode_F ((y35.1.1.1, (y35.1.1.2.1, (y35.1.1.2.2.1, (y66.2.1.2.2.2.1, ((y66.2.1.2.2.2.2.1.1, (y66.2.1.2.2.2.2.1.2.1, (y35.1.1.2.2.2.2.1.2.2.1, (y35.1.1.2.2.2.2.1.2.2.2.1, (y35.1.1.2.2.2.2.1.2.2.2.2.1, (y35.1.1.2.2.2.2.1.2.2.2.2.2.1, ())))))), ((y66.2.1.2.2.2.2.2.1.1, (y66.2.1.2.2.2.2.2.1.2.1, ())), (y66.2.1.2.2.2.2.2.2.1, (y66.2.1.2.2.2.2.2.2.2.1, (y66.2.1.2.2.2.2.2.2.2.2.1, (y66.2.1.2.2.2.2.2.2.2.2.2.1, ())))))))))), ((1 : Int), ()))).bind fun y86 =>
 brk (decide (y86.1.1 < (0 : Int)))
 (some ((false, ()), ((), ((), ()))))
 (brk (!decide (y86.1.1 = y66.1.1))
 (some ((false, ()), ((), ((), ()))))
 (some ((true, ()), ((), ((), ()))))))))
 ((laws_toNode_F ((x0.1, (x0.2.1, (x0.2.2.1, (x0.2.2.2.1, ((x0.2.2.2.2.1.1, (x0.2.2.2.2.1.2.1, (x0.2.2.2.2.1.2.2.1, (x0.2.2.2.2.1.2.2.2.1, (x0.2.2.2.2.1.2.2.2.2.1, (x0.2.2.2.2.1.2.2.2.2.2.1, ())))))), ((x0.2.2.2.2.2.1.1, (x0.2.2.2.2.2.1.2.1, ())), (x0.2.2.2.2.2.2.1, (x0.2.2.2.2.2.2.2.1, (x0.2.2.2.2.2.2.2.2.1, (x0.2.2.2.2.2.2.2.2.2.1, ())))))))))), ())).bind fun y76 =>
 (laws_toMeta_F ((x1.1, (x1.2.1, (x1.2.2.1, (x1.2.2.2.1, (x1.2.2.2.2.1, (x1.2.2.2.2.2.1, ())))))), ())).bind fun y78 =>
 (impl_Keep_F ((y76.1.1.1, (y76.1.1.2.1, (y76.1.1.2.2.1, (y76.1.1.2.2.2.1, ((y76.1.1.2.2.2.2.1.1, (y76.1.1.2.2.2.2.1.2.1, (y76.1.1.2.2.2.2.1.2.2.1, (y76.1.1.2.2.2.2.1.2.2.2.1, (y76.1.1.2.2.2.2.1.2.2.2.2.1, (y76.1.1.2.2.2.2.1.2.2.2.2.2.1, ())))))), ((y76.1.1.2.2.2.2.2.1.1, (y76.1.1.2.2.2.2.2.1.2.1, ())), (y76.1.1.2.2.2.2.2.2.1, (y76.1.1.2.2.2.2.2.2.2.1, (y76.1.1.2.2.2.2.2.2.2.2.1, (y76.1.1.2.2.2.2.2.2.2.2.2.1, ())))))))))), ((y78.1.1.1, (y78.1.1.2.1, (y78.1.1.2.2.1, (y78.1.1.2.2.2.1, (y78.1.1.2.2.2.2.1, (y78.1.1.2.2.2.2.2.1, ())))))), ()))).bind fun y79 =>
 (laws_eqNode_F ((y79.1.1.1, (y79.1.1.2.1, (y79.1.1.2.2.1, (y79.1.1.2.2.2.1, ((y79.1.1.2.2.2.2.1.1, (y79.1.1.2.2.2.2.1.2.1, (y79.1.1.2.2.2.2.1.2.2.1, (y79.1.1.2.2.2.2.1.2.2.2.1, (y79.1.1.2.2.2.2.1.2.2.2.2.1, (y79.1.1.2.2.2.2.1.2.2.2.2.2.1, ())))))), ((y79.1.1.2.2.2.2.2.1.1, (y79.1.1.2.2.2.2.2.1.2.1, ())), (y79.1.1.2.2.2.2.2.2.1, (y79.1.1.2.2.2.2.2.2.2.1, (y79.1.1.2.2.2.2.2.2.2.2.1, (y79.1.1.2.2.2.2.2.2.2.2.2.1, ())))))))))), ((y28.1.1.1, (y28.1.1.2.1, (y28.1.1.2.2.1, (y28.1.1.2.2.2.1, ((y28.1.1.2.2.2.2.1.1, (y28.1.1.2.2.2.2.1.2.1, (y28.1.1.2.2.2.2.1.2.2.1, (y28.1.1.2.2.2.2.1.2.2.2.1, (y28.1.1.2.2.2.2.1.2.2.2.2.1, (y28.1.1.2.2.2.2.1.2.2.2.2.2.1, ())))))), ((y28.1.1.2.2.2.2.2.1.1, (y28.1.1.2.2.2.2.2.1.2.1, ())), (y28.1.1.2.2.2.2.2.2.1, (y28.1.1.2.2.2.2.2.2.2.1, (y28.1.1.2.2.2.2.2.2.2.2.1, (y28.1.1.2.2.2.2.2.2.2.2.2.1, ())))))))))), ()))).bind fun y82 =>
 brk (!y82.1.1)
 (some ((false, ()), ((), ((), ()))))
 ((laws_heldNode_F ((y35.1.1.1, (y35.1.1.2.1, (y35.1.1.2.2.1, (y66.2.1.2.2.2.1, ((y66.2.1.2.2.2.2.1.1, (y66.2.1.2.2.2.2.1.2.1, (y35.1.1.2.2.2.2.1.2.2.1, (y35.1.1.2.2.2.2.1.2.2.2.1, (y35.1.1.2.2.2.2.1.2.2.2.2.1, (y35.1.1.2.2.2.2.1.2.2.2.2.2.1, ())))))), ((y66.2.1.2.2.2.2.2.1.1, (y66.2.1.2.2.2.2.2.1.2.1, ())), (y66.2.1.2.2.2.2.2.2.1, (y66.2.1.2.2.2.2.2.2.2.1, (y66.2.1.2.2.2.2.2.2.2.2.1, (y66.2.1.2.2.2.2.2.2.2.2.2.1, ())))))))))), ((1 : Int), ()))).bind fun y86 =>
 brk (decide (y86.1.1 < (0 : Int)))
 (some ((false, ()), ((), ((), ()))))
 (brk (!decide (y86.1.1 = y66.1.1))
 (some ((false, ()), ((), ((), ()))))
 (some ((true, ()), ((), ((), ()))))))))))))))))
 ((laws_toNode_F ((x0.1, (x0.2.1, (x0.2.2.1, (x0.2.2.2.1, ((x0.2.2.2.2.1.1, (x0.2.2.2.2.1.2.1, (x0.2.2.2.2.1.2.2.1, (x0.2.2.2.2.1.2.2.2.1, (x0.2.2.2.2.1.2.2.2.2.1, (x0.2.2.2.2.1.2.2.2.2.2.1, ())))))), ((x0.2.2.2.2.2.1.1, (x0.2.2.2.2.2.1.2.1, ())), (x0.2.2.2.2.2.2.1, (x0.2.2.2.2.2.2.2.1, (x0.2.2.2.2.2.2.2.2.1, (x0.2.2.2.2.2.2.2.2.2.1, ())))))))))), ())).bind fun y25 =>
 (laws_toMeta_F ((x1.1, (x1.2.1, (x1.2.2.1, (x1.2.2.2.1, (x1.2.2.2.2.1, (x1.2.2.2.2.2.1, ())))))), ())).bind fun y27 =>
 (spec_Keep_F ((y25.1.1.1, (y25.1.1.2.1, (y25.1.1.2.2.1, (y25.1.1.2.2.2.1, ((y25.1.1.2.2.2.2.1.1, (y25.1.1.2.2.2.2.1.2.1, (y25.1.1.2.2.2.2.1.2.2.1, (y25.1.1.2.2.2.2.1.2.2.2.1, (y25.1.1.2.2.2.2.1.2.2.2.2.1, (y25.1.1.2.2.2.2.1.2.2.2.2.2.1, ())))))), ((y25.1.1.2.2.2.2.2.1.1, (y25.1.1.2.2.2.2.2.1.2.1, ())), (y25.1.1.2.2.2.2.2.2.1, (y25.1.1.2.2.2.2.2.2.2.1, (y25.1.1.2.2.2.2.2.2.2.2.1, (y25.1.1.2.2.2.2.2.2.2.2.2.1, ())))))))))), ((y27.1.1.1, (y27.1.1.2.1, (y27.1.1.2.2.1, (y27.1.1.2.2.2.1, (y27.1.1.2.2.2.2.1, (y27.1.1.2.2.2.2.2.1, ())))))), ()))).bind fun y28 =>
 (laws_toNode_F ((x0.1, (x0.2.1, (x0.2.2.1, (x0.2.2.2.1, ((x0.2.2.2.2.1.1, (x0.2.2.2.2.1.2.1, (x0.2.2.2.2.1.2.2.1, (x0.2.2.2.2.1.2.2.2.1, (x0.2.2.2.2.1.2.2.2.2.1, (x0.2.2.2.2.1.2.2.2.2.2.1, ())))))), ((x0.2.2.2.2.2.1.1, (x0.2.2.2.2.2.1.2.1, ())), (x0.2.2.2.2.2.2.1, (x0.2.2.2.2.2.2.2.1, (x0.2.2.2.2.2.2.2.2.1, (x0.2.2.2.2.2.2.2.2.2.1, ())))))))))), ())).bind fun y30 =>
 (laws_toMeta_F ((x1.1, (x1.2.1, (x1.2.2.1, (x1.2.2.2.1, (x1.2.2.2.2.1, (x1.2.2.2.2.2.1, ())))))), ())).bind fun y32 =>
 (impl_Keep_F ((y30.1.1.1, (y30.1.1.2.1, (y30.1.1.2.2.1, (y30.1.1.2.2.2.1, ((y30.1.1.2.2.2.2.1.1, (y30.1.1.2.2.2.2.1.2.1, (y30.1.1.2.2.2.2.1.2.2.1, (y30.1.1.2.2.2.2.1.2.2.2.1, (y30.1.1.2.2.2.2.1.2.2.2.2.1, (y30.1.1.2.2.2.2.1.2.2.2.2.2.1, ())))))), ((y30.1.1.2.2.2.2.2.1.1, (y30.1.1.2.2.2.2.2.1.2.1, ())), (y30.1.1.2.2.2.2.2.2.1, (y30.1.1.2.2.2.2.2.2.2.1, (y30.1.1.2.2.2.2.2.2.2.2.1, (y30.1.1.2.2.2.2.2.2.2.2.2.1, ())))))))))), ((y32.1.1.1, (y32.1.1.2.1, (y32.1.1.2.2.1, (y32.1.1.2.2.2.1, (y32.1.1.2.2.2.2.1, (y32.1.1.2.2.2.2.2.1, ())))))), ()))).bind fun y35 =>
 (laws_eqNode_F ((y35.1.1.1, (y35.1.1.2.1, (y35.1.1.2.2.1, (y35.1.1.2.2.2.1, ((y35.1.1.2.2.2.2.1.1, (y35.1.1.2.2.2.2.1.2.1, (y35.1.1.2.2.2.2.1.2.2.1, (y35.1.1.2.2.2.2.1.2.2.2.1, (y35.1.1.2.2.2.2.1.2.2.2.2.1, (y35.1.1.2.2.2.2.1.2.2.2.2.2.1, ())))))), ((y35.1.1.2.2.2.2.2.1.1, (y35.1.1.2.2.2.2.2.1.2.1, ())), (y35.1.1.2.2.2.2.2.2.1, (y35.1.1.2.2.2.2.2.2.2.1, (y35.1.1.2.2.2.2.2.2.2.2.1, (y35.1.1.2.2.2.2.2.2.2.2.2.1, ())))))))))), ((y28.1.1.1, (y28.1.1.2.1, (y28.1.1.2.2.1, (y28.1.1.2.2.2.1, ((y28.1.1.2.2.2.2.1.1, (y28.1.1.2.2.2.2.1.2.1, (y28.1.1.2.2.2.2.1.2.2.1, (y28.1.1.2.2.2.2.1.2.2.2.1, (y28.1.1.2.2.2.2.1.2.2.2.2.1, (y28.1.1.2.2.2.2.1.2.2.2.2.2.1, ())))))), ((y28.1.1.2.2.2.2.2.1.1, (y28.1.1.2.2.2.2.2.1.2.1, ())), (y28.1.1.2.2.2.2.2.2.1, (y28.1.1.2.2.2.2.2.2.2.1, (y28.1.1.2.2.2.2.2.2.2.2.1, (y28.1.1.2.2.2.2.2.2.2.2.2.1, ())))))))))), ()))).bind fun y38 =>
 brk (!y38.1.1)
 (some ((false, ()), ((), ((), ()))))
 ((laws_toNode_F ((x0.1, (x0.2.1, (x0.2.2.1, (x0.2.2.2.1, ((x0.2.2.2.2.1.1, (x0.2.2.2.2.1.2.1, (x0.2.2.2.2.1.2.2.1, (x0.2.2.2.2.1.2.2.2.1, (x0.2.2.2.2.1.2.2.2.2.1, (x0.2.2.2.2.1.2.2.2.2.2.1, ())))))), ((x0.2.2.2.2.2.1.1, (x0.2.2.2.2.2.1.2.1, ())), (x0.2.2.2.2.2.2.1, (x0.2.2.2.2.2.2.2.1, (x0.2.2.2.2.2.2.2.2.1, (x0.2.2.2.2.2.2.2.2.2.1, ())))))))))), ())).bind fun y42 =>
 (laws_eqNode_F ((y30.1.1.1, (y30.1.1.2.1, (y30.1.1.2.2.1, (y30.1.1.2.2.2.1, ((y30.1.1.2.2.2.2.1.1, (y30.1.1.2.2.2.2.1.2.1, (y30.1.1.2.2.2.2.1.2.2.1, (y30.1.1.2.2.2.2.1.2.2.2.1, (y30.1.1.2.2.2.2.1.2.2.2.2.1, (y30.1.1.2.2.2.2.1.2.2.2.2.2.1, ())))))), ((y30.1.1.2.2.2.2.2.1.1, (y30.1.1.2.2.2.2.2.1.2.1, ())), (y30.1.1.2.2.2.2.2.2.1, (y30.1.1.2.2.2.2.2.2.2.1, (y30.1.1.2.2.2.2.2.2.2.2.1, (y30.1.1.2.2.2.2.2.2.2.2.2.1, ())))))))))), ((y42.1.1.1, (y42.1.1.2.1, (y42.1.1.2.2.1, (y42.1.1.2.2.2.1, ((y42.1.1.2.2.2.2.1.1, (y42.1.1.2.2.2.2.1.2.1, (y42.1.1.2.2.2.2.1.2.2.1, (y42.1.1.2.2.2.2.1.2.2.2.1, (y42.1.1.2.2.2.2.1.2.2.2.2.1, (y42.1.1.2.2.2.2.1.2.2.2.2.2.1, ())))))), ((y42.1.1.2.2.2.2.2.1.1, (y42.1.1.2.2.2.2.2.1.2.1, ())), (y42.1.1.2.2.2.2.2.2.1, (y42.1.1.2.2.2.2.2.2.2.1, (y42.1.1.2.2.2.2.2.2.2.2.1, (y42.1.1.2.2.2.2.2.2.2.2.2.1, ())))))))))), ()))).bind fun y43 =>
 brk (!y43.1.1)
 (some ((false, ()), ((), ((), ()))))
 ((laws_toMeta_F ((x1.1, (x1.2.1, (x1.2.2.1, (x1.2.2.2.1, (x1.2.2.2.2.1, (x1.2.2.2.2.2.1, ())))))), ())).bind fun y47 =>
 (laws_eqMeta_F ((y32.1.1.1, (y32.1.1.2.1, (y32.1.1.2.2.1, (y32.1.1.2.2.2.1, (y32.1.1.2.2.2.2.1, (y32.1.1.2.2.2.2.2.1, ())))))), ((y47.1.1.1, (y47.1.1.2.1, (y47.1.1.2.2.1, (y47.1.1.2.2.2.1, (y47.1.1.2.2.2.2.1, (y47.1.1.2.2.2.2.2.1, ())))))), ()))).bind fun y48 =>
 brk (!y48.1.1)
 (some ((false, ()), ((), ((), ()))))
 ((laws_markNode_F ((y30.1.1.1, (y30.1.1.2.1, (y30.1.1.2.2.1, (y30.1.1.2.2.2.1, ((y30.1.1.2.2.2.2.1.1, (y30.1.1.2.2.2.2.1.2.1, (y30.1.1.2.2.2.2.1.2.2.1, (y30.1.1.2.2.2.2.1.2.2.2.1, (y30.1.1.2.2.2.2.1.2.2.2.2.1, (y30.1.1.2.2.2.2.1.2.2.2.2.2.1, ())))))), ((y30.1.1.2.2.2.2.2.1.1, (y30.1.1.2.2.2.2.2.1.2.1, ())), (y30.1.1.2.2.2.2.2.2.1, (y30.1.1.2.2.2.2.2.2.2.1, (y30.1.1.2.2.2.2.2.2.2.2.1, (y30.1.1.2.2.2.2.2.2.2.2.2.1, ())))))))))), ((1 : Int), ()))).bind fun y52 =>
 (laws_markMeta_F ((y32.1.1.1, (y32.1.1.2.1, (y32.1.1.2.2.1, (y32.1.1.2.2.2.1, (y32.1.1.2.2.2.2.1, (y32.1.1.2.2.2.2.2.1, ())))))), (y52.1.1, ()))).bind fun y55 =>
 brk (decide (y55.1.1 < (0 : Int)))
 (some ((false, ()), ((), ((), ()))))
 ((laws_eqNode_F ((y35.1.1.1, (y35.1.1.2.1, (y35.1.1.2.2.1, (y35.1.1.2.2.2.1, ((y35.1.1.2.2.2.2.1.1, (y35.1.1.2.2.2.2.1.2.1, (y35.1.1.2.2.2.2.1.2.2.1, (y35.1.1.2.2.2.2.1.2.2.2.1, (y35.1.1.2.2.2.2.1.2.2.2.2.1, (y35.1.1.2.2.2.2.1.2.2.2.2.2.1, ())))))), ((y35.1.1.2.2.2.2.2.1.1, (y35.1.1.2.2.2.2.2.1.2.1, ())), (y35.1.1.2.2.2.2.2.2.1, (y35.1.1.2.2.2.2.2.2.2.1, (y35.1.1.2.2.2.2.2.2.2.2.1, (y35.1.1.2.2.2.2.2.2.2.2.2.1, ())))))))))), ((y28.1.1.1, (y28.1.1.2.1, (y28.1.1.2.2.1, (y28.1.1.2.2.2.1, ((y28.1.1.2.2.2.2.1.1, (y28.1.1.2.2.2.2.1.2.1, (y28.1.1.2.2.2.2.1.2.2.1, (y28.1.1.2.2.2.2.1.2.2.2.1, (y28.1.1.2.2.2.2.1.2.2.2.2.1, (y28.1.1.2.2.2.2.1.2.2.2.2.2.1, ())))))), ((y28.1.1.2.2.2.2.2.1.1, (y28.1.1.2.2.2.2.2.1.2.1, ())), (y28.1.1.2.2.2.2.2.2.1, (y28.1.1.2.2.2.2.2.2.2.1, (y28.1.1.2.2.2.2.2.2.2.2.1, (y28.1.1.2.2.2.2.2.2.2.2.2.1, ())))))))))), ()))).bind fun y61 =>
 brk (!y61.1.1)
 (some ((false, ()), ((), ((), ()))))
 ((laws_markNode_F ((y35.1.1.1, (y35.1.1.2.1, (y35.1.1.2.2.1, (y35.1.1.2.2.2.1, ((y35.1.1.2.2.2.2.1.1, (y35.1.1.2.2.2.2.1.2.1, (y35.1.1.2.2.2.2.1.2.2.1, (y35.1.1.2.2.2.2.1.2.2.2.1, (y35.1.1.2.2.2.2.1.2.2.2.2.1, (y35.1.1.2.2.2.2.1.2.2.2.2.2.1, ())))))), ((y35.1.1.2.2.2.2.2.1.1, (y35.1.1.2.2.2.2.2.1.2.1, ())), (y35.1.1.2.2.2.2.2.2.1, (y35.1.1.2.2.2.2.2.2.2.1, (y35.1.1.2.2.2.2.2.2.2.2.1, (y35.1.1.2.2.2.2.2.2.2.2.2.1, ())))))))))), ((1 : Int), ()))).bind fun y66 =>
 (laws_heldNode_F ((y35.1.1.1, (y35.1.1.2.1, (y35.1.1.2.2.1, (y66.2.1.2.2.2.1, ((y66.2.1.2.2.2.2.1.1, (y66.2.1.2.2.2.2.1.2.1, (y35.1.1.2.2.2.2.1.2.2.1, (y35.1.1.2.2.2.2.1.2.2.2.1, (y35.1.1.2.2.2.2.1.2.2.2.2.1, (y35.1.1.2.2.2.2.1.2.2.2.2.2.1, ())))))), ((y66.2.1.2.2.2.2.2.1.1, (y66.2.1.2.2.2.2.2.1.2.1, ())), (y66.2.1.2.2.2.2.2.2.1, (y66.2.1.2.2.2.2.2.2.2.1, (y66.2.1.2.2.2.2.2.2.2.2.1, (y66.2.1.2.2.2.2.2.2.2.2.2.1, ())))))))))), ((1 : Int), ()))).bind fun y69 =>
 brk (decide (y69.1.1 < (0 : Int)))
 (some ((false, ()), ((), ((), ()))))
 (brk (!decide (y69.1.1 = y66.1.1))
 (some ((false, ()), ((), ((), ()))))
 (both ((laws_toNode_F ((x0.1, (x0.2.1, (x0.2.2.1, (x0.2.2.2.1, ((x0.2.2.2.2.1.1, (x0.2.2.2.2.1.2.1, (x0.2.2.2.2.1.2.2.1, (x0.2.2.2.2.1.2.2.2.1, (x0.2.2.2.2.1.2.2.2.2.1, (x0.2.2.2.2.1.2.2.2.2.2.1, ())))))), ((x0.2.2.2.2.2.1.1, (x0.2.2.2.2.2.1.2.1, ())), (x0.2.2.2.2.2.2.1, (x0.2.2.2.2.2.2.2.1, (x0.2.2.2.2.2.2.2.2.1, (x0.2.2.2.2.2.2.2.2.2.1, ())))))))))), ())).bind fun y76 =>
 both ((laws_toMeta_F ((x1.1, (x1.2.1, (x1.2.2.1, (x1.2.2.2.1, (x1.2.2.2.2.1, (x1.2.2.2.2.2.1, ())))))), ())).bind fun y78 =>
 both ((impl_Keep_F ((y76.1.1.1, (y76.1.1.2.1, (y76.1.1.2.2.1, (y76.1.1.2.2.2.1, ((y76.1.1.2.2.2.2.1.1, (y76.1.1.2.2.2.2.1.2.1, (y76.1.1.2.2.2.2.1.2.2.1, (y76.1.1.2.2.2.2.1.2.2.2.1, (y76.1.1.2.2.2.2.1.2.2.2.2.1, (y76.1.1.2.2.2.2.1.2.2.2.2.2.1, ())))))), ((y76.1.1.2.2.2.2.2.1.1, (y76.1.1.2.2.2.2.2.1.2.1, ())), (y76.1.1.2.2.2.2.2.2.1, (y76.1.1.2.2.2.2.2.2.2.1, (y76.1.1.2.2.2.2.2.2.2.2.1, (y76.1.1.2.2.2.2.2.2.2.2.2.1, ())))))))))), ((y78.1.1.1, (y78.1.1.2.1, (y78.1.1.2.2.1, (y78.1.1.2.2.2.1, (y78.1.1.2.2.2.2.1, (y78.1.1.2.2.2.2.2.1, ())))))), ()))).bind fun y79 =>
 (laws_eqNode_F ((y79.1.1.1, (y79.1.1.2.1, (y79.1.1.2.2.1, (y79.1.1.2.2.2.1, ((y79.1.1.2.2.2.2.1.1, (y79.1.1.2.2.2.2.1.2.1, (y79.1.1.2.2.2.2.1.2.2.1, (y79.1.1.2.2.2.2.1.2.2.2.1, (y79.1.1.2.2.2.2.1.2.2.2.2.1, (y79.1.1.2.2.2.2.1.2.2.2.2.2.1, ())))))), ((y79.1.1.2.2.2.2.2.1.1, (y79.1.1.2.2.2.2.2.1.2.1, ())), (y79.1.1.2.2.2.2.2.2.1, (y79.1.1.2.2.2.2.2.2.2.1, (y79.1.1.2.2.2.2.2.2.2.2.1, (y79.1.1.2.2.2.2.2.2.2.2.2.1, ())))))))))), ((y28.1.1.1, (y28.1.1.2.1, (y28.1.1.2.2.1, (y28.1.1.2.2.2.1, ((y28.1.1.2.2.2.2.1.1, (y28.1.1.2.2.2.2.1.2.1, (y28.1.1.2.2.2.2.1.2.2.1, (y28.1.1.2.2.2.2.1.2.2.2.1, (y28.1.1.2.2.2.2.1.2.2.2.2.1, (y28.1.1.2.2.2.2.1.2.2.2.2.2.1, ())))))), ((y28.1.1.2.2.2.2.2.1.1, (y28.1.1.2.2.2.2.2.1.2.1, ())), (y28.1.1.2.2.2.2.2.2.1, (y28.1.1.2.2.2.2.2.2.2.1, (y28.1.1.2.2.2.2.2.2.2.2.1, (y28.1.1.2.2.2.2.2.2.2.2.2.1, ())))))))))), ()))).bind fun y82 =>
 brk (!y82.1.1)
 (some ((false, ()), ((), ((), ()))))
 ((laws_heldNode_F ((y35.1.1.1, (y35.1.1.2.1, (y35.1.1.2.2.1, (y66.2.1.2.2.2.1, ((y66.2.1.2.2.2.2.1.1, (y66.2.1.2.2.2.2.1.2.1, (y35.1.1.2.2.2.2.1.2.2.1, (y35.1.1.2.2.2.2.1.2.2.2.1, (y35.1.1.2.2.2.2.1.2.2.2.2.1, (y35.1.1.2.2.2.2.1.2.2.2.2.2.1, ())))))), ((y66.2.1.2.2.2.2.2.1.1, (y66.2.1.2.2.2.2.2.1.2.1, ())), (y66.2.1.2.2.2.2.2.2.1, (y66.2.1.2.2.2.2.2.2.2.1, (y66.2.1.2.2.2.2.2.2.2.2.1, (y66.2.1.2.2.2.2.2.2.2.2.2.1, ())))))))))), ((1 : Int), ()))).bind fun y86 =>
 brk (decide (y86.1.1 < (0 : Int)))
 (some ((false, ()), ((), ((), ()))))
 (brk (!decide (y86.1.1 = y66.1.1))
 (some ((false, ()), ((), ((), ()))))
 (some ((true, ()), ((), ((), ())))))))
 ((impl_Keep_F ((y76.1.1.1, (y76.1.1.2.1, (y76.1.1.2.2.1, (y76.1.1.2.2.2.1, ((y76.1.1.2.2.2.2.1.1, (y76.1.1.2.2.2.2.1.2.1, (y76.1.1.2.2.2.2.1.2.2.1, (y76.1.1.2.2.2.2.1.2.2.2.1, (y76.1.1.2.2.2.2.1.2.2.2.2.1, (y76.1.1.2.2.2.2.1.2.2.2.2.2.1, ())))))), ((y76.1.1.2.2.2.2.2.1.1, (y76.1.1.2.2.2.2.2.1.2.1, ())), (y76.1.1.2.2.2.2.2.2.1, (y76.1.1.2.2.2.2.2.2.2.1, (y76.1.1.2.2.2.2.2.2.2.2.1, (y76.1.1.2.2.2.2.2.2.2.2.2.1, ())))))))))), ((y78.1.1.1, (y78.1.1.2.1, (y78.1.1.2.2.1, (y78.1.1.2.2.2.1, (y78.1.1.2.2.2.2.1, (y78.1.1.2.2.2.2.2.1, ())))))), ()))).bind fun y79 =>
 (laws_eqNode_F ((y79.1.1.1, (y79.1.1.2.1, (y79.1.1.2.2.1, (y79.1.1.2.2.2.1, ((y79.1.1.2.2.2.2.1.1, (y79.1.1.2.2.2.2.1.2.1, (y79.1.1.2.2.2.2.1.2.2.1, (y79.1.1.2.2.2.2.1.2.2.2.1, (y79.1.1.2.2.2.2.1.2.2.2.2.1, (y79.1.1.2.2.2.2.1.2.2.2.2.2.1, ())))))), ((y79.1.1.2.2.2.2.2.1.1, (y79.1.1.2.2.2.2.2.1.2.1, ())), (y79.1.1.2.2.2.2.2.2.1, (y79.1.1.2.2.2.2.2.2.2.1, (y79.1.1.2.2.2.2.2.2.2.2.1, (y79.1.1.2.2.2.2.2.2.2.2.2.1, ())))))))))), ((y28.1.1.1, (y28.1.1.2.1, (y28.1.1.2.2.1, (y28.1.1.2.2.2.1, ((y28.1.1.2.2.2.2.1.1, (y28.1.1.2.2.2.2.1.2.1, (y28.1.1.2.2.2.2.1.2.2.1, (y28.1.1.2.2.2.2.1.2.2.2.1, (y28.1.1.2.2.2.2.1.2.2.2.2.1, (y28.1.1.2.2.2.2.1.2.2.2.2.2.1, ())))))), ((y28.1.1.2.2.2.2.2.1.1, (y28.1.1.2.2.2.2.2.1.2.1, ())), (y28.1.1.2.2.2.2.2.2.1, (y28.1.1.2.2.2.2.2.2.2.1, (y28.1.1.2.2.2.2.2.2.2.2.1, (y28.1.1.2.2.2.2.2.2.2.2.2.1, ())))))))))), ()))).bind fun y82 =>
 brk (!y82.1.1)
 (some ((false, ()), ((), ((), ()))))
 ((laws_heldNode_F ((y35.1.1.1, (y35.1.1.2.1, (y35.1.1.2.2.1, (y66.2.1.2.2.2.1, ((y66.2.1.2.2.2.2.1.1, (y66.2.1.2.2.2.2.1.2.1, (y35.1.1.2.2.2.2.1.2.2.1, (y35.1.1.2.2.2.2.1.2.2.2.1, (y35.1.1.2.2.2.2.1.2.2.2.2.1, (y35.1.1.2.2.2.2.1.2.2.2.2.2.1, ())))))), ((y66.2.1.2.2.2.2.2.1.1, (y66.2.1.2.2.2.2.2.1.2.1, ())), (y66.2.1.2.2.2.2.2.2.1, (y66.2.1.2.2.2.2.2.2.2.1, (y66.2.1.2.2.2.2.2.2.2.2.1, (y66.2.1.2.2.2.2.2.2.2.2.2.1, ())))))))))), ((1 : Int), ()))).bind fun y86 =>
 brk (decide (y86.1.1 < (0 : Int)))
 (some ((false, ()), ((), ((), ()))))
 (brk (!decide (y86.1.1 = y66.1.1))
 (some ((false, ()), ((), ((), ()))))
 (some ((true, ()), ((), ((), ()))))))))
 ((laws_toMeta_F ((x1.1, (x1.2.1, (x1.2.2.1, (x1.2.2.2.1, (x1.2.2.2.2.1, (x1.2.2.2.2.2.1, ())))))), ())).bind fun y78 =>
 (impl_Keep_F ((y76.1.1.1, (y76.1.1.2.1, (y76.1.1.2.2.1, (y76.1.1.2.2.2.1, ((y76.1.1.2.2.2.2.1.1, (y76.1.1.2.2.2.2.1.2.1, (y76.1.1.2.2.2.2.1.2.2.1, (y76.1.1.2.2.2.2.1.2.2.2.1, (y76.1.1.2.2.2.2.1.2.2.2.2.1, (y76.1.1.2.2.2.2.1.2.2.2.2.2.1, ())))))), ((y76.1.1.2.2.2.2.2.1.1, (y76.1.1.2.2.2.2.2.1.2.1, ())), (y76.1.1.2.2.2.2.2.2.1, (y76.1.1.2.2.2.2.2.2.2.1, (y76.1.1.2.2.2.2.2.2.2.2.1, (y76.1.1.2.2.2.2.2.2.2.2.2.1, ())))))))))), ((y78.1.1.1, (y78.1.1.2.1, (y78.1.1.2.2.1, (y78.1.1.2.2.2.1, (y78.1.1.2.2.2.2.1, (y78.1.1.2.2.2.2.2.1, ())))))), ()))).bind fun y79 =>
 (laws_eqNode_F ((y79.1.1.1, (y79.1.1.2.1, (y79.1.1.2.2.1, (y79.1.1.2.2.2.1, ((y79.1.1.2.2.2.2.1.1, (y79.1.1.2.2.2.2.1.2.1, (y79.1.1.2.2.2.2.1.2.2.1, (y79.1.1.2.2.2.2.1.2.2.2.1, (y79.1.1.2.2.2.2.1.2.2.2.2.1, (y79.1.1.2.2.2.2.1.2.2.2.2.2.1, ())))))), ((y79.1.1.2.2.2.2.2.1.1, (y79.1.1.2.2.2.2.2.1.2.1, ())), (y79.1.1.2.2.2.2.2.2.1, (y79.1.1.2.2.2.2.2.2.2.1, (y79.1.1.2.2.2.2.2.2.2.2.1, (y79.1.1.2.2.2.2.2.2.2.2.2.1, ())))))))))), ((y28.1.1.1, (y28.1.1.2.1, (y28.1.1.2.2.1, (y28.1.1.2.2.2.1, ((y28.1.1.2.2.2.2.1.1, (y28.1.1.2.2.2.2.1.2.1, (y28.1.1.2.2.2.2.1.2.2.1, (y28.1.1.2.2.2.2.1.2.2.2.1, (y28.1.1.2.2.2.2.1.2.2.2.2.1, (y28.1.1.2.2.2.2.1.2.2.2.2.2.1, ())))))), ((y28.1.1.2.2.2.2.2.1.1, (y28.1.1.2.2.2.2.2.1.2.1, ())), (y28.1.1.2.2.2.2.2.2.1, (y28.1.1.2.2.2.2.2.2.2.1, (y28.1.1.2.2.2.2.2.2.2.2.1, (y28.1.1.2.2.2.2.2.2.2.2.2.1, ())))))))))), ()))).bind fun y82 =>
 brk (!y82.1.1)
 (some ((false, ()), ((), ((), ()))))
 ((laws_heldNode_F ((y35.1.1.1, (y35.1.1.2.1, (y35.1.1.2.2.1, (y66.2.1.2.2.2.1, ((y66.2.1.2.2.2.2.1.1, (y66.2.1.2.2.2.2.1.2.1, (y35.1.1.2.2.2.2.1.2.2.1, (y35.1.1.2.2.2.2.1.2.2.2.1, (y35.1.1.2.2.2.2.1.2.2.2.2.1, (y35.1.1.2.2.2.2.1.2.2.2.2.2.1, ())))))), ((y66.2.1.2.2.2.2.2.1.1, (y66.2.1.2.2.2.2.2.1.2.1, ())), (y66.2.1.2.2.2.2.2.2.1, (y66.2.1.2.2.2.2.2.2.2.1, (y66.2.1.2.2.2.2.2.2.2.2.1, (y66.2.1.2.2.2.2.2.2.2.2.2.1, ())))))))))), ((1 : Int), ()))).bind fun y86 =>
 brk (decide (y86.1.1 < (0 : Int)))
 (some ((false, ()), ((), ((), ()))))
 (brk (!decide (y86.1.1 = y66.1.1))
 (some ((false, ()), ((), ((), ()))))
 (some ((true, ()), ((), ((), ()))))))))
 ((laws_toNode_F ((x0.1, (x0.2.1, (x0.2.2.1, (x0.2.2.2.1, ((x0.2.2.2.2.1.1, (x0.2.2.2.2.1.2.1, (x0.2.2.2.2.1.2.2.1, (x0.2.2.2.2.1.2.2.2.1, (x0.2.2.2.2.1.2.2.2.2.1, (x0.2.2.2.2.1.2.2.2.2.2.1, ())))))), ((x0.2.2.2.2.2.1.1, (x0.2.2.2.2.2.1.2.1, ())), (x0.2.2.2.2.2.2.1, (x0.2.2.2.2.2.2.2.1, (x0.2.2.2.2.2.2.2.2.1, (x0.2.2.2.2.2.2.2.2.2.1, ())))))))))), ())).bind fun y76 =>
 (laws_toMeta_F ((x1.1, (x1.2.1, (x1.2.2.1, (x1.2.2.2.1, (x1.2.2.2.2.1, (x1.2.2.2.2.2.1, ())))))), ())).bind fun y78 =>
 (impl_Keep_F ((y76.1.1.1, (y76.1.1.2.1, (y76.1.1.2.2.1, (y76.1.1.2.2.2.1, ((y76.1.1.2.2.2.2.1.1, (y76.1.1.2.2.2.2.1.2.1, (y76.1.1.2.2.2.2.1.2.2.1, (y76.1.1.2.2.2.2.1.2.2.2.1, (y76.1.1.2.2.2.2.1.2.2.2.2.1, (y76.1.1.2.2.2.2.1.2.2.2.2.2.1, ())))))), ((y76.1.1.2.2.2.2.2.1.1, (y76.1.1.2.2.2.2.2.1.2.1, ())), (y76.1.1.2.2.2.2.2.2.1, (y76.1.1.2.2.2.2.2.2.2.1, (y76.1.1.2.2.2.2.2.2.2.2.1, (y76.1.1.2.2.2.2.2.2.2.2.2.1, ())))))))))), ((y78.1.1.1, (y78.1.1.2.1, (y78.1.1.2.2.1, (y78.1.1.2.2.2.1, (y78.1.1.2.2.2.2.1, (y78.1.1.2.2.2.2.2.1, ())))))), ()))).bind fun y79 =>
 (laws_eqNode_F ((y79.1.1.1, (y79.1.1.2.1, (y79.1.1.2.2.1, (y79.1.1.2.2.2.1, ((y79.1.1.2.2.2.2.1.1, (y79.1.1.2.2.2.2.1.2.1, (y79.1.1.2.2.2.2.1.2.2.1, (y79.1.1.2.2.2.2.1.2.2.2.1, (y79.1.1.2.2.2.2.1.2.2.2.2.1, (y79.1.1.2.2.2.2.1.2.2.2.2.2.1, ())))))), ((y79.1.1.2.2.2.2.2.1.1, (y79.1.1.2.2.2.2.2.1.2.1, ())), (y79.1.1.2.2.2.2.2.2.1, (y79.1.1.2.2.2.2.2.2.2.1, (y79.1.1.2.2.2.2.2.2.2.2.1, (y79.1.1.2.2.2.2.2.2.2.2.2.1, ())))))))))), ((y28.1.1.1, (y28.1.1.2.1, (y28.1.1.2.2.1, (y28.1.1.2.2.2.1, ((y28.1.1.2.2.2.2.1.1, (y28.1.1.2.2.2.2.1.2.1, (y28.1.1.2.2.2.2.1.2.2.1, (y28.1.1.2.2.2.2.1.2.2.2.1, (y28.1.1.2.2.2.2.1.2.2.2.2.1, (y28.1.1.2.2.2.2.1.2.2.2.2.2.1, ())))))), ((y28.1.1.2.2.2.2.2.1.1, (y28.1.1.2.2.2.2.2.1.2.1, ())), (y28.1.1.2.2.2.2.2.2.1, (y28.1.1.2.2.2.2.2.2.2.1, (y28.1.1.2.2.2.2.2.2.2.2.1, (y28.1.1.2.2.2.2.2.2.2.2.2.1, ())))))))))), ()))).bind fun y82 =>
 brk (!y82.1.1)
 (some ((false, ()), ((), ((), ()))))
 ((laws_heldNode_F ((y35.1.1.1, (y35.1.1.2.1, (y35.1.1.2.2.1, (y66.2.1.2.2.2.1, ((y66.2.1.2.2.2.2.1.1, (y66.2.1.2.2.2.2.1.2.1, (y35.1.1.2.2.2.2.1.2.2.1, (y35.1.1.2.2.2.2.1.2.2.2.1, (y35.1.1.2.2.2.2.1.2.2.2.2.1, (y35.1.1.2.2.2.2.1.2.2.2.2.2.1, ())))))), ((y66.2.1.2.2.2.2.2.1.1, (y66.2.1.2.2.2.2.2.1.2.1, ())), (y66.2.1.2.2.2.2.2.2.1, (y66.2.1.2.2.2.2.2.2.2.1, (y66.2.1.2.2.2.2.2.2.2.2.1, (y66.2.1.2.2.2.2.2.2.2.2.2.1, ())))))))))), ((1 : Int), ()))).bind fun y86 =>
 brk (decide (y86.1.1 < (0 : Int)))
 (some ((false, ()), ((), ((), ()))))
 (brk (!decide (y86.1.1 = y66.1.1))
 (some ((false, ()), ((), ((), ()))))
 (some ((true, ()), ((), ((), ()))))))))))))))))) := by kernel_rfl
end Go.Refl
