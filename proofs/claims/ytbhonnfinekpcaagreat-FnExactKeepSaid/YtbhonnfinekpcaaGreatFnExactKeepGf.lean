/- Functions of the program, told by the evaluator: printed by a program of this claim. No condition. -/
import Derived.Test.YtbhonnfinekpcaaGreatFnExactKeepGt
namespace Go.Refl
open Go.RowKit Go.Proofs
set_option linter.unusedVariables false
set_option maxRecDepth 100000
/-! laws.szIntS -/
noncomputable def laws_szIntS_b : Code := bd Tryz.f21
def laws_szIntS_T : List (Nat × Tm) := []
noncomputable def laws_szIntS_E : Env := ⟨tt0, []⟩
noncomputable def laws_szIntS_F : PsD [.ro tIs, .ro tI] → Option (RsD [.own tI] × PsO [.ro tIs, .ro tI]) := fun x => evFn laws_szIntS_E laws_szIntS_T Tryz.f21 laws_szIntS_b [.ro tIs, .ro tI] [.own tI] x
@[reducible] noncomputable def laws_szIntS_C : Ct := ⟨[.ro tIs, .ro tI], [.own tI], laws_szIntS_F⟩
theorem laws_szIntS_h (x : PsD [.ro tIs, .ro tI]) (y : RsD [.own tI] × PsO [.ro tIs, .ro tI]) (h : laws_szIntS_F x = some y) : evFn laws_szIntS_E laws_szIntS_T Tryz.f21 laws_szIntS_b [.ro tIs, .ro tI] [.own tI] x = some y := h
theorem laws_szIntS_c : ∀ f c, get laws_szIntS_E.ct f = some c → Sat Tryz.prog f c := ct_nil
theorem laws_szIntS_S : Sat Tryz.prog 21 laws_szIntS_C := fn_ok2 (envOk _) laws_szIntS_c mixedOk Tryz.func21 (by kernel_rfl : Tryz.f21.body = some laws_szIntS_b) (by kernel_rfl) (by kernel_rfl) laws_szIntS_h
noncomputable def laws_szIntS_Ke  (x0 : List Int) (x1 : Int) : Ex → AS → Option (RsD [.own tI] × PsO [.ro tIs, .ro tI]) := endK laws_szIntS_E Tryz.f21 [.ro tIs, .ro tI] [.own tI] (initL [.ro tIs, .ro tI] (x0, (x1, ())) 0).1
theorem laws_szIntS_main (x0 : List Int) (x1 : Int) : laws_szIntS_F (x0, (x1, ())) =
 brk (decide (IntKind.i64.wrap (x1 - (x0.length : Int)) < (0 : Int)))
 (some (((-1 : Int), ()), ((), ((), ()))))
 (some ((IntKind.i64.wrap (x1 - (x0.length : Int)), ()), ((), ((), ())))) := by kernel_rfl
/-! laws.szIntSS -/
noncomputable def laws_szIntSS_b : Code := bd Tryz.f24
@[reducible] def laws_szIntSS_t0 : Tm := ⟨[], [], [(0, .sc true tIss), (1, .sc true tI), (5, .sc true tI)], [], [1, 4], []⟩
def laws_szIntSS_T : List (Nat × Tm) := [(0, laws_szIntSS_t0)]
noncomputable def laws_szIntSS_E : Env := ⟨tt0, [(21, laws_szIntS_C)]⟩
noncomputable def laws_szIntSS_F : PsD [.ro tIss, .ro tI] → Option (RsD [.own tI] × PsO [.ro tIss, .ro tI]) := fun x => evFn laws_szIntSS_E laws_szIntSS_T Tryz.f24 laws_szIntSS_b [.ro tIss, .ro tI] [.own tI] x
@[reducible] noncomputable def laws_szIntSS_C : Ct := ⟨[.ro tIss, .ro tI], [.own tI], laws_szIntSS_F⟩
theorem laws_szIntSS_h (x : PsD [.ro tIss, .ro tI]) (y : RsD [.own tI] × PsO [.ro tIss, .ro tI]) (h : laws_szIntSS_F x = some y) : evFn laws_szIntSS_E laws_szIntSS_T Tryz.f24 laws_szIntSS_b [.ro tIss, .ro tI] [.own tI] x = some y := h
theorem laws_szIntSS_c : ∀ f c, get laws_szIntSS_E.ct f = some c → Sat Tryz.prog f c := ct_cons laws_szIntS_S (ct_nil)
theorem laws_szIntSS_S : Sat Tryz.prog 24 laws_szIntSS_C := fn_ok2 (envOk _) laws_szIntSS_c mixedOk Tryz.func24 (by kernel_rfl : Tryz.f24.body = some laws_szIntSS_b) (by kernel_rfl) (by kernel_rfl) laws_szIntSS_h
noncomputable def laws_szIntSS_Ke  (x0 : List (List Int)) (x1 : Int) : Ex → AS → Option (RsD [.own tI] × PsO [.ro tIss, .ro tI]) := endK laws_szIntSS_E Tryz.f24 [.ro tIss, .ro tI] [.own tI] (initL [.ro tIss, .ro tI] (x0, (x1, ())) 0).1
noncomputable def laws_szIntSS_B0 {R : Type} : AS → (Ex → AS → Option R) → Option R := fun A K => ev laws_szIntSS_E laws_szIntSS_T 0 (cA (cA (cB (cA (cB (cB (cB laws_szIntSS_b))))))) A K
noncomputable def laws_szIntSS_K0  (x0 : List (List Int)) (x1 : Int) : Ex → AS → Option (RsD [.own tI] × PsO [.ro tIss, .ro tI]) := kBlk 0 (kSeq (fun A K => ev laws_szIntSS_E laws_szIntSS_T 1000 (cB (cB (cB (cB laws_szIntSS_b)))) A K) (laws_szIntSS_Ke x0 x1))
noncomputable def laws_szIntSS_x0_0 (d0 : Int) (d1 : Int) : AS := ⟨[(1, .v (.one (.d true tI d0))), (4, .v (.one (.d true tI d1)))], []⟩
noncomputable def laws_szIntSS_x0_1 (d0 : Int) : AS := ⟨[(1, .v (.one (.d true tI d0)))], []⟩
theorem laws_szIntSS_l0 {R : Type} {K : Ex → AS → Option R} {s : laws_szIntSS_t0.D} (n : Nat) {v : Option R} (h : iterG laws_szIntSS_t0 laws_szIntSS_B0 K n s = v) (hv : ∃ r, v = some r) : loopG laws_szIntSS_t0 laws_szIntSS_B0 K s = v := loop_eq (ev_mono _ _) n h hv
theorem laws_szIntSS_main (x0 : List (List Int)) (x1 : Int) : laws_szIntSS_F (x0, (x1, ())) =
 brk (decide (IntKind.i64.wrap (x1 - (x0.length : Int)) < (0 : Int)))
 (some (((-1 : Int), ()), ((), ((), ()))))
 (loopG laws_szIntSS_t0 laws_szIntSS_B0 (laws_szIntSS_K0 x0 x1) ((x0, (IntKind.i64.wrap (x1 - (x0.length : Int)), ((0 : Int), ()))), ())) := by kernel_rfl
theorem laws_szIntSS_r0 {R : Type} (K : Ex → AS → Option R) (n : Nat) (t0 : List (List Int)) (t1 : Int) (t5 : Int) : iterG laws_szIntSS_t0 laws_szIntSS_B0 K (n + 1) ((t0, (t1, (t5, ()))), ()) =
 brk (decide (t5 < (t0.length : Int)))
 (ck (decide (0 ≤ t5) && decide (t5 < t0.length)) ((laws_szIntS_F (rdD tIs t0 t5, (t1, ()))).bind fun y23 =>
 brk (decide (y23.1.1 < (0 : Int)))
 (K .ret (laws_szIntSS_x0_0 y23.1.1 (-1 : Int)))
 (iterG laws_szIntSS_t0 laws_szIntSS_B0 K n ((t0, (y23.1.1, (IntKind.i64.wrap (t5 + (1 : Int)), ()))), ()))))
 (K (.exit 0) (laws_szIntSS_x0_1 t1)) := by kernel_rfl
theorem laws_szIntSS_e0_0 (x0 : List (List Int)) (x1 : Int) (d0 : Int) (d1 : Int) : laws_szIntSS_K0 x0 x1 .ret (laws_szIntSS_x0_0 d0 d1) =
 some ((d1, ()), ((), ((), ()))) := by kernel_rfl
theorem laws_szIntSS_e0_1 (x0 : List (List Int)) (x1 : Int) (d0 : Int) : laws_szIntSS_K0 x0 x1 (.exit 0) (laws_szIntSS_x0_1 d0) =
 some ((d0, ()), ((), ((), ()))) := by kernel_rfl
/-! laws.szMeta -/
noncomputable def laws_szMeta_b : Code := bd Tryz.f15
def laws_szMeta_T : List (Nat × Tm) := []
noncomputable def laws_szMeta_E : Env := ⟨tt0, [(21, laws_szIntS_C), (24, laws_szIntSS_C)]⟩
noncomputable def laws_szMeta_F : PsD [.ro tMeta, .ro tI] → Option (RsD [.own tI] × PsO [.ro tMeta, .ro tI]) := fun x => evFn laws_szMeta_E laws_szMeta_T Tryz.f15 laws_szMeta_b [.ro tMeta, .ro tI] [.own tI] x
@[reducible] noncomputable def laws_szMeta_C : Ct := ⟨[.ro tMeta, .ro tI], [.own tI], laws_szMeta_F⟩
theorem laws_szMeta_h (x : PsD [.ro tMeta, .ro tI]) (y : RsD [.own tI] × PsO [.ro tMeta, .ro tI]) (h : laws_szMeta_F x = some y) : evFn laws_szMeta_E laws_szMeta_T Tryz.f15 laws_szMeta_b [.ro tMeta, .ro tI] [.own tI] x = some y := h
theorem laws_szMeta_c : ∀ f c, get laws_szMeta_E.ct f = some c → Sat Tryz.prog f c := ct_cons laws_szIntS_S (ct_cons laws_szIntSS_S (ct_nil))
theorem laws_szMeta_S : Sat Tryz.prog 15 laws_szMeta_C := fn_ok2 (envOk _) laws_szMeta_c mixedOk Tryz.func15 (by kernel_rfl : Tryz.f15.body = some laws_szMeta_b) (by kernel_rfl) (by kernel_rfl) laws_szMeta_h
noncomputable def laws_szMeta_Ke  (x0 : List Int × List (List Int) × Bool × Bool × Bool × Int × Unit) (x1 : Int) : Ex → AS → Option (RsD [.own tI] × PsO [.ro tMeta, .ro tI]) := endK laws_szMeta_E Tryz.f15 [.ro tMeta, .ro tI] [.own tI] (initL [.ro tMeta, .ro tI] (x0, (x1, ())) 0).1
theorem laws_szMeta_main (x0 : List Int × List (List Int) × Bool × Bool × Bool × Int × Unit) (x1 : Int) : laws_szMeta_F (x0, (x1, ())) =
 (laws_szIntS_F (x0.1, (x1, ()))).bind fun y8 =>
 brk (decide (y8.1.1 < (0 : Int)))
 (some (((-1 : Int), ()), ((), ((), ()))))
 ((laws_szIntSS_F (x0.2.1, (y8.1.1, ()))).bind fun y14 =>
 brk (decide (y14.1.1 < (0 : Int)))
 (some (((-1 : Int), ()), ((), ((), ()))))
 (some ((y14.1.1, ()), ((), ((), ()))))) := by kernel_rfl
/-! laws.szByteS -/
noncomputable def laws_szByteS_b : Code := bd Tryz.f51
def laws_szByteS_T : List (Nat × Tm) := []
noncomputable def laws_szByteS_E : Env := ⟨tt0, []⟩
noncomputable def laws_szByteS_F : PsD [.ro tYs, .ro tI] → Option (RsD [.own tI] × PsO [.ro tYs, .ro tI]) := fun x => evFn laws_szByteS_E laws_szByteS_T Tryz.f51 laws_szByteS_b [.ro tYs, .ro tI] [.own tI] x
@[reducible] noncomputable def laws_szByteS_C : Ct := ⟨[.ro tYs, .ro tI], [.own tI], laws_szByteS_F⟩
theorem laws_szByteS_h (x : PsD [.ro tYs, .ro tI]) (y : RsD [.own tI] × PsO [.ro tYs, .ro tI]) (h : laws_szByteS_F x = some y) : evFn laws_szByteS_E laws_szByteS_T Tryz.f51 laws_szByteS_b [.ro tYs, .ro tI] [.own tI] x = some y := h
theorem laws_szByteS_c : ∀ f c, get laws_szByteS_E.ct f = some c → Sat Tryz.prog f c := ct_nil
theorem laws_szByteS_S : Sat Tryz.prog 51 laws_szByteS_C := fn_ok2 (envOk _) laws_szByteS_c mixedOk Tryz.func51 (by kernel_rfl : Tryz.f51.body = some laws_szByteS_b) (by kernel_rfl) (by kernel_rfl) laws_szByteS_h
noncomputable def laws_szByteS_Ke  (x0 : List Int) (x1 : Int) : Ex → AS → Option (RsD [.own tI] × PsO [.ro tYs, .ro tI]) := endK laws_szByteS_E Tryz.f51 [.ro tYs, .ro tI] [.own tI] (initL [.ro tYs, .ro tI] (x0, (x1, ())) 0).1
theorem laws_szByteS_main (x0 : List Int) (x1 : Int) : laws_szByteS_F (x0, (x1, ())) =
 brk (decide (IntKind.i64.wrap (x1 - (x0.length : Int)) < (0 : Int)))
 (some (((-1 : Int), ()), ((), ((), ()))))
 (some ((IntKind.i64.wrap (x1 - (x0.length : Int)), ()), ((), ((), ())))) := by kernel_rfl
/-! laws.szSlots -/
noncomputable def laws_szSlots_b : Code := bd Tryz.f22
def laws_szSlots_T : List (Nat × Tm) := []
noncomputable def laws_szSlots_E : Env := ⟨tt0, [(51, laws_szByteS_C)]⟩
noncomputable def laws_szSlots_F : PsD [.ro tSlots, .ro tI] → Option (RsD [.own tI] × PsO [.ro tSlots, .ro tI]) := fun x => evFn laws_szSlots_E laws_szSlots_T Tryz.f22 laws_szSlots_b [.ro tSlots, .ro tI] [.own tI] x
@[reducible] noncomputable def laws_szSlots_C : Ct := ⟨[.ro tSlots, .ro tI], [.own tI], laws_szSlots_F⟩
theorem laws_szSlots_h (x : PsD [.ro tSlots, .ro tI]) (y : RsD [.own tI] × PsO [.ro tSlots, .ro tI]) (h : laws_szSlots_F x = some y) : evFn laws_szSlots_E laws_szSlots_T Tryz.f22 laws_szSlots_b [.ro tSlots, .ro tI] [.own tI] x = some y := h
theorem laws_szSlots_c : ∀ f c, get laws_szSlots_E.ct f = some c → Sat Tryz.prog f c := ct_cons laws_szByteS_S (ct_nil)
theorem laws_szSlots_S : Sat Tryz.prog 22 laws_szSlots_C := fn_ok2 (envOk _) laws_szSlots_c mixedOk Tryz.func22 (by kernel_rfl : Tryz.f22.body = some laws_szSlots_b) (by kernel_rfl) (by kernel_rfl) laws_szSlots_h
noncomputable def laws_szSlots_Ke  (x0 : List Int × List Int × Unit) (x1 : Int) : Ex → AS → Option (RsD [.own tI] × PsO [.ro tSlots, .ro tI]) := endK laws_szSlots_E Tryz.f22 [.ro tSlots, .ro tI] [.own tI] (initL [.ro tSlots, .ro tI] (x0, (x1, ())) 0).1
theorem laws_szSlots_main (x0 : List Int × List Int × Unit) (x1 : Int) : laws_szSlots_F (x0, (x1, ())) =
 (laws_szByteS_F (x0.1, (x1, ()))).bind fun y8 =>
 brk (decide (y8.1.1 < (0 : Int)))
 (some (((-1 : Int), ()), ((), ((), ()))))
 ((laws_szByteS_F (x0.2.1, (y8.1.1, ()))).bind fun y14 =>
 brk (decide (y14.1.1 < (0 : Int)))
 (some (((-1 : Int), ()), ((), ((), ()))))
 (some ((y14.1.1, ()), ((), ((), ()))))) := by kernel_rfl
/-! laws.szBoolS -/
noncomputable def laws_szBoolS_b : Code := bd Tryz.f23
def laws_szBoolS_T : List (Nat × Tm) := []
noncomputable def laws_szBoolS_E : Env := ⟨tt0, []⟩
noncomputable def laws_szBoolS_F : PsD [.ro tBs, .ro tI] → Option (RsD [.own tI] × PsO [.ro tBs, .ro tI]) := fun x => evFn laws_szBoolS_E laws_szBoolS_T Tryz.f23 laws_szBoolS_b [.ro tBs, .ro tI] [.own tI] x
@[reducible] noncomputable def laws_szBoolS_C : Ct := ⟨[.ro tBs, .ro tI], [.own tI], laws_szBoolS_F⟩
theorem laws_szBoolS_h (x : PsD [.ro tBs, .ro tI]) (y : RsD [.own tI] × PsO [.ro tBs, .ro tI]) (h : laws_szBoolS_F x = some y) : evFn laws_szBoolS_E laws_szBoolS_T Tryz.f23 laws_szBoolS_b [.ro tBs, .ro tI] [.own tI] x = some y := h
theorem laws_szBoolS_c : ∀ f c, get laws_szBoolS_E.ct f = some c → Sat Tryz.prog f c := ct_nil
theorem laws_szBoolS_S : Sat Tryz.prog 23 laws_szBoolS_C := fn_ok2 (envOk _) laws_szBoolS_c mixedOk Tryz.func23 (by kernel_rfl : Tryz.f23.body = some laws_szBoolS_b) (by kernel_rfl) (by kernel_rfl) laws_szBoolS_h
noncomputable def laws_szBoolS_Ke  (x0 : List Bool) (x1 : Int) : Ex → AS → Option (RsD [.own tI] × PsO [.ro tBs, .ro tI]) := endK laws_szBoolS_E Tryz.f23 [.ro tBs, .ro tI] [.own tI] (initL [.ro tBs, .ro tI] (x0, (x1, ())) 0).1
theorem laws_szBoolS_main (x0 : List Bool) (x1 : Int) : laws_szBoolS_F (x0, (x1, ())) =
 brk (decide (IntKind.i64.wrap (x1 - (x0.length : Int)) < (0 : Int)))
 (some (((-1 : Int), ()), ((), ((), ()))))
 (some ((IntKind.i64.wrap (x1 - (x0.length : Int)), ()), ((), ((), ())))) := by kernel_rfl
/-! laws.szNode -/
noncomputable def laws_szNode_b : Code := bd Tryz.f6
def laws_szNode_T : List (Nat × Tm) := []
noncomputable def laws_szNode_E : Env := ⟨tt0, [(15, laws_szMeta_C), (21, laws_szIntS_C), (22, laws_szSlots_C), (23, laws_szBoolS_C), (24, laws_szIntSS_C)]⟩
noncomputable def laws_szNode_F : PsD [.ro tNode, .ro tI] → Option (RsD [.own tI] × PsO [.ro tNode, .ro tI]) := fun x => evFn laws_szNode_E laws_szNode_T Tryz.f6 laws_szNode_b [.ro tNode, .ro tI] [.own tI] x
@[reducible] noncomputable def laws_szNode_C : Ct := ⟨[.ro tNode, .ro tI], [.own tI], laws_szNode_F⟩
theorem laws_szNode_h (x : PsD [.ro tNode, .ro tI]) (y : RsD [.own tI] × PsO [.ro tNode, .ro tI]) (h : laws_szNode_F x = some y) : evFn laws_szNode_E laws_szNode_T Tryz.f6 laws_szNode_b [.ro tNode, .ro tI] [.own tI] x = some y := h
theorem laws_szNode_c : ∀ f c, get laws_szNode_E.ct f = some c → Sat Tryz.prog f c := ct_cons laws_szMeta_S (ct_cons laws_szIntS_S (ct_cons laws_szSlots_S (ct_cons laws_szBoolS_S (ct_cons laws_szIntSS_S (ct_nil)))))
theorem laws_szNode_S : Sat Tryz.prog 6 laws_szNode_C := fn_ok2 (envOk _) laws_szNode_c mixedOk Tryz.func6 (by kernel_rfl : Tryz.f6.body = some laws_szNode_b) (by kernel_rfl) (by kernel_rfl) laws_szNode_h
noncomputable def laws_szNode_Ke  (x0 : Int × Bool × Bool × List Int × (List Int × List (List Int) × Bool × Bool × Bool × Int × Unit) × (List Int × List Int × Unit) × List Bool × List (List Int) × List Bool × List Int × Unit) (x1 : Int) : Ex → AS → Option (RsD [.own tI] × PsO [.ro tNode, .ro tI]) := endK laws_szNode_E Tryz.f6 [.ro tNode, .ro tI] [.own tI] (initL [.ro tNode, .ro tI] (x0, (x1, ())) 0).1
theorem laws_szNode_main (x0 : Int × Bool × Bool × List Int × (List Int × List (List Int) × Bool × Bool × Bool × Int × Unit) × (List Int × List Int × Unit) × List Bool × List (List Int) × List Bool × List Int × Unit) (x1 : Int) : laws_szNode_F (x0, (x1, ())) =
 (laws_szIntS_F (x0.2.2.2.1, (x1, ()))).bind fun y8 =>
 brk (decide (y8.1.1 < (0 : Int)))
 (some (((-1 : Int), ()), ((), ((), ()))))
 ((laws_szMeta_F ((x0.2.2.2.2.1.1, (x0.2.2.2.2.1.2.1, (x0.2.2.2.2.1.2.2.1, (x0.2.2.2.2.1.2.2.2.1, (x0.2.2.2.2.1.2.2.2.2.1, (x0.2.2.2.2.1.2.2.2.2.2.1, ())))))), (y8.1.1, ()))).bind fun y14 =>
 brk (decide (y14.1.1 < (0 : Int)))
 (some (((-1 : Int), ()), ((), ((), ()))))
 ((laws_szSlots_F ((x0.2.2.2.2.2.1.1, (x0.2.2.2.2.2.1.2.1, ())), (y14.1.1, ()))).bind fun y20 =>
 brk (decide (y20.1.1 < (0 : Int)))
 (some (((-1 : Int), ()), ((), ((), ()))))
 ((laws_szBoolS_F (x0.2.2.2.2.2.2.1, (y20.1.1, ()))).bind fun y26 =>
 brk (decide (y26.1.1 < (0 : Int)))
 (some (((-1 : Int), ()), ((), ((), ()))))
 ((laws_szIntSS_F (x0.2.2.2.2.2.2.2.1, (y26.1.1, ()))).bind fun y32 =>
 brk (decide (y32.1.1 < (0 : Int)))
 (some (((-1 : Int), ()), ((), ((), ()))))
 ((laws_szBoolS_F (x0.2.2.2.2.2.2.2.2.1, (y32.1.1, ()))).bind fun y38 =>
 brk (decide (y38.1.1 < (0 : Int)))
 (some (((-1 : Int), ()), ((), ((), ()))))
 ((laws_szIntS_F (x0.2.2.2.2.2.2.2.2.2.1, (y38.1.1, ()))).bind fun y44 =>
 brk (decide (y44.1.1 < (0 : Int)))
 (some (((-1 : Int), ()), ((), ((), ()))))
 (some ((y44.1.1, ()), ((), ((), ())))))))))) := by kernel_rfl
/-! laws.toIntS -/
noncomputable def laws_toIntS_b : Code := bd Tryz.f28
@[reducible] def laws_toIntS_t0 : Tm := ⟨[], [], [(0, .sc true tIs), (3, .own 112), (4, .sc true tI)], [(112, .arr 3 tI)], [3], [112]⟩
def laws_toIntS_T : List (Nat × Tm) := [(0, laws_toIntS_t0)]
noncomputable def laws_toIntS_E : Env := ⟨tt0, []⟩
noncomputable def laws_toIntS_F : PsD [.ro tIs] → Option (RsD [.own tIs] × PsO [.ro tIs]) := fun x => evFn laws_toIntS_E laws_toIntS_T Tryz.f28 laws_toIntS_b [.ro tIs] [.own tIs] x
@[reducible] noncomputable def laws_toIntS_C : Ct := ⟨[.ro tIs], [.own tIs], laws_toIntS_F⟩
theorem laws_toIntS_h (x : PsD [.ro tIs]) (y : RsD [.own tIs] × PsO [.ro tIs]) (h : laws_toIntS_F x = some y) : evFn laws_toIntS_E laws_toIntS_T Tryz.f28 laws_toIntS_b [.ro tIs] [.own tIs] x = some y := h
theorem laws_toIntS_c : ∀ f c, get laws_toIntS_E.ct f = some c → Sat Tryz.prog f c := ct_nil
theorem laws_toIntS_S : Sat Tryz.prog 28 laws_toIntS_C := fn_ok2 (envOk _) laws_toIntS_c mixedOk Tryz.func28 (by kernel_rfl : Tryz.f28.body = some laws_toIntS_b) (by kernel_rfl) (by kernel_rfl) laws_toIntS_h
noncomputable def laws_toIntS_Ke  (x0 : List Int) : Ex → AS → Option (RsD [.own tIs] × PsO [.ro tIs]) := endK laws_toIntS_E Tryz.f28 [.ro tIs] [.own tIs] (initL [.ro tIs] (x0, ()) 0).1
noncomputable def laws_toIntS_B0 {R : Type} : AS → (Ex → AS → Option R) → Option R := fun A K => ev laws_toIntS_E laws_toIntS_T 0 (cA (cA (cB (cA (cB (cB laws_toIntS_b)))))) A K
noncomputable def laws_toIntS_K0  (x0 : List Int) : Ex → AS → Option (RsD [.own tIs] × PsO [.ro tIs]) := kBlk 0 (kSeq (fun A K => ev laws_toIntS_E laws_toIntS_T 1000 (cB (cB (cB laws_toIntS_b))) A K) (laws_toIntS_Ke x0))
noncomputable def laws_toIntS_x0_0 (d0 : List Int) : AS := ⟨[(3, .v (.one (.own 112)))], [(112, .arr 3 tI d0)]⟩
theorem laws_toIntS_l0 {R : Type} {K : Ex → AS → Option R} {s : laws_toIntS_t0.D} (n : Nat) {v : Option R} (h : iterG laws_toIntS_t0 laws_toIntS_B0 K n s = v) (hv : ∃ r, v = some r) : loopG laws_toIntS_t0 laws_toIntS_B0 K s = v := loop_eq (ev_mono _ _) n h hv
theorem laws_toIntS_main (x0 : List Int) : laws_toIntS_F (x0, ()) =
 ck (decide (0 ≤ (x0.length : Int)) && decide ((x0.length : Int) = (x0.length : Int)) && decide ((x0.length : Int) * (8 : Int) ≤ 140737488355328) && decide ((x0.length : Int) ≤ 140737488355328)) (loopG laws_toIntS_t0 laws_toIntS_B0 (laws_toIntS_K0 x0) ((x0, ((0 : Int), ())), (List.replicate (x0.length : Int).toNat tI.zero, ()))) := by kernel_rfl
theorem laws_toIntS_r0 {R : Type} (K : Ex → AS → Option R) (n : Nat) (t0 : List Int) (t4 : Int) (a112 : List Int) : iterG laws_toIntS_t0 laws_toIntS_B0 K (n + 1) ((t0, (t4, ())), (a112, ())) =
 brk (decide (t4 < (t0.length : Int)))
 (ck (decide (0 ≤ t4) && decide (t4 < t0.length)) (ck (decide (0 ≤ t4) && decide (t4 < a112.length)) (iterG laws_toIntS_t0 laws_toIntS_B0 K n ((t0, (IntKind.i64.wrap (t4 + (1 : Int)), ())), (a112.set t4.toNat (rdD tI t0 t4), ())))))
 (K (.exit 0) (laws_toIntS_x0_0 a112)) := by kernel_rfl
theorem laws_toIntS_e0_0 (x0 : List Int) (d0 : List Int) : laws_toIntS_K0 x0 (.exit 0) (laws_toIntS_x0_0 d0) =
 some ((d0, ()), ((), ())) := by kernel_rfl
/-! laws.toIntSS -/
noncomputable def laws_toIntSS_b : Code := bd Tryz.f31
@[reducible] def laws_toIntSS_t0 : Tm := ⟨[], [], [(0, .sc true tIss), (3, .own 112), (4, .sc true tI)], [(112, .arr 22 tIs)], [3], [112]⟩
def laws_toIntSS_T : List (Nat × Tm) := [(0, laws_toIntSS_t0)]
noncomputable def laws_toIntSS_E : Env := ⟨tt0, [(28, laws_toIntS_C)]⟩
noncomputable def laws_toIntSS_F : PsD [.ro tIss] → Option (RsD [.own tIss] × PsO [.ro tIss]) := fun x => evFn laws_toIntSS_E laws_toIntSS_T Tryz.f31 laws_toIntSS_b [.ro tIss] [.own tIss] x
@[reducible] noncomputable def laws_toIntSS_C : Ct := ⟨[.ro tIss], [.own tIss], laws_toIntSS_F⟩
theorem laws_toIntSS_h (x : PsD [.ro tIss]) (y : RsD [.own tIss] × PsO [.ro tIss]) (h : laws_toIntSS_F x = some y) : evFn laws_toIntSS_E laws_toIntSS_T Tryz.f31 laws_toIntSS_b [.ro tIss] [.own tIss] x = some y := h
theorem laws_toIntSS_c : ∀ f c, get laws_toIntSS_E.ct f = some c → Sat Tryz.prog f c := ct_cons laws_toIntS_S (ct_nil)
theorem laws_toIntSS_S : Sat Tryz.prog 31 laws_toIntSS_C := fn_ok2 (envOk _) laws_toIntSS_c mixedOk Tryz.func31 (by kernel_rfl : Tryz.f31.body = some laws_toIntSS_b) (by kernel_rfl) (by kernel_rfl) laws_toIntSS_h
noncomputable def laws_toIntSS_Ke  (x0 : List (List Int)) : Ex → AS → Option (RsD [.own tIss] × PsO [.ro tIss]) := endK laws_toIntSS_E Tryz.f31 [.ro tIss] [.own tIss] (initL [.ro tIss] (x0, ()) 0).1
noncomputable def laws_toIntSS_B0 {R : Type} : AS → (Ex → AS → Option R) → Option R := fun A K => ev laws_toIntSS_E laws_toIntSS_T 0 (cA (cA (cB (cA (cB (cB laws_toIntSS_b)))))) A K
noncomputable def laws_toIntSS_K0  (x0 : List (List Int)) : Ex → AS → Option (RsD [.own tIss] × PsO [.ro tIss]) := kBlk 0 (kSeq (fun A K => ev laws_toIntSS_E laws_toIntSS_T 1000 (cB (cB (cB laws_toIntSS_b))) A K) (laws_toIntSS_Ke x0))
noncomputable def laws_toIntSS_x0_0 (d0 : List (List Int)) : AS := ⟨[(3, .v (.one (.own 112)))], [(112, .arr 22 tIs d0)]⟩
theorem laws_toIntSS_l0 {R : Type} {K : Ex → AS → Option R} {s : laws_toIntSS_t0.D} (n : Nat) {v : Option R} (h : iterG laws_toIntSS_t0 laws_toIntSS_B0 K n s = v) (hv : ∃ r, v = some r) : loopG laws_toIntSS_t0 laws_toIntSS_B0 K s = v := loop_eq (ev_mono _ _) n h hv
theorem laws_toIntSS_main (x0 : List (List Int)) : laws_toIntSS_F (x0, ()) =
 ck (decide (0 ≤ (x0.length : Int)) && decide ((x0.length : Int) = (x0.length : Int)) && decide ((x0.length : Int) * (24 : Int) ≤ 140737488355328) && decide ((x0.length : Int) ≤ 140737488355328)) (loopG laws_toIntSS_t0 laws_toIntSS_B0 (laws_toIntSS_K0 x0) ((x0, ((0 : Int), ())), (List.replicate (x0.length : Int).toNat tIs.zero, ()))) := by kernel_rfl
theorem laws_toIntSS_r0 {R : Type} (K : Ex → AS → Option R) (n : Nat) (t0 : List (List Int)) (t4 : Int) (a112 : List (List Int)) : iterG laws_toIntSS_t0 laws_toIntSS_B0 K (n + 1) ((t0, (t4, ())), (a112, ())) =
 brk (decide (t4 < (t0.length : Int)))
 (ck (decide (0 ≤ t4) && decide (t4 < t0.length)) ((laws_toIntS_F (rdD tIs t0 t4, ())).bind fun y20 =>
 ck (decide (0 ≤ t4) && decide (t4 < a112.length)) (iterG laws_toIntSS_t0 laws_toIntSS_B0 K n ((t0, (IntKind.i64.wrap (t4 + (1 : Int)), ())), (a112.set t4.toNat y20.1.1, ())))))
 (K (.exit 0) (laws_toIntSS_x0_0 a112)) := by kernel_rfl
theorem laws_toIntSS_e0_0 (x0 : List (List Int)) (d0 : List (List Int)) : laws_toIntSS_K0 x0 (.exit 0) (laws_toIntSS_x0_0 d0) =
 some ((d0, ()), ((), ())) := by kernel_rfl
/-! laws.toMeta -/
noncomputable def laws_toMeta_b : Code := bd Tryz.f17
def laws_toMeta_T : List (Nat × Tm) := []
noncomputable def laws_toMeta_E : Env := ⟨tt0, [(28, laws_toIntS_C), (31, laws_toIntSS_C)]⟩
noncomputable def laws_toMeta_F : PsD [.ro tMeta] → Option (RsD [.own tMeta] × PsO [.ro tMeta]) := fun x => evFn laws_toMeta_E laws_toMeta_T Tryz.f17 laws_toMeta_b [.ro tMeta] [.own tMeta] x
@[reducible] noncomputable def laws_toMeta_C : Ct := ⟨[.ro tMeta], [.own tMeta], laws_toMeta_F⟩
theorem laws_toMeta_h (x : PsD [.ro tMeta]) (y : RsD [.own tMeta] × PsO [.ro tMeta]) (h : laws_toMeta_F x = some y) : evFn laws_toMeta_E laws_toMeta_T Tryz.f17 laws_toMeta_b [.ro tMeta] [.own tMeta] x = some y := h
theorem laws_toMeta_c : ∀ f c, get laws_toMeta_E.ct f = some c → Sat Tryz.prog f c := ct_cons laws_toIntS_S (ct_cons laws_toIntSS_S (ct_nil))
theorem laws_toMeta_S : Sat Tryz.prog 17 laws_toMeta_C := fn_ok2 (envOk _) laws_toMeta_c mixedOk Tryz.func17 (by kernel_rfl : Tryz.f17.body = some laws_toMeta_b) (by kernel_rfl) (by kernel_rfl) laws_toMeta_h
noncomputable def laws_toMeta_Ke  (x0 : List Int × List (List Int) × Bool × Bool × Bool × Int × Unit) : Ex → AS → Option (RsD [.own tMeta] × PsO [.ro tMeta]) := endK laws_toMeta_E Tryz.f17 [.ro tMeta] [.own tMeta] (initL [.ro tMeta] (x0, ()) 0).1
theorem laws_toMeta_main (x0 : List Int × List (List Int) × Bool × Bool × Bool × Int × Unit) : laws_toMeta_F (x0, ()) =
 (laws_toIntS_F (x0.1, ())).bind fun y6 =>
 (laws_toIntSS_F (x0.2.1, ())).bind fun y10 =>
 some (((y6.1.1, (y10.1.1, (x0.2.2.1, (x0.2.2.2.1, (x0.2.2.2.2.1, (x0.2.2.2.2.2.1, ())))))), ()), ((), ())) := by kernel_rfl
/-! laws.toByteS -/
noncomputable def laws_toByteS_b : Code := bd Tryz.f61
@[reducible] def laws_toByteS_t0 : Tm := ⟨[], [], [(0, .sc true tYs), (3, .own 112), (4, .sc true tI)], [(112, .arr 5 tY)], [3], [112]⟩
def laws_toByteS_T : List (Nat × Tm) := [(0, laws_toByteS_t0)]
noncomputable def laws_toByteS_E : Env := ⟨tt0, []⟩
noncomputable def laws_toByteS_F : PsD [.ro tYs] → Option (RsD [.own tYs] × PsO [.ro tYs]) := fun x => evFn laws_toByteS_E laws_toByteS_T Tryz.f61 laws_toByteS_b [.ro tYs] [.own tYs] x
@[reducible] noncomputable def laws_toByteS_C : Ct := ⟨[.ro tYs], [.own tYs], laws_toByteS_F⟩
theorem laws_toByteS_h (x : PsD [.ro tYs]) (y : RsD [.own tYs] × PsO [.ro tYs]) (h : laws_toByteS_F x = some y) : evFn laws_toByteS_E laws_toByteS_T Tryz.f61 laws_toByteS_b [.ro tYs] [.own tYs] x = some y := h
theorem laws_toByteS_c : ∀ f c, get laws_toByteS_E.ct f = some c → Sat Tryz.prog f c := ct_nil
theorem laws_toByteS_S : Sat Tryz.prog 61 laws_toByteS_C := fn_ok2 (envOk _) laws_toByteS_c mixedOk Tryz.func61 (by kernel_rfl : Tryz.f61.body = some laws_toByteS_b) (by kernel_rfl) (by kernel_rfl) laws_toByteS_h
noncomputable def laws_toByteS_Ke  (x0 : List Int) : Ex → AS → Option (RsD [.own tYs] × PsO [.ro tYs]) := endK laws_toByteS_E Tryz.f61 [.ro tYs] [.own tYs] (initL [.ro tYs] (x0, ()) 0).1
noncomputable def laws_toByteS_B0 {R : Type} : AS → (Ex → AS → Option R) → Option R := fun A K => ev laws_toByteS_E laws_toByteS_T 0 (cA (cA (cB (cA (cB (cB laws_toByteS_b)))))) A K
noncomputable def laws_toByteS_K0  (x0 : List Int) : Ex → AS → Option (RsD [.own tYs] × PsO [.ro tYs]) := kBlk 0 (kSeq (fun A K => ev laws_toByteS_E laws_toByteS_T 1000 (cB (cB (cB laws_toByteS_b))) A K) (laws_toByteS_Ke x0))
noncomputable def laws_toByteS_x0_0 (d0 : List Int) : AS := ⟨[(3, .v (.one (.own 112)))], [(112, .arr 5 tY d0)]⟩
theorem laws_toByteS_l0 {R : Type} {K : Ex → AS → Option R} {s : laws_toByteS_t0.D} (n : Nat) {v : Option R} (h : iterG laws_toByteS_t0 laws_toByteS_B0 K n s = v) (hv : ∃ r, v = some r) : loopG laws_toByteS_t0 laws_toByteS_B0 K s = v := loop_eq (ev_mono _ _) n h hv
theorem laws_toByteS_main (x0 : List Int) : laws_toByteS_F (x0, ()) =
 ck (decide (0 ≤ (x0.length : Int)) && decide ((x0.length : Int) = (x0.length : Int)) && decide ((x0.length : Int) * (1 : Int) ≤ 140737488355328) && decide ((x0.length : Int) ≤ 140737488355328)) (loopG laws_toByteS_t0 laws_toByteS_B0 (laws_toByteS_K0 x0) ((x0, ((0 : Int), ())), (List.replicate (x0.length : Int).toNat tY.zero, ()))) := by kernel_rfl
theorem laws_toByteS_r0 {R : Type} (K : Ex → AS → Option R) (n : Nat) (t0 : List Int) (t4 : Int) (a112 : List Int) : iterG laws_toByteS_t0 laws_toByteS_B0 K (n + 1) ((t0, (t4, ())), (a112, ())) =
 brk (decide (t4 < (t0.length : Int)))
 (ck (decide (0 ≤ t4) && decide (t4 < t0.length)) (ck (decide (0 ≤ t4) && decide (t4 < a112.length)) (iterG laws_toByteS_t0 laws_toByteS_B0 K n ((t0, (IntKind.i64.wrap (t4 + (1 : Int)), ())), (a112.set t4.toNat (rdD tY t0 t4), ())))))
 (K (.exit 0) (laws_toByteS_x0_0 a112)) := by kernel_rfl
theorem laws_toByteS_e0_0 (x0 : List Int) (d0 : List Int) : laws_toByteS_K0 x0 (.exit 0) (laws_toByteS_x0_0 d0) =
 some ((d0, ()), ((), ())) := by kernel_rfl
/-! laws.toSlots -/
noncomputable def laws_toSlots_b : Code := bd Tryz.f29
def laws_toSlots_T : List (Nat × Tm) := []
noncomputable def laws_toSlots_E : Env := ⟨tt0, [(61, laws_toByteS_C)]⟩
noncomputable def laws_toSlots_F : PsD [.ro tSlots] → Option (RsD [.own tSlots] × PsO [.ro tSlots]) := fun x => evFn laws_toSlots_E laws_toSlots_T Tryz.f29 laws_toSlots_b [.ro tSlots] [.own tSlots] x
@[reducible] noncomputable def laws_toSlots_C : Ct := ⟨[.ro tSlots], [.own tSlots], laws_toSlots_F⟩
theorem laws_toSlots_h (x : PsD [.ro tSlots]) (y : RsD [.own tSlots] × PsO [.ro tSlots]) (h : laws_toSlots_F x = some y) : evFn laws_toSlots_E laws_toSlots_T Tryz.f29 laws_toSlots_b [.ro tSlots] [.own tSlots] x = some y := h
theorem laws_toSlots_c : ∀ f c, get laws_toSlots_E.ct f = some c → Sat Tryz.prog f c := ct_cons laws_toByteS_S (ct_nil)
theorem laws_toSlots_S : Sat Tryz.prog 29 laws_toSlots_C := fn_ok2 (envOk _) laws_toSlots_c mixedOk Tryz.func29 (by kernel_rfl : Tryz.f29.body = some laws_toSlots_b) (by kernel_rfl) (by kernel_rfl) laws_toSlots_h
noncomputable def laws_toSlots_Ke  (x0 : List Int × List Int × Unit) : Ex → AS → Option (RsD [.own tSlots] × PsO [.ro tSlots]) := endK laws_toSlots_E Tryz.f29 [.ro tSlots] [.own tSlots] (initL [.ro tSlots] (x0, ()) 0).1
theorem laws_toSlots_main (x0 : List Int × List Int × Unit) : laws_toSlots_F (x0, ()) =
 (laws_toByteS_F (x0.1, ())).bind fun y6 =>
 (laws_toByteS_F (x0.2.1, ())).bind fun y10 =>
 some (((y6.1.1, (y10.1.1, ())), ()), ((), ())) := by kernel_rfl
/-! laws.toBoolS -/
noncomputable def laws_toBoolS_b : Code := bd Tryz.f30
@[reducible] def laws_toBoolS_t0 : Tm := ⟨[], [], [(0, .sc true tBs), (3, .own 112), (4, .sc true tI)], [(112, .arr 4 tB)], [3], [112]⟩
def laws_toBoolS_T : List (Nat × Tm) := [(0, laws_toBoolS_t0)]
noncomputable def laws_toBoolS_E : Env := ⟨tt0, []⟩
noncomputable def laws_toBoolS_F : PsD [.ro tBs] → Option (RsD [.own tBs] × PsO [.ro tBs]) := fun x => evFn laws_toBoolS_E laws_toBoolS_T Tryz.f30 laws_toBoolS_b [.ro tBs] [.own tBs] x
@[reducible] noncomputable def laws_toBoolS_C : Ct := ⟨[.ro tBs], [.own tBs], laws_toBoolS_F⟩
theorem laws_toBoolS_h (x : PsD [.ro tBs]) (y : RsD [.own tBs] × PsO [.ro tBs]) (h : laws_toBoolS_F x = some y) : evFn laws_toBoolS_E laws_toBoolS_T Tryz.f30 laws_toBoolS_b [.ro tBs] [.own tBs] x = some y := h
theorem laws_toBoolS_c : ∀ f c, get laws_toBoolS_E.ct f = some c → Sat Tryz.prog f c := ct_nil
theorem laws_toBoolS_S : Sat Tryz.prog 30 laws_toBoolS_C := fn_ok2 (envOk _) laws_toBoolS_c mixedOk Tryz.func30 (by kernel_rfl : Tryz.f30.body = some laws_toBoolS_b) (by kernel_rfl) (by kernel_rfl) laws_toBoolS_h
noncomputable def laws_toBoolS_Ke  (x0 : List Bool) : Ex → AS → Option (RsD [.own tBs] × PsO [.ro tBs]) := endK laws_toBoolS_E Tryz.f30 [.ro tBs] [.own tBs] (initL [.ro tBs] (x0, ()) 0).1
noncomputable def laws_toBoolS_B0 {R : Type} : AS → (Ex → AS → Option R) → Option R := fun A K => ev laws_toBoolS_E laws_toBoolS_T 0 (cA (cA (cB (cA (cB (cB laws_toBoolS_b)))))) A K
noncomputable def laws_toBoolS_K0  (x0 : List Bool) : Ex → AS → Option (RsD [.own tBs] × PsO [.ro tBs]) := kBlk 0 (kSeq (fun A K => ev laws_toBoolS_E laws_toBoolS_T 1000 (cB (cB (cB laws_toBoolS_b))) A K) (laws_toBoolS_Ke x0))
noncomputable def laws_toBoolS_x0_0 (d0 : List Bool) : AS := ⟨[(3, .v (.one (.own 112)))], [(112, .arr 4 tB d0)]⟩
theorem laws_toBoolS_l0 {R : Type} {K : Ex → AS → Option R} {s : laws_toBoolS_t0.D} (n : Nat) {v : Option R} (h : iterG laws_toBoolS_t0 laws_toBoolS_B0 K n s = v) (hv : ∃ r, v = some r) : loopG laws_toBoolS_t0 laws_toBoolS_B0 K s = v := loop_eq (ev_mono _ _) n h hv
theorem laws_toBoolS_main (x0 : List Bool) : laws_toBoolS_F (x0, ()) =
 ck (decide (0 ≤ (x0.length : Int)) && decide ((x0.length : Int) = (x0.length : Int)) && decide ((x0.length : Int) * (1 : Int) ≤ 140737488355328) && decide ((x0.length : Int) ≤ 140737488355328)) (loopG laws_toBoolS_t0 laws_toBoolS_B0 (laws_toBoolS_K0 x0) ((x0, ((0 : Int), ())), (List.replicate (x0.length : Int).toNat tB.zero, ()))) := by kernel_rfl
theorem laws_toBoolS_r0 {R : Type} (K : Ex → AS → Option R) (n : Nat) (t0 : List Bool) (t4 : Int) (a112 : List Bool) : iterG laws_toBoolS_t0 laws_toBoolS_B0 K (n + 1) ((t0, (t4, ())), (a112, ())) =
 brk (decide (t4 < (t0.length : Int)))
 (ck (decide (0 ≤ t4) && decide (t4 < t0.length)) (ck (decide (0 ≤ t4) && decide (t4 < a112.length)) (iterG laws_toBoolS_t0 laws_toBoolS_B0 K n ((t0, (IntKind.i64.wrap (t4 + (1 : Int)), ())), (a112.set t4.toNat (rdD tB t0 t4), ())))))
 (K (.exit 0) (laws_toBoolS_x0_0 a112)) := by kernel_rfl
theorem laws_toBoolS_e0_0 (x0 : List Bool) (d0 : List Bool) : laws_toBoolS_K0 x0 (.exit 0) (laws_toBoolS_x0_0 d0) =
 some ((d0, ()), ((), ())) := by kernel_rfl
/-! laws.toNode -/
noncomputable def laws_toNode_b : Code := bd Tryz.f8
def laws_toNode_T : List (Nat × Tm) := []
noncomputable def laws_toNode_E : Env := ⟨tt0, [(17, laws_toMeta_C), (28, laws_toIntS_C), (29, laws_toSlots_C), (30, laws_toBoolS_C), (31, laws_toIntSS_C)]⟩
noncomputable def laws_toNode_F : PsD [.ro tNode] → Option (RsD [.own tNode] × PsO [.ro tNode]) := fun x => evFn laws_toNode_E laws_toNode_T Tryz.f8 laws_toNode_b [.ro tNode] [.own tNode] x
@[reducible] noncomputable def laws_toNode_C : Ct := ⟨[.ro tNode], [.own tNode], laws_toNode_F⟩
theorem laws_toNode_h (x : PsD [.ro tNode]) (y : RsD [.own tNode] × PsO [.ro tNode]) (h : laws_toNode_F x = some y) : evFn laws_toNode_E laws_toNode_T Tryz.f8 laws_toNode_b [.ro tNode] [.own tNode] x = some y := h
theorem laws_toNode_c : ∀ f c, get laws_toNode_E.ct f = some c → Sat Tryz.prog f c := ct_cons laws_toMeta_S (ct_cons laws_toIntS_S (ct_cons laws_toSlots_S (ct_cons laws_toBoolS_S (ct_cons laws_toIntSS_S (ct_nil)))))
theorem laws_toNode_S : Sat Tryz.prog 8 laws_toNode_C := fn_ok2 (envOk _) laws_toNode_c mixedOk Tryz.func8 (by kernel_rfl : Tryz.f8.body = some laws_toNode_b) (by kernel_rfl) (by kernel_rfl) laws_toNode_h
noncomputable def laws_toNode_Ke  (x0 : Int × Bool × Bool × List Int × (List Int × List (List Int) × Bool × Bool × Bool × Int × Unit) × (List Int × List Int × Unit) × List Bool × List (List Int) × List Bool × List Int × Unit) : Ex → AS → Option (RsD [.own tNode] × PsO [.ro tNode]) := endK laws_toNode_E Tryz.f8 [.ro tNode] [.own tNode] (initL [.ro tNode] (x0, ()) 0).1
theorem laws_toNode_main (x0 : Int × Bool × Bool × List Int × (List Int × List (List Int) × Bool × Bool × Bool × Int × Unit) × (List Int × List Int × Unit) × List Bool × List (List Int) × List Bool × List Int × Unit) : laws_toNode_F (x0, ()) =
 (laws_toIntS_F (x0.2.2.2.1, ())).bind fun y15 =>
 (laws_toMeta_F ((x0.2.2.2.2.1.1, (x0.2.2.2.2.1.2.1, (x0.2.2.2.2.1.2.2.1, (x0.2.2.2.2.1.2.2.2.1, (x0.2.2.2.2.1.2.2.2.2.1, (x0.2.2.2.2.1.2.2.2.2.2.1, ())))))), ())).bind fun y19 =>
 (laws_toSlots_F ((x0.2.2.2.2.2.1.1, (x0.2.2.2.2.2.1.2.1, ())), ())).bind fun y23 =>
 (laws_toBoolS_F (x0.2.2.2.2.2.2.1, ())).bind fun y27 =>
 (laws_toIntSS_F (x0.2.2.2.2.2.2.2.1, ())).bind fun y31 =>
 (laws_toBoolS_F (x0.2.2.2.2.2.2.2.2.1, ())).bind fun y35 =>
 (laws_toIntS_F (x0.2.2.2.2.2.2.2.2.2.1, ())).bind fun y39 =>
 some (((x0.1, (x0.2.1, (x0.2.2.1, (y15.1.1, ((y19.1.1.1, (y19.1.1.2.1, (y19.1.1.2.2.1, (y19.1.1.2.2.2.1, (y19.1.1.2.2.2.2.1, (y19.1.1.2.2.2.2.2.1, ())))))), ((y23.1.1.1, (y23.1.1.2.1, ())), (y27.1.1, (y31.1.1, (y35.1.1, (y39.1.1, ())))))))))), ()), ((), ())) := by kernel_rfl
/-! laws.eqIntS -/
noncomputable def laws_eqIntS_b : Code := bd Tryz.f35
@[reducible] def laws_eqIntS_t0 : Tm := ⟨[], [], [(0, .sc true tIs), (1, .sc true tIs), (5, .sc true tI)], [], [4], []⟩
def laws_eqIntS_T : List (Nat × Tm) := [(0, laws_eqIntS_t0)]
noncomputable def laws_eqIntS_E : Env := ⟨tt0, []⟩
noncomputable def laws_eqIntS_F : PsD [.ro tIs, .ro tIs] → Option (RsD [.own tB] × PsO [.ro tIs, .ro tIs]) := fun x => evFn laws_eqIntS_E laws_eqIntS_T Tryz.f35 laws_eqIntS_b [.ro tIs, .ro tIs] [.own tB] x
@[reducible] noncomputable def laws_eqIntS_C : Ct := ⟨[.ro tIs, .ro tIs], [.own tB], laws_eqIntS_F⟩
theorem laws_eqIntS_h (x : PsD [.ro tIs, .ro tIs]) (y : RsD [.own tB] × PsO [.ro tIs, .ro tIs]) (h : laws_eqIntS_F x = some y) : evFn laws_eqIntS_E laws_eqIntS_T Tryz.f35 laws_eqIntS_b [.ro tIs, .ro tIs] [.own tB] x = some y := h
theorem laws_eqIntS_c : ∀ f c, get laws_eqIntS_E.ct f = some c → Sat Tryz.prog f c := ct_nil
theorem laws_eqIntS_S : Sat Tryz.prog 35 laws_eqIntS_C := fn_ok2 (envOk _) laws_eqIntS_c mixedOk Tryz.func35 (by kernel_rfl : Tryz.f35.body = some laws_eqIntS_b) (by kernel_rfl) (by kernel_rfl) laws_eqIntS_h
noncomputable def laws_eqIntS_Ke  (x0 : List Int) (x1 : List Int) : Ex → AS → Option (RsD [.own tB] × PsO [.ro tIs, .ro tIs]) := endK laws_eqIntS_E Tryz.f35 [.ro tIs, .ro tIs] [.own tB] (initL [.ro tIs, .ro tIs] (x0, (x1, ())) 0).1
noncomputable def laws_eqIntS_B0 {R : Type} : AS → (Ex → AS → Option R) → Option R := fun A K => ev laws_eqIntS_E laws_eqIntS_T 0 (cA (cA (cB (cA (cB (cB laws_eqIntS_b)))))) A K
noncomputable def laws_eqIntS_K0  (x0 : List Int) (x1 : List Int) : Ex → AS → Option (RsD [.own tB] × PsO [.ro tIs, .ro tIs]) := kBlk 0 (kSeq (fun A K => ev laws_eqIntS_E laws_eqIntS_T 1000 (cB (cB (cB laws_eqIntS_b))) A K) (laws_eqIntS_Ke x0 x1))
noncomputable def laws_eqIntS_x0_0 (d0 : Bool) : AS := ⟨[(4, .v (.one (.d true tB d0)))], []⟩
noncomputable def laws_eqIntS_x0_1 : AS := ⟨[], []⟩
theorem laws_eqIntS_l0 {R : Type} {K : Ex → AS → Option R} {s : laws_eqIntS_t0.D} (n : Nat) {v : Option R} (h : iterG laws_eqIntS_t0 laws_eqIntS_B0 K n s = v) (hv : ∃ r, v = some r) : loopG laws_eqIntS_t0 laws_eqIntS_B0 K s = v := loop_eq (ev_mono _ _) n h hv
theorem laws_eqIntS_main (x0 : List Int) (x1 : List Int) : laws_eqIntS_F (x0, (x1, ())) =
 brk (!decide ((x0.length : Int) = (x1.length : Int)))
 (some ((false, ()), ((), ((), ()))))
 (loopG laws_eqIntS_t0 laws_eqIntS_B0 (laws_eqIntS_K0 x0 x1) ((x0, (x1, ((0 : Int), ()))), ())) := by kernel_rfl
theorem laws_eqIntS_r0 {R : Type} (K : Ex → AS → Option R) (n : Nat) (t0 : List Int) (t1 : List Int) (t5 : Int) : iterG laws_eqIntS_t0 laws_eqIntS_B0 K (n + 1) ((t0, (t1, (t5, ()))), ()) =
 brk (decide (t5 < (t0.length : Int)))
 (ck (decide (0 ≤ t5) && decide (t5 < t0.length)) (ck (decide (0 ≤ t5) && decide (t5 < t1.length)) (brk (!decide (rdD tI t0 t5 = rdD tI t1 t5))
 (K .ret (laws_eqIntS_x0_0 false))
 (iterG laws_eqIntS_t0 laws_eqIntS_B0 K n ((t0, (t1, (IntKind.i64.wrap (t5 + (1 : Int)), ()))), ())))))
 (K (.exit 0) (laws_eqIntS_x0_1)) := by kernel_rfl
theorem laws_eqIntS_e0_0 (x0 : List Int) (x1 : List Int) (d0 : Bool) : laws_eqIntS_K0 x0 x1 .ret (laws_eqIntS_x0_0 d0) =
 some ((d0, ()), ((), ((), ()))) := by kernel_rfl
theorem laws_eqIntS_e0_1 (x0 : List Int) (x1 : List Int) : laws_eqIntS_K0 x0 x1 (.exit 0) (laws_eqIntS_x0_1) =
 some ((true, ()), ((), ((), ()))) := by kernel_rfl
/-! laws.eqIntSS -/
noncomputable def laws_eqIntSS_b : Code := bd Tryz.f38
@[reducible] def laws_eqIntSS_t0 : Tm := ⟨[], [], [(0, .sc true tIss), (1, .sc true tIss), (5, .sc true tI)], [], [4], []⟩
def laws_eqIntSS_T : List (Nat × Tm) := [(0, laws_eqIntSS_t0)]
noncomputable def laws_eqIntSS_E : Env := ⟨tt0, [(35, laws_eqIntS_C)]⟩
noncomputable def laws_eqIntSS_F : PsD [.ro tIss, .ro tIss] → Option (RsD [.own tB] × PsO [.ro tIss, .ro tIss]) := fun x => evFn laws_eqIntSS_E laws_eqIntSS_T Tryz.f38 laws_eqIntSS_b [.ro tIss, .ro tIss] [.own tB] x
@[reducible] noncomputable def laws_eqIntSS_C : Ct := ⟨[.ro tIss, .ro tIss], [.own tB], laws_eqIntSS_F⟩
theorem laws_eqIntSS_h (x : PsD [.ro tIss, .ro tIss]) (y : RsD [.own tB] × PsO [.ro tIss, .ro tIss]) (h : laws_eqIntSS_F x = some y) : evFn laws_eqIntSS_E laws_eqIntSS_T Tryz.f38 laws_eqIntSS_b [.ro tIss, .ro tIss] [.own tB] x = some y := h
theorem laws_eqIntSS_c : ∀ f c, get laws_eqIntSS_E.ct f = some c → Sat Tryz.prog f c := ct_cons laws_eqIntS_S (ct_nil)
theorem laws_eqIntSS_S : Sat Tryz.prog 38 laws_eqIntSS_C := fn_ok2 (envOk _) laws_eqIntSS_c mixedOk Tryz.func38 (by kernel_rfl : Tryz.f38.body = some laws_eqIntSS_b) (by kernel_rfl) (by kernel_rfl) laws_eqIntSS_h
noncomputable def laws_eqIntSS_Ke  (x0 : List (List Int)) (x1 : List (List Int)) : Ex → AS → Option (RsD [.own tB] × PsO [.ro tIss, .ro tIss]) := endK laws_eqIntSS_E Tryz.f38 [.ro tIss, .ro tIss] [.own tB] (initL [.ro tIss, .ro tIss] (x0, (x1, ())) 0).1
noncomputable def laws_eqIntSS_B0 {R : Type} : AS → (Ex → AS → Option R) → Option R := fun A K => ev laws_eqIntSS_E laws_eqIntSS_T 0 (cA (cA (cB (cA (cB (cB laws_eqIntSS_b)))))) A K
noncomputable def laws_eqIntSS_K0  (x0 : List (List Int)) (x1 : List (List Int)) : Ex → AS → Option (RsD [.own tB] × PsO [.ro tIss, .ro tIss]) := kBlk 0 (kSeq (fun A K => ev laws_eqIntSS_E laws_eqIntSS_T 1000 (cB (cB (cB laws_eqIntSS_b))) A K) (laws_eqIntSS_Ke x0 x1))
noncomputable def laws_eqIntSS_x0_0 (d0 : Bool) : AS := ⟨[(4, .v (.one (.d true tB d0)))], []⟩
noncomputable def laws_eqIntSS_x0_1 : AS := ⟨[], []⟩
theorem laws_eqIntSS_l0 {R : Type} {K : Ex → AS → Option R} {s : laws_eqIntSS_t0.D} (n : Nat) {v : Option R} (h : iterG laws_eqIntSS_t0 laws_eqIntSS_B0 K n s = v) (hv : ∃ r, v = some r) : loopG laws_eqIntSS_t0 laws_eqIntSS_B0 K s = v := loop_eq (ev_mono _ _) n h hv
theorem laws_eqIntSS_main (x0 : List (List Int)) (x1 : List (List Int)) : laws_eqIntSS_F (x0, (x1, ())) =
 brk (!decide ((x0.length : Int) = (x1.length : Int)))
 (some ((false, ()), ((), ((), ()))))
 (loopG laws_eqIntSS_t0 laws_eqIntSS_B0 (laws_eqIntSS_K0 x0 x1) ((x0, (x1, ((0 : Int), ()))), ())) := by kernel_rfl
theorem laws_eqIntSS_r0 {R : Type} (K : Ex → AS → Option R) (n : Nat) (t0 : List (List Int)) (t1 : List (List Int)) (t5 : Int) : iterG laws_eqIntSS_t0 laws_eqIntSS_B0 K (n + 1) ((t0, (t1, (t5, ()))), ()) =
 brk (decide (t5 < (t0.length : Int)))
 (ck (decide (0 ≤ t5) && decide (t5 < t0.length)) (ck (decide (0 ≤ t5) && decide (t5 < t1.length)) ((laws_eqIntS_F (rdD tIs t0 t5, (rdD tIs t1 t5, ()))).bind fun y25 =>
 brk (!y25.1.1)
 (K .ret (laws_eqIntSS_x0_0 false))
 (iterG laws_eqIntSS_t0 laws_eqIntSS_B0 K n ((t0, (t1, (IntKind.i64.wrap (t5 + (1 : Int)), ()))), ())))))
 (K (.exit 0) (laws_eqIntSS_x0_1)) := by kernel_rfl
theorem laws_eqIntSS_e0_0 (x0 : List (List Int)) (x1 : List (List Int)) (d0 : Bool) : laws_eqIntSS_K0 x0 x1 .ret (laws_eqIntSS_x0_0 d0) =
 some ((d0, ()), ((), ((), ()))) := by kernel_rfl
theorem laws_eqIntSS_e0_1 (x0 : List (List Int)) (x1 : List (List Int)) : laws_eqIntSS_K0 x0 x1 (.exit 0) (laws_eqIntSS_x0_1) =
 some ((true, ()), ((), ((), ()))) := by kernel_rfl
/-! laws.eqMeta -/
noncomputable def laws_eqMeta_b : Code := bd Tryz.f19
def laws_eqMeta_T : List (Nat × Tm) := []
noncomputable def laws_eqMeta_E : Env := ⟨tt0, [(35, laws_eqIntS_C), (38, laws_eqIntSS_C)]⟩
noncomputable def laws_eqMeta_F : PsD [.ro tMeta, .ro tMeta] → Option (RsD [.own tB] × PsO [.ro tMeta, .ro tMeta]) := fun x => evFn laws_eqMeta_E laws_eqMeta_T Tryz.f19 laws_eqMeta_b [.ro tMeta, .ro tMeta] [.own tB] x
@[reducible] noncomputable def laws_eqMeta_C : Ct := ⟨[.ro tMeta, .ro tMeta], [.own tB], laws_eqMeta_F⟩
theorem laws_eqMeta_h (x : PsD [.ro tMeta, .ro tMeta]) (y : RsD [.own tB] × PsO [.ro tMeta, .ro tMeta]) (h : laws_eqMeta_F x = some y) : evFn laws_eqMeta_E laws_eqMeta_T Tryz.f19 laws_eqMeta_b [.ro tMeta, .ro tMeta] [.own tB] x = some y := h
theorem laws_eqMeta_c : ∀ f c, get laws_eqMeta_E.ct f = some c → Sat Tryz.prog f c := ct_cons laws_eqIntS_S (ct_cons laws_eqIntSS_S (ct_nil))
theorem laws_eqMeta_S : Sat Tryz.prog 19 laws_eqMeta_C := fn_ok2 (envOk _) laws_eqMeta_c mixedOk Tryz.func19 (by kernel_rfl : Tryz.f19.body = some laws_eqMeta_b) (by kernel_rfl) (by kernel_rfl) laws_eqMeta_h
noncomputable def laws_eqMeta_Ke  (x0 : List Int × List (List Int) × Bool × Bool × Bool × Int × Unit) (x1 : List Int × List (List Int) × Bool × Bool × Bool × Int × Unit) : Ex → AS → Option (RsD [.own tB] × PsO [.ro tMeta, .ro tMeta]) := endK laws_eqMeta_E Tryz.f19 [.ro tMeta, .ro tMeta] [.own tB] (initL [.ro tMeta, .ro tMeta] (x0, (x1, ())) 0).1
theorem laws_eqMeta_main (x0 : List Int × List (List Int) × Bool × Bool × Bool × Int × Unit) (x1 : List Int × List (List Int) × Bool × Bool × Bool × Int × Unit) : laws_eqMeta_F (x0, (x1, ())) =
 (laws_eqIntS_F (x0.1, (x1.1, ()))).bind fun y9 =>
 brk (!y9.1.1)
 (some ((false, ()), ((), ((), ()))))
 ((laws_eqIntSS_F (x0.2.1, (x1.2.1, ()))).bind fun y15 =>
 brk (!y15.1.1)
 (some ((false, ()), ((), ((), ()))))
 (brk (!(x0.2.2.1 == x1.2.2.1))
 (some ((false, ()), ((), ((), ()))))
 (brk (!(x0.2.2.2.1 == x1.2.2.2.1))
 (some ((false, ()), ((), ((), ()))))
 (brk (!(x0.2.2.2.2.1 == x1.2.2.2.2.1))
 (some ((false, ()), ((), ((), ()))))
 (brk (!decide (x0.2.2.2.2.2.1 = x1.2.2.2.2.2.1))
 (some ((false, ()), ((), ((), ()))))
 (some ((true, ()), ((), ((), ()))))))))) := by kernel_rfl
/-! laws.eqByteS -/
noncomputable def laws_eqByteS_b : Code := bd Tryz.f74
@[reducible] def laws_eqByteS_t0 : Tm := ⟨[], [], [(0, .sc true tYs), (1, .sc true tYs), (5, .sc true tI)], [], [4], []⟩
def laws_eqByteS_T : List (Nat × Tm) := [(0, laws_eqByteS_t0)]
noncomputable def laws_eqByteS_E : Env := ⟨tt0, []⟩
noncomputable def laws_eqByteS_F : PsD [.ro tYs, .ro tYs] → Option (RsD [.own tB] × PsO [.ro tYs, .ro tYs]) := fun x => evFn laws_eqByteS_E laws_eqByteS_T Tryz.f74 laws_eqByteS_b [.ro tYs, .ro tYs] [.own tB] x
@[reducible] noncomputable def laws_eqByteS_C : Ct := ⟨[.ro tYs, .ro tYs], [.own tB], laws_eqByteS_F⟩
theorem laws_eqByteS_h (x : PsD [.ro tYs, .ro tYs]) (y : RsD [.own tB] × PsO [.ro tYs, .ro tYs]) (h : laws_eqByteS_F x = some y) : evFn laws_eqByteS_E laws_eqByteS_T Tryz.f74 laws_eqByteS_b [.ro tYs, .ro tYs] [.own tB] x = some y := h
theorem laws_eqByteS_c : ∀ f c, get laws_eqByteS_E.ct f = some c → Sat Tryz.prog f c := ct_nil
theorem laws_eqByteS_S : Sat Tryz.prog 74 laws_eqByteS_C := fn_ok2 (envOk _) laws_eqByteS_c mixedOk Tryz.func74 (by kernel_rfl : Tryz.f74.body = some laws_eqByteS_b) (by kernel_rfl) (by kernel_rfl) laws_eqByteS_h
noncomputable def laws_eqByteS_Ke  (x0 : List Int) (x1 : List Int) : Ex → AS → Option (RsD [.own tB] × PsO [.ro tYs, .ro tYs]) := endK laws_eqByteS_E Tryz.f74 [.ro tYs, .ro tYs] [.own tB] (initL [.ro tYs, .ro tYs] (x0, (x1, ())) 0).1
noncomputable def laws_eqByteS_B0 {R : Type} : AS → (Ex → AS → Option R) → Option R := fun A K => ev laws_eqByteS_E laws_eqByteS_T 0 (cA (cA (cB (cA (cB (cB laws_eqByteS_b)))))) A K
noncomputable def laws_eqByteS_K0  (x0 : List Int) (x1 : List Int) : Ex → AS → Option (RsD [.own tB] × PsO [.ro tYs, .ro tYs]) := kBlk 0 (kSeq (fun A K => ev laws_eqByteS_E laws_eqByteS_T 1000 (cB (cB (cB laws_eqByteS_b))) A K) (laws_eqByteS_Ke x0 x1))
noncomputable def laws_eqByteS_x0_0 (d0 : Bool) : AS := ⟨[(4, .v (.one (.d true tB d0)))], []⟩
noncomputable def laws_eqByteS_x0_1 : AS := ⟨[], []⟩
theorem laws_eqByteS_l0 {R : Type} {K : Ex → AS → Option R} {s : laws_eqByteS_t0.D} (n : Nat) {v : Option R} (h : iterG laws_eqByteS_t0 laws_eqByteS_B0 K n s = v) (hv : ∃ r, v = some r) : loopG laws_eqByteS_t0 laws_eqByteS_B0 K s = v := loop_eq (ev_mono _ _) n h hv
theorem laws_eqByteS_main (x0 : List Int) (x1 : List Int) : laws_eqByteS_F (x0, (x1, ())) =
 brk (!decide ((x0.length : Int) = (x1.length : Int)))
 (some ((false, ()), ((), ((), ()))))
 (loopG laws_eqByteS_t0 laws_eqByteS_B0 (laws_eqByteS_K0 x0 x1) ((x0, (x1, ((0 : Int), ()))), ())) := by kernel_rfl
theorem laws_eqByteS_r0 {R : Type} (K : Ex → AS → Option R) (n : Nat) (t0 : List Int) (t1 : List Int) (t5 : Int) : iterG laws_eqByteS_t0 laws_eqByteS_B0 K (n + 1) ((t0, (t1, (t5, ()))), ()) =
 brk (decide (t5 < (t0.length : Int)))
 (ck (decide (0 ≤ t5) && decide (t5 < t0.length)) (ck (decide (0 ≤ t5) && decide (t5 < t1.length)) (brk (!decide (rdD tY t0 t5 = rdD tY t1 t5))
 (K .ret (laws_eqByteS_x0_0 false))
 (iterG laws_eqByteS_t0 laws_eqByteS_B0 K n ((t0, (t1, (IntKind.i64.wrap (t5 + (1 : Int)), ()))), ())))))
 (K (.exit 0) (laws_eqByteS_x0_1)) := by kernel_rfl
theorem laws_eqByteS_e0_0 (x0 : List Int) (x1 : List Int) (d0 : Bool) : laws_eqByteS_K0 x0 x1 .ret (laws_eqByteS_x0_0 d0) =
 some ((d0, ()), ((), ((), ()))) := by kernel_rfl
theorem laws_eqByteS_e0_1 (x0 : List Int) (x1 : List Int) : laws_eqByteS_K0 x0 x1 (.exit 0) (laws_eqByteS_x0_1) =
 some ((true, ()), ((), ((), ()))) := by kernel_rfl
/-! laws.eqSlots -/
noncomputable def laws_eqSlots_b : Code := bd Tryz.f36
def laws_eqSlots_T : List (Nat × Tm) := []
noncomputable def laws_eqSlots_E : Env := ⟨tt0, [(74, laws_eqByteS_C)]⟩
noncomputable def laws_eqSlots_F : PsD [.ro tSlots, .ro tSlots] → Option (RsD [.own tB] × PsO [.ro tSlots, .ro tSlots]) := fun x => evFn laws_eqSlots_E laws_eqSlots_T Tryz.f36 laws_eqSlots_b [.ro tSlots, .ro tSlots] [.own tB] x
@[reducible] noncomputable def laws_eqSlots_C : Ct := ⟨[.ro tSlots, .ro tSlots], [.own tB], laws_eqSlots_F⟩
theorem laws_eqSlots_h (x : PsD [.ro tSlots, .ro tSlots]) (y : RsD [.own tB] × PsO [.ro tSlots, .ro tSlots]) (h : laws_eqSlots_F x = some y) : evFn laws_eqSlots_E laws_eqSlots_T Tryz.f36 laws_eqSlots_b [.ro tSlots, .ro tSlots] [.own tB] x = some y := h
theorem laws_eqSlots_c : ∀ f c, get laws_eqSlots_E.ct f = some c → Sat Tryz.prog f c := ct_cons laws_eqByteS_S (ct_nil)
theorem laws_eqSlots_S : Sat Tryz.prog 36 laws_eqSlots_C := fn_ok2 (envOk _) laws_eqSlots_c mixedOk Tryz.func36 (by kernel_rfl : Tryz.f36.body = some laws_eqSlots_b) (by kernel_rfl) (by kernel_rfl) laws_eqSlots_h
noncomputable def laws_eqSlots_Ke  (x0 : List Int × List Int × Unit) (x1 : List Int × List Int × Unit) : Ex → AS → Option (RsD [.own tB] × PsO [.ro tSlots, .ro tSlots]) := endK laws_eqSlots_E Tryz.f36 [.ro tSlots, .ro tSlots] [.own tB] (initL [.ro tSlots, .ro tSlots] (x0, (x1, ())) 0).1
theorem laws_eqSlots_main (x0 : List Int × List Int × Unit) (x1 : List Int × List Int × Unit) : laws_eqSlots_F (x0, (x1, ())) =
 (laws_eqByteS_F (x0.1, (x1.1, ()))).bind fun y9 =>
 brk (!y9.1.1)
 (some ((false, ()), ((), ((), ()))))
 ((laws_eqByteS_F (x0.2.1, (x1.2.1, ()))).bind fun y15 =>
 brk (!y15.1.1)
 (some ((false, ()), ((), ((), ()))))
 (some ((true, ()), ((), ((), ()))))) := by kernel_rfl
/-! laws.eqBoolS -/
noncomputable def laws_eqBoolS_b : Code := bd Tryz.f37
@[reducible] def laws_eqBoolS_t0 : Tm := ⟨[], [], [(0, .sc true tBs), (1, .sc true tBs), (5, .sc true tI)], [], [4], []⟩
def laws_eqBoolS_T : List (Nat × Tm) := [(0, laws_eqBoolS_t0)]
noncomputable def laws_eqBoolS_E : Env := ⟨tt0, []⟩
noncomputable def laws_eqBoolS_F : PsD [.ro tBs, .ro tBs] → Option (RsD [.own tB] × PsO [.ro tBs, .ro tBs]) := fun x => evFn laws_eqBoolS_E laws_eqBoolS_T Tryz.f37 laws_eqBoolS_b [.ro tBs, .ro tBs] [.own tB] x
@[reducible] noncomputable def laws_eqBoolS_C : Ct := ⟨[.ro tBs, .ro tBs], [.own tB], laws_eqBoolS_F⟩
theorem laws_eqBoolS_h (x : PsD [.ro tBs, .ro tBs]) (y : RsD [.own tB] × PsO [.ro tBs, .ro tBs]) (h : laws_eqBoolS_F x = some y) : evFn laws_eqBoolS_E laws_eqBoolS_T Tryz.f37 laws_eqBoolS_b [.ro tBs, .ro tBs] [.own tB] x = some y := h
theorem laws_eqBoolS_c : ∀ f c, get laws_eqBoolS_E.ct f = some c → Sat Tryz.prog f c := ct_nil
theorem laws_eqBoolS_S : Sat Tryz.prog 37 laws_eqBoolS_C := fn_ok2 (envOk _) laws_eqBoolS_c mixedOk Tryz.func37 (by kernel_rfl : Tryz.f37.body = some laws_eqBoolS_b) (by kernel_rfl) (by kernel_rfl) laws_eqBoolS_h
noncomputable def laws_eqBoolS_Ke  (x0 : List Bool) (x1 : List Bool) : Ex → AS → Option (RsD [.own tB] × PsO [.ro tBs, .ro tBs]) := endK laws_eqBoolS_E Tryz.f37 [.ro tBs, .ro tBs] [.own tB] (initL [.ro tBs, .ro tBs] (x0, (x1, ())) 0).1
noncomputable def laws_eqBoolS_B0 {R : Type} : AS → (Ex → AS → Option R) → Option R := fun A K => ev laws_eqBoolS_E laws_eqBoolS_T 0 (cA (cA (cB (cA (cB (cB laws_eqBoolS_b)))))) A K
noncomputable def laws_eqBoolS_K0  (x0 : List Bool) (x1 : List Bool) : Ex → AS → Option (RsD [.own tB] × PsO [.ro tBs, .ro tBs]) := kBlk 0 (kSeq (fun A K => ev laws_eqBoolS_E laws_eqBoolS_T 1000 (cB (cB (cB laws_eqBoolS_b))) A K) (laws_eqBoolS_Ke x0 x1))
noncomputable def laws_eqBoolS_x0_0 (d0 : Bool) : AS := ⟨[(4, .v (.one (.d true tB d0)))], []⟩
noncomputable def laws_eqBoolS_x0_1 : AS := ⟨[], []⟩
theorem laws_eqBoolS_l0 {R : Type} {K : Ex → AS → Option R} {s : laws_eqBoolS_t0.D} (n : Nat) {v : Option R} (h : iterG laws_eqBoolS_t0 laws_eqBoolS_B0 K n s = v) (hv : ∃ r, v = some r) : loopG laws_eqBoolS_t0 laws_eqBoolS_B0 K s = v := loop_eq (ev_mono _ _) n h hv
theorem laws_eqBoolS_main (x0 : List Bool) (x1 : List Bool) : laws_eqBoolS_F (x0, (x1, ())) =
 brk (!decide ((x0.length : Int) = (x1.length : Int)))
 (some ((false, ()), ((), ((), ()))))
 (loopG laws_eqBoolS_t0 laws_eqBoolS_B0 (laws_eqBoolS_K0 x0 x1) ((x0, (x1, ((0 : Int), ()))), ())) := by kernel_rfl
theorem laws_eqBoolS_r0 {R : Type} (K : Ex → AS → Option R) (n : Nat) (t0 : List Bool) (t1 : List Bool) (t5 : Int) : iterG laws_eqBoolS_t0 laws_eqBoolS_B0 K (n + 1) ((t0, (t1, (t5, ()))), ()) =
 brk (decide (t5 < (t0.length : Int)))
 (ck (decide (0 ≤ t5) && decide (t5 < t0.length)) (ck (decide (0 ≤ t5) && decide (t5 < t1.length)) (brk (!((rdD tB t0 t5) == (rdD tB t1 t5)))
 (K .ret (laws_eqBoolS_x0_0 false))
 (iterG laws_eqBoolS_t0 laws_eqBoolS_B0 K n ((t0, (t1, (IntKind.i64.wrap (t5 + (1 : Int)), ()))), ())))))
 (K (.exit 0) (laws_eqBoolS_x0_1)) := by kernel_rfl
theorem laws_eqBoolS_e0_0 (x0 : List Bool) (x1 : List Bool) (d0 : Bool) : laws_eqBoolS_K0 x0 x1 .ret (laws_eqBoolS_x0_0 d0) =
 some ((d0, ()), ((), ((), ()))) := by kernel_rfl
theorem laws_eqBoolS_e0_1 (x0 : List Bool) (x1 : List Bool) : laws_eqBoolS_K0 x0 x1 (.exit 0) (laws_eqBoolS_x0_1) =
 some ((true, ()), ((), ((), ()))) := by kernel_rfl
/-! laws.eqNode -/
noncomputable def laws_eqNode_b : Code := bd Tryz.f10
def laws_eqNode_T : List (Nat × Tm) := []
noncomputable def laws_eqNode_E : Env := ⟨tt0, [(19, laws_eqMeta_C), (35, laws_eqIntS_C), (36, laws_eqSlots_C), (37, laws_eqBoolS_C), (38, laws_eqIntSS_C)]⟩
noncomputable def laws_eqNode_F : PsD [.ro tNode, .ro tNode] → Option (RsD [.own tB] × PsO [.ro tNode, .ro tNode]) := fun x => evFn laws_eqNode_E laws_eqNode_T Tryz.f10 laws_eqNode_b [.ro tNode, .ro tNode] [.own tB] x
@[reducible] noncomputable def laws_eqNode_C : Ct := ⟨[.ro tNode, .ro tNode], [.own tB], laws_eqNode_F⟩
theorem laws_eqNode_h (x : PsD [.ro tNode, .ro tNode]) (y : RsD [.own tB] × PsO [.ro tNode, .ro tNode]) (h : laws_eqNode_F x = some y) : evFn laws_eqNode_E laws_eqNode_T Tryz.f10 laws_eqNode_b [.ro tNode, .ro tNode] [.own tB] x = some y := h
theorem laws_eqNode_c : ∀ f c, get laws_eqNode_E.ct f = some c → Sat Tryz.prog f c := ct_cons laws_eqMeta_S (ct_cons laws_eqIntS_S (ct_cons laws_eqSlots_S (ct_cons laws_eqBoolS_S (ct_cons laws_eqIntSS_S (ct_nil)))))
theorem laws_eqNode_S : Sat Tryz.prog 10 laws_eqNode_C := fn_ok2 (envOk _) laws_eqNode_c mixedOk Tryz.func10 (by kernel_rfl : Tryz.f10.body = some laws_eqNode_b) (by kernel_rfl) (by kernel_rfl) laws_eqNode_h
noncomputable def laws_eqNode_Ke  (x0 : Int × Bool × Bool × List Int × (List Int × List (List Int) × Bool × Bool × Bool × Int × Unit) × (List Int × List Int × Unit) × List Bool × List (List Int) × List Bool × List Int × Unit) (x1 : Int × Bool × Bool × List Int × (List Int × List (List Int) × Bool × Bool × Bool × Int × Unit) × (List Int × List Int × Unit) × List Bool × List (List Int) × List Bool × List Int × Unit) : Ex → AS → Option (RsD [.own tB] × PsO [.ro tNode, .ro tNode]) := endK laws_eqNode_E Tryz.f10 [.ro tNode, .ro tNode] [.own tB] (initL [.ro tNode, .ro tNode] (x0, (x1, ())) 0).1
theorem laws_eqNode_main (x0 : Int × Bool × Bool × List Int × (List Int × List (List Int) × Bool × Bool × Bool × Int × Unit) × (List Int × List Int × Unit) × List Bool × List (List Int) × List Bool × List Int × Unit) (x1 : Int × Bool × Bool × List Int × (List Int × List (List Int) × Bool × Bool × Bool × Int × Unit) × (List Int × List Int × Unit) × List Bool × List (List Int) × List Bool × List Int × Unit) : laws_eqNode_F (x0, (x1, ())) =
 brk (!decide (x0.1 = x1.1))
 (some ((false, ()), ((), ((), ()))))
 (brk (!(x0.2.1 == x1.2.1))
 (some ((false, ()), ((), ((), ()))))
 (brk (!(x0.2.2.1 == x1.2.2.1))
 (some ((false, ()), ((), ((), ()))))
 ((laws_eqIntS_F (x0.2.2.2.1, (x1.2.2.2.1, ()))).bind fun y24 =>
 brk (!y24.1.1)
 (some ((false, ()), ((), ((), ()))))
 ((laws_eqMeta_F ((x0.2.2.2.2.1.1, (x0.2.2.2.2.1.2.1, (x0.2.2.2.2.1.2.2.1, (x0.2.2.2.2.1.2.2.2.1, (x0.2.2.2.2.1.2.2.2.2.1, (x0.2.2.2.2.1.2.2.2.2.2.1, ())))))), ((x1.2.2.2.2.1.1, (x1.2.2.2.2.1.2.1, (x1.2.2.2.2.1.2.2.1, (x1.2.2.2.2.1.2.2.2.1, (x1.2.2.2.2.1.2.2.2.2.1, (x1.2.2.2.2.1.2.2.2.2.2.1, ())))))), ()))).bind fun y30 =>
 brk (!y30.1.1)
 (some ((false, ()), ((), ((), ()))))
 ((laws_eqSlots_F ((x0.2.2.2.2.2.1.1, (x0.2.2.2.2.2.1.2.1, ())), ((x1.2.2.2.2.2.1.1, (x1.2.2.2.2.2.1.2.1, ())), ()))).bind fun y36 =>
 brk (!y36.1.1)
 (some ((false, ()), ((), ((), ()))))
 ((laws_eqBoolS_F (x0.2.2.2.2.2.2.1, (x1.2.2.2.2.2.2.1, ()))).bind fun y42 =>
 brk (!y42.1.1)
 (some ((false, ()), ((), ((), ()))))
 ((laws_eqIntSS_F (x0.2.2.2.2.2.2.2.1, (x1.2.2.2.2.2.2.2.1, ()))).bind fun y48 =>
 brk (!y48.1.1)
 (some ((false, ()), ((), ((), ()))))
 ((laws_eqBoolS_F (x0.2.2.2.2.2.2.2.2.1, (x1.2.2.2.2.2.2.2.2.1, ()))).bind fun y54 =>
 brk (!y54.1.1)
 (some ((false, ()), ((), ((), ()))))
 ((laws_eqIntS_F (x0.2.2.2.2.2.2.2.2.2.1, (x1.2.2.2.2.2.2.2.2.2.1, ()))).bind fun y60 =>
 brk (!y60.1.1)
 (some ((false, ()), ((), ((), ()))))
 (some ((true, ()), ((), ((), ()))))))))))))) := by kernel_rfl
/-! laws.markIntS -/
noncomputable def laws_markIntS_b : Code := bd Tryz.f39
@[reducible] def laws_markIntS_t0 : Tm := ⟨[], [], [(0, .own 1000000), (1, .sc true tI), (5, .sc true tI)], [(1000000, .arr 3 tI)], [1], []⟩
def laws_markIntS_T : List (Nat × Tm) := [(0, laws_markIntS_t0)]
noncomputable def laws_markIntS_E : Env := ⟨tt0, []⟩
noncomputable def laws_markIntS_F : PsD [.inp tIs, .ro tI] → Option (RsD [.own tI] × PsO [.inp tIs, .ro tI]) := fun x => evFn laws_markIntS_E laws_markIntS_T Tryz.f39 laws_markIntS_b [.inp tIs, .ro tI] [.own tI] x
@[reducible] noncomputable def laws_markIntS_C : Ct := ⟨[.inp tIs, .ro tI], [.own tI], laws_markIntS_F⟩
theorem laws_markIntS_h (x : PsD [.inp tIs, .ro tI]) (y : RsD [.own tI] × PsO [.inp tIs, .ro tI]) (h : laws_markIntS_F x = some y) : evFn laws_markIntS_E laws_markIntS_T Tryz.f39 laws_markIntS_b [.inp tIs, .ro tI] [.own tI] x = some y := h
theorem laws_markIntS_c : ∀ f c, get laws_markIntS_E.ct f = some c → Sat Tryz.prog f c := ct_nil
theorem laws_markIntS_S : Sat Tryz.prog 39 laws_markIntS_C := fn_ok2 (envOk _) laws_markIntS_c mixedOk Tryz.func39 (by kernel_rfl : Tryz.f39.body = some laws_markIntS_b) (by kernel_rfl) (by kernel_rfl) laws_markIntS_h
noncomputable def laws_markIntS_Ke  (x0 : List Int) (x1 : Int) : Ex → AS → Option (RsD [.own tI] × PsO [.inp tIs, .ro tI]) := endK laws_markIntS_E Tryz.f39 [.inp tIs, .ro tI] [.own tI] (initL [.inp tIs, .ro tI] (x0, (x1, ())) 0).1
noncomputable def laws_markIntS_B0 {R : Type} : AS → (Ex → AS → Option R) → Option R := fun A K => ev laws_markIntS_E laws_markIntS_T 0 (cA (cA (cB (cA (cB laws_markIntS_b))))) A K
noncomputable def laws_markIntS_K0  (x0 : List Int) (x1 : Int) : Ex → AS → Option (RsD [.own tI] × PsO [.inp tIs, .ro tI]) := kBlk 0 (kSeq (fun A K => ev laws_markIntS_E laws_markIntS_T 1000 (cB (cB laws_markIntS_b)) A K) (laws_markIntS_Ke x0 x1))
noncomputable def laws_markIntS_x0_0 (d0 : Int) (d1 : List Int) : AS := ⟨[(1, .v (.one (.d true tI d0)))], [(1000000, .arr 3 tI d1)]⟩
theorem laws_markIntS_l0 {R : Type} {K : Ex → AS → Option R} {s : laws_markIntS_t0.D} (n : Nat) {v : Option R} (h : iterG laws_markIntS_t0 laws_markIntS_B0 K n s = v) (hv : ∃ r, v = some r) : loopG laws_markIntS_t0 laws_markIntS_B0 K s = v := loop_eq (ev_mono _ _) n h hv
theorem laws_markIntS_main (x0 : List Int) (x1 : Int) : laws_markIntS_F (x0, (x1, ())) =
 loopG laws_markIntS_t0 laws_markIntS_B0 (laws_markIntS_K0 x0 x1) ((x1, ((0 : Int), ())), (x0, ())) := by kernel_rfl
theorem laws_markIntS_r0 {R : Type} (K : Ex → AS → Option R) (n : Nat) (t1 : Int) (t5 : Int) (a1000000 : List Int) : iterG laws_markIntS_t0 laws_markIntS_B0 K (n + 1) ((t1, (t5, ())), (a1000000, ())) =
 brk (decide (t5 < (a1000000.length : Int)))
 (ck (decide (0 ≤ t5) && decide (t5 < a1000000.length)) (iterG laws_markIntS_t0 laws_markIntS_B0 K n ((IntKind.i64.wrap (t1 + (1 : Int)), (IntKind.i64.wrap (t5 + (1 : Int)), ())), (a1000000.set t5.toNat t1, ()))))
 (K (.exit 0) (laws_markIntS_x0_0 t1 a1000000)) := by kernel_rfl
theorem laws_markIntS_e0_0 (x0 : List Int) (x1 : Int) (d0 : Int) (d1 : List Int) : laws_markIntS_K0 x0 x1 (.exit 0) (laws_markIntS_x0_0 d0 d1) =
 some ((d0, ()), (d1, ((), ()))) := by kernel_rfl
/-! laws.markIntSS -/
noncomputable def laws_markIntSS_b : Code := bd Tryz.f42
@[reducible] def laws_markIntSS_t0 : Tm := ⟨[], [], [(0, .own 1000000), (1, .sc true tI), (5, .sc true tI)], [(1000000, .arr 22 tIs)], [1], []⟩
def laws_markIntSS_T : List (Nat × Tm) := [(0, laws_markIntSS_t0)]
noncomputable def laws_markIntSS_E : Env := ⟨tt0, [(39, laws_markIntS_C)]⟩
noncomputable def laws_markIntSS_F : PsD [.inp tIss, .ro tI] → Option (RsD [.own tI] × PsO [.inp tIss, .ro tI]) := fun x => evFn laws_markIntSS_E laws_markIntSS_T Tryz.f42 laws_markIntSS_b [.inp tIss, .ro tI] [.own tI] x
@[reducible] noncomputable def laws_markIntSS_C : Ct := ⟨[.inp tIss, .ro tI], [.own tI], laws_markIntSS_F⟩
theorem laws_markIntSS_h (x : PsD [.inp tIss, .ro tI]) (y : RsD [.own tI] × PsO [.inp tIss, .ro tI]) (h : laws_markIntSS_F x = some y) : evFn laws_markIntSS_E laws_markIntSS_T Tryz.f42 laws_markIntSS_b [.inp tIss, .ro tI] [.own tI] x = some y := h
theorem laws_markIntSS_c : ∀ f c, get laws_markIntSS_E.ct f = some c → Sat Tryz.prog f c := ct_cons laws_markIntS_S (ct_nil)
theorem laws_markIntSS_S : Sat Tryz.prog 42 laws_markIntSS_C := fn_ok2 (envOk _) laws_markIntSS_c mixedOk Tryz.func42 (by kernel_rfl : Tryz.f42.body = some laws_markIntSS_b) (by kernel_rfl) (by kernel_rfl) laws_markIntSS_h
noncomputable def laws_markIntSS_Ke  (x0 : List (List Int)) (x1 : Int) : Ex → AS → Option (RsD [.own tI] × PsO [.inp tIss, .ro tI]) := endK laws_markIntSS_E Tryz.f42 [.inp tIss, .ro tI] [.own tI] (initL [.inp tIss, .ro tI] (x0, (x1, ())) 0).1
noncomputable def laws_markIntSS_B0 {R : Type} : AS → (Ex → AS → Option R) → Option R := fun A K => ev laws_markIntSS_E laws_markIntSS_T 0 (cA (cA (cB (cA (cB laws_markIntSS_b))))) A K
noncomputable def laws_markIntSS_K0  (x0 : List (List Int)) (x1 : Int) : Ex → AS → Option (RsD [.own tI] × PsO [.inp tIss, .ro tI]) := kBlk 0 (kSeq (fun A K => ev laws_markIntSS_E laws_markIntSS_T 1000 (cB (cB laws_markIntSS_b)) A K) (laws_markIntSS_Ke x0 x1))
noncomputable def laws_markIntSS_x0_0 (d0 : Int) (d1 : List (List Int)) : AS := ⟨[(1, .v (.one (.d true tI d0)))], [(1000000, .arr 22 tIs d1)]⟩
theorem laws_markIntSS_l0 {R : Type} {K : Ex → AS → Option R} {s : laws_markIntSS_t0.D} (n : Nat) {v : Option R} (h : iterG laws_markIntSS_t0 laws_markIntSS_B0 K n s = v) (hv : ∃ r, v = some r) : loopG laws_markIntSS_t0 laws_markIntSS_B0 K s = v := loop_eq (ev_mono _ _) n h hv
theorem laws_markIntSS_main (x0 : List (List Int)) (x1 : Int) : laws_markIntSS_F (x0, (x1, ())) =
 loopG laws_markIntSS_t0 laws_markIntSS_B0 (laws_markIntSS_K0 x0 x1) ((x1, ((0 : Int), ())), (x0, ())) := by kernel_rfl
theorem laws_markIntSS_r0 {R : Type} (K : Ex → AS → Option R) (n : Nat) (t1 : Int) (t5 : Int) (a1000000 : List (List Int)) : iterG laws_markIntSS_t0 laws_markIntSS_B0 K (n + 1) ((t1, (t5, ())), (a1000000, ())) =
 brk (decide (t5 < (a1000000.length : Int)))
 (ck (decide (0 ≤ t5) && decide (t5 < a1000000.length)) ((laws_markIntS_F (rdD tIs a1000000 t5, (t1, ()))).bind fun y17 =>
 iterG laws_markIntSS_t0 laws_markIntSS_B0 K n ((y17.1.1, (IntKind.i64.wrap (t5 + (1 : Int)), ())), (a1000000.set t5.toNat y17.2.1, ()))))
 (K (.exit 0) (laws_markIntSS_x0_0 t1 a1000000)) := by kernel_rfl
theorem laws_markIntSS_e0_0 (x0 : List (List Int)) (x1 : Int) (d0 : Int) (d1 : List (List Int)) : laws_markIntSS_K0 x0 x1 (.exit 0) (laws_markIntSS_x0_0 d0 d1) =
 some ((d0, ()), (d1, ((), ()))) := by kernel_rfl
/-! laws.markMeta -/
noncomputable def laws_markMeta_b : Code := bd Tryz.f20
def laws_markMeta_T : List (Nat × Tm) := []
noncomputable def laws_markMeta_E : Env := ⟨tt0, [(39, laws_markIntS_C), (42, laws_markIntSS_C)]⟩
noncomputable def laws_markMeta_F : PsD [.inp tMeta, .ro tI] → Option (RsD [.own tI] × PsO [.inp tMeta, .ro tI]) := fun x => evFn laws_markMeta_E laws_markMeta_T Tryz.f20 laws_markMeta_b [.inp tMeta, .ro tI] [.own tI] x
@[reducible] noncomputable def laws_markMeta_C : Ct := ⟨[.inp tMeta, .ro tI], [.own tI], laws_markMeta_F⟩
theorem laws_markMeta_h (x : PsD [.inp tMeta, .ro tI]) (y : RsD [.own tI] × PsO [.inp tMeta, .ro tI]) (h : laws_markMeta_F x = some y) : evFn laws_markMeta_E laws_markMeta_T Tryz.f20 laws_markMeta_b [.inp tMeta, .ro tI] [.own tI] x = some y := h
theorem laws_markMeta_c : ∀ f c, get laws_markMeta_E.ct f = some c → Sat Tryz.prog f c := ct_cons laws_markIntS_S (ct_cons laws_markIntSS_S (ct_nil))
theorem laws_markMeta_S : Sat Tryz.prog 20 laws_markMeta_C := fn_ok2 (envOk _) laws_markMeta_c mixedOk Tryz.func20 (by kernel_rfl : Tryz.f20.body = some laws_markMeta_b) (by kernel_rfl) (by kernel_rfl) laws_markMeta_h
noncomputable def laws_markMeta_Ke  (x0 : List Int × List (List Int) × Bool × Bool × Bool × Int × Unit) (x1 : Int) : Ex → AS → Option (RsD [.own tI] × PsO [.inp tMeta, .ro tI]) := endK laws_markMeta_E Tryz.f20 [.inp tMeta, .ro tI] [.own tI] (initL [.inp tMeta, .ro tI] (x0, (x1, ())) 0).1
theorem laws_markMeta_main (x0 : List Int × List (List Int) × Bool × Bool × Bool × Int × Unit) (x1 : Int) : laws_markMeta_F (x0, (x1, ())) =
 (laws_markIntS_F (x0.1, (x1, ()))).bind fun y8 =>
 (laws_markIntSS_F (x0.2.1, (y8.1.1, ()))).bind fun y12 =>
 some ((y12.1.1, ()), ((y8.2.1, (y12.2.1, (x0.2.2.1, (x0.2.2.2.1, (x0.2.2.2.2.1, (x0.2.2.2.2.2.1, ())))))), ((), ()))) := by kernel_rfl
/-! laws.markByteS -/
noncomputable def laws_markByteS_b : Code := bd Tryz.f75
@[reducible] def laws_markByteS_t0 : Tm := ⟨[], [], [(0, .own 1000000), (1, .sc true tI), (5, .sc true tI)], [(1000000, .arr 5 tY)], [1], []⟩
def laws_markByteS_T : List (Nat × Tm) := [(0, laws_markByteS_t0)]
noncomputable def laws_markByteS_E : Env := ⟨tt0, []⟩
noncomputable def laws_markByteS_F : PsD [.inp tYs, .ro tI] → Option (RsD [.own tI] × PsO [.inp tYs, .ro tI]) := fun x => evFn laws_markByteS_E laws_markByteS_T Tryz.f75 laws_markByteS_b [.inp tYs, .ro tI] [.own tI] x
@[reducible] noncomputable def laws_markByteS_C : Ct := ⟨[.inp tYs, .ro tI], [.own tI], laws_markByteS_F⟩
theorem laws_markByteS_h (x : PsD [.inp tYs, .ro tI]) (y : RsD [.own tI] × PsO [.inp tYs, .ro tI]) (h : laws_markByteS_F x = some y) : evFn laws_markByteS_E laws_markByteS_T Tryz.f75 laws_markByteS_b [.inp tYs, .ro tI] [.own tI] x = some y := h
theorem laws_markByteS_c : ∀ f c, get laws_markByteS_E.ct f = some c → Sat Tryz.prog f c := ct_nil
theorem laws_markByteS_S : Sat Tryz.prog 75 laws_markByteS_C := fn_ok2 (envOk _) laws_markByteS_c mixedOk Tryz.func75 (by kernel_rfl : Tryz.f75.body = some laws_markByteS_b) (by kernel_rfl) (by kernel_rfl) laws_markByteS_h
noncomputable def laws_markByteS_Ke  (x0 : List Int) (x1 : Int) : Ex → AS → Option (RsD [.own tI] × PsO [.inp tYs, .ro tI]) := endK laws_markByteS_E Tryz.f75 [.inp tYs, .ro tI] [.own tI] (initL [.inp tYs, .ro tI] (x0, (x1, ())) 0).1
noncomputable def laws_markByteS_B0 {R : Type} : AS → (Ex → AS → Option R) → Option R := fun A K => ev laws_markByteS_E laws_markByteS_T 0 (cA (cA (cB (cA (cB laws_markByteS_b))))) A K
noncomputable def laws_markByteS_K0  (x0 : List Int) (x1 : Int) : Ex → AS → Option (RsD [.own tI] × PsO [.inp tYs, .ro tI]) := kBlk 0 (kSeq (fun A K => ev laws_markByteS_E laws_markByteS_T 1000 (cB (cB laws_markByteS_b)) A K) (laws_markByteS_Ke x0 x1))
noncomputable def laws_markByteS_x0_0 (d0 : Int) (d1 : List Int) : AS := ⟨[(1, .v (.one (.d true tI d0)))], [(1000000, .arr 5 tY d1)]⟩
theorem laws_markByteS_l0 {R : Type} {K : Ex → AS → Option R} {s : laws_markByteS_t0.D} (n : Nat) {v : Option R} (h : iterG laws_markByteS_t0 laws_markByteS_B0 K n s = v) (hv : ∃ r, v = some r) : loopG laws_markByteS_t0 laws_markByteS_B0 K s = v := loop_eq (ev_mono _ _) n h hv
theorem laws_markByteS_main (x0 : List Int) (x1 : Int) : laws_markByteS_F (x0, (x1, ())) =
 loopG laws_markByteS_t0 laws_markByteS_B0 (laws_markByteS_K0 x0 x1) ((x1, ((0 : Int), ())), (x0, ())) := by kernel_rfl
theorem laws_markByteS_r0 {R : Type} (K : Ex → AS → Option R) (n : Nat) (t1 : Int) (t5 : Int) (a1000000 : List Int) : iterG laws_markByteS_t0 laws_markByteS_B0 K (n + 1) ((t1, (t5, ())), (a1000000, ())) =
 brk (decide (t5 < (a1000000.length : Int)))
 (ck (decide (0 ≤ t5) && decide (t5 < a1000000.length)) (iterG laws_markByteS_t0 laws_markByteS_B0 K n ((IntKind.i64.wrap (t1 + (1 : Int)), (IntKind.i64.wrap (t5 + (1 : Int)), ())), (a1000000.set t5.toNat (IntKind.u8.wrap t1), ()))))
 (K (.exit 0) (laws_markByteS_x0_0 t1 a1000000)) := by kernel_rfl
theorem laws_markByteS_e0_0 (x0 : List Int) (x1 : Int) (d0 : Int) (d1 : List Int) : laws_markByteS_K0 x0 x1 (.exit 0) (laws_markByteS_x0_0 d0 d1) =
 some ((d0, ()), (d1, ((), ()))) := by kernel_rfl
/-! laws.markSlots -/
noncomputable def laws_markSlots_b : Code := bd Tryz.f40
def laws_markSlots_T : List (Nat × Tm) := []
noncomputable def laws_markSlots_E : Env := ⟨tt0, [(75, laws_markByteS_C)]⟩
noncomputable def laws_markSlots_F : PsD [.inp tSlots, .ro tI] → Option (RsD [.own tI] × PsO [.inp tSlots, .ro tI]) := fun x => evFn laws_markSlots_E laws_markSlots_T Tryz.f40 laws_markSlots_b [.inp tSlots, .ro tI] [.own tI] x
@[reducible] noncomputable def laws_markSlots_C : Ct := ⟨[.inp tSlots, .ro tI], [.own tI], laws_markSlots_F⟩
theorem laws_markSlots_h (x : PsD [.inp tSlots, .ro tI]) (y : RsD [.own tI] × PsO [.inp tSlots, .ro tI]) (h : laws_markSlots_F x = some y) : evFn laws_markSlots_E laws_markSlots_T Tryz.f40 laws_markSlots_b [.inp tSlots, .ro tI] [.own tI] x = some y := h
theorem laws_markSlots_c : ∀ f c, get laws_markSlots_E.ct f = some c → Sat Tryz.prog f c := ct_cons laws_markByteS_S (ct_nil)
theorem laws_markSlots_S : Sat Tryz.prog 40 laws_markSlots_C := fn_ok2 (envOk _) laws_markSlots_c mixedOk Tryz.func40 (by kernel_rfl : Tryz.f40.body = some laws_markSlots_b) (by kernel_rfl) (by kernel_rfl) laws_markSlots_h
noncomputable def laws_markSlots_Ke  (x0 : List Int × List Int × Unit) (x1 : Int) : Ex → AS → Option (RsD [.own tI] × PsO [.inp tSlots, .ro tI]) := endK laws_markSlots_E Tryz.f40 [.inp tSlots, .ro tI] [.own tI] (initL [.inp tSlots, .ro tI] (x0, (x1, ())) 0).1
theorem laws_markSlots_main (x0 : List Int × List Int × Unit) (x1 : Int) : laws_markSlots_F (x0, (x1, ())) =
 (laws_markByteS_F (x0.1, (x1, ()))).bind fun y8 =>
 (laws_markByteS_F (x0.2.1, (y8.1.1, ()))).bind fun y12 =>
 some ((y12.1.1, ()), ((y8.2.1, (y12.2.1, ())), ((), ()))) := by kernel_rfl
/-! laws.markBoolS -/
noncomputable def laws_markBoolS_b : Code := bd Tryz.f41
@[reducible] def laws_markBoolS_t0 : Tm := ⟨[], [], [(0, .own 1000000), (1, .sc true tI), (5, .sc true tI)], [(1000000, .arr 4 tB)], [1], []⟩
def laws_markBoolS_T : List (Nat × Tm) := [(0, laws_markBoolS_t0)]
noncomputable def laws_markBoolS_E : Env := ⟨tt0, []⟩
noncomputable def laws_markBoolS_F : PsD [.inp tBs, .ro tI] → Option (RsD [.own tI] × PsO [.inp tBs, .ro tI]) := fun x => evFn laws_markBoolS_E laws_markBoolS_T Tryz.f41 laws_markBoolS_b [.inp tBs, .ro tI] [.own tI] x
@[reducible] noncomputable def laws_markBoolS_C : Ct := ⟨[.inp tBs, .ro tI], [.own tI], laws_markBoolS_F⟩
theorem laws_markBoolS_h (x : PsD [.inp tBs, .ro tI]) (y : RsD [.own tI] × PsO [.inp tBs, .ro tI]) (h : laws_markBoolS_F x = some y) : evFn laws_markBoolS_E laws_markBoolS_T Tryz.f41 laws_markBoolS_b [.inp tBs, .ro tI] [.own tI] x = some y := h
theorem laws_markBoolS_c : ∀ f c, get laws_markBoolS_E.ct f = some c → Sat Tryz.prog f c := ct_nil
theorem laws_markBoolS_S : Sat Tryz.prog 41 laws_markBoolS_C := fn_ok2 (envOk _) laws_markBoolS_c mixedOk Tryz.func41 (by kernel_rfl : Tryz.f41.body = some laws_markBoolS_b) (by kernel_rfl) (by kernel_rfl) laws_markBoolS_h
noncomputable def laws_markBoolS_Ke  (x0 : List Bool) (x1 : Int) : Ex → AS → Option (RsD [.own tI] × PsO [.inp tBs, .ro tI]) := endK laws_markBoolS_E Tryz.f41 [.inp tBs, .ro tI] [.own tI] (initL [.inp tBs, .ro tI] (x0, (x1, ())) 0).1
noncomputable def laws_markBoolS_B0 {R : Type} : AS → (Ex → AS → Option R) → Option R := fun A K => ev laws_markBoolS_E laws_markBoolS_T 0 (cA (cA (cB (cA (cB laws_markBoolS_b))))) A K
noncomputable def laws_markBoolS_K0  (x0 : List Bool) (x1 : Int) : Ex → AS → Option (RsD [.own tI] × PsO [.inp tBs, .ro tI]) := kBlk 0 (kSeq (fun A K => ev laws_markBoolS_E laws_markBoolS_T 1000 (cB (cB laws_markBoolS_b)) A K) (laws_markBoolS_Ke x0 x1))
noncomputable def laws_markBoolS_x0_0 (d0 : Int) (d1 : List Bool) : AS := ⟨[(1, .v (.one (.d true tI d0)))], [(1000000, .arr 4 tB d1)]⟩
theorem laws_markBoolS_l0 {R : Type} {K : Ex → AS → Option R} {s : laws_markBoolS_t0.D} (n : Nat) {v : Option R} (h : iterG laws_markBoolS_t0 laws_markBoolS_B0 K n s = v) (hv : ∃ r, v = some r) : loopG laws_markBoolS_t0 laws_markBoolS_B0 K s = v := loop_eq (ev_mono _ _) n h hv
theorem laws_markBoolS_main (x0 : List Bool) (x1 : Int) : laws_markBoolS_F (x0, (x1, ())) =
 loopG laws_markBoolS_t0 laws_markBoolS_B0 (laws_markBoolS_K0 x0 x1) ((x1, ((0 : Int), ())), (x0, ())) := by kernel_rfl
theorem laws_markBoolS_r0 {R : Type} (K : Ex → AS → Option R) (n : Nat) (t1 : Int) (t5 : Int) (a1000000 : List Bool) : iterG laws_markBoolS_t0 laws_markBoolS_B0 K (n + 1) ((t1, (t5, ())), (a1000000, ())) =
 brk (decide (t5 < (a1000000.length : Int)))
 (ck (decide (0 ≤ t5) && decide (t5 < a1000000.length)) (iterG laws_markBoolS_t0 laws_markBoolS_B0 K n ((IntKind.i64.wrap (t1 + (1 : Int)), (IntKind.i64.wrap (t5 + (1 : Int)), ())), (a1000000.set t5.toNat (decide (t1.tmod (3 : Int) = (0 : Int))), ()))))
 (K (.exit 0) (laws_markBoolS_x0_0 t1 a1000000)) := by kernel_rfl
theorem laws_markBoolS_e0_0 (x0 : List Bool) (x1 : Int) (d0 : Int) (d1 : List Bool) : laws_markBoolS_K0 x0 x1 (.exit 0) (laws_markBoolS_x0_0 d0 d1) =
 some ((d0, ()), (d1, ((), ()))) := by kernel_rfl
/-! laws.markNode -/
noncomputable def laws_markNode_b : Code := bd Tryz.f11
def laws_markNode_T : List (Nat × Tm) := []
noncomputable def laws_markNode_E : Env := ⟨tt0, [(20, laws_markMeta_C), (39, laws_markIntS_C), (40, laws_markSlots_C), (41, laws_markBoolS_C), (42, laws_markIntSS_C)]⟩
noncomputable def laws_markNode_F : PsD [.inp tNode, .ro tI] → Option (RsD [.own tI] × PsO [.inp tNode, .ro tI]) := fun x => evFn laws_markNode_E laws_markNode_T Tryz.f11 laws_markNode_b [.inp tNode, .ro tI] [.own tI] x
@[reducible] noncomputable def laws_markNode_C : Ct := ⟨[.inp tNode, .ro tI], [.own tI], laws_markNode_F⟩
theorem laws_markNode_h (x : PsD [.inp tNode, .ro tI]) (y : RsD [.own tI] × PsO [.inp tNode, .ro tI]) (h : laws_markNode_F x = some y) : evFn laws_markNode_E laws_markNode_T Tryz.f11 laws_markNode_b [.inp tNode, .ro tI] [.own tI] x = some y := h
theorem laws_markNode_c : ∀ f c, get laws_markNode_E.ct f = some c → Sat Tryz.prog f c := ct_cons laws_markMeta_S (ct_cons laws_markIntS_S (ct_cons laws_markSlots_S (ct_cons laws_markBoolS_S (ct_cons laws_markIntSS_S (ct_nil)))))
theorem laws_markNode_S : Sat Tryz.prog 11 laws_markNode_C := fn_ok2 (envOk _) laws_markNode_c mixedOk Tryz.func11 (by kernel_rfl : Tryz.f11.body = some laws_markNode_b) (by kernel_rfl) (by kernel_rfl) laws_markNode_h
noncomputable def laws_markNode_Ke  (x0 : Int × Bool × Bool × List Int × (List Int × List (List Int) × Bool × Bool × Bool × Int × Unit) × (List Int × List Int × Unit) × List Bool × List (List Int) × List Bool × List Int × Unit) (x1 : Int) : Ex → AS → Option (RsD [.own tI] × PsO [.inp tNode, .ro tI]) := endK laws_markNode_E Tryz.f11 [.inp tNode, .ro tI] [.own tI] (initL [.inp tNode, .ro tI] (x0, (x1, ())) 0).1
theorem laws_markNode_main (x0 : Int × Bool × Bool × List Int × (List Int × List (List Int) × Bool × Bool × Bool × Int × Unit) × (List Int × List Int × Unit) × List Bool × List (List Int) × List Bool × List Int × Unit) (x1 : Int) : laws_markNode_F (x0, (x1, ())) =
 (laws_markIntS_F (x0.2.2.2.1, (x1, ()))).bind fun y8 =>
 (laws_markMeta_F ((x0.2.2.2.2.1.1, (x0.2.2.2.2.1.2.1, (x0.2.2.2.2.1.2.2.1, (x0.2.2.2.2.1.2.2.2.1, (x0.2.2.2.2.1.2.2.2.2.1, (x0.2.2.2.2.1.2.2.2.2.2.1, ())))))), (y8.1.1, ()))).bind fun y12 =>
 (laws_markSlots_F ((x0.2.2.2.2.2.1.1, (x0.2.2.2.2.2.1.2.1, ())), (y12.1.1, ()))).bind fun y16 =>
 (laws_markBoolS_F (x0.2.2.2.2.2.2.1, (y16.1.1, ()))).bind fun y20 =>
 (laws_markIntSS_F (x0.2.2.2.2.2.2.2.1, (y20.1.1, ()))).bind fun y24 =>
 (laws_markBoolS_F (x0.2.2.2.2.2.2.2.2.1, (y24.1.1, ()))).bind fun y28 =>
 (laws_markIntS_F (x0.2.2.2.2.2.2.2.2.2.1, (y28.1.1, ()))).bind fun y32 =>
 some ((y32.1.1, ()), ((x0.1, (x0.2.1, (x0.2.2.1, (y8.2.1, ((y12.2.1.1, (y12.2.1.2.1, (x0.2.2.2.2.1.2.2.1, (x0.2.2.2.2.1.2.2.2.1, (x0.2.2.2.2.1.2.2.2.2.1, (x0.2.2.2.2.1.2.2.2.2.2.1, ())))))), ((y16.2.1.1, (y16.2.1.2.1, ())), (y20.2.1, (y24.2.1, (y28.2.1, (y32.2.1, ())))))))))), ((), ()))) := by kernel_rfl
/-! laws.heldIntS -/
noncomputable def laws_heldIntS_b : Code := bd Tryz.f43
@[reducible] def laws_heldIntS_t0 : Tm := ⟨[], [], [(0, .sc true tIs), (1, .sc true tI), (5, .sc true tI)], [], [1, 4], []⟩
def laws_heldIntS_T : List (Nat × Tm) := [(0, laws_heldIntS_t0)]
noncomputable def laws_heldIntS_E : Env := ⟨tt0, []⟩
noncomputable def laws_heldIntS_F : PsD [.ro tIs, .ro tI] → Option (RsD [.own tI] × PsO [.ro tIs, .ro tI]) := fun x => evFn laws_heldIntS_E laws_heldIntS_T Tryz.f43 laws_heldIntS_b [.ro tIs, .ro tI] [.own tI] x
@[reducible] noncomputable def laws_heldIntS_C : Ct := ⟨[.ro tIs, .ro tI], [.own tI], laws_heldIntS_F⟩
theorem laws_heldIntS_h (x : PsD [.ro tIs, .ro tI]) (y : RsD [.own tI] × PsO [.ro tIs, .ro tI]) (h : laws_heldIntS_F x = some y) : evFn laws_heldIntS_E laws_heldIntS_T Tryz.f43 laws_heldIntS_b [.ro tIs, .ro tI] [.own tI] x = some y := h
theorem laws_heldIntS_c : ∀ f c, get laws_heldIntS_E.ct f = some c → Sat Tryz.prog f c := ct_nil
theorem laws_heldIntS_S : Sat Tryz.prog 43 laws_heldIntS_C := fn_ok2 (envOk _) laws_heldIntS_c mixedOk Tryz.func43 (by kernel_rfl : Tryz.f43.body = some laws_heldIntS_b) (by kernel_rfl) (by kernel_rfl) laws_heldIntS_h
noncomputable def laws_heldIntS_Ke  (x0 : List Int) (x1 : Int) : Ex → AS → Option (RsD [.own tI] × PsO [.ro tIs, .ro tI]) := endK laws_heldIntS_E Tryz.f43 [.ro tIs, .ro tI] [.own tI] (initL [.ro tIs, .ro tI] (x0, (x1, ())) 0).1
noncomputable def laws_heldIntS_B0 {R : Type} : AS → (Ex → AS → Option R) → Option R := fun A K => ev laws_heldIntS_E laws_heldIntS_T 0 (cA (cA (cB (cA (cB laws_heldIntS_b))))) A K
noncomputable def laws_heldIntS_K0  (x0 : List Int) (x1 : Int) : Ex → AS → Option (RsD [.own tI] × PsO [.ro tIs, .ro tI]) := kBlk 0 (kSeq (fun A K => ev laws_heldIntS_E laws_heldIntS_T 1000 (cB (cB laws_heldIntS_b)) A K) (laws_heldIntS_Ke x0 x1))
noncomputable def laws_heldIntS_x0_0 (d0 : Int) (d1 : Int) : AS := ⟨[(1, .v (.one (.d true tI d0))), (4, .v (.one (.d true tI d1)))], []⟩
noncomputable def laws_heldIntS_x0_1 (d0 : Int) : AS := ⟨[(1, .v (.one (.d true tI d0)))], []⟩
theorem laws_heldIntS_l0 {R : Type} {K : Ex → AS → Option R} {s : laws_heldIntS_t0.D} (n : Nat) {v : Option R} (h : iterG laws_heldIntS_t0 laws_heldIntS_B0 K n s = v) (hv : ∃ r, v = some r) : loopG laws_heldIntS_t0 laws_heldIntS_B0 K s = v := loop_eq (ev_mono _ _) n h hv
theorem laws_heldIntS_main (x0 : List Int) (x1 : Int) : laws_heldIntS_F (x0, (x1, ())) =
 loopG laws_heldIntS_t0 laws_heldIntS_B0 (laws_heldIntS_K0 x0 x1) ((x0, (x1, ((0 : Int), ()))), ()) := by kernel_rfl
theorem laws_heldIntS_r0 {R : Type} (K : Ex → AS → Option R) (n : Nat) (t0 : List Int) (t1 : Int) (t5 : Int) : iterG laws_heldIntS_t0 laws_heldIntS_B0 K (n + 1) ((t0, (t1, (t5, ()))), ()) =
 brk (decide (t5 < (t0.length : Int)))
 (ck (decide (0 ≤ t5) && decide (t5 < t0.length)) (brk (!decide (rdD tI t0 t5 = t1))
 (K .ret (laws_heldIntS_x0_0 t1 (-1 : Int)))
 (iterG laws_heldIntS_t0 laws_heldIntS_B0 K n ((t0, (IntKind.i64.wrap (t1 + (1 : Int)), (IntKind.i64.wrap (t5 + (1 : Int)), ()))), ()))))
 (K (.exit 0) (laws_heldIntS_x0_1 t1)) := by kernel_rfl
theorem laws_heldIntS_e0_0 (x0 : List Int) (x1 : Int) (d0 : Int) (d1 : Int) : laws_heldIntS_K0 x0 x1 .ret (laws_heldIntS_x0_0 d0 d1) =
 some ((d1, ()), ((), ((), ()))) := by kernel_rfl
theorem laws_heldIntS_e0_1 (x0 : List Int) (x1 : Int) (d0 : Int) : laws_heldIntS_K0 x0 x1 (.exit 0) (laws_heldIntS_x0_1 d0) =
 some ((d0, ()), ((), ((), ()))) := by kernel_rfl
/-! laws.heldIntSS -/
noncomputable def laws_heldIntSS_b : Code := bd Tryz.f47
@[reducible] def laws_heldIntSS_t0 : Tm := ⟨[], [], [(0, .sc true tIss), (1, .sc true tI), (5, .sc true tI)], [], [1, 4], []⟩
def laws_heldIntSS_T : List (Nat × Tm) := [(0, laws_heldIntSS_t0)]
noncomputable def laws_heldIntSS_E : Env := ⟨tt0, [(43, laws_heldIntS_C)]⟩
noncomputable def laws_heldIntSS_F : PsD [.ro tIss, .ro tI] → Option (RsD [.own tI] × PsO [.ro tIss, .ro tI]) := fun x => evFn laws_heldIntSS_E laws_heldIntSS_T Tryz.f47 laws_heldIntSS_b [.ro tIss, .ro tI] [.own tI] x
@[reducible] noncomputable def laws_heldIntSS_C : Ct := ⟨[.ro tIss, .ro tI], [.own tI], laws_heldIntSS_F⟩
theorem laws_heldIntSS_h (x : PsD [.ro tIss, .ro tI]) (y : RsD [.own tI] × PsO [.ro tIss, .ro tI]) (h : laws_heldIntSS_F x = some y) : evFn laws_heldIntSS_E laws_heldIntSS_T Tryz.f47 laws_heldIntSS_b [.ro tIss, .ro tI] [.own tI] x = some y := h
theorem laws_heldIntSS_c : ∀ f c, get laws_heldIntSS_E.ct f = some c → Sat Tryz.prog f c := ct_cons laws_heldIntS_S (ct_nil)
theorem laws_heldIntSS_S : Sat Tryz.prog 47 laws_heldIntSS_C := fn_ok2 (envOk _) laws_heldIntSS_c mixedOk Tryz.func47 (by kernel_rfl : Tryz.f47.body = some laws_heldIntSS_b) (by kernel_rfl) (by kernel_rfl) laws_heldIntSS_h
noncomputable def laws_heldIntSS_Ke  (x0 : List (List Int)) (x1 : Int) : Ex → AS → Option (RsD [.own tI] × PsO [.ro tIss, .ro tI]) := endK laws_heldIntSS_E Tryz.f47 [.ro tIss, .ro tI] [.own tI] (initL [.ro tIss, .ro tI] (x0, (x1, ())) 0).1
noncomputable def laws_heldIntSS_B0 {R : Type} : AS → (Ex → AS → Option R) → Option R := fun A K => ev laws_heldIntSS_E laws_heldIntSS_T 0 (cA (cA (cB (cA (cB laws_heldIntSS_b))))) A K
noncomputable def laws_heldIntSS_K0  (x0 : List (List Int)) (x1 : Int) : Ex → AS → Option (RsD [.own tI] × PsO [.ro tIss, .ro tI]) := kBlk 0 (kSeq (fun A K => ev laws_heldIntSS_E laws_heldIntSS_T 1000 (cB (cB laws_heldIntSS_b)) A K) (laws_heldIntSS_Ke x0 x1))
noncomputable def laws_heldIntSS_x0_0 (d0 : Int) (d1 : Int) : AS := ⟨[(1, .v (.one (.d true tI d0))), (4, .v (.one (.d true tI d1)))], []⟩
noncomputable def laws_heldIntSS_x0_1 (d0 : Int) : AS := ⟨[(1, .v (.one (.d true tI d0)))], []⟩
theorem laws_heldIntSS_l0 {R : Type} {K : Ex → AS → Option R} {s : laws_heldIntSS_t0.D} (n : Nat) {v : Option R} (h : iterG laws_heldIntSS_t0 laws_heldIntSS_B0 K n s = v) (hv : ∃ r, v = some r) : loopG laws_heldIntSS_t0 laws_heldIntSS_B0 K s = v := loop_eq (ev_mono _ _) n h hv
theorem laws_heldIntSS_main (x0 : List (List Int)) (x1 : Int) : laws_heldIntSS_F (x0, (x1, ())) =
 loopG laws_heldIntSS_t0 laws_heldIntSS_B0 (laws_heldIntSS_K0 x0 x1) ((x0, (x1, ((0 : Int), ()))), ()) := by kernel_rfl
theorem laws_heldIntSS_r0 {R : Type} (K : Ex → AS → Option R) (n : Nat) (t0 : List (List Int)) (t1 : Int) (t5 : Int) : iterG laws_heldIntSS_t0 laws_heldIntSS_B0 K (n + 1) ((t0, (t1, (t5, ()))), ()) =
 brk (decide (t5 < (t0.length : Int)))
 (ck (decide (0 ≤ t5) && decide (t5 < t0.length)) ((laws_heldIntS_F (rdD tIs t0 t5, (t1, ()))).bind fun y17 =>
 brk (decide (y17.1.1 < (0 : Int)))
 (K .ret (laws_heldIntSS_x0_0 y17.1.1 (-1 : Int)))
 (iterG laws_heldIntSS_t0 laws_heldIntSS_B0 K n ((t0, (y17.1.1, (IntKind.i64.wrap (t5 + (1 : Int)), ()))), ()))))
 (K (.exit 0) (laws_heldIntSS_x0_1 t1)) := by kernel_rfl
theorem laws_heldIntSS_e0_0 (x0 : List (List Int)) (x1 : Int) (d0 : Int) (d1 : Int) : laws_heldIntSS_K0 x0 x1 .ret (laws_heldIntSS_x0_0 d0 d1) =
 some ((d1, ()), ((), ((), ()))) := by kernel_rfl
theorem laws_heldIntSS_e0_1 (x0 : List (List Int)) (x1 : Int) (d0 : Int) : laws_heldIntSS_K0 x0 x1 (.exit 0) (laws_heldIntSS_x0_1 d0) =
 some ((d0, ()), ((), ((), ()))) := by kernel_rfl
/-! laws.heldMeta -/
noncomputable def laws_heldMeta_b : Code := bd Tryz.f44
def laws_heldMeta_T : List (Nat × Tm) := []
noncomputable def laws_heldMeta_E : Env := ⟨tt0, [(43, laws_heldIntS_C), (47, laws_heldIntSS_C)]⟩
noncomputable def laws_heldMeta_F : PsD [.ro tMeta, .ro tI] → Option (RsD [.own tI] × PsO [.ro tMeta, .ro tI]) := fun x => evFn laws_heldMeta_E laws_heldMeta_T Tryz.f44 laws_heldMeta_b [.ro tMeta, .ro tI] [.own tI] x
@[reducible] noncomputable def laws_heldMeta_C : Ct := ⟨[.ro tMeta, .ro tI], [.own tI], laws_heldMeta_F⟩
theorem laws_heldMeta_h (x : PsD [.ro tMeta, .ro tI]) (y : RsD [.own tI] × PsO [.ro tMeta, .ro tI]) (h : laws_heldMeta_F x = some y) : evFn laws_heldMeta_E laws_heldMeta_T Tryz.f44 laws_heldMeta_b [.ro tMeta, .ro tI] [.own tI] x = some y := h
theorem laws_heldMeta_c : ∀ f c, get laws_heldMeta_E.ct f = some c → Sat Tryz.prog f c := ct_cons laws_heldIntS_S (ct_cons laws_heldIntSS_S (ct_nil))
theorem laws_heldMeta_S : Sat Tryz.prog 44 laws_heldMeta_C := fn_ok2 (envOk _) laws_heldMeta_c mixedOk Tryz.func44 (by kernel_rfl : Tryz.f44.body = some laws_heldMeta_b) (by kernel_rfl) (by kernel_rfl) laws_heldMeta_h
noncomputable def laws_heldMeta_Ke  (x0 : List Int × List (List Int) × Bool × Bool × Bool × Int × Unit) (x1 : Int) : Ex → AS → Option (RsD [.own tI] × PsO [.ro tMeta, .ro tI]) := endK laws_heldMeta_E Tryz.f44 [.ro tMeta, .ro tI] [.own tI] (initL [.ro tMeta, .ro tI] (x0, (x1, ())) 0).1
theorem laws_heldMeta_main (x0 : List Int × List (List Int) × Bool × Bool × Bool × Int × Unit) (x1 : Int) : laws_heldMeta_F (x0, (x1, ())) =
 (laws_heldIntS_F (x0.1, (x1, ()))).bind fun y8 =>
 brk (decide (y8.1.1 < (0 : Int)))
 (some (((-1 : Int), ()), ((), ((), ()))))
 ((laws_heldIntSS_F (x0.2.1, (y8.1.1, ()))).bind fun y14 =>
 brk (decide (y14.1.1 < (0 : Int)))
 (some (((-1 : Int), ()), ((), ((), ()))))
 (some ((y14.1.1, ()), ((), ((), ()))))) := by kernel_rfl
/-! laws.heldByteS -/
noncomputable def laws_heldByteS_b : Code := bd Tryz.f76
@[reducible] def laws_heldByteS_t0 : Tm := ⟨[], [], [(0, .sc true tYs), (1, .sc true tI), (5, .sc true tI)], [], [1, 4], []⟩
def laws_heldByteS_T : List (Nat × Tm) := [(0, laws_heldByteS_t0)]
noncomputable def laws_heldByteS_E : Env := ⟨tt0, []⟩
noncomputable def laws_heldByteS_F : PsD [.ro tYs, .ro tI] → Option (RsD [.own tI] × PsO [.ro tYs, .ro tI]) := fun x => evFn laws_heldByteS_E laws_heldByteS_T Tryz.f76 laws_heldByteS_b [.ro tYs, .ro tI] [.own tI] x
@[reducible] noncomputable def laws_heldByteS_C : Ct := ⟨[.ro tYs, .ro tI], [.own tI], laws_heldByteS_F⟩
theorem laws_heldByteS_h (x : PsD [.ro tYs, .ro tI]) (y : RsD [.own tI] × PsO [.ro tYs, .ro tI]) (h : laws_heldByteS_F x = some y) : evFn laws_heldByteS_E laws_heldByteS_T Tryz.f76 laws_heldByteS_b [.ro tYs, .ro tI] [.own tI] x = some y := h
theorem laws_heldByteS_c : ∀ f c, get laws_heldByteS_E.ct f = some c → Sat Tryz.prog f c := ct_nil
theorem laws_heldByteS_S : Sat Tryz.prog 76 laws_heldByteS_C := fn_ok2 (envOk _) laws_heldByteS_c mixedOk Tryz.func76 (by kernel_rfl : Tryz.f76.body = some laws_heldByteS_b) (by kernel_rfl) (by kernel_rfl) laws_heldByteS_h
noncomputable def laws_heldByteS_Ke  (x0 : List Int) (x1 : Int) : Ex → AS → Option (RsD [.own tI] × PsO [.ro tYs, .ro tI]) := endK laws_heldByteS_E Tryz.f76 [.ro tYs, .ro tI] [.own tI] (initL [.ro tYs, .ro tI] (x0, (x1, ())) 0).1
noncomputable def laws_heldByteS_B0 {R : Type} : AS → (Ex → AS → Option R) → Option R := fun A K => ev laws_heldByteS_E laws_heldByteS_T 0 (cA (cA (cB (cA (cB laws_heldByteS_b))))) A K
noncomputable def laws_heldByteS_K0  (x0 : List Int) (x1 : Int) : Ex → AS → Option (RsD [.own tI] × PsO [.ro tYs, .ro tI]) := kBlk 0 (kSeq (fun A K => ev laws_heldByteS_E laws_heldByteS_T 1000 (cB (cB laws_heldByteS_b)) A K) (laws_heldByteS_Ke x0 x1))
noncomputable def laws_heldByteS_x0_0 (d0 : Int) (d1 : Int) : AS := ⟨[(1, .v (.one (.d true tI d0))), (4, .v (.one (.d true tI d1)))], []⟩
noncomputable def laws_heldByteS_x0_1 (d0 : Int) : AS := ⟨[(1, .v (.one (.d true tI d0)))], []⟩
theorem laws_heldByteS_l0 {R : Type} {K : Ex → AS → Option R} {s : laws_heldByteS_t0.D} (n : Nat) {v : Option R} (h : iterG laws_heldByteS_t0 laws_heldByteS_B0 K n s = v) (hv : ∃ r, v = some r) : loopG laws_heldByteS_t0 laws_heldByteS_B0 K s = v := loop_eq (ev_mono _ _) n h hv
theorem laws_heldByteS_main (x0 : List Int) (x1 : Int) : laws_heldByteS_F (x0, (x1, ())) =
 loopG laws_heldByteS_t0 laws_heldByteS_B0 (laws_heldByteS_K0 x0 x1) ((x0, (x1, ((0 : Int), ()))), ()) := by kernel_rfl
theorem laws_heldByteS_r0 {R : Type} (K : Ex → AS → Option R) (n : Nat) (t0 : List Int) (t1 : Int) (t5 : Int) : iterG laws_heldByteS_t0 laws_heldByteS_B0 K (n + 1) ((t0, (t1, (t5, ()))), ()) =
 brk (decide (t5 < (t0.length : Int)))
 (ck (decide (0 ≤ t5) && decide (t5 < t0.length)) (brk (!decide (rdD tY t0 t5 = IntKind.u8.wrap t1))
 (K .ret (laws_heldByteS_x0_0 t1 (-1 : Int)))
 (iterG laws_heldByteS_t0 laws_heldByteS_B0 K n ((t0, (IntKind.i64.wrap (t1 + (1 : Int)), (IntKind.i64.wrap (t5 + (1 : Int)), ()))), ()))))
 (K (.exit 0) (laws_heldByteS_x0_1 t1)) := by kernel_rfl
theorem laws_heldByteS_e0_0 (x0 : List Int) (x1 : Int) (d0 : Int) (d1 : Int) : laws_heldByteS_K0 x0 x1 .ret (laws_heldByteS_x0_0 d0 d1) =
 some ((d1, ()), ((), ((), ()))) := by kernel_rfl
theorem laws_heldByteS_e0_1 (x0 : List Int) (x1 : Int) (d0 : Int) : laws_heldByteS_K0 x0 x1 (.exit 0) (laws_heldByteS_x0_1 d0) =
 some ((d0, ()), ((), ((), ()))) := by kernel_rfl
/-! laws.heldSlots -/
noncomputable def laws_heldSlots_b : Code := bd Tryz.f45
def laws_heldSlots_T : List (Nat × Tm) := []
noncomputable def laws_heldSlots_E : Env := ⟨tt0, [(76, laws_heldByteS_C)]⟩
noncomputable def laws_heldSlots_F : PsD [.ro tSlots, .ro tI] → Option (RsD [.own tI] × PsO [.ro tSlots, .ro tI]) := fun x => evFn laws_heldSlots_E laws_heldSlots_T Tryz.f45 laws_heldSlots_b [.ro tSlots, .ro tI] [.own tI] x
@[reducible] noncomputable def laws_heldSlots_C : Ct := ⟨[.ro tSlots, .ro tI], [.own tI], laws_heldSlots_F⟩
theorem laws_heldSlots_h (x : PsD [.ro tSlots, .ro tI]) (y : RsD [.own tI] × PsO [.ro tSlots, .ro tI]) (h : laws_heldSlots_F x = some y) : evFn laws_heldSlots_E laws_heldSlots_T Tryz.f45 laws_heldSlots_b [.ro tSlots, .ro tI] [.own tI] x = some y := h
theorem laws_heldSlots_c : ∀ f c, get laws_heldSlots_E.ct f = some c → Sat Tryz.prog f c := ct_cons laws_heldByteS_S (ct_nil)
theorem laws_heldSlots_S : Sat Tryz.prog 45 laws_heldSlots_C := fn_ok2 (envOk _) laws_heldSlots_c mixedOk Tryz.func45 (by kernel_rfl : Tryz.f45.body = some laws_heldSlots_b) (by kernel_rfl) (by kernel_rfl) laws_heldSlots_h
noncomputable def laws_heldSlots_Ke  (x0 : List Int × List Int × Unit) (x1 : Int) : Ex → AS → Option (RsD [.own tI] × PsO [.ro tSlots, .ro tI]) := endK laws_heldSlots_E Tryz.f45 [.ro tSlots, .ro tI] [.own tI] (initL [.ro tSlots, .ro tI] (x0, (x1, ())) 0).1
theorem laws_heldSlots_main (x0 : List Int × List Int × Unit) (x1 : Int) : laws_heldSlots_F (x0, (x1, ())) =
 (laws_heldByteS_F (x0.1, (x1, ()))).bind fun y8 =>
 brk (decide (y8.1.1 < (0 : Int)))
 (some (((-1 : Int), ()), ((), ((), ()))))
 ((laws_heldByteS_F (x0.2.1, (y8.1.1, ()))).bind fun y14 =>
 brk (decide (y14.1.1 < (0 : Int)))
 (some (((-1 : Int), ()), ((), ((), ()))))
 (some ((y14.1.1, ()), ((), ((), ()))))) := by kernel_rfl
/-! laws.heldBoolS -/
noncomputable def laws_heldBoolS_b : Code := bd Tryz.f46
@[reducible] def laws_heldBoolS_t0 : Tm := ⟨[], [], [(0, .sc true tBs), (1, .sc true tI), (5, .sc true tI)], [], [1, 4], []⟩
def laws_heldBoolS_T : List (Nat × Tm) := [(0, laws_heldBoolS_t0)]
noncomputable def laws_heldBoolS_E : Env := ⟨tt0, []⟩
noncomputable def laws_heldBoolS_F : PsD [.ro tBs, .ro tI] → Option (RsD [.own tI] × PsO [.ro tBs, .ro tI]) := fun x => evFn laws_heldBoolS_E laws_heldBoolS_T Tryz.f46 laws_heldBoolS_b [.ro tBs, .ro tI] [.own tI] x
@[reducible] noncomputable def laws_heldBoolS_C : Ct := ⟨[.ro tBs, .ro tI], [.own tI], laws_heldBoolS_F⟩
theorem laws_heldBoolS_h (x : PsD [.ro tBs, .ro tI]) (y : RsD [.own tI] × PsO [.ro tBs, .ro tI]) (h : laws_heldBoolS_F x = some y) : evFn laws_heldBoolS_E laws_heldBoolS_T Tryz.f46 laws_heldBoolS_b [.ro tBs, .ro tI] [.own tI] x = some y := h
theorem laws_heldBoolS_c : ∀ f c, get laws_heldBoolS_E.ct f = some c → Sat Tryz.prog f c := ct_nil
theorem laws_heldBoolS_S : Sat Tryz.prog 46 laws_heldBoolS_C := fn_ok2 (envOk _) laws_heldBoolS_c mixedOk Tryz.func46 (by kernel_rfl : Tryz.f46.body = some laws_heldBoolS_b) (by kernel_rfl) (by kernel_rfl) laws_heldBoolS_h
noncomputable def laws_heldBoolS_Ke  (x0 : List Bool) (x1 : Int) : Ex → AS → Option (RsD [.own tI] × PsO [.ro tBs, .ro tI]) := endK laws_heldBoolS_E Tryz.f46 [.ro tBs, .ro tI] [.own tI] (initL [.ro tBs, .ro tI] (x0, (x1, ())) 0).1
noncomputable def laws_heldBoolS_B0 {R : Type} : AS → (Ex → AS → Option R) → Option R := fun A K => ev laws_heldBoolS_E laws_heldBoolS_T 0 (cA (cA (cB (cA (cB laws_heldBoolS_b))))) A K
noncomputable def laws_heldBoolS_K0  (x0 : List Bool) (x1 : Int) : Ex → AS → Option (RsD [.own tI] × PsO [.ro tBs, .ro tI]) := kBlk 0 (kSeq (fun A K => ev laws_heldBoolS_E laws_heldBoolS_T 1000 (cB (cB laws_heldBoolS_b)) A K) (laws_heldBoolS_Ke x0 x1))
noncomputable def laws_heldBoolS_x0_0 (d0 : Int) (d1 : Int) : AS := ⟨[(1, .v (.one (.d true tI d0))), (4, .v (.one (.d true tI d1)))], []⟩
noncomputable def laws_heldBoolS_x0_1 (d0 : Int) : AS := ⟨[(1, .v (.one (.d true tI d0)))], []⟩
theorem laws_heldBoolS_l0 {R : Type} {K : Ex → AS → Option R} {s : laws_heldBoolS_t0.D} (n : Nat) {v : Option R} (h : iterG laws_heldBoolS_t0 laws_heldBoolS_B0 K n s = v) (hv : ∃ r, v = some r) : loopG laws_heldBoolS_t0 laws_heldBoolS_B0 K s = v := loop_eq (ev_mono _ _) n h hv
theorem laws_heldBoolS_main (x0 : List Bool) (x1 : Int) : laws_heldBoolS_F (x0, (x1, ())) =
 loopG laws_heldBoolS_t0 laws_heldBoolS_B0 (laws_heldBoolS_K0 x0 x1) ((x0, (x1, ((0 : Int), ()))), ()) := by kernel_rfl
theorem laws_heldBoolS_r0 {R : Type} (K : Ex → AS → Option R) (n : Nat) (t0 : List Bool) (t1 : Int) (t5 : Int) : iterG laws_heldBoolS_t0 laws_heldBoolS_B0 K (n + 1) ((t0, (t1, (t5, ()))), ()) =
 brk (decide (t5 < (t0.length : Int)))
 (ck (decide (0 ≤ t5) && decide (t5 < t0.length)) (brk (!((rdD tB t0 t5) == (decide (t1.tmod (3 : Int) = (0 : Int)))))
 (K .ret (laws_heldBoolS_x0_0 t1 (-1 : Int)))
 (iterG laws_heldBoolS_t0 laws_heldBoolS_B0 K n ((t0, (IntKind.i64.wrap (t1 + (1 : Int)), (IntKind.i64.wrap (t5 + (1 : Int)), ()))), ()))))
 (K (.exit 0) (laws_heldBoolS_x0_1 t1)) := by kernel_rfl
theorem laws_heldBoolS_e0_0 (x0 : List Bool) (x1 : Int) (d0 : Int) (d1 : Int) : laws_heldBoolS_K0 x0 x1 .ret (laws_heldBoolS_x0_0 d0 d1) =
 some ((d1, ()), ((), ((), ()))) := by kernel_rfl
theorem laws_heldBoolS_e0_1 (x0 : List Bool) (x1 : Int) (d0 : Int) : laws_heldBoolS_K0 x0 x1 (.exit 0) (laws_heldBoolS_x0_1 d0) =
 some ((d0, ()), ((), ((), ()))) := by kernel_rfl
/-! laws.heldNode -/
noncomputable def laws_heldNode_b : Code := bd Tryz.f12
def laws_heldNode_T : List (Nat × Tm) := []
noncomputable def laws_heldNode_E : Env := ⟨tt0, [(43, laws_heldIntS_C), (44, laws_heldMeta_C), (45, laws_heldSlots_C), (46, laws_heldBoolS_C), (47, laws_heldIntSS_C)]⟩
noncomputable def laws_heldNode_F : PsD [.ro tNode, .ro tI] → Option (RsD [.own tI] × PsO [.ro tNode, .ro tI]) := fun x => evFn laws_heldNode_E laws_heldNode_T Tryz.f12 laws_heldNode_b [.ro tNode, .ro tI] [.own tI] x
@[reducible] noncomputable def laws_heldNode_C : Ct := ⟨[.ro tNode, .ro tI], [.own tI], laws_heldNode_F⟩
theorem laws_heldNode_h (x : PsD [.ro tNode, .ro tI]) (y : RsD [.own tI] × PsO [.ro tNode, .ro tI]) (h : laws_heldNode_F x = some y) : evFn laws_heldNode_E laws_heldNode_T Tryz.f12 laws_heldNode_b [.ro tNode, .ro tI] [.own tI] x = some y := h
theorem laws_heldNode_c : ∀ f c, get laws_heldNode_E.ct f = some c → Sat Tryz.prog f c := ct_cons laws_heldIntS_S (ct_cons laws_heldMeta_S (ct_cons laws_heldSlots_S (ct_cons laws_heldBoolS_S (ct_cons laws_heldIntSS_S (ct_nil)))))
theorem laws_heldNode_S : Sat Tryz.prog 12 laws_heldNode_C := fn_ok2 (envOk _) laws_heldNode_c mixedOk Tryz.func12 (by kernel_rfl : Tryz.f12.body = some laws_heldNode_b) (by kernel_rfl) (by kernel_rfl) laws_heldNode_h
noncomputable def laws_heldNode_Ke  (x0 : Int × Bool × Bool × List Int × (List Int × List (List Int) × Bool × Bool × Bool × Int × Unit) × (List Int × List Int × Unit) × List Bool × List (List Int) × List Bool × List Int × Unit) (x1 : Int) : Ex → AS → Option (RsD [.own tI] × PsO [.ro tNode, .ro tI]) := endK laws_heldNode_E Tryz.f12 [.ro tNode, .ro tI] [.own tI] (initL [.ro tNode, .ro tI] (x0, (x1, ())) 0).1
theorem laws_heldNode_main (x0 : Int × Bool × Bool × List Int × (List Int × List (List Int) × Bool × Bool × Bool × Int × Unit) × (List Int × List Int × Unit) × List Bool × List (List Int) × List Bool × List Int × Unit) (x1 : Int) : laws_heldNode_F (x0, (x1, ())) =
 (laws_heldIntS_F (x0.2.2.2.1, (x1, ()))).bind fun y8 =>
 brk (decide (y8.1.1 < (0 : Int)))
 (some (((-1 : Int), ()), ((), ((), ()))))
 ((laws_heldMeta_F ((x0.2.2.2.2.1.1, (x0.2.2.2.2.1.2.1, (x0.2.2.2.2.1.2.2.1, (x0.2.2.2.2.1.2.2.2.1, (x0.2.2.2.2.1.2.2.2.2.1, (x0.2.2.2.2.1.2.2.2.2.2.1, ())))))), (y8.1.1, ()))).bind fun y14 =>
 brk (decide (y14.1.1 < (0 : Int)))
 (some (((-1 : Int), ()), ((), ((), ()))))
 ((laws_heldSlots_F ((x0.2.2.2.2.2.1.1, (x0.2.2.2.2.2.1.2.1, ())), (y14.1.1, ()))).bind fun y20 =>
 brk (decide (y20.1.1 < (0 : Int)))
 (some (((-1 : Int), ()), ((), ((), ()))))
 ((laws_heldBoolS_F (x0.2.2.2.2.2.2.1, (y20.1.1, ()))).bind fun y26 =>
 brk (decide (y26.1.1 < (0 : Int)))
 (some (((-1 : Int), ()), ((), ((), ()))))
 ((laws_heldIntSS_F (x0.2.2.2.2.2.2.2.1, (y26.1.1, ()))).bind fun y32 =>
 brk (decide (y32.1.1 < (0 : Int)))
 (some (((-1 : Int), ()), ((), ((), ()))))
 ((laws_heldBoolS_F (x0.2.2.2.2.2.2.2.2.1, (y32.1.1, ()))).bind fun y38 =>
 brk (decide (y38.1.1 < (0 : Int)))
 (some (((-1 : Int), ()), ((), ((), ()))))
 ((laws_heldIntS_F (x0.2.2.2.2.2.2.2.2.2.1, (y38.1.1, ()))).bind fun y44 =>
 brk (decide (y44.1.1 < (0 : Int)))
 (some (((-1 : Int), ()), ((), ((), ()))))
 (some ((y44.1.1, ()), ((), ((), ())))))))))) := by kernel_rfl
/-! spec.l5Copy -/
noncomputable def spec_l5Copy_b : Code := bd Tryz.f52
@[reducible] def spec_l5Copy_t0 : Tm := ⟨[], [(48, 1, 960000)], [(1, .ptr 16 0), (2, .ptr 32 0), (3, .ptr 48 0), (4, .sc true tI)], [(16, .box [.sc true tIs, .sc true tIss, .sc true tB, .sc true tB, .sc true tB, .sc true tI]), (32, .box [.nil, .nil, .sc true tB, .sc true tB, .sc true tB, .sc true tI]), (48, .box [.own 144, .own 960000, .sc true tB, .sc true tB, .sc true tB, .sc true tI]), (144, .arr 3 tI), (960000, .arr 22 tIs)], [2, 3], [32, 48, 144, 960000]⟩
def spec_l5Copy_T : List (Nat × Tm) := [(0, spec_l5Copy_t0)]
noncomputable def spec_l5Copy_E : Env := ⟨tt0, []⟩
noncomputable def spec_l5Copy_F : PsD [.ro tMeta] → Option (RsD [.own tMeta] × PsO [.ro tMeta]) := fun x => evFn spec_l5Copy_E spec_l5Copy_T Tryz.f52 spec_l5Copy_b [.ro tMeta] [.own tMeta] x
@[reducible] noncomputable def spec_l5Copy_C : Ct := ⟨[.ro tMeta], [.own tMeta], spec_l5Copy_F⟩
theorem spec_l5Copy_h (x : PsD [.ro tMeta]) (y : RsD [.own tMeta] × PsO [.ro tMeta]) (h : spec_l5Copy_F x = some y) : evFn spec_l5Copy_E spec_l5Copy_T Tryz.f52 spec_l5Copy_b [.ro tMeta] [.own tMeta] x = some y := h
theorem spec_l5Copy_c : ∀ f c, get spec_l5Copy_E.ct f = some c → Sat Tryz.prog f c := ct_nil
theorem spec_l5Copy_S : Sat Tryz.prog 52 spec_l5Copy_C := fn_ok2 (envOk _) spec_l5Copy_c mixedOk Tryz.func52 (by kernel_rfl : Tryz.f52.body = some spec_l5Copy_b) (by kernel_rfl) (by kernel_rfl) spec_l5Copy_h
noncomputable def spec_l5Copy_Ke  (x0 : List Int × List (List Int) × Bool × Bool × Bool × Int × Unit) : Ex → AS → Option (RsD [.own tMeta] × PsO [.ro tMeta]) := endK spec_l5Copy_E Tryz.f52 [.ro tMeta] [.own tMeta] (initL [.ro tMeta] (x0, ()) 0).1
noncomputable def spec_l5Copy_B0 {R : Type} : AS → (Ex → AS → Option R) → Option R := fun A K => ev spec_l5Copy_E spec_l5Copy_T 0 (cA (cA (cB (cA (cB (cB (cB (cB spec_l5Copy_b)))))))) A K
noncomputable def spec_l5Copy_K0  (x0 : List Int × List (List Int) × Bool × Bool × Bool × Int × Unit) : Ex → AS → Option (RsD [.own tMeta] × PsO [.ro tMeta]) := kBlk 0 (kSeq (fun A K => ev spec_l5Copy_E spec_l5Copy_T 1000 (cB (cB (cB (cB (cB spec_l5Copy_b))))) A K) (spec_l5Copy_Ke x0))
noncomputable def spec_l5Copy_x0_0 (d0 : Bool) (d1 : Bool) (d2 : Bool) (d3 : Int) (d4 : Bool) (d5 : Bool) (d6 : Bool) (d7 : Int) (d8 : List Int) (d9 : List (List Int)) : AS := ⟨[(2, .v (.one (.bptr 32 0))), (3, .v (.one (.bptr 48 0)))], [(32, .box [.nil, .nil, .d true tB d0, .d true tB d1, .d true tB d2, .d true tI d3]), (48, .box [.own 144, .own 960000, .d true tB d4, .d true tB d5, .d true tB d6, .d true tI d7]), (144, .arr 3 tI d8), (960000, .arr 22 tIs d9)]⟩
theorem spec_l5Copy_l0 {R : Type} {K : Ex → AS → Option R} {s : spec_l5Copy_t0.D} (n : Nat) {v : Option R} (h : iterG spec_l5Copy_t0 spec_l5Copy_B0 K n s = v) (hv : ∃ r, v = some r) : loopG spec_l5Copy_t0 spec_l5Copy_B0 K s = v := loop_eq (ev_mono _ _) n h hv
theorem spec_l5Copy_main (x0 : List Int × List (List Int) × Bool × Bool × Bool × Int × Unit) : spec_l5Copy_F (x0, ()) =
 ck (decide ((([] : List Int).length + x0.1.length) * 8 ≤ big47)) (loopG spec_l5Copy_t0 spec_l5Copy_B0 (spec_l5Copy_K0 x0) (((0 : Int), ()), ((x0.1, (x0.2.1, (x0.2.2.1, (x0.2.2.2.1, (x0.2.2.2.2.1, (x0.2.2.2.2.2.1, ())))))), ((false, (false, (false, ((0 : Int), ())))), ((x0.2.2.1, (x0.2.2.2.1, (x0.2.2.2.2.1, (x0.2.2.2.2.2.1, ())))), (([] : List Int) ++ x0.1, (([] : List (List Int)), ()))))))) := by kernel_rfl
theorem spec_l5Copy_r0 {R : Type} (K : Ex → AS → Option R) (n : Nat) (t4 : Int) (b16_0 : List Int) (b16_1 : List (List Int)) (b16_2 : Bool) (b16_3 : Bool) (b16_4 : Bool) (b16_5 : Int) (b32_2 : Bool) (b32_3 : Bool) (b32_4 : Bool) (b32_5 : Int) (b48_2 : Bool) (b48_3 : Bool) (b48_4 : Bool) (b48_5 : Int) (a144 : List Int) (a960000 : List (List Int)) : iterG spec_l5Copy_t0 spec_l5Copy_B0 K (n + 1) ((t4, ()), ((b16_0, (b16_1, (b16_2, (b16_3, (b16_4, (b16_5, ())))))), ((b32_2, (b32_3, (b32_4, (b32_5, ())))), ((b48_2, (b48_3, (b48_4, (b48_5, ())))), (a144, (a960000, ())))))) =
 brk (decide (t4 < (b16_1.length : Int)))
 (ck (decide (0 ≤ t4) && decide (t4 < b16_1.length)) (ck (decide ((([] : List Int).length + (rdD tIs b16_1 t4).length) * 8 ≤ big47)) (ck (decide ((a960000.length + ([([] : List Int) ++ (rdD tIs b16_1 t4)]).length) * 24 ≤ big47)) (iterG spec_l5Copy_t0 spec_l5Copy_B0 K n ((IntKind.i64.wrap (t4 + (1 : Int)), ()), ((b16_0, (b16_1, (b16_2, (b16_3, (b16_4, (b16_5, ())))))), ((b32_2, (b32_3, (b32_4, (b32_5, ())))), ((b48_2, (b48_3, (b48_4, (b48_5, ())))), (a144, (a960000 ++ ([([] : List Int) ++ (rdD tIs b16_1 t4)]), ()))))))))))
 (K (.exit 0) (spec_l5Copy_x0_0 b32_2 b32_3 b32_4 b32_5 b48_2 b48_3 b48_4 b48_5 a144 a960000)) := by kernel_rfl
theorem spec_l5Copy_e0_0 (x0 : List Int × List (List Int) × Bool × Bool × Bool × Int × Unit) (d0 : Bool) (d1 : Bool) (d2 : Bool) (d3 : Int) (d4 : Bool) (d5 : Bool) (d6 : Bool) (d7 : Int) (d8 : List Int) (d9 : List (List Int)) : spec_l5Copy_K0 x0 (.exit 0) (spec_l5Copy_x0_0 d0 d1 d2 d3 d4 d5 d6 d7 d8 d9) =
 some (((d8, (d9, (d4, (d5, (d6, (d7, ())))))), ()), ((), ())) := by kernel_rfl
/-! spec.l6Copy -/
noncomputable def spec_l6Copy_b : Code := bd Tryz.f53
def spec_l6Copy_T : List (Nat × Tm) := []
noncomputable def spec_l6Copy_E : Env := ⟨tt0, []⟩
noncomputable def spec_l6Copy_F : PsD [.ro tSlots] → Option (RsD [.own tSlots] × PsO [.ro tSlots]) := fun x => evFn spec_l6Copy_E spec_l6Copy_T Tryz.f53 spec_l6Copy_b [.ro tSlots] [.own tSlots] x
@[reducible] noncomputable def spec_l6Copy_C : Ct := ⟨[.ro tSlots], [.own tSlots], spec_l6Copy_F⟩
theorem spec_l6Copy_h (x : PsD [.ro tSlots]) (y : RsD [.own tSlots] × PsO [.ro tSlots]) (h : spec_l6Copy_F x = some y) : evFn spec_l6Copy_E spec_l6Copy_T Tryz.f53 spec_l6Copy_b [.ro tSlots] [.own tSlots] x = some y := h
theorem spec_l6Copy_c : ∀ f c, get spec_l6Copy_E.ct f = some c → Sat Tryz.prog f c := ct_nil
theorem spec_l6Copy_S : Sat Tryz.prog 53 spec_l6Copy_C := fn_ok2 (envOk _) spec_l6Copy_c mixedOk Tryz.func53 (by kernel_rfl : Tryz.f53.body = some spec_l6Copy_b) (by kernel_rfl) (by kernel_rfl) spec_l6Copy_h
noncomputable def spec_l6Copy_Ke  (x0 : List Int × List Int × Unit) : Ex → AS → Option (RsD [.own tSlots] × PsO [.ro tSlots]) := endK spec_l6Copy_E Tryz.f53 [.ro tSlots] [.own tSlots] (initL [.ro tSlots] (x0, ()) 0).1
theorem spec_l6Copy_main (x0 : List Int × List Int × Unit) : spec_l6Copy_F (x0, ()) =
 both (both (ck (decide ((([] : List Int).length + x0.1.length) * 1 ≤ big47)) (ck (decide ((([] : List Int).length + x0.2.1.length) * 1 ≤ big47)) (some (((([] : List Int) ++ x0.1, (([] : List Int) ++ x0.2.1, ())), ()), ((), ())))))
 (ck (decide ((([] : List Int).length + x0.1.length) * 1 ≤ big47)) (ck (decide ((([] : List Int).length + x0.2.1.length) * 1 ≤ big47)) (some (((([] : List Int) ++ x0.1, (([] : List Int) ++ x0.2.1, ())), ()), ((), ()))))))
 (ck (decide ((([] : List Int).length + x0.1.length) * 1 ≤ big47)) (ck (decide ((([] : List Int).length + x0.2.1.length) * 1 ≤ big47)) (some (((([] : List Int) ++ x0.1, (([] : List Int) ++ x0.2.1, ())), ()), ((), ()))))) := by kernel_rfl
/-! spec.l8Copy -/
noncomputable def spec_l8Copy_b : Code := bd Tryz.f25
@[reducible] def spec_l8Copy_t0 : Tm := ⟨[], [(48, 13, 960000)], [(1, .ptr 16 0), (2, .ptr 32 0), (3, .ptr 48 0), (4, .sc true tI)], [(16, .box [.sc true tI, .sc true tB, .sc true tB, .sc true tIs, .sc true tIs, .sc true tIss, .sc true tB, .sc true tB, .sc true tB, .sc true tI, .sc true tYs, .sc true tYs, .sc true tBs, .sc true tIss, .sc true tBs, .sc true tIs]), (32, .box [.sc true tI, .sc true tB, .sc true tB, .nil, .nil, .nil, .sc true tB, .sc true tB, .sc true tB, .sc true tI, .nil, .nil, .nil, .nil, .nil, .nil]), (48, .box [.sc true tI, .sc true tB, .sc true tB, .own 144, .own 208, .own 209, .sc true tB, .sc true tB, .sc true tB, .sc true tI, .own 272, .own 273, .own 352, .own 960000, .own 432, .own 512]), (144, .arr 3 tI), (208, .arr 3 tI), (209, .arr 22 tIs), (272, .arr 5 tY), (273, .arr 5 tY), (352, .arr 4 tB), (432, .arr 4 tB), (512, .arr 3 tI), (960000, .arr 22 tIs)], [2, 3], [32, 48, 144, 208, 209, 272, 273, 352, 432, 512, 960000]⟩
def spec_l8Copy_T : List (Nat × Tm) := [(0, spec_l8Copy_t0)]
noncomputable def spec_l8Copy_E : Env := ⟨tt0, [(52, spec_l5Copy_C), (53, spec_l6Copy_C)]⟩
noncomputable def spec_l8Copy_F : PsD [.ro tNode] → Option (RsD [.own tNode] × PsO [.ro tNode]) := fun x => evFn spec_l8Copy_E spec_l8Copy_T Tryz.f25 spec_l8Copy_b [.ro tNode] [.own tNode] x
@[reducible] noncomputable def spec_l8Copy_C : Ct := ⟨[.ro tNode], [.own tNode], spec_l8Copy_F⟩
theorem spec_l8Copy_h (x : PsD [.ro tNode]) (y : RsD [.own tNode] × PsO [.ro tNode]) (h : spec_l8Copy_F x = some y) : evFn spec_l8Copy_E spec_l8Copy_T Tryz.f25 spec_l8Copy_b [.ro tNode] [.own tNode] x = some y := h
theorem spec_l8Copy_c : ∀ f c, get spec_l8Copy_E.ct f = some c → Sat Tryz.prog f c := ct_cons spec_l5Copy_S (ct_cons spec_l6Copy_S (ct_nil))
theorem spec_l8Copy_S : Sat Tryz.prog 25 spec_l8Copy_C := fn_ok2 (envOk _) spec_l8Copy_c mixedOk Tryz.func25 (by kernel_rfl : Tryz.f25.body = some spec_l8Copy_b) (by kernel_rfl) (by kernel_rfl) spec_l8Copy_h
noncomputable def spec_l8Copy_Ke  (x0 : Int × Bool × Bool × List Int × (List Int × List (List Int) × Bool × Bool × Bool × Int × Unit) × (List Int × List Int × Unit) × List Bool × List (List Int) × List Bool × List Int × Unit) : Ex → AS → Option (RsD [.own tNode] × PsO [.ro tNode]) := endK spec_l8Copy_E Tryz.f25 [.ro tNode] [.own tNode] (initL [.ro tNode] (x0, ()) 0).1
noncomputable def spec_l8Copy_B0 {R : Type} : AS → (Ex → AS → Option R) → Option R := fun A K => ev spec_l8Copy_E spec_l8Copy_T 0 (cA (cA (cB (cA (cB (cB (cB (cB (cB (cB (cB (cB (cB spec_l8Copy_b))))))))))))) A K
noncomputable def spec_l8Copy_K0  (x0 : Int × Bool × Bool × List Int × (List Int × List (List Int) × Bool × Bool × Bool × Int × Unit) × (List Int × List Int × Unit) × List Bool × List (List Int) × List Bool × List Int × Unit) : Ex → AS → Option (RsD [.own tNode] × PsO [.ro tNode]) := kBlk 0 (kSeq (fun A K => ev spec_l8Copy_E spec_l8Copy_T 1000 (cB (cB (cB (cB (cB (cB (cB (cB (cB (cB spec_l8Copy_b)))))))))) A K) (spec_l8Copy_Ke x0))
noncomputable def spec_l8Copy_x0_0 (d0 : Int) (d1 : Bool) (d2 : Bool) (d3 : Bool) (d4 : Bool) (d5 : Bool) (d6 : Int) (d7 : Int) (d8 : Bool) (d9 : Bool) (d10 : Bool) (d11 : Bool) (d12 : Bool) (d13 : Int) (d14 : List Int) (d15 : List Int) (d16 : List (List Int)) (d17 : List Int) (d18 : List Int) (d19 : List Bool) (d20 : List Bool) (d21 : List Int) (d22 : List (List Int)) : AS := ⟨[(2, .v (.one (.bptr 32 0))), (3, .v (.one (.bptr 48 0)))], [(32, .box [.d true tI d0, .d true tB d1, .d true tB d2, .nil, .nil, .nil, .d true tB d3, .d true tB d4, .d true tB d5, .d true tI d6, .nil, .nil, .nil, .nil, .nil, .nil]), (48, .box [.d true tI d7, .d true tB d8, .d true tB d9, .own 144, .own 208, .own 209, .d true tB d10, .d true tB d11, .d true tB d12, .d true tI d13, .own 272, .own 273, .own 352, .own 960000, .own 432, .own 512]), (144, .arr 3 tI d14), (208, .arr 3 tI d15), (209, .arr 22 tIs d16), (272, .arr 5 tY d17), (273, .arr 5 tY d18), (352, .arr 4 tB d19), (432, .arr 4 tB d20), (512, .arr 3 tI d21), (960000, .arr 22 tIs d22)]⟩
theorem spec_l8Copy_l0 {R : Type} {K : Ex → AS → Option R} {s : spec_l8Copy_t0.D} (n : Nat) {v : Option R} (h : iterG spec_l8Copy_t0 spec_l8Copy_B0 K n s = v) (hv : ∃ r, v = some r) : loopG spec_l8Copy_t0 spec_l8Copy_B0 K s = v := loop_eq (ev_mono _ _) n h hv
theorem spec_l8Copy_main (x0 : Int × Bool × Bool × List Int × (List Int × List (List Int) × Bool × Bool × Bool × Int × Unit) × (List Int × List Int × Unit) × List Bool × List (List Int) × List Bool × List Int × Unit) : spec_l8Copy_F (x0, ()) =
 ck (decide ((([] : List Int).length + x0.2.2.2.1.length) * 8 ≤ big47)) ((spec_l5Copy_F ((x0.2.2.2.2.1.1, (x0.2.2.2.2.1.2.1, (x0.2.2.2.2.1.2.2.1, (x0.2.2.2.2.1.2.2.2.1, (x0.2.2.2.2.1.2.2.2.2.1, (x0.2.2.2.2.1.2.2.2.2.2.1, ())))))), ())).bind fun y13 =>
 (spec_l6Copy_F ((x0.2.2.2.2.2.1.1, (x0.2.2.2.2.2.1.2.1, ())), ())).bind fun y17 =>
 ck (decide ((([] : List Bool).length + x0.2.2.2.2.2.2.1.length) * 1 ≤ big47)) (ck (decide ((([] : List Bool).length + x0.2.2.2.2.2.2.2.2.1.length) * 1 ≤ big47)) (ck (decide ((([] : List Int).length + x0.2.2.2.2.2.2.2.2.2.1.length) * 8 ≤ big47)) (loopG spec_l8Copy_t0 spec_l8Copy_B0 (spec_l8Copy_K0 x0) (((0 : Int), ()), ((x0.1, (x0.2.1, (x0.2.2.1, (x0.2.2.2.1, (x0.2.2.2.2.1.1, (x0.2.2.2.2.1.2.1, (x0.2.2.2.2.1.2.2.1, (x0.2.2.2.2.1.2.2.2.1, (x0.2.2.2.2.1.2.2.2.2.1, (x0.2.2.2.2.1.2.2.2.2.2.1, (x0.2.2.2.2.2.1.1, (x0.2.2.2.2.2.1.2.1, (x0.2.2.2.2.2.2.1, (x0.2.2.2.2.2.2.2.1, (x0.2.2.2.2.2.2.2.2.1, (x0.2.2.2.2.2.2.2.2.2.1, ())))))))))))))))), (((0 : Int), (false, (false, (false, (false, (false, ((0 : Int), ()))))))), ((x0.1, (x0.2.1, (x0.2.2.1, (y13.1.1.2.2.1, (y13.1.1.2.2.2.1, (y13.1.1.2.2.2.2.1, (y13.1.1.2.2.2.2.2.1, ()))))))), (([] : List Int) ++ x0.2.2.2.1, (y13.1.1.1, (y13.1.1.2.1, (y17.1.1.1, (y17.1.1.2.1, (([] : List Bool) ++ x0.2.2.2.2.2.2.1, (([] : List Bool) ++ x0.2.2.2.2.2.2.2.2.1, (([] : List Int) ++ x0.2.2.2.2.2.2.2.2.2.1, (([] : List (List Int)), ()))))))))))))))))) := by kernel_rfl
theorem spec_l8Copy_r0 {R : Type} (K : Ex → AS → Option R) (n : Nat) (t4 : Int) (b16_0 : Int) (b16_1 : Bool) (b16_2 : Bool) (b16_3 : List Int) (b16_4 : List Int) (b16_5 : List (List Int)) (b16_6 : Bool) (b16_7 : Bool) (b16_8 : Bool) (b16_9 : Int) (b16_10 : List Int) (b16_11 : List Int) (b16_12 : List Bool) (b16_13 : List (List Int)) (b16_14 : List Bool) (b16_15 : List Int) (b32_0 : Int) (b32_1 : Bool) (b32_2 : Bool) (b32_6 : Bool) (b32_7 : Bool) (b32_8 : Bool) (b32_9 : Int) (b48_0 : Int) (b48_1 : Bool) (b48_2 : Bool) (b48_6 : Bool) (b48_7 : Bool) (b48_8 : Bool) (b48_9 : Int) (a144 : List Int) (a208 : List Int) (a209 : List (List Int)) (a272 : List Int) (a273 : List Int) (a352 : List Bool) (a432 : List Bool) (a512 : List Int) (a960000 : List (List Int)) : iterG spec_l8Copy_t0 spec_l8Copy_B0 K (n + 1) ((t4, ()), ((b16_0, (b16_1, (b16_2, (b16_3, (b16_4, (b16_5, (b16_6, (b16_7, (b16_8, (b16_9, (b16_10, (b16_11, (b16_12, (b16_13, (b16_14, (b16_15, ())))))))))))))))), ((b32_0, (b32_1, (b32_2, (b32_6, (b32_7, (b32_8, (b32_9, ()))))))), ((b48_0, (b48_1, (b48_2, (b48_6, (b48_7, (b48_8, (b48_9, ()))))))), (a144, (a208, (a209, (a272, (a273, (a352, (a432, (a512, (a960000, ()))))))))))))) =
 brk (decide (t4 < (b16_13.length : Int)))
 (ck (decide (0 ≤ t4) && decide (t4 < b16_13.length)) (ck (decide ((([] : List Int).length + (rdD tIs b16_13 t4).length) * 8 ≤ big47)) (ck (decide ((a960000.length + ([([] : List Int) ++ (rdD tIs b16_13 t4)]).length) * 24 ≤ big47)) (iterG spec_l8Copy_t0 spec_l8Copy_B0 K n ((IntKind.i64.wrap (t4 + (1 : Int)), ()), ((b16_0, (b16_1, (b16_2, (b16_3, (b16_4, (b16_5, (b16_6, (b16_7, (b16_8, (b16_9, (b16_10, (b16_11, (b16_12, (b16_13, (b16_14, (b16_15, ())))))))))))))))), ((b32_0, (b32_1, (b32_2, (b32_6, (b32_7, (b32_8, (b32_9, ()))))))), ((b48_0, (b48_1, (b48_2, (b48_6, (b48_7, (b48_8, (b48_9, ()))))))), (a144, (a208, (a209, (a272, (a273, (a352, (a432, (a512, (a960000 ++ ([([] : List Int) ++ (rdD tIs b16_13 t4)]), ())))))))))))))))))
 (K (.exit 0) (spec_l8Copy_x0_0 b32_0 b32_1 b32_2 b32_6 b32_7 b32_8 b32_9 b48_0 b48_1 b48_2 b48_6 b48_7 b48_8 b48_9 a144 a208 a209 a272 a273 a352 a432 a512 a960000)) := by kernel_rfl
theorem spec_l8Copy_e0_0 (x0 : Int × Bool × Bool × List Int × (List Int × List (List Int) × Bool × Bool × Bool × Int × Unit) × (List Int × List Int × Unit) × List Bool × List (List Int) × List Bool × List Int × Unit) (d0 : Int) (d1 : Bool) (d2 : Bool) (d3 : Bool) (d4 : Bool) (d5 : Bool) (d6 : Int) (d7 : Int) (d8 : Bool) (d9 : Bool) (d10 : Bool) (d11 : Bool) (d12 : Bool) (d13 : Int) (d14 : List Int) (d15 : List Int) (d16 : List (List Int)) (d17 : List Int) (d18 : List Int) (d19 : List Bool) (d20 : List Bool) (d21 : List Int) (d22 : List (List Int)) : spec_l8Copy_K0 x0 (.exit 0) (spec_l8Copy_x0_0 d0 d1 d2 d3 d4 d5 d6 d7 d8 d9 d10 d11 d12 d13 d14 d15 d16 d17 d18 d19 d20 d21 d22) =
 some (((d7, (d8, (d9, (d14, ((d15, (d16, (d10, (d11, (d12, (d13, ())))))), ((d17, (d18, ())), (d19, (d22, (d20, (d21, ())))))))))), ()), ((), ())) := by kernel_rfl
/-! spec.l1In -/
noncomputable def spec_l1In_b : Code := bd Tryz.f54
def spec_l1In_T : List (Nat × Tm) := []
noncomputable def spec_l1In_E : Env := ⟨tt0, []⟩
noncomputable def spec_l1In_F : PsD [.ro tI, .ro tI, .ro tI] → Option (RsD [.own tB] × PsO [.ro tI, .ro tI, .ro tI]) := fun x => evFn spec_l1In_E spec_l1In_T Tryz.f54 spec_l1In_b [.ro tI, .ro tI, .ro tI] [.own tB] x
@[reducible] noncomputable def spec_l1In_C : Ct := ⟨[.ro tI, .ro tI, .ro tI], [.own tB], spec_l1In_F⟩
theorem spec_l1In_h (x : PsD [.ro tI, .ro tI, .ro tI]) (y : RsD [.own tB] × PsO [.ro tI, .ro tI, .ro tI]) (h : spec_l1In_F x = some y) : evFn spec_l1In_E spec_l1In_T Tryz.f54 spec_l1In_b [.ro tI, .ro tI, .ro tI] [.own tB] x = some y := h
theorem spec_l1In_c : ∀ f c, get spec_l1In_E.ct f = some c → Sat Tryz.prog f c := ct_nil
theorem spec_l1In_S : Sat Tryz.prog 54 spec_l1In_C := fn_ok2 (envOk _) spec_l1In_c mixedOk Tryz.func54 (by kernel_rfl : Tryz.f54.body = some spec_l1In_b) (by kernel_rfl) (by kernel_rfl) spec_l1In_h
noncomputable def spec_l1In_Ke  (x0 : Int) (x1 : Int) (x2 : Int) : Ex → AS → Option (RsD [.own tB] × PsO [.ro tI, .ro tI, .ro tI]) := endK spec_l1In_E Tryz.f54 [.ro tI, .ro tI, .ro tI] [.own tB] (initL [.ro tI, .ro tI, .ro tI] (x0, (x1, (x2, ()))) 0).1
theorem spec_l1In_main (x0 : Int) (x1 : Int) (x2 : Int) : spec_l1In_F (x0, (x1, (x2, ()))) =
 brk (decide (x1 ≤ x0))
 (some ((decide (x0 ≤ x2), ()), ((), ((), ((), ())))))
 (some ((false, ()), ((), ((), ((), ()))))) := by kernel_rfl
/-! spec.GetNum -/
noncomputable def spec_GetNum_b : Code := bd Tryz.f109
@[reducible] def spec_GetNum_t0 : Tm := ⟨[], [], [(0, .sc true tYs), (1, .sc true tI), (7, .sc true tI), (8, .sc true tI)], [], [4, 5, 6], []⟩
def spec_GetNum_T : List (Nat × Tm) := [(0, spec_GetNum_t0)]
noncomputable def spec_GetNum_E : Env := ⟨tt0, []⟩
noncomputable def spec_GetNum_F : PsD [.ro tYs, .ro tI] → Option (RsD [.own tI, .own tI, .own tB] × PsO [.ro tYs, .ro tI]) := fun x => evFn spec_GetNum_E spec_GetNum_T Tryz.f109 spec_GetNum_b [.ro tYs, .ro tI] [.own tI, .own tI, .own tB] x
@[reducible] noncomputable def spec_GetNum_C : Ct := ⟨[.ro tYs, .ro tI], [.own tI, .own tI, .own tB], spec_GetNum_F⟩
theorem spec_GetNum_h (x : PsD [.ro tYs, .ro tI]) (y : RsD [.own tI, .own tI, .own tB] × PsO [.ro tYs, .ro tI]) (h : spec_GetNum_F x = some y) : evFn spec_GetNum_E spec_GetNum_T Tryz.f109 spec_GetNum_b [.ro tYs, .ro tI] [.own tI, .own tI, .own tB] x = some y := h
theorem spec_GetNum_c : ∀ f c, get spec_GetNum_E.ct f = some c → Sat Tryz.prog f c := ct_nil
theorem spec_GetNum_S : Sat Tryz.prog 109 spec_GetNum_C := fn_ok2 (envOk _) spec_GetNum_c mixedOk Tryz.func109 (by kernel_rfl : Tryz.f109.body = some spec_GetNum_b) (by kernel_rfl) (by kernel_rfl) spec_GetNum_h
noncomputable def spec_GetNum_Ke  (x0 : List Int) (x1 : Int) : Ex → AS → Option (RsD [.own tI, .own tI, .own tB] × PsO [.ro tYs, .ro tI]) := endK spec_GetNum_E Tryz.f109 [.ro tYs, .ro tI] [.own tI, .own tI, .own tB] (initL [.ro tYs, .ro tI] (x0, (x1, ())) 0).1
noncomputable def spec_GetNum_B0 {R : Type} : AS → (Ex → AS → Option R) → Option R := fun A K => ev spec_GetNum_E spec_GetNum_T 0 (cA (cA (cB (cA (cB (cB spec_GetNum_b)))))) A K
noncomputable def spec_GetNum_K0  (x0 : List Int) (x1 : Int) : Ex → AS → Option (RsD [.own tI, .own tI, .own tB] × PsO [.ro tYs, .ro tI]) := kBlk 0 (kSeq (fun A K => ev spec_GetNum_E spec_GetNum_T 1000 (cB (cB (cB spec_GetNum_b))) A K) (spec_GetNum_Ke x0 x1))
noncomputable def spec_GetNum_x0_0 (d0 : Int) (d1 : Int) (d2 : Bool) : AS := ⟨[(4, .v (.one (.d true tI d0))), (5, .v (.one (.d true tI d1))), (6, .v (.one (.d true tB d2)))], []⟩
noncomputable def spec_GetNum_x0_1 : AS := ⟨[], []⟩
theorem spec_GetNum_l0 {R : Type} {K : Ex → AS → Option R} {s : spec_GetNum_t0.D} (n : Nat) {v : Option R} (h : iterG spec_GetNum_t0 spec_GetNum_B0 K n s = v) (hv : ∃ r, v = some r) : loopG spec_GetNum_t0 spec_GetNum_B0 K s = v := loop_eq (ev_mono _ _) n h hv
theorem spec_GetNum_main (x0 : List Int) (x1 : Int) : spec_GetNum_F (x0, (x1, ())) =
 loopG spec_GetNum_t0 spec_GetNum_B0 (spec_GetNum_K0 x0 x1) ((x0, (x1, ((0 : Int), ((0 : Int), ())))), ()) := by kernel_rfl
theorem spec_GetNum_r0 {R : Type} (K : Ex → AS → Option R) (n : Nat) (t0 : List Int) (t1 : Int) (t7 : Int) (t8 : Int) : iterG spec_GetNum_t0 spec_GetNum_B0 K (n + 1) ((t0, (t1, (t7, (t8, ())))), ()) =
 brk (decide (t8 < (5 : Int)))
 (brk (decide (t1 < (0 : Int)))
 (K .ret (spec_GetNum_x0_0 (0 : Int) (0 : Int) false))
 (brk (decide (IntKind.i64.wrap ((t0.length : Int) - t8) ≤ t1))
 (K .ret (spec_GetNum_x0_0 (0 : Int) (0 : Int) false))
 (ck (decide (0 ≤ IntKind.i64.wrap (t1 + t8)) && decide (IntKind.i64.wrap (t1 + t8) < t0.length)) (ck (decide (0 ≤ IntKind.i64.wrap ((7 : Int) * t8))) (brk (decide (IntKind.i64.wrap (rdD tY t0 (IntKind.i64.wrap (t1 + t8))) < (128 : Int)))
 (brk (decide ((0 : Int) < t8))
 (brk (decide (IntKind.i64.wrap (rdD tY t0 (IntKind.i64.wrap (t1 + t8))) = (0 : Int)))
 (K .ret (spec_GetNum_x0_0 (0 : Int) (0 : Int) false))
 (brk (decide ((2147483647 : Int) < orN IntKind.i64 t7 (shlN IntKind.i64 ((IntKind.i64.wrap (rdD tY t0 (IntKind.i64.wrap (t1 + t8)))).tmod (128 : Int)) (IntKind.i64.wrap ((7 : Int) * t8)))))
 (K .ret (spec_GetNum_x0_0 (0 : Int) (0 : Int) false))
 (K .ret (spec_GetNum_x0_0 (orN IntKind.i64 t7 (shlN IntKind.i64 ((IntKind.i64.wrap (rdD tY t0 (IntKind.i64.wrap (t1 + t8)))).tmod (128 : Int)) (IntKind.i64.wrap ((7 : Int) * t8)))) (IntKind.i64.wrap ((IntKind.i64.wrap (t1 + t8)) + (1 : Int))) true))))
 (brk (decide ((2147483647 : Int) < orN IntKind.i64 t7 (shlN IntKind.i64 ((IntKind.i64.wrap (rdD tY t0 (IntKind.i64.wrap (t1 + t8)))).tmod (128 : Int)) (IntKind.i64.wrap ((7 : Int) * t8)))))
 (K .ret (spec_GetNum_x0_0 (0 : Int) (0 : Int) false))
 (K .ret (spec_GetNum_x0_0 (orN IntKind.i64 t7 (shlN IntKind.i64 ((IntKind.i64.wrap (rdD tY t0 (IntKind.i64.wrap (t1 + t8)))).tmod (128 : Int)) (IntKind.i64.wrap ((7 : Int) * t8)))) (IntKind.i64.wrap ((IntKind.i64.wrap (t1 + t8)) + (1 : Int))) true))))
 (iterG spec_GetNum_t0 spec_GetNum_B0 K n ((t0, (t1, (orN IntKind.i64 t7 (shlN IntKind.i64 ((IntKind.i64.wrap (rdD tY t0 (IntKind.i64.wrap (t1 + t8)))).tmod (128 : Int)) (IntKind.i64.wrap ((7 : Int) * t8))), (IntKind.i64.wrap (t8 + (1 : Int)), ())))), ())))))))
 (K (.exit 0) (spec_GetNum_x0_1)) := by kernel_rfl
theorem spec_GetNum_e0_0 (x0 : List Int) (x1 : Int) (d0 : Int) (d1 : Int) (d2 : Bool) : spec_GetNum_K0 x0 x1 .ret (spec_GetNum_x0_0 d0 d1 d2) =
 some ((d0, (d1, (d2, ()))), ((), ((), ()))) := by kernel_rfl
theorem spec_GetNum_e0_1 (x0 : List Int) (x1 : Int) : spec_GetNum_K0 x0 x1 (.exit 0) (spec_GetNum_x0_1) =
 some (((0 : Int), ((0 : Int), (false, ()))), ((), ((), ()))) := by kernel_rfl
/-! spec.l4Num -/
noncomputable def spec_l4Num_b : Code := bd Tryz.f98
def spec_l4Num_T : List (Nat × Tm) := []
noncomputable def spec_l4Num_E : Env := ⟨tt0, [(109, spec_GetNum_C)]⟩
noncomputable def spec_l4Num_F : PsD [.st tL4Cur] → Option (RsD [.own tI] × PsO [.st tL4Cur]) := fun x => evFn spec_l4Num_E spec_l4Num_T Tryz.f98 spec_l4Num_b [.st tL4Cur] [.own tI] x
@[reducible] noncomputable def spec_l4Num_C : Ct := ⟨[.st tL4Cur], [.own tI], spec_l4Num_F⟩
theorem spec_l4Num_h (x : PsD [.st tL4Cur]) (y : RsD [.own tI] × PsO [.st tL4Cur]) (h : spec_l4Num_F x = some y) : evFn spec_l4Num_E spec_l4Num_T Tryz.f98 spec_l4Num_b [.st tL4Cur] [.own tI] x = some y := h
theorem spec_l4Num_c : ∀ f c, get spec_l4Num_E.ct f = some c → Sat Tryz.prog f c := ct_cons spec_GetNum_S (ct_nil)
theorem spec_l4Num_S : Sat Tryz.prog 98 spec_l4Num_C := fn_ok2 (envOk _) spec_l4Num_c mixedOk Tryz.func98 (by kernel_rfl : Tryz.f98.body = some spec_l4Num_b) (by kernel_rfl) (by kernel_rfl) spec_l4Num_h
noncomputable def spec_l4Num_Ke  (x0 : List Int × Int × Bool × Unit) : Ex → AS → Option (RsD [.own tI] × PsO [.st tL4Cur]) := endK spec_l4Num_E Tryz.f98 [.st tL4Cur] [.own tI] (initL [.st tL4Cur] (x0, ()) 0).1
theorem spec_l4Num_main (x0 : List Int × Int × Bool × Unit) : spec_l4Num_F (x0, ()) =
 (spec_GetNum_F (x0.1, (x0.2.1, ()))).bind fun y15 =>
 brk (!y15.1.2.2.1)
 (some (((0 : Int), ()), ((x0.1, (x0.2.1, (false, ()))), ())))
 (brk (!x0.2.2.1)
 (some (((0 : Int), ()), ((x0.1, (x0.2.1, (false, ()))), ())))
 (some ((y15.1.1, ()), ((x0.1, (y15.1.2.1, (x0.2.2.1, ()))), ())))) := by kernel_rfl
/-! spec.l5Nums -/
noncomputable def spec_l5Nums_b : Code := bd Tryz.f97
@[reducible] def spec_l5Nums_t0 : Tm := ⟨[(3, 960000)], [], [(0, .ptr 1000000 0), (3, .own 960000), (4, .sc true tI), (5, .sc true tI)], [(960000, .arr 3 tI), (1000000, .box [.sc true tYs, .sc true tI, .sc true tB])], [3], [960000]⟩
def spec_l5Nums_T : List (Nat × Tm) := [(0, spec_l5Nums_t0)]
noncomputable def spec_l5Nums_E : Env := ⟨tt0, [(98, spec_l4Num_C)]⟩
noncomputable def spec_l5Nums_F : PsD [.st tL4Cur] → Option (RsD [.own tIs] × PsO [.st tL4Cur]) := fun x => evFn spec_l5Nums_E spec_l5Nums_T Tryz.f97 spec_l5Nums_b [.st tL4Cur] [.own tIs] x
@[reducible] noncomputable def spec_l5Nums_C : Ct := ⟨[.st tL4Cur], [.own tIs], spec_l5Nums_F⟩
theorem spec_l5Nums_h (x : PsD [.st tL4Cur]) (y : RsD [.own tIs] × PsO [.st tL4Cur]) (h : spec_l5Nums_F x = some y) : evFn spec_l5Nums_E spec_l5Nums_T Tryz.f97 spec_l5Nums_b [.st tL4Cur] [.own tIs] x = some y := h
theorem spec_l5Nums_c : ∀ f c, get spec_l5Nums_E.ct f = some c → Sat Tryz.prog f c := ct_cons spec_l4Num_S (ct_nil)
theorem spec_l5Nums_S : Sat Tryz.prog 97 spec_l5Nums_C := fn_ok2 (envOk _) spec_l5Nums_c mixedOk Tryz.func97 (by kernel_rfl : Tryz.f97.body = some spec_l5Nums_b) (by kernel_rfl) (by kernel_rfl) spec_l5Nums_h
noncomputable def spec_l5Nums_Ke  (x0 : List Int × Int × Bool × Unit) : Ex → AS → Option (RsD [.own tIs] × PsO [.st tL4Cur]) := endK spec_l5Nums_E Tryz.f97 [.st tL4Cur] [.own tIs] (initL [.st tL4Cur] (x0, ()) 0).1
noncomputable def spec_l5Nums_B0 {R : Type} : AS → (Ex → AS → Option R) → Option R := fun A K => ev spec_l5Nums_E spec_l5Nums_T 0 (cA (cA (cB (cA (cB (cB (cB spec_l5Nums_b))))))) A K
noncomputable def spec_l5Nums_K0  (x0 : List Int × Int × Bool × Unit) : Ex → AS → Option (RsD [.own tIs] × PsO [.st tL4Cur]) := kBlk 0 (kSeq (fun A K => ev spec_l5Nums_E spec_l5Nums_T 1000 (cB (cB (cB (cB spec_l5Nums_b)))) A K) (spec_l5Nums_Ke x0))
noncomputable def spec_l5Nums_x0_0 (d0 : List Int) (d1 : List Int) (d2 : Int) (d3 : Bool) : AS := ⟨[(3, .v (.one (.own 960000)))], [(960000, .arr 3 tI d0), (1000000, .box [.d true tYs d1, .d true tI d2, .d true tB d3])]⟩
theorem spec_l5Nums_l0 {R : Type} {K : Ex → AS → Option R} {s : spec_l5Nums_t0.D} (n : Nat) {v : Option R} (h : iterG spec_l5Nums_t0 spec_l5Nums_B0 K n s = v) (hv : ∃ r, v = some r) : loopG spec_l5Nums_t0 spec_l5Nums_B0 K s = v := loop_eq (ev_mono _ _) n h hv
theorem spec_l5Nums_main (x0 : List Int × Int × Bool × Unit) : spec_l5Nums_F (x0, ()) =
 (spec_l4Num_F ((x0.1, (x0.2.1, (x0.2.2.1, ()))), ())).bind fun y9 =>
 loopG spec_l5Nums_t0 spec_l5Nums_B0 (spec_l5Nums_K0 x0) ((y9.1.1, ((0 : Int), ())), (([] : List Int), ((y9.2.1.1, (y9.2.1.2.1, (y9.2.1.2.2.1, ()))), ()))) := by kernel_rfl
theorem spec_l5Nums_r0 {R : Type} (K : Ex → AS → Option R) (n : Nat) (t4 : Int) (t5 : Int) (a960000 : List Int) (b1000000_0 : List Int) (b1000000_1 : Int) (b1000000_2 : Bool) : iterG spec_l5Nums_t0 spec_l5Nums_B0 K (n + 1) ((t4, (t5, ())), (a960000, ((b1000000_0, (b1000000_1, (b1000000_2, ()))), ()))) =
 brk (decide (t5 < t4))
 (brk b1000000_2
 ((spec_l4Num_F ((b1000000_0, (b1000000_1, (b1000000_2, ()))), ())).bind fun y22 =>
 ck (decide ((a960000.length + [y22.1.1].length) * 8 ≤ big47)) (iterG spec_l5Nums_t0 spec_l5Nums_B0 K n ((t4, (IntKind.i64.wrap (t5 + (1 : Int)), ())), (a960000 ++ [y22.1.1], ((y22.2.1.1, (y22.2.1.2.1, (y22.2.1.2.2.1, ()))), ())))))
 (K (.exit 0) (spec_l5Nums_x0_0 a960000 b1000000_0 b1000000_1 b1000000_2)))
 (K (.exit 0) (spec_l5Nums_x0_0 a960000 b1000000_0 b1000000_1 b1000000_2)) := by kernel_rfl
theorem spec_l5Nums_e0_0 (x0 : List Int × Int × Bool × Unit) (d0 : List Int) (d1 : List Int) (d2 : Int) (d3 : Bool) : spec_l5Nums_K0 x0 (.exit 0) (spec_l5Nums_x0_0 d0 d1 d2 d3) =
 some ((d0, ()), ((d1, (d2, (d3, ()))), ())) := by kernel_rfl
/-! spec.MarksOk -/
noncomputable def spec_MarksOk_b : Code := bd Tryz.f79
@[reducible] def spec_MarksOk_t0 : Tm := ⟨[], [], [(0, .sc true tIs), (3, .sc true tI)], [], [2], []⟩
def spec_MarksOk_T : List (Nat × Tm) := [(0, spec_MarksOk_t0)]
noncomputable def spec_MarksOk_E : Env := ⟨tt0, [(54, spec_l1In_C)]⟩
noncomputable def spec_MarksOk_F : PsD [.ro tIs] → Option (RsD [.own tB] × PsO [.ro tIs]) := fun x => evFn spec_MarksOk_E spec_MarksOk_T Tryz.f79 spec_MarksOk_b [.ro tIs] [.own tB] x
@[reducible] noncomputable def spec_MarksOk_C : Ct := ⟨[.ro tIs], [.own tB], spec_MarksOk_F⟩
theorem spec_MarksOk_h (x : PsD [.ro tIs]) (y : RsD [.own tB] × PsO [.ro tIs]) (h : spec_MarksOk_F x = some y) : evFn spec_MarksOk_E spec_MarksOk_T Tryz.f79 spec_MarksOk_b [.ro tIs] [.own tB] x = some y := h
theorem spec_MarksOk_c : ∀ f c, get spec_MarksOk_E.ct f = some c → Sat Tryz.prog f c := ct_cons spec_l1In_S (ct_nil)
theorem spec_MarksOk_S : Sat Tryz.prog 79 spec_MarksOk_C := fn_ok2 (envOk _) spec_MarksOk_c mixedOk Tryz.func79 (by kernel_rfl : Tryz.f79.body = some spec_MarksOk_b) (by kernel_rfl) (by kernel_rfl) spec_MarksOk_h
noncomputable def spec_MarksOk_Ke  (x0 : List Int) : Ex → AS → Option (RsD [.own tB] × PsO [.ro tIs]) := endK spec_MarksOk_E Tryz.f79 [.ro tIs] [.own tB] (initL [.ro tIs] (x0, ()) 0).1
noncomputable def spec_MarksOk_B0 {R : Type} : AS → (Ex → AS → Option R) → Option R := fun A K => ev spec_MarksOk_E spec_MarksOk_T 0 (cA (cA (cB (cA (cB spec_MarksOk_b))))) A K
noncomputable def spec_MarksOk_K0  (x0 : List Int) : Ex → AS → Option (RsD [.own tB] × PsO [.ro tIs]) := kBlk 0 (kSeq (fun A K => ev spec_MarksOk_E spec_MarksOk_T 1000 (cB (cB spec_MarksOk_b)) A K) (spec_MarksOk_Ke x0))
noncomputable def spec_MarksOk_x0_0 (d0 : Bool) : AS := ⟨[(2, .v (.one (.d true tB d0)))], []⟩
noncomputable def spec_MarksOk_x0_1 : AS := ⟨[], []⟩
theorem spec_MarksOk_l0 {R : Type} {K : Ex → AS → Option R} {s : spec_MarksOk_t0.D} (n : Nat) {v : Option R} (h : iterG spec_MarksOk_t0 spec_MarksOk_B0 K n s = v) (hv : ∃ r, v = some r) : loopG spec_MarksOk_t0 spec_MarksOk_B0 K s = v := loop_eq (ev_mono _ _) n h hv
theorem spec_MarksOk_main (x0 : List Int) : spec_MarksOk_F (x0, ()) =
 loopG spec_MarksOk_t0 spec_MarksOk_B0 (spec_MarksOk_K0 x0) ((x0, ((0 : Int), ())), ()) := by kernel_rfl
theorem spec_MarksOk_r0 {R : Type} (K : Ex → AS → Option R) (n : Nat) (t0 : List Int) (t3 : Int) : iterG spec_MarksOk_t0 spec_MarksOk_B0 K (n + 1) ((t0, (t3, ())), ()) =
 brk (decide (t3 < (t0.length : Int)))
 (ck (decide (0 ≤ t3) && decide (t3 < t0.length)) ((spec_l1In_F (rdD tI t0 t3, ((0 : Int), ((7 : Int), ())))).bind fun y14 =>
 brk (!y14.1.1)
 (K .ret (spec_MarksOk_x0_0 false))
 (brk (decide ((0 : Int) < t3))
 (ck (decide (0 ≤ IntKind.i64.wrap (t3 - (1 : Int))) && decide (IntKind.i64.wrap (t3 - (1 : Int)) < t0.length)) (ck (decide (0 ≤ t3) && decide (t3 < t0.length)) (brk (decide (rdD tI t0 t3 ≤ rdD tI t0 (IntKind.i64.wrap (t3 - (1 : Int)))))
 (K .ret (spec_MarksOk_x0_0 false))
 (iterG spec_MarksOk_t0 spec_MarksOk_B0 K n ((t0, (IntKind.i64.wrap (t3 + (1 : Int)), ())), ())))))
 (iterG spec_MarksOk_t0 spec_MarksOk_B0 K n ((t0, (IntKind.i64.wrap (t3 + (1 : Int)), ())), ())))))
 (K (.exit 0) (spec_MarksOk_x0_1)) := by kernel_rfl
theorem spec_MarksOk_e0_0 (x0 : List Int) (d0 : Bool) : spec_MarksOk_K0 x0 .ret (spec_MarksOk_x0_0 d0) =
 some ((d0, ()), ((), ())) := by kernel_rfl
theorem spec_MarksOk_e0_1 (x0 : List Int) : spec_MarksOk_K0 x0 (.exit 0) (spec_MarksOk_x0_1) =
 some ((true, ()), ((), ())) := by kernel_rfl
/-! spec.l2Has -/
noncomputable def spec_l2Has_b : Code := bd Tryz.f96
@[reducible] def spec_l2Has_t0 : Tm := ⟨[], [], [(0, .sc true tIs), (1, .sc true tI), (5, .sc true tI)], [], [4], []⟩
def spec_l2Has_T : List (Nat × Tm) := [(0, spec_l2Has_t0)]
noncomputable def spec_l2Has_E : Env := ⟨tt0, []⟩
noncomputable def spec_l2Has_F : PsD [.ro tIs, .ro tI] → Option (RsD [.own tB] × PsO [.ro tIs, .ro tI]) := fun x => evFn spec_l2Has_E spec_l2Has_T Tryz.f96 spec_l2Has_b [.ro tIs, .ro tI] [.own tB] x
@[reducible] noncomputable def spec_l2Has_C : Ct := ⟨[.ro tIs, .ro tI], [.own tB], spec_l2Has_F⟩
theorem spec_l2Has_h (x : PsD [.ro tIs, .ro tI]) (y : RsD [.own tB] × PsO [.ro tIs, .ro tI]) (h : spec_l2Has_F x = some y) : evFn spec_l2Has_E spec_l2Has_T Tryz.f96 spec_l2Has_b [.ro tIs, .ro tI] [.own tB] x = some y := h
theorem spec_l2Has_c : ∀ f c, get spec_l2Has_E.ct f = some c → Sat Tryz.prog f c := ct_nil
theorem spec_l2Has_S : Sat Tryz.prog 96 spec_l2Has_C := fn_ok2 (envOk _) spec_l2Has_c mixedOk Tryz.func96 (by kernel_rfl : Tryz.f96.body = some spec_l2Has_b) (by kernel_rfl) (by kernel_rfl) spec_l2Has_h
noncomputable def spec_l2Has_Ke  (x0 : List Int) (x1 : Int) : Ex → AS → Option (RsD [.own tB] × PsO [.ro tIs, .ro tI]) := endK spec_l2Has_E Tryz.f96 [.ro tIs, .ro tI] [.own tB] (initL [.ro tIs, .ro tI] (x0, (x1, ())) 0).1
noncomputable def spec_l2Has_B0 {R : Type} : AS → (Ex → AS → Option R) → Option R := fun A K => ev spec_l2Has_E spec_l2Has_T 0 (cA (cA (cB (cA (cB spec_l2Has_b))))) A K
noncomputable def spec_l2Has_K0  (x0 : List Int) (x1 : Int) : Ex → AS → Option (RsD [.own tB] × PsO [.ro tIs, .ro tI]) := kBlk 0 (kSeq (fun A K => ev spec_l2Has_E spec_l2Has_T 1000 (cB (cB spec_l2Has_b)) A K) (spec_l2Has_Ke x0 x1))
noncomputable def spec_l2Has_x0_0 (d0 : Bool) : AS := ⟨[(4, .v (.one (.d true tB d0)))], []⟩
noncomputable def spec_l2Has_x0_1 : AS := ⟨[], []⟩
theorem spec_l2Has_l0 {R : Type} {K : Ex → AS → Option R} {s : spec_l2Has_t0.D} (n : Nat) {v : Option R} (h : iterG spec_l2Has_t0 spec_l2Has_B0 K n s = v) (hv : ∃ r, v = some r) : loopG spec_l2Has_t0 spec_l2Has_B0 K s = v := loop_eq (ev_mono _ _) n h hv
theorem spec_l2Has_main (x0 : List Int) (x1 : Int) : spec_l2Has_F (x0, (x1, ())) =
 loopG spec_l2Has_t0 spec_l2Has_B0 (spec_l2Has_K0 x0 x1) ((x0, (x1, ((0 : Int), ()))), ()) := by kernel_rfl
theorem spec_l2Has_r0 {R : Type} (K : Ex → AS → Option R) (n : Nat) (t0 : List Int) (t1 : Int) (t5 : Int) : iterG spec_l2Has_t0 spec_l2Has_B0 K (n + 1) ((t0, (t1, (t5, ()))), ()) =
 brk (decide (t5 < (t0.length : Int)))
 (ck (decide (0 ≤ t5) && decide (t5 < t0.length)) (brk (decide (rdD tI t0 t5 = t1))
 (K .ret (spec_l2Has_x0_0 true))
 (iterG spec_l2Has_t0 spec_l2Has_B0 K n ((t0, (t1, (IntKind.i64.wrap (t5 + (1 : Int)), ()))), ()))))
 (K (.exit 0) (spec_l2Has_x0_1)) := by kernel_rfl
theorem spec_l2Has_e0_0 (x0 : List Int) (x1 : Int) (d0 : Bool) : spec_l2Has_K0 x0 x1 .ret (spec_l2Has_x0_0 d0) =
 some ((d0, ()), ((), ((), ()))) := by kernel_rfl
theorem spec_l2Has_e0_1 (x0 : List Int) (x1 : Int) : spec_l2Has_K0 x0 x1 (.exit 0) (spec_l2Has_x0_1) =
 some ((false, ()), ((), ((), ()))) := by kernel_rfl
/-! spec.GensOk -/
noncomputable def spec_GensOk_b : Code := bd Tryz.f80
@[reducible] def spec_GensOk_t0 : Tm := ⟨[], [], [(0, .sc true tIs), (3, .sc true tI)], [], [0, 2], []⟩
def spec_GensOk_T : List (Nat × Tm) := [(0, spec_GensOk_t0)]
noncomputable def spec_GensOk_E : Env := ⟨tt0, [(54, spec_l1In_C), (96, spec_l2Has_C)]⟩
noncomputable def spec_GensOk_F : PsD [.ro tIs] → Option (RsD [.own tB] × PsO [.ro tIs]) := fun x => evFn spec_GensOk_E spec_GensOk_T Tryz.f80 spec_GensOk_b [.ro tIs] [.own tB] x
@[reducible] noncomputable def spec_GensOk_C : Ct := ⟨[.ro tIs], [.own tB], spec_GensOk_F⟩
theorem spec_GensOk_h (x : PsD [.ro tIs]) (y : RsD [.own tB] × PsO [.ro tIs]) (h : spec_GensOk_F x = some y) : evFn spec_GensOk_E spec_GensOk_T Tryz.f80 spec_GensOk_b [.ro tIs] [.own tB] x = some y := h
theorem spec_GensOk_c : ∀ f c, get spec_GensOk_E.ct f = some c → Sat Tryz.prog f c := ct_cons spec_l1In_S (ct_cons spec_l2Has_S (ct_nil))
theorem spec_GensOk_S : Sat Tryz.prog 80 spec_GensOk_C := fn_ok2 (envOk _) spec_GensOk_c mixedOk Tryz.func80 (by kernel_rfl : Tryz.f80.body = some spec_GensOk_b) (by kernel_rfl) (by kernel_rfl) spec_GensOk_h
noncomputable def spec_GensOk_Ke  (x0 : List Int) : Ex → AS → Option (RsD [.own tB] × PsO [.ro tIs]) := endK spec_GensOk_E Tryz.f80 [.ro tIs] [.own tB] (initL [.ro tIs] (x0, ()) 0).1
noncomputable def spec_GensOk_B0 {R : Type} : AS → (Ex → AS → Option R) → Option R := fun A K => ev spec_GensOk_E spec_GensOk_T 0 (cA (cA (cB (cA (cB spec_GensOk_b))))) A K
noncomputable def spec_GensOk_K0  (x0 : List Int) : Ex → AS → Option (RsD [.own tB] × PsO [.ro tIs]) := kBlk 0 (kSeq (fun A K => ev spec_GensOk_E spec_GensOk_T 1000 (cB (cB spec_GensOk_b)) A K) (spec_GensOk_Ke x0))
noncomputable def spec_GensOk_x0_0 (d0 : List Int) (d1 : Bool) : AS := ⟨[(0, .v (.one (.d true tIs d0))), (2, .v (.one (.d true tB d1)))], []⟩
noncomputable def spec_GensOk_x0_1 (d0 : List Int) : AS := ⟨[(0, .v (.one (.d true tIs d0)))], []⟩
theorem spec_GensOk_l0 {R : Type} {K : Ex → AS → Option R} {s : spec_GensOk_t0.D} (n : Nat) {v : Option R} (h : iterG spec_GensOk_t0 spec_GensOk_B0 K n s = v) (hv : ∃ r, v = some r) : loopG spec_GensOk_t0 spec_GensOk_B0 K s = v := loop_eq (ev_mono _ _) n h hv
theorem spec_GensOk_main (x0 : List Int) : spec_GensOk_F (x0, ()) =
 loopG spec_GensOk_t0 spec_GensOk_B0 (spec_GensOk_K0 x0) ((x0, ((0 : Int), ())), ()) := by kernel_rfl
theorem spec_GensOk_r0 {R : Type} (K : Ex → AS → Option R) (n : Nat) (t0 : List Int) (t3 : Int) : iterG spec_GensOk_t0 spec_GensOk_B0 K (n + 1) ((t0, (t3, ())), ()) =
 brk (decide (t3 < (t0.length : Int)))
 (ck (decide (0 ≤ t3) && decide (t3 < t0.length)) ((spec_l1In_F (rdD tI t0 t3, ((1 : Int), ((100000 : Int), ())))).bind fun y14 =>
 brk (!y14.1.1)
 (K .ret (spec_GensOk_x0_0 t0 false))
 (ck (decide (0 ≤ (0 : Int)) && decide ((0 : Int) ≤ t3) && decide (t3 ≤ t0.length)) (ck (decide (0 ≤ t3) && decide (t3 < t0.length)) ((spec_l2Has_F ((t0.take t3.toNat).drop (0 : Int).toNat, (rdD tI t0 t3, ()))).bind fun y24 =>
 brk y24.1.1
 (K .ret (spec_GensOk_x0_0 t0 false))
 (iterG spec_GensOk_t0 spec_GensOk_B0 K n ((t0, (IntKind.i64.wrap (t3 + (1 : Int)), ())), ())))))))
 (K (.exit 0) (spec_GensOk_x0_1 t0)) := by kernel_rfl
theorem spec_GensOk_e0_0 (x0 : List Int) (d0 : List Int) (d1 : Bool) : spec_GensOk_K0 x0 .ret (spec_GensOk_x0_0 d0 d1) =
 some ((d1, ()), ((), ())) := by kernel_rfl
theorem spec_GensOk_e0_1 (x0 : List Int) (d0 : List Int) : spec_GensOk_K0 x0 (.exit 0) (spec_GensOk_x0_1 d0) =
 some ((decide ((d0.length : Int) ≤ (12 : Int)), ()), ((), ())) := by kernel_rfl
/-! spec.MetaOk -/
noncomputable def spec_MetaOk_b : Code := bd Tryz.f56
@[reducible] def spec_MetaOk_t0 : Tm := ⟨[], [], [(1, .ptr 16 0), (3, .sc true tI)], [(16, .box [.sc true tIs, .sc true tIss, .sc true tB, .sc true tB, .sc true tB, .sc true tI])], [1, 2, 22, 23, 24, 25, 28, 29, 30, 31, 34, 35, 36, 39, 40, 41, 42, 43, 44, 45], [16]⟩
def spec_MetaOk_T : List (Nat × Tm) := [(0, spec_MetaOk_t0)]
noncomputable def spec_MetaOk_E : Env := ⟨tt0, [(54, spec_l1In_C), (79, spec_MarksOk_C), (80, spec_GensOk_C)]⟩
noncomputable def spec_MetaOk_F : PsD [.ro tMeta] → Option (RsD [.own tB] × PsO [.ro tMeta]) := fun x => evFn spec_MetaOk_E spec_MetaOk_T Tryz.f56 spec_MetaOk_b [.ro tMeta] [.own tB] x
@[reducible] noncomputable def spec_MetaOk_C : Ct := ⟨[.ro tMeta], [.own tB], spec_MetaOk_F⟩
theorem spec_MetaOk_h (x : PsD [.ro tMeta]) (y : RsD [.own tB] × PsO [.ro tMeta]) (h : spec_MetaOk_F x = some y) : evFn spec_MetaOk_E spec_MetaOk_T Tryz.f56 spec_MetaOk_b [.ro tMeta] [.own tB] x = some y := h
theorem spec_MetaOk_c : ∀ f c, get spec_MetaOk_E.ct f = some c → Sat Tryz.prog f c := ct_cons spec_l1In_S (ct_cons spec_MarksOk_S (ct_cons spec_GensOk_S (ct_nil)))
theorem spec_MetaOk_S : Sat Tryz.prog 56 spec_MetaOk_C := fn_ok2 (envOk _) spec_MetaOk_c mixedOk Tryz.func56 (by kernel_rfl : Tryz.f56.body = some spec_MetaOk_b) (by kernel_rfl) (by kernel_rfl) spec_MetaOk_h
noncomputable def spec_MetaOk_Ke  (x0 : List Int × List (List Int) × Bool × Bool × Bool × Int × Unit) : Ex → AS → Option (RsD [.own tB] × PsO [.ro tMeta]) := endK spec_MetaOk_E Tryz.f56 [.ro tMeta] [.own tB] (initL [.ro tMeta] (x0, ()) 0).1
noncomputable def spec_MetaOk_B0 {R : Type} : AS → (Ex → AS → Option R) → Option R := fun A K => ev spec_MetaOk_E spec_MetaOk_T 0 (cA (cA (cB (cA (cB spec_MetaOk_b))))) A K
noncomputable def spec_MetaOk_K0  (x0 : List Int × List (List Int) × Bool × Bool × Bool × Int × Unit) : Ex → AS → Option (RsD [.own tB] × PsO [.ro tMeta]) := kBlk 0 (kSeq (fun A K => ev spec_MetaOk_E spec_MetaOk_T 1000 (cB (cB spec_MetaOk_b)) A K) (spec_MetaOk_Ke x0))
noncomputable def spec_MetaOk_x0_0 (d0 : Bool) (d1 : List Int) (d2 : List (List Int)) (d3 : Bool) (d4 : Bool) (d5 : Bool) (d6 : Int) : AS := ⟨[(1, .v (.one (.bptr 16 0))), (2, .v (.one (.d true tB d0)))], [(16, .box [.d true tIs d1, .d true tIss d2, .d true tB d3, .d true tB d4, .d true tB d5, .d true tI d6])]⟩
noncomputable def spec_MetaOk_x0_1 (d0 : List Int) (d1 : List (List Int)) (d2 : Bool) (d3 : Bool) (d4 : Bool) (d5 : Int) : AS := ⟨[(1, .v (.one (.bptr 16 0)))], [(16, .box [.d true tIs d0, .d true tIss d1, .d true tB d2, .d true tB d3, .d true tB d4, .d true tI d5])]⟩
theorem spec_MetaOk_l0 {R : Type} {K : Ex → AS → Option R} {s : spec_MetaOk_t0.D} (n : Nat) {v : Option R} (h : iterG spec_MetaOk_t0 spec_MetaOk_B0 K n s = v) (hv : ∃ r, v = some r) : loopG spec_MetaOk_t0 spec_MetaOk_B0 K s = v := loop_eq (ev_mono _ _) n h hv
theorem spec_MetaOk_main (x0 : List Int × List (List Int) × Bool × Bool × Bool × Int × Unit) : spec_MetaOk_F (x0, ()) =
 loopG spec_MetaOk_t0 spec_MetaOk_B0 (spec_MetaOk_K0 x0) (((0 : Int), ()), ((x0.1, (x0.2.1, (x0.2.2.1, (x0.2.2.2.1, (x0.2.2.2.2.1, (x0.2.2.2.2.2.1, ())))))), ())) := by kernel_rfl
theorem spec_MetaOk_r0 {R : Type} (K : Ex → AS → Option R) (n : Nat) (t3 : Int) (b16_0 : List Int) (b16_1 : List (List Int)) (b16_2 : Bool) (b16_3 : Bool) (b16_4 : Bool) (b16_5 : Int) : iterG spec_MetaOk_t0 spec_MetaOk_B0 K (n + 1) ((t3, ()), ((b16_0, (b16_1, (b16_2, (b16_3, (b16_4, (b16_5, ())))))), ())) =
 brk (decide (t3 < (b16_1.length : Int)))
 (ck (decide (0 ≤ t3) && decide (t3 < b16_1.length)) ((spec_MarksOk_F (rdD tIs b16_1 t3, ())).bind fun y16 =>
 brk (!y16.1.1)
 (K .ret (spec_MetaOk_x0_0 false b16_0 b16_1 b16_2 b16_3 b16_4 b16_5))
 (iterG spec_MetaOk_t0 spec_MetaOk_B0 K n ((IntKind.i64.wrap (t3 + (1 : Int)), ()), ((b16_0, (b16_1, (b16_2, (b16_3, (b16_4, (b16_5, ())))))), ())))))
 (K (.exit 0) (spec_MetaOk_x0_1 b16_0 b16_1 b16_2 b16_3 b16_4 b16_5)) := by kernel_rfl
theorem spec_MetaOk_e0_0 (x0 : List Int × List (List Int) × Bool × Bool × Bool × Int × Unit) (d0 : Bool) (d1 : List Int) (d2 : List (List Int)) (d3 : Bool) (d4 : Bool) (d5 : Bool) (d6 : Int) : spec_MetaOk_K0 x0 .ret (spec_MetaOk_x0_0 d0 d1 d2 d3 d4 d5 d6) =
 some ((d0, ()), ((), ())) := by kernel_rfl
theorem spec_MetaOk_e0_1 (x0 : List Int × List (List Int) × Bool × Bool × Bool × Int × Unit) (d0 : List Int) (d1 : List (List Int)) (d2 : Bool) (d3 : Bool) (d4 : Bool) (d5 : Int) : spec_MetaOk_K0 x0 (.exit 0) (spec_MetaOk_x0_1 d0 d1 d2 d3 d4 d5) =
 (spec_GensOk_F (d0, ())).bind fun y20 =>
 brk y20.1.1
 (brk (decide ((0 : Int) < (d0.length : Int)))
 (brk (decide ((d1.length : Int) = (3 : Int)))
 ((spec_l1In_F (d5, ((0 : Int), ((200 : Int), ())))).bind fun y36 =>
 brk y36.1.1
 (brk d3
 (some ((!d4, ()), ((), ())))
 (some ((true, ()), ((), ()))))
 (some ((false, ()), ((), ()))))
 (some ((false, ()), ((), ()))))
 (some ((false, ()), ((), ()))))
 (some ((false, ()), ((), ()))) := by kernel_rfl
/-! spec.PutNum -/
noncomputable def spec_PutNum_b : Code := bd Tryz.f110
@[reducible] def spec_PutNum_t0 : Tm := ⟨[(3, 960000)], [], [(0, .sc true tI), (3, .own 960000)], [(960000, .arr 5 tY)], [0, 3], [960000]⟩
def spec_PutNum_T : List (Nat × Tm) := [(0, spec_PutNum_t0)]
noncomputable def spec_PutNum_E : Env := ⟨tt0, [(54, spec_l1In_C)]⟩
noncomputable def spec_PutNum_F : PsD [.ro tI] → Option (RsD [.own tYs] × PsO [.ro tI]) := fun x => evFn spec_PutNum_E spec_PutNum_T Tryz.f110 spec_PutNum_b [.ro tI] [.own tYs] x
@[reducible] noncomputable def spec_PutNum_C : Ct := ⟨[.ro tI], [.own tYs], spec_PutNum_F⟩
theorem spec_PutNum_h (x : PsD [.ro tI]) (y : RsD [.own tYs] × PsO [.ro tI]) (h : spec_PutNum_F x = some y) : evFn spec_PutNum_E spec_PutNum_T Tryz.f110 spec_PutNum_b [.ro tI] [.own tYs] x = some y := h
theorem spec_PutNum_c : ∀ f c, get spec_PutNum_E.ct f = some c → Sat Tryz.prog f c := ct_cons spec_l1In_S (ct_nil)
theorem spec_PutNum_S : Sat Tryz.prog 110 spec_PutNum_C := fn_ok2 (envOk _) spec_PutNum_c mixedOk Tryz.func110 (by kernel_rfl : Tryz.f110.body = some spec_PutNum_b) (by kernel_rfl) (by kernel_rfl) spec_PutNum_h
noncomputable def spec_PutNum_Ke  (x0 : Int) : Ex → AS → Option (RsD [.own tYs] × PsO [.ro tI]) := endK spec_PutNum_E Tryz.f110 [.ro tI] [.own tYs] (initL [.ro tI] (x0, ()) 0).1
noncomputable def spec_PutNum_B0 {R : Type} : AS → (Ex → AS → Option R) → Option R := fun A K => ev spec_PutNum_E spec_PutNum_T 0 (cA (cA (cA (cB (cB (cB spec_PutNum_b)))))) A K
noncomputable def spec_PutNum_K0  (x0 : Int) : Ex → AS → Option (RsD [.own tYs] × PsO [.ro tI]) := kBlk 0 (kSeq (fun A K => ev spec_PutNum_E spec_PutNum_T 1000 (cB (cB (cB (cB spec_PutNum_b)))) A K) (spec_PutNum_Ke x0))
noncomputable def spec_PutNum_x0_0 (d0 : Int) (d1 : List Int) : AS := ⟨[(0, .v (.one (.d true tI d0))), (3, .v (.one (.own 960000)))], [(960000, .arr 5 tY d1)]⟩
theorem spec_PutNum_l0 {R : Type} {K : Ex → AS → Option R} {s : spec_PutNum_t0.D} (n : Nat) {v : Option R} (h : iterG spec_PutNum_t0 spec_PutNum_B0 K n s = v) (hv : ∃ r, v = some r) : loopG spec_PutNum_t0 spec_PutNum_B0 K s = v := loop_eq (ev_mono _ _) n h hv
theorem spec_PutNum_main (x0 : Int) : spec_PutNum_F (x0, ()) =
 (spec_l1In_F (x0, ((0 : Int), ((2147483647 : Int), ())))).bind fun y6 =>
 brk (!y6.1.1)
 (some ((([] : List Int), ()), ((), ())))
 (loopG spec_PutNum_t0 spec_PutNum_B0 (spec_PutNum_K0 x0) ((x0, ()), (([] : List Int), ()))) := by kernel_rfl
theorem spec_PutNum_r0 {R : Type} (K : Ex → AS → Option R) (n : Nat) (t0 : Int) (a960000 : List Int) : iterG spec_PutNum_t0 spec_PutNum_B0 K (n + 1) ((t0, ()), (a960000, ())) =
 brk (decide ((127 : Int) < t0))
 (ck (decide ((a960000.length + [IntKind.u8.wrap (IntKind.i64.wrap ((t0.tmod (128 : Int)) + (128 : Int)))].length) * 1 ≤ big47)) (iterG spec_PutNum_t0 spec_PutNum_B0 K n ((IntKind.i64.wrap (t0.tdiv (128 : Int)), ()), (a960000 ++ [IntKind.u8.wrap (IntKind.i64.wrap ((t0.tmod (128 : Int)) + (128 : Int)))], ()))))
 (K (.exit 0) (spec_PutNum_x0_0 t0 a960000)) := by kernel_rfl
theorem spec_PutNum_e0_0 (x0 : Int) (d0 : Int) (d1 : List Int) : spec_PutNum_K0 x0 (.exit 0) (spec_PutNum_x0_0 d0 d1) =
 ck (decide ((d1.length + [IntKind.u8.wrap d0].length) * 1 ≤ big47)) (some ((d1 ++ [IntKind.u8.wrap d0], ()), ((), ()))) := by kernel_rfl
/-! spec.l1Bit -/
noncomputable def spec_l1Bit_b : Code := bd Tryz.f111
def spec_l1Bit_T : List (Nat × Tm) := []
noncomputable def spec_l1Bit_E : Env := ⟨tt0, []⟩
noncomputable def spec_l1Bit_F : PsD [.ro tB] → Option (RsD [.own tI] × PsO [.ro tB]) := fun x => evFn spec_l1Bit_E spec_l1Bit_T Tryz.f111 spec_l1Bit_b [.ro tB] [.own tI] x
@[reducible] noncomputable def spec_l1Bit_C : Ct := ⟨[.ro tB], [.own tI], spec_l1Bit_F⟩
theorem spec_l1Bit_h (x : PsD [.ro tB]) (y : RsD [.own tI] × PsO [.ro tB]) (h : spec_l1Bit_F x = some y) : evFn spec_l1Bit_E spec_l1Bit_T Tryz.f111 spec_l1Bit_b [.ro tB] [.own tI] x = some y := h
theorem spec_l1Bit_c : ∀ f c, get spec_l1Bit_E.ct f = some c → Sat Tryz.prog f c := ct_nil
theorem spec_l1Bit_S : Sat Tryz.prog 111 spec_l1Bit_C := fn_ok2 (envOk _) spec_l1Bit_c mixedOk Tryz.func111 (by kernel_rfl : Tryz.f111.body = some spec_l1Bit_b) (by kernel_rfl) (by kernel_rfl) spec_l1Bit_h
noncomputable def spec_l1Bit_Ke  (x0 : Bool) : Ex → AS → Option (RsD [.own tI] × PsO [.ro tB]) := endK spec_l1Bit_E Tryz.f111 [.ro tB] [.own tI] (initL [.ro tB] (x0, ()) 0).1
theorem spec_l1Bit_main (x0 : Bool) : spec_l1Bit_F (x0, ()) =
 brk x0
 (some (((1 : Int), ()), ((), ())))
 (some (((0 : Int), ()), ((), ()))) := by kernel_rfl
/-! spec.MetaBytes -/
noncomputable def spec_MetaBytes_b : Code := bd Tryz.f99
@[reducible] def spec_MetaBytes_t0 : Tm := ⟨[(3, 960000)], [], [(1, .ptr 16 0), (3, .own 960000), (4, .sc true tI)], [(16, .box [.sc true tIs, .sc true tIss, .sc true tB, .sc true tB, .sc true tB, .sc true tI]), (960000, .arr 5 tY)], [1, 3], [16, 960000]⟩
@[reducible] def spec_MetaBytes_t2 : Tm := ⟨[(3, 960600)], [], [(1, .ptr 16 0), (3, .own 960600), (5, .sc true tI)], [(16, .box [.sc true tIs, .sc true tIss, .sc true tB, .sc true tB, .sc true tB, .sc true tI]), (960600, .arr 5 tY)], [1, 3], [16, 960000, 960600]⟩
@[reducible] def spec_MetaBytes_t4 : Tm := ⟨[(3, 961200)], [], [(1, .ptr 16 0), (3, .own 961200), (5, .sc true tI), (6, .sc true tI)], [(16, .box [.sc true tIs, .sc true tIss, .sc true tB, .sc true tB, .sc true tB, .sc true tI]), (961200, .arr 5 tY)], [1, 3, 5], [16, 961200]⟩
def spec_MetaBytes_T : List (Nat × Tm) := [(0, spec_MetaBytes_t0), (2, spec_MetaBytes_t2), (4, spec_MetaBytes_t4)]
noncomputable def spec_MetaBytes_E : Env := ⟨tt0, [(56, spec_MetaOk_C), (110, spec_PutNum_C), (111, spec_l1Bit_C)]⟩
noncomputable def spec_MetaBytes_F : PsD [.ro tMeta] → Option (RsD [.own tYs] × PsO [.ro tMeta]) := fun x => evFn spec_MetaBytes_E spec_MetaBytes_T Tryz.f99 spec_MetaBytes_b [.ro tMeta] [.own tYs] x
@[reducible] noncomputable def spec_MetaBytes_C : Ct := ⟨[.ro tMeta], [.own tYs], spec_MetaBytes_F⟩
theorem spec_MetaBytes_h (x : PsD [.ro tMeta]) (y : RsD [.own tYs] × PsO [.ro tMeta]) (h : spec_MetaBytes_F x = some y) : evFn spec_MetaBytes_E spec_MetaBytes_T Tryz.f99 spec_MetaBytes_b [.ro tMeta] [.own tYs] x = some y := h
theorem spec_MetaBytes_c : ∀ f c, get spec_MetaBytes_E.ct f = some c → Sat Tryz.prog f c := ct_cons spec_MetaOk_S (ct_cons spec_PutNum_S (ct_cons spec_l1Bit_S (ct_nil)))
theorem spec_MetaBytes_S : Sat Tryz.prog 99 spec_MetaBytes_C := fn_ok2 (envOk _) spec_MetaBytes_c mixedOk Tryz.func99 (by kernel_rfl : Tryz.f99.body = some spec_MetaBytes_b) (by kernel_rfl) (by kernel_rfl) spec_MetaBytes_h
noncomputable def spec_MetaBytes_Ke  (x0 : List Int × List (List Int) × Bool × Bool × Bool × Int × Unit) : Ex → AS → Option (RsD [.own tYs] × PsO [.ro tMeta]) := endK spec_MetaBytes_E Tryz.f99 [.ro tMeta] [.own tYs] (initL [.ro tMeta] (x0, ()) 0).1
noncomputable def spec_MetaBytes_B0 {R : Type} : AS → (Ex → AS → Option R) → Option R := fun A K => ev spec_MetaBytes_E spec_MetaBytes_T 0 (cA (cA (cB (cA (cB (cB (cB spec_MetaBytes_b))))))) A K
noncomputable def spec_MetaBytes_B2 {R : Type} : AS → (Ex → AS → Option R) → Option R := fun A K => ev spec_MetaBytes_E spec_MetaBytes_T 2 (cA (cA (cB (cA (cB (cB (cB (cB spec_MetaBytes_b)))))))) A K
noncomputable def spec_MetaBytes_B4 {R : Type} : AS → (Ex → AS → Option R) → Option R := fun A K => ev spec_MetaBytes_E spec_MetaBytes_T 4 (cA (cA (cB (cB (cA (cA (cB (cA (cA (cB (cA (cB (cB (cB (cB spec_MetaBytes_b))))))))))))))) A K
noncomputable def spec_MetaBytes_K0  (x0 : List Int × List (List Int) × Bool × Bool × Bool × Int × Unit) : Ex → AS → Option (RsD [.own tYs] × PsO [.ro tMeta]) := kBlk 0 (kSeq (fun A K => ev spec_MetaBytes_E spec_MetaBytes_T 1000 (cB (cB (cB (cB spec_MetaBytes_b)))) A K) (spec_MetaBytes_Ke x0))
noncomputable def spec_MetaBytes_K2  (x0 : List Int × List (List Int) × Bool × Bool × Bool × Int × Unit) : Ex → AS → Option (RsD [.own tYs] × PsO [.ro tMeta]) := kBlk 2 (kSeq (fun A K => ev spec_MetaBytes_E spec_MetaBytes_T 1000 (cB (cB (cB (cB (cB spec_MetaBytes_b))))) A K) (spec_MetaBytes_Ke x0))
noncomputable def spec_MetaBytes_K4 {R : Type} (K : Ex → AS → Option R) (n : Nat) : Ex → AS → Option R := kBlk 4 (kBlk 3 (kSeq (fun A K => ev spec_MetaBytes_E spec_MetaBytes_T 2 (cB (cB (cA (cA (cB (cA (cB (cB (cB (cB spec_MetaBytes_b)))))))))) A K) (iterK spec_MetaBytes_t2 K (iterG spec_MetaBytes_t2 spec_MetaBytes_B2 K n))))
noncomputable def spec_MetaBytes_x0_0 (d0 : List Int) (d1 : List (List Int)) (d2 : Bool) (d3 : Bool) (d4 : Bool) (d5 : Int) (d6 : List Int) : AS := ⟨[(1, .v (.one (.bptr 16 0))), (3, .v (.one (.own 960000)))], [(16, .box [.d true tIs d0, .d true tIss d1, .d true tB d2, .d true tB d3, .d true tB d4, .d true tI d5]), (960000, .arr 5 tY d6)]⟩
noncomputable def spec_MetaBytes_x2_0 (d0 : List Int) (d1 : List (List Int)) (d2 : Bool) (d3 : Bool) (d4 : Bool) (d5 : Int) (d6 : List Int) : AS := ⟨[(1, .v (.one (.bptr 16 0))), (3, .v (.one (.own 960600)))], [(16, .box [.d true tIs d0, .d true tIss d1, .d true tB d2, .d true tB d3, .d true tB d4, .d true tI d5]), (960600, .arr 5 tY d6)]⟩
noncomputable def spec_MetaBytes_x4_0 (d0 : Int) (d1 : List Int) (d2 : List (List Int)) (d3 : Bool) (d4 : Bool) (d5 : Bool) (d6 : Int) (d7 : List Int) : AS := ⟨[(1, .v (.one (.bptr 16 0))), (3, .v (.one (.own 961200))), (5, .v (.one (.d true tI d0)))], [(16, .box [.d true tIs d1, .d true tIss d2, .d true tB d3, .d true tB d4, .d true tB d5, .d true tI d6]), (961200, .arr 5 tY d7)]⟩
theorem spec_MetaBytes_l0 {R : Type} {K : Ex → AS → Option R} {s : spec_MetaBytes_t0.D} (n : Nat) {v : Option R} (h : iterG spec_MetaBytes_t0 spec_MetaBytes_B0 K n s = v) (hv : ∃ r, v = some r) : loopG spec_MetaBytes_t0 spec_MetaBytes_B0 K s = v := loop_eq (ev_mono _ _) n h hv
theorem spec_MetaBytes_l2 {R : Type} {K : Ex → AS → Option R} {s : spec_MetaBytes_t2.D} (n : Nat) {v : Option R} (h : iterG spec_MetaBytes_t2 spec_MetaBytes_B2 K n s = v) (hv : ∃ r, v = some r) : loopG spec_MetaBytes_t2 spec_MetaBytes_B2 K s = v := loop_eq (ev_mono _ _) n h hv
theorem spec_MetaBytes_l4 {R : Type} {K : Ex → AS → Option R} {s : spec_MetaBytes_t4.D} (n : Nat) {v : Option R} (h : iterG spec_MetaBytes_t4 spec_MetaBytes_B4 K n s = v) (hv : ∃ r, v = some r) : loopG spec_MetaBytes_t4 spec_MetaBytes_B4 K s = v := loop_eq (ev_mono _ _) n h hv
theorem spec_MetaBytes_main (x0 : List Int × List (List Int) × Bool × Bool × Bool × Int × Unit) : spec_MetaBytes_F (x0, ()) =
 (spec_MetaOk_F ((x0.1, (x0.2.1, (x0.2.2.1, (x0.2.2.2.1, (x0.2.2.2.2.1, (x0.2.2.2.2.2.1, ())))))), ())).bind fun y8 =>
 brk (!y8.1.1)
 (some ((([] : List Int), ()), ((), ())))
 ((spec_PutNum_F ((x0.1.length : Int), ())).bind fun y14 =>
 loopG spec_MetaBytes_t0 spec_MetaBytes_B0 (spec_MetaBytes_K0 x0) (((0 : Int), ()), ((x0.1, (x0.2.1, (x0.2.2.1, (x0.2.2.2.1, (x0.2.2.2.2.1, (x0.2.2.2.2.2.1, ())))))), (y14.1.1, ())))) := by kernel_rfl
theorem spec_MetaBytes_r0 {R : Type} (K : Ex → AS → Option R) (n : Nat) (t4 : Int) (b16_0 : List Int) (b16_1 : List (List Int)) (b16_2 : Bool) (b16_3 : Bool) (b16_4 : Bool) (b16_5 : Int) (a960000 : List Int) : iterG spec_MetaBytes_t0 spec_MetaBytes_B0 K (n + 1) ((t4, ()), ((b16_0, (b16_1, (b16_2, (b16_3, (b16_4, (b16_5, ())))))), (a960000, ()))) =
 brk (decide (t4 < (b16_0.length : Int)))
 (ck (decide (0 ≤ t4) && decide (t4 < b16_0.length)) ((spec_PutNum_F (rdD tI b16_0 t4, ())).bind fun y28 =>
 ck (decide ((a960000.length + y28.1.1.length) * 1 ≤ big47)) (iterG spec_MetaBytes_t0 spec_MetaBytes_B0 K n ((IntKind.i64.wrap (t4 + (1 : Int)), ()), ((b16_0, (b16_1, (b16_2, (b16_3, (b16_4, (b16_5, ())))))), (a960000 ++ y28.1.1, ()))))))
 (K (.exit 0) (spec_MetaBytes_x0_0 b16_0 b16_1 b16_2 b16_3 b16_4 b16_5 a960000)) := by kernel_rfl
theorem spec_MetaBytes_e0_0 (x0 : List Int × List (List Int) × Bool × Bool × Bool × Int × Unit) (d0 : List Int) (d1 : List (List Int)) (d2 : Bool) (d3 : Bool) (d4 : Bool) (d5 : Int) (d6 : List Int) : spec_MetaBytes_K0 x0 (.exit 0) (spec_MetaBytes_x0_0 d0 d1 d2 d3 d4 d5 d6) =
 loopG spec_MetaBytes_t2 spec_MetaBytes_B2 (spec_MetaBytes_K2 x0) (((0 : Int), ()), ((d0, (d1, (d2, (d3, (d4, (d5, ())))))), (d6, ()))) := by kernel_rfl
theorem spec_MetaBytes_r2 {R : Type} (K : Ex → AS → Option R) (n : Nat) (t5 : Int) (b16_0 : List Int) (b16_1 : List (List Int)) (b16_2 : Bool) (b16_3 : Bool) (b16_4 : Bool) (b16_5 : Int) (a960600 : List Int) : iterG spec_MetaBytes_t2 spec_MetaBytes_B2 K (n + 1) ((t5, ()), ((b16_0, (b16_1, (b16_2, (b16_3, (b16_4, (b16_5, ())))))), (a960600, ()))) =
 brk (decide (t5 < (3 : Int)))
 (ck (decide (0 ≤ t5) && decide (t5 < b16_1.length)) ((spec_PutNum_F (((rdD tIs b16_1 t5).length : Int), ())).bind fun y41 =>
 ck (decide ((a960600.length + y41.1.1.length) * 1 ≤ big47)) (loopG spec_MetaBytes_t4 spec_MetaBytes_B4 (spec_MetaBytes_K4 K n) ((t5, ((0 : Int), ())), ((b16_0, (b16_1, (b16_2, (b16_3, (b16_4, (b16_5, ())))))), (a960600 ++ y41.1.1, ()))))))
 (K (.exit 2) (spec_MetaBytes_x2_0 b16_0 b16_1 b16_2 b16_3 b16_4 b16_5 a960600)) := by kernel_rfl
theorem spec_MetaBytes_r4 {R : Type} (K : Ex → AS → Option R) (n : Nat) (t5 : Int) (t6 : Int) (b16_0 : List Int) (b16_1 : List (List Int)) (b16_2 : Bool) (b16_3 : Bool) (b16_4 : Bool) (b16_5 : Int) (a961200 : List Int) : iterG spec_MetaBytes_t4 spec_MetaBytes_B4 K (n + 1) ((t5, (t6, ())), ((b16_0, (b16_1, (b16_2, (b16_3, (b16_4, (b16_5, ())))))), (a961200, ()))) =
 ck (decide (0 ≤ t5) && decide (t5 < b16_1.length)) (brk (decide (t6 < ((rdD tIs b16_1 t5).length : Int)))
 (ck (decide (0 ≤ t5) && decide (t5 < b16_1.length)) (ck (decide (0 ≤ t6) && decide (t6 < (rdD tIs b16_1 t5).length)) ((spec_PutNum_F (rdD tI (rdD tIs b16_1 t5) t6, ())).bind fun y62 =>
 ck (decide ((a961200.length + y62.1.1.length) * 1 ≤ big47)) (iterG spec_MetaBytes_t4 spec_MetaBytes_B4 K n ((t5, (IntKind.i64.wrap (t6 + (1 : Int)), ())), ((b16_0, (b16_1, (b16_2, (b16_3, (b16_4, (b16_5, ())))))), (a961200 ++ y62.1.1, ())))))))
 (K (.exit 4) (spec_MetaBytes_x4_0 t5 b16_0 b16_1 b16_2 b16_3 b16_4 b16_5 a961200))) := by kernel_rfl
theorem spec_MetaBytes_e2_0 (x0 : List Int × List (List Int) × Bool × Bool × Bool × Int × Unit) (d0 : List Int) (d1 : List (List Int)) (d2 : Bool) (d3 : Bool) (d4 : Bool) (d5 : Int) (d6 : List Int) : spec_MetaBytes_K2 x0 (.exit 2) (spec_MetaBytes_x2_0 d0 d1 d2 d3 d4 d5 d6) =
 (spec_l1Bit_F (d2, ())).bind fun y67 =>
 (spec_l1Bit_F (d3, ())).bind fun y70 =>
 (spec_l1Bit_F (d4, ())).bind fun y75 =>
 (spec_PutNum_F (IntKind.i64.wrap ((IntKind.i64.wrap (y67.1.1 + (IntKind.i64.wrap ((2 : Int) * y70.1.1)))) + (IntKind.i64.wrap ((4 : Int) * y75.1.1))), ())).bind fun y78 =>
 ck (decide ((d6.length + y78.1.1.length) * 1 ≤ big47)) ((spec_PutNum_F (d5, ())).bind fun y83 =>
 ck (decide (((d6 ++ y78.1.1).length + y83.1.1.length) * 1 ≤ big47)) (some (((d6 ++ y78.1.1) ++ y83.1.1, ()), ((), ())))) := by kernel_rfl
theorem spec_MetaBytes_e4_0 {R : Type} (K : Ex → AS → Option R) (n : Nat) (d0 : Int) (d1 : List Int) (d2 : List (List Int)) (d3 : Bool) (d4 : Bool) (d5 : Bool) (d6 : Int) (d7 : List Int) : spec_MetaBytes_K4 K n (.exit 4) (spec_MetaBytes_x4_0 d0 d1 d2 d3 d4 d5 d6 d7) =
 iterG spec_MetaBytes_t2 spec_MetaBytes_B2 K n ((IntKind.i64.wrap (d0 + (1 : Int)), ()), ((d1, (d2, (d3, (d4, (d5, (d6, ())))))), (d7, ()))) := by kernel_rfl
/-! spec.MetaOf -/
noncomputable def spec_MetaOf_b : Code := bd Tryz.f82
@[reducible] def spec_MetaOf_t0 : Tm := ⟨[], [(80, 1, 960000)], [(0, .sc true tYs), (2, .ptr 32 0), (4, .ptr 176 0), (5, .ptr 80 0), (6, .sc true tI)], [(32, .box [.nil, .nil, .sc true tB, .sc true tB, .sc true tB, .sc true tI]), (80, .box [.own 224, .own 960000, .sc true tB, .sc true tB, .sc true tB, .sc true tI]), (176, .box [.sc true tYs, .sc true tI, .sc true tB]), (224, .arr 3 tI), (960000, .arr 22 tIs)], [0, 2, 4, 5, 51, 52, 53, 54, 55, 56, 59, 60, 61], [32, 80, 176, 224, 960000]⟩
def spec_MetaOf_T : List (Nat × Tm) := [(0, spec_MetaOf_t0)]
noncomputable def spec_MetaOf_E : Env := ⟨tt0, [(97, spec_l5Nums_C), (98, spec_l4Num_C), (99, spec_MetaBytes_C)]⟩
noncomputable def spec_MetaOf_F : PsD [.ro tYs] → Option (RsD [.own tMeta, .own tB] × PsO [.ro tYs]) := fun x => evFn spec_MetaOf_E spec_MetaOf_T Tryz.f82 spec_MetaOf_b [.ro tYs] [.own tMeta, .own tB] x
@[reducible] noncomputable def spec_MetaOf_C : Ct := ⟨[.ro tYs], [.own tMeta, .own tB], spec_MetaOf_F⟩
theorem spec_MetaOf_h (x : PsD [.ro tYs]) (y : RsD [.own tMeta, .own tB] × PsO [.ro tYs]) (h : spec_MetaOf_F x = some y) : evFn spec_MetaOf_E spec_MetaOf_T Tryz.f82 spec_MetaOf_b [.ro tYs] [.own tMeta, .own tB] x = some y := h
theorem spec_MetaOf_c : ∀ f c, get spec_MetaOf_E.ct f = some c → Sat Tryz.prog f c := ct_cons spec_l5Nums_S (ct_cons spec_l4Num_S (ct_cons spec_MetaBytes_S (ct_nil)))
theorem spec_MetaOf_S : Sat Tryz.prog 82 spec_MetaOf_C := fn_ok2 (envOk _) spec_MetaOf_c mixedOk Tryz.func82 (by kernel_rfl : Tryz.f82.body = some spec_MetaOf_b) (by kernel_rfl) (by kernel_rfl) spec_MetaOf_h
noncomputable def spec_MetaOf_Ke  (x0 : List Int) : Ex → AS → Option (RsD [.own tMeta, .own tB] × PsO [.ro tYs]) := endK spec_MetaOf_E Tryz.f82 [.ro tYs] [.own tMeta, .own tB] (initL [.ro tYs] (x0, ()) 0).1
noncomputable def spec_MetaOf_B0 {R : Type} : AS → (Ex → AS → Option R) → Option R := fun A K => ev spec_MetaOf_E spec_MetaOf_T 0 (cA (cA (cB (cA (cB (cB (cB (cB spec_MetaOf_b)))))))) A K
noncomputable def spec_MetaOf_K0  (x0 : List Int) : Ex → AS → Option (RsD [.own tMeta, .own tB] × PsO [.ro tYs]) := kBlk 0 (kSeq (fun A K => ev spec_MetaOf_E spec_MetaOf_T 1000 (cB (cB (cB (cB (cB spec_MetaOf_b))))) A K) (spec_MetaOf_Ke x0))
noncomputable def spec_MetaOf_x0_0 (d0 : List Int) (d1 : Bool) (d2 : Bool) (d3 : Bool) (d4 : Int) (d5 : Bool) (d6 : Bool) (d7 : Bool) (d8 : Int) (d9 : List Int) (d10 : Int) (d11 : Bool) (d12 : List Int) (d13 : List (List Int)) : AS := ⟨[(0, .v (.one (.d true tYs d0))), (2, .v (.one (.bptr 32 0))), (4, .v (.one (.bptr 176 0))), (5, .v (.one (.bptr 80 0)))], [(32, .box [.nil, .nil, .d true tB d1, .d true tB d2, .d true tB d3, .d true tI d4]), (80, .box [.own 224, .own 960000, .d true tB d5, .d true tB d6, .d true tB d7, .d true tI d8]), (176, .box [.d true tYs d9, .d true tI d10, .d true tB d11]), (224, .arr 3 tI d12), (960000, .arr 22 tIs d13)]⟩
theorem spec_MetaOf_l0 {R : Type} {K : Ex → AS → Option R} {s : spec_MetaOf_t0.D} (n : Nat) {v : Option R} (h : iterG spec_MetaOf_t0 spec_MetaOf_B0 K n s = v) (hv : ∃ r, v = some r) : loopG spec_MetaOf_t0 spec_MetaOf_B0 K s = v := loop_eq (ev_mono _ _) n h hv
theorem spec_MetaOf_main (x0 : List Int) : spec_MetaOf_F (x0, ()) =
 (spec_l5Nums_F ((x0, ((0 : Int), (true, ()))), ())).bind fun y14 =>
 loopG spec_MetaOf_t0 spec_MetaOf_B0 (spec_MetaOf_K0 x0) ((x0, ((0 : Int), ())), ((false, (false, (false, ((0 : Int), ())))), ((false, (false, (false, ((0 : Int), ())))), ((y14.2.1.1, (y14.2.1.2.1, (y14.2.1.2.2.1, ()))), (y14.1.1, (([] : List (List Int)), ())))))) := by kernel_rfl
theorem spec_MetaOf_r0 {R : Type} (K : Ex → AS → Option R) (n : Nat) (t0 : List Int) (t6 : Int) (b32_2 : Bool) (b32_3 : Bool) (b32_4 : Bool) (b32_5 : Int) (b80_2 : Bool) (b80_3 : Bool) (b80_4 : Bool) (b80_5 : Int) (b176_0 : List Int) (b176_1 : Int) (b176_2 : Bool) (a224 : List Int) (a960000 : List (List Int)) : iterG spec_MetaOf_t0 spec_MetaOf_B0 K (n + 1) ((t0, (t6, ())), ((b32_2, (b32_3, (b32_4, (b32_5, ())))), ((b80_2, (b80_3, (b80_4, (b80_5, ())))), ((b176_0, (b176_1, (b176_2, ()))), (a224, (a960000, ())))))) =
 brk (decide (t6 < (3 : Int)))
 ((spec_l5Nums_F ((b176_0, (b176_1, (b176_2, ()))), ())).bind fun y21 =>
 ck (decide ((a960000.length + [y21.1.1].length) * 24 ≤ big47)) (iterG spec_MetaOf_t0 spec_MetaOf_B0 K n ((t0, (IntKind.i64.wrap (t6 + (1 : Int)), ())), ((b32_2, (b32_3, (b32_4, (b32_5, ())))), ((b80_2, (b80_3, (b80_4, (b80_5, ())))), ((y21.2.1.1, (y21.2.1.2.1, (y21.2.1.2.2.1, ()))), (a224, (a960000 ++ [y21.1.1], ()))))))))
 (K (.exit 0) (spec_MetaOf_x0_0 t0 b32_2 b32_3 b32_4 b32_5 b80_2 b80_3 b80_4 b80_5 b176_0 b176_1 b176_2 a224 a960000)) := by kernel_rfl
theorem spec_MetaOf_e0_0 (x0 : List Int) (d0 : List Int) (d1 : Bool) (d2 : Bool) (d3 : Bool) (d4 : Int) (d5 : Bool) (d6 : Bool) (d7 : Bool) (d8 : Int) (d9 : List Int) (d10 : Int) (d11 : Bool) (d12 : List Int) (d13 : List (List Int)) : spec_MetaOf_K0 x0 (.exit 0) (spec_MetaOf_x0_0 d0 d1 d2 d3 d4 d5 d6 d7 d8 d9 d10 d11 d12 d13) =
 (spec_l4Num_F ((d9, (d10, (d11, ()))), ())).bind fun y29 =>
 (spec_l4Num_F ((y29.2.1.1, (y29.2.1.2.1, (y29.2.1.2.2.1, ()))), ())).bind fun y43 =>
 brk (!y43.2.1.2.2.1)
 (some (((([] : List Int), (([] : List (List Int)), (false, (false, (false, ((0 : Int), ())))))), (false, ())), ((), ())))
 ((spec_MetaBytes_F ((d12, (d13, (!decide (andN IntKind.i64 y29.1.1 (1 : Int) = (0 : Int)), (!decide (andN IntKind.i64 y29.1.1 (2 : Int) = (0 : Int)), (!decide (andN IntKind.i64 y29.1.1 (4 : Int) = (0 : Int)), (y43.1.1, ())))))), ())).bind fun y52 =>
 brk (!decide (y52.1.1 = d0))
 (some (((([] : List Int), (([] : List (List Int)), (false, (false, (false, ((0 : Int), ())))))), (false, ())), ((), ())))
 (brk (decide ((d0.length : Int) = (0 : Int)))
 (some (((([] : List Int), (([] : List (List Int)), (false, (false, (false, ((0 : Int), ())))))), (false, ())), ((), ())))
 (some (((d12, (d13, (!decide (andN IntKind.i64 y29.1.1 (1 : Int) = (0 : Int)), (!decide (andN IntKind.i64 y29.1.1 (2 : Int) = (0 : Int)), (!decide (andN IntKind.i64 y29.1.1 (4 : Int) = (0 : Int)), (y43.1.1, ())))))), (true, ())), ((), ()))))) := by kernel_rfl
/-! spec.l4Sum -/
noncomputable def spec_l4Sum_b : Code := bd Tryz.f100
def spec_l4Sum_T : List (Nat × Tm) := []
noncomputable def spec_l4Sum_E : Env := ⟨tt0, []⟩
noncomputable def spec_l4Sum_F : PsD [.ro tI] → Option (RsD [.own tYs] × PsO [.ro tI]) := fun x => evFn spec_l4Sum_E spec_l4Sum_T Tryz.f100 spec_l4Sum_b [.ro tI] [.own tYs] x
@[reducible] noncomputable def spec_l4Sum_C : Ct := ⟨[.ro tI], [.own tYs], spec_l4Sum_F⟩
theorem spec_l4Sum_h (x : PsD [.ro tI]) (y : RsD [.own tYs] × PsO [.ro tI]) (h : spec_l4Sum_F x = some y) : evFn spec_l4Sum_E spec_l4Sum_T Tryz.f100 spec_l4Sum_b [.ro tI] [.own tYs] x = some y := h
theorem spec_l4Sum_c : ∀ f c, get spec_l4Sum_E.ct f = some c → Sat Tryz.prog f c := ct_nil
theorem spec_l4Sum_S : Sat Tryz.prog 100 spec_l4Sum_C := fn_ok2 (envOk _) spec_l4Sum_c mixedOk Tryz.func100 (by kernel_rfl : Tryz.f100.body = some spec_l4Sum_b) (by kernel_rfl) (by kernel_rfl) spec_l4Sum_h
noncomputable def spec_l4Sum_Ke  (x0 : Int) : Ex → AS → Option (RsD [.own tYs] × PsO [.ro tI]) := endK spec_l4Sum_E Tryz.f100 [.ro tI] [.own tYs] (initL [.ro tI] (x0, ()) 0).1
theorem spec_l4Sum_main (x0 : Int) : spec_l4Sum_F (x0, ()) =
 some (([IntKind.u8.wrap (andN IntKind.i64 x0 (255 : Int)), IntKind.u8.wrap (andN IntKind.i64 (shrN IntKind.i64 x0 (8 : Int)) (255 : Int)), IntKind.u8.wrap (andN IntKind.i64 (shrN IntKind.i64 x0 (16 : Int)) (255 : Int)), IntKind.u8.wrap (andN IntKind.i64 (shrN IntKind.i64 x0 (24 : Int)) (255 : Int))], ()), ((), ())) := by kernel_rfl
/-! spec.l6Slot -/
noncomputable def spec_l6Slot_b : Code := bd Tryz.f83
@[reducible] def spec_l6Slot_t0 : Tm := ⟨[(6, 960000)], [], [(1, .sc true tI), (6, .own 960000)], [(960000, .arr 5 tY)], [1, 6], [960000]⟩
def spec_l6Slot_T : List (Nat × Tm) := [(0, spec_l6Slot_t0)]
noncomputable def spec_l6Slot_E : Env := ⟨tt0, [(99, spec_MetaBytes_C), (100, spec_l4Sum_C)]⟩
noncomputable def spec_l6Slot_F : PsD [.ro tMeta, .ro tI] → Option (RsD [.own tYs] × PsO [.ro tMeta, .ro tI]) := fun x => evFn spec_l6Slot_E spec_l6Slot_T Tryz.f83 spec_l6Slot_b [.ro tMeta, .ro tI] [.own tYs] x
@[reducible] noncomputable def spec_l6Slot_C : Ct := ⟨[.ro tMeta, .ro tI], [.own tYs], spec_l6Slot_F⟩
theorem spec_l6Slot_h (x : PsD [.ro tMeta, .ro tI]) (y : RsD [.own tYs] × PsO [.ro tMeta, .ro tI]) (h : spec_l6Slot_F x = some y) : evFn spec_l6Slot_E spec_l6Slot_T Tryz.f83 spec_l6Slot_b [.ro tMeta, .ro tI] [.own tYs] x = some y := h
theorem spec_l6Slot_c : ∀ f c, get spec_l6Slot_E.ct f = some c → Sat Tryz.prog f c := ct_cons spec_MetaBytes_S (ct_cons spec_l4Sum_S (ct_nil))
theorem spec_l6Slot_S : Sat Tryz.prog 83 spec_l6Slot_C := fn_ok2 (envOk _) spec_l6Slot_c mixedOk Tryz.func83 (by kernel_rfl : Tryz.f83.body = some spec_l6Slot_b) (by kernel_rfl) (by kernel_rfl) spec_l6Slot_h
noncomputable def spec_l6Slot_Ke  (x0 : List Int × List (List Int) × Bool × Bool × Bool × Int × Unit) (x1 : Int) : Ex → AS → Option (RsD [.own tYs] × PsO [.ro tMeta, .ro tI]) := endK spec_l6Slot_E Tryz.f83 [.ro tMeta, .ro tI] [.own tYs] (initL [.ro tMeta, .ro tI] (x0, (x1, ())) 0).1
noncomputable def spec_l6Slot_B0 {R : Type} : AS → (Ex → AS → Option R) → Option R := fun A K => ev spec_l6Slot_E spec_l6Slot_T 0 (cA (cA (cA (cB (cB (cB (cB spec_l6Slot_b))))))) A K
noncomputable def spec_l6Slot_K0  (x0 : List Int × List (List Int) × Bool × Bool × Bool × Int × Unit) (x1 : Int) : Ex → AS → Option (RsD [.own tYs] × PsO [.ro tMeta, .ro tI]) := kBlk 0 (kSeq (fun A K => ev spec_l6Slot_E spec_l6Slot_T 1000 (cB (cB (cB (cB (cB spec_l6Slot_b))))) A K) (spec_l6Slot_Ke x0 x1))
noncomputable def spec_l6Slot_x0_0 (d0 : Int) (d1 : List Int) : AS := ⟨[(1, .v (.one (.d true tI d0))), (6, .v (.one (.own 960000)))], [(960000, .arr 5 tY d1)]⟩
theorem spec_l6Slot_l0 {R : Type} {K : Ex → AS → Option R} {s : spec_l6Slot_t0.D} (n : Nat) {v : Option R} (h : iterG spec_l6Slot_t0 spec_l6Slot_B0 K n s = v) (hv : ∃ r, v = some r) : loopG spec_l6Slot_t0 spec_l6Slot_B0 K s = v := loop_eq (ev_mono _ _) n h hv
theorem spec_l6Slot_main (x0 : List Int × List (List Int) × Bool × Bool × Bool × Int × Unit) (x1 : Int) : spec_l6Slot_F (x0, (x1, ())) =
 (spec_MetaBytes_F ((x0.1, (x0.2.1, (x0.2.2.1, (x0.2.2.2.1, (x0.2.2.2.2.1, (x0.2.2.2.2.2.1, ())))))), ())).bind fun y8 =>
 (spec_l4Sum_F (x1, ())).bind fun y10 =>
 ck (decide ((y10.1.1.length + [IntKind.u8.wrap (y8.1.1.length : Int)].length) * 1 ≤ big47)) (ck (decide (((y10.1.1 ++ [IntKind.u8.wrap (y8.1.1.length : Int)]).length + y8.1.1.length) * 1 ≤ big47)) (loopG spec_l6Slot_t0 spec_l6Slot_B0 (spec_l6Slot_K0 x0 x1) ((x1, ()), ((y10.1.1 ++ [IntKind.u8.wrap (y8.1.1.length : Int)]) ++ y8.1.1, ())))) := by kernel_rfl
theorem spec_l6Slot_r0 {R : Type} (K : Ex → AS → Option R) (n : Nat) (t1 : Int) (a960000 : List Int) : iterG spec_l6Slot_t0 spec_l6Slot_B0 K (n + 1) ((t1, ()), (a960000, ())) =
 brk (decide ((a960000.length : Int) < (156 : Int)))
 (ck (decide ((a960000.length + [(0 : Int)].length) * 1 ≤ big47)) (iterG spec_l6Slot_t0 spec_l6Slot_B0 K n ((t1, ()), (a960000 ++ [(0 : Int)], ()))))
 (K (.exit 0) (spec_l6Slot_x0_0 t1 a960000)) := by kernel_rfl
theorem spec_l6Slot_e0_0 (x0 : List Int × List (List Int) × Bool × Bool × Bool × Int × Unit) (x1 : Int) (d0 : Int) (d1 : List Int) : spec_l6Slot_K0 x0 x1 (.exit 0) (spec_l6Slot_x0_0 d0 d1) =
 (spec_l4Sum_F (d0, ())).bind fun y27 =>
 ck (decide ((d1.length + y27.1.1.length) * 1 ≤ big47)) (some ((d1 ++ y27.1.1, ()), ((), ((), ())))) := by kernel_rfl
/-! spec.SlotOf -/
noncomputable def spec_SlotOf_b : Code := bd Tryz.f60
def spec_SlotOf_T : List (Nat × Tm) := []
noncomputable def spec_SlotOf_E : Env := ⟨tt0, [(54, spec_l1In_C), (82, spec_MetaOf_C), (83, spec_l6Slot_C)]⟩
noncomputable def spec_SlotOf_F : PsD [.ro tYs] → Option (RsD [.own tMeta, .own tI, .own tB] × PsO [.ro tYs]) := fun x => evFn spec_SlotOf_E spec_SlotOf_T Tryz.f60 spec_SlotOf_b [.ro tYs] [.own tMeta, .own tI, .own tB] x
@[reducible] noncomputable def spec_SlotOf_C : Ct := ⟨[.ro tYs], [.own tMeta, .own tI, .own tB], spec_SlotOf_F⟩
theorem spec_SlotOf_h (x : PsD [.ro tYs]) (y : RsD [.own tMeta, .own tI, .own tB] × PsO [.ro tYs]) (h : spec_SlotOf_F x = some y) : evFn spec_SlotOf_E spec_SlotOf_T Tryz.f60 spec_SlotOf_b [.ro tYs] [.own tMeta, .own tI, .own tB] x = some y := h
theorem spec_SlotOf_c : ∀ f c, get spec_SlotOf_E.ct f = some c → Sat Tryz.prog f c := ct_cons spec_l1In_S (ct_cons spec_MetaOf_S (ct_cons spec_l6Slot_S (ct_nil)))
theorem spec_SlotOf_S : Sat Tryz.prog 60 spec_SlotOf_C := fn_ok2 (envOk _) spec_SlotOf_c mixedOk Tryz.func60 (by kernel_rfl : Tryz.f60.body = some spec_SlotOf_b) (by kernel_rfl) (by kernel_rfl) spec_SlotOf_h
noncomputable def spec_SlotOf_Ke  (x0 : List Int) : Ex → AS → Option (RsD [.own tMeta, .own tI, .own tB] × PsO [.ro tYs]) := endK spec_SlotOf_E Tryz.f60 [.ro tYs] [.own tMeta, .own tI, .own tB] (initL [.ro tYs] (x0, ()) 0).1
theorem spec_SlotOf_main (x0 : List Int) : spec_SlotOf_F (x0, ()) =
 brk (!decide ((x0.length : Int) = (160 : Int)))
 (some (((([] : List Int), (([] : List (List Int)), (false, (false, (false, ((0 : Int), ())))))), ((0 : Int), (false, ()))), ((), ())))
 (ck (decide (0 ≤ (0 : Int)) && decide ((0 : Int) < x0.length)) (ck (decide (0 ≤ (1 : Int)) && decide ((1 : Int) < x0.length)) (ck (decide (0 ≤ (2 : Int)) && decide ((2 : Int) < x0.length)) (ck (decide (0 ≤ (3 : Int)) && decide ((3 : Int) < x0.length)) (ck (decide (0 ≤ (4 : Int)) && decide ((4 : Int) < x0.length)) ((spec_l1In_F (IntKind.i64.wrap ((IntKind.i64.wrap ((IntKind.i64.wrap ((IntKind.i64.wrap (rdD tY x0 (0 : Int))) + (shlN IntKind.i64 (IntKind.i64.wrap (rdD tY x0 (1 : Int))) (8 : Int)))) + (shlN IntKind.i64 (IntKind.i64.wrap (rdD tY x0 (2 : Int))) (16 : Int)))) + (shlN IntKind.i64 (IntKind.i64.wrap (rdD tY x0 (3 : Int))) (24 : Int))), ((1 : Int), ((1000000 : Int), ())))).bind fun y40 =>
 brk (!y40.1.1)
 (some (((([] : List Int), (([] : List (List Int)), (false, (false, (false, ((0 : Int), ())))))), ((0 : Int), (false, ()))), ((), ())))
 (brk (decide ((151 : Int) < IntKind.i64.wrap (rdD tY x0 (4 : Int))))
 (some (((([] : List Int), (([] : List (List Int)), (false, (false, (false, ((0 : Int), ())))))), ((0 : Int), (false, ()))), ((), ())))
 (ck (decide (0 ≤ (5 : Int)) && decide ((5 : Int) ≤ IntKind.i64.wrap ((5 : Int) + (IntKind.i64.wrap (rdD tY x0 (4 : Int))))) && decide (IntKind.i64.wrap ((5 : Int) + (IntKind.i64.wrap (rdD tY x0 (4 : Int)))) ≤ x0.length)) ((spec_MetaOf_F ((x0.take (IntKind.i64.wrap ((5 : Int) + (IntKind.i64.wrap (rdD tY x0 (4 : Int))))).toNat).drop (5 : Int).toNat, ())).bind fun y52 =>
 brk (!y52.1.2.1)
 (some (((([] : List Int), (([] : List (List Int)), (false, (false, (false, ((0 : Int), ())))))), ((0 : Int), (false, ()))), ((), ())))
 ((spec_l6Slot_F ((y52.1.1.1, (y52.1.1.2.1, (y52.1.1.2.2.1, (y52.1.1.2.2.2.1, (y52.1.1.2.2.2.2.1, (y52.1.1.2.2.2.2.2.1, ())))))), (IntKind.i64.wrap ((IntKind.i64.wrap ((IntKind.i64.wrap ((IntKind.i64.wrap (rdD tY x0 (0 : Int))) + (shlN IntKind.i64 (IntKind.i64.wrap (rdD tY x0 (1 : Int))) (8 : Int)))) + (shlN IntKind.i64 (IntKind.i64.wrap (rdD tY x0 (2 : Int))) (16 : Int)))) + (shlN IntKind.i64 (IntKind.i64.wrap (rdD tY x0 (3 : Int))) (24 : Int))), ()))).bind fun y60 =>
 brk (!decide (y60.1.1 = x0))
 (some (((([] : List Int), (([] : List (List Int)), (false, (false, (false, ((0 : Int), ())))))), ((0 : Int), (false, ()))), ((), ())))
 (some (((y52.1.1.1, (y52.1.1.2.1, (y52.1.1.2.2.1, (y52.1.1.2.2.2.1, (y52.1.1.2.2.2.2.1, (y52.1.1.2.2.2.2.2.1, ())))))), (IntKind.i64.wrap ((IntKind.i64.wrap ((IntKind.i64.wrap ((IntKind.i64.wrap (rdD tY x0 (0 : Int))) + (shlN IntKind.i64 (IntKind.i64.wrap (rdD tY x0 (1 : Int))) (8 : Int)))) + (shlN IntKind.i64 (IntKind.i64.wrap (rdD tY x0 (2 : Int))) (16 : Int)))) + (shlN IntKind.i64 (IntKind.i64.wrap (rdD tY x0 (3 : Int))) (24 : Int))), (true, ()))), ((), ()))))))))))))) := by kernel_rfl
/-! spec.l6Which -/
noncomputable def spec_l6Which_b : Code := bd Tryz.f59
def spec_l6Which_T : List (Nat × Tm) := []
noncomputable def spec_l6Which_E : Env := ⟨tt0, [(60, spec_SlotOf_C)]⟩
noncomputable def spec_l6Which_F : PsD [.ro tSlots] → Option (RsD [.own tI] × PsO [.ro tSlots]) := fun x => evFn spec_l6Which_E spec_l6Which_T Tryz.f59 spec_l6Which_b [.ro tSlots] [.own tI] x
@[reducible] noncomputable def spec_l6Which_C : Ct := ⟨[.ro tSlots], [.own tI], spec_l6Which_F⟩
theorem spec_l6Which_h (x : PsD [.ro tSlots]) (y : RsD [.own tI] × PsO [.ro tSlots]) (h : spec_l6Which_F x = some y) : evFn spec_l6Which_E spec_l6Which_T Tryz.f59 spec_l6Which_b [.ro tSlots] [.own tI] x = some y := h
theorem spec_l6Which_c : ∀ f c, get spec_l6Which_E.ct f = some c → Sat Tryz.prog f c := ct_cons spec_SlotOf_S (ct_nil)
theorem spec_l6Which_S : Sat Tryz.prog 59 spec_l6Which_C := fn_ok2 (envOk _) spec_l6Which_c mixedOk Tryz.func59 (by kernel_rfl : Tryz.f59.body = some spec_l6Which_b) (by kernel_rfl) (by kernel_rfl) spec_l6Which_h
noncomputable def spec_l6Which_Ke  (x0 : List Int × List Int × Unit) : Ex → AS → Option (RsD [.own tI] × PsO [.ro tSlots]) := endK spec_l6Which_E Tryz.f59 [.ro tSlots] [.own tI] (initL [.ro tSlots] (x0, ()) 0).1
theorem spec_l6Which_main (x0 : List Int × List Int × Unit) : spec_l6Which_F (x0, ()) =
 (spec_SlotOf_F (x0.1, ())).bind fun y12 =>
 (spec_SlotOf_F (x0.2.1, ())).bind fun y19 =>
 brk y12.1.2.2.1
 (brk (!y19.1.2.2.1)
 (some (((0 : Int), ()), ((), ())))
 (brk (decide (y19.1.2.1 ≤ y12.1.2.1))
 (some (((0 : Int), ()), ((), ())))
 (brk y19.1.2.2.1
 (some (((1 : Int), ()), ((), ())))
 (some (((-1 : Int), ()), ((), ()))))))
 (brk y19.1.2.2.1
 (some (((1 : Int), ()), ((), ())))
 (some (((-1 : Int), ()), ((), ())))) := by kernel_rfl
/-! spec.SlotGet -/
noncomputable def spec_SlotGet_b : Code := bd Tryz.f27
def spec_SlotGet_T : List (Nat × Tm) := []
noncomputable def spec_SlotGet_E : Env := ⟨tt0, [(59, spec_l6Which_C), (60, spec_SlotOf_C)]⟩
noncomputable def spec_SlotGet_F : PsD [.ro tSlots] → Option (RsD [.own tMeta, .own tI, .own tB] × PsO [.ro tSlots]) := fun x => evFn spec_SlotGet_E spec_SlotGet_T Tryz.f27 spec_SlotGet_b [.ro tSlots] [.own tMeta, .own tI, .own tB] x
@[reducible] noncomputable def spec_SlotGet_C : Ct := ⟨[.ro tSlots], [.own tMeta, .own tI, .own tB], spec_SlotGet_F⟩
theorem spec_SlotGet_h (x : PsD [.ro tSlots]) (y : RsD [.own tMeta, .own tI, .own tB] × PsO [.ro tSlots]) (h : spec_SlotGet_F x = some y) : evFn spec_SlotGet_E spec_SlotGet_T Tryz.f27 spec_SlotGet_b [.ro tSlots] [.own tMeta, .own tI, .own tB] x = some y := h
theorem spec_SlotGet_c : ∀ f c, get spec_SlotGet_E.ct f = some c → Sat Tryz.prog f c := ct_cons spec_l6Which_S (ct_cons spec_SlotOf_S (ct_nil))
theorem spec_SlotGet_S : Sat Tryz.prog 27 spec_SlotGet_C := fn_ok2 (envOk _) spec_SlotGet_c mixedOk Tryz.func27 (by kernel_rfl : Tryz.f27.body = some spec_SlotGet_b) (by kernel_rfl) (by kernel_rfl) spec_SlotGet_h
noncomputable def spec_SlotGet_Ke  (x0 : List Int × List Int × Unit) : Ex → AS → Option (RsD [.own tMeta, .own tI, .own tB] × PsO [.ro tSlots]) := endK spec_SlotGet_E Tryz.f27 [.ro tSlots] [.own tMeta, .own tI, .own tB] (initL [.ro tSlots] (x0, ()) 0).1
theorem spec_SlotGet_main (x0 : List Int × List Int × Unit) : spec_SlotGet_F (x0, ()) =
 (spec_l6Which_F ((x0.1, (x0.2.1, ())), ())).bind fun y12 =>
 brk (decide (y12.1.1 = (1 : Int)))
 ((spec_SlotOf_F (x0.2.1, ())).bind fun y18 =>
 some (((y18.1.1.1, (y18.1.1.2.1, (y18.1.1.2.2.1, (y18.1.1.2.2.2.1, (y18.1.1.2.2.2.2.1, (y18.1.1.2.2.2.2.2.1, ())))))), (y18.1.2.1, (y18.1.2.2.1, ()))), ((), ())))
 ((spec_SlotOf_F (x0.1, ())).bind fun y18 =>
 some (((y18.1.1.1, (y18.1.1.2.1, (y18.1.1.2.2.1, (y18.1.1.2.2.2.1, (y18.1.1.2.2.2.2.1, (y18.1.1.2.2.2.2.2.1, ())))))), (y18.1.2.1, (y18.1.2.2.1, ()))), ((), ()))) := by kernel_rfl
/-! spec.ImageOk -/
noncomputable def spec_ImageOk_b : Code := bd Tryz.f55
@[reducible] def spec_ImageOk_t0 : Tm := ⟨[], [], [(0, .sc true tIs), (3, .sc true tI)], [], [0, 2], []⟩
def spec_ImageOk_T : List (Nat × Tm) := [(0, spec_ImageOk_t0)]
noncomputable def spec_ImageOk_E : Env := ⟨tt0, [(54, spec_l1In_C)]⟩
noncomputable def spec_ImageOk_F : PsD [.ro tIs] → Option (RsD [.own tB] × PsO [.ro tIs]) := fun x => evFn spec_ImageOk_E spec_ImageOk_T Tryz.f55 spec_ImageOk_b [.ro tIs] [.own tB] x
@[reducible] noncomputable def spec_ImageOk_C : Ct := ⟨[.ro tIs], [.own tB], spec_ImageOk_F⟩
theorem spec_ImageOk_h (x : PsD [.ro tIs]) (y : RsD [.own tB] × PsO [.ro tIs]) (h : spec_ImageOk_F x = some y) : evFn spec_ImageOk_E spec_ImageOk_T Tryz.f55 spec_ImageOk_b [.ro tIs] [.own tB] x = some y := h
theorem spec_ImageOk_c : ∀ f c, get spec_ImageOk_E.ct f = some c → Sat Tryz.prog f c := ct_cons spec_l1In_S (ct_nil)
theorem spec_ImageOk_S : Sat Tryz.prog 55 spec_ImageOk_C := fn_ok2 (envOk _) spec_ImageOk_c mixedOk Tryz.func55 (by kernel_rfl : Tryz.f55.body = some spec_ImageOk_b) (by kernel_rfl) (by kernel_rfl) spec_ImageOk_h
noncomputable def spec_ImageOk_Ke  (x0 : List Int) : Ex → AS → Option (RsD [.own tB] × PsO [.ro tIs]) := endK spec_ImageOk_E Tryz.f55 [.ro tIs] [.own tB] (initL [.ro tIs] (x0, ()) 0).1
noncomputable def spec_ImageOk_B0 {R : Type} : AS → (Ex → AS → Option R) → Option R := fun A K => ev spec_ImageOk_E spec_ImageOk_T 0 (cA (cA (cB (cA (cB spec_ImageOk_b))))) A K
noncomputable def spec_ImageOk_K0  (x0 : List Int) : Ex → AS → Option (RsD [.own tB] × PsO [.ro tIs]) := kBlk 0 (kSeq (fun A K => ev spec_ImageOk_E spec_ImageOk_T 1000 (cB (cB spec_ImageOk_b)) A K) (spec_ImageOk_Ke x0))
noncomputable def spec_ImageOk_x0_0 (d0 : List Int) (d1 : Bool) : AS := ⟨[(0, .v (.one (.d true tIs d0))), (2, .v (.one (.d true tB d1)))], []⟩
noncomputable def spec_ImageOk_x0_1 (d0 : List Int) : AS := ⟨[(0, .v (.one (.d true tIs d0)))], []⟩
theorem spec_ImageOk_l0 {R : Type} {K : Ex → AS → Option R} {s : spec_ImageOk_t0.D} (n : Nat) {v : Option R} (h : iterG spec_ImageOk_t0 spec_ImageOk_B0 K n s = v) (hv : ∃ r, v = some r) : loopG spec_ImageOk_t0 spec_ImageOk_B0 K s = v := loop_eq (ev_mono _ _) n h hv
theorem spec_ImageOk_main (x0 : List Int) : spec_ImageOk_F (x0, ()) =
 loopG spec_ImageOk_t0 spec_ImageOk_B0 (spec_ImageOk_K0 x0) ((x0, ((0 : Int), ())), ()) := by kernel_rfl
theorem spec_ImageOk_r0 {R : Type} (K : Ex → AS → Option R) (n : Nat) (t0 : List Int) (t3 : Int) : iterG spec_ImageOk_t0 spec_ImageOk_B0 K (n + 1) ((t0, (t3, ())), ()) =
 brk (decide (t3 < (t0.length : Int)))
 (ck (decide (0 ≤ t3) && decide (t3 < t0.length)) ((spec_l1In_F (rdD tI t0 t3, ((0 : Int), ((200 : Int), ())))).bind fun y14 =>
 brk (!y14.1.1)
 (K .ret (spec_ImageOk_x0_0 t0 false))
 (iterG spec_ImageOk_t0 spec_ImageOk_B0 K n ((t0, (IntKind.i64.wrap (t3 + (1 : Int)), ())), ()))))
 (K (.exit 0) (spec_ImageOk_x0_1 t0)) := by kernel_rfl
theorem spec_ImageOk_e0_0 (x0 : List Int) (d0 : List Int) (d1 : Bool) : spec_ImageOk_K0 x0 .ret (spec_ImageOk_x0_0 d0 d1) =
 some ((d1, ()), ((), ())) := by kernel_rfl
theorem spec_ImageOk_e0_1 (x0 : List Int) (d0 : List Int) : spec_ImageOk_K0 x0 (.exit 0) (spec_ImageOk_x0_1 d0) =
 some ((decide ((d0.length : Int) = (8 : Int)), ()), ((), ())) := by kernel_rfl
/-! spec.l8Links -/
noncomputable def spec_l8Links_b : Code := bd Tryz.f57
@[reducible] def spec_l8Links_t0 : Tm := ⟨[], [], [(1, .ptr 16 0), (3, .sc true tI)], [(16, .box [.sc true tI, .sc true tB, .sc true tB, .sc true tIs, .sc true tIs, .sc true tIss, .sc true tB, .sc true tB, .sc true tB, .sc true tI, .sc true tYs, .sc true tYs, .sc true tBs, .sc true tIss, .sc true tBs, .sc true tIs])], [2], []⟩
def spec_l8Links_T : List (Nat × Tm) := [(0, spec_l8Links_t0)]
noncomputable def spec_l8Links_E : Env := ⟨tt0, [(79, spec_MarksOk_C)]⟩
noncomputable def spec_l8Links_F : PsD [.ro tNode] → Option (RsD [.own tB] × PsO [.ro tNode]) := fun x => evFn spec_l8Links_E spec_l8Links_T Tryz.f57 spec_l8Links_b [.ro tNode] [.own tB] x
@[reducible] noncomputable def spec_l8Links_C : Ct := ⟨[.ro tNode], [.own tB], spec_l8Links_F⟩
theorem spec_l8Links_h (x : PsD [.ro tNode]) (y : RsD [.own tB] × PsO [.ro tNode]) (h : spec_l8Links_F x = some y) : evFn spec_l8Links_E spec_l8Links_T Tryz.f57 spec_l8Links_b [.ro tNode] [.own tB] x = some y := h
theorem spec_l8Links_c : ∀ f c, get spec_l8Links_E.ct f = some c → Sat Tryz.prog f c := ct_cons spec_MarksOk_S (ct_nil)
theorem spec_l8Links_S : Sat Tryz.prog 57 spec_l8Links_C := fn_ok2 (envOk _) spec_l8Links_c mixedOk Tryz.func57 (by kernel_rfl : Tryz.f57.body = some spec_l8Links_b) (by kernel_rfl) (by kernel_rfl) spec_l8Links_h
noncomputable def spec_l8Links_Ke  (x0 : Int × Bool × Bool × List Int × (List Int × List (List Int) × Bool × Bool × Bool × Int × Unit) × (List Int × List Int × Unit) × List Bool × List (List Int) × List Bool × List Int × Unit) : Ex → AS → Option (RsD [.own tB] × PsO [.ro tNode]) := endK spec_l8Links_E Tryz.f57 [.ro tNode] [.own tB] (initL [.ro tNode] (x0, ()) 0).1
noncomputable def spec_l8Links_B0 {R : Type} : AS → (Ex → AS → Option R) → Option R := fun A K => ev spec_l8Links_E spec_l8Links_T 0 (cA (cA (cB (cA (cB (cB spec_l8Links_b)))))) A K
noncomputable def spec_l8Links_K0  (x0 : Int × Bool × Bool × List Int × (List Int × List (List Int) × Bool × Bool × Bool × Int × Unit) × (List Int × List Int × Unit) × List Bool × List (List Int) × List Bool × List Int × Unit) : Ex → AS → Option (RsD [.own tB] × PsO [.ro tNode]) := kBlk 0 (kSeq (fun A K => ev spec_l8Links_E spec_l8Links_T 1000 (cB (cB (cB spec_l8Links_b))) A K) (spec_l8Links_Ke x0))
noncomputable def spec_l8Links_x0_0 (d0 : Bool) : AS := ⟨[(2, .v (.one (.d true tB d0)))], []⟩
noncomputable def spec_l8Links_x0_1 : AS := ⟨[], []⟩
theorem spec_l8Links_l0 {R : Type} {K : Ex → AS → Option R} {s : spec_l8Links_t0.D} (n : Nat) {v : Option R} (h : iterG spec_l8Links_t0 spec_l8Links_B0 K n s = v) (hv : ∃ r, v = some r) : loopG spec_l8Links_t0 spec_l8Links_B0 K s = v := loop_eq (ev_mono _ _) n h hv
theorem spec_l8Links_main (x0 : Int × Bool × Bool × List Int × (List Int × List (List Int) × Bool × Bool × Bool × Int × Unit) × (List Int × List Int × Unit) × List Bool × List (List Int) × List Bool × List Int × Unit) : spec_l8Links_F (x0, ()) =
 brk (!decide ((x0.2.2.2.2.2.2.1.length : Int) = (3 : Int)))
 (some ((false, ()), ((), ())))
 (brk (!decide ((x0.2.2.2.2.2.2.2.1.length : Int) = (3 : Int)))
 (some ((false, ()), ((), ())))
 (brk (!decide ((x0.2.2.2.2.2.2.2.2.1.length : Int) = (3 : Int)))
 (some ((false, ()), ((), ())))
 (loopG spec_l8Links_t0 spec_l8Links_B0 (spec_l8Links_K0 x0) (((0 : Int), ()), ((x0.1, (x0.2.1, (x0.2.2.1, (x0.2.2.2.1, (x0.2.2.2.2.1.1, (x0.2.2.2.2.1.2.1, (x0.2.2.2.2.1.2.2.1, (x0.2.2.2.2.1.2.2.2.1, (x0.2.2.2.2.1.2.2.2.2.1, (x0.2.2.2.2.1.2.2.2.2.2.1, (x0.2.2.2.2.2.1.1, (x0.2.2.2.2.2.1.2.1, (x0.2.2.2.2.2.2.1, (x0.2.2.2.2.2.2.2.1, (x0.2.2.2.2.2.2.2.2.1, (x0.2.2.2.2.2.2.2.2.2.1, ())))))))))))))))), ()))))) := by kernel_rfl
theorem spec_l8Links_r0 {R : Type} (K : Ex → AS → Option R) (n : Nat) (t3 : Int) (b16_0 : Int) (b16_1 : Bool) (b16_2 : Bool) (b16_3 : List Int) (b16_4 : List Int) (b16_5 : List (List Int)) (b16_6 : Bool) (b16_7 : Bool) (b16_8 : Bool) (b16_9 : Int) (b16_10 : List Int) (b16_11 : List Int) (b16_12 : List Bool) (b16_13 : List (List Int)) (b16_14 : List Bool) (b16_15 : List Int) : iterG spec_l8Links_t0 spec_l8Links_B0 K (n + 1) ((t3, ()), ((b16_0, (b16_1, (b16_2, (b16_3, (b16_4, (b16_5, (b16_6, (b16_7, (b16_8, (b16_9, (b16_10, (b16_11, (b16_12, (b16_13, (b16_14, (b16_15, ())))))))))))))))), ())) =
 brk (decide (t3 < (3 : Int)))
 (ck (decide (0 ≤ t3) && decide (t3 < b16_13.length)) ((spec_MarksOk_F (rdD tIs b16_13 t3, ())).bind fun y29 =>
 brk (!y29.1.1)
 (K .ret (spec_l8Links_x0_0 false))
 (ck (decide (0 ≤ t3) && decide (t3 < b16_13.length)) (brk (decide ((0 : Int) < ((rdD tIs b16_13 t3).length : Int)))
 (ck (decide (0 ≤ t3) && decide (t3 < b16_14.length)) (brk (!(rdD tB b16_14 t3))
 (K .ret (spec_l8Links_x0_0 false))
 (ck (decide (0 ≤ t3) && decide (t3 < b16_14.length)) (brk (rdD tB b16_14 t3)
 (ck (decide (0 ≤ t3) && decide (t3 < b16_12.length)) (brk (!(rdD tB b16_12 t3))
 (K .ret (spec_l8Links_x0_0 false))
 (ck (decide (0 ≤ t3) && decide (t3 < b16_12.length)) (brk (rdD tB b16_12 t3)
 (brk (!b16_1)
 (K .ret (spec_l8Links_x0_0 false))
 (brk (decide (t3 = b16_0))
 (K .ret (spec_l8Links_x0_0 false))
 (iterG spec_l8Links_t0 spec_l8Links_B0 K n ((IntKind.i64.wrap (t3 + (1 : Int)), ()), ((b16_0, (b16_1, (b16_2, (b16_3, (b16_4, (b16_5, (b16_6, (b16_7, (b16_8, (b16_9, (b16_10, (b16_11, (b16_12, (b16_13, (b16_14, (b16_15, ())))))))))))))))), ())))))
 (iterG spec_l8Links_t0 spec_l8Links_B0 K n ((IntKind.i64.wrap (t3 + (1 : Int)), ()), ((b16_0, (b16_1, (b16_2, (b16_3, (b16_4, (b16_5, (b16_6, (b16_7, (b16_8, (b16_9, (b16_10, (b16_11, (b16_12, (b16_13, (b16_14, (b16_15, ())))))))))))))))), ())))))))
 (ck (decide (0 ≤ t3) && decide (t3 < b16_12.length)) (brk (rdD tB b16_12 t3)
 (brk (!b16_1)
 (K .ret (spec_l8Links_x0_0 false))
 (brk (decide (t3 = b16_0))
 (K .ret (spec_l8Links_x0_0 false))
 (iterG spec_l8Links_t0 spec_l8Links_B0 K n ((IntKind.i64.wrap (t3 + (1 : Int)), ()), ((b16_0, (b16_1, (b16_2, (b16_3, (b16_4, (b16_5, (b16_6, (b16_7, (b16_8, (b16_9, (b16_10, (b16_11, (b16_12, (b16_13, (b16_14, (b16_15, ())))))))))))))))), ())))))
 (iterG spec_l8Links_t0 spec_l8Links_B0 K n ((IntKind.i64.wrap (t3 + (1 : Int)), ()), ((b16_0, (b16_1, (b16_2, (b16_3, (b16_4, (b16_5, (b16_6, (b16_7, (b16_8, (b16_9, (b16_10, (b16_11, (b16_12, (b16_13, (b16_14, (b16_15, ())))))))))))))))), ())))))))))
 (ck (decide (0 ≤ t3) && decide (t3 < b16_14.length)) (brk (rdD tB b16_14 t3)
 (ck (decide (0 ≤ t3) && decide (t3 < b16_12.length)) (brk (!(rdD tB b16_12 t3))
 (K .ret (spec_l8Links_x0_0 false))
 (ck (decide (0 ≤ t3) && decide (t3 < b16_12.length)) (brk (rdD tB b16_12 t3)
 (brk (!b16_1)
 (K .ret (spec_l8Links_x0_0 false))
 (brk (decide (t3 = b16_0))
 (K .ret (spec_l8Links_x0_0 false))
 (iterG spec_l8Links_t0 spec_l8Links_B0 K n ((IntKind.i64.wrap (t3 + (1 : Int)), ()), ((b16_0, (b16_1, (b16_2, (b16_3, (b16_4, (b16_5, (b16_6, (b16_7, (b16_8, (b16_9, (b16_10, (b16_11, (b16_12, (b16_13, (b16_14, (b16_15, ())))))))))))))))), ())))))
 (iterG spec_l8Links_t0 spec_l8Links_B0 K n ((IntKind.i64.wrap (t3 + (1 : Int)), ()), ((b16_0, (b16_1, (b16_2, (b16_3, (b16_4, (b16_5, (b16_6, (b16_7, (b16_8, (b16_9, (b16_10, (b16_11, (b16_12, (b16_13, (b16_14, (b16_15, ())))))))))))))))), ())))))))
 (ck (decide (0 ≤ t3) && decide (t3 < b16_12.length)) (brk (rdD tB b16_12 t3)
 (brk (!b16_1)
 (K .ret (spec_l8Links_x0_0 false))
 (brk (decide (t3 = b16_0))
 (K .ret (spec_l8Links_x0_0 false))
 (iterG spec_l8Links_t0 spec_l8Links_B0 K n ((IntKind.i64.wrap (t3 + (1 : Int)), ()), ((b16_0, (b16_1, (b16_2, (b16_3, (b16_4, (b16_5, (b16_6, (b16_7, (b16_8, (b16_9, (b16_10, (b16_11, (b16_12, (b16_13, (b16_14, (b16_15, ())))))))))))))))), ())))))
 (iterG spec_l8Links_t0 spec_l8Links_B0 K n ((IntKind.i64.wrap (t3 + (1 : Int)), ()), ((b16_0, (b16_1, (b16_2, (b16_3, (b16_4, (b16_5, (b16_6, (b16_7, (b16_8, (b16_9, (b16_10, (b16_11, (b16_12, (b16_13, (b16_14, (b16_15, ())))))))))))))))), ())))))))))))
 (K (.exit 0) (spec_l8Links_x0_1)) := by kernel_rfl
theorem spec_l8Links_e0_0 (x0 : Int × Bool × Bool × List Int × (List Int × List (List Int) × Bool × Bool × Bool × Int × Unit) × (List Int × List Int × Unit) × List Bool × List (List Int) × List Bool × List Int × Unit) (d0 : Bool) : spec_l8Links_K0 x0 .ret (spec_l8Links_x0_0 d0) =
 some ((d0, ()), ((), ())) := by kernel_rfl
theorem spec_l8Links_e0_1 (x0 : Int × Bool × Bool × List Int × (List Int × List (List Int) × Bool × Bool × Bool × Int × Unit) × (List Int × List Int × Unit) × List Bool × List (List Int) × List Bool × List Int × Unit) : spec_l8Links_K0 x0 (.exit 0) (spec_l8Links_x0_1) =
 some ((true, ()), ((), ())) := by kernel_rfl
/-! spec.l5Same -/
noncomputable def spec_l5Same_b : Code := bd Tryz.f81
@[reducible] def spec_l5Same_t0 : Tm := ⟨[], [], [(0, .sc true tIs), (1, .sc true tIs), (5, .sc true tI)], [], [0, 1, 4], []⟩
def spec_l5Same_T : List (Nat × Tm) := [(0, spec_l5Same_t0)]
noncomputable def spec_l5Same_E : Env := ⟨tt0, []⟩
noncomputable def spec_l5Same_F : PsD [.ro tIs, .ro tIs] → Option (RsD [.own tB] × PsO [.ro tIs, .ro tIs]) := fun x => evFn spec_l5Same_E spec_l5Same_T Tryz.f81 spec_l5Same_b [.ro tIs, .ro tIs] [.own tB] x
@[reducible] noncomputable def spec_l5Same_C : Ct := ⟨[.ro tIs, .ro tIs], [.own tB], spec_l5Same_F⟩
theorem spec_l5Same_h (x : PsD [.ro tIs, .ro tIs]) (y : RsD [.own tB] × PsO [.ro tIs, .ro tIs]) (h : spec_l5Same_F x = some y) : evFn spec_l5Same_E spec_l5Same_T Tryz.f81 spec_l5Same_b [.ro tIs, .ro tIs] [.own tB] x = some y := h
theorem spec_l5Same_c : ∀ f c, get spec_l5Same_E.ct f = some c → Sat Tryz.prog f c := ct_nil
theorem spec_l5Same_S : Sat Tryz.prog 81 spec_l5Same_C := fn_ok2 (envOk _) spec_l5Same_c mixedOk Tryz.func81 (by kernel_rfl : Tryz.f81.body = some spec_l5Same_b) (by kernel_rfl) (by kernel_rfl) spec_l5Same_h
noncomputable def spec_l5Same_Ke  (x0 : List Int) (x1 : List Int) : Ex → AS → Option (RsD [.own tB] × PsO [.ro tIs, .ro tIs]) := endK spec_l5Same_E Tryz.f81 [.ro tIs, .ro tIs] [.own tB] (initL [.ro tIs, .ro tIs] (x0, (x1, ())) 0).1
noncomputable def spec_l5Same_B0 {R : Type} : AS → (Ex → AS → Option R) → Option R := fun A K => ev spec_l5Same_E spec_l5Same_T 0 (cA (cA (cB (cA (cB spec_l5Same_b))))) A K
noncomputable def spec_l5Same_K0  (x0 : List Int) (x1 : List Int) : Ex → AS → Option (RsD [.own tB] × PsO [.ro tIs, .ro tIs]) := kBlk 0 (kSeq (fun A K => ev spec_l5Same_E spec_l5Same_T 1000 (cB (cB spec_l5Same_b)) A K) (spec_l5Same_Ke x0 x1))
noncomputable def spec_l5Same_x0_0 (d0 : List Int) (d1 : List Int) (d2 : Bool) : AS := ⟨[(0, .v (.one (.d true tIs d0))), (1, .v (.one (.d true tIs d1))), (4, .v (.one (.d true tB d2)))], []⟩
noncomputable def spec_l5Same_x0_1 (d0 : List Int) (d1 : List Int) : AS := ⟨[(0, .v (.one (.d true tIs d0))), (1, .v (.one (.d true tIs d1)))], []⟩
theorem spec_l5Same_l0 {R : Type} {K : Ex → AS → Option R} {s : spec_l5Same_t0.D} (n : Nat) {v : Option R} (h : iterG spec_l5Same_t0 spec_l5Same_B0 K n s = v) (hv : ∃ r, v = some r) : loopG spec_l5Same_t0 spec_l5Same_B0 K s = v := loop_eq (ev_mono _ _) n h hv
theorem spec_l5Same_main (x0 : List Int) (x1 : List Int) : spec_l5Same_F (x0, (x1, ())) =
 loopG spec_l5Same_t0 spec_l5Same_B0 (spec_l5Same_K0 x0 x1) ((x0, (x1, ((0 : Int), ()))), ()) := by kernel_rfl
theorem spec_l5Same_r0 {R : Type} (K : Ex → AS → Option R) (n : Nat) (t0 : List Int) (t1 : List Int) (t5 : Int) : iterG spec_l5Same_t0 spec_l5Same_B0 K (n + 1) ((t0, (t1, (t5, ()))), ()) =
 brk (decide (t5 < (t0.length : Int)))
 (brk (decide (t5 < (t1.length : Int)))
 (ck (decide (0 ≤ t5) && decide (t5 < t0.length)) (ck (decide (0 ≤ t5) && decide (t5 < t1.length)) (brk (!decide (rdD tI t0 t5 = rdD tI t1 t5))
 (K .ret (spec_l5Same_x0_0 t0 t1 false))
 (iterG spec_l5Same_t0 spec_l5Same_B0 K n ((t0, (t1, (IntKind.i64.wrap (t5 + (1 : Int)), ()))), ())))))
 (K (.exit 0) (spec_l5Same_x0_1 t0 t1)))
 (K (.exit 0) (spec_l5Same_x0_1 t0 t1)) := by kernel_rfl
theorem spec_l5Same_e0_0 (x0 : List Int) (x1 : List Int) (d0 : List Int) (d1 : List Int) (d2 : Bool) : spec_l5Same_K0 x0 x1 .ret (spec_l5Same_x0_0 d0 d1 d2) =
 some ((d2, ()), ((), ((), ()))) := by kernel_rfl
theorem spec_l5Same_e0_1 (x0 : List Int) (x1 : List Int) (d0 : List Int) (d1 : List Int) : spec_l5Same_K0 x0 x1 (.exit 0) (spec_l5Same_x0_1 d0 d1) =
 some ((decide ((d0.length : Int) = (d1.length : Int)), ()), ((), ((), ()))) := by kernel_rfl
/-! spec.SameMeta -/
noncomputable def spec_SameMeta_b : Code := bd Tryz.f58
@[reducible] def spec_SameMeta_t0 : Tm := ⟨[], [], [(2, .ptr 32 0), (3, .ptr 48 0), (5, .sc true tI)], [(32, .box [.sc true tIs, .sc true tIss, .sc true tB, .sc true tB, .sc true tB, .sc true tI]), (48, .box [.sc true tIs, .sc true tIss, .sc true tB, .sc true tB, .sc true tB, .sc true tI])], [4], []⟩
def spec_SameMeta_T : List (Nat × Tm) := [(0, spec_SameMeta_t0)]
noncomputable def spec_SameMeta_E : Env := ⟨tt0, [(81, spec_l5Same_C)]⟩
noncomputable def spec_SameMeta_F : PsD [.ro tMeta, .ro tMeta] → Option (RsD [.own tB] × PsO [.ro tMeta, .ro tMeta]) := fun x => evFn spec_SameMeta_E spec_SameMeta_T Tryz.f58 spec_SameMeta_b [.ro tMeta, .ro tMeta] [.own tB] x
@[reducible] noncomputable def spec_SameMeta_C : Ct := ⟨[.ro tMeta, .ro tMeta], [.own tB], spec_SameMeta_F⟩
theorem spec_SameMeta_h (x : PsD [.ro tMeta, .ro tMeta]) (y : RsD [.own tB] × PsO [.ro tMeta, .ro tMeta]) (h : spec_SameMeta_F x = some y) : evFn spec_SameMeta_E spec_SameMeta_T Tryz.f58 spec_SameMeta_b [.ro tMeta, .ro tMeta] [.own tB] x = some y := h
theorem spec_SameMeta_c : ∀ f c, get spec_SameMeta_E.ct f = some c → Sat Tryz.prog f c := ct_cons spec_l5Same_S (ct_nil)
theorem spec_SameMeta_S : Sat Tryz.prog 58 spec_SameMeta_C := fn_ok2 (envOk _) spec_SameMeta_c mixedOk Tryz.func58 (by kernel_rfl : Tryz.f58.body = some spec_SameMeta_b) (by kernel_rfl) (by kernel_rfl) spec_SameMeta_h
noncomputable def spec_SameMeta_Ke  (x0 : List Int × List (List Int) × Bool × Bool × Bool × Int × Unit) (x1 : List Int × List (List Int) × Bool × Bool × Bool × Int × Unit) : Ex → AS → Option (RsD [.own tB] × PsO [.ro tMeta, .ro tMeta]) := endK spec_SameMeta_E Tryz.f58 [.ro tMeta, .ro tMeta] [.own tB] (initL [.ro tMeta, .ro tMeta] (x0, (x1, ())) 0).1
noncomputable def spec_SameMeta_B0 {R : Type} : AS → (Ex → AS → Option R) → Option R := fun A K => ev spec_SameMeta_E spec_SameMeta_T 0 (cA (cA (cB (cA (cB (cB spec_SameMeta_b)))))) A K
noncomputable def spec_SameMeta_K0  (x0 : List Int × List (List Int) × Bool × Bool × Bool × Int × Unit) (x1 : List Int × List (List Int) × Bool × Bool × Bool × Int × Unit) : Ex → AS → Option (RsD [.own tB] × PsO [.ro tMeta, .ro tMeta]) := kBlk 0 (kSeq (fun A K => ev spec_SameMeta_E spec_SameMeta_T 1000 (cB (cB (cB spec_SameMeta_b))) A K) (spec_SameMeta_Ke x0 x1))
noncomputable def spec_SameMeta_x0_0 (d0 : Bool) : AS := ⟨[(4, .v (.one (.d true tB d0)))], []⟩
noncomputable def spec_SameMeta_x0_1 : AS := ⟨[], []⟩
theorem spec_SameMeta_l0 {R : Type} {K : Ex → AS → Option R} {s : spec_SameMeta_t0.D} (n : Nat) {v : Option R} (h : iterG spec_SameMeta_t0 spec_SameMeta_B0 K n s = v) (hv : ∃ r, v = some r) : loopG spec_SameMeta_t0 spec_SameMeta_B0 K s = v := loop_eq (ev_mono _ _) n h hv
theorem spec_SameMeta_main (x0 : List Int × List (List Int) × Bool × Bool × Bool × Int × Unit) (x1 : List Int × List (List Int) × Bool × Bool × Bool × Int × Unit) : spec_SameMeta_F (x0, (x1, ())) =
 brk (!decide ((x0.2.1.length : Int) = (x1.2.1.length : Int)))
 (some ((false, ()), ((), ((), ()))))
 ((spec_l5Same_F (x0.1, (x1.1, ()))).bind fun y18 =>
 brk (!y18.1.1)
 (some ((false, ()), ((), ((), ()))))
 (brk (!(x0.2.2.1 == x1.2.2.1))
 (some ((false, ()), ((), ((), ()))))
 (brk (!(x0.2.2.2.1 == x1.2.2.2.1))
 (some ((false, ()), ((), ((), ()))))
 (brk (!(x0.2.2.2.2.1 == x1.2.2.2.2.1))
 (some ((false, ()), ((), ((), ()))))
 (brk (!decide (x0.2.2.2.2.2.1 = x1.2.2.2.2.2.1))
 (some ((false, ()), ((), ((), ()))))
 (loopG spec_SameMeta_t0 spec_SameMeta_B0 (spec_SameMeta_K0 x0 x1) (((0 : Int), ()), ((x0.1, (x0.2.1, (x0.2.2.1, (x0.2.2.2.1, (x0.2.2.2.2.1, (x0.2.2.2.2.2.1, ())))))), ((x1.1, (x1.2.1, (x1.2.2.1, (x1.2.2.2.1, (x1.2.2.2.2.1, (x1.2.2.2.2.2.1, ())))))), ()))))))))) := by kernel_rfl
theorem spec_SameMeta_r0 {R : Type} (K : Ex → AS → Option R) (n : Nat) (t5 : Int) (b32_0 : List Int) (b32_1 : List (List Int)) (b32_2 : Bool) (b32_3 : Bool) (b32_4 : Bool) (b32_5 : Int) (b48_0 : List Int) (b48_1 : List (List Int)) (b48_2 : Bool) (b48_3 : Bool) (b48_4 : Bool) (b48_5 : Int) : iterG spec_SameMeta_t0 spec_SameMeta_B0 K (n + 1) ((t5, ()), ((b32_0, (b32_1, (b32_2, (b32_3, (b32_4, (b32_5, ())))))), ((b48_0, (b48_1, (b48_2, (b48_3, (b48_4, (b48_5, ())))))), ()))) =
 brk (decide (t5 < (b32_1.length : Int)))
 (ck (decide (0 ≤ t5) && decide (t5 < b32_1.length)) (ck (decide (0 ≤ t5) && decide (t5 < b48_1.length)) ((spec_l5Same_F (rdD tIs b32_1 t5, (rdD tIs b48_1 t5, ()))).bind fun y66 =>
 brk (!y66.1.1)
 (K .ret (spec_SameMeta_x0_0 false))
 (iterG spec_SameMeta_t0 spec_SameMeta_B0 K n ((IntKind.i64.wrap (t5 + (1 : Int)), ()), ((b32_0, (b32_1, (b32_2, (b32_3, (b32_4, (b32_5, ())))))), ((b48_0, (b48_1, (b48_2, (b48_3, (b48_4, (b48_5, ())))))), ())))))))
 (K (.exit 0) (spec_SameMeta_x0_1)) := by kernel_rfl
theorem spec_SameMeta_e0_0 (x0 : List Int × List (List Int) × Bool × Bool × Bool × Int × Unit) (x1 : List Int × List (List Int) × Bool × Bool × Bool × Int × Unit) (d0 : Bool) : spec_SameMeta_K0 x0 x1 .ret (spec_SameMeta_x0_0 d0) =
 some ((d0, ()), ((), ((), ()))) := by kernel_rfl
theorem spec_SameMeta_e0_1 (x0 : List Int × List (List Int) × Bool × Bool × Bool × Int × Unit) (x1 : List Int × List (List Int) × Bool × Bool × Bool × Int × Unit) : spec_SameMeta_K0 x0 x1 (.exit 0) (spec_SameMeta_x0_1) =
 some ((true, ()), ((), ((), ()))) := by kernel_rfl
/-! spec.NodeOk -/
noncomputable def spec_NodeOk_b : Code := bd Tryz.f26
@[reducible] def spec_NodeOk_t0 : Tm := ⟨[], [], [(1, .ptr 16 0), (3, .sc true tI)], [(16, .box [.sc true tI, .sc true tB, .sc true tB, .sc true tIs, .sc true tIs, .sc true tIss, .sc true tB, .sc true tB, .sc true tB, .sc true tI, .sc true tYs, .sc true tYs, .sc true tBs, .sc true tIss, .sc true tBs, .sc true tIs])], [1, 2, 94, 95, 96, 97], [16]⟩
def spec_NodeOk_T : List (Nat × Tm) := [(0, spec_NodeOk_t0)]
noncomputable def spec_NodeOk_E : Env := ⟨tt0, [(27, spec_SlotGet_C), (54, spec_l1In_C), (55, spec_ImageOk_C), (56, spec_MetaOk_C), (57, spec_l8Links_C), (58, spec_SameMeta_C)]⟩
noncomputable def spec_NodeOk_F : PsD [.ro tNode] → Option (RsD [.own tB] × PsO [.ro tNode]) := fun x => evFn spec_NodeOk_E spec_NodeOk_T Tryz.f26 spec_NodeOk_b [.ro tNode] [.own tB] x
@[reducible] noncomputable def spec_NodeOk_C : Ct := ⟨[.ro tNode], [.own tB], spec_NodeOk_F⟩
theorem spec_NodeOk_h (x : PsD [.ro tNode]) (y : RsD [.own tB] × PsO [.ro tNode]) (h : spec_NodeOk_F x = some y) : evFn spec_NodeOk_E spec_NodeOk_T Tryz.f26 spec_NodeOk_b [.ro tNode] [.own tB] x = some y := h
theorem spec_NodeOk_c : ∀ f c, get spec_NodeOk_E.ct f = some c → Sat Tryz.prog f c := ct_cons spec_SlotGet_S (ct_cons spec_l1In_S (ct_cons spec_ImageOk_S (ct_cons spec_MetaOk_S (ct_cons spec_l8Links_S (ct_cons spec_SameMeta_S (ct_nil))))))
theorem spec_NodeOk_S : Sat Tryz.prog 26 spec_NodeOk_C := fn_ok2 (envOk _) spec_NodeOk_c mixedOk Tryz.func26 (by kernel_rfl : Tryz.f26.body = some spec_NodeOk_b) (by kernel_rfl) (by kernel_rfl) spec_NodeOk_h
noncomputable def spec_NodeOk_Ke  (x0 : Int × Bool × Bool × List Int × (List Int × List (List Int) × Bool × Bool × Bool × Int × Unit) × (List Int × List Int × Unit) × List Bool × List (List Int) × List Bool × List Int × Unit) : Ex → AS → Option (RsD [.own tB] × PsO [.ro tNode]) := endK spec_NodeOk_E Tryz.f26 [.ro tNode] [.own tB] (initL [.ro tNode] (x0, ()) 0).1
noncomputable def spec_NodeOk_B0 {R : Type} : AS → (Ex → AS → Option R) → Option R := fun A K => ev spec_NodeOk_E spec_NodeOk_T 0 (cA (cA (cB (cA (cB (cB spec_NodeOk_b)))))) A K
noncomputable def spec_NodeOk_K0  (x0 : Int × Bool × Bool × List Int × (List Int × List (List Int) × Bool × Bool × Bool × Int × Unit) × (List Int × List Int × Unit) × List Bool × List (List Int) × List Bool × List Int × Unit) : Ex → AS → Option (RsD [.own tB] × PsO [.ro tNode]) := kBlk 0 (kSeq (fun A K => ev spec_NodeOk_E spec_NodeOk_T 1000 (cB (cB (cB spec_NodeOk_b))) A K) (spec_NodeOk_Ke x0))
noncomputable def spec_NodeOk_x0_0 (d0 : Bool) (d1 : Int) (d2 : Bool) (d3 : Bool) (d4 : List Int) (d5 : List Int) (d6 : List (List Int)) (d7 : Bool) (d8 : Bool) (d9 : Bool) (d10 : Int) (d11 : List Int) (d12 : List Int) (d13 : List Bool) (d14 : List (List Int)) (d15 : List Bool) (d16 : List Int) : AS := ⟨[(1, .v (.one (.bptr 16 0))), (2, .v (.one (.d true tB d0)))], [(16, .box [.d true tI d1, .d true tB d2, .d true tB d3, .d true tIs d4, .d true tIs d5, .d true tIss d6, .d true tB d7, .d true tB d8, .d true tB d9, .d true tI d10, .d true tYs d11, .d true tYs d12, .d true tBs d13, .d true tIss d14, .d true tBs d15, .d true tIs d16])]⟩
noncomputable def spec_NodeOk_x0_1 (d0 : Int) (d1 : Bool) (d2 : Bool) (d3 : List Int) (d4 : List Int) (d5 : List (List Int)) (d6 : Bool) (d7 : Bool) (d8 : Bool) (d9 : Int) (d10 : List Int) (d11 : List Int) (d12 : List Bool) (d13 : List (List Int)) (d14 : List Bool) (d15 : List Int) : AS := ⟨[(1, .v (.one (.bptr 16 0)))], [(16, .box [.d true tI d0, .d true tB d1, .d true tB d2, .d true tIs d3, .d true tIs d4, .d true tIss d5, .d true tB d6, .d true tB d7, .d true tB d8, .d true tI d9, .d true tYs d10, .d true tYs d11, .d true tBs d12, .d true tIss d13, .d true tBs d14, .d true tIs d15])]⟩
theorem spec_NodeOk_l0 {R : Type} {K : Ex → AS → Option R} {s : spec_NodeOk_t0.D} (n : Nat) {v : Option R} (h : iterG spec_NodeOk_t0 spec_NodeOk_B0 K n s = v) (hv : ∃ r, v = some r) : loopG spec_NodeOk_t0 spec_NodeOk_B0 K s = v := loop_eq (ev_mono _ _) n h hv
theorem spec_NodeOk_main (x0 : Int × Bool × Bool × List Int × (List Int × List (List Int) × Bool × Bool × Bool × Int × Unit) × (List Int × List Int × Unit) × List Bool × List (List Int) × List Bool × List Int × Unit) : spec_NodeOk_F (x0, ()) =
 (spec_l1In_F (x0.1, ((0 : Int), ((2 : Int), ())))).bind fun y9 =>
 brk (!y9.1.1)
 (some ((false, ()), ((), ())))
 ((spec_ImageOk_F (x0.2.2.2.1, ())).bind fun y14 =>
 brk (!y14.1.1)
 (some ((false, ()), ((), ())))
 ((spec_MetaOk_F ((x0.2.2.2.2.1.1, (x0.2.2.2.2.1.2.1, (x0.2.2.2.2.1.2.2.1, (x0.2.2.2.2.1.2.2.2.1, (x0.2.2.2.2.1.2.2.2.2.1, (x0.2.2.2.2.1.2.2.2.2.2.1, ())))))), ())).bind fun y20 =>
 brk (!y20.1.1)
 (some ((false, ()), ((), ())))
 ((spec_l8Links_F ((x0.1, (x0.2.1, (x0.2.2.1, (x0.2.2.2.1, ((x0.2.2.2.2.1.1, (x0.2.2.2.2.1.2.1, (x0.2.2.2.2.1.2.2.1, (x0.2.2.2.2.1.2.2.2.1, (x0.2.2.2.2.1.2.2.2.2.1, (x0.2.2.2.2.1.2.2.2.2.2.1, ())))))), ((x0.2.2.2.2.2.1.1, (x0.2.2.2.2.2.1.2.1, ())), (x0.2.2.2.2.2.2.1, (x0.2.2.2.2.2.2.2.1, (x0.2.2.2.2.2.2.2.2.1, (x0.2.2.2.2.2.2.2.2.2.1, ())))))))))), ())).bind fun y25 =>
 brk (!y25.1.1)
 (some ((false, ()), ((), ())))
 (brk x0.2.2.1
 (brk (!x0.2.1)
 (some ((false, ()), ((), ())))
 (brk (decide (x0.1 = (2 : Int)))
 (some ((false, ()), ((), ())))
 (brk (!x0.2.1)
 (brk (decide ((0 : Int) < (x0.2.2.2.2.2.2.2.2.2.1.length : Int)))
 (some ((false, ()), ((), ())))
 (loopG spec_NodeOk_t0 spec_NodeOk_B0 (spec_NodeOk_K0 x0) (((0 : Int), ()), ((x0.1, (x0.2.1, (x0.2.2.1, (x0.2.2.2.1, (x0.2.2.2.2.1.1, (x0.2.2.2.2.1.2.1, (x0.2.2.2.2.1.2.2.1, (x0.2.2.2.2.1.2.2.2.1, (x0.2.2.2.2.1.2.2.2.2.1, (x0.2.2.2.2.1.2.2.2.2.2.1, (x0.2.2.2.2.2.1.1, (x0.2.2.2.2.2.1.2.1, (x0.2.2.2.2.2.2.1, (x0.2.2.2.2.2.2.2.1, (x0.2.2.2.2.2.2.2.2.1, (x0.2.2.2.2.2.2.2.2.2.1, ())))))))))))))))), ()))))
 (loopG spec_NodeOk_t0 spec_NodeOk_B0 (spec_NodeOk_K0 x0) (((0 : Int), ()), ((x0.1, (x0.2.1, (x0.2.2.1, (x0.2.2.2.1, (x0.2.2.2.2.1.1, (x0.2.2.2.2.1.2.1, (x0.2.2.2.2.1.2.2.1, (x0.2.2.2.2.1.2.2.2.1, (x0.2.2.2.2.1.2.2.2.2.1, (x0.2.2.2.2.1.2.2.2.2.2.1, (x0.2.2.2.2.2.1.1, (x0.2.2.2.2.2.1.2.1, (x0.2.2.2.2.2.2.1, (x0.2.2.2.2.2.2.2.1, (x0.2.2.2.2.2.2.2.2.1, (x0.2.2.2.2.2.2.2.2.2.1, ())))))))))))))))), ()))))))
 (brk (!x0.2.1)
 (brk (decide ((0 : Int) < (x0.2.2.2.2.2.2.2.2.2.1.length : Int)))
 (some ((false, ()), ((), ())))
 (loopG spec_NodeOk_t0 spec_NodeOk_B0 (spec_NodeOk_K0 x0) (((0 : Int), ()), ((x0.1, (x0.2.1, (x0.2.2.1, (x0.2.2.2.1, (x0.2.2.2.2.1.1, (x0.2.2.2.2.1.2.1, (x0.2.2.2.2.1.2.2.1, (x0.2.2.2.2.1.2.2.2.1, (x0.2.2.2.2.1.2.2.2.2.1, (x0.2.2.2.2.1.2.2.2.2.2.1, (x0.2.2.2.2.2.1.1, (x0.2.2.2.2.2.1.2.1, (x0.2.2.2.2.2.2.1, (x0.2.2.2.2.2.2.2.1, (x0.2.2.2.2.2.2.2.2.1, (x0.2.2.2.2.2.2.2.2.2.1, ())))))))))))))))), ()))))
 (loopG spec_NodeOk_t0 spec_NodeOk_B0 (spec_NodeOk_K0 x0) (((0 : Int), ()), ((x0.1, (x0.2.1, (x0.2.2.1, (x0.2.2.2.1, (x0.2.2.2.2.1.1, (x0.2.2.2.2.1.2.1, (x0.2.2.2.2.1.2.2.1, (x0.2.2.2.2.1.2.2.2.1, (x0.2.2.2.2.1.2.2.2.2.1, (x0.2.2.2.2.1.2.2.2.2.2.1, (x0.2.2.2.2.2.1.1, (x0.2.2.2.2.2.1.2.1, (x0.2.2.2.2.2.2.1, (x0.2.2.2.2.2.2.2.1, (x0.2.2.2.2.2.2.2.2.1, (x0.2.2.2.2.2.2.2.2.2.1, ())))))))))))))))), ())))))))) := by kernel_rfl
theorem spec_NodeOk_r0 {R : Type} (K : Ex → AS → Option R) (n : Nat) (t3 : Int) (b16_0 : Int) (b16_1 : Bool) (b16_2 : Bool) (b16_3 : List Int) (b16_4 : List Int) (b16_5 : List (List Int)) (b16_6 : Bool) (b16_7 : Bool) (b16_8 : Bool) (b16_9 : Int) (b16_10 : List Int) (b16_11 : List Int) (b16_12 : List Bool) (b16_13 : List (List Int)) (b16_14 : List Bool) (b16_15 : List Int) : iterG spec_NodeOk_t0 spec_NodeOk_B0 K (n + 1) ((t3, ()), ((b16_0, (b16_1, (b16_2, (b16_3, (b16_4, (b16_5, (b16_6, (b16_7, (b16_8, (b16_9, (b16_10, (b16_11, (b16_12, (b16_13, (b16_14, (b16_15, ())))))))))))))))), ())) =
 brk (decide (t3 < (b16_15.length : Int)))
 (ck (decide (0 ≤ t3) && decide (t3 < b16_15.length)) ((spec_l1In_F (rdD tI b16_15 t3, ((1 : Int), ((200 : Int), ())))).bind fun y65 =>
 brk (!y65.1.1)
 (K .ret (spec_NodeOk_x0_0 false b16_0 b16_1 b16_2 b16_3 b16_4 b16_5 b16_6 b16_7 b16_8 b16_9 b16_10 b16_11 b16_12 b16_13 b16_14 b16_15))
 (brk (decide ((0 : Int) < t3))
 (ck (decide (0 ≤ IntKind.i64.wrap (t3 - (1 : Int))) && decide (IntKind.i64.wrap (t3 - (1 : Int)) < b16_15.length)) (ck (decide (0 ≤ t3) && decide (t3 < b16_15.length)) (brk (decide (rdD tI b16_15 t3 ≤ rdD tI b16_15 (IntKind.i64.wrap (t3 - (1 : Int)))))
 (K .ret (spec_NodeOk_x0_0 false b16_0 b16_1 b16_2 b16_3 b16_4 b16_5 b16_6 b16_7 b16_8 b16_9 b16_10 b16_11 b16_12 b16_13 b16_14 b16_15))
 (iterG spec_NodeOk_t0 spec_NodeOk_B0 K n ((IntKind.i64.wrap (t3 + (1 : Int)), ()), ((b16_0, (b16_1, (b16_2, (b16_3, (b16_4, (b16_5, (b16_6, (b16_7, (b16_8, (b16_9, (b16_10, (b16_11, (b16_12, (b16_13, (b16_14, (b16_15, ())))))))))))))))), ()))))))
 (iterG spec_NodeOk_t0 spec_NodeOk_B0 K n ((IntKind.i64.wrap (t3 + (1 : Int)), ()), ((b16_0, (b16_1, (b16_2, (b16_3, (b16_4, (b16_5, (b16_6, (b16_7, (b16_8, (b16_9, (b16_10, (b16_11, (b16_12, (b16_13, (b16_14, (b16_15, ())))))))))))))))), ()))))))
 (K (.exit 0) (spec_NodeOk_x0_1 b16_0 b16_1 b16_2 b16_3 b16_4 b16_5 b16_6 b16_7 b16_8 b16_9 b16_10 b16_11 b16_12 b16_13 b16_14 b16_15)) := by kernel_rfl
theorem spec_NodeOk_e0_0 (x0 : Int × Bool × Bool × List Int × (List Int × List (List Int) × Bool × Bool × Bool × Int × Unit) × (List Int × List Int × Unit) × List Bool × List (List Int) × List Bool × List Int × Unit) (d0 : Bool) (d1 : Int) (d2 : Bool) (d3 : Bool) (d4 : List Int) (d5 : List Int) (d6 : List (List Int)) (d7 : Bool) (d8 : Bool) (d9 : Bool) (d10 : Int) (d11 : List Int) (d12 : List Int) (d13 : List Bool) (d14 : List (List Int)) (d15 : List Bool) (d16 : List Int) : spec_NodeOk_K0 x0 .ret (spec_NodeOk_x0_0 d0 d1 d2 d3 d4 d5 d6 d7 d8 d9 d10 d11 d12 d13 d14 d15 d16) =
 some ((d0, ()), ((), ())) := by kernel_rfl
theorem spec_NodeOk_e0_1 (x0 : Int × Bool × Bool × List Int × (List Int × List (List Int) × Bool × Bool × Bool × Int × Unit) × (List Int × List Int × Unit) × List Bool × List (List Int) × List Bool × List Int × Unit) (d0 : Int) (d1 : Bool) (d2 : Bool) (d3 : List Int) (d4 : List Int) (d5 : List (List Int)) (d6 : Bool) (d7 : Bool) (d8 : Bool) (d9 : Int) (d10 : List Int) (d11 : List Int) (d12 : List Bool) (d13 : List (List Int)) (d14 : List Bool) (d15 : List Int) : spec_NodeOk_K0 x0 (.exit 0) (spec_NodeOk_x0_1 d0 d1 d2 d3 d4 d5 d6 d7 d8 d9 d10 d11 d12 d13 d14 d15) =
 (spec_SlotGet_F ((d10, (d11, ())), ())).bind fun y88 =>
 brk y88.1.2.2.1
 ((spec_SameMeta_F ((y88.1.1.1, (y88.1.1.2.1, (y88.1.1.2.2.1, (y88.1.1.2.2.2.1, (y88.1.1.2.2.2.2.1, (y88.1.1.2.2.2.2.2.1, ())))))), ((d4, (d5, (d6, (d7, (d8, (d9, ())))))), ()))).bind fun y97 =>
 some ((y97.1.1, ()), ((), ())))
 (some ((false, ()), ((), ()))) := by kernel_rfl
/-! spec.SlotPut -/
noncomputable def spec_SlotPut_b : Code := bd Tryz.f77
def spec_SlotPut_T : List (Nat × Tm) := []
noncomputable def spec_SlotPut_E : Env := ⟨tt0, [(27, spec_SlotGet_C), (53, spec_l6Copy_C), (56, spec_MetaOk_C), (59, spec_l6Which_C), (83, spec_l6Slot_C)]⟩
noncomputable def spec_SlotPut_F : PsD [.ro tSlots, .ro tMeta] → Option (RsD [.own tSlots] × PsO [.ro tSlots, .ro tMeta]) := fun x => evFn spec_SlotPut_E spec_SlotPut_T Tryz.f77 spec_SlotPut_b [.ro tSlots, .ro tMeta] [.own tSlots] x
@[reducible] noncomputable def spec_SlotPut_C : Ct := ⟨[.ro tSlots, .ro tMeta], [.own tSlots], spec_SlotPut_F⟩
theorem spec_SlotPut_h (x : PsD [.ro tSlots, .ro tMeta]) (y : RsD [.own tSlots] × PsO [.ro tSlots, .ro tMeta]) (h : spec_SlotPut_F x = some y) : evFn spec_SlotPut_E spec_SlotPut_T Tryz.f77 spec_SlotPut_b [.ro tSlots, .ro tMeta] [.own tSlots] x = some y := h
theorem spec_SlotPut_c : ∀ f c, get spec_SlotPut_E.ct f = some c → Sat Tryz.prog f c := ct_cons spec_SlotGet_S (ct_cons spec_l6Copy_S (ct_cons spec_MetaOk_S (ct_cons spec_l6Which_S (ct_cons spec_l6Slot_S (ct_nil)))))
theorem spec_SlotPut_S : Sat Tryz.prog 77 spec_SlotPut_C := fn_ok2 (envOk _) spec_SlotPut_c mixedOk Tryz.func77 (by kernel_rfl : Tryz.f77.body = some spec_SlotPut_b) (by kernel_rfl) (by kernel_rfl) spec_SlotPut_h
noncomputable def spec_SlotPut_Ke  (x0 : List Int × List Int × Unit) (x1 : List Int × List (List Int) × Bool × Bool × Bool × Int × Unit) : Ex → AS → Option (RsD [.own tSlots] × PsO [.ro tSlots, .ro tMeta]) := endK spec_SlotPut_E Tryz.f77 [.ro tSlots, .ro tMeta] [.own tSlots] (initL [.ro tSlots, .ro tMeta] (x0, (x1, ())) 0).1
theorem spec_SlotPut_main (x0 : List Int × List Int × Unit) (x1 : List Int × List (List Int) × Bool × Bool × Bool × Int × Unit) : spec_SlotPut_F (x0, (x1, ())) =
 (spec_l6Copy_F ((x0.1, (x0.2.1, ())), ())).bind fun y10 =>
 (spec_SlotGet_F ((x0.1, (x0.2.1, ())), ())).bind fun y13 =>
 (spec_MetaOk_F ((x1.1, (x1.2.1, (x1.2.2.1, (x1.2.2.2.1, (x1.2.2.2.2.1, (x1.2.2.2.2.2.1, ())))))), ())).bind fun y18 =>
 brk (!y18.1.1)
 (some (((y10.1.1.1, (y10.1.1.2.1, ())), ()), ((), ((), ()))))
 (brk (decide ((1000000 : Int) ≤ y13.1.2.1))
 (some (((y10.1.1.1, (y10.1.1.2.1, ())), ()), ((), ((), ()))))
 ((spec_l6Which_F ((x0.1, (x0.2.1, ())), ())).bind fun y26 =>
 brk (decide (y26.1.1 = (0 : Int)))
 ((spec_l6Slot_F ((x1.1, (x1.2.1, (x1.2.2.1, (x1.2.2.2.1, (x1.2.2.2.2.1, (x1.2.2.2.2.2.1, ())))))), (IntKind.i64.wrap (y13.1.2.1 + (1 : Int)), ()))).bind fun y31 =>
 some (((y10.1.1.1, (y31.1.1, ())), ()), ((), ((), ()))))
 ((spec_l6Slot_F ((x1.1, (x1.2.1, (x1.2.2.1, (x1.2.2.2.1, (x1.2.2.2.2.1, (x1.2.2.2.2.2.1, ())))))), (IntKind.i64.wrap (y13.1.2.1 + (1 : Int)), ()))).bind fun y36 =>
 some (((y36.1.1, (y10.1.1.2.1, ())), ()), ((), ((), ())))))) := by kernel_rfl
/-! spec.l8Keep -/
noncomputable def spec_l8Keep_b : Code := bd Tryz.f49
def spec_l8Keep_T : List (Nat × Tm) := []
noncomputable def spec_l8Keep_E : Env := ⟨tt0, [(52, spec_l5Copy_C), (77, spec_SlotPut_C)]⟩
noncomputable def spec_l8Keep_F : PsD [.mv tNode, .ro tMeta] → Option (RsD [.own tNode] × PsO [.mv tNode, .ro tMeta]) := fun x => evFn spec_l8Keep_E spec_l8Keep_T Tryz.f49 spec_l8Keep_b [.mv tNode, .ro tMeta] [.own tNode] x
@[reducible] noncomputable def spec_l8Keep_C : Ct := ⟨[.mv tNode, .ro tMeta], [.own tNode], spec_l8Keep_F⟩
theorem spec_l8Keep_h (x : PsD [.mv tNode, .ro tMeta]) (y : RsD [.own tNode] × PsO [.mv tNode, .ro tMeta]) (h : spec_l8Keep_F x = some y) : evFn spec_l8Keep_E spec_l8Keep_T Tryz.f49 spec_l8Keep_b [.mv tNode, .ro tMeta] [.own tNode] x = some y := h
theorem spec_l8Keep_c : ∀ f c, get spec_l8Keep_E.ct f = some c → Sat Tryz.prog f c := ct_cons spec_l5Copy_S (ct_cons spec_SlotPut_S (ct_nil))
theorem spec_l8Keep_S : Sat Tryz.prog 49 spec_l8Keep_C := fn_ok2 (envOk _) spec_l8Keep_c mixedOk Tryz.func49 (by kernel_rfl : Tryz.f49.body = some spec_l8Keep_b) (by kernel_rfl) (by kernel_rfl) spec_l8Keep_h
noncomputable def spec_l8Keep_Ke  (x0 : Int × Bool × Bool × List Int × (List Int × List (List Int) × Bool × Bool × Bool × Int × Unit) × (List Int × List Int × Unit) × List Bool × List (List Int) × List Bool × List Int × Unit) (x1 : List Int × List (List Int) × Bool × Bool × Bool × Int × Unit) : Ex → AS → Option (RsD [.own tNode] × PsO [.mv tNode, .ro tMeta]) := endK spec_l8Keep_E Tryz.f49 [.mv tNode, .ro tMeta] [.own tNode] (initL [.mv tNode, .ro tMeta] (x0, (x1, ())) 0).1
theorem spec_l8Keep_main (x0 : Int × Bool × Bool × List Int × (List Int × List (List Int) × Bool × Bool × Bool × Int × Unit) × (List Int × List Int × Unit) × List Bool × List (List Int) × List Bool × List Int × Unit) (x1 : List Int × List (List Int) × Bool × Bool × Bool × Int × Unit) : spec_l8Keep_F (x0, (x1, ())) =
 (spec_l5Copy_F ((x1.1, (x1.2.1, (x1.2.2.1, (x1.2.2.2.1, (x1.2.2.2.2.1, (x1.2.2.2.2.2.1, ())))))), ())).bind fun y6 =>
 (spec_SlotPut_F ((x0.2.2.2.2.2.1.1, (x0.2.2.2.2.2.1.2.1, ())), ((x1.1, (x1.2.1, (x1.2.2.1, (x1.2.2.2.1, (x1.2.2.2.2.1, (x1.2.2.2.2.2.1, ())))))), ()))).bind fun y11 =>
 some (((x0.1, (x0.2.1, (x0.2.2.1, (x0.2.2.2.1, ((y6.1.1.1, (y6.1.1.2.1, (y6.1.1.2.2.1, (y6.1.1.2.2.2.1, (y6.1.1.2.2.2.2.1, (y6.1.1.2.2.2.2.2.1, ())))))), ((y11.1.1.1, (y11.1.1.2.1, ())), (x0.2.2.2.2.2.2.1, (x0.2.2.2.2.2.2.2.1, (x0.2.2.2.2.2.2.2.2.1, (x0.2.2.2.2.2.2.2.2.2.1, ())))))))))), ()), ((), ((), ()))) := by kernel_rfl
/-! spec.Keep -/
noncomputable def spec_Keep_b : Code := bd Tryz.f16
def spec_Keep_T : List (Nat × Tm) := []
noncomputable def spec_Keep_E : Env := ⟨tt0, [(25, spec_l8Copy_C), (26, spec_NodeOk_C), (49, spec_l8Keep_C)]⟩
noncomputable def spec_Keep_F : PsD [.ro tNode, .ro tMeta] → Option (RsD [.own tNode] × PsO [.ro tNode, .ro tMeta]) := fun x => evFn spec_Keep_E spec_Keep_T Tryz.f16 spec_Keep_b [.ro tNode, .ro tMeta] [.own tNode] x
@[reducible] noncomputable def spec_Keep_C : Ct := ⟨[.ro tNode, .ro tMeta], [.own tNode], spec_Keep_F⟩
theorem spec_Keep_h (x : PsD [.ro tNode, .ro tMeta]) (y : RsD [.own tNode] × PsO [.ro tNode, .ro tMeta]) (h : spec_Keep_F x = some y) : evFn spec_Keep_E spec_Keep_T Tryz.f16 spec_Keep_b [.ro tNode, .ro tMeta] [.own tNode] x = some y := h
theorem spec_Keep_c : ∀ f c, get spec_Keep_E.ct f = some c → Sat Tryz.prog f c := ct_cons spec_l8Copy_S (ct_cons spec_NodeOk_S (ct_cons spec_l8Keep_S (ct_nil)))
theorem spec_Keep_S : Sat Tryz.prog 16 spec_Keep_C := fn_ok2 (envOk _) spec_Keep_c mixedOk Tryz.func16 (by kernel_rfl : Tryz.f16.body = some spec_Keep_b) (by kernel_rfl) (by kernel_rfl) spec_Keep_h
noncomputable def spec_Keep_Ke  (x0 : Int × Bool × Bool × List Int × (List Int × List (List Int) × Bool × Bool × Bool × Int × Unit) × (List Int × List Int × Unit) × List Bool × List (List Int) × List Bool × List Int × Unit) (x1 : List Int × List (List Int) × Bool × Bool × Bool × Int × Unit) : Ex → AS → Option (RsD [.own tNode] × PsO [.ro tNode, .ro tMeta]) := endK spec_Keep_E Tryz.f16 [.ro tNode, .ro tMeta] [.own tNode] (initL [.ro tNode, .ro tMeta] (x0, (x1, ())) 0).1
theorem spec_Keep_main (x0 : Int × Bool × Bool × List Int × (List Int × List (List Int) × Bool × Bool × Bool × Int × Unit) × (List Int × List Int × Unit) × List Bool × List (List Int) × List Bool × List Int × Unit) (x1 : List Int × List (List Int) × Bool × Bool × Bool × Int × Unit) : spec_Keep_F (x0, (x1, ())) =
 (spec_NodeOk_F ((x0.1, (x0.2.1, (x0.2.2.1, (x0.2.2.2.1, ((x0.2.2.2.2.1.1, (x0.2.2.2.2.1.2.1, (x0.2.2.2.2.1.2.2.1, (x0.2.2.2.2.1.2.2.2.1, (x0.2.2.2.2.1.2.2.2.2.1, (x0.2.2.2.2.1.2.2.2.2.2.1, ())))))), ((x0.2.2.2.2.2.1.1, (x0.2.2.2.2.2.1.2.1, ())), (x0.2.2.2.2.2.2.1, (x0.2.2.2.2.2.2.2.1, (x0.2.2.2.2.2.2.2.2.1, (x0.2.2.2.2.2.2.2.2.2.1, ())))))))))), ())).bind fun y7 =>
 brk (!y7.1.1)
 ((spec_l8Copy_F ((x0.1, (x0.2.1, (x0.2.2.1, (x0.2.2.2.1, ((x0.2.2.2.2.1.1, (x0.2.2.2.2.1.2.1, (x0.2.2.2.2.1.2.2.1, (x0.2.2.2.2.1.2.2.2.1, (x0.2.2.2.2.1.2.2.2.2.1, (x0.2.2.2.2.1.2.2.2.2.2.1, ())))))), ((x0.2.2.2.2.2.1.1, (x0.2.2.2.2.2.1.2.1, ())), (x0.2.2.2.2.2.2.1, (x0.2.2.2.2.2.2.2.1, (x0.2.2.2.2.2.2.2.2.1, (x0.2.2.2.2.2.2.2.2.2.1, ())))))))))), ())).bind fun y10 =>
 some (((y10.1.1.1, (y10.1.1.2.1, (y10.1.1.2.2.1, (y10.1.1.2.2.2.1, ((y10.1.1.2.2.2.2.1.1, (y10.1.1.2.2.2.2.1.2.1, (y10.1.1.2.2.2.2.1.2.2.1, (y10.1.1.2.2.2.2.1.2.2.2.1, (y10.1.1.2.2.2.2.1.2.2.2.2.1, (y10.1.1.2.2.2.2.1.2.2.2.2.2.1, ())))))), ((y10.1.1.2.2.2.2.2.1.1, (y10.1.1.2.2.2.2.2.1.2.1, ())), (y10.1.1.2.2.2.2.2.2.1, (y10.1.1.2.2.2.2.2.2.2.1, (y10.1.1.2.2.2.2.2.2.2.2.1, (y10.1.1.2.2.2.2.2.2.2.2.2.1, ())))))))))), ()), ((), ((), ()))))
 (both (both ((spec_l8Copy_F ((x0.1, (x0.2.1, (x0.2.2.1, (x0.2.2.2.1, ((x0.2.2.2.2.1.1, (x0.2.2.2.2.1.2.1, (x0.2.2.2.2.1.2.2.1, (x0.2.2.2.2.1.2.2.2.1, (x0.2.2.2.2.1.2.2.2.2.1, (x0.2.2.2.2.1.2.2.2.2.2.1, ())))))), ((x0.2.2.2.2.2.1.1, (x0.2.2.2.2.2.1.2.1, ())), (x0.2.2.2.2.2.2.1, (x0.2.2.2.2.2.2.2.1, (x0.2.2.2.2.2.2.2.2.1, (x0.2.2.2.2.2.2.2.2.2.1, ())))))))))), ())).bind fun y12 =>
 both (both ((spec_l8Keep_F ((y12.1.1.1, (y12.1.1.2.1, (y12.1.1.2.2.1, (y12.1.1.2.2.2.1, ((y12.1.1.2.2.2.2.1.1, (y12.1.1.2.2.2.2.1.2.1, (y12.1.1.2.2.2.2.1.2.2.1, (y12.1.1.2.2.2.2.1.2.2.2.1, (y12.1.1.2.2.2.2.1.2.2.2.2.1, (y12.1.1.2.2.2.2.1.2.2.2.2.2.1, ())))))), ((y12.1.1.2.2.2.2.2.1.1, (y12.1.1.2.2.2.2.2.1.2.1, ())), (y12.1.1.2.2.2.2.2.2.1, (y12.1.1.2.2.2.2.2.2.2.1, (y12.1.1.2.2.2.2.2.2.2.2.1, (y12.1.1.2.2.2.2.2.2.2.2.2.1, ())))))))))), ((x1.1, (x1.2.1, (x1.2.2.1, (x1.2.2.2.1, (x1.2.2.2.2.1, (x1.2.2.2.2.2.1, ())))))), ()))).bind fun y14 =>
 (spec_NodeOk_F ((y14.1.1.1, (y14.1.1.2.1, (y14.1.1.2.2.1, (y14.1.1.2.2.2.1, ((y14.1.1.2.2.2.2.1.1, (y14.1.1.2.2.2.2.1.2.1, (y14.1.1.2.2.2.2.1.2.2.1, (y14.1.1.2.2.2.2.1.2.2.2.1, (y14.1.1.2.2.2.2.1.2.2.2.2.1, (y14.1.1.2.2.2.2.1.2.2.2.2.2.1, ())))))), ((y14.1.1.2.2.2.2.2.1.1, (y14.1.1.2.2.2.2.2.1.2.1, ())), (y14.1.1.2.2.2.2.2.2.1, (y14.1.1.2.2.2.2.2.2.2.1, (y14.1.1.2.2.2.2.2.2.2.2.1, (y14.1.1.2.2.2.2.2.2.2.2.2.1, ())))))))))), ())).bind fun y16 =>
 brk (!y16.1.1)
 ((spec_l8Copy_F ((x0.1, (x0.2.1, (x0.2.2.1, (x0.2.2.2.1, ((x0.2.2.2.2.1.1, (x0.2.2.2.2.1.2.1, (x0.2.2.2.2.1.2.2.1, (x0.2.2.2.2.1.2.2.2.1, (x0.2.2.2.2.1.2.2.2.2.1, (x0.2.2.2.2.1.2.2.2.2.2.1, ())))))), ((x0.2.2.2.2.2.1.1, (x0.2.2.2.2.2.1.2.1, ())), (x0.2.2.2.2.2.2.1, (x0.2.2.2.2.2.2.2.1, (x0.2.2.2.2.2.2.2.2.1, (x0.2.2.2.2.2.2.2.2.2.1, ())))))))))), ())).bind fun y19 =>
 some (((y19.1.1.1, (y19.1.1.2.1, (y19.1.1.2.2.1, (y19.1.1.2.2.2.1, ((y19.1.1.2.2.2.2.1.1, (y19.1.1.2.2.2.2.1.2.1, (y19.1.1.2.2.2.2.1.2.2.1, (y19.1.1.2.2.2.2.1.2.2.2.1, (y19.1.1.2.2.2.2.1.2.2.2.2.1, (y19.1.1.2.2.2.2.1.2.2.2.2.2.1, ())))))), ((y19.1.1.2.2.2.2.2.1.1, (y19.1.1.2.2.2.2.2.1.2.1, ())), (y19.1.1.2.2.2.2.2.2.1, (y19.1.1.2.2.2.2.2.2.2.1, (y19.1.1.2.2.2.2.2.2.2.2.1, (y19.1.1.2.2.2.2.2.2.2.2.2.1, ())))))))))), ()), ((), ((), ()))))
 (some (((y14.1.1.1, (y14.1.1.2.1, (y14.1.1.2.2.1, (y14.1.1.2.2.2.1, ((y14.1.1.2.2.2.2.1.1, (y14.1.1.2.2.2.2.1.2.1, (y14.1.1.2.2.2.2.1.2.2.1, (y14.1.1.2.2.2.2.1.2.2.2.1, (y14.1.1.2.2.2.2.1.2.2.2.2.1, (y14.1.1.2.2.2.2.1.2.2.2.2.2.1, ())))))), ((y14.1.1.2.2.2.2.2.1.1, (y14.1.1.2.2.2.2.2.1.2.1, ())), (y14.1.1.2.2.2.2.2.2.1, (y14.1.1.2.2.2.2.2.2.2.1, (y14.1.1.2.2.2.2.2.2.2.2.1, (y14.1.1.2.2.2.2.2.2.2.2.2.1, ())))))))))), ()), ((), ((), ())))))
 ((spec_l8Keep_F ((y12.1.1.1, (y12.1.1.2.1, (y12.1.1.2.2.1, (y12.1.1.2.2.2.1, ((y12.1.1.2.2.2.2.1.1, (y12.1.1.2.2.2.2.1.2.1, (y12.1.1.2.2.2.2.1.2.2.1, (y12.1.1.2.2.2.2.1.2.2.2.1, (y12.1.1.2.2.2.2.1.2.2.2.2.1, (y12.1.1.2.2.2.2.1.2.2.2.2.2.1, ())))))), ((y12.1.1.2.2.2.2.2.1.1, (y12.1.1.2.2.2.2.2.1.2.1, ())), (y12.1.1.2.2.2.2.2.2.1, (y12.1.1.2.2.2.2.2.2.2.1, (y12.1.1.2.2.2.2.2.2.2.2.1, (y12.1.1.2.2.2.2.2.2.2.2.2.1, ())))))))))), ((x1.1, (x1.2.1, (x1.2.2.1, (x1.2.2.2.1, (x1.2.2.2.2.1, (x1.2.2.2.2.2.1, ())))))), ()))).bind fun y14 =>
 (spec_NodeOk_F ((y14.1.1.1, (y14.1.1.2.1, (y14.1.1.2.2.1, (y14.1.1.2.2.2.1, ((y14.1.1.2.2.2.2.1.1, (y14.1.1.2.2.2.2.1.2.1, (y14.1.1.2.2.2.2.1.2.2.1, (y14.1.1.2.2.2.2.1.2.2.2.1, (y14.1.1.2.2.2.2.1.2.2.2.2.1, (y14.1.1.2.2.2.2.1.2.2.2.2.2.1, ())))))), ((y14.1.1.2.2.2.2.2.1.1, (y14.1.1.2.2.2.2.2.1.2.1, ())), (y14.1.1.2.2.2.2.2.2.1, (y14.1.1.2.2.2.2.2.2.2.1, (y14.1.1.2.2.2.2.2.2.2.2.1, (y14.1.1.2.2.2.2.2.2.2.2.2.1, ())))))))))), ())).bind fun y16 =>
 brk (!y16.1.1)
 ((spec_l8Copy_F ((x0.1, (x0.2.1, (x0.2.2.1, (x0.2.2.2.1, ((x0.2.2.2.2.1.1, (x0.2.2.2.2.1.2.1, (x0.2.2.2.2.1.2.2.1, (x0.2.2.2.2.1.2.2.2.1, (x0.2.2.2.2.1.2.2.2.2.1, (x0.2.2.2.2.1.2.2.2.2.2.1, ())))))), ((x0.2.2.2.2.2.1.1, (x0.2.2.2.2.2.1.2.1, ())), (x0.2.2.2.2.2.2.1, (x0.2.2.2.2.2.2.2.1, (x0.2.2.2.2.2.2.2.2.1, (x0.2.2.2.2.2.2.2.2.2.1, ())))))))))), ())).bind fun y19 =>
 some (((y19.1.1.1, (y19.1.1.2.1, (y19.1.1.2.2.1, (y19.1.1.2.2.2.1, ((y19.1.1.2.2.2.2.1.1, (y19.1.1.2.2.2.2.1.2.1, (y19.1.1.2.2.2.2.1.2.2.1, (y19.1.1.2.2.2.2.1.2.2.2.1, (y19.1.1.2.2.2.2.1.2.2.2.2.1, (y19.1.1.2.2.2.2.1.2.2.2.2.2.1, ())))))), ((y19.1.1.2.2.2.2.2.1.1, (y19.1.1.2.2.2.2.2.1.2.1, ())), (y19.1.1.2.2.2.2.2.2.1, (y19.1.1.2.2.2.2.2.2.2.1, (y19.1.1.2.2.2.2.2.2.2.2.1, (y19.1.1.2.2.2.2.2.2.2.2.2.1, ())))))))))), ()), ((), ((), ()))))
 (some (((y14.1.1.1, (y14.1.1.2.1, (y14.1.1.2.2.1, (y14.1.1.2.2.2.1, ((y14.1.1.2.2.2.2.1.1, (y14.1.1.2.2.2.2.1.2.1, (y14.1.1.2.2.2.2.1.2.2.1, (y14.1.1.2.2.2.2.1.2.2.2.1, (y14.1.1.2.2.2.2.1.2.2.2.2.1, (y14.1.1.2.2.2.2.1.2.2.2.2.2.1, ())))))), ((y14.1.1.2.2.2.2.2.1.1, (y14.1.1.2.2.2.2.2.1.2.1, ())), (y14.1.1.2.2.2.2.2.2.1, (y14.1.1.2.2.2.2.2.2.2.1, (y14.1.1.2.2.2.2.2.2.2.2.1, (y14.1.1.2.2.2.2.2.2.2.2.2.1, ())))))))))), ()), ((), ((), ()))))))
 ((spec_l8Keep_F ((y12.1.1.1, (y12.1.1.2.1, (y12.1.1.2.2.1, (y12.1.1.2.2.2.1, ((y12.1.1.2.2.2.2.1.1, (y12.1.1.2.2.2.2.1.2.1, (y12.1.1.2.2.2.2.1.2.2.1, (y12.1.1.2.2.2.2.1.2.2.2.1, (y12.1.1.2.2.2.2.1.2.2.2.2.1, (y12.1.1.2.2.2.2.1.2.2.2.2.2.1, ())))))), ((y12.1.1.2.2.2.2.2.1.1, (y12.1.1.2.2.2.2.2.1.2.1, ())), (y12.1.1.2.2.2.2.2.2.1, (y12.1.1.2.2.2.2.2.2.2.1, (y12.1.1.2.2.2.2.2.2.2.2.1, (y12.1.1.2.2.2.2.2.2.2.2.2.1, ())))))))))), ((x1.1, (x1.2.1, (x1.2.2.1, (x1.2.2.2.1, (x1.2.2.2.2.1, (x1.2.2.2.2.2.1, ())))))), ()))).bind fun y14 =>
 (spec_NodeOk_F ((y14.1.1.1, (y14.1.1.2.1, (y14.1.1.2.2.1, (y14.1.1.2.2.2.1, ((y14.1.1.2.2.2.2.1.1, (y14.1.1.2.2.2.2.1.2.1, (y14.1.1.2.2.2.2.1.2.2.1, (y14.1.1.2.2.2.2.1.2.2.2.1, (y14.1.1.2.2.2.2.1.2.2.2.2.1, (y14.1.1.2.2.2.2.1.2.2.2.2.2.1, ())))))), ((y14.1.1.2.2.2.2.2.1.1, (y14.1.1.2.2.2.2.2.1.2.1, ())), (y14.1.1.2.2.2.2.2.2.1, (y14.1.1.2.2.2.2.2.2.2.1, (y14.1.1.2.2.2.2.2.2.2.2.1, (y14.1.1.2.2.2.2.2.2.2.2.2.1, ())))))))))), ())).bind fun y16 =>
 brk (!y16.1.1)
 ((spec_l8Copy_F ((x0.1, (x0.2.1, (x0.2.2.1, (x0.2.2.2.1, ((x0.2.2.2.2.1.1, (x0.2.2.2.2.1.2.1, (x0.2.2.2.2.1.2.2.1, (x0.2.2.2.2.1.2.2.2.1, (x0.2.2.2.2.1.2.2.2.2.1, (x0.2.2.2.2.1.2.2.2.2.2.1, ())))))), ((x0.2.2.2.2.2.1.1, (x0.2.2.2.2.2.1.2.1, ())), (x0.2.2.2.2.2.2.1, (x0.2.2.2.2.2.2.2.1, (x0.2.2.2.2.2.2.2.2.1, (x0.2.2.2.2.2.2.2.2.2.1, ())))))))))), ())).bind fun y19 =>
 some (((y19.1.1.1, (y19.1.1.2.1, (y19.1.1.2.2.1, (y19.1.1.2.2.2.1, ((y19.1.1.2.2.2.2.1.1, (y19.1.1.2.2.2.2.1.2.1, (y19.1.1.2.2.2.2.1.2.2.1, (y19.1.1.2.2.2.2.1.2.2.2.1, (y19.1.1.2.2.2.2.1.2.2.2.2.1, (y19.1.1.2.2.2.2.1.2.2.2.2.2.1, ())))))), ((y19.1.1.2.2.2.2.2.1.1, (y19.1.1.2.2.2.2.2.1.2.1, ())), (y19.1.1.2.2.2.2.2.2.1, (y19.1.1.2.2.2.2.2.2.2.1, (y19.1.1.2.2.2.2.2.2.2.2.1, (y19.1.1.2.2.2.2.2.2.2.2.2.1, ())))))))))), ()), ((), ((), ()))))
 (some (((y14.1.1.1, (y14.1.1.2.1, (y14.1.1.2.2.1, (y14.1.1.2.2.2.1, ((y14.1.1.2.2.2.2.1.1, (y14.1.1.2.2.2.2.1.2.1, (y14.1.1.2.2.2.2.1.2.2.1, (y14.1.1.2.2.2.2.1.2.2.2.1, (y14.1.1.2.2.2.2.1.2.2.2.2.1, (y14.1.1.2.2.2.2.1.2.2.2.2.2.1, ())))))), ((y14.1.1.2.2.2.2.2.1.1, (y14.1.1.2.2.2.2.2.1.2.1, ())), (y14.1.1.2.2.2.2.2.2.1, (y14.1.1.2.2.2.2.2.2.2.1, (y14.1.1.2.2.2.2.2.2.2.2.1, (y14.1.1.2.2.2.2.2.2.2.2.2.1, ())))))))))), ()), ((), ((), ()))))))
 (both (both ((spec_l8Copy_F ((x0.1, (x0.2.1, (x0.2.2.1, (x0.2.2.2.1, ((x0.2.2.2.2.1.1, (x0.2.2.2.2.1.2.1, (x0.2.2.2.2.1.2.2.1, (x0.2.2.2.2.1.2.2.2.1, (x0.2.2.2.2.1.2.2.2.2.1, (x0.2.2.2.2.1.2.2.2.2.2.1, ())))))), ((x0.2.2.2.2.2.1.1, (x0.2.2.2.2.2.1.2.1, ())), (x0.2.2.2.2.2.2.1, (x0.2.2.2.2.2.2.2.1, (x0.2.2.2.2.2.2.2.2.1, (x0.2.2.2.2.2.2.2.2.2.1, ())))))))))), ())).bind fun y12 =>
 both ((spec_l8Keep_F ((y12.1.1.1, (y12.1.1.2.1, (y12.1.1.2.2.1, (y12.1.1.2.2.2.1, ((y12.1.1.2.2.2.2.1.1, (y12.1.1.2.2.2.2.1.2.1, (y12.1.1.2.2.2.2.1.2.2.1, (y12.1.1.2.2.2.2.1.2.2.2.1, (y12.1.1.2.2.2.2.1.2.2.2.2.1, (y12.1.1.2.2.2.2.1.2.2.2.2.2.1, ())))))), ((y12.1.1.2.2.2.2.2.1.1, (y12.1.1.2.2.2.2.2.1.2.1, ())), (y12.1.1.2.2.2.2.2.2.1, (y12.1.1.2.2.2.2.2.2.2.1, (y12.1.1.2.2.2.2.2.2.2.2.1, (y12.1.1.2.2.2.2.2.2.2.2.2.1, ())))))))))), ((x1.1, (x1.2.1, (x1.2.2.1, (x1.2.2.2.1, (x1.2.2.2.2.1, (x1.2.2.2.2.2.1, ())))))), ()))).bind fun y14 =>
 (spec_NodeOk_F ((y14.1.1.1, (y14.1.1.2.1, (y14.1.1.2.2.1, (y14.1.1.2.2.2.1, ((y14.1.1.2.2.2.2.1.1, (y14.1.1.2.2.2.2.1.2.1, (y14.1.1.2.2.2.2.1.2.2.1, (y14.1.1.2.2.2.2.1.2.2.2.1, (y14.1.1.2.2.2.2.1.2.2.2.2.1, (y14.1.1.2.2.2.2.1.2.2.2.2.2.1, ())))))), ((y14.1.1.2.2.2.2.2.1.1, (y14.1.1.2.2.2.2.2.1.2.1, ())), (y14.1.1.2.2.2.2.2.2.1, (y14.1.1.2.2.2.2.2.2.2.1, (y14.1.1.2.2.2.2.2.2.2.2.1, (y14.1.1.2.2.2.2.2.2.2.2.2.1, ())))))))))), ())).bind fun y16 =>
 brk (!y16.1.1)
 ((spec_l8Copy_F ((x0.1, (x0.2.1, (x0.2.2.1, (x0.2.2.2.1, ((x0.2.2.2.2.1.1, (x0.2.2.2.2.1.2.1, (x0.2.2.2.2.1.2.2.1, (x0.2.2.2.2.1.2.2.2.1, (x0.2.2.2.2.1.2.2.2.2.1, (x0.2.2.2.2.1.2.2.2.2.2.1, ())))))), ((x0.2.2.2.2.2.1.1, (x0.2.2.2.2.2.1.2.1, ())), (x0.2.2.2.2.2.2.1, (x0.2.2.2.2.2.2.2.1, (x0.2.2.2.2.2.2.2.2.1, (x0.2.2.2.2.2.2.2.2.2.1, ())))))))))), ())).bind fun y19 =>
 some (((y19.1.1.1, (y19.1.1.2.1, (y19.1.1.2.2.1, (y19.1.1.2.2.2.1, ((y19.1.1.2.2.2.2.1.1, (y19.1.1.2.2.2.2.1.2.1, (y19.1.1.2.2.2.2.1.2.2.1, (y19.1.1.2.2.2.2.1.2.2.2.1, (y19.1.1.2.2.2.2.1.2.2.2.2.1, (y19.1.1.2.2.2.2.1.2.2.2.2.2.1, ())))))), ((y19.1.1.2.2.2.2.2.1.1, (y19.1.1.2.2.2.2.2.1.2.1, ())), (y19.1.1.2.2.2.2.2.2.1, (y19.1.1.2.2.2.2.2.2.2.1, (y19.1.1.2.2.2.2.2.2.2.2.1, (y19.1.1.2.2.2.2.2.2.2.2.2.1, ())))))))))), ()), ((), ((), ()))))
 (some (((y14.1.1.1, (y14.1.1.2.1, (y14.1.1.2.2.1, (y14.1.1.2.2.2.1, ((y14.1.1.2.2.2.2.1.1, (y14.1.1.2.2.2.2.1.2.1, (y14.1.1.2.2.2.2.1.2.2.1, (y14.1.1.2.2.2.2.1.2.2.2.1, (y14.1.1.2.2.2.2.1.2.2.2.2.1, (y14.1.1.2.2.2.2.1.2.2.2.2.2.1, ())))))), ((y14.1.1.2.2.2.2.2.1.1, (y14.1.1.2.2.2.2.2.1.2.1, ())), (y14.1.1.2.2.2.2.2.2.1, (y14.1.1.2.2.2.2.2.2.2.1, (y14.1.1.2.2.2.2.2.2.2.2.1, (y14.1.1.2.2.2.2.2.2.2.2.2.1, ())))))))))), ()), ((), ((), ())))))
 ((spec_l8Keep_F ((y12.1.1.1, (y12.1.1.2.1, (y12.1.1.2.2.1, (y12.1.1.2.2.2.1, ((y12.1.1.2.2.2.2.1.1, (y12.1.1.2.2.2.2.1.2.1, (y12.1.1.2.2.2.2.1.2.2.1, (y12.1.1.2.2.2.2.1.2.2.2.1, (y12.1.1.2.2.2.2.1.2.2.2.2.1, (y12.1.1.2.2.2.2.1.2.2.2.2.2.1, ())))))), ((y12.1.1.2.2.2.2.2.1.1, (y12.1.1.2.2.2.2.2.1.2.1, ())), (y12.1.1.2.2.2.2.2.2.1, (y12.1.1.2.2.2.2.2.2.2.1, (y12.1.1.2.2.2.2.2.2.2.2.1, (y12.1.1.2.2.2.2.2.2.2.2.2.1, ())))))))))), ((x1.1, (x1.2.1, (x1.2.2.1, (x1.2.2.2.1, (x1.2.2.2.2.1, (x1.2.2.2.2.2.1, ())))))), ()))).bind fun y14 =>
 (spec_NodeOk_F ((y14.1.1.1, (y14.1.1.2.1, (y14.1.1.2.2.1, (y14.1.1.2.2.2.1, ((y14.1.1.2.2.2.2.1.1, (y14.1.1.2.2.2.2.1.2.1, (y14.1.1.2.2.2.2.1.2.2.1, (y14.1.1.2.2.2.2.1.2.2.2.1, (y14.1.1.2.2.2.2.1.2.2.2.2.1, (y14.1.1.2.2.2.2.1.2.2.2.2.2.1, ())))))), ((y14.1.1.2.2.2.2.2.1.1, (y14.1.1.2.2.2.2.2.1.2.1, ())), (y14.1.1.2.2.2.2.2.2.1, (y14.1.1.2.2.2.2.2.2.2.1, (y14.1.1.2.2.2.2.2.2.2.2.1, (y14.1.1.2.2.2.2.2.2.2.2.2.1, ())))))))))), ())).bind fun y16 =>
 brk (!y16.1.1)
 ((spec_l8Copy_F ((x0.1, (x0.2.1, (x0.2.2.1, (x0.2.2.2.1, ((x0.2.2.2.2.1.1, (x0.2.2.2.2.1.2.1, (x0.2.2.2.2.1.2.2.1, (x0.2.2.2.2.1.2.2.2.1, (x0.2.2.2.2.1.2.2.2.2.1, (x0.2.2.2.2.1.2.2.2.2.2.1, ())))))), ((x0.2.2.2.2.2.1.1, (x0.2.2.2.2.2.1.2.1, ())), (x0.2.2.2.2.2.2.1, (x0.2.2.2.2.2.2.2.1, (x0.2.2.2.2.2.2.2.2.1, (x0.2.2.2.2.2.2.2.2.2.1, ())))))))))), ())).bind fun y19 =>
 some (((y19.1.1.1, (y19.1.1.2.1, (y19.1.1.2.2.1, (y19.1.1.2.2.2.1, ((y19.1.1.2.2.2.2.1.1, (y19.1.1.2.2.2.2.1.2.1, (y19.1.1.2.2.2.2.1.2.2.1, (y19.1.1.2.2.2.2.1.2.2.2.1, (y19.1.1.2.2.2.2.1.2.2.2.2.1, (y19.1.1.2.2.2.2.1.2.2.2.2.2.1, ())))))), ((y19.1.1.2.2.2.2.2.1.1, (y19.1.1.2.2.2.2.2.1.2.1, ())), (y19.1.1.2.2.2.2.2.2.1, (y19.1.1.2.2.2.2.2.2.2.1, (y19.1.1.2.2.2.2.2.2.2.2.1, (y19.1.1.2.2.2.2.2.2.2.2.2.1, ())))))))))), ()), ((), ((), ()))))
 (some (((y14.1.1.1, (y14.1.1.2.1, (y14.1.1.2.2.1, (y14.1.1.2.2.2.1, ((y14.1.1.2.2.2.2.1.1, (y14.1.1.2.2.2.2.1.2.1, (y14.1.1.2.2.2.2.1.2.2.1, (y14.1.1.2.2.2.2.1.2.2.2.1, (y14.1.1.2.2.2.2.1.2.2.2.2.1, (y14.1.1.2.2.2.2.1.2.2.2.2.2.1, ())))))), ((y14.1.1.2.2.2.2.2.1.1, (y14.1.1.2.2.2.2.2.1.2.1, ())), (y14.1.1.2.2.2.2.2.2.1, (y14.1.1.2.2.2.2.2.2.2.1, (y14.1.1.2.2.2.2.2.2.2.2.1, (y14.1.1.2.2.2.2.2.2.2.2.2.1, ())))))))))), ()), ((), ((), ()))))))
 ((spec_l8Copy_F ((x0.1, (x0.2.1, (x0.2.2.1, (x0.2.2.2.1, ((x0.2.2.2.2.1.1, (x0.2.2.2.2.1.2.1, (x0.2.2.2.2.1.2.2.1, (x0.2.2.2.2.1.2.2.2.1, (x0.2.2.2.2.1.2.2.2.2.1, (x0.2.2.2.2.1.2.2.2.2.2.1, ())))))), ((x0.2.2.2.2.2.1.1, (x0.2.2.2.2.2.1.2.1, ())), (x0.2.2.2.2.2.2.1, (x0.2.2.2.2.2.2.2.1, (x0.2.2.2.2.2.2.2.2.1, (x0.2.2.2.2.2.2.2.2.2.1, ())))))))))), ())).bind fun y12 =>
 (spec_l8Keep_F ((y12.1.1.1, (y12.1.1.2.1, (y12.1.1.2.2.1, (y12.1.1.2.2.2.1, ((y12.1.1.2.2.2.2.1.1, (y12.1.1.2.2.2.2.1.2.1, (y12.1.1.2.2.2.2.1.2.2.1, (y12.1.1.2.2.2.2.1.2.2.2.1, (y12.1.1.2.2.2.2.1.2.2.2.2.1, (y12.1.1.2.2.2.2.1.2.2.2.2.2.1, ())))))), ((y12.1.1.2.2.2.2.2.1.1, (y12.1.1.2.2.2.2.2.1.2.1, ())), (y12.1.1.2.2.2.2.2.2.1, (y12.1.1.2.2.2.2.2.2.2.1, (y12.1.1.2.2.2.2.2.2.2.2.1, (y12.1.1.2.2.2.2.2.2.2.2.2.1, ())))))))))), ((x1.1, (x1.2.1, (x1.2.2.1, (x1.2.2.2.1, (x1.2.2.2.2.1, (x1.2.2.2.2.2.1, ())))))), ()))).bind fun y14 =>
 (spec_NodeOk_F ((y14.1.1.1, (y14.1.1.2.1, (y14.1.1.2.2.1, (y14.1.1.2.2.2.1, ((y14.1.1.2.2.2.2.1.1, (y14.1.1.2.2.2.2.1.2.1, (y14.1.1.2.2.2.2.1.2.2.1, (y14.1.1.2.2.2.2.1.2.2.2.1, (y14.1.1.2.2.2.2.1.2.2.2.2.1, (y14.1.1.2.2.2.2.1.2.2.2.2.2.1, ())))))), ((y14.1.1.2.2.2.2.2.1.1, (y14.1.1.2.2.2.2.2.1.2.1, ())), (y14.1.1.2.2.2.2.2.2.1, (y14.1.1.2.2.2.2.2.2.2.1, (y14.1.1.2.2.2.2.2.2.2.2.1, (y14.1.1.2.2.2.2.2.2.2.2.2.1, ())))))))))), ())).bind fun y16 =>
 brk (!y16.1.1)
 ((spec_l8Copy_F ((x0.1, (x0.2.1, (x0.2.2.1, (x0.2.2.2.1, ((x0.2.2.2.2.1.1, (x0.2.2.2.2.1.2.1, (x0.2.2.2.2.1.2.2.1, (x0.2.2.2.2.1.2.2.2.1, (x0.2.2.2.2.1.2.2.2.2.1, (x0.2.2.2.2.1.2.2.2.2.2.1, ())))))), ((x0.2.2.2.2.2.1.1, (x0.2.2.2.2.2.1.2.1, ())), (x0.2.2.2.2.2.2.1, (x0.2.2.2.2.2.2.2.1, (x0.2.2.2.2.2.2.2.2.1, (x0.2.2.2.2.2.2.2.2.2.1, ())))))))))), ())).bind fun y19 =>
 some (((y19.1.1.1, (y19.1.1.2.1, (y19.1.1.2.2.1, (y19.1.1.2.2.2.1, ((y19.1.1.2.2.2.2.1.1, (y19.1.1.2.2.2.2.1.2.1, (y19.1.1.2.2.2.2.1.2.2.1, (y19.1.1.2.2.2.2.1.2.2.2.1, (y19.1.1.2.2.2.2.1.2.2.2.2.1, (y19.1.1.2.2.2.2.1.2.2.2.2.2.1, ())))))), ((y19.1.1.2.2.2.2.2.1.1, (y19.1.1.2.2.2.2.2.1.2.1, ())), (y19.1.1.2.2.2.2.2.2.1, (y19.1.1.2.2.2.2.2.2.2.1, (y19.1.1.2.2.2.2.2.2.2.2.1, (y19.1.1.2.2.2.2.2.2.2.2.2.1, ())))))))))), ()), ((), ((), ()))))
 (some (((y14.1.1.1, (y14.1.1.2.1, (y14.1.1.2.2.1, (y14.1.1.2.2.2.1, ((y14.1.1.2.2.2.2.1.1, (y14.1.1.2.2.2.2.1.2.1, (y14.1.1.2.2.2.2.1.2.2.1, (y14.1.1.2.2.2.2.1.2.2.2.1, (y14.1.1.2.2.2.2.1.2.2.2.2.1, (y14.1.1.2.2.2.2.1.2.2.2.2.2.1, ())))))), ((y14.1.1.2.2.2.2.2.1.1, (y14.1.1.2.2.2.2.2.1.2.1, ())), (y14.1.1.2.2.2.2.2.2.1, (y14.1.1.2.2.2.2.2.2.2.1, (y14.1.1.2.2.2.2.2.2.2.2.1, (y14.1.1.2.2.2.2.2.2.2.2.2.1, ())))))))))), ()), ((), ((), ()))))))
 (both ((spec_l8Copy_F ((x0.1, (x0.2.1, (x0.2.2.1, (x0.2.2.2.1, ((x0.2.2.2.2.1.1, (x0.2.2.2.2.1.2.1, (x0.2.2.2.2.1.2.2.1, (x0.2.2.2.2.1.2.2.2.1, (x0.2.2.2.2.1.2.2.2.2.1, (x0.2.2.2.2.1.2.2.2.2.2.1, ())))))), ((x0.2.2.2.2.2.1.1, (x0.2.2.2.2.2.1.2.1, ())), (x0.2.2.2.2.2.2.1, (x0.2.2.2.2.2.2.2.1, (x0.2.2.2.2.2.2.2.2.1, (x0.2.2.2.2.2.2.2.2.2.1, ())))))))))), ())).bind fun y12 =>
 (spec_l8Keep_F ((y12.1.1.1, (y12.1.1.2.1, (y12.1.1.2.2.1, (y12.1.1.2.2.2.1, ((y12.1.1.2.2.2.2.1.1, (y12.1.1.2.2.2.2.1.2.1, (y12.1.1.2.2.2.2.1.2.2.1, (y12.1.1.2.2.2.2.1.2.2.2.1, (y12.1.1.2.2.2.2.1.2.2.2.2.1, (y12.1.1.2.2.2.2.1.2.2.2.2.2.1, ())))))), ((y12.1.1.2.2.2.2.2.1.1, (y12.1.1.2.2.2.2.2.1.2.1, ())), (y12.1.1.2.2.2.2.2.2.1, (y12.1.1.2.2.2.2.2.2.2.1, (y12.1.1.2.2.2.2.2.2.2.2.1, (y12.1.1.2.2.2.2.2.2.2.2.2.1, ())))))))))), ((x1.1, (x1.2.1, (x1.2.2.1, (x1.2.2.2.1, (x1.2.2.2.2.1, (x1.2.2.2.2.2.1, ())))))), ()))).bind fun y14 =>
 (spec_NodeOk_F ((y14.1.1.1, (y14.1.1.2.1, (y14.1.1.2.2.1, (y14.1.1.2.2.2.1, ((y14.1.1.2.2.2.2.1.1, (y14.1.1.2.2.2.2.1.2.1, (y14.1.1.2.2.2.2.1.2.2.1, (y14.1.1.2.2.2.2.1.2.2.2.1, (y14.1.1.2.2.2.2.1.2.2.2.2.1, (y14.1.1.2.2.2.2.1.2.2.2.2.2.1, ())))))), ((y14.1.1.2.2.2.2.2.1.1, (y14.1.1.2.2.2.2.2.1.2.1, ())), (y14.1.1.2.2.2.2.2.2.1, (y14.1.1.2.2.2.2.2.2.2.1, (y14.1.1.2.2.2.2.2.2.2.2.1, (y14.1.1.2.2.2.2.2.2.2.2.2.1, ())))))))))), ())).bind fun y16 =>
 brk (!y16.1.1)
 ((spec_l8Copy_F ((x0.1, (x0.2.1, (x0.2.2.1, (x0.2.2.2.1, ((x0.2.2.2.2.1.1, (x0.2.2.2.2.1.2.1, (x0.2.2.2.2.1.2.2.1, (x0.2.2.2.2.1.2.2.2.1, (x0.2.2.2.2.1.2.2.2.2.1, (x0.2.2.2.2.1.2.2.2.2.2.1, ())))))), ((x0.2.2.2.2.2.1.1, (x0.2.2.2.2.2.1.2.1, ())), (x0.2.2.2.2.2.2.1, (x0.2.2.2.2.2.2.2.1, (x0.2.2.2.2.2.2.2.2.1, (x0.2.2.2.2.2.2.2.2.2.1, ())))))))))), ())).bind fun y19 =>
 some (((y19.1.1.1, (y19.1.1.2.1, (y19.1.1.2.2.1, (y19.1.1.2.2.2.1, ((y19.1.1.2.2.2.2.1.1, (y19.1.1.2.2.2.2.1.2.1, (y19.1.1.2.2.2.2.1.2.2.1, (y19.1.1.2.2.2.2.1.2.2.2.1, (y19.1.1.2.2.2.2.1.2.2.2.2.1, (y19.1.1.2.2.2.2.1.2.2.2.2.2.1, ())))))), ((y19.1.1.2.2.2.2.2.1.1, (y19.1.1.2.2.2.2.2.1.2.1, ())), (y19.1.1.2.2.2.2.2.2.1, (y19.1.1.2.2.2.2.2.2.2.1, (y19.1.1.2.2.2.2.2.2.2.2.1, (y19.1.1.2.2.2.2.2.2.2.2.2.1, ())))))))))), ()), ((), ((), ()))))
 (some (((y14.1.1.1, (y14.1.1.2.1, (y14.1.1.2.2.1, (y14.1.1.2.2.2.1, ((y14.1.1.2.2.2.2.1.1, (y14.1.1.2.2.2.2.1.2.1, (y14.1.1.2.2.2.2.1.2.2.1, (y14.1.1.2.2.2.2.1.2.2.2.1, (y14.1.1.2.2.2.2.1.2.2.2.2.1, (y14.1.1.2.2.2.2.1.2.2.2.2.2.1, ())))))), ((y14.1.1.2.2.2.2.2.1.1, (y14.1.1.2.2.2.2.2.1.2.1, ())), (y14.1.1.2.2.2.2.2.2.1, (y14.1.1.2.2.2.2.2.2.2.1, (y14.1.1.2.2.2.2.2.2.2.2.1, (y14.1.1.2.2.2.2.2.2.2.2.2.1, ())))))))))), ()), ((), ((), ())))))
 ((spec_l8Copy_F ((x0.1, (x0.2.1, (x0.2.2.1, (x0.2.2.2.1, ((x0.2.2.2.2.1.1, (x0.2.2.2.2.1.2.1, (x0.2.2.2.2.1.2.2.1, (x0.2.2.2.2.1.2.2.2.1, (x0.2.2.2.2.1.2.2.2.2.1, (x0.2.2.2.2.1.2.2.2.2.2.1, ())))))), ((x0.2.2.2.2.2.1.1, (x0.2.2.2.2.2.1.2.1, ())), (x0.2.2.2.2.2.2.1, (x0.2.2.2.2.2.2.2.1, (x0.2.2.2.2.2.2.2.2.1, (x0.2.2.2.2.2.2.2.2.2.1, ())))))))))), ())).bind fun y12 =>
 (spec_l8Keep_F ((y12.1.1.1, (y12.1.1.2.1, (y12.1.1.2.2.1, (y12.1.1.2.2.2.1, ((y12.1.1.2.2.2.2.1.1, (y12.1.1.2.2.2.2.1.2.1, (y12.1.1.2.2.2.2.1.2.2.1, (y12.1.1.2.2.2.2.1.2.2.2.1, (y12.1.1.2.2.2.2.1.2.2.2.2.1, (y12.1.1.2.2.2.2.1.2.2.2.2.2.1, ())))))), ((y12.1.1.2.2.2.2.2.1.1, (y12.1.1.2.2.2.2.2.1.2.1, ())), (y12.1.1.2.2.2.2.2.2.1, (y12.1.1.2.2.2.2.2.2.2.1, (y12.1.1.2.2.2.2.2.2.2.2.1, (y12.1.1.2.2.2.2.2.2.2.2.2.1, ())))))))))), ((x1.1, (x1.2.1, (x1.2.2.1, (x1.2.2.2.1, (x1.2.2.2.2.1, (x1.2.2.2.2.2.1, ())))))), ()))).bind fun y14 =>
 (spec_NodeOk_F ((y14.1.1.1, (y14.1.1.2.1, (y14.1.1.2.2.1, (y14.1.1.2.2.2.1, ((y14.1.1.2.2.2.2.1.1, (y14.1.1.2.2.2.2.1.2.1, (y14.1.1.2.2.2.2.1.2.2.1, (y14.1.1.2.2.2.2.1.2.2.2.1, (y14.1.1.2.2.2.2.1.2.2.2.2.1, (y14.1.1.2.2.2.2.1.2.2.2.2.2.1, ())))))), ((y14.1.1.2.2.2.2.2.1.1, (y14.1.1.2.2.2.2.2.1.2.1, ())), (y14.1.1.2.2.2.2.2.2.1, (y14.1.1.2.2.2.2.2.2.2.1, (y14.1.1.2.2.2.2.2.2.2.2.1, (y14.1.1.2.2.2.2.2.2.2.2.2.1, ())))))))))), ())).bind fun y16 =>
 brk (!y16.1.1)
 ((spec_l8Copy_F ((x0.1, (x0.2.1, (x0.2.2.1, (x0.2.2.2.1, ((x0.2.2.2.2.1.1, (x0.2.2.2.2.1.2.1, (x0.2.2.2.2.1.2.2.1, (x0.2.2.2.2.1.2.2.2.1, (x0.2.2.2.2.1.2.2.2.2.1, (x0.2.2.2.2.1.2.2.2.2.2.1, ())))))), ((x0.2.2.2.2.2.1.1, (x0.2.2.2.2.2.1.2.1, ())), (x0.2.2.2.2.2.2.1, (x0.2.2.2.2.2.2.2.1, (x0.2.2.2.2.2.2.2.2.1, (x0.2.2.2.2.2.2.2.2.2.1, ())))))))))), ())).bind fun y19 =>
 some (((y19.1.1.1, (y19.1.1.2.1, (y19.1.1.2.2.1, (y19.1.1.2.2.2.1, ((y19.1.1.2.2.2.2.1.1, (y19.1.1.2.2.2.2.1.2.1, (y19.1.1.2.2.2.2.1.2.2.1, (y19.1.1.2.2.2.2.1.2.2.2.1, (y19.1.1.2.2.2.2.1.2.2.2.2.1, (y19.1.1.2.2.2.2.1.2.2.2.2.2.1, ())))))), ((y19.1.1.2.2.2.2.2.1.1, (y19.1.1.2.2.2.2.2.1.2.1, ())), (y19.1.1.2.2.2.2.2.2.1, (y19.1.1.2.2.2.2.2.2.2.1, (y19.1.1.2.2.2.2.2.2.2.2.1, (y19.1.1.2.2.2.2.2.2.2.2.2.1, ())))))))))), ()), ((), ((), ()))))
 (some (((y14.1.1.1, (y14.1.1.2.1, (y14.1.1.2.2.1, (y14.1.1.2.2.2.1, ((y14.1.1.2.2.2.2.1.1, (y14.1.1.2.2.2.2.1.2.1, (y14.1.1.2.2.2.2.1.2.2.1, (y14.1.1.2.2.2.2.1.2.2.2.1, (y14.1.1.2.2.2.2.1.2.2.2.2.1, (y14.1.1.2.2.2.2.1.2.2.2.2.2.1, ())))))), ((y14.1.1.2.2.2.2.2.1.1, (y14.1.1.2.2.2.2.2.1.2.1, ())), (y14.1.1.2.2.2.2.2.2.1, (y14.1.1.2.2.2.2.2.2.2.1, (y14.1.1.2.2.2.2.2.2.2.2.1, (y14.1.1.2.2.2.2.2.2.2.2.2.1, ())))))))))), ()), ((), ((), ()))))))))
 (both (both (both ((spec_l8Copy_F ((x0.1, (x0.2.1, (x0.2.2.1, (x0.2.2.2.1, ((x0.2.2.2.2.1.1, (x0.2.2.2.2.1.2.1, (x0.2.2.2.2.1.2.2.1, (x0.2.2.2.2.1.2.2.2.1, (x0.2.2.2.2.1.2.2.2.2.1, (x0.2.2.2.2.1.2.2.2.2.2.1, ())))))), ((x0.2.2.2.2.2.1.1, (x0.2.2.2.2.2.1.2.1, ())), (x0.2.2.2.2.2.2.1, (x0.2.2.2.2.2.2.2.1, (x0.2.2.2.2.2.2.2.2.1, (x0.2.2.2.2.2.2.2.2.2.1, ())))))))))), ())).bind fun y12 =>
 both ((spec_l8Keep_F ((y12.1.1.1, (y12.1.1.2.1, (y12.1.1.2.2.1, (y12.1.1.2.2.2.1, ((y12.1.1.2.2.2.2.1.1, (y12.1.1.2.2.2.2.1.2.1, (y12.1.1.2.2.2.2.1.2.2.1, (y12.1.1.2.2.2.2.1.2.2.2.1, (y12.1.1.2.2.2.2.1.2.2.2.2.1, (y12.1.1.2.2.2.2.1.2.2.2.2.2.1, ())))))), ((y12.1.1.2.2.2.2.2.1.1, (y12.1.1.2.2.2.2.2.1.2.1, ())), (y12.1.1.2.2.2.2.2.2.1, (y12.1.1.2.2.2.2.2.2.2.1, (y12.1.1.2.2.2.2.2.2.2.2.1, (y12.1.1.2.2.2.2.2.2.2.2.2.1, ())))))))))), ((x1.1, (x1.2.1, (x1.2.2.1, (x1.2.2.2.1, (x1.2.2.2.2.1, (x1.2.2.2.2.2.1, ())))))), ()))).bind fun y14 =>
 (spec_NodeOk_F ((y14.1.1.1, (y14.1.1.2.1, (y14.1.1.2.2.1, (y14.1.1.2.2.2.1, ((y14.1.1.2.2.2.2.1.1, (y14.1.1.2.2.2.2.1.2.1, (y14.1.1.2.2.2.2.1.2.2.1, (y14.1.1.2.2.2.2.1.2.2.2.1, (y14.1.1.2.2.2.2.1.2.2.2.2.1, (y14.1.1.2.2.2.2.1.2.2.2.2.2.1, ())))))), ((y14.1.1.2.2.2.2.2.1.1, (y14.1.1.2.2.2.2.2.1.2.1, ())), (y14.1.1.2.2.2.2.2.2.1, (y14.1.1.2.2.2.2.2.2.2.1, (y14.1.1.2.2.2.2.2.2.2.2.1, (y14.1.1.2.2.2.2.2.2.2.2.2.1, ())))))))))), ())).bind fun y16 =>
 brk (!y16.1.1)
 ((spec_l8Copy_F ((x0.1, (x0.2.1, (x0.2.2.1, (x0.2.2.2.1, ((x0.2.2.2.2.1.1, (x0.2.2.2.2.1.2.1, (x0.2.2.2.2.1.2.2.1, (x0.2.2.2.2.1.2.2.2.1, (x0.2.2.2.2.1.2.2.2.2.1, (x0.2.2.2.2.1.2.2.2.2.2.1, ())))))), ((x0.2.2.2.2.2.1.1, (x0.2.2.2.2.2.1.2.1, ())), (x0.2.2.2.2.2.2.1, (x0.2.2.2.2.2.2.2.1, (x0.2.2.2.2.2.2.2.2.1, (x0.2.2.2.2.2.2.2.2.2.1, ())))))))))), ())).bind fun y19 =>
 some (((y19.1.1.1, (y19.1.1.2.1, (y19.1.1.2.2.1, (y19.1.1.2.2.2.1, ((y19.1.1.2.2.2.2.1.1, (y19.1.1.2.2.2.2.1.2.1, (y19.1.1.2.2.2.2.1.2.2.1, (y19.1.1.2.2.2.2.1.2.2.2.1, (y19.1.1.2.2.2.2.1.2.2.2.2.1, (y19.1.1.2.2.2.2.1.2.2.2.2.2.1, ())))))), ((y19.1.1.2.2.2.2.2.1.1, (y19.1.1.2.2.2.2.2.1.2.1, ())), (y19.1.1.2.2.2.2.2.2.1, (y19.1.1.2.2.2.2.2.2.2.1, (y19.1.1.2.2.2.2.2.2.2.2.1, (y19.1.1.2.2.2.2.2.2.2.2.2.1, ())))))))))), ()), ((), ((), ()))))
 (some (((y14.1.1.1, (y14.1.1.2.1, (y14.1.1.2.2.1, (y14.1.1.2.2.2.1, ((y14.1.1.2.2.2.2.1.1, (y14.1.1.2.2.2.2.1.2.1, (y14.1.1.2.2.2.2.1.2.2.1, (y14.1.1.2.2.2.2.1.2.2.2.1, (y14.1.1.2.2.2.2.1.2.2.2.2.1, (y14.1.1.2.2.2.2.1.2.2.2.2.2.1, ())))))), ((y14.1.1.2.2.2.2.2.1.1, (y14.1.1.2.2.2.2.2.1.2.1, ())), (y14.1.1.2.2.2.2.2.2.1, (y14.1.1.2.2.2.2.2.2.2.1, (y14.1.1.2.2.2.2.2.2.2.2.1, (y14.1.1.2.2.2.2.2.2.2.2.2.1, ())))))))))), ()), ((), ((), ())))))
 ((spec_l8Keep_F ((y12.1.1.1, (y12.1.1.2.1, (y12.1.1.2.2.1, (y12.1.1.2.2.2.1, ((y12.1.1.2.2.2.2.1.1, (y12.1.1.2.2.2.2.1.2.1, (y12.1.1.2.2.2.2.1.2.2.1, (y12.1.1.2.2.2.2.1.2.2.2.1, (y12.1.1.2.2.2.2.1.2.2.2.2.1, (y12.1.1.2.2.2.2.1.2.2.2.2.2.1, ())))))), ((y12.1.1.2.2.2.2.2.1.1, (y12.1.1.2.2.2.2.2.1.2.1, ())), (y12.1.1.2.2.2.2.2.2.1, (y12.1.1.2.2.2.2.2.2.2.1, (y12.1.1.2.2.2.2.2.2.2.2.1, (y12.1.1.2.2.2.2.2.2.2.2.2.1, ())))))))))), ((x1.1, (x1.2.1, (x1.2.2.1, (x1.2.2.2.1, (x1.2.2.2.2.1, (x1.2.2.2.2.2.1, ())))))), ()))).bind fun y14 =>
 (spec_NodeOk_F ((y14.1.1.1, (y14.1.1.2.1, (y14.1.1.2.2.1, (y14.1.1.2.2.2.1, ((y14.1.1.2.2.2.2.1.1, (y14.1.1.2.2.2.2.1.2.1, (y14.1.1.2.2.2.2.1.2.2.1, (y14.1.1.2.2.2.2.1.2.2.2.1, (y14.1.1.2.2.2.2.1.2.2.2.2.1, (y14.1.1.2.2.2.2.1.2.2.2.2.2.1, ())))))), ((y14.1.1.2.2.2.2.2.1.1, (y14.1.1.2.2.2.2.2.1.2.1, ())), (y14.1.1.2.2.2.2.2.2.1, (y14.1.1.2.2.2.2.2.2.2.1, (y14.1.1.2.2.2.2.2.2.2.2.1, (y14.1.1.2.2.2.2.2.2.2.2.2.1, ())))))))))), ())).bind fun y16 =>
 brk (!y16.1.1)
 ((spec_l8Copy_F ((x0.1, (x0.2.1, (x0.2.2.1, (x0.2.2.2.1, ((x0.2.2.2.2.1.1, (x0.2.2.2.2.1.2.1, (x0.2.2.2.2.1.2.2.1, (x0.2.2.2.2.1.2.2.2.1, (x0.2.2.2.2.1.2.2.2.2.1, (x0.2.2.2.2.1.2.2.2.2.2.1, ())))))), ((x0.2.2.2.2.2.1.1, (x0.2.2.2.2.2.1.2.1, ())), (x0.2.2.2.2.2.2.1, (x0.2.2.2.2.2.2.2.1, (x0.2.2.2.2.2.2.2.2.1, (x0.2.2.2.2.2.2.2.2.2.1, ())))))))))), ())).bind fun y19 =>
 some (((y19.1.1.1, (y19.1.1.2.1, (y19.1.1.2.2.1, (y19.1.1.2.2.2.1, ((y19.1.1.2.2.2.2.1.1, (y19.1.1.2.2.2.2.1.2.1, (y19.1.1.2.2.2.2.1.2.2.1, (y19.1.1.2.2.2.2.1.2.2.2.1, (y19.1.1.2.2.2.2.1.2.2.2.2.1, (y19.1.1.2.2.2.2.1.2.2.2.2.2.1, ())))))), ((y19.1.1.2.2.2.2.2.1.1, (y19.1.1.2.2.2.2.2.1.2.1, ())), (y19.1.1.2.2.2.2.2.2.1, (y19.1.1.2.2.2.2.2.2.2.1, (y19.1.1.2.2.2.2.2.2.2.2.1, (y19.1.1.2.2.2.2.2.2.2.2.2.1, ())))))))))), ()), ((), ((), ()))))
 (some (((y14.1.1.1, (y14.1.1.2.1, (y14.1.1.2.2.1, (y14.1.1.2.2.2.1, ((y14.1.1.2.2.2.2.1.1, (y14.1.1.2.2.2.2.1.2.1, (y14.1.1.2.2.2.2.1.2.2.1, (y14.1.1.2.2.2.2.1.2.2.2.1, (y14.1.1.2.2.2.2.1.2.2.2.2.1, (y14.1.1.2.2.2.2.1.2.2.2.2.2.1, ())))))), ((y14.1.1.2.2.2.2.2.1.1, (y14.1.1.2.2.2.2.2.1.2.1, ())), (y14.1.1.2.2.2.2.2.2.1, (y14.1.1.2.2.2.2.2.2.2.1, (y14.1.1.2.2.2.2.2.2.2.2.1, (y14.1.1.2.2.2.2.2.2.2.2.2.1, ())))))))))), ()), ((), ((), ()))))))
 ((spec_l8Copy_F ((x0.1, (x0.2.1, (x0.2.2.1, (x0.2.2.2.1, ((x0.2.2.2.2.1.1, (x0.2.2.2.2.1.2.1, (x0.2.2.2.2.1.2.2.1, (x0.2.2.2.2.1.2.2.2.1, (x0.2.2.2.2.1.2.2.2.2.1, (x0.2.2.2.2.1.2.2.2.2.2.1, ())))))), ((x0.2.2.2.2.2.1.1, (x0.2.2.2.2.2.1.2.1, ())), (x0.2.2.2.2.2.2.1, (x0.2.2.2.2.2.2.2.1, (x0.2.2.2.2.2.2.2.2.1, (x0.2.2.2.2.2.2.2.2.2.1, ())))))))))), ())).bind fun y12 =>
 (spec_l8Keep_F ((y12.1.1.1, (y12.1.1.2.1, (y12.1.1.2.2.1, (y12.1.1.2.2.2.1, ((y12.1.1.2.2.2.2.1.1, (y12.1.1.2.2.2.2.1.2.1, (y12.1.1.2.2.2.2.1.2.2.1, (y12.1.1.2.2.2.2.1.2.2.2.1, (y12.1.1.2.2.2.2.1.2.2.2.2.1, (y12.1.1.2.2.2.2.1.2.2.2.2.2.1, ())))))), ((y12.1.1.2.2.2.2.2.1.1, (y12.1.1.2.2.2.2.2.1.2.1, ())), (y12.1.1.2.2.2.2.2.2.1, (y12.1.1.2.2.2.2.2.2.2.1, (y12.1.1.2.2.2.2.2.2.2.2.1, (y12.1.1.2.2.2.2.2.2.2.2.2.1, ())))))))))), ((x1.1, (x1.2.1, (x1.2.2.1, (x1.2.2.2.1, (x1.2.2.2.2.1, (x1.2.2.2.2.2.1, ())))))), ()))).bind fun y14 =>
 (spec_NodeOk_F ((y14.1.1.1, (y14.1.1.2.1, (y14.1.1.2.2.1, (y14.1.1.2.2.2.1, ((y14.1.1.2.2.2.2.1.1, (y14.1.1.2.2.2.2.1.2.1, (y14.1.1.2.2.2.2.1.2.2.1, (y14.1.1.2.2.2.2.1.2.2.2.1, (y14.1.1.2.2.2.2.1.2.2.2.2.1, (y14.1.1.2.2.2.2.1.2.2.2.2.2.1, ())))))), ((y14.1.1.2.2.2.2.2.1.1, (y14.1.1.2.2.2.2.2.1.2.1, ())), (y14.1.1.2.2.2.2.2.2.1, (y14.1.1.2.2.2.2.2.2.2.1, (y14.1.1.2.2.2.2.2.2.2.2.1, (y14.1.1.2.2.2.2.2.2.2.2.2.1, ())))))))))), ())).bind fun y16 =>
 brk (!y16.1.1)
 ((spec_l8Copy_F ((x0.1, (x0.2.1, (x0.2.2.1, (x0.2.2.2.1, ((x0.2.2.2.2.1.1, (x0.2.2.2.2.1.2.1, (x0.2.2.2.2.1.2.2.1, (x0.2.2.2.2.1.2.2.2.1, (x0.2.2.2.2.1.2.2.2.2.1, (x0.2.2.2.2.1.2.2.2.2.2.1, ())))))), ((x0.2.2.2.2.2.1.1, (x0.2.2.2.2.2.1.2.1, ())), (x0.2.2.2.2.2.2.1, (x0.2.2.2.2.2.2.2.1, (x0.2.2.2.2.2.2.2.2.1, (x0.2.2.2.2.2.2.2.2.2.1, ())))))))))), ())).bind fun y19 =>
 some (((y19.1.1.1, (y19.1.1.2.1, (y19.1.1.2.2.1, (y19.1.1.2.2.2.1, ((y19.1.1.2.2.2.2.1.1, (y19.1.1.2.2.2.2.1.2.1, (y19.1.1.2.2.2.2.1.2.2.1, (y19.1.1.2.2.2.2.1.2.2.2.1, (y19.1.1.2.2.2.2.1.2.2.2.2.1, (y19.1.1.2.2.2.2.1.2.2.2.2.2.1, ())))))), ((y19.1.1.2.2.2.2.2.1.1, (y19.1.1.2.2.2.2.2.1.2.1, ())), (y19.1.1.2.2.2.2.2.2.1, (y19.1.1.2.2.2.2.2.2.2.1, (y19.1.1.2.2.2.2.2.2.2.2.1, (y19.1.1.2.2.2.2.2.2.2.2.2.1, ())))))))))), ()), ((), ((), ()))))
 (some (((y14.1.1.1, (y14.1.1.2.1, (y14.1.1.2.2.1, (y14.1.1.2.2.2.1, ((y14.1.1.2.2.2.2.1.1, (y14.1.1.2.2.2.2.1.2.1, (y14.1.1.2.2.2.2.1.2.2.1, (y14.1.1.2.2.2.2.1.2.2.2.1, (y14.1.1.2.2.2.2.1.2.2.2.2.1, (y14.1.1.2.2.2.2.1.2.2.2.2.2.1, ())))))), ((y14.1.1.2.2.2.2.2.1.1, (y14.1.1.2.2.2.2.2.1.2.1, ())), (y14.1.1.2.2.2.2.2.2.1, (y14.1.1.2.2.2.2.2.2.2.1, (y14.1.1.2.2.2.2.2.2.2.2.1, (y14.1.1.2.2.2.2.2.2.2.2.2.1, ())))))))))), ()), ((), ((), ()))))))
 ((spec_l8Copy_F ((x0.1, (x0.2.1, (x0.2.2.1, (x0.2.2.2.1, ((x0.2.2.2.2.1.1, (x0.2.2.2.2.1.2.1, (x0.2.2.2.2.1.2.2.1, (x0.2.2.2.2.1.2.2.2.1, (x0.2.2.2.2.1.2.2.2.2.1, (x0.2.2.2.2.1.2.2.2.2.2.1, ())))))), ((x0.2.2.2.2.2.1.1, (x0.2.2.2.2.2.1.2.1, ())), (x0.2.2.2.2.2.2.1, (x0.2.2.2.2.2.2.2.1, (x0.2.2.2.2.2.2.2.2.1, (x0.2.2.2.2.2.2.2.2.2.1, ())))))))))), ())).bind fun y12 =>
 (spec_l8Keep_F ((y12.1.1.1, (y12.1.1.2.1, (y12.1.1.2.2.1, (y12.1.1.2.2.2.1, ((y12.1.1.2.2.2.2.1.1, (y12.1.1.2.2.2.2.1.2.1, (y12.1.1.2.2.2.2.1.2.2.1, (y12.1.1.2.2.2.2.1.2.2.2.1, (y12.1.1.2.2.2.2.1.2.2.2.2.1, (y12.1.1.2.2.2.2.1.2.2.2.2.2.1, ())))))), ((y12.1.1.2.2.2.2.2.1.1, (y12.1.1.2.2.2.2.2.1.2.1, ())), (y12.1.1.2.2.2.2.2.2.1, (y12.1.1.2.2.2.2.2.2.2.1, (y12.1.1.2.2.2.2.2.2.2.2.1, (y12.1.1.2.2.2.2.2.2.2.2.2.1, ())))))))))), ((x1.1, (x1.2.1, (x1.2.2.1, (x1.2.2.2.1, (x1.2.2.2.2.1, (x1.2.2.2.2.2.1, ())))))), ()))).bind fun y14 =>
 (spec_NodeOk_F ((y14.1.1.1, (y14.1.1.2.1, (y14.1.1.2.2.1, (y14.1.1.2.2.2.1, ((y14.1.1.2.2.2.2.1.1, (y14.1.1.2.2.2.2.1.2.1, (y14.1.1.2.2.2.2.1.2.2.1, (y14.1.1.2.2.2.2.1.2.2.2.1, (y14.1.1.2.2.2.2.1.2.2.2.2.1, (y14.1.1.2.2.2.2.1.2.2.2.2.2.1, ())))))), ((y14.1.1.2.2.2.2.2.1.1, (y14.1.1.2.2.2.2.2.1.2.1, ())), (y14.1.1.2.2.2.2.2.2.1, (y14.1.1.2.2.2.2.2.2.2.1, (y14.1.1.2.2.2.2.2.2.2.2.1, (y14.1.1.2.2.2.2.2.2.2.2.2.1, ())))))))))), ())).bind fun y16 =>
 brk (!y16.1.1)
 ((spec_l8Copy_F ((x0.1, (x0.2.1, (x0.2.2.1, (x0.2.2.2.1, ((x0.2.2.2.2.1.1, (x0.2.2.2.2.1.2.1, (x0.2.2.2.2.1.2.2.1, (x0.2.2.2.2.1.2.2.2.1, (x0.2.2.2.2.1.2.2.2.2.1, (x0.2.2.2.2.1.2.2.2.2.2.1, ())))))), ((x0.2.2.2.2.2.1.1, (x0.2.2.2.2.2.1.2.1, ())), (x0.2.2.2.2.2.2.1, (x0.2.2.2.2.2.2.2.1, (x0.2.2.2.2.2.2.2.2.1, (x0.2.2.2.2.2.2.2.2.2.1, ())))))))))), ())).bind fun y19 =>
 some (((y19.1.1.1, (y19.1.1.2.1, (y19.1.1.2.2.1, (y19.1.1.2.2.2.1, ((y19.1.1.2.2.2.2.1.1, (y19.1.1.2.2.2.2.1.2.1, (y19.1.1.2.2.2.2.1.2.2.1, (y19.1.1.2.2.2.2.1.2.2.2.1, (y19.1.1.2.2.2.2.1.2.2.2.2.1, (y19.1.1.2.2.2.2.1.2.2.2.2.2.1, ())))))), ((y19.1.1.2.2.2.2.2.1.1, (y19.1.1.2.2.2.2.2.1.2.1, ())), (y19.1.1.2.2.2.2.2.2.1, (y19.1.1.2.2.2.2.2.2.2.1, (y19.1.1.2.2.2.2.2.2.2.2.1, (y19.1.1.2.2.2.2.2.2.2.2.2.1, ())))))))))), ()), ((), ((), ()))))
 (some (((y14.1.1.1, (y14.1.1.2.1, (y14.1.1.2.2.1, (y14.1.1.2.2.2.1, ((y14.1.1.2.2.2.2.1.1, (y14.1.1.2.2.2.2.1.2.1, (y14.1.1.2.2.2.2.1.2.2.1, (y14.1.1.2.2.2.2.1.2.2.2.1, (y14.1.1.2.2.2.2.1.2.2.2.2.1, (y14.1.1.2.2.2.2.1.2.2.2.2.2.1, ())))))), ((y14.1.1.2.2.2.2.2.1.1, (y14.1.1.2.2.2.2.2.1.2.1, ())), (y14.1.1.2.2.2.2.2.2.1, (y14.1.1.2.2.2.2.2.2.2.1, (y14.1.1.2.2.2.2.2.2.2.2.1, (y14.1.1.2.2.2.2.2.2.2.2.2.1, ())))))))))), ()), ((), ((), ()))))))
 (both (both ((spec_l8Copy_F ((x0.1, (x0.2.1, (x0.2.2.1, (x0.2.2.2.1, ((x0.2.2.2.2.1.1, (x0.2.2.2.2.1.2.1, (x0.2.2.2.2.1.2.2.1, (x0.2.2.2.2.1.2.2.2.1, (x0.2.2.2.2.1.2.2.2.2.1, (x0.2.2.2.2.1.2.2.2.2.2.1, ())))))), ((x0.2.2.2.2.2.1.1, (x0.2.2.2.2.2.1.2.1, ())), (x0.2.2.2.2.2.2.1, (x0.2.2.2.2.2.2.2.1, (x0.2.2.2.2.2.2.2.2.1, (x0.2.2.2.2.2.2.2.2.2.1, ())))))))))), ())).bind fun y12 =>
 (spec_l8Keep_F ((y12.1.1.1, (y12.1.1.2.1, (y12.1.1.2.2.1, (y12.1.1.2.2.2.1, ((y12.1.1.2.2.2.2.1.1, (y12.1.1.2.2.2.2.1.2.1, (y12.1.1.2.2.2.2.1.2.2.1, (y12.1.1.2.2.2.2.1.2.2.2.1, (y12.1.1.2.2.2.2.1.2.2.2.2.1, (y12.1.1.2.2.2.2.1.2.2.2.2.2.1, ())))))), ((y12.1.1.2.2.2.2.2.1.1, (y12.1.1.2.2.2.2.2.1.2.1, ())), (y12.1.1.2.2.2.2.2.2.1, (y12.1.1.2.2.2.2.2.2.2.1, (y12.1.1.2.2.2.2.2.2.2.2.1, (y12.1.1.2.2.2.2.2.2.2.2.2.1, ())))))))))), ((x1.1, (x1.2.1, (x1.2.2.1, (x1.2.2.2.1, (x1.2.2.2.2.1, (x1.2.2.2.2.2.1, ())))))), ()))).bind fun y14 =>
 (spec_NodeOk_F ((y14.1.1.1, (y14.1.1.2.1, (y14.1.1.2.2.1, (y14.1.1.2.2.2.1, ((y14.1.1.2.2.2.2.1.1, (y14.1.1.2.2.2.2.1.2.1, (y14.1.1.2.2.2.2.1.2.2.1, (y14.1.1.2.2.2.2.1.2.2.2.1, (y14.1.1.2.2.2.2.1.2.2.2.2.1, (y14.1.1.2.2.2.2.1.2.2.2.2.2.1, ())))))), ((y14.1.1.2.2.2.2.2.1.1, (y14.1.1.2.2.2.2.2.1.2.1, ())), (y14.1.1.2.2.2.2.2.2.1, (y14.1.1.2.2.2.2.2.2.2.1, (y14.1.1.2.2.2.2.2.2.2.2.1, (y14.1.1.2.2.2.2.2.2.2.2.2.1, ())))))))))), ())).bind fun y16 =>
 brk (!y16.1.1)
 ((spec_l8Copy_F ((x0.1, (x0.2.1, (x0.2.2.1, (x0.2.2.2.1, ((x0.2.2.2.2.1.1, (x0.2.2.2.2.1.2.1, (x0.2.2.2.2.1.2.2.1, (x0.2.2.2.2.1.2.2.2.1, (x0.2.2.2.2.1.2.2.2.2.1, (x0.2.2.2.2.1.2.2.2.2.2.1, ())))))), ((x0.2.2.2.2.2.1.1, (x0.2.2.2.2.2.1.2.1, ())), (x0.2.2.2.2.2.2.1, (x0.2.2.2.2.2.2.2.1, (x0.2.2.2.2.2.2.2.2.1, (x0.2.2.2.2.2.2.2.2.2.1, ())))))))))), ())).bind fun y19 =>
 some (((y19.1.1.1, (y19.1.1.2.1, (y19.1.1.2.2.1, (y19.1.1.2.2.2.1, ((y19.1.1.2.2.2.2.1.1, (y19.1.1.2.2.2.2.1.2.1, (y19.1.1.2.2.2.2.1.2.2.1, (y19.1.1.2.2.2.2.1.2.2.2.1, (y19.1.1.2.2.2.2.1.2.2.2.2.1, (y19.1.1.2.2.2.2.1.2.2.2.2.2.1, ())))))), ((y19.1.1.2.2.2.2.2.1.1, (y19.1.1.2.2.2.2.2.1.2.1, ())), (y19.1.1.2.2.2.2.2.2.1, (y19.1.1.2.2.2.2.2.2.2.1, (y19.1.1.2.2.2.2.2.2.2.2.1, (y19.1.1.2.2.2.2.2.2.2.2.2.1, ())))))))))), ()), ((), ((), ()))))
 (some (((y14.1.1.1, (y14.1.1.2.1, (y14.1.1.2.2.1, (y14.1.1.2.2.2.1, ((y14.1.1.2.2.2.2.1.1, (y14.1.1.2.2.2.2.1.2.1, (y14.1.1.2.2.2.2.1.2.2.1, (y14.1.1.2.2.2.2.1.2.2.2.1, (y14.1.1.2.2.2.2.1.2.2.2.2.1, (y14.1.1.2.2.2.2.1.2.2.2.2.2.1, ())))))), ((y14.1.1.2.2.2.2.2.1.1, (y14.1.1.2.2.2.2.2.1.2.1, ())), (y14.1.1.2.2.2.2.2.2.1, (y14.1.1.2.2.2.2.2.2.2.1, (y14.1.1.2.2.2.2.2.2.2.2.1, (y14.1.1.2.2.2.2.2.2.2.2.2.1, ())))))))))), ()), ((), ((), ())))))
 ((spec_l8Copy_F ((x0.1, (x0.2.1, (x0.2.2.1, (x0.2.2.2.1, ((x0.2.2.2.2.1.1, (x0.2.2.2.2.1.2.1, (x0.2.2.2.2.1.2.2.1, (x0.2.2.2.2.1.2.2.2.1, (x0.2.2.2.2.1.2.2.2.2.1, (x0.2.2.2.2.1.2.2.2.2.2.1, ())))))), ((x0.2.2.2.2.2.1.1, (x0.2.2.2.2.2.1.2.1, ())), (x0.2.2.2.2.2.2.1, (x0.2.2.2.2.2.2.2.1, (x0.2.2.2.2.2.2.2.2.1, (x0.2.2.2.2.2.2.2.2.2.1, ())))))))))), ())).bind fun y12 =>
 (spec_l8Keep_F ((y12.1.1.1, (y12.1.1.2.1, (y12.1.1.2.2.1, (y12.1.1.2.2.2.1, ((y12.1.1.2.2.2.2.1.1, (y12.1.1.2.2.2.2.1.2.1, (y12.1.1.2.2.2.2.1.2.2.1, (y12.1.1.2.2.2.2.1.2.2.2.1, (y12.1.1.2.2.2.2.1.2.2.2.2.1, (y12.1.1.2.2.2.2.1.2.2.2.2.2.1, ())))))), ((y12.1.1.2.2.2.2.2.1.1, (y12.1.1.2.2.2.2.2.1.2.1, ())), (y12.1.1.2.2.2.2.2.2.1, (y12.1.1.2.2.2.2.2.2.2.1, (y12.1.1.2.2.2.2.2.2.2.2.1, (y12.1.1.2.2.2.2.2.2.2.2.2.1, ())))))))))), ((x1.1, (x1.2.1, (x1.2.2.1, (x1.2.2.2.1, (x1.2.2.2.2.1, (x1.2.2.2.2.2.1, ())))))), ()))).bind fun y14 =>
 (spec_NodeOk_F ((y14.1.1.1, (y14.1.1.2.1, (y14.1.1.2.2.1, (y14.1.1.2.2.2.1, ((y14.1.1.2.2.2.2.1.1, (y14.1.1.2.2.2.2.1.2.1, (y14.1.1.2.2.2.2.1.2.2.1, (y14.1.1.2.2.2.2.1.2.2.2.1, (y14.1.1.2.2.2.2.1.2.2.2.2.1, (y14.1.1.2.2.2.2.1.2.2.2.2.2.1, ())))))), ((y14.1.1.2.2.2.2.2.1.1, (y14.1.1.2.2.2.2.2.1.2.1, ())), (y14.1.1.2.2.2.2.2.2.1, (y14.1.1.2.2.2.2.2.2.2.1, (y14.1.1.2.2.2.2.2.2.2.2.1, (y14.1.1.2.2.2.2.2.2.2.2.2.1, ())))))))))), ())).bind fun y16 =>
 brk (!y16.1.1)
 ((spec_l8Copy_F ((x0.1, (x0.2.1, (x0.2.2.1, (x0.2.2.2.1, ((x0.2.2.2.2.1.1, (x0.2.2.2.2.1.2.1, (x0.2.2.2.2.1.2.2.1, (x0.2.2.2.2.1.2.2.2.1, (x0.2.2.2.2.1.2.2.2.2.1, (x0.2.2.2.2.1.2.2.2.2.2.1, ())))))), ((x0.2.2.2.2.2.1.1, (x0.2.2.2.2.2.1.2.1, ())), (x0.2.2.2.2.2.2.1, (x0.2.2.2.2.2.2.2.1, (x0.2.2.2.2.2.2.2.2.1, (x0.2.2.2.2.2.2.2.2.2.1, ())))))))))), ())).bind fun y19 =>
 some (((y19.1.1.1, (y19.1.1.2.1, (y19.1.1.2.2.1, (y19.1.1.2.2.2.1, ((y19.1.1.2.2.2.2.1.1, (y19.1.1.2.2.2.2.1.2.1, (y19.1.1.2.2.2.2.1.2.2.1, (y19.1.1.2.2.2.2.1.2.2.2.1, (y19.1.1.2.2.2.2.1.2.2.2.2.1, (y19.1.1.2.2.2.2.1.2.2.2.2.2.1, ())))))), ((y19.1.1.2.2.2.2.2.1.1, (y19.1.1.2.2.2.2.2.1.2.1, ())), (y19.1.1.2.2.2.2.2.2.1, (y19.1.1.2.2.2.2.2.2.2.1, (y19.1.1.2.2.2.2.2.2.2.2.1, (y19.1.1.2.2.2.2.2.2.2.2.2.1, ())))))))))), ()), ((), ((), ()))))
 (some (((y14.1.1.1, (y14.1.1.2.1, (y14.1.1.2.2.1, (y14.1.1.2.2.2.1, ((y14.1.1.2.2.2.2.1.1, (y14.1.1.2.2.2.2.1.2.1, (y14.1.1.2.2.2.2.1.2.2.1, (y14.1.1.2.2.2.2.1.2.2.2.1, (y14.1.1.2.2.2.2.1.2.2.2.2.1, (y14.1.1.2.2.2.2.1.2.2.2.2.2.1, ())))))), ((y14.1.1.2.2.2.2.2.1.1, (y14.1.1.2.2.2.2.2.1.2.1, ())), (y14.1.1.2.2.2.2.2.2.1, (y14.1.1.2.2.2.2.2.2.2.1, (y14.1.1.2.2.2.2.2.2.2.2.1, (y14.1.1.2.2.2.2.2.2.2.2.2.1, ())))))))))), ()), ((), ((), ()))))))
 ((spec_l8Copy_F ((x0.1, (x0.2.1, (x0.2.2.1, (x0.2.2.2.1, ((x0.2.2.2.2.1.1, (x0.2.2.2.2.1.2.1, (x0.2.2.2.2.1.2.2.1, (x0.2.2.2.2.1.2.2.2.1, (x0.2.2.2.2.1.2.2.2.2.1, (x0.2.2.2.2.1.2.2.2.2.2.1, ())))))), ((x0.2.2.2.2.2.1.1, (x0.2.2.2.2.2.1.2.1, ())), (x0.2.2.2.2.2.2.1, (x0.2.2.2.2.2.2.2.1, (x0.2.2.2.2.2.2.2.2.1, (x0.2.2.2.2.2.2.2.2.2.1, ())))))))))), ())).bind fun y12 =>
 (spec_l8Keep_F ((y12.1.1.1, (y12.1.1.2.1, (y12.1.1.2.2.1, (y12.1.1.2.2.2.1, ((y12.1.1.2.2.2.2.1.1, (y12.1.1.2.2.2.2.1.2.1, (y12.1.1.2.2.2.2.1.2.2.1, (y12.1.1.2.2.2.2.1.2.2.2.1, (y12.1.1.2.2.2.2.1.2.2.2.2.1, (y12.1.1.2.2.2.2.1.2.2.2.2.2.1, ())))))), ((y12.1.1.2.2.2.2.2.1.1, (y12.1.1.2.2.2.2.2.1.2.1, ())), (y12.1.1.2.2.2.2.2.2.1, (y12.1.1.2.2.2.2.2.2.2.1, (y12.1.1.2.2.2.2.2.2.2.2.1, (y12.1.1.2.2.2.2.2.2.2.2.2.1, ())))))))))), ((x1.1, (x1.2.1, (x1.2.2.1, (x1.2.2.2.1, (x1.2.2.2.2.1, (x1.2.2.2.2.2.1, ())))))), ()))).bind fun y14 =>
 (spec_NodeOk_F ((y14.1.1.1, (y14.1.1.2.1, (y14.1.1.2.2.1, (y14.1.1.2.2.2.1, ((y14.1.1.2.2.2.2.1.1, (y14.1.1.2.2.2.2.1.2.1, (y14.1.1.2.2.2.2.1.2.2.1, (y14.1.1.2.2.2.2.1.2.2.2.1, (y14.1.1.2.2.2.2.1.2.2.2.2.1, (y14.1.1.2.2.2.2.1.2.2.2.2.2.1, ())))))), ((y14.1.1.2.2.2.2.2.1.1, (y14.1.1.2.2.2.2.2.1.2.1, ())), (y14.1.1.2.2.2.2.2.2.1, (y14.1.1.2.2.2.2.2.2.2.1, (y14.1.1.2.2.2.2.2.2.2.2.1, (y14.1.1.2.2.2.2.2.2.2.2.2.1, ())))))))))), ())).bind fun y16 =>
 brk (!y16.1.1)
 ((spec_l8Copy_F ((x0.1, (x0.2.1, (x0.2.2.1, (x0.2.2.2.1, ((x0.2.2.2.2.1.1, (x0.2.2.2.2.1.2.1, (x0.2.2.2.2.1.2.2.1, (x0.2.2.2.2.1.2.2.2.1, (x0.2.2.2.2.1.2.2.2.2.1, (x0.2.2.2.2.1.2.2.2.2.2.1, ())))))), ((x0.2.2.2.2.2.1.1, (x0.2.2.2.2.2.1.2.1, ())), (x0.2.2.2.2.2.2.1, (x0.2.2.2.2.2.2.2.1, (x0.2.2.2.2.2.2.2.2.1, (x0.2.2.2.2.2.2.2.2.2.1, ())))))))))), ())).bind fun y19 =>
 some (((y19.1.1.1, (y19.1.1.2.1, (y19.1.1.2.2.1, (y19.1.1.2.2.2.1, ((y19.1.1.2.2.2.2.1.1, (y19.1.1.2.2.2.2.1.2.1, (y19.1.1.2.2.2.2.1.2.2.1, (y19.1.1.2.2.2.2.1.2.2.2.1, (y19.1.1.2.2.2.2.1.2.2.2.2.1, (y19.1.1.2.2.2.2.1.2.2.2.2.2.1, ())))))), ((y19.1.1.2.2.2.2.2.1.1, (y19.1.1.2.2.2.2.2.1.2.1, ())), (y19.1.1.2.2.2.2.2.2.1, (y19.1.1.2.2.2.2.2.2.2.1, (y19.1.1.2.2.2.2.2.2.2.2.1, (y19.1.1.2.2.2.2.2.2.2.2.2.1, ())))))))))), ()), ((), ((), ()))))
 (some (((y14.1.1.1, (y14.1.1.2.1, (y14.1.1.2.2.1, (y14.1.1.2.2.2.1, ((y14.1.1.2.2.2.2.1.1, (y14.1.1.2.2.2.2.1.2.1, (y14.1.1.2.2.2.2.1.2.2.1, (y14.1.1.2.2.2.2.1.2.2.2.1, (y14.1.1.2.2.2.2.1.2.2.2.2.1, (y14.1.1.2.2.2.2.1.2.2.2.2.2.1, ())))))), ((y14.1.1.2.2.2.2.2.1.1, (y14.1.1.2.2.2.2.2.1.2.1, ())), (y14.1.1.2.2.2.2.2.2.1, (y14.1.1.2.2.2.2.2.2.2.1, (y14.1.1.2.2.2.2.2.2.2.2.1, (y14.1.1.2.2.2.2.2.2.2.2.2.1, ())))))))))), ()), ((), ((), ())))))))) := by kernel_rfl
/-! slices.Clone[[]int,int] -/
noncomputable def slices_Clone_int_b : Code := bd Tryz.f62
def slices_Clone_int_T : List (Nat × Tm) := []
noncomputable def slices_Clone_int_E : Env := ⟨tt0, []⟩
noncomputable def slices_Clone_int_F : PsD [.ro tIs] → Option (RsD [.own tIs] × PsO [.ro tIs]) := fun x => evFn slices_Clone_int_E slices_Clone_int_T Tryz.f62 slices_Clone_int_b [.ro tIs] [.own tIs] x
@[reducible] noncomputable def slices_Clone_int_C : Ct := ⟨[.ro tIs], [.own tIs], slices_Clone_int_F⟩
theorem slices_Clone_int_h (x : PsD [.ro tIs]) (y : RsD [.own tIs] × PsO [.ro tIs]) (h : slices_Clone_int_F x = some y) : evFn slices_Clone_int_E slices_Clone_int_T Tryz.f62 slices_Clone_int_b [.ro tIs] [.own tIs] x = some y := h
theorem slices_Clone_int_c : ∀ f c, get slices_Clone_int_E.ct f = some c → Sat Tryz.prog f c := ct_nil
theorem slices_Clone_int_S : Sat Tryz.prog 62 slices_Clone_int_C := fn_ok2 (envOk _) slices_Clone_int_c mixedOk Tryz.func62 (by kernel_rfl : Tryz.f62.body = some slices_Clone_int_b) (by kernel_rfl) (by kernel_rfl) slices_Clone_int_h
noncomputable def slices_Clone_int_Ke  (x0 : List Int) : Ex → AS → Option (RsD [.own tIs] × PsO [.ro tIs]) := endK slices_Clone_int_E Tryz.f62 [.ro tIs] [.own tIs] (initL [.ro tIs] (x0, ()) 0).1
theorem slices_Clone_int_main (x0 : List Int) : slices_Clone_int_F (x0, ()) =
 brk (decide (x0.length = 0))
 (both (some ((([] : List Int), ()), ((), ())))
 (ck (decide ((([] : List Int).length + x0.length) * 8 ≤ big47)) (some ((([] : List Int) ++ x0, ()), ((), ())))))
 (ck (decide ((([] : List Int).length + x0.length) * 8 ≤ big47)) (some ((([] : List Int) ++ x0, ()), ((), ())))) := by kernel_rfl
/-! impl.copyLists -/
noncomputable def impl_copyLists_b : Code := bd Tryz.f66
@[reducible] def impl_copyLists_t0 : Tm := ⟨[(3, 960000)], [], [(3, .own 960000), (7, .sc true tIss), (8, .sc true tI), (9, .sc true tI)], [(960000, .arr 22 tIs)], [3], [960000]⟩
def impl_copyLists_T : List (Nat × Tm) := [(0, impl_copyLists_t0)]
noncomputable def impl_copyLists_E : Env := ⟨tt0, [(62, slices_Clone_int_C)]⟩
noncomputable def impl_copyLists_F : PsD [.ro tIss] → Option (RsD [.own tIss] × PsO [.ro tIss]) := fun x => evFn impl_copyLists_E impl_copyLists_T Tryz.f66 impl_copyLists_b [.ro tIss] [.own tIss] x
@[reducible] noncomputable def impl_copyLists_C : Ct := ⟨[.ro tIss], [.own tIss], impl_copyLists_F⟩
theorem impl_copyLists_h (x : PsD [.ro tIss]) (y : RsD [.own tIss] × PsO [.ro tIss]) (h : impl_copyLists_F x = some y) : evFn impl_copyLists_E impl_copyLists_T Tryz.f66 impl_copyLists_b [.ro tIss] [.own tIss] x = some y := h
theorem impl_copyLists_c : ∀ f c, get impl_copyLists_E.ct f = some c → Sat Tryz.prog f c := ct_cons slices_Clone_int_S (ct_nil)
theorem impl_copyLists_S : Sat Tryz.prog 66 impl_copyLists_C := fn_ok2 (envOk _) impl_copyLists_c mixedOk Tryz.func66 (by kernel_rfl : Tryz.f66.body = some impl_copyLists_b) (by kernel_rfl) (by kernel_rfl) impl_copyLists_h
noncomputable def impl_copyLists_Ke  (x0 : List (List Int)) : Ex → AS → Option (RsD [.own tIss] × PsO [.ro tIss]) := endK impl_copyLists_E Tryz.f66 [.ro tIss] [.own tIss] (initL [.ro tIss] (x0, ()) 0).1
noncomputable def impl_copyLists_B0 {R : Type} : AS → (Ex → AS → Option R) → Option R := fun A K => ev impl_copyLists_E impl_copyLists_T 0 (cA (cA (cB (cA (cB (cB impl_copyLists_b)))))) A K
noncomputable def impl_copyLists_K0  (x0 : List (List Int)) : Ex → AS → Option (RsD [.own tIss] × PsO [.ro tIss]) := kBlk 0 (kSeq (fun A K => ev impl_copyLists_E impl_copyLists_T 1000 (cB (cB (cB impl_copyLists_b))) A K) (impl_copyLists_Ke x0))
noncomputable def impl_copyLists_x0_0 (d0 : List (List Int)) : AS := ⟨[(3, .v (.one (.own 960000)))], [(960000, .arr 22 tIs d0)]⟩
theorem impl_copyLists_l0 {R : Type} {K : Ex → AS → Option R} {s : impl_copyLists_t0.D} (n : Nat) {v : Option R} (h : iterG impl_copyLists_t0 impl_copyLists_B0 K n s = v) (hv : ∃ r, v = some r) : loopG impl_copyLists_t0 impl_copyLists_B0 K s = v := loop_eq (ev_mono _ _) n h hv
theorem impl_copyLists_main (x0 : List (List Int)) : impl_copyLists_F (x0, ()) =
 loopG impl_copyLists_t0 impl_copyLists_B0 (impl_copyLists_K0 x0) ((x0, ((x0.length : Int), ((0 : Int), ()))), (([] : List (List Int)), ())) := by kernel_rfl
theorem impl_copyLists_r0 {R : Type} (K : Ex → AS → Option R) (n : Nat) (t7 : List (List Int)) (t8 : Int) (t9 : Int) (a960000 : List (List Int)) : iterG impl_copyLists_t0 impl_copyLists_B0 K (n + 1) ((t7, (t8, (t9, ()))), (a960000, ())) =
 brk (decide (t9 < t8))
 (ck (decide (0 ≤ t9) && decide (t9 < t7.length)) ((slices_Clone_int_F (rdD tIs t7 t9, ())).bind fun y15 =>
 ck (decide ((a960000.length + [y15.1.1].length) * 24 ≤ big47)) (iterG impl_copyLists_t0 impl_copyLists_B0 K n ((t7, (t8, (IntKind.i64.wrap (t9 + (1 : Int)), ()))), (a960000 ++ [y15.1.1], ())))))
 (K (.exit 0) (impl_copyLists_x0_0 a960000)) := by kernel_rfl
theorem impl_copyLists_e0_0 (x0 : List (List Int)) (d0 : List (List Int)) : impl_copyLists_K0 x0 (.exit 0) (impl_copyLists_x0_0 d0) =
 some ((d0, ()), ((), ())) := by kernel_rfl
/-! impl.copyMeta -/
noncomputable def impl_copyMeta_b : Code := bd Tryz.f63
def impl_copyMeta_T : List (Nat × Tm) := []
noncomputable def impl_copyMeta_E : Env := ⟨tt0, [(62, slices_Clone_int_C), (66, impl_copyLists_C)]⟩
noncomputable def impl_copyMeta_F : PsD [.ro tMeta] → Option (RsD [.own tMeta] × PsO [.ro tMeta]) := fun x => evFn impl_copyMeta_E impl_copyMeta_T Tryz.f63 impl_copyMeta_b [.ro tMeta] [.own tMeta] x
@[reducible] noncomputable def impl_copyMeta_C : Ct := ⟨[.ro tMeta], [.own tMeta], impl_copyMeta_F⟩
theorem impl_copyMeta_h (x : PsD [.ro tMeta]) (y : RsD [.own tMeta] × PsO [.ro tMeta]) (h : impl_copyMeta_F x = some y) : evFn impl_copyMeta_E impl_copyMeta_T Tryz.f63 impl_copyMeta_b [.ro tMeta] [.own tMeta] x = some y := h
theorem impl_copyMeta_c : ∀ f c, get impl_copyMeta_E.ct f = some c → Sat Tryz.prog f c := ct_cons slices_Clone_int_S (ct_cons impl_copyLists_S (ct_nil))
theorem impl_copyMeta_S : Sat Tryz.prog 63 impl_copyMeta_C := fn_ok2 (envOk _) impl_copyMeta_c mixedOk Tryz.func63 (by kernel_rfl : Tryz.f63.body = some impl_copyMeta_b) (by kernel_rfl) (by kernel_rfl) impl_copyMeta_h
noncomputable def impl_copyMeta_Ke  (x0 : List Int × List (List Int) × Bool × Bool × Bool × Int × Unit) : Ex → AS → Option (RsD [.own tMeta] × PsO [.ro tMeta]) := endK impl_copyMeta_E Tryz.f63 [.ro tMeta] [.own tMeta] (initL [.ro tMeta] (x0, ()) 0).1
theorem impl_copyMeta_main (x0 : List Int × List (List Int) × Bool × Bool × Bool × Int × Unit) : impl_copyMeta_F (x0, ()) =
 (slices_Clone_int_F (x0.1, ())).bind fun y5 =>
 (impl_copyLists_F (x0.2.1, ())).bind fun y9 =>
 some (((y5.1.1, (y9.1.1, (x0.2.2.1, (x0.2.2.2.1, (x0.2.2.2.2.1, (x0.2.2.2.2.2.1, ())))))), ()), ((), ())) := by kernel_rfl
/-! slices.Clone[[]byte,byte] -/
noncomputable def slices_Clone_byte_b : Code := bd Tryz.f84
def slices_Clone_byte_T : List (Nat × Tm) := []
noncomputable def slices_Clone_byte_E : Env := ⟨tt0, []⟩
noncomputable def slices_Clone_byte_F : PsD [.ro tYs] → Option (RsD [.own tYs] × PsO [.ro tYs]) := fun x => evFn slices_Clone_byte_E slices_Clone_byte_T Tryz.f84 slices_Clone_byte_b [.ro tYs] [.own tYs] x
@[reducible] noncomputable def slices_Clone_byte_C : Ct := ⟨[.ro tYs], [.own tYs], slices_Clone_byte_F⟩
theorem slices_Clone_byte_h (x : PsD [.ro tYs]) (y : RsD [.own tYs] × PsO [.ro tYs]) (h : slices_Clone_byte_F x = some y) : evFn slices_Clone_byte_E slices_Clone_byte_T Tryz.f84 slices_Clone_byte_b [.ro tYs] [.own tYs] x = some y := h
theorem slices_Clone_byte_c : ∀ f c, get slices_Clone_byte_E.ct f = some c → Sat Tryz.prog f c := ct_nil
theorem slices_Clone_byte_S : Sat Tryz.prog 84 slices_Clone_byte_C := fn_ok2 (envOk _) slices_Clone_byte_c mixedOk Tryz.func84 (by kernel_rfl : Tryz.f84.body = some slices_Clone_byte_b) (by kernel_rfl) (by kernel_rfl) slices_Clone_byte_h
noncomputable def slices_Clone_byte_Ke  (x0 : List Int) : Ex → AS → Option (RsD [.own tYs] × PsO [.ro tYs]) := endK slices_Clone_byte_E Tryz.f84 [.ro tYs] [.own tYs] (initL [.ro tYs] (x0, ()) 0).1
theorem slices_Clone_byte_main (x0 : List Int) : slices_Clone_byte_F (x0, ()) =
 brk (decide (x0.length = 0))
 (both (some ((([] : List Int), ()), ((), ())))
 (ck (decide ((([] : List Int).length + x0.length) * 1 ≤ big47)) (some ((([] : List Int) ++ x0, ()), ((), ())))))
 (ck (decide ((([] : List Int).length + x0.length) * 1 ≤ big47)) (some ((([] : List Int) ++ x0, ()), ((), ())))) := by kernel_rfl
/-! impl.copySlots -/
noncomputable def impl_copySlots_b : Code := bd Tryz.f64
def impl_copySlots_T : List (Nat × Tm) := []
noncomputable def impl_copySlots_E : Env := ⟨tt0, [(84, slices_Clone_byte_C)]⟩
noncomputable def impl_copySlots_F : PsD [.ro tSlots] → Option (RsD [.own tSlots] × PsO [.ro tSlots]) := fun x => evFn impl_copySlots_E impl_copySlots_T Tryz.f64 impl_copySlots_b [.ro tSlots] [.own tSlots] x
@[reducible] noncomputable def impl_copySlots_C : Ct := ⟨[.ro tSlots], [.own tSlots], impl_copySlots_F⟩
theorem impl_copySlots_h (x : PsD [.ro tSlots]) (y : RsD [.own tSlots] × PsO [.ro tSlots]) (h : impl_copySlots_F x = some y) : evFn impl_copySlots_E impl_copySlots_T Tryz.f64 impl_copySlots_b [.ro tSlots] [.own tSlots] x = some y := h
theorem impl_copySlots_c : ∀ f c, get impl_copySlots_E.ct f = some c → Sat Tryz.prog f c := ct_cons slices_Clone_byte_S (ct_nil)
theorem impl_copySlots_S : Sat Tryz.prog 64 impl_copySlots_C := fn_ok2 (envOk _) impl_copySlots_c mixedOk Tryz.func64 (by kernel_rfl : Tryz.f64.body = some impl_copySlots_b) (by kernel_rfl) (by kernel_rfl) impl_copySlots_h
noncomputable def impl_copySlots_Ke  (x0 : List Int × List Int × Unit) : Ex → AS → Option (RsD [.own tSlots] × PsO [.ro tSlots]) := endK impl_copySlots_E Tryz.f64 [.ro tSlots] [.own tSlots] (initL [.ro tSlots] (x0, ()) 0).1
theorem impl_copySlots_main (x0 : List Int × List Int × Unit) : impl_copySlots_F (x0, ()) =
 (slices_Clone_byte_F (x0.1, ())).bind fun y5 =>
 (slices_Clone_byte_F (x0.2.1, ())).bind fun y8 =>
 some (((y5.1.1, (y8.1.1, ())), ()), ((), ())) := by kernel_rfl
/-! slices.Clone[[]bool,bool] -/
noncomputable def slices_Clone_bool_b : Code := bd Tryz.f65
def slices_Clone_bool_T : List (Nat × Tm) := []
noncomputable def slices_Clone_bool_E : Env := ⟨tt0, []⟩
noncomputable def slices_Clone_bool_F : PsD [.ro tBs] → Option (RsD [.own tBs] × PsO [.ro tBs]) := fun x => evFn slices_Clone_bool_E slices_Clone_bool_T Tryz.f65 slices_Clone_bool_b [.ro tBs] [.own tBs] x
@[reducible] noncomputable def slices_Clone_bool_C : Ct := ⟨[.ro tBs], [.own tBs], slices_Clone_bool_F⟩
theorem slices_Clone_bool_h (x : PsD [.ro tBs]) (y : RsD [.own tBs] × PsO [.ro tBs]) (h : slices_Clone_bool_F x = some y) : evFn slices_Clone_bool_E slices_Clone_bool_T Tryz.f65 slices_Clone_bool_b [.ro tBs] [.own tBs] x = some y := h
theorem slices_Clone_bool_c : ∀ f c, get slices_Clone_bool_E.ct f = some c → Sat Tryz.prog f c := ct_nil
theorem slices_Clone_bool_S : Sat Tryz.prog 65 slices_Clone_bool_C := fn_ok2 (envOk _) slices_Clone_bool_c mixedOk Tryz.func65 (by kernel_rfl : Tryz.f65.body = some slices_Clone_bool_b) (by kernel_rfl) (by kernel_rfl) slices_Clone_bool_h
noncomputable def slices_Clone_bool_Ke  (x0 : List Bool) : Ex → AS → Option (RsD [.own tBs] × PsO [.ro tBs]) := endK slices_Clone_bool_E Tryz.f65 [.ro tBs] [.own tBs] (initL [.ro tBs] (x0, ()) 0).1
theorem slices_Clone_bool_main (x0 : List Bool) : slices_Clone_bool_F (x0, ()) =
 brk (decide (x0.length = 0))
 (both (some ((([] : List Bool), ()), ((), ())))
 (ck (decide ((([] : List Bool).length + x0.length) * 1 ≤ big47)) (some ((([] : List Bool) ++ x0, ()), ((), ())))))
 (ck (decide ((([] : List Bool).length + x0.length) * 1 ≤ big47)) (some ((([] : List Bool) ++ x0, ()), ((), ())))) := by kernel_rfl
/-! impl.copyNode -/
noncomputable def impl_copyNode_b : Code := bd Tryz.f32
def impl_copyNode_T : List (Nat × Tm) := []
noncomputable def impl_copyNode_E : Env := ⟨tt0, [(62, slices_Clone_int_C), (63, impl_copyMeta_C), (64, impl_copySlots_C), (65, slices_Clone_bool_C), (66, impl_copyLists_C)]⟩
noncomputable def impl_copyNode_F : PsD [.ro tNode] → Option (RsD [.own tNode] × PsO [.ro tNode]) := fun x => evFn impl_copyNode_E impl_copyNode_T Tryz.f32 impl_copyNode_b [.ro tNode] [.own tNode] x
@[reducible] noncomputable def impl_copyNode_C : Ct := ⟨[.ro tNode], [.own tNode], impl_copyNode_F⟩
theorem impl_copyNode_h (x : PsD [.ro tNode]) (y : RsD [.own tNode] × PsO [.ro tNode]) (h : impl_copyNode_F x = some y) : evFn impl_copyNode_E impl_copyNode_T Tryz.f32 impl_copyNode_b [.ro tNode] [.own tNode] x = some y := h
theorem impl_copyNode_c : ∀ f c, get impl_copyNode_E.ct f = some c → Sat Tryz.prog f c := ct_cons slices_Clone_int_S (ct_cons impl_copyMeta_S (ct_cons impl_copySlots_S (ct_cons slices_Clone_bool_S (ct_cons impl_copyLists_S (ct_nil)))))
theorem impl_copyNode_S : Sat Tryz.prog 32 impl_copyNode_C := fn_ok2 (envOk _) impl_copyNode_c mixedOk Tryz.func32 (by kernel_rfl : Tryz.f32.body = some impl_copyNode_b) (by kernel_rfl) (by kernel_rfl) impl_copyNode_h
noncomputable def impl_copyNode_Ke  (x0 : Int × Bool × Bool × List Int × (List Int × List (List Int) × Bool × Bool × Bool × Int × Unit) × (List Int × List Int × Unit) × List Bool × List (List Int) × List Bool × List Int × Unit) : Ex → AS → Option (RsD [.own tNode] × PsO [.ro tNode]) := endK impl_copyNode_E Tryz.f32 [.ro tNode] [.own tNode] (initL [.ro tNode] (x0, ()) 0).1
theorem impl_copyNode_main (x0 : Int × Bool × Bool × List Int × (List Int × List (List Int) × Bool × Bool × Bool × Int × Unit) × (List Int × List Int × Unit) × List Bool × List (List Int) × List Bool × List Int × Unit) : impl_copyNode_F (x0, ()) =
 (slices_Clone_int_F (x0.2.2.2.1, ())).bind fun y5 =>
 (impl_copyMeta_F ((x0.2.2.2.2.1.1, (x0.2.2.2.2.1.2.1, (x0.2.2.2.2.1.2.2.1, (x0.2.2.2.2.1.2.2.2.1, (x0.2.2.2.2.1.2.2.2.2.1, (x0.2.2.2.2.1.2.2.2.2.2.1, ())))))), ())).bind fun y9 =>
 (impl_copySlots_F ((x0.2.2.2.2.2.1.1, (x0.2.2.2.2.2.1.2.1, ())), ())).bind fun y13 =>
 (slices_Clone_bool_F (x0.2.2.2.2.2.2.1, ())).bind fun y17 =>
 (impl_copyLists_F (x0.2.2.2.2.2.2.2.1, ())).bind fun y21 =>
 (slices_Clone_bool_F (x0.2.2.2.2.2.2.2.2.1, ())).bind fun y25 =>
 (slices_Clone_int_F (x0.2.2.2.2.2.2.2.2.2.1, ())).bind fun y29 =>
 some (((x0.1, (x0.2.1, (x0.2.2.1, (y5.1.1, ((y9.1.1.1, (y9.1.1.2.1, (y9.1.1.2.2.1, (y9.1.1.2.2.2.1, (y9.1.1.2.2.2.2.1, (y9.1.1.2.2.2.2.2.1, ())))))), ((y13.1.1.1, (y13.1.1.2.1, ())), (y17.1.1, (y21.1.1, (y25.1.1, (y29.1.1, ())))))))))), ()), ((), ())) := by kernel_rfl
/-! impl.from -/
noncomputable def impl_from_b : Code := bd Tryz.f85
def impl_from_T : List (Nat × Tm) := []
noncomputable def impl_from_E : Env := ⟨tt0, []⟩
noncomputable def impl_from_F : PsD [.ro tI, .ro tI, .ro tI] → Option (RsD [.own tB] × PsO [.ro tI, .ro tI, .ro tI]) := fun x => evFn impl_from_E impl_from_T Tryz.f85 impl_from_b [.ro tI, .ro tI, .ro tI] [.own tB] x
@[reducible] noncomputable def impl_from_C : Ct := ⟨[.ro tI, .ro tI, .ro tI], [.own tB], impl_from_F⟩
theorem impl_from_h (x : PsD [.ro tI, .ro tI, .ro tI]) (y : RsD [.own tB] × PsO [.ro tI, .ro tI, .ro tI]) (h : impl_from_F x = some y) : evFn impl_from_E impl_from_T Tryz.f85 impl_from_b [.ro tI, .ro tI, .ro tI] [.own tB] x = some y := h
theorem impl_from_c : ∀ f c, get impl_from_E.ct f = some c → Sat Tryz.prog f c := ct_nil
theorem impl_from_S : Sat Tryz.prog 85 impl_from_C := fn_ok2 (envOk _) impl_from_c mixedOk Tryz.func85 (by kernel_rfl : Tryz.f85.body = some impl_from_b) (by kernel_rfl) (by kernel_rfl) impl_from_h
noncomputable def impl_from_Ke  (x0 : Int) (x1 : Int) (x2 : Int) : Ex → AS → Option (RsD [.own tB] × PsO [.ro tI, .ro tI, .ro tI]) := endK impl_from_E Tryz.f85 [.ro tI, .ro tI, .ro tI] [.own tB] (initL [.ro tI, .ro tI, .ro tI] (x0, (x1, (x2, ()))) 0).1
theorem impl_from_main (x0 : Int) (x1 : Int) (x2 : Int) : impl_from_F (x0, (x1, (x2, ()))) =
 brk (decide (x1 ≤ x0))
 (some ((decide (x0 ≤ x2), ()), ((), ((), ((), ())))))
 (some ((false, ()), ((), ((), ((), ()))))) := by kernel_rfl
/-! bytes.Equal -/
noncomputable def bytes_Equal_b : Code := bd Tryz.f106
def bytes_Equal_T : List (Nat × Tm) := []
noncomputable def bytes_Equal_E : Env := ⟨tt0, []⟩
noncomputable def bytes_Equal_F : PsD [.ro tYs, .ro tYs] → Option (RsD [.own tB] × PsO [.ro tYs, .ro tYs]) := fun x => evFn bytes_Equal_E bytes_Equal_T Tryz.f106 bytes_Equal_b [.ro tYs, .ro tYs] [.own tB] x
@[reducible] noncomputable def bytes_Equal_C : Ct := ⟨[.ro tYs, .ro tYs], [.own tB], bytes_Equal_F⟩
theorem bytes_Equal_h (x : PsD [.ro tYs, .ro tYs]) (y : RsD [.own tB] × PsO [.ro tYs, .ro tYs]) (h : bytes_Equal_F x = some y) : evFn bytes_Equal_E bytes_Equal_T Tryz.f106 bytes_Equal_b [.ro tYs, .ro tYs] [.own tB] x = some y := h
theorem bytes_Equal_c : ∀ f c, get bytes_Equal_E.ct f = some c → Sat Tryz.prog f c := ct_nil
theorem bytes_Equal_S : Sat Tryz.prog 106 bytes_Equal_C := fn_ok2 (envOk _) bytes_Equal_c mixedOk Tryz.func106 (by kernel_rfl : Tryz.f106.body = some bytes_Equal_b) (by kernel_rfl) (by kernel_rfl) bytes_Equal_h
noncomputable def bytes_Equal_Ke  (x0 : List Int) (x1 : List Int) : Ex → AS → Option (RsD [.own tB] × PsO [.ro tYs, .ro tYs]) := endK bytes_Equal_E Tryz.f106 [.ro tYs, .ro tYs] [.own tB] (initL [.ro tYs, .ro tYs] (x0, (x1, ())) 0).1
theorem bytes_Equal_main (x0 : List Int) (x1 : List Int) : bytes_Equal_F (x0, (x1, ())) =
 some ((decide (x0 = x1), ()), ((), ((), ()))) := by kernel_rfl
/-! impl.GetNum -/
noncomputable def impl_GetNum_b : Code := bd Tryz.f118
@[reducible] def impl_GetNum_t0 : Tm := ⟨[], [], [(0, .sc true tYs), (1, .sc true tI), (7, .sc true tI), (8, .sc true tI), (9, .sc true tI)], [], [4, 5, 6], []⟩
def impl_GetNum_T : List (Nat × Tm) := [(0, impl_GetNum_t0)]
noncomputable def impl_GetNum_E : Env := ⟨tt0, []⟩
noncomputable def impl_GetNum_F : PsD [.ro tYs, .ro tI] → Option (RsD [.own tI, .own tI, .own tB] × PsO [.ro tYs, .ro tI]) := fun x => evFn impl_GetNum_E impl_GetNum_T Tryz.f118 impl_GetNum_b [.ro tYs, .ro tI] [.own tI, .own tI, .own tB] x
@[reducible] noncomputable def impl_GetNum_C : Ct := ⟨[.ro tYs, .ro tI], [.own tI, .own tI, .own tB], impl_GetNum_F⟩
theorem impl_GetNum_h (x : PsD [.ro tYs, .ro tI]) (y : RsD [.own tI, .own tI, .own tB] × PsO [.ro tYs, .ro tI]) (h : impl_GetNum_F x = some y) : evFn impl_GetNum_E impl_GetNum_T Tryz.f118 impl_GetNum_b [.ro tYs, .ro tI] [.own tI, .own tI, .own tB] x = some y := h
theorem impl_GetNum_c : ∀ f c, get impl_GetNum_E.ct f = some c → Sat Tryz.prog f c := ct_nil
theorem impl_GetNum_S : Sat Tryz.prog 118 impl_GetNum_C := fn_ok2 (envOk _) impl_GetNum_c mixedOk Tryz.func118 (by kernel_rfl : Tryz.f118.body = some impl_GetNum_b) (by kernel_rfl) (by kernel_rfl) impl_GetNum_h
noncomputable def impl_GetNum_Ke  (x0 : List Int) (x1 : Int) : Ex → AS → Option (RsD [.own tI, .own tI, .own tB] × PsO [.ro tYs, .ro tI]) := endK impl_GetNum_E Tryz.f118 [.ro tYs, .ro tI] [.own tI, .own tI, .own tB] (initL [.ro tYs, .ro tI] (x0, (x1, ())) 0).1
noncomputable def impl_GetNum_B0 {R : Type} : AS → (Ex → AS → Option R) → Option R := fun A K => ev impl_GetNum_E impl_GetNum_T 0 (cA (cA (cB (cA (cB (cB (cB (cB impl_GetNum_b)))))))) A K
noncomputable def impl_GetNum_K0  (x0 : List Int) (x1 : Int) : Ex → AS → Option (RsD [.own tI, .own tI, .own tB] × PsO [.ro tYs, .ro tI]) := kBlk 0 (kSeq (fun A K => ev impl_GetNum_E impl_GetNum_T 1000 (cB (cB (cB (cB (cB impl_GetNum_b))))) A K) (impl_GetNum_Ke x0 x1))
noncomputable def impl_GetNum_x0_0 : AS := ⟨[], []⟩
noncomputable def impl_GetNum_x0_1 (d0 : Int) (d1 : Int) (d2 : Bool) : AS := ⟨[(4, .v (.one (.d true tI d0))), (5, .v (.one (.d true tI d1))), (6, .v (.one (.d true tB d2)))], []⟩
theorem impl_GetNum_l0 {R : Type} {K : Ex → AS → Option R} {s : impl_GetNum_t0.D} (n : Nat) {v : Option R} (h : iterG impl_GetNum_t0 impl_GetNum_B0 K n s = v) (hv : ∃ r, v = some r) : loopG impl_GetNum_t0 impl_GetNum_B0 K s = v := loop_eq (ev_mono _ _) n h hv
theorem impl_GetNum_main (x0 : List Int) (x1 : Int) : impl_GetNum_F (x0, (x1, ())) =
 brk (decide (x1 < (0 : Int)))
 (some (((0 : Int), ((0 : Int), (false, ()))), ((), ((), ()))))
 (loopG impl_GetNum_t0 impl_GetNum_B0 (impl_GetNum_K0 x0 x1) ((x0, (x1, ((0 : Int), ((1 : Int), ((0 : Int), ()))))), ())) := by kernel_rfl
theorem impl_GetNum_r0 {R : Type} (K : Ex → AS → Option R) (n : Nat) (t0 : List Int) (t1 : Int) (t7 : Int) (t8 : Int) (t9 : Int) : iterG impl_GetNum_t0 impl_GetNum_B0 K (n + 1) ((t0, (t1, (t7, (t8, (t9, ()))))), ()) =
 brk (decide (t9 < (5 : Int)))
 (brk (decide (t1 < IntKind.i64.wrap ((t0.length : Int) - t9)))
 (ck (decide (0 ≤ IntKind.i64.wrap (t1 + t9)) && decide (IntKind.i64.wrap (t1 + t9) < t0.length)) (brk (decide ((128 : Int) ≤ IntKind.i64.wrap (rdD tY t0 (IntKind.i64.wrap (t1 + t9)))))
 (iterG impl_GetNum_t0 impl_GetNum_B0 K n ((t0, (t1, (IntKind.i64.wrap (t7 + (IntKind.i64.wrap (((IntKind.i64.wrap (rdD tY t0 (IntKind.i64.wrap (t1 + t9)))).tmod (128 : Int)) * t8))), (IntKind.i64.wrap (t8 * (128 : Int)), (IntKind.i64.wrap (t9 + (1 : Int)), ()))))), ()))
 (brk (decide ((2147483647 : Int) < IntKind.i64.wrap (t7 + (IntKind.i64.wrap (((IntKind.i64.wrap (rdD tY t0 (IntKind.i64.wrap (t1 + t9)))).tmod (128 : Int)) * t8)))))
 (K (.exit 0) (impl_GetNum_x0_0))
 (brk (decide (IntKind.i64.wrap (rdD tY t0 (IntKind.i64.wrap (t1 + t9))) = (0 : Int)))
 (brk (decide ((0 : Int) < t9))
 (K (.exit 0) (impl_GetNum_x0_0))
 (K .ret (impl_GetNum_x0_1 (IntKind.i64.wrap (t7 + (IntKind.i64.wrap (((IntKind.i64.wrap (rdD tY t0 (IntKind.i64.wrap (t1 + t9)))).tmod (128 : Int)) * t8)))) (IntKind.i64.wrap ((IntKind.i64.wrap (t1 + t9)) + (1 : Int))) true)))
 (K .ret (impl_GetNum_x0_1 (IntKind.i64.wrap (t7 + (IntKind.i64.wrap (((IntKind.i64.wrap (rdD tY t0 (IntKind.i64.wrap (t1 + t9)))).tmod (128 : Int)) * t8)))) (IntKind.i64.wrap ((IntKind.i64.wrap (t1 + t9)) + (1 : Int))) true))))))
 (K (.exit 0) (impl_GetNum_x0_0)))
 (K (.exit 0) (impl_GetNum_x0_0)) := by kernel_rfl
theorem impl_GetNum_e0_0 (x0 : List Int) (x1 : Int) : impl_GetNum_K0 x0 x1 (.exit 0) (impl_GetNum_x0_0) =
 some (((0 : Int), ((0 : Int), (false, ()))), ((), ((), ()))) := by kernel_rfl
theorem impl_GetNum_e0_1 (x0 : List Int) (x1 : Int) (d0 : Int) (d1 : Int) (d2 : Bool) : impl_GetNum_K0 x0 x1 .ret (impl_GetNum_x0_1 d0 d1 d2) =
 some ((d0, (d1, (d2, ()))), ((), ((), ()))) := by kernel_rfl
end Go.Refl
