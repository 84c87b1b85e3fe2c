/- Functions of the program, told by the evaluator: printed by a program of this claim. No condition. -/
import Derived.Test.YtbhonnfinekpcaaFnExactNodeNewGf
namespace Go.Refl
open Go.RowKit Go.Proofs
set_option linter.unusedVariables false
set_option maxRecDepth 100000
/-! laws.eqBoolS -/
noncomputable def laws_eqBoolS_b : Code := bd Try.f89
@[reducible] def laws_eqBoolS_t0 : Tm := ⟨[], [], [(0, .sc true tBs), (1, .sc true tBs), (5, .sc true tI)], [], [4], []⟩
def laws_eqBoolS_T : List (Nat × Tm) := [(0, laws_eqBoolS_t0)]
noncomputable def laws_eqBoolS_E : Env := ⟨tt0, []⟩
noncomputable def laws_eqBoolS_F : PsD [.ro tBs, .ro tBs] → Option (RsD [.own tB] × PsO [.ro tBs, .ro tBs]) := fun x => evFn laws_eqBoolS_E laws_eqBoolS_T Try.f89 laws_eqBoolS_b [.ro tBs, .ro tBs] [.own tB] x
@[reducible] noncomputable def laws_eqBoolS_C : Ct := ⟨[.ro tBs, .ro tBs], [.own tB], laws_eqBoolS_F⟩
theorem laws_eqBoolS_h (x : PsD [.ro tBs, .ro tBs]) (y : RsD [.own tB] × PsO [.ro tBs, .ro tBs]) (h : laws_eqBoolS_F x = some y) : evFn laws_eqBoolS_E laws_eqBoolS_T Try.f89 laws_eqBoolS_b [.ro tBs, .ro tBs] [.own tB] x = some y := h
theorem laws_eqBoolS_c : ∀ f c, get laws_eqBoolS_E.ct f = some c → Sat Try.prog f c := ct_nil
theorem laws_eqBoolS_S : Sat Try.prog 89 laws_eqBoolS_C := fn_ok2 (envOk _) laws_eqBoolS_c mixedOk Try.func89 (by kernel_rfl : Try.f89.body = some laws_eqBoolS_b) (by kernel_rfl) (by kernel_rfl) laws_eqBoolS_h
noncomputable def laws_eqBoolS_Ke  (x0 : List Bool) (x1 : List Bool) : Ex → AS → Option (RsD [.own tB] × PsO [.ro tBs, .ro tBs]) := endK laws_eqBoolS_E Try.f89 [.ro tBs, .ro tBs] [.own tB] (initL [.ro tBs, .ro tBs] (x0, (x1, ())) 0).1
noncomputable def laws_eqBoolS_B0 {R : Type} : AS → (Ex → AS → Option R) → Option R := fun A K => ev laws_eqBoolS_E laws_eqBoolS_T 0 (cA (cA (cB (cA (cB (cB laws_eqBoolS_b)))))) A K
noncomputable def laws_eqBoolS_K0  (x0 : List Bool) (x1 : List Bool) : Ex → AS → Option (RsD [.own tB] × PsO [.ro tBs, .ro tBs]) := kBlk 0 (kSeq (fun A K => ev laws_eqBoolS_E laws_eqBoolS_T 1000 (cB (cB (cB laws_eqBoolS_b))) A K) (laws_eqBoolS_Ke x0 x1))
noncomputable def laws_eqBoolS_x0_0 (d0 : Bool) : AS := ⟨[(4, .v (.one (.d true tB d0)))], []⟩
noncomputable def laws_eqBoolS_x0_1 : AS := ⟨[], []⟩
theorem laws_eqBoolS_l0 {R : Type} {K : Ex → AS → Option R} {s : laws_eqBoolS_t0.D} (n : Nat) {v : Option R} (h : iterG laws_eqBoolS_t0 laws_eqBoolS_B0 K n s = v) (hv : ∃ r, v = some r) : loopG laws_eqBoolS_t0 laws_eqBoolS_B0 K s = v := loop_eq (ev_mono _ _) n h hv
theorem laws_eqBoolS_main (x0 : List Bool) (x1 : List Bool) : laws_eqBoolS_F (x0, (x1, ())) =
 brk (!decide ((x0.length : Int) = (x1.length : Int)))
 (some ((false, ()), ((), ((), ()))))
 (loopG laws_eqBoolS_t0 laws_eqBoolS_B0 (laws_eqBoolS_K0 x0 x1) ((x0, (x1, ((0 : Int), ()))), ())) := by kernel_rfl
theorem laws_eqBoolS_r0 {R : Type} (K : Ex → AS → Option R) (n : Nat) (t0 : List Bool) (t1 : List Bool) (t5 : Int) : iterG laws_eqBoolS_t0 laws_eqBoolS_B0 K (n + 1) ((t0, (t1, (t5, ()))), ()) =
 brk (decide (t5 < (t0.length : Int)))
 (ck (decide (0 ≤ t5) && decide (t5 < t0.length)) (ck (decide (0 ≤ t5) && decide (t5 < t1.length)) (brk (!((rdD tB t0 t5) == (rdD tB t1 t5)))
 (K .ret (laws_eqBoolS_x0_0 false))
 (iterG laws_eqBoolS_t0 laws_eqBoolS_B0 K n ((t0, (t1, (IntKind.i64.wrap (t5 + (1 : Int)), ()))), ())))))
 (K (.exit 0) (laws_eqBoolS_x0_1)) := by kernel_rfl
theorem laws_eqBoolS_e0_0 (x0 : List Bool) (x1 : List Bool) (d0 : Bool) : laws_eqBoolS_K0 x0 x1 .ret (laws_eqBoolS_x0_0 d0) =
 some ((d0, ()), ((), ((), ()))) := by kernel_rfl
theorem laws_eqBoolS_e0_1 (x0 : List Bool) (x1 : List Bool) : laws_eqBoolS_K0 x0 x1 (.exit 0) (laws_eqBoolS_x0_1) =
 some ((true, ()), ((), ((), ()))) := by kernel_rfl
/-! laws.eqNode -/
noncomputable def laws_eqNode_b : Code := bd Try.f41
def laws_eqNode_T : List (Nat × Tm) := []
noncomputable def laws_eqNode_E : Env := ⟨tt0, [(21, laws_eqMeta_C), (29, laws_eqSlots_C), (68, laws_eqIntS_C), (69, laws_eqIntSS_C), (89, laws_eqBoolS_C)]⟩
noncomputable def laws_eqNode_F : PsD [.ro tNode, .ro tNode] → Option (RsD [.own tB] × PsO [.ro tNode, .ro tNode]) := fun x => evFn laws_eqNode_E laws_eqNode_T Try.f41 laws_eqNode_b [.ro tNode, .ro tNode] [.own tB] x
@[reducible] noncomputable def laws_eqNode_C : Ct := ⟨[.ro tNode, .ro tNode], [.own tB], laws_eqNode_F⟩
theorem laws_eqNode_h (x : PsD [.ro tNode, .ro tNode]) (y : RsD [.own tB] × PsO [.ro tNode, .ro tNode]) (h : laws_eqNode_F x = some y) : evFn laws_eqNode_E laws_eqNode_T Try.f41 laws_eqNode_b [.ro tNode, .ro tNode] [.own tB] x = some y := h
theorem laws_eqNode_c : ∀ f c, get laws_eqNode_E.ct f = some c → Sat Try.prog f c := ct_cons laws_eqMeta_S (ct_cons laws_eqSlots_S (ct_cons laws_eqIntS_S (ct_cons laws_eqIntSS_S (ct_cons laws_eqBoolS_S (ct_nil)))))
theorem laws_eqNode_S : Sat Try.prog 41 laws_eqNode_C := fn_ok2 (envOk _) laws_eqNode_c mixedOk Try.func41 (by kernel_rfl : Try.f41.body = some laws_eqNode_b) (by kernel_rfl) (by kernel_rfl) laws_eqNode_h
noncomputable def laws_eqNode_Ke  (x0 : Int × Bool × Bool × List Int × (List Int × List (List Int) × Bool × Bool × Bool × Int × Unit) × (List Int × List Int × Unit) × List Bool × List (List Int) × List Bool × List Int × Unit) (x1 : Int × Bool × Bool × List Int × (List Int × List (List Int) × Bool × Bool × Bool × Int × Unit) × (List Int × List Int × Unit) × List Bool × List (List Int) × List Bool × List Int × Unit) : Ex → AS → Option (RsD [.own tB] × PsO [.ro tNode, .ro tNode]) := endK laws_eqNode_E Try.f41 [.ro tNode, .ro tNode] [.own tB] (initL [.ro tNode, .ro tNode] (x0, (x1, ())) 0).1
theorem laws_eqNode_main (x0 : Int × Bool × Bool × List Int × (List Int × List (List Int) × Bool × Bool × Bool × Int × Unit) × (List Int × List Int × Unit) × List Bool × List (List Int) × List Bool × List Int × Unit) (x1 : Int × Bool × Bool × List Int × (List Int × List (List Int) × Bool × Bool × Bool × Int × Unit) × (List Int × List Int × Unit) × List Bool × List (List Int) × List Bool × List Int × Unit) : laws_eqNode_F (x0, (x1, ())) =
 brk (!decide (x0.1 = x1.1))
 (some ((false, ()), ((), ((), ()))))
 (brk (!(x0.2.1 == x1.2.1))
 (some ((false, ()), ((), ((), ()))))
 (brk (!(x0.2.2.1 == x1.2.2.1))
 (some ((false, ()), ((), ((), ()))))
 ((laws_eqIntS_F (x0.2.2.2.1, (x1.2.2.2.1, ()))).bind fun y24 =>
 brk (!y24.1.1)
 (some ((false, ()), ((), ((), ()))))
 ((laws_eqMeta_F ((x0.2.2.2.2.1.1, (x0.2.2.2.2.1.2.1, (x0.2.2.2.2.1.2.2.1, (x0.2.2.2.2.1.2.2.2.1, (x0.2.2.2.2.1.2.2.2.2.1, (x0.2.2.2.2.1.2.2.2.2.2.1, ())))))), ((x1.2.2.2.2.1.1, (x1.2.2.2.2.1.2.1, (x1.2.2.2.2.1.2.2.1, (x1.2.2.2.2.1.2.2.2.1, (x1.2.2.2.2.1.2.2.2.2.1, (x1.2.2.2.2.1.2.2.2.2.2.1, ())))))), ()))).bind fun y30 =>
 brk (!y30.1.1)
 (some ((false, ()), ((), ((), ()))))
 ((laws_eqSlots_F ((x0.2.2.2.2.2.1.1, (x0.2.2.2.2.2.1.2.1, ())), ((x1.2.2.2.2.2.1.1, (x1.2.2.2.2.2.1.2.1, ())), ()))).bind fun y36 =>
 brk (!y36.1.1)
 (some ((false, ()), ((), ((), ()))))
 ((laws_eqBoolS_F (x0.2.2.2.2.2.2.1, (x1.2.2.2.2.2.2.1, ()))).bind fun y42 =>
 brk (!y42.1.1)
 (some ((false, ()), ((), ((), ()))))
 ((laws_eqIntSS_F (x0.2.2.2.2.2.2.2.1, (x1.2.2.2.2.2.2.2.1, ()))).bind fun y48 =>
 brk (!y48.1.1)
 (some ((false, ()), ((), ((), ()))))
 ((laws_eqBoolS_F (x0.2.2.2.2.2.2.2.2.1, (x1.2.2.2.2.2.2.2.2.1, ()))).bind fun y54 =>
 brk (!y54.1.1)
 (some ((false, ()), ((), ((), ()))))
 ((laws_eqIntS_F (x0.2.2.2.2.2.2.2.2.2.1, (x1.2.2.2.2.2.2.2.2.2.1, ()))).bind fun y60 =>
 brk (!y60.1.1)
 (some ((false, ()), ((), ((), ()))))
 (some ((true, ()), ((), ((), ()))))))))))))) := by kernel_rfl
/-! laws.markIntS -/
noncomputable def laws_markIntS_b : Code := bd Try.f70
@[reducible] def laws_markIntS_t0 : Tm := ⟨[], [], [(0, .own 1000000), (1, .sc true tI), (5, .sc true tI)], [(1000000, .arr 3 tI)], [1], []⟩
def laws_markIntS_T : List (Nat × Tm) := [(0, laws_markIntS_t0)]
noncomputable def laws_markIntS_E : Env := ⟨tt0, []⟩
noncomputable def laws_markIntS_F : PsD [.inp tIs, .ro tI] → Option (RsD [.own tI] × PsO [.inp tIs, .ro tI]) := fun x => evFn laws_markIntS_E laws_markIntS_T Try.f70 laws_markIntS_b [.inp tIs, .ro tI] [.own tI] x
@[reducible] noncomputable def laws_markIntS_C : Ct := ⟨[.inp tIs, .ro tI], [.own tI], laws_markIntS_F⟩
theorem laws_markIntS_h (x : PsD [.inp tIs, .ro tI]) (y : RsD [.own tI] × PsO [.inp tIs, .ro tI]) (h : laws_markIntS_F x = some y) : evFn laws_markIntS_E laws_markIntS_T Try.f70 laws_markIntS_b [.inp tIs, .ro tI] [.own tI] x = some y := h
theorem laws_markIntS_c : ∀ f c, get laws_markIntS_E.ct f = some c → Sat Try.prog f c := ct_nil
theorem laws_markIntS_S : Sat Try.prog 70 laws_markIntS_C := fn_ok2 (envOk _) laws_markIntS_c mixedOk Try.func70 (by kernel_rfl : Try.f70.body = some laws_markIntS_b) (by kernel_rfl) (by kernel_rfl) laws_markIntS_h
noncomputable def laws_markIntS_Ke  (x0 : List Int) (x1 : Int) : Ex → AS → Option (RsD [.own tI] × PsO [.inp tIs, .ro tI]) := endK laws_markIntS_E Try.f70 [.inp tIs, .ro tI] [.own tI] (initL [.inp tIs, .ro tI] (x0, (x1, ())) 0).1
noncomputable def laws_markIntS_B0 {R : Type} : AS → (Ex → AS → Option R) → Option R := fun A K => ev laws_markIntS_E laws_markIntS_T 0 (cA (cA (cB (cA (cB laws_markIntS_b))))) A K
noncomputable def laws_markIntS_K0  (x0 : List Int) (x1 : Int) : Ex → AS → Option (RsD [.own tI] × PsO [.inp tIs, .ro tI]) := kBlk 0 (kSeq (fun A K => ev laws_markIntS_E laws_markIntS_T 1000 (cB (cB laws_markIntS_b)) A K) (laws_markIntS_Ke x0 x1))
noncomputable def laws_markIntS_x0_0 (d0 : Int) (d1 : List Int) : AS := ⟨[(1, .v (.one (.d true tI d0)))], [(1000000, .arr 3 tI d1)]⟩
theorem laws_markIntS_l0 {R : Type} {K : Ex → AS → Option R} {s : laws_markIntS_t0.D} (n : Nat) {v : Option R} (h : iterG laws_markIntS_t0 laws_markIntS_B0 K n s = v) (hv : ∃ r, v = some r) : loopG laws_markIntS_t0 laws_markIntS_B0 K s = v := loop_eq (ev_mono _ _) n h hv
theorem laws_markIntS_main (x0 : List Int) (x1 : Int) : laws_markIntS_F (x0, (x1, ())) =
 loopG laws_markIntS_t0 laws_markIntS_B0 (laws_markIntS_K0 x0 x1) ((x1, ((0 : Int), ())), (x0, ())) := by kernel_rfl
theorem laws_markIntS_r0 {R : Type} (K : Ex → AS → Option R) (n : Nat) (t1 : Int) (t5 : Int) (a1000000 : List Int) : iterG laws_markIntS_t0 laws_markIntS_B0 K (n + 1) ((t1, (t5, ())), (a1000000, ())) =
 brk (decide (t5 < (a1000000.length : Int)))
 (ck (decide (0 ≤ t5) && decide (t5 < a1000000.length)) (iterG laws_markIntS_t0 laws_markIntS_B0 K n ((IntKind.i64.wrap (t1 + (1 : Int)), (IntKind.i64.wrap (t5 + (1 : Int)), ())), (a1000000.set t5.toNat t1, ()))))
 (K (.exit 0) (laws_markIntS_x0_0 t1 a1000000)) := by kernel_rfl
theorem laws_markIntS_e0_0 (x0 : List Int) (x1 : Int) (d0 : Int) (d1 : List Int) : laws_markIntS_K0 x0 x1 (.exit 0) (laws_markIntS_x0_0 d0 d1) =
 some ((d0, ()), (d1, ((), ()))) := by kernel_rfl
/-! laws.markIntSS -/
noncomputable def laws_markIntSS_b : Code := bd Try.f71
@[reducible] def laws_markIntSS_t0 : Tm := ⟨[], [], [(0, .own 1000000), (1, .sc true tI), (5, .sc true tI)], [(1000000, .arr 26 tIs)], [1], []⟩
def laws_markIntSS_T : List (Nat × Tm) := [(0, laws_markIntSS_t0)]
noncomputable def laws_markIntSS_E : Env := ⟨tt0, [(70, laws_markIntS_C)]⟩
noncomputable def laws_markIntSS_F : PsD [.inp tIss, .ro tI] → Option (RsD [.own tI] × PsO [.inp tIss, .ro tI]) := fun x => evFn laws_markIntSS_E laws_markIntSS_T Try.f71 laws_markIntSS_b [.inp tIss, .ro tI] [.own tI] x
@[reducible] noncomputable def laws_markIntSS_C : Ct := ⟨[.inp tIss, .ro tI], [.own tI], laws_markIntSS_F⟩
theorem laws_markIntSS_h (x : PsD [.inp tIss, .ro tI]) (y : RsD [.own tI] × PsO [.inp tIss, .ro tI]) (h : laws_markIntSS_F x = some y) : evFn laws_markIntSS_E laws_markIntSS_T Try.f71 laws_markIntSS_b [.inp tIss, .ro tI] [.own tI] x = some y := h
theorem laws_markIntSS_c : ∀ f c, get laws_markIntSS_E.ct f = some c → Sat Try.prog f c := ct_cons laws_markIntS_S (ct_nil)
theorem laws_markIntSS_S : Sat Try.prog 71 laws_markIntSS_C := fn_ok2 (envOk _) laws_markIntSS_c mixedOk Try.func71 (by kernel_rfl : Try.f71.body = some laws_markIntSS_b) (by kernel_rfl) (by kernel_rfl) laws_markIntSS_h
noncomputable def laws_markIntSS_Ke  (x0 : List (List Int)) (x1 : Int) : Ex → AS → Option (RsD [.own tI] × PsO [.inp tIss, .ro tI]) := endK laws_markIntSS_E Try.f71 [.inp tIss, .ro tI] [.own tI] (initL [.inp tIss, .ro tI] (x0, (x1, ())) 0).1
noncomputable def laws_markIntSS_B0 {R : Type} : AS → (Ex → AS → Option R) → Option R := fun A K => ev laws_markIntSS_E laws_markIntSS_T 0 (cA (cA (cB (cA (cB laws_markIntSS_b))))) A K
noncomputable def laws_markIntSS_K0  (x0 : List (List Int)) (x1 : Int) : Ex → AS → Option (RsD [.own tI] × PsO [.inp tIss, .ro tI]) := kBlk 0 (kSeq (fun A K => ev laws_markIntSS_E laws_markIntSS_T 1000 (cB (cB laws_markIntSS_b)) A K) (laws_markIntSS_Ke x0 x1))
noncomputable def laws_markIntSS_x0_0 (d0 : Int) (d1 : List (List Int)) : AS := ⟨[(1, .v (.one (.d true tI d0)))], [(1000000, .arr 26 tIs d1)]⟩
theorem laws_markIntSS_l0 {R : Type} {K : Ex → AS → Option R} {s : laws_markIntSS_t0.D} (n : Nat) {v : Option R} (h : iterG laws_markIntSS_t0 laws_markIntSS_B0 K n s = v) (hv : ∃ r, v = some r) : loopG laws_markIntSS_t0 laws_markIntSS_B0 K s = v := loop_eq (ev_mono _ _) n h hv
theorem laws_markIntSS_main (x0 : List (List Int)) (x1 : Int) : laws_markIntSS_F (x0, (x1, ())) =
 loopG laws_markIntSS_t0 laws_markIntSS_B0 (laws_markIntSS_K0 x0 x1) ((x1, ((0 : Int), ())), (x0, ())) := by kernel_rfl
theorem laws_markIntSS_r0 {R : Type} (K : Ex → AS → Option R) (n : Nat) (t1 : Int) (t5 : Int) (a1000000 : List (List Int)) : iterG laws_markIntSS_t0 laws_markIntSS_B0 K (n + 1) ((t1, (t5, ())), (a1000000, ())) =
 brk (decide (t5 < (a1000000.length : Int)))
 (ck (decide (0 ≤ t5) && decide (t5 < a1000000.length)) ((laws_markIntS_F (rdD tIs a1000000 t5, (t1, ()))).bind fun y17 =>
 iterG laws_markIntSS_t0 laws_markIntSS_B0 K n ((y17.1.1, (IntKind.i64.wrap (t5 + (1 : Int)), ())), (a1000000.set t5.toNat y17.2.1, ()))))
 (K (.exit 0) (laws_markIntSS_x0_0 t1 a1000000)) := by kernel_rfl
theorem laws_markIntSS_e0_0 (x0 : List (List Int)) (x1 : Int) (d0 : Int) (d1 : List (List Int)) : laws_markIntSS_K0 x0 x1 (.exit 0) (laws_markIntSS_x0_0 d0 d1) =
 some ((d0, ()), (d1, ((), ()))) := by kernel_rfl
/-! laws.markMeta -/
noncomputable def laws_markMeta_b : Code := bd Try.f24
def laws_markMeta_T : List (Nat × Tm) := []
noncomputable def laws_markMeta_E : Env := ⟨tt0, [(70, laws_markIntS_C), (71, laws_markIntSS_C)]⟩
noncomputable def laws_markMeta_F : PsD [.inp tMeta, .ro tI] → Option (RsD [.own tI] × PsO [.inp tMeta, .ro tI]) := fun x => evFn laws_markMeta_E laws_markMeta_T Try.f24 laws_markMeta_b [.inp tMeta, .ro tI] [.own tI] x
@[reducible] noncomputable def laws_markMeta_C : Ct := ⟨[.inp tMeta, .ro tI], [.own tI], laws_markMeta_F⟩
theorem laws_markMeta_h (x : PsD [.inp tMeta, .ro tI]) (y : RsD [.own tI] × PsO [.inp tMeta, .ro tI]) (h : laws_markMeta_F x = some y) : evFn laws_markMeta_E laws_markMeta_T Try.f24 laws_markMeta_b [.inp tMeta, .ro tI] [.own tI] x = some y := h
theorem laws_markMeta_c : ∀ f c, get laws_markMeta_E.ct f = some c → Sat Try.prog f c := ct_cons laws_markIntS_S (ct_cons laws_markIntSS_S (ct_nil))
theorem laws_markMeta_S : Sat Try.prog 24 laws_markMeta_C := fn_ok2 (envOk _) laws_markMeta_c mixedOk Try.func24 (by kernel_rfl : Try.f24.body = some laws_markMeta_b) (by kernel_rfl) (by kernel_rfl) laws_markMeta_h
noncomputable def laws_markMeta_Ke  (x0 : List Int × List (List Int) × Bool × Bool × Bool × Int × Unit) (x1 : Int) : Ex → AS → Option (RsD [.own tI] × PsO [.inp tMeta, .ro tI]) := endK laws_markMeta_E Try.f24 [.inp tMeta, .ro tI] [.own tI] (initL [.inp tMeta, .ro tI] (x0, (x1, ())) 0).1
theorem laws_markMeta_main (x0 : List Int × List (List Int) × Bool × Bool × Bool × Int × Unit) (x1 : Int) : laws_markMeta_F (x0, (x1, ())) =
 (laws_markIntS_F (x0.1, (x1, ()))).bind fun y8 =>
 (laws_markIntSS_F (x0.2.1, (y8.1.1, ()))).bind fun y12 =>
 some ((y12.1.1, ()), ((y8.2.1, (y12.2.1, (x0.2.2.1, (x0.2.2.2.1, (x0.2.2.2.2.1, (x0.2.2.2.2.2.1, ())))))), ((), ()))) := by kernel_rfl
/-! laws.markByteS -/
noncomputable def laws_markByteS_b : Code := bd Try.f23
@[reducible] def laws_markByteS_t0 : Tm := ⟨[], [], [(0, .own 1000000), (1, .sc true tI), (5, .sc true tI)], [(1000000, .arr 5 tY)], [1], []⟩
def laws_markByteS_T : List (Nat × Tm) := [(0, laws_markByteS_t0)]
noncomputable def laws_markByteS_E : Env := ⟨tt0, []⟩
noncomputable def laws_markByteS_F : PsD [.inp tYs, .ro tI] → Option (RsD [.own tI] × PsO [.inp tYs, .ro tI]) := fun x => evFn laws_markByteS_E laws_markByteS_T Try.f23 laws_markByteS_b [.inp tYs, .ro tI] [.own tI] x
@[reducible] noncomputable def laws_markByteS_C : Ct := ⟨[.inp tYs, .ro tI], [.own tI], laws_markByteS_F⟩
theorem laws_markByteS_h (x : PsD [.inp tYs, .ro tI]) (y : RsD [.own tI] × PsO [.inp tYs, .ro tI]) (h : laws_markByteS_F x = some y) : evFn laws_markByteS_E laws_markByteS_T Try.f23 laws_markByteS_b [.inp tYs, .ro tI] [.own tI] x = some y := h
theorem laws_markByteS_c : ∀ f c, get laws_markByteS_E.ct f = some c → Sat Try.prog f c := ct_nil
theorem laws_markByteS_S : Sat Try.prog 23 laws_markByteS_C := fn_ok2 (envOk _) laws_markByteS_c mixedOk Try.func23 (by kernel_rfl : Try.f23.body = some laws_markByteS_b) (by kernel_rfl) (by kernel_rfl) laws_markByteS_h
noncomputable def laws_markByteS_Ke  (x0 : List Int) (x1 : Int) : Ex → AS → Option (RsD [.own tI] × PsO [.inp tYs, .ro tI]) := endK laws_markByteS_E Try.f23 [.inp tYs, .ro tI] [.own tI] (initL [.inp tYs, .ro tI] (x0, (x1, ())) 0).1
noncomputable def laws_markByteS_B0 {R : Type} : AS → (Ex → AS → Option R) → Option R := fun A K => ev laws_markByteS_E laws_markByteS_T 0 (cA (cA (cB (cA (cB laws_markByteS_b))))) A K
noncomputable def laws_markByteS_K0  (x0 : List Int) (x1 : Int) : Ex → AS → Option (RsD [.own tI] × PsO [.inp tYs, .ro tI]) := kBlk 0 (kSeq (fun A K => ev laws_markByteS_E laws_markByteS_T 1000 (cB (cB laws_markByteS_b)) A K) (laws_markByteS_Ke x0 x1))
noncomputable def laws_markByteS_x0_0 (d0 : Int) (d1 : List Int) : AS := ⟨[(1, .v (.one (.d true tI d0)))], [(1000000, .arr 5 tY d1)]⟩
theorem laws_markByteS_l0 {R : Type} {K : Ex → AS → Option R} {s : laws_markByteS_t0.D} (n : Nat) {v : Option R} (h : iterG laws_markByteS_t0 laws_markByteS_B0 K n s = v) (hv : ∃ r, v = some r) : loopG laws_markByteS_t0 laws_markByteS_B0 K s = v := loop_eq (ev_mono _ _) n h hv
theorem laws_markByteS_main (x0 : List Int) (x1 : Int) : laws_markByteS_F (x0, (x1, ())) =
 loopG laws_markByteS_t0 laws_markByteS_B0 (laws_markByteS_K0 x0 x1) ((x1, ((0 : Int), ())), (x0, ())) := by kernel_rfl
theorem laws_markByteS_r0 {R : Type} (K : Ex → AS → Option R) (n : Nat) (t1 : Int) (t5 : Int) (a1000000 : List Int) : iterG laws_markByteS_t0 laws_markByteS_B0 K (n + 1) ((t1, (t5, ())), (a1000000, ())) =
 brk (decide (t5 < (a1000000.length : Int)))
 (ck (decide (0 ≤ t5) && decide (t5 < a1000000.length)) (iterG laws_markByteS_t0 laws_markByteS_B0 K n ((IntKind.i64.wrap (t1 + (1 : Int)), (IntKind.i64.wrap (t5 + (1 : Int)), ())), (a1000000.set t5.toNat (IntKind.u8.wrap t1), ()))))
 (K (.exit 0) (laws_markByteS_x0_0 t1 a1000000)) := by kernel_rfl
theorem laws_markByteS_e0_0 (x0 : List Int) (x1 : Int) (d0 : Int) (d1 : List Int) : laws_markByteS_K0 x0 x1 (.exit 0) (laws_markByteS_x0_0 d0 d1) =
 some ((d0, ()), (d1, ((), ()))) := by kernel_rfl
/-! laws.markSlots -/
noncomputable def laws_markSlots_b : Code := bd Try.f30
def laws_markSlots_T : List (Nat × Tm) := []
noncomputable def laws_markSlots_E : Env := ⟨tt0, [(23, laws_markByteS_C)]⟩
noncomputable def laws_markSlots_F : PsD [.inp tSlots, .ro tI] → Option (RsD [.own tI] × PsO [.inp tSlots, .ro tI]) := fun x => evFn laws_markSlots_E laws_markSlots_T Try.f30 laws_markSlots_b [.inp tSlots, .ro tI] [.own tI] x
@[reducible] noncomputable def laws_markSlots_C : Ct := ⟨[.inp tSlots, .ro tI], [.own tI], laws_markSlots_F⟩
theorem laws_markSlots_h (x : PsD [.inp tSlots, .ro tI]) (y : RsD [.own tI] × PsO [.inp tSlots, .ro tI]) (h : laws_markSlots_F x = some y) : evFn laws_markSlots_E laws_markSlots_T Try.f30 laws_markSlots_b [.inp tSlots, .ro tI] [.own tI] x = some y := h
theorem laws_markSlots_c : ∀ f c, get laws_markSlots_E.ct f = some c → Sat Try.prog f c := ct_cons laws_markByteS_S (ct_nil)
theorem laws_markSlots_S : Sat Try.prog 30 laws_markSlots_C := fn_ok2 (envOk _) laws_markSlots_c mixedOk Try.func30 (by kernel_rfl : Try.f30.body = some laws_markSlots_b) (by kernel_rfl) (by kernel_rfl) laws_markSlots_h
noncomputable def laws_markSlots_Ke  (x0 : List Int × List Int × Unit) (x1 : Int) : Ex → AS → Option (RsD [.own tI] × PsO [.inp tSlots, .ro tI]) := endK laws_markSlots_E Try.f30 [.inp tSlots, .ro tI] [.own tI] (initL [.inp tSlots, .ro tI] (x0, (x1, ())) 0).1
theorem laws_markSlots_main (x0 : List Int × List Int × Unit) (x1 : Int) : laws_markSlots_F (x0, (x1, ())) =
 (laws_markByteS_F (x0.1, (x1, ()))).bind fun y8 =>
 (laws_markByteS_F (x0.2.1, (y8.1.1, ()))).bind fun y12 =>
 some ((y12.1.1, ()), ((y8.2.1, (y12.2.1, ())), ((), ()))) := by kernel_rfl
/-! laws.markBoolS -/
noncomputable def laws_markBoolS_b : Code := bd Try.f90
@[reducible] def laws_markBoolS_t0 : Tm := ⟨[], [], [(0, .own 1000000), (1, .sc true tI), (5, .sc true tI)], [(1000000, .arr 4 tB)], [1], []⟩
def laws_markBoolS_T : List (Nat × Tm) := [(0, laws_markBoolS_t0)]
noncomputable def laws_markBoolS_E : Env := ⟨tt0, []⟩
noncomputable def laws_markBoolS_F : PsD [.inp tBs, .ro tI] → Option (RsD [.own tI] × PsO [.inp tBs, .ro tI]) := fun x => evFn laws_markBoolS_E laws_markBoolS_T Try.f90 laws_markBoolS_b [.inp tBs, .ro tI] [.own tI] x
@[reducible] noncomputable def laws_markBoolS_C : Ct := ⟨[.inp tBs, .ro tI], [.own tI], laws_markBoolS_F⟩
theorem laws_markBoolS_h (x : PsD [.inp tBs, .ro tI]) (y : RsD [.own tI] × PsO [.inp tBs, .ro tI]) (h : laws_markBoolS_F x = some y) : evFn laws_markBoolS_E laws_markBoolS_T Try.f90 laws_markBoolS_b [.inp tBs, .ro tI] [.own tI] x = some y := h
theorem laws_markBoolS_c : ∀ f c, get laws_markBoolS_E.ct f = some c → Sat Try.prog f c := ct_nil
theorem laws_markBoolS_S : Sat Try.prog 90 laws_markBoolS_C := fn_ok2 (envOk _) laws_markBoolS_c mixedOk Try.func90 (by kernel_rfl : Try.f90.body = some laws_markBoolS_b) (by kernel_rfl) (by kernel_rfl) laws_markBoolS_h
noncomputable def laws_markBoolS_Ke  (x0 : List Bool) (x1 : Int) : Ex → AS → Option (RsD [.own tI] × PsO [.inp tBs, .ro tI]) := endK laws_markBoolS_E Try.f90 [.inp tBs, .ro tI] [.own tI] (initL [.inp tBs, .ro tI] (x0, (x1, ())) 0).1
noncomputable def laws_markBoolS_B0 {R : Type} : AS → (Ex → AS → Option R) → Option R := fun A K => ev laws_markBoolS_E laws_markBoolS_T 0 (cA (cA (cB (cA (cB laws_markBoolS_b))))) A K
noncomputable def laws_markBoolS_K0  (x0 : List Bool) (x1 : Int) : Ex → AS → Option (RsD [.own tI] × PsO [.inp tBs, .ro tI]) := kBlk 0 (kSeq (fun A K => ev laws_markBoolS_E laws_markBoolS_T 1000 (cB (cB laws_markBoolS_b)) A K) (laws_markBoolS_Ke x0 x1))
noncomputable def laws_markBoolS_x0_0 (d0 : Int) (d1 : List Bool) : AS := ⟨[(1, .v (.one (.d true tI d0)))], [(1000000, .arr 4 tB d1)]⟩
theorem laws_markBoolS_l0 {R : Type} {K : Ex → AS → Option R} {s : laws_markBoolS_t0.D} (n : Nat) {v : Option R} (h : iterG laws_markBoolS_t0 laws_markBoolS_B0 K n s = v) (hv : ∃ r, v = some r) : loopG laws_markBoolS_t0 laws_markBoolS_B0 K s = v := loop_eq (ev_mono _ _) n h hv
theorem laws_markBoolS_main (x0 : List Bool) (x1 : Int) : laws_markBoolS_F (x0, (x1, ())) =
 loopG laws_markBoolS_t0 laws_markBoolS_B0 (laws_markBoolS_K0 x0 x1) ((x1, ((0 : Int), ())), (x0, ())) := by kernel_rfl
theorem laws_markBoolS_r0 {R : Type} (K : Ex → AS → Option R) (n : Nat) (t1 : Int) (t5 : Int) (a1000000 : List Bool) : iterG laws_markBoolS_t0 laws_markBoolS_B0 K (n + 1) ((t1, (t5, ())), (a1000000, ())) =
 brk (decide (t5 < (a1000000.length : Int)))
 (ck (decide (0 ≤ t5) && decide (t5 < a1000000.length)) (iterG laws_markBoolS_t0 laws_markBoolS_B0 K n ((IntKind.i64.wrap (t1 + (1 : Int)), (IntKind.i64.wrap (t5 + (1 : Int)), ())), (a1000000.set t5.toNat (decide (t1.tmod (3 : Int) = (0 : Int))), ()))))
 (K (.exit 0) (laws_markBoolS_x0_0 t1 a1000000)) := by kernel_rfl
theorem laws_markBoolS_e0_0 (x0 : List Bool) (x1 : Int) (d0 : Int) (d1 : List Bool) : laws_markBoolS_K0 x0 x1 (.exit 0) (laws_markBoolS_x0_0 d0 d1) =
 some ((d0, ()), (d1, ((), ()))) := by kernel_rfl
/-! laws.markNode -/
noncomputable def laws_markNode_b : Code := bd Try.f42
def laws_markNode_T : List (Nat × Tm) := []
noncomputable def laws_markNode_E : Env := ⟨tt0, [(24, laws_markMeta_C), (30, laws_markSlots_C), (70, laws_markIntS_C), (71, laws_markIntSS_C), (90, laws_markBoolS_C)]⟩
noncomputable def laws_markNode_F : PsD [.inp tNode, .ro tI] → Option (RsD [.own tI] × PsO [.inp tNode, .ro tI]) := fun x => evFn laws_markNode_E laws_markNode_T Try.f42 laws_markNode_b [.inp tNode, .ro tI] [.own tI] x
@[reducible] noncomputable def laws_markNode_C : Ct := ⟨[.inp tNode, .ro tI], [.own tI], laws_markNode_F⟩
theorem laws_markNode_h (x : PsD [.inp tNode, .ro tI]) (y : RsD [.own tI] × PsO [.inp tNode, .ro tI]) (h : laws_markNode_F x = some y) : evFn laws_markNode_E laws_markNode_T Try.f42 laws_markNode_b [.inp tNode, .ro tI] [.own tI] x = some y := h
theorem laws_markNode_c : ∀ f c, get laws_markNode_E.ct f = some c → Sat Try.prog f c := ct_cons laws_markMeta_S (ct_cons laws_markSlots_S (ct_cons laws_markIntS_S (ct_cons laws_markIntSS_S (ct_cons laws_markBoolS_S (ct_nil)))))
theorem laws_markNode_S : Sat Try.prog 42 laws_markNode_C := fn_ok2 (envOk _) laws_markNode_c mixedOk Try.func42 (by kernel_rfl : Try.f42.body = some laws_markNode_b) (by kernel_rfl) (by kernel_rfl) laws_markNode_h
noncomputable def laws_markNode_Ke  (x0 : Int × Bool × Bool × List Int × (List Int × List (List Int) × Bool × Bool × Bool × Int × Unit) × (List Int × List Int × Unit) × List Bool × List (List Int) × List Bool × List Int × Unit) (x1 : Int) : Ex → AS → Option (RsD [.own tI] × PsO [.inp tNode, .ro tI]) := endK laws_markNode_E Try.f42 [.inp tNode, .ro tI] [.own tI] (initL [.inp tNode, .ro tI] (x0, (x1, ())) 0).1
theorem laws_markNode_main (x0 : Int × Bool × Bool × List Int × (List Int × List (List Int) × Bool × Bool × Bool × Int × Unit) × (List Int × List Int × Unit) × List Bool × List (List Int) × List Bool × List Int × Unit) (x1 : Int) : laws_markNode_F (x0, (x1, ())) =
 (laws_markIntS_F (x0.2.2.2.1, (x1, ()))).bind fun y8 =>
 (laws_markMeta_F ((x0.2.2.2.2.1.1, (x0.2.2.2.2.1.2.1, (x0.2.2.2.2.1.2.2.1, (x0.2.2.2.2.1.2.2.2.1, (x0.2.2.2.2.1.2.2.2.2.1, (x0.2.2.2.2.1.2.2.2.2.2.1, ())))))), (y8.1.1, ()))).bind fun y12 =>
 (laws_markSlots_F ((x0.2.2.2.2.2.1.1, (x0.2.2.2.2.2.1.2.1, ())), (y12.1.1, ()))).bind fun y16 =>
 (laws_markBoolS_F (x0.2.2.2.2.2.2.1, (y16.1.1, ()))).bind fun y20 =>
 (laws_markIntSS_F (x0.2.2.2.2.2.2.2.1, (y20.1.1, ()))).bind fun y24 =>
 (laws_markBoolS_F (x0.2.2.2.2.2.2.2.2.1, (y24.1.1, ()))).bind fun y28 =>
 (laws_markIntS_F (x0.2.2.2.2.2.2.2.2.2.1, (y28.1.1, ()))).bind fun y32 =>
 some ((y32.1.1, ()), ((x0.1, (x0.2.1, (x0.2.2.1, (y8.2.1, ((y12.2.1.1, (y12.2.1.2.1, (x0.2.2.2.2.1.2.2.1, (x0.2.2.2.2.1.2.2.2.1, (x0.2.2.2.2.1.2.2.2.2.1, (x0.2.2.2.2.1.2.2.2.2.2.1, ())))))), ((y16.2.1.1, (y16.2.1.2.1, ())), (y20.2.1, (y24.2.1, (y28.2.1, (y32.2.1, ())))))))))), ((), ()))) := by kernel_rfl
/-! laws.heldIntS -/
noncomputable def laws_heldIntS_b : Code := bd Try.f72
@[reducible] def laws_heldIntS_t0 : Tm := ⟨[], [], [(0, .sc true tIs), (1, .sc true tI), (5, .sc true tI)], [], [1, 4], []⟩
def laws_heldIntS_T : List (Nat × Tm) := [(0, laws_heldIntS_t0)]
noncomputable def laws_heldIntS_E : Env := ⟨tt0, []⟩
noncomputable def laws_heldIntS_F : PsD [.ro tIs, .ro tI] → Option (RsD [.own tI] × PsO [.ro tIs, .ro tI]) := fun x => evFn laws_heldIntS_E laws_heldIntS_T Try.f72 laws_heldIntS_b [.ro tIs, .ro tI] [.own tI] x
@[reducible] noncomputable def laws_heldIntS_C : Ct := ⟨[.ro tIs, .ro tI], [.own tI], laws_heldIntS_F⟩
theorem laws_heldIntS_h (x : PsD [.ro tIs, .ro tI]) (y : RsD [.own tI] × PsO [.ro tIs, .ro tI]) (h : laws_heldIntS_F x = some y) : evFn laws_heldIntS_E laws_heldIntS_T Try.f72 laws_heldIntS_b [.ro tIs, .ro tI] [.own tI] x = some y := h
theorem laws_heldIntS_c : ∀ f c, get laws_heldIntS_E.ct f = some c → Sat Try.prog f c := ct_nil
theorem laws_heldIntS_S : Sat Try.prog 72 laws_heldIntS_C := fn_ok2 (envOk _) laws_heldIntS_c mixedOk Try.func72 (by kernel_rfl : Try.f72.body = some laws_heldIntS_b) (by kernel_rfl) (by kernel_rfl) laws_heldIntS_h
noncomputable def laws_heldIntS_Ke  (x0 : List Int) (x1 : Int) : Ex → AS → Option (RsD [.own tI] × PsO [.ro tIs, .ro tI]) := endK laws_heldIntS_E Try.f72 [.ro tIs, .ro tI] [.own tI] (initL [.ro tIs, .ro tI] (x0, (x1, ())) 0).1
noncomputable def laws_heldIntS_B0 {R : Type} : AS → (Ex → AS → Option R) → Option R := fun A K => ev laws_heldIntS_E laws_heldIntS_T 0 (cA (cA (cB (cA (cB laws_heldIntS_b))))) A K
noncomputable def laws_heldIntS_K0  (x0 : List Int) (x1 : Int) : Ex → AS → Option (RsD [.own tI] × PsO [.ro tIs, .ro tI]) := kBlk 0 (kSeq (fun A K => ev laws_heldIntS_E laws_heldIntS_T 1000 (cB (cB laws_heldIntS_b)) A K) (laws_heldIntS_Ke x0 x1))
noncomputable def laws_heldIntS_x0_0 (d0 : Int) (d1 : Int) : AS := ⟨[(1, .v (.one (.d true tI d0))), (4, .v (.one (.d true tI d1)))], []⟩
noncomputable def laws_heldIntS_x0_1 (d0 : Int) : AS := ⟨[(1, .v (.one (.d true tI d0)))], []⟩
theorem laws_heldIntS_l0 {R : Type} {K : Ex → AS → Option R} {s : laws_heldIntS_t0.D} (n : Nat) {v : Option R} (h : iterG laws_heldIntS_t0 laws_heldIntS_B0 K n s = v) (hv : ∃ r, v = some r) : loopG laws_heldIntS_t0 laws_heldIntS_B0 K s = v := loop_eq (ev_mono _ _) n h hv
theorem laws_heldIntS_main (x0 : List Int) (x1 : Int) : laws_heldIntS_F (x0, (x1, ())) =
 loopG laws_heldIntS_t0 laws_heldIntS_B0 (laws_heldIntS_K0 x0 x1) ((x0, (x1, ((0 : Int), ()))), ()) := by kernel_rfl
theorem laws_heldIntS_r0 {R : Type} (K : Ex → AS → Option R) (n : Nat) (t0 : List Int) (t1 : Int) (t5 : Int) : iterG laws_heldIntS_t0 laws_heldIntS_B0 K (n + 1) ((t0, (t1, (t5, ()))), ()) =
 brk (decide (t5 < (t0.length : Int)))
 (ck (decide (0 ≤ t5) && decide (t5 < t0.length)) (brk (!decide (rdD tI t0 t5 = t1))
 (K .ret (laws_heldIntS_x0_0 t1 (-1 : Int)))
 (iterG laws_heldIntS_t0 laws_heldIntS_B0 K n ((t0, (IntKind.i64.wrap (t1 + (1 : Int)), (IntKind.i64.wrap (t5 + (1 : Int)), ()))), ()))))
 (K (.exit 0) (laws_heldIntS_x0_1 t1)) := by kernel_rfl
theorem laws_heldIntS_e0_0 (x0 : List Int) (x1 : Int) (d0 : Int) (d1 : Int) : laws_heldIntS_K0 x0 x1 .ret (laws_heldIntS_x0_0 d0 d1) =
 some ((d1, ()), ((), ((), ()))) := by kernel_rfl
theorem laws_heldIntS_e0_1 (x0 : List Int) (x1 : Int) (d0 : Int) : laws_heldIntS_K0 x0 x1 (.exit 0) (laws_heldIntS_x0_1 d0) =
 some ((d0, ()), ((), ((), ()))) := by kernel_rfl
/-! laws.heldIntSS -/
noncomputable def laws_heldIntSS_b : Code := bd Try.f73
@[reducible] def laws_heldIntSS_t0 : Tm := ⟨[], [], [(0, .sc true tIss), (1, .sc true tI), (5, .sc true tI)], [], [1, 4], []⟩
def laws_heldIntSS_T : List (Nat × Tm) := [(0, laws_heldIntSS_t0)]
noncomputable def laws_heldIntSS_E : Env := ⟨tt0, [(72, laws_heldIntS_C)]⟩
noncomputable def laws_heldIntSS_F : PsD [.ro tIss, .ro tI] → Option (RsD [.own tI] × PsO [.ro tIss, .ro tI]) := fun x => evFn laws_heldIntSS_E laws_heldIntSS_T Try.f73 laws_heldIntSS_b [.ro tIss, .ro tI] [.own tI] x
@[reducible] noncomputable def laws_heldIntSS_C : Ct := ⟨[.ro tIss, .ro tI], [.own tI], laws_heldIntSS_F⟩
theorem laws_heldIntSS_h (x : PsD [.ro tIss, .ro tI]) (y : RsD [.own tI] × PsO [.ro tIss, .ro tI]) (h : laws_heldIntSS_F x = some y) : evFn laws_heldIntSS_E laws_heldIntSS_T Try.f73 laws_heldIntSS_b [.ro tIss, .ro tI] [.own tI] x = some y := h
theorem laws_heldIntSS_c : ∀ f c, get laws_heldIntSS_E.ct f = some c → Sat Try.prog f c := ct_cons laws_heldIntS_S (ct_nil)
theorem laws_heldIntSS_S : Sat Try.prog 73 laws_heldIntSS_C := fn_ok2 (envOk _) laws_heldIntSS_c mixedOk Try.func73 (by kernel_rfl : Try.f73.body = some laws_heldIntSS_b) (by kernel_rfl) (by kernel_rfl) laws_heldIntSS_h
noncomputable def laws_heldIntSS_Ke  (x0 : List (List Int)) (x1 : Int) : Ex → AS → Option (RsD [.own tI] × PsO [.ro tIss, .ro tI]) := endK laws_heldIntSS_E Try.f73 [.ro tIss, .ro tI] [.own tI] (initL [.ro tIss, .ro tI] (x0, (x1, ())) 0).1
noncomputable def laws_heldIntSS_B0 {R : Type} : AS → (Ex → AS → Option R) → Option R := fun A K => ev laws_heldIntSS_E laws_heldIntSS_T 0 (cA (cA (cB (cA (cB laws_heldIntSS_b))))) A K
noncomputable def laws_heldIntSS_K0  (x0 : List (List Int)) (x1 : Int) : Ex → AS → Option (RsD [.own tI] × PsO [.ro tIss, .ro tI]) := kBlk 0 (kSeq (fun A K => ev laws_heldIntSS_E laws_heldIntSS_T 1000 (cB (cB laws_heldIntSS_b)) A K) (laws_heldIntSS_Ke x0 x1))
noncomputable def laws_heldIntSS_x0_0 (d0 : Int) (d1 : Int) : AS := ⟨[(1, .v (.one (.d true tI d0))), (4, .v (.one (.d true tI d1)))], []⟩
noncomputable def laws_heldIntSS_x0_1 (d0 : Int) : AS := ⟨[(1, .v (.one (.d true tI d0)))], []⟩
theorem laws_heldIntSS_l0 {R : Type} {K : Ex → AS → Option R} {s : laws_heldIntSS_t0.D} (n : Nat) {v : Option R} (h : iterG laws_heldIntSS_t0 laws_heldIntSS_B0 K n s = v) (hv : ∃ r, v = some r) : loopG laws_heldIntSS_t0 laws_heldIntSS_B0 K s = v := loop_eq (ev_mono _ _) n h hv
theorem laws_heldIntSS_main (x0 : List (List Int)) (x1 : Int) : laws_heldIntSS_F (x0, (x1, ())) =
 loopG laws_heldIntSS_t0 laws_heldIntSS_B0 (laws_heldIntSS_K0 x0 x1) ((x0, (x1, ((0 : Int), ()))), ()) := by kernel_rfl
theorem laws_heldIntSS_r0 {R : Type} (K : Ex → AS → Option R) (n : Nat) (t0 : List (List Int)) (t1 : Int) (t5 : Int) : iterG laws_heldIntSS_t0 laws_heldIntSS_B0 K (n + 1) ((t0, (t1, (t5, ()))), ()) =
 brk (decide (t5 < (t0.length : Int)))
 (ck (decide (0 ≤ t5) && decide (t5 < t0.length)) ((laws_heldIntS_F (rdD tIs t0 t5, (t1, ()))).bind fun y17 =>
 brk (decide (y17.1.1 < (0 : Int)))
 (K .ret (laws_heldIntSS_x0_0 y17.1.1 (-1 : Int)))
 (iterG laws_heldIntSS_t0 laws_heldIntSS_B0 K n ((t0, (y17.1.1, (IntKind.i64.wrap (t5 + (1 : Int)), ()))), ()))))
 (K (.exit 0) (laws_heldIntSS_x0_1 t1)) := by kernel_rfl
theorem laws_heldIntSS_e0_0 (x0 : List (List Int)) (x1 : Int) (d0 : Int) (d1 : Int) : laws_heldIntSS_K0 x0 x1 .ret (laws_heldIntSS_x0_0 d0 d1) =
 some ((d1, ()), ((), ((), ()))) := by kernel_rfl
theorem laws_heldIntSS_e0_1 (x0 : List (List Int)) (x1 : Int) (d0 : Int) : laws_heldIntSS_K0 x0 x1 (.exit 0) (laws_heldIntSS_x0_1 d0) =
 some ((d0, ()), ((), ((), ()))) := by kernel_rfl
/-! laws.heldMeta -/
noncomputable def laws_heldMeta_b : Code := bd Try.f25
def laws_heldMeta_T : List (Nat × Tm) := []
noncomputable def laws_heldMeta_E : Env := ⟨tt0, [(72, laws_heldIntS_C), (73, laws_heldIntSS_C)]⟩
noncomputable def laws_heldMeta_F : PsD [.ro tMeta, .ro tI] → Option (RsD [.own tI] × PsO [.ro tMeta, .ro tI]) := fun x => evFn laws_heldMeta_E laws_heldMeta_T Try.f25 laws_heldMeta_b [.ro tMeta, .ro tI] [.own tI] x
@[reducible] noncomputable def laws_heldMeta_C : Ct := ⟨[.ro tMeta, .ro tI], [.own tI], laws_heldMeta_F⟩
theorem laws_heldMeta_h (x : PsD [.ro tMeta, .ro tI]) (y : RsD [.own tI] × PsO [.ro tMeta, .ro tI]) (h : laws_heldMeta_F x = some y) : evFn laws_heldMeta_E laws_heldMeta_T Try.f25 laws_heldMeta_b [.ro tMeta, .ro tI] [.own tI] x = some y := h
theorem laws_heldMeta_c : ∀ f c, get laws_heldMeta_E.ct f = some c → Sat Try.prog f c := ct_cons laws_heldIntS_S (ct_cons laws_heldIntSS_S (ct_nil))
theorem laws_heldMeta_S : Sat Try.prog 25 laws_heldMeta_C := fn_ok2 (envOk _) laws_heldMeta_c mixedOk Try.func25 (by kernel_rfl : Try.f25.body = some laws_heldMeta_b) (by kernel_rfl) (by kernel_rfl) laws_heldMeta_h
noncomputable def laws_heldMeta_Ke  (x0 : List Int × List (List Int) × Bool × Bool × Bool × Int × Unit) (x1 : Int) : Ex → AS → Option (RsD [.own tI] × PsO [.ro tMeta, .ro tI]) := endK laws_heldMeta_E Try.f25 [.ro tMeta, .ro tI] [.own tI] (initL [.ro tMeta, .ro tI] (x0, (x1, ())) 0).1
theorem laws_heldMeta_main (x0 : List Int × List (List Int) × Bool × Bool × Bool × Int × Unit) (x1 : Int) : laws_heldMeta_F (x0, (x1, ())) =
 (laws_heldIntS_F (x0.1, (x1, ()))).bind fun y8 =>
 brk (decide (y8.1.1 < (0 : Int)))
 (some (((-1 : Int), ()), ((), ((), ()))))
 ((laws_heldIntSS_F (x0.2.1, (y8.1.1, ()))).bind fun y14 =>
 brk (decide (y14.1.1 < (0 : Int)))
 (some (((-1 : Int), ()), ((), ((), ()))))
 (some ((y14.1.1, ()), ((), ((), ()))))) := by kernel_rfl
/-! laws.heldByteS -/
noncomputable def laws_heldByteS_b : Code := bd Try.f83
@[reducible] def laws_heldByteS_t0 : Tm := ⟨[], [], [(0, .sc true tYs), (1, .sc true tI), (5, .sc true tI)], [], [1, 4], []⟩
def laws_heldByteS_T : List (Nat × Tm) := [(0, laws_heldByteS_t0)]
noncomputable def laws_heldByteS_E : Env := ⟨tt0, []⟩
noncomputable def laws_heldByteS_F : PsD [.ro tYs, .ro tI] → Option (RsD [.own tI] × PsO [.ro tYs, .ro tI]) := fun x => evFn laws_heldByteS_E laws_heldByteS_T Try.f83 laws_heldByteS_b [.ro tYs, .ro tI] [.own tI] x
@[reducible] noncomputable def laws_heldByteS_C : Ct := ⟨[.ro tYs, .ro tI], [.own tI], laws_heldByteS_F⟩
theorem laws_heldByteS_h (x : PsD [.ro tYs, .ro tI]) (y : RsD [.own tI] × PsO [.ro tYs, .ro tI]) (h : laws_heldByteS_F x = some y) : evFn laws_heldByteS_E laws_heldByteS_T Try.f83 laws_heldByteS_b [.ro tYs, .ro tI] [.own tI] x = some y := h
theorem laws_heldByteS_c : ∀ f c, get laws_heldByteS_E.ct f = some c → Sat Try.prog f c := ct_nil
theorem laws_heldByteS_S : Sat Try.prog 83 laws_heldByteS_C := fn_ok2 (envOk _) laws_heldByteS_c mixedOk Try.func83 (by kernel_rfl : Try.f83.body = some laws_heldByteS_b) (by kernel_rfl) (by kernel_rfl) laws_heldByteS_h
noncomputable def laws_heldByteS_Ke  (x0 : List Int) (x1 : Int) : Ex → AS → Option (RsD [.own tI] × PsO [.ro tYs, .ro tI]) := endK laws_heldByteS_E Try.f83 [.ro tYs, .ro tI] [.own tI] (initL [.ro tYs, .ro tI] (x0, (x1, ())) 0).1
noncomputable def laws_heldByteS_B0 {R : Type} : AS → (Ex → AS → Option R) → Option R := fun A K => ev laws_heldByteS_E laws_heldByteS_T 0 (cA (cA (cB (cA (cB laws_heldByteS_b))))) A K
noncomputable def laws_heldByteS_K0  (x0 : List Int) (x1 : Int) : Ex → AS → Option (RsD [.own tI] × PsO [.ro tYs, .ro tI]) := kBlk 0 (kSeq (fun A K => ev laws_heldByteS_E laws_heldByteS_T 1000 (cB (cB laws_heldByteS_b)) A K) (laws_heldByteS_Ke x0 x1))
noncomputable def laws_heldByteS_x0_0 (d0 : Int) (d1 : Int) : AS := ⟨[(1, .v (.one (.d true tI d0))), (4, .v (.one (.d true tI d1)))], []⟩
noncomputable def laws_heldByteS_x0_1 (d0 : Int) : AS := ⟨[(1, .v (.one (.d true tI d0)))], []⟩
theorem laws_heldByteS_l0 {R : Type} {K : Ex → AS → Option R} {s : laws_heldByteS_t0.D} (n : Nat) {v : Option R} (h : iterG laws_heldByteS_t0 laws_heldByteS_B0 K n s = v) (hv : ∃ r, v = some r) : loopG laws_heldByteS_t0 laws_heldByteS_B0 K s = v := loop_eq (ev_mono _ _) n h hv
theorem laws_heldByteS_main (x0 : List Int) (x1 : Int) : laws_heldByteS_F (x0, (x1, ())) =
 loopG laws_heldByteS_t0 laws_heldByteS_B0 (laws_heldByteS_K0 x0 x1) ((x0, (x1, ((0 : Int), ()))), ()) := by kernel_rfl
theorem laws_heldByteS_r0 {R : Type} (K : Ex → AS → Option R) (n : Nat) (t0 : List Int) (t1 : Int) (t5 : Int) : iterG laws_heldByteS_t0 laws_heldByteS_B0 K (n + 1) ((t0, (t1, (t5, ()))), ()) =
 brk (decide (t5 < (t0.length : Int)))
 (ck (decide (0 ≤ t5) && decide (t5 < t0.length)) (brk (!decide (rdD tY t0 t5 = IntKind.u8.wrap t1))
 (K .ret (laws_heldByteS_x0_0 t1 (-1 : Int)))
 (iterG laws_heldByteS_t0 laws_heldByteS_B0 K n ((t0, (IntKind.i64.wrap (t1 + (1 : Int)), (IntKind.i64.wrap (t5 + (1 : Int)), ()))), ()))))
 (K (.exit 0) (laws_heldByteS_x0_1 t1)) := by kernel_rfl
theorem laws_heldByteS_e0_0 (x0 : List Int) (x1 : Int) (d0 : Int) (d1 : Int) : laws_heldByteS_K0 x0 x1 .ret (laws_heldByteS_x0_0 d0 d1) =
 some ((d1, ()), ((), ((), ()))) := by kernel_rfl
theorem laws_heldByteS_e0_1 (x0 : List Int) (x1 : Int) (d0 : Int) : laws_heldByteS_K0 x0 x1 (.exit 0) (laws_heldByteS_x0_1 d0) =
 some ((d0, ()), ((), ((), ()))) := by kernel_rfl
/-! laws.heldSlots -/
noncomputable def laws_heldSlots_b : Code := bd Try.f38
def laws_heldSlots_T : List (Nat × Tm) := []
noncomputable def laws_heldSlots_E : Env := ⟨tt0, [(83, laws_heldByteS_C)]⟩
noncomputable def laws_heldSlots_F : PsD [.ro tSlots, .ro tI] → Option (RsD [.own tI] × PsO [.ro tSlots, .ro tI]) := fun x => evFn laws_heldSlots_E laws_heldSlots_T Try.f38 laws_heldSlots_b [.ro tSlots, .ro tI] [.own tI] x
@[reducible] noncomputable def laws_heldSlots_C : Ct := ⟨[.ro tSlots, .ro tI], [.own tI], laws_heldSlots_F⟩
theorem laws_heldSlots_h (x : PsD [.ro tSlots, .ro tI]) (y : RsD [.own tI] × PsO [.ro tSlots, .ro tI]) (h : laws_heldSlots_F x = some y) : evFn laws_heldSlots_E laws_heldSlots_T Try.f38 laws_heldSlots_b [.ro tSlots, .ro tI] [.own tI] x = some y := h
theorem laws_heldSlots_c : ∀ f c, get laws_heldSlots_E.ct f = some c → Sat Try.prog f c := ct_cons laws_heldByteS_S (ct_nil)
theorem laws_heldSlots_S : Sat Try.prog 38 laws_heldSlots_C := fn_ok2 (envOk _) laws_heldSlots_c mixedOk Try.func38 (by kernel_rfl : Try.f38.body = some laws_heldSlots_b) (by kernel_rfl) (by kernel_rfl) laws_heldSlots_h
noncomputable def laws_heldSlots_Ke  (x0 : List Int × List Int × Unit) (x1 : Int) : Ex → AS → Option (RsD [.own tI] × PsO [.ro tSlots, .ro tI]) := endK laws_heldSlots_E Try.f38 [.ro tSlots, .ro tI] [.own tI] (initL [.ro tSlots, .ro tI] (x0, (x1, ())) 0).1
theorem laws_heldSlots_main (x0 : List Int × List Int × Unit) (x1 : Int) : laws_heldSlots_F (x0, (x1, ())) =
 (laws_heldByteS_F (x0.1, (x1, ()))).bind fun y8 =>
 brk (decide (y8.1.1 < (0 : Int)))
 (some (((-1 : Int), ()), ((), ((), ()))))
 ((laws_heldByteS_F (x0.2.1, (y8.1.1, ()))).bind fun y14 =>
 brk (decide (y14.1.1 < (0 : Int)))
 (some (((-1 : Int), ()), ((), ((), ()))))
 (some ((y14.1.1, ()), ((), ((), ()))))) := by kernel_rfl
/-! laws.heldBoolS -/
noncomputable def laws_heldBoolS_b : Code := bd Try.f91
@[reducible] def laws_heldBoolS_t0 : Tm := ⟨[], [], [(0, .sc true tBs), (1, .sc true tI), (5, .sc true tI)], [], [1, 4], []⟩
def laws_heldBoolS_T : List (Nat × Tm) := [(0, laws_heldBoolS_t0)]
noncomputable def laws_heldBoolS_E : Env := ⟨tt0, []⟩
noncomputable def laws_heldBoolS_F : PsD [.ro tBs, .ro tI] → Option (RsD [.own tI] × PsO [.ro tBs, .ro tI]) := fun x => evFn laws_heldBoolS_E laws_heldBoolS_T Try.f91 laws_heldBoolS_b [.ro tBs, .ro tI] [.own tI] x
@[reducible] noncomputable def laws_heldBoolS_C : Ct := ⟨[.ro tBs, .ro tI], [.own tI], laws_heldBoolS_F⟩
theorem laws_heldBoolS_h (x : PsD [.ro tBs, .ro tI]) (y : RsD [.own tI] × PsO [.ro tBs, .ro tI]) (h : laws_heldBoolS_F x = some y) : evFn laws_heldBoolS_E laws_heldBoolS_T Try.f91 laws_heldBoolS_b [.ro tBs, .ro tI] [.own tI] x = some y := h
theorem laws_heldBoolS_c : ∀ f c, get laws_heldBoolS_E.ct f = some c → Sat Try.prog f c := ct_nil
theorem laws_heldBoolS_S : Sat Try.prog 91 laws_heldBoolS_C := fn_ok2 (envOk _) laws_heldBoolS_c mixedOk Try.func91 (by kernel_rfl : Try.f91.body = some laws_heldBoolS_b) (by kernel_rfl) (by kernel_rfl) laws_heldBoolS_h
noncomputable def laws_heldBoolS_Ke  (x0 : List Bool) (x1 : Int) : Ex → AS → Option (RsD [.own tI] × PsO [.ro tBs, .ro tI]) := endK laws_heldBoolS_E Try.f91 [.ro tBs, .ro tI] [.own tI] (initL [.ro tBs, .ro tI] (x0, (x1, ())) 0).1
noncomputable def laws_heldBoolS_B0 {R : Type} : AS → (Ex → AS → Option R) → Option R := fun A K => ev laws_heldBoolS_E laws_heldBoolS_T 0 (cA (cA (cB (cA (cB laws_heldBoolS_b))))) A K
noncomputable def laws_heldBoolS_K0  (x0 : List Bool) (x1 : Int) : Ex → AS → Option (RsD [.own tI] × PsO [.ro tBs, .ro tI]) := kBlk 0 (kSeq (fun A K => ev laws_heldBoolS_E laws_heldBoolS_T 1000 (cB (cB laws_heldBoolS_b)) A K) (laws_heldBoolS_Ke x0 x1))
noncomputable def laws_heldBoolS_x0_0 (d0 : Int) (d1 : Int) : AS := ⟨[(1, .v (.one (.d true tI d0))), (4, .v (.one (.d true tI d1)))], []⟩
noncomputable def laws_heldBoolS_x0_1 (d0 : Int) : AS := ⟨[(1, .v (.one (.d true tI d0)))], []⟩
theorem laws_heldBoolS_l0 {R : Type} {K : Ex → AS → Option R} {s : laws_heldBoolS_t0.D} (n : Nat) {v : Option R} (h : iterG laws_heldBoolS_t0 laws_heldBoolS_B0 K n s = v) (hv : ∃ r, v = some r) : loopG laws_heldBoolS_t0 laws_heldBoolS_B0 K s = v := loop_eq (ev_mono _ _) n h hv
theorem laws_heldBoolS_main (x0 : List Bool) (x1 : Int) : laws_heldBoolS_F (x0, (x1, ())) =
 loopG laws_heldBoolS_t0 laws_heldBoolS_B0 (laws_heldBoolS_K0 x0 x1) ((x0, (x1, ((0 : Int), ()))), ()) := by kernel_rfl
theorem laws_heldBoolS_r0 {R : Type} (K : Ex → AS → Option R) (n : Nat) (t0 : List Bool) (t1 : Int) (t5 : Int) : iterG laws_heldBoolS_t0 laws_heldBoolS_B0 K (n + 1) ((t0, (t1, (t5, ()))), ()) =
 brk (decide (t5 < (t0.length : Int)))
 (ck (decide (0 ≤ t5) && decide (t5 < t0.length)) (brk (!((rdD tB t0 t5) == (decide (t1.tmod (3 : Int) = (0 : Int)))))
 (K .ret (laws_heldBoolS_x0_0 t1 (-1 : Int)))
 (iterG laws_heldBoolS_t0 laws_heldBoolS_B0 K n ((t0, (IntKind.i64.wrap (t1 + (1 : Int)), (IntKind.i64.wrap (t5 + (1 : Int)), ()))), ()))))
 (K (.exit 0) (laws_heldBoolS_x0_1 t1)) := by kernel_rfl
theorem laws_heldBoolS_e0_0 (x0 : List Bool) (x1 : Int) (d0 : Int) (d1 : Int) : laws_heldBoolS_K0 x0 x1 .ret (laws_heldBoolS_x0_0 d0 d1) =
 some ((d1, ()), ((), ((), ()))) := by kernel_rfl
theorem laws_heldBoolS_e0_1 (x0 : List Bool) (x1 : Int) (d0 : Int) : laws_heldBoolS_K0 x0 x1 (.exit 0) (laws_heldBoolS_x0_1 d0) =
 some ((d0, ()), ((), ((), ()))) := by kernel_rfl
/-! laws.heldNode -/
noncomputable def laws_heldNode_b : Code := bd Try.f43
def laws_heldNode_T : List (Nat × Tm) := []
noncomputable def laws_heldNode_E : Env := ⟨tt0, [(25, laws_heldMeta_C), (38, laws_heldSlots_C), (72, laws_heldIntS_C), (73, laws_heldIntSS_C), (91, laws_heldBoolS_C)]⟩
noncomputable def laws_heldNode_F : PsD [.ro tNode, .ro tI] → Option (RsD [.own tI] × PsO [.ro tNode, .ro tI]) := fun x => evFn laws_heldNode_E laws_heldNode_T Try.f43 laws_heldNode_b [.ro tNode, .ro tI] [.own tI] x
@[reducible] noncomputable def laws_heldNode_C : Ct := ⟨[.ro tNode, .ro tI], [.own tI], laws_heldNode_F⟩
theorem laws_heldNode_h (x : PsD [.ro tNode, .ro tI]) (y : RsD [.own tI] × PsO [.ro tNode, .ro tI]) (h : laws_heldNode_F x = some y) : evFn laws_heldNode_E laws_heldNode_T Try.f43 laws_heldNode_b [.ro tNode, .ro tI] [.own tI] x = some y := h
theorem laws_heldNode_c : ∀ f c, get laws_heldNode_E.ct f = some c → Sat Try.prog f c := ct_cons laws_heldMeta_S (ct_cons laws_heldSlots_S (ct_cons laws_heldIntS_S (ct_cons laws_heldIntSS_S (ct_cons laws_heldBoolS_S (ct_nil)))))
theorem laws_heldNode_S : Sat Try.prog 43 laws_heldNode_C := fn_ok2 (envOk _) laws_heldNode_c mixedOk Try.func43 (by kernel_rfl : Try.f43.body = some laws_heldNode_b) (by kernel_rfl) (by kernel_rfl) laws_heldNode_h
noncomputable def laws_heldNode_Ke  (x0 : Int × Bool × Bool × List Int × (List Int × List (List Int) × Bool × Bool × Bool × Int × Unit) × (List Int × List Int × Unit) × List Bool × List (List Int) × List Bool × List Int × Unit) (x1 : Int) : Ex → AS → Option (RsD [.own tI] × PsO [.ro tNode, .ro tI]) := endK laws_heldNode_E Try.f43 [.ro tNode, .ro tI] [.own tI] (initL [.ro tNode, .ro tI] (x0, (x1, ())) 0).1
theorem laws_heldNode_main (x0 : Int × Bool × Bool × List Int × (List Int × List (List Int) × Bool × Bool × Bool × Int × Unit) × (List Int × List Int × Unit) × List Bool × List (List Int) × List Bool × List Int × Unit) (x1 : Int) : laws_heldNode_F (x0, (x1, ())) =
 (laws_heldIntS_F (x0.2.2.2.1, (x1, ()))).bind fun y8 =>
 brk (decide (y8.1.1 < (0 : Int)))
 (some (((-1 : Int), ()), ((), ((), ()))))
 ((laws_heldMeta_F ((x0.2.2.2.2.1.1, (x0.2.2.2.2.1.2.1, (x0.2.2.2.2.1.2.2.1, (x0.2.2.2.2.1.2.2.2.1, (x0.2.2.2.2.1.2.2.2.2.1, (x0.2.2.2.2.1.2.2.2.2.2.1, ())))))), (y8.1.1, ()))).bind fun y14 =>
 brk (decide (y14.1.1 < (0 : Int)))
 (some (((-1 : Int), ()), ((), ((), ()))))
 ((laws_heldSlots_F ((x0.2.2.2.2.2.1.1, (x0.2.2.2.2.2.1.2.1, ())), (y14.1.1, ()))).bind fun y20 =>
 brk (decide (y20.1.1 < (0 : Int)))
 (some (((-1 : Int), ()), ((), ((), ()))))
 ((laws_heldBoolS_F (x0.2.2.2.2.2.2.1, (y20.1.1, ()))).bind fun y26 =>
 brk (decide (y26.1.1 < (0 : Int)))
 (some (((-1 : Int), ()), ((), ((), ()))))
 ((laws_heldIntSS_F (x0.2.2.2.2.2.2.2.1, (y26.1.1, ()))).bind fun y32 =>
 brk (decide (y32.1.1 < (0 : Int)))
 (some (((-1 : Int), ()), ((), ((), ()))))
 ((laws_heldBoolS_F (x0.2.2.2.2.2.2.2.2.1, (y32.1.1, ()))).bind fun y38 =>
 brk (decide (y38.1.1 < (0 : Int)))
 (some (((-1 : Int), ()), ((), ((), ()))))
 ((laws_heldIntS_F (x0.2.2.2.2.2.2.2.2.2.1, (y38.1.1, ()))).bind fun y44 =>
 brk (decide (y44.1.1 < (0 : Int)))
 (some (((-1 : Int), ()), ((), ((), ()))))
 (some ((y44.1.1, ()), ((), ((), ())))))))))) := by kernel_rfl
/-! laws.FnExactNodeNew -/
noncomputable def laws_FnExactNodeNew_b : Code := bd Try.f9
def laws_FnExactNodeNew_T : List (Nat × Tm) := []
noncomputable def laws_FnExactNodeNew_E : Env := ⟨tt0, [(39, spec_NodeNew_C), (40, impl_NodeNew_C), (41, laws_eqNode_C), (42, laws_markNode_C), (43, laws_heldNode_C)]⟩
noncomputable def laws_FnExactNodeNew_F : PsD [.ro tI] → Option (RsD [.own tB] × PsO [.ro tI]) := fun x => evFn laws_FnExactNodeNew_E laws_FnExactNodeNew_T Try.f9 laws_FnExactNodeNew_b [.ro tI] [.own tB] x
@[reducible] noncomputable def laws_FnExactNodeNew_C : Ct := ⟨[.ro tI], [.own tB], laws_FnExactNodeNew_F⟩
theorem laws_FnExactNodeNew_h (x : PsD [.ro tI]) (y : RsD [.own tB] × PsO [.ro tI]) (h : laws_FnExactNodeNew_F x = some y) : evFn laws_FnExactNodeNew_E laws_FnExactNodeNew_T Try.f9 laws_FnExactNodeNew_b [.ro tI] [.own tB] x = some y := h
theorem laws_FnExactNodeNew_c : ∀ f c, get laws_FnExactNodeNew_E.ct f = some c → Sat Try.prog f c := ct_cons spec_NodeNew_S (ct_cons impl_NodeNew_S (ct_cons laws_eqNode_S (ct_cons laws_markNode_S (ct_cons laws_heldNode_S (ct_nil)))))
theorem laws_FnExactNodeNew_S : Sat Try.prog 9 laws_FnExactNodeNew_C := fn_ok2 (envOk _) laws_FnExactNodeNew_c mixedOk Try.func9 (by kernel_rfl : Try.f9.body = some laws_FnExactNodeNew_b) (by kernel_rfl) (by kernel_rfl) laws_FnExactNodeNew_h
noncomputable def laws_FnExactNodeNew_Ke  (x0 : Int) : Ex → AS → Option (RsD [.own tB] × PsO [.ro tI]) := endK laws_FnExactNodeNew_E Try.f9 [.ro tI] [.own tB] (initL [.ro tI] (x0, ()) 0).1
theorem laws_FnExactNodeNew_main (x0 : Int) : laws_FnExactNodeNew_F (x0, ()) =
 (spec_NodeNew_F (x0, ())).bind fun y9 =>
 (impl_NodeNew_F (x0, ())).bind fun y11 =>
 (laws_eqNode_F ((y11.1.1.1, (y11.1.1.2.1, (y11.1.1.2.2.1, (y11.1.1.2.2.2.1, ((y11.1.1.2.2.2.2.1.1, (y11.1.1.2.2.2.2.1.2.1, (y11.1.1.2.2.2.2.1.2.2.1, (y11.1.1.2.2.2.2.1.2.2.2.1, (y11.1.1.2.2.2.2.1.2.2.2.2.1, (y11.1.1.2.2.2.2.1.2.2.2.2.2.1, ())))))), ((y11.1.1.2.2.2.2.2.1.1, (y11.1.1.2.2.2.2.2.1.2.1, ())), (y11.1.1.2.2.2.2.2.2.1, (y11.1.1.2.2.2.2.2.2.2.1, (y11.1.1.2.2.2.2.2.2.2.2.1, (y11.1.1.2.2.2.2.2.2.2.2.2.1, ())))))))))), ((y9.1.1.1, (y9.1.1.2.1, (y9.1.1.2.2.1, (y9.1.1.2.2.2.1, ((y9.1.1.2.2.2.2.1.1, (y9.1.1.2.2.2.2.1.2.1, (y9.1.1.2.2.2.2.1.2.2.1, (y9.1.1.2.2.2.2.1.2.2.2.1, (y9.1.1.2.2.2.2.1.2.2.2.2.1, (y9.1.1.2.2.2.2.1.2.2.2.2.2.1, ())))))), ((y9.1.1.2.2.2.2.2.1.1, (y9.1.1.2.2.2.2.2.1.2.1, ())), (y9.1.1.2.2.2.2.2.2.1, (y9.1.1.2.2.2.2.2.2.2.1, (y9.1.1.2.2.2.2.2.2.2.2.1, (y9.1.1.2.2.2.2.2.2.2.2.2.1, ())))))))))), ()))).bind fun y14 =>
 brk (!y14.1.1)
 (some ((false, ()), ((), ())))
 ((laws_markNode_F ((y11.1.1.1, (y11.1.1.2.1, (y11.1.1.2.2.1, (y11.1.1.2.2.2.1, ((y11.1.1.2.2.2.2.1.1, (y11.1.1.2.2.2.2.1.2.1, (y11.1.1.2.2.2.2.1.2.2.1, (y11.1.1.2.2.2.2.1.2.2.2.1, (y11.1.1.2.2.2.2.1.2.2.2.2.1, (y11.1.1.2.2.2.2.1.2.2.2.2.2.1, ())))))), ((y11.1.1.2.2.2.2.2.1.1, (y11.1.1.2.2.2.2.2.1.2.1, ())), (y11.1.1.2.2.2.2.2.2.1, (y11.1.1.2.2.2.2.2.2.2.1, (y11.1.1.2.2.2.2.2.2.2.2.1, (y11.1.1.2.2.2.2.2.2.2.2.2.1, ())))))))))), ((1 : Int), ()))).bind fun y18 =>
 (laws_heldNode_F ((y11.1.1.1, (y11.1.1.2.1, (y11.1.1.2.2.1, (y18.2.1.2.2.2.1, ((y18.2.1.2.2.2.2.1.1, (y18.2.1.2.2.2.2.1.2.1, (y11.1.1.2.2.2.2.1.2.2.1, (y11.1.1.2.2.2.2.1.2.2.2.1, (y11.1.1.2.2.2.2.1.2.2.2.2.1, (y11.1.1.2.2.2.2.1.2.2.2.2.2.1, ())))))), ((y18.2.1.2.2.2.2.2.1.1, (y18.2.1.2.2.2.2.2.1.2.1, ())), (y18.2.1.2.2.2.2.2.2.1, (y18.2.1.2.2.2.2.2.2.2.1, (y18.2.1.2.2.2.2.2.2.2.2.1, (y18.2.1.2.2.2.2.2.2.2.2.2.1, ())))))))))), ((1 : Int), ()))).bind fun y21 =>
 brk (decide (y21.1.1 < (0 : Int)))
 (some ((false, ()), ((), ())))
 (brk (!decide (y21.1.1 = y18.1.1))
 (some ((false, ()), ((), ())))
 ((impl_NodeNew_F (x0, ())).bind fun y28 =>
 (laws_eqNode_F ((y28.1.1.1, (y28.1.1.2.1, (y28.1.1.2.2.1, (y28.1.1.2.2.2.1, ((y28.1.1.2.2.2.2.1.1, (y28.1.1.2.2.2.2.1.2.1, (y28.1.1.2.2.2.2.1.2.2.1, (y28.1.1.2.2.2.2.1.2.2.2.1, (y28.1.1.2.2.2.2.1.2.2.2.2.1, (y28.1.1.2.2.2.2.1.2.2.2.2.2.1, ())))))), ((y28.1.1.2.2.2.2.2.1.1, (y28.1.1.2.2.2.2.2.1.2.1, ())), (y28.1.1.2.2.2.2.2.2.1, (y28.1.1.2.2.2.2.2.2.2.1, (y28.1.1.2.2.2.2.2.2.2.2.1, (y28.1.1.2.2.2.2.2.2.2.2.2.1, ())))))))))), ((y9.1.1.1, (y9.1.1.2.1, (y9.1.1.2.2.1, (y9.1.1.2.2.2.1, ((y9.1.1.2.2.2.2.1.1, (y9.1.1.2.2.2.2.1.2.1, (y9.1.1.2.2.2.2.1.2.2.1, (y9.1.1.2.2.2.2.1.2.2.2.1, (y9.1.1.2.2.2.2.1.2.2.2.2.1, (y9.1.1.2.2.2.2.1.2.2.2.2.2.1, ())))))), ((y9.1.1.2.2.2.2.2.1.1, (y9.1.1.2.2.2.2.2.1.2.1, ())), (y9.1.1.2.2.2.2.2.2.1, (y9.1.1.2.2.2.2.2.2.2.1, (y9.1.1.2.2.2.2.2.2.2.2.1, (y9.1.1.2.2.2.2.2.2.2.2.2.1, ())))))))))), ()))).bind fun y31 =>
 brk (!y31.1.1)
 (some ((false, ()), ((), ())))
 ((laws_heldNode_F ((y11.1.1.1, (y11.1.1.2.1, (y11.1.1.2.2.1, (y18.2.1.2.2.2.1, ((y18.2.1.2.2.2.2.1.1, (y18.2.1.2.2.2.2.1.2.1, (y11.1.1.2.2.2.2.1.2.2.1, (y11.1.1.2.2.2.2.1.2.2.2.1, (y11.1.1.2.2.2.2.1.2.2.2.2.1, (y11.1.1.2.2.2.2.1.2.2.2.2.2.1, ())))))), ((y18.2.1.2.2.2.2.2.1.1, (y18.2.1.2.2.2.2.2.1.2.1, ())), (y18.2.1.2.2.2.2.2.2.1, (y18.2.1.2.2.2.2.2.2.2.1, (y18.2.1.2.2.2.2.2.2.2.2.1, (y18.2.1.2.2.2.2.2.2.2.2.2.1, ())))))))))), ((1 : Int), ()))).bind fun y35 =>
 brk (decide (y35.1.1 < (0 : Int)))
 (some ((false, ()), ((), ())))
 (brk (!decide (y35.1.1 = y18.1.1))
 (some ((false, ()), ((), ())))
 (some ((true, ()), ((), ())))))))) := by kernel_rfl
end Go.Refl
