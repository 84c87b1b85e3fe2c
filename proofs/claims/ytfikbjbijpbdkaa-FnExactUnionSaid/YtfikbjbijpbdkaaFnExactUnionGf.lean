/- Functions of the program, told by the evaluator: printed by a program of this claim. No condition. -/
import Derived.Test.YtfikbjbijpbdkaaFnExactUnionGt
namespace Go.Refl
open Go.RowKit Go.Proofs
set_option linter.unusedVariables false
set_option maxRecDepth 100000
/-! laws.toIntS -/
noncomputable def laws_toIntS_b : Code := bd Try.f34
@[reducible] def laws_toIntS_t0 : Tm := ⟨[], [], [(0, .sc true tIs), (3, .own 112), (4, .sc true tI)], [(112, .arr 3 tI)], [3], [112]⟩
def laws_toIntS_T : List (Nat × Tm) := [(0, laws_toIntS_t0)]
noncomputable def laws_toIntS_E : Env := ⟨tt0, []⟩
noncomputable def laws_toIntS_F : PsD [.ro tIs] → Option (RsD [.own tIs] × PsO [.ro tIs]) := fun x => evFn laws_toIntS_E laws_toIntS_T Try.f34 laws_toIntS_b [.ro tIs] [.own tIs] x
@[reducible] noncomputable def laws_toIntS_C : Ct := ⟨[.ro tIs], [.own tIs], laws_toIntS_F⟩
theorem laws_toIntS_h (x : PsD [.ro tIs]) (y : RsD [.own tIs] × PsO [.ro tIs]) (h : laws_toIntS_F x = some y) : evFn laws_toIntS_E laws_toIntS_T Try.f34 laws_toIntS_b [.ro tIs] [.own tIs] x = some y := h
theorem laws_toIntS_c : ∀ f c, get laws_toIntS_E.ct f = some c → Sat Try.prog f c := ct_nil
theorem laws_toIntS_S : Sat Try.prog 34 laws_toIntS_C := fn_ok2 (envOk _) laws_toIntS_c mixedOk Try.func34 (by kernel_rfl : Try.f34.body = some laws_toIntS_b) (by kernel_rfl) (by kernel_rfl) laws_toIntS_h
noncomputable def laws_toIntS_Ke  (x0 : List Int) : Ex → AS → Option (RsD [.own tIs] × PsO [.ro tIs]) := endK laws_toIntS_E Try.f34 [.ro tIs] [.own tIs] (initL [.ro tIs] (x0, ()) 0).1
noncomputable def laws_toIntS_B0 {R : Type} : AS → (Ex → AS → Option R) → Option R := fun A K => ev laws_toIntS_E laws_toIntS_T 0 (cA (cA (cB (cA (cB (cB laws_toIntS_b)))))) A K
noncomputable def laws_toIntS_K0  (x0 : List Int) : Ex → AS → Option (RsD [.own tIs] × PsO [.ro tIs]) := kBlk 0 (kSeq (fun A K => ev laws_toIntS_E laws_toIntS_T 1000 (cB (cB (cB laws_toIntS_b))) A K) (laws_toIntS_Ke x0))
noncomputable def laws_toIntS_x0_0 (d0 : List Int) : AS := ⟨[(3, .v (.one (.own 112)))], [(112, .arr 3 tI d0)]⟩
theorem laws_toIntS_l0 {R : Type} {K : Ex → AS → Option R} {s : laws_toIntS_t0.D} (n : Nat) {v : Option R} (h : iterG laws_toIntS_t0 laws_toIntS_B0 K n s = v) (hv : ∃ r, v = some r) : loopG laws_toIntS_t0 laws_toIntS_B0 K s = v := loop_eq (ev_mono _ _) n h hv
theorem laws_toIntS_main (x0 : List Int) : laws_toIntS_F (x0, ()) =
 ck (decide (0 ≤ (x0.length : Int)) && decide ((x0.length : Int) = (x0.length : Int)) && decide ((x0.length : Int) * (8 : Int) ≤ 140737488355328) && decide ((x0.length : Int) ≤ 140737488355328)) (loopG laws_toIntS_t0 laws_toIntS_B0 (laws_toIntS_K0 x0) ((x0, ((0 : Int), ())), (List.replicate (x0.length : Int).toNat tI.zero, ()))) := by kernel_rfl
theorem laws_toIntS_r0 {R : Type} (K : Ex → AS → Option R) (n : Nat) (t0 : List Int) (t4 : Int) (a112 : List Int) : iterG laws_toIntS_t0 laws_toIntS_B0 K (n + 1) ((t0, (t4, ())), (a112, ())) =
 brk (decide (t4 < (t0.length : Int)))
 (ck (decide (0 ≤ t4) && decide (t4 < t0.length)) (ck (decide (0 ≤ t4) && decide (t4 < a112.length)) (iterG laws_toIntS_t0 laws_toIntS_B0 K n ((t0, (IntKind.i64.wrap (t4 + (1 : Int)), ())), (a112.set t4.toNat (rdD tI t0 t4), ())))))
 (K (.exit 0) (laws_toIntS_x0_0 a112)) := by kernel_rfl
theorem laws_toIntS_e0_0 (x0 : List Int) (d0 : List Int) : laws_toIntS_K0 x0 (.exit 0) (laws_toIntS_x0_0 d0) =
 some ((d0, ()), ((), ())) := by kernel_rfl
/-! laws.eqIntS -/
noncomputable def laws_eqIntS_b : Code := bd Try.f36
@[reducible] def laws_eqIntS_t0 : Tm := ⟨[], [], [(0, .sc true tIs), (1, .sc true tIs), (5, .sc true tI)], [], [4], []⟩
def laws_eqIntS_T : List (Nat × Tm) := [(0, laws_eqIntS_t0)]
noncomputable def laws_eqIntS_E : Env := ⟨tt0, []⟩
noncomputable def laws_eqIntS_F : PsD [.ro tIs, .ro tIs] → Option (RsD [.own tB] × PsO [.ro tIs, .ro tIs]) := fun x => evFn laws_eqIntS_E laws_eqIntS_T Try.f36 laws_eqIntS_b [.ro tIs, .ro tIs] [.own tB] x
@[reducible] noncomputable def laws_eqIntS_C : Ct := ⟨[.ro tIs, .ro tIs], [.own tB], laws_eqIntS_F⟩
theorem laws_eqIntS_h (x : PsD [.ro tIs, .ro tIs]) (y : RsD [.own tB] × PsO [.ro tIs, .ro tIs]) (h : laws_eqIntS_F x = some y) : evFn laws_eqIntS_E laws_eqIntS_T Try.f36 laws_eqIntS_b [.ro tIs, .ro tIs] [.own tB] x = some y := h
theorem laws_eqIntS_c : ∀ f c, get laws_eqIntS_E.ct f = some c → Sat Try.prog f c := ct_nil
theorem laws_eqIntS_S : Sat Try.prog 36 laws_eqIntS_C := fn_ok2 (envOk _) laws_eqIntS_c mixedOk Try.func36 (by kernel_rfl : Try.f36.body = some laws_eqIntS_b) (by kernel_rfl) (by kernel_rfl) laws_eqIntS_h
noncomputable def laws_eqIntS_Ke  (x0 : List Int) (x1 : List Int) : Ex → AS → Option (RsD [.own tB] × PsO [.ro tIs, .ro tIs]) := endK laws_eqIntS_E Try.f36 [.ro tIs, .ro tIs] [.own tB] (initL [.ro tIs, .ro tIs] (x0, (x1, ())) 0).1
noncomputable def laws_eqIntS_B0 {R : Type} : AS → (Ex → AS → Option R) → Option R := fun A K => ev laws_eqIntS_E laws_eqIntS_T 0 (cA (cA (cB (cA (cB (cB laws_eqIntS_b)))))) A K
noncomputable def laws_eqIntS_K0  (x0 : List Int) (x1 : List Int) : Ex → AS → Option (RsD [.own tB] × PsO [.ro tIs, .ro tIs]) := kBlk 0 (kSeq (fun A K => ev laws_eqIntS_E laws_eqIntS_T 1000 (cB (cB (cB laws_eqIntS_b))) A K) (laws_eqIntS_Ke x0 x1))
noncomputable def laws_eqIntS_x0_0 (d0 : Bool) : AS := ⟨[(4, .v (.one (.d true tB d0)))], []⟩
noncomputable def laws_eqIntS_x0_1 : AS := ⟨[], []⟩
theorem laws_eqIntS_l0 {R : Type} {K : Ex → AS → Option R} {s : laws_eqIntS_t0.D} (n : Nat) {v : Option R} (h : iterG laws_eqIntS_t0 laws_eqIntS_B0 K n s = v) (hv : ∃ r, v = some r) : loopG laws_eqIntS_t0 laws_eqIntS_B0 K s = v := loop_eq (ev_mono _ _) n h hv
theorem laws_eqIntS_main (x0 : List Int) (x1 : List Int) : laws_eqIntS_F (x0, (x1, ())) =
 brk (!decide ((x0.length : Int) = (x1.length : Int)))
 (some ((false, ()), ((), ((), ()))))
 (loopG laws_eqIntS_t0 laws_eqIntS_B0 (laws_eqIntS_K0 x0 x1) ((x0, (x1, ((0 : Int), ()))), ())) := by kernel_rfl
theorem laws_eqIntS_r0 {R : Type} (K : Ex → AS → Option R) (n : Nat) (t0 : List Int) (t1 : List Int) (t5 : Int) : iterG laws_eqIntS_t0 laws_eqIntS_B0 K (n + 1) ((t0, (t1, (t5, ()))), ()) =
 brk (decide (t5 < (t0.length : Int)))
 (ck (decide (0 ≤ t5) && decide (t5 < t0.length)) (ck (decide (0 ≤ t5) && decide (t5 < t1.length)) (brk (!decide (rdD tI t0 t5 = rdD tI t1 t5))
 (K .ret (laws_eqIntS_x0_0 false))
 (iterG laws_eqIntS_t0 laws_eqIntS_B0 K n ((t0, (t1, (IntKind.i64.wrap (t5 + (1 : Int)), ()))), ())))))
 (K (.exit 0) (laws_eqIntS_x0_1)) := by kernel_rfl
theorem laws_eqIntS_e0_0 (x0 : List Int) (x1 : List Int) (d0 : Bool) : laws_eqIntS_K0 x0 x1 .ret (laws_eqIntS_x0_0 d0) =
 some ((d0, ()), ((), ((), ()))) := by kernel_rfl
theorem laws_eqIntS_e0_1 (x0 : List Int) (x1 : List Int) : laws_eqIntS_K0 x0 x1 (.exit 0) (laws_eqIntS_x0_1) =
 some ((true, ()), ((), ((), ()))) := by kernel_rfl
/-! laws.markIntS -/
noncomputable def laws_markIntS_b : Code := bd Try.f37
@[reducible] def laws_markIntS_t0 : Tm := ⟨[], [], [(0, .own 1000000), (1, .sc true tI), (5, .sc true tI)], [(1000000, .arr 3 tI)], [1], []⟩
def laws_markIntS_T : List (Nat × Tm) := [(0, laws_markIntS_t0)]
noncomputable def laws_markIntS_E : Env := ⟨tt0, []⟩
noncomputable def laws_markIntS_F : PsD [.inp tIs, .ro tI] → Option (RsD [.own tI] × PsO [.inp tIs, .ro tI]) := fun x => evFn laws_markIntS_E laws_markIntS_T Try.f37 laws_markIntS_b [.inp tIs, .ro tI] [.own tI] x
@[reducible] noncomputable def laws_markIntS_C : Ct := ⟨[.inp tIs, .ro tI], [.own tI], laws_markIntS_F⟩
theorem laws_markIntS_h (x : PsD [.inp tIs, .ro tI]) (y : RsD [.own tI] × PsO [.inp tIs, .ro tI]) (h : laws_markIntS_F x = some y) : evFn laws_markIntS_E laws_markIntS_T Try.f37 laws_markIntS_b [.inp tIs, .ro tI] [.own tI] x = some y := h
theorem laws_markIntS_c : ∀ f c, get laws_markIntS_E.ct f = some c → Sat Try.prog f c := ct_nil
theorem laws_markIntS_S : Sat Try.prog 37 laws_markIntS_C := fn_ok2 (envOk _) laws_markIntS_c mixedOk Try.func37 (by kernel_rfl : Try.f37.body = some laws_markIntS_b) (by kernel_rfl) (by kernel_rfl) laws_markIntS_h
noncomputable def laws_markIntS_Ke  (x0 : List Int) (x1 : Int) : Ex → AS → Option (RsD [.own tI] × PsO [.inp tIs, .ro tI]) := endK laws_markIntS_E Try.f37 [.inp tIs, .ro tI] [.own tI] (initL [.inp tIs, .ro tI] (x0, (x1, ())) 0).1
noncomputable def laws_markIntS_B0 {R : Type} : AS → (Ex → AS → Option R) → Option R := fun A K => ev laws_markIntS_E laws_markIntS_T 0 (cA (cA (cB (cA (cB laws_markIntS_b))))) A K
noncomputable def laws_markIntS_K0  (x0 : List Int) (x1 : Int) : Ex → AS → Option (RsD [.own tI] × PsO [.inp tIs, .ro tI]) := kBlk 0 (kSeq (fun A K => ev laws_markIntS_E laws_markIntS_T 1000 (cB (cB laws_markIntS_b)) A K) (laws_markIntS_Ke x0 x1))
noncomputable def laws_markIntS_x0_0 (d0 : Int) (d1 : List Int) : AS := ⟨[(1, .v (.one (.d true tI d0)))], [(1000000, .arr 3 tI d1)]⟩
theorem laws_markIntS_l0 {R : Type} {K : Ex → AS → Option R} {s : laws_markIntS_t0.D} (n : Nat) {v : Option R} (h : iterG laws_markIntS_t0 laws_markIntS_B0 K n s = v) (hv : ∃ r, v = some r) : loopG laws_markIntS_t0 laws_markIntS_B0 K s = v := loop_eq (ev_mono _ _) n h hv
theorem laws_markIntS_main (x0 : List Int) (x1 : Int) : laws_markIntS_F (x0, (x1, ())) =
 loopG laws_markIntS_t0 laws_markIntS_B0 (laws_markIntS_K0 x0 x1) ((x1, ((0 : Int), ())), (x0, ())) := by kernel_rfl
theorem laws_markIntS_r0 {R : Type} (K : Ex → AS → Option R) (n : Nat) (t1 : Int) (t5 : Int) (a1000000 : List Int) : iterG laws_markIntS_t0 laws_markIntS_B0 K (n + 1) ((t1, (t5, ())), (a1000000, ())) =
 brk (decide (t5 < (a1000000.length : Int)))
 (ck (decide (0 ≤ t5) && decide (t5 < a1000000.length)) (iterG laws_markIntS_t0 laws_markIntS_B0 K n ((IntKind.i64.wrap (t1 + (1 : Int)), (IntKind.i64.wrap (t5 + (1 : Int)), ())), (a1000000.set t5.toNat t1, ()))))
 (K (.exit 0) (laws_markIntS_x0_0 t1 a1000000)) := by kernel_rfl
theorem laws_markIntS_e0_0 (x0 : List Int) (x1 : Int) (d0 : Int) (d1 : List Int) : laws_markIntS_K0 x0 x1 (.exit 0) (laws_markIntS_x0_0 d0 d1) =
 some ((d0, ()), (d1, ((), ()))) := by kernel_rfl
/-! laws.heldIntS -/
noncomputable def laws_heldIntS_b : Code := bd Try.f38
@[reducible] def laws_heldIntS_t0 : Tm := ⟨[], [], [(0, .sc true tIs), (1, .sc true tI), (5, .sc true tI)], [], [1, 4], []⟩
def laws_heldIntS_T : List (Nat × Tm) := [(0, laws_heldIntS_t0)]
noncomputable def laws_heldIntS_E : Env := ⟨tt0, []⟩
noncomputable def laws_heldIntS_F : PsD [.ro tIs, .ro tI] → Option (RsD [.own tI] × PsO [.ro tIs, .ro tI]) := fun x => evFn laws_heldIntS_E laws_heldIntS_T Try.f38 laws_heldIntS_b [.ro tIs, .ro tI] [.own tI] x
@[reducible] noncomputable def laws_heldIntS_C : Ct := ⟨[.ro tIs, .ro tI], [.own tI], laws_heldIntS_F⟩
theorem laws_heldIntS_h (x : PsD [.ro tIs, .ro tI]) (y : RsD [.own tI] × PsO [.ro tIs, .ro tI]) (h : laws_heldIntS_F x = some y) : evFn laws_heldIntS_E laws_heldIntS_T Try.f38 laws_heldIntS_b [.ro tIs, .ro tI] [.own tI] x = some y := h
theorem laws_heldIntS_c : ∀ f c, get laws_heldIntS_E.ct f = some c → Sat Try.prog f c := ct_nil
theorem laws_heldIntS_S : Sat Try.prog 38 laws_heldIntS_C := fn_ok2 (envOk _) laws_heldIntS_c mixedOk Try.func38 (by kernel_rfl : Try.f38.body = some laws_heldIntS_b) (by kernel_rfl) (by kernel_rfl) laws_heldIntS_h
noncomputable def laws_heldIntS_Ke  (x0 : List Int) (x1 : Int) : Ex → AS → Option (RsD [.own tI] × PsO [.ro tIs, .ro tI]) := endK laws_heldIntS_E Try.f38 [.ro tIs, .ro tI] [.own tI] (initL [.ro tIs, .ro tI] (x0, (x1, ())) 0).1
noncomputable def laws_heldIntS_B0 {R : Type} : AS → (Ex → AS → Option R) → Option R := fun A K => ev laws_heldIntS_E laws_heldIntS_T 0 (cA (cA (cB (cA (cB laws_heldIntS_b))))) A K
noncomputable def laws_heldIntS_K0  (x0 : List Int) (x1 : Int) : Ex → AS → Option (RsD [.own tI] × PsO [.ro tIs, .ro tI]) := kBlk 0 (kSeq (fun A K => ev laws_heldIntS_E laws_heldIntS_T 1000 (cB (cB laws_heldIntS_b)) A K) (laws_heldIntS_Ke x0 x1))
noncomputable def laws_heldIntS_x0_0 (d0 : Int) (d1 : Int) : AS := ⟨[(1, .v (.one (.d true tI d0))), (4, .v (.one (.d true tI d1)))], []⟩
noncomputable def laws_heldIntS_x0_1 (d0 : Int) : AS := ⟨[(1, .v (.one (.d true tI d0)))], []⟩
theorem laws_heldIntS_l0 {R : Type} {K : Ex → AS → Option R} {s : laws_heldIntS_t0.D} (n : Nat) {v : Option R} (h : iterG laws_heldIntS_t0 laws_heldIntS_B0 K n s = v) (hv : ∃ r, v = some r) : loopG laws_heldIntS_t0 laws_heldIntS_B0 K s = v := loop_eq (ev_mono _ _) n h hv
theorem laws_heldIntS_main (x0 : List Int) (x1 : Int) : laws_heldIntS_F (x0, (x1, ())) =
 loopG laws_heldIntS_t0 laws_heldIntS_B0 (laws_heldIntS_K0 x0 x1) ((x0, (x1, ((0 : Int), ()))), ()) := by kernel_rfl
theorem laws_heldIntS_r0 {R : Type} (K : Ex → AS → Option R) (n : Nat) (t0 : List Int) (t1 : Int) (t5 : Int) : iterG laws_heldIntS_t0 laws_heldIntS_B0 K (n + 1) ((t0, (t1, (t5, ()))), ()) =
 brk (decide (t5 < (t0.length : Int)))
 (ck (decide (0 ≤ t5) && decide (t5 < t0.length)) (brk (!decide (rdD tI t0 t5 = t1))
 (K .ret (laws_heldIntS_x0_0 t1 (-1 : Int)))
 (iterG laws_heldIntS_t0 laws_heldIntS_B0 K n ((t0, (IntKind.i64.wrap (t1 + (1 : Int)), (IntKind.i64.wrap (t5 + (1 : Int)), ()))), ()))))
 (K (.exit 0) (laws_heldIntS_x0_1 t1)) := by kernel_rfl
theorem laws_heldIntS_e0_0 (x0 : List Int) (x1 : Int) (d0 : Int) (d1 : Int) : laws_heldIntS_K0 x0 x1 .ret (laws_heldIntS_x0_0 d0 d1) =
 some ((d1, ()), ((), ((), ()))) := by kernel_rfl
theorem laws_heldIntS_e0_1 (x0 : List Int) (x1 : Int) (d0 : Int) : laws_heldIntS_K0 x0 x1 (.exit 0) (laws_heldIntS_x0_1 d0) =
 some ((d0, ()), ((), ((), ()))) := by kernel_rfl
/-! spec.l1In -/
noncomputable def spec_l1In_b : Code := bd Try.f101
def spec_l1In_T : List (Nat × Tm) := []
noncomputable def spec_l1In_E : Env := ⟨tt0, []⟩
noncomputable def spec_l1In_F : PsD [.ro tI, .ro tI, .ro tI] → Option (RsD [.own tB] × PsO [.ro tI, .ro tI, .ro tI]) := fun x => evFn spec_l1In_E spec_l1In_T Try.f101 spec_l1In_b [.ro tI, .ro tI, .ro tI] [.own tB] x
@[reducible] noncomputable def spec_l1In_C : Ct := ⟨[.ro tI, .ro tI, .ro tI], [.own tB], spec_l1In_F⟩
theorem spec_l1In_h (x : PsD [.ro tI, .ro tI, .ro tI]) (y : RsD [.own tB] × PsO [.ro tI, .ro tI, .ro tI]) (h : spec_l1In_F x = some y) : evFn spec_l1In_E spec_l1In_T Try.f101 spec_l1In_b [.ro tI, .ro tI, .ro tI] [.own tB] x = some y := h
theorem spec_l1In_c : ∀ f c, get spec_l1In_E.ct f = some c → Sat Try.prog f c := ct_nil
theorem spec_l1In_S : Sat Try.prog 101 spec_l1In_C := fn_ok2 (envOk _) spec_l1In_c mixedOk Try.func101 (by kernel_rfl : Try.f101.body = some spec_l1In_b) (by kernel_rfl) (by kernel_rfl) spec_l1In_h
noncomputable def spec_l1In_Ke  (x0 : Int) (x1 : Int) (x2 : Int) : Ex → AS → Option (RsD [.own tB] × PsO [.ro tI, .ro tI, .ro tI]) := endK spec_l1In_E Try.f101 [.ro tI, .ro tI, .ro tI] [.own tB] (initL [.ro tI, .ro tI, .ro tI] (x0, (x1, (x2, ()))) 0).1
theorem spec_l1In_main (x0 : Int) (x1 : Int) (x2 : Int) : spec_l1In_F (x0, (x1, (x2, ()))) =
 brk (decide (x1 ≤ x0))
 (some ((decide (x0 ≤ x2), ()), ((), ((), ((), ())))))
 (some ((false, ()), ((), ((), ((), ()))))) := by kernel_rfl
/-! spec.l2Has -/
noncomputable def spec_l2Has_b : Code := bd Try.f107
@[reducible] def spec_l2Has_t0 : Tm := ⟨[], [], [(0, .sc true tIs), (1, .sc true tI), (5, .sc true tI)], [], [4], []⟩
def spec_l2Has_T : List (Nat × Tm) := [(0, spec_l2Has_t0)]
noncomputable def spec_l2Has_E : Env := ⟨tt0, []⟩
noncomputable def spec_l2Has_F : PsD [.ro tIs, .ro tI] → Option (RsD [.own tB] × PsO [.ro tIs, .ro tI]) := fun x => evFn spec_l2Has_E spec_l2Has_T Try.f107 spec_l2Has_b [.ro tIs, .ro tI] [.own tB] x
@[reducible] noncomputable def spec_l2Has_C : Ct := ⟨[.ro tIs, .ro tI], [.own tB], spec_l2Has_F⟩
theorem spec_l2Has_h (x : PsD [.ro tIs, .ro tI]) (y : RsD [.own tB] × PsO [.ro tIs, .ro tI]) (h : spec_l2Has_F x = some y) : evFn spec_l2Has_E spec_l2Has_T Try.f107 spec_l2Has_b [.ro tIs, .ro tI] [.own tB] x = some y := h
theorem spec_l2Has_c : ∀ f c, get spec_l2Has_E.ct f = some c → Sat Try.prog f c := ct_nil
theorem spec_l2Has_S : Sat Try.prog 107 spec_l2Has_C := fn_ok2 (envOk _) spec_l2Has_c mixedOk Try.func107 (by kernel_rfl : Try.f107.body = some spec_l2Has_b) (by kernel_rfl) (by kernel_rfl) spec_l2Has_h
noncomputable def spec_l2Has_Ke  (x0 : List Int) (x1 : Int) : Ex → AS → Option (RsD [.own tB] × PsO [.ro tIs, .ro tI]) := endK spec_l2Has_E Try.f107 [.ro tIs, .ro tI] [.own tB] (initL [.ro tIs, .ro tI] (x0, (x1, ())) 0).1
noncomputable def spec_l2Has_B0 {R : Type} : AS → (Ex → AS → Option R) → Option R := fun A K => ev spec_l2Has_E spec_l2Has_T 0 (cA (cA (cB (cA (cB spec_l2Has_b))))) A K
noncomputable def spec_l2Has_K0  (x0 : List Int) (x1 : Int) : Ex → AS → Option (RsD [.own tB] × PsO [.ro tIs, .ro tI]) := kBlk 0 (kSeq (fun A K => ev spec_l2Has_E spec_l2Has_T 1000 (cB (cB spec_l2Has_b)) A K) (spec_l2Has_Ke x0 x1))
noncomputable def spec_l2Has_x0_0 (d0 : Bool) : AS := ⟨[(4, .v (.one (.d true tB d0)))], []⟩
noncomputable def spec_l2Has_x0_1 : AS := ⟨[], []⟩
theorem spec_l2Has_l0 {R : Type} {K : Ex → AS → Option R} {s : spec_l2Has_t0.D} (n : Nat) {v : Option R} (h : iterG spec_l2Has_t0 spec_l2Has_B0 K n s = v) (hv : ∃ r, v = some r) : loopG spec_l2Has_t0 spec_l2Has_B0 K s = v := loop_eq (ev_mono _ _) n h hv
theorem spec_l2Has_main (x0 : List Int) (x1 : Int) : spec_l2Has_F (x0, (x1, ())) =
 loopG spec_l2Has_t0 spec_l2Has_B0 (spec_l2Has_K0 x0 x1) ((x0, (x1, ((0 : Int), ()))), ()) := by kernel_rfl
theorem spec_l2Has_r0 {R : Type} (K : Ex → AS → Option R) (n : Nat) (t0 : List Int) (t1 : Int) (t5 : Int) : iterG spec_l2Has_t0 spec_l2Has_B0 K (n + 1) ((t0, (t1, (t5, ()))), ()) =
 brk (decide (t5 < (t0.length : Int)))
 (ck (decide (0 ≤ t5) && decide (t5 < t0.length)) (brk (decide (rdD tI t0 t5 = t1))
 (K .ret (spec_l2Has_x0_0 true))
 (iterG spec_l2Has_t0 spec_l2Has_B0 K n ((t0, (t1, (IntKind.i64.wrap (t5 + (1 : Int)), ()))), ()))))
 (K (.exit 0) (spec_l2Has_x0_1)) := by kernel_rfl
theorem spec_l2Has_e0_0 (x0 : List Int) (x1 : Int) (d0 : Bool) : spec_l2Has_K0 x0 x1 .ret (spec_l2Has_x0_0 d0) =
 some ((d0, ()), ((), ((), ()))) := by kernel_rfl
theorem spec_l2Has_e0_1 (x0 : List Int) (x1 : Int) : spec_l2Has_K0 x0 x1 (.exit 0) (spec_l2Has_x0_1) =
 some ((false, ()), ((), ((), ()))) := by kernel_rfl
/-! spec.Mark -/
noncomputable def spec_Mark_b : Code := bd Try.f33
@[reducible] def spec_Mark_t0 : Tm := ⟨[], [], [(0, .sc true tIs), (1, .sc true tI), (5, .sc true tI)], [], [0, 1, 5], []⟩
def spec_Mark_T : List (Nat × Tm) := [(0, spec_Mark_t0)]
noncomputable def spec_Mark_E : Env := ⟨tt0, [(101, spec_l1In_C), (107, spec_l2Has_C)]⟩
noncomputable def spec_Mark_F : PsD [.ro tIs, .ro tI] → Option (RsD [.own tIs] × PsO [.ro tIs, .ro tI]) := fun x => evFn spec_Mark_E spec_Mark_T Try.f33 spec_Mark_b [.ro tIs, .ro tI] [.own tIs] x
@[reducible] noncomputable def spec_Mark_C : Ct := ⟨[.ro tIs, .ro tI], [.own tIs], spec_Mark_F⟩
theorem spec_Mark_h (x : PsD [.ro tIs, .ro tI]) (y : RsD [.own tIs] × PsO [.ro tIs, .ro tI]) (h : spec_Mark_F x = some y) : evFn spec_Mark_E spec_Mark_T Try.f33 spec_Mark_b [.ro tIs, .ro tI] [.own tIs] x = some y := h
theorem spec_Mark_c : ∀ f c, get spec_Mark_E.ct f = some c → Sat Try.prog f c := ct_cons spec_l1In_S (ct_cons spec_l2Has_S (ct_nil))
theorem spec_Mark_S : Sat Try.prog 33 spec_Mark_C := fn_ok2 (envOk _) spec_Mark_c mixedOk Try.func33 (by kernel_rfl : Try.f33.body = some spec_Mark_b) (by kernel_rfl) (by kernel_rfl) spec_Mark_h
noncomputable def spec_Mark_Ke  (x0 : List Int) (x1 : Int) : Ex → AS → Option (RsD [.own tIs] × PsO [.ro tIs, .ro tI]) := endK spec_Mark_E Try.f33 [.ro tIs, .ro tI] [.own tIs] (initL [.ro tIs, .ro tI] (x0, (x1, ())) 0).1
noncomputable def spec_Mark_B0 {R : Type} : AS → (Ex → AS → Option R) → Option R := fun A K => ev spec_Mark_E spec_Mark_T 0 (cA (cA (cA (cB (cB (cB spec_Mark_b)))))) A K
noncomputable def spec_Mark_K0  (x0 : List Int) (x1 : Int) : Ex → AS → Option (RsD [.own tIs] × PsO [.ro tIs, .ro tI]) := kBlk 0 (kSeq (fun A K => ev spec_Mark_E spec_Mark_T 1000 (cB (cB (cB (cB spec_Mark_b)))) A K) (spec_Mark_Ke x0 x1))
noncomputable def spec_Mark_x0_0 (d0 : List Int) (d1 : Int) (d2 : Int) : AS := ⟨[(0, .v (.one (.d true tIs d0))), (1, .v (.one (.d true tI d1))), (5, .v (.one (.d true tI d2)))], []⟩
theorem spec_Mark_l0 {R : Type} {K : Ex → AS → Option R} {s : spec_Mark_t0.D} (n : Nat) {v : Option R} (h : iterG spec_Mark_t0 spec_Mark_B0 K n s = v) (hv : ∃ r, v = some r) : loopG spec_Mark_t0 spec_Mark_B0 K s = v := loop_eq (ev_mono _ _) n h hv
theorem spec_Mark_main (x0 : List Int) (x1 : Int) : spec_Mark_F (x0, (x1, ())) =
 (spec_l2Has_F (x0, (x1, ()))).bind fun y9 =>
 brk y9.1.1
 (ck (decide ((([] : List Int).length + x0.length) * 8 ≤ big47)) (some ((([] : List Int) ++ x0, ()), ((), ((), ())))))
 ((spec_l1In_F (x1, ((0 : Int), ((7 : Int), ())))).bind fun y12 =>
 brk (!y12.1.1)
 (ck (decide ((([] : List Int).length + x0.length) * 8 ≤ big47)) (some ((([] : List Int) ++ x0, ()), ((), ((), ())))))
 (loopG spec_Mark_t0 spec_Mark_B0 (spec_Mark_K0 x0 x1) ((x0, (x1, ((0 : Int), ()))), ()))) := by kernel_rfl
theorem spec_Mark_r0 {R : Type} (K : Ex → AS → Option R) (n : Nat) (t0 : List Int) (t1 : Int) (t5 : Int) : iterG spec_Mark_t0 spec_Mark_B0 K (n + 1) ((t0, (t1, (t5, ()))), ()) =
 brk (decide (t5 < (t0.length : Int)))
 (ck (decide (0 ≤ t5) && decide (t5 < t0.length)) (brk (decide (rdD tI t0 t5 < t1))
 (iterG spec_Mark_t0 spec_Mark_B0 K n ((t0, (t1, (IntKind.i64.wrap (t5 + (1 : Int)), ()))), ()))
 (K (.exit 0) (spec_Mark_x0_0 t0 t1 t5))))
 (K (.exit 0) (spec_Mark_x0_0 t0 t1 t5)) := by kernel_rfl
theorem spec_Mark_e0_0 (x0 : List Int) (x1 : Int) (d0 : List Int) (d1 : Int) (d2 : Int) : spec_Mark_K0 x0 x1 (.exit 0) (spec_Mark_x0_0 d0 d1 d2) =
 ck (decide (0 ≤ (0 : Int)) && decide ((0 : Int) ≤ d2) && decide (d2 ≤ d0.length)) (ck (decide ((([] : List Int).length + ((d0.take d2.toNat).drop (0 : Int).toNat).length) * 8 ≤ big47)) (ck (decide (((([] : List Int) ++ ((d0.take d2.toNat).drop (0 : Int).toNat)).length + [d1].length) * 8 ≤ big47)) (ck (decide (0 ≤ d2) && decide (d2 ≤ (d0.length : Int)) && decide ((d0.length : Int) ≤ d0.length)) (ck (decide ((((([] : List Int) ++ ((d0.take d2.toNat).drop (0 : Int).toNat)) ++ [d1]).length + ((d0.take (d0.length : Int).toNat).drop d2.toNat).length) * 8 ≤ big47)) (some ((((([] : List Int) ++ ((d0.take d2.toNat).drop (0 : Int).toNat)) ++ [d1]) ++ ((d0.take (d0.length : Int).toNat).drop d2.toNat), ()), ((), ((), ())))))))) := by kernel_rfl
/-! spec.Union -/
noncomputable def spec_Union_b : Code := bd Try.f57
@[reducible] def spec_Union_t0 : Tm := ⟨[(5, 960000)], [], [(0, .sc true tIs), (1, .sc true tIs), (5, .own 960000), (6, .sc true tI)], [(960000, .arr 3 tI)], [1, 5], [960000]⟩
@[reducible] def spec_Union_t2 : Tm := ⟨[(5, 960600)], [], [(1, .sc true tIs), (5, .own 960600), (7, .sc true tI)], [(960600, .arr 3 tI)], [5], [960600]⟩
def spec_Union_T : List (Nat × Tm) := [(0, spec_Union_t0), (2, spec_Union_t2)]
noncomputable def spec_Union_E : Env := ⟨tt0, [(33, spec_Mark_C)]⟩
noncomputable def spec_Union_F : PsD [.ro tIs, .ro tIs] → Option (RsD [.own tIs] × PsO [.ro tIs, .ro tIs]) := fun x => evFn spec_Union_E spec_Union_T Try.f57 spec_Union_b [.ro tIs, .ro tIs] [.own tIs] x
@[reducible] noncomputable def spec_Union_C : Ct := ⟨[.ro tIs, .ro tIs], [.own tIs], spec_Union_F⟩
theorem spec_Union_h (x : PsD [.ro tIs, .ro tIs]) (y : RsD [.own tIs] × PsO [.ro tIs, .ro tIs]) (h : spec_Union_F x = some y) : evFn spec_Union_E spec_Union_T Try.f57 spec_Union_b [.ro tIs, .ro tIs] [.own tIs] x = some y := h
theorem spec_Union_c : ∀ f c, get spec_Union_E.ct f = some c → Sat Try.prog f c := ct_cons spec_Mark_S (ct_nil)
theorem spec_Union_S : Sat Try.prog 57 spec_Union_C := fn_ok2 (envOk _) spec_Union_c mixedOk Try.func57 (by kernel_rfl : Try.f57.body = some spec_Union_b) (by kernel_rfl) (by kernel_rfl) spec_Union_h
noncomputable def spec_Union_Ke  (x0 : List Int) (x1 : List Int) : Ex → AS → Option (RsD [.own tIs] × PsO [.ro tIs, .ro tIs]) := endK spec_Union_E Try.f57 [.ro tIs, .ro tIs] [.own tIs] (initL [.ro tIs, .ro tIs] (x0, (x1, ())) 0).1
noncomputable def spec_Union_B0 {R : Type} : AS → (Ex → AS → Option R) → Option R := fun A K => ev spec_Union_E spec_Union_T 0 (cA (cA (cB (cA (cB (cB spec_Union_b)))))) A K
noncomputable def spec_Union_B2 {R : Type} : AS → (Ex → AS → Option R) → Option R := fun A K => ev spec_Union_E spec_Union_T 2 (cA (cA (cB (cA (cB (cB (cB spec_Union_b))))))) A K
noncomputable def spec_Union_K0  (x0 : List Int) (x1 : List Int) : Ex → AS → Option (RsD [.own tIs] × PsO [.ro tIs, .ro tIs]) := kBlk 0 (kSeq (fun A K => ev spec_Union_E spec_Union_T 1000 (cB (cB (cB spec_Union_b))) A K) (spec_Union_Ke x0 x1))
noncomputable def spec_Union_K2  (x0 : List Int) (x1 : List Int) : Ex → AS → Option (RsD [.own tIs] × PsO [.ro tIs, .ro tIs]) := kBlk 2 (kSeq (fun A K => ev spec_Union_E spec_Union_T 1000 (cB (cB (cB (cB spec_Union_b)))) A K) (spec_Union_Ke x0 x1))
noncomputable def spec_Union_x0_0 (d0 : List Int) (d1 : List Int) : AS := ⟨[(1, .v (.one (.d true tIs d0))), (5, .v (.one (.own 960000)))], [(960000, .arr 3 tI d1)]⟩
noncomputable def spec_Union_x2_0 (d0 : List Int) : AS := ⟨[(5, .v (.one (.own 960600)))], [(960600, .arr 3 tI d0)]⟩
theorem spec_Union_l0 {R : Type} {K : Ex → AS → Option R} {s : spec_Union_t0.D} (n : Nat) {v : Option R} (h : iterG spec_Union_t0 spec_Union_B0 K n s = v) (hv : ∃ r, v = some r) : loopG spec_Union_t0 spec_Union_B0 K s = v := loop_eq (ev_mono _ _) n h hv
theorem spec_Union_l2 {R : Type} {K : Ex → AS → Option R} {s : spec_Union_t2.D} (n : Nat) {v : Option R} (h : iterG spec_Union_t2 spec_Union_B2 K n s = v) (hv : ∃ r, v = some r) : loopG spec_Union_t2 spec_Union_B2 K s = v := loop_eq (ev_mono _ _) n h hv
theorem spec_Union_main (x0 : List Int) (x1 : List Int) : spec_Union_F (x0, (x1, ())) =
 loopG spec_Union_t0 spec_Union_B0 (spec_Union_K0 x0 x1) ((x0, (x1, ((0 : Int), ()))), (([] : List Int), ())) := by kernel_rfl
theorem spec_Union_r0 {R : Type} (K : Ex → AS → Option R) (n : Nat) (t0 : List Int) (t1 : List Int) (t6 : Int) (a960000 : List Int) : iterG spec_Union_t0 spec_Union_B0 K (n + 1) ((t0, (t1, (t6, ()))), (a960000, ())) =
 brk (decide (t6 < (t0.length : Int)))
 (ck (decide (0 ≤ t6) && decide (t6 < t0.length)) ((spec_Mark_F (a960000, (rdD tI t0 t6, ()))).bind fun y20 =>
 iterG spec_Union_t0 spec_Union_B0 K n ((t0, (t1, (IntKind.i64.wrap (t6 + (1 : Int)), ()))), (y20.1.1, ()))))
 (K (.exit 0) (spec_Union_x0_0 t1 a960000)) := by kernel_rfl
theorem spec_Union_e0_0 (x0 : List Int) (x1 : List Int) (d0 : List Int) (d1 : List Int) : spec_Union_K0 x0 x1 (.exit 0) (spec_Union_x0_0 d0 d1) =
 loopG spec_Union_t2 spec_Union_B2 (spec_Union_K2 x0 x1) ((d0, ((0 : Int), ())), (d1, ())) := by kernel_rfl
theorem spec_Union_r2 {R : Type} (K : Ex → AS → Option R) (n : Nat) (t1 : List Int) (t7 : Int) (a960600 : List Int) : iterG spec_Union_t2 spec_Union_B2 K (n + 1) ((t1, (t7, ())), (a960600, ())) =
 brk (decide (t7 < (t1.length : Int)))
 (ck (decide (0 ≤ t7) && decide (t7 < t1.length)) ((spec_Mark_F (a960600, (rdD tI t1 t7, ()))).bind fun y32 =>
 iterG spec_Union_t2 spec_Union_B2 K n ((t1, (IntKind.i64.wrap (t7 + (1 : Int)), ())), (y32.1.1, ()))))
 (K (.exit 2) (spec_Union_x2_0 a960600)) := by kernel_rfl
theorem spec_Union_e2_0 (x0 : List Int) (x1 : List Int) (d0 : List Int) : spec_Union_K2 x0 x1 (.exit 2) (spec_Union_x2_0 d0) =
 some ((d0, ()), ((), ((), ()))) := by kernel_rfl
/-! impl.from -/
noncomputable def impl_from_b : Code := bd Try.f114
def impl_from_T : List (Nat × Tm) := []
noncomputable def impl_from_E : Env := ⟨tt0, []⟩
noncomputable def impl_from_F : PsD [.ro tI, .ro tI, .ro tI] → Option (RsD [.own tB] × PsO [.ro tI, .ro tI, .ro tI]) := fun x => evFn impl_from_E impl_from_T Try.f114 impl_from_b [.ro tI, .ro tI, .ro tI] [.own tB] x
@[reducible] noncomputable def impl_from_C : Ct := ⟨[.ro tI, .ro tI, .ro tI], [.own tB], impl_from_F⟩
theorem impl_from_h (x : PsD [.ro tI, .ro tI, .ro tI]) (y : RsD [.own tB] × PsO [.ro tI, .ro tI, .ro tI]) (h : impl_from_F x = some y) : evFn impl_from_E impl_from_T Try.f114 impl_from_b [.ro tI, .ro tI, .ro tI] [.own tB] x = some y := h
theorem impl_from_c : ∀ f c, get impl_from_E.ct f = some c → Sat Try.prog f c := ct_nil
theorem impl_from_S : Sat Try.prog 114 impl_from_C := fn_ok2 (envOk _) impl_from_c mixedOk Try.func114 (by kernel_rfl : Try.f114.body = some impl_from_b) (by kernel_rfl) (by kernel_rfl) impl_from_h
noncomputable def impl_from_Ke  (x0 : Int) (x1 : Int) (x2 : Int) : Ex → AS → Option (RsD [.own tB] × PsO [.ro tI, .ro tI, .ro tI]) := endK impl_from_E Try.f114 [.ro tI, .ro tI, .ro tI] [.own tB] (initL [.ro tI, .ro tI, .ro tI] (x0, (x1, (x2, ()))) 0).1
theorem impl_from_main (x0 : Int) (x1 : Int) (x2 : Int) : impl_from_F (x0, (x1, (x2, ()))) =
 brk (decide (x1 ≤ x0))
 (some ((decide (x0 ≤ x2), ()), ((), ((), ((), ())))))
 (some ((false, ()), ((), ((), ((), ()))))) := by kernel_rfl
/-! impl.isCell -/
noncomputable def impl_isCell_b : Code := bd Try.f108
def impl_isCell_T : List (Nat × Tm) := []
noncomputable def impl_isCell_E : Env := ⟨tt0, [(114, impl_from_C)]⟩
noncomputable def impl_isCell_F : PsD [.ro tI] → Option (RsD [.own tB] × PsO [.ro tI]) := fun x => evFn impl_isCell_E impl_isCell_T Try.f108 impl_isCell_b [.ro tI] [.own tB] x
@[reducible] noncomputable def impl_isCell_C : Ct := ⟨[.ro tI], [.own tB], impl_isCell_F⟩
theorem impl_isCell_h (x : PsD [.ro tI]) (y : RsD [.own tB] × PsO [.ro tI]) (h : impl_isCell_F x = some y) : evFn impl_isCell_E impl_isCell_T Try.f108 impl_isCell_b [.ro tI] [.own tB] x = some y := h
theorem impl_isCell_c : ∀ f c, get impl_isCell_E.ct f = some c → Sat Try.prog f c := ct_cons impl_from_S (ct_nil)
theorem impl_isCell_S : Sat Try.prog 108 impl_isCell_C := fn_ok2 (envOk _) impl_isCell_c mixedOk Try.func108 (by kernel_rfl : Try.f108.body = some impl_isCell_b) (by kernel_rfl) (by kernel_rfl) impl_isCell_h
noncomputable def impl_isCell_Ke  (x0 : Int) : Ex → AS → Option (RsD [.own tB] × PsO [.ro tI]) := endK impl_isCell_E Try.f108 [.ro tI] [.own tB] (initL [.ro tI] (x0, ()) 0).1
theorem impl_isCell_main (x0 : Int) : impl_isCell_F (x0, ()) =
 (impl_from_F (x0, ((0 : Int), ((7 : Int), ())))).bind fun y4 =>
 some ((y4.1.1, ()), ((), ())) := by kernel_rfl
/-! slices.Clone[[]int,int] -/
noncomputable def slices_Clone_int_b : Code := bd Try.f109
def slices_Clone_int_T : List (Nat × Tm) := []
noncomputable def slices_Clone_int_E : Env := ⟨tt0, []⟩
noncomputable def slices_Clone_int_F : PsD [.ro tIs] → Option (RsD [.own tIs] × PsO [.ro tIs]) := fun x => evFn slices_Clone_int_E slices_Clone_int_T Try.f109 slices_Clone_int_b [.ro tIs] [.own tIs] x
@[reducible] noncomputable def slices_Clone_int_C : Ct := ⟨[.ro tIs], [.own tIs], slices_Clone_int_F⟩
theorem slices_Clone_int_h (x : PsD [.ro tIs]) (y : RsD [.own tIs] × PsO [.ro tIs]) (h : slices_Clone_int_F x = some y) : evFn slices_Clone_int_E slices_Clone_int_T Try.f109 slices_Clone_int_b [.ro tIs] [.own tIs] x = some y := h
theorem slices_Clone_int_c : ∀ f c, get slices_Clone_int_E.ct f = some c → Sat Try.prog f c := ct_nil
theorem slices_Clone_int_S : Sat Try.prog 109 slices_Clone_int_C := fn_ok2 (envOk _) slices_Clone_int_c mixedOk Try.func109 (by kernel_rfl : Try.f109.body = some slices_Clone_int_b) (by kernel_rfl) (by kernel_rfl) slices_Clone_int_h
noncomputable def slices_Clone_int_Ke  (x0 : List Int) : Ex → AS → Option (RsD [.own tIs] × PsO [.ro tIs]) := endK slices_Clone_int_E Try.f109 [.ro tIs] [.own tIs] (initL [.ro tIs] (x0, ()) 0).1
theorem slices_Clone_int_main (x0 : List Int) : slices_Clone_int_F (x0, ()) =
 brk (decide (x0.length = 0))
 (both (some ((([] : List Int), ()), ((), ())))
 (ck (decide ((([] : List Int).length + x0.length) * 8 ≤ big47)) (some ((([] : List Int) ++ x0, ()), ((), ())))))
 (ck (decide ((([] : List Int).length + x0.length) * 8 ≤ big47)) (some ((([] : List Int) ++ x0, ()), ((), ())))) := by kernel_rfl
/-! slices.Index[[]int,int] -/
noncomputable def slices_Index_int_b : Code := bd Try.f155
@[reducible] def slices_Index_int_t0 : Tm := ⟨[], [], [(0, .sc true tIs), (1, .sc true tI), (7, .sc true tI), (8, .sc true tI)], [], [4], []⟩
def slices_Index_int_T : List (Nat × Tm) := [(0, slices_Index_int_t0)]
noncomputable def slices_Index_int_E : Env := ⟨tt0, []⟩
noncomputable def slices_Index_int_F : PsD [.ro tIs, .ro tI] → Option (RsD [.own tI] × PsO [.ro tIs, .ro tI]) := fun x => evFn slices_Index_int_E slices_Index_int_T Try.f155 slices_Index_int_b [.ro tIs, .ro tI] [.own tI] x
@[reducible] noncomputable def slices_Index_int_C : Ct := ⟨[.ro tIs, .ro tI], [.own tI], slices_Index_int_F⟩
theorem slices_Index_int_h (x : PsD [.ro tIs, .ro tI]) (y : RsD [.own tI] × PsO [.ro tIs, .ro tI]) (h : slices_Index_int_F x = some y) : evFn slices_Index_int_E slices_Index_int_T Try.f155 slices_Index_int_b [.ro tIs, .ro tI] [.own tI] x = some y := h
theorem slices_Index_int_c : ∀ f c, get slices_Index_int_E.ct f = some c → Sat Try.prog f c := ct_nil
theorem slices_Index_int_S : Sat Try.prog 155 slices_Index_int_C := fn_ok2 (envOk _) slices_Index_int_c mixedOk Try.func155 (by kernel_rfl : Try.f155.body = some slices_Index_int_b) (by kernel_rfl) (by kernel_rfl) slices_Index_int_h
noncomputable def slices_Index_int_Ke  (x0 : List Int) (x1 : Int) : Ex → AS → Option (RsD [.own tI] × PsO [.ro tIs, .ro tI]) := endK slices_Index_int_E Try.f155 [.ro tIs, .ro tI] [.own tI] (initL [.ro tIs, .ro tI] (x0, (x1, ())) 0).1
noncomputable def slices_Index_int_B0 {R : Type} : AS → (Ex → AS → Option R) → Option R := fun A K => ev slices_Index_int_E slices_Index_int_T 0 (cA (cA (cB (cA (cB slices_Index_int_b))))) A K
noncomputable def slices_Index_int_K0  (x0 : List Int) (x1 : Int) : Ex → AS → Option (RsD [.own tI] × PsO [.ro tIs, .ro tI]) := kBlk 0 (kSeq (fun A K => ev slices_Index_int_E slices_Index_int_T 1000 (cB (cB slices_Index_int_b)) A K) (slices_Index_int_Ke x0 x1))
noncomputable def slices_Index_int_x0_0 (d0 : Int) : AS := ⟨[(4, .v (.one (.d true tI d0)))], []⟩
noncomputable def slices_Index_int_x0_1 : AS := ⟨[], []⟩
theorem slices_Index_int_l0 {R : Type} {K : Ex → AS → Option R} {s : slices_Index_int_t0.D} (n : Nat) {v : Option R} (h : iterG slices_Index_int_t0 slices_Index_int_B0 K n s = v) (hv : ∃ r, v = some r) : loopG slices_Index_int_t0 slices_Index_int_B0 K s = v := loop_eq (ev_mono _ _) n h hv
theorem slices_Index_int_main (x0 : List Int) (x1 : Int) : slices_Index_int_F (x0, (x1, ())) =
 loopG slices_Index_int_t0 slices_Index_int_B0 (slices_Index_int_K0 x0 x1) ((x0, (x1, ((x0.length : Int), ((0 : Int), ())))), ()) := by kernel_rfl
theorem slices_Index_int_r0 {R : Type} (K : Ex → AS → Option R) (n : Nat) (t0 : List Int) (t1 : Int) (t7 : Int) (t8 : Int) : iterG slices_Index_int_t0 slices_Index_int_B0 K (n + 1) ((t0, (t1, (t7, (t8, ())))), ()) =
 brk (decide (t8 < t7))
 (ck (decide (0 ≤ t8) && decide (t8 < t0.length)) (brk (decide (t1 = rdD tI t0 t8))
 (K .ret (slices_Index_int_x0_0 t8))
 (iterG slices_Index_int_t0 slices_Index_int_B0 K n ((t0, (t1, (t7, (IntKind.i64.wrap (t8 + (1 : Int)), ())))), ()))))
 (K (.exit 0) (slices_Index_int_x0_1)) := by kernel_rfl
theorem slices_Index_int_e0_0 (x0 : List Int) (x1 : Int) (d0 : Int) : slices_Index_int_K0 x0 x1 .ret (slices_Index_int_x0_0 d0) =
 some ((d0, ()), ((), ((), ()))) := by kernel_rfl
theorem slices_Index_int_e0_1 (x0 : List Int) (x1 : Int) : slices_Index_int_K0 x0 x1 (.exit 0) (slices_Index_int_x0_1) =
 some (((-1 : Int), ()), ((), ((), ()))) := by kernel_rfl
/-! slices.Contains[[]int,int] -/
noncomputable def slices_Contains_int_b : Code := bd Try.f145
def slices_Contains_int_T : List (Nat × Tm) := []
noncomputable def slices_Contains_int_E : Env := ⟨tt0, [(155, slices_Index_int_C)]⟩
noncomputable def slices_Contains_int_F : PsD [.ro tIs, .ro tI] → Option (RsD [.own tB] × PsO [.ro tIs, .ro tI]) := fun x => evFn slices_Contains_int_E slices_Contains_int_T Try.f145 slices_Contains_int_b [.ro tIs, .ro tI] [.own tB] x
@[reducible] noncomputable def slices_Contains_int_C : Ct := ⟨[.ro tIs, .ro tI], [.own tB], slices_Contains_int_F⟩
theorem slices_Contains_int_h (x : PsD [.ro tIs, .ro tI]) (y : RsD [.own tB] × PsO [.ro tIs, .ro tI]) (h : slices_Contains_int_F x = some y) : evFn slices_Contains_int_E slices_Contains_int_T Try.f145 slices_Contains_int_b [.ro tIs, .ro tI] [.own tB] x = some y := h
theorem slices_Contains_int_c : ∀ f c, get slices_Contains_int_E.ct f = some c → Sat Try.prog f c := ct_cons slices_Index_int_S (ct_nil)
theorem slices_Contains_int_S : Sat Try.prog 145 slices_Contains_int_C := fn_ok2 (envOk _) slices_Contains_int_c mixedOk Try.func145 (by kernel_rfl : Try.f145.body = some slices_Contains_int_b) (by kernel_rfl) (by kernel_rfl) slices_Contains_int_h
noncomputable def slices_Contains_int_Ke  (x0 : List Int) (x1 : Int) : Ex → AS → Option (RsD [.own tB] × PsO [.ro tIs, .ro tI]) := endK slices_Contains_int_E Try.f145 [.ro tIs, .ro tI] [.own tB] (initL [.ro tIs, .ro tI] (x0, (x1, ())) 0).1
theorem slices_Contains_int_main (x0 : List Int) (x1 : Int) : slices_Contains_int_F (x0, (x1, ())) =
 (slices_Index_int_F (x0, (x1, ()))).bind fun y7 =>
 some ((decide ((0 : Int) ≤ y7.1.1), ()), ((), ((), ()))) := by kernel_rfl
/-! impl.inserted$1 -/
noncomputable def impl_inserted_1_b : Code := bd Try.f147
def impl_inserted_1_T : List (Nat × Tm) := []
noncomputable def impl_inserted_1_E : Env := ⟨tt0, []⟩
noncomputable def impl_inserted_1_F : PsD [.ro tI, .st tI] → Option (RsD [.own tB] × PsO [.ro tI, .st tI]) := fun x => evFn impl_inserted_1_E impl_inserted_1_T Try.f147 impl_inserted_1_b [.ro tI, .st tI] [.own tB] x
@[reducible] noncomputable def impl_inserted_1_C : Ct := ⟨[.ro tI, .st tI], [.own tB], impl_inserted_1_F⟩
theorem impl_inserted_1_h (x : PsD [.ro tI, .st tI]) (y : RsD [.own tB] × PsO [.ro tI, .st tI]) (h : impl_inserted_1_F x = some y) : evFn impl_inserted_1_E impl_inserted_1_T Try.f147 impl_inserted_1_b [.ro tI, .st tI] [.own tB] x = some y := h
theorem impl_inserted_1_c : ∀ f c, get impl_inserted_1_E.ct f = some c → Sat Try.prog f c := ct_nil
theorem impl_inserted_1_S : Sat Try.prog 147 impl_inserted_1_C := fn_ok2 (envOk _) impl_inserted_1_c mixedOk Try.func147 (by kernel_rfl : Try.f147.body = some impl_inserted_1_b) (by kernel_rfl) (by kernel_rfl) impl_inserted_1_h
noncomputable def impl_inserted_1_Ke  (x0 : Int) (x1 : Int) : Ex → AS → Option (RsD [.own tB] × PsO [.ro tI, .st tI]) := endK impl_inserted_1_E Try.f147 [.ro tI, .st tI] [.own tB] (initL [.ro tI, .st tI] (x0, (x1, ())) 0).1
theorem impl_inserted_1_main (x0 : Int) (x1 : Int) : impl_inserted_1_F (x0, (x1, ())) =
 some ((decide (x1 < x0), ()), ((), (x1, ()))) := by kernel_rfl
/-! slices.IndexFunc[[]int,int] -/
noncomputable def slices_IndexFunc_intI_b : Code := bd Try.f146
@[reducible] def slices_IndexFunc_intI_t0 : Tm := ⟨[], [], [(0, .sc true tIs), (1, .fnv 147 [1000016]), (7, .sc true tI), (8, .sc true tI)], [(1000016, .box [.sc true tI])], [4], []⟩
def slices_IndexFunc_intI_T : List (Nat × Tm) := [(0, slices_IndexFunc_intI_t0)]
noncomputable def slices_IndexFunc_intI_E : Env := ⟨tt0, [(147, impl_inserted_1_C)]⟩
noncomputable def slices_IndexFunc_intI_F : PsD [.ro tIs, .fn 147 [tI]] → Option (RsD [.own tI] × PsO [.ro tIs, .fn 147 [tI]]) := fun x => evFn slices_IndexFunc_intI_E slices_IndexFunc_intI_T Try.f146 slices_IndexFunc_intI_b [.ro tIs, .fn 147 [tI]] [.own tI] x
@[reducible] noncomputable def slices_IndexFunc_intI_C : Ct := ⟨[.ro tIs, .fn 147 [tI]], [.own tI], slices_IndexFunc_intI_F⟩
theorem slices_IndexFunc_intI_h (x : PsD [.ro tIs, .fn 147 [tI]]) (y : RsD [.own tI] × PsO [.ro tIs, .fn 147 [tI]]) (h : slices_IndexFunc_intI_F x = some y) : evFn slices_IndexFunc_intI_E slices_IndexFunc_intI_T Try.f146 slices_IndexFunc_intI_b [.ro tIs, .fn 147 [tI]] [.own tI] x = some y := h
theorem slices_IndexFunc_intI_c : ∀ f c, get slices_IndexFunc_intI_E.ct f = some c → Sat Try.prog f c := ct_cons impl_inserted_1_S (ct_nil)
theorem slices_IndexFunc_intI_S : Sat Try.prog 146 slices_IndexFunc_intI_C := fn_ok2 (envOk _) slices_IndexFunc_intI_c mixedOk Try.func146 (by kernel_rfl : Try.f146.body = some slices_IndexFunc_intI_b) (by kernel_rfl) (by kernel_rfl) slices_IndexFunc_intI_h
noncomputable def slices_IndexFunc_intI_Ke  (x0 : List Int) (x1 : Int × Unit) : Ex → AS → Option (RsD [.own tI] × PsO [.ro tIs, .fn 147 [tI]]) := endK slices_IndexFunc_intI_E Try.f146 [.ro tIs, .fn 147 [tI]] [.own tI] (initL [.ro tIs, .fn 147 [tI]] (x0, (x1, ())) 0).1
noncomputable def slices_IndexFunc_intI_B0 {R : Type} : AS → (Ex → AS → Option R) → Option R := fun A K => ev slices_IndexFunc_intI_E slices_IndexFunc_intI_T 0 (cA (cA (cB (cA (cB slices_IndexFunc_intI_b))))) A K
noncomputable def slices_IndexFunc_intI_K0  (x0 : List Int) (x1 : Int × Unit) : Ex → AS → Option (RsD [.own tI] × PsO [.ro tIs, .fn 147 [tI]]) := kBlk 0 (kSeq (fun A K => ev slices_IndexFunc_intI_E slices_IndexFunc_intI_T 1000 (cB (cB slices_IndexFunc_intI_b)) A K) (slices_IndexFunc_intI_Ke x0 x1))
noncomputable def slices_IndexFunc_intI_x0_0 (d0 : Int) (d1 : Int) : AS := ⟨[(4, .v (.one (.d true tI d0)))], [(1000016, .box [.d true tI d1])]⟩
noncomputable def slices_IndexFunc_intI_x0_1 (d0 : Int) : AS := ⟨[], [(1000016, .box [.d true tI d0])]⟩
theorem slices_IndexFunc_intI_l0 {R : Type} {K : Ex → AS → Option R} {s : slices_IndexFunc_intI_t0.D} (n : Nat) {v : Option R} (h : iterG slices_IndexFunc_intI_t0 slices_IndexFunc_intI_B0 K n s = v) (hv : ∃ r, v = some r) : loopG slices_IndexFunc_intI_t0 slices_IndexFunc_intI_B0 K s = v := loop_eq (ev_mono _ _) n h hv
theorem slices_IndexFunc_intI_main (x0 : List Int) (x1 : Int × Unit) : slices_IndexFunc_intI_F (x0, (x1, ())) =
 loopG slices_IndexFunc_intI_t0 slices_IndexFunc_intI_B0 (slices_IndexFunc_intI_K0 x0 x1) ((x0, ((x0.length : Int), ((0 : Int), ()))), ((x1.1, ()), ())) := by kernel_rfl
theorem slices_IndexFunc_intI_r0 {R : Type} (K : Ex → AS → Option R) (n : Nat) (t0 : List Int) (t7 : Int) (t8 : Int) (b1000016_0 : Int) : iterG slices_IndexFunc_intI_t0 slices_IndexFunc_intI_B0 K (n + 1) ((t0, (t7, (t8, ()))), ((b1000016_0, ()), ())) =
 brk (decide (t8 < t7))
 (ck (decide (0 ≤ t8) && decide (t8 < t0.length)) ((impl_inserted_1_F (rdD tI t0 t8, (b1000016_0, ()))).bind fun y16 =>
 brk y16.1.1
 (K .ret (slices_IndexFunc_intI_x0_0 t8 y16.2.2.1))
 (iterG slices_IndexFunc_intI_t0 slices_IndexFunc_intI_B0 K n ((t0, (t7, (IntKind.i64.wrap (t8 + (1 : Int)), ()))), ((y16.2.2.1, ()), ())))))
 (K (.exit 0) (slices_IndexFunc_intI_x0_1 b1000016_0)) := by kernel_rfl
theorem slices_IndexFunc_intI_e0_0 (x0 : List Int) (x1 : Int × Unit) (d0 : Int) (d1 : Int) : slices_IndexFunc_intI_K0 x0 x1 .ret (slices_IndexFunc_intI_x0_0 d0 d1) =
 some ((d0, ()), ((), ((d1, ()), ()))) := by kernel_rfl
theorem slices_IndexFunc_intI_e0_1 (x0 : List Int) (x1 : Int × Unit) (d0 : Int) : slices_IndexFunc_intI_K0 x0 x1 (.exit 0) (slices_IndexFunc_intI_x0_1 d0) =
 some (((-1 : Int), ()), ((), ((d0, ()), ()))) := by kernel_rfl
/-! slices_Insert_int: off the shelf -/
noncomputable def slices_Insert_int_F : PsD [.mv tIs, .ro tI, .mv tIs] → Option (RsD [.own tIs] × PsO [.mv tIs, .ro tI, .mv tIs]) := fun x => insF x.1 x.2.1 x.2.2.1
@[reducible] noncomputable def slices_Insert_int_C : Ct := ⟨[.mv tIs, .ro tI, .mv tIs], [.own tIs], slices_Insert_int_F⟩
end Go.Refl
namespace Go.Proofs
open Go.Shelf
def Ytfikbjbijpbdkaa.slices_Insert_int_lay_ren : Go.Shelf.Ren := ⟨fun | 21 => 148 | 27 => 156 | 28 => 157 | 35 => 159 | 39 => 160 | n => n, fun | 22 => 32 | 3 => 3 | 4 => 4 | 0 => 0 | n => n, fun | n => n⟩
theorem Ytfikbjbijpbdkaa.slices_Insert_int_lay : Go.Proofs.Lays2.n21 Try.prog Ytfikbjbijpbdkaa.slices_Insert_int_lay_ren := {
  mixed := by kernel_rfl
  f21 := Try.func148.trans (congrArg some (by kernel_rfl))
  f27 := Try.func156.trans (congrArg some (by kernel_rfl))
  f28 := Try.func157.trans (congrArg some (by kernel_rfl))
  f35 := Try.func159.trans (congrArg some (by kernel_rfl))
  f39 := Try.func160.trans (congrArg some (by kernel_rfl))
  t0 := Try.underlying0
  a0 := Try.isAgg0
  z0 := Try.sizeOf0
  v0 := Try.zeroValue0
  t3 := Try.underlying3
  a3 := Try.isAgg3
  z3 := Try.sizeOf3
  v3 := Try.zeroValue3
  t4 := Try.underlying4
  a4 := Try.isAgg4
  z4 := Try.sizeOf4
  v4 := Try.zeroValue4
  t22 := Try.underlying32
  a22 := Try.isAgg32
  z22 := Try.sizeOf32
  v22 := Try.zeroValue32
  i3 := by kernel_rfl }
end Go.Proofs
namespace Go.Refl
open Go.RowKit Go.Proofs
set_option linter.unusedVariables false
set_option maxRecDepth 100000
theorem slices_Insert_int_S : Sat Try.prog 148 slices_Insert_int_C := insert_sat Ytfikbjbijpbdkaa.slices_Insert_int_lay ⟨_, Try.func148, by kernel_rfl, by kernel_rfl⟩
/-! impl.inserted -/
noncomputable def impl_inserted_b : Code := bd Try.f110
def impl_inserted_T : List (Nat × Tm) := []
noncomputable def impl_inserted_E : Env := ⟨tt0, [(109, slices_Clone_int_C), (145, slices_Contains_int_C), (146, slices_IndexFunc_intI_C), (148, slices_Insert_int_C)]⟩
noncomputable def impl_inserted_F : PsD [.ro tIs, .ro tI] → Option (RsD [.own tIs] × PsO [.ro tIs, .ro tI]) := fun x => evFn impl_inserted_E impl_inserted_T Try.f110 impl_inserted_b [.ro tIs, .ro tI] [.own tIs] x
@[reducible] noncomputable def impl_inserted_C : Ct := ⟨[.ro tIs, .ro tI], [.own tIs], impl_inserted_F⟩
theorem impl_inserted_h (x : PsD [.ro tIs, .ro tI]) (y : RsD [.own tIs] × PsO [.ro tIs, .ro tI]) (h : impl_inserted_F x = some y) : evFn impl_inserted_E impl_inserted_T Try.f110 impl_inserted_b [.ro tIs, .ro tI] [.own tIs] x = some y := h
theorem impl_inserted_c : ∀ f c, get impl_inserted_E.ct f = some c → Sat Try.prog f c := ct_cons slices_Clone_int_S (ct_cons slices_Contains_int_S (ct_cons slices_IndexFunc_intI_S (ct_cons slices_Insert_int_S (ct_nil))))
theorem impl_inserted_S : Sat Try.prog 110 impl_inserted_C := fn_ok2 (envOk _) impl_inserted_c mixedOk Try.func110 (by kernel_rfl : Try.f110.body = some impl_inserted_b) (by kernel_rfl) (by kernel_rfl) impl_inserted_h
noncomputable def impl_inserted_Ke  (x0 : List Int) (x1 : Int) : Ex → AS → Option (RsD [.own tIs] × PsO [.ro tIs, .ro tI]) := endK impl_inserted_E Try.f110 [.ro tIs, .ro tI] [.own tIs] (initL [.ro tIs, .ro tI] (x0, (x1, ())) 0).1
theorem impl_inserted_main (x0 : List Int) (x1 : Int) : impl_inserted_F (x0, (x1, ())) =
 (slices_Clone_int_F (x0, ())).bind fun y8 =>
 (slices_Contains_int_F (x0, (x1, ()))).bind fun y11 =>
 brk y11.1.1
 (some ((y8.1.1, ()), ((), ((), ()))))
 ((slices_IndexFunc_intI_F (x0, ((x1, ()), ()))).bind fun y15 =>
 brk (decide (y15.1.1 < (0 : Int)))
 ((slices_Insert_int_F (y8.1.1, ((x0.length : Int), ([y15.2.2.1.1], ())))).bind fun y24 =>
 some ((y24.1.1, ()), ((), ((), ()))))
 ((slices_Insert_int_F (y8.1.1, (y15.1.1, ([y15.2.2.1.1], ())))).bind fun y24 =>
 some ((y24.1.1, ()), ((), ((), ()))))) := by kernel_rfl
/-! impl.Mark -/
noncomputable def impl_Mark_b : Code := bd Try.f35
def impl_Mark_T : List (Nat × Tm) := []
noncomputable def impl_Mark_E : Env := ⟨tt0, [(108, impl_isCell_C), (109, slices_Clone_int_C), (110, impl_inserted_C)]⟩
noncomputable def impl_Mark_F : PsD [.ro tIs, .ro tI] → Option (RsD [.own tIs] × PsO [.ro tIs, .ro tI]) := fun x => evFn impl_Mark_E impl_Mark_T Try.f35 impl_Mark_b [.ro tIs, .ro tI] [.own tIs] x
@[reducible] noncomputable def impl_Mark_C : Ct := ⟨[.ro tIs, .ro tI], [.own tIs], impl_Mark_F⟩
theorem impl_Mark_h (x : PsD [.ro tIs, .ro tI]) (y : RsD [.own tIs] × PsO [.ro tIs, .ro tI]) (h : impl_Mark_F x = some y) : evFn impl_Mark_E impl_Mark_T Try.f35 impl_Mark_b [.ro tIs, .ro tI] [.own tIs] x = some y := h
theorem impl_Mark_c : ∀ f c, get impl_Mark_E.ct f = some c → Sat Try.prog f c := ct_cons impl_isCell_S (ct_cons slices_Clone_int_S (ct_cons impl_inserted_S (ct_nil)))
theorem impl_Mark_S : Sat Try.prog 35 impl_Mark_C := fn_ok2 (envOk _) impl_Mark_c mixedOk Try.func35 (by kernel_rfl : Try.f35.body = some impl_Mark_b) (by kernel_rfl) (by kernel_rfl) impl_Mark_h
noncomputable def impl_Mark_Ke  (x0 : List Int) (x1 : Int) : Ex → AS → Option (RsD [.own tIs] × PsO [.ro tIs, .ro tI]) := endK impl_Mark_E Try.f35 [.ro tIs, .ro tI] [.own tIs] (initL [.ro tIs, .ro tI] (x0, (x1, ())) 0).1
theorem impl_Mark_main (x0 : List Int) (x1 : Int) : impl_Mark_F (x0, (x1, ())) =
 (impl_isCell_F (x1, ())).bind fun y6 =>
 brk (!y6.1.1)
 ((slices_Clone_int_F (x0, ())).bind fun y9 =>
 some ((y9.1.1, ()), ((), ((), ()))))
 ((impl_inserted_F (x0, (x1, ()))).bind fun y12 =>
 some ((y12.1.1, ()), ((), ((), ())))) := by kernel_rfl
/-! slices_Grow_int: off the shelf -/
noncomputable def slices_Grow_int_F : PsD [.mv tIs, .ro tI] → Option (RsD [.own tIs] × PsO [.mv tIs, .ro tI]) := fun x => growF x.1 x.2.1
@[reducible] noncomputable def slices_Grow_int_C : Ct := ⟨[.mv tIs, .ro tI], [.own tIs], slices_Grow_int_F⟩
end Go.Refl
namespace Go.Proofs
open Go.Shelf
def Ytfikbjbijpbdkaa.slices_Grow_int_lay_ren : Go.Shelf.Ren := ⟨fun | 4 => 152 | n => n, fun | 22 => 32 | 25 => 3 | 3 => 3 | 4 => 4 | 9 => 9 | 20 => 20 | 0 => 0 | n => n, fun | n => n⟩
theorem Ytfikbjbijpbdkaa.slices_Grow_int_lay : Go.Proofs.Lays8.n4 Try.prog Ytfikbjbijpbdkaa.slices_Grow_int_lay_ren := {
  mixed := by kernel_rfl
  f4 := ⟨Try.f152.name, by decide, Try.func152.trans (congrArg some (by kernel_rfl))⟩
  t0 := Try.underlying0
  a0 := Try.isAgg0
  z0 := Try.sizeOf0
  v0 := Try.zeroValue0
  t3 := Try.underlying3
  a3 := Try.isAgg3
  z3 := Try.sizeOf3
  v3 := Try.zeroValue3
  t4 := Try.underlying4
  a4 := Try.isAgg4
  z4 := Try.sizeOf4
  v4 := Try.zeroValue4
  t9 := Try.underlying9
  a9 := Try.isAgg9
  z9 := Try.sizeOf9
  v9 := Try.zeroValue9
  t20 := Try.underlying20
  a20 := Try.isAgg20
  z20 := Try.sizeOf20
  v20 := Try.zeroValue20
  t22 := Try.underlying32
  a22 := Try.isAgg32
  z22 := Try.sizeOf32
  v22 := Try.zeroValue32 }
end Go.Proofs
namespace Go.Refl
open Go.RowKit Go.Proofs
set_option linter.unusedVariables false
set_option maxRecDepth 100000
theorem slices_Grow_int_S : Sat Try.prog 152 slices_Grow_int_C := grow_sat Ytfikbjbijpbdkaa.slices_Grow_int_lay fit3 (by decide) ⟨_, Try.func152, by kernel_rfl, by kernel_rfl⟩
/-! slices.Concat[[]int,int] -/
noncomputable def slices_Concat_int_b : Code := bd Try.f125
@[reducible] def slices_Concat_int_t0 : Tm := ⟨[], [], [(0, .sc true tIss), (3, .sc true tI), (9, .sc true tIss), (10, .sc true tI), (11, .sc true tI)], [], [0, 3], []⟩
@[reducible] def slices_Concat_int_t2 : Tm := ⟨[(6, 960600)], [], [(6, .own 960600), (25, .sc true tIss), (26, .sc true tI), (27, .sc true tI)], [(960600, .arr 3 tI)], [6], [960600]⟩
def slices_Concat_int_T : List (Nat × Tm) := [(0, slices_Concat_int_t0), (2, slices_Concat_int_t2)]
noncomputable def slices_Concat_int_E : Env := ⟨tt0, [(152, slices_Grow_int_C)]⟩
noncomputable def slices_Concat_int_F : PsD [.ro tIss] → Option (RsD [.own tIs] × PsO [.ro tIss]) := fun x => evFn slices_Concat_int_E slices_Concat_int_T Try.f125 slices_Concat_int_b [.ro tIss] [.own tIs] x
@[reducible] noncomputable def slices_Concat_int_C : Ct := ⟨[.ro tIss], [.own tIs], slices_Concat_int_F⟩
theorem slices_Concat_int_h (x : PsD [.ro tIss]) (y : RsD [.own tIs] × PsO [.ro tIss]) (h : slices_Concat_int_F x = some y) : evFn slices_Concat_int_E slices_Concat_int_T Try.f125 slices_Concat_int_b [.ro tIss] [.own tIs] x = some y := h
theorem slices_Concat_int_c : ∀ f c, get slices_Concat_int_E.ct f = some c → Sat Try.prog f c := ct_cons slices_Grow_int_S (ct_nil)
theorem slices_Concat_int_S : Sat Try.prog 125 slices_Concat_int_C := fn_ok2 (envOk _) slices_Concat_int_c mixedOk Try.func125 (by kernel_rfl : Try.f125.body = some slices_Concat_int_b) (by kernel_rfl) (by kernel_rfl) slices_Concat_int_h
noncomputable def slices_Concat_int_Ke  (x0 : List (List Int)) : Ex → AS → Option (RsD [.own tIs] × PsO [.ro tIss]) := endK slices_Concat_int_E Try.f125 [.ro tIss] [.own tIs] (initL [.ro tIss] (x0, ()) 0).1
noncomputable def slices_Concat_int_B0 {R : Type} : AS → (Ex → AS → Option R) → Option R := fun A K => ev slices_Concat_int_E slices_Concat_int_T 0 (cA (cA (cB (cA (cB (cB slices_Concat_int_b)))))) A K
noncomputable def slices_Concat_int_B2 {R : Type} : AS → (Ex → AS → Option R) → Option R := fun A K => ev slices_Concat_int_E slices_Concat_int_T 2 (cA (cA (cB (cA (cB (cB (cB (cB slices_Concat_int_b)))))))) A K
noncomputable def slices_Concat_int_K0  (x0 : List (List Int)) : Ex → AS → Option (RsD [.own tIs] × PsO [.ro tIss]) := kBlk 0 (kSeq (fun A K => ev slices_Concat_int_E slices_Concat_int_T 1000 (cB (cB (cB slices_Concat_int_b))) A K) (slices_Concat_int_Ke x0))
noncomputable def slices_Concat_int_K2  (x0 : List (List Int)) : Ex → AS → Option (RsD [.own tIs] × PsO [.ro tIss]) := kBlk 2 (kSeq (fun A K => ev slices_Concat_int_E slices_Concat_int_T 1000 (cB (cB (cB (cB (cB slices_Concat_int_b))))) A K) (slices_Concat_int_Ke x0))
noncomputable def slices_Concat_int_x0_0 (d0 : List (List Int)) (d1 : Int) : AS := ⟨[(0, .v (.one (.d true tIss d0))), (3, .v (.one (.d true tI d1)))], []⟩
noncomputable def slices_Concat_int_x2_0 (d0 : List Int) : AS := ⟨[(6, .v (.one (.own 960600)))], [(960600, .arr 3 tI d0)]⟩
theorem slices_Concat_int_l0 {R : Type} {K : Ex → AS → Option R} {s : slices_Concat_int_t0.D} (n : Nat) {v : Option R} (h : iterG slices_Concat_int_t0 slices_Concat_int_B0 K n s = v) (hv : ∃ r, v = some r) : loopG slices_Concat_int_t0 slices_Concat_int_B0 K s = v := loop_eq (ev_mono _ _) n h hv
theorem slices_Concat_int_l2 {R : Type} {K : Ex → AS → Option R} {s : slices_Concat_int_t2.D} (n : Nat) {v : Option R} (h : iterG slices_Concat_int_t2 slices_Concat_int_B2 K n s = v) (hv : ∃ r, v = some r) : loopG slices_Concat_int_t2 slices_Concat_int_B2 K s = v := loop_eq (ev_mono _ _) n h hv
theorem slices_Concat_int_main (x0 : List (List Int)) : slices_Concat_int_F (x0, ()) =
 loopG slices_Concat_int_t0 slices_Concat_int_B0 (slices_Concat_int_K0 x0) ((x0, ((0 : Int), (x0, ((x0.length : Int), ((0 : Int), ()))))), ()) := by kernel_rfl
theorem slices_Concat_int_r0 {R : Type} (K : Ex → AS → Option R) (n : Nat) (t0 : List (List Int)) (t3 : Int) (t9 : List (List Int)) (t10 : Int) (t11 : Int) : iterG slices_Concat_int_t0 slices_Concat_int_B0 K (n + 1) ((t0, (t3, (t9, (t10, (t11, ()))))), ()) =
 brk (decide (t11 < t10))
 (ck (decide (0 ≤ t11) && decide (t11 < t9.length)) (brk (decide (IntKind.i64.wrap (t3 + ((rdD tIs t9 t11).length : Int)) < (0 : Int)))
 (none)
 (iterG slices_Concat_int_t0 slices_Concat_int_B0 K n ((t0, (IntKind.i64.wrap (t3 + ((rdD tIs t9 t11).length : Int)), (t9, (t10, (IntKind.i64.wrap (t11 + (1 : Int)), ()))))), ()))))
 (K (.exit 0) (slices_Concat_int_x0_0 t0 t3)) := by kernel_rfl
theorem slices_Concat_int_e0_0 (x0 : List (List Int)) (d0 : List (List Int)) (d1 : Int) : slices_Concat_int_K0 x0 (.exit 0) (slices_Concat_int_x0_0 d0 d1) =
 (slices_Grow_int_F (([] : List Int), (d1, ()))).bind fun y24 =>
 loopG slices_Concat_int_t2 slices_Concat_int_B2 (slices_Concat_int_K2 x0) ((d0, ((d0.length : Int), ((0 : Int), ()))), (y24.1.1, ())) := by kernel_rfl
theorem slices_Concat_int_r2 {R : Type} (K : Ex → AS → Option R) (n : Nat) (t25 : List (List Int)) (t26 : Int) (t27 : Int) (a960600 : List Int) : iterG slices_Concat_int_t2 slices_Concat_int_B2 K (n + 1) ((t25, (t26, (t27, ()))), (a960600, ())) =
 brk (decide (t27 < t26))
 (ck (decide (0 ≤ t27) && decide (t27 < t25.length)) (ck (decide ((a960600.length + (rdD tIs t25 t27).length) * 8 ≤ big47)) (iterG slices_Concat_int_t2 slices_Concat_int_B2 K n ((t25, (t26, (IntKind.i64.wrap (t27 + (1 : Int)), ()))), (a960600 ++ (rdD tIs t25 t27), ())))))
 (K (.exit 2) (slices_Concat_int_x2_0 a960600)) := by kernel_rfl
theorem slices_Concat_int_e2_0 (x0 : List (List Int)) (d0 : List Int) : slices_Concat_int_K2 x0 (.exit 2) (slices_Concat_int_x2_0 d0) =
 some ((d0, ()), ((), ())) := by kernel_rfl
/-! impl.Union -/
noncomputable def impl_Union_b : Code := bd Try.f58
@[reducible] def impl_Union_t0 : Tm := ⟨[(5, 960000)], [], [(5, .own 960000), (12, .own 192), (13, .sc true tI), (14, .sc true tI)], [(192, .arr 3 tI), (960000, .arr 3 tI)], [5], [960000]⟩
def impl_Union_T : List (Nat × Tm) := [(0, impl_Union_t0)]
noncomputable def impl_Union_E : Env := ⟨tt0, [(35, impl_Mark_C), (125, slices_Concat_int_C)]⟩
noncomputable def impl_Union_F : PsD [.ro tIs, .ro tIs] → Option (RsD [.own tIs] × PsO [.ro tIs, .ro tIs]) := fun x => evFn impl_Union_E impl_Union_T Try.f58 impl_Union_b [.ro tIs, .ro tIs] [.own tIs] x
@[reducible] noncomputable def impl_Union_C : Ct := ⟨[.ro tIs, .ro tIs], [.own tIs], impl_Union_F⟩
theorem impl_Union_h (x : PsD [.ro tIs, .ro tIs]) (y : RsD [.own tIs] × PsO [.ro tIs, .ro tIs]) (h : impl_Union_F x = some y) : evFn impl_Union_E impl_Union_T Try.f58 impl_Union_b [.ro tIs, .ro tIs] [.own tIs] x = some y := h
theorem impl_Union_c : ∀ f c, get impl_Union_E.ct f = some c → Sat Try.prog f c := ct_cons impl_Mark_S (ct_cons slices_Concat_int_S (ct_nil))
theorem impl_Union_S : Sat Try.prog 58 impl_Union_C := fn_ok2 (envOk _) impl_Union_c mixedOk Try.func58 (by kernel_rfl : Try.f58.body = some impl_Union_b) (by kernel_rfl) (by kernel_rfl) impl_Union_h
noncomputable def impl_Union_Ke  (x0 : List Int) (x1 : List Int) : Ex → AS → Option (RsD [.own tIs] × PsO [.ro tIs, .ro tIs]) := endK impl_Union_E Try.f58 [.ro tIs, .ro tIs] [.own tIs] (initL [.ro tIs, .ro tIs] (x0, (x1, ())) 0).1
noncomputable def impl_Union_B0 {R : Type} : AS → (Ex → AS → Option R) → Option R := fun A K => ev impl_Union_E impl_Union_T 0 (cA (cA (cB (cA (cB (cB impl_Union_b)))))) A K
noncomputable def impl_Union_K0  (x0 : List Int) (x1 : List Int) : Ex → AS → Option (RsD [.own tIs] × PsO [.ro tIs, .ro tIs]) := kBlk 0 (kSeq (fun A K => ev impl_Union_E impl_Union_T 1000 (cB (cB (cB impl_Union_b))) A K) (impl_Union_Ke x0 x1))
noncomputable def impl_Union_x0_0 (d0 : List Int) : AS := ⟨[(5, .v (.one (.own 960000)))], [(960000, .arr 3 tI d0)]⟩
theorem impl_Union_l0 {R : Type} {K : Ex → AS → Option R} {s : impl_Union_t0.D} (n : Nat) {v : Option R} (h : iterG impl_Union_t0 impl_Union_B0 K n s = v) (hv : ∃ r, v = some r) : loopG impl_Union_t0 impl_Union_B0 K s = v := loop_eq (ev_mono _ _) n h hv
theorem impl_Union_main (x0 : List Int) (x1 : List Int) : impl_Union_F (x0, (x1, ())) =
 (slices_Concat_int_F ([x0, x1], ())).bind fun y12 =>
 loopG impl_Union_t0 impl_Union_B0 (impl_Union_K0 x0 x1) (((y12.1.1.length : Int), ((0 : Int), ())), (y12.1.1, (([] : List Int), ()))) := by kernel_rfl
theorem impl_Union_r0 {R : Type} (K : Ex → AS → Option R) (n : Nat) (t13 : Int) (t14 : Int) (a192 : List Int) (a960000 : List Int) : iterG impl_Union_t0 impl_Union_B0 K (n + 1) ((t13, (t14, ())), (a192, (a960000, ()))) =
 brk (decide (t14 < t13))
 (ck (decide (0 ≤ t14) && decide (t14 < a192.length)) ((impl_Mark_F (a960000, (rdD tI a192 t14, ()))).bind fun y20 =>
 iterG impl_Union_t0 impl_Union_B0 K n ((t13, (IntKind.i64.wrap (t14 + (1 : Int)), ())), (a192, (y20.1.1, ())))))
 (K (.exit 0) (impl_Union_x0_0 a960000)) := by kernel_rfl
theorem impl_Union_e0_0 (x0 : List Int) (x1 : List Int) (d0 : List Int) : impl_Union_K0 x0 x1 (.exit 0) (impl_Union_x0_0 d0) =
 some ((d0, ()), ((), ((), ()))) := by kernel_rfl
/-! laws.FnExactUnion -/
noncomputable def laws_FnExactUnion_b : Code := bd Try.f8
def laws_FnExactUnion_T : List (Nat × Tm) := []
noncomputable def laws_FnExactUnion_E : Env := ⟨tt0, [(34, laws_toIntS_C), (36, laws_eqIntS_C), (37, laws_markIntS_C), (38, laws_heldIntS_C), (57, spec_Union_C), (58, impl_Union_C)]⟩
noncomputable def laws_FnExactUnion_F : PsD [.ro tIs, .ro tIs] → Option (RsD [.own tB] × PsO [.ro tIs, .ro tIs]) := fun x => evFn laws_FnExactUnion_E laws_FnExactUnion_T Try.f8 laws_FnExactUnion_b [.ro tIs, .ro tIs] [.own tB] x
@[reducible] noncomputable def laws_FnExactUnion_C : Ct := ⟨[.ro tIs, .ro tIs], [.own tB], laws_FnExactUnion_F⟩
theorem laws_FnExactUnion_h (x : PsD [.ro tIs, .ro tIs]) (y : RsD [.own tB] × PsO [.ro tIs, .ro tIs]) (h : laws_FnExactUnion_F x = some y) : evFn laws_FnExactUnion_E laws_FnExactUnion_T Try.f8 laws_FnExactUnion_b [.ro tIs, .ro tIs] [.own tB] x = some y := h
theorem laws_FnExactUnion_c : ∀ f c, get laws_FnExactUnion_E.ct f = some c → Sat Try.prog f c := ct_cons laws_toIntS_S (ct_cons laws_eqIntS_S (ct_cons laws_markIntS_S (ct_cons laws_heldIntS_S (ct_cons spec_Union_S (ct_cons impl_Union_S (ct_nil))))))
theorem laws_FnExactUnion_S : Sat Try.prog 8 laws_FnExactUnion_C := fn_ok2 (envOk _) laws_FnExactUnion_c mixedOk Try.func8 (by kernel_rfl : Try.f8.body = some laws_FnExactUnion_b) (by kernel_rfl) (by kernel_rfl) laws_FnExactUnion_h
noncomputable def laws_FnExactUnion_Ke  (x0 : List Int) (x1 : List Int) : Ex → AS → Option (RsD [.own tB] × PsO [.ro tIs, .ro tIs]) := endK laws_FnExactUnion_E Try.f8 [.ro tIs, .ro tIs] [.own tB] (initL [.ro tIs, .ro tIs] (x0, (x1, ())) 0).1
theorem laws_FnExactUnion_main (x0 : List Int) (x1 : List Int) : laws_FnExactUnion_F (x0, (x1, ())) =
 brk (decide ((1048576 : Int) < (x0.length : Int)))
 (some ((true, ()), ((), ((), ()))))
 (brk (decide ((1048576 : Int) < (x1.length : Int)))
 (some ((true, ()), ((), ((), ()))))
 ((laws_toIntS_F (x0, ())).bind fun y20 =>
 (laws_toIntS_F (x1, ())).bind fun y22 =>
 (spec_Union_F (y20.1.1, (y22.1.1, ()))).bind fun y23 =>
 (laws_toIntS_F (x0, ())).bind fun y25 =>
 (laws_toIntS_F (x1, ())).bind fun y27 =>
 (impl_Union_F (y25.1.1, (y27.1.1, ()))).bind fun y30 =>
 (laws_eqIntS_F (y30.1.1, (y23.1.1, ()))).bind fun y33 =>
 brk (!y33.1.1)
 (some ((false, ()), ((), ((), ()))))
 ((laws_toIntS_F (x0, ())).bind fun y37 =>
 (laws_eqIntS_F (y25.1.1, (y37.1.1, ()))).bind fun y38 =>
 brk (!y38.1.1)
 (some ((false, ()), ((), ((), ()))))
 ((laws_toIntS_F (x1, ())).bind fun y42 =>
 (laws_eqIntS_F (y27.1.1, (y42.1.1, ()))).bind fun y43 =>
 brk (!y43.1.1)
 (some ((false, ()), ((), ((), ()))))
 ((laws_markIntS_F (y25.1.1, ((1 : Int), ()))).bind fun y47 =>
 (laws_markIntS_F (y27.1.1, (y47.1.1, ()))).bind fun y50 =>
 brk (decide (y50.1.1 < (0 : Int)))
 (some ((false, ()), ((), ((), ()))))
 ((laws_eqIntS_F (y30.1.1, (y23.1.1, ()))).bind fun y56 =>
 brk (!y56.1.1)
 (some ((false, ()), ((), ((), ()))))
 ((laws_markIntS_F (y30.1.1, ((1 : Int), ()))).bind fun y61 =>
 (laws_heldIntS_F (y61.2.1, ((1 : Int), ()))).bind fun y64 =>
 brk (decide (y64.1.1 < (0 : Int)))
 (some ((false, ()), ((), ((), ()))))
 (brk (!decide (y64.1.1 = y61.1.1))
 (some ((false, ()), ((), ((), ()))))
 ((laws_toIntS_F (x0, ())).bind fun y71 =>
 (laws_toIntS_F (x1, ())).bind fun y73 =>
 (impl_Union_F (y71.1.1, (y73.1.1, ()))).bind fun y74 =>
 (laws_eqIntS_F (y74.1.1, (y23.1.1, ()))).bind fun y77 =>
 brk (!y77.1.1)
 (some ((false, ()), ((), ((), ()))))
 ((laws_heldIntS_F (y61.2.1, ((1 : Int), ()))).bind fun y81 =>
 brk (decide (y81.1.1 < (0 : Int)))
 (some ((false, ()), ((), ((), ()))))
 (brk (!decide (y81.1.1 = y61.1.1))
 (some ((false, ()), ((), ((), ()))))
 (some ((true, ()), ((), ((), ()))))))))))))))) := by kernel_rfl
end Go.Refl
