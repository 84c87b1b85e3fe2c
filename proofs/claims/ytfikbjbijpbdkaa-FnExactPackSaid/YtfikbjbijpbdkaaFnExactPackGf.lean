/- Functions of the program, told by the evaluator: printed by a program of this claim. No condition. -/
import Derived.Test.YtfikbjbijpbdkaaFnExactPackGt
namespace Go.Refl
open Go.RowKit Go.Proofs
set_option linter.unusedVariables false
set_option maxRecDepth 100000
/-! laws.eqByteS -/
noncomputable def laws_eqByteS_b : Code := bd Try.f52
@[reducible] def laws_eqByteS_t0 : Tm := ⟨[], [], [(0, .sc true tYs), (1, .sc true tYs), (5, .sc true tI)], [], [4], []⟩
def laws_eqByteS_T : List (Nat × Tm) := [(0, laws_eqByteS_t0)]
noncomputable def laws_eqByteS_E : Env := ⟨tt0, []⟩
noncomputable def laws_eqByteS_F : PsD [.ro tYs, .ro tYs] → Option (RsD [.own tB] × PsO [.ro tYs, .ro tYs]) := fun x => evFn laws_eqByteS_E laws_eqByteS_T Try.f52 laws_eqByteS_b [.ro tYs, .ro tYs] [.own tB] x
@[reducible] noncomputable def laws_eqByteS_C : Ct := ⟨[.ro tYs, .ro tYs], [.own tB], laws_eqByteS_F⟩
theorem laws_eqByteS_h (x : PsD [.ro tYs, .ro tYs]) (y : RsD [.own tB] × PsO [.ro tYs, .ro tYs]) (h : laws_eqByteS_F x = some y) : evFn laws_eqByteS_E laws_eqByteS_T Try.f52 laws_eqByteS_b [.ro tYs, .ro tYs] [.own tB] x = some y := h
theorem laws_eqByteS_c : ∀ f c, get laws_eqByteS_E.ct f = some c → Sat Try.prog f c := ct_nil
theorem laws_eqByteS_S : Sat Try.prog 52 laws_eqByteS_C := fn_ok2 (envOk _) laws_eqByteS_c mixedOk Try.func52 (by kernel_rfl : Try.f52.body = some laws_eqByteS_b) (by kernel_rfl) (by kernel_rfl) laws_eqByteS_h
noncomputable def laws_eqByteS_Ke  (x0 : List Int) (x1 : List Int) : Ex → AS → Option (RsD [.own tB] × PsO [.ro tYs, .ro tYs]) := endK laws_eqByteS_E Try.f52 [.ro tYs, .ro tYs] [.own tB] (initL [.ro tYs, .ro tYs] (x0, (x1, ())) 0).1
noncomputable def laws_eqByteS_B0 {R : Type} : AS → (Ex → AS → Option R) → Option R := fun A K => ev laws_eqByteS_E laws_eqByteS_T 0 (cA (cA (cB (cA (cB (cB laws_eqByteS_b)))))) A K
noncomputable def laws_eqByteS_K0  (x0 : List Int) (x1 : List Int) : Ex → AS → Option (RsD [.own tB] × PsO [.ro tYs, .ro tYs]) := kBlk 0 (kSeq (fun A K => ev laws_eqByteS_E laws_eqByteS_T 1000 (cB (cB (cB laws_eqByteS_b))) A K) (laws_eqByteS_Ke x0 x1))
noncomputable def laws_eqByteS_x0_0 (d0 : Bool) : AS := ⟨[(4, .v (.one (.d true tB d0)))], []⟩
noncomputable def laws_eqByteS_x0_1 : AS := ⟨[], []⟩
theorem laws_eqByteS_l0 {R : Type} {K : Ex → AS → Option R} {s : laws_eqByteS_t0.D} (n : Nat) {v : Option R} (h : iterG laws_eqByteS_t0 laws_eqByteS_B0 K n s = v) (hv : ∃ r, v = some r) : loopG laws_eqByteS_t0 laws_eqByteS_B0 K s = v := loop_eq (ev_mono _ _) n h hv
theorem laws_eqByteS_main (x0 : List Int) (x1 : List Int) : laws_eqByteS_F (x0, (x1, ())) =
 brk (!decide ((x0.length : Int) = (x1.length : Int)))
 (some ((false, ()), ((), ((), ()))))
 (loopG laws_eqByteS_t0 laws_eqByteS_B0 (laws_eqByteS_K0 x0 x1) ((x0, (x1, ((0 : Int), ()))), ())) := by kernel_rfl
theorem laws_eqByteS_r0 {R : Type} (K : Ex → AS → Option R) (n : Nat) (t0 : List Int) (t1 : List Int) (t5 : Int) : iterG laws_eqByteS_t0 laws_eqByteS_B0 K (n + 1) ((t0, (t1, (t5, ()))), ()) =
 brk (decide (t5 < (t0.length : Int)))
 (ck (decide (0 ≤ t5) && decide (t5 < t0.length)) (ck (decide (0 ≤ t5) && decide (t5 < t1.length)) (brk (!decide (rdD tY t0 t5 = rdD tY t1 t5))
 (K .ret (laws_eqByteS_x0_0 false))
 (iterG laws_eqByteS_t0 laws_eqByteS_B0 K n ((t0, (t1, (IntKind.i64.wrap (t5 + (1 : Int)), ()))), ())))))
 (K (.exit 0) (laws_eqByteS_x0_1)) := by kernel_rfl
theorem laws_eqByteS_e0_0 (x0 : List Int) (x1 : List Int) (d0 : Bool) : laws_eqByteS_K0 x0 x1 .ret (laws_eqByteS_x0_0 d0) =
 some ((d0, ()), ((), ((), ()))) := by kernel_rfl
theorem laws_eqByteS_e0_1 (x0 : List Int) (x1 : List Int) : laws_eqByteS_K0 x0 x1 (.exit 0) (laws_eqByteS_x0_1) =
 some ((true, ()), ((), ((), ()))) := by kernel_rfl
/-! laws.markByteS -/
noncomputable def laws_markByteS_b : Code := bd Try.f55
@[reducible] def laws_markByteS_t0 : Tm := ⟨[], [], [(0, .own 1000000), (1, .sc true tI), (5, .sc true tI)], [(1000000, .arr 5 tY)], [1], []⟩
def laws_markByteS_T : List (Nat × Tm) := [(0, laws_markByteS_t0)]
noncomputable def laws_markByteS_E : Env := ⟨tt0, []⟩
noncomputable def laws_markByteS_F : PsD [.inp tYs, .ro tI] → Option (RsD [.own tI] × PsO [.inp tYs, .ro tI]) := fun x => evFn laws_markByteS_E laws_markByteS_T Try.f55 laws_markByteS_b [.inp tYs, .ro tI] [.own tI] x
@[reducible] noncomputable def laws_markByteS_C : Ct := ⟨[.inp tYs, .ro tI], [.own tI], laws_markByteS_F⟩
theorem laws_markByteS_h (x : PsD [.inp tYs, .ro tI]) (y : RsD [.own tI] × PsO [.inp tYs, .ro tI]) (h : laws_markByteS_F x = some y) : evFn laws_markByteS_E laws_markByteS_T Try.f55 laws_markByteS_b [.inp tYs, .ro tI] [.own tI] x = some y := h
theorem laws_markByteS_c : ∀ f c, get laws_markByteS_E.ct f = some c → Sat Try.prog f c := ct_nil
theorem laws_markByteS_S : Sat Try.prog 55 laws_markByteS_C := fn_ok2 (envOk _) laws_markByteS_c mixedOk Try.func55 (by kernel_rfl : Try.f55.body = some laws_markByteS_b) (by kernel_rfl) (by kernel_rfl) laws_markByteS_h
noncomputable def laws_markByteS_Ke  (x0 : List Int) (x1 : Int) : Ex → AS → Option (RsD [.own tI] × PsO [.inp tYs, .ro tI]) := endK laws_markByteS_E Try.f55 [.inp tYs, .ro tI] [.own tI] (initL [.inp tYs, .ro tI] (x0, (x1, ())) 0).1
noncomputable def laws_markByteS_B0 {R : Type} : AS → (Ex → AS → Option R) → Option R := fun A K => ev laws_markByteS_E laws_markByteS_T 0 (cA (cA (cB (cA (cB laws_markByteS_b))))) A K
noncomputable def laws_markByteS_K0  (x0 : List Int) (x1 : Int) : Ex → AS → Option (RsD [.own tI] × PsO [.inp tYs, .ro tI]) := kBlk 0 (kSeq (fun A K => ev laws_markByteS_E laws_markByteS_T 1000 (cB (cB laws_markByteS_b)) A K) (laws_markByteS_Ke x0 x1))
noncomputable def laws_markByteS_x0_0 (d0 : Int) (d1 : List Int) : AS := ⟨[(1, .v (.one (.d true tI d0)))], [(1000000, .arr 5 tY d1)]⟩
theorem laws_markByteS_l0 {R : Type} {K : Ex → AS → Option R} {s : laws_markByteS_t0.D} (n : Nat) {v : Option R} (h : iterG laws_markByteS_t0 laws_markByteS_B0 K n s = v) (hv : ∃ r, v = some r) : loopG laws_markByteS_t0 laws_markByteS_B0 K s = v := loop_eq (ev_mono _ _) n h hv
theorem laws_markByteS_main (x0 : List Int) (x1 : Int) : laws_markByteS_F (x0, (x1, ())) =
 loopG laws_markByteS_t0 laws_markByteS_B0 (laws_markByteS_K0 x0 x1) ((x1, ((0 : Int), ())), (x0, ())) := by kernel_rfl
theorem laws_markByteS_r0 {R : Type} (K : Ex → AS → Option R) (n : Nat) (t1 : Int) (t5 : Int) (a1000000 : List Int) : iterG laws_markByteS_t0 laws_markByteS_B0 K (n + 1) ((t1, (t5, ())), (a1000000, ())) =
 brk (decide (t5 < (a1000000.length : Int)))
 (ck (decide (0 ≤ t5) && decide (t5 < a1000000.length)) (iterG laws_markByteS_t0 laws_markByteS_B0 K n ((IntKind.i64.wrap (t1 + (1 : Int)), (IntKind.i64.wrap (t5 + (1 : Int)), ())), (a1000000.set t5.toNat (IntKind.u8.wrap t1), ()))))
 (K (.exit 0) (laws_markByteS_x0_0 t1 a1000000)) := by kernel_rfl
theorem laws_markByteS_e0_0 (x0 : List Int) (x1 : Int) (d0 : Int) (d1 : List Int) : laws_markByteS_K0 x0 x1 (.exit 0) (laws_markByteS_x0_0 d0 d1) =
 some ((d0, ()), (d1, ((), ()))) := by kernel_rfl
/-! laws.heldByteS -/
noncomputable def laws_heldByteS_b : Code := bd Try.f56
@[reducible] def laws_heldByteS_t0 : Tm := ⟨[], [], [(0, .sc true tYs), (1, .sc true tI), (5, .sc true tI)], [], [1, 4], []⟩
def laws_heldByteS_T : List (Nat × Tm) := [(0, laws_heldByteS_t0)]
noncomputable def laws_heldByteS_E : Env := ⟨tt0, []⟩
noncomputable def laws_heldByteS_F : PsD [.ro tYs, .ro tI] → Option (RsD [.own tI] × PsO [.ro tYs, .ro tI]) := fun x => evFn laws_heldByteS_E laws_heldByteS_T Try.f56 laws_heldByteS_b [.ro tYs, .ro tI] [.own tI] x
@[reducible] noncomputable def laws_heldByteS_C : Ct := ⟨[.ro tYs, .ro tI], [.own tI], laws_heldByteS_F⟩
theorem laws_heldByteS_h (x : PsD [.ro tYs, .ro tI]) (y : RsD [.own tI] × PsO [.ro tYs, .ro tI]) (h : laws_heldByteS_F x = some y) : evFn laws_heldByteS_E laws_heldByteS_T Try.f56 laws_heldByteS_b [.ro tYs, .ro tI] [.own tI] x = some y := h
theorem laws_heldByteS_c : ∀ f c, get laws_heldByteS_E.ct f = some c → Sat Try.prog f c := ct_nil
theorem laws_heldByteS_S : Sat Try.prog 56 laws_heldByteS_C := fn_ok2 (envOk _) laws_heldByteS_c mixedOk Try.func56 (by kernel_rfl : Try.f56.body = some laws_heldByteS_b) (by kernel_rfl) (by kernel_rfl) laws_heldByteS_h
noncomputable def laws_heldByteS_Ke  (x0 : List Int) (x1 : Int) : Ex → AS → Option (RsD [.own tI] × PsO [.ro tYs, .ro tI]) := endK laws_heldByteS_E Try.f56 [.ro tYs, .ro tI] [.own tI] (initL [.ro tYs, .ro tI] (x0, (x1, ())) 0).1
noncomputable def laws_heldByteS_B0 {R : Type} : AS → (Ex → AS → Option R) → Option R := fun A K => ev laws_heldByteS_E laws_heldByteS_T 0 (cA (cA (cB (cA (cB laws_heldByteS_b))))) A K
noncomputable def laws_heldByteS_K0  (x0 : List Int) (x1 : Int) : Ex → AS → Option (RsD [.own tI] × PsO [.ro tYs, .ro tI]) := kBlk 0 (kSeq (fun A K => ev laws_heldByteS_E laws_heldByteS_T 1000 (cB (cB laws_heldByteS_b)) A K) (laws_heldByteS_Ke x0 x1))
noncomputable def laws_heldByteS_x0_0 (d0 : Int) (d1 : Int) : AS := ⟨[(1, .v (.one (.d true tI d0))), (4, .v (.one (.d true tI d1)))], []⟩
noncomputable def laws_heldByteS_x0_1 (d0 : Int) : AS := ⟨[(1, .v (.one (.d true tI d0)))], []⟩
theorem laws_heldByteS_l0 {R : Type} {K : Ex → AS → Option R} {s : laws_heldByteS_t0.D} (n : Nat) {v : Option R} (h : iterG laws_heldByteS_t0 laws_heldByteS_B0 K n s = v) (hv : ∃ r, v = some r) : loopG laws_heldByteS_t0 laws_heldByteS_B0 K s = v := loop_eq (ev_mono _ _) n h hv
theorem laws_heldByteS_main (x0 : List Int) (x1 : Int) : laws_heldByteS_F (x0, (x1, ())) =
 loopG laws_heldByteS_t0 laws_heldByteS_B0 (laws_heldByteS_K0 x0 x1) ((x0, (x1, ((0 : Int), ()))), ()) := by kernel_rfl
theorem laws_heldByteS_r0 {R : Type} (K : Ex → AS → Option R) (n : Nat) (t0 : List Int) (t1 : Int) (t5 : Int) : iterG laws_heldByteS_t0 laws_heldByteS_B0 K (n + 1) ((t0, (t1, (t5, ()))), ()) =
 brk (decide (t5 < (t0.length : Int)))
 (ck (decide (0 ≤ t5) && decide (t5 < t0.length)) (brk (!decide (rdD tY t0 t5 = IntKind.u8.wrap t1))
 (K .ret (laws_heldByteS_x0_0 t1 (-1 : Int)))
 (iterG laws_heldByteS_t0 laws_heldByteS_B0 K n ((t0, (IntKind.i64.wrap (t1 + (1 : Int)), (IntKind.i64.wrap (t5 + (1 : Int)), ()))), ()))))
 (K (.exit 0) (laws_heldByteS_x0_1 t1)) := by kernel_rfl
theorem laws_heldByteS_e0_0 (x0 : List Int) (x1 : Int) (d0 : Int) (d1 : Int) : laws_heldByteS_K0 x0 x1 .ret (laws_heldByteS_x0_0 d0 d1) =
 some ((d1, ()), ((), ((), ()))) := by kernel_rfl
theorem laws_heldByteS_e0_1 (x0 : List Int) (x1 : Int) (d0 : Int) : laws_heldByteS_K0 x0 x1 (.exit 0) (laws_heldByteS_x0_1 d0) =
 some ((d0, ()), ((), ((), ()))) := by kernel_rfl
/-! laws.szIntS -/
noncomputable def laws_szIntS_b : Code := bd Try.f117
def laws_szIntS_T : List (Nat × Tm) := []
noncomputable def laws_szIntS_E : Env := ⟨tt0, []⟩
noncomputable def laws_szIntS_F : PsD [.ro tIs, .ro tI] → Option (RsD [.own tI] × PsO [.ro tIs, .ro tI]) := fun x => evFn laws_szIntS_E laws_szIntS_T Try.f117 laws_szIntS_b [.ro tIs, .ro tI] [.own tI] x
@[reducible] noncomputable def laws_szIntS_C : Ct := ⟨[.ro tIs, .ro tI], [.own tI], laws_szIntS_F⟩
theorem laws_szIntS_h (x : PsD [.ro tIs, .ro tI]) (y : RsD [.own tI] × PsO [.ro tIs, .ro tI]) (h : laws_szIntS_F x = some y) : evFn laws_szIntS_E laws_szIntS_T Try.f117 laws_szIntS_b [.ro tIs, .ro tI] [.own tI] x = some y := h
theorem laws_szIntS_c : ∀ f c, get laws_szIntS_E.ct f = some c → Sat Try.prog f c := ct_nil
theorem laws_szIntS_S : Sat Try.prog 117 laws_szIntS_C := fn_ok2 (envOk _) laws_szIntS_c mixedOk Try.func117 (by kernel_rfl : Try.f117.body = some laws_szIntS_b) (by kernel_rfl) (by kernel_rfl) laws_szIntS_h
noncomputable def laws_szIntS_Ke  (x0 : List Int) (x1 : Int) : Ex → AS → Option (RsD [.own tI] × PsO [.ro tIs, .ro tI]) := endK laws_szIntS_E Try.f117 [.ro tIs, .ro tI] [.own tI] (initL [.ro tIs, .ro tI] (x0, (x1, ())) 0).1
theorem laws_szIntS_main (x0 : List Int) (x1 : Int) : laws_szIntS_F (x0, (x1, ())) =
 brk (decide (IntKind.i64.wrap (x1 - (x0.length : Int)) < (0 : Int)))
 (some (((-1 : Int), ()), ((), ((), ()))))
 (some ((IntKind.i64.wrap (x1 - (x0.length : Int)), ()), ((), ((), ())))) := by kernel_rfl
/-! laws.szMsg -/
noncomputable def laws_szMsg_b : Code := bd Try.f48
def laws_szMsg_T : List (Nat × Tm) := []
noncomputable def laws_szMsg_E : Env := ⟨tt0, [(117, laws_szIntS_C)]⟩
noncomputable def laws_szMsg_F : PsD [.ro tMsg, .ro tI] → Option (RsD [.own tI] × PsO [.ro tMsg, .ro tI]) := fun x => evFn laws_szMsg_E laws_szMsg_T Try.f48 laws_szMsg_b [.ro tMsg, .ro tI] [.own tI] x
@[reducible] noncomputable def laws_szMsg_C : Ct := ⟨[.ro tMsg, .ro tI], [.own tI], laws_szMsg_F⟩
theorem laws_szMsg_h (x : PsD [.ro tMsg, .ro tI]) (y : RsD [.own tI] × PsO [.ro tMsg, .ro tI]) (h : laws_szMsg_F x = some y) : evFn laws_szMsg_E laws_szMsg_T Try.f48 laws_szMsg_b [.ro tMsg, .ro tI] [.own tI] x = some y := h
theorem laws_szMsg_c : ∀ f c, get laws_szMsg_E.ct f = some c → Sat Try.prog f c := ct_cons laws_szIntS_S (ct_nil)
theorem laws_szMsg_S : Sat Try.prog 48 laws_szMsg_C := fn_ok2 (envOk _) laws_szMsg_c mixedOk Try.func48 (by kernel_rfl : Try.f48.body = some laws_szMsg_b) (by kernel_rfl) (by kernel_rfl) laws_szMsg_h
noncomputable def laws_szMsg_Ke  (x0 : Int × Int × Int × Int × List Int × Unit) (x1 : Int) : Ex → AS → Option (RsD [.own tI] × PsO [.ro tMsg, .ro tI]) := endK laws_szMsg_E Try.f48 [.ro tMsg, .ro tI] [.own tI] (initL [.ro tMsg, .ro tI] (x0, (x1, ())) 0).1
theorem laws_szMsg_main (x0 : Int × Int × Int × Int × List Int × Unit) (x1 : Int) : laws_szMsg_F (x0, (x1, ())) =
 (laws_szIntS_F (x0.2.2.2.2.1, (x1, ()))).bind fun y8 =>
 brk (decide (y8.1.1 < (0 : Int)))
 (some (((-1 : Int), ()), ((), ((), ()))))
 (some ((y8.1.1, ()), ((), ((), ())))) := by kernel_rfl
/-! laws.szMsgS -/
noncomputable def laws_szMsgS_b : Code := bd Try.f75
@[reducible] def laws_szMsgS_t0 : Tm := ⟨[], [], [(0, .sc true tMsgsL), (1, .sc true tI), (5, .sc true tI)], [], [1, 4], []⟩
def laws_szMsgS_T : List (Nat × Tm) := [(0, laws_szMsgS_t0)]
noncomputable def laws_szMsgS_E : Env := ⟨tt0, [(48, laws_szMsg_C)]⟩
noncomputable def laws_szMsgS_F : PsD [.ro tMsgsL, .ro tI] → Option (RsD [.own tI] × PsO [.ro tMsgsL, .ro tI]) := fun x => evFn laws_szMsgS_E laws_szMsgS_T Try.f75 laws_szMsgS_b [.ro tMsgsL, .ro tI] [.own tI] x
@[reducible] noncomputable def laws_szMsgS_C : Ct := ⟨[.ro tMsgsL, .ro tI], [.own tI], laws_szMsgS_F⟩
theorem laws_szMsgS_h (x : PsD [.ro tMsgsL, .ro tI]) (y : RsD [.own tI] × PsO [.ro tMsgsL, .ro tI]) (h : laws_szMsgS_F x = some y) : evFn laws_szMsgS_E laws_szMsgS_T Try.f75 laws_szMsgS_b [.ro tMsgsL, .ro tI] [.own tI] x = some y := h
theorem laws_szMsgS_c : ∀ f c, get laws_szMsgS_E.ct f = some c → Sat Try.prog f c := ct_cons laws_szMsg_S (ct_nil)
theorem laws_szMsgS_S : Sat Try.prog 75 laws_szMsgS_C := fn_ok2 (envOk _) laws_szMsgS_c mixedOk Try.func75 (by kernel_rfl : Try.f75.body = some laws_szMsgS_b) (by kernel_rfl) (by kernel_rfl) laws_szMsgS_h
noncomputable def laws_szMsgS_Ke  (x0 : List (Int × Int × Int × Int × List Int × Unit)) (x1 : Int) : Ex → AS → Option (RsD [.own tI] × PsO [.ro tMsgsL, .ro tI]) := endK laws_szMsgS_E Try.f75 [.ro tMsgsL, .ro tI] [.own tI] (initL [.ro tMsgsL, .ro tI] (x0, (x1, ())) 0).1
noncomputable def laws_szMsgS_B0 {R : Type} : AS → (Ex → AS → Option R) → Option R := fun A K => ev laws_szMsgS_E laws_szMsgS_T 0 (cA (cA (cB (cA (cB (cB (cB laws_szMsgS_b))))))) A K
noncomputable def laws_szMsgS_K0  (x0 : List (Int × Int × Int × Int × List Int × Unit)) (x1 : Int) : Ex → AS → Option (RsD [.own tI] × PsO [.ro tMsgsL, .ro tI]) := kBlk 0 (kSeq (fun A K => ev laws_szMsgS_E laws_szMsgS_T 1000 (cB (cB (cB (cB laws_szMsgS_b)))) A K) (laws_szMsgS_Ke x0 x1))
noncomputable def laws_szMsgS_x0_0 (d0 : Int) (d1 : Int) : AS := ⟨[(1, .v (.one (.d true tI d0))), (4, .v (.one (.d true tI d1)))], []⟩
noncomputable def laws_szMsgS_x0_1 (d0 : Int) : AS := ⟨[(1, .v (.one (.d true tI d0)))], []⟩
theorem laws_szMsgS_l0 {R : Type} {K : Ex → AS → Option R} {s : laws_szMsgS_t0.D} (n : Nat) {v : Option R} (h : iterG laws_szMsgS_t0 laws_szMsgS_B0 K n s = v) (hv : ∃ r, v = some r) : loopG laws_szMsgS_t0 laws_szMsgS_B0 K s = v := loop_eq (ev_mono _ _) n h hv
theorem laws_szMsgS_main (x0 : List (Int × Int × Int × Int × List Int × Unit)) (x1 : Int) : laws_szMsgS_F (x0, (x1, ())) =
 brk (decide (IntKind.i64.wrap (x1 - (x0.length : Int)) < (0 : Int)))
 (some (((-1 : Int), ()), ((), ((), ()))))
 (loopG laws_szMsgS_t0 laws_szMsgS_B0 (laws_szMsgS_K0 x0 x1) ((x0, (IntKind.i64.wrap (x1 - (x0.length : Int)), ((0 : Int), ()))), ())) := by kernel_rfl
theorem laws_szMsgS_r0 {R : Type} (K : Ex → AS → Option R) (n : Nat) (t0 : List (Int × Int × Int × Int × List Int × Unit)) (t1 : Int) (t5 : Int) : iterG laws_szMsgS_t0 laws_szMsgS_B0 K (n + 1) ((t0, (t1, (t5, ()))), ()) =
 brk (decide (t5 < (t0.length : Int)))
 (ck (decide (0 ≤ t5) && decide (t5 < t0.length)) ((laws_szMsg_F (((rdD tMsg t0 t5).1, (((rdD tMsg t0 t5).2).1, ((((rdD tMsg t0 t5).2).2).1, (((((rdD tMsg t0 t5).2).2).2).1, ((((((rdD tMsg t0 t5).2).2).2).2).1, ()))))), (t1, ()))).bind fun y23 =>
 brk (decide (y23.1.1 < (0 : Int)))
 (K .ret (laws_szMsgS_x0_0 y23.1.1 (-1 : Int)))
 (iterG laws_szMsgS_t0 laws_szMsgS_B0 K n ((t0, (y23.1.1, (IntKind.i64.wrap (t5 + (1 : Int)), ()))), ()))))
 (K (.exit 0) (laws_szMsgS_x0_1 t1)) := by kernel_rfl
theorem laws_szMsgS_e0_0 (x0 : List (Int × Int × Int × Int × List Int × Unit)) (x1 : Int) (d0 : Int) (d1 : Int) : laws_szMsgS_K0 x0 x1 .ret (laws_szMsgS_x0_0 d0 d1) =
 some ((d1, ()), ((), ((), ()))) := by kernel_rfl
theorem laws_szMsgS_e0_1 (x0 : List (Int × Int × Int × Int × List Int × Unit)) (x1 : Int) (d0 : Int) : laws_szMsgS_K0 x0 x1 (.exit 0) (laws_szMsgS_x0_1 d0) =
 some ((d0, ()), ((), ((), ()))) := by kernel_rfl
/-! spec.l1In -/
noncomputable def spec_l1In_b : Code := bd Try.f101
def spec_l1In_T : List (Nat × Tm) := []
noncomputable def spec_l1In_E : Env := ⟨tt0, []⟩
noncomputable def spec_l1In_F : PsD [.ro tI, .ro tI, .ro tI] → Option (RsD [.own tB] × PsO [.ro tI, .ro tI, .ro tI]) := fun x => evFn spec_l1In_E spec_l1In_T Try.f101 spec_l1In_b [.ro tI, .ro tI, .ro tI] [.own tB] x
@[reducible] noncomputable def spec_l1In_C : Ct := ⟨[.ro tI, .ro tI, .ro tI], [.own tB], spec_l1In_F⟩
theorem spec_l1In_h (x : PsD [.ro tI, .ro tI, .ro tI]) (y : RsD [.own tB] × PsO [.ro tI, .ro tI, .ro tI]) (h : spec_l1In_F x = some y) : evFn spec_l1In_E spec_l1In_T Try.f101 spec_l1In_b [.ro tI, .ro tI, .ro tI] [.own tB] x = some y := h
theorem spec_l1In_c : ∀ f c, get spec_l1In_E.ct f = some c → Sat Try.prog f c := ct_nil
theorem spec_l1In_S : Sat Try.prog 101 spec_l1In_C := fn_ok2 (envOk _) spec_l1In_c mixedOk Try.func101 (by kernel_rfl : Try.f101.body = some spec_l1In_b) (by kernel_rfl) (by kernel_rfl) spec_l1In_h
noncomputable def spec_l1In_Ke  (x0 : Int) (x1 : Int) (x2 : Int) : Ex → AS → Option (RsD [.own tB] × PsO [.ro tI, .ro tI, .ro tI]) := endK spec_l1In_E Try.f101 [.ro tI, .ro tI, .ro tI] [.own tB] (initL [.ro tI, .ro tI, .ro tI] (x0, (x1, (x2, ()))) 0).1
theorem spec_l1In_main (x0 : Int) (x1 : Int) (x2 : Int) : spec_l1In_F (x0, (x1, (x2, ()))) =
 brk (decide (x1 ≤ x0))
 (some ((decide (x0 ≤ x2), ()), ((), ((), ((), ())))))
 (some ((false, ()), ((), ((), ((), ()))))) := by kernel_rfl
/-! spec.l1Min -/
noncomputable def spec_l1Min_b : Code := bd Try.f116
def spec_l1Min_T : List (Nat × Tm) := []
noncomputable def spec_l1Min_E : Env := ⟨tt0, []⟩
noncomputable def spec_l1Min_F : PsD [.ro tI, .ro tI] → Option (RsD [.own tI] × PsO [.ro tI, .ro tI]) := fun x => evFn spec_l1Min_E spec_l1Min_T Try.f116 spec_l1Min_b [.ro tI, .ro tI] [.own tI] x
@[reducible] noncomputable def spec_l1Min_C : Ct := ⟨[.ro tI, .ro tI], [.own tI], spec_l1Min_F⟩
theorem spec_l1Min_h (x : PsD [.ro tI, .ro tI]) (y : RsD [.own tI] × PsO [.ro tI, .ro tI]) (h : spec_l1Min_F x = some y) : evFn spec_l1Min_E spec_l1Min_T Try.f116 spec_l1Min_b [.ro tI, .ro tI] [.own tI] x = some y := h
theorem spec_l1Min_c : ∀ f c, get spec_l1Min_E.ct f = some c → Sat Try.prog f c := ct_nil
theorem spec_l1Min_S : Sat Try.prog 116 spec_l1Min_C := fn_ok2 (envOk _) spec_l1Min_c mixedOk Try.func116 (by kernel_rfl : Try.f116.body = some spec_l1Min_b) (by kernel_rfl) (by kernel_rfl) spec_l1Min_h
noncomputable def spec_l1Min_Ke  (x0 : Int) (x1 : Int) : Ex → AS → Option (RsD [.own tI] × PsO [.ro tI, .ro tI]) := endK spec_l1Min_E Try.f116 [.ro tI, .ro tI] [.own tI] (initL [.ro tI, .ro tI] (x0, (x1, ())) 0).1
theorem spec_l1Min_main (x0 : Int) (x1 : Int) : spec_l1Min_F (x0, (x1, ())) =
 brk (decide (x0 < x1))
 (some ((x0, ()), ((), ((), ()))))
 (some ((x1, ()), ((), ((), ())))) := by kernel_rfl
/-! spec.Run -/
noncomputable def spec_Run_b : Code := bd Try.f47
@[reducible] def spec_Run_t0 : Tm := ⟨[], [], [(0, .sc true tYs), (1, .sc true tI), (2, .sc true tI), (7, .sc true tI)], [], [7], []⟩
def spec_Run_T : List (Nat × Tm) := [(0, spec_Run_t0)]
noncomputable def spec_Run_E : Env := ⟨tt0, [(101, spec_l1In_C), (116, spec_l1Min_C)]⟩
noncomputable def spec_Run_F : PsD [.ro tYs, .ro tI, .ro tI] → Option (RsD [.own tI] × PsO [.ro tYs, .ro tI, .ro tI]) := fun x => evFn spec_Run_E spec_Run_T Try.f47 spec_Run_b [.ro tYs, .ro tI, .ro tI] [.own tI] x
@[reducible] noncomputable def spec_Run_C : Ct := ⟨[.ro tYs, .ro tI, .ro tI], [.own tI], spec_Run_F⟩
theorem spec_Run_h (x : PsD [.ro tYs, .ro tI, .ro tI]) (y : RsD [.own tI] × PsO [.ro tYs, .ro tI, .ro tI]) (h : spec_Run_F x = some y) : evFn spec_Run_E spec_Run_T Try.f47 spec_Run_b [.ro tYs, .ro tI, .ro tI] [.own tI] x = some y := h
theorem spec_Run_c : ∀ f c, get spec_Run_E.ct f = some c → Sat Try.prog f c := ct_cons spec_l1In_S (ct_cons spec_l1Min_S (ct_nil))
theorem spec_Run_S : Sat Try.prog 47 spec_Run_C := fn_ok2 (envOk _) spec_Run_c mixedOk Try.func47 (by kernel_rfl : Try.f47.body = some spec_Run_b) (by kernel_rfl) (by kernel_rfl) spec_Run_h
noncomputable def spec_Run_Ke  (x0 : List Int) (x1 : Int) (x2 : Int) : Ex → AS → Option (RsD [.own tI] × PsO [.ro tYs, .ro tI, .ro tI]) := endK spec_Run_E Try.f47 [.ro tYs, .ro tI, .ro tI] [.own tI] (initL [.ro tYs, .ro tI, .ro tI] (x0, (x1, (x2, ()))) 0).1
noncomputable def spec_Run_B0 {R : Type} : AS → (Ex → AS → Option R) → Option R := fun A K => ev spec_Run_E spec_Run_T 0 (cA (cA (cA (cB (cB (cB spec_Run_b)))))) A K
noncomputable def spec_Run_K0  (x0 : List Int) (x1 : Int) (x2 : Int) : Ex → AS → Option (RsD [.own tI] × PsO [.ro tYs, .ro tI, .ro tI]) := kBlk 0 (kSeq (fun A K => ev spec_Run_E spec_Run_T 1000 (cB (cB (cB (cB spec_Run_b)))) A K) (spec_Run_Ke x0 x1 x2))
noncomputable def spec_Run_x0_0 (d0 : Int) : AS := ⟨[(7, .v (.one (.d true tI d0)))], []⟩
theorem spec_Run_l0 {R : Type} {K : Ex → AS → Option R} {s : spec_Run_t0.D} (n : Nat) {v : Option R} (h : iterG spec_Run_t0 spec_Run_B0 K n s = v) (hv : ∃ r, v = some r) : loopG spec_Run_t0 spec_Run_B0 K s = v := loop_eq (ev_mono _ _) n h hv
theorem spec_Run_main (x0 : List Int) (x1 : Int) (x2 : Int) : spec_Run_F (x0, (x1, (x2, ()))) =
 (spec_l1In_F (x1, ((0 : Int), (IntKind.i64.wrap ((x0.length : Int) - (1 : Int)), ())))).bind fun y12 =>
 brk (!y12.1.1)
 (some (((0 : Int), ()), ((), ((), ((), ())))))
 ((spec_l1Min_F (x1, ((255 : Int), ()))).bind fun y17 =>
 (spec_l1In_F (x2, ((1 : Int), (y17.1.1, ())))).bind fun y18 =>
 brk (!y18.1.1)
 (some (((0 : Int), ()), ((), ((), ((), ())))))
 (loopG spec_Run_t0 spec_Run_B0 (spec_Run_K0 x0 x1 x2) ((x0, (x1, (x2, ((0 : Int), ())))), ()))) := by kernel_rfl
theorem spec_Run_r0 {R : Type} (K : Ex → AS → Option R) (n : Nat) (t0 : List Int) (t1 : Int) (t2 : Int) (t7 : Int) : iterG spec_Run_t0 spec_Run_B0 K (n + 1) ((t0, (t1, (t2, (t7, ())))), ()) =
 brk (decide (t7 < (100 : Int)))
 (brk (decide (IntKind.i64.wrap (t1 + t7) < (t0.length : Int)))
 (ck (decide (0 ≤ IntKind.i64.wrap (t1 + t7)) && decide (IntKind.i64.wrap (t1 + t7) < t0.length)) (ck (decide (0 ≤ IntKind.i64.wrap ((IntKind.i64.wrap (t1 + t7)) - t2)) && decide (IntKind.i64.wrap ((IntKind.i64.wrap (t1 + t7)) - t2) < t0.length)) (brk (decide (rdD tY t0 (IntKind.i64.wrap (t1 + t7)) = rdD tY t0 (IntKind.i64.wrap ((IntKind.i64.wrap (t1 + t7)) - t2))))
 (iterG spec_Run_t0 spec_Run_B0 K n ((t0, (t1, (t2, (IntKind.i64.wrap (t7 + (1 : Int)), ())))), ()))
 (K (.exit 0) (spec_Run_x0_0 t7)))))
 (K (.exit 0) (spec_Run_x0_0 t7)))
 (K (.exit 0) (spec_Run_x0_0 t7)) := by kernel_rfl
theorem spec_Run_e0_0 (x0 : List Int) (x1 : Int) (x2 : Int) (d0 : Int) : spec_Run_K0 x0 x1 x2 (.exit 0) (spec_Run_x0_0 d0) =
 some ((d0, ()), ((), ((), ((), ())))) := by kernel_rfl
/-! spec.l3Best -/
noncomputable def spec_l3Best_b : Code := bd Try.f115
@[reducible] def spec_l3Best_t0 : Tm := ⟨[], [], [(0, .sc true tYs), (1, .sc true tI), (6, .sc true tI), (7, .sc true tI), (8, .sc true tI)], [], [6, 7], []⟩
def spec_l3Best_T : List (Nat × Tm) := [(0, spec_l3Best_t0)]
noncomputable def spec_l3Best_E : Env := ⟨tt0, [(47, spec_Run_C), (116, spec_l1Min_C)]⟩
noncomputable def spec_l3Best_F : PsD [.ro tYs, .ro tI] → Option (RsD [.own tI, .own tI] × PsO [.ro tYs, .ro tI]) := fun x => evFn spec_l3Best_E spec_l3Best_T Try.f115 spec_l3Best_b [.ro tYs, .ro tI] [.own tI, .own tI] x
@[reducible] noncomputable def spec_l3Best_C : Ct := ⟨[.ro tYs, .ro tI], [.own tI, .own tI], spec_l3Best_F⟩
theorem spec_l3Best_h (x : PsD [.ro tYs, .ro tI]) (y : RsD [.own tI, .own tI] × PsO [.ro tYs, .ro tI]) (h : spec_l3Best_F x = some y) : evFn spec_l3Best_E spec_l3Best_T Try.f115 spec_l3Best_b [.ro tYs, .ro tI] [.own tI, .own tI] x = some y := h
theorem spec_l3Best_c : ∀ f c, get spec_l3Best_E.ct f = some c → Sat Try.prog f c := ct_cons spec_Run_S (ct_cons spec_l1Min_S (ct_nil))
theorem spec_l3Best_S : Sat Try.prog 115 spec_l3Best_C := fn_ok2 (envOk _) spec_l3Best_c mixedOk Try.func115 (by kernel_rfl : Try.f115.body = some spec_l3Best_b) (by kernel_rfl) (by kernel_rfl) spec_l3Best_h
noncomputable def spec_l3Best_Ke  (x0 : List Int) (x1 : Int) : Ex → AS → Option (RsD [.own tI, .own tI] × PsO [.ro tYs, .ro tI]) := endK spec_l3Best_E Try.f115 [.ro tYs, .ro tI] [.own tI, .own tI] (initL [.ro tYs, .ro tI] (x0, (x1, ())) 0).1
noncomputable def spec_l3Best_B0 {R : Type} : AS → (Ex → AS → Option R) → Option R := fun A K => ev spec_l3Best_E spec_l3Best_T 0 (cA (cA (cB (cA (cB (cB spec_l3Best_b)))))) A K
noncomputable def spec_l3Best_K0  (x0 : List Int) (x1 : Int) : Ex → AS → Option (RsD [.own tI, .own tI] × PsO [.ro tYs, .ro tI]) := kBlk 0 (kSeq (fun A K => ev spec_l3Best_E spec_l3Best_T 1000 (cB (cB (cB spec_l3Best_b))) A K) (spec_l3Best_Ke x0 x1))
noncomputable def spec_l3Best_x0_0 (d0 : Int) (d1 : Int) : AS := ⟨[(6, .v (.one (.d true tI d0))), (7, .v (.one (.d true tI d1)))], []⟩
theorem spec_l3Best_l0 {R : Type} {K : Ex → AS → Option R} {s : spec_l3Best_t0.D} (n : Nat) {v : Option R} (h : iterG spec_l3Best_t0 spec_l3Best_B0 K n s = v) (hv : ∃ r, v = some r) : loopG spec_l3Best_t0 spec_l3Best_B0 K s = v := loop_eq (ev_mono _ _) n h hv
theorem spec_l3Best_main (x0 : List Int) (x1 : Int) : spec_l3Best_F (x0, (x1, ())) =
 loopG spec_l3Best_t0 spec_l3Best_B0 (spec_l3Best_K0 x0 x1) ((x0, (x1, ((0 : Int), ((0 : Int), ((1 : Int), ()))))), ()) := by kernel_rfl
theorem spec_l3Best_r0 {R : Type} (K : Ex → AS → Option R) (n : Nat) (t0 : List Int) (t1 : Int) (t6 : Int) (t7 : Int) (t8 : Int) : iterG spec_l3Best_t0 spec_l3Best_B0 K (n + 1) ((t0, (t1, (t6, (t7, (t8, ()))))), ()) =
 (spec_l1Min_F (t1, ((255 : Int), ()))).bind fun y12 =>
 brk (decide (t8 ≤ y12.1.1))
 ((spec_Run_F (t0, (t1, (t8, ())))).bind fun y19 =>
 brk (decide (t7 < y19.1.1))
 (iterG spec_l3Best_t0 spec_l3Best_B0 K n ((t0, (t1, (t8, (y19.1.1, (IntKind.i64.wrap (t8 + (1 : Int)), ()))))), ()))
 (iterG spec_l3Best_t0 spec_l3Best_B0 K n ((t0, (t1, (t6, (t7, (IntKind.i64.wrap (t8 + (1 : Int)), ()))))), ())))
 (K (.exit 0) (spec_l3Best_x0_0 t6 t7)) := by kernel_rfl
theorem spec_l3Best_e0_0 (x0 : List Int) (x1 : Int) (d0 : Int) (d1 : Int) : spec_l3Best_K0 x0 x1 (.exit 0) (spec_l3Best_x0_0 d0 d1) =
 some ((d0, (d1, ())), ((), ((), ()))) := by kernel_rfl
/-! spec.Squeeze -/
noncomputable def spec_Squeeze_b : Code := bd Try.f45
@[reducible] def spec_Squeeze_t0 : Tm := ⟨[(3, 960000)], [], [(0, .sc true tYs), (3, .own 960000), (4, .sc true tI)], [(960000, .arr 5 tY)], [3], [960000]⟩
def spec_Squeeze_T : List (Nat × Tm) := [(0, spec_Squeeze_t0)]
noncomputable def spec_Squeeze_E : Env := ⟨tt0, [(115, spec_l3Best_C)]⟩
noncomputable def spec_Squeeze_F : PsD [.ro tYs] → Option (RsD [.own tYs] × PsO [.ro tYs]) := fun x => evFn spec_Squeeze_E spec_Squeeze_T Try.f45 spec_Squeeze_b [.ro tYs] [.own tYs] x
@[reducible] noncomputable def spec_Squeeze_C : Ct := ⟨[.ro tYs], [.own tYs], spec_Squeeze_F⟩
theorem spec_Squeeze_h (x : PsD [.ro tYs]) (y : RsD [.own tYs] × PsO [.ro tYs]) (h : spec_Squeeze_F x = some y) : evFn spec_Squeeze_E spec_Squeeze_T Try.f45 spec_Squeeze_b [.ro tYs] [.own tYs] x = some y := h
theorem spec_Squeeze_c : ∀ f c, get spec_Squeeze_E.ct f = some c → Sat Try.prog f c := ct_cons spec_l3Best_S (ct_nil)
theorem spec_Squeeze_S : Sat Try.prog 45 spec_Squeeze_C := fn_ok2 (envOk _) spec_Squeeze_c mixedOk Try.func45 (by kernel_rfl : Try.f45.body = some spec_Squeeze_b) (by kernel_rfl) (by kernel_rfl) spec_Squeeze_h
noncomputable def spec_Squeeze_Ke  (x0 : List Int) : Ex → AS → Option (RsD [.own tYs] × PsO [.ro tYs]) := endK spec_Squeeze_E Try.f45 [.ro tYs] [.own tYs] (initL [.ro tYs] (x0, ()) 0).1
noncomputable def spec_Squeeze_B0 {R : Type} : AS → (Ex → AS → Option R) → Option R := fun A K => ev spec_Squeeze_E spec_Squeeze_T 0 (cA (cA (cB (cA (cB (cB (cB spec_Squeeze_b))))))) A K
noncomputable def spec_Squeeze_K0  (x0 : List Int) : Ex → AS → Option (RsD [.own tYs] × PsO [.ro tYs]) := kBlk 0 (kSeq (fun A K => ev spec_Squeeze_E spec_Squeeze_T 1000 (cB (cB (cB (cB spec_Squeeze_b)))) A K) (spec_Squeeze_Ke x0))
noncomputable def spec_Squeeze_x0_0 (d0 : List Int) : AS := ⟨[(3, .v (.one (.own 960000)))], [(960000, .arr 5 tY d0)]⟩
theorem spec_Squeeze_l0 {R : Type} {K : Ex → AS → Option R} {s : spec_Squeeze_t0.D} (n : Nat) {v : Option R} (h : iterG spec_Squeeze_t0 spec_Squeeze_B0 K n s = v) (hv : ∃ r, v = some r) : loopG spec_Squeeze_t0 spec_Squeeze_B0 K s = v := loop_eq (ev_mono _ _) n h hv
theorem spec_Squeeze_main (x0 : List Int) : spec_Squeeze_F (x0, ()) =
 brk (decide ((3000 : Int) < (x0.length : Int)))
 (some ((([] : List Int), ()), ((), ())))
 (loopG spec_Squeeze_t0 spec_Squeeze_B0 (spec_Squeeze_K0 x0) ((x0, ((0 : Int), ())), (([] : List Int), ()))) := by kernel_rfl
theorem spec_Squeeze_r0 {R : Type} (K : Ex → AS → Option R) (n : Nat) (t0 : List Int) (t4 : Int) (a960000 : List Int) : iterG spec_Squeeze_t0 spec_Squeeze_B0 K (n + 1) ((t0, (t4, ())), (a960000, ())) =
 brk (decide (t4 < (t0.length : Int)))
 ((spec_l3Best_F (t0, (t4, ()))).bind fun y19 =>
 brk (decide ((3 : Int) ≤ y19.1.2.1))
 (ck (decide ((a960000.length + [IntKind.u8.wrap (IntKind.i64.wrap ((128 : Int) + y19.1.2.1)), IntKind.u8.wrap y19.1.1].length) * 1 ≤ big47)) (iterG spec_Squeeze_t0 spec_Squeeze_B0 K n ((t0, (IntKind.i64.wrap (t4 + y19.1.2.1), ())), (a960000 ++ [IntKind.u8.wrap (IntKind.i64.wrap ((128 : Int) + y19.1.2.1)), IntKind.u8.wrap y19.1.1], ()))))
 (ck (decide (0 ≤ t4) && decide (t4 < t0.length)) (brk (decide (rdD tY t0 t4 = (0 : Int)))
 (ck (decide ((a960000.length + [(0 : Int)].length) * 1 ≤ big47)) (ck (decide (0 ≤ t4) && decide (t4 < t0.length)) (ck (decide (((a960000 ++ [(0 : Int)]).length + [rdD tY t0 t4].length) * 1 ≤ big47)) (iterG spec_Squeeze_t0 spec_Squeeze_B0 K n ((t0, (IntKind.i64.wrap (t4 + (1 : Int)), ())), ((a960000 ++ [(0 : Int)]) ++ [rdD tY t0 t4], ()))))))
 (ck (decide (0 ≤ t4) && decide (t4 < t0.length)) (brk (decide ((127 : Int) < rdD tY t0 t4))
 (ck (decide ((a960000.length + [(0 : Int)].length) * 1 ≤ big47)) (ck (decide (0 ≤ t4) && decide (t4 < t0.length)) (ck (decide (((a960000 ++ [(0 : Int)]).length + [rdD tY t0 t4].length) * 1 ≤ big47)) (iterG spec_Squeeze_t0 spec_Squeeze_B0 K n ((t0, (IntKind.i64.wrap (t4 + (1 : Int)), ())), ((a960000 ++ [(0 : Int)]) ++ [rdD tY t0 t4], ()))))))
 (ck (decide (0 ≤ t4) && decide (t4 < t0.length)) (ck (decide ((a960000.length + [rdD tY t0 t4].length) * 1 ≤ big47)) (iterG spec_Squeeze_t0 spec_Squeeze_B0 K n ((t0, (IntKind.i64.wrap (t4 + (1 : Int)), ())), (a960000 ++ [rdD tY t0 t4], ()))))))))))
 (K (.exit 0) (spec_Squeeze_x0_0 a960000)) := by kernel_rfl
theorem spec_Squeeze_e0_0 (x0 : List Int) (d0 : List Int) : spec_Squeeze_K0 x0 (.exit 0) (spec_Squeeze_x0_0 d0) =
 some ((d0, ()), ((), ())) := by kernel_rfl
/-! spec.PutNum -/
noncomputable def spec_PutNum_b : Code := bd Try.f23
@[reducible] def spec_PutNum_t0 : Tm := ⟨[(3, 960000)], [], [(0, .sc true tI), (3, .own 960000)], [(960000, .arr 5 tY)], [0, 3], [960000]⟩
def spec_PutNum_T : List (Nat × Tm) := [(0, spec_PutNum_t0)]
noncomputable def spec_PutNum_E : Env := ⟨tt0, [(101, spec_l1In_C)]⟩
noncomputable def spec_PutNum_F : PsD [.ro tI] → Option (RsD [.own tYs] × PsO [.ro tI]) := fun x => evFn spec_PutNum_E spec_PutNum_T Try.f23 spec_PutNum_b [.ro tI] [.own tYs] x
@[reducible] noncomputable def spec_PutNum_C : Ct := ⟨[.ro tI], [.own tYs], spec_PutNum_F⟩
theorem spec_PutNum_h (x : PsD [.ro tI]) (y : RsD [.own tYs] × PsO [.ro tI]) (h : spec_PutNum_F x = some y) : evFn spec_PutNum_E spec_PutNum_T Try.f23 spec_PutNum_b [.ro tI] [.own tYs] x = some y := h
theorem spec_PutNum_c : ∀ f c, get spec_PutNum_E.ct f = some c → Sat Try.prog f c := ct_cons spec_l1In_S (ct_nil)
theorem spec_PutNum_S : Sat Try.prog 23 spec_PutNum_C := fn_ok2 (envOk _) spec_PutNum_c mixedOk Try.func23 (by kernel_rfl : Try.f23.body = some spec_PutNum_b) (by kernel_rfl) (by kernel_rfl) spec_PutNum_h
noncomputable def spec_PutNum_Ke  (x0 : Int) : Ex → AS → Option (RsD [.own tYs] × PsO [.ro tI]) := endK spec_PutNum_E Try.f23 [.ro tI] [.own tYs] (initL [.ro tI] (x0, ()) 0).1
noncomputable def spec_PutNum_B0 {R : Type} : AS → (Ex → AS → Option R) → Option R := fun A K => ev spec_PutNum_E spec_PutNum_T 0 (cA (cA (cA (cB (cB (cB spec_PutNum_b)))))) A K
noncomputable def spec_PutNum_K0  (x0 : Int) : Ex → AS → Option (RsD [.own tYs] × PsO [.ro tI]) := kBlk 0 (kSeq (fun A K => ev spec_PutNum_E spec_PutNum_T 1000 (cB (cB (cB (cB spec_PutNum_b)))) A K) (spec_PutNum_Ke x0))
noncomputable def spec_PutNum_x0_0 (d0 : Int) (d1 : List Int) : AS := ⟨[(0, .v (.one (.d true tI d0))), (3, .v (.one (.own 960000)))], [(960000, .arr 5 tY d1)]⟩
theorem spec_PutNum_l0 {R : Type} {K : Ex → AS → Option R} {s : spec_PutNum_t0.D} (n : Nat) {v : Option R} (h : iterG spec_PutNum_t0 spec_PutNum_B0 K n s = v) (hv : ∃ r, v = some r) : loopG spec_PutNum_t0 spec_PutNum_B0 K s = v := loop_eq (ev_mono _ _) n h hv
theorem spec_PutNum_main (x0 : Int) : spec_PutNum_F (x0, ()) =
 (spec_l1In_F (x0, ((0 : Int), ((2147483647 : Int), ())))).bind fun y6 =>
 brk (!y6.1.1)
 (some ((([] : List Int), ()), ((), ())))
 (loopG spec_PutNum_t0 spec_PutNum_B0 (spec_PutNum_K0 x0) ((x0, ()), (([] : List Int), ()))) := by kernel_rfl
theorem spec_PutNum_r0 {R : Type} (K : Ex → AS → Option R) (n : Nat) (t0 : Int) (a960000 : List Int) : iterG spec_PutNum_t0 spec_PutNum_B0 K (n + 1) ((t0, ()), (a960000, ())) =
 brk (decide ((127 : Int) < t0))
 (ck (decide ((a960000.length + [IntKind.u8.wrap (IntKind.i64.wrap ((t0.tmod (128 : Int)) + (128 : Int)))].length) * 1 ≤ big47)) (iterG spec_PutNum_t0 spec_PutNum_B0 K n ((IntKind.i64.wrap (t0.tdiv (128 : Int)), ()), (a960000 ++ [IntKind.u8.wrap (IntKind.i64.wrap ((t0.tmod (128 : Int)) + (128 : Int)))], ()))))
 (K (.exit 0) (spec_PutNum_x0_0 t0 a960000)) := by kernel_rfl
theorem spec_PutNum_e0_0 (x0 : Int) (d0 : Int) (d1 : List Int) : spec_PutNum_K0 x0 (.exit 0) (spec_PutNum_x0_0 d0 d1) =
 ck (decide ((d1.length + [IntKind.u8.wrap d0].length) * 1 ≤ big47)) (some ((d1 ++ [IntKind.u8.wrap d0], ()), ((), ()))) := by kernel_rfl
/-! spec.SumOf -/
noncomputable def spec_SumOf_b : Code := bd Try.f27
@[reducible] def spec_SumOf_t0 : Tm := ⟨[], [], [(0, .sc true tYs), (3, .sc true tI), (4, .sc true tI), (5, .sc true tI)], [], [3, 4], []⟩
def spec_SumOf_T : List (Nat × Tm) := [(0, spec_SumOf_t0)]
noncomputable def spec_SumOf_E : Env := ⟨tt0, []⟩
noncomputable def spec_SumOf_F : PsD [.ro tYs] → Option (RsD [.own tI] × PsO [.ro tYs]) := fun x => evFn spec_SumOf_E spec_SumOf_T Try.f27 spec_SumOf_b [.ro tYs] [.own tI] x
@[reducible] noncomputable def spec_SumOf_C : Ct := ⟨[.ro tYs], [.own tI], spec_SumOf_F⟩
theorem spec_SumOf_h (x : PsD [.ro tYs]) (y : RsD [.own tI] × PsO [.ro tYs]) (h : spec_SumOf_F x = some y) : evFn spec_SumOf_E spec_SumOf_T Try.f27 spec_SumOf_b [.ro tYs] [.own tI] x = some y := h
theorem spec_SumOf_c : ∀ f c, get spec_SumOf_E.ct f = some c → Sat Try.prog f c := ct_nil
theorem spec_SumOf_S : Sat Try.prog 27 spec_SumOf_C := fn_ok2 (envOk _) spec_SumOf_c mixedOk Try.func27 (by kernel_rfl : Try.f27.body = some spec_SumOf_b) (by kernel_rfl) (by kernel_rfl) spec_SumOf_h
noncomputable def spec_SumOf_Ke  (x0 : List Int) : Ex → AS → Option (RsD [.own tI] × PsO [.ro tYs]) := endK spec_SumOf_E Try.f27 [.ro tYs] [.own tI] (initL [.ro tYs] (x0, ()) 0).1
noncomputable def spec_SumOf_B0 {R : Type} : AS → (Ex → AS → Option R) → Option R := fun A K => ev spec_SumOf_E spec_SumOf_T 0 (cA (cA (cB (cA (cB (cB spec_SumOf_b)))))) A K
noncomputable def spec_SumOf_K0  (x0 : List Int) : Ex → AS → Option (RsD [.own tI] × PsO [.ro tYs]) := kBlk 0 (kSeq (fun A K => ev spec_SumOf_E spec_SumOf_T 1000 (cB (cB (cB spec_SumOf_b))) A K) (spec_SumOf_Ke x0))
noncomputable def spec_SumOf_x0_0 (d0 : Int) (d1 : Int) : AS := ⟨[(3, .v (.one (.d true tI d0))), (4, .v (.one (.d true tI d1)))], []⟩
theorem spec_SumOf_l0 {R : Type} {K : Ex → AS → Option R} {s : spec_SumOf_t0.D} (n : Nat) {v : Option R} (h : iterG spec_SumOf_t0 spec_SumOf_B0 K n s = v) (hv : ∃ r, v = some r) : loopG spec_SumOf_t0 spec_SumOf_B0 K s = v := loop_eq (ev_mono _ _) n h hv
theorem spec_SumOf_main (x0 : List Int) : spec_SumOf_F (x0, ()) =
 loopG spec_SumOf_t0 spec_SumOf_B0 (spec_SumOf_K0 x0) ((x0, ((1 : Int), ((0 : Int), ((0 : Int), ())))), ()) := by kernel_rfl
theorem spec_SumOf_r0 {R : Type} (K : Ex → AS → Option R) (n : Nat) (t0 : List Int) (t3 : Int) (t4 : Int) (t5 : Int) : iterG spec_SumOf_t0 spec_SumOf_B0 K (n + 1) ((t0, (t3, (t4, (t5, ())))), ()) =
 brk (decide (t5 < (t0.length : Int)))
 (ck (decide (0 ≤ t5) && decide (t5 < t0.length)) (iterG spec_SumOf_t0 spec_SumOf_B0 K n ((t0, ((IntKind.i64.wrap (t3 + (IntKind.i64.wrap (rdD tY t0 t5)))).tmod (65521 : Int), ((IntKind.i64.wrap (t4 + ((IntKind.i64.wrap (t3 + (IntKind.i64.wrap (rdD tY t0 t5)))).tmod (65521 : Int)))).tmod (65521 : Int), (IntKind.i64.wrap (t5 + (1 : Int)), ())))), ())))
 (K (.exit 0) (spec_SumOf_x0_0 t3 t4)) := by kernel_rfl
theorem spec_SumOf_e0_0 (x0 : List Int) (d0 : Int) (d1 : Int) : spec_SumOf_K0 x0 (.exit 0) (spec_SumOf_x0_0 d0 d1) =
 some ((IntKind.i64.wrap ((IntKind.i64.wrap (d1 * (65536 : Int))) + d0), ()), ((), ())) := by kernel_rfl
/-! spec.l1Bit -/
noncomputable def spec_l1Bit_b : Code := bd Try.f127
def spec_l1Bit_T : List (Nat × Tm) := []
noncomputable def spec_l1Bit_E : Env := ⟨tt0, []⟩
noncomputable def spec_l1Bit_F : PsD [.ro tB] → Option (RsD [.own tI] × PsO [.ro tB]) := fun x => evFn spec_l1Bit_E spec_l1Bit_T Try.f127 spec_l1Bit_b [.ro tB] [.own tI] x
@[reducible] noncomputable def spec_l1Bit_C : Ct := ⟨[.ro tB], [.own tI], spec_l1Bit_F⟩
theorem spec_l1Bit_h (x : PsD [.ro tB]) (y : RsD [.own tI] × PsO [.ro tB]) (h : spec_l1Bit_F x = some y) : evFn spec_l1Bit_E spec_l1Bit_T Try.f127 spec_l1Bit_b [.ro tB] [.own tI] x = some y := h
theorem spec_l1Bit_c : ∀ f c, get spec_l1Bit_E.ct f = some c → Sat Try.prog f c := ct_nil
theorem spec_l1Bit_S : Sat Try.prog 127 spec_l1Bit_C := fn_ok2 (envOk _) spec_l1Bit_c mixedOk Try.func127 (by kernel_rfl : Try.f127.body = some spec_l1Bit_b) (by kernel_rfl) (by kernel_rfl) spec_l1Bit_h
noncomputable def spec_l1Bit_Ke  (x0 : Bool) : Ex → AS → Option (RsD [.own tI] × PsO [.ro tB]) := endK spec_l1Bit_E Try.f127 [.ro tB] [.own tI] (initL [.ro tB] (x0, ()) 0).1
theorem spec_l1Bit_main (x0 : Bool) : spec_l1Bit_F (x0, ()) =
 brk x0
 (some (((1 : Int), ()), ((), ())))
 (some (((0 : Int), ()), ((), ()))) := by kernel_rfl
/-! spec.l2Has -/
noncomputable def spec_l2Has_b : Code := bd Try.f107
@[reducible] def spec_l2Has_t0 : Tm := ⟨[], [], [(0, .sc true tIs), (1, .sc true tI), (5, .sc true tI)], [], [4], []⟩
def spec_l2Has_T : List (Nat × Tm) := [(0, spec_l2Has_t0)]
noncomputable def spec_l2Has_E : Env := ⟨tt0, []⟩
noncomputable def spec_l2Has_F : PsD [.ro tIs, .ro tI] → Option (RsD [.own tB] × PsO [.ro tIs, .ro tI]) := fun x => evFn spec_l2Has_E spec_l2Has_T Try.f107 spec_l2Has_b [.ro tIs, .ro tI] [.own tB] x
@[reducible] noncomputable def spec_l2Has_C : Ct := ⟨[.ro tIs, .ro tI], [.own tB], spec_l2Has_F⟩
theorem spec_l2Has_h (x : PsD [.ro tIs, .ro tI]) (y : RsD [.own tB] × PsO [.ro tIs, .ro tI]) (h : spec_l2Has_F x = some y) : evFn spec_l2Has_E spec_l2Has_T Try.f107 spec_l2Has_b [.ro tIs, .ro tI] [.own tB] x = some y := h
theorem spec_l2Has_c : ∀ f c, get spec_l2Has_E.ct f = some c → Sat Try.prog f c := ct_nil
theorem spec_l2Has_S : Sat Try.prog 107 spec_l2Has_C := fn_ok2 (envOk _) spec_l2Has_c mixedOk Try.func107 (by kernel_rfl : Try.f107.body = some spec_l2Has_b) (by kernel_rfl) (by kernel_rfl) spec_l2Has_h
noncomputable def spec_l2Has_Ke  (x0 : List Int) (x1 : Int) : Ex → AS → Option (RsD [.own tB] × PsO [.ro tIs, .ro tI]) := endK spec_l2Has_E Try.f107 [.ro tIs, .ro tI] [.own tB] (initL [.ro tIs, .ro tI] (x0, (x1, ())) 0).1
noncomputable def spec_l2Has_B0 {R : Type} : AS → (Ex → AS → Option R) → Option R := fun A K => ev spec_l2Has_E spec_l2Has_T 0 (cA (cA (cB (cA (cB spec_l2Has_b))))) A K
noncomputable def spec_l2Has_K0  (x0 : List Int) (x1 : Int) : Ex → AS → Option (RsD [.own tB] × PsO [.ro tIs, .ro tI]) := kBlk 0 (kSeq (fun A K => ev spec_l2Has_E spec_l2Has_T 1000 (cB (cB spec_l2Has_b)) A K) (spec_l2Has_Ke x0 x1))
noncomputable def spec_l2Has_x0_0 (d0 : Bool) : AS := ⟨[(4, .v (.one (.d true tB d0)))], []⟩
noncomputable def spec_l2Has_x0_1 : AS := ⟨[], []⟩
theorem spec_l2Has_l0 {R : Type} {K : Ex → AS → Option R} {s : spec_l2Has_t0.D} (n : Nat) {v : Option R} (h : iterG spec_l2Has_t0 spec_l2Has_B0 K n s = v) (hv : ∃ r, v = some r) : loopG spec_l2Has_t0 spec_l2Has_B0 K s = v := loop_eq (ev_mono _ _) n h hv
theorem spec_l2Has_main (x0 : List Int) (x1 : Int) : spec_l2Has_F (x0, (x1, ())) =
 loopG spec_l2Has_t0 spec_l2Has_B0 (spec_l2Has_K0 x0 x1) ((x0, (x1, ((0 : Int), ()))), ()) := by kernel_rfl
theorem spec_l2Has_r0 {R : Type} (K : Ex → AS → Option R) (n : Nat) (t0 : List Int) (t1 : Int) (t5 : Int) : iterG spec_l2Has_t0 spec_l2Has_B0 K (n + 1) ((t0, (t1, (t5, ()))), ()) =
 brk (decide (t5 < (t0.length : Int)))
 (ck (decide (0 ≤ t5) && decide (t5 < t0.length)) (brk (decide (rdD tI t0 t5 = t1))
 (K .ret (spec_l2Has_x0_0 true))
 (iterG spec_l2Has_t0 spec_l2Has_B0 K n ((t0, (t1, (IntKind.i64.wrap (t5 + (1 : Int)), ()))), ()))))
 (K (.exit 0) (spec_l2Has_x0_1)) := by kernel_rfl
theorem spec_l2Has_e0_0 (x0 : List Int) (x1 : Int) (d0 : Bool) : spec_l2Has_K0 x0 x1 .ret (spec_l2Has_x0_0 d0) =
 some ((d0, ()), ((), ((), ()))) := by kernel_rfl
theorem spec_l2Has_e0_1 (x0 : List Int) (x1 : Int) : spec_l2Has_K0 x0 x1 (.exit 0) (spec_l2Has_x0_1) =
 some ((false, ()), ((), ((), ()))) := by kernel_rfl
/-! spec.GensOk -/
noncomputable def spec_GensOk_b : Code := bd Try.f142
@[reducible] def spec_GensOk_t0 : Tm := ⟨[], [], [(0, .sc true tIs), (3, .sc true tI)], [], [0, 2], []⟩
def spec_GensOk_T : List (Nat × Tm) := [(0, spec_GensOk_t0)]
noncomputable def spec_GensOk_E : Env := ⟨tt0, [(101, spec_l1In_C), (107, spec_l2Has_C)]⟩
noncomputable def spec_GensOk_F : PsD [.ro tIs] → Option (RsD [.own tB] × PsO [.ro tIs]) := fun x => evFn spec_GensOk_E spec_GensOk_T Try.f142 spec_GensOk_b [.ro tIs] [.own tB] x
@[reducible] noncomputable def spec_GensOk_C : Ct := ⟨[.ro tIs], [.own tB], spec_GensOk_F⟩
theorem spec_GensOk_h (x : PsD [.ro tIs]) (y : RsD [.own tB] × PsO [.ro tIs]) (h : spec_GensOk_F x = some y) : evFn spec_GensOk_E spec_GensOk_T Try.f142 spec_GensOk_b [.ro tIs] [.own tB] x = some y := h
theorem spec_GensOk_c : ∀ f c, get spec_GensOk_E.ct f = some c → Sat Try.prog f c := ct_cons spec_l1In_S (ct_cons spec_l2Has_S (ct_nil))
theorem spec_GensOk_S : Sat Try.prog 142 spec_GensOk_C := fn_ok2 (envOk _) spec_GensOk_c mixedOk Try.func142 (by kernel_rfl : Try.f142.body = some spec_GensOk_b) (by kernel_rfl) (by kernel_rfl) spec_GensOk_h
noncomputable def spec_GensOk_Ke  (x0 : List Int) : Ex → AS → Option (RsD [.own tB] × PsO [.ro tIs]) := endK spec_GensOk_E Try.f142 [.ro tIs] [.own tB] (initL [.ro tIs] (x0, ()) 0).1
noncomputable def spec_GensOk_B0 {R : Type} : AS → (Ex → AS → Option R) → Option R := fun A K => ev spec_GensOk_E spec_GensOk_T 0 (cA (cA (cB (cA (cB spec_GensOk_b))))) A K
noncomputable def spec_GensOk_K0  (x0 : List Int) : Ex → AS → Option (RsD [.own tB] × PsO [.ro tIs]) := kBlk 0 (kSeq (fun A K => ev spec_GensOk_E spec_GensOk_T 1000 (cB (cB spec_GensOk_b)) A K) (spec_GensOk_Ke x0))
noncomputable def spec_GensOk_x0_0 (d0 : List Int) (d1 : Bool) : AS := ⟨[(0, .v (.one (.d true tIs d0))), (2, .v (.one (.d true tB d1)))], []⟩
noncomputable def spec_GensOk_x0_1 (d0 : List Int) : AS := ⟨[(0, .v (.one (.d true tIs d0)))], []⟩
theorem spec_GensOk_l0 {R : Type} {K : Ex → AS → Option R} {s : spec_GensOk_t0.D} (n : Nat) {v : Option R} (h : iterG spec_GensOk_t0 spec_GensOk_B0 K n s = v) (hv : ∃ r, v = some r) : loopG spec_GensOk_t0 spec_GensOk_B0 K s = v := loop_eq (ev_mono _ _) n h hv
theorem spec_GensOk_main (x0 : List Int) : spec_GensOk_F (x0, ()) =
 loopG spec_GensOk_t0 spec_GensOk_B0 (spec_GensOk_K0 x0) ((x0, ((0 : Int), ())), ()) := by kernel_rfl
theorem spec_GensOk_r0 {R : Type} (K : Ex → AS → Option R) (n : Nat) (t0 : List Int) (t3 : Int) : iterG spec_GensOk_t0 spec_GensOk_B0 K (n + 1) ((t0, (t3, ())), ()) =
 brk (decide (t3 < (t0.length : Int)))
 (ck (decide (0 ≤ t3) && decide (t3 < t0.length)) ((spec_l1In_F (rdD tI t0 t3, ((1 : Int), ((100000 : Int), ())))).bind fun y14 =>
 brk (!y14.1.1)
 (K .ret (spec_GensOk_x0_0 t0 false))
 (ck (decide (0 ≤ (0 : Int)) && decide ((0 : Int) ≤ t3) && decide (t3 ≤ t0.length)) (ck (decide (0 ≤ t3) && decide (t3 < t0.length)) ((spec_l2Has_F ((t0.take t3.toNat).drop (0 : Int).toNat, (rdD tI t0 t3, ()))).bind fun y24 =>
 brk y24.1.1
 (K .ret (spec_GensOk_x0_0 t0 false))
 (iterG spec_GensOk_t0 spec_GensOk_B0 K n ((t0, (IntKind.i64.wrap (t3 + (1 : Int)), ())), ())))))))
 (K (.exit 0) (spec_GensOk_x0_1 t0)) := by kernel_rfl
theorem spec_GensOk_e0_0 (x0 : List Int) (d0 : List Int) (d1 : Bool) : spec_GensOk_K0 x0 .ret (spec_GensOk_x0_0 d0 d1) =
 some ((d1, ()), ((), ())) := by kernel_rfl
theorem spec_GensOk_e0_1 (x0 : List Int) (d0 : List Int) : spec_GensOk_K0 x0 (.exit 0) (spec_GensOk_x0_1 d0) =
 some ((decide ((d0.length : Int) ≤ (12 : Int)), ()), ((), ())) := by kernel_rfl
/-! spec.MsgOk -/
noncomputable def spec_MsgOk_b : Code := bd Try.f118
def spec_MsgOk_T : List (Nat × Tm) := []
noncomputable def spec_MsgOk_E : Env := ⟨tt0, [(101, spec_l1In_C), (127, spec_l1Bit_C), (142, spec_GensOk_C)]⟩
noncomputable def spec_MsgOk_F : PsD [.ro tMsg] → Option (RsD [.own tB] × PsO [.ro tMsg]) := fun x => evFn spec_MsgOk_E spec_MsgOk_T Try.f118 spec_MsgOk_b [.ro tMsg] [.own tB] x
@[reducible] noncomputable def spec_MsgOk_C : Ct := ⟨[.ro tMsg], [.own tB], spec_MsgOk_F⟩
theorem spec_MsgOk_h (x : PsD [.ro tMsg]) (y : RsD [.own tB] × PsO [.ro tMsg]) (h : spec_MsgOk_F x = some y) : evFn spec_MsgOk_E spec_MsgOk_T Try.f118 spec_MsgOk_b [.ro tMsg] [.own tB] x = some y := h
theorem spec_MsgOk_c : ∀ f c, get spec_MsgOk_E.ct f = some c → Sat Try.prog f c := ct_cons spec_l1In_S (ct_cons spec_l1Bit_S (ct_cons spec_GensOk_S (ct_nil)))
theorem spec_MsgOk_S : Sat Try.prog 118 spec_MsgOk_C := fn_ok2 (envOk _) spec_MsgOk_c mixedOk Try.func118 (by kernel_rfl : Try.f118.body = some spec_MsgOk_b) (by kernel_rfl) (by kernel_rfl) spec_MsgOk_h
noncomputable def spec_MsgOk_Ke  (x0 : Int × Int × Int × Int × List Int × Unit) : Ex → AS → Option (RsD [.own tB] × PsO [.ro tMsg]) := endK spec_MsgOk_E Try.f118 [.ro tMsg] [.own tB] (initL [.ro tMsg] (x0, ()) 0).1
theorem spec_MsgOk_main (x0 : Int × Int × Int × Int × List Int × Unit) : spec_MsgOk_F (x0, ()) =
 brk (decide (x0.1 = (5 : Int)))
 ((spec_GensOk_F (x0.2.2.2.2.1, ())).bind fun y9 =>
 brk y9.1.1
 ((spec_l1In_F (x0.2.2.1, ((0 : Int), ((200 : Int), ())))).bind fun y13 =>
 brk y13.1.1
 (brk (decide (x0.2.1 = (0 : Int)))
 (some ((decide (x0.2.2.2.1 = (0 : Int)), ()), ((), ())))
 (some ((false, ()), ((), ()))))
 (some ((false, ()), ((), ()))))
 (some ((false, ()), ((), ()))))
 (brk (decide (x0.1 = (1 : Int)))
 (brk (decide (x0.1 = (1 : Int)))
 (brk (decide ((x0.2.2.2.2.1.length : Int) = (0 : Int)))
 ((spec_l1In_F (x0.2.1, ((0 : Int), ((7 : Int), ())))).bind fun y37 =>
 brk y37.1.1
 (brk (decide (x0.1 = (4 : Int)))
 ((spec_l1Bit_F (true, ())).bind fun y50 =>
 (spec_l1In_F (x0.2.2.1, (IntKind.i64.wrap ((1 : Int) - y50.1.1), ((200 : Int), ())))).bind fun y52 =>
 brk y52.1.1
 (brk (decide (x0.1 = (3 : Int)))
 ((spec_l1In_F (x0.2.2.2.1, ((0 : Int), ((2 : Int), ())))).bind fun y61 =>
 brk y61.1.1
 (some ((true, ()), ((), ())))
 (some ((decide (x0.2.2.2.1 = (0 : Int)), ()), ((), ()))))
 (some ((decide (x0.2.2.2.1 = (0 : Int)), ()), ((), ()))))
 (some ((false, ()), ((), ()))))
 ((spec_l1Bit_F (decide (x0.1 = (2 : Int)), ())).bind fun y50 =>
 (spec_l1In_F (x0.2.2.1, (IntKind.i64.wrap ((1 : Int) - y50.1.1), ((200 : Int), ())))).bind fun y52 =>
 brk y52.1.1
 (brk (decide (x0.1 = (3 : Int)))
 ((spec_l1In_F (x0.2.2.2.1, ((0 : Int), ((2 : Int), ())))).bind fun y61 =>
 brk y61.1.1
 (some ((true, ()), ((), ())))
 (some ((decide (x0.2.2.2.1 = (0 : Int)), ()), ((), ()))))
 (some ((decide (x0.2.2.2.1 = (0 : Int)), ()), ((), ()))))
 (some ((false, ()), ((), ())))))
 (some ((false, ()), ((), ()))))
 (some ((false, ()), ((), ()))))
 (some ((false, ()), ((), ()))))
 (brk (decide (x0.1 = (2 : Int)))
 (brk (decide (x0.1 = (2 : Int)))
 (brk (decide ((x0.2.2.2.2.1.length : Int) = (0 : Int)))
 ((spec_l1In_F (x0.2.1, ((0 : Int), ((7 : Int), ())))).bind fun y37 =>
 brk y37.1.1
 (brk (decide (x0.1 = (4 : Int)))
 ((spec_l1Bit_F (true, ())).bind fun y50 =>
 (spec_l1In_F (x0.2.2.1, (IntKind.i64.wrap ((1 : Int) - y50.1.1), ((200 : Int), ())))).bind fun y52 =>
 brk y52.1.1
 (brk (decide (x0.1 = (3 : Int)))
 ((spec_l1In_F (x0.2.2.2.1, ((0 : Int), ((2 : Int), ())))).bind fun y61 =>
 brk y61.1.1
 (some ((true, ()), ((), ())))
 (some ((decide (x0.2.2.2.1 = (0 : Int)), ()), ((), ()))))
 (some ((decide (x0.2.2.2.1 = (0 : Int)), ()), ((), ()))))
 (some ((false, ()), ((), ()))))
 ((spec_l1Bit_F (decide (x0.1 = (2 : Int)), ())).bind fun y50 =>
 (spec_l1In_F (x0.2.2.1, (IntKind.i64.wrap ((1 : Int) - y50.1.1), ((200 : Int), ())))).bind fun y52 =>
 brk y52.1.1
 (brk (decide (x0.1 = (3 : Int)))
 ((spec_l1In_F (x0.2.2.2.1, ((0 : Int), ((2 : Int), ())))).bind fun y61 =>
 brk y61.1.1
 (some ((true, ()), ((), ())))
 (some ((decide (x0.2.2.2.1 = (0 : Int)), ()), ((), ()))))
 (some ((decide (x0.2.2.2.1 = (0 : Int)), ()), ((), ()))))
 (some ((false, ()), ((), ())))))
 (some ((false, ()), ((), ()))))
 (some ((false, ()), ((), ()))))
 (some ((false, ()), ((), ()))))
 (brk (decide (x0.1 = (3 : Int)))
 (brk (decide (x0.1 = (3 : Int)))
 (brk (decide ((x0.2.2.2.2.1.length : Int) = (0 : Int)))
 ((spec_l1In_F (x0.2.1, ((0 : Int), ((7 : Int), ())))).bind fun y37 =>
 brk y37.1.1
 (brk (decide (x0.1 = (4 : Int)))
 ((spec_l1Bit_F (true, ())).bind fun y50 =>
 (spec_l1In_F (x0.2.2.1, (IntKind.i64.wrap ((1 : Int) - y50.1.1), ((200 : Int), ())))).bind fun y52 =>
 brk y52.1.1
 (brk (decide (x0.1 = (3 : Int)))
 ((spec_l1In_F (x0.2.2.2.1, ((0 : Int), ((2 : Int), ())))).bind fun y61 =>
 brk y61.1.1
 (some ((true, ()), ((), ())))
 (some ((decide (x0.2.2.2.1 = (0 : Int)), ()), ((), ()))))
 (some ((decide (x0.2.2.2.1 = (0 : Int)), ()), ((), ()))))
 (some ((false, ()), ((), ()))))
 ((spec_l1Bit_F (decide (x0.1 = (2 : Int)), ())).bind fun y50 =>
 (spec_l1In_F (x0.2.2.1, (IntKind.i64.wrap ((1 : Int) - y50.1.1), ((200 : Int), ())))).bind fun y52 =>
 brk y52.1.1
 (brk (decide (x0.1 = (3 : Int)))
 ((spec_l1In_F (x0.2.2.2.1, ((0 : Int), ((2 : Int), ())))).bind fun y61 =>
 brk y61.1.1
 (some ((true, ()), ((), ())))
 (some ((decide (x0.2.2.2.1 = (0 : Int)), ()), ((), ()))))
 (some ((decide (x0.2.2.2.1 = (0 : Int)), ()), ((), ()))))
 (some ((false, ()), ((), ())))))
 (some ((false, ()), ((), ()))))
 (some ((false, ()), ((), ()))))
 (some ((false, ()), ((), ()))))
 (brk (decide (x0.1 = (4 : Int)))
 (brk (decide ((x0.2.2.2.2.1.length : Int) = (0 : Int)))
 ((spec_l1In_F (x0.2.1, ((0 : Int), ((7 : Int), ())))).bind fun y37 =>
 brk y37.1.1
 (brk (decide (x0.1 = (4 : Int)))
 ((spec_l1Bit_F (true, ())).bind fun y50 =>
 (spec_l1In_F (x0.2.2.1, (IntKind.i64.wrap ((1 : Int) - y50.1.1), ((200 : Int), ())))).bind fun y52 =>
 brk y52.1.1
 (brk (decide (x0.1 = (3 : Int)))
 ((spec_l1In_F (x0.2.2.2.1, ((0 : Int), ((2 : Int), ())))).bind fun y61 =>
 brk y61.1.1
 (some ((true, ()), ((), ())))
 (some ((decide (x0.2.2.2.1 = (0 : Int)), ()), ((), ()))))
 (some ((decide (x0.2.2.2.1 = (0 : Int)), ()), ((), ()))))
 (some ((false, ()), ((), ()))))
 ((spec_l1Bit_F (decide (x0.1 = (2 : Int)), ())).bind fun y50 =>
 (spec_l1In_F (x0.2.2.1, (IntKind.i64.wrap ((1 : Int) - y50.1.1), ((200 : Int), ())))).bind fun y52 =>
 brk y52.1.1
 (brk (decide (x0.1 = (3 : Int)))
 ((spec_l1In_F (x0.2.2.2.1, ((0 : Int), ((2 : Int), ())))).bind fun y61 =>
 brk y61.1.1
 (some ((true, ()), ((), ())))
 (some ((decide (x0.2.2.2.1 = (0 : Int)), ()), ((), ()))))
 (some ((decide (x0.2.2.2.1 = (0 : Int)), ()), ((), ()))))
 (some ((false, ()), ((), ())))))
 (some ((false, ()), ((), ()))))
 (some ((false, ()), ((), ()))))
 (some ((false, ()), ((), ()))))))) := by kernel_rfl
/-! spec.l4Body -/
noncomputable def spec_l4Body_b : Code := bd Try.f119
@[reducible] def spec_l4Body_t0 : Tm := ⟨[(3, 960000)], [], [(1, .ptr 16 0), (3, .own 960000), (4, .own 304), (5, .sc true tI)], [(16, .box [.sc true tI, .sc true tI, .sc true tI, .sc true tI, .sc true tIs]), (304, .arr 3 tI), (960000, .arr 5 tY)], [1, 3], [16, 960000]⟩
@[reducible] def spec_l4Body_t2 : Tm := ⟨[(3, 960600)], [], [(1, .ptr 16 0), (3, .own 960600), (6, .sc true tI)], [(16, .box [.sc true tI, .sc true tI, .sc true tI, .sc true tI, .sc true tIs]), (960600, .arr 5 tY)], [3], [960600]⟩
def spec_l4Body_T : List (Nat × Tm) := [(0, spec_l4Body_t0), (2, spec_l4Body_t2)]
noncomputable def spec_l4Body_E : Env := ⟨tt0, [(23, spec_PutNum_C)]⟩
noncomputable def spec_l4Body_F : PsD [.ro tMsg] → Option (RsD [.own tYs] × PsO [.ro tMsg]) := fun x => evFn spec_l4Body_E spec_l4Body_T Try.f119 spec_l4Body_b [.ro tMsg] [.own tYs] x
@[reducible] noncomputable def spec_l4Body_C : Ct := ⟨[.ro tMsg], [.own tYs], spec_l4Body_F⟩
theorem spec_l4Body_h (x : PsD [.ro tMsg]) (y : RsD [.own tYs] × PsO [.ro tMsg]) (h : spec_l4Body_F x = some y) : evFn spec_l4Body_E spec_l4Body_T Try.f119 spec_l4Body_b [.ro tMsg] [.own tYs] x = some y := h
theorem spec_l4Body_c : ∀ f c, get spec_l4Body_E.ct f = some c → Sat Try.prog f c := ct_cons spec_PutNum_S (ct_nil)
theorem spec_l4Body_S : Sat Try.prog 119 spec_l4Body_C := fn_ok2 (envOk _) spec_l4Body_c mixedOk Try.func119 (by kernel_rfl : Try.f119.body = some spec_l4Body_b) (by kernel_rfl) (by kernel_rfl) spec_l4Body_h
noncomputable def spec_l4Body_Ke  (x0 : Int × Int × Int × Int × List Int × Unit) : Ex → AS → Option (RsD [.own tYs] × PsO [.ro tMsg]) := endK spec_l4Body_E Try.f119 [.ro tMsg] [.own tYs] (initL [.ro tMsg] (x0, ()) 0).1
noncomputable def spec_l4Body_B0 {R : Type} : AS → (Ex → AS → Option R) → Option R := fun A K => ev spec_l4Body_E spec_l4Body_T 0 (cA (cA (cB (cA (cB (cB (cB spec_l4Body_b))))))) A K
noncomputable def spec_l4Body_B2 {R : Type} : AS → (Ex → AS → Option R) → Option R := fun A K => ev spec_l4Body_E spec_l4Body_T 2 (cA (cA (cB (cA (cB (cB (cB (cB spec_l4Body_b)))))))) A K
noncomputable def spec_l4Body_K0  (x0 : Int × Int × Int × Int × List Int × Unit) : Ex → AS → Option (RsD [.own tYs] × PsO [.ro tMsg]) := kBlk 0 (kSeq (fun A K => ev spec_l4Body_E spec_l4Body_T 1000 (cB (cB (cB (cB spec_l4Body_b)))) A K) (spec_l4Body_Ke x0))
noncomputable def spec_l4Body_K2  (x0 : Int × Int × Int × Int × List Int × Unit) : Ex → AS → Option (RsD [.own tYs] × PsO [.ro tMsg]) := kBlk 2 (kSeq (fun A K => ev spec_l4Body_E spec_l4Body_T 1000 (cB (cB (cB (cB (cB spec_l4Body_b))))) A K) (spec_l4Body_Ke x0))
noncomputable def spec_l4Body_x0_0 (d0 : Int) (d1 : Int) (d2 : Int) (d3 : Int) (d4 : List Int) (d5 : List Int) : AS := ⟨[(1, .v (.one (.bptr 16 0))), (3, .v (.one (.own 960000)))], [(16, .box [.d true tI d0, .d true tI d1, .d true tI d2, .d true tI d3, .d true tIs d4]), (960000, .arr 5 tY d5)]⟩
noncomputable def spec_l4Body_x2_0 (d0 : List Int) : AS := ⟨[(3, .v (.one (.own 960600)))], [(960600, .arr 5 tY d0)]⟩
theorem spec_l4Body_l0 {R : Type} {K : Ex → AS → Option R} {s : spec_l4Body_t0.D} (n : Nat) {v : Option R} (h : iterG spec_l4Body_t0 spec_l4Body_B0 K n s = v) (hv : ∃ r, v = some r) : loopG spec_l4Body_t0 spec_l4Body_B0 K s = v := loop_eq (ev_mono _ _) n h hv
theorem spec_l4Body_l2 {R : Type} {K : Ex → AS → Option R} {s : spec_l4Body_t2.D} (n : Nat) {v : Option R} (h : iterG spec_l4Body_t2 spec_l4Body_B2 K n s = v) (hv : ∃ r, v = some r) : loopG spec_l4Body_t2 spec_l4Body_B2 K s = v := loop_eq (ev_mono _ _) n h hv
theorem spec_l4Body_main (x0 : Int × Int × Int × Int × List Int × Unit) : spec_l4Body_F (x0, ()) =
 loopG spec_l4Body_t0 spec_l4Body_B0 (spec_l4Body_K0 x0) (((0 : Int), ()), ((x0.1, (x0.2.1, (x0.2.2.1, (x0.2.2.2.1, (x0.2.2.2.2.1, ()))))), ([x0.1, x0.2.1, x0.2.2.1, x0.2.2.2.1, (x0.2.2.2.2.1.length : Int)], (([] : List Int), ())))) := by kernel_rfl
theorem spec_l4Body_r0 {R : Type} (K : Ex → AS → Option R) (n : Nat) (t5 : Int) (b16_0 : Int) (b16_1 : Int) (b16_2 : Int) (b16_3 : Int) (b16_4 : List Int) (a304 : List Int) (a960000 : List Int) : iterG spec_l4Body_t0 spec_l4Body_B0 K (n + 1) ((t5, ()), ((b16_0, (b16_1, (b16_2, (b16_3, (b16_4, ()))))), (a304, (a960000, ())))) =
 brk (decide (t5 < (a304.length : Int)))
 (ck (decide (0 ≤ t5) && decide (t5 < a304.length)) ((spec_PutNum_F (rdD tI a304 t5, ())).bind fun y31 =>
 ck (decide ((a960000.length + y31.1.1.length) * 1 ≤ big47)) (iterG spec_l4Body_t0 spec_l4Body_B0 K n ((IntKind.i64.wrap (t5 + (1 : Int)), ()), ((b16_0, (b16_1, (b16_2, (b16_3, (b16_4, ()))))), (a304, (a960000 ++ y31.1.1, ())))))))
 (K (.exit 0) (spec_l4Body_x0_0 b16_0 b16_1 b16_2 b16_3 b16_4 a960000)) := by kernel_rfl
theorem spec_l4Body_e0_0 (x0 : Int × Int × Int × Int × List Int × Unit) (d0 : Int) (d1 : Int) (d2 : Int) (d3 : Int) (d4 : List Int) (d5 : List Int) : spec_l4Body_K0 x0 (.exit 0) (spec_l4Body_x0_0 d0 d1 d2 d3 d4 d5) =
 loopG spec_l4Body_t2 spec_l4Body_B2 (spec_l4Body_K2 x0) (((0 : Int), ()), ((d0, (d1, (d2, (d3, (d4, ()))))), (d5, ()))) := by kernel_rfl
theorem spec_l4Body_r2 {R : Type} (K : Ex → AS → Option R) (n : Nat) (t6 : Int) (b16_0 : Int) (b16_1 : Int) (b16_2 : Int) (b16_3 : Int) (b16_4 : List Int) (a960600 : List Int) : iterG spec_l4Body_t2 spec_l4Body_B2 K (n + 1) ((t6, ()), ((b16_0, (b16_1, (b16_2, (b16_3, (b16_4, ()))))), (a960600, ()))) =
 brk (decide (t6 < (b16_4.length : Int)))
 (ck (decide (0 ≤ t6) && decide (t6 < b16_4.length)) ((spec_PutNum_F (rdD tI b16_4 t6, ())).bind fun y46 =>
 ck (decide ((a960600.length + y46.1.1.length) * 1 ≤ big47)) (iterG spec_l4Body_t2 spec_l4Body_B2 K n ((IntKind.i64.wrap (t6 + (1 : Int)), ()), ((b16_0, (b16_1, (b16_2, (b16_3, (b16_4, ()))))), (a960600 ++ y46.1.1, ()))))))
 (K (.exit 2) (spec_l4Body_x2_0 a960600)) := by kernel_rfl
theorem spec_l4Body_e2_0 (x0 : Int × Int × Int × Int × List Int × Unit) (d0 : List Int) : spec_l4Body_K2 x0 (.exit 2) (spec_l4Body_x2_0 d0) =
 some ((d0, ()), ((), ())) := by kernel_rfl
/-! spec.l4Sum -/
noncomputable def spec_l4Sum_b : Code := bd Try.f120
def spec_l4Sum_T : List (Nat × Tm) := []
noncomputable def spec_l4Sum_E : Env := ⟨tt0, []⟩
noncomputable def spec_l4Sum_F : PsD [.ro tI] → Option (RsD [.own tYs] × PsO [.ro tI]) := fun x => evFn spec_l4Sum_E spec_l4Sum_T Try.f120 spec_l4Sum_b [.ro tI] [.own tYs] x
@[reducible] noncomputable def spec_l4Sum_C : Ct := ⟨[.ro tI], [.own tYs], spec_l4Sum_F⟩
theorem spec_l4Sum_h (x : PsD [.ro tI]) (y : RsD [.own tYs] × PsO [.ro tI]) (h : spec_l4Sum_F x = some y) : evFn spec_l4Sum_E spec_l4Sum_T Try.f120 spec_l4Sum_b [.ro tI] [.own tYs] x = some y := h
theorem spec_l4Sum_c : ∀ f c, get spec_l4Sum_E.ct f = some c → Sat Try.prog f c := ct_nil
theorem spec_l4Sum_S : Sat Try.prog 120 spec_l4Sum_C := fn_ok2 (envOk _) spec_l4Sum_c mixedOk Try.func120 (by kernel_rfl : Try.f120.body = some spec_l4Sum_b) (by kernel_rfl) (by kernel_rfl) spec_l4Sum_h
noncomputable def spec_l4Sum_Ke  (x0 : Int) : Ex → AS → Option (RsD [.own tYs] × PsO [.ro tI]) := endK spec_l4Sum_E Try.f120 [.ro tI] [.own tYs] (initL [.ro tI] (x0, ()) 0).1
theorem spec_l4Sum_main (x0 : Int) : spec_l4Sum_F (x0, ()) =
 some (([IntKind.u8.wrap (andN IntKind.i64 x0 (255 : Int)), IntKind.u8.wrap (andN IntKind.i64 (shrN IntKind.i64 x0 (8 : Int)) (255 : Int)), IntKind.u8.wrap (andN IntKind.i64 (shrN IntKind.i64 x0 (16 : Int)) (255 : Int)), IntKind.u8.wrap (andN IntKind.i64 (shrN IntKind.i64 x0 (24 : Int)) (255 : Int))], ()), ((), ())) := by kernel_rfl
/-! spec.MsgBytes -/
noncomputable def spec_MsgBytes_b : Code := bd Try.f49
def spec_MsgBytes_T : List (Nat × Tm) := []
noncomputable def spec_MsgBytes_E : Env := ⟨tt0, [(23, spec_PutNum_C), (27, spec_SumOf_C), (118, spec_MsgOk_C), (119, spec_l4Body_C), (120, spec_l4Sum_C)]⟩
noncomputable def spec_MsgBytes_F : PsD [.ro tMsg] → Option (RsD [.own tYs] × PsO [.ro tMsg]) := fun x => evFn spec_MsgBytes_E spec_MsgBytes_T Try.f49 spec_MsgBytes_b [.ro tMsg] [.own tYs] x
@[reducible] noncomputable def spec_MsgBytes_C : Ct := ⟨[.ro tMsg], [.own tYs], spec_MsgBytes_F⟩
theorem spec_MsgBytes_h (x : PsD [.ro tMsg]) (y : RsD [.own tYs] × PsO [.ro tMsg]) (h : spec_MsgBytes_F x = some y) : evFn spec_MsgBytes_E spec_MsgBytes_T Try.f49 spec_MsgBytes_b [.ro tMsg] [.own tYs] x = some y := h
theorem spec_MsgBytes_c : ∀ f c, get spec_MsgBytes_E.ct f = some c → Sat Try.prog f c := ct_cons spec_PutNum_S (ct_cons spec_SumOf_S (ct_cons spec_MsgOk_S (ct_cons spec_l4Body_S (ct_cons spec_l4Sum_S (ct_nil)))))
theorem spec_MsgBytes_S : Sat Try.prog 49 spec_MsgBytes_C := fn_ok2 (envOk _) spec_MsgBytes_c mixedOk Try.func49 (by kernel_rfl : Try.f49.body = some spec_MsgBytes_b) (by kernel_rfl) (by kernel_rfl) spec_MsgBytes_h
noncomputable def spec_MsgBytes_Ke  (x0 : Int × Int × Int × Int × List Int × Unit) : Ex → AS → Option (RsD [.own tYs] × PsO [.ro tMsg]) := endK spec_MsgBytes_E Try.f49 [.ro tMsg] [.own tYs] (initL [.ro tMsg] (x0, ()) 0).1
theorem spec_MsgBytes_main (x0 : Int × Int × Int × Int × List Int × Unit) : spec_MsgBytes_F (x0, ()) =
 (spec_MsgOk_F ((x0.1, (x0.2.1, (x0.2.2.1, (x0.2.2.2.1, (x0.2.2.2.2.1, ()))))), ())).bind fun y6 =>
 brk (!y6.1.1)
 (some ((([] : List Int), ()), ((), ())))
 ((spec_l4Body_F ((x0.1, (x0.2.1, (x0.2.2.1, (x0.2.2.2.1, (x0.2.2.2.2.1, ()))))), ())).bind fun y10 =>
 (spec_PutNum_F ((y10.1.1.length : Int), ())).bind fun y13 =>
 ck (decide ((y13.1.1.length + y10.1.1.length) * 1 ≤ big47)) ((spec_SumOf_F (y10.1.1, ())).bind fun y18 =>
 (spec_l4Sum_F (y18.1.1, ())).bind fun y19 =>
 ck (decide (((y13.1.1 ++ y10.1.1).length + y19.1.1.length) * 1 ≤ big47)) (some (((y13.1.1 ++ y10.1.1) ++ y19.1.1, ()), ((), ()))))) := by kernel_rfl
/-! spec.Pack -/
noncomputable def spec_Pack_b : Code := bd Try.f76
@[reducible] def spec_Pack_t0 : Tm := ⟨[(3, 960000)], [], [(0, .sc true tMsgs), (3, .own 960000), (4, .sc true tI)], [(960000, .arr 5 tY)], [3], [960000]⟩
def spec_Pack_T : List (Nat × Tm) := [(0, spec_Pack_t0)]
noncomputable def spec_Pack_E : Env := ⟨tt0, [(45, spec_Squeeze_C), (49, spec_MsgBytes_C)]⟩
noncomputable def spec_Pack_F : PsD [.ro tMsgs] → Option (RsD [.own tYs] × PsO [.ro tMsgs]) := fun x => evFn spec_Pack_E spec_Pack_T Try.f76 spec_Pack_b [.ro tMsgs] [.own tYs] x
@[reducible] noncomputable def spec_Pack_C : Ct := ⟨[.ro tMsgs], [.own tYs], spec_Pack_F⟩
theorem spec_Pack_h (x : PsD [.ro tMsgs]) (y : RsD [.own tYs] × PsO [.ro tMsgs]) (h : spec_Pack_F x = some y) : evFn spec_Pack_E spec_Pack_T Try.f76 spec_Pack_b [.ro tMsgs] [.own tYs] x = some y := h
theorem spec_Pack_c : ∀ f c, get spec_Pack_E.ct f = some c → Sat Try.prog f c := ct_cons spec_Squeeze_S (ct_cons spec_MsgBytes_S (ct_nil))
theorem spec_Pack_S : Sat Try.prog 76 spec_Pack_C := fn_ok2 (envOk _) spec_Pack_c mixedOk Try.func76 (by kernel_rfl : Try.f76.body = some spec_Pack_b) (by kernel_rfl) (by kernel_rfl) spec_Pack_h
noncomputable def spec_Pack_Ke  (x0 : List (Int × Int × Int × Int × List Int × Unit)) : Ex → AS → Option (RsD [.own tYs] × PsO [.ro tMsgs]) := endK spec_Pack_E Try.f76 [.ro tMsgs] [.own tYs] (initL [.ro tMsgs] (x0, ()) 0).1
noncomputable def spec_Pack_B0 {R : Type} : AS → (Ex → AS → Option R) → Option R := fun A K => ev spec_Pack_E spec_Pack_T 0 (cA (cA (cB (cA (cB (cB spec_Pack_b)))))) A K
noncomputable def spec_Pack_K0  (x0 : List (Int × Int × Int × Int × List Int × Unit)) : Ex → AS → Option (RsD [.own tYs] × PsO [.ro tMsgs]) := kBlk 0 (kSeq (fun A K => ev spec_Pack_E spec_Pack_T 1000 (cB (cB (cB spec_Pack_b))) A K) (spec_Pack_Ke x0))
noncomputable def spec_Pack_x0_0 (d0 : List Int) : AS := ⟨[(3, .v (.one (.own 960000)))], [(960000, .arr 5 tY d0)]⟩
theorem spec_Pack_l0 {R : Type} {K : Ex → AS → Option R} {s : spec_Pack_t0.D} (n : Nat) {v : Option R} (h : iterG spec_Pack_t0 spec_Pack_B0 K n s = v) (hv : ∃ r, v = some r) : loopG spec_Pack_t0 spec_Pack_B0 K s = v := loop_eq (ev_mono _ _) n h hv
theorem spec_Pack_main (x0 : List (Int × Int × Int × Int × List Int × Unit)) : spec_Pack_F (x0, ()) =
 loopG spec_Pack_t0 spec_Pack_B0 (spec_Pack_K0 x0) ((x0, ((0 : Int), ())), (([] : List Int), ())) := by kernel_rfl
theorem spec_Pack_r0 {R : Type} (K : Ex → AS → Option R) (n : Nat) (t0 : List (Int × Int × Int × Int × List Int × Unit)) (t4 : Int) (a960000 : List Int) : iterG spec_Pack_t0 spec_Pack_B0 K (n + 1) ((t0, (t4, ())), (a960000, ())) =
 brk (decide (t4 < (t0.length : Int)))
 (ck (decide (0 ≤ t4) && decide (t4 < t0.length)) ((spec_MsgBytes_F (((rdD tMsg t0 t4).1, (((rdD tMsg t0 t4).2).1, ((((rdD tMsg t0 t4).2).2).1, (((((rdD tMsg t0 t4).2).2).2).1, ((((((rdD tMsg t0 t4).2).2).2).2).1, ()))))), ())).bind fun y17 =>
 ck (decide ((a960000.length + y17.1.1.length) * 1 ≤ big47)) (iterG spec_Pack_t0 spec_Pack_B0 K n ((t0, (IntKind.i64.wrap (t4 + (1 : Int)), ())), (a960000 ++ y17.1.1, ())))))
 (K (.exit 0) (spec_Pack_x0_0 a960000)) := by kernel_rfl
theorem spec_Pack_e0_0 (x0 : List (Int × Int × Int × Int × List Int × Unit)) (d0 : List Int) : spec_Pack_K0 x0 (.exit 0) (spec_Pack_x0_0 d0) =
 (spec_Squeeze_F (d0, ())).bind fun y20 =>
 some ((y20.1.1, ()), ((), ())) := by kernel_rfl
/-! laws.toIntS -/
noncomputable def laws_toIntS_b : Code := bd Try.f34
@[reducible] def laws_toIntS_t0 : Tm := ⟨[], [], [(0, .sc true tIs), (3, .own 112), (4, .sc true tI)], [(112, .arr 3 tI)], [3], [112]⟩
def laws_toIntS_T : List (Nat × Tm) := [(0, laws_toIntS_t0)]
noncomputable def laws_toIntS_E : Env := ⟨tt0, []⟩
noncomputable def laws_toIntS_F : PsD [.ro tIs] → Option (RsD [.own tIs] × PsO [.ro tIs]) := fun x => evFn laws_toIntS_E laws_toIntS_T Try.f34 laws_toIntS_b [.ro tIs] [.own tIs] x
@[reducible] noncomputable def laws_toIntS_C : Ct := ⟨[.ro tIs], [.own tIs], laws_toIntS_F⟩
theorem laws_toIntS_h (x : PsD [.ro tIs]) (y : RsD [.own tIs] × PsO [.ro tIs]) (h : laws_toIntS_F x = some y) : evFn laws_toIntS_E laws_toIntS_T Try.f34 laws_toIntS_b [.ro tIs] [.own tIs] x = some y := h
theorem laws_toIntS_c : ∀ f c, get laws_toIntS_E.ct f = some c → Sat Try.prog f c := ct_nil
theorem laws_toIntS_S : Sat Try.prog 34 laws_toIntS_C := fn_ok2 (envOk _) laws_toIntS_c mixedOk Try.func34 (by kernel_rfl : Try.f34.body = some laws_toIntS_b) (by kernel_rfl) (by kernel_rfl) laws_toIntS_h
noncomputable def laws_toIntS_Ke  (x0 : List Int) : Ex → AS → Option (RsD [.own tIs] × PsO [.ro tIs]) := endK laws_toIntS_E Try.f34 [.ro tIs] [.own tIs] (initL [.ro tIs] (x0, ()) 0).1
noncomputable def laws_toIntS_B0 {R : Type} : AS → (Ex → AS → Option R) → Option R := fun A K => ev laws_toIntS_E laws_toIntS_T 0 (cA (cA (cB (cA (cB (cB laws_toIntS_b)))))) A K
noncomputable def laws_toIntS_K0  (x0 : List Int) : Ex → AS → Option (RsD [.own tIs] × PsO [.ro tIs]) := kBlk 0 (kSeq (fun A K => ev laws_toIntS_E laws_toIntS_T 1000 (cB (cB (cB laws_toIntS_b))) A K) (laws_toIntS_Ke x0))
noncomputable def laws_toIntS_x0_0 (d0 : List Int) : AS := ⟨[(3, .v (.one (.own 112)))], [(112, .arr 3 tI d0)]⟩
theorem laws_toIntS_l0 {R : Type} {K : Ex → AS → Option R} {s : laws_toIntS_t0.D} (n : Nat) {v : Option R} (h : iterG laws_toIntS_t0 laws_toIntS_B0 K n s = v) (hv : ∃ r, v = some r) : loopG laws_toIntS_t0 laws_toIntS_B0 K s = v := loop_eq (ev_mono _ _) n h hv
theorem laws_toIntS_main (x0 : List Int) : laws_toIntS_F (x0, ()) =
 ck (decide (0 ≤ (x0.length : Int)) && decide ((x0.length : Int) = (x0.length : Int)) && decide ((x0.length : Int) * (8 : Int) ≤ 140737488355328) && decide ((x0.length : Int) ≤ 140737488355328)) (loopG laws_toIntS_t0 laws_toIntS_B0 (laws_toIntS_K0 x0) ((x0, ((0 : Int), ())), (List.replicate (x0.length : Int).toNat tI.zero, ()))) := by kernel_rfl
theorem laws_toIntS_r0 {R : Type} (K : Ex → AS → Option R) (n : Nat) (t0 : List Int) (t4 : Int) (a112 : List Int) : iterG laws_toIntS_t0 laws_toIntS_B0 K (n + 1) ((t0, (t4, ())), (a112, ())) =
 brk (decide (t4 < (t0.length : Int)))
 (ck (decide (0 ≤ t4) && decide (t4 < t0.length)) (ck (decide (0 ≤ t4) && decide (t4 < a112.length)) (iterG laws_toIntS_t0 laws_toIntS_B0 K n ((t0, (IntKind.i64.wrap (t4 + (1 : Int)), ())), (a112.set t4.toNat (rdD tI t0 t4), ())))))
 (K (.exit 0) (laws_toIntS_x0_0 a112)) := by kernel_rfl
theorem laws_toIntS_e0_0 (x0 : List Int) (d0 : List Int) : laws_toIntS_K0 x0 (.exit 0) (laws_toIntS_x0_0 d0) =
 some ((d0, ()), ((), ())) := by kernel_rfl
/-! laws.toMsg -/
noncomputable def laws_toMsg_b : Code := bd Try.f50
def laws_toMsg_T : List (Nat × Tm) := []
noncomputable def laws_toMsg_E : Env := ⟨tt0, [(34, laws_toIntS_C)]⟩
noncomputable def laws_toMsg_F : PsD [.ro tMsg] → Option (RsD [.own tMsg] × PsO [.ro tMsg]) := fun x => evFn laws_toMsg_E laws_toMsg_T Try.f50 laws_toMsg_b [.ro tMsg] [.own tMsg] x
@[reducible] noncomputable def laws_toMsg_C : Ct := ⟨[.ro tMsg], [.own tMsg], laws_toMsg_F⟩
theorem laws_toMsg_h (x : PsD [.ro tMsg]) (y : RsD [.own tMsg] × PsO [.ro tMsg]) (h : laws_toMsg_F x = some y) : evFn laws_toMsg_E laws_toMsg_T Try.f50 laws_toMsg_b [.ro tMsg] [.own tMsg] x = some y := h
theorem laws_toMsg_c : ∀ f c, get laws_toMsg_E.ct f = some c → Sat Try.prog f c := ct_cons laws_toIntS_S (ct_nil)
theorem laws_toMsg_S : Sat Try.prog 50 laws_toMsg_C := fn_ok2 (envOk _) laws_toMsg_c mixedOk Try.func50 (by kernel_rfl : Try.f50.body = some laws_toMsg_b) (by kernel_rfl) (by kernel_rfl) laws_toMsg_h
noncomputable def laws_toMsg_Ke  (x0 : Int × Int × Int × Int × List Int × Unit) : Ex → AS → Option (RsD [.own tMsg] × PsO [.ro tMsg]) := endK laws_toMsg_E Try.f50 [.ro tMsg] [.own tMsg] (initL [.ro tMsg] (x0, ()) 0).1
theorem laws_toMsg_main (x0 : Int × Int × Int × Int × List Int × Unit) : laws_toMsg_F (x0, ()) =
 (laws_toIntS_F (x0.2.2.2.2.1, ())).bind fun y18 =>
 some (((x0.1, (x0.2.1, (x0.2.2.1, (x0.2.2.2.1, (y18.1.1, ()))))), ()), ((), ())) := by kernel_rfl
/-! laws.toMsgS -/
noncomputable def laws_toMsgS_b : Code := bd Try.f77
@[reducible] def laws_toMsgS_t0 : Tm := ⟨[], [], [(0, .sc true tMsgsL), (3, .own 112), (4, .sc true tI)], [(112, .arr 54 tMsg)], [3], [112]⟩
def laws_toMsgS_T : List (Nat × Tm) := [(0, laws_toMsgS_t0)]
noncomputable def laws_toMsgS_E : Env := ⟨tt0, [(50, laws_toMsg_C)]⟩
noncomputable def laws_toMsgS_F : PsD [.ro tMsgsL] → Option (RsD [.own tMsgs] × PsO [.ro tMsgsL]) := fun x => evFn laws_toMsgS_E laws_toMsgS_T Try.f77 laws_toMsgS_b [.ro tMsgsL] [.own tMsgs] x
@[reducible] noncomputable def laws_toMsgS_C : Ct := ⟨[.ro tMsgsL], [.own tMsgs], laws_toMsgS_F⟩
theorem laws_toMsgS_h (x : PsD [.ro tMsgsL]) (y : RsD [.own tMsgs] × PsO [.ro tMsgsL]) (h : laws_toMsgS_F x = some y) : evFn laws_toMsgS_E laws_toMsgS_T Try.f77 laws_toMsgS_b [.ro tMsgsL] [.own tMsgs] x = some y := h
theorem laws_toMsgS_c : ∀ f c, get laws_toMsgS_E.ct f = some c → Sat Try.prog f c := ct_cons laws_toMsg_S (ct_nil)
theorem laws_toMsgS_S : Sat Try.prog 77 laws_toMsgS_C := fn_ok2 (envOk _) laws_toMsgS_c mixedOk Try.func77 (by kernel_rfl : Try.f77.body = some laws_toMsgS_b) (by kernel_rfl) (by kernel_rfl) laws_toMsgS_h
noncomputable def laws_toMsgS_Ke  (x0 : List (Int × Int × Int × Int × List Int × Unit)) : Ex → AS → Option (RsD [.own tMsgs] × PsO [.ro tMsgsL]) := endK laws_toMsgS_E Try.f77 [.ro tMsgsL] [.own tMsgs] (initL [.ro tMsgsL] (x0, ()) 0).1
noncomputable def laws_toMsgS_B0 {R : Type} : AS → (Ex → AS → Option R) → Option R := fun A K => ev laws_toMsgS_E laws_toMsgS_T 0 (cA (cA (cB (cA (cB (cB laws_toMsgS_b)))))) A K
noncomputable def laws_toMsgS_K0  (x0 : List (Int × Int × Int × Int × List Int × Unit)) : Ex → AS → Option (RsD [.own tMsgs] × PsO [.ro tMsgsL]) := kBlk 0 (kSeq (fun A K => ev laws_toMsgS_E laws_toMsgS_T 1000 (cB (cB (cB laws_toMsgS_b))) A K) (laws_toMsgS_Ke x0))
noncomputable def laws_toMsgS_x0_0 (d0 : List (Int × Int × Int × Int × List Int × Unit)) : AS := ⟨[(3, .v (.one (.own 112)))], [(112, .arr 54 tMsg d0)]⟩
theorem laws_toMsgS_l0 {R : Type} {K : Ex → AS → Option R} {s : laws_toMsgS_t0.D} (n : Nat) {v : Option R} (h : iterG laws_toMsgS_t0 laws_toMsgS_B0 K n s = v) (hv : ∃ r, v = some r) : loopG laws_toMsgS_t0 laws_toMsgS_B0 K s = v := loop_eq (ev_mono _ _) n h hv
theorem laws_toMsgS_main (x0 : List (Int × Int × Int × Int × List Int × Unit)) : laws_toMsgS_F (x0, ()) =
 ck (decide (0 ≤ (x0.length : Int)) && decide ((x0.length : Int) = (x0.length : Int)) && decide ((x0.length : Int) * (56 : Int) ≤ 140737488355328) && decide ((x0.length : Int) ≤ 140737488355328)) (loopG laws_toMsgS_t0 laws_toMsgS_B0 (laws_toMsgS_K0 x0) ((x0, ((0 : Int), ())), (List.replicate (x0.length : Int).toNat tMsg.zero, ()))) := by kernel_rfl
theorem laws_toMsgS_r0 {R : Type} (K : Ex → AS → Option R) (n : Nat) (t0 : List (Int × Int × Int × Int × List Int × Unit)) (t4 : Int) (a112 : List (Int × Int × Int × Int × List Int × Unit)) : iterG laws_toMsgS_t0 laws_toMsgS_B0 K (n + 1) ((t0, (t4, ())), (a112, ())) =
 brk (decide (t4 < (t0.length : Int)))
 (ck (decide (0 ≤ t4) && decide (t4 < t0.length)) ((laws_toMsg_F (((rdD tMsg t0 t4).1, (((rdD tMsg t0 t4).2).1, ((((rdD tMsg t0 t4).2).2).1, (((((rdD tMsg t0 t4).2).2).2).1, ((((((rdD tMsg t0 t4).2).2).2).2).1, ()))))), ())).bind fun y20 =>
 ck (decide (0 ≤ t4) && decide (t4 < a112.length)) (iterG laws_toMsgS_t0 laws_toMsgS_B0 K n ((t0, (IntKind.i64.wrap (t4 + (1 : Int)), ())), (a112.set t4.toNat (y20.1.1.1, (y20.1.1.2.1, (y20.1.1.2.2.1, (y20.1.1.2.2.2.1, (y20.1.1.2.2.2.2.1, ()))))), ())))))
 (K (.exit 0) (laws_toMsgS_x0_0 a112)) := by kernel_rfl
theorem laws_toMsgS_e0_0 (x0 : List (Int × Int × Int × Int × List Int × Unit)) (d0 : List (Int × Int × Int × Int × List Int × Unit)) : laws_toMsgS_K0 x0 (.exit 0) (laws_toMsgS_x0_0 d0) =
 some ((d0, ()), ((), ())) := by kernel_rfl
/-! impl.Run -/
noncomputable def impl_Run_b : Code := bd Try.f46
@[reducible] def impl_Run_t0 : Tm := ⟨[], [], [(0, .sc true tYs), (1, .sc true tI), (2, .sc true tI), (7, .sc true tI)], [], [7], []⟩
def impl_Run_T : List (Nat × Tm) := [(0, impl_Run_t0)]
noncomputable def impl_Run_E : Env := ⟨tt0, []⟩
noncomputable def impl_Run_F : PsD [.ro tYs, .ro tI, .ro tI] → Option (RsD [.own tI] × PsO [.ro tYs, .ro tI, .ro tI]) := fun x => evFn impl_Run_E impl_Run_T Try.f46 impl_Run_b [.ro tYs, .ro tI, .ro tI] [.own tI] x
@[reducible] noncomputable def impl_Run_C : Ct := ⟨[.ro tYs, .ro tI, .ro tI], [.own tI], impl_Run_F⟩
theorem impl_Run_h (x : PsD [.ro tYs, .ro tI, .ro tI]) (y : RsD [.own tI] × PsO [.ro tYs, .ro tI, .ro tI]) (h : impl_Run_F x = some y) : evFn impl_Run_E impl_Run_T Try.f46 impl_Run_b [.ro tYs, .ro tI, .ro tI] [.own tI] x = some y := h
theorem impl_Run_c : ∀ f c, get impl_Run_E.ct f = some c → Sat Try.prog f c := ct_nil
theorem impl_Run_S : Sat Try.prog 46 impl_Run_C := fn_ok2 (envOk _) impl_Run_c mixedOk Try.func46 (by kernel_rfl : Try.f46.body = some impl_Run_b) (by kernel_rfl) (by kernel_rfl) impl_Run_h
noncomputable def impl_Run_Ke  (x0 : List Int) (x1 : Int) (x2 : Int) : Ex → AS → Option (RsD [.own tI] × PsO [.ro tYs, .ro tI, .ro tI]) := endK impl_Run_E Try.f46 [.ro tYs, .ro tI, .ro tI] [.own tI] (initL [.ro tYs, .ro tI, .ro tI] (x0, (x1, (x2, ()))) 0).1
noncomputable def impl_Run_B0 {R : Type} : AS → (Ex → AS → Option R) → Option R := fun A K => ev impl_Run_E impl_Run_T 0 (cA (cA (cA (cB (cB (cB impl_Run_b)))))) A K
noncomputable def impl_Run_K0  (x0 : List Int) (x1 : Int) (x2 : Int) : Ex → AS → Option (RsD [.own tI] × PsO [.ro tYs, .ro tI, .ro tI]) := kBlk 0 (kSeq (fun A K => ev impl_Run_E impl_Run_T 1000 (cB (cB (cB (cB impl_Run_b)))) A K) (impl_Run_Ke x0 x1 x2))
noncomputable def impl_Run_x0_0 (d0 : Int) : AS := ⟨[(7, .v (.one (.d true tI d0)))], []⟩
theorem impl_Run_l0 {R : Type} {K : Ex → AS → Option R} {s : impl_Run_t0.D} (n : Nat) {v : Option R} (h : iterG impl_Run_t0 impl_Run_B0 K n s = v) (hv : ∃ r, v = some r) : loopG impl_Run_t0 impl_Run_B0 K s = v := loop_eq (ev_mono _ _) n h hv
theorem impl_Run_main (x0 : List Int) (x1 : Int) (x2 : Int) : impl_Run_F (x0, (x1, (x2, ()))) =
 brk (decide (x2 < (1 : Int)))
 (some (((0 : Int), ()), ((), ((), ((), ())))))
 (brk (decide ((255 : Int) < x2))
 (some (((0 : Int), ()), ((), ((), ((), ())))))
 (brk (decide (x1 < x2))
 (some (((0 : Int), ()), ((), ((), ((), ())))))
 (brk (decide ((x0.length : Int) ≤ x1))
 (some (((0 : Int), ()), ((), ((), ((), ())))))
 (loopG impl_Run_t0 impl_Run_B0 (impl_Run_K0 x0 x1 x2) ((x0, (x1, (x2, ((0 : Int), ())))), ()))))) := by kernel_rfl
theorem impl_Run_r0 {R : Type} (K : Ex → AS → Option R) (n : Nat) (t0 : List Int) (t1 : Int) (t2 : Int) (t7 : Int) : iterG impl_Run_t0 impl_Run_B0 K (n + 1) ((t0, (t1, (t2, (t7, ())))), ()) =
 brk (decide (t7 < (100 : Int)))
 (brk (decide (IntKind.i64.wrap (t1 + t7) < (t0.length : Int)))
 (ck (decide (0 ≤ IntKind.i64.wrap (t1 + t7)) && decide (IntKind.i64.wrap (t1 + t7) < t0.length)) (ck (decide (0 ≤ IntKind.i64.wrap ((IntKind.i64.wrap (t1 + t7)) - t2)) && decide (IntKind.i64.wrap ((IntKind.i64.wrap (t1 + t7)) - t2) < t0.length)) (brk (decide (rdD tY t0 (IntKind.i64.wrap (t1 + t7)) = rdD tY t0 (IntKind.i64.wrap ((IntKind.i64.wrap (t1 + t7)) - t2))))
 (iterG impl_Run_t0 impl_Run_B0 K n ((t0, (t1, (t2, (IntKind.i64.wrap (t7 + (1 : Int)), ())))), ()))
 (K (.exit 0) (impl_Run_x0_0 t7)))))
 (K (.exit 0) (impl_Run_x0_0 t7)))
 (K (.exit 0) (impl_Run_x0_0 t7)) := by kernel_rfl
theorem impl_Run_e0_0 (x0 : List Int) (x1 : Int) (x2 : Int) (d0 : Int) : impl_Run_K0 x0 x1 x2 (.exit 0) (impl_Run_x0_0 d0) =
 some ((d0, ()), ((), ((), ((), ())))) := by kernel_rfl
/-! impl.longest -/
noncomputable def impl_longest_b : Code := bd Try.f113
@[reducible] def impl_longest_t0 : Tm := ⟨[], [], [(0, .sc true tYs), (1, .sc true tI), (6, .sc true tI), (7, .sc true tI), (8, .sc true tI)], [], [6, 7], []⟩
def impl_longest_T : List (Nat × Tm) := [(0, impl_longest_t0)]
noncomputable def impl_longest_E : Env := ⟨tt0, [(46, impl_Run_C)]⟩
noncomputable def impl_longest_F : PsD [.ro tYs, .ro tI] → Option (RsD [.own tI, .own tI] × PsO [.ro tYs, .ro tI]) := fun x => evFn impl_longest_E impl_longest_T Try.f113 impl_longest_b [.ro tYs, .ro tI] [.own tI, .own tI] x
@[reducible] noncomputable def impl_longest_C : Ct := ⟨[.ro tYs, .ro tI], [.own tI, .own tI], impl_longest_F⟩
theorem impl_longest_h (x : PsD [.ro tYs, .ro tI]) (y : RsD [.own tI, .own tI] × PsO [.ro tYs, .ro tI]) (h : impl_longest_F x = some y) : evFn impl_longest_E impl_longest_T Try.f113 impl_longest_b [.ro tYs, .ro tI] [.own tI, .own tI] x = some y := h
theorem impl_longest_c : ∀ f c, get impl_longest_E.ct f = some c → Sat Try.prog f c := ct_cons impl_Run_S (ct_nil)
theorem impl_longest_S : Sat Try.prog 113 impl_longest_C := fn_ok2 (envOk _) impl_longest_c mixedOk Try.func113 (by kernel_rfl : Try.f113.body = some impl_longest_b) (by kernel_rfl) (by kernel_rfl) impl_longest_h
noncomputable def impl_longest_Ke  (x0 : List Int) (x1 : Int) : Ex → AS → Option (RsD [.own tI, .own tI] × PsO [.ro tYs, .ro tI]) := endK impl_longest_E Try.f113 [.ro tYs, .ro tI] [.own tI, .own tI] (initL [.ro tYs, .ro tI] (x0, (x1, ())) 0).1
noncomputable def impl_longest_B0 {R : Type} : AS → (Ex → AS → Option R) → Option R := fun A K => ev impl_longest_E impl_longest_T 0 (cA (cA (cB (cA (cB (cB impl_longest_b)))))) A K
noncomputable def impl_longest_K0  (x0 : List Int) (x1 : Int) : Ex → AS → Option (RsD [.own tI, .own tI] × PsO [.ro tYs, .ro tI]) := kBlk 0 (kSeq (fun A K => ev impl_longest_E impl_longest_T 1000 (cB (cB (cB impl_longest_b))) A K) (impl_longest_Ke x0 x1))
noncomputable def impl_longest_x0_0 (d0 : Int) (d1 : Int) : AS := ⟨[(6, .v (.one (.d true tI d0))), (7, .v (.one (.d true tI d1)))], []⟩
theorem impl_longest_l0 {R : Type} {K : Ex → AS → Option R} {s : impl_longest_t0.D} (n : Nat) {v : Option R} (h : iterG impl_longest_t0 impl_longest_B0 K n s = v) (hv : ∃ r, v = some r) : loopG impl_longest_t0 impl_longest_B0 K s = v := loop_eq (ev_mono _ _) n h hv
theorem impl_longest_main (x0 : List Int) (x1 : Int) : impl_longest_F (x0, (x1, ())) =
 loopG impl_longest_t0 impl_longest_B0 (impl_longest_K0 x0 x1) ((x0, (x1, ((0 : Int), ((0 : Int), ((1 : Int), ()))))), ()) := by kernel_rfl
theorem impl_longest_r0 {R : Type} (K : Ex → AS → Option R) (n : Nat) (t0 : List Int) (t1 : Int) (t6 : Int) (t7 : Int) (t8 : Int) : iterG impl_longest_t0 impl_longest_B0 K (n + 1) ((t0, (t1, (t6, (t7, (t8, ()))))), ()) =
 brk (decide (t8 ≤ (255 : Int)))
 (brk (decide (t8 ≤ t1))
 ((impl_Run_F (t0, (t1, (t8, ())))).bind fun y22 =>
 brk (decide (t6 < y22.1.1))
 (iterG impl_longest_t0 impl_longest_B0 K n ((t0, (t1, (y22.1.1, (t8, (IntKind.i64.wrap (t8 + (1 : Int)), ()))))), ()))
 (iterG impl_longest_t0 impl_longest_B0 K n ((t0, (t1, (t6, (t7, (IntKind.i64.wrap (t8 + (1 : Int)), ()))))), ())))
 (K (.exit 0) (impl_longest_x0_0 t6 t7)))
 (K (.exit 0) (impl_longest_x0_0 t6 t7)) := by kernel_rfl
theorem impl_longest_e0_0 (x0 : List Int) (x1 : Int) (d0 : Int) (d1 : Int) : impl_longest_K0 x0 x1 (.exit 0) (impl_longest_x0_0 d0 d1) =
 some ((d0, (d1, ())), ((), ((), ()))) := by kernel_rfl
/-! impl.Squeeze -/
noncomputable def impl_Squeeze_b : Code := bd Try.f40
@[reducible] def impl_Squeeze_t0 : Tm := ⟨[(3, 960000)], [], [(0, .sc true tYs), (3, .own 960000), (4, .sc true tI)], [(960000, .arr 5 tY)], [3], [960000]⟩
def impl_Squeeze_T : List (Nat × Tm) := [(0, impl_Squeeze_t0)]
noncomputable def impl_Squeeze_E : Env := ⟨tt0, [(113, impl_longest_C)]⟩
noncomputable def impl_Squeeze_F : PsD [.ro tYs] → Option (RsD [.own tYs] × PsO [.ro tYs]) := fun x => evFn impl_Squeeze_E impl_Squeeze_T Try.f40 impl_Squeeze_b [.ro tYs] [.own tYs] x
@[reducible] noncomputable def impl_Squeeze_C : Ct := ⟨[.ro tYs], [.own tYs], impl_Squeeze_F⟩
theorem impl_Squeeze_h (x : PsD [.ro tYs]) (y : RsD [.own tYs] × PsO [.ro tYs]) (h : impl_Squeeze_F x = some y) : evFn impl_Squeeze_E impl_Squeeze_T Try.f40 impl_Squeeze_b [.ro tYs] [.own tYs] x = some y := h
theorem impl_Squeeze_c : ∀ f c, get impl_Squeeze_E.ct f = some c → Sat Try.prog f c := ct_cons impl_longest_S (ct_nil)
theorem impl_Squeeze_S : Sat Try.prog 40 impl_Squeeze_C := fn_ok2 (envOk _) impl_Squeeze_c mixedOk Try.func40 (by kernel_rfl : Try.f40.body = some impl_Squeeze_b) (by kernel_rfl) (by kernel_rfl) impl_Squeeze_h
noncomputable def impl_Squeeze_Ke  (x0 : List Int) : Ex → AS → Option (RsD [.own tYs] × PsO [.ro tYs]) := endK impl_Squeeze_E Try.f40 [.ro tYs] [.own tYs] (initL [.ro tYs] (x0, ()) 0).1
noncomputable def impl_Squeeze_B0 {R : Type} : AS → (Ex → AS → Option R) → Option R := fun A K => ev impl_Squeeze_E impl_Squeeze_T 0 (cA (cA (cB (cA (cB (cB (cB impl_Squeeze_b))))))) A K
noncomputable def impl_Squeeze_K0  (x0 : List Int) : Ex → AS → Option (RsD [.own tYs] × PsO [.ro tYs]) := kBlk 0 (kSeq (fun A K => ev impl_Squeeze_E impl_Squeeze_T 1000 (cB (cB (cB (cB impl_Squeeze_b)))) A K) (impl_Squeeze_Ke x0))
noncomputable def impl_Squeeze_x0_0 (d0 : List Int) : AS := ⟨[(3, .v (.one (.own 960000)))], [(960000, .arr 5 tY d0)]⟩
theorem impl_Squeeze_l0 {R : Type} {K : Ex → AS → Option R} {s : impl_Squeeze_t0.D} (n : Nat) {v : Option R} (h : iterG impl_Squeeze_t0 impl_Squeeze_B0 K n s = v) (hv : ∃ r, v = some r) : loopG impl_Squeeze_t0 impl_Squeeze_B0 K s = v := loop_eq (ev_mono _ _) n h hv
theorem impl_Squeeze_main (x0 : List Int) : impl_Squeeze_F (x0, ()) =
 brk (decide ((3000 : Int) < (x0.length : Int)))
 (some ((([] : List Int), ()), ((), ())))
 (loopG impl_Squeeze_t0 impl_Squeeze_B0 (impl_Squeeze_K0 x0) ((x0, ((0 : Int), ())), (([] : List Int), ()))) := by kernel_rfl
theorem impl_Squeeze_r0 {R : Type} (K : Ex → AS → Option R) (n : Nat) (t0 : List Int) (t4 : Int) (a960000 : List Int) : iterG impl_Squeeze_t0 impl_Squeeze_B0 K (n + 1) ((t0, (t4, ())), (a960000, ())) =
 brk (decide (t4 < (t0.length : Int)))
 ((impl_longest_F (t0, (t4, ()))).bind fun y19 =>
 brk (decide ((3 : Int) ≤ y19.1.1))
 (ck (decide ((a960000.length + [IntKind.u8.wrap (IntKind.i64.wrap ((128 : Int) + y19.1.1)), IntKind.u8.wrap y19.1.2.1].length) * 1 ≤ big47)) (iterG impl_Squeeze_t0 impl_Squeeze_B0 K n ((t0, (IntKind.i64.wrap (t4 + y19.1.1), ())), (a960000 ++ [IntKind.u8.wrap (IntKind.i64.wrap ((128 : Int) + y19.1.1)), IntKind.u8.wrap y19.1.2.1], ()))))
 (ck (decide (0 ≤ t4) && decide (t4 < t0.length)) (brk (decide ((0 : Int) < rdD tY t0 t4))
 (ck (decide (0 ≤ t4) && decide (t4 < t0.length)) (brk (decide (rdD tY t0 t4 < (128 : Int)))
 (ck (decide (0 ≤ t4) && decide (t4 < t0.length)) (ck (decide ((a960000.length + [rdD tY t0 t4].length) * 1 ≤ big47)) (iterG impl_Squeeze_t0 impl_Squeeze_B0 K n ((t0, (IntKind.i64.wrap (t4 + (1 : Int)), ())), (a960000 ++ [rdD tY t0 t4], ())))))
 (ck (decide (0 ≤ t4) && decide (t4 < t0.length)) (ck (decide ((a960000.length + [(0 : Int), rdD tY t0 t4].length) * 1 ≤ big47)) (iterG impl_Squeeze_t0 impl_Squeeze_B0 K n ((t0, (IntKind.i64.wrap (t4 + (1 : Int)), ())), (a960000 ++ [(0 : Int), rdD tY t0 t4], ())))))))
 (ck (decide (0 ≤ t4) && decide (t4 < t0.length)) (ck (decide ((a960000.length + [(0 : Int), rdD tY t0 t4].length) * 1 ≤ big47)) (iterG impl_Squeeze_t0 impl_Squeeze_B0 K n ((t0, (IntKind.i64.wrap (t4 + (1 : Int)), ())), (a960000 ++ [(0 : Int), rdD tY t0 t4], ()))))))))
 (K (.exit 0) (impl_Squeeze_x0_0 a960000)) := by kernel_rfl
theorem impl_Squeeze_e0_0 (x0 : List Int) (d0 : List Int) : impl_Squeeze_K0 x0 (.exit 0) (impl_Squeeze_x0_0 d0) =
 some ((d0, ()), ((), ())) := by kernel_rfl
/-! impl.PutNum -/
noncomputable def impl_PutNum_b : Code := bd Try.f17
@[reducible] def impl_PutNum_t0 : Tm := ⟨[(3, 960000)], [], [(0, .sc true tI), (3, .own 960000)], [(960000, .arr 5 tY)], [0, 3], [960000]⟩
def impl_PutNum_T : List (Nat × Tm) := [(0, impl_PutNum_t0)]
noncomputable def impl_PutNum_E : Env := ⟨tt0, []⟩
noncomputable def impl_PutNum_F : PsD [.ro tI] → Option (RsD [.own tYs] × PsO [.ro tI]) := fun x => evFn impl_PutNum_E impl_PutNum_T Try.f17 impl_PutNum_b [.ro tI] [.own tYs] x
@[reducible] noncomputable def impl_PutNum_C : Ct := ⟨[.ro tI], [.own tYs], impl_PutNum_F⟩
theorem impl_PutNum_h (x : PsD [.ro tI]) (y : RsD [.own tYs] × PsO [.ro tI]) (h : impl_PutNum_F x = some y) : evFn impl_PutNum_E impl_PutNum_T Try.f17 impl_PutNum_b [.ro tI] [.own tYs] x = some y := h
theorem impl_PutNum_c : ∀ f c, get impl_PutNum_E.ct f = some c → Sat Try.prog f c := ct_nil
theorem impl_PutNum_S : Sat Try.prog 17 impl_PutNum_C := fn_ok2 (envOk _) impl_PutNum_c mixedOk Try.func17 (by kernel_rfl : Try.f17.body = some impl_PutNum_b) (by kernel_rfl) (by kernel_rfl) impl_PutNum_h
noncomputable def impl_PutNum_Ke  (x0 : Int) : Ex → AS → Option (RsD [.own tYs] × PsO [.ro tI]) := endK impl_PutNum_E Try.f17 [.ro tI] [.own tYs] (initL [.ro tI] (x0, ()) 0).1
noncomputable def impl_PutNum_B0 {R : Type} : AS → (Ex → AS → Option R) → Option R := fun A K => ev impl_PutNum_E impl_PutNum_T 0 (cA (cA (cA (cB (cB (cB impl_PutNum_b)))))) A K
noncomputable def impl_PutNum_K0  (x0 : Int) : Ex → AS → Option (RsD [.own tYs] × PsO [.ro tI]) := kBlk 0 (kSeq (fun A K => ev impl_PutNum_E impl_PutNum_T 1000 (cB (cB (cB (cB impl_PutNum_b)))) A K) (impl_PutNum_Ke x0))
noncomputable def impl_PutNum_x0_0 (d0 : Int) (d1 : List Int) : AS := ⟨[(0, .v (.one (.d true tI d0))), (3, .v (.one (.own 960000)))], [(960000, .arr 5 tY d1)]⟩
theorem impl_PutNum_l0 {R : Type} {K : Ex → AS → Option R} {s : impl_PutNum_t0.D} (n : Nat) {v : Option R} (h : iterG impl_PutNum_t0 impl_PutNum_B0 K n s = v) (hv : ∃ r, v = some r) : loopG impl_PutNum_t0 impl_PutNum_B0 K s = v := loop_eq (ev_mono _ _) n h hv
theorem impl_PutNum_main (x0 : Int) : impl_PutNum_F (x0, ()) =
 brk (decide (x0 < (0 : Int)))
 (some ((([] : List Int), ()), ((), ())))
 (brk (decide ((2147483647 : Int) < x0))
 (some ((([] : List Int), ()), ((), ())))
 (loopG impl_PutNum_t0 impl_PutNum_B0 (impl_PutNum_K0 x0) ((x0, ()), (([] : List Int), ())))) := by kernel_rfl
theorem impl_PutNum_r0 {R : Type} (K : Ex → AS → Option R) (n : Nat) (t0 : Int) (a960000 : List Int) : iterG impl_PutNum_t0 impl_PutNum_B0 K (n + 1) ((t0, ()), (a960000, ())) =
 brk (decide ((127 : Int) < t0))
 (ck (decide ((a960000.length + [IntKind.u8.wrap (IntKind.i64.wrap ((t0.tmod (128 : Int)) + (128 : Int)))].length) * 1 ≤ big47)) (iterG impl_PutNum_t0 impl_PutNum_B0 K n ((IntKind.i64.wrap (t0.tdiv (128 : Int)), ()), (a960000 ++ [IntKind.u8.wrap (IntKind.i64.wrap ((t0.tmod (128 : Int)) + (128 : Int)))], ()))))
 (K (.exit 0) (impl_PutNum_x0_0 t0 a960000)) := by kernel_rfl
theorem impl_PutNum_e0_0 (x0 : Int) (d0 : Int) (d1 : List Int) : impl_PutNum_K0 x0 (.exit 0) (impl_PutNum_x0_0 d0 d1) =
 ck (decide ((d1.length + [IntKind.u8.wrap d0].length) * 1 ≤ big47)) (some ((d1 ++ [IntKind.u8.wrap d0], ()), ((), ()))) := by kernel_rfl
/-! impl.SumOf -/
noncomputable def impl_SumOf_b : Code := bd Try.f26
@[reducible] def impl_SumOf_t0 : Tm := ⟨[], [], [(3, .sc true tI), (4, .sc true tI), (7, .sc true tYs), (8, .sc true tI), (9, .sc true tI)], [], [3, 4], []⟩
def impl_SumOf_T : List (Nat × Tm) := [(0, impl_SumOf_t0)]
noncomputable def impl_SumOf_E : Env := ⟨tt0, []⟩
noncomputable def impl_SumOf_F : PsD [.ro tYs] → Option (RsD [.own tI] × PsO [.ro tYs]) := fun x => evFn impl_SumOf_E impl_SumOf_T Try.f26 impl_SumOf_b [.ro tYs] [.own tI] x
@[reducible] noncomputable def impl_SumOf_C : Ct := ⟨[.ro tYs], [.own tI], impl_SumOf_F⟩
theorem impl_SumOf_h (x : PsD [.ro tYs]) (y : RsD [.own tI] × PsO [.ro tYs]) (h : impl_SumOf_F x = some y) : evFn impl_SumOf_E impl_SumOf_T Try.f26 impl_SumOf_b [.ro tYs] [.own tI] x = some y := h
theorem impl_SumOf_c : ∀ f c, get impl_SumOf_E.ct f = some c → Sat Try.prog f c := ct_nil
theorem impl_SumOf_S : Sat Try.prog 26 impl_SumOf_C := fn_ok2 (envOk _) impl_SumOf_c mixedOk Try.func26 (by kernel_rfl : Try.f26.body = some impl_SumOf_b) (by kernel_rfl) (by kernel_rfl) impl_SumOf_h
noncomputable def impl_SumOf_Ke  (x0 : List Int) : Ex → AS → Option (RsD [.own tI] × PsO [.ro tYs]) := endK impl_SumOf_E Try.f26 [.ro tYs] [.own tI] (initL [.ro tYs] (x0, ()) 0).1
noncomputable def impl_SumOf_B0 {R : Type} : AS → (Ex → AS → Option R) → Option R := fun A K => ev impl_SumOf_E impl_SumOf_T 0 (cA (cA (cB (cA (cB (cB impl_SumOf_b)))))) A K
noncomputable def impl_SumOf_K0  (x0 : List Int) : Ex → AS → Option (RsD [.own tI] × PsO [.ro tYs]) := kBlk 0 (kSeq (fun A K => ev impl_SumOf_E impl_SumOf_T 1000 (cB (cB (cB impl_SumOf_b))) A K) (impl_SumOf_Ke x0))
noncomputable def impl_SumOf_x0_0 (d0 : Int) (d1 : Int) : AS := ⟨[(3, .v (.one (.d true tI d0))), (4, .v (.one (.d true tI d1)))], []⟩
theorem impl_SumOf_l0 {R : Type} {K : Ex → AS → Option R} {s : impl_SumOf_t0.D} (n : Nat) {v : Option R} (h : iterG impl_SumOf_t0 impl_SumOf_B0 K n s = v) (hv : ∃ r, v = some r) : loopG impl_SumOf_t0 impl_SumOf_B0 K s = v := loop_eq (ev_mono _ _) n h hv
theorem impl_SumOf_main (x0 : List Int) : impl_SumOf_F (x0, ()) =
 loopG impl_SumOf_t0 impl_SumOf_B0 (impl_SumOf_K0 x0) (((1 : Int), ((0 : Int), (x0, ((x0.length : Int), ((0 : Int), ()))))), ()) := by kernel_rfl
theorem impl_SumOf_r0 {R : Type} (K : Ex → AS → Option R) (n : Nat) (t3 : Int) (t4 : Int) (t7 : List Int) (t8 : Int) (t9 : Int) : iterG impl_SumOf_t0 impl_SumOf_B0 K (n + 1) ((t3, (t4, (t7, (t8, (t9, ()))))), ()) =
 brk (decide (t9 < t8))
 (ck (decide (0 ≤ t9) && decide (t9 < t7.length)) (iterG impl_SumOf_t0 impl_SumOf_B0 K n (((IntKind.i64.wrap (t3 + (IntKind.i64.wrap (rdD tY t7 t9)))).tmod (65521 : Int), ((IntKind.i64.wrap (t4 + ((IntKind.i64.wrap (t3 + (IntKind.i64.wrap (rdD tY t7 t9)))).tmod (65521 : Int)))).tmod (65521 : Int), (t7, (t8, (IntKind.i64.wrap (t9 + (1 : Int)), ()))))), ())))
 (K (.exit 0) (impl_SumOf_x0_0 t3 t4)) := by kernel_rfl
theorem impl_SumOf_e0_0 (x0 : List Int) (d0 : Int) (d1 : Int) : impl_SumOf_K0 x0 (.exit 0) (impl_SumOf_x0_0 d0 d1) =
 some ((IntKind.i64.wrap ((IntKind.i64.wrap (d1 * (65536 : Int))) + d0), ()), ((), ())) := by kernel_rfl
/-! impl.from -/
noncomputable def impl_from_b : Code := bd Try.f114
def impl_from_T : List (Nat × Tm) := []
noncomputable def impl_from_E : Env := ⟨tt0, []⟩
noncomputable def impl_from_F : PsD [.ro tI, .ro tI, .ro tI] → Option (RsD [.own tB] × PsO [.ro tI, .ro tI, .ro tI]) := fun x => evFn impl_from_E impl_from_T Try.f114 impl_from_b [.ro tI, .ro tI, .ro tI] [.own tB] x
@[reducible] noncomputable def impl_from_C : Ct := ⟨[.ro tI, .ro tI, .ro tI], [.own tB], impl_from_F⟩
theorem impl_from_h (x : PsD [.ro tI, .ro tI, .ro tI]) (y : RsD [.own tB] × PsO [.ro tI, .ro tI, .ro tI]) (h : impl_from_F x = some y) : evFn impl_from_E impl_from_T Try.f114 impl_from_b [.ro tI, .ro tI, .ro tI] [.own tB] x = some y := h
theorem impl_from_c : ∀ f c, get impl_from_E.ct f = some c → Sat Try.prog f c := ct_nil
theorem impl_from_S : Sat Try.prog 114 impl_from_C := fn_ok2 (envOk _) impl_from_c mixedOk Try.func114 (by kernel_rfl : Try.f114.body = some impl_from_b) (by kernel_rfl) (by kernel_rfl) impl_from_h
noncomputable def impl_from_Ke  (x0 : Int) (x1 : Int) (x2 : Int) : Ex → AS → Option (RsD [.own tB] × PsO [.ro tI, .ro tI, .ro tI]) := endK impl_from_E Try.f114 [.ro tI, .ro tI, .ro tI] [.own tB] (initL [.ro tI, .ro tI, .ro tI] (x0, (x1, (x2, ()))) 0).1
theorem impl_from_main (x0 : Int) (x1 : Int) (x2 : Int) : impl_from_F (x0, (x1, (x2, ()))) =
 brk (decide (x1 ≤ x0))
 (some ((decide (x0 ≤ x2), ()), ((), ((), ((), ())))))
 (some ((false, ()), ((), ((), ((), ()))))) := by kernel_rfl
/-! impl.isCell -/
noncomputable def impl_isCell_b : Code := bd Try.f108
def impl_isCell_T : List (Nat × Tm) := []
noncomputable def impl_isCell_E : Env := ⟨tt0, [(114, impl_from_C)]⟩
noncomputable def impl_isCell_F : PsD [.ro tI] → Option (RsD [.own tB] × PsO [.ro tI]) := fun x => evFn impl_isCell_E impl_isCell_T Try.f108 impl_isCell_b [.ro tI] [.own tB] x
@[reducible] noncomputable def impl_isCell_C : Ct := ⟨[.ro tI], [.own tB], impl_isCell_F⟩
theorem impl_isCell_h (x : PsD [.ro tI]) (y : RsD [.own tB] × PsO [.ro tI]) (h : impl_isCell_F x = some y) : evFn impl_isCell_E impl_isCell_T Try.f108 impl_isCell_b [.ro tI] [.own tB] x = some y := h
theorem impl_isCell_c : ∀ f c, get impl_isCell_E.ct f = some c → Sat Try.prog f c := ct_cons impl_from_S (ct_nil)
theorem impl_isCell_S : Sat Try.prog 108 impl_isCell_C := fn_ok2 (envOk _) impl_isCell_c mixedOk Try.func108 (by kernel_rfl : Try.f108.body = some impl_isCell_b) (by kernel_rfl) (by kernel_rfl) impl_isCell_h
noncomputable def impl_isCell_Ke  (x0 : Int) : Ex → AS → Option (RsD [.own tB] × PsO [.ro tI]) := endK impl_isCell_E Try.f108 [.ro tI] [.own tB] (initL [.ro tI] (x0, ()) 0).1
theorem impl_isCell_main (x0 : Int) : impl_isCell_F (x0, ()) =
 (impl_from_F (x0, ((0 : Int), ((7 : Int), ())))).bind fun y4 =>
 some ((y4.1.1, ()), ((), ())) := by kernel_rfl
/-! slices.Index[[]int,int] -/
noncomputable def slices_Index_int_b : Code := bd Try.f155
@[reducible] def slices_Index_int_t0 : Tm := ⟨[], [], [(0, .sc true tIs), (1, .sc true tI), (7, .sc true tI), (8, .sc true tI)], [], [4], []⟩
def slices_Index_int_T : List (Nat × Tm) := [(0, slices_Index_int_t0)]
noncomputable def slices_Index_int_E : Env := ⟨tt0, []⟩
noncomputable def slices_Index_int_F : PsD [.ro tIs, .ro tI] → Option (RsD [.own tI] × PsO [.ro tIs, .ro tI]) := fun x => evFn slices_Index_int_E slices_Index_int_T Try.f155 slices_Index_int_b [.ro tIs, .ro tI] [.own tI] x
@[reducible] noncomputable def slices_Index_int_C : Ct := ⟨[.ro tIs, .ro tI], [.own tI], slices_Index_int_F⟩
theorem slices_Index_int_h (x : PsD [.ro tIs, .ro tI]) (y : RsD [.own tI] × PsO [.ro tIs, .ro tI]) (h : slices_Index_int_F x = some y) : evFn slices_Index_int_E slices_Index_int_T Try.f155 slices_Index_int_b [.ro tIs, .ro tI] [.own tI] x = some y := h
theorem slices_Index_int_c : ∀ f c, get slices_Index_int_E.ct f = some c → Sat Try.prog f c := ct_nil
theorem slices_Index_int_S : Sat Try.prog 155 slices_Index_int_C := fn_ok2 (envOk _) slices_Index_int_c mixedOk Try.func155 (by kernel_rfl : Try.f155.body = some slices_Index_int_b) (by kernel_rfl) (by kernel_rfl) slices_Index_int_h
noncomputable def slices_Index_int_Ke  (x0 : List Int) (x1 : Int) : Ex → AS → Option (RsD [.own tI] × PsO [.ro tIs, .ro tI]) := endK slices_Index_int_E Try.f155 [.ro tIs, .ro tI] [.own tI] (initL [.ro tIs, .ro tI] (x0, (x1, ())) 0).1
noncomputable def slices_Index_int_B0 {R : Type} : AS → (Ex → AS → Option R) → Option R := fun A K => ev slices_Index_int_E slices_Index_int_T 0 (cA (cA (cB (cA (cB slices_Index_int_b))))) A K
noncomputable def slices_Index_int_K0  (x0 : List Int) (x1 : Int) : Ex → AS → Option (RsD [.own tI] × PsO [.ro tIs, .ro tI]) := kBlk 0 (kSeq (fun A K => ev slices_Index_int_E slices_Index_int_T 1000 (cB (cB slices_Index_int_b)) A K) (slices_Index_int_Ke x0 x1))
noncomputable def slices_Index_int_x0_0 (d0 : Int) : AS := ⟨[(4, .v (.one (.d true tI d0)))], []⟩
noncomputable def slices_Index_int_x0_1 : AS := ⟨[], []⟩
theorem slices_Index_int_l0 {R : Type} {K : Ex → AS → Option R} {s : slices_Index_int_t0.D} (n : Nat) {v : Option R} (h : iterG slices_Index_int_t0 slices_Index_int_B0 K n s = v) (hv : ∃ r, v = some r) : loopG slices_Index_int_t0 slices_Index_int_B0 K s = v := loop_eq (ev_mono _ _) n h hv
theorem slices_Index_int_main (x0 : List Int) (x1 : Int) : slices_Index_int_F (x0, (x1, ())) =
 loopG slices_Index_int_t0 slices_Index_int_B0 (slices_Index_int_K0 x0 x1) ((x0, (x1, ((x0.length : Int), ((0 : Int), ())))), ()) := by kernel_rfl
theorem slices_Index_int_r0 {R : Type} (K : Ex → AS → Option R) (n : Nat) (t0 : List Int) (t1 : Int) (t7 : Int) (t8 : Int) : iterG slices_Index_int_t0 slices_Index_int_B0 K (n + 1) ((t0, (t1, (t7, (t8, ())))), ()) =
 brk (decide (t8 < t7))
 (ck (decide (0 ≤ t8) && decide (t8 < t0.length)) (brk (decide (t1 = rdD tI t0 t8))
 (K .ret (slices_Index_int_x0_0 t8))
 (iterG slices_Index_int_t0 slices_Index_int_B0 K n ((t0, (t1, (t7, (IntKind.i64.wrap (t8 + (1 : Int)), ())))), ()))))
 (K (.exit 0) (slices_Index_int_x0_1)) := by kernel_rfl
theorem slices_Index_int_e0_0 (x0 : List Int) (x1 : Int) (d0 : Int) : slices_Index_int_K0 x0 x1 .ret (slices_Index_int_x0_0 d0) =
 some ((d0, ()), ((), ((), ()))) := by kernel_rfl
theorem slices_Index_int_e0_1 (x0 : List Int) (x1 : Int) : slices_Index_int_K0 x0 x1 (.exit 0) (slices_Index_int_x0_1) =
 some (((-1 : Int), ()), ((), ((), ()))) := by kernel_rfl
/-! slices.Contains[[]int,int] -/
noncomputable def slices_Contains_int_b : Code := bd Try.f145
def slices_Contains_int_T : List (Nat × Tm) := []
noncomputable def slices_Contains_int_E : Env := ⟨tt0, [(155, slices_Index_int_C)]⟩
noncomputable def slices_Contains_int_F : PsD [.ro tIs, .ro tI] → Option (RsD [.own tB] × PsO [.ro tIs, .ro tI]) := fun x => evFn slices_Contains_int_E slices_Contains_int_T Try.f145 slices_Contains_int_b [.ro tIs, .ro tI] [.own tB] x
@[reducible] noncomputable def slices_Contains_int_C : Ct := ⟨[.ro tIs, .ro tI], [.own tB], slices_Contains_int_F⟩
theorem slices_Contains_int_h (x : PsD [.ro tIs, .ro tI]) (y : RsD [.own tB] × PsO [.ro tIs, .ro tI]) (h : slices_Contains_int_F x = some y) : evFn slices_Contains_int_E slices_Contains_int_T Try.f145 slices_Contains_int_b [.ro tIs, .ro tI] [.own tB] x = some y := h
theorem slices_Contains_int_c : ∀ f c, get slices_Contains_int_E.ct f = some c → Sat Try.prog f c := ct_cons slices_Index_int_S (ct_nil)
theorem slices_Contains_int_S : Sat Try.prog 145 slices_Contains_int_C := fn_ok2 (envOk _) slices_Contains_int_c mixedOk Try.func145 (by kernel_rfl : Try.f145.body = some slices_Contains_int_b) (by kernel_rfl) (by kernel_rfl) slices_Contains_int_h
noncomputable def slices_Contains_int_Ke  (x0 : List Int) (x1 : Int) : Ex → AS → Option (RsD [.own tB] × PsO [.ro tIs, .ro tI]) := endK slices_Contains_int_E Try.f145 [.ro tIs, .ro tI] [.own tB] (initL [.ro tIs, .ro tI] (x0, (x1, ())) 0).1
theorem slices_Contains_int_main (x0 : List Int) (x1 : Int) : slices_Contains_int_F (x0, (x1, ())) =
 (slices_Index_int_F (x0, (x1, ()))).bind fun y7 =>
 some ((decide ((0 : Int) ≤ y7.1.1), ()), ((), ((), ()))) := by kernel_rfl
/-! impl.GensOk -/
noncomputable def impl_GensOk_b : Code := bd Try.f143
@[reducible] def impl_GensOk_t0 : Tm := ⟨[], [], [(0, .sc true tIs), (5, .sc true tIs), (6, .sc true tI), (7, .sc true tI)], [], [0, 2], []⟩
def impl_GensOk_T : List (Nat × Tm) := [(0, impl_GensOk_t0)]
noncomputable def impl_GensOk_E : Env := ⟨tt0, [(114, impl_from_C), (145, slices_Contains_int_C)]⟩
noncomputable def impl_GensOk_F : PsD [.ro tIs] → Option (RsD [.own tB] × PsO [.ro tIs]) := fun x => evFn impl_GensOk_E impl_GensOk_T Try.f143 impl_GensOk_b [.ro tIs] [.own tB] x
@[reducible] noncomputable def impl_GensOk_C : Ct := ⟨[.ro tIs], [.own tB], impl_GensOk_F⟩
theorem impl_GensOk_h (x : PsD [.ro tIs]) (y : RsD [.own tB] × PsO [.ro tIs]) (h : impl_GensOk_F x = some y) : evFn impl_GensOk_E impl_GensOk_T Try.f143 impl_GensOk_b [.ro tIs] [.own tB] x = some y := h
theorem impl_GensOk_c : ∀ f c, get impl_GensOk_E.ct f = some c → Sat Try.prog f c := ct_cons impl_from_S (ct_cons slices_Contains_int_S (ct_nil))
theorem impl_GensOk_S : Sat Try.prog 143 impl_GensOk_C := fn_ok2 (envOk _) impl_GensOk_c mixedOk Try.func143 (by kernel_rfl : Try.f143.body = some impl_GensOk_b) (by kernel_rfl) (by kernel_rfl) impl_GensOk_h
noncomputable def impl_GensOk_Ke  (x0 : List Int) : Ex → AS → Option (RsD [.own tB] × PsO [.ro tIs]) := endK impl_GensOk_E Try.f143 [.ro tIs] [.own tB] (initL [.ro tIs] (x0, ()) 0).1
noncomputable def impl_GensOk_B0 {R : Type} : AS → (Ex → AS → Option R) → Option R := fun A K => ev impl_GensOk_E impl_GensOk_T 0 (cA (cA (cB (cA (cB impl_GensOk_b))))) A K
noncomputable def impl_GensOk_K0  (x0 : List Int) : Ex → AS → Option (RsD [.own tB] × PsO [.ro tIs]) := kBlk 0 (kSeq (fun A K => ev impl_GensOk_E impl_GensOk_T 1000 (cB (cB impl_GensOk_b)) A K) (impl_GensOk_Ke x0))
noncomputable def impl_GensOk_x0_0 (d0 : List Int) (d1 : Bool) : AS := ⟨[(0, .v (.one (.d true tIs d0))), (2, .v (.one (.d true tB d1)))], []⟩
noncomputable def impl_GensOk_x0_1 (d0 : List Int) : AS := ⟨[(0, .v (.one (.d true tIs d0)))], []⟩
theorem impl_GensOk_l0 {R : Type} {K : Ex → AS → Option R} {s : impl_GensOk_t0.D} (n : Nat) {v : Option R} (h : iterG impl_GensOk_t0 impl_GensOk_B0 K n s = v) (hv : ∃ r, v = some r) : loopG impl_GensOk_t0 impl_GensOk_B0 K s = v := loop_eq (ev_mono _ _) n h hv
theorem impl_GensOk_main (x0 : List Int) : impl_GensOk_F (x0, ()) =
 loopG impl_GensOk_t0 impl_GensOk_B0 (impl_GensOk_K0 x0) ((x0, (x0, ((x0.length : Int), ((0 : Int), ())))), ()) := by kernel_rfl
theorem impl_GensOk_r0 {R : Type} (K : Ex → AS → Option R) (n : Nat) (t0 : List Int) (t5 : List Int) (t6 : Int) (t7 : Int) : iterG impl_GensOk_t0 impl_GensOk_B0 K (n + 1) ((t0, (t5, (t6, (t7, ())))), ()) =
 brk (decide (t7 < t6))
 (ck (decide (0 ≤ t7) && decide (t7 < t5.length)) ((impl_from_F (rdD tI t5 t7, ((1 : Int), ((100000 : Int), ())))).bind fun y13 =>
 brk (!y13.1.1)
 (K .ret (impl_GensOk_x0_0 t0 false))
 (ck (decide (0 ≤ (0 : Int)) && decide ((0 : Int) ≤ t7) && decide (t7 ≤ t0.length)) ((slices_Contains_int_F ((t0.take t7.toNat).drop (0 : Int).toNat, (rdD tI t5 t7, ()))).bind fun y20 =>
 brk y20.1.1
 (K .ret (impl_GensOk_x0_0 t0 false))
 (iterG impl_GensOk_t0 impl_GensOk_B0 K n ((t0, (t5, (t6, (IntKind.i64.wrap (t7 + (1 : Int)), ())))), ()))))))
 (K (.exit 0) (impl_GensOk_x0_1 t0)) := by kernel_rfl
theorem impl_GensOk_e0_0 (x0 : List Int) (d0 : List Int) (d1 : Bool) : impl_GensOk_K0 x0 .ret (impl_GensOk_x0_0 d0 d1) =
 some ((d1, ()), ((), ())) := by kernel_rfl
theorem impl_GensOk_e0_1 (x0 : List Int) (d0 : List Int) : impl_GensOk_K0 x0 (.exit 0) (impl_GensOk_x0_1 d0) =
 some ((decide ((d0.length : Int) ≤ (12 : Int)), ()), ((), ())) := by kernel_rfl
/-! impl.isWrite -/
noncomputable def impl_isWrite_b : Code := bd Try.f150
def impl_isWrite_T : List (Nat × Tm) := []
noncomputable def impl_isWrite_E : Env := ⟨tt0, [(114, impl_from_C)]⟩
noncomputable def impl_isWrite_F : PsD [.ro tI] → Option (RsD [.own tB] × PsO [.ro tI]) := fun x => evFn impl_isWrite_E impl_isWrite_T Try.f150 impl_isWrite_b [.ro tI] [.own tB] x
@[reducible] noncomputable def impl_isWrite_C : Ct := ⟨[.ro tI], [.own tB], impl_isWrite_F⟩
theorem impl_isWrite_h (x : PsD [.ro tI]) (y : RsD [.own tB] × PsO [.ro tI]) (h : impl_isWrite_F x = some y) : evFn impl_isWrite_E impl_isWrite_T Try.f150 impl_isWrite_b [.ro tI] [.own tB] x = some y := h
theorem impl_isWrite_c : ∀ f c, get impl_isWrite_E.ct f = some c → Sat Try.prog f c := ct_cons impl_from_S (ct_nil)
theorem impl_isWrite_S : Sat Try.prog 150 impl_isWrite_C := fn_ok2 (envOk _) impl_isWrite_c mixedOk Try.func150 (by kernel_rfl : Try.f150.body = some impl_isWrite_b) (by kernel_rfl) (by kernel_rfl) impl_isWrite_h
noncomputable def impl_isWrite_Ke  (x0 : Int) : Ex → AS → Option (RsD [.own tB] × PsO [.ro tI]) := endK impl_isWrite_E Try.f150 [.ro tI] [.own tB] (initL [.ro tI] (x0, ()) 0).1
theorem impl_isWrite_main (x0 : Int) : impl_isWrite_F (x0, ()) =
 (impl_from_F (x0, ((1 : Int), ((200 : Int), ())))).bind fun y4 =>
 some ((y4.1.1, ()), ((), ())) := by kernel_rfl
/-! impl.isNode -/
noncomputable def impl_isNode_b : Code := bd Try.f151
def impl_isNode_T : List (Nat × Tm) := []
noncomputable def impl_isNode_E : Env := ⟨tt0, [(114, impl_from_C)]⟩
noncomputable def impl_isNode_F : PsD [.ro tI] → Option (RsD [.own tB] × PsO [.ro tI]) := fun x => evFn impl_isNode_E impl_isNode_T Try.f151 impl_isNode_b [.ro tI] [.own tB] x
@[reducible] noncomputable def impl_isNode_C : Ct := ⟨[.ro tI], [.own tB], impl_isNode_F⟩
theorem impl_isNode_h (x : PsD [.ro tI]) (y : RsD [.own tB] × PsO [.ro tI]) (h : impl_isNode_F x = some y) : evFn impl_isNode_E impl_isNode_T Try.f151 impl_isNode_b [.ro tI] [.own tB] x = some y := h
theorem impl_isNode_c : ∀ f c, get impl_isNode_E.ct f = some c → Sat Try.prog f c := ct_cons impl_from_S (ct_nil)
theorem impl_isNode_S : Sat Try.prog 151 impl_isNode_C := fn_ok2 (envOk _) impl_isNode_c mixedOk Try.func151 (by kernel_rfl : Try.f151.body = some impl_isNode_b) (by kernel_rfl) (by kernel_rfl) impl_isNode_h
noncomputable def impl_isNode_Ke  (x0 : Int) : Ex → AS → Option (RsD [.own tB] × PsO [.ro tI]) := endK impl_isNode_E Try.f151 [.ro tI] [.own tB] (initL [.ro tI] (x0, ()) 0).1
theorem impl_isNode_main (x0 : Int) : impl_isNode_F (x0, ()) =
 (impl_from_F (x0, ((0 : Int), ((2 : Int), ())))).bind fun y4 =>
 some ((y4.1.1, ()), ((), ())) := by kernel_rfl
/-! impl.MsgOk -/
noncomputable def impl_MsgOk_b : Code := bd Try.f121
def impl_MsgOk_T : List (Nat × Tm) := []
noncomputable def impl_MsgOk_E : Env := ⟨tt0, [(108, impl_isCell_C), (114, impl_from_C), (143, impl_GensOk_C), (150, impl_isWrite_C), (151, impl_isNode_C)]⟩
noncomputable def impl_MsgOk_F : PsD [.ro tMsg] → Option (RsD [.own tB] × PsO [.ro tMsg]) := fun x => evFn impl_MsgOk_E impl_MsgOk_T Try.f121 impl_MsgOk_b [.ro tMsg] [.own tB] x
@[reducible] noncomputable def impl_MsgOk_C : Ct := ⟨[.ro tMsg], [.own tB], impl_MsgOk_F⟩
theorem impl_MsgOk_h (x : PsD [.ro tMsg]) (y : RsD [.own tB] × PsO [.ro tMsg]) (h : impl_MsgOk_F x = some y) : evFn impl_MsgOk_E impl_MsgOk_T Try.f121 impl_MsgOk_b [.ro tMsg] [.own tB] x = some y := h
theorem impl_MsgOk_c : ∀ f c, get impl_MsgOk_E.ct f = some c → Sat Try.prog f c := ct_cons impl_isCell_S (ct_cons impl_from_S (ct_cons impl_GensOk_S (ct_cons impl_isWrite_S (ct_cons impl_isNode_S (ct_nil)))))
theorem impl_MsgOk_S : Sat Try.prog 121 impl_MsgOk_C := fn_ok2 (envOk _) impl_MsgOk_c mixedOk Try.func121 (by kernel_rfl : Try.f121.body = some impl_MsgOk_b) (by kernel_rfl) (by kernel_rfl) impl_MsgOk_h
noncomputable def impl_MsgOk_Ke  (x0 : Int × Int × Int × Int × List Int × Unit) : Ex → AS → Option (RsD [.own tB] × PsO [.ro tMsg]) := endK impl_MsgOk_E Try.f121 [.ro tMsg] [.own tB] (initL [.ro tMsg] (x0, ()) 0).1
theorem impl_MsgOk_main (x0 : Int × Int × Int × Int × List Int × Unit) : impl_MsgOk_F (x0, ()) =
 brk (decide (x0.1 = (5 : Int)))
 ((impl_GensOk_F (x0.2.2.2.2.1, ())).bind fun y9 =>
 brk y9.1.1
 ((impl_from_F (x0.2.2.1, ((0 : Int), ((200 : Int), ())))).bind fun y13 =>
 brk y13.1.1
 (brk (decide (x0.2.1 = (0 : Int)))
 (some ((decide (x0.2.2.2.1 = (0 : Int)), ()), ((), ())))
 (some ((false, ()), ((), ()))))
 (some ((false, ()), ((), ()))))
 (some ((false, ()), ((), ()))))
 (brk (decide (x0.1 = (3 : Int)))
 ((impl_isCell_F (x0.2.1, ())).bind fun y29 =>
 brk y29.1.1
 ((impl_isWrite_F (x0.2.2.1, ())).bind fun y33 =>
 brk y33.1.1
 ((impl_isNode_F (x0.2.2.2.1, ())).bind fun y38 =>
 brk y38.1.1
 (some ((decide ((x0.2.2.2.2.1.length : Int) = (0 : Int)), ()), ((), ())))
 (some ((false, ()), ((), ()))))
 (some ((false, ()), ((), ()))))
 (some ((false, ()), ((), ()))))
 (brk (decide (x0.1 = (1 : Int)))
 ((impl_isCell_F (x0.2.1, ())).bind fun y50 =>
 brk y50.1.1
 ((impl_isWrite_F (x0.2.2.1, ())).bind fun y54 =>
 brk y54.1.1
 (brk (decide (x0.2.2.2.1 = (0 : Int)))
 (some ((decide ((x0.2.2.2.2.1.length : Int) = (0 : Int)), ()), ((), ())))
 (some ((false, ()), ((), ()))))
 (some ((false, ()), ((), ()))))
 (some ((false, ()), ((), ()))))
 (brk (decide (x0.1 = (2 : Int)))
 (brk (decide (x0.1 = (2 : Int)))
 ((impl_isCell_F (x0.2.1, ())).bind fun y72 =>
 brk y72.1.1
 ((impl_from_F (x0.2.2.1, ((0 : Int), ((200 : Int), ())))).bind fun y76 =>
 brk y76.1.1
 (brk (decide (x0.2.2.2.1 = (0 : Int)))
 (some ((decide ((x0.2.2.2.2.1.length : Int) = (0 : Int)), ()), ((), ())))
 (some ((false, ()), ((), ()))))
 (some ((false, ()), ((), ()))))
 (some ((false, ()), ((), ()))))
 (some ((false, ()), ((), ()))))
 (brk (decide (x0.1 = (4 : Int)))
 ((impl_isCell_F (x0.2.1, ())).bind fun y72 =>
 brk y72.1.1
 ((impl_from_F (x0.2.2.1, ((0 : Int), ((200 : Int), ())))).bind fun y76 =>
 brk y76.1.1
 (brk (decide (x0.2.2.2.1 = (0 : Int)))
 (some ((decide ((x0.2.2.2.2.1.length : Int) = (0 : Int)), ()), ((), ())))
 (some ((false, ()), ((), ()))))
 (some ((false, ()), ((), ()))))
 (some ((false, ()), ((), ()))))
 (some ((false, ()), ((), ()))))))) := by kernel_rfl
/-! impl.putNums -/
noncomputable def impl_putNums_b : Code := bd Try.f122
@[reducible] def impl_putNums_t0 : Tm := ⟨[(3, 960000)], [], [(3, .own 960000), (7, .sc true tIs), (8, .sc true tI), (9, .sc true tI)], [(960000, .arr 5 tY)], [3], [960000]⟩
def impl_putNums_T : List (Nat × Tm) := [(0, impl_putNums_t0)]
noncomputable def impl_putNums_E : Env := ⟨tt0, [(17, impl_PutNum_C)]⟩
noncomputable def impl_putNums_F : PsD [.ro tIs] → Option (RsD [.own tYs] × PsO [.ro tIs]) := fun x => evFn impl_putNums_E impl_putNums_T Try.f122 impl_putNums_b [.ro tIs] [.own tYs] x
@[reducible] noncomputable def impl_putNums_C : Ct := ⟨[.ro tIs], [.own tYs], impl_putNums_F⟩
theorem impl_putNums_h (x : PsD [.ro tIs]) (y : RsD [.own tYs] × PsO [.ro tIs]) (h : impl_putNums_F x = some y) : evFn impl_putNums_E impl_putNums_T Try.f122 impl_putNums_b [.ro tIs] [.own tYs] x = some y := h
theorem impl_putNums_c : ∀ f c, get impl_putNums_E.ct f = some c → Sat Try.prog f c := ct_cons impl_PutNum_S (ct_nil)
theorem impl_putNums_S : Sat Try.prog 122 impl_putNums_C := fn_ok2 (envOk _) impl_putNums_c mixedOk Try.func122 (by kernel_rfl : Try.f122.body = some impl_putNums_b) (by kernel_rfl) (by kernel_rfl) impl_putNums_h
noncomputable def impl_putNums_Ke  (x0 : List Int) : Ex → AS → Option (RsD [.own tYs] × PsO [.ro tIs]) := endK impl_putNums_E Try.f122 [.ro tIs] [.own tYs] (initL [.ro tIs] (x0, ()) 0).1
noncomputable def impl_putNums_B0 {R : Type} : AS → (Ex → AS → Option R) → Option R := fun A K => ev impl_putNums_E impl_putNums_T 0 (cA (cA (cB (cA (cB (cB impl_putNums_b)))))) A K
noncomputable def impl_putNums_K0  (x0 : List Int) : Ex → AS → Option (RsD [.own tYs] × PsO [.ro tIs]) := kBlk 0 (kSeq (fun A K => ev impl_putNums_E impl_putNums_T 1000 (cB (cB (cB impl_putNums_b))) A K) (impl_putNums_Ke x0))
noncomputable def impl_putNums_x0_0 (d0 : List Int) : AS := ⟨[(3, .v (.one (.own 960000)))], [(960000, .arr 5 tY d0)]⟩
theorem impl_putNums_l0 {R : Type} {K : Ex → AS → Option R} {s : impl_putNums_t0.D} (n : Nat) {v : Option R} (h : iterG impl_putNums_t0 impl_putNums_B0 K n s = v) (hv : ∃ r, v = some r) : loopG impl_putNums_t0 impl_putNums_B0 K s = v := loop_eq (ev_mono _ _) n h hv
theorem impl_putNums_main (x0 : List Int) : impl_putNums_F (x0, ()) =
 loopG impl_putNums_t0 impl_putNums_B0 (impl_putNums_K0 x0) ((x0, ((x0.length : Int), ((0 : Int), ()))), (([] : List Int), ())) := by kernel_rfl
theorem impl_putNums_r0 {R : Type} (K : Ex → AS → Option R) (n : Nat) (t7 : List Int) (t8 : Int) (t9 : Int) (a960000 : List Int) : iterG impl_putNums_t0 impl_putNums_B0 K (n + 1) ((t7, (t8, (t9, ()))), (a960000, ())) =
 brk (decide (t9 < t8))
 (ck (decide (0 ≤ t9) && decide (t9 < t7.length)) ((impl_PutNum_F (rdD tI t7 t9, ())).bind fun y15 =>
 ck (decide ((a960000.length + y15.1.1.length) * 1 ≤ big47)) (iterG impl_putNums_t0 impl_putNums_B0 K n ((t7, (t8, (IntKind.i64.wrap (t9 + (1 : Int)), ()))), (a960000 ++ y15.1.1, ())))))
 (K (.exit 0) (impl_putNums_x0_0 a960000)) := by kernel_rfl
theorem impl_putNums_e0_0 (x0 : List Int) (d0 : List Int) : impl_putNums_K0 x0 (.exit 0) (impl_putNums_x0_0 d0) =
 some ((d0, ()), ((), ())) := by kernel_rfl
/-! impl.putList -/
noncomputable def impl_putList_b : Code := bd Try.f123
def impl_putList_T : List (Nat × Tm) := []
noncomputable def impl_putList_E : Env := ⟨tt0, [(122, impl_putNums_C)]⟩
noncomputable def impl_putList_F : PsD [.ro tIs] → Option (RsD [.own tYs] × PsO [.ro tIs]) := fun x => evFn impl_putList_E impl_putList_T Try.f123 impl_putList_b [.ro tIs] [.own tYs] x
@[reducible] noncomputable def impl_putList_C : Ct := ⟨[.ro tIs], [.own tYs], impl_putList_F⟩
theorem impl_putList_h (x : PsD [.ro tIs]) (y : RsD [.own tYs] × PsO [.ro tIs]) (h : impl_putList_F x = some y) : evFn impl_putList_E impl_putList_T Try.f123 impl_putList_b [.ro tIs] [.own tYs] x = some y := h
theorem impl_putList_c : ∀ f c, get impl_putList_E.ct f = some c → Sat Try.prog f c := ct_cons impl_putNums_S (ct_nil)
theorem impl_putList_S : Sat Try.prog 123 impl_putList_C := fn_ok2 (envOk _) impl_putList_c mixedOk Try.func123 (by kernel_rfl : Try.f123.body = some impl_putList_b) (by kernel_rfl) (by kernel_rfl) impl_putList_h
noncomputable def impl_putList_Ke  (x0 : List Int) : Ex → AS → Option (RsD [.own tYs] × PsO [.ro tIs]) := endK impl_putList_E Try.f123 [.ro tIs] [.own tYs] (initL [.ro tIs] (x0, ()) 0).1
theorem impl_putList_main (x0 : List Int) : impl_putList_F (x0, ()) =
 (impl_putNums_F ([(x0.length : Int)], ())).bind fun y6 =>
 (impl_putNums_F (x0, ())).bind fun y8 =>
 ck (decide ((y6.1.1.length + y8.1.1.length) * 1 ≤ big47)) (some ((y6.1.1 ++ y8.1.1, ()), ((), ()))) := by kernel_rfl
/-! impl.four -/
noncomputable def impl_four_b : Code := bd Try.f124
def impl_four_T : List (Nat × Tm) := []
noncomputable def impl_four_E : Env := ⟨tt0, []⟩
noncomputable def impl_four_F : PsD [.ro tI] → Option (RsD [.own tYs] × PsO [.ro tI]) := fun x => evFn impl_four_E impl_four_T Try.f124 impl_four_b [.ro tI] [.own tYs] x
@[reducible] noncomputable def impl_four_C : Ct := ⟨[.ro tI], [.own tYs], impl_four_F⟩
theorem impl_four_h (x : PsD [.ro tI]) (y : RsD [.own tYs] × PsO [.ro tI]) (h : impl_four_F x = some y) : evFn impl_four_E impl_four_T Try.f124 impl_four_b [.ro tI] [.own tYs] x = some y := h
theorem impl_four_c : ∀ f c, get impl_four_E.ct f = some c → Sat Try.prog f c := ct_nil
theorem impl_four_S : Sat Try.prog 124 impl_four_C := fn_ok2 (envOk _) impl_four_c mixedOk Try.func124 (by kernel_rfl : Try.f124.body = some impl_four_b) (by kernel_rfl) (by kernel_rfl) impl_four_h
noncomputable def impl_four_Ke  (x0 : Int) : Ex → AS → Option (RsD [.own tYs] × PsO [.ro tI]) := endK impl_four_E Try.f124 [.ro tI] [.own tYs] (initL [.ro tI] (x0, ()) 0).1
theorem impl_four_main (x0 : Int) : impl_four_F (x0, ()) =
 some (([IntKind.u8.wrap x0, IntKind.u8.wrap (shrN IntKind.i64 x0 (8 : Int)), IntKind.u8.wrap (shrN IntKind.i64 x0 (16 : Int)), IntKind.u8.wrap (shrN IntKind.i64 x0 (24 : Int))], ()), ((), ())) := by kernel_rfl
/-! impl.MsgBytes -/
noncomputable def impl_MsgBytes_b : Code := bd Try.f51
def impl_MsgBytes_T : List (Nat × Tm) := []
noncomputable def impl_MsgBytes_E : Env := ⟨tt0, [(17, impl_PutNum_C), (26, impl_SumOf_C), (121, impl_MsgOk_C), (122, impl_putNums_C), (123, impl_putList_C), (124, impl_four_C)]⟩
noncomputable def impl_MsgBytes_F : PsD [.ro tMsg] → Option (RsD [.own tYs] × PsO [.ro tMsg]) := fun x => evFn impl_MsgBytes_E impl_MsgBytes_T Try.f51 impl_MsgBytes_b [.ro tMsg] [.own tYs] x
@[reducible] noncomputable def impl_MsgBytes_C : Ct := ⟨[.ro tMsg], [.own tYs], impl_MsgBytes_F⟩
theorem impl_MsgBytes_h (x : PsD [.ro tMsg]) (y : RsD [.own tYs] × PsO [.ro tMsg]) (h : impl_MsgBytes_F x = some y) : evFn impl_MsgBytes_E impl_MsgBytes_T Try.f51 impl_MsgBytes_b [.ro tMsg] [.own tYs] x = some y := h
theorem impl_MsgBytes_c : ∀ f c, get impl_MsgBytes_E.ct f = some c → Sat Try.prog f c := ct_cons impl_PutNum_S (ct_cons impl_SumOf_S (ct_cons impl_MsgOk_S (ct_cons impl_putNums_S (ct_cons impl_putList_S (ct_cons impl_four_S (ct_nil))))))
theorem impl_MsgBytes_S : Sat Try.prog 51 impl_MsgBytes_C := fn_ok2 (envOk _) impl_MsgBytes_c mixedOk Try.func51 (by kernel_rfl : Try.f51.body = some impl_MsgBytes_b) (by kernel_rfl) (by kernel_rfl) impl_MsgBytes_h
noncomputable def impl_MsgBytes_Ke  (x0 : Int × Int × Int × Int × List Int × Unit) : Ex → AS → Option (RsD [.own tYs] × PsO [.ro tMsg]) := endK impl_MsgBytes_E Try.f51 [.ro tMsg] [.own tYs] (initL [.ro tMsg] (x0, ()) 0).1
theorem impl_MsgBytes_main (x0 : Int × Int × Int × Int × List Int × Unit) : impl_MsgBytes_F (x0, ()) =
 (impl_MsgOk_F ((x0.1, (x0.2.1, (x0.2.2.1, (x0.2.2.2.1, (x0.2.2.2.2.1, ()))))), ())).bind fun y6 =>
 brk (!y6.1.1)
 (some ((([] : List Int), ()), ((), ())))
 ((impl_putNums_F ([x0.1, x0.2.1, x0.2.2.1, x0.2.2.2.1], ())).bind fun y17 =>
 (impl_putList_F (x0.2.2.2.2.1, ())).bind fun y20 =>
 ck (decide ((y17.1.1.length + y20.1.1.length) * 1 ≤ big47)) ((impl_PutNum_F (((y17.1.1 ++ y20.1.1).length : Int), ())).bind fun y24 =>
 ck (decide ((y24.1.1.length + (y17.1.1 ++ y20.1.1).length) * 1 ≤ big47)) ((impl_SumOf_F (y17.1.1 ++ y20.1.1, ())).bind fun y29 =>
 (impl_four_F (y29.1.1, ())).bind fun y30 =>
 ck (decide (((y24.1.1 ++ (y17.1.1 ++ y20.1.1)).length + y30.1.1.length) * 1 ≤ big47)) (some (((y24.1.1 ++ (y17.1.1 ++ y20.1.1)) ++ y30.1.1, ()), ((), ())))))) := by kernel_rfl
/-! impl.Pack -/
noncomputable def impl_Pack_b : Code := bd Try.f78
@[reducible] def impl_Pack_t0 : Tm := ⟨[(3, 960000)], [], [(3, .own 960000), (7, .sc true tMsgs), (8, .sc true tI), (9, .sc true tI)], [(960000, .arr 5 tY)], [3], [960000]⟩
def impl_Pack_T : List (Nat × Tm) := [(0, impl_Pack_t0)]
noncomputable def impl_Pack_E : Env := ⟨tt0, [(40, impl_Squeeze_C), (51, impl_MsgBytes_C)]⟩
noncomputable def impl_Pack_F : PsD [.ro tMsgs] → Option (RsD [.own tYs] × PsO [.ro tMsgs]) := fun x => evFn impl_Pack_E impl_Pack_T Try.f78 impl_Pack_b [.ro tMsgs] [.own tYs] x
@[reducible] noncomputable def impl_Pack_C : Ct := ⟨[.ro tMsgs], [.own tYs], impl_Pack_F⟩
theorem impl_Pack_h (x : PsD [.ro tMsgs]) (y : RsD [.own tYs] × PsO [.ro tMsgs]) (h : impl_Pack_F x = some y) : evFn impl_Pack_E impl_Pack_T Try.f78 impl_Pack_b [.ro tMsgs] [.own tYs] x = some y := h
theorem impl_Pack_c : ∀ f c, get impl_Pack_E.ct f = some c → Sat Try.prog f c := ct_cons impl_Squeeze_S (ct_cons impl_MsgBytes_S (ct_nil))
theorem impl_Pack_S : Sat Try.prog 78 impl_Pack_C := fn_ok2 (envOk _) impl_Pack_c mixedOk Try.func78 (by kernel_rfl : Try.f78.body = some impl_Pack_b) (by kernel_rfl) (by kernel_rfl) impl_Pack_h
noncomputable def impl_Pack_Ke  (x0 : List (Int × Int × Int × Int × List Int × Unit)) : Ex → AS → Option (RsD [.own tYs] × PsO [.ro tMsgs]) := endK impl_Pack_E Try.f78 [.ro tMsgs] [.own tYs] (initL [.ro tMsgs] (x0, ()) 0).1
noncomputable def impl_Pack_B0 {R : Type} : AS → (Ex → AS → Option R) → Option R := fun A K => ev impl_Pack_E impl_Pack_T 0 (cA (cA (cB (cA (cB (cB impl_Pack_b)))))) A K
noncomputable def impl_Pack_K0  (x0 : List (Int × Int × Int × Int × List Int × Unit)) : Ex → AS → Option (RsD [.own tYs] × PsO [.ro tMsgs]) := kBlk 0 (kSeq (fun A K => ev impl_Pack_E impl_Pack_T 1000 (cB (cB (cB impl_Pack_b))) A K) (impl_Pack_Ke x0))
noncomputable def impl_Pack_x0_0 (d0 : List Int) : AS := ⟨[(3, .v (.one (.own 960000)))], [(960000, .arr 5 tY d0)]⟩
theorem impl_Pack_l0 {R : Type} {K : Ex → AS → Option R} {s : impl_Pack_t0.D} (n : Nat) {v : Option R} (h : iterG impl_Pack_t0 impl_Pack_B0 K n s = v) (hv : ∃ r, v = some r) : loopG impl_Pack_t0 impl_Pack_B0 K s = v := loop_eq (ev_mono _ _) n h hv
theorem impl_Pack_main (x0 : List (Int × Int × Int × Int × List Int × Unit)) : impl_Pack_F (x0, ()) =
 loopG impl_Pack_t0 impl_Pack_B0 (impl_Pack_K0 x0) ((x0, ((x0.length : Int), ((0 : Int), ()))), (([] : List Int), ())) := by kernel_rfl
theorem impl_Pack_r0 {R : Type} (K : Ex → AS → Option R) (n : Nat) (t7 : List (Int × Int × Int × Int × List Int × Unit)) (t8 : Int) (t9 : Int) (a960000 : List Int) : iterG impl_Pack_t0 impl_Pack_B0 K (n + 1) ((t7, (t8, (t9, ()))), (a960000, ())) =
 brk (decide (t9 < t8))
 (ck (decide (0 ≤ t9) && decide (t9 < t7.length)) ((impl_MsgBytes_F (((rdD tMsg t7 t9).1, (((rdD tMsg t7 t9).2).1, ((((rdD tMsg t7 t9).2).2).1, (((((rdD tMsg t7 t9).2).2).2).1, ((((((rdD tMsg t7 t9).2).2).2).2).1, ()))))), ())).bind fun y15 =>
 ck (decide ((a960000.length + y15.1.1.length) * 1 ≤ big47)) (iterG impl_Pack_t0 impl_Pack_B0 K n ((t7, (t8, (IntKind.i64.wrap (t9 + (1 : Int)), ()))), (a960000 ++ y15.1.1, ())))))
 (K (.exit 0) (impl_Pack_x0_0 a960000)) := by kernel_rfl
theorem impl_Pack_e0_0 (x0 : List (Int × Int × Int × Int × List Int × Unit)) (d0 : List Int) : impl_Pack_K0 x0 (.exit 0) (impl_Pack_x0_0 d0) =
 (impl_Squeeze_F (d0, ())).bind fun y19 =>
 some ((y19.1.1, ()), ((), ())) := by kernel_rfl
/-! laws.eqIntS -/
noncomputable def laws_eqIntS_b : Code := bd Try.f36
@[reducible] def laws_eqIntS_t0 : Tm := ⟨[], [], [(0, .sc true tIs), (1, .sc true tIs), (5, .sc true tI)], [], [4], []⟩
def laws_eqIntS_T : List (Nat × Tm) := [(0, laws_eqIntS_t0)]
noncomputable def laws_eqIntS_E : Env := ⟨tt0, []⟩
noncomputable def laws_eqIntS_F : PsD [.ro tIs, .ro tIs] → Option (RsD [.own tB] × PsO [.ro tIs, .ro tIs]) := fun x => evFn laws_eqIntS_E laws_eqIntS_T Try.f36 laws_eqIntS_b [.ro tIs, .ro tIs] [.own tB] x
@[reducible] noncomputable def laws_eqIntS_C : Ct := ⟨[.ro tIs, .ro tIs], [.own tB], laws_eqIntS_F⟩
theorem laws_eqIntS_h (x : PsD [.ro tIs, .ro tIs]) (y : RsD [.own tB] × PsO [.ro tIs, .ro tIs]) (h : laws_eqIntS_F x = some y) : evFn laws_eqIntS_E laws_eqIntS_T Try.f36 laws_eqIntS_b [.ro tIs, .ro tIs] [.own tB] x = some y := h
theorem laws_eqIntS_c : ∀ f c, get laws_eqIntS_E.ct f = some c → Sat Try.prog f c := ct_nil
theorem laws_eqIntS_S : Sat Try.prog 36 laws_eqIntS_C := fn_ok2 (envOk _) laws_eqIntS_c mixedOk Try.func36 (by kernel_rfl : Try.f36.body = some laws_eqIntS_b) (by kernel_rfl) (by kernel_rfl) laws_eqIntS_h
noncomputable def laws_eqIntS_Ke  (x0 : List Int) (x1 : List Int) : Ex → AS → Option (RsD [.own tB] × PsO [.ro tIs, .ro tIs]) := endK laws_eqIntS_E Try.f36 [.ro tIs, .ro tIs] [.own tB] (initL [.ro tIs, .ro tIs] (x0, (x1, ())) 0).1
noncomputable def laws_eqIntS_B0 {R : Type} : AS → (Ex → AS → Option R) → Option R := fun A K => ev laws_eqIntS_E laws_eqIntS_T 0 (cA (cA (cB (cA (cB (cB laws_eqIntS_b)))))) A K
noncomputable def laws_eqIntS_K0  (x0 : List Int) (x1 : List Int) : Ex → AS → Option (RsD [.own tB] × PsO [.ro tIs, .ro tIs]) := kBlk 0 (kSeq (fun A K => ev laws_eqIntS_E laws_eqIntS_T 1000 (cB (cB (cB laws_eqIntS_b))) A K) (laws_eqIntS_Ke x0 x1))
noncomputable def laws_eqIntS_x0_0 (d0 : Bool) : AS := ⟨[(4, .v (.one (.d true tB d0)))], []⟩
noncomputable def laws_eqIntS_x0_1 : AS := ⟨[], []⟩
theorem laws_eqIntS_l0 {R : Type} {K : Ex → AS → Option R} {s : laws_eqIntS_t0.D} (n : Nat) {v : Option R} (h : iterG laws_eqIntS_t0 laws_eqIntS_B0 K n s = v) (hv : ∃ r, v = some r) : loopG laws_eqIntS_t0 laws_eqIntS_B0 K s = v := loop_eq (ev_mono _ _) n h hv
theorem laws_eqIntS_main (x0 : List Int) (x1 : List Int) : laws_eqIntS_F (x0, (x1, ())) =
 brk (!decide ((x0.length : Int) = (x1.length : Int)))
 (some ((false, ()), ((), ((), ()))))
 (loopG laws_eqIntS_t0 laws_eqIntS_B0 (laws_eqIntS_K0 x0 x1) ((x0, (x1, ((0 : Int), ()))), ())) := by kernel_rfl
theorem laws_eqIntS_r0 {R : Type} (K : Ex → AS → Option R) (n : Nat) (t0 : List Int) (t1 : List Int) (t5 : Int) : iterG laws_eqIntS_t0 laws_eqIntS_B0 K (n + 1) ((t0, (t1, (t5, ()))), ()) =
 brk (decide (t5 < (t0.length : Int)))
 (ck (decide (0 ≤ t5) && decide (t5 < t0.length)) (ck (decide (0 ≤ t5) && decide (t5 < t1.length)) (brk (!decide (rdD tI t0 t5 = rdD tI t1 t5))
 (K .ret (laws_eqIntS_x0_0 false))
 (iterG laws_eqIntS_t0 laws_eqIntS_B0 K n ((t0, (t1, (IntKind.i64.wrap (t5 + (1 : Int)), ()))), ())))))
 (K (.exit 0) (laws_eqIntS_x0_1)) := by kernel_rfl
theorem laws_eqIntS_e0_0 (x0 : List Int) (x1 : List Int) (d0 : Bool) : laws_eqIntS_K0 x0 x1 .ret (laws_eqIntS_x0_0 d0) =
 some ((d0, ()), ((), ((), ()))) := by kernel_rfl
theorem laws_eqIntS_e0_1 (x0 : List Int) (x1 : List Int) : laws_eqIntS_K0 x0 x1 (.exit 0) (laws_eqIntS_x0_1) =
 some ((true, ()), ((), ((), ()))) := by kernel_rfl
/-! laws.eqMsg -/
noncomputable def laws_eqMsg_b : Code := bd Try.f53
def laws_eqMsg_T : List (Nat × Tm) := []
noncomputable def laws_eqMsg_E : Env := ⟨tt0, [(36, laws_eqIntS_C)]⟩
noncomputable def laws_eqMsg_F : PsD [.ro tMsg, .ro tMsg] → Option (RsD [.own tB] × PsO [.ro tMsg, .ro tMsg]) := fun x => evFn laws_eqMsg_E laws_eqMsg_T Try.f53 laws_eqMsg_b [.ro tMsg, .ro tMsg] [.own tB] x
@[reducible] noncomputable def laws_eqMsg_C : Ct := ⟨[.ro tMsg, .ro tMsg], [.own tB], laws_eqMsg_F⟩
theorem laws_eqMsg_h (x : PsD [.ro tMsg, .ro tMsg]) (y : RsD [.own tB] × PsO [.ro tMsg, .ro tMsg]) (h : laws_eqMsg_F x = some y) : evFn laws_eqMsg_E laws_eqMsg_T Try.f53 laws_eqMsg_b [.ro tMsg, .ro tMsg] [.own tB] x = some y := h
theorem laws_eqMsg_c : ∀ f c, get laws_eqMsg_E.ct f = some c → Sat Try.prog f c := ct_cons laws_eqIntS_S (ct_nil)
theorem laws_eqMsg_S : Sat Try.prog 53 laws_eqMsg_C := fn_ok2 (envOk _) laws_eqMsg_c mixedOk Try.func53 (by kernel_rfl : Try.f53.body = some laws_eqMsg_b) (by kernel_rfl) (by kernel_rfl) laws_eqMsg_h
noncomputable def laws_eqMsg_Ke  (x0 : Int × Int × Int × Int × List Int × Unit) (x1 : Int × Int × Int × Int × List Int × Unit) : Ex → AS → Option (RsD [.own tB] × PsO [.ro tMsg, .ro tMsg]) := endK laws_eqMsg_E Try.f53 [.ro tMsg, .ro tMsg] [.own tB] (initL [.ro tMsg, .ro tMsg] (x0, (x1, ())) 0).1
theorem laws_eqMsg_main (x0 : Int × Int × Int × Int × List Int × Unit) (x1 : Int × Int × Int × Int × List Int × Unit) : laws_eqMsg_F (x0, (x1, ())) =
 brk (!decide (x0.1 = x1.1))
 (some ((false, ()), ((), ((), ()))))
 (brk (!decide (x0.2.1 = x1.2.1))
 (some ((false, ()), ((), ((), ()))))
 (brk (!decide (x0.2.2.1 = x1.2.2.1))
 (some ((false, ()), ((), ((), ()))))
 (brk (!decide (x0.2.2.2.1 = x1.2.2.2.1))
 (some ((false, ()), ((), ((), ()))))
 ((laws_eqIntS_F (x0.2.2.2.2.1, (x1.2.2.2.2.1, ()))).bind fun y29 =>
 brk (!y29.1.1)
 (some ((false, ()), ((), ((), ()))))
 (some ((true, ()), ((), ((), ())))))))) := by kernel_rfl
/-! laws.eqMsgS -/
noncomputable def laws_eqMsgS_b : Code := bd Try.f79
@[reducible] def laws_eqMsgS_t0 : Tm := ⟨[], [], [(0, .sc true tMsgs), (1, .sc true tMsgs), (5, .sc true tI)], [], [4], []⟩
def laws_eqMsgS_T : List (Nat × Tm) := [(0, laws_eqMsgS_t0)]
noncomputable def laws_eqMsgS_E : Env := ⟨tt0, [(53, laws_eqMsg_C)]⟩
noncomputable def laws_eqMsgS_F : PsD [.ro tMsgs, .ro tMsgs] → Option (RsD [.own tB] × PsO [.ro tMsgs, .ro tMsgs]) := fun x => evFn laws_eqMsgS_E laws_eqMsgS_T Try.f79 laws_eqMsgS_b [.ro tMsgs, .ro tMsgs] [.own tB] x
@[reducible] noncomputable def laws_eqMsgS_C : Ct := ⟨[.ro tMsgs, .ro tMsgs], [.own tB], laws_eqMsgS_F⟩
theorem laws_eqMsgS_h (x : PsD [.ro tMsgs, .ro tMsgs]) (y : RsD [.own tB] × PsO [.ro tMsgs, .ro tMsgs]) (h : laws_eqMsgS_F x = some y) : evFn laws_eqMsgS_E laws_eqMsgS_T Try.f79 laws_eqMsgS_b [.ro tMsgs, .ro tMsgs] [.own tB] x = some y := h
theorem laws_eqMsgS_c : ∀ f c, get laws_eqMsgS_E.ct f = some c → Sat Try.prog f c := ct_cons laws_eqMsg_S (ct_nil)
theorem laws_eqMsgS_S : Sat Try.prog 79 laws_eqMsgS_C := fn_ok2 (envOk _) laws_eqMsgS_c mixedOk Try.func79 (by kernel_rfl : Try.f79.body = some laws_eqMsgS_b) (by kernel_rfl) (by kernel_rfl) laws_eqMsgS_h
noncomputable def laws_eqMsgS_Ke  (x0 : List (Int × Int × Int × Int × List Int × Unit)) (x1 : List (Int × Int × Int × Int × List Int × Unit)) : Ex → AS → Option (RsD [.own tB] × PsO [.ro tMsgs, .ro tMsgs]) := endK laws_eqMsgS_E Try.f79 [.ro tMsgs, .ro tMsgs] [.own tB] (initL [.ro tMsgs, .ro tMsgs] (x0, (x1, ())) 0).1
noncomputable def laws_eqMsgS_B0 {R : Type} : AS → (Ex → AS → Option R) → Option R := fun A K => ev laws_eqMsgS_E laws_eqMsgS_T 0 (cA (cA (cB (cA (cB (cB laws_eqMsgS_b)))))) A K
noncomputable def laws_eqMsgS_K0  (x0 : List (Int × Int × Int × Int × List Int × Unit)) (x1 : List (Int × Int × Int × Int × List Int × Unit)) : Ex → AS → Option (RsD [.own tB] × PsO [.ro tMsgs, .ro tMsgs]) := kBlk 0 (kSeq (fun A K => ev laws_eqMsgS_E laws_eqMsgS_T 1000 (cB (cB (cB laws_eqMsgS_b))) A K) (laws_eqMsgS_Ke x0 x1))
noncomputable def laws_eqMsgS_x0_0 (d0 : Bool) : AS := ⟨[(4, .v (.one (.d true tB d0)))], []⟩
noncomputable def laws_eqMsgS_x0_1 : AS := ⟨[], []⟩
theorem laws_eqMsgS_l0 {R : Type} {K : Ex → AS → Option R} {s : laws_eqMsgS_t0.D} (n : Nat) {v : Option R} (h : iterG laws_eqMsgS_t0 laws_eqMsgS_B0 K n s = v) (hv : ∃ r, v = some r) : loopG laws_eqMsgS_t0 laws_eqMsgS_B0 K s = v := loop_eq (ev_mono _ _) n h hv
theorem laws_eqMsgS_main (x0 : List (Int × Int × Int × Int × List Int × Unit)) (x1 : List (Int × Int × Int × Int × List Int × Unit)) : laws_eqMsgS_F (x0, (x1, ())) =
 brk (!decide ((x0.length : Int) = (x1.length : Int)))
 (some ((false, ()), ((), ((), ()))))
 (loopG laws_eqMsgS_t0 laws_eqMsgS_B0 (laws_eqMsgS_K0 x0 x1) ((x0, (x1, ((0 : Int), ()))), ())) := by kernel_rfl
theorem laws_eqMsgS_r0 {R : Type} (K : Ex → AS → Option R) (n : Nat) (t0 : List (Int × Int × Int × Int × List Int × Unit)) (t1 : List (Int × Int × Int × Int × List Int × Unit)) (t5 : Int) : iterG laws_eqMsgS_t0 laws_eqMsgS_B0 K (n + 1) ((t0, (t1, (t5, ()))), ()) =
 brk (decide (t5 < (t0.length : Int)))
 (ck (decide (0 ≤ t5) && decide (t5 < t0.length)) (ck (decide (0 ≤ t5) && decide (t5 < t1.length)) ((laws_eqMsg_F (((rdD tMsg t0 t5).1, (((rdD tMsg t0 t5).2).1, ((((rdD tMsg t0 t5).2).2).1, (((((rdD tMsg t0 t5).2).2).2).1, ((((((rdD tMsg t0 t5).2).2).2).2).1, ()))))), (((rdD tMsg t1 t5).1, (((rdD tMsg t1 t5).2).1, ((((rdD tMsg t1 t5).2).2).1, (((((rdD tMsg t1 t5).2).2).2).1, ((((((rdD tMsg t1 t5).2).2).2).2).1, ()))))), ()))).bind fun y25 =>
 brk (!y25.1.1)
 (K .ret (laws_eqMsgS_x0_0 false))
 (iterG laws_eqMsgS_t0 laws_eqMsgS_B0 K n ((t0, (t1, (IntKind.i64.wrap (t5 + (1 : Int)), ()))), ())))))
 (K (.exit 0) (laws_eqMsgS_x0_1)) := by kernel_rfl
theorem laws_eqMsgS_e0_0 (x0 : List (Int × Int × Int × Int × List Int × Unit)) (x1 : List (Int × Int × Int × Int × List Int × Unit)) (d0 : Bool) : laws_eqMsgS_K0 x0 x1 .ret (laws_eqMsgS_x0_0 d0) =
 some ((d0, ()), ((), ((), ()))) := by kernel_rfl
theorem laws_eqMsgS_e0_1 (x0 : List (Int × Int × Int × Int × List Int × Unit)) (x1 : List (Int × Int × Int × Int × List Int × Unit)) : laws_eqMsgS_K0 x0 x1 (.exit 0) (laws_eqMsgS_x0_1) =
 some ((true, ()), ((), ((), ()))) := by kernel_rfl
/-! laws.markIntS -/
noncomputable def laws_markIntS_b : Code := bd Try.f37
@[reducible] def laws_markIntS_t0 : Tm := ⟨[], [], [(0, .own 1000000), (1, .sc true tI), (5, .sc true tI)], [(1000000, .arr 3 tI)], [1], []⟩
def laws_markIntS_T : List (Nat × Tm) := [(0, laws_markIntS_t0)]
noncomputable def laws_markIntS_E : Env := ⟨tt0, []⟩
noncomputable def laws_markIntS_F : PsD [.inp tIs, .ro tI] → Option (RsD [.own tI] × PsO [.inp tIs, .ro tI]) := fun x => evFn laws_markIntS_E laws_markIntS_T Try.f37 laws_markIntS_b [.inp tIs, .ro tI] [.own tI] x
@[reducible] noncomputable def laws_markIntS_C : Ct := ⟨[.inp tIs, .ro tI], [.own tI], laws_markIntS_F⟩
theorem laws_markIntS_h (x : PsD [.inp tIs, .ro tI]) (y : RsD [.own tI] × PsO [.inp tIs, .ro tI]) (h : laws_markIntS_F x = some y) : evFn laws_markIntS_E laws_markIntS_T Try.f37 laws_markIntS_b [.inp tIs, .ro tI] [.own tI] x = some y := h
theorem laws_markIntS_c : ∀ f c, get laws_markIntS_E.ct f = some c → Sat Try.prog f c := ct_nil
theorem laws_markIntS_S : Sat Try.prog 37 laws_markIntS_C := fn_ok2 (envOk _) laws_markIntS_c mixedOk Try.func37 (by kernel_rfl : Try.f37.body = some laws_markIntS_b) (by kernel_rfl) (by kernel_rfl) laws_markIntS_h
noncomputable def laws_markIntS_Ke  (x0 : List Int) (x1 : Int) : Ex → AS → Option (RsD [.own tI] × PsO [.inp tIs, .ro tI]) := endK laws_markIntS_E Try.f37 [.inp tIs, .ro tI] [.own tI] (initL [.inp tIs, .ro tI] (x0, (x1, ())) 0).1
noncomputable def laws_markIntS_B0 {R : Type} : AS → (Ex → AS → Option R) → Option R := fun A K => ev laws_markIntS_E laws_markIntS_T 0 (cA (cA (cB (cA (cB laws_markIntS_b))))) A K
noncomputable def laws_markIntS_K0  (x0 : List Int) (x1 : Int) : Ex → AS → Option (RsD [.own tI] × PsO [.inp tIs, .ro tI]) := kBlk 0 (kSeq (fun A K => ev laws_markIntS_E laws_markIntS_T 1000 (cB (cB laws_markIntS_b)) A K) (laws_markIntS_Ke x0 x1))
noncomputable def laws_markIntS_x0_0 (d0 : Int) (d1 : List Int) : AS := ⟨[(1, .v (.one (.d true tI d0)))], [(1000000, .arr 3 tI d1)]⟩
theorem laws_markIntS_l0 {R : Type} {K : Ex → AS → Option R} {s : laws_markIntS_t0.D} (n : Nat) {v : Option R} (h : iterG laws_markIntS_t0 laws_markIntS_B0 K n s = v) (hv : ∃ r, v = some r) : loopG laws_markIntS_t0 laws_markIntS_B0 K s = v := loop_eq (ev_mono _ _) n h hv
theorem laws_markIntS_main (x0 : List Int) (x1 : Int) : laws_markIntS_F (x0, (x1, ())) =
 loopG laws_markIntS_t0 laws_markIntS_B0 (laws_markIntS_K0 x0 x1) ((x1, ((0 : Int), ())), (x0, ())) := by kernel_rfl
theorem laws_markIntS_r0 {R : Type} (K : Ex → AS → Option R) (n : Nat) (t1 : Int) (t5 : Int) (a1000000 : List Int) : iterG laws_markIntS_t0 laws_markIntS_B0 K (n + 1) ((t1, (t5, ())), (a1000000, ())) =
 brk (decide (t5 < (a1000000.length : Int)))
 (ck (decide (0 ≤ t5) && decide (t5 < a1000000.length)) (iterG laws_markIntS_t0 laws_markIntS_B0 K n ((IntKind.i64.wrap (t1 + (1 : Int)), (IntKind.i64.wrap (t5 + (1 : Int)), ())), (a1000000.set t5.toNat t1, ()))))
 (K (.exit 0) (laws_markIntS_x0_0 t1 a1000000)) := by kernel_rfl
theorem laws_markIntS_e0_0 (x0 : List Int) (x1 : Int) (d0 : Int) (d1 : List Int) : laws_markIntS_K0 x0 x1 (.exit 0) (laws_markIntS_x0_0 d0 d1) =
 some ((d0, ()), (d1, ((), ()))) := by kernel_rfl
/-! laws.markMsgS -/
noncomputable def laws_markMsgS_b : Code := bd Try.f80
@[reducible] def laws_markMsgS_t0 : Tm := ⟨[], [], [(0, .own 1000000), (1, .sc true tI), (5, .sc true tI)], [(1000000, .arr 54 tMsg)], [1], []⟩
def laws_markMsgS_T : List (Nat × Tm) := [(0, laws_markMsgS_t0)]
noncomputable def laws_markMsgS_E : Env := ⟨tt0, [(37, laws_markIntS_C)]⟩
noncomputable def laws_markMsgS_F : PsD [.inp tMsgs, .ro tI] → Option (RsD [.own tI] × PsO [.inp tMsgs, .ro tI]) := fun x => evFn laws_markMsgS_E laws_markMsgS_T Try.f80 laws_markMsgS_b [.inp tMsgs, .ro tI] [.own tI] x
@[reducible] noncomputable def laws_markMsgS_C : Ct := ⟨[.inp tMsgs, .ro tI], [.own tI], laws_markMsgS_F⟩
theorem laws_markMsgS_h (x : PsD [.inp tMsgs, .ro tI]) (y : RsD [.own tI] × PsO [.inp tMsgs, .ro tI]) (h : laws_markMsgS_F x = some y) : evFn laws_markMsgS_E laws_markMsgS_T Try.f80 laws_markMsgS_b [.inp tMsgs, .ro tI] [.own tI] x = some y := h
theorem laws_markMsgS_c : ∀ f c, get laws_markMsgS_E.ct f = some c → Sat Try.prog f c := ct_cons laws_markIntS_S (ct_nil)
theorem laws_markMsgS_S : Sat Try.prog 80 laws_markMsgS_C := fn_ok2 (envOk _) laws_markMsgS_c mixedOk Try.func80 (by kernel_rfl : Try.f80.body = some laws_markMsgS_b) (by kernel_rfl) (by kernel_rfl) laws_markMsgS_h
noncomputable def laws_markMsgS_Ke  (x0 : List (Int × Int × Int × Int × List Int × Unit)) (x1 : Int) : Ex → AS → Option (RsD [.own tI] × PsO [.inp tMsgs, .ro tI]) := endK laws_markMsgS_E Try.f80 [.inp tMsgs, .ro tI] [.own tI] (initL [.inp tMsgs, .ro tI] (x0, (x1, ())) 0).1
noncomputable def laws_markMsgS_B0 {R : Type} : AS → (Ex → AS → Option R) → Option R := fun A K => ev laws_markMsgS_E laws_markMsgS_T 0 (cA (cA (cB (cA (cB laws_markMsgS_b))))) A K
noncomputable def laws_markMsgS_K0  (x0 : List (Int × Int × Int × Int × List Int × Unit)) (x1 : Int) : Ex → AS → Option (RsD [.own tI] × PsO [.inp tMsgs, .ro tI]) := kBlk 0 (kSeq (fun A K => ev laws_markMsgS_E laws_markMsgS_T 1000 (cB (cB laws_markMsgS_b)) A K) (laws_markMsgS_Ke x0 x1))
noncomputable def laws_markMsgS_x0_0 (d0 : Int) (d1 : List (Int × Int × Int × Int × List Int × Unit)) : AS := ⟨[(1, .v (.one (.d true tI d0)))], [(1000000, .arr 54 tMsg d1)]⟩
theorem laws_markMsgS_l0 {R : Type} {K : Ex → AS → Option R} {s : laws_markMsgS_t0.D} (n : Nat) {v : Option R} (h : iterG laws_markMsgS_t0 laws_markMsgS_B0 K n s = v) (hv : ∃ r, v = some r) : loopG laws_markMsgS_t0 laws_markMsgS_B0 K s = v := loop_eq (ev_mono _ _) n h hv
theorem laws_markMsgS_main (x0 : List (Int × Int × Int × Int × List Int × Unit)) (x1 : Int) : laws_markMsgS_F (x0, (x1, ())) =
 loopG laws_markMsgS_t0 laws_markMsgS_B0 (laws_markMsgS_K0 x0 x1) ((x1, ((0 : Int), ())), (x0, ())) := by kernel_rfl
theorem laws_markMsgS_r0 {R : Type} (K : Ex → AS → Option R) (n : Nat) (t1 : Int) (t5 : Int) (a1000000 : List (Int × Int × Int × Int × List Int × Unit)) : iterG laws_markMsgS_t0 laws_markMsgS_B0 K (n + 1) ((t1, (t5, ())), (a1000000, ())) =
 brk (decide (t5 < (a1000000.length : Int)))
 (ck (decide (0 ≤ t5) && decide (t5 < a1000000.length)) (ck (decide (0 ≤ t5) && decide (t5 < (a1000000.set t5.toNat (t1, (rdD tMsg a1000000 t5).2)).length)) (ck (decide (0 ≤ t5) && decide (t5 < ((a1000000.set t5.toNat (t1, (rdD tMsg a1000000 t5).2)).set t5.toNat ((rdD tMsg (a1000000.set t5.toNat (t1, (rdD tMsg a1000000 t5).2)) t5).1, (IntKind.i64.wrap (t1 + (1 : Int)), ((rdD tMsg (a1000000.set t5.toNat (t1, (rdD tMsg a1000000 t5).2)) t5).2).2))).length)) (ck (decide (0 ≤ t5) && decide (t5 < (((a1000000.set t5.toNat (t1, (rdD tMsg a1000000 t5).2)).set t5.toNat ((rdD tMsg (a1000000.set t5.toNat (t1, (rdD tMsg a1000000 t5).2)) t5).1, (IntKind.i64.wrap (t1 + (1 : Int)), ((rdD tMsg (a1000000.set t5.toNat (t1, (rdD tMsg a1000000 t5).2)) t5).2).2))).set t5.toNat ((rdD tMsg ((a1000000.set t5.toNat (t1, (rdD tMsg a1000000 t5).2)).set t5.toNat ((rdD tMsg (a1000000.set t5.toNat (t1, (rdD tMsg a1000000 t5).2)) t5).1, (IntKind.i64.wrap (t1 + (1 : Int)), ((rdD tMsg (a1000000.set t5.toNat (t1, (rdD tMsg a1000000 t5).2)) t5).2).2))) t5).1, (((rdD tMsg ((a1000000.set t5.toNat (t1, (rdD tMsg a1000000 t5).2)).set t5.toNat ((rdD tMsg (a1000000.set t5.toNat (t1, (rdD tMsg a1000000 t5).2)) t5).1, (IntKind.i64.wrap (t1 + (1 : Int)), ((rdD tMsg (a1000000.set t5.toNat (t1, (rdD tMsg a1000000 t5).2)) t5).2).2))) t5).2).1, (IntKind.i64.wrap ((IntKind.i64.wrap (t1 + (1 : Int))) + (1 : Int)), (((rdD tMsg ((a1000000.set t5.toNat (t1, (rdD tMsg a1000000 t5).2)).set t5.toNat ((rdD tMsg (a1000000.set t5.toNat (t1, (rdD tMsg a1000000 t5).2)) t5).1, (IntKind.i64.wrap (t1 + (1 : Int)), ((rdD tMsg (a1000000.set t5.toNat (t1, (rdD tMsg a1000000 t5).2)) t5).2).2))) t5).2).2).2)))).length)) (ck (decide (0 ≤ t5) && decide (t5 < ((((a1000000.set t5.toNat (t1, (rdD tMsg a1000000 t5).2)).set t5.toNat ((rdD tMsg (a1000000.set t5.toNat (t1, (rdD tMsg a1000000 t5).2)) t5).1, (IntKind.i64.wrap (t1 + (1 : Int)), ((rdD tMsg (a1000000.set t5.toNat (t1, (rdD tMsg a1000000 t5).2)) t5).2).2))).set t5.toNat ((rdD tMsg ((a1000000.set t5.toNat (t1, (rdD tMsg a1000000 t5).2)).set t5.toNat ((rdD tMsg (a1000000.set t5.toNat (t1, (rdD tMsg a1000000 t5).2)) t5).1, (IntKind.i64.wrap (t1 + (1 : Int)), ((rdD tMsg (a1000000.set t5.toNat (t1, (rdD tMsg a1000000 t5).2)) t5).2).2))) t5).1, (((rdD tMsg ((a1000000.set t5.toNat (t1, (rdD tMsg a1000000 t5).2)).set t5.toNat ((rdD tMsg (a1000000.set t5.toNat (t1, (rdD tMsg a1000000 t5).2)) t5).1, (IntKind.i64.wrap (t1 + (1 : Int)), ((rdD tMsg (a1000000.set t5.toNat (t1, (rdD tMsg a1000000 t5).2)) t5).2).2))) t5).2).1, (IntKind.i64.wrap ((IntKind.i64.wrap (t1 + (1 : Int))) + (1 : Int)), (((rdD tMsg ((a1000000.set t5.toNat (t1, (rdD tMsg a1000000 t5).2)).set t5.toNat ((rdD tMsg (a1000000.set t5.toNat (t1, (rdD tMsg a1000000 t5).2)) t5).1, (IntKind.i64.wrap (t1 + (1 : Int)), ((rdD tMsg (a1000000.set t5.toNat (t1, (rdD tMsg a1000000 t5).2)) t5).2).2))) t5).2).2).2)))).set t5.toNat ((rdD tMsg (((a1000000.set t5.toNat (t1, (rdD tMsg a1000000 t5).2)).set t5.toNat ((rdD tMsg (a1000000.set t5.toNat (t1, (rdD tMsg a1000000 t5).2)) t5).1, (IntKind.i64.wrap (t1 + (1 : Int)), ((rdD tMsg (a1000000.set t5.toNat (t1, (rdD tMsg a1000000 t5).2)) t5).2).2))).set t5.toNat ((rdD tMsg ((a1000000.set t5.toNat (t1, (rdD tMsg a1000000 t5).2)).set t5.toNat ((rdD tMsg (a1000000.set t5.toNat (t1, (rdD tMsg a1000000 t5).2)) t5).1, (IntKind.i64.wrap (t1 + (1 : Int)), ((rdD tMsg (a1000000.set t5.toNat (t1, (rdD tMsg a1000000 t5).2)) t5).2).2))) t5).1, (((rdD tMsg ((a1000000.set t5.toNat (t1, (rdD tMsg a1000000 t5).2)).set t5.toNat ((rdD tMsg (a1000000.set t5.toNat (t1, (rdD tMsg a1000000 t5).2)) t5).1, (IntKind.i64.wrap (t1 + (1 : Int)), ((rdD tMsg (a1000000.set t5.toNat (t1, (rdD tMsg a1000000 t5).2)) t5).2).2))) t5).2).1, (IntKind.i64.wrap ((IntKind.i64.wrap (t1 + (1 : Int))) + (1 : Int)), (((rdD tMsg ((a1000000.set t5.toNat (t1, (rdD tMsg a1000000 t5).2)).set t5.toNat ((rdD tMsg (a1000000.set t5.toNat (t1, (rdD tMsg a1000000 t5).2)) t5).1, (IntKind.i64.wrap (t1 + (1 : Int)), ((rdD tMsg (a1000000.set t5.toNat (t1, (rdD tMsg a1000000 t5).2)) t5).2).2))) t5).2).2).2)))) t5).1, (((rdD tMsg (((a1000000.set t5.toNat (t1, (rdD tMsg a1000000 t5).2)).set t5.toNat ((rdD tMsg (a1000000.set t5.toNat (t1, (rdD tMsg a1000000 t5).2)) t5).1, (IntKind.i64.wrap (t1 + (1 : Int)), ((rdD tMsg (a1000000.set t5.toNat (t1, (rdD tMsg a1000000 t5).2)) t5).2).2))).set t5.toNat ((rdD tMsg ((a1000000.set t5.toNat (t1, (rdD tMsg a1000000 t5).2)).set t5.toNat ((rdD tMsg (a1000000.set t5.toNat (t1, (rdD tMsg a1000000 t5).2)) t5).1, (IntKind.i64.wrap (t1 + (1 : Int)), ((rdD tMsg (a1000000.set t5.toNat (t1, (rdD tMsg a1000000 t5).2)) t5).2).2))) t5).1, (((rdD tMsg ((a1000000.set t5.toNat (t1, (rdD tMsg a1000000 t5).2)).set t5.toNat ((rdD tMsg (a1000000.set t5.toNat (t1, (rdD tMsg a1000000 t5).2)) t5).1, (IntKind.i64.wrap (t1 + (1 : Int)), ((rdD tMsg (a1000000.set t5.toNat (t1, (rdD tMsg a1000000 t5).2)) t5).2).2))) t5).2).1, (IntKind.i64.wrap ((IntKind.i64.wrap (t1 + (1 : Int))) + (1 : Int)), (((rdD tMsg ((a1000000.set t5.toNat (t1, (rdD tMsg a1000000 t5).2)).set t5.toNat ((rdD tMsg (a1000000.set t5.toNat (t1, (rdD tMsg a1000000 t5).2)) t5).1, (IntKind.i64.wrap (t1 + (1 : Int)), ((rdD tMsg (a1000000.set t5.toNat (t1, (rdD tMsg a1000000 t5).2)) t5).2).2))) t5).2).2).2)))) t5).2).1, ((((rdD tMsg (((a1000000.set t5.toNat (t1, (rdD tMsg a1000000 t5).2)).set t5.toNat ((rdD tMsg (a1000000.set t5.toNat (t1, (rdD tMsg a1000000 t5).2)) t5).1, (IntKind.i64.wrap (t1 + (1 : Int)), ((rdD tMsg (a1000000.set t5.toNat (t1, (rdD tMsg a1000000 t5).2)) t5).2).2))).set t5.toNat ((rdD tMsg ((a1000000.set t5.toNat (t1, (rdD tMsg a1000000 t5).2)).set t5.toNat ((rdD tMsg (a1000000.set t5.toNat (t1, (rdD tMsg a1000000 t5).2)) t5).1, (IntKind.i64.wrap (t1 + (1 : Int)), ((rdD tMsg (a1000000.set t5.toNat (t1, (rdD tMsg a1000000 t5).2)) t5).2).2))) t5).1, (((rdD tMsg ((a1000000.set t5.toNat (t1, (rdD tMsg a1000000 t5).2)).set t5.toNat ((rdD tMsg (a1000000.set t5.toNat (t1, (rdD tMsg a1000000 t5).2)) t5).1, (IntKind.i64.wrap (t1 + (1 : Int)), ((rdD tMsg (a1000000.set t5.toNat (t1, (rdD tMsg a1000000 t5).2)) t5).2).2))) t5).2).1, (IntKind.i64.wrap ((IntKind.i64.wrap (t1 + (1 : Int))) + (1 : Int)), (((rdD tMsg ((a1000000.set t5.toNat (t1, (rdD tMsg a1000000 t5).2)).set t5.toNat ((rdD tMsg (a1000000.set t5.toNat (t1, (rdD tMsg a1000000 t5).2)) t5).1, (IntKind.i64.wrap (t1 + (1 : Int)), ((rdD tMsg (a1000000.set t5.toNat (t1, (rdD tMsg a1000000 t5).2)) t5).2).2))) t5).2).2).2)))) t5).2).2).1, (IntKind.i64.wrap ((IntKind.i64.wrap ((IntKind.i64.wrap (t1 + (1 : Int))) + (1 : Int))) + (1 : Int)), ((((rdD tMsg (((a1000000.set t5.toNat (t1, (rdD tMsg a1000000 t5).2)).set t5.toNat ((rdD tMsg (a1000000.set t5.toNat (t1, (rdD tMsg a1000000 t5).2)) t5).1, (IntKind.i64.wrap (t1 + (1 : Int)), ((rdD tMsg (a1000000.set t5.toNat (t1, (rdD tMsg a1000000 t5).2)) t5).2).2))).set t5.toNat ((rdD tMsg ((a1000000.set t5.toNat (t1, (rdD tMsg a1000000 t5).2)).set t5.toNat ((rdD tMsg (a1000000.set t5.toNat (t1, (rdD tMsg a1000000 t5).2)) t5).1, (IntKind.i64.wrap (t1 + (1 : Int)), ((rdD tMsg (a1000000.set t5.toNat (t1, (rdD tMsg a1000000 t5).2)) t5).2).2))) t5).1, (((rdD tMsg ((a1000000.set t5.toNat (t1, (rdD tMsg a1000000 t5).2)).set t5.toNat ((rdD tMsg (a1000000.set t5.toNat (t1, (rdD tMsg a1000000 t5).2)) t5).1, (IntKind.i64.wrap (t1 + (1 : Int)), ((rdD tMsg (a1000000.set t5.toNat (t1, (rdD tMsg a1000000 t5).2)) t5).2).2))) t5).2).1, (IntKind.i64.wrap ((IntKind.i64.wrap (t1 + (1 : Int))) + (1 : Int)), (((rdD tMsg ((a1000000.set t5.toNat (t1, (rdD tMsg a1000000 t5).2)).set t5.toNat ((rdD tMsg (a1000000.set t5.toNat (t1, (rdD tMsg a1000000 t5).2)) t5).1, (IntKind.i64.wrap (t1 + (1 : Int)), ((rdD tMsg (a1000000.set t5.toNat (t1, (rdD tMsg a1000000 t5).2)) t5).2).2))) t5).2).2).2)))) t5).2).2).2).2))))).length)) ((laws_markIntS_F ((((((rdD tMsg ((((a1000000.set t5.toNat (t1, (rdD tMsg a1000000 t5).2)).set t5.toNat ((rdD tMsg (a1000000.set t5.toNat (t1, (rdD tMsg a1000000 t5).2)) t5).1, (IntKind.i64.wrap (t1 + (1 : Int)), ((rdD tMsg (a1000000.set t5.toNat (t1, (rdD tMsg a1000000 t5).2)) t5).2).2))).set t5.toNat ((rdD tMsg ((a1000000.set t5.toNat (t1, (rdD tMsg a1000000 t5).2)).set t5.toNat ((rdD tMsg (a1000000.set t5.toNat (t1, (rdD tMsg a1000000 t5).2)) t5).1, (IntKind.i64.wrap (t1 + (1 : Int)), ((rdD tMsg (a1000000.set t5.toNat (t1, (rdD tMsg a1000000 t5).2)) t5).2).2))) t5).1, (((rdD tMsg ((a1000000.set t5.toNat (t1, (rdD tMsg a1000000 t5).2)).set t5.toNat ((rdD tMsg (a1000000.set t5.toNat (t1, (rdD tMsg a1000000 t5).2)) t5).1, (IntKind.i64.wrap (t1 + (1 : Int)), ((rdD tMsg (a1000000.set t5.toNat (t1, (rdD tMsg a1000000 t5).2)) t5).2).2))) t5).2).1, (IntKind.i64.wrap ((IntKind.i64.wrap (t1 + (1 : Int))) + (1 : Int)), (((rdD tMsg ((a1000000.set t5.toNat (t1, (rdD tMsg a1000000 t5).2)).set t5.toNat ((rdD tMsg (a1000000.set t5.toNat (t1, (rdD tMsg a1000000 t5).2)) t5).1, (IntKind.i64.wrap (t1 + (1 : Int)), ((rdD tMsg (a1000000.set t5.toNat (t1, (rdD tMsg a1000000 t5).2)) t5).2).2))) t5).2).2).2)))).set t5.toNat ((rdD tMsg (((a1000000.set t5.toNat (t1, (rdD tMsg a1000000 t5).2)).set t5.toNat ((rdD tMsg (a1000000.set t5.toNat (t1, (rdD tMsg a1000000 t5).2)) t5).1, (IntKind.i64.wrap (t1 + (1 : Int)), ((rdD tMsg (a1000000.set t5.toNat (t1, (rdD tMsg a1000000 t5).2)) t5).2).2))).set t5.toNat ((rdD tMsg ((a1000000.set t5.toNat (t1, (rdD tMsg a1000000 t5).2)).set t5.toNat ((rdD tMsg (a1000000.set t5.toNat (t1, (rdD tMsg a1000000 t5).2)) t5).1, (IntKind.i64.wrap (t1 + (1 : Int)), ((rdD tMsg (a1000000.set t5.toNat (t1, (rdD tMsg a1000000 t5).2)) t5).2).2))) t5).1, (((rdD tMsg ((a1000000.set t5.toNat (t1, (rdD tMsg a1000000 t5).2)).set t5.toNat ((rdD tMsg (a1000000.set t5.toNat (t1, (rdD tMsg a1000000 t5).2)) t5).1, (IntKind.i64.wrap (t1 + (1 : Int)), ((rdD tMsg (a1000000.set t5.toNat (t1, (rdD tMsg a1000000 t5).2)) t5).2).2))) t5).2).1, (IntKind.i64.wrap ((IntKind.i64.wrap (t1 + (1 : Int))) + (1 : Int)), (((rdD tMsg ((a1000000.set t5.toNat (t1, (rdD tMsg a1000000 t5).2)).set t5.toNat ((rdD tMsg (a1000000.set t5.toNat (t1, (rdD tMsg a1000000 t5).2)) t5).1, (IntKind.i64.wrap (t1 + (1 : Int)), ((rdD tMsg (a1000000.set t5.toNat (t1, (rdD tMsg a1000000 t5).2)) t5).2).2))) t5).2).2).2)))) t5).1, (((rdD tMsg (((a1000000.set t5.toNat (t1, (rdD tMsg a1000000 t5).2)).set t5.toNat ((rdD tMsg (a1000000.set t5.toNat (t1, (rdD tMsg a1000000 t5).2)) t5).1, (IntKind.i64.wrap (t1 + (1 : Int)), ((rdD tMsg (a1000000.set t5.toNat (t1, (rdD tMsg a1000000 t5).2)) t5).2).2))).set t5.toNat ((rdD tMsg ((a1000000.set t5.toNat (t1, (rdD tMsg a1000000 t5).2)).set t5.toNat ((rdD tMsg (a1000000.set t5.toNat (t1, (rdD tMsg a1000000 t5).2)) t5).1, (IntKind.i64.wrap (t1 + (1 : Int)), ((rdD tMsg (a1000000.set t5.toNat (t1, (rdD tMsg a1000000 t5).2)) t5).2).2))) t5).1, (((rdD tMsg ((a1000000.set t5.toNat (t1, (rdD tMsg a1000000 t5).2)).set t5.toNat ((rdD tMsg (a1000000.set t5.toNat (t1, (rdD tMsg a1000000 t5).2)) t5).1, (IntKind.i64.wrap (t1 + (1 : Int)), ((rdD tMsg (a1000000.set t5.toNat (t1, (rdD tMsg a1000000 t5).2)) t5).2).2))) t5).2).1, (IntKind.i64.wrap ((IntKind.i64.wrap (t1 + (1 : Int))) + (1 : Int)), (((rdD tMsg ((a1000000.set t5.toNat (t1, (rdD tMsg a1000000 t5).2)).set t5.toNat ((rdD tMsg (a1000000.set t5.toNat (t1, (rdD tMsg a1000000 t5).2)) t5).1, (IntKind.i64.wrap (t1 + (1 : Int)), ((rdD tMsg (a1000000.set t5.toNat (t1, (rdD tMsg a1000000 t5).2)) t5).2).2))) t5).2).2).2)))) t5).2).1, ((((rdD tMsg (((a1000000.set t5.toNat (t1, (rdD tMsg a1000000 t5).2)).set t5.toNat ((rdD tMsg (a1000000.set t5.toNat (t1, (rdD tMsg a1000000 t5).2)) t5).1, (IntKind.i64.wrap (t1 + (1 : Int)), ((rdD tMsg (a1000000.set t5.toNat (t1, (rdD tMsg a1000000 t5).2)) t5).2).2))).set t5.toNat ((rdD tMsg ((a1000000.set t5.toNat (t1, (rdD tMsg a1000000 t5).2)).set t5.toNat ((rdD tMsg (a1000000.set t5.toNat (t1, (rdD tMsg a1000000 t5).2)) t5).1, (IntKind.i64.wrap (t1 + (1 : Int)), ((rdD tMsg (a1000000.set t5.toNat (t1, (rdD tMsg a1000000 t5).2)) t5).2).2))) t5).1, (((rdD tMsg ((a1000000.set t5.toNat (t1, (rdD tMsg a1000000 t5).2)).set t5.toNat ((rdD tMsg (a1000000.set t5.toNat (t1, (rdD tMsg a1000000 t5).2)) t5).1, (IntKind.i64.wrap (t1 + (1 : Int)), ((rdD tMsg (a1000000.set t5.toNat (t1, (rdD tMsg a1000000 t5).2)) t5).2).2))) t5).2).1, (IntKind.i64.wrap ((IntKind.i64.wrap (t1 + (1 : Int))) + (1 : Int)), (((rdD tMsg ((a1000000.set t5.toNat (t1, (rdD tMsg a1000000 t5).2)).set t5.toNat ((rdD tMsg (a1000000.set t5.toNat (t1, (rdD tMsg a1000000 t5).2)) t5).1, (IntKind.i64.wrap (t1 + (1 : Int)), ((rdD tMsg (a1000000.set t5.toNat (t1, (rdD tMsg a1000000 t5).2)) t5).2).2))) t5).2).2).2)))) t5).2).2).1, (IntKind.i64.wrap ((IntKind.i64.wrap ((IntKind.i64.wrap (t1 + (1 : Int))) + (1 : Int))) + (1 : Int)), ((((rdD tMsg (((a1000000.set t5.toNat (t1, (rdD tMsg a1000000 t5).2)).set t5.toNat ((rdD tMsg (a1000000.set t5.toNat (t1, (rdD tMsg a1000000 t5).2)) t5).1, (IntKind.i64.wrap (t1 + (1 : Int)), ((rdD tMsg (a1000000.set t5.toNat (t1, (rdD tMsg a1000000 t5).2)) t5).2).2))).set t5.toNat ((rdD tMsg ((a1000000.set t5.toNat (t1, (rdD tMsg a1000000 t5).2)).set t5.toNat ((rdD tMsg (a1000000.set t5.toNat (t1, (rdD tMsg a1000000 t5).2)) t5).1, (IntKind.i64.wrap (t1 + (1 : Int)), ((rdD tMsg (a1000000.set t5.toNat (t1, (rdD tMsg a1000000 t5).2)) t5).2).2))) t5).1, (((rdD tMsg ((a1000000.set t5.toNat (t1, (rdD tMsg a1000000 t5).2)).set t5.toNat ((rdD tMsg (a1000000.set t5.toNat (t1, (rdD tMsg a1000000 t5).2)) t5).1, (IntKind.i64.wrap (t1 + (1 : Int)), ((rdD tMsg (a1000000.set t5.toNat (t1, (rdD tMsg a1000000 t5).2)) t5).2).2))) t5).2).1, (IntKind.i64.wrap ((IntKind.i64.wrap (t1 + (1 : Int))) + (1 : Int)), (((rdD tMsg ((a1000000.set t5.toNat (t1, (rdD tMsg a1000000 t5).2)).set t5.toNat ((rdD tMsg (a1000000.set t5.toNat (t1, (rdD tMsg a1000000 t5).2)) t5).1, (IntKind.i64.wrap (t1 + (1 : Int)), ((rdD tMsg (a1000000.set t5.toNat (t1, (rdD tMsg a1000000 t5).2)) t5).2).2))) t5).2).2).2)))) t5).2).2).2).2))))) t5).2).2).2).2).1, (IntKind.i64.wrap ((IntKind.i64.wrap ((IntKind.i64.wrap ((IntKind.i64.wrap (t1 + (1 : Int))) + (1 : Int))) + (1 : Int))) + (1 : Int)), ()))).bind fun y46 =>
 iterG laws_markMsgS_t0 laws_markMsgS_B0 K n ((y46.1.1, (IntKind.i64.wrap (t5 + (1 : Int)), ())), (((((a1000000.set t5.toNat (t1, (rdD tMsg a1000000 t5).2)).set t5.toNat ((rdD tMsg (a1000000.set t5.toNat (t1, (rdD tMsg a1000000 t5).2)) t5).1, (IntKind.i64.wrap (t1 + (1 : Int)), ((rdD tMsg (a1000000.set t5.toNat (t1, (rdD tMsg a1000000 t5).2)) t5).2).2))).set t5.toNat ((rdD tMsg ((a1000000.set t5.toNat (t1, (rdD tMsg a1000000 t5).2)).set t5.toNat ((rdD tMsg (a1000000.set t5.toNat (t1, (rdD tMsg a1000000 t5).2)) t5).1, (IntKind.i64.wrap (t1 + (1 : Int)), ((rdD tMsg (a1000000.set t5.toNat (t1, (rdD tMsg a1000000 t5).2)) t5).2).2))) t5).1, (((rdD tMsg ((a1000000.set t5.toNat (t1, (rdD tMsg a1000000 t5).2)).set t5.toNat ((rdD tMsg (a1000000.set t5.toNat (t1, (rdD tMsg a1000000 t5).2)) t5).1, (IntKind.i64.wrap (t1 + (1 : Int)), ((rdD tMsg (a1000000.set t5.toNat (t1, (rdD tMsg a1000000 t5).2)) t5).2).2))) t5).2).1, (IntKind.i64.wrap ((IntKind.i64.wrap (t1 + (1 : Int))) + (1 : Int)), (((rdD tMsg ((a1000000.set t5.toNat (t1, (rdD tMsg a1000000 t5).2)).set t5.toNat ((rdD tMsg (a1000000.set t5.toNat (t1, (rdD tMsg a1000000 t5).2)) t5).1, (IntKind.i64.wrap (t1 + (1 : Int)), ((rdD tMsg (a1000000.set t5.toNat (t1, (rdD tMsg a1000000 t5).2)) t5).2).2))) t5).2).2).2)))).set t5.toNat ((rdD tMsg (((a1000000.set t5.toNat (t1, (rdD tMsg a1000000 t5).2)).set t5.toNat ((rdD tMsg (a1000000.set t5.toNat (t1, (rdD tMsg a1000000 t5).2)) t5).1, (IntKind.i64.wrap (t1 + (1 : Int)), ((rdD tMsg (a1000000.set t5.toNat (t1, (rdD tMsg a1000000 t5).2)) t5).2).2))).set t5.toNat ((rdD tMsg ((a1000000.set t5.toNat (t1, (rdD tMsg a1000000 t5).2)).set t5.toNat ((rdD tMsg (a1000000.set t5.toNat (t1, (rdD tMsg a1000000 t5).2)) t5).1, (IntKind.i64.wrap (t1 + (1 : Int)), ((rdD tMsg (a1000000.set t5.toNat (t1, (rdD tMsg a1000000 t5).2)) t5).2).2))) t5).1, (((rdD tMsg ((a1000000.set t5.toNat (t1, (rdD tMsg a1000000 t5).2)).set t5.toNat ((rdD tMsg (a1000000.set t5.toNat (t1, (rdD tMsg a1000000 t5).2)) t5).1, (IntKind.i64.wrap (t1 + (1 : Int)), ((rdD tMsg (a1000000.set t5.toNat (t1, (rdD tMsg a1000000 t5).2)) t5).2).2))) t5).2).1, (IntKind.i64.wrap ((IntKind.i64.wrap (t1 + (1 : Int))) + (1 : Int)), (((rdD tMsg ((a1000000.set t5.toNat (t1, (rdD tMsg a1000000 t5).2)).set t5.toNat ((rdD tMsg (a1000000.set t5.toNat (t1, (rdD tMsg a1000000 t5).2)) t5).1, (IntKind.i64.wrap (t1 + (1 : Int)), ((rdD tMsg (a1000000.set t5.toNat (t1, (rdD tMsg a1000000 t5).2)) t5).2).2))) t5).2).2).2)))) t5).1, (((rdD tMsg (((a1000000.set t5.toNat (t1, (rdD tMsg a1000000 t5).2)).set t5.toNat ((rdD tMsg (a1000000.set t5.toNat (t1, (rdD tMsg a1000000 t5).2)) t5).1, (IntKind.i64.wrap (t1 + (1 : Int)), ((rdD tMsg (a1000000.set t5.toNat (t1, (rdD tMsg a1000000 t5).2)) t5).2).2))).set t5.toNat ((rdD tMsg ((a1000000.set t5.toNat (t1, (rdD tMsg a1000000 t5).2)).set t5.toNat ((rdD tMsg (a1000000.set t5.toNat (t1, (rdD tMsg a1000000 t5).2)) t5).1, (IntKind.i64.wrap (t1 + (1 : Int)), ((rdD tMsg (a1000000.set t5.toNat (t1, (rdD tMsg a1000000 t5).2)) t5).2).2))) t5).1, (((rdD tMsg ((a1000000.set t5.toNat (t1, (rdD tMsg a1000000 t5).2)).set t5.toNat ((rdD tMsg (a1000000.set t5.toNat (t1, (rdD tMsg a1000000 t5).2)) t5).1, (IntKind.i64.wrap (t1 + (1 : Int)), ((rdD tMsg (a1000000.set t5.toNat (t1, (rdD tMsg a1000000 t5).2)) t5).2).2))) t5).2).1, (IntKind.i64.wrap ((IntKind.i64.wrap (t1 + (1 : Int))) + (1 : Int)), (((rdD tMsg ((a1000000.set t5.toNat (t1, (rdD tMsg a1000000 t5).2)).set t5.toNat ((rdD tMsg (a1000000.set t5.toNat (t1, (rdD tMsg a1000000 t5).2)) t5).1, (IntKind.i64.wrap (t1 + (1 : Int)), ((rdD tMsg (a1000000.set t5.toNat (t1, (rdD tMsg a1000000 t5).2)) t5).2).2))) t5).2).2).2)))) t5).2).1, ((((rdD tMsg (((a1000000.set t5.toNat (t1, (rdD tMsg a1000000 t5).2)).set t5.toNat ((rdD tMsg (a1000000.set t5.toNat (t1, (rdD tMsg a1000000 t5).2)) t5).1, (IntKind.i64.wrap (t1 + (1 : Int)), ((rdD tMsg (a1000000.set t5.toNat (t1, (rdD tMsg a1000000 t5).2)) t5).2).2))).set t5.toNat ((rdD tMsg ((a1000000.set t5.toNat (t1, (rdD tMsg a1000000 t5).2)).set t5.toNat ((rdD tMsg (a1000000.set t5.toNat (t1, (rdD tMsg a1000000 t5).2)) t5).1, (IntKind.i64.wrap (t1 + (1 : Int)), ((rdD tMsg (a1000000.set t5.toNat (t1, (rdD tMsg a1000000 t5).2)) t5).2).2))) t5).1, (((rdD tMsg ((a1000000.set t5.toNat (t1, (rdD tMsg a1000000 t5).2)).set t5.toNat ((rdD tMsg (a1000000.set t5.toNat (t1, (rdD tMsg a1000000 t5).2)) t5).1, (IntKind.i64.wrap (t1 + (1 : Int)), ((rdD tMsg (a1000000.set t5.toNat (t1, (rdD tMsg a1000000 t5).2)) t5).2).2))) t5).2).1, (IntKind.i64.wrap ((IntKind.i64.wrap (t1 + (1 : Int))) + (1 : Int)), (((rdD tMsg ((a1000000.set t5.toNat (t1, (rdD tMsg a1000000 t5).2)).set t5.toNat ((rdD tMsg (a1000000.set t5.toNat (t1, (rdD tMsg a1000000 t5).2)) t5).1, (IntKind.i64.wrap (t1 + (1 : Int)), ((rdD tMsg (a1000000.set t5.toNat (t1, (rdD tMsg a1000000 t5).2)) t5).2).2))) t5).2).2).2)))) t5).2).2).1, (IntKind.i64.wrap ((IntKind.i64.wrap ((IntKind.i64.wrap (t1 + (1 : Int))) + (1 : Int))) + (1 : Int)), ((((rdD tMsg (((a1000000.set t5.toNat (t1, (rdD tMsg a1000000 t5).2)).set t5.toNat ((rdD tMsg (a1000000.set t5.toNat (t1, (rdD tMsg a1000000 t5).2)) t5).1, (IntKind.i64.wrap (t1 + (1 : Int)), ((rdD tMsg (a1000000.set t5.toNat (t1, (rdD tMsg a1000000 t5).2)) t5).2).2))).set t5.toNat ((rdD tMsg ((a1000000.set t5.toNat (t1, (rdD tMsg a1000000 t5).2)).set t5.toNat ((rdD tMsg (a1000000.set t5.toNat (t1, (rdD tMsg a1000000 t5).2)) t5).1, (IntKind.i64.wrap (t1 + (1 : Int)), ((rdD tMsg (a1000000.set t5.toNat (t1, (rdD tMsg a1000000 t5).2)) t5).2).2))) t5).1, (((rdD tMsg ((a1000000.set t5.toNat (t1, (rdD tMsg a1000000 t5).2)).set t5.toNat ((rdD tMsg (a1000000.set t5.toNat (t1, (rdD tMsg a1000000 t5).2)) t5).1, (IntKind.i64.wrap (t1 + (1 : Int)), ((rdD tMsg (a1000000.set t5.toNat (t1, (rdD tMsg a1000000 t5).2)) t5).2).2))) t5).2).1, (IntKind.i64.wrap ((IntKind.i64.wrap (t1 + (1 : Int))) + (1 : Int)), (((rdD tMsg ((a1000000.set t5.toNat (t1, (rdD tMsg a1000000 t5).2)).set t5.toNat ((rdD tMsg (a1000000.set t5.toNat (t1, (rdD tMsg a1000000 t5).2)) t5).1, (IntKind.i64.wrap (t1 + (1 : Int)), ((rdD tMsg (a1000000.set t5.toNat (t1, (rdD tMsg a1000000 t5).2)) t5).2).2))) t5).2).2).2)))) t5).2).2).2).2))))).set t5.toNat ((rdD tMsg ((((a1000000.set t5.toNat (t1, (rdD tMsg a1000000 t5).2)).set t5.toNat ((rdD tMsg (a1000000.set t5.toNat (t1, (rdD tMsg a1000000 t5).2)) t5).1, (IntKind.i64.wrap (t1 + (1 : Int)), ((rdD tMsg (a1000000.set t5.toNat (t1, (rdD tMsg a1000000 t5).2)) t5).2).2))).set t5.toNat ((rdD tMsg ((a1000000.set t5.toNat (t1, (rdD tMsg a1000000 t5).2)).set t5.toNat ((rdD tMsg (a1000000.set t5.toNat (t1, (rdD tMsg a1000000 t5).2)) t5).1, (IntKind.i64.wrap (t1 + (1 : Int)), ((rdD tMsg (a1000000.set t5.toNat (t1, (rdD tMsg a1000000 t5).2)) t5).2).2))) t5).1, (((rdD tMsg ((a1000000.set t5.toNat (t1, (rdD tMsg a1000000 t5).2)).set t5.toNat ((rdD tMsg (a1000000.set t5.toNat (t1, (rdD tMsg a1000000 t5).2)) t5).1, (IntKind.i64.wrap (t1 + (1 : Int)), ((rdD tMsg (a1000000.set t5.toNat (t1, (rdD tMsg a1000000 t5).2)) t5).2).2))) t5).2).1, (IntKind.i64.wrap ((IntKind.i64.wrap (t1 + (1 : Int))) + (1 : Int)), (((rdD tMsg ((a1000000.set t5.toNat (t1, (rdD tMsg a1000000 t5).2)).set t5.toNat ((rdD tMsg (a1000000.set t5.toNat (t1, (rdD tMsg a1000000 t5).2)) t5).1, (IntKind.i64.wrap (t1 + (1 : Int)), ((rdD tMsg (a1000000.set t5.toNat (t1, (rdD tMsg a1000000 t5).2)) t5).2).2))) t5).2).2).2)))).set t5.toNat ((rdD tMsg (((a1000000.set t5.toNat (t1, (rdD tMsg a1000000 t5).2)).set t5.toNat ((rdD tMsg (a1000000.set t5.toNat (t1, (rdD tMsg a1000000 t5).2)) t5).1, (IntKind.i64.wrap (t1 + (1 : Int)), ((rdD tMsg (a1000000.set t5.toNat (t1, (rdD tMsg a1000000 t5).2)) t5).2).2))).set t5.toNat ((rdD tMsg ((a1000000.set t5.toNat (t1, (rdD tMsg a1000000 t5).2)).set t5.toNat ((rdD tMsg (a1000000.set t5.toNat (t1, (rdD tMsg a1000000 t5).2)) t5).1, (IntKind.i64.wrap (t1 + (1 : Int)), ((rdD tMsg (a1000000.set t5.toNat (t1, (rdD tMsg a1000000 t5).2)) t5).2).2))) t5).1, (((rdD tMsg ((a1000000.set t5.toNat (t1, (rdD tMsg a1000000 t5).2)).set t5.toNat ((rdD tMsg (a1000000.set t5.toNat (t1, (rdD tMsg a1000000 t5).2)) t5).1, (IntKind.i64.wrap (t1 + (1 : Int)), ((rdD tMsg (a1000000.set t5.toNat (t1, (rdD tMsg a1000000 t5).2)) t5).2).2))) t5).2).1, (IntKind.i64.wrap ((IntKind.i64.wrap (t1 + (1 : Int))) + (1 : Int)), (((rdD tMsg ((a1000000.set t5.toNat (t1, (rdD tMsg a1000000 t5).2)).set t5.toNat ((rdD tMsg (a1000000.set t5.toNat (t1, (rdD tMsg a1000000 t5).2)) t5).1, (IntKind.i64.wrap (t1 + (1 : Int)), ((rdD tMsg (a1000000.set t5.toNat (t1, (rdD tMsg a1000000 t5).2)) t5).2).2))) t5).2).2).2)))) t5).1, (((rdD tMsg (((a1000000.set t5.toNat (t1, (rdD tMsg a1000000 t5).2)).set t5.toNat ((rdD tMsg (a1000000.set t5.toNat (t1, (rdD tMsg a1000000 t5).2)) t5).1, (IntKind.i64.wrap (t1 + (1 : Int)), ((rdD tMsg (a1000000.set t5.toNat (t1, (rdD tMsg a1000000 t5).2)) t5).2).2))).set t5.toNat ((rdD tMsg ((a1000000.set t5.toNat (t1, (rdD tMsg a1000000 t5).2)).set t5.toNat ((rdD tMsg (a1000000.set t5.toNat (t1, (rdD tMsg a1000000 t5).2)) t5).1, (IntKind.i64.wrap (t1 + (1 : Int)), ((rdD tMsg (a1000000.set t5.toNat (t1, (rdD tMsg a1000000 t5).2)) t5).2).2))) t5).1, (((rdD tMsg ((a1000000.set t5.toNat (t1, (rdD tMsg a1000000 t5).2)).set t5.toNat ((rdD tMsg (a1000000.set t5.toNat (t1, (rdD tMsg a1000000 t5).2)) t5).1, (IntKind.i64.wrap (t1 + (1 : Int)), ((rdD tMsg (a1000000.set t5.toNat (t1, (rdD tMsg a1000000 t5).2)) t5).2).2))) t5).2).1, (IntKind.i64.wrap ((IntKind.i64.wrap (t1 + (1 : Int))) + (1 : Int)), (((rdD tMsg ((a1000000.set t5.toNat (t1, (rdD tMsg a1000000 t5).2)).set t5.toNat ((rdD tMsg (a1000000.set t5.toNat (t1, (rdD tMsg a1000000 t5).2)) t5).1, (IntKind.i64.wrap (t1 + (1 : Int)), ((rdD tMsg (a1000000.set t5.toNat (t1, (rdD tMsg a1000000 t5).2)) t5).2).2))) t5).2).2).2)))) t5).2).1, ((((rdD tMsg (((a1000000.set t5.toNat (t1, (rdD tMsg a1000000 t5).2)).set t5.toNat ((rdD tMsg (a1000000.set t5.toNat (t1, (rdD tMsg a1000000 t5).2)) t5).1, (IntKind.i64.wrap (t1 + (1 : Int)), ((rdD tMsg (a1000000.set t5.toNat (t1, (rdD tMsg a1000000 t5).2)) t5).2).2))).set t5.toNat ((rdD tMsg ((a1000000.set t5.toNat (t1, (rdD tMsg a1000000 t5).2)).set t5.toNat ((rdD tMsg (a1000000.set t5.toNat (t1, (rdD tMsg a1000000 t5).2)) t5).1, (IntKind.i64.wrap (t1 + (1 : Int)), ((rdD tMsg (a1000000.set t5.toNat (t1, (rdD tMsg a1000000 t5).2)) t5).2).2))) t5).1, (((rdD tMsg ((a1000000.set t5.toNat (t1, (rdD tMsg a1000000 t5).2)).set t5.toNat ((rdD tMsg (a1000000.set t5.toNat (t1, (rdD tMsg a1000000 t5).2)) t5).1, (IntKind.i64.wrap (t1 + (1 : Int)), ((rdD tMsg (a1000000.set t5.toNat (t1, (rdD tMsg a1000000 t5).2)) t5).2).2))) t5).2).1, (IntKind.i64.wrap ((IntKind.i64.wrap (t1 + (1 : Int))) + (1 : Int)), (((rdD tMsg ((a1000000.set t5.toNat (t1, (rdD tMsg a1000000 t5).2)).set t5.toNat ((rdD tMsg (a1000000.set t5.toNat (t1, (rdD tMsg a1000000 t5).2)) t5).1, (IntKind.i64.wrap (t1 + (1 : Int)), ((rdD tMsg (a1000000.set t5.toNat (t1, (rdD tMsg a1000000 t5).2)) t5).2).2))) t5).2).2).2)))) t5).2).2).1, (IntKind.i64.wrap ((IntKind.i64.wrap ((IntKind.i64.wrap (t1 + (1 : Int))) + (1 : Int))) + (1 : Int)), ((((rdD tMsg (((a1000000.set t5.toNat (t1, (rdD tMsg a1000000 t5).2)).set t5.toNat ((rdD tMsg (a1000000.set t5.toNat (t1, (rdD tMsg a1000000 t5).2)) t5).1, (IntKind.i64.wrap (t1 + (1 : Int)), ((rdD tMsg (a1000000.set t5.toNat (t1, (rdD tMsg a1000000 t5).2)) t5).2).2))).set t5.toNat ((rdD tMsg ((a1000000.set t5.toNat (t1, (rdD tMsg a1000000 t5).2)).set t5.toNat ((rdD tMsg (a1000000.set t5.toNat (t1, (rdD tMsg a1000000 t5).2)) t5).1, (IntKind.i64.wrap (t1 + (1 : Int)), ((rdD tMsg (a1000000.set t5.toNat (t1, (rdD tMsg a1000000 t5).2)) t5).2).2))) t5).1, (((rdD tMsg ((a1000000.set t5.toNat (t1, (rdD tMsg a1000000 t5).2)).set t5.toNat ((rdD tMsg (a1000000.set t5.toNat (t1, (rdD tMsg a1000000 t5).2)) t5).1, (IntKind.i64.wrap (t1 + (1 : Int)), ((rdD tMsg (a1000000.set t5.toNat (t1, (rdD tMsg a1000000 t5).2)) t5).2).2))) t5).2).1, (IntKind.i64.wrap ((IntKind.i64.wrap (t1 + (1 : Int))) + (1 : Int)), (((rdD tMsg ((a1000000.set t5.toNat (t1, (rdD tMsg a1000000 t5).2)).set t5.toNat ((rdD tMsg (a1000000.set t5.toNat (t1, (rdD tMsg a1000000 t5).2)) t5).1, (IntKind.i64.wrap (t1 + (1 : Int)), ((rdD tMsg (a1000000.set t5.toNat (t1, (rdD tMsg a1000000 t5).2)) t5).2).2))) t5).2).2).2)))) t5).2).2).2).2))))) t5).1, (((rdD tMsg ((((a1000000.set t5.toNat (t1, (rdD tMsg a1000000 t5).2)).set t5.toNat ((rdD tMsg (a1000000.set t5.toNat (t1, (rdD tMsg a1000000 t5).2)) t5).1, (IntKind.i64.wrap (t1 + (1 : Int)), ((rdD tMsg (a1000000.set t5.toNat (t1, (rdD tMsg a1000000 t5).2)) t5).2).2))).set t5.toNat ((rdD tMsg ((a1000000.set t5.toNat (t1, (rdD tMsg a1000000 t5).2)).set t5.toNat ((rdD tMsg (a1000000.set t5.toNat (t1, (rdD tMsg a1000000 t5).2)) t5).1, (IntKind.i64.wrap (t1 + (1 : Int)), ((rdD tMsg (a1000000.set t5.toNat (t1, (rdD tMsg a1000000 t5).2)) t5).2).2))) t5).1, (((rdD tMsg ((a1000000.set t5.toNat (t1, (rdD tMsg a1000000 t5).2)).set t5.toNat ((rdD tMsg (a1000000.set t5.toNat (t1, (rdD tMsg a1000000 t5).2)) t5).1, (IntKind.i64.wrap (t1 + (1 : Int)), ((rdD tMsg (a1000000.set t5.toNat (t1, (rdD tMsg a1000000 t5).2)) t5).2).2))) t5).2).1, (IntKind.i64.wrap ((IntKind.i64.wrap (t1 + (1 : Int))) + (1 : Int)), (((rdD tMsg ((a1000000.set t5.toNat (t1, (rdD tMsg a1000000 t5).2)).set t5.toNat ((rdD tMsg (a1000000.set t5.toNat (t1, (rdD tMsg a1000000 t5).2)) t5).1, (IntKind.i64.wrap (t1 + (1 : Int)), ((rdD tMsg (a1000000.set t5.toNat (t1, (rdD tMsg a1000000 t5).2)) t5).2).2))) t5).2).2).2)))).set t5.toNat ((rdD tMsg (((a1000000.set t5.toNat (t1, (rdD tMsg a1000000 t5).2)).set t5.toNat ((rdD tMsg (a1000000.set t5.toNat (t1, (rdD tMsg a1000000 t5).2)) t5).1, (IntKind.i64.wrap (t1 + (1 : Int)), ((rdD tMsg (a1000000.set t5.toNat (t1, (rdD tMsg a1000000 t5).2)) t5).2).2))).set t5.toNat ((rdD tMsg ((a1000000.set t5.toNat (t1, (rdD tMsg a1000000 t5).2)).set t5.toNat ((rdD tMsg (a1000000.set t5.toNat (t1, (rdD tMsg a1000000 t5).2)) t5).1, (IntKind.i64.wrap (t1 + (1 : Int)), ((rdD tMsg (a1000000.set t5.toNat (t1, (rdD tMsg a1000000 t5).2)) t5).2).2))) t5).1, (((rdD tMsg ((a1000000.set t5.toNat (t1, (rdD tMsg a1000000 t5).2)).set t5.toNat ((rdD tMsg (a1000000.set t5.toNat (t1, (rdD tMsg a1000000 t5).2)) t5).1, (IntKind.i64.wrap (t1 + (1 : Int)), ((rdD tMsg (a1000000.set t5.toNat (t1, (rdD tMsg a1000000 t5).2)) t5).2).2))) t5).2).1, (IntKind.i64.wrap ((IntKind.i64.wrap (t1 + (1 : Int))) + (1 : Int)), (((rdD tMsg ((a1000000.set t5.toNat (t1, (rdD tMsg a1000000 t5).2)).set t5.toNat ((rdD tMsg (a1000000.set t5.toNat (t1, (rdD tMsg a1000000 t5).2)) t5).1, (IntKind.i64.wrap (t1 + (1 : Int)), ((rdD tMsg (a1000000.set t5.toNat (t1, (rdD tMsg a1000000 t5).2)) t5).2).2))) t5).2).2).2)))) t5).1, (((rdD tMsg (((a1000000.set t5.toNat (t1, (rdD tMsg a1000000 t5).2)).set t5.toNat ((rdD tMsg (a1000000.set t5.toNat (t1, (rdD tMsg a1000000 t5).2)) t5).1, (IntKind.i64.wrap (t1 + (1 : Int)), ((rdD tMsg (a1000000.set t5.toNat (t1, (rdD tMsg a1000000 t5).2)) t5).2).2))).set t5.toNat ((rdD tMsg ((a1000000.set t5.toNat (t1, (rdD tMsg a1000000 t5).2)).set t5.toNat ((rdD tMsg (a1000000.set t5.toNat (t1, (rdD tMsg a1000000 t5).2)) t5).1, (IntKind.i64.wrap (t1 + (1 : Int)), ((rdD tMsg (a1000000.set t5.toNat (t1, (rdD tMsg a1000000 t5).2)) t5).2).2))) t5).1, (((rdD tMsg ((a1000000.set t5.toNat (t1, (rdD tMsg a1000000 t5).2)).set t5.toNat ((rdD tMsg (a1000000.set t5.toNat (t1, (rdD tMsg a1000000 t5).2)) t5).1, (IntKind.i64.wrap (t1 + (1 : Int)), ((rdD tMsg (a1000000.set t5.toNat (t1, (rdD tMsg a1000000 t5).2)) t5).2).2))) t5).2).1, (IntKind.i64.wrap ((IntKind.i64.wrap (t1 + (1 : Int))) + (1 : Int)), (((rdD tMsg ((a1000000.set t5.toNat (t1, (rdD tMsg a1000000 t5).2)).set t5.toNat ((rdD tMsg (a1000000.set t5.toNat (t1, (rdD tMsg a1000000 t5).2)) t5).1, (IntKind.i64.wrap (t1 + (1 : Int)), ((rdD tMsg (a1000000.set t5.toNat (t1, (rdD tMsg a1000000 t5).2)) t5).2).2))) t5).2).2).2)))) t5).2).1, ((((rdD tMsg (((a1000000.set t5.toNat (t1, (rdD tMsg a1000000 t5).2)).set t5.toNat ((rdD tMsg (a1000000.set t5.toNat (t1, (rdD tMsg a1000000 t5).2)) t5).1, (IntKind.i64.wrap (t1 + (1 : Int)), ((rdD tMsg (a1000000.set t5.toNat (t1, (rdD tMsg a1000000 t5).2)) t5).2).2))).set t5.toNat ((rdD tMsg ((a1000000.set t5.toNat (t1, (rdD tMsg a1000000 t5).2)).set t5.toNat ((rdD tMsg (a1000000.set t5.toNat (t1, (rdD tMsg a1000000 t5).2)) t5).1, (IntKind.i64.wrap (t1 + (1 : Int)), ((rdD tMsg (a1000000.set t5.toNat (t1, (rdD tMsg a1000000 t5).2)) t5).2).2))) t5).1, (((rdD tMsg ((a1000000.set t5.toNat (t1, (rdD tMsg a1000000 t5).2)).set t5.toNat ((rdD tMsg (a1000000.set t5.toNat (t1, (rdD tMsg a1000000 t5).2)) t5).1, (IntKind.i64.wrap (t1 + (1 : Int)), ((rdD tMsg (a1000000.set t5.toNat (t1, (rdD tMsg a1000000 t5).2)) t5).2).2))) t5).2).1, (IntKind.i64.wrap ((IntKind.i64.wrap (t1 + (1 : Int))) + (1 : Int)), (((rdD tMsg ((a1000000.set t5.toNat (t1, (rdD tMsg a1000000 t5).2)).set t5.toNat ((rdD tMsg (a1000000.set t5.toNat (t1, (rdD tMsg a1000000 t5).2)) t5).1, (IntKind.i64.wrap (t1 + (1 : Int)), ((rdD tMsg (a1000000.set t5.toNat (t1, (rdD tMsg a1000000 t5).2)) t5).2).2))) t5).2).2).2)))) t5).2).2).1, (IntKind.i64.wrap ((IntKind.i64.wrap ((IntKind.i64.wrap (t1 + (1 : Int))) + (1 : Int))) + (1 : Int)), ((((rdD tMsg (((a1000000.set t5.toNat (t1, (rdD tMsg a1000000 t5).2)).set t5.toNat ((rdD tMsg (a1000000.set t5.toNat (t1, (rdD tMsg a1000000 t5).2)) t5).1, (IntKind.i64.wrap (t1 + (1 : Int)), ((rdD tMsg (a1000000.set t5.toNat (t1, (rdD tMsg a1000000 t5).2)) t5).2).2))).set t5.toNat ((rdD tMsg ((a1000000.set t5.toNat (t1, (rdD tMsg a1000000 t5).2)).set t5.toNat ((rdD tMsg (a1000000.set t5.toNat (t1, (rdD tMsg a1000000 t5).2)) t5).1, (IntKind.i64.wrap (t1 + (1 : Int)), ((rdD tMsg (a1000000.set t5.toNat (t1, (rdD tMsg a1000000 t5).2)) t5).2).2))) t5).1, (((rdD tMsg ((a1000000.set t5.toNat (t1, (rdD tMsg a1000000 t5).2)).set t5.toNat ((rdD tMsg (a1000000.set t5.toNat (t1, (rdD tMsg a1000000 t5).2)) t5).1, (IntKind.i64.wrap (t1 + (1 : Int)), ((rdD tMsg (a1000000.set t5.toNat (t1, (rdD tMsg a1000000 t5).2)) t5).2).2))) t5).2).1, (IntKind.i64.wrap ((IntKind.i64.wrap (t1 + (1 : Int))) + (1 : Int)), (((rdD tMsg ((a1000000.set t5.toNat (t1, (rdD tMsg a1000000 t5).2)).set t5.toNat ((rdD tMsg (a1000000.set t5.toNat (t1, (rdD tMsg a1000000 t5).2)) t5).1, (IntKind.i64.wrap (t1 + (1 : Int)), ((rdD tMsg (a1000000.set t5.toNat (t1, (rdD tMsg a1000000 t5).2)) t5).2).2))) t5).2).2).2)))) t5).2).2).2).2))))) t5).2).1, ((((rdD tMsg ((((a1000000.set t5.toNat (t1, (rdD tMsg a1000000 t5).2)).set t5.toNat ((rdD tMsg (a1000000.set t5.toNat (t1, (rdD tMsg a1000000 t5).2)) t5).1, (IntKind.i64.wrap (t1 + (1 : Int)), ((rdD tMsg (a1000000.set t5.toNat (t1, (rdD tMsg a1000000 t5).2)) t5).2).2))).set t5.toNat ((rdD tMsg ((a1000000.set t5.toNat (t1, (rdD tMsg a1000000 t5).2)).set t5.toNat ((rdD tMsg (a1000000.set t5.toNat (t1, (rdD tMsg a1000000 t5).2)) t5).1, (IntKind.i64.wrap (t1 + (1 : Int)), ((rdD tMsg (a1000000.set t5.toNat (t1, (rdD tMsg a1000000 t5).2)) t5).2).2))) t5).1, (((rdD tMsg ((a1000000.set t5.toNat (t1, (rdD tMsg a1000000 t5).2)).set t5.toNat ((rdD tMsg (a1000000.set t5.toNat (t1, (rdD tMsg a1000000 t5).2)) t5).1, (IntKind.i64.wrap (t1 + (1 : Int)), ((rdD tMsg (a1000000.set t5.toNat (t1, (rdD tMsg a1000000 t5).2)) t5).2).2))) t5).2).1, (IntKind.i64.wrap ((IntKind.i64.wrap (t1 + (1 : Int))) + (1 : Int)), (((rdD tMsg ((a1000000.set t5.toNat (t1, (rdD tMsg a1000000 t5).2)).set t5.toNat ((rdD tMsg (a1000000.set t5.toNat (t1, (rdD tMsg a1000000 t5).2)) t5).1, (IntKind.i64.wrap (t1 + (1 : Int)), ((rdD tMsg (a1000000.set t5.toNat (t1, (rdD tMsg a1000000 t5).2)) t5).2).2))) t5).2).2).2)))).set t5.toNat ((rdD tMsg (((a1000000.set t5.toNat (t1, (rdD tMsg a1000000 t5).2)).set t5.toNat ((rdD tMsg (a1000000.set t5.toNat (t1, (rdD tMsg a1000000 t5).2)) t5).1, (IntKind.i64.wrap (t1 + (1 : Int)), ((rdD tMsg (a1000000.set t5.toNat (t1, (rdD tMsg a1000000 t5).2)) t5).2).2))).set t5.toNat ((rdD tMsg ((a1000000.set t5.toNat (t1, (rdD tMsg a1000000 t5).2)).set t5.toNat ((rdD tMsg (a1000000.set t5.toNat (t1, (rdD tMsg a1000000 t5).2)) t5).1, (IntKind.i64.wrap (t1 + (1 : Int)), ((rdD tMsg (a1000000.set t5.toNat (t1, (rdD tMsg a1000000 t5).2)) t5).2).2))) t5).1, (((rdD tMsg ((a1000000.set t5.toNat (t1, (rdD tMsg a1000000 t5).2)).set t5.toNat ((rdD tMsg (a1000000.set t5.toNat (t1, (rdD tMsg a1000000 t5).2)) t5).1, (IntKind.i64.wrap (t1 + (1 : Int)), ((rdD tMsg (a1000000.set t5.toNat (t1, (rdD tMsg a1000000 t5).2)) t5).2).2))) t5).2).1, (IntKind.i64.wrap ((IntKind.i64.wrap (t1 + (1 : Int))) + (1 : Int)), (((rdD tMsg ((a1000000.set t5.toNat (t1, (rdD tMsg a1000000 t5).2)).set t5.toNat ((rdD tMsg (a1000000.set t5.toNat (t1, (rdD tMsg a1000000 t5).2)) t5).1, (IntKind.i64.wrap (t1 + (1 : Int)), ((rdD tMsg (a1000000.set t5.toNat (t1, (rdD tMsg a1000000 t5).2)) t5).2).2))) t5).2).2).2)))) t5).1, (((rdD tMsg (((a1000000.set t5.toNat (t1, (rdD tMsg a1000000 t5).2)).set t5.toNat ((rdD tMsg (a1000000.set t5.toNat (t1, (rdD tMsg a1000000 t5).2)) t5).1, (IntKind.i64.wrap (t1 + (1 : Int)), ((rdD tMsg (a1000000.set t5.toNat (t1, (rdD tMsg a1000000 t5).2)) t5).2).2))).set t5.toNat ((rdD tMsg ((a1000000.set t5.toNat (t1, (rdD tMsg a1000000 t5).2)).set t5.toNat ((rdD tMsg (a1000000.set t5.toNat (t1, (rdD tMsg a1000000 t5).2)) t5).1, (IntKind.i64.wrap (t1 + (1 : Int)), ((rdD tMsg (a1000000.set t5.toNat (t1, (rdD tMsg a1000000 t5).2)) t5).2).2))) t5).1, (((rdD tMsg ((a1000000.set t5.toNat (t1, (rdD tMsg a1000000 t5).2)).set t5.toNat ((rdD tMsg (a1000000.set t5.toNat (t1, (rdD tMsg a1000000 t5).2)) t5).1, (IntKind.i64.wrap (t1 + (1 : Int)), ((rdD tMsg (a1000000.set t5.toNat (t1, (rdD tMsg a1000000 t5).2)) t5).2).2))) t5).2).1, (IntKind.i64.wrap ((IntKind.i64.wrap (t1 + (1 : Int))) + (1 : Int)), (((rdD tMsg ((a1000000.set t5.toNat (t1, (rdD tMsg a1000000 t5).2)).set t5.toNat ((rdD tMsg (a1000000.set t5.toNat (t1, (rdD tMsg a1000000 t5).2)) t5).1, (IntKind.i64.wrap (t1 + (1 : Int)), ((rdD tMsg (a1000000.set t5.toNat (t1, (rdD tMsg a1000000 t5).2)) t5).2).2))) t5).2).2).2)))) t5).2).1, ((((rdD tMsg (((a1000000.set t5.toNat (t1, (rdD tMsg a1000000 t5).2)).set t5.toNat ((rdD tMsg (a1000000.set t5.toNat (t1, (rdD tMsg a1000000 t5).2)) t5).1, (IntKind.i64.wrap (t1 + (1 : Int)), ((rdD tMsg (a1000000.set t5.toNat (t1, (rdD tMsg a1000000 t5).2)) t5).2).2))).set t5.toNat ((rdD tMsg ((a1000000.set t5.toNat (t1, (rdD tMsg a1000000 t5).2)).set t5.toNat ((rdD tMsg (a1000000.set t5.toNat (t1, (rdD tMsg a1000000 t5).2)) t5).1, (IntKind.i64.wrap (t1 + (1 : Int)), ((rdD tMsg (a1000000.set t5.toNat (t1, (rdD tMsg a1000000 t5).2)) t5).2).2))) t5).1, (((rdD tMsg ((a1000000.set t5.toNat (t1, (rdD tMsg a1000000 t5).2)).set t5.toNat ((rdD tMsg (a1000000.set t5.toNat (t1, (rdD tMsg a1000000 t5).2)) t5).1, (IntKind.i64.wrap (t1 + (1 : Int)), ((rdD tMsg (a1000000.set t5.toNat (t1, (rdD tMsg a1000000 t5).2)) t5).2).2))) t5).2).1, (IntKind.i64.wrap ((IntKind.i64.wrap (t1 + (1 : Int))) + (1 : Int)), (((rdD tMsg ((a1000000.set t5.toNat (t1, (rdD tMsg a1000000 t5).2)).set t5.toNat ((rdD tMsg (a1000000.set t5.toNat (t1, (rdD tMsg a1000000 t5).2)) t5).1, (IntKind.i64.wrap (t1 + (1 : Int)), ((rdD tMsg (a1000000.set t5.toNat (t1, (rdD tMsg a1000000 t5).2)) t5).2).2))) t5).2).2).2)))) t5).2).2).1, (IntKind.i64.wrap ((IntKind.i64.wrap ((IntKind.i64.wrap (t1 + (1 : Int))) + (1 : Int))) + (1 : Int)), ((((rdD tMsg (((a1000000.set t5.toNat (t1, (rdD tMsg a1000000 t5).2)).set t5.toNat ((rdD tMsg (a1000000.set t5.toNat (t1, (rdD tMsg a1000000 t5).2)) t5).1, (IntKind.i64.wrap (t1 + (1 : Int)), ((rdD tMsg (a1000000.set t5.toNat (t1, (rdD tMsg a1000000 t5).2)) t5).2).2))).set t5.toNat ((rdD tMsg ((a1000000.set t5.toNat (t1, (rdD tMsg a1000000 t5).2)).set t5.toNat ((rdD tMsg (a1000000.set t5.toNat (t1, (rdD tMsg a1000000 t5).2)) t5).1, (IntKind.i64.wrap (t1 + (1 : Int)), ((rdD tMsg (a1000000.set t5.toNat (t1, (rdD tMsg a1000000 t5).2)) t5).2).2))) t5).1, (((rdD tMsg ((a1000000.set t5.toNat (t1, (rdD tMsg a1000000 t5).2)).set t5.toNat ((rdD tMsg (a1000000.set t5.toNat (t1, (rdD tMsg a1000000 t5).2)) t5).1, (IntKind.i64.wrap (t1 + (1 : Int)), ((rdD tMsg (a1000000.set t5.toNat (t1, (rdD tMsg a1000000 t5).2)) t5).2).2))) t5).2).1, (IntKind.i64.wrap ((IntKind.i64.wrap (t1 + (1 : Int))) + (1 : Int)), (((rdD tMsg ((a1000000.set t5.toNat (t1, (rdD tMsg a1000000 t5).2)).set t5.toNat ((rdD tMsg (a1000000.set t5.toNat (t1, (rdD tMsg a1000000 t5).2)) t5).1, (IntKind.i64.wrap (t1 + (1 : Int)), ((rdD tMsg (a1000000.set t5.toNat (t1, (rdD tMsg a1000000 t5).2)) t5).2).2))) t5).2).2).2)))) t5).2).2).2).2))))) t5).2).2).1, (((((rdD tMsg ((((a1000000.set t5.toNat (t1, (rdD tMsg a1000000 t5).2)).set t5.toNat ((rdD tMsg (a1000000.set t5.toNat (t1, (rdD tMsg a1000000 t5).2)) t5).1, (IntKind.i64.wrap (t1 + (1 : Int)), ((rdD tMsg (a1000000.set t5.toNat (t1, (rdD tMsg a1000000 t5).2)) t5).2).2))).set t5.toNat ((rdD tMsg ((a1000000.set t5.toNat (t1, (rdD tMsg a1000000 t5).2)).set t5.toNat ((rdD tMsg (a1000000.set t5.toNat (t1, (rdD tMsg a1000000 t5).2)) t5).1, (IntKind.i64.wrap (t1 + (1 : Int)), ((rdD tMsg (a1000000.set t5.toNat (t1, (rdD tMsg a1000000 t5).2)) t5).2).2))) t5).1, (((rdD tMsg ((a1000000.set t5.toNat (t1, (rdD tMsg a1000000 t5).2)).set t5.toNat ((rdD tMsg (a1000000.set t5.toNat (t1, (rdD tMsg a1000000 t5).2)) t5).1, (IntKind.i64.wrap (t1 + (1 : Int)), ((rdD tMsg (a1000000.set t5.toNat (t1, (rdD tMsg a1000000 t5).2)) t5).2).2))) t5).2).1, (IntKind.i64.wrap ((IntKind.i64.wrap (t1 + (1 : Int))) + (1 : Int)), (((rdD tMsg ((a1000000.set t5.toNat (t1, (rdD tMsg a1000000 t5).2)).set t5.toNat ((rdD tMsg (a1000000.set t5.toNat (t1, (rdD tMsg a1000000 t5).2)) t5).1, (IntKind.i64.wrap (t1 + (1 : Int)), ((rdD tMsg (a1000000.set t5.toNat (t1, (rdD tMsg a1000000 t5).2)) t5).2).2))) t5).2).2).2)))).set t5.toNat ((rdD tMsg (((a1000000.set t5.toNat (t1, (rdD tMsg a1000000 t5).2)).set t5.toNat ((rdD tMsg (a1000000.set t5.toNat (t1, (rdD tMsg a1000000 t5).2)) t5).1, (IntKind.i64.wrap (t1 + (1 : Int)), ((rdD tMsg (a1000000.set t5.toNat (t1, (rdD tMsg a1000000 t5).2)) t5).2).2))).set t5.toNat ((rdD tMsg ((a1000000.set t5.toNat (t1, (rdD tMsg a1000000 t5).2)).set t5.toNat ((rdD tMsg (a1000000.set t5.toNat (t1, (rdD tMsg a1000000 t5).2)) t5).1, (IntKind.i64.wrap (t1 + (1 : Int)), ((rdD tMsg (a1000000.set t5.toNat (t1, (rdD tMsg a1000000 t5).2)) t5).2).2))) t5).1, (((rdD tMsg ((a1000000.set t5.toNat (t1, (rdD tMsg a1000000 t5).2)).set t5.toNat ((rdD tMsg (a1000000.set t5.toNat (t1, (rdD tMsg a1000000 t5).2)) t5).1, (IntKind.i64.wrap (t1 + (1 : Int)), ((rdD tMsg (a1000000.set t5.toNat (t1, (rdD tMsg a1000000 t5).2)) t5).2).2))) t5).2).1, (IntKind.i64.wrap ((IntKind.i64.wrap (t1 + (1 : Int))) + (1 : Int)), (((rdD tMsg ((a1000000.set t5.toNat (t1, (rdD tMsg a1000000 t5).2)).set t5.toNat ((rdD tMsg (a1000000.set t5.toNat (t1, (rdD tMsg a1000000 t5).2)) t5).1, (IntKind.i64.wrap (t1 + (1 : Int)), ((rdD tMsg (a1000000.set t5.toNat (t1, (rdD tMsg a1000000 t5).2)) t5).2).2))) t5).2).2).2)))) t5).1, (((rdD tMsg (((a1000000.set t5.toNat (t1, (rdD tMsg a1000000 t5).2)).set t5.toNat ((rdD tMsg (a1000000.set t5.toNat (t1, (rdD tMsg a1000000 t5).2)) t5).1, (IntKind.i64.wrap (t1 + (1 : Int)), ((rdD tMsg (a1000000.set t5.toNat (t1, (rdD tMsg a1000000 t5).2)) t5).2).2))).set t5.toNat ((rdD tMsg ((a1000000.set t5.toNat (t1, (rdD tMsg a1000000 t5).2)).set t5.toNat ((rdD tMsg (a1000000.set t5.toNat (t1, (rdD tMsg a1000000 t5).2)) t5).1, (IntKind.i64.wrap (t1 + (1 : Int)), ((rdD tMsg (a1000000.set t5.toNat (t1, (rdD tMsg a1000000 t5).2)) t5).2).2))) t5).1, (((rdD tMsg ((a1000000.set t5.toNat (t1, (rdD tMsg a1000000 t5).2)).set t5.toNat ((rdD tMsg (a1000000.set t5.toNat (t1, (rdD tMsg a1000000 t5).2)) t5).1, (IntKind.i64.wrap (t1 + (1 : Int)), ((rdD tMsg (a1000000.set t5.toNat (t1, (rdD tMsg a1000000 t5).2)) t5).2).2))) t5).2).1, (IntKind.i64.wrap ((IntKind.i64.wrap (t1 + (1 : Int))) + (1 : Int)), (((rdD tMsg ((a1000000.set t5.toNat (t1, (rdD tMsg a1000000 t5).2)).set t5.toNat ((rdD tMsg (a1000000.set t5.toNat (t1, (rdD tMsg a1000000 t5).2)) t5).1, (IntKind.i64.wrap (t1 + (1 : Int)), ((rdD tMsg (a1000000.set t5.toNat (t1, (rdD tMsg a1000000 t5).2)) t5).2).2))) t5).2).2).2)))) t5).2).1, ((((rdD tMsg (((a1000000.set t5.toNat (t1, (rdD tMsg a1000000 t5).2)).set t5.toNat ((rdD tMsg (a1000000.set t5.toNat (t1, (rdD tMsg a1000000 t5).2)) t5).1, (IntKind.i64.wrap (t1 + (1 : Int)), ((rdD tMsg (a1000000.set t5.toNat (t1, (rdD tMsg a1000000 t5).2)) t5).2).2))).set t5.toNat ((rdD tMsg ((a1000000.set t5.toNat (t1, (rdD tMsg a1000000 t5).2)).set t5.toNat ((rdD tMsg (a1000000.set t5.toNat (t1, (rdD tMsg a1000000 t5).2)) t5).1, (IntKind.i64.wrap (t1 + (1 : Int)), ((rdD tMsg (a1000000.set t5.toNat (t1, (rdD tMsg a1000000 t5).2)) t5).2).2))) t5).1, (((rdD tMsg ((a1000000.set t5.toNat (t1, (rdD tMsg a1000000 t5).2)).set t5.toNat ((rdD tMsg (a1000000.set t5.toNat (t1, (rdD tMsg a1000000 t5).2)) t5).1, (IntKind.i64.wrap (t1 + (1 : Int)), ((rdD tMsg (a1000000.set t5.toNat (t1, (rdD tMsg a1000000 t5).2)) t5).2).2))) t5).2).1, (IntKind.i64.wrap ((IntKind.i64.wrap (t1 + (1 : Int))) + (1 : Int)), (((rdD tMsg ((a1000000.set t5.toNat (t1, (rdD tMsg a1000000 t5).2)).set t5.toNat ((rdD tMsg (a1000000.set t5.toNat (t1, (rdD tMsg a1000000 t5).2)) t5).1, (IntKind.i64.wrap (t1 + (1 : Int)), ((rdD tMsg (a1000000.set t5.toNat (t1, (rdD tMsg a1000000 t5).2)) t5).2).2))) t5).2).2).2)))) t5).2).2).1, (IntKind.i64.wrap ((IntKind.i64.wrap ((IntKind.i64.wrap (t1 + (1 : Int))) + (1 : Int))) + (1 : Int)), ((((rdD tMsg (((a1000000.set t5.toNat (t1, (rdD tMsg a1000000 t5).2)).set t5.toNat ((rdD tMsg (a1000000.set t5.toNat (t1, (rdD tMsg a1000000 t5).2)) t5).1, (IntKind.i64.wrap (t1 + (1 : Int)), ((rdD tMsg (a1000000.set t5.toNat (t1, (rdD tMsg a1000000 t5).2)) t5).2).2))).set t5.toNat ((rdD tMsg ((a1000000.set t5.toNat (t1, (rdD tMsg a1000000 t5).2)).set t5.toNat ((rdD tMsg (a1000000.set t5.toNat (t1, (rdD tMsg a1000000 t5).2)) t5).1, (IntKind.i64.wrap (t1 + (1 : Int)), ((rdD tMsg (a1000000.set t5.toNat (t1, (rdD tMsg a1000000 t5).2)) t5).2).2))) t5).1, (((rdD tMsg ((a1000000.set t5.toNat (t1, (rdD tMsg a1000000 t5).2)).set t5.toNat ((rdD tMsg (a1000000.set t5.toNat (t1, (rdD tMsg a1000000 t5).2)) t5).1, (IntKind.i64.wrap (t1 + (1 : Int)), ((rdD tMsg (a1000000.set t5.toNat (t1, (rdD tMsg a1000000 t5).2)) t5).2).2))) t5).2).1, (IntKind.i64.wrap ((IntKind.i64.wrap (t1 + (1 : Int))) + (1 : Int)), (((rdD tMsg ((a1000000.set t5.toNat (t1, (rdD tMsg a1000000 t5).2)).set t5.toNat ((rdD tMsg (a1000000.set t5.toNat (t1, (rdD tMsg a1000000 t5).2)) t5).1, (IntKind.i64.wrap (t1 + (1 : Int)), ((rdD tMsg (a1000000.set t5.toNat (t1, (rdD tMsg a1000000 t5).2)) t5).2).2))) t5).2).2).2)))) t5).2).2).2).2))))) t5).2).2).2).1, (y46.2.1, (((((rdD tMsg ((((a1000000.set t5.toNat (t1, (rdD tMsg a1000000 t5).2)).set t5.toNat ((rdD tMsg (a1000000.set t5.toNat (t1, (rdD tMsg a1000000 t5).2)) t5).1, (IntKind.i64.wrap (t1 + (1 : Int)), ((rdD tMsg (a1000000.set t5.toNat (t1, (rdD tMsg a1000000 t5).2)) t5).2).2))).set t5.toNat ((rdD tMsg ((a1000000.set t5.toNat (t1, (rdD tMsg a1000000 t5).2)).set t5.toNat ((rdD tMsg (a1000000.set t5.toNat (t1, (rdD tMsg a1000000 t5).2)) t5).1, (IntKind.i64.wrap (t1 + (1 : Int)), ((rdD tMsg (a1000000.set t5.toNat (t1, (rdD tMsg a1000000 t5).2)) t5).2).2))) t5).1, (((rdD tMsg ((a1000000.set t5.toNat (t1, (rdD tMsg a1000000 t5).2)).set t5.toNat ((rdD tMsg (a1000000.set t5.toNat (t1, (rdD tMsg a1000000 t5).2)) t5).1, (IntKind.i64.wrap (t1 + (1 : Int)), ((rdD tMsg (a1000000.set t5.toNat (t1, (rdD tMsg a1000000 t5).2)) t5).2).2))) t5).2).1, (IntKind.i64.wrap ((IntKind.i64.wrap (t1 + (1 : Int))) + (1 : Int)), (((rdD tMsg ((a1000000.set t5.toNat (t1, (rdD tMsg a1000000 t5).2)).set t5.toNat ((rdD tMsg (a1000000.set t5.toNat (t1, (rdD tMsg a1000000 t5).2)) t5).1, (IntKind.i64.wrap (t1 + (1 : Int)), ((rdD tMsg (a1000000.set t5.toNat (t1, (rdD tMsg a1000000 t5).2)) t5).2).2))) t5).2).2).2)))).set t5.toNat ((rdD tMsg (((a1000000.set t5.toNat (t1, (rdD tMsg a1000000 t5).2)).set t5.toNat ((rdD tMsg (a1000000.set t5.toNat (t1, (rdD tMsg a1000000 t5).2)) t5).1, (IntKind.i64.wrap (t1 + (1 : Int)), ((rdD tMsg (a1000000.set t5.toNat (t1, (rdD tMsg a1000000 t5).2)) t5).2).2))).set t5.toNat ((rdD tMsg ((a1000000.set t5.toNat (t1, (rdD tMsg a1000000 t5).2)).set t5.toNat ((rdD tMsg (a1000000.set t5.toNat (t1, (rdD tMsg a1000000 t5).2)) t5).1, (IntKind.i64.wrap (t1 + (1 : Int)), ((rdD tMsg (a1000000.set t5.toNat (t1, (rdD tMsg a1000000 t5).2)) t5).2).2))) t5).1, (((rdD tMsg ((a1000000.set t5.toNat (t1, (rdD tMsg a1000000 t5).2)).set t5.toNat ((rdD tMsg (a1000000.set t5.toNat (t1, (rdD tMsg a1000000 t5).2)) t5).1, (IntKind.i64.wrap (t1 + (1 : Int)), ((rdD tMsg (a1000000.set t5.toNat (t1, (rdD tMsg a1000000 t5).2)) t5).2).2))) t5).2).1, (IntKind.i64.wrap ((IntKind.i64.wrap (t1 + (1 : Int))) + (1 : Int)), (((rdD tMsg ((a1000000.set t5.toNat (t1, (rdD tMsg a1000000 t5).2)).set t5.toNat ((rdD tMsg (a1000000.set t5.toNat (t1, (rdD tMsg a1000000 t5).2)) t5).1, (IntKind.i64.wrap (t1 + (1 : Int)), ((rdD tMsg (a1000000.set t5.toNat (t1, (rdD tMsg a1000000 t5).2)) t5).2).2))) t5).2).2).2)))) t5).1, (((rdD tMsg (((a1000000.set t5.toNat (t1, (rdD tMsg a1000000 t5).2)).set t5.toNat ((rdD tMsg (a1000000.set t5.toNat (t1, (rdD tMsg a1000000 t5).2)) t5).1, (IntKind.i64.wrap (t1 + (1 : Int)), ((rdD tMsg (a1000000.set t5.toNat (t1, (rdD tMsg a1000000 t5).2)) t5).2).2))).set t5.toNat ((rdD tMsg ((a1000000.set t5.toNat (t1, (rdD tMsg a1000000 t5).2)).set t5.toNat ((rdD tMsg (a1000000.set t5.toNat (t1, (rdD tMsg a1000000 t5).2)) t5).1, (IntKind.i64.wrap (t1 + (1 : Int)), ((rdD tMsg (a1000000.set t5.toNat (t1, (rdD tMsg a1000000 t5).2)) t5).2).2))) t5).1, (((rdD tMsg ((a1000000.set t5.toNat (t1, (rdD tMsg a1000000 t5).2)).set t5.toNat ((rdD tMsg (a1000000.set t5.toNat (t1, (rdD tMsg a1000000 t5).2)) t5).1, (IntKind.i64.wrap (t1 + (1 : Int)), ((rdD tMsg (a1000000.set t5.toNat (t1, (rdD tMsg a1000000 t5).2)) t5).2).2))) t5).2).1, (IntKind.i64.wrap ((IntKind.i64.wrap (t1 + (1 : Int))) + (1 : Int)), (((rdD tMsg ((a1000000.set t5.toNat (t1, (rdD tMsg a1000000 t5).2)).set t5.toNat ((rdD tMsg (a1000000.set t5.toNat (t1, (rdD tMsg a1000000 t5).2)) t5).1, (IntKind.i64.wrap (t1 + (1 : Int)), ((rdD tMsg (a1000000.set t5.toNat (t1, (rdD tMsg a1000000 t5).2)) t5).2).2))) t5).2).2).2)))) t5).2).1, ((((rdD tMsg (((a1000000.set t5.toNat (t1, (rdD tMsg a1000000 t5).2)).set t5.toNat ((rdD tMsg (a1000000.set t5.toNat (t1, (rdD tMsg a1000000 t5).2)) t5).1, (IntKind.i64.wrap (t1 + (1 : Int)), ((rdD tMsg (a1000000.set t5.toNat (t1, (rdD tMsg a1000000 t5).2)) t5).2).2))).set t5.toNat ((rdD tMsg ((a1000000.set t5.toNat (t1, (rdD tMsg a1000000 t5).2)).set t5.toNat ((rdD tMsg (a1000000.set t5.toNat (t1, (rdD tMsg a1000000 t5).2)) t5).1, (IntKind.i64.wrap (t1 + (1 : Int)), ((rdD tMsg (a1000000.set t5.toNat (t1, (rdD tMsg a1000000 t5).2)) t5).2).2))) t5).1, (((rdD tMsg ((a1000000.set t5.toNat (t1, (rdD tMsg a1000000 t5).2)).set t5.toNat ((rdD tMsg (a1000000.set t5.toNat (t1, (rdD tMsg a1000000 t5).2)) t5).1, (IntKind.i64.wrap (t1 + (1 : Int)), ((rdD tMsg (a1000000.set t5.toNat (t1, (rdD tMsg a1000000 t5).2)) t5).2).2))) t5).2).1, (IntKind.i64.wrap ((IntKind.i64.wrap (t1 + (1 : Int))) + (1 : Int)), (((rdD tMsg ((a1000000.set t5.toNat (t1, (rdD tMsg a1000000 t5).2)).set t5.toNat ((rdD tMsg (a1000000.set t5.toNat (t1, (rdD tMsg a1000000 t5).2)) t5).1, (IntKind.i64.wrap (t1 + (1 : Int)), ((rdD tMsg (a1000000.set t5.toNat (t1, (rdD tMsg a1000000 t5).2)) t5).2).2))) t5).2).2).2)))) t5).2).2).1, (IntKind.i64.wrap ((IntKind.i64.wrap ((IntKind.i64.wrap (t1 + (1 : Int))) + (1 : Int))) + (1 : Int)), ((((rdD tMsg (((a1000000.set t5.toNat (t1, (rdD tMsg a1000000 t5).2)).set t5.toNat ((rdD tMsg (a1000000.set t5.toNat (t1, (rdD tMsg a1000000 t5).2)) t5).1, (IntKind.i64.wrap (t1 + (1 : Int)), ((rdD tMsg (a1000000.set t5.toNat (t1, (rdD tMsg a1000000 t5).2)) t5).2).2))).set t5.toNat ((rdD tMsg ((a1000000.set t5.toNat (t1, (rdD tMsg a1000000 t5).2)).set t5.toNat ((rdD tMsg (a1000000.set t5.toNat (t1, (rdD tMsg a1000000 t5).2)) t5).1, (IntKind.i64.wrap (t1 + (1 : Int)), ((rdD tMsg (a1000000.set t5.toNat (t1, (rdD tMsg a1000000 t5).2)) t5).2).2))) t5).1, (((rdD tMsg ((a1000000.set t5.toNat (t1, (rdD tMsg a1000000 t5).2)).set t5.toNat ((rdD tMsg (a1000000.set t5.toNat (t1, (rdD tMsg a1000000 t5).2)) t5).1, (IntKind.i64.wrap (t1 + (1 : Int)), ((rdD tMsg (a1000000.set t5.toNat (t1, (rdD tMsg a1000000 t5).2)) t5).2).2))) t5).2).1, (IntKind.i64.wrap ((IntKind.i64.wrap (t1 + (1 : Int))) + (1 : Int)), (((rdD tMsg ((a1000000.set t5.toNat (t1, (rdD tMsg a1000000 t5).2)).set t5.toNat ((rdD tMsg (a1000000.set t5.toNat (t1, (rdD tMsg a1000000 t5).2)) t5).1, (IntKind.i64.wrap (t1 + (1 : Int)), ((rdD tMsg (a1000000.set t5.toNat (t1, (rdD tMsg a1000000 t5).2)) t5).2).2))) t5).2).2).2)))) t5).2).2).2).2))))) t5).2).2).2).2).2))))), ()))))))))
 (K (.exit 0) (laws_markMsgS_x0_0 t1 a1000000)) := by kernel_rfl
theorem laws_markMsgS_e0_0 (x0 : List (Int × Int × Int × Int × List Int × Unit)) (x1 : Int) (d0 : Int) (d1 : List (Int × Int × Int × Int × List Int × Unit)) : laws_markMsgS_K0 x0 x1 (.exit 0) (laws_markMsgS_x0_0 d0 d1) =
 some ((d0, ()), (d1, ((), ()))) := by kernel_rfl
/-! laws.FnExactPack -/
noncomputable def laws_FnExactPack_b : Code := bd Try.f13
def laws_FnExactPack_T : List (Nat × Tm) := []
noncomputable def laws_FnExactPack_E : Env := ⟨tt0, [(52, laws_eqByteS_C), (55, laws_markByteS_C), (56, laws_heldByteS_C), (75, laws_szMsgS_C), (76, spec_Pack_C), (77, laws_toMsgS_C), (78, impl_Pack_C), (79, laws_eqMsgS_C), (80, laws_markMsgS_C)]⟩
noncomputable def laws_FnExactPack_F : PsD [.ro tMsgsL] → Option (RsD [.own tB] × PsO [.ro tMsgsL]) := fun x => evFn laws_FnExactPack_E laws_FnExactPack_T Try.f13 laws_FnExactPack_b [.ro tMsgsL] [.own tB] x
@[reducible] noncomputable def laws_FnExactPack_C : Ct := ⟨[.ro tMsgsL], [.own tB], laws_FnExactPack_F⟩
theorem laws_FnExactPack_h (x : PsD [.ro tMsgsL]) (y : RsD [.own tB] × PsO [.ro tMsgsL]) (h : laws_FnExactPack_F x = some y) : evFn laws_FnExactPack_E laws_FnExactPack_T Try.f13 laws_FnExactPack_b [.ro tMsgsL] [.own tB] x = some y := h
theorem laws_FnExactPack_c : ∀ f c, get laws_FnExactPack_E.ct f = some c → Sat Try.prog f c := ct_cons laws_eqByteS_S (ct_cons laws_markByteS_S (ct_cons laws_heldByteS_S (ct_cons laws_szMsgS_S (ct_cons spec_Pack_S (ct_cons laws_toMsgS_S (ct_cons impl_Pack_S (ct_cons laws_eqMsgS_S (ct_cons laws_markMsgS_S (ct_nil)))))))))
theorem laws_FnExactPack_S : Sat Try.prog 13 laws_FnExactPack_C := fn_ok2 (envOk _) laws_FnExactPack_c mixedOk Try.func13 (by kernel_rfl : Try.f13.body = some laws_FnExactPack_b) (by kernel_rfl) (by kernel_rfl) laws_FnExactPack_h
noncomputable def laws_FnExactPack_Ke  (x0 : List (Int × Int × Int × Int × List Int × Unit)) : Ex → AS → Option (RsD [.own tB] × PsO [.ro tMsgsL]) := endK laws_FnExactPack_E Try.f13 [.ro tMsgsL] [.own tB] (initL [.ro tMsgsL] (x0, ()) 0).1
theorem laws_FnExactPack_main (x0 : List (Int × Int × Int × Int × List Int × Unit)) : laws_FnExactPack_F (x0, ()) =
 (laws_szMsgS_F (x0, ((1048576 : Int), ()))).bind fun y13 =>
 brk (decide (y13.1.1 < (0 : Int)))
 (some ((true, ()), ((), ())))
 ((laws_toMsgS_F (x0, ())).bind fun y17 =>
 (spec_Pack_F (y17.1.1, ())).bind fun y18 =>
 (laws_toMsgS_F (x0, ())).bind fun y20 =>
 (impl_Pack_F (y20.1.1, ())).bind fun y22 =>
 (laws_eqByteS_F (y22.1.1, (y18.1.1, ()))).bind fun y25 =>
 brk (!y25.1.1)
 (some ((false, ()), ((), ())))
 ((laws_toMsgS_F (x0, ())).bind fun y29 =>
 (laws_eqMsgS_F (y20.1.1, (y29.1.1, ()))).bind fun y30 =>
 brk (!y30.1.1)
 (some ((false, ()), ((), ())))
 ((laws_markMsgS_F (y20.1.1, ((1 : Int), ()))).bind fun y34 =>
 brk (decide (y34.1.1 < (0 : Int)))
 (some ((false, ()), ((), ())))
 ((laws_eqByteS_F (y22.1.1, (y18.1.1, ()))).bind fun y40 =>
 brk (!y40.1.1)
 (some ((false, ()), ((), ())))
 ((laws_markByteS_F (y22.1.1, ((1 : Int), ()))).bind fun y45 =>
 (laws_heldByteS_F (y45.2.1, ((1 : Int), ()))).bind fun y48 =>
 brk (decide (y48.1.1 < (0 : Int)))
 (some ((false, ()), ((), ())))
 (brk (!decide (y48.1.1 = y45.1.1))
 (some ((false, ()), ((), ())))
 ((laws_toMsgS_F (x0, ())).bind fun y55 =>
 (impl_Pack_F (y55.1.1, ())).bind fun y56 =>
 (laws_eqByteS_F (y56.1.1, (y18.1.1, ()))).bind fun y59 =>
 brk (!y59.1.1)
 (some ((false, ()), ((), ())))
 ((laws_heldByteS_F (y45.2.1, ((1 : Int), ()))).bind fun y63 =>
 brk (decide (y63.1.1 < (0 : Int)))
 (some ((false, ()), ((), ())))
 (brk (!decide (y63.1.1 = y45.1.1))
 (some ((false, ()), ((), ())))
 (some ((true, ()), ((), ())))))))))))) := by kernel_rfl
end Go.Refl
