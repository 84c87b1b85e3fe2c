/- Functions of the program, told by the evaluator: printed by a program of this claim. No condition. -/
import Derived.Test.YtffbfnogdghkgaaFnExactMsgOkGt
namespace Go.Refl
open Go.RowKit Go.Proofs
set_option linter.unusedVariables false
set_option maxRecDepth 100000
/-! laws.szIntS -/
noncomputable def laws_szIntS_b : Code := bd Try.f66
def laws_szIntS_T : List (Nat × Tm) := []
noncomputable def laws_szIntS_E : Env := ⟨tt0, []⟩
noncomputable def laws_szIntS_F : PsD [.ro tIs, .ro tI] → Option (RsD [.own tI] × PsO [.ro tIs, .ro tI]) := fun x => evFn laws_szIntS_E laws_szIntS_T Try.f66 laws_szIntS_b [.ro tIs, .ro tI] [.own tI] x
@[reducible] noncomputable def laws_szIntS_C : Ct := ⟨[.ro tIs, .ro tI], [.own tI], laws_szIntS_F⟩
theorem laws_szIntS_h (x : PsD [.ro tIs, .ro tI]) (y : RsD [.own tI] × PsO [.ro tIs, .ro tI]) (h : laws_szIntS_F x = some y) : evFn laws_szIntS_E laws_szIntS_T Try.f66 laws_szIntS_b [.ro tIs, .ro tI] [.own tI] x = some y := h
theorem laws_szIntS_c : ∀ f c, get laws_szIntS_E.ct f = some c → Sat Try.prog f c := ct_nil
theorem laws_szIntS_S : Sat Try.prog 66 laws_szIntS_C := fn_ok2 (envOk _) laws_szIntS_c mixedOk Try.func66 (by kernel_rfl : Try.f66.body = some laws_szIntS_b) (by kernel_rfl) (by kernel_rfl) laws_szIntS_h
noncomputable def laws_szIntS_Ke  (x0 : List Int) (x1 : Int) : Ex → AS → Option (RsD [.own tI] × PsO [.ro tIs, .ro tI]) := endK laws_szIntS_E Try.f66 [.ro tIs, .ro tI] [.own tI] (initL [.ro tIs, .ro tI] (x0, (x1, ())) 0).1
theorem laws_szIntS_main (x0 : List Int) (x1 : Int) : laws_szIntS_F (x0, (x1, ())) =
 brk (decide (IntKind.i64.wrap (x1 - (x0.length : Int)) < (0 : Int)))
 (some (((-1 : Int), ()), ((), ((), ()))))
 (some ((IntKind.i64.wrap (x1 - (x0.length : Int)), ()), ((), ((), ())))) := by kernel_rfl
/-! laws.szMsg -/
noncomputable def laws_szMsg_b : Code := bd Try.f19
def laws_szMsg_T : List (Nat × Tm) := []
noncomputable def laws_szMsg_E : Env := ⟨tt0, [(66, laws_szIntS_C)]⟩
noncomputable def laws_szMsg_F : PsD [.ro tMsg, .ro tI] → Option (RsD [.own tI] × PsO [.ro tMsg, .ro tI]) := fun x => evFn laws_szMsg_E laws_szMsg_T Try.f19 laws_szMsg_b [.ro tMsg, .ro tI] [.own tI] x
@[reducible] noncomputable def laws_szMsg_C : Ct := ⟨[.ro tMsg, .ro tI], [.own tI], laws_szMsg_F⟩
theorem laws_szMsg_h (x : PsD [.ro tMsg, .ro tI]) (y : RsD [.own tI] × PsO [.ro tMsg, .ro tI]) (h : laws_szMsg_F x = some y) : evFn laws_szMsg_E laws_szMsg_T Try.f19 laws_szMsg_b [.ro tMsg, .ro tI] [.own tI] x = some y := h
theorem laws_szMsg_c : ∀ f c, get laws_szMsg_E.ct f = some c → Sat Try.prog f c := ct_cons laws_szIntS_S (ct_nil)
theorem laws_szMsg_S : Sat Try.prog 19 laws_szMsg_C := fn_ok2 (envOk _) laws_szMsg_c mixedOk Try.func19 (by kernel_rfl : Try.f19.body = some laws_szMsg_b) (by kernel_rfl) (by kernel_rfl) laws_szMsg_h
noncomputable def laws_szMsg_Ke  (x0 : Int × Int × Int × Int × List Int × Unit) (x1 : Int) : Ex → AS → Option (RsD [.own tI] × PsO [.ro tMsg, .ro tI]) := endK laws_szMsg_E Try.f19 [.ro tMsg, .ro tI] [.own tI] (initL [.ro tMsg, .ro tI] (x0, (x1, ())) 0).1
theorem laws_szMsg_main (x0 : Int × Int × Int × Int × List Int × Unit) (x1 : Int) : laws_szMsg_F (x0, (x1, ())) =
 (laws_szIntS_F (x0.2.2.2.2.1, (x1, ()))).bind fun y8 =>
 brk (decide (y8.1.1 < (0 : Int)))
 (some (((-1 : Int), ()), ((), ((), ()))))
 (some ((y8.1.1, ()), ((), ((), ())))) := by kernel_rfl
/-! spec.l1In -/
noncomputable def spec_l1In_b : Code := bd Try.f68
def spec_l1In_T : List (Nat × Tm) := []
noncomputable def spec_l1In_E : Env := ⟨tt0, []⟩
noncomputable def spec_l1In_F : PsD [.ro tI, .ro tI, .ro tI] → Option (RsD [.own tB] × PsO [.ro tI, .ro tI, .ro tI]) := fun x => evFn spec_l1In_E spec_l1In_T Try.f68 spec_l1In_b [.ro tI, .ro tI, .ro tI] [.own tB] x
@[reducible] noncomputable def spec_l1In_C : Ct := ⟨[.ro tI, .ro tI, .ro tI], [.own tB], spec_l1In_F⟩
theorem spec_l1In_h (x : PsD [.ro tI, .ro tI, .ro tI]) (y : RsD [.own tB] × PsO [.ro tI, .ro tI, .ro tI]) (h : spec_l1In_F x = some y) : evFn spec_l1In_E spec_l1In_T Try.f68 spec_l1In_b [.ro tI, .ro tI, .ro tI] [.own tB] x = some y := h
theorem spec_l1In_c : ∀ f c, get spec_l1In_E.ct f = some c → Sat Try.prog f c := ct_nil
theorem spec_l1In_S : Sat Try.prog 68 spec_l1In_C := fn_ok2 (envOk _) spec_l1In_c mixedOk Try.func68 (by kernel_rfl : Try.f68.body = some spec_l1In_b) (by kernel_rfl) (by kernel_rfl) spec_l1In_h
noncomputable def spec_l1In_Ke  (x0 : Int) (x1 : Int) (x2 : Int) : Ex → AS → Option (RsD [.own tB] × PsO [.ro tI, .ro tI, .ro tI]) := endK spec_l1In_E Try.f68 [.ro tI, .ro tI, .ro tI] [.own tB] (initL [.ro tI, .ro tI, .ro tI] (x0, (x1, (x2, ()))) 0).1
theorem spec_l1In_main (x0 : Int) (x1 : Int) (x2 : Int) : spec_l1In_F (x0, (x1, (x2, ()))) =
 brk (decide (x1 ≤ x0))
 (some ((decide (x0 ≤ x2), ()), ((), ((), ((), ())))))
 (some ((false, ()), ((), ((), ((), ()))))) := by kernel_rfl
/-! spec.l2Has -/
noncomputable def spec_l2Has_b : Code := bd Try.f116
@[reducible] def spec_l2Has_t0 : Tm := ⟨[], [], [(0, .sc true tIs), (1, .sc true tI), (5, .sc true tI)], [], [4], []⟩
def spec_l2Has_T : List (Nat × Tm) := [(0, spec_l2Has_t0)]
noncomputable def spec_l2Has_E : Env := ⟨tt0, []⟩
noncomputable def spec_l2Has_F : PsD [.ro tIs, .ro tI] → Option (RsD [.own tB] × PsO [.ro tIs, .ro tI]) := fun x => evFn spec_l2Has_E spec_l2Has_T Try.f116 spec_l2Has_b [.ro tIs, .ro tI] [.own tB] x
@[reducible] noncomputable def spec_l2Has_C : Ct := ⟨[.ro tIs, .ro tI], [.own tB], spec_l2Has_F⟩
theorem spec_l2Has_h (x : PsD [.ro tIs, .ro tI]) (y : RsD [.own tB] × PsO [.ro tIs, .ro tI]) (h : spec_l2Has_F x = some y) : evFn spec_l2Has_E spec_l2Has_T Try.f116 spec_l2Has_b [.ro tIs, .ro tI] [.own tB] x = some y := h
theorem spec_l2Has_c : ∀ f c, get spec_l2Has_E.ct f = some c → Sat Try.prog f c := ct_nil
theorem spec_l2Has_S : Sat Try.prog 116 spec_l2Has_C := fn_ok2 (envOk _) spec_l2Has_c mixedOk Try.func116 (by kernel_rfl : Try.f116.body = some spec_l2Has_b) (by kernel_rfl) (by kernel_rfl) spec_l2Has_h
noncomputable def spec_l2Has_Ke  (x0 : List Int) (x1 : Int) : Ex → AS → Option (RsD [.own tB] × PsO [.ro tIs, .ro tI]) := endK spec_l2Has_E Try.f116 [.ro tIs, .ro tI] [.own tB] (initL [.ro tIs, .ro tI] (x0, (x1, ())) 0).1
noncomputable def spec_l2Has_B0 {R : Type} : AS → (Ex → AS → Option R) → Option R := fun A K => ev spec_l2Has_E spec_l2Has_T 0 (cA (cA (cB (cA (cB spec_l2Has_b))))) A K
noncomputable def spec_l2Has_K0  (x0 : List Int) (x1 : Int) : Ex → AS → Option (RsD [.own tB] × PsO [.ro tIs, .ro tI]) := kBlk 0 (kSeq (fun A K => ev spec_l2Has_E spec_l2Has_T 1000 (cB (cB spec_l2Has_b)) A K) (spec_l2Has_Ke x0 x1))
noncomputable def spec_l2Has_x0_0 (d0 : Bool) : AS := ⟨[(4, .v (.one (.d true tB d0)))], []⟩
noncomputable def spec_l2Has_x0_1 : AS := ⟨[], []⟩
theorem spec_l2Has_l0 {R : Type} {K : Ex → AS → Option R} {s : spec_l2Has_t0.D} (n : Nat) {v : Option R} (h : iterG spec_l2Has_t0 spec_l2Has_B0 K n s = v) (hv : ∃ r, v = some r) : loopG spec_l2Has_t0 spec_l2Has_B0 K s = v := loop_eq (ev_mono _ _) n h hv
theorem spec_l2Has_main (x0 : List Int) (x1 : Int) : spec_l2Has_F (x0, (x1, ())) =
 loopG spec_l2Has_t0 spec_l2Has_B0 (spec_l2Has_K0 x0 x1) ((x0, (x1, ((0 : Int), ()))), ()) := by kernel_rfl
theorem spec_l2Has_r0 {R : Type} (K : Ex → AS → Option R) (n : Nat) (t0 : List Int) (t1 : Int) (t5 : Int) : iterG spec_l2Has_t0 spec_l2Has_B0 K (n + 1) ((t0, (t1, (t5, ()))), ()) =
 brk (decide (t5 < (t0.length : Int)))
 (ck (decide (0 ≤ t5) && decide (t5 < t0.length)) (brk (decide (rdD tI t0 t5 = t1))
 (K .ret (spec_l2Has_x0_0 true))
 (iterG spec_l2Has_t0 spec_l2Has_B0 K n ((t0, (t1, (IntKind.i64.wrap (t5 + (1 : Int)), ()))), ()))))
 (K (.exit 0) (spec_l2Has_x0_1)) := by kernel_rfl
theorem spec_l2Has_e0_0 (x0 : List Int) (x1 : Int) (d0 : Bool) : spec_l2Has_K0 x0 x1 .ret (spec_l2Has_x0_0 d0) =
 some ((d0, ()), ((), ((), ()))) := by kernel_rfl
theorem spec_l2Has_e0_1 (x0 : List Int) (x1 : Int) : spec_l2Has_K0 x0 x1 (.exit 0) (spec_l2Has_x0_1) =
 some ((false, ()), ((), ((), ()))) := by kernel_rfl
/-! spec.GensOk -/
noncomputable def spec_GensOk_b : Code := bd Try.f67
@[reducible] def spec_GensOk_t0 : Tm := ⟨[], [], [(0, .sc true tIs), (3, .sc true tI)], [], [0, 2], []⟩
def spec_GensOk_T : List (Nat × Tm) := [(0, spec_GensOk_t0)]
noncomputable def spec_GensOk_E : Env := ⟨tt0, [(68, spec_l1In_C), (116, spec_l2Has_C)]⟩
noncomputable def spec_GensOk_F : PsD [.ro tIs] → Option (RsD [.own tB] × PsO [.ro tIs]) := fun x => evFn spec_GensOk_E spec_GensOk_T Try.f67 spec_GensOk_b [.ro tIs] [.own tB] x
@[reducible] noncomputable def spec_GensOk_C : Ct := ⟨[.ro tIs], [.own tB], spec_GensOk_F⟩
theorem spec_GensOk_h (x : PsD [.ro tIs]) (y : RsD [.own tB] × PsO [.ro tIs]) (h : spec_GensOk_F x = some y) : evFn spec_GensOk_E spec_GensOk_T Try.f67 spec_GensOk_b [.ro tIs] [.own tB] x = some y := h
theorem spec_GensOk_c : ∀ f c, get spec_GensOk_E.ct f = some c → Sat Try.prog f c := ct_cons spec_l1In_S (ct_cons spec_l2Has_S (ct_nil))
theorem spec_GensOk_S : Sat Try.prog 67 spec_GensOk_C := fn_ok2 (envOk _) spec_GensOk_c mixedOk Try.func67 (by kernel_rfl : Try.f67.body = some spec_GensOk_b) (by kernel_rfl) (by kernel_rfl) spec_GensOk_h
noncomputable def spec_GensOk_Ke  (x0 : List Int) : Ex → AS → Option (RsD [.own tB] × PsO [.ro tIs]) := endK spec_GensOk_E Try.f67 [.ro tIs] [.own tB] (initL [.ro tIs] (x0, ()) 0).1
noncomputable def spec_GensOk_B0 {R : Type} : AS → (Ex → AS → Option R) → Option R := fun A K => ev spec_GensOk_E spec_GensOk_T 0 (cA (cA (cB (cA (cB spec_GensOk_b))))) A K
noncomputable def spec_GensOk_K0  (x0 : List Int) : Ex → AS → Option (RsD [.own tB] × PsO [.ro tIs]) := kBlk 0 (kSeq (fun A K => ev spec_GensOk_E spec_GensOk_T 1000 (cB (cB spec_GensOk_b)) A K) (spec_GensOk_Ke x0))
noncomputable def spec_GensOk_x0_0 (d0 : List Int) (d1 : Bool) : AS := ⟨[(0, .v (.one (.d true tIs d0))), (2, .v (.one (.d true tB d1)))], []⟩
noncomputable def spec_GensOk_x0_1 (d0 : List Int) : AS := ⟨[(0, .v (.one (.d true tIs d0)))], []⟩
theorem spec_GensOk_l0 {R : Type} {K : Ex → AS → Option R} {s : spec_GensOk_t0.D} (n : Nat) {v : Option R} (h : iterG spec_GensOk_t0 spec_GensOk_B0 K n s = v) (hv : ∃ r, v = some r) : loopG spec_GensOk_t0 spec_GensOk_B0 K s = v := loop_eq (ev_mono _ _) n h hv
theorem spec_GensOk_main (x0 : List Int) : spec_GensOk_F (x0, ()) =
 loopG spec_GensOk_t0 spec_GensOk_B0 (spec_GensOk_K0 x0) ((x0, ((0 : Int), ())), ()) := by kernel_rfl
theorem spec_GensOk_r0 {R : Type} (K : Ex → AS → Option R) (n : Nat) (t0 : List Int) (t3 : Int) : iterG spec_GensOk_t0 spec_GensOk_B0 K (n + 1) ((t0, (t3, ())), ()) =
 brk (decide (t3 < (t0.length : Int)))
 (ck (decide (0 ≤ t3) && decide (t3 < t0.length)) ((spec_l1In_F (rdD tI t0 t3, ((1 : Int), ((100000 : Int), ())))).bind fun y14 =>
 brk (!y14.1.1)
 (K .ret (spec_GensOk_x0_0 t0 false))
 (ck (decide (0 ≤ (0 : Int)) && decide ((0 : Int) ≤ t3) && decide (t3 ≤ t0.length)) (ck (decide (0 ≤ t3) && decide (t3 < t0.length)) ((spec_l2Has_F ((t0.take t3.toNat).drop (0 : Int).toNat, (rdD tI t0 t3, ()))).bind fun y24 =>
 brk y24.1.1
 (K .ret (spec_GensOk_x0_0 t0 false))
 (iterG spec_GensOk_t0 spec_GensOk_B0 K n ((t0, (IntKind.i64.wrap (t3 + (1 : Int)), ())), ())))))))
 (K (.exit 0) (spec_GensOk_x0_1 t0)) := by kernel_rfl
theorem spec_GensOk_e0_0 (x0 : List Int) (d0 : List Int) (d1 : Bool) : spec_GensOk_K0 x0 .ret (spec_GensOk_x0_0 d0 d1) =
 some ((d1, ()), ((), ())) := by kernel_rfl
theorem spec_GensOk_e0_1 (x0 : List Int) (d0 : List Int) : spec_GensOk_K0 x0 (.exit 0) (spec_GensOk_x0_1 d0) =
 some ((decide ((d0.length : Int) ≤ (12 : Int)), ()), ((), ())) := by kernel_rfl
/-! spec.l1Bit -/
noncomputable def spec_l1Bit_b : Code := bd Try.f69
def spec_l1Bit_T : List (Nat × Tm) := []
noncomputable def spec_l1Bit_E : Env := ⟨tt0, []⟩
noncomputable def spec_l1Bit_F : PsD [.ro tB] → Option (RsD [.own tI] × PsO [.ro tB]) := fun x => evFn spec_l1Bit_E spec_l1Bit_T Try.f69 spec_l1Bit_b [.ro tB] [.own tI] x
@[reducible] noncomputable def spec_l1Bit_C : Ct := ⟨[.ro tB], [.own tI], spec_l1Bit_F⟩
theorem spec_l1Bit_h (x : PsD [.ro tB]) (y : RsD [.own tI] × PsO [.ro tB]) (h : spec_l1Bit_F x = some y) : evFn spec_l1Bit_E spec_l1Bit_T Try.f69 spec_l1Bit_b [.ro tB] [.own tI] x = some y := h
theorem spec_l1Bit_c : ∀ f c, get spec_l1Bit_E.ct f = some c → Sat Try.prog f c := ct_nil
theorem spec_l1Bit_S : Sat Try.prog 69 spec_l1Bit_C := fn_ok2 (envOk _) spec_l1Bit_c mixedOk Try.func69 (by kernel_rfl : Try.f69.body = some spec_l1Bit_b) (by kernel_rfl) (by kernel_rfl) spec_l1Bit_h
noncomputable def spec_l1Bit_Ke  (x0 : Bool) : Ex → AS → Option (RsD [.own tI] × PsO [.ro tB]) := endK spec_l1Bit_E Try.f69 [.ro tB] [.own tI] (initL [.ro tB] (x0, ()) 0).1
theorem spec_l1Bit_main (x0 : Bool) : spec_l1Bit_F (x0, ()) =
 brk x0
 (some (((1 : Int), ()), ((), ())))
 (some (((0 : Int), ()), ((), ()))) := by kernel_rfl
/-! spec.MsgOk -/
noncomputable def spec_MsgOk_b : Code := bd Try.f20
def spec_MsgOk_T : List (Nat × Tm) := []
noncomputable def spec_MsgOk_E : Env := ⟨tt0, [(67, spec_GensOk_C), (68, spec_l1In_C), (69, spec_l1Bit_C)]⟩
noncomputable def spec_MsgOk_F : PsD [.ro tMsg] → Option (RsD [.own tB] × PsO [.ro tMsg]) := fun x => evFn spec_MsgOk_E spec_MsgOk_T Try.f20 spec_MsgOk_b [.ro tMsg] [.own tB] x
@[reducible] noncomputable def spec_MsgOk_C : Ct := ⟨[.ro tMsg], [.own tB], spec_MsgOk_F⟩
theorem spec_MsgOk_h (x : PsD [.ro tMsg]) (y : RsD [.own tB] × PsO [.ro tMsg]) (h : spec_MsgOk_F x = some y) : evFn spec_MsgOk_E spec_MsgOk_T Try.f20 spec_MsgOk_b [.ro tMsg] [.own tB] x = some y := h
theorem spec_MsgOk_c : ∀ f c, get spec_MsgOk_E.ct f = some c → Sat Try.prog f c := ct_cons spec_GensOk_S (ct_cons spec_l1In_S (ct_cons spec_l1Bit_S (ct_nil)))
theorem spec_MsgOk_S : Sat Try.prog 20 spec_MsgOk_C := fn_ok2 (envOk _) spec_MsgOk_c mixedOk Try.func20 (by kernel_rfl : Try.f20.body = some spec_MsgOk_b) (by kernel_rfl) (by kernel_rfl) spec_MsgOk_h
noncomputable def spec_MsgOk_Ke  (x0 : Int × Int × Int × Int × List Int × Unit) : Ex → AS → Option (RsD [.own tB] × PsO [.ro tMsg]) := endK spec_MsgOk_E Try.f20 [.ro tMsg] [.own tB] (initL [.ro tMsg] (x0, ()) 0).1
theorem spec_MsgOk_main (x0 : Int × Int × Int × Int × List Int × Unit) : spec_MsgOk_F (x0, ()) =
 brk (decide (x0.1 = (5 : Int)))
 ((spec_GensOk_F (x0.2.2.2.2.1, ())).bind fun y9 =>
 brk y9.1.1
 ((spec_l1In_F (x0.2.2.1, ((0 : Int), ((200 : Int), ())))).bind fun y13 =>
 brk y13.1.1
 (brk (decide (x0.2.1 = (0 : Int)))
 (some ((decide (x0.2.2.2.1 = (0 : Int)), ()), ((), ())))
 (some ((false, ()), ((), ()))))
 (some ((false, ()), ((), ()))))
 (some ((false, ()), ((), ()))))
 (brk (decide (x0.1 = (1 : Int)))
 (brk (decide (x0.1 = (1 : Int)))
 (brk (decide ((x0.2.2.2.2.1.length : Int) = (0 : Int)))
 ((spec_l1In_F (x0.2.1, ((0 : Int), ((7 : Int), ())))).bind fun y37 =>
 brk y37.1.1
 (brk (decide (x0.1 = (4 : Int)))
 ((spec_l1Bit_F (true, ())).bind fun y50 =>
 (spec_l1In_F (x0.2.2.1, (IntKind.i64.wrap ((1 : Int) - y50.1.1), ((200 : Int), ())))).bind fun y52 =>
 brk y52.1.1
 (brk (decide (x0.1 = (3 : Int)))
 ((spec_l1In_F (x0.2.2.2.1, ((0 : Int), ((2 : Int), ())))).bind fun y61 =>
 brk y61.1.1
 (some ((true, ()), ((), ())))
 (some ((decide (x0.2.2.2.1 = (0 : Int)), ()), ((), ()))))
 (some ((decide (x0.2.2.2.1 = (0 : Int)), ()), ((), ()))))
 (some ((false, ()), ((), ()))))
 ((spec_l1Bit_F (decide (x0.1 = (2 : Int)), ())).bind fun y50 =>
 (spec_l1In_F (x0.2.2.1, (IntKind.i64.wrap ((1 : Int) - y50.1.1), ((200 : Int), ())))).bind fun y52 =>
 brk y52.1.1
 (brk (decide (x0.1 = (3 : Int)))
 ((spec_l1In_F (x0.2.2.2.1, ((0 : Int), ((2 : Int), ())))).bind fun y61 =>
 brk y61.1.1
 (some ((true, ()), ((), ())))
 (some ((decide (x0.2.2.2.1 = (0 : Int)), ()), ((), ()))))
 (some ((decide (x0.2.2.2.1 = (0 : Int)), ()), ((), ()))))
 (some ((false, ()), ((), ())))))
 (some ((false, ()), ((), ()))))
 (some ((false, ()), ((), ()))))
 (some ((false, ()), ((), ()))))
 (brk (decide (x0.1 = (2 : Int)))
 (brk (decide (x0.1 = (2 : Int)))
 (brk (decide ((x0.2.2.2.2.1.length : Int) = (0 : Int)))
 ((spec_l1In_F (x0.2.1, ((0 : Int), ((7 : Int), ())))).bind fun y37 =>
 brk y37.1.1
 (brk (decide (x0.1 = (4 : Int)))
 ((spec_l1Bit_F (true, ())).bind fun y50 =>
 (spec_l1In_F (x0.2.2.1, (IntKind.i64.wrap ((1 : Int) - y50.1.1), ((200 : Int), ())))).bind fun y52 =>
 brk y52.1.1
 (brk (decide (x0.1 = (3 : Int)))
 ((spec_l1In_F (x0.2.2.2.1, ((0 : Int), ((2 : Int), ())))).bind fun y61 =>
 brk y61.1.1
 (some ((true, ()), ((), ())))
 (some ((decide (x0.2.2.2.1 = (0 : Int)), ()), ((), ()))))
 (some ((decide (x0.2.2.2.1 = (0 : Int)), ()), ((), ()))))
 (some ((false, ()), ((), ()))))
 ((spec_l1Bit_F (decide (x0.1 = (2 : Int)), ())).bind fun y50 =>
 (spec_l1In_F (x0.2.2.1, (IntKind.i64.wrap ((1 : Int) - y50.1.1), ((200 : Int), ())))).bind fun y52 =>
 brk y52.1.1
 (brk (decide (x0.1 = (3 : Int)))
 ((spec_l1In_F (x0.2.2.2.1, ((0 : Int), ((2 : Int), ())))).bind fun y61 =>
 brk y61.1.1
 (some ((true, ()), ((), ())))
 (some ((decide (x0.2.2.2.1 = (0 : Int)), ()), ((), ()))))
 (some ((decide (x0.2.2.2.1 = (0 : Int)), ()), ((), ()))))
 (some ((false, ()), ((), ())))))
 (some ((false, ()), ((), ()))))
 (some ((false, ()), ((), ()))))
 (some ((false, ()), ((), ()))))
 (brk (decide (x0.1 = (3 : Int)))
 (brk (decide (x0.1 = (3 : Int)))
 (brk (decide ((x0.2.2.2.2.1.length : Int) = (0 : Int)))
 ((spec_l1In_F (x0.2.1, ((0 : Int), ((7 : Int), ())))).bind fun y37 =>
 brk y37.1.1
 (brk (decide (x0.1 = (4 : Int)))
 ((spec_l1Bit_F (true, ())).bind fun y50 =>
 (spec_l1In_F (x0.2.2.1, (IntKind.i64.wrap ((1 : Int) - y50.1.1), ((200 : Int), ())))).bind fun y52 =>
 brk y52.1.1
 (brk (decide (x0.1 = (3 : Int)))
 ((spec_l1In_F (x0.2.2.2.1, ((0 : Int), ((2 : Int), ())))).bind fun y61 =>
 brk y61.1.1
 (some ((true, ()), ((), ())))
 (some ((decide (x0.2.2.2.1 = (0 : Int)), ()), ((), ()))))
 (some ((decide (x0.2.2.2.1 = (0 : Int)), ()), ((), ()))))
 (some ((false, ()), ((), ()))))
 ((spec_l1Bit_F (decide (x0.1 = (2 : Int)), ())).bind fun y50 =>
 (spec_l1In_F (x0.2.2.1, (IntKind.i64.wrap ((1 : Int) - y50.1.1), ((200 : Int), ())))).bind fun y52 =>
 brk y52.1.1
 (brk (decide (x0.1 = (3 : Int)))
 ((spec_l1In_F (x0.2.2.2.1, ((0 : Int), ((2 : Int), ())))).bind fun y61 =>
 brk y61.1.1
 (some ((true, ()), ((), ())))
 (some ((decide (x0.2.2.2.1 = (0 : Int)), ()), ((), ()))))
 (some ((decide (x0.2.2.2.1 = (0 : Int)), ()), ((), ()))))
 (some ((false, ()), ((), ())))))
 (some ((false, ()), ((), ()))))
 (some ((false, ()), ((), ()))))
 (some ((false, ()), ((), ()))))
 (brk (decide (x0.1 = (4 : Int)))
 (brk (decide ((x0.2.2.2.2.1.length : Int) = (0 : Int)))
 ((spec_l1In_F (x0.2.1, ((0 : Int), ((7 : Int), ())))).bind fun y37 =>
 brk y37.1.1
 (brk (decide (x0.1 = (4 : Int)))
 ((spec_l1Bit_F (true, ())).bind fun y50 =>
 (spec_l1In_F (x0.2.2.1, (IntKind.i64.wrap ((1 : Int) - y50.1.1), ((200 : Int), ())))).bind fun y52 =>
 brk y52.1.1
 (brk (decide (x0.1 = (3 : Int)))
 ((spec_l1In_F (x0.2.2.2.1, ((0 : Int), ((2 : Int), ())))).bind fun y61 =>
 brk y61.1.1
 (some ((true, ()), ((), ())))
 (some ((decide (x0.2.2.2.1 = (0 : Int)), ()), ((), ()))))
 (some ((decide (x0.2.2.2.1 = (0 : Int)), ()), ((), ()))))
 (some ((false, ()), ((), ()))))
 ((spec_l1Bit_F (decide (x0.1 = (2 : Int)), ())).bind fun y50 =>
 (spec_l1In_F (x0.2.2.1, (IntKind.i64.wrap ((1 : Int) - y50.1.1), ((200 : Int), ())))).bind fun y52 =>
 brk y52.1.1
 (brk (decide (x0.1 = (3 : Int)))
 ((spec_l1In_F (x0.2.2.2.1, ((0 : Int), ((2 : Int), ())))).bind fun y61 =>
 brk y61.1.1
 (some ((true, ()), ((), ())))
 (some ((decide (x0.2.2.2.1 = (0 : Int)), ()), ((), ()))))
 (some ((decide (x0.2.2.2.1 = (0 : Int)), ()), ((), ()))))
 (some ((false, ()), ((), ())))))
 (some ((false, ()), ((), ()))))
 (some ((false, ()), ((), ()))))
 (some ((false, ()), ((), ()))))))) := by kernel_rfl
/-! laws.toIntS -/
noncomputable def laws_toIntS_b : Code := bd Try.f14
@[reducible] def laws_toIntS_t0 : Tm := ⟨[], [], [(0, .sc true tIs), (3, .own 112), (4, .sc true tI)], [(112, .arr 3 tI)], [3], [112]⟩
def laws_toIntS_T : List (Nat × Tm) := [(0, laws_toIntS_t0)]
noncomputable def laws_toIntS_E : Env := ⟨tt0, []⟩
noncomputable def laws_toIntS_F : PsD [.ro tIs] → Option (RsD [.own tIs] × PsO [.ro tIs]) := fun x => evFn laws_toIntS_E laws_toIntS_T Try.f14 laws_toIntS_b [.ro tIs] [.own tIs] x
@[reducible] noncomputable def laws_toIntS_C : Ct := ⟨[.ro tIs], [.own tIs], laws_toIntS_F⟩
theorem laws_toIntS_h (x : PsD [.ro tIs]) (y : RsD [.own tIs] × PsO [.ro tIs]) (h : laws_toIntS_F x = some y) : evFn laws_toIntS_E laws_toIntS_T Try.f14 laws_toIntS_b [.ro tIs] [.own tIs] x = some y := h
theorem laws_toIntS_c : ∀ f c, get laws_toIntS_E.ct f = some c → Sat Try.prog f c := ct_nil
theorem laws_toIntS_S : Sat Try.prog 14 laws_toIntS_C := fn_ok2 (envOk _) laws_toIntS_c mixedOk Try.func14 (by kernel_rfl : Try.f14.body = some laws_toIntS_b) (by kernel_rfl) (by kernel_rfl) laws_toIntS_h
noncomputable def laws_toIntS_Ke  (x0 : List Int) : Ex → AS → Option (RsD [.own tIs] × PsO [.ro tIs]) := endK laws_toIntS_E Try.f14 [.ro tIs] [.own tIs] (initL [.ro tIs] (x0, ()) 0).1
noncomputable def laws_toIntS_B0 {R : Type} : AS → (Ex → AS → Option R) → Option R := fun A K => ev laws_toIntS_E laws_toIntS_T 0 (cA (cA (cB (cA (cB (cB laws_toIntS_b)))))) A K
noncomputable def laws_toIntS_K0  (x0 : List Int) : Ex → AS → Option (RsD [.own tIs] × PsO [.ro tIs]) := kBlk 0 (kSeq (fun A K => ev laws_toIntS_E laws_toIntS_T 1000 (cB (cB (cB laws_toIntS_b))) A K) (laws_toIntS_Ke x0))
noncomputable def laws_toIntS_x0_0 (d0 : List Int) : AS := ⟨[(3, .v (.one (.own 112)))], [(112, .arr 3 tI d0)]⟩
theorem laws_toIntS_l0 {R : Type} {K : Ex → AS → Option R} {s : laws_toIntS_t0.D} (n : Nat) {v : Option R} (h : iterG laws_toIntS_t0 laws_toIntS_B0 K n s = v) (hv : ∃ r, v = some r) : loopG laws_toIntS_t0 laws_toIntS_B0 K s = v := loop_eq (ev_mono _ _) n h hv
theorem laws_toIntS_main (x0 : List Int) : laws_toIntS_F (x0, ()) =
 ck (decide (0 ≤ (x0.length : Int)) && decide ((x0.length : Int) = (x0.length : Int)) && decide ((x0.length : Int) * (8 : Int) ≤ 140737488355328) && decide ((x0.length : Int) ≤ 140737488355328)) (loopG laws_toIntS_t0 laws_toIntS_B0 (laws_toIntS_K0 x0) ((x0, ((0 : Int), ())), (List.replicate (x0.length : Int).toNat tI.zero, ()))) := by kernel_rfl
theorem laws_toIntS_r0 {R : Type} (K : Ex → AS → Option R) (n : Nat) (t0 : List Int) (t4 : Int) (a112 : List Int) : iterG laws_toIntS_t0 laws_toIntS_B0 K (n + 1) ((t0, (t4, ())), (a112, ())) =
 brk (decide (t4 < (t0.length : Int)))
 (ck (decide (0 ≤ t4) && decide (t4 < t0.length)) (ck (decide (0 ≤ t4) && decide (t4 < a112.length)) (iterG laws_toIntS_t0 laws_toIntS_B0 K n ((t0, (IntKind.i64.wrap (t4 + (1 : Int)), ())), (a112.set t4.toNat (rdD tI t0 t4), ())))))
 (K (.exit 0) (laws_toIntS_x0_0 a112)) := by kernel_rfl
theorem laws_toIntS_e0_0 (x0 : List Int) (d0 : List Int) : laws_toIntS_K0 x0 (.exit 0) (laws_toIntS_x0_0 d0) =
 some ((d0, ()), ((), ())) := by kernel_rfl
/-! laws.toMsg -/
noncomputable def laws_toMsg_b : Code := bd Try.f21
def laws_toMsg_T : List (Nat × Tm) := []
noncomputable def laws_toMsg_E : Env := ⟨tt0, [(14, laws_toIntS_C)]⟩
noncomputable def laws_toMsg_F : PsD [.ro tMsg] → Option (RsD [.own tMsg] × PsO [.ro tMsg]) := fun x => evFn laws_toMsg_E laws_toMsg_T Try.f21 laws_toMsg_b [.ro tMsg] [.own tMsg] x
@[reducible] noncomputable def laws_toMsg_C : Ct := ⟨[.ro tMsg], [.own tMsg], laws_toMsg_F⟩
theorem laws_toMsg_h (x : PsD [.ro tMsg]) (y : RsD [.own tMsg] × PsO [.ro tMsg]) (h : laws_toMsg_F x = some y) : evFn laws_toMsg_E laws_toMsg_T Try.f21 laws_toMsg_b [.ro tMsg] [.own tMsg] x = some y := h
theorem laws_toMsg_c : ∀ f c, get laws_toMsg_E.ct f = some c → Sat Try.prog f c := ct_cons laws_toIntS_S (ct_nil)
theorem laws_toMsg_S : Sat Try.prog 21 laws_toMsg_C := fn_ok2 (envOk _) laws_toMsg_c mixedOk Try.func21 (by kernel_rfl : Try.f21.body = some laws_toMsg_b) (by kernel_rfl) (by kernel_rfl) laws_toMsg_h
noncomputable def laws_toMsg_Ke  (x0 : Int × Int × Int × Int × List Int × Unit) : Ex → AS → Option (RsD [.own tMsg] × PsO [.ro tMsg]) := endK laws_toMsg_E Try.f21 [.ro tMsg] [.own tMsg] (initL [.ro tMsg] (x0, ()) 0).1
theorem laws_toMsg_main (x0 : Int × Int × Int × Int × List Int × Unit) : laws_toMsg_F (x0, ()) =
 (laws_toIntS_F (x0.2.2.2.2.1, ())).bind fun y18 =>
 some (((x0.1, (x0.2.1, (x0.2.2.1, (x0.2.2.2.1, (y18.1.1, ()))))), ()), ((), ())) := by kernel_rfl
/-! impl.from -/
noncomputable def impl_from_b : Code := bd Try.f71
def impl_from_T : List (Nat × Tm) := []
noncomputable def impl_from_E : Env := ⟨tt0, []⟩
noncomputable def impl_from_F : PsD [.ro tI, .ro tI, .ro tI] → Option (RsD [.own tB] × PsO [.ro tI, .ro tI, .ro tI]) := fun x => evFn impl_from_E impl_from_T Try.f71 impl_from_b [.ro tI, .ro tI, .ro tI] [.own tB] x
@[reducible] noncomputable def impl_from_C : Ct := ⟨[.ro tI, .ro tI, .ro tI], [.own tB], impl_from_F⟩
theorem impl_from_h (x : PsD [.ro tI, .ro tI, .ro tI]) (y : RsD [.own tB] × PsO [.ro tI, .ro tI, .ro tI]) (h : impl_from_F x = some y) : evFn impl_from_E impl_from_T Try.f71 impl_from_b [.ro tI, .ro tI, .ro tI] [.own tB] x = some y := h
theorem impl_from_c : ∀ f c, get impl_from_E.ct f = some c → Sat Try.prog f c := ct_nil
theorem impl_from_S : Sat Try.prog 71 impl_from_C := fn_ok2 (envOk _) impl_from_c mixedOk Try.func71 (by kernel_rfl : Try.f71.body = some impl_from_b) (by kernel_rfl) (by kernel_rfl) impl_from_h
noncomputable def impl_from_Ke  (x0 : Int) (x1 : Int) (x2 : Int) : Ex → AS → Option (RsD [.own tB] × PsO [.ro tI, .ro tI, .ro tI]) := endK impl_from_E Try.f71 [.ro tI, .ro tI, .ro tI] [.own tB] (initL [.ro tI, .ro tI, .ro tI] (x0, (x1, (x2, ()))) 0).1
theorem impl_from_main (x0 : Int) (x1 : Int) (x2 : Int) : impl_from_F (x0, (x1, (x2, ()))) =
 brk (decide (x1 ≤ x0))
 (some ((decide (x0 ≤ x2), ()), ((), ((), ((), ())))))
 (some ((false, ()), ((), ((), ((), ()))))) := by kernel_rfl
/-! slices.Index[[]int,int] -/
noncomputable def slices_Index_int_b : Code := bd Try.f129
@[reducible] def slices_Index_int_t0 : Tm := ⟨[], [], [(0, .sc true tIs), (1, .sc true tI), (7, .sc true tI), (8, .sc true tI)], [], [4], []⟩
def slices_Index_int_T : List (Nat × Tm) := [(0, slices_Index_int_t0)]
noncomputable def slices_Index_int_E : Env := ⟨tt0, []⟩
noncomputable def slices_Index_int_F : PsD [.ro tIs, .ro tI] → Option (RsD [.own tI] × PsO [.ro tIs, .ro tI]) := fun x => evFn slices_Index_int_E slices_Index_int_T Try.f129 slices_Index_int_b [.ro tIs, .ro tI] [.own tI] x
@[reducible] noncomputable def slices_Index_int_C : Ct := ⟨[.ro tIs, .ro tI], [.own tI], slices_Index_int_F⟩
theorem slices_Index_int_h (x : PsD [.ro tIs, .ro tI]) (y : RsD [.own tI] × PsO [.ro tIs, .ro tI]) (h : slices_Index_int_F x = some y) : evFn slices_Index_int_E slices_Index_int_T Try.f129 slices_Index_int_b [.ro tIs, .ro tI] [.own tI] x = some y := h
theorem slices_Index_int_c : ∀ f c, get slices_Index_int_E.ct f = some c → Sat Try.prog f c := ct_nil
theorem slices_Index_int_S : Sat Try.prog 129 slices_Index_int_C := fn_ok2 (envOk _) slices_Index_int_c mixedOk Try.func129 (by kernel_rfl : Try.f129.body = some slices_Index_int_b) (by kernel_rfl) (by kernel_rfl) slices_Index_int_h
noncomputable def slices_Index_int_Ke  (x0 : List Int) (x1 : Int) : Ex → AS → Option (RsD [.own tI] × PsO [.ro tIs, .ro tI]) := endK slices_Index_int_E Try.f129 [.ro tIs, .ro tI] [.own tI] (initL [.ro tIs, .ro tI] (x0, (x1, ())) 0).1
noncomputable def slices_Index_int_B0 {R : Type} : AS → (Ex → AS → Option R) → Option R := fun A K => ev slices_Index_int_E slices_Index_int_T 0 (cA (cA (cB (cA (cB slices_Index_int_b))))) A K
noncomputable def slices_Index_int_K0  (x0 : List Int) (x1 : Int) : Ex → AS → Option (RsD [.own tI] × PsO [.ro tIs, .ro tI]) := kBlk 0 (kSeq (fun A K => ev slices_Index_int_E slices_Index_int_T 1000 (cB (cB slices_Index_int_b)) A K) (slices_Index_int_Ke x0 x1))
noncomputable def slices_Index_int_x0_0 (d0 : Int) : AS := ⟨[(4, .v (.one (.d true tI d0)))], []⟩
noncomputable def slices_Index_int_x0_1 : AS := ⟨[], []⟩
theorem slices_Index_int_l0 {R : Type} {K : Ex → AS → Option R} {s : slices_Index_int_t0.D} (n : Nat) {v : Option R} (h : iterG slices_Index_int_t0 slices_Index_int_B0 K n s = v) (hv : ∃ r, v = some r) : loopG slices_Index_int_t0 slices_Index_int_B0 K s = v := loop_eq (ev_mono _ _) n h hv
theorem slices_Index_int_main (x0 : List Int) (x1 : Int) : slices_Index_int_F (x0, (x1, ())) =
 loopG slices_Index_int_t0 slices_Index_int_B0 (slices_Index_int_K0 x0 x1) ((x0, (x1, ((x0.length : Int), ((0 : Int), ())))), ()) := by kernel_rfl
theorem slices_Index_int_r0 {R : Type} (K : Ex → AS → Option R) (n : Nat) (t0 : List Int) (t1 : Int) (t7 : Int) (t8 : Int) : iterG slices_Index_int_t0 slices_Index_int_B0 K (n + 1) ((t0, (t1, (t7, (t8, ())))), ()) =
 brk (decide (t8 < t7))
 (ck (decide (0 ≤ t8) && decide (t8 < t0.length)) (brk (decide (t1 = rdD tI t0 t8))
 (K .ret (slices_Index_int_x0_0 t8))
 (iterG slices_Index_int_t0 slices_Index_int_B0 K n ((t0, (t1, (t7, (IntKind.i64.wrap (t8 + (1 : Int)), ())))), ()))))
 (K (.exit 0) (slices_Index_int_x0_1)) := by kernel_rfl
theorem slices_Index_int_e0_0 (x0 : List Int) (x1 : Int) (d0 : Int) : slices_Index_int_K0 x0 x1 .ret (slices_Index_int_x0_0 d0) =
 some ((d0, ()), ((), ((), ()))) := by kernel_rfl
theorem slices_Index_int_e0_1 (x0 : List Int) (x1 : Int) : slices_Index_int_K0 x0 x1 (.exit 0) (slices_Index_int_x0_1) =
 some (((-1 : Int), ()), ((), ((), ()))) := by kernel_rfl
/-! slices.Contains[[]int,int] -/
noncomputable def slices_Contains_int_b : Code := bd Try.f117
def slices_Contains_int_T : List (Nat × Tm) := []
noncomputable def slices_Contains_int_E : Env := ⟨tt0, [(129, slices_Index_int_C)]⟩
noncomputable def slices_Contains_int_F : PsD [.ro tIs, .ro tI] → Option (RsD [.own tB] × PsO [.ro tIs, .ro tI]) := fun x => evFn slices_Contains_int_E slices_Contains_int_T Try.f117 slices_Contains_int_b [.ro tIs, .ro tI] [.own tB] x
@[reducible] noncomputable def slices_Contains_int_C : Ct := ⟨[.ro tIs, .ro tI], [.own tB], slices_Contains_int_F⟩
theorem slices_Contains_int_h (x : PsD [.ro tIs, .ro tI]) (y : RsD [.own tB] × PsO [.ro tIs, .ro tI]) (h : slices_Contains_int_F x = some y) : evFn slices_Contains_int_E slices_Contains_int_T Try.f117 slices_Contains_int_b [.ro tIs, .ro tI] [.own tB] x = some y := h
theorem slices_Contains_int_c : ∀ f c, get slices_Contains_int_E.ct f = some c → Sat Try.prog f c := ct_cons slices_Index_int_S (ct_nil)
theorem slices_Contains_int_S : Sat Try.prog 117 slices_Contains_int_C := fn_ok2 (envOk _) slices_Contains_int_c mixedOk Try.func117 (by kernel_rfl : Try.f117.body = some slices_Contains_int_b) (by kernel_rfl) (by kernel_rfl) slices_Contains_int_h
noncomputable def slices_Contains_int_Ke  (x0 : List Int) (x1 : Int) : Ex → AS → Option (RsD [.own tB] × PsO [.ro tIs, .ro tI]) := endK slices_Contains_int_E Try.f117 [.ro tIs, .ro tI] [.own tB] (initL [.ro tIs, .ro tI] (x0, (x1, ())) 0).1
theorem slices_Contains_int_main (x0 : List Int) (x1 : Int) : slices_Contains_int_F (x0, (x1, ())) =
 (slices_Index_int_F (x0, (x1, ()))).bind fun y7 =>
 some ((decide ((0 : Int) ≤ y7.1.1), ()), ((), ((), ()))) := by kernel_rfl
/-! impl.GensOk -/
noncomputable def impl_GensOk_b : Code := bd Try.f70
@[reducible] def impl_GensOk_t0 : Tm := ⟨[], [], [(0, .sc true tIs), (5, .sc true tIs), (6, .sc true tI), (7, .sc true tI)], [], [0, 2], []⟩
def impl_GensOk_T : List (Nat × Tm) := [(0, impl_GensOk_t0)]
noncomputable def impl_GensOk_E : Env := ⟨tt0, [(71, impl_from_C), (117, slices_Contains_int_C)]⟩
noncomputable def impl_GensOk_F : PsD [.ro tIs] → Option (RsD [.own tB] × PsO [.ro tIs]) := fun x => evFn impl_GensOk_E impl_GensOk_T Try.f70 impl_GensOk_b [.ro tIs] [.own tB] x
@[reducible] noncomputable def impl_GensOk_C : Ct := ⟨[.ro tIs], [.own tB], impl_GensOk_F⟩
theorem impl_GensOk_h (x : PsD [.ro tIs]) (y : RsD [.own tB] × PsO [.ro tIs]) (h : impl_GensOk_F x = some y) : evFn impl_GensOk_E impl_GensOk_T Try.f70 impl_GensOk_b [.ro tIs] [.own tB] x = some y := h
theorem impl_GensOk_c : ∀ f c, get impl_GensOk_E.ct f = some c → Sat Try.prog f c := ct_cons impl_from_S (ct_cons slices_Contains_int_S (ct_nil))
theorem impl_GensOk_S : Sat Try.prog 70 impl_GensOk_C := fn_ok2 (envOk _) impl_GensOk_c mixedOk Try.func70 (by kernel_rfl : Try.f70.body = some impl_GensOk_b) (by kernel_rfl) (by kernel_rfl) impl_GensOk_h
noncomputable def impl_GensOk_Ke  (x0 : List Int) : Ex → AS → Option (RsD [.own tB] × PsO [.ro tIs]) := endK impl_GensOk_E Try.f70 [.ro tIs] [.own tB] (initL [.ro tIs] (x0, ()) 0).1
noncomputable def impl_GensOk_B0 {R : Type} : AS → (Ex → AS → Option R) → Option R := fun A K => ev impl_GensOk_E impl_GensOk_T 0 (cA (cA (cB (cA (cB impl_GensOk_b))))) A K
noncomputable def impl_GensOk_K0  (x0 : List Int) : Ex → AS → Option (RsD [.own tB] × PsO [.ro tIs]) := kBlk 0 (kSeq (fun A K => ev impl_GensOk_E impl_GensOk_T 1000 (cB (cB impl_GensOk_b)) A K) (impl_GensOk_Ke x0))
noncomputable def impl_GensOk_x0_0 (d0 : List Int) (d1 : Bool) : AS := ⟨[(0, .v (.one (.d true tIs d0))), (2, .v (.one (.d true tB d1)))], []⟩
noncomputable def impl_GensOk_x0_1 (d0 : List Int) : AS := ⟨[(0, .v (.one (.d true tIs d0)))], []⟩
theorem impl_GensOk_l0 {R : Type} {K : Ex → AS → Option R} {s : impl_GensOk_t0.D} (n : Nat) {v : Option R} (h : iterG impl_GensOk_t0 impl_GensOk_B0 K n s = v) (hv : ∃ r, v = some r) : loopG impl_GensOk_t0 impl_GensOk_B0 K s = v := loop_eq (ev_mono _ _) n h hv
theorem impl_GensOk_main (x0 : List Int) : impl_GensOk_F (x0, ()) =
 loopG impl_GensOk_t0 impl_GensOk_B0 (impl_GensOk_K0 x0) ((x0, (x0, ((x0.length : Int), ((0 : Int), ())))), ()) := by kernel_rfl
theorem impl_GensOk_r0 {R : Type} (K : Ex → AS → Option R) (n : Nat) (t0 : List Int) (t5 : List Int) (t6 : Int) (t7 : Int) : iterG impl_GensOk_t0 impl_GensOk_B0 K (n + 1) ((t0, (t5, (t6, (t7, ())))), ()) =
 brk (decide (t7 < t6))
 (ck (decide (0 ≤ t7) && decide (t7 < t5.length)) ((impl_from_F (rdD tI t5 t7, ((1 : Int), ((100000 : Int), ())))).bind fun y13 =>
 brk (!y13.1.1)
 (K .ret (impl_GensOk_x0_0 t0 false))
 (ck (decide (0 ≤ (0 : Int)) && decide ((0 : Int) ≤ t7) && decide (t7 ≤ t0.length)) ((slices_Contains_int_F ((t0.take t7.toNat).drop (0 : Int).toNat, (rdD tI t5 t7, ()))).bind fun y20 =>
 brk y20.1.1
 (K .ret (impl_GensOk_x0_0 t0 false))
 (iterG impl_GensOk_t0 impl_GensOk_B0 K n ((t0, (t5, (t6, (IntKind.i64.wrap (t7 + (1 : Int)), ())))), ()))))))
 (K (.exit 0) (impl_GensOk_x0_1 t0)) := by kernel_rfl
theorem impl_GensOk_e0_0 (x0 : List Int) (d0 : List Int) (d1 : Bool) : impl_GensOk_K0 x0 .ret (impl_GensOk_x0_0 d0 d1) =
 some ((d1, ()), ((), ())) := by kernel_rfl
theorem impl_GensOk_e0_1 (x0 : List Int) (d0 : List Int) : impl_GensOk_K0 x0 (.exit 0) (impl_GensOk_x0_1 d0) =
 some ((decide ((d0.length : Int) ≤ (12 : Int)), ()), ((), ())) := by kernel_rfl
/-! impl.isCell -/
noncomputable def impl_isCell_b : Code := bd Try.f72
def impl_isCell_T : List (Nat × Tm) := []
noncomputable def impl_isCell_E : Env := ⟨tt0, [(71, impl_from_C)]⟩
noncomputable def impl_isCell_F : PsD [.ro tI] → Option (RsD [.own tB] × PsO [.ro tI]) := fun x => evFn impl_isCell_E impl_isCell_T Try.f72 impl_isCell_b [.ro tI] [.own tB] x
@[reducible] noncomputable def impl_isCell_C : Ct := ⟨[.ro tI], [.own tB], impl_isCell_F⟩
theorem impl_isCell_h (x : PsD [.ro tI]) (y : RsD [.own tB] × PsO [.ro tI]) (h : impl_isCell_F x = some y) : evFn impl_isCell_E impl_isCell_T Try.f72 impl_isCell_b [.ro tI] [.own tB] x = some y := h
theorem impl_isCell_c : ∀ f c, get impl_isCell_E.ct f = some c → Sat Try.prog f c := ct_cons impl_from_S (ct_nil)
theorem impl_isCell_S : Sat Try.prog 72 impl_isCell_C := fn_ok2 (envOk _) impl_isCell_c mixedOk Try.func72 (by kernel_rfl : Try.f72.body = some impl_isCell_b) (by kernel_rfl) (by kernel_rfl) impl_isCell_h
noncomputable def impl_isCell_Ke  (x0 : Int) : Ex → AS → Option (RsD [.own tB] × PsO [.ro tI]) := endK impl_isCell_E Try.f72 [.ro tI] [.own tB] (initL [.ro tI] (x0, ()) 0).1
theorem impl_isCell_main (x0 : Int) : impl_isCell_F (x0, ()) =
 (impl_from_F (x0, ((0 : Int), ((7 : Int), ())))).bind fun y4 =>
 some ((y4.1.1, ()), ((), ())) := by kernel_rfl
/-! impl.isWrite -/
noncomputable def impl_isWrite_b : Code := bd Try.f73
def impl_isWrite_T : List (Nat × Tm) := []
noncomputable def impl_isWrite_E : Env := ⟨tt0, [(71, impl_from_C)]⟩
noncomputable def impl_isWrite_F : PsD [.ro tI] → Option (RsD [.own tB] × PsO [.ro tI]) := fun x => evFn impl_isWrite_E impl_isWrite_T Try.f73 impl_isWrite_b [.ro tI] [.own tB] x
@[reducible] noncomputable def impl_isWrite_C : Ct := ⟨[.ro tI], [.own tB], impl_isWrite_F⟩
theorem impl_isWrite_h (x : PsD [.ro tI]) (y : RsD [.own tB] × PsO [.ro tI]) (h : impl_isWrite_F x = some y) : evFn impl_isWrite_E impl_isWrite_T Try.f73 impl_isWrite_b [.ro tI] [.own tB] x = some y := h
theorem impl_isWrite_c : ∀ f c, get impl_isWrite_E.ct f = some c → Sat Try.prog f c := ct_cons impl_from_S (ct_nil)
theorem impl_isWrite_S : Sat Try.prog 73 impl_isWrite_C := fn_ok2 (envOk _) impl_isWrite_c mixedOk Try.func73 (by kernel_rfl : Try.f73.body = some impl_isWrite_b) (by kernel_rfl) (by kernel_rfl) impl_isWrite_h
noncomputable def impl_isWrite_Ke  (x0 : Int) : Ex → AS → Option (RsD [.own tB] × PsO [.ro tI]) := endK impl_isWrite_E Try.f73 [.ro tI] [.own tB] (initL [.ro tI] (x0, ()) 0).1
theorem impl_isWrite_main (x0 : Int) : impl_isWrite_F (x0, ()) =
 (impl_from_F (x0, ((1 : Int), ((200 : Int), ())))).bind fun y4 =>
 some ((y4.1.1, ()), ((), ())) := by kernel_rfl
/-! impl.isNode -/
noncomputable def impl_isNode_b : Code := bd Try.f74
def impl_isNode_T : List (Nat × Tm) := []
noncomputable def impl_isNode_E : Env := ⟨tt0, [(71, impl_from_C)]⟩
noncomputable def impl_isNode_F : PsD [.ro tI] → Option (RsD [.own tB] × PsO [.ro tI]) := fun x => evFn impl_isNode_E impl_isNode_T Try.f74 impl_isNode_b [.ro tI] [.own tB] x
@[reducible] noncomputable def impl_isNode_C : Ct := ⟨[.ro tI], [.own tB], impl_isNode_F⟩
theorem impl_isNode_h (x : PsD [.ro tI]) (y : RsD [.own tB] × PsO [.ro tI]) (h : impl_isNode_F x = some y) : evFn impl_isNode_E impl_isNode_T Try.f74 impl_isNode_b [.ro tI] [.own tB] x = some y := h
theorem impl_isNode_c : ∀ f c, get impl_isNode_E.ct f = some c → Sat Try.prog f c := ct_cons impl_from_S (ct_nil)
theorem impl_isNode_S : Sat Try.prog 74 impl_isNode_C := fn_ok2 (envOk _) impl_isNode_c mixedOk Try.func74 (by kernel_rfl : Try.f74.body = some impl_isNode_b) (by kernel_rfl) (by kernel_rfl) impl_isNode_h
noncomputable def impl_isNode_Ke  (x0 : Int) : Ex → AS → Option (RsD [.own tB] × PsO [.ro tI]) := endK impl_isNode_E Try.f74 [.ro tI] [.own tB] (initL [.ro tI] (x0, ()) 0).1
theorem impl_isNode_main (x0 : Int) : impl_isNode_F (x0, ()) =
 (impl_from_F (x0, ((0 : Int), ((2 : Int), ())))).bind fun y4 =>
 some ((y4.1.1, ()), ((), ())) := by kernel_rfl
/-! impl.MsgOk -/
noncomputable def impl_MsgOk_b : Code := bd Try.f22
def impl_MsgOk_T : List (Nat × Tm) := []
noncomputable def impl_MsgOk_E : Env := ⟨tt0, [(70, impl_GensOk_C), (71, impl_from_C), (72, impl_isCell_C), (73, impl_isWrite_C), (74, impl_isNode_C)]⟩
noncomputable def impl_MsgOk_F : PsD [.ro tMsg] → Option (RsD [.own tB] × PsO [.ro tMsg]) := fun x => evFn impl_MsgOk_E impl_MsgOk_T Try.f22 impl_MsgOk_b [.ro tMsg] [.own tB] x
@[reducible] noncomputable def impl_MsgOk_C : Ct := ⟨[.ro tMsg], [.own tB], impl_MsgOk_F⟩
theorem impl_MsgOk_h (x : PsD [.ro tMsg]) (y : RsD [.own tB] × PsO [.ro tMsg]) (h : impl_MsgOk_F x = some y) : evFn impl_MsgOk_E impl_MsgOk_T Try.f22 impl_MsgOk_b [.ro tMsg] [.own tB] x = some y := h
theorem impl_MsgOk_c : ∀ f c, get impl_MsgOk_E.ct f = some c → Sat Try.prog f c := ct_cons impl_GensOk_S (ct_cons impl_from_S (ct_cons impl_isCell_S (ct_cons impl_isWrite_S (ct_cons impl_isNode_S (ct_nil)))))
theorem impl_MsgOk_S : Sat Try.prog 22 impl_MsgOk_C := fn_ok2 (envOk _) impl_MsgOk_c mixedOk Try.func22 (by kernel_rfl : Try.f22.body = some impl_MsgOk_b) (by kernel_rfl) (by kernel_rfl) impl_MsgOk_h
noncomputable def impl_MsgOk_Ke  (x0 : Int × Int × Int × Int × List Int × Unit) : Ex → AS → Option (RsD [.own tB] × PsO [.ro tMsg]) := endK impl_MsgOk_E Try.f22 [.ro tMsg] [.own tB] (initL [.ro tMsg] (x0, ()) 0).1
theorem impl_MsgOk_main (x0 : Int × Int × Int × Int × List Int × Unit) : impl_MsgOk_F (x0, ()) =
 brk (decide (x0.1 = (5 : Int)))
 ((impl_GensOk_F (x0.2.2.2.2.1, ())).bind fun y9 =>
 brk y9.1.1
 ((impl_from_F (x0.2.2.1, ((0 : Int), ((200 : Int), ())))).bind fun y13 =>
 brk y13.1.1
 (brk (decide (x0.2.1 = (0 : Int)))
 (some ((decide (x0.2.2.2.1 = (0 : Int)), ()), ((), ())))
 (some ((false, ()), ((), ()))))
 (some ((false, ()), ((), ()))))
 (some ((false, ()), ((), ()))))
 (brk (decide (x0.1 = (3 : Int)))
 ((impl_isCell_F (x0.2.1, ())).bind fun y29 =>
 brk y29.1.1
 ((impl_isWrite_F (x0.2.2.1, ())).bind fun y33 =>
 brk y33.1.1
 ((impl_isNode_F (x0.2.2.2.1, ())).bind fun y38 =>
 brk y38.1.1
 (some ((decide ((x0.2.2.2.2.1.length : Int) = (0 : Int)), ()), ((), ())))
 (some ((false, ()), ((), ()))))
 (some ((false, ()), ((), ()))))
 (some ((false, ()), ((), ()))))
 (brk (decide (x0.1 = (1 : Int)))
 ((impl_isCell_F (x0.2.1, ())).bind fun y50 =>
 brk y50.1.1
 ((impl_isWrite_F (x0.2.2.1, ())).bind fun y54 =>
 brk y54.1.1
 (brk (decide (x0.2.2.2.1 = (0 : Int)))
 (some ((decide ((x0.2.2.2.2.1.length : Int) = (0 : Int)), ()), ((), ())))
 (some ((false, ()), ((), ()))))
 (some ((false, ()), ((), ()))))
 (some ((false, ()), ((), ()))))
 (brk (decide (x0.1 = (2 : Int)))
 (brk (decide (x0.1 = (2 : Int)))
 ((impl_isCell_F (x0.2.1, ())).bind fun y72 =>
 brk y72.1.1
 ((impl_from_F (x0.2.2.1, ((0 : Int), ((200 : Int), ())))).bind fun y76 =>
 brk y76.1.1
 (brk (decide (x0.2.2.2.1 = (0 : Int)))
 (some ((decide ((x0.2.2.2.2.1.length : Int) = (0 : Int)), ()), ((), ())))
 (some ((false, ()), ((), ()))))
 (some ((false, ()), ((), ()))))
 (some ((false, ()), ((), ()))))
 (some ((false, ()), ((), ()))))
 (brk (decide (x0.1 = (4 : Int)))
 ((impl_isCell_F (x0.2.1, ())).bind fun y72 =>
 brk y72.1.1
 ((impl_from_F (x0.2.2.1, ((0 : Int), ((200 : Int), ())))).bind fun y76 =>
 brk y76.1.1
 (brk (decide (x0.2.2.2.1 = (0 : Int)))
 (some ((decide ((x0.2.2.2.2.1.length : Int) = (0 : Int)), ()), ((), ())))
 (some ((false, ()), ((), ()))))
 (some ((false, ()), ((), ()))))
 (some ((false, ()), ((), ()))))
 (some ((false, ()), ((), ()))))))) := by kernel_rfl
/-! laws.eqIntS -/
noncomputable def laws_eqIntS_b : Code := bd Try.f16
@[reducible] def laws_eqIntS_t0 : Tm := ⟨[], [], [(0, .sc true tIs), (1, .sc true tIs), (5, .sc true tI)], [], [4], []⟩
def laws_eqIntS_T : List (Nat × Tm) := [(0, laws_eqIntS_t0)]
noncomputable def laws_eqIntS_E : Env := ⟨tt0, []⟩
noncomputable def laws_eqIntS_F : PsD [.ro tIs, .ro tIs] → Option (RsD [.own tB] × PsO [.ro tIs, .ro tIs]) := fun x => evFn laws_eqIntS_E laws_eqIntS_T Try.f16 laws_eqIntS_b [.ro tIs, .ro tIs] [.own tB] x
@[reducible] noncomputable def laws_eqIntS_C : Ct := ⟨[.ro tIs, .ro tIs], [.own tB], laws_eqIntS_F⟩
theorem laws_eqIntS_h (x : PsD [.ro tIs, .ro tIs]) (y : RsD [.own tB] × PsO [.ro tIs, .ro tIs]) (h : laws_eqIntS_F x = some y) : evFn laws_eqIntS_E laws_eqIntS_T Try.f16 laws_eqIntS_b [.ro tIs, .ro tIs] [.own tB] x = some y := h
theorem laws_eqIntS_c : ∀ f c, get laws_eqIntS_E.ct f = some c → Sat Try.prog f c := ct_nil
theorem laws_eqIntS_S : Sat Try.prog 16 laws_eqIntS_C := fn_ok2 (envOk _) laws_eqIntS_c mixedOk Try.func16 (by kernel_rfl : Try.f16.body = some laws_eqIntS_b) (by kernel_rfl) (by kernel_rfl) laws_eqIntS_h
noncomputable def laws_eqIntS_Ke  (x0 : List Int) (x1 : List Int) : Ex → AS → Option (RsD [.own tB] × PsO [.ro tIs, .ro tIs]) := endK laws_eqIntS_E Try.f16 [.ro tIs, .ro tIs] [.own tB] (initL [.ro tIs, .ro tIs] (x0, (x1, ())) 0).1
noncomputable def laws_eqIntS_B0 {R : Type} : AS → (Ex → AS → Option R) → Option R := fun A K => ev laws_eqIntS_E laws_eqIntS_T 0 (cA (cA (cB (cA (cB (cB laws_eqIntS_b)))))) A K
noncomputable def laws_eqIntS_K0  (x0 : List Int) (x1 : List Int) : Ex → AS → Option (RsD [.own tB] × PsO [.ro tIs, .ro tIs]) := kBlk 0 (kSeq (fun A K => ev laws_eqIntS_E laws_eqIntS_T 1000 (cB (cB (cB laws_eqIntS_b))) A K) (laws_eqIntS_Ke x0 x1))
noncomputable def laws_eqIntS_x0_0 (d0 : Bool) : AS := ⟨[(4, .v (.one (.d true tB d0)))], []⟩
noncomputable def laws_eqIntS_x0_1 : AS := ⟨[], []⟩
theorem laws_eqIntS_l0 {R : Type} {K : Ex → AS → Option R} {s : laws_eqIntS_t0.D} (n : Nat) {v : Option R} (h : iterG laws_eqIntS_t0 laws_eqIntS_B0 K n s = v) (hv : ∃ r, v = some r) : loopG laws_eqIntS_t0 laws_eqIntS_B0 K s = v := loop_eq (ev_mono _ _) n h hv
theorem laws_eqIntS_main (x0 : List Int) (x1 : List Int) : laws_eqIntS_F (x0, (x1, ())) =
 brk (!decide ((x0.length : Int) = (x1.length : Int)))
 (some ((false, ()), ((), ((), ()))))
 (loopG laws_eqIntS_t0 laws_eqIntS_B0 (laws_eqIntS_K0 x0 x1) ((x0, (x1, ((0 : Int), ()))), ())) := by kernel_rfl
theorem laws_eqIntS_r0 {R : Type} (K : Ex → AS → Option R) (n : Nat) (t0 : List Int) (t1 : List Int) (t5 : Int) : iterG laws_eqIntS_t0 laws_eqIntS_B0 K (n + 1) ((t0, (t1, (t5, ()))), ()) =
 brk (decide (t5 < (t0.length : Int)))
 (ck (decide (0 ≤ t5) && decide (t5 < t0.length)) (ck (decide (0 ≤ t5) && decide (t5 < t1.length)) (brk (!decide (rdD tI t0 t5 = rdD tI t1 t5))
 (K .ret (laws_eqIntS_x0_0 false))
 (iterG laws_eqIntS_t0 laws_eqIntS_B0 K n ((t0, (t1, (IntKind.i64.wrap (t5 + (1 : Int)), ()))), ())))))
 (K (.exit 0) (laws_eqIntS_x0_1)) := by kernel_rfl
theorem laws_eqIntS_e0_0 (x0 : List Int) (x1 : List Int) (d0 : Bool) : laws_eqIntS_K0 x0 x1 .ret (laws_eqIntS_x0_0 d0) =
 some ((d0, ()), ((), ((), ()))) := by kernel_rfl
theorem laws_eqIntS_e0_1 (x0 : List Int) (x1 : List Int) : laws_eqIntS_K0 x0 x1 (.exit 0) (laws_eqIntS_x0_1) =
 some ((true, ()), ((), ((), ()))) := by kernel_rfl
/-! laws.eqMsg -/
noncomputable def laws_eqMsg_b : Code := bd Try.f23
def laws_eqMsg_T : List (Nat × Tm) := []
noncomputable def laws_eqMsg_E : Env := ⟨tt0, [(16, laws_eqIntS_C)]⟩
noncomputable def laws_eqMsg_F : PsD [.ro tMsg, .ro tMsg] → Option (RsD [.own tB] × PsO [.ro tMsg, .ro tMsg]) := fun x => evFn laws_eqMsg_E laws_eqMsg_T Try.f23 laws_eqMsg_b [.ro tMsg, .ro tMsg] [.own tB] x
@[reducible] noncomputable def laws_eqMsg_C : Ct := ⟨[.ro tMsg, .ro tMsg], [.own tB], laws_eqMsg_F⟩
theorem laws_eqMsg_h (x : PsD [.ro tMsg, .ro tMsg]) (y : RsD [.own tB] × PsO [.ro tMsg, .ro tMsg]) (h : laws_eqMsg_F x = some y) : evFn laws_eqMsg_E laws_eqMsg_T Try.f23 laws_eqMsg_b [.ro tMsg, .ro tMsg] [.own tB] x = some y := h
theorem laws_eqMsg_c : ∀ f c, get laws_eqMsg_E.ct f = some c → Sat Try.prog f c := ct_cons laws_eqIntS_S (ct_nil)
theorem laws_eqMsg_S : Sat Try.prog 23 laws_eqMsg_C := fn_ok2 (envOk _) laws_eqMsg_c mixedOk Try.func23 (by kernel_rfl : Try.f23.body = some laws_eqMsg_b) (by kernel_rfl) (by kernel_rfl) laws_eqMsg_h
noncomputable def laws_eqMsg_Ke  (x0 : Int × Int × Int × Int × List Int × Unit) (x1 : Int × Int × Int × Int × List Int × Unit) : Ex → AS → Option (RsD [.own tB] × PsO [.ro tMsg, .ro tMsg]) := endK laws_eqMsg_E Try.f23 [.ro tMsg, .ro tMsg] [.own tB] (initL [.ro tMsg, .ro tMsg] (x0, (x1, ())) 0).1
theorem laws_eqMsg_main (x0 : Int × Int × Int × Int × List Int × Unit) (x1 : Int × Int × Int × Int × List Int × Unit) : laws_eqMsg_F (x0, (x1, ())) =
 brk (!decide (x0.1 = x1.1))
 (some ((false, ()), ((), ((), ()))))
 (brk (!decide (x0.2.1 = x1.2.1))
 (some ((false, ()), ((), ((), ()))))
 (brk (!decide (x0.2.2.1 = x1.2.2.1))
 (some ((false, ()), ((), ((), ()))))
 (brk (!decide (x0.2.2.2.1 = x1.2.2.2.1))
 (some ((false, ()), ((), ((), ()))))
 ((laws_eqIntS_F (x0.2.2.2.2.1, (x1.2.2.2.2.1, ()))).bind fun y29 =>
 brk (!y29.1.1)
 (some ((false, ()), ((), ((), ()))))
 (some ((true, ()), ((), ((), ())))))))) := by kernel_rfl
/-! laws.FnExactMsgOk -/
noncomputable def laws_FnExactMsgOk_b : Code := bd Try.f5
def laws_FnExactMsgOk_T : List (Nat × Tm) := []
noncomputable def laws_FnExactMsgOk_E : Env := ⟨tt0, [(19, laws_szMsg_C), (20, spec_MsgOk_C), (21, laws_toMsg_C), (22, impl_MsgOk_C), (23, laws_eqMsg_C)]⟩
noncomputable def laws_FnExactMsgOk_F : PsD [.ro tMsg] → Option (RsD [.own tB] × PsO [.ro tMsg]) := fun x => evFn laws_FnExactMsgOk_E laws_FnExactMsgOk_T Try.f5 laws_FnExactMsgOk_b [.ro tMsg] [.own tB] x
@[reducible] noncomputable def laws_FnExactMsgOk_C : Ct := ⟨[.ro tMsg], [.own tB], laws_FnExactMsgOk_F⟩
theorem laws_FnExactMsgOk_h (x : PsD [.ro tMsg]) (y : RsD [.own tB] × PsO [.ro tMsg]) (h : laws_FnExactMsgOk_F x = some y) : evFn laws_FnExactMsgOk_E laws_FnExactMsgOk_T Try.f5 laws_FnExactMsgOk_b [.ro tMsg] [.own tB] x = some y := h
theorem laws_FnExactMsgOk_c : ∀ f c, get laws_FnExactMsgOk_E.ct f = some c → Sat Try.prog f c := ct_cons laws_szMsg_S (ct_cons spec_MsgOk_S (ct_cons laws_toMsg_S (ct_cons impl_MsgOk_S (ct_cons laws_eqMsg_S (ct_nil)))))
theorem laws_FnExactMsgOk_S : Sat Try.prog 5 laws_FnExactMsgOk_C := fn_ok2 (envOk _) laws_FnExactMsgOk_c mixedOk Try.func5 (by kernel_rfl : Try.f5.body = some laws_FnExactMsgOk_b) (by kernel_rfl) (by kernel_rfl) laws_FnExactMsgOk_h
noncomputable def laws_FnExactMsgOk_Ke  (x0 : Int × Int × Int × Int × List Int × Unit) : Ex → AS → Option (RsD [.own tB] × PsO [.ro tMsg]) := endK laws_FnExactMsgOk_E Try.f5 [.ro tMsg] [.own tB] (initL [.ro tMsg] (x0, ()) 0).1
theorem laws_FnExactMsgOk_main (x0 : Int × Int × Int × Int × List Int × Unit) : laws_FnExactMsgOk_F (x0, ()) =
 (laws_szMsg_F ((x0.1, (x0.2.1, (x0.2.2.1, (x0.2.2.2.1, (x0.2.2.2.2.1, ()))))), ((1048576 : Int), ()))).bind fun y9 =>
 brk (decide (y9.1.1 < (0 : Int)))
 (some ((true, ()), ((), ())))
 ((laws_toMsg_F ((x0.1, (x0.2.1, (x0.2.2.1, (x0.2.2.2.1, (x0.2.2.2.2.1, ()))))), ())).bind fun y13 =>
 (spec_MsgOk_F ((y13.1.1.1, (y13.1.1.2.1, (y13.1.1.2.2.1, (y13.1.1.2.2.2.1, (y13.1.1.2.2.2.2.1, ()))))), ())).bind fun y14 =>
 (laws_toMsg_F ((x0.1, (x0.2.1, (x0.2.2.1, (x0.2.2.2.1, (x0.2.2.2.2.1, ()))))), ())).bind fun y16 =>
 (impl_MsgOk_F ((y16.1.1.1, (y16.1.1.2.1, (y16.1.1.2.2.1, (y16.1.1.2.2.2.1, (y16.1.1.2.2.2.2.1, ()))))), ())).bind fun y18 =>
 brk (!(y18.1.1 == y14.1.1))
 (some ((false, ()), ((), ())))
 ((laws_toMsg_F ((x0.1, (x0.2.1, (x0.2.2.1, (x0.2.2.2.1, (x0.2.2.2.2.1, ()))))), ())).bind fun y24 =>
 (laws_eqMsg_F ((y16.1.1.1, (y16.1.1.2.1, (y16.1.1.2.2.1, (y16.1.1.2.2.2.1, (y16.1.1.2.2.2.2.1, ()))))), ((y24.1.1.1, (y24.1.1.2.1, (y24.1.1.2.2.1, (y24.1.1.2.2.2.1, (y24.1.1.2.2.2.2.1, ()))))), ()))).bind fun y25 =>
 brk (!y25.1.1)
 (some ((false, ()), ((), ())))
 (some ((true, ()), ((), ()))))) := by kernel_rfl
end Go.Refl
