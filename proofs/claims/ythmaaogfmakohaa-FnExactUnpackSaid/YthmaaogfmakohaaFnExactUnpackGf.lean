/- Functions of the program, told by the evaluator: printed by a program of this claim. No condition. -/
import Derived.Test.YthmaaogfmakohaaFnExactUnpackGt
namespace Go.Refl
open Go.RowKit Go.Proofs
set_option linter.unusedVariables false
set_option maxRecDepth 100000
/-! spec.l1Bit -/
noncomputable def spec_l1Bit_b : Code := bd Try.f60
def spec_l1Bit_T : List (Nat × Tm) := []
noncomputable def spec_l1Bit_E : Env := ⟨tt0, []⟩
noncomputable def spec_l1Bit_F : PsD [.ro tB] → Option (RsD [.own tI] × PsO [.ro tB]) := fun x => evFn spec_l1Bit_E spec_l1Bit_T Try.f60 spec_l1Bit_b [.ro tB] [.own tI] x
@[reducible] noncomputable def spec_l1Bit_C : Ct := ⟨[.ro tB], [.own tI], spec_l1Bit_F⟩
theorem spec_l1Bit_h (x : PsD [.ro tB]) (y : RsD [.own tI] × PsO [.ro tB]) (h : spec_l1Bit_F x = some y) : evFn spec_l1Bit_E spec_l1Bit_T Try.f60 spec_l1Bit_b [.ro tB] [.own tI] x = some y := h
theorem spec_l1Bit_c : ∀ f c, get spec_l1Bit_E.ct f = some c → Sat Try.prog f c := ct_nil
theorem spec_l1Bit_S : Sat Try.prog 60 spec_l1Bit_C := fn_ok2 (envOk _) spec_l1Bit_c mixedOk Try.func60 (by kernel_rfl : Try.f60.body = some spec_l1Bit_b) (by kernel_rfl) (by kernel_rfl) spec_l1Bit_h
noncomputable def spec_l1Bit_Ke  (x0 : Bool) : Ex → AS → Option (RsD [.own tI] × PsO [.ro tB]) := endK spec_l1Bit_E Try.f60 [.ro tB] [.own tI] (initL [.ro tB] (x0, ()) 0).1
theorem spec_l1Bit_main (x0 : Bool) : spec_l1Bit_F (x0, ()) =
 brk x0
 (some (((1 : Int), ()), ((), ())))
 (some (((0 : Int), ()), ((), ()))) := by kernel_rfl
/-! spec.l1In -/
noncomputable def spec_l1In_b : Code := bd Try.f68
def spec_l1In_T : List (Nat × Tm) := []
noncomputable def spec_l1In_E : Env := ⟨tt0, []⟩
noncomputable def spec_l1In_F : PsD [.ro tI, .ro tI, .ro tI] → Option (RsD [.own tB] × PsO [.ro tI, .ro tI, .ro tI]) := fun x => evFn spec_l1In_E spec_l1In_T Try.f68 spec_l1In_b [.ro tI, .ro tI, .ro tI] [.own tB] x
@[reducible] noncomputable def spec_l1In_C : Ct := ⟨[.ro tI, .ro tI, .ro tI], [.own tB], spec_l1In_F⟩
theorem spec_l1In_h (x : PsD [.ro tI, .ro tI, .ro tI]) (y : RsD [.own tB] × PsO [.ro tI, .ro tI, .ro tI]) (h : spec_l1In_F x = some y) : evFn spec_l1In_E spec_l1In_T Try.f68 spec_l1In_b [.ro tI, .ro tI, .ro tI] [.own tB] x = some y := h
theorem spec_l1In_c : ∀ f c, get spec_l1In_E.ct f = some c → Sat Try.prog f c := ct_nil
theorem spec_l1In_S : Sat Try.prog 68 spec_l1In_C := fn_ok2 (envOk _) spec_l1In_c mixedOk Try.func68 (by kernel_rfl : Try.f68.body = some spec_l1In_b) (by kernel_rfl) (by kernel_rfl) spec_l1In_h
noncomputable def spec_l1In_Ke  (x0 : Int) (x1 : Int) (x2 : Int) : Ex → AS → Option (RsD [.own tB] × PsO [.ro tI, .ro tI, .ro tI]) := endK spec_l1In_E Try.f68 [.ro tI, .ro tI, .ro tI] [.own tB] (initL [.ro tI, .ro tI, .ro tI] (x0, (x1, (x2, ()))) 0).1
theorem spec_l1In_main (x0 : Int) (x1 : Int) (x2 : Int) : spec_l1In_F (x0, (x1, (x2, ()))) =
 brk (decide (x1 ≤ x0))
 (some ((decide (x0 ≤ x2), ()), ((), ((), ((), ())))))
 (some ((false, ()), ((), ((), ((), ()))))) := by kernel_rfl
/-! spec.l2Has -/
noncomputable def spec_l2Has_b : Code := bd Try.f101
@[reducible] def spec_l2Has_t0 : Tm := ⟨[], [], [(0, .sc true tIs), (1, .sc true tI), (5, .sc true tI)], [], [4], []⟩
def spec_l2Has_T : List (Nat × Tm) := [(0, spec_l2Has_t0)]
noncomputable def spec_l2Has_E : Env := ⟨tt0, []⟩
noncomputable def spec_l2Has_F : PsD [.ro tIs, .ro tI] → Option (RsD [.own tB] × PsO [.ro tIs, .ro tI]) := fun x => evFn spec_l2Has_E spec_l2Has_T Try.f101 spec_l2Has_b [.ro tIs, .ro tI] [.own tB] x
@[reducible] noncomputable def spec_l2Has_C : Ct := ⟨[.ro tIs, .ro tI], [.own tB], spec_l2Has_F⟩
theorem spec_l2Has_h (x : PsD [.ro tIs, .ro tI]) (y : RsD [.own tB] × PsO [.ro tIs, .ro tI]) (h : spec_l2Has_F x = some y) : evFn spec_l2Has_E spec_l2Has_T Try.f101 spec_l2Has_b [.ro tIs, .ro tI] [.own tB] x = some y := h
theorem spec_l2Has_c : ∀ f c, get spec_l2Has_E.ct f = some c → Sat Try.prog f c := ct_nil
theorem spec_l2Has_S : Sat Try.prog 101 spec_l2Has_C := fn_ok2 (envOk _) spec_l2Has_c mixedOk Try.func101 (by kernel_rfl : Try.f101.body = some spec_l2Has_b) (by kernel_rfl) (by kernel_rfl) spec_l2Has_h
noncomputable def spec_l2Has_Ke  (x0 : List Int) (x1 : Int) : Ex → AS → Option (RsD [.own tB] × PsO [.ro tIs, .ro tI]) := endK spec_l2Has_E Try.f101 [.ro tIs, .ro tI] [.own tB] (initL [.ro tIs, .ro tI] (x0, (x1, ())) 0).1
noncomputable def spec_l2Has_B0 {R : Type} : AS → (Ex → AS → Option R) → Option R := fun A K => ev spec_l2Has_E spec_l2Has_T 0 (cA (cA (cB (cA (cB spec_l2Has_b))))) A K
noncomputable def spec_l2Has_K0  (x0 : List Int) (x1 : Int) : Ex → AS → Option (RsD [.own tB] × PsO [.ro tIs, .ro tI]) := kBlk 0 (kSeq (fun A K => ev spec_l2Has_E spec_l2Has_T 1000 (cB (cB spec_l2Has_b)) A K) (spec_l2Has_Ke x0 x1))
noncomputable def spec_l2Has_x0_0 (d0 : Bool) : AS := ⟨[(4, .v (.one (.d true tB d0)))], []⟩
noncomputable def spec_l2Has_x0_1 : AS := ⟨[], []⟩
theorem spec_l2Has_l0 {R : Type} {K : Ex → AS → Option R} {s : spec_l2Has_t0.D} (n : Nat) {v : Option R} (h : iterG spec_l2Has_t0 spec_l2Has_B0 K n s = v) (hv : ∃ r, v = some r) : loopG spec_l2Has_t0 spec_l2Has_B0 K s = v := loop_eq (ev_mono _ _) n h hv
theorem spec_l2Has_main (x0 : List Int) (x1 : Int) : spec_l2Has_F (x0, (x1, ())) =
 loopG spec_l2Has_t0 spec_l2Has_B0 (spec_l2Has_K0 x0 x1) ((x0, (x1, ((0 : Int), ()))), ()) := by kernel_rfl
theorem spec_l2Has_r0 {R : Type} (K : Ex → AS → Option R) (n : Nat) (t0 : List Int) (t1 : Int) (t5 : Int) : iterG spec_l2Has_t0 spec_l2Has_B0 K (n + 1) ((t0, (t1, (t5, ()))), ()) =
 brk (decide (t5 < (t0.length : Int)))
 (ck (decide (0 ≤ t5) && decide (t5 < t0.length)) (brk (decide (rdD tI t0 t5 = t1))
 (K .ret (spec_l2Has_x0_0 true))
 (iterG spec_l2Has_t0 spec_l2Has_B0 K n ((t0, (t1, (IntKind.i64.wrap (t5 + (1 : Int)), ()))), ()))))
 (K (.exit 0) (spec_l2Has_x0_1)) := by kernel_rfl
theorem spec_l2Has_e0_0 (x0 : List Int) (x1 : Int) (d0 : Bool) : spec_l2Has_K0 x0 x1 .ret (spec_l2Has_x0_0 d0) =
 some ((d0, ()), ((), ((), ()))) := by kernel_rfl
theorem spec_l2Has_e0_1 (x0 : List Int) (x1 : Int) : spec_l2Has_K0 x0 x1 (.exit 0) (spec_l2Has_x0_1) =
 some ((false, ()), ((), ((), ()))) := by kernel_rfl
/-! spec.GensOk -/
noncomputable def spec_GensOk_b : Code := bd Try.f67
@[reducible] def spec_GensOk_t0 : Tm := ⟨[], [], [(0, .sc true tIs), (3, .sc true tI)], [], [0, 2], []⟩
def spec_GensOk_T : List (Nat × Tm) := [(0, spec_GensOk_t0)]
noncomputable def spec_GensOk_E : Env := ⟨tt0, [(68, spec_l1In_C), (101, spec_l2Has_C)]⟩
noncomputable def spec_GensOk_F : PsD [.ro tIs] → Option (RsD [.own tB] × PsO [.ro tIs]) := fun x => evFn spec_GensOk_E spec_GensOk_T Try.f67 spec_GensOk_b [.ro tIs] [.own tB] x
@[reducible] noncomputable def spec_GensOk_C : Ct := ⟨[.ro tIs], [.own tB], spec_GensOk_F⟩
theorem spec_GensOk_h (x : PsD [.ro tIs]) (y : RsD [.own tB] × PsO [.ro tIs]) (h : spec_GensOk_F x = some y) : evFn spec_GensOk_E spec_GensOk_T Try.f67 spec_GensOk_b [.ro tIs] [.own tB] x = some y := h
theorem spec_GensOk_c : ∀ f c, get spec_GensOk_E.ct f = some c → Sat Try.prog f c := ct_cons spec_l1In_S (ct_cons spec_l2Has_S (ct_nil))
theorem spec_GensOk_S : Sat Try.prog 67 spec_GensOk_C := fn_ok2 (envOk _) spec_GensOk_c mixedOk Try.func67 (by kernel_rfl : Try.f67.body = some spec_GensOk_b) (by kernel_rfl) (by kernel_rfl) spec_GensOk_h
noncomputable def spec_GensOk_Ke  (x0 : List Int) : Ex → AS → Option (RsD [.own tB] × PsO [.ro tIs]) := endK spec_GensOk_E Try.f67 [.ro tIs] [.own tB] (initL [.ro tIs] (x0, ()) 0).1
noncomputable def spec_GensOk_B0 {R : Type} : AS → (Ex → AS → Option R) → Option R := fun A K => ev spec_GensOk_E spec_GensOk_T 0 (cA (cA (cB (cA (cB spec_GensOk_b))))) A K
noncomputable def spec_GensOk_K0  (x0 : List Int) : Ex → AS → Option (RsD [.own tB] × PsO [.ro tIs]) := kBlk 0 (kSeq (fun A K => ev spec_GensOk_E spec_GensOk_T 1000 (cB (cB spec_GensOk_b)) A K) (spec_GensOk_Ke x0))
noncomputable def spec_GensOk_x0_0 (d0 : List Int) (d1 : Bool) : AS := ⟨[(0, .v (.one (.d true tIs d0))), (2, .v (.one (.d true tB d1)))], []⟩
noncomputable def spec_GensOk_x0_1 (d0 : List Int) : AS := ⟨[(0, .v (.one (.d true tIs d0)))], []⟩
theorem spec_GensOk_l0 {R : Type} {K : Ex → AS → Option R} {s : spec_GensOk_t0.D} (n : Nat) {v : Option R} (h : iterG spec_GensOk_t0 spec_GensOk_B0 K n s = v) (hv : ∃ r, v = some r) : loopG spec_GensOk_t0 spec_GensOk_B0 K s = v := loop_eq (ev_mono _ _) n h hv
theorem spec_GensOk_main (x0 : List Int) : spec_GensOk_F (x0, ()) =
 loopG spec_GensOk_t0 spec_GensOk_B0 (spec_GensOk_K0 x0) ((x0, ((0 : Int), ())), ()) := by kernel_rfl
theorem spec_GensOk_r0 {R : Type} (K : Ex → AS → Option R) (n : Nat) (t0 : List Int) (t3 : Int) : iterG spec_GensOk_t0 spec_GensOk_B0 K (n + 1) ((t0, (t3, ())), ()) =
 brk (decide (t3 < (t0.length : Int)))
 (ck (decide (0 ≤ t3) && decide (t3 < t0.length)) ((spec_l1In_F (rdD tI t0 t3, ((1 : Int), ((100000 : Int), ())))).bind fun y14 =>
 brk (!y14.1.1)
 (K .ret (spec_GensOk_x0_0 t0 false))
 (ck (decide (0 ≤ (0 : Int)) && decide ((0 : Int) ≤ t3) && decide (t3 ≤ t0.length)) (ck (decide (0 ≤ t3) && decide (t3 < t0.length)) ((spec_l2Has_F ((t0.take t3.toNat).drop (0 : Int).toNat, (rdD tI t0 t3, ()))).bind fun y24 =>
 brk y24.1.1
 (K .ret (spec_GensOk_x0_0 t0 false))
 (iterG spec_GensOk_t0 spec_GensOk_B0 K n ((t0, (IntKind.i64.wrap (t3 + (1 : Int)), ())), ())))))))
 (K (.exit 0) (spec_GensOk_x0_1 t0)) := by kernel_rfl
theorem spec_GensOk_e0_0 (x0 : List Int) (d0 : List Int) (d1 : Bool) : spec_GensOk_K0 x0 .ret (spec_GensOk_x0_0 d0 d1) =
 some ((d1, ()), ((), ())) := by kernel_rfl
theorem spec_GensOk_e0_1 (x0 : List Int) (d0 : List Int) : spec_GensOk_K0 x0 (.exit 0) (spec_GensOk_x0_1 d0) =
 some ((decide ((d0.length : Int) ≤ (12 : Int)), ()), ((), ())) := by kernel_rfl
/-! spec.MsgOk -/
noncomputable def spec_MsgOk_b : Code := bd Try.f41
def spec_MsgOk_T : List (Nat × Tm) := []
noncomputable def spec_MsgOk_E : Env := ⟨tt0, [(60, spec_l1Bit_C), (67, spec_GensOk_C), (68, spec_l1In_C)]⟩
noncomputable def spec_MsgOk_F : PsD [.ro tMsg] → Option (RsD [.own tB] × PsO [.ro tMsg]) := fun x => evFn spec_MsgOk_E spec_MsgOk_T Try.f41 spec_MsgOk_b [.ro tMsg] [.own tB] x
@[reducible] noncomputable def spec_MsgOk_C : Ct := ⟨[.ro tMsg], [.own tB], spec_MsgOk_F⟩
theorem spec_MsgOk_h (x : PsD [.ro tMsg]) (y : RsD [.own tB] × PsO [.ro tMsg]) (h : spec_MsgOk_F x = some y) : evFn spec_MsgOk_E spec_MsgOk_T Try.f41 spec_MsgOk_b [.ro tMsg] [.own tB] x = some y := h
theorem spec_MsgOk_c : ∀ f c, get spec_MsgOk_E.ct f = some c → Sat Try.prog f c := ct_cons spec_l1Bit_S (ct_cons spec_GensOk_S (ct_cons spec_l1In_S (ct_nil)))
theorem spec_MsgOk_S : Sat Try.prog 41 spec_MsgOk_C := fn_ok2 (envOk _) spec_MsgOk_c mixedOk Try.func41 (by kernel_rfl : Try.f41.body = some spec_MsgOk_b) (by kernel_rfl) (by kernel_rfl) spec_MsgOk_h
noncomputable def spec_MsgOk_Ke  (x0 : Int × Int × Int × Int × List Int × Unit) : Ex → AS → Option (RsD [.own tB] × PsO [.ro tMsg]) := endK spec_MsgOk_E Try.f41 [.ro tMsg] [.own tB] (initL [.ro tMsg] (x0, ()) 0).1
theorem spec_MsgOk_main (x0 : Int × Int × Int × Int × List Int × Unit) : spec_MsgOk_F (x0, ()) =
 brk (decide (x0.1 = (5 : Int)))
 ((spec_GensOk_F (x0.2.2.2.2.1, ())).bind fun y9 =>
 brk y9.1.1
 ((spec_l1In_F (x0.2.2.1, ((0 : Int), ((200 : Int), ())))).bind fun y13 =>
 brk y13.1.1
 (brk (decide (x0.2.1 = (0 : Int)))
 (some ((decide (x0.2.2.2.1 = (0 : Int)), ()), ((), ())))
 (some ((false, ()), ((), ()))))
 (some ((false, ()), ((), ()))))
 (some ((false, ()), ((), ()))))
 (brk (decide (x0.1 = (1 : Int)))
 (brk (decide (x0.1 = (1 : Int)))
 (brk (decide ((x0.2.2.2.2.1.length : Int) = (0 : Int)))
 ((spec_l1In_F (x0.2.1, ((0 : Int), ((7 : Int), ())))).bind fun y37 =>
 brk y37.1.1
 (brk (decide (x0.1 = (4 : Int)))
 ((spec_l1Bit_F (true, ())).bind fun y50 =>
 (spec_l1In_F (x0.2.2.1, (IntKind.i64.wrap ((1 : Int) - y50.1.1), ((200 : Int), ())))).bind fun y52 =>
 brk y52.1.1
 (brk (decide (x0.1 = (3 : Int)))
 ((spec_l1In_F (x0.2.2.2.1, ((0 : Int), ((2 : Int), ())))).bind fun y61 =>
 brk y61.1.1
 (some ((true, ()), ((), ())))
 (some ((decide (x0.2.2.2.1 = (0 : Int)), ()), ((), ()))))
 (some ((decide (x0.2.2.2.1 = (0 : Int)), ()), ((), ()))))
 (some ((false, ()), ((), ()))))
 ((spec_l1Bit_F (decide (x0.1 = (2 : Int)), ())).bind fun y50 =>
 (spec_l1In_F (x0.2.2.1, (IntKind.i64.wrap ((1 : Int) - y50.1.1), ((200 : Int), ())))).bind fun y52 =>
 brk y52.1.1
 (brk (decide (x0.1 = (3 : Int)))
 ((spec_l1In_F (x0.2.2.2.1, ((0 : Int), ((2 : Int), ())))).bind fun y61 =>
 brk y61.1.1
 (some ((true, ()), ((), ())))
 (some ((decide (x0.2.2.2.1 = (0 : Int)), ()), ((), ()))))
 (some ((decide (x0.2.2.2.1 = (0 : Int)), ()), ((), ()))))
 (some ((false, ()), ((), ())))))
 (some ((false, ()), ((), ()))))
 (some ((false, ()), ((), ()))))
 (some ((false, ()), ((), ()))))
 (brk (decide (x0.1 = (2 : Int)))
 (brk (decide (x0.1 = (2 : Int)))
 (brk (decide ((x0.2.2.2.2.1.length : Int) = (0 : Int)))
 ((spec_l1In_F (x0.2.1, ((0 : Int), ((7 : Int), ())))).bind fun y37 =>
 brk y37.1.1
 (brk (decide (x0.1 = (4 : Int)))
 ((spec_l1Bit_F (true, ())).bind fun y50 =>
 (spec_l1In_F (x0.2.2.1, (IntKind.i64.wrap ((1 : Int) - y50.1.1), ((200 : Int), ())))).bind fun y52 =>
 brk y52.1.1
 (brk (decide (x0.1 = (3 : Int)))
 ((spec_l1In_F (x0.2.2.2.1, ((0 : Int), ((2 : Int), ())))).bind fun y61 =>
 brk y61.1.1
 (some ((true, ()), ((), ())))
 (some ((decide (x0.2.2.2.1 = (0 : Int)), ()), ((), ()))))
 (some ((decide (x0.2.2.2.1 = (0 : Int)), ()), ((), ()))))
 (some ((false, ()), ((), ()))))
 ((spec_l1Bit_F (decide (x0.1 = (2 : Int)), ())).bind fun y50 =>
 (spec_l1In_F (x0.2.2.1, (IntKind.i64.wrap ((1 : Int) - y50.1.1), ((200 : Int), ())))).bind fun y52 =>
 brk y52.1.1
 (brk (decide (x0.1 = (3 : Int)))
 ((spec_l1In_F (x0.2.2.2.1, ((0 : Int), ((2 : Int), ())))).bind fun y61 =>
 brk y61.1.1
 (some ((true, ()), ((), ())))
 (some ((decide (x0.2.2.2.1 = (0 : Int)), ()), ((), ()))))
 (some ((decide (x0.2.2.2.1 = (0 : Int)), ()), ((), ()))))
 (some ((false, ()), ((), ())))))
 (some ((false, ()), ((), ()))))
 (some ((false, ()), ((), ()))))
 (some ((false, ()), ((), ()))))
 (brk (decide (x0.1 = (3 : Int)))
 (brk (decide (x0.1 = (3 : Int)))
 (brk (decide ((x0.2.2.2.2.1.length : Int) = (0 : Int)))
 ((spec_l1In_F (x0.2.1, ((0 : Int), ((7 : Int), ())))).bind fun y37 =>
 brk y37.1.1
 (brk (decide (x0.1 = (4 : Int)))
 ((spec_l1Bit_F (true, ())).bind fun y50 =>
 (spec_l1In_F (x0.2.2.1, (IntKind.i64.wrap ((1 : Int) - y50.1.1), ((200 : Int), ())))).bind fun y52 =>
 brk y52.1.1
 (brk (decide (x0.1 = (3 : Int)))
 ((spec_l1In_F (x0.2.2.2.1, ((0 : Int), ((2 : Int), ())))).bind fun y61 =>
 brk y61.1.1
 (some ((true, ()), ((), ())))
 (some ((decide (x0.2.2.2.1 = (0 : Int)), ()), ((), ()))))
 (some ((decide (x0.2.2.2.1 = (0 : Int)), ()), ((), ()))))
 (some ((false, ()), ((), ()))))
 ((spec_l1Bit_F (decide (x0.1 = (2 : Int)), ())).bind fun y50 =>
 (spec_l1In_F (x0.2.2.1, (IntKind.i64.wrap ((1 : Int) - y50.1.1), ((200 : Int), ())))).bind fun y52 =>
 brk y52.1.1
 (brk (decide (x0.1 = (3 : Int)))
 ((spec_l1In_F (x0.2.2.2.1, ((0 : Int), ((2 : Int), ())))).bind fun y61 =>
 brk y61.1.1
 (some ((true, ()), ((), ())))
 (some ((decide (x0.2.2.2.1 = (0 : Int)), ()), ((), ()))))
 (some ((decide (x0.2.2.2.1 = (0 : Int)), ()), ((), ()))))
 (some ((false, ()), ((), ())))))
 (some ((false, ()), ((), ()))))
 (some ((false, ()), ((), ()))))
 (some ((false, ()), ((), ()))))
 (brk (decide (x0.1 = (4 : Int)))
 (brk (decide ((x0.2.2.2.2.1.length : Int) = (0 : Int)))
 ((spec_l1In_F (x0.2.1, ((0 : Int), ((7 : Int), ())))).bind fun y37 =>
 brk y37.1.1
 (brk (decide (x0.1 = (4 : Int)))
 ((spec_l1Bit_F (true, ())).bind fun y50 =>
 (spec_l1In_F (x0.2.2.1, (IntKind.i64.wrap ((1 : Int) - y50.1.1), ((200 : Int), ())))).bind fun y52 =>
 brk y52.1.1
 (brk (decide (x0.1 = (3 : Int)))
 ((spec_l1In_F (x0.2.2.2.1, ((0 : Int), ((2 : Int), ())))).bind fun y61 =>
 brk y61.1.1
 (some ((true, ()), ((), ())))
 (some ((decide (x0.2.2.2.1 = (0 : Int)), ()), ((), ()))))
 (some ((decide (x0.2.2.2.1 = (0 : Int)), ()), ((), ()))))
 (some ((false, ()), ((), ()))))
 ((spec_l1Bit_F (decide (x0.1 = (2 : Int)), ())).bind fun y50 =>
 (spec_l1In_F (x0.2.2.1, (IntKind.i64.wrap ((1 : Int) - y50.1.1), ((200 : Int), ())))).bind fun y52 =>
 brk y52.1.1
 (brk (decide (x0.1 = (3 : Int)))
 ((spec_l1In_F (x0.2.2.2.1, ((0 : Int), ((2 : Int), ())))).bind fun y61 =>
 brk y61.1.1
 (some ((true, ()), ((), ())))
 (some ((decide (x0.2.2.2.1 = (0 : Int)), ()), ((), ()))))
 (some ((decide (x0.2.2.2.1 = (0 : Int)), ()), ((), ()))))
 (some ((false, ()), ((), ())))))
 (some ((false, ()), ((), ()))))
 (some ((false, ()), ((), ()))))
 (some ((false, ()), ((), ()))))))) := by kernel_rfl
/-! spec.PutNum -/
noncomputable def spec_PutNum_b : Code := bd Try.f59
@[reducible] def spec_PutNum_t0 : Tm := ⟨[(3, 960000)], [], [(0, .sc true tI), (3, .own 960000)], [(960000, .arr 5 tY)], [0, 3], [960000]⟩
def spec_PutNum_T : List (Nat × Tm) := [(0, spec_PutNum_t0)]
noncomputable def spec_PutNum_E : Env := ⟨tt0, [(68, spec_l1In_C)]⟩
noncomputable def spec_PutNum_F : PsD [.ro tI] → Option (RsD [.own tYs] × PsO [.ro tI]) := fun x => evFn spec_PutNum_E spec_PutNum_T Try.f59 spec_PutNum_b [.ro tI] [.own tYs] x
@[reducible] noncomputable def spec_PutNum_C : Ct := ⟨[.ro tI], [.own tYs], spec_PutNum_F⟩
theorem spec_PutNum_h (x : PsD [.ro tI]) (y : RsD [.own tYs] × PsO [.ro tI]) (h : spec_PutNum_F x = some y) : evFn spec_PutNum_E spec_PutNum_T Try.f59 spec_PutNum_b [.ro tI] [.own tYs] x = some y := h
theorem spec_PutNum_c : ∀ f c, get spec_PutNum_E.ct f = some c → Sat Try.prog f c := ct_cons spec_l1In_S (ct_nil)
theorem spec_PutNum_S : Sat Try.prog 59 spec_PutNum_C := fn_ok2 (envOk _) spec_PutNum_c mixedOk Try.func59 (by kernel_rfl : Try.f59.body = some spec_PutNum_b) (by kernel_rfl) (by kernel_rfl) spec_PutNum_h
noncomputable def spec_PutNum_Ke  (x0 : Int) : Ex → AS → Option (RsD [.own tYs] × PsO [.ro tI]) := endK spec_PutNum_E Try.f59 [.ro tI] [.own tYs] (initL [.ro tI] (x0, ()) 0).1
noncomputable def spec_PutNum_B0 {R : Type} : AS → (Ex → AS → Option R) → Option R := fun A K => ev spec_PutNum_E spec_PutNum_T 0 (cA (cA (cA (cB (cB (cB spec_PutNum_b)))))) A K
noncomputable def spec_PutNum_K0  (x0 : Int) : Ex → AS → Option (RsD [.own tYs] × PsO [.ro tI]) := kBlk 0 (kSeq (fun A K => ev spec_PutNum_E spec_PutNum_T 1000 (cB (cB (cB (cB spec_PutNum_b)))) A K) (spec_PutNum_Ke x0))
noncomputable def spec_PutNum_x0_0 (d0 : Int) (d1 : List Int) : AS := ⟨[(0, .v (.one (.d true tI d0))), (3, .v (.one (.own 960000)))], [(960000, .arr 5 tY d1)]⟩
theorem spec_PutNum_l0 {R : Type} {K : Ex → AS → Option R} {s : spec_PutNum_t0.D} (n : Nat) {v : Option R} (h : iterG spec_PutNum_t0 spec_PutNum_B0 K n s = v) (hv : ∃ r, v = some r) : loopG spec_PutNum_t0 spec_PutNum_B0 K s = v := loop_eq (ev_mono _ _) n h hv
theorem spec_PutNum_main (x0 : Int) : spec_PutNum_F (x0, ()) =
 (spec_l1In_F (x0, ((0 : Int), ((2147483647 : Int), ())))).bind fun y6 =>
 brk (!y6.1.1)
 (some ((([] : List Int), ()), ((), ())))
 (loopG spec_PutNum_t0 spec_PutNum_B0 (spec_PutNum_K0 x0) ((x0, ()), (([] : List Int), ()))) := by kernel_rfl
theorem spec_PutNum_r0 {R : Type} (K : Ex → AS → Option R) (n : Nat) (t0 : Int) (a960000 : List Int) : iterG spec_PutNum_t0 spec_PutNum_B0 K (n + 1) ((t0, ()), (a960000, ())) =
 brk (decide ((127 : Int) < t0))
 (ck (decide ((a960000.length + [IntKind.u8.wrap (IntKind.i64.wrap ((t0.tmod (128 : Int)) + (128 : Int)))].length) * 1 ≤ big47)) (iterG spec_PutNum_t0 spec_PutNum_B0 K n ((IntKind.i64.wrap (t0.tdiv (128 : Int)), ()), (a960000 ++ [IntKind.u8.wrap (IntKind.i64.wrap ((t0.tmod (128 : Int)) + (128 : Int)))], ()))))
 (K (.exit 0) (spec_PutNum_x0_0 t0 a960000)) := by kernel_rfl
theorem spec_PutNum_e0_0 (x0 : Int) (d0 : Int) (d1 : List Int) : spec_PutNum_K0 x0 (.exit 0) (spec_PutNum_x0_0 d0 d1) =
 ck (decide ((d1.length + [IntKind.u8.wrap d0].length) * 1 ≤ big47)) (some ((d1 ++ [IntKind.u8.wrap d0], ()), ((), ()))) := by kernel_rfl
/-! spec.l4Body -/
noncomputable def spec_l4Body_b : Code := bd Try.f84
@[reducible] def spec_l4Body_t0 : Tm := ⟨[(3, 960000)], [], [(1, .ptr 16 0), (3, .own 960000), (4, .own 304), (5, .sc true tI)], [(16, .box [.sc true tI, .sc true tI, .sc true tI, .sc true tI, .sc true tIs]), (304, .arr 3 tI), (960000, .arr 5 tY)], [1, 3], [16, 960000]⟩
@[reducible] def spec_l4Body_t2 : Tm := ⟨[(3, 960600)], [], [(1, .ptr 16 0), (3, .own 960600), (6, .sc true tI)], [(16, .box [.sc true tI, .sc true tI, .sc true tI, .sc true tI, .sc true tIs]), (960600, .arr 5 tY)], [3], [960600]⟩
def spec_l4Body_T : List (Nat × Tm) := [(0, spec_l4Body_t0), (2, spec_l4Body_t2)]
noncomputable def spec_l4Body_E : Env := ⟨tt0, [(59, spec_PutNum_C)]⟩
noncomputable def spec_l4Body_F : PsD [.ro tMsg] → Option (RsD [.own tYs] × PsO [.ro tMsg]) := fun x => evFn spec_l4Body_E spec_l4Body_T Try.f84 spec_l4Body_b [.ro tMsg] [.own tYs] x
@[reducible] noncomputable def spec_l4Body_C : Ct := ⟨[.ro tMsg], [.own tYs], spec_l4Body_F⟩
theorem spec_l4Body_h (x : PsD [.ro tMsg]) (y : RsD [.own tYs] × PsO [.ro tMsg]) (h : spec_l4Body_F x = some y) : evFn spec_l4Body_E spec_l4Body_T Try.f84 spec_l4Body_b [.ro tMsg] [.own tYs] x = some y := h
theorem spec_l4Body_c : ∀ f c, get spec_l4Body_E.ct f = some c → Sat Try.prog f c := ct_cons spec_PutNum_S (ct_nil)
theorem spec_l4Body_S : Sat Try.prog 84 spec_l4Body_C := fn_ok2 (envOk _) spec_l4Body_c mixedOk Try.func84 (by kernel_rfl : Try.f84.body = some spec_l4Body_b) (by kernel_rfl) (by kernel_rfl) spec_l4Body_h
noncomputable def spec_l4Body_Ke  (x0 : Int × Int × Int × Int × List Int × Unit) : Ex → AS → Option (RsD [.own tYs] × PsO [.ro tMsg]) := endK spec_l4Body_E Try.f84 [.ro tMsg] [.own tYs] (initL [.ro tMsg] (x0, ()) 0).1
noncomputable def spec_l4Body_B0 {R : Type} : AS → (Ex → AS → Option R) → Option R := fun A K => ev spec_l4Body_E spec_l4Body_T 0 (cA (cA (cB (cA (cB (cB (cB spec_l4Body_b))))))) A K
noncomputable def spec_l4Body_B2 {R : Type} : AS → (Ex → AS → Option R) → Option R := fun A K => ev spec_l4Body_E spec_l4Body_T 2 (cA (cA (cB (cA (cB (cB (cB (cB spec_l4Body_b)))))))) A K
noncomputable def spec_l4Body_K0  (x0 : Int × Int × Int × Int × List Int × Unit) : Ex → AS → Option (RsD [.own tYs] × PsO [.ro tMsg]) := kBlk 0 (kSeq (fun A K => ev spec_l4Body_E spec_l4Body_T 1000 (cB (cB (cB (cB spec_l4Body_b)))) A K) (spec_l4Body_Ke x0))
noncomputable def spec_l4Body_K2  (x0 : Int × Int × Int × Int × List Int × Unit) : Ex → AS → Option (RsD [.own tYs] × PsO [.ro tMsg]) := kBlk 2 (kSeq (fun A K => ev spec_l4Body_E spec_l4Body_T 1000 (cB (cB (cB (cB (cB spec_l4Body_b))))) A K) (spec_l4Body_Ke x0))
noncomputable def spec_l4Body_x0_0 (d0 : Int) (d1 : Int) (d2 : Int) (d3 : Int) (d4 : List Int) (d5 : List Int) : AS := ⟨[(1, .v (.one (.bptr 16 0))), (3, .v (.one (.own 960000)))], [(16, .box [.d true tI d0, .d true tI d1, .d true tI d2, .d true tI d3, .d true tIs d4]), (960000, .arr 5 tY d5)]⟩
noncomputable def spec_l4Body_x2_0 (d0 : List Int) : AS := ⟨[(3, .v (.one (.own 960600)))], [(960600, .arr 5 tY d0)]⟩
theorem spec_l4Body_l0 {R : Type} {K : Ex → AS → Option R} {s : spec_l4Body_t0.D} (n : Nat) {v : Option R} (h : iterG spec_l4Body_t0 spec_l4Body_B0 K n s = v) (hv : ∃ r, v = some r) : loopG spec_l4Body_t0 spec_l4Body_B0 K s = v := loop_eq (ev_mono _ _) n h hv
theorem spec_l4Body_l2 {R : Type} {K : Ex → AS → Option R} {s : spec_l4Body_t2.D} (n : Nat) {v : Option R} (h : iterG spec_l4Body_t2 spec_l4Body_B2 K n s = v) (hv : ∃ r, v = some r) : loopG spec_l4Body_t2 spec_l4Body_B2 K s = v := loop_eq (ev_mono _ _) n h hv
theorem spec_l4Body_main (x0 : Int × Int × Int × Int × List Int × Unit) : spec_l4Body_F (x0, ()) =
 loopG spec_l4Body_t0 spec_l4Body_B0 (spec_l4Body_K0 x0) (((0 : Int), ()), ((x0.1, (x0.2.1, (x0.2.2.1, (x0.2.2.2.1, (x0.2.2.2.2.1, ()))))), ([x0.1, x0.2.1, x0.2.2.1, x0.2.2.2.1, (x0.2.2.2.2.1.length : Int)], (([] : List Int), ())))) := by kernel_rfl
theorem spec_l4Body_r0 {R : Type} (K : Ex → AS → Option R) (n : Nat) (t5 : Int) (b16_0 : Int) (b16_1 : Int) (b16_2 : Int) (b16_3 : Int) (b16_4 : List Int) (a304 : List Int) (a960000 : List Int) : iterG spec_l4Body_t0 spec_l4Body_B0 K (n + 1) ((t5, ()), ((b16_0, (b16_1, (b16_2, (b16_3, (b16_4, ()))))), (a304, (a960000, ())))) =
 brk (decide (t5 < (a304.length : Int)))
 (ck (decide (0 ≤ t5) && decide (t5 < a304.length)) ((spec_PutNum_F (rdD tI a304 t5, ())).bind fun y31 =>
 ck (decide ((a960000.length + y31.1.1.length) * 1 ≤ big47)) (iterG spec_l4Body_t0 spec_l4Body_B0 K n ((IntKind.i64.wrap (t5 + (1 : Int)), ()), ((b16_0, (b16_1, (b16_2, (b16_3, (b16_4, ()))))), (a304, (a960000 ++ y31.1.1, ())))))))
 (K (.exit 0) (spec_l4Body_x0_0 b16_0 b16_1 b16_2 b16_3 b16_4 a960000)) := by kernel_rfl
theorem spec_l4Body_e0_0 (x0 : Int × Int × Int × Int × List Int × Unit) (d0 : Int) (d1 : Int) (d2 : Int) (d3 : Int) (d4 : List Int) (d5 : List Int) : spec_l4Body_K0 x0 (.exit 0) (spec_l4Body_x0_0 d0 d1 d2 d3 d4 d5) =
 loopG spec_l4Body_t2 spec_l4Body_B2 (spec_l4Body_K2 x0) (((0 : Int), ()), ((d0, (d1, (d2, (d3, (d4, ()))))), (d5, ()))) := by kernel_rfl
theorem spec_l4Body_r2 {R : Type} (K : Ex → AS → Option R) (n : Nat) (t6 : Int) (b16_0 : Int) (b16_1 : Int) (b16_2 : Int) (b16_3 : Int) (b16_4 : List Int) (a960600 : List Int) : iterG spec_l4Body_t2 spec_l4Body_B2 K (n + 1) ((t6, ()), ((b16_0, (b16_1, (b16_2, (b16_3, (b16_4, ()))))), (a960600, ()))) =
 brk (decide (t6 < (b16_4.length : Int)))
 (ck (decide (0 ≤ t6) && decide (t6 < b16_4.length)) ((spec_PutNum_F (rdD tI b16_4 t6, ())).bind fun y46 =>
 ck (decide ((a960600.length + y46.1.1.length) * 1 ≤ big47)) (iterG spec_l4Body_t2 spec_l4Body_B2 K n ((IntKind.i64.wrap (t6 + (1 : Int)), ()), ((b16_0, (b16_1, (b16_2, (b16_3, (b16_4, ()))))), (a960600 ++ y46.1.1, ()))))))
 (K (.exit 2) (spec_l4Body_x2_0 a960600)) := by kernel_rfl
theorem spec_l4Body_e2_0 (x0 : Int × Int × Int × Int × List Int × Unit) (d0 : List Int) : spec_l4Body_K2 x0 (.exit 2) (spec_l4Body_x2_0 d0) =
 some ((d0, ()), ((), ())) := by kernel_rfl
/-! spec.l4Sum -/
noncomputable def spec_l4Sum_b : Code := bd Try.f85
def spec_l4Sum_T : List (Nat × Tm) := []
noncomputable def spec_l4Sum_E : Env := ⟨tt0, []⟩
noncomputable def spec_l4Sum_F : PsD [.ro tI] → Option (RsD [.own tYs] × PsO [.ro tI]) := fun x => evFn spec_l4Sum_E spec_l4Sum_T Try.f85 spec_l4Sum_b [.ro tI] [.own tYs] x
@[reducible] noncomputable def spec_l4Sum_C : Ct := ⟨[.ro tI], [.own tYs], spec_l4Sum_F⟩
theorem spec_l4Sum_h (x : PsD [.ro tI]) (y : RsD [.own tYs] × PsO [.ro tI]) (h : spec_l4Sum_F x = some y) : evFn spec_l4Sum_E spec_l4Sum_T Try.f85 spec_l4Sum_b [.ro tI] [.own tYs] x = some y := h
theorem spec_l4Sum_c : ∀ f c, get spec_l4Sum_E.ct f = some c → Sat Try.prog f c := ct_nil
theorem spec_l4Sum_S : Sat Try.prog 85 spec_l4Sum_C := fn_ok2 (envOk _) spec_l4Sum_c mixedOk Try.func85 (by kernel_rfl : Try.f85.body = some spec_l4Sum_b) (by kernel_rfl) (by kernel_rfl) spec_l4Sum_h
noncomputable def spec_l4Sum_Ke  (x0 : Int) : Ex → AS → Option (RsD [.own tYs] × PsO [.ro tI]) := endK spec_l4Sum_E Try.f85 [.ro tI] [.own tYs] (initL [.ro tI] (x0, ()) 0).1
theorem spec_l4Sum_main (x0 : Int) : spec_l4Sum_F (x0, ()) =
 some (([IntKind.u8.wrap (andN IntKind.i64 x0 (255 : Int)), IntKind.u8.wrap (andN IntKind.i64 (shrN IntKind.i64 x0 (8 : Int)) (255 : Int)), IntKind.u8.wrap (andN IntKind.i64 (shrN IntKind.i64 x0 (16 : Int)) (255 : Int)), IntKind.u8.wrap (andN IntKind.i64 (shrN IntKind.i64 x0 (24 : Int)) (255 : Int))], ()), ((), ())) := by kernel_rfl
/-! spec.SumOf -/
noncomputable def spec_SumOf_b : Code := bd Try.f86
@[reducible] def spec_SumOf_t0 : Tm := ⟨[], [], [(0, .sc true tYs), (3, .sc true tI), (4, .sc true tI), (5, .sc true tI)], [], [3, 4], []⟩
def spec_SumOf_T : List (Nat × Tm) := [(0, spec_SumOf_t0)]
noncomputable def spec_SumOf_E : Env := ⟨tt0, []⟩
noncomputable def spec_SumOf_F : PsD [.ro tYs] → Option (RsD [.own tI] × PsO [.ro tYs]) := fun x => evFn spec_SumOf_E spec_SumOf_T Try.f86 spec_SumOf_b [.ro tYs] [.own tI] x
@[reducible] noncomputable def spec_SumOf_C : Ct := ⟨[.ro tYs], [.own tI], spec_SumOf_F⟩
theorem spec_SumOf_h (x : PsD [.ro tYs]) (y : RsD [.own tI] × PsO [.ro tYs]) (h : spec_SumOf_F x = some y) : evFn spec_SumOf_E spec_SumOf_T Try.f86 spec_SumOf_b [.ro tYs] [.own tI] x = some y := h
theorem spec_SumOf_c : ∀ f c, get spec_SumOf_E.ct f = some c → Sat Try.prog f c := ct_nil
theorem spec_SumOf_S : Sat Try.prog 86 spec_SumOf_C := fn_ok2 (envOk _) spec_SumOf_c mixedOk Try.func86 (by kernel_rfl : Try.f86.body = some spec_SumOf_b) (by kernel_rfl) (by kernel_rfl) spec_SumOf_h
noncomputable def spec_SumOf_Ke  (x0 : List Int) : Ex → AS → Option (RsD [.own tI] × PsO [.ro tYs]) := endK spec_SumOf_E Try.f86 [.ro tYs] [.own tI] (initL [.ro tYs] (x0, ()) 0).1
noncomputable def spec_SumOf_B0 {R : Type} : AS → (Ex → AS → Option R) → Option R := fun A K => ev spec_SumOf_E spec_SumOf_T 0 (cA (cA (cB (cA (cB (cB spec_SumOf_b)))))) A K
noncomputable def spec_SumOf_K0  (x0 : List Int) : Ex → AS → Option (RsD [.own tI] × PsO [.ro tYs]) := kBlk 0 (kSeq (fun A K => ev spec_SumOf_E spec_SumOf_T 1000 (cB (cB (cB spec_SumOf_b))) A K) (spec_SumOf_Ke x0))
noncomputable def spec_SumOf_x0_0 (d0 : Int) (d1 : Int) : AS := ⟨[(3, .v (.one (.d true tI d0))), (4, .v (.one (.d true tI d1)))], []⟩
theorem spec_SumOf_l0 {R : Type} {K : Ex → AS → Option R} {s : spec_SumOf_t0.D} (n : Nat) {v : Option R} (h : iterG spec_SumOf_t0 spec_SumOf_B0 K n s = v) (hv : ∃ r, v = some r) : loopG spec_SumOf_t0 spec_SumOf_B0 K s = v := loop_eq (ev_mono _ _) n h hv
theorem spec_SumOf_main (x0 : List Int) : spec_SumOf_F (x0, ()) =
 loopG spec_SumOf_t0 spec_SumOf_B0 (spec_SumOf_K0 x0) ((x0, ((1 : Int), ((0 : Int), ((0 : Int), ())))), ()) := by kernel_rfl
theorem spec_SumOf_r0 {R : Type} (K : Ex → AS → Option R) (n : Nat) (t0 : List Int) (t3 : Int) (t4 : Int) (t5 : Int) : iterG spec_SumOf_t0 spec_SumOf_B0 K (n + 1) ((t0, (t3, (t4, (t5, ())))), ()) =
 brk (decide (t5 < (t0.length : Int)))
 (ck (decide (0 ≤ t5) && decide (t5 < t0.length)) (iterG spec_SumOf_t0 spec_SumOf_B0 K n ((t0, ((IntKind.i64.wrap (t3 + (IntKind.i64.wrap (rdD tY t0 t5)))).tmod (65521 : Int), ((IntKind.i64.wrap (t4 + ((IntKind.i64.wrap (t3 + (IntKind.i64.wrap (rdD tY t0 t5)))).tmod (65521 : Int)))).tmod (65521 : Int), (IntKind.i64.wrap (t5 + (1 : Int)), ())))), ())))
 (K (.exit 0) (spec_SumOf_x0_0 t3 t4)) := by kernel_rfl
theorem spec_SumOf_e0_0 (x0 : List Int) (d0 : Int) (d1 : Int) : spec_SumOf_K0 x0 (.exit 0) (spec_SumOf_x0_0 d0 d1) =
 some ((IntKind.i64.wrap ((IntKind.i64.wrap (d1 * (65536 : Int))) + d0), ()), ((), ())) := by kernel_rfl
/-! spec.MsgBytes -/
noncomputable def spec_MsgBytes_b : Code := bd Try.f39
def spec_MsgBytes_T : List (Nat × Tm) := []
noncomputable def spec_MsgBytes_E : Env := ⟨tt0, [(41, spec_MsgOk_C), (59, spec_PutNum_C), (84, spec_l4Body_C), (85, spec_l4Sum_C), (86, spec_SumOf_C)]⟩
noncomputable def spec_MsgBytes_F : PsD [.ro tMsg] → Option (RsD [.own tYs] × PsO [.ro tMsg]) := fun x => evFn spec_MsgBytes_E spec_MsgBytes_T Try.f39 spec_MsgBytes_b [.ro tMsg] [.own tYs] x
@[reducible] noncomputable def spec_MsgBytes_C : Ct := ⟨[.ro tMsg], [.own tYs], spec_MsgBytes_F⟩
theorem spec_MsgBytes_h (x : PsD [.ro tMsg]) (y : RsD [.own tYs] × PsO [.ro tMsg]) (h : spec_MsgBytes_F x = some y) : evFn spec_MsgBytes_E spec_MsgBytes_T Try.f39 spec_MsgBytes_b [.ro tMsg] [.own tYs] x = some y := h
theorem spec_MsgBytes_c : ∀ f c, get spec_MsgBytes_E.ct f = some c → Sat Try.prog f c := ct_cons spec_MsgOk_S (ct_cons spec_PutNum_S (ct_cons spec_l4Body_S (ct_cons spec_l4Sum_S (ct_cons spec_SumOf_S (ct_nil)))))
theorem spec_MsgBytes_S : Sat Try.prog 39 spec_MsgBytes_C := fn_ok2 (envOk _) spec_MsgBytes_c mixedOk Try.func39 (by kernel_rfl : Try.f39.body = some spec_MsgBytes_b) (by kernel_rfl) (by kernel_rfl) spec_MsgBytes_h
noncomputable def spec_MsgBytes_Ke  (x0 : Int × Int × Int × Int × List Int × Unit) : Ex → AS → Option (RsD [.own tYs] × PsO [.ro tMsg]) := endK spec_MsgBytes_E Try.f39 [.ro tMsg] [.own tYs] (initL [.ro tMsg] (x0, ()) 0).1
theorem spec_MsgBytes_main (x0 : Int × Int × Int × Int × List Int × Unit) : spec_MsgBytes_F (x0, ()) =
 (spec_MsgOk_F ((x0.1, (x0.2.1, (x0.2.2.1, (x0.2.2.2.1, (x0.2.2.2.2.1, ()))))), ())).bind fun y6 =>
 brk (!y6.1.1)
 (some ((([] : List Int), ()), ((), ())))
 ((spec_l4Body_F ((x0.1, (x0.2.1, (x0.2.2.1, (x0.2.2.2.1, (x0.2.2.2.2.1, ()))))), ())).bind fun y10 =>
 (spec_PutNum_F ((y10.1.1.length : Int), ())).bind fun y13 =>
 ck (decide ((y13.1.1.length + y10.1.1.length) * 1 ≤ big47)) ((spec_SumOf_F (y10.1.1, ())).bind fun y18 =>
 (spec_l4Sum_F (y18.1.1, ())).bind fun y19 =>
 ck (decide (((y13.1.1 ++ y10.1.1).length + y19.1.1.length) * 1 ≤ big47)) (some (((y13.1.1 ++ y10.1.1) ++ y19.1.1, ()), ((), ()))))) := by kernel_rfl
/-! spec.GetNum -/
noncomputable def spec_GetNum_b : Code := bd Try.f96
@[reducible] def spec_GetNum_t0 : Tm := ⟨[], [], [(0, .sc true tYs), (1, .sc true tI), (7, .sc true tI), (8, .sc true tI)], [], [4, 5, 6], []⟩
def spec_GetNum_T : List (Nat × Tm) := [(0, spec_GetNum_t0)]
noncomputable def spec_GetNum_E : Env := ⟨tt0, []⟩
noncomputable def spec_GetNum_F : PsD [.ro tYs, .ro tI] → Option (RsD [.own tI, .own tI, .own tB] × PsO [.ro tYs, .ro tI]) := fun x => evFn spec_GetNum_E spec_GetNum_T Try.f96 spec_GetNum_b [.ro tYs, .ro tI] [.own tI, .own tI, .own tB] x
@[reducible] noncomputable def spec_GetNum_C : Ct := ⟨[.ro tYs, .ro tI], [.own tI, .own tI, .own tB], spec_GetNum_F⟩
theorem spec_GetNum_h (x : PsD [.ro tYs, .ro tI]) (y : RsD [.own tI, .own tI, .own tB] × PsO [.ro tYs, .ro tI]) (h : spec_GetNum_F x = some y) : evFn spec_GetNum_E spec_GetNum_T Try.f96 spec_GetNum_b [.ro tYs, .ro tI] [.own tI, .own tI, .own tB] x = some y := h
theorem spec_GetNum_c : ∀ f c, get spec_GetNum_E.ct f = some c → Sat Try.prog f c := ct_nil
theorem spec_GetNum_S : Sat Try.prog 96 spec_GetNum_C := fn_ok2 (envOk _) spec_GetNum_c mixedOk Try.func96 (by kernel_rfl : Try.f96.body = some spec_GetNum_b) (by kernel_rfl) (by kernel_rfl) spec_GetNum_h
noncomputable def spec_GetNum_Ke  (x0 : List Int) (x1 : Int) : Ex → AS → Option (RsD [.own tI, .own tI, .own tB] × PsO [.ro tYs, .ro tI]) := endK spec_GetNum_E Try.f96 [.ro tYs, .ro tI] [.own tI, .own tI, .own tB] (initL [.ro tYs, .ro tI] (x0, (x1, ())) 0).1
noncomputable def spec_GetNum_B0 {R : Type} : AS → (Ex → AS → Option R) → Option R := fun A K => ev spec_GetNum_E spec_GetNum_T 0 (cA (cA (cB (cA (cB (cB spec_GetNum_b)))))) A K
noncomputable def spec_GetNum_K0  (x0 : List Int) (x1 : Int) : Ex → AS → Option (RsD [.own tI, .own tI, .own tB] × PsO [.ro tYs, .ro tI]) := kBlk 0 (kSeq (fun A K => ev spec_GetNum_E spec_GetNum_T 1000 (cB (cB (cB spec_GetNum_b))) A K) (spec_GetNum_Ke x0 x1))
noncomputable def spec_GetNum_x0_0 (d0 : Int) (d1 : Int) (d2 : Bool) : AS := ⟨[(4, .v (.one (.d true tI d0))), (5, .v (.one (.d true tI d1))), (6, .v (.one (.d true tB d2)))], []⟩
noncomputable def spec_GetNum_x0_1 : AS := ⟨[], []⟩
theorem spec_GetNum_l0 {R : Type} {K : Ex → AS → Option R} {s : spec_GetNum_t0.D} (n : Nat) {v : Option R} (h : iterG spec_GetNum_t0 spec_GetNum_B0 K n s = v) (hv : ∃ r, v = some r) : loopG spec_GetNum_t0 spec_GetNum_B0 K s = v := loop_eq (ev_mono _ _) n h hv
theorem spec_GetNum_main (x0 : List Int) (x1 : Int) : spec_GetNum_F (x0, (x1, ())) =
 loopG spec_GetNum_t0 spec_GetNum_B0 (spec_GetNum_K0 x0 x1) ((x0, (x1, ((0 : Int), ((0 : Int), ())))), ()) := by kernel_rfl
theorem spec_GetNum_r0 {R : Type} (K : Ex → AS → Option R) (n : Nat) (t0 : List Int) (t1 : Int) (t7 : Int) (t8 : Int) : iterG spec_GetNum_t0 spec_GetNum_B0 K (n + 1) ((t0, (t1, (t7, (t8, ())))), ()) =
 brk (decide (t8 < (5 : Int)))
 (brk (decide (t1 < (0 : Int)))
 (K .ret (spec_GetNum_x0_0 (0 : Int) (0 : Int) false))
 (brk (decide (IntKind.i64.wrap ((t0.length : Int) - t8) ≤ t1))
 (K .ret (spec_GetNum_x0_0 (0 : Int) (0 : Int) false))
 (ck (decide (0 ≤ IntKind.i64.wrap (t1 + t8)) && decide (IntKind.i64.wrap (t1 + t8) < t0.length)) (ck (decide (0 ≤ IntKind.i64.wrap ((7 : Int) * t8))) (brk (decide (IntKind.i64.wrap (rdD tY t0 (IntKind.i64.wrap (t1 + t8))) < (128 : Int)))
 (brk (decide ((0 : Int) < t8))
 (brk (decide (IntKind.i64.wrap (rdD tY t0 (IntKind.i64.wrap (t1 + t8))) = (0 : Int)))
 (K .ret (spec_GetNum_x0_0 (0 : Int) (0 : Int) false))
 (brk (decide ((2147483647 : Int) < orN IntKind.i64 t7 (shlN IntKind.i64 ((IntKind.i64.wrap (rdD tY t0 (IntKind.i64.wrap (t1 + t8)))).tmod (128 : Int)) (IntKind.i64.wrap ((7 : Int) * t8)))))
 (K .ret (spec_GetNum_x0_0 (0 : Int) (0 : Int) false))
 (K .ret (spec_GetNum_x0_0 (orN IntKind.i64 t7 (shlN IntKind.i64 ((IntKind.i64.wrap (rdD tY t0 (IntKind.i64.wrap (t1 + t8)))).tmod (128 : Int)) (IntKind.i64.wrap ((7 : Int) * t8)))) (IntKind.i64.wrap ((IntKind.i64.wrap (t1 + t8)) + (1 : Int))) true))))
 (brk (decide ((2147483647 : Int) < orN IntKind.i64 t7 (shlN IntKind.i64 ((IntKind.i64.wrap (rdD tY t0 (IntKind.i64.wrap (t1 + t8)))).tmod (128 : Int)) (IntKind.i64.wrap ((7 : Int) * t8)))))
 (K .ret (spec_GetNum_x0_0 (0 : Int) (0 : Int) false))
 (K .ret (spec_GetNum_x0_0 (orN IntKind.i64 t7 (shlN IntKind.i64 ((IntKind.i64.wrap (rdD tY t0 (IntKind.i64.wrap (t1 + t8)))).tmod (128 : Int)) (IntKind.i64.wrap ((7 : Int) * t8)))) (IntKind.i64.wrap ((IntKind.i64.wrap (t1 + t8)) + (1 : Int))) true))))
 (iterG spec_GetNum_t0 spec_GetNum_B0 K n ((t0, (t1, (orN IntKind.i64 t7 (shlN IntKind.i64 ((IntKind.i64.wrap (rdD tY t0 (IntKind.i64.wrap (t1 + t8)))).tmod (128 : Int)) (IntKind.i64.wrap ((7 : Int) * t8))), (IntKind.i64.wrap (t8 + (1 : Int)), ())))), ())))))))
 (K (.exit 0) (spec_GetNum_x0_1)) := by kernel_rfl
theorem spec_GetNum_e0_0 (x0 : List Int) (x1 : Int) (d0 : Int) (d1 : Int) (d2 : Bool) : spec_GetNum_K0 x0 x1 .ret (spec_GetNum_x0_0 d0 d1 d2) =
 some ((d0, (d1, (d2, ()))), ((), ((), ()))) := by kernel_rfl
theorem spec_GetNum_e0_1 (x0 : List Int) (x1 : Int) : spec_GetNum_K0 x0 x1 (.exit 0) (spec_GetNum_x0_1) =
 some (((0 : Int), ((0 : Int), (false, ()))), ((), ((), ()))) := by kernel_rfl
/-! spec.l4Num -/
noncomputable def spec_l4Num_b : Code := bd Try.f55
def spec_l4Num_T : List (Nat × Tm) := []
noncomputable def spec_l4Num_E : Env := ⟨tt0, [(96, spec_GetNum_C)]⟩
noncomputable def spec_l4Num_F : PsD [.st tL4Cur] → Option (RsD [.own tI] × PsO [.st tL4Cur]) := fun x => evFn spec_l4Num_E spec_l4Num_T Try.f55 spec_l4Num_b [.st tL4Cur] [.own tI] x
@[reducible] noncomputable def spec_l4Num_C : Ct := ⟨[.st tL4Cur], [.own tI], spec_l4Num_F⟩
theorem spec_l4Num_h (x : PsD [.st tL4Cur]) (y : RsD [.own tI] × PsO [.st tL4Cur]) (h : spec_l4Num_F x = some y) : evFn spec_l4Num_E spec_l4Num_T Try.f55 spec_l4Num_b [.st tL4Cur] [.own tI] x = some y := h
theorem spec_l4Num_c : ∀ f c, get spec_l4Num_E.ct f = some c → Sat Try.prog f c := ct_cons spec_GetNum_S (ct_nil)
theorem spec_l4Num_S : Sat Try.prog 55 spec_l4Num_C := fn_ok2 (envOk _) spec_l4Num_c mixedOk Try.func55 (by kernel_rfl : Try.f55.body = some spec_l4Num_b) (by kernel_rfl) (by kernel_rfl) spec_l4Num_h
noncomputable def spec_l4Num_Ke  (x0 : List Int × Int × Bool × Unit) : Ex → AS → Option (RsD [.own tI] × PsO [.st tL4Cur]) := endK spec_l4Num_E Try.f55 [.st tL4Cur] [.own tI] (initL [.st tL4Cur] (x0, ()) 0).1
theorem spec_l4Num_main (x0 : List Int × Int × Bool × Unit) : spec_l4Num_F (x0, ()) =
 (spec_GetNum_F (x0.1, (x0.2.1, ()))).bind fun y15 =>
 brk (!y15.1.2.2.1)
 (some (((0 : Int), ()), ((x0.1, (x0.2.1, (false, ()))), ())))
 (brk (!x0.2.2.1)
 (some (((0 : Int), ()), ((x0.1, (x0.2.1, (false, ()))), ())))
 (some ((y15.1.1, ()), ((x0.1, (y15.1.2.1, (x0.2.2.1, ()))), ())))) := by kernel_rfl
/-! spec.MsgOf -/
noncomputable def spec_MsgOf_b : Code := bd Try.f34
@[reducible] def spec_MsgOf_t0 : Tm := ⟨[], [(144, 4, 960000)], [(0, .sc true tYs), (1, .sc true tI), (4, .ptr 64 0), (7, .ptr 272 0), (9, .ptr 144 0), (10, .sc true tI), (11, .sc true tI)], [(64, .box [.sc true tI, .sc true tI, .sc true tI, .sc true tI, .nil]), (144, .box [.sc true tI, .sc true tI, .sc true tI, .sc true tI, .own 960000]), (272, .box [.sc true tYs, .sc true tI, .sc true tB]), (960000, .arr 3 tI)], [0, 1, 4, 7, 9, 80, 81, 82, 85, 86, 87, 88, 89, 90, 91, 94, 95, 96, 97, 98, 99, 100, 101, 102, 103, 104], [64, 144, 272, 960000]⟩
def spec_MsgOf_T : List (Nat × Tm) := [(0, spec_MsgOf_t0)]
noncomputable def spec_MsgOf_E : Env := ⟨tt0, [(39, spec_MsgBytes_C), (55, spec_l4Num_C)]⟩
noncomputable def spec_MsgOf_F : PsD [.ro tYs, .ro tI] → Option (RsD [.own tMsg, .own tI, .own tB] × PsO [.ro tYs, .ro tI]) := fun x => evFn spec_MsgOf_E spec_MsgOf_T Try.f34 spec_MsgOf_b [.ro tYs, .ro tI] [.own tMsg, .own tI, .own tB] x
@[reducible] noncomputable def spec_MsgOf_C : Ct := ⟨[.ro tYs, .ro tI], [.own tMsg, .own tI, .own tB], spec_MsgOf_F⟩
theorem spec_MsgOf_h (x : PsD [.ro tYs, .ro tI]) (y : RsD [.own tMsg, .own tI, .own tB] × PsO [.ro tYs, .ro tI]) (h : spec_MsgOf_F x = some y) : evFn spec_MsgOf_E spec_MsgOf_T Try.f34 spec_MsgOf_b [.ro tYs, .ro tI] [.own tMsg, .own tI, .own tB] x = some y := h
theorem spec_MsgOf_c : ∀ f c, get spec_MsgOf_E.ct f = some c → Sat Try.prog f c := ct_cons spec_MsgBytes_S (ct_cons spec_l4Num_S (ct_nil))
theorem spec_MsgOf_S : Sat Try.prog 34 spec_MsgOf_C := fn_ok2 (envOk _) spec_MsgOf_c mixedOk Try.func34 (by kernel_rfl : Try.f34.body = some spec_MsgOf_b) (by kernel_rfl) (by kernel_rfl) spec_MsgOf_h
noncomputable def spec_MsgOf_Ke  (x0 : List Int) (x1 : Int) : Ex → AS → Option (RsD [.own tMsg, .own tI, .own tB] × PsO [.ro tYs, .ro tI]) := endK spec_MsgOf_E Try.f34 [.ro tYs, .ro tI] [.own tMsg, .own tI, .own tB] (initL [.ro tYs, .ro tI] (x0, (x1, ())) 0).1
noncomputable def spec_MsgOf_B0 {R : Type} : AS → (Ex → AS → Option R) → Option R := fun A K => ev spec_MsgOf_E spec_MsgOf_T 0 (cA (cA (cB (cA (cB (cB (cB (cB (cB (cB (cB (cB (cB (cB spec_MsgOf_b)))))))))))))) A K
noncomputable def spec_MsgOf_K0  (x0 : List Int) (x1 : Int) : Ex → AS → Option (RsD [.own tMsg, .own tI, .own tB] × PsO [.ro tYs, .ro tI]) := kBlk 0 (kSeq (fun A K => ev spec_MsgOf_E spec_MsgOf_T 1000 (cB (cB (cB (cB (cB (cB (cB (cB (cB (cB (cB spec_MsgOf_b))))))))))) A K) (spec_MsgOf_Ke x0 x1))
noncomputable def spec_MsgOf_x0_0 (d0 : List Int) (d1 : Int) (d2 : Int) (d3 : Int) (d4 : Int) (d5 : Int) (d6 : Int) (d7 : Int) (d8 : Int) (d9 : Int) (d10 : List Int) (d11 : Int) (d12 : Bool) (d13 : List Int) : AS := ⟨[(0, .v (.one (.d true tYs d0))), (1, .v (.one (.d true tI d1))), (4, .v (.one (.bptr 64 0))), (7, .v (.one (.bptr 272 0))), (9, .v (.one (.bptr 144 0)))], [(64, .box [.d true tI d2, .d true tI d3, .d true tI d4, .d true tI d5, .nil]), (144, .box [.d true tI d6, .d true tI d7, .d true tI d8, .d true tI d9, .own 960000]), (272, .box [.d true tYs d10, .d true tI d11, .d true tB d12]), (960000, .arr 3 tI d13)]⟩
theorem spec_MsgOf_l0 {R : Type} {K : Ex → AS → Option R} {s : spec_MsgOf_t0.D} (n : Nat) {v : Option R} (h : iterG spec_MsgOf_t0 spec_MsgOf_B0 K n s = v) (hv : ∃ r, v = some r) : loopG spec_MsgOf_t0 spec_MsgOf_B0 K s = v := loop_eq (ev_mono _ _) n h hv
theorem spec_MsgOf_main (x0 : List Int) (x1 : Int) : spec_MsgOf_F (x0, (x1, ())) =
 (spec_l4Num_F ((x0, (x1, (true, ()))), ())).bind fun y19 =>
 brk (!y19.2.1.2.2.1)
 (some ((((0 : Int), ((0 : Int), ((0 : Int), ((0 : Int), (([] : List Int), ()))))), ((0 : Int), (false, ()))), ((), ((), ()))))
 (brk (decide (IntKind.i64.wrap ((IntKind.i64.wrap ((x0.length : Int) - y19.2.1.2.1)) - (4 : Int)) < y19.1.1))
 (some ((((0 : Int), ((0 : Int), ((0 : Int), ((0 : Int), (([] : List Int), ()))))), ((0 : Int), (false, ()))), ((), ((), ()))))
 ((spec_l4Num_F ((y19.2.1.1, (y19.2.1.2.1, (y19.2.1.2.2.1, ()))), ())).bind fun y40 =>
 (spec_l4Num_F ((y40.2.1.1, (y40.2.1.2.1, (y40.2.1.2.2.1, ()))), ())).bind fun y43 =>
 (spec_l4Num_F ((y43.2.1.1, (y43.2.1.2.1, (y43.2.1.2.2.1, ()))), ())).bind fun y46 =>
 (spec_l4Num_F ((y46.2.1.1, (y46.2.1.2.1, (y46.2.1.2.2.1, ()))), ())).bind fun y49 =>
 (spec_l4Num_F ((y49.2.1.1, (y49.2.1.2.1, (y49.2.1.2.2.1, ()))), ())).bind fun y52 =>
 loopG spec_MsgOf_t0 spec_MsgOf_B0 (spec_MsgOf_K0 x0 x1) ((x0, (x1, (y52.1.1, ((0 : Int), ())))), (((0 : Int), ((0 : Int), ((0 : Int), ((0 : Int), ())))), ((y40.1.1, (y43.1.1, (y46.1.1, (y49.1.1, ())))), ((y52.2.1.1, (y52.2.1.2.1, (y52.2.1.2.2.1, ()))), (([] : List Int), ()))))))) := by kernel_rfl
theorem spec_MsgOf_r0 {R : Type} (K : Ex → AS → Option R) (n : Nat) (t0 : List Int) (t1 : Int) (t10 : Int) (t11 : Int) (b64_0 : Int) (b64_1 : Int) (b64_2 : Int) (b64_3 : Int) (b144_0 : Int) (b144_1 : Int) (b144_2 : Int) (b144_3 : Int) (b272_0 : List Int) (b272_1 : Int) (b272_2 : Bool) (a960000 : List Int) : iterG spec_MsgOf_t0 spec_MsgOf_B0 K (n + 1) ((t0, (t1, (t10, (t11, ())))), ((b64_0, (b64_1, (b64_2, (b64_3, ())))), ((b144_0, (b144_1, (b144_2, (b144_3, ())))), ((b272_0, (b272_1, (b272_2, ()))), (a960000, ()))))) =
 brk (decide (t11 < t10))
 (brk b272_2
 ((spec_l4Num_F ((b272_0, (b272_1, (b272_2, ()))), ())).bind fun y65 =>
 ck (decide ((a960000.length + [y65.1.1].length) * 8 ≤ big47)) (iterG spec_MsgOf_t0 spec_MsgOf_B0 K n ((t0, (t1, (t10, (IntKind.i64.wrap (t11 + (1 : Int)), ())))), ((b64_0, (b64_1, (b64_2, (b64_3, ())))), ((b144_0, (b144_1, (b144_2, (b144_3, ())))), ((y65.2.1.1, (y65.2.1.2.1, (y65.2.1.2.2.1, ()))), (a960000 ++ [y65.1.1], ())))))))
 (K (.exit 0) (spec_MsgOf_x0_0 t0 t1 b64_0 b64_1 b64_2 b64_3 b144_0 b144_1 b144_2 b144_3 b272_0 b272_1 b272_2 a960000)))
 (K (.exit 0) (spec_MsgOf_x0_0 t0 t1 b64_0 b64_1 b64_2 b64_3 b144_0 b144_1 b144_2 b144_3 b272_0 b272_1 b272_2 a960000)) := by kernel_rfl
theorem spec_MsgOf_e0_0 (x0 : List Int) (x1 : Int) (d0 : List Int) (d1 : Int) (d2 : Int) (d3 : Int) (d4 : Int) (d5 : Int) (d6 : Int) (d7 : Int) (d8 : Int) (d9 : Int) (d10 : List Int) (d11 : Int) (d12 : Bool) (d13 : List Int) : spec_MsgOf_K0 x0 x1 (.exit 0) (spec_MsgOf_x0_0 d0 d1 d2 d3 d4 d5 d6 d7 d8 d9 d10 d11 d12 d13) =
 (spec_MsgBytes_F ((d6, (d7, (d8, (d9, (d13, ()))))), ())).bind fun y73 =>
 brk (!d12)
 (some ((((0 : Int), ((0 : Int), ((0 : Int), ((0 : Int), (([] : List Int), ()))))), ((0 : Int), (false, ()))), ((), ((), ()))))
 (brk (decide ((y73.1.1.length : Int) = (0 : Int)))
 (some ((((0 : Int), ((0 : Int), ((0 : Int), ((0 : Int), (([] : List Int), ()))))), ((0 : Int), (false, ()))), ((), ((), ()))))
 (brk (decide (IntKind.i64.wrap ((d0.length : Int) - d1) < (y73.1.1.length : Int)))
 (some ((((0 : Int), ((0 : Int), ((0 : Int), ((0 : Int), (([] : List Int), ()))))), ((0 : Int), (false, ()))), ((), ((), ()))))
 (ck (decide (0 ≤ d1) && decide (d1 ≤ IntKind.i64.wrap (d1 + (y73.1.1.length : Int))) && decide (IntKind.i64.wrap (d1 + (y73.1.1.length : Int)) ≤ d0.length)) (brk (!decide (y73.1.1 = (d0.take (IntKind.i64.wrap (d1 + (y73.1.1.length : Int))).toNat).drop d1.toNat))
 (some ((((0 : Int), ((0 : Int), ((0 : Int), ((0 : Int), (([] : List Int), ()))))), ((0 : Int), (false, ()))), ((), ((), ()))))
 (some (((d6, (d7, (d8, (d9, (d13, ()))))), (IntKind.i64.wrap (d1 + (y73.1.1.length : Int)), (true, ()))), ((), ((), ())))))))) := by kernel_rfl
/-! spec.l1Min -/
noncomputable def spec_l1Min_b : Code := bd Try.f111
def spec_l1Min_T : List (Nat × Tm) := []
noncomputable def spec_l1Min_E : Env := ⟨tt0, []⟩
noncomputable def spec_l1Min_F : PsD [.ro tI, .ro tI] → Option (RsD [.own tI] × PsO [.ro tI, .ro tI]) := fun x => evFn spec_l1Min_E spec_l1Min_T Try.f111 spec_l1Min_b [.ro tI, .ro tI] [.own tI] x
@[reducible] noncomputable def spec_l1Min_C : Ct := ⟨[.ro tI, .ro tI], [.own tI], spec_l1Min_F⟩
theorem spec_l1Min_h (x : PsD [.ro tI, .ro tI]) (y : RsD [.own tI] × PsO [.ro tI, .ro tI]) (h : spec_l1Min_F x = some y) : evFn spec_l1Min_E spec_l1Min_T Try.f111 spec_l1Min_b [.ro tI, .ro tI] [.own tI] x = some y := h
theorem spec_l1Min_c : ∀ f c, get spec_l1Min_E.ct f = some c → Sat Try.prog f c := ct_nil
theorem spec_l1Min_S : Sat Try.prog 111 spec_l1Min_C := fn_ok2 (envOk _) spec_l1Min_c mixedOk Try.func111 (by kernel_rfl : Try.f111.body = some spec_l1Min_b) (by kernel_rfl) (by kernel_rfl) spec_l1Min_h
noncomputable def spec_l1Min_Ke  (x0 : Int) (x1 : Int) : Ex → AS → Option (RsD [.own tI] × PsO [.ro tI, .ro tI]) := endK spec_l1Min_E Try.f111 [.ro tI, .ro tI] [.own tI] (initL [.ro tI, .ro tI] (x0, (x1, ())) 0).1
theorem spec_l1Min_main (x0 : Int) (x1 : Int) : spec_l1Min_F (x0, (x1, ())) =
 brk (decide (x0 < x1))
 (some ((x0, ()), ((), ((), ()))))
 (some ((x1, ()), ((), ((), ())))) := by kernel_rfl
/-! spec.Run -/
noncomputable def spec_Run_b : Code := bd Try.f112
@[reducible] def spec_Run_t0 : Tm := ⟨[], [], [(0, .sc true tYs), (1, .sc true tI), (2, .sc true tI), (7, .sc true tI)], [], [7], []⟩
def spec_Run_T : List (Nat × Tm) := [(0, spec_Run_t0)]
noncomputable def spec_Run_E : Env := ⟨tt0, [(68, spec_l1In_C), (111, spec_l1Min_C)]⟩
noncomputable def spec_Run_F : PsD [.ro tYs, .ro tI, .ro tI] → Option (RsD [.own tI] × PsO [.ro tYs, .ro tI, .ro tI]) := fun x => evFn spec_Run_E spec_Run_T Try.f112 spec_Run_b [.ro tYs, .ro tI, .ro tI] [.own tI] x
@[reducible] noncomputable def spec_Run_C : Ct := ⟨[.ro tYs, .ro tI, .ro tI], [.own tI], spec_Run_F⟩
theorem spec_Run_h (x : PsD [.ro tYs, .ro tI, .ro tI]) (y : RsD [.own tI] × PsO [.ro tYs, .ro tI, .ro tI]) (h : spec_Run_F x = some y) : evFn spec_Run_E spec_Run_T Try.f112 spec_Run_b [.ro tYs, .ro tI, .ro tI] [.own tI] x = some y := h
theorem spec_Run_c : ∀ f c, get spec_Run_E.ct f = some c → Sat Try.prog f c := ct_cons spec_l1In_S (ct_cons spec_l1Min_S (ct_nil))
theorem spec_Run_S : Sat Try.prog 112 spec_Run_C := fn_ok2 (envOk _) spec_Run_c mixedOk Try.func112 (by kernel_rfl : Try.f112.body = some spec_Run_b) (by kernel_rfl) (by kernel_rfl) spec_Run_h
noncomputable def spec_Run_Ke  (x0 : List Int) (x1 : Int) (x2 : Int) : Ex → AS → Option (RsD [.own tI] × PsO [.ro tYs, .ro tI, .ro tI]) := endK spec_Run_E Try.f112 [.ro tYs, .ro tI, .ro tI] [.own tI] (initL [.ro tYs, .ro tI, .ro tI] (x0, (x1, (x2, ()))) 0).1
noncomputable def spec_Run_B0 {R : Type} : AS → (Ex → AS → Option R) → Option R := fun A K => ev spec_Run_E spec_Run_T 0 (cA (cA (cA (cB (cB (cB spec_Run_b)))))) A K
noncomputable def spec_Run_K0  (x0 : List Int) (x1 : Int) (x2 : Int) : Ex → AS → Option (RsD [.own tI] × PsO [.ro tYs, .ro tI, .ro tI]) := kBlk 0 (kSeq (fun A K => ev spec_Run_E spec_Run_T 1000 (cB (cB (cB (cB spec_Run_b)))) A K) (spec_Run_Ke x0 x1 x2))
noncomputable def spec_Run_x0_0 (d0 : Int) : AS := ⟨[(7, .v (.one (.d true tI d0)))], []⟩
theorem spec_Run_l0 {R : Type} {K : Ex → AS → Option R} {s : spec_Run_t0.D} (n : Nat) {v : Option R} (h : iterG spec_Run_t0 spec_Run_B0 K n s = v) (hv : ∃ r, v = some r) : loopG spec_Run_t0 spec_Run_B0 K s = v := loop_eq (ev_mono _ _) n h hv
theorem spec_Run_main (x0 : List Int) (x1 : Int) (x2 : Int) : spec_Run_F (x0, (x1, (x2, ()))) =
 (spec_l1In_F (x1, ((0 : Int), (IntKind.i64.wrap ((x0.length : Int) - (1 : Int)), ())))).bind fun y12 =>
 brk (!y12.1.1)
 (some (((0 : Int), ()), ((), ((), ((), ())))))
 ((spec_l1Min_F (x1, ((255 : Int), ()))).bind fun y17 =>
 (spec_l1In_F (x2, ((1 : Int), (y17.1.1, ())))).bind fun y18 =>
 brk (!y18.1.1)
 (some (((0 : Int), ()), ((), ((), ((), ())))))
 (loopG spec_Run_t0 spec_Run_B0 (spec_Run_K0 x0 x1 x2) ((x0, (x1, (x2, ((0 : Int), ())))), ()))) := by kernel_rfl
theorem spec_Run_r0 {R : Type} (K : Ex → AS → Option R) (n : Nat) (t0 : List Int) (t1 : Int) (t2 : Int) (t7 : Int) : iterG spec_Run_t0 spec_Run_B0 K (n + 1) ((t0, (t1, (t2, (t7, ())))), ()) =
 brk (decide (t7 < (100 : Int)))
 (brk (decide (IntKind.i64.wrap (t1 + t7) < (t0.length : Int)))
 (ck (decide (0 ≤ IntKind.i64.wrap (t1 + t7)) && decide (IntKind.i64.wrap (t1 + t7) < t0.length)) (ck (decide (0 ≤ IntKind.i64.wrap ((IntKind.i64.wrap (t1 + t7)) - t2)) && decide (IntKind.i64.wrap ((IntKind.i64.wrap (t1 + t7)) - t2) < t0.length)) (brk (decide (rdD tY t0 (IntKind.i64.wrap (t1 + t7)) = rdD tY t0 (IntKind.i64.wrap ((IntKind.i64.wrap (t1 + t7)) - t2))))
 (iterG spec_Run_t0 spec_Run_B0 K n ((t0, (t1, (t2, (IntKind.i64.wrap (t7 + (1 : Int)), ())))), ()))
 (K (.exit 0) (spec_Run_x0_0 t7)))))
 (K (.exit 0) (spec_Run_x0_0 t7)))
 (K (.exit 0) (spec_Run_x0_0 t7)) := by kernel_rfl
theorem spec_Run_e0_0 (x0 : List Int) (x1 : Int) (x2 : Int) (d0 : Int) : spec_Run_K0 x0 x1 x2 (.exit 0) (spec_Run_x0_0 d0) =
 some ((d0, ()), ((), ((), ((), ())))) := by kernel_rfl
/-! spec.l3Best -/
noncomputable def spec_l3Best_b : Code := bd Try.f105
@[reducible] def spec_l3Best_t0 : Tm := ⟨[], [], [(0, .sc true tYs), (1, .sc true tI), (6, .sc true tI), (7, .sc true tI), (8, .sc true tI)], [], [6, 7], []⟩
def spec_l3Best_T : List (Nat × Tm) := [(0, spec_l3Best_t0)]
noncomputable def spec_l3Best_E : Env := ⟨tt0, [(111, spec_l1Min_C), (112, spec_Run_C)]⟩
noncomputable def spec_l3Best_F : PsD [.ro tYs, .ro tI] → Option (RsD [.own tI, .own tI] × PsO [.ro tYs, .ro tI]) := fun x => evFn spec_l3Best_E spec_l3Best_T Try.f105 spec_l3Best_b [.ro tYs, .ro tI] [.own tI, .own tI] x
@[reducible] noncomputable def spec_l3Best_C : Ct := ⟨[.ro tYs, .ro tI], [.own tI, .own tI], spec_l3Best_F⟩
theorem spec_l3Best_h (x : PsD [.ro tYs, .ro tI]) (y : RsD [.own tI, .own tI] × PsO [.ro tYs, .ro tI]) (h : spec_l3Best_F x = some y) : evFn spec_l3Best_E spec_l3Best_T Try.f105 spec_l3Best_b [.ro tYs, .ro tI] [.own tI, .own tI] x = some y := h
theorem spec_l3Best_c : ∀ f c, get spec_l3Best_E.ct f = some c → Sat Try.prog f c := ct_cons spec_l1Min_S (ct_cons spec_Run_S (ct_nil))
theorem spec_l3Best_S : Sat Try.prog 105 spec_l3Best_C := fn_ok2 (envOk _) spec_l3Best_c mixedOk Try.func105 (by kernel_rfl : Try.f105.body = some spec_l3Best_b) (by kernel_rfl) (by kernel_rfl) spec_l3Best_h
noncomputable def spec_l3Best_Ke  (x0 : List Int) (x1 : Int) : Ex → AS → Option (RsD [.own tI, .own tI] × PsO [.ro tYs, .ro tI]) := endK spec_l3Best_E Try.f105 [.ro tYs, .ro tI] [.own tI, .own tI] (initL [.ro tYs, .ro tI] (x0, (x1, ())) 0).1
noncomputable def spec_l3Best_B0 {R : Type} : AS → (Ex → AS → Option R) → Option R := fun A K => ev spec_l3Best_E spec_l3Best_T 0 (cA (cA (cB (cA (cB (cB spec_l3Best_b)))))) A K
noncomputable def spec_l3Best_K0  (x0 : List Int) (x1 : Int) : Ex → AS → Option (RsD [.own tI, .own tI] × PsO [.ro tYs, .ro tI]) := kBlk 0 (kSeq (fun A K => ev spec_l3Best_E spec_l3Best_T 1000 (cB (cB (cB spec_l3Best_b))) A K) (spec_l3Best_Ke x0 x1))
noncomputable def spec_l3Best_x0_0 (d0 : Int) (d1 : Int) : AS := ⟨[(6, .v (.one (.d true tI d0))), (7, .v (.one (.d true tI d1)))], []⟩
theorem spec_l3Best_l0 {R : Type} {K : Ex → AS → Option R} {s : spec_l3Best_t0.D} (n : Nat) {v : Option R} (h : iterG spec_l3Best_t0 spec_l3Best_B0 K n s = v) (hv : ∃ r, v = some r) : loopG spec_l3Best_t0 spec_l3Best_B0 K s = v := loop_eq (ev_mono _ _) n h hv
theorem spec_l3Best_main (x0 : List Int) (x1 : Int) : spec_l3Best_F (x0, (x1, ())) =
 loopG spec_l3Best_t0 spec_l3Best_B0 (spec_l3Best_K0 x0 x1) ((x0, (x1, ((0 : Int), ((0 : Int), ((1 : Int), ()))))), ()) := by kernel_rfl
theorem spec_l3Best_r0 {R : Type} (K : Ex → AS → Option R) (n : Nat) (t0 : List Int) (t1 : Int) (t6 : Int) (t7 : Int) (t8 : Int) : iterG spec_l3Best_t0 spec_l3Best_B0 K (n + 1) ((t0, (t1, (t6, (t7, (t8, ()))))), ()) =
 (spec_l1Min_F (t1, ((255 : Int), ()))).bind fun y12 =>
 brk (decide (t8 ≤ y12.1.1))
 ((spec_Run_F (t0, (t1, (t8, ())))).bind fun y19 =>
 brk (decide (t7 < y19.1.1))
 (iterG spec_l3Best_t0 spec_l3Best_B0 K n ((t0, (t1, (t8, (y19.1.1, (IntKind.i64.wrap (t8 + (1 : Int)), ()))))), ()))
 (iterG spec_l3Best_t0 spec_l3Best_B0 K n ((t0, (t1, (t6, (t7, (IntKind.i64.wrap (t8 + (1 : Int)), ()))))), ())))
 (K (.exit 0) (spec_l3Best_x0_0 t6 t7)) := by kernel_rfl
theorem spec_l3Best_e0_0 (x0 : List Int) (x1 : Int) (d0 : Int) (d1 : Int) : spec_l3Best_K0 x0 x1 (.exit 0) (spec_l3Best_x0_0 d0 d1) =
 some ((d0, (d1, ())), ((), ((), ()))) := by kernel_rfl
/-! spec.Squeeze -/
noncomputable def spec_Squeeze_b : Code := bd Try.f90
@[reducible] def spec_Squeeze_t0 : Tm := ⟨[(3, 960000)], [], [(0, .sc true tYs), (3, .own 960000), (4, .sc true tI)], [(960000, .arr 5 tY)], [3], [960000]⟩
def spec_Squeeze_T : List (Nat × Tm) := [(0, spec_Squeeze_t0)]
noncomputable def spec_Squeeze_E : Env := ⟨tt0, [(105, spec_l3Best_C)]⟩
noncomputable def spec_Squeeze_F : PsD [.ro tYs] → Option (RsD [.own tYs] × PsO [.ro tYs]) := fun x => evFn spec_Squeeze_E spec_Squeeze_T Try.f90 spec_Squeeze_b [.ro tYs] [.own tYs] x
@[reducible] noncomputable def spec_Squeeze_C : Ct := ⟨[.ro tYs], [.own tYs], spec_Squeeze_F⟩
theorem spec_Squeeze_h (x : PsD [.ro tYs]) (y : RsD [.own tYs] × PsO [.ro tYs]) (h : spec_Squeeze_F x = some y) : evFn spec_Squeeze_E spec_Squeeze_T Try.f90 spec_Squeeze_b [.ro tYs] [.own tYs] x = some y := h
theorem spec_Squeeze_c : ∀ f c, get spec_Squeeze_E.ct f = some c → Sat Try.prog f c := ct_cons spec_l3Best_S (ct_nil)
theorem spec_Squeeze_S : Sat Try.prog 90 spec_Squeeze_C := fn_ok2 (envOk _) spec_Squeeze_c mixedOk Try.func90 (by kernel_rfl : Try.f90.body = some spec_Squeeze_b) (by kernel_rfl) (by kernel_rfl) spec_Squeeze_h
noncomputable def spec_Squeeze_Ke  (x0 : List Int) : Ex → AS → Option (RsD [.own tYs] × PsO [.ro tYs]) := endK spec_Squeeze_E Try.f90 [.ro tYs] [.own tYs] (initL [.ro tYs] (x0, ()) 0).1
noncomputable def spec_Squeeze_B0 {R : Type} : AS → (Ex → AS → Option R) → Option R := fun A K => ev spec_Squeeze_E spec_Squeeze_T 0 (cA (cA (cB (cA (cB (cB (cB spec_Squeeze_b))))))) A K
noncomputable def spec_Squeeze_K0  (x0 : List Int) : Ex → AS → Option (RsD [.own tYs] × PsO [.ro tYs]) := kBlk 0 (kSeq (fun A K => ev spec_Squeeze_E spec_Squeeze_T 1000 (cB (cB (cB (cB spec_Squeeze_b)))) A K) (spec_Squeeze_Ke x0))
noncomputable def spec_Squeeze_x0_0 (d0 : List Int) : AS := ⟨[(3, .v (.one (.own 960000)))], [(960000, .arr 5 tY d0)]⟩
theorem spec_Squeeze_l0 {R : Type} {K : Ex → AS → Option R} {s : spec_Squeeze_t0.D} (n : Nat) {v : Option R} (h : iterG spec_Squeeze_t0 spec_Squeeze_B0 K n s = v) (hv : ∃ r, v = some r) : loopG spec_Squeeze_t0 spec_Squeeze_B0 K s = v := loop_eq (ev_mono _ _) n h hv
theorem spec_Squeeze_main (x0 : List Int) : spec_Squeeze_F (x0, ()) =
 brk (decide ((3000 : Int) < (x0.length : Int)))
 (some ((([] : List Int), ()), ((), ())))
 (loopG spec_Squeeze_t0 spec_Squeeze_B0 (spec_Squeeze_K0 x0) ((x0, ((0 : Int), ())), (([] : List Int), ()))) := by kernel_rfl
theorem spec_Squeeze_r0 {R : Type} (K : Ex → AS → Option R) (n : Nat) (t0 : List Int) (t4 : Int) (a960000 : List Int) : iterG spec_Squeeze_t0 spec_Squeeze_B0 K (n + 1) ((t0, (t4, ())), (a960000, ())) =
 brk (decide (t4 < (t0.length : Int)))
 ((spec_l3Best_F (t0, (t4, ()))).bind fun y19 =>
 brk (decide ((3 : Int) ≤ y19.1.2.1))
 (ck (decide ((a960000.length + [IntKind.u8.wrap (IntKind.i64.wrap ((128 : Int) + y19.1.2.1)), IntKind.u8.wrap y19.1.1].length) * 1 ≤ big47)) (iterG spec_Squeeze_t0 spec_Squeeze_B0 K n ((t0, (IntKind.i64.wrap (t4 + y19.1.2.1), ())), (a960000 ++ [IntKind.u8.wrap (IntKind.i64.wrap ((128 : Int) + y19.1.2.1)), IntKind.u8.wrap y19.1.1], ()))))
 (ck (decide (0 ≤ t4) && decide (t4 < t0.length)) (brk (decide (rdD tY t0 t4 = (0 : Int)))
 (ck (decide ((a960000.length + [(0 : Int)].length) * 1 ≤ big47)) (ck (decide (0 ≤ t4) && decide (t4 < t0.length)) (ck (decide (((a960000 ++ [(0 : Int)]).length + [rdD tY t0 t4].length) * 1 ≤ big47)) (iterG spec_Squeeze_t0 spec_Squeeze_B0 K n ((t0, (IntKind.i64.wrap (t4 + (1 : Int)), ())), ((a960000 ++ [(0 : Int)]) ++ [rdD tY t0 t4], ()))))))
 (ck (decide (0 ≤ t4) && decide (t4 < t0.length)) (brk (decide ((127 : Int) < rdD tY t0 t4))
 (ck (decide ((a960000.length + [(0 : Int)].length) * 1 ≤ big47)) (ck (decide (0 ≤ t4) && decide (t4 < t0.length)) (ck (decide (((a960000 ++ [(0 : Int)]).length + [rdD tY t0 t4].length) * 1 ≤ big47)) (iterG spec_Squeeze_t0 spec_Squeeze_B0 K n ((t0, (IntKind.i64.wrap (t4 + (1 : Int)), ())), ((a960000 ++ [(0 : Int)]) ++ [rdD tY t0 t4], ()))))))
 (ck (decide (0 ≤ t4) && decide (t4 < t0.length)) (ck (decide ((a960000.length + [rdD tY t0 t4].length) * 1 ≤ big47)) (iterG spec_Squeeze_t0 spec_Squeeze_B0 K n ((t0, (IntKind.i64.wrap (t4 + (1 : Int)), ())), (a960000 ++ [rdD tY t0 t4], ()))))))))))
 (K (.exit 0) (spec_Squeeze_x0_0 a960000)) := by kernel_rfl
theorem spec_Squeeze_e0_0 (x0 : List Int) (d0 : List Int) : spec_Squeeze_K0 x0 (.exit 0) (spec_Squeeze_x0_0 d0) =
 some ((d0, ()), ((), ())) := by kernel_rfl
/-! spec.Pack -/
noncomputable def spec_Pack_b : Code := bd Try.f42
@[reducible] def spec_Pack_t0 : Tm := ⟨[(3, 960000)], [], [(0, .sc true tMsgs), (3, .own 960000), (4, .sc true tI)], [(960000, .arr 5 tY)], [3], [960000]⟩
def spec_Pack_T : List (Nat × Tm) := [(0, spec_Pack_t0)]
noncomputable def spec_Pack_E : Env := ⟨tt0, [(39, spec_MsgBytes_C), (90, spec_Squeeze_C)]⟩
noncomputable def spec_Pack_F : PsD [.ro tMsgs] → Option (RsD [.own tYs] × PsO [.ro tMsgs]) := fun x => evFn spec_Pack_E spec_Pack_T Try.f42 spec_Pack_b [.ro tMsgs] [.own tYs] x
@[reducible] noncomputable def spec_Pack_C : Ct := ⟨[.ro tMsgs], [.own tYs], spec_Pack_F⟩
theorem spec_Pack_h (x : PsD [.ro tMsgs]) (y : RsD [.own tYs] × PsO [.ro tMsgs]) (h : spec_Pack_F x = some y) : evFn spec_Pack_E spec_Pack_T Try.f42 spec_Pack_b [.ro tMsgs] [.own tYs] x = some y := h
theorem spec_Pack_c : ∀ f c, get spec_Pack_E.ct f = some c → Sat Try.prog f c := ct_cons spec_MsgBytes_S (ct_cons spec_Squeeze_S (ct_nil))
theorem spec_Pack_S : Sat Try.prog 42 spec_Pack_C := fn_ok2 (envOk _) spec_Pack_c mixedOk Try.func42 (by kernel_rfl : Try.f42.body = some spec_Pack_b) (by kernel_rfl) (by kernel_rfl) spec_Pack_h
noncomputable def spec_Pack_Ke  (x0 : List (Int × Int × Int × Int × List Int × Unit)) : Ex → AS → Option (RsD [.own tYs] × PsO [.ro tMsgs]) := endK spec_Pack_E Try.f42 [.ro tMsgs] [.own tYs] (initL [.ro tMsgs] (x0, ()) 0).1
noncomputable def spec_Pack_B0 {R : Type} : AS → (Ex → AS → Option R) → Option R := fun A K => ev spec_Pack_E spec_Pack_T 0 (cA (cA (cB (cA (cB (cB spec_Pack_b)))))) A K
noncomputable def spec_Pack_K0  (x0 : List (Int × Int × Int × Int × List Int × Unit)) : Ex → AS → Option (RsD [.own tYs] × PsO [.ro tMsgs]) := kBlk 0 (kSeq (fun A K => ev spec_Pack_E spec_Pack_T 1000 (cB (cB (cB spec_Pack_b))) A K) (spec_Pack_Ke x0))
noncomputable def spec_Pack_x0_0 (d0 : List Int) : AS := ⟨[(3, .v (.one (.own 960000)))], [(960000, .arr 5 tY d0)]⟩
theorem spec_Pack_l0 {R : Type} {K : Ex → AS → Option R} {s : spec_Pack_t0.D} (n : Nat) {v : Option R} (h : iterG spec_Pack_t0 spec_Pack_B0 K n s = v) (hv : ∃ r, v = some r) : loopG spec_Pack_t0 spec_Pack_B0 K s = v := loop_eq (ev_mono _ _) n h hv
theorem spec_Pack_main (x0 : List (Int × Int × Int × Int × List Int × Unit)) : spec_Pack_F (x0, ()) =
 loopG spec_Pack_t0 spec_Pack_B0 (spec_Pack_K0 x0) ((x0, ((0 : Int), ())), (([] : List Int), ())) := by kernel_rfl
theorem spec_Pack_r0 {R : Type} (K : Ex → AS → Option R) (n : Nat) (t0 : List (Int × Int × Int × Int × List Int × Unit)) (t4 : Int) (a960000 : List Int) : iterG spec_Pack_t0 spec_Pack_B0 K (n + 1) ((t0, (t4, ())), (a960000, ())) =
 brk (decide (t4 < (t0.length : Int)))
 (ck (decide (0 ≤ t4) && decide (t4 < t0.length)) ((spec_MsgBytes_F (((rdD tMsg t0 t4).1, (((rdD tMsg t0 t4).2).1, ((((rdD tMsg t0 t4).2).2).1, (((((rdD tMsg t0 t4).2).2).2).1, ((((((rdD tMsg t0 t4).2).2).2).2).1, ()))))), ())).bind fun y17 =>
 ck (decide ((a960000.length + y17.1.1.length) * 1 ≤ big47)) (iterG spec_Pack_t0 spec_Pack_B0 K n ((t0, (IntKind.i64.wrap (t4 + (1 : Int)), ())), (a960000 ++ y17.1.1, ())))))
 (K (.exit 0) (spec_Pack_x0_0 a960000)) := by kernel_rfl
theorem spec_Pack_e0_0 (x0 : List (Int × Int × Int × Int × List Int × Unit)) (d0 : List Int) : spec_Pack_K0 x0 (.exit 0) (spec_Pack_x0_0 d0) =
 (spec_Squeeze_F (d0, ())).bind fun y20 =>
 some ((y20.1.1, ()), ((), ())) := by kernel_rfl
/-! spec.Spread -/
noncomputable def spec_Spread_b : Code := bd Try.f70
@[reducible] def spec_Spread_t0 : Tm := ⟨[(5, 960000)], [], [(0, .sc true tYs), (4, .own 160), (5, .own 960000), (6, .sc true tI)], [(160, .arr 5 tY), (960000, .arr 5 tY)], [2, 3, 4, 5], [160, 960000, 960600]⟩
@[reducible] def spec_Spread_t2 : Tm := ⟨[(5, 960600)], [], [(0, .sc true tYs), (4, .own 160), (5, .own 960600), (6, .sc true tI), (7, .sc true tI), (8, .sc true tI), (9, .sc true tI), (64, .sc true tI), (65, .own 960000), (66, .sc true tI), (67, .sc true tB), (68, .sc true tB)], [(160, .arr 5 tY), (960600, .arr 5 tY)], [0, 4, 5, 6, 51, 52, 64, 65, 66, 67, 68], [160, 960600]⟩
def spec_Spread_T : List (Nat × Tm) := [(0, spec_Spread_t0), (2, spec_Spread_t2)]
noncomputable def spec_Spread_E : Env := ⟨tt0, [(68, spec_l1In_C)]⟩
noncomputable def spec_Spread_F : PsD [.ro tYs] → Option (RsD [.own tYs, .own tB] × PsO [.ro tYs]) := fun x => evFn spec_Spread_E spec_Spread_T Try.f70 spec_Spread_b [.ro tYs] [.own tYs, .own tB] x
@[reducible] noncomputable def spec_Spread_C : Ct := ⟨[.ro tYs], [.own tYs, .own tB], spec_Spread_F⟩
theorem spec_Spread_h (x : PsD [.ro tYs]) (y : RsD [.own tYs, .own tB] × PsO [.ro tYs]) (h : spec_Spread_F x = some y) : evFn spec_Spread_E spec_Spread_T Try.f70 spec_Spread_b [.ro tYs] [.own tYs, .own tB] x = some y := h
theorem spec_Spread_c : ∀ f c, get spec_Spread_E.ct f = some c → Sat Try.prog f c := ct_cons spec_l1In_S (ct_nil)
theorem spec_Spread_S : Sat Try.prog 70 spec_Spread_C := fn_ok2 (envOk _) spec_Spread_c mixedOk Try.func70 (by kernel_rfl : Try.f70.body = some spec_Spread_b) (by kernel_rfl) (by kernel_rfl) spec_Spread_h
noncomputable def spec_Spread_Ke  (x0 : List Int) : Ex → AS → Option (RsD [.own tYs, .own tB] × PsO [.ro tYs]) := endK spec_Spread_E Try.f70 [.ro tYs] [.own tYs, .own tB] (initL [.ro tYs] (x0, ()) 0).1
noncomputable def spec_Spread_B0 {R : Type} : AS → (Ex → AS → Option R) → Option R := fun A K => ev spec_Spread_E spec_Spread_T 0 (cA (cA (cB (cA (cB (cB (cB spec_Spread_b))))))) A K
noncomputable def spec_Spread_B2 {R : Type} : AS → (Ex → AS → Option R) → Option R := fun A K => ev spec_Spread_E spec_Spread_T 2 (cA (cA (cB (cA (cB (cB (cB (cB (cB (cB (cB (cA (cB (cA (cA (cB (cA (cB (cB (cB spec_Spread_b)))))))))))))))))))) A K
noncomputable def spec_Spread_K0  (x0 : List Int) : Ex → AS → Option (RsD [.own tYs, .own tB] × PsO [.ro tYs]) := kBlk 0 (kSeq (fun A K => ev spec_Spread_E spec_Spread_T 1000 (cB (cB (cB (cB spec_Spread_b)))) A K) (spec_Spread_Ke x0))
noncomputable def spec_Spread_K2 {R : Type} (K : Ex → AS → Option R) (n : Nat) : Ex → AS → Option R := kBlk 2 (kSeq (fun A K => ev spec_Spread_E spec_Spread_T 1 (cB (cB (cB (cB (cB (cB (cB (cB (cA (cB (cA (cA (cB (cA (cB (cB (cB spec_Spread_b))))))))))))))))) A K) (kBlk 1 (iterK spec_Spread_t0 K (iterG spec_Spread_t0 spec_Spread_B0 K n))))
noncomputable def spec_Spread_x0_0 (d0 : Bool) (d1 : List Int) (d2 : List Int) : AS := ⟨[(2, .v (.one (.own 160))), (3, .v (.one (.d true tB d0))), (4, .v (.one (.own 160))), (5, .v (.one (.own 960000)))], [(160, .arr 5 tY d1), (960000, .arr 5 tY d2)]⟩
noncomputable def spec_Spread_x0_1 (d0 : List Int) (d1 : List Int) : AS := ⟨[(4, .v (.one (.own 160))), (5, .v (.one (.own 960000)))], [(160, .arr 5 tY d0), (960000, .arr 5 tY d1)]⟩
noncomputable def spec_Spread_x2_0 (d0 : List Int) (d1 : Int) (d2 : Int) (d3 : Int) (d4 : Bool) (d5 : Bool) (d6 : List Int) (d7 : List Int) : AS := ⟨[(0, .v (.one (.d true tYs d0))), (4, .v (.one (.own 160))), (5, .v (.one (.own 960600))), (6, .v (.one (.d true tI d1))), (64, .v (.one (.d true tI d2))), (65, .v (.one (.own 960000))), (66, .v (.one (.d true tI d3))), (67, .v (.one (.d true tB d4))), (68, .v (.one (.d true tB d5)))], [(160, .arr 5 tY d6), (960600, .arr 5 tY d7)]⟩
noncomputable def spec_Spread_x0_2 (d0 : Bool) (d1 : List Int) (d2 : List Int) : AS := ⟨[(2, .v (.one (.own 160))), (3, .v (.one (.d true tB d0))), (4, .v (.one (.own 160))), (5, .v (.one (.own 960600)))], [(160, .arr 5 tY d1), (960600, .arr 5 tY d2)]⟩
theorem spec_Spread_l0 {R : Type} {K : Ex → AS → Option R} {s : spec_Spread_t0.D} (n : Nat) {v : Option R} (h : iterG spec_Spread_t0 spec_Spread_B0 K n s = v) (hv : ∃ r, v = some r) : loopG spec_Spread_t0 spec_Spread_B0 K s = v := loop_eq (ev_mono _ _) n h hv
theorem spec_Spread_l2 {R : Type} {K : Ex → AS → Option R} {s : spec_Spread_t2.D} (n : Nat) {v : Option R} (h : iterG spec_Spread_t2 spec_Spread_B2 K n s = v) (hv : ∃ r, v = some r) : loopG spec_Spread_t2 spec_Spread_B2 K s = v := loop_eq (ev_mono _ _) n h hv
theorem spec_Spread_main (x0 : List Int) : spec_Spread_F (x0, ()) =
 loopG spec_Spread_t0 spec_Spread_B0 (spec_Spread_K0 x0) ((x0, ((0 : Int), ())), (([] : List Int), (([] : List Int), ()))) := by kernel_rfl
theorem spec_Spread_r0 {R : Type} (K : Ex → AS → Option R) (n : Nat) (t0 : List Int) (t6 : Int) (a160 : List Int) (a960000 : List Int) : iterG spec_Spread_t0 spec_Spread_B0 K (n + 1) ((t0, (t6, ())), (a160, (a960000, ()))) =
 brk (decide (t6 < (t0.length : Int)))
 (ck (decide (0 ≤ t6) && decide (t6 < t0.length)) ((spec_l1In_F (IntKind.i64.wrap (rdD tY t0 t6), ((1 : Int), ((127 : Int), ())))).bind fun y22 =>
 brk y22.1.1
 (ck (decide (0 ≤ t6) && decide (t6 < t0.length)) (ck (decide ((a960000.length + [rdD tY t0 t6].length) * 1 ≤ big47)) (iterG spec_Spread_t0 spec_Spread_B0 K n ((t0, (IntKind.i64.wrap (t6 + (1 : Int)), ())), (a160, (a960000 ++ [rdD tY t0 t6], ()))))))
 (brk (decide ((t0.length : Int) ≤ IntKind.i64.wrap (t6 + (1 : Int))))
 (K .ret (spec_Spread_x0_0 false a160 a960000))
 (ck (decide (0 ≤ IntKind.i64.wrap (t6 + (1 : Int))) && decide (IntKind.i64.wrap (t6 + (1 : Int)) < t0.length)) (brk (decide (IntKind.i64.wrap (rdD tY t0 t6) = (0 : Int)))
 (brk (!decide (IntKind.i64.wrap (rdD tY t0 (IntKind.i64.wrap (t6 + (1 : Int)))) = (0 : Int)))
 (brk (decide (IntKind.i64.wrap (rdD tY t0 (IntKind.i64.wrap (t6 + (1 : Int)))) < (128 : Int)))
 (K .ret (spec_Spread_x0_0 false a160 a960000))
 (ck (decide ((a960000.length + [IntKind.u8.wrap (IntKind.i64.wrap (rdD tY t0 (IntKind.i64.wrap (t6 + (1 : Int)))))].length) * 1 ≤ big47)) (iterG spec_Spread_t0 spec_Spread_B0 K n ((t0, (IntKind.i64.wrap (t6 + (2 : Int)), ())), (a160, (a960000 ++ [IntKind.u8.wrap (IntKind.i64.wrap (rdD tY t0 (IntKind.i64.wrap (t6 + (1 : Int)))))], ()))))))
 (ck (decide ((a960000.length + [IntKind.u8.wrap (IntKind.i64.wrap (rdD tY t0 (IntKind.i64.wrap (t6 + (1 : Int)))))].length) * 1 ≤ big47)) (iterG spec_Spread_t0 spec_Spread_B0 K n ((t0, (IntKind.i64.wrap (t6 + (2 : Int)), ())), (a160, (a960000 ++ [IntKind.u8.wrap (IntKind.i64.wrap (rdD tY t0 (IntKind.i64.wrap (t6 + (1 : Int)))))], ()))))))
 ((spec_l1In_F (IntKind.i64.wrap (rdD tY t0 t6), ((131 : Int), ((228 : Int), ())))).bind fun y61 =>
 brk (!y61.1.1)
 (K .ret (spec_Spread_x0_0 false a160 a960000))
 ((spec_l1In_F (IntKind.i64.wrap (rdD tY t0 (IntKind.i64.wrap (t6 + (1 : Int)))), ((1 : Int), ((a960000.length : Int), ())))).bind fun y67 =>
 brk (!y67.1.1)
 (K .ret (spec_Spread_x0_0 false a160 a960000))
 (loopG spec_Spread_t2 spec_Spread_B2 (spec_Spread_K2 K n) ((t0, (IntKind.i64.wrap (t6 + (2 : Int)), (IntKind.i64.wrap (rdD tY t0 t6), (IntKind.i64.wrap (rdD tY t0 (IntKind.i64.wrap (t6 + (1 : Int)))), ((0 : Int), (IntKind.i64.wrap (rdD tY t0 (IntKind.i64.wrap (t6 + (1 : Int)))), ((a960000.length : Int), (y67.1.1, (!y67.1.1, ()))))))))), (a160, (a960000, ())))))))))))
 (K (.exit 0) (spec_Spread_x0_1 a160 a960000)) := by kernel_rfl
theorem spec_Spread_r2 {R : Type} (K : Ex → AS → Option R) (n : Nat) (t0 : List Int) (t6 : Int) (t7 : Int) (t8 : Int) (t9 : Int) (t64 : Int) (t66 : Int) (t67 : Bool) (t68 : Bool) (a160 : List Int) (a960600 : List Int) : iterG spec_Spread_t2 spec_Spread_B2 K (n + 1) ((t0, (t6, (t7, (t8, (t9, (t64, (t66, (t67, (t68, ()))))))))), (a160, (a960600, ()))) =
 brk (decide (t9 < IntKind.i64.wrap (t7 - (128 : Int))))
 (ck (decide (0 ≤ IntKind.i64.wrap ((a960600.length : Int) - t8)) && decide (IntKind.i64.wrap ((a960600.length : Int) - t8) < a960600.length)) (ck (decide ((a960600.length + [rdD tY a960600 (IntKind.i64.wrap ((a960600.length : Int) - t8))].length) * 1 ≤ big47)) (iterG spec_Spread_t2 spec_Spread_B2 K n ((t0, (t6, (t7, (t8, (IntKind.i64.wrap (t9 + (1 : Int)), (t64, (t66, (t67, (t68, ()))))))))), (a160, (a960600 ++ [rdD tY a960600 (IntKind.i64.wrap ((a960600.length : Int) - t8))], ()))))))
 (K (.exit 2) (spec_Spread_x2_0 t0 t6 t64 t66 t67 t68 a160 a960600)) := by kernel_rfl
theorem spec_Spread_e0_0 (x0 : List Int) (d0 : Bool) (d1 : List Int) (d2 : List Int) : spec_Spread_K0 x0 .ret (spec_Spread_x0_0 d0 d1 d2) =
 some ((d1, (d0, ())), ((), ())) := by kernel_rfl
theorem spec_Spread_e0_1 (x0 : List Int) (d0 : List Int) (d1 : List Int) : spec_Spread_K0 x0 (.exit 0) (spec_Spread_x0_1 d0 d1) =
 brk (decide ((3000 : Int) < (d1.length : Int)))
 (some ((d0, (false, ())), ((), ())))
 (some ((d1, (true, ())), ((), ()))) := by kernel_rfl
theorem spec_Spread_e2_0 {R : Type} (K : Ex → AS → Option R) (n : Nat) (d0 : List Int) (d1 : Int) (d2 : Int) (d3 : Int) (d4 : Bool) (d5 : Bool) (d6 : List Int) (d7 : List Int) : spec_Spread_K2 K n (.exit 2) (spec_Spread_x2_0 d0 d1 d2 d3 d4 d5 d6 d7) =
 brk (decide ((3000 : Int) < (d7.length : Int)))
 (K .ret (spec_Spread_x0_2 false d6 d7))
 (iterG spec_Spread_t0 spec_Spread_B0 K n ((d0, (d1, ())), (d6, (d7, ())))) := by kernel_rfl
theorem spec_Spread_e0_2 (x0 : List Int) (d0 : Bool) (d1 : List Int) (d2 : List Int) : spec_Spread_K0 x0 .ret (spec_Spread_x0_2 d0 d1 d2) =
 some ((d1, (d0, ())), ((), ())) := by kernel_rfl
/-! spec.Unpack -/
noncomputable def spec_Unpack_b : Code := bd Try.f22
@[reducible] def spec_Unpack_t0 : Tm := ⟨[(4, 960000)], [], [(0, .sc true tYs), (4, .own 960000), (5, .own 224), (6, .sc true tB), (7, .sc true tI)], [(224, .arr 5 tY), (960000, .arr 47 tMsg)], [0, 4, 6, 40, 41, 42, 43, 44, 45], [960000]⟩
def spec_Unpack_T : List (Nat × Tm) := [(0, spec_Unpack_t0)]
noncomputable def spec_Unpack_E : Env := ⟨tt0, [(34, spec_MsgOf_C), (42, spec_Pack_C), (70, spec_Spread_C)]⟩
noncomputable def spec_Unpack_F : PsD [.ro tYs] → Option (RsD [.own tMsgs, .own tB] × PsO [.ro tYs]) := fun x => evFn spec_Unpack_E spec_Unpack_T Try.f22 spec_Unpack_b [.ro tYs] [.own tMsgs, .own tB] x
@[reducible] noncomputable def spec_Unpack_C : Ct := ⟨[.ro tYs], [.own tMsgs, .own tB], spec_Unpack_F⟩
theorem spec_Unpack_h (x : PsD [.ro tYs]) (y : RsD [.own tMsgs, .own tB] × PsO [.ro tYs]) (h : spec_Unpack_F x = some y) : evFn spec_Unpack_E spec_Unpack_T Try.f22 spec_Unpack_b [.ro tYs] [.own tMsgs, .own tB] x = some y := h
theorem spec_Unpack_c : ∀ f c, get spec_Unpack_E.ct f = some c → Sat Try.prog f c := ct_cons spec_MsgOf_S (ct_cons spec_Pack_S (ct_cons spec_Spread_S (ct_nil)))
theorem spec_Unpack_S : Sat Try.prog 22 spec_Unpack_C := fn_ok2 (envOk _) spec_Unpack_c mixedOk Try.func22 (by kernel_rfl : Try.f22.body = some spec_Unpack_b) (by kernel_rfl) (by kernel_rfl) spec_Unpack_h
noncomputable def spec_Unpack_Ke  (x0 : List Int) : Ex → AS → Option (RsD [.own tMsgs, .own tB] × PsO [.ro tYs]) := endK spec_Unpack_E Try.f22 [.ro tYs] [.own tMsgs, .own tB] (initL [.ro tYs] (x0, ()) 0).1
noncomputable def spec_Unpack_B0 {R : Type} : AS → (Ex → AS → Option R) → Option R := fun A K => ev spec_Unpack_E spec_Unpack_T 0 (cA (cA (cB (cA (cB (cB (cB spec_Unpack_b))))))) A K
noncomputable def spec_Unpack_K0  (x0 : List Int) : Ex → AS → Option (RsD [.own tMsgs, .own tB] × PsO [.ro tYs]) := kBlk 0 (kSeq (fun A K => ev spec_Unpack_E spec_Unpack_T 1000 (cB (cB (cB (cB spec_Unpack_b)))) A K) (spec_Unpack_Ke x0))
noncomputable def spec_Unpack_x0_0 (d0 : List Int) (d1 : Bool) (d2 : List (Int × Int × Int × Int × List Int × Unit)) : AS := ⟨[(0, .v (.one (.d true tYs d0))), (4, .v (.one (.own 960000))), (6, .v (.one (.d true tB d1)))], [(960000, .arr 47 tMsg d2)]⟩
theorem spec_Unpack_l0 {R : Type} {K : Ex → AS → Option R} {s : spec_Unpack_t0.D} (n : Nat) {v : Option R} (h : iterG spec_Unpack_t0 spec_Unpack_B0 K n s = v) (hv : ∃ r, v = some r) : loopG spec_Unpack_t0 spec_Unpack_B0 K s = v := loop_eq (ev_mono _ _) n h hv
theorem spec_Unpack_main (x0 : List Int) : spec_Unpack_F (x0, ()) =
 (spec_Spread_F (x0, ())).bind fun y14 =>
 loopG spec_Unpack_t0 spec_Unpack_B0 (spec_Unpack_K0 x0) ((x0, (y14.1.2.1, ((0 : Int), ()))), (y14.1.1, (([] : List (Int × Int × Int × Int × List Int × Unit)), ()))) := by kernel_rfl
theorem spec_Unpack_r0 {R : Type} (K : Ex → AS → Option R) (n : Nat) (t0 : List Int) (t6 : Bool) (t7 : Int) (a224 : List Int) (a960000 : List (Int × Int × Int × Int × List Int × Unit)) : iterG spec_Unpack_t0 spec_Unpack_B0 K (n + 1) ((t0, (t6, (t7, ()))), (a224, (a960000, ()))) =
 brk t6
 (brk (decide (t7 < (a224.length : Int)))
 ((spec_MsgOf_F (a224, (t7, ()))).bind fun y27 =>
 ck (decide ((a960000.length + [(y27.1.1.1, (y27.1.1.2.1, (y27.1.1.2.2.1, (y27.1.1.2.2.2.1, (y27.1.1.2.2.2.2.1, ())))))].length) * 56 ≤ big47)) (iterG spec_Unpack_t0 spec_Unpack_B0 K n ((t0, (y27.1.2.2.1, (y27.1.2.1, ()))), (a224, (a960000 ++ [(y27.1.1.1, (y27.1.1.2.1, (y27.1.1.2.2.1, (y27.1.1.2.2.2.1, (y27.1.1.2.2.2.2.1, ())))))], ())))))
 (K (.exit 0) (spec_Unpack_x0_0 t0 t6 a960000)))
 (K (.exit 0) (spec_Unpack_x0_0 t0 t6 a960000)) := by kernel_rfl
theorem spec_Unpack_e0_0 (x0 : List Int) (d0 : List Int) (d1 : Bool) (d2 : List (Int × Int × Int × Int × List Int × Unit)) : spec_Unpack_K0 x0 (.exit 0) (spec_Unpack_x0_0 d0 d1 d2) =
 brk (!d1)
 (some ((([] : List (Int × Int × Int × Int × List Int × Unit)), (false, ())), ((), ())))
 ((spec_Pack_F (d2, ())).bind fun y41 =>
 brk (!decide (y41.1.1 = d0))
 (some ((([] : List (Int × Int × Int × Int × List Int × Unit)), (false, ())), ((), ())))
 (some ((d2, (true, ())), ((), ())))) := by kernel_rfl
/-! laws.toByteS -/
noncomputable def laws_toByteS_b : Code := bd Try.f23
@[reducible] def laws_toByteS_t0 : Tm := ⟨[], [], [(0, .sc true tYs), (3, .own 112), (4, .sc true tI)], [(112, .arr 5 tY)], [3], [112]⟩
def laws_toByteS_T : List (Nat × Tm) := [(0, laws_toByteS_t0)]
noncomputable def laws_toByteS_E : Env := ⟨tt0, []⟩
noncomputable def laws_toByteS_F : PsD [.ro tYs] → Option (RsD [.own tYs] × PsO [.ro tYs]) := fun x => evFn laws_toByteS_E laws_toByteS_T Try.f23 laws_toByteS_b [.ro tYs] [.own tYs] x
@[reducible] noncomputable def laws_toByteS_C : Ct := ⟨[.ro tYs], [.own tYs], laws_toByteS_F⟩
theorem laws_toByteS_h (x : PsD [.ro tYs]) (y : RsD [.own tYs] × PsO [.ro tYs]) (h : laws_toByteS_F x = some y) : evFn laws_toByteS_E laws_toByteS_T Try.f23 laws_toByteS_b [.ro tYs] [.own tYs] x = some y := h
theorem laws_toByteS_c : ∀ f c, get laws_toByteS_E.ct f = some c → Sat Try.prog f c := ct_nil
theorem laws_toByteS_S : Sat Try.prog 23 laws_toByteS_C := fn_ok2 (envOk _) laws_toByteS_c mixedOk Try.func23 (by kernel_rfl : Try.f23.body = some laws_toByteS_b) (by kernel_rfl) (by kernel_rfl) laws_toByteS_h
noncomputable def laws_toByteS_Ke  (x0 : List Int) : Ex → AS → Option (RsD [.own tYs] × PsO [.ro tYs]) := endK laws_toByteS_E Try.f23 [.ro tYs] [.own tYs] (initL [.ro tYs] (x0, ()) 0).1
noncomputable def laws_toByteS_B0 {R : Type} : AS → (Ex → AS → Option R) → Option R := fun A K => ev laws_toByteS_E laws_toByteS_T 0 (cA (cA (cB (cA (cB (cB laws_toByteS_b)))))) A K
noncomputable def laws_toByteS_K0  (x0 : List Int) : Ex → AS → Option (RsD [.own tYs] × PsO [.ro tYs]) := kBlk 0 (kSeq (fun A K => ev laws_toByteS_E laws_toByteS_T 1000 (cB (cB (cB laws_toByteS_b))) A K) (laws_toByteS_Ke x0))
noncomputable def laws_toByteS_x0_0 (d0 : List Int) : AS := ⟨[(3, .v (.one (.own 112)))], [(112, .arr 5 tY d0)]⟩
theorem laws_toByteS_l0 {R : Type} {K : Ex → AS → Option R} {s : laws_toByteS_t0.D} (n : Nat) {v : Option R} (h : iterG laws_toByteS_t0 laws_toByteS_B0 K n s = v) (hv : ∃ r, v = some r) : loopG laws_toByteS_t0 laws_toByteS_B0 K s = v := loop_eq (ev_mono _ _) n h hv
theorem laws_toByteS_main (x0 : List Int) : laws_toByteS_F (x0, ()) =
 ck (decide (0 ≤ (x0.length : Int)) && decide ((x0.length : Int) = (x0.length : Int)) && decide ((x0.length : Int) * (1 : Int) ≤ 140737488355328) && decide ((x0.length : Int) ≤ 140737488355328)) (loopG laws_toByteS_t0 laws_toByteS_B0 (laws_toByteS_K0 x0) ((x0, ((0 : Int), ())), (List.replicate (x0.length : Int).toNat tY.zero, ()))) := by kernel_rfl
theorem laws_toByteS_r0 {R : Type} (K : Ex → AS → Option R) (n : Nat) (t0 : List Int) (t4 : Int) (a112 : List Int) : iterG laws_toByteS_t0 laws_toByteS_B0 K (n + 1) ((t0, (t4, ())), (a112, ())) =
 brk (decide (t4 < (t0.length : Int)))
 (ck (decide (0 ≤ t4) && decide (t4 < t0.length)) (ck (decide (0 ≤ t4) && decide (t4 < a112.length)) (iterG laws_toByteS_t0 laws_toByteS_B0 K n ((t0, (IntKind.i64.wrap (t4 + (1 : Int)), ())), (a112.set t4.toNat (rdD tY t0 t4), ())))))
 (K (.exit 0) (laws_toByteS_x0_0 a112)) := by kernel_rfl
theorem laws_toByteS_e0_0 (x0 : List Int) (d0 : List Int) : laws_toByteS_K0 x0 (.exit 0) (laws_toByteS_x0_0 d0) =
 some ((d0, ()), ((), ())) := by kernel_rfl
/-! impl.from -/
noncomputable def impl_from_b : Code := bd Try.f65
def impl_from_T : List (Nat × Tm) := []
noncomputable def impl_from_E : Env := ⟨tt0, []⟩
noncomputable def impl_from_F : PsD [.ro tI, .ro tI, .ro tI] → Option (RsD [.own tB] × PsO [.ro tI, .ro tI, .ro tI]) := fun x => evFn impl_from_E impl_from_T Try.f65 impl_from_b [.ro tI, .ro tI, .ro tI] [.own tB] x
@[reducible] noncomputable def impl_from_C : Ct := ⟨[.ro tI, .ro tI, .ro tI], [.own tB], impl_from_F⟩
theorem impl_from_h (x : PsD [.ro tI, .ro tI, .ro tI]) (y : RsD [.own tB] × PsO [.ro tI, .ro tI, .ro tI]) (h : impl_from_F x = some y) : evFn impl_from_E impl_from_T Try.f65 impl_from_b [.ro tI, .ro tI, .ro tI] [.own tB] x = some y := h
theorem impl_from_c : ∀ f c, get impl_from_E.ct f = some c → Sat Try.prog f c := ct_nil
theorem impl_from_S : Sat Try.prog 65 impl_from_C := fn_ok2 (envOk _) impl_from_c mixedOk Try.func65 (by kernel_rfl : Try.f65.body = some impl_from_b) (by kernel_rfl) (by kernel_rfl) impl_from_h
noncomputable def impl_from_Ke  (x0 : Int) (x1 : Int) (x2 : Int) : Ex → AS → Option (RsD [.own tB] × PsO [.ro tI, .ro tI, .ro tI]) := endK impl_from_E Try.f65 [.ro tI, .ro tI, .ro tI] [.own tB] (initL [.ro tI, .ro tI, .ro tI] (x0, (x1, (x2, ()))) 0).1
theorem impl_from_main (x0 : Int) (x1 : Int) (x2 : Int) : impl_from_F (x0, (x1, (x2, ()))) =
 brk (decide (x1 ≤ x0))
 (some ((decide (x0 ≤ x2), ()), ((), ((), ((), ())))))
 (some ((false, ()), ((), ((), ((), ()))))) := by kernel_rfl
/-! slices.Index[[]int,int] -/
noncomputable def slices_Index_int_b : Code := bd Try.f107
@[reducible] def slices_Index_int_t0 : Tm := ⟨[], [], [(0, .sc true tIs), (1, .sc true tI), (7, .sc true tI), (8, .sc true tI)], [], [4], []⟩
def slices_Index_int_T : List (Nat × Tm) := [(0, slices_Index_int_t0)]
noncomputable def slices_Index_int_E : Env := ⟨tt0, []⟩
noncomputable def slices_Index_int_F : PsD [.ro tIs, .ro tI] → Option (RsD [.own tI] × PsO [.ro tIs, .ro tI]) := fun x => evFn slices_Index_int_E slices_Index_int_T Try.f107 slices_Index_int_b [.ro tIs, .ro tI] [.own tI] x
@[reducible] noncomputable def slices_Index_int_C : Ct := ⟨[.ro tIs, .ro tI], [.own tI], slices_Index_int_F⟩
theorem slices_Index_int_h (x : PsD [.ro tIs, .ro tI]) (y : RsD [.own tI] × PsO [.ro tIs, .ro tI]) (h : slices_Index_int_F x = some y) : evFn slices_Index_int_E slices_Index_int_T Try.f107 slices_Index_int_b [.ro tIs, .ro tI] [.own tI] x = some y := h
theorem slices_Index_int_c : ∀ f c, get slices_Index_int_E.ct f = some c → Sat Try.prog f c := ct_nil
theorem slices_Index_int_S : Sat Try.prog 107 slices_Index_int_C := fn_ok2 (envOk _) slices_Index_int_c mixedOk Try.func107 (by kernel_rfl : Try.f107.body = some slices_Index_int_b) (by kernel_rfl) (by kernel_rfl) slices_Index_int_h
noncomputable def slices_Index_int_Ke  (x0 : List Int) (x1 : Int) : Ex → AS → Option (RsD [.own tI] × PsO [.ro tIs, .ro tI]) := endK slices_Index_int_E Try.f107 [.ro tIs, .ro tI] [.own tI] (initL [.ro tIs, .ro tI] (x0, (x1, ())) 0).1
noncomputable def slices_Index_int_B0 {R : Type} : AS → (Ex → AS → Option R) → Option R := fun A K => ev slices_Index_int_E slices_Index_int_T 0 (cA (cA (cB (cA (cB slices_Index_int_b))))) A K
noncomputable def slices_Index_int_K0  (x0 : List Int) (x1 : Int) : Ex → AS → Option (RsD [.own tI] × PsO [.ro tIs, .ro tI]) := kBlk 0 (kSeq (fun A K => ev slices_Index_int_E slices_Index_int_T 1000 (cB (cB slices_Index_int_b)) A K) (slices_Index_int_Ke x0 x1))
noncomputable def slices_Index_int_x0_0 (d0 : Int) : AS := ⟨[(4, .v (.one (.d true tI d0)))], []⟩
noncomputable def slices_Index_int_x0_1 : AS := ⟨[], []⟩
theorem slices_Index_int_l0 {R : Type} {K : Ex → AS → Option R} {s : slices_Index_int_t0.D} (n : Nat) {v : Option R} (h : iterG slices_Index_int_t0 slices_Index_int_B0 K n s = v) (hv : ∃ r, v = some r) : loopG slices_Index_int_t0 slices_Index_int_B0 K s = v := loop_eq (ev_mono _ _) n h hv
theorem slices_Index_int_main (x0 : List Int) (x1 : Int) : slices_Index_int_F (x0, (x1, ())) =
 loopG slices_Index_int_t0 slices_Index_int_B0 (slices_Index_int_K0 x0 x1) ((x0, (x1, ((x0.length : Int), ((0 : Int), ())))), ()) := by kernel_rfl
theorem slices_Index_int_r0 {R : Type} (K : Ex → AS → Option R) (n : Nat) (t0 : List Int) (t1 : Int) (t7 : Int) (t8 : Int) : iterG slices_Index_int_t0 slices_Index_int_B0 K (n + 1) ((t0, (t1, (t7, (t8, ())))), ()) =
 brk (decide (t8 < t7))
 (ck (decide (0 ≤ t8) && decide (t8 < t0.length)) (brk (decide (t1 = rdD tI t0 t8))
 (K .ret (slices_Index_int_x0_0 t8))
 (iterG slices_Index_int_t0 slices_Index_int_B0 K n ((t0, (t1, (t7, (IntKind.i64.wrap (t8 + (1 : Int)), ())))), ()))))
 (K (.exit 0) (slices_Index_int_x0_1)) := by kernel_rfl
theorem slices_Index_int_e0_0 (x0 : List Int) (x1 : Int) (d0 : Int) : slices_Index_int_K0 x0 x1 .ret (slices_Index_int_x0_0 d0) =
 some ((d0, ()), ((), ((), ()))) := by kernel_rfl
theorem slices_Index_int_e0_1 (x0 : List Int) (x1 : Int) : slices_Index_int_K0 x0 x1 (.exit 0) (slices_Index_int_x0_1) =
 some (((-1 : Int), ()), ((), ((), ()))) := by kernel_rfl
/-! slices.Contains[[]int,int] -/
noncomputable def slices_Contains_int_b : Code := bd Try.f97
def slices_Contains_int_T : List (Nat × Tm) := []
noncomputable def slices_Contains_int_E : Env := ⟨tt0, [(107, slices_Index_int_C)]⟩
noncomputable def slices_Contains_int_F : PsD [.ro tIs, .ro tI] → Option (RsD [.own tB] × PsO [.ro tIs, .ro tI]) := fun x => evFn slices_Contains_int_E slices_Contains_int_T Try.f97 slices_Contains_int_b [.ro tIs, .ro tI] [.own tB] x
@[reducible] noncomputable def slices_Contains_int_C : Ct := ⟨[.ro tIs, .ro tI], [.own tB], slices_Contains_int_F⟩
theorem slices_Contains_int_h (x : PsD [.ro tIs, .ro tI]) (y : RsD [.own tB] × PsO [.ro tIs, .ro tI]) (h : slices_Contains_int_F x = some y) : evFn slices_Contains_int_E slices_Contains_int_T Try.f97 slices_Contains_int_b [.ro tIs, .ro tI] [.own tB] x = some y := h
theorem slices_Contains_int_c : ∀ f c, get slices_Contains_int_E.ct f = some c → Sat Try.prog f c := ct_cons slices_Index_int_S (ct_nil)
theorem slices_Contains_int_S : Sat Try.prog 97 slices_Contains_int_C := fn_ok2 (envOk _) slices_Contains_int_c mixedOk Try.func97 (by kernel_rfl : Try.f97.body = some slices_Contains_int_b) (by kernel_rfl) (by kernel_rfl) slices_Contains_int_h
noncomputable def slices_Contains_int_Ke  (x0 : List Int) (x1 : Int) : Ex → AS → Option (RsD [.own tB] × PsO [.ro tIs, .ro tI]) := endK slices_Contains_int_E Try.f97 [.ro tIs, .ro tI] [.own tB] (initL [.ro tIs, .ro tI] (x0, (x1, ())) 0).1
theorem slices_Contains_int_main (x0 : List Int) (x1 : Int) : slices_Contains_int_F (x0, (x1, ())) =
 (slices_Index_int_F (x0, (x1, ()))).bind fun y7 =>
 some ((decide ((0 : Int) ≤ y7.1.1), ()), ((), ((), ()))) := by kernel_rfl
/-! impl.GensOk -/
noncomputable def impl_GensOk_b : Code := bd Try.f63
@[reducible] def impl_GensOk_t0 : Tm := ⟨[], [], [(0, .sc true tIs), (5, .sc true tIs), (6, .sc true tI), (7, .sc true tI)], [], [0, 2], []⟩
def impl_GensOk_T : List (Nat × Tm) := [(0, impl_GensOk_t0)]
noncomputable def impl_GensOk_E : Env := ⟨tt0, [(65, impl_from_C), (97, slices_Contains_int_C)]⟩
noncomputable def impl_GensOk_F : PsD [.ro tIs] → Option (RsD [.own tB] × PsO [.ro tIs]) := fun x => evFn impl_GensOk_E impl_GensOk_T Try.f63 impl_GensOk_b [.ro tIs] [.own tB] x
@[reducible] noncomputable def impl_GensOk_C : Ct := ⟨[.ro tIs], [.own tB], impl_GensOk_F⟩
theorem impl_GensOk_h (x : PsD [.ro tIs]) (y : RsD [.own tB] × PsO [.ro tIs]) (h : impl_GensOk_F x = some y) : evFn impl_GensOk_E impl_GensOk_T Try.f63 impl_GensOk_b [.ro tIs] [.own tB] x = some y := h
theorem impl_GensOk_c : ∀ f c, get impl_GensOk_E.ct f = some c → Sat Try.prog f c := ct_cons impl_from_S (ct_cons slices_Contains_int_S (ct_nil))
theorem impl_GensOk_S : Sat Try.prog 63 impl_GensOk_C := fn_ok2 (envOk _) impl_GensOk_c mixedOk Try.func63 (by kernel_rfl : Try.f63.body = some impl_GensOk_b) (by kernel_rfl) (by kernel_rfl) impl_GensOk_h
noncomputable def impl_GensOk_Ke  (x0 : List Int) : Ex → AS → Option (RsD [.own tB] × PsO [.ro tIs]) := endK impl_GensOk_E Try.f63 [.ro tIs] [.own tB] (initL [.ro tIs] (x0, ()) 0).1
noncomputable def impl_GensOk_B0 {R : Type} : AS → (Ex → AS → Option R) → Option R := fun A K => ev impl_GensOk_E impl_GensOk_T 0 (cA (cA (cB (cA (cB impl_GensOk_b))))) A K
noncomputable def impl_GensOk_K0  (x0 : List Int) : Ex → AS → Option (RsD [.own tB] × PsO [.ro tIs]) := kBlk 0 (kSeq (fun A K => ev impl_GensOk_E impl_GensOk_T 1000 (cB (cB impl_GensOk_b)) A K) (impl_GensOk_Ke x0))
noncomputable def impl_GensOk_x0_0 (d0 : List Int) (d1 : Bool) : AS := ⟨[(0, .v (.one (.d true tIs d0))), (2, .v (.one (.d true tB d1)))], []⟩
noncomputable def impl_GensOk_x0_1 (d0 : List Int) : AS := ⟨[(0, .v (.one (.d true tIs d0)))], []⟩
theorem impl_GensOk_l0 {R : Type} {K : Ex → AS → Option R} {s : impl_GensOk_t0.D} (n : Nat) {v : Option R} (h : iterG impl_GensOk_t0 impl_GensOk_B0 K n s = v) (hv : ∃ r, v = some r) : loopG impl_GensOk_t0 impl_GensOk_B0 K s = v := loop_eq (ev_mono _ _) n h hv
theorem impl_GensOk_main (x0 : List Int) : impl_GensOk_F (x0, ()) =
 loopG impl_GensOk_t0 impl_GensOk_B0 (impl_GensOk_K0 x0) ((x0, (x0, ((x0.length : Int), ((0 : Int), ())))), ()) := by kernel_rfl
theorem impl_GensOk_r0 {R : Type} (K : Ex → AS → Option R) (n : Nat) (t0 : List Int) (t5 : List Int) (t6 : Int) (t7 : Int) : iterG impl_GensOk_t0 impl_GensOk_B0 K (n + 1) ((t0, (t5, (t6, (t7, ())))), ()) =
 brk (decide (t7 < t6))
 (ck (decide (0 ≤ t7) && decide (t7 < t5.length)) ((impl_from_F (rdD tI t5 t7, ((1 : Int), ((100000 : Int), ())))).bind fun y13 =>
 brk (!y13.1.1)
 (K .ret (impl_GensOk_x0_0 t0 false))
 (ck (decide (0 ≤ (0 : Int)) && decide ((0 : Int) ≤ t7) && decide (t7 ≤ t0.length)) ((slices_Contains_int_F ((t0.take t7.toNat).drop (0 : Int).toNat, (rdD tI t5 t7, ()))).bind fun y20 =>
 brk y20.1.1
 (K .ret (impl_GensOk_x0_0 t0 false))
 (iterG impl_GensOk_t0 impl_GensOk_B0 K n ((t0, (t5, (t6, (IntKind.i64.wrap (t7 + (1 : Int)), ())))), ()))))))
 (K (.exit 0) (impl_GensOk_x0_1 t0)) := by kernel_rfl
theorem impl_GensOk_e0_0 (x0 : List Int) (d0 : List Int) (d1 : Bool) : impl_GensOk_K0 x0 .ret (impl_GensOk_x0_0 d0 d1) =
 some ((d1, ()), ((), ())) := by kernel_rfl
theorem impl_GensOk_e0_1 (x0 : List Int) (d0 : List Int) : impl_GensOk_K0 x0 (.exit 0) (impl_GensOk_x0_1 d0) =
 some ((decide ((d0.length : Int) ≤ (12 : Int)), ()), ((), ())) := by kernel_rfl
/-! impl.isCell -/
noncomputable def impl_isCell_b : Code := bd Try.f87
def impl_isCell_T : List (Nat × Tm) := []
noncomputable def impl_isCell_E : Env := ⟨tt0, [(65, impl_from_C)]⟩
noncomputable def impl_isCell_F : PsD [.ro tI] → Option (RsD [.own tB] × PsO [.ro tI]) := fun x => evFn impl_isCell_E impl_isCell_T Try.f87 impl_isCell_b [.ro tI] [.own tB] x
@[reducible] noncomputable def impl_isCell_C : Ct := ⟨[.ro tI], [.own tB], impl_isCell_F⟩
theorem impl_isCell_h (x : PsD [.ro tI]) (y : RsD [.own tB] × PsO [.ro tI]) (h : impl_isCell_F x = some y) : evFn impl_isCell_E impl_isCell_T Try.f87 impl_isCell_b [.ro tI] [.own tB] x = some y := h
theorem impl_isCell_c : ∀ f c, get impl_isCell_E.ct f = some c → Sat Try.prog f c := ct_cons impl_from_S (ct_nil)
theorem impl_isCell_S : Sat Try.prog 87 impl_isCell_C := fn_ok2 (envOk _) impl_isCell_c mixedOk Try.func87 (by kernel_rfl : Try.f87.body = some impl_isCell_b) (by kernel_rfl) (by kernel_rfl) impl_isCell_h
noncomputable def impl_isCell_Ke  (x0 : Int) : Ex → AS → Option (RsD [.own tB] × PsO [.ro tI]) := endK impl_isCell_E Try.f87 [.ro tI] [.own tB] (initL [.ro tI] (x0, ()) 0).1
theorem impl_isCell_main (x0 : Int) : impl_isCell_F (x0, ()) =
 (impl_from_F (x0, ((0 : Int), ((7 : Int), ())))).bind fun y4 =>
 some ((y4.1.1, ()), ((), ())) := by kernel_rfl
/-! impl.isWrite -/
noncomputable def impl_isWrite_b : Code := bd Try.f88
def impl_isWrite_T : List (Nat × Tm) := []
noncomputable def impl_isWrite_E : Env := ⟨tt0, [(65, impl_from_C)]⟩
noncomputable def impl_isWrite_F : PsD [.ro tI] → Option (RsD [.own tB] × PsO [.ro tI]) := fun x => evFn impl_isWrite_E impl_isWrite_T Try.f88 impl_isWrite_b [.ro tI] [.own tB] x
@[reducible] noncomputable def impl_isWrite_C : Ct := ⟨[.ro tI], [.own tB], impl_isWrite_F⟩
theorem impl_isWrite_h (x : PsD [.ro tI]) (y : RsD [.own tB] × PsO [.ro tI]) (h : impl_isWrite_F x = some y) : evFn impl_isWrite_E impl_isWrite_T Try.f88 impl_isWrite_b [.ro tI] [.own tB] x = some y := h
theorem impl_isWrite_c : ∀ f c, get impl_isWrite_E.ct f = some c → Sat Try.prog f c := ct_cons impl_from_S (ct_nil)
theorem impl_isWrite_S : Sat Try.prog 88 impl_isWrite_C := fn_ok2 (envOk _) impl_isWrite_c mixedOk Try.func88 (by kernel_rfl : Try.f88.body = some impl_isWrite_b) (by kernel_rfl) (by kernel_rfl) impl_isWrite_h
noncomputable def impl_isWrite_Ke  (x0 : Int) : Ex → AS → Option (RsD [.own tB] × PsO [.ro tI]) := endK impl_isWrite_E Try.f88 [.ro tI] [.own tB] (initL [.ro tI] (x0, ()) 0).1
theorem impl_isWrite_main (x0 : Int) : impl_isWrite_F (x0, ()) =
 (impl_from_F (x0, ((1 : Int), ((200 : Int), ())))).bind fun y4 =>
 some ((y4.1.1, ()), ((), ())) := by kernel_rfl
/-! impl.isNode -/
noncomputable def impl_isNode_b : Code := bd Try.f89
def impl_isNode_T : List (Nat × Tm) := []
noncomputable def impl_isNode_E : Env := ⟨tt0, [(65, impl_from_C)]⟩
noncomputable def impl_isNode_F : PsD [.ro tI] → Option (RsD [.own tB] × PsO [.ro tI]) := fun x => evFn impl_isNode_E impl_isNode_T Try.f89 impl_isNode_b [.ro tI] [.own tB] x
@[reducible] noncomputable def impl_isNode_C : Ct := ⟨[.ro tI], [.own tB], impl_isNode_F⟩
theorem impl_isNode_h (x : PsD [.ro tI]) (y : RsD [.own tB] × PsO [.ro tI]) (h : impl_isNode_F x = some y) : evFn impl_isNode_E impl_isNode_T Try.f89 impl_isNode_b [.ro tI] [.own tB] x = some y := h
theorem impl_isNode_c : ∀ f c, get impl_isNode_E.ct f = some c → Sat Try.prog f c := ct_cons impl_from_S (ct_nil)
theorem impl_isNode_S : Sat Try.prog 89 impl_isNode_C := fn_ok2 (envOk _) impl_isNode_c mixedOk Try.func89 (by kernel_rfl : Try.f89.body = some impl_isNode_b) (by kernel_rfl) (by kernel_rfl) impl_isNode_h
noncomputable def impl_isNode_Ke  (x0 : Int) : Ex → AS → Option (RsD [.own tB] × PsO [.ro tI]) := endK impl_isNode_E Try.f89 [.ro tI] [.own tB] (initL [.ro tI] (x0, ()) 0).1
theorem impl_isNode_main (x0 : Int) : impl_isNode_F (x0, ()) =
 (impl_from_F (x0, ((0 : Int), ((2 : Int), ())))).bind fun y4 =>
 some ((y4.1.1, ()), ((), ())) := by kernel_rfl
/-! impl.MsgOk -/
noncomputable def impl_MsgOk_b : Code := bd Try.f40
def impl_MsgOk_T : List (Nat × Tm) := []
noncomputable def impl_MsgOk_E : Env := ⟨tt0, [(63, impl_GensOk_C), (65, impl_from_C), (87, impl_isCell_C), (88, impl_isWrite_C), (89, impl_isNode_C)]⟩
noncomputable def impl_MsgOk_F : PsD [.ro tMsg] → Option (RsD [.own tB] × PsO [.ro tMsg]) := fun x => evFn impl_MsgOk_E impl_MsgOk_T Try.f40 impl_MsgOk_b [.ro tMsg] [.own tB] x
@[reducible] noncomputable def impl_MsgOk_C : Ct := ⟨[.ro tMsg], [.own tB], impl_MsgOk_F⟩
theorem impl_MsgOk_h (x : PsD [.ro tMsg]) (y : RsD [.own tB] × PsO [.ro tMsg]) (h : impl_MsgOk_F x = some y) : evFn impl_MsgOk_E impl_MsgOk_T Try.f40 impl_MsgOk_b [.ro tMsg] [.own tB] x = some y := h
theorem impl_MsgOk_c : ∀ f c, get impl_MsgOk_E.ct f = some c → Sat Try.prog f c := ct_cons impl_GensOk_S (ct_cons impl_from_S (ct_cons impl_isCell_S (ct_cons impl_isWrite_S (ct_cons impl_isNode_S (ct_nil)))))
theorem impl_MsgOk_S : Sat Try.prog 40 impl_MsgOk_C := fn_ok2 (envOk _) impl_MsgOk_c mixedOk Try.func40 (by kernel_rfl : Try.f40.body = some impl_MsgOk_b) (by kernel_rfl) (by kernel_rfl) impl_MsgOk_h
noncomputable def impl_MsgOk_Ke  (x0 : Int × Int × Int × Int × List Int × Unit) : Ex → AS → Option (RsD [.own tB] × PsO [.ro tMsg]) := endK impl_MsgOk_E Try.f40 [.ro tMsg] [.own tB] (initL [.ro tMsg] (x0, ()) 0).1
theorem impl_MsgOk_main (x0 : Int × Int × Int × Int × List Int × Unit) : impl_MsgOk_F (x0, ()) =
 brk (decide (x0.1 = (5 : Int)))
 ((impl_GensOk_F (x0.2.2.2.2.1, ())).bind fun y9 =>
 brk y9.1.1
 ((impl_from_F (x0.2.2.1, ((0 : Int), ((200 : Int), ())))).bind fun y13 =>
 brk y13.1.1
 (brk (decide (x0.2.1 = (0 : Int)))
 (some ((decide (x0.2.2.2.1 = (0 : Int)), ()), ((), ())))
 (some ((false, ()), ((), ()))))
 (some ((false, ()), ((), ()))))
 (some ((false, ()), ((), ()))))
 (brk (decide (x0.1 = (3 : Int)))
 ((impl_isCell_F (x0.2.1, ())).bind fun y29 =>
 brk y29.1.1
 ((impl_isWrite_F (x0.2.2.1, ())).bind fun y33 =>
 brk y33.1.1
 ((impl_isNode_F (x0.2.2.2.1, ())).bind fun y38 =>
 brk y38.1.1
 (some ((decide ((x0.2.2.2.2.1.length : Int) = (0 : Int)), ()), ((), ())))
 (some ((false, ()), ((), ()))))
 (some ((false, ()), ((), ()))))
 (some ((false, ()), ((), ()))))
 (brk (decide (x0.1 = (1 : Int)))
 ((impl_isCell_F (x0.2.1, ())).bind fun y50 =>
 brk y50.1.1
 ((impl_isWrite_F (x0.2.2.1, ())).bind fun y54 =>
 brk y54.1.1
 (brk (decide (x0.2.2.2.1 = (0 : Int)))
 (some ((decide ((x0.2.2.2.2.1.length : Int) = (0 : Int)), ()), ((), ())))
 (some ((false, ()), ((), ()))))
 (some ((false, ()), ((), ()))))
 (some ((false, ()), ((), ()))))
 (brk (decide (x0.1 = (2 : Int)))
 (brk (decide (x0.1 = (2 : Int)))
 ((impl_isCell_F (x0.2.1, ())).bind fun y72 =>
 brk y72.1.1
 ((impl_from_F (x0.2.2.1, ((0 : Int), ((200 : Int), ())))).bind fun y76 =>
 brk y76.1.1
 (brk (decide (x0.2.2.2.1 = (0 : Int)))
 (some ((decide ((x0.2.2.2.2.1.length : Int) = (0 : Int)), ()), ((), ())))
 (some ((false, ()), ((), ()))))
 (some ((false, ()), ((), ()))))
 (some ((false, ()), ((), ()))))
 (some ((false, ()), ((), ()))))
 (brk (decide (x0.1 = (4 : Int)))
 ((impl_isCell_F (x0.2.1, ())).bind fun y72 =>
 brk y72.1.1
 ((impl_from_F (x0.2.2.1, ((0 : Int), ((200 : Int), ())))).bind fun y76 =>
 brk y76.1.1
 (brk (decide (x0.2.2.2.1 = (0 : Int)))
 (some ((decide ((x0.2.2.2.2.1.length : Int) = (0 : Int)), ()), ((), ())))
 (some ((false, ()), ((), ()))))
 (some ((false, ()), ((), ()))))
 (some ((false, ()), ((), ()))))
 (some ((false, ()), ((), ()))))))) := by kernel_rfl
/-! impl.PutNum -/
noncomputable def impl_PutNum_b : Code := bd Try.f76
@[reducible] def impl_PutNum_t0 : Tm := ⟨[(3, 960000)], [], [(0, .sc true tI), (3, .own 960000)], [(960000, .arr 5 tY)], [0, 3], [960000]⟩
def impl_PutNum_T : List (Nat × Tm) := [(0, impl_PutNum_t0)]
noncomputable def impl_PutNum_E : Env := ⟨tt0, []⟩
noncomputable def impl_PutNum_F : PsD [.ro tI] → Option (RsD [.own tYs] × PsO [.ro tI]) := fun x => evFn impl_PutNum_E impl_PutNum_T Try.f76 impl_PutNum_b [.ro tI] [.own tYs] x
@[reducible] noncomputable def impl_PutNum_C : Ct := ⟨[.ro tI], [.own tYs], impl_PutNum_F⟩
theorem impl_PutNum_h (x : PsD [.ro tI]) (y : RsD [.own tYs] × PsO [.ro tI]) (h : impl_PutNum_F x = some y) : evFn impl_PutNum_E impl_PutNum_T Try.f76 impl_PutNum_b [.ro tI] [.own tYs] x = some y := h
theorem impl_PutNum_c : ∀ f c, get impl_PutNum_E.ct f = some c → Sat Try.prog f c := ct_nil
theorem impl_PutNum_S : Sat Try.prog 76 impl_PutNum_C := fn_ok2 (envOk _) impl_PutNum_c mixedOk Try.func76 (by kernel_rfl : Try.f76.body = some impl_PutNum_b) (by kernel_rfl) (by kernel_rfl) impl_PutNum_h
noncomputable def impl_PutNum_Ke  (x0 : Int) : Ex → AS → Option (RsD [.own tYs] × PsO [.ro tI]) := endK impl_PutNum_E Try.f76 [.ro tI] [.own tYs] (initL [.ro tI] (x0, ()) 0).1
noncomputable def impl_PutNum_B0 {R : Type} : AS → (Ex → AS → Option R) → Option R := fun A K => ev impl_PutNum_E impl_PutNum_T 0 (cA (cA (cA (cB (cB (cB impl_PutNum_b)))))) A K
noncomputable def impl_PutNum_K0  (x0 : Int) : Ex → AS → Option (RsD [.own tYs] × PsO [.ro tI]) := kBlk 0 (kSeq (fun A K => ev impl_PutNum_E impl_PutNum_T 1000 (cB (cB (cB (cB impl_PutNum_b)))) A K) (impl_PutNum_Ke x0))
noncomputable def impl_PutNum_x0_0 (d0 : Int) (d1 : List Int) : AS := ⟨[(0, .v (.one (.d true tI d0))), (3, .v (.one (.own 960000)))], [(960000, .arr 5 tY d1)]⟩
theorem impl_PutNum_l0 {R : Type} {K : Ex → AS → Option R} {s : impl_PutNum_t0.D} (n : Nat) {v : Option R} (h : iterG impl_PutNum_t0 impl_PutNum_B0 K n s = v) (hv : ∃ r, v = some r) : loopG impl_PutNum_t0 impl_PutNum_B0 K s = v := loop_eq (ev_mono _ _) n h hv
theorem impl_PutNum_main (x0 : Int) : impl_PutNum_F (x0, ()) =
 brk (decide (x0 < (0 : Int)))
 (some ((([] : List Int), ()), ((), ())))
 (brk (decide ((2147483647 : Int) < x0))
 (some ((([] : List Int), ()), ((), ())))
 (loopG impl_PutNum_t0 impl_PutNum_B0 (impl_PutNum_K0 x0) ((x0, ()), (([] : List Int), ())))) := by kernel_rfl
theorem impl_PutNum_r0 {R : Type} (K : Ex → AS → Option R) (n : Nat) (t0 : Int) (a960000 : List Int) : iterG impl_PutNum_t0 impl_PutNum_B0 K (n + 1) ((t0, ()), (a960000, ())) =
 brk (decide ((127 : Int) < t0))
 (ck (decide ((a960000.length + [IntKind.u8.wrap (IntKind.i64.wrap ((t0.tmod (128 : Int)) + (128 : Int)))].length) * 1 ≤ big47)) (iterG impl_PutNum_t0 impl_PutNum_B0 K n ((IntKind.i64.wrap (t0.tdiv (128 : Int)), ()), (a960000 ++ [IntKind.u8.wrap (IntKind.i64.wrap ((t0.tmod (128 : Int)) + (128 : Int)))], ()))))
 (K (.exit 0) (impl_PutNum_x0_0 t0 a960000)) := by kernel_rfl
theorem impl_PutNum_e0_0 (x0 : Int) (d0 : Int) (d1 : List Int) : impl_PutNum_K0 x0 (.exit 0) (impl_PutNum_x0_0 d0 d1) =
 ck (decide ((d1.length + [IntKind.u8.wrap d0].length) * 1 ≤ big47)) (some ((d1 ++ [IntKind.u8.wrap d0], ()), ((), ()))) := by kernel_rfl
/-! impl.putNums -/
noncomputable def impl_putNums_b : Code := bd Try.f47
@[reducible] def impl_putNums_t0 : Tm := ⟨[(3, 960000)], [], [(3, .own 960000), (7, .sc true tIs), (8, .sc true tI), (9, .sc true tI)], [(960000, .arr 5 tY)], [3], [960000]⟩
def impl_putNums_T : List (Nat × Tm) := [(0, impl_putNums_t0)]
noncomputable def impl_putNums_E : Env := ⟨tt0, [(76, impl_PutNum_C)]⟩
noncomputable def impl_putNums_F : PsD [.ro tIs] → Option (RsD [.own tYs] × PsO [.ro tIs]) := fun x => evFn impl_putNums_E impl_putNums_T Try.f47 impl_putNums_b [.ro tIs] [.own tYs] x
@[reducible] noncomputable def impl_putNums_C : Ct := ⟨[.ro tIs], [.own tYs], impl_putNums_F⟩
theorem impl_putNums_h (x : PsD [.ro tIs]) (y : RsD [.own tYs] × PsO [.ro tIs]) (h : impl_putNums_F x = some y) : evFn impl_putNums_E impl_putNums_T Try.f47 impl_putNums_b [.ro tIs] [.own tYs] x = some y := h
theorem impl_putNums_c : ∀ f c, get impl_putNums_E.ct f = some c → Sat Try.prog f c := ct_cons impl_PutNum_S (ct_nil)
theorem impl_putNums_S : Sat Try.prog 47 impl_putNums_C := fn_ok2 (envOk _) impl_putNums_c mixedOk Try.func47 (by kernel_rfl : Try.f47.body = some impl_putNums_b) (by kernel_rfl) (by kernel_rfl) impl_putNums_h
noncomputable def impl_putNums_Ke  (x0 : List Int) : Ex → AS → Option (RsD [.own tYs] × PsO [.ro tIs]) := endK impl_putNums_E Try.f47 [.ro tIs] [.own tYs] (initL [.ro tIs] (x0, ()) 0).1
noncomputable def impl_putNums_B0 {R : Type} : AS → (Ex → AS → Option R) → Option R := fun A K => ev impl_putNums_E impl_putNums_T 0 (cA (cA (cB (cA (cB (cB impl_putNums_b)))))) A K
noncomputable def impl_putNums_K0  (x0 : List Int) : Ex → AS → Option (RsD [.own tYs] × PsO [.ro tIs]) := kBlk 0 (kSeq (fun A K => ev impl_putNums_E impl_putNums_T 1000 (cB (cB (cB impl_putNums_b))) A K) (impl_putNums_Ke x0))
noncomputable def impl_putNums_x0_0 (d0 : List Int) : AS := ⟨[(3, .v (.one (.own 960000)))], [(960000, .arr 5 tY d0)]⟩
theorem impl_putNums_l0 {R : Type} {K : Ex → AS → Option R} {s : impl_putNums_t0.D} (n : Nat) {v : Option R} (h : iterG impl_putNums_t0 impl_putNums_B0 K n s = v) (hv : ∃ r, v = some r) : loopG impl_putNums_t0 impl_putNums_B0 K s = v := loop_eq (ev_mono _ _) n h hv
theorem impl_putNums_main (x0 : List Int) : impl_putNums_F (x0, ()) =
 loopG impl_putNums_t0 impl_putNums_B0 (impl_putNums_K0 x0) ((x0, ((x0.length : Int), ((0 : Int), ()))), (([] : List Int), ())) := by kernel_rfl
theorem impl_putNums_r0 {R : Type} (K : Ex → AS → Option R) (n : Nat) (t7 : List Int) (t8 : Int) (t9 : Int) (a960000 : List Int) : iterG impl_putNums_t0 impl_putNums_B0 K (n + 1) ((t7, (t8, (t9, ()))), (a960000, ())) =
 brk (decide (t9 < t8))
 (ck (decide (0 ≤ t9) && decide (t9 < t7.length)) ((impl_PutNum_F (rdD tI t7 t9, ())).bind fun y15 =>
 ck (decide ((a960000.length + y15.1.1.length) * 1 ≤ big47)) (iterG impl_putNums_t0 impl_putNums_B0 K n ((t7, (t8, (IntKind.i64.wrap (t9 + (1 : Int)), ()))), (a960000 ++ y15.1.1, ())))))
 (K (.exit 0) (impl_putNums_x0_0 a960000)) := by kernel_rfl
theorem impl_putNums_e0_0 (x0 : List Int) (d0 : List Int) : impl_putNums_K0 x0 (.exit 0) (impl_putNums_x0_0 d0) =
 some ((d0, ()), ((), ())) := by kernel_rfl
/-! impl.putList -/
noncomputable def impl_putList_b : Code := bd Try.f46
def impl_putList_T : List (Nat × Tm) := []
noncomputable def impl_putList_E : Env := ⟨tt0, [(47, impl_putNums_C)]⟩
noncomputable def impl_putList_F : PsD [.ro tIs] → Option (RsD [.own tYs] × PsO [.ro tIs]) := fun x => evFn impl_putList_E impl_putList_T Try.f46 impl_putList_b [.ro tIs] [.own tYs] x
@[reducible] noncomputable def impl_putList_C : Ct := ⟨[.ro tIs], [.own tYs], impl_putList_F⟩
theorem impl_putList_h (x : PsD [.ro tIs]) (y : RsD [.own tYs] × PsO [.ro tIs]) (h : impl_putList_F x = some y) : evFn impl_putList_E impl_putList_T Try.f46 impl_putList_b [.ro tIs] [.own tYs] x = some y := h
theorem impl_putList_c : ∀ f c, get impl_putList_E.ct f = some c → Sat Try.prog f c := ct_cons impl_putNums_S (ct_nil)
theorem impl_putList_S : Sat Try.prog 46 impl_putList_C := fn_ok2 (envOk _) impl_putList_c mixedOk Try.func46 (by kernel_rfl : Try.f46.body = some impl_putList_b) (by kernel_rfl) (by kernel_rfl) impl_putList_h
noncomputable def impl_putList_Ke  (x0 : List Int) : Ex → AS → Option (RsD [.own tYs] × PsO [.ro tIs]) := endK impl_putList_E Try.f46 [.ro tIs] [.own tYs] (initL [.ro tIs] (x0, ()) 0).1
theorem impl_putList_main (x0 : List Int) : impl_putList_F (x0, ()) =
 (impl_putNums_F ([(x0.length : Int)], ())).bind fun y6 =>
 (impl_putNums_F (x0, ())).bind fun y8 =>
 ck (decide ((y6.1.1.length + y8.1.1.length) * 1 ≤ big47)) (some ((y6.1.1 ++ y8.1.1, ()), ((), ()))) := by kernel_rfl
/-! impl.four -/
noncomputable def impl_four_b : Code := bd Try.f77
def impl_four_T : List (Nat × Tm) := []
noncomputable def impl_four_E : Env := ⟨tt0, []⟩
noncomputable def impl_four_F : PsD [.ro tI] → Option (RsD [.own tYs] × PsO [.ro tI]) := fun x => evFn impl_four_E impl_four_T Try.f77 impl_four_b [.ro tI] [.own tYs] x
@[reducible] noncomputable def impl_four_C : Ct := ⟨[.ro tI], [.own tYs], impl_four_F⟩
theorem impl_four_h (x : PsD [.ro tI]) (y : RsD [.own tYs] × PsO [.ro tI]) (h : impl_four_F x = some y) : evFn impl_four_E impl_four_T Try.f77 impl_four_b [.ro tI] [.own tYs] x = some y := h
theorem impl_four_c : ∀ f c, get impl_four_E.ct f = some c → Sat Try.prog f c := ct_nil
theorem impl_four_S : Sat Try.prog 77 impl_four_C := fn_ok2 (envOk _) impl_four_c mixedOk Try.func77 (by kernel_rfl : Try.f77.body = some impl_four_b) (by kernel_rfl) (by kernel_rfl) impl_four_h
noncomputable def impl_four_Ke  (x0 : Int) : Ex → AS → Option (RsD [.own tYs] × PsO [.ro tI]) := endK impl_four_E Try.f77 [.ro tI] [.own tYs] (initL [.ro tI] (x0, ()) 0).1
theorem impl_four_main (x0 : Int) : impl_four_F (x0, ()) =
 some (([IntKind.u8.wrap x0, IntKind.u8.wrap (shrN IntKind.i64 x0 (8 : Int)), IntKind.u8.wrap (shrN IntKind.i64 x0 (16 : Int)), IntKind.u8.wrap (shrN IntKind.i64 x0 (24 : Int))], ()), ((), ())) := by kernel_rfl
/-! impl.SumOf -/
noncomputable def impl_SumOf_b : Code := bd Try.f78
@[reducible] def impl_SumOf_t0 : Tm := ⟨[], [], [(3, .sc true tI), (4, .sc true tI), (7, .sc true tYs), (8, .sc true tI), (9, .sc true tI)], [], [3, 4], []⟩
def impl_SumOf_T : List (Nat × Tm) := [(0, impl_SumOf_t0)]
noncomputable def impl_SumOf_E : Env := ⟨tt0, []⟩
noncomputable def impl_SumOf_F : PsD [.ro tYs] → Option (RsD [.own tI] × PsO [.ro tYs]) := fun x => evFn impl_SumOf_E impl_SumOf_T Try.f78 impl_SumOf_b [.ro tYs] [.own tI] x
@[reducible] noncomputable def impl_SumOf_C : Ct := ⟨[.ro tYs], [.own tI], impl_SumOf_F⟩
theorem impl_SumOf_h (x : PsD [.ro tYs]) (y : RsD [.own tI] × PsO [.ro tYs]) (h : impl_SumOf_F x = some y) : evFn impl_SumOf_E impl_SumOf_T Try.f78 impl_SumOf_b [.ro tYs] [.own tI] x = some y := h
theorem impl_SumOf_c : ∀ f c, get impl_SumOf_E.ct f = some c → Sat Try.prog f c := ct_nil
theorem impl_SumOf_S : Sat Try.prog 78 impl_SumOf_C := fn_ok2 (envOk _) impl_SumOf_c mixedOk Try.func78 (by kernel_rfl : Try.f78.body = some impl_SumOf_b) (by kernel_rfl) (by kernel_rfl) impl_SumOf_h
noncomputable def impl_SumOf_Ke  (x0 : List Int) : Ex → AS → Option (RsD [.own tI] × PsO [.ro tYs]) := endK impl_SumOf_E Try.f78 [.ro tYs] [.own tI] (initL [.ro tYs] (x0, ()) 0).1
noncomputable def impl_SumOf_B0 {R : Type} : AS → (Ex → AS → Option R) → Option R := fun A K => ev impl_SumOf_E impl_SumOf_T 0 (cA (cA (cB (cA (cB (cB impl_SumOf_b)))))) A K
noncomputable def impl_SumOf_K0  (x0 : List Int) : Ex → AS → Option (RsD [.own tI] × PsO [.ro tYs]) := kBlk 0 (kSeq (fun A K => ev impl_SumOf_E impl_SumOf_T 1000 (cB (cB (cB impl_SumOf_b))) A K) (impl_SumOf_Ke x0))
noncomputable def impl_SumOf_x0_0 (d0 : Int) (d1 : Int) : AS := ⟨[(3, .v (.one (.d true tI d0))), (4, .v (.one (.d true tI d1)))], []⟩
theorem impl_SumOf_l0 {R : Type} {K : Ex → AS → Option R} {s : impl_SumOf_t0.D} (n : Nat) {v : Option R} (h : iterG impl_SumOf_t0 impl_SumOf_B0 K n s = v) (hv : ∃ r, v = some r) : loopG impl_SumOf_t0 impl_SumOf_B0 K s = v := loop_eq (ev_mono _ _) n h hv
theorem impl_SumOf_main (x0 : List Int) : impl_SumOf_F (x0, ()) =
 loopG impl_SumOf_t0 impl_SumOf_B0 (impl_SumOf_K0 x0) (((1 : Int), ((0 : Int), (x0, ((x0.length : Int), ((0 : Int), ()))))), ()) := by kernel_rfl
theorem impl_SumOf_r0 {R : Type} (K : Ex → AS → Option R) (n : Nat) (t3 : Int) (t4 : Int) (t7 : List Int) (t8 : Int) (t9 : Int) : iterG impl_SumOf_t0 impl_SumOf_B0 K (n + 1) ((t3, (t4, (t7, (t8, (t9, ()))))), ()) =
 brk (decide (t9 < t8))
 (ck (decide (0 ≤ t9) && decide (t9 < t7.length)) (iterG impl_SumOf_t0 impl_SumOf_B0 K n (((IntKind.i64.wrap (t3 + (IntKind.i64.wrap (rdD tY t7 t9)))).tmod (65521 : Int), ((IntKind.i64.wrap (t4 + ((IntKind.i64.wrap (t3 + (IntKind.i64.wrap (rdD tY t7 t9)))).tmod (65521 : Int)))).tmod (65521 : Int), (t7, (t8, (IntKind.i64.wrap (t9 + (1 : Int)), ()))))), ())))
 (K (.exit 0) (impl_SumOf_x0_0 t3 t4)) := by kernel_rfl
theorem impl_SumOf_e0_0 (x0 : List Int) (d0 : Int) (d1 : Int) : impl_SumOf_K0 x0 (.exit 0) (impl_SumOf_x0_0 d0 d1) =
 some ((IntKind.i64.wrap ((IntKind.i64.wrap (d1 * (65536 : Int))) + d0), ()), ((), ())) := by kernel_rfl
/-! impl.MsgBytes -/
noncomputable def impl_MsgBytes_b : Code := bd Try.f31
def impl_MsgBytes_T : List (Nat × Tm) := []
noncomputable def impl_MsgBytes_E : Env := ⟨tt0, [(40, impl_MsgOk_C), (46, impl_putList_C), (47, impl_putNums_C), (76, impl_PutNum_C), (77, impl_four_C), (78, impl_SumOf_C)]⟩
noncomputable def impl_MsgBytes_F : PsD [.ro tMsg] → Option (RsD [.own tYs] × PsO [.ro tMsg]) := fun x => evFn impl_MsgBytes_E impl_MsgBytes_T Try.f31 impl_MsgBytes_b [.ro tMsg] [.own tYs] x
@[reducible] noncomputable def impl_MsgBytes_C : Ct := ⟨[.ro tMsg], [.own tYs], impl_MsgBytes_F⟩
theorem impl_MsgBytes_h (x : PsD [.ro tMsg]) (y : RsD [.own tYs] × PsO [.ro tMsg]) (h : impl_MsgBytes_F x = some y) : evFn impl_MsgBytes_E impl_MsgBytes_T Try.f31 impl_MsgBytes_b [.ro tMsg] [.own tYs] x = some y := h
theorem impl_MsgBytes_c : ∀ f c, get impl_MsgBytes_E.ct f = some c → Sat Try.prog f c := ct_cons impl_MsgOk_S (ct_cons impl_putList_S (ct_cons impl_putNums_S (ct_cons impl_PutNum_S (ct_cons impl_four_S (ct_cons impl_SumOf_S (ct_nil))))))
theorem impl_MsgBytes_S : Sat Try.prog 31 impl_MsgBytes_C := fn_ok2 (envOk _) impl_MsgBytes_c mixedOk Try.func31 (by kernel_rfl : Try.f31.body = some impl_MsgBytes_b) (by kernel_rfl) (by kernel_rfl) impl_MsgBytes_h
noncomputable def impl_MsgBytes_Ke  (x0 : Int × Int × Int × Int × List Int × Unit) : Ex → AS → Option (RsD [.own tYs] × PsO [.ro tMsg]) := endK impl_MsgBytes_E Try.f31 [.ro tMsg] [.own tYs] (initL [.ro tMsg] (x0, ()) 0).1
theorem impl_MsgBytes_main (x0 : Int × Int × Int × Int × List Int × Unit) : impl_MsgBytes_F (x0, ()) =
 (impl_MsgOk_F ((x0.1, (x0.2.1, (x0.2.2.1, (x0.2.2.2.1, (x0.2.2.2.2.1, ()))))), ())).bind fun y6 =>
 brk (!y6.1.1)
 (some ((([] : List Int), ()), ((), ())))
 ((impl_putNums_F ([x0.1, x0.2.1, x0.2.2.1, x0.2.2.2.1], ())).bind fun y17 =>
 (impl_putList_F (x0.2.2.2.2.1, ())).bind fun y20 =>
 ck (decide ((y17.1.1.length + y20.1.1.length) * 1 ≤ big47)) ((impl_PutNum_F (((y17.1.1 ++ y20.1.1).length : Int), ())).bind fun y24 =>
 ck (decide ((y24.1.1.length + (y17.1.1 ++ y20.1.1).length) * 1 ≤ big47)) ((impl_SumOf_F (y17.1.1 ++ y20.1.1, ())).bind fun y29 =>
 (impl_four_F (y29.1.1, ())).bind fun y30 =>
 ck (decide (((y24.1.1 ++ (y17.1.1 ++ y20.1.1)).length + y30.1.1.length) * 1 ≤ big47)) (some (((y24.1.1 ++ (y17.1.1 ++ y20.1.1)) ++ y30.1.1, ()), ((), ())))))) := by kernel_rfl
/-! impl.GetNum -/
noncomputable def impl_GetNum_b : Code := bd Try.f95
@[reducible] def impl_GetNum_t0 : Tm := ⟨[], [], [(0, .sc true tYs), (1, .sc true tI), (7, .sc true tI), (8, .sc true tI), (9, .sc true tI)], [], [4, 5, 6], []⟩
def impl_GetNum_T : List (Nat × Tm) := [(0, impl_GetNum_t0)]
noncomputable def impl_GetNum_E : Env := ⟨tt0, []⟩
noncomputable def impl_GetNum_F : PsD [.ro tYs, .ro tI] → Option (RsD [.own tI, .own tI, .own tB] × PsO [.ro tYs, .ro tI]) := fun x => evFn impl_GetNum_E impl_GetNum_T Try.f95 impl_GetNum_b [.ro tYs, .ro tI] [.own tI, .own tI, .own tB] x
@[reducible] noncomputable def impl_GetNum_C : Ct := ⟨[.ro tYs, .ro tI], [.own tI, .own tI, .own tB], impl_GetNum_F⟩
theorem impl_GetNum_h (x : PsD [.ro tYs, .ro tI]) (y : RsD [.own tI, .own tI, .own tB] × PsO [.ro tYs, .ro tI]) (h : impl_GetNum_F x = some y) : evFn impl_GetNum_E impl_GetNum_T Try.f95 impl_GetNum_b [.ro tYs, .ro tI] [.own tI, .own tI, .own tB] x = some y := h
theorem impl_GetNum_c : ∀ f c, get impl_GetNum_E.ct f = some c → Sat Try.prog f c := ct_nil
theorem impl_GetNum_S : Sat Try.prog 95 impl_GetNum_C := fn_ok2 (envOk _) impl_GetNum_c mixedOk Try.func95 (by kernel_rfl : Try.f95.body = some impl_GetNum_b) (by kernel_rfl) (by kernel_rfl) impl_GetNum_h
noncomputable def impl_GetNum_Ke  (x0 : List Int) (x1 : Int) : Ex → AS → Option (RsD [.own tI, .own tI, .own tB] × PsO [.ro tYs, .ro tI]) := endK impl_GetNum_E Try.f95 [.ro tYs, .ro tI] [.own tI, .own tI, .own tB] (initL [.ro tYs, .ro tI] (x0, (x1, ())) 0).1
noncomputable def impl_GetNum_B0 {R : Type} : AS → (Ex → AS → Option R) → Option R := fun A K => ev impl_GetNum_E impl_GetNum_T 0 (cA (cA (cB (cA (cB (cB (cB (cB impl_GetNum_b)))))))) A K
noncomputable def impl_GetNum_K0  (x0 : List Int) (x1 : Int) : Ex → AS → Option (RsD [.own tI, .own tI, .own tB] × PsO [.ro tYs, .ro tI]) := kBlk 0 (kSeq (fun A K => ev impl_GetNum_E impl_GetNum_T 1000 (cB (cB (cB (cB (cB impl_GetNum_b))))) A K) (impl_GetNum_Ke x0 x1))
noncomputable def impl_GetNum_x0_0 : AS := ⟨[], []⟩
noncomputable def impl_GetNum_x0_1 (d0 : Int) (d1 : Int) (d2 : Bool) : AS := ⟨[(4, .v (.one (.d true tI d0))), (5, .v (.one (.d true tI d1))), (6, .v (.one (.d true tB d2)))], []⟩
theorem impl_GetNum_l0 {R : Type} {K : Ex → AS → Option R} {s : impl_GetNum_t0.D} (n : Nat) {v : Option R} (h : iterG impl_GetNum_t0 impl_GetNum_B0 K n s = v) (hv : ∃ r, v = some r) : loopG impl_GetNum_t0 impl_GetNum_B0 K s = v := loop_eq (ev_mono _ _) n h hv
theorem impl_GetNum_main (x0 : List Int) (x1 : Int) : impl_GetNum_F (x0, (x1, ())) =
 brk (decide (x1 < (0 : Int)))
 (some (((0 : Int), ((0 : Int), (false, ()))), ((), ((), ()))))
 (loopG impl_GetNum_t0 impl_GetNum_B0 (impl_GetNum_K0 x0 x1) ((x0, (x1, ((0 : Int), ((1 : Int), ((0 : Int), ()))))), ())) := by kernel_rfl
theorem impl_GetNum_r0 {R : Type} (K : Ex → AS → Option R) (n : Nat) (t0 : List Int) (t1 : Int) (t7 : Int) (t8 : Int) (t9 : Int) : iterG impl_GetNum_t0 impl_GetNum_B0 K (n + 1) ((t0, (t1, (t7, (t8, (t9, ()))))), ()) =
 brk (decide (t9 < (5 : Int)))
 (brk (decide (t1 < IntKind.i64.wrap ((t0.length : Int) - t9)))
 (ck (decide (0 ≤ IntKind.i64.wrap (t1 + t9)) && decide (IntKind.i64.wrap (t1 + t9) < t0.length)) (brk (decide ((128 : Int) ≤ IntKind.i64.wrap (rdD tY t0 (IntKind.i64.wrap (t1 + t9)))))
 (iterG impl_GetNum_t0 impl_GetNum_B0 K n ((t0, (t1, (IntKind.i64.wrap (t7 + (IntKind.i64.wrap (((IntKind.i64.wrap (rdD tY t0 (IntKind.i64.wrap (t1 + t9)))).tmod (128 : Int)) * t8))), (IntKind.i64.wrap (t8 * (128 : Int)), (IntKind.i64.wrap (t9 + (1 : Int)), ()))))), ()))
 (brk (decide ((2147483647 : Int) < IntKind.i64.wrap (t7 + (IntKind.i64.wrap (((IntKind.i64.wrap (rdD tY t0 (IntKind.i64.wrap (t1 + t9)))).tmod (128 : Int)) * t8)))))
 (K (.exit 0) (impl_GetNum_x0_0))
 (brk (decide (IntKind.i64.wrap (rdD tY t0 (IntKind.i64.wrap (t1 + t9))) = (0 : Int)))
 (brk (decide ((0 : Int) < t9))
 (K (.exit 0) (impl_GetNum_x0_0))
 (K .ret (impl_GetNum_x0_1 (IntKind.i64.wrap (t7 + (IntKind.i64.wrap (((IntKind.i64.wrap (rdD tY t0 (IntKind.i64.wrap (t1 + t9)))).tmod (128 : Int)) * t8)))) (IntKind.i64.wrap ((IntKind.i64.wrap (t1 + t9)) + (1 : Int))) true)))
 (K .ret (impl_GetNum_x0_1 (IntKind.i64.wrap (t7 + (IntKind.i64.wrap (((IntKind.i64.wrap (rdD tY t0 (IntKind.i64.wrap (t1 + t9)))).tmod (128 : Int)) * t8)))) (IntKind.i64.wrap ((IntKind.i64.wrap (t1 + t9)) + (1 : Int))) true))))))
 (K (.exit 0) (impl_GetNum_x0_0)))
 (K (.exit 0) (impl_GetNum_x0_0)) := by kernel_rfl
theorem impl_GetNum_e0_0 (x0 : List Int) (x1 : Int) : impl_GetNum_K0 x0 x1 (.exit 0) (impl_GetNum_x0_0) =
 some (((0 : Int), ((0 : Int), (false, ()))), ((), ((), ()))) := by kernel_rfl
theorem impl_GetNum_e0_1 (x0 : List Int) (x1 : Int) (d0 : Int) (d1 : Int) (d2 : Bool) : impl_GetNum_K0 x0 x1 .ret (impl_GetNum_x0_1 d0 d1 d2) =
 some ((d0, (d1, (d2, ()))), ((), ((), ()))) := by kernel_rfl
/-! impl.reader).num -/
noncomputable def impl_reader_num_b : Code := bd Try.f52
def impl_reader_num_T : List (Nat × Tm) := []
noncomputable def impl_reader_num_E : Env := ⟨tt0, [(95, impl_GetNum_C)]⟩
noncomputable def impl_reader_num_F : PsD [.st tL4Cur] → Option (RsD [.own tI] × PsO [.st tL4Cur]) := fun x => evFn impl_reader_num_E impl_reader_num_T Try.f52 impl_reader_num_b [.st tL4Cur] [.own tI] x
@[reducible] noncomputable def impl_reader_num_C : Ct := ⟨[.st tL4Cur], [.own tI], impl_reader_num_F⟩
theorem impl_reader_num_h (x : PsD [.st tL4Cur]) (y : RsD [.own tI] × PsO [.st tL4Cur]) (h : impl_reader_num_F x = some y) : evFn impl_reader_num_E impl_reader_num_T Try.f52 impl_reader_num_b [.st tL4Cur] [.own tI] x = some y := h
theorem impl_reader_num_c : ∀ f c, get impl_reader_num_E.ct f = some c → Sat Try.prog f c := ct_cons impl_GetNum_S (ct_nil)
theorem impl_reader_num_S : Sat Try.prog 52 impl_reader_num_C := fn_ok2 (envOk _) impl_reader_num_c mixedOk Try.func52 (by kernel_rfl : Try.f52.body = some impl_reader_num_b) (by kernel_rfl) (by kernel_rfl) impl_reader_num_h
noncomputable def impl_reader_num_Ke  (x0 : List Int × Int × Bool × Unit) : Ex → AS → Option (RsD [.own tI] × PsO [.st tL4Cur]) := endK impl_reader_num_E Try.f52 [.st tL4Cur] [.own tI] (initL [.st tL4Cur] (x0, ()) 0).1
theorem impl_reader_num_main (x0 : List Int × Int × Bool × Unit) : impl_reader_num_F (x0, ()) =
 brk (!x0.2.2.1)
 (some (((0 : Int), ()), ((x0.1, (x0.2.1, (x0.2.2.1, ()))), ())))
 ((impl_GetNum_F (x0.1, (x0.2.1, ()))).bind fun y20 =>
 some ((y20.1.1, ()), ((x0.1, (y20.1.2.1, (y20.1.2.2.1, ()))), ()))) := by kernel_rfl
/-! impl.reader).list -/
noncomputable def impl_reader_list_b : Code := bd Try.f51
@[reducible] def impl_reader_list_t0 : Tm := ⟨[(3, 960000)], [], [(0, .ptr 1000000 0), (3, .own 960000), (4, .sc true tI), (5, .sc true tI)], [(960000, .arr 3 tI), (1000000, .box [.sc true tYs, .sc true tI, .sc true tB])], [3], [960000]⟩
def impl_reader_list_T : List (Nat × Tm) := [(0, impl_reader_list_t0)]
noncomputable def impl_reader_list_E : Env := ⟨tt0, [(52, impl_reader_num_C)]⟩
noncomputable def impl_reader_list_F : PsD [.st tL4Cur] → Option (RsD [.own tIs] × PsO [.st tL4Cur]) := fun x => evFn impl_reader_list_E impl_reader_list_T Try.f51 impl_reader_list_b [.st tL4Cur] [.own tIs] x
@[reducible] noncomputable def impl_reader_list_C : Ct := ⟨[.st tL4Cur], [.own tIs], impl_reader_list_F⟩
theorem impl_reader_list_h (x : PsD [.st tL4Cur]) (y : RsD [.own tIs] × PsO [.st tL4Cur]) (h : impl_reader_list_F x = some y) : evFn impl_reader_list_E impl_reader_list_T Try.f51 impl_reader_list_b [.st tL4Cur] [.own tIs] x = some y := h
theorem impl_reader_list_c : ∀ f c, get impl_reader_list_E.ct f = some c → Sat Try.prog f c := ct_cons impl_reader_num_S (ct_nil)
theorem impl_reader_list_S : Sat Try.prog 51 impl_reader_list_C := fn_ok2 (envOk _) impl_reader_list_c mixedOk Try.func51 (by kernel_rfl : Try.f51.body = some impl_reader_list_b) (by kernel_rfl) (by kernel_rfl) impl_reader_list_h
noncomputable def impl_reader_list_Ke  (x0 : List Int × Int × Bool × Unit) : Ex → AS → Option (RsD [.own tIs] × PsO [.st tL4Cur]) := endK impl_reader_list_E Try.f51 [.st tL4Cur] [.own tIs] (initL [.st tL4Cur] (x0, ()) 0).1
noncomputable def impl_reader_list_B0 {R : Type} : AS → (Ex → AS → Option R) → Option R := fun A K => ev impl_reader_list_E impl_reader_list_T 0 (cA (cA (cB (cA (cB (cB (cB impl_reader_list_b))))))) A K
noncomputable def impl_reader_list_K0  (x0 : List Int × Int × Bool × Unit) : Ex → AS → Option (RsD [.own tIs] × PsO [.st tL4Cur]) := kBlk 0 (kSeq (fun A K => ev impl_reader_list_E impl_reader_list_T 1000 (cB (cB (cB (cB impl_reader_list_b)))) A K) (impl_reader_list_Ke x0))
noncomputable def impl_reader_list_x0_0 (d0 : List Int) (d1 : List Int) (d2 : Int) (d3 : Bool) : AS := ⟨[(3, .v (.one (.own 960000)))], [(960000, .arr 3 tI d0), (1000000, .box [.d true tYs d1, .d true tI d2, .d true tB d3])]⟩
theorem impl_reader_list_l0 {R : Type} {K : Ex → AS → Option R} {s : impl_reader_list_t0.D} (n : Nat) {v : Option R} (h : iterG impl_reader_list_t0 impl_reader_list_B0 K n s = v) (hv : ∃ r, v = some r) : loopG impl_reader_list_t0 impl_reader_list_B0 K s = v := loop_eq (ev_mono _ _) n h hv
theorem impl_reader_list_main (x0 : List Int × Int × Bool × Unit) : impl_reader_list_F (x0, ()) =
 (impl_reader_num_F ((x0.1, (x0.2.1, (x0.2.2.1, ()))), ())).bind fun y9 =>
 loopG impl_reader_list_t0 impl_reader_list_B0 (impl_reader_list_K0 x0) ((y9.1.1, ((0 : Int), ())), (([] : List Int), ((y9.2.1.1, (y9.2.1.2.1, (y9.2.1.2.2.1, ()))), ()))) := by kernel_rfl
theorem impl_reader_list_r0 {R : Type} (K : Ex → AS → Option R) (n : Nat) (t4 : Int) (t5 : Int) (a960000 : List Int) (b1000000_0 : List Int) (b1000000_1 : Int) (b1000000_2 : Bool) : iterG impl_reader_list_t0 impl_reader_list_B0 K (n + 1) ((t4, (t5, ())), (a960000, ((b1000000_0, (b1000000_1, (b1000000_2, ()))), ()))) =
 brk (decide (t5 < t4))
 (brk b1000000_2
 ((impl_reader_num_F ((b1000000_0, (b1000000_1, (b1000000_2, ()))), ())).bind fun y22 =>
 ck (decide ((a960000.length + [y22.1.1].length) * 8 ≤ big47)) (iterG impl_reader_list_t0 impl_reader_list_B0 K n ((t4, (IntKind.i64.wrap (t5 + (1 : Int)), ())), (a960000 ++ [y22.1.1], ((y22.2.1.1, (y22.2.1.2.1, (y22.2.1.2.2.1, ()))), ())))))
 (K (.exit 0) (impl_reader_list_x0_0 a960000 b1000000_0 b1000000_1 b1000000_2)))
 (K (.exit 0) (impl_reader_list_x0_0 a960000 b1000000_0 b1000000_1 b1000000_2)) := by kernel_rfl
theorem impl_reader_list_e0_0 (x0 : List Int × Int × Bool × Unit) (d0 : List Int) (d1 : List Int) (d2 : Int) (d3 : Bool) : impl_reader_list_K0 x0 (.exit 0) (impl_reader_list_x0_0 d0 d1 d2 d3) =
 some ((d0, ()), ((d1, (d2, (d3, ()))), ())) := by kernel_rfl
/-! bytes.Equal -/
noncomputable def bytes_Equal_b : Code := bd Try.f53
def bytes_Equal_T : List (Nat × Tm) := []
noncomputable def bytes_Equal_E : Env := ⟨tt0, []⟩
noncomputable def bytes_Equal_F : PsD [.ro tYs, .ro tYs] → Option (RsD [.own tB] × PsO [.ro tYs, .ro tYs]) := fun x => evFn bytes_Equal_E bytes_Equal_T Try.f53 bytes_Equal_b [.ro tYs, .ro tYs] [.own tB] x
@[reducible] noncomputable def bytes_Equal_C : Ct := ⟨[.ro tYs, .ro tYs], [.own tB], bytes_Equal_F⟩
theorem bytes_Equal_h (x : PsD [.ro tYs, .ro tYs]) (y : RsD [.own tB] × PsO [.ro tYs, .ro tYs]) (h : bytes_Equal_F x = some y) : evFn bytes_Equal_E bytes_Equal_T Try.f53 bytes_Equal_b [.ro tYs, .ro tYs] [.own tB] x = some y := h
theorem bytes_Equal_c : ∀ f c, get bytes_Equal_E.ct f = some c → Sat Try.prog f c := ct_nil
theorem bytes_Equal_S : Sat Try.prog 53 bytes_Equal_C := fn_ok2 (envOk _) bytes_Equal_c mixedOk Try.func53 (by kernel_rfl : Try.f53.body = some bytes_Equal_b) (by kernel_rfl) (by kernel_rfl) bytes_Equal_h
noncomputable def bytes_Equal_Ke  (x0 : List Int) (x1 : List Int) : Ex → AS → Option (RsD [.own tB] × PsO [.ro tYs, .ro tYs]) := endK bytes_Equal_E Try.f53 [.ro tYs, .ro tYs] [.own tB] (initL [.ro tYs, .ro tYs] (x0, (x1, ())) 0).1
theorem bytes_Equal_main (x0 : List Int) (x1 : List Int) : bytes_Equal_F (x0, (x1, ())) =
 some ((decide (x0 = x1), ()), ((), ((), ()))) := by kernel_rfl
/-! bytes.HasPrefix -/
noncomputable def bytes_HasPrefix_b : Code := bd Try.f81
def bytes_HasPrefix_T : List (Nat × Tm) := []
noncomputable def bytes_HasPrefix_E : Env := ⟨tt0, [(53, bytes_Equal_C)]⟩
noncomputable def bytes_HasPrefix_F : PsD [.ro tYs, .ro tYs] → Option (RsD [.own tB] × PsO [.ro tYs, .ro tYs]) := fun x => evFn bytes_HasPrefix_E bytes_HasPrefix_T Try.f81 bytes_HasPrefix_b [.ro tYs, .ro tYs] [.own tB] x
@[reducible] noncomputable def bytes_HasPrefix_C : Ct := ⟨[.ro tYs, .ro tYs], [.own tB], bytes_HasPrefix_F⟩
theorem bytes_HasPrefix_h (x : PsD [.ro tYs, .ro tYs]) (y : RsD [.own tB] × PsO [.ro tYs, .ro tYs]) (h : bytes_HasPrefix_F x = some y) : evFn bytes_HasPrefix_E bytes_HasPrefix_T Try.f81 bytes_HasPrefix_b [.ro tYs, .ro tYs] [.own tB] x = some y := h
theorem bytes_HasPrefix_c : ∀ f c, get bytes_HasPrefix_E.ct f = some c → Sat Try.prog f c := ct_cons bytes_Equal_S (ct_nil)
theorem bytes_HasPrefix_S : Sat Try.prog 81 bytes_HasPrefix_C := fn_ok2 (envOk _) bytes_HasPrefix_c mixedOk Try.func81 (by kernel_rfl : Try.f81.body = some bytes_HasPrefix_b) (by kernel_rfl) (by kernel_rfl) bytes_HasPrefix_h
noncomputable def bytes_HasPrefix_Ke  (x0 : List Int) (x1 : List Int) : Ex → AS → Option (RsD [.own tB] × PsO [.ro tYs, .ro tYs]) := endK bytes_HasPrefix_E Try.f81 [.ro tYs, .ro tYs] [.own tB] (initL [.ro tYs, .ro tYs] (x0, (x1, ())) 0).1
theorem bytes_HasPrefix_main (x0 : List Int) (x1 : List Int) : bytes_HasPrefix_F (x0, (x1, ())) =
 brk (decide ((x1.length : Int) ≤ (x0.length : Int)))
 (ck (decide (0 ≤ (0 : Int)) && decide ((0 : Int) ≤ (x1.length : Int)) && decide ((x1.length : Int) ≤ x0.length)) ((bytes_Equal_F ((x0.take (x1.length : Int).toNat).drop (0 : Int).toNat, (x1, ()))).bind fun y16 =>
 some ((y16.1.1, ()), ((), ((), ())))))
 (some ((false, ()), ((), ((), ())))) := by kernel_rfl
/-! impl.MsgOf -/
noncomputable def impl_MsgOf_b : Code := bd Try.f33
def impl_MsgOf_T : List (Nat × Tm) := []
noncomputable def impl_MsgOf_E : Env := ⟨tt0, [(31, impl_MsgBytes_C), (51, impl_reader_list_C), (52, impl_reader_num_C), (81, bytes_HasPrefix_C)]⟩
noncomputable def impl_MsgOf_F : PsD [.ro tYs, .ro tI] → Option (RsD [.own tMsg, .own tI, .own tB] × PsO [.ro tYs, .ro tI]) := fun x => evFn impl_MsgOf_E impl_MsgOf_T Try.f33 impl_MsgOf_b [.ro tYs, .ro tI] [.own tMsg, .own tI, .own tB] x
@[reducible] noncomputable def impl_MsgOf_C : Ct := ⟨[.ro tYs, .ro tI], [.own tMsg, .own tI, .own tB], impl_MsgOf_F⟩
theorem impl_MsgOf_h (x : PsD [.ro tYs, .ro tI]) (y : RsD [.own tMsg, .own tI, .own tB] × PsO [.ro tYs, .ro tI]) (h : impl_MsgOf_F x = some y) : evFn impl_MsgOf_E impl_MsgOf_T Try.f33 impl_MsgOf_b [.ro tYs, .ro tI] [.own tMsg, .own tI, .own tB] x = some y := h
theorem impl_MsgOf_c : ∀ f c, get impl_MsgOf_E.ct f = some c → Sat Try.prog f c := ct_cons impl_MsgBytes_S (ct_cons impl_reader_list_S (ct_cons impl_reader_num_S (ct_cons bytes_HasPrefix_S (ct_nil))))
theorem impl_MsgOf_S : Sat Try.prog 33 impl_MsgOf_C := fn_ok2 (envOk _) impl_MsgOf_c mixedOk Try.func33 (by kernel_rfl : Try.f33.body = some impl_MsgOf_b) (by kernel_rfl) (by kernel_rfl) impl_MsgOf_h
noncomputable def impl_MsgOf_Ke  (x0 : List Int) (x1 : Int) : Ex → AS → Option (RsD [.own tMsg, .own tI, .own tB] × PsO [.ro tYs, .ro tI]) := endK impl_MsgOf_E Try.f33 [.ro tYs, .ro tI] [.own tMsg, .own tI, .own tB] (initL [.ro tYs, .ro tI] (x0, (x1, ())) 0).1
theorem impl_MsgOf_main (x0 : List Int) (x1 : Int) : impl_MsgOf_F (x0, (x1, ())) =
 (impl_reader_num_F ((x0, (x1, (true, ()))), ())).bind fun y15 =>
 (impl_reader_num_F ((y15.2.1.1, (y15.2.1.2.1, (y15.2.1.2.2.1, ()))), ())).bind fun y18 =>
 (impl_reader_num_F ((y18.2.1.1, (y18.2.1.2.1, (y18.2.1.2.2.1, ()))), ())).bind fun y21 =>
 (impl_reader_num_F ((y21.2.1.1, (y21.2.1.2.1, (y21.2.1.2.2.1, ()))), ())).bind fun y24 =>
 (impl_reader_num_F ((y24.2.1.1, (y24.2.1.2.1, (y24.2.1.2.2.1, ()))), ())).bind fun y27 =>
 (impl_reader_list_F ((y27.2.1.1, (y27.2.1.2.1, (y27.2.1.2.2.1, ()))), ())).bind fun y30 =>
 (impl_MsgBytes_F ((y18.1.1, (y21.1.1, (y24.1.1, (y27.1.1, (y30.1.1, ()))))), ())).bind fun y33 =>
 brk (!y30.2.1.2.2.1)
 (some ((((0 : Int), ((0 : Int), ((0 : Int), ((0 : Int), (([] : List Int), ()))))), ((0 : Int), (false, ()))), ((), ((), ()))))
 (brk (decide ((y33.1.1.length : Int) = (0 : Int)))
 (some ((((0 : Int), ((0 : Int), ((0 : Int), ((0 : Int), (([] : List Int), ()))))), ((0 : Int), (false, ()))), ((), ((), ()))))
 (ck (decide (0 ≤ x1) && decide (x1 ≤ (x0.length : Int)) && decide ((x0.length : Int) ≤ x0.length)) ((bytes_HasPrefix_F ((x0.take (x0.length : Int).toNat).drop x1.toNat, (y33.1.1, ()))).bind fun y49 =>
 brk (!y49.1.1)
 (some ((((0 : Int), ((0 : Int), ((0 : Int), ((0 : Int), (([] : List Int), ()))))), ((0 : Int), (false, ()))), ((), ((), ()))))
 (some (((y18.1.1, (y21.1.1, (y24.1.1, (y27.1.1, (y30.1.1, ()))))), (IntKind.i64.wrap (x1 + (y33.1.1.length : Int)), (true, ()))), ((), ((), ()))))))) := by kernel_rfl
/-! impl.Run -/
noncomputable def impl_Run_b : Code := bd Try.f110
@[reducible] def impl_Run_t0 : Tm := ⟨[], [], [(0, .sc true tYs), (1, .sc true tI), (2, .sc true tI), (7, .sc true tI)], [], [7], []⟩
def impl_Run_T : List (Nat × Tm) := [(0, impl_Run_t0)]
noncomputable def impl_Run_E : Env := ⟨tt0, []⟩
noncomputable def impl_Run_F : PsD [.ro tYs, .ro tI, .ro tI] → Option (RsD [.own tI] × PsO [.ro tYs, .ro tI, .ro tI]) := fun x => evFn impl_Run_E impl_Run_T Try.f110 impl_Run_b [.ro tYs, .ro tI, .ro tI] [.own tI] x
@[reducible] noncomputable def impl_Run_C : Ct := ⟨[.ro tYs, .ro tI, .ro tI], [.own tI], impl_Run_F⟩
theorem impl_Run_h (x : PsD [.ro tYs, .ro tI, .ro tI]) (y : RsD [.own tI] × PsO [.ro tYs, .ro tI, .ro tI]) (h : impl_Run_F x = some y) : evFn impl_Run_E impl_Run_T Try.f110 impl_Run_b [.ro tYs, .ro tI, .ro tI] [.own tI] x = some y := h
theorem impl_Run_c : ∀ f c, get impl_Run_E.ct f = some c → Sat Try.prog f c := ct_nil
theorem impl_Run_S : Sat Try.prog 110 impl_Run_C := fn_ok2 (envOk _) impl_Run_c mixedOk Try.func110 (by kernel_rfl : Try.f110.body = some impl_Run_b) (by kernel_rfl) (by kernel_rfl) impl_Run_h
noncomputable def impl_Run_Ke  (x0 : List Int) (x1 : Int) (x2 : Int) : Ex → AS → Option (RsD [.own tI] × PsO [.ro tYs, .ro tI, .ro tI]) := endK impl_Run_E Try.f110 [.ro tYs, .ro tI, .ro tI] [.own tI] (initL [.ro tYs, .ro tI, .ro tI] (x0, (x1, (x2, ()))) 0).1
noncomputable def impl_Run_B0 {R : Type} : AS → (Ex → AS → Option R) → Option R := fun A K => ev impl_Run_E impl_Run_T 0 (cA (cA (cA (cB (cB (cB impl_Run_b)))))) A K
noncomputable def impl_Run_K0  (x0 : List Int) (x1 : Int) (x2 : Int) : Ex → AS → Option (RsD [.own tI] × PsO [.ro tYs, .ro tI, .ro tI]) := kBlk 0 (kSeq (fun A K => ev impl_Run_E impl_Run_T 1000 (cB (cB (cB (cB impl_Run_b)))) A K) (impl_Run_Ke x0 x1 x2))
noncomputable def impl_Run_x0_0 (d0 : Int) : AS := ⟨[(7, .v (.one (.d true tI d0)))], []⟩
theorem impl_Run_l0 {R : Type} {K : Ex → AS → Option R} {s : impl_Run_t0.D} (n : Nat) {v : Option R} (h : iterG impl_Run_t0 impl_Run_B0 K n s = v) (hv : ∃ r, v = some r) : loopG impl_Run_t0 impl_Run_B0 K s = v := loop_eq (ev_mono _ _) n h hv
theorem impl_Run_main (x0 : List Int) (x1 : Int) (x2 : Int) : impl_Run_F (x0, (x1, (x2, ()))) =
 brk (decide (x2 < (1 : Int)))
 (some (((0 : Int), ()), ((), ((), ((), ())))))
 (brk (decide ((255 : Int) < x2))
 (some (((0 : Int), ()), ((), ((), ((), ())))))
 (brk (decide (x1 < x2))
 (some (((0 : Int), ()), ((), ((), ((), ())))))
 (brk (decide ((x0.length : Int) ≤ x1))
 (some (((0 : Int), ()), ((), ((), ((), ())))))
 (loopG impl_Run_t0 impl_Run_B0 (impl_Run_K0 x0 x1 x2) ((x0, (x1, (x2, ((0 : Int), ())))), ()))))) := by kernel_rfl
theorem impl_Run_r0 {R : Type} (K : Ex → AS → Option R) (n : Nat) (t0 : List Int) (t1 : Int) (t2 : Int) (t7 : Int) : iterG impl_Run_t0 impl_Run_B0 K (n + 1) ((t0, (t1, (t2, (t7, ())))), ()) =
 brk (decide (t7 < (100 : Int)))
 (brk (decide (IntKind.i64.wrap (t1 + t7) < (t0.length : Int)))
 (ck (decide (0 ≤ IntKind.i64.wrap (t1 + t7)) && decide (IntKind.i64.wrap (t1 + t7) < t0.length)) (ck (decide (0 ≤ IntKind.i64.wrap ((IntKind.i64.wrap (t1 + t7)) - t2)) && decide (IntKind.i64.wrap ((IntKind.i64.wrap (t1 + t7)) - t2) < t0.length)) (brk (decide (rdD tY t0 (IntKind.i64.wrap (t1 + t7)) = rdD tY t0 (IntKind.i64.wrap ((IntKind.i64.wrap (t1 + t7)) - t2))))
 (iterG impl_Run_t0 impl_Run_B0 K n ((t0, (t1, (t2, (IntKind.i64.wrap (t7 + (1 : Int)), ())))), ()))
 (K (.exit 0) (impl_Run_x0_0 t7)))))
 (K (.exit 0) (impl_Run_x0_0 t7)))
 (K (.exit 0) (impl_Run_x0_0 t7)) := by kernel_rfl
theorem impl_Run_e0_0 (x0 : List Int) (x1 : Int) (x2 : Int) (d0 : Int) : impl_Run_K0 x0 x1 x2 (.exit 0) (impl_Run_x0_0 d0) =
 some ((d0, ()), ((), ((), ((), ())))) := by kernel_rfl
/-! impl.longest -/
noncomputable def impl_longest_b : Code := bd Try.f104
@[reducible] def impl_longest_t0 : Tm := ⟨[], [], [(0, .sc true tYs), (1, .sc true tI), (6, .sc true tI), (7, .sc true tI), (8, .sc true tI)], [], [6, 7], []⟩
def impl_longest_T : List (Nat × Tm) := [(0, impl_longest_t0)]
noncomputable def impl_longest_E : Env := ⟨tt0, [(110, impl_Run_C)]⟩
noncomputable def impl_longest_F : PsD [.ro tYs, .ro tI] → Option (RsD [.own tI, .own tI] × PsO [.ro tYs, .ro tI]) := fun x => evFn impl_longest_E impl_longest_T Try.f104 impl_longest_b [.ro tYs, .ro tI] [.own tI, .own tI] x
@[reducible] noncomputable def impl_longest_C : Ct := ⟨[.ro tYs, .ro tI], [.own tI, .own tI], impl_longest_F⟩
theorem impl_longest_h (x : PsD [.ro tYs, .ro tI]) (y : RsD [.own tI, .own tI] × PsO [.ro tYs, .ro tI]) (h : impl_longest_F x = some y) : evFn impl_longest_E impl_longest_T Try.f104 impl_longest_b [.ro tYs, .ro tI] [.own tI, .own tI] x = some y := h
theorem impl_longest_c : ∀ f c, get impl_longest_E.ct f = some c → Sat Try.prog f c := ct_cons impl_Run_S (ct_nil)
theorem impl_longest_S : Sat Try.prog 104 impl_longest_C := fn_ok2 (envOk _) impl_longest_c mixedOk Try.func104 (by kernel_rfl : Try.f104.body = some impl_longest_b) (by kernel_rfl) (by kernel_rfl) impl_longest_h
noncomputable def impl_longest_Ke  (x0 : List Int) (x1 : Int) : Ex → AS → Option (RsD [.own tI, .own tI] × PsO [.ro tYs, .ro tI]) := endK impl_longest_E Try.f104 [.ro tYs, .ro tI] [.own tI, .own tI] (initL [.ro tYs, .ro tI] (x0, (x1, ())) 0).1
noncomputable def impl_longest_B0 {R : Type} : AS → (Ex → AS → Option R) → Option R := fun A K => ev impl_longest_E impl_longest_T 0 (cA (cA (cB (cA (cB (cB impl_longest_b)))))) A K
noncomputable def impl_longest_K0  (x0 : List Int) (x1 : Int) : Ex → AS → Option (RsD [.own tI, .own tI] × PsO [.ro tYs, .ro tI]) := kBlk 0 (kSeq (fun A K => ev impl_longest_E impl_longest_T 1000 (cB (cB (cB impl_longest_b))) A K) (impl_longest_Ke x0 x1))
noncomputable def impl_longest_x0_0 (d0 : Int) (d1 : Int) : AS := ⟨[(6, .v (.one (.d true tI d0))), (7, .v (.one (.d true tI d1)))], []⟩
theorem impl_longest_l0 {R : Type} {K : Ex → AS → Option R} {s : impl_longest_t0.D} (n : Nat) {v : Option R} (h : iterG impl_longest_t0 impl_longest_B0 K n s = v) (hv : ∃ r, v = some r) : loopG impl_longest_t0 impl_longest_B0 K s = v := loop_eq (ev_mono _ _) n h hv
theorem impl_longest_main (x0 : List Int) (x1 : Int) : impl_longest_F (x0, (x1, ())) =
 loopG impl_longest_t0 impl_longest_B0 (impl_longest_K0 x0 x1) ((x0, (x1, ((0 : Int), ((0 : Int), ((1 : Int), ()))))), ()) := by kernel_rfl
theorem impl_longest_r0 {R : Type} (K : Ex → AS → Option R) (n : Nat) (t0 : List Int) (t1 : Int) (t6 : Int) (t7 : Int) (t8 : Int) : iterG impl_longest_t0 impl_longest_B0 K (n + 1) ((t0, (t1, (t6, (t7, (t8, ()))))), ()) =
 brk (decide (t8 ≤ (255 : Int)))
 (brk (decide (t8 ≤ t1))
 ((impl_Run_F (t0, (t1, (t8, ())))).bind fun y22 =>
 brk (decide (t6 < y22.1.1))
 (iterG impl_longest_t0 impl_longest_B0 K n ((t0, (t1, (y22.1.1, (t8, (IntKind.i64.wrap (t8 + (1 : Int)), ()))))), ()))
 (iterG impl_longest_t0 impl_longest_B0 K n ((t0, (t1, (t6, (t7, (IntKind.i64.wrap (t8 + (1 : Int)), ()))))), ())))
 (K (.exit 0) (impl_longest_x0_0 t6 t7)))
 (K (.exit 0) (impl_longest_x0_0 t6 t7)) := by kernel_rfl
theorem impl_longest_e0_0 (x0 : List Int) (x1 : Int) (d0 : Int) (d1 : Int) : impl_longest_K0 x0 x1 (.exit 0) (impl_longest_x0_0 d0 d1) =
 some ((d0, (d1, ())), ((), ((), ()))) := by kernel_rfl
/-! impl.Squeeze -/
noncomputable def impl_Squeeze_b : Code := bd Try.f83
@[reducible] def impl_Squeeze_t0 : Tm := ⟨[(3, 960000)], [], [(0, .sc true tYs), (3, .own 960000), (4, .sc true tI)], [(960000, .arr 5 tY)], [3], [960000]⟩
def impl_Squeeze_T : List (Nat × Tm) := [(0, impl_Squeeze_t0)]
noncomputable def impl_Squeeze_E : Env := ⟨tt0, [(104, impl_longest_C)]⟩
noncomputable def impl_Squeeze_F : PsD [.ro tYs] → Option (RsD [.own tYs] × PsO [.ro tYs]) := fun x => evFn impl_Squeeze_E impl_Squeeze_T Try.f83 impl_Squeeze_b [.ro tYs] [.own tYs] x
@[reducible] noncomputable def impl_Squeeze_C : Ct := ⟨[.ro tYs], [.own tYs], impl_Squeeze_F⟩
theorem impl_Squeeze_h (x : PsD [.ro tYs]) (y : RsD [.own tYs] × PsO [.ro tYs]) (h : impl_Squeeze_F x = some y) : evFn impl_Squeeze_E impl_Squeeze_T Try.f83 impl_Squeeze_b [.ro tYs] [.own tYs] x = some y := h
theorem impl_Squeeze_c : ∀ f c, get impl_Squeeze_E.ct f = some c → Sat Try.prog f c := ct_cons impl_longest_S (ct_nil)
theorem impl_Squeeze_S : Sat Try.prog 83 impl_Squeeze_C := fn_ok2 (envOk _) impl_Squeeze_c mixedOk Try.func83 (by kernel_rfl : Try.f83.body = some impl_Squeeze_b) (by kernel_rfl) (by kernel_rfl) impl_Squeeze_h
noncomputable def impl_Squeeze_Ke  (x0 : List Int) : Ex → AS → Option (RsD [.own tYs] × PsO [.ro tYs]) := endK impl_Squeeze_E Try.f83 [.ro tYs] [.own tYs] (initL [.ro tYs] (x0, ()) 0).1
noncomputable def impl_Squeeze_B0 {R : Type} : AS → (Ex → AS → Option R) → Option R := fun A K => ev impl_Squeeze_E impl_Squeeze_T 0 (cA (cA (cB (cA (cB (cB (cB impl_Squeeze_b))))))) A K
noncomputable def impl_Squeeze_K0  (x0 : List Int) : Ex → AS → Option (RsD [.own tYs] × PsO [.ro tYs]) := kBlk 0 (kSeq (fun A K => ev impl_Squeeze_E impl_Squeeze_T 1000 (cB (cB (cB (cB impl_Squeeze_b)))) A K) (impl_Squeeze_Ke x0))
noncomputable def impl_Squeeze_x0_0 (d0 : List Int) : AS := ⟨[(3, .v (.one (.own 960000)))], [(960000, .arr 5 tY d0)]⟩
theorem impl_Squeeze_l0 {R : Type} {K : Ex → AS → Option R} {s : impl_Squeeze_t0.D} (n : Nat) {v : Option R} (h : iterG impl_Squeeze_t0 impl_Squeeze_B0 K n s = v) (hv : ∃ r, v = some r) : loopG impl_Squeeze_t0 impl_Squeeze_B0 K s = v := loop_eq (ev_mono _ _) n h hv
theorem impl_Squeeze_main (x0 : List Int) : impl_Squeeze_F (x0, ()) =
 brk (decide ((3000 : Int) < (x0.length : Int)))
 (some ((([] : List Int), ()), ((), ())))
 (loopG impl_Squeeze_t0 impl_Squeeze_B0 (impl_Squeeze_K0 x0) ((x0, ((0 : Int), ())), (([] : List Int), ()))) := by kernel_rfl
theorem impl_Squeeze_r0 {R : Type} (K : Ex → AS → Option R) (n : Nat) (t0 : List Int) (t4 : Int) (a960000 : List Int) : iterG impl_Squeeze_t0 impl_Squeeze_B0 K (n + 1) ((t0, (t4, ())), (a960000, ())) =
 brk (decide (t4 < (t0.length : Int)))
 ((impl_longest_F (t0, (t4, ()))).bind fun y19 =>
 brk (decide ((3 : Int) ≤ y19.1.1))
 (ck (decide ((a960000.length + [IntKind.u8.wrap (IntKind.i64.wrap ((128 : Int) + y19.1.1)), IntKind.u8.wrap y19.1.2.1].length) * 1 ≤ big47)) (iterG impl_Squeeze_t0 impl_Squeeze_B0 K n ((t0, (IntKind.i64.wrap (t4 + y19.1.1), ())), (a960000 ++ [IntKind.u8.wrap (IntKind.i64.wrap ((128 : Int) + y19.1.1)), IntKind.u8.wrap y19.1.2.1], ()))))
 (ck (decide (0 ≤ t4) && decide (t4 < t0.length)) (brk (decide ((0 : Int) < rdD tY t0 t4))
 (ck (decide (0 ≤ t4) && decide (t4 < t0.length)) (brk (decide (rdD tY t0 t4 < (128 : Int)))
 (ck (decide (0 ≤ t4) && decide (t4 < t0.length)) (ck (decide ((a960000.length + [rdD tY t0 t4].length) * 1 ≤ big47)) (iterG impl_Squeeze_t0 impl_Squeeze_B0 K n ((t0, (IntKind.i64.wrap (t4 + (1 : Int)), ())), (a960000 ++ [rdD tY t0 t4], ())))))
 (ck (decide (0 ≤ t4) && decide (t4 < t0.length)) (ck (decide ((a960000.length + [(0 : Int), rdD tY t0 t4].length) * 1 ≤ big47)) (iterG impl_Squeeze_t0 impl_Squeeze_B0 K n ((t0, (IntKind.i64.wrap (t4 + (1 : Int)), ())), (a960000 ++ [(0 : Int), rdD tY t0 t4], ())))))))
 (ck (decide (0 ≤ t4) && decide (t4 < t0.length)) (ck (decide ((a960000.length + [(0 : Int), rdD tY t0 t4].length) * 1 ≤ big47)) (iterG impl_Squeeze_t0 impl_Squeeze_B0 K n ((t0, (IntKind.i64.wrap (t4 + (1 : Int)), ())), (a960000 ++ [(0 : Int), rdD tY t0 t4], ()))))))))
 (K (.exit 0) (impl_Squeeze_x0_0 a960000)) := by kernel_rfl
theorem impl_Squeeze_e0_0 (x0 : List Int) (d0 : List Int) : impl_Squeeze_K0 x0 (.exit 0) (impl_Squeeze_x0_0 d0) =
 some ((d0, ()), ((), ())) := by kernel_rfl
/-! impl.Pack -/
noncomputable def impl_Pack_b : Code := bd Try.f37
@[reducible] def impl_Pack_t0 : Tm := ⟨[(3, 960000)], [], [(3, .own 960000), (7, .sc true tMsgs), (8, .sc true tI), (9, .sc true tI)], [(960000, .arr 5 tY)], [3], [960000]⟩
def impl_Pack_T : List (Nat × Tm) := [(0, impl_Pack_t0)]
noncomputable def impl_Pack_E : Env := ⟨tt0, [(31, impl_MsgBytes_C), (83, impl_Squeeze_C)]⟩
noncomputable def impl_Pack_F : PsD [.ro tMsgs] → Option (RsD [.own tYs] × PsO [.ro tMsgs]) := fun x => evFn impl_Pack_E impl_Pack_T Try.f37 impl_Pack_b [.ro tMsgs] [.own tYs] x
@[reducible] noncomputable def impl_Pack_C : Ct := ⟨[.ro tMsgs], [.own tYs], impl_Pack_F⟩
theorem impl_Pack_h (x : PsD [.ro tMsgs]) (y : RsD [.own tYs] × PsO [.ro tMsgs]) (h : impl_Pack_F x = some y) : evFn impl_Pack_E impl_Pack_T Try.f37 impl_Pack_b [.ro tMsgs] [.own tYs] x = some y := h
theorem impl_Pack_c : ∀ f c, get impl_Pack_E.ct f = some c → Sat Try.prog f c := ct_cons impl_MsgBytes_S (ct_cons impl_Squeeze_S (ct_nil))
theorem impl_Pack_S : Sat Try.prog 37 impl_Pack_C := fn_ok2 (envOk _) impl_Pack_c mixedOk Try.func37 (by kernel_rfl : Try.f37.body = some impl_Pack_b) (by kernel_rfl) (by kernel_rfl) impl_Pack_h
noncomputable def impl_Pack_Ke  (x0 : List (Int × Int × Int × Int × List Int × Unit)) : Ex → AS → Option (RsD [.own tYs] × PsO [.ro tMsgs]) := endK impl_Pack_E Try.f37 [.ro tMsgs] [.own tYs] (initL [.ro tMsgs] (x0, ()) 0).1
noncomputable def impl_Pack_B0 {R : Type} : AS → (Ex → AS → Option R) → Option R := fun A K => ev impl_Pack_E impl_Pack_T 0 (cA (cA (cB (cA (cB (cB impl_Pack_b)))))) A K
noncomputable def impl_Pack_K0  (x0 : List (Int × Int × Int × Int × List Int × Unit)) : Ex → AS → Option (RsD [.own tYs] × PsO [.ro tMsgs]) := kBlk 0 (kSeq (fun A K => ev impl_Pack_E impl_Pack_T 1000 (cB (cB (cB impl_Pack_b))) A K) (impl_Pack_Ke x0))
noncomputable def impl_Pack_x0_0 (d0 : List Int) : AS := ⟨[(3, .v (.one (.own 960000)))], [(960000, .arr 5 tY d0)]⟩
theorem impl_Pack_l0 {R : Type} {K : Ex → AS → Option R} {s : impl_Pack_t0.D} (n : Nat) {v : Option R} (h : iterG impl_Pack_t0 impl_Pack_B0 K n s = v) (hv : ∃ r, v = some r) : loopG impl_Pack_t0 impl_Pack_B0 K s = v := loop_eq (ev_mono _ _) n h hv
theorem impl_Pack_main (x0 : List (Int × Int × Int × Int × List Int × Unit)) : impl_Pack_F (x0, ()) =
 loopG impl_Pack_t0 impl_Pack_B0 (impl_Pack_K0 x0) ((x0, ((x0.length : Int), ((0 : Int), ()))), (([] : List Int), ())) := by kernel_rfl
theorem impl_Pack_r0 {R : Type} (K : Ex → AS → Option R) (n : Nat) (t7 : List (Int × Int × Int × Int × List Int × Unit)) (t8 : Int) (t9 : Int) (a960000 : List Int) : iterG impl_Pack_t0 impl_Pack_B0 K (n + 1) ((t7, (t8, (t9, ()))), (a960000, ())) =
 brk (decide (t9 < t8))
 (ck (decide (0 ≤ t9) && decide (t9 < t7.length)) ((impl_MsgBytes_F (((rdD tMsg t7 t9).1, (((rdD tMsg t7 t9).2).1, ((((rdD tMsg t7 t9).2).2).1, (((((rdD tMsg t7 t9).2).2).2).1, ((((((rdD tMsg t7 t9).2).2).2).2).1, ()))))), ())).bind fun y15 =>
 ck (decide ((a960000.length + y15.1.1.length) * 1 ≤ big47)) (iterG impl_Pack_t0 impl_Pack_B0 K n ((t7, (t8, (IntKind.i64.wrap (t9 + (1 : Int)), ()))), (a960000 ++ y15.1.1, ())))))
 (K (.exit 0) (impl_Pack_x0_0 a960000)) := by kernel_rfl
theorem impl_Pack_e0_0 (x0 : List (Int × Int × Int × Int × List Int × Unit)) (d0 : List Int) : impl_Pack_K0 x0 (.exit 0) (impl_Pack_x0_0 d0) =
 (impl_Squeeze_F (d0, ())).bind fun y19 =>
 some ((y19.1.1, ()), ((), ())) := by kernel_rfl
/-! impl.Spread -/
noncomputable def impl_Spread_b : Code := bd Try.f71
@[reducible] def impl_Spread_t0 : Tm := ⟨[(4, 960000)], [], [(0, .sc true tYs), (4, .own 960000), (5, .sc true tI)], [(960000, .arr 5 tY)], [2, 3, 4], [960000]⟩
@[reducible] def impl_Spread_t2 : Tm := ⟨[(4, 960600)], [], [(0, .sc true tYs), (4, .own 960600), (5, .sc true tI), (7, .sc true tI), (36, .sc true tI), (37, .sc true tB), (38, .sc true tB), (42, .sc true tB), (63, .sc true tI), (64, .own 960000), (65, .sc true tI), (66, .sc true tB), (69, .sc true tI), (70, .sc true tI)], [(960600, .arr 5 tY)], [0, 4, 5, 36, 37, 38, 39, 40, 41, 42, 63, 64, 65, 66], [960600]⟩
def impl_Spread_T : List (Nat × Tm) := [(0, impl_Spread_t0), (2, impl_Spread_t2)]
noncomputable def impl_Spread_E : Env := ⟨tt0, [(65, impl_from_C)]⟩
noncomputable def impl_Spread_F : PsD [.ro tYs] → Option (RsD [.own tYs, .own tB] × PsO [.ro tYs]) := fun x => evFn impl_Spread_E impl_Spread_T Try.f71 impl_Spread_b [.ro tYs] [.own tYs, .own tB] x
@[reducible] noncomputable def impl_Spread_C : Ct := ⟨[.ro tYs], [.own tYs, .own tB], impl_Spread_F⟩
theorem impl_Spread_h (x : PsD [.ro tYs]) (y : RsD [.own tYs, .own tB] × PsO [.ro tYs]) (h : impl_Spread_F x = some y) : evFn impl_Spread_E impl_Spread_T Try.f71 impl_Spread_b [.ro tYs] [.own tYs, .own tB] x = some y := h
theorem impl_Spread_c : ∀ f c, get impl_Spread_E.ct f = some c → Sat Try.prog f c := ct_cons impl_from_S (ct_nil)
theorem impl_Spread_S : Sat Try.prog 71 impl_Spread_C := fn_ok2 (envOk _) impl_Spread_c mixedOk Try.func71 (by kernel_rfl : Try.f71.body = some impl_Spread_b) (by kernel_rfl) (by kernel_rfl) impl_Spread_h
noncomputable def impl_Spread_Ke  (x0 : List Int) : Ex → AS → Option (RsD [.own tYs, .own tB] × PsO [.ro tYs]) := endK impl_Spread_E Try.f71 [.ro tYs] [.own tYs, .own tB] (initL [.ro tYs] (x0, ()) 0).1
noncomputable def impl_Spread_B0 {R : Type} : AS → (Ex → AS → Option R) → Option R := fun A K => ev impl_Spread_E impl_Spread_T 0 (cA (cA (cB (cA (cB (cB impl_Spread_b)))))) A K
noncomputable def impl_Spread_B2 {R : Type} : AS → (Ex → AS → Option R) → Option R := fun A K => ev impl_Spread_E impl_Spread_T 2 (cA (cA (cB (cB (cB (cB (cB (cB (cB (cB (cA (cA (cB (cA (cA (cB (cA (cB (cB impl_Spread_b))))))))))))))))))) A K
noncomputable def impl_Spread_K0  (x0 : List Int) : Ex → AS → Option (RsD [.own tYs, .own tB] × PsO [.ro tYs]) := kBlk 0 (kSeq (fun A K => ev impl_Spread_E impl_Spread_T 1000 (cB (cB (cB impl_Spread_b))) A K) (impl_Spread_Ke x0))
noncomputable def impl_Spread_K2 {R : Type} (K : Ex → AS → Option R) (n : Nat) : Ex → AS → Option R := kBlk 2 (kBlk 1 (kSeq (fun A K => ev impl_Spread_E impl_Spread_T 0 (cB (cB (cA (cA (cB (cA (cB (cB impl_Spread_b)))))))) A K) (iterK impl_Spread_t0 K (iterG impl_Spread_t0 impl_Spread_B0 K n))))
noncomputable def impl_Spread_x0_0 (d0 : Bool) (d1 : List Int) : AS := ⟨[(2, .v (.one (.nil))), (3, .v (.one (.d true tB d0))), (4, .v (.one (.own 960000)))], [(960000, .arr 5 tY d1)]⟩
noncomputable def impl_Spread_x0_1 (d0 : List Int) : AS := ⟨[(4, .v (.one (.own 960000)))], [(960000, .arr 5 tY d0)]⟩
noncomputable def impl_Spread_x2_0 (d0 : List Int) (d1 : Int) (d2 : Int) (d3 : Bool) (d4 : Bool) (d5 : Bool) (d6 : Int) (d7 : Int) (d8 : Bool) (d9 : List Int) : AS := ⟨[(0, .v (.one (.d true tYs d0))), (4, .v (.one (.own 960600))), (5, .v (.one (.d true tI d1))), (36, .v (.one (.d true tI d2))), (37, .v (.one (.d true tB d3))), (38, .v (.one (.d true tB d4))), (42, .v (.one (.d true tB d5))), (63, .v (.one (.d true tI d6))), (64, .v (.one (.own 960000))), (65, .v (.one (.d true tI d7))), (66, .v (.one (.d true tB d8)))], [(960600, .arr 5 tY d9)]⟩
theorem impl_Spread_l0 {R : Type} {K : Ex → AS → Option R} {s : impl_Spread_t0.D} (n : Nat) {v : Option R} (h : iterG impl_Spread_t0 impl_Spread_B0 K n s = v) (hv : ∃ r, v = some r) : loopG impl_Spread_t0 impl_Spread_B0 K s = v := loop_eq (ev_mono _ _) n h hv
theorem impl_Spread_l2 {R : Type} {K : Ex → AS → Option R} {s : impl_Spread_t2.D} (n : Nat) {v : Option R} (h : iterG impl_Spread_t2 impl_Spread_B2 K n s = v) (hv : ∃ r, v = some r) : loopG impl_Spread_t2 impl_Spread_B2 K s = v := loop_eq (ev_mono _ _) n h hv
theorem impl_Spread_main (x0 : List Int) : impl_Spread_F (x0, ()) =
 loopG impl_Spread_t0 impl_Spread_B0 (impl_Spread_K0 x0) ((x0, ((0 : Int), ())), (([] : List Int), ())) := by kernel_rfl
theorem impl_Spread_r0 {R : Type} (K : Ex → AS → Option R) (n : Nat) (t0 : List Int) (t5 : Int) (a960000 : List Int) : iterG impl_Spread_t0 impl_Spread_B0 K (n + 1) ((t0, (t5, ())), (a960000, ())) =
 brk (decide (t5 < (t0.length : Int)))
 (ck (decide (0 ≤ t5) && decide (t5 < t0.length)) ((impl_from_F (IntKind.i64.wrap (rdD tY t0 t5), ((1 : Int), ((127 : Int), ())))).bind fun y21 =>
 brk y21.1.1
 (ck (decide (0 ≤ t5) && decide (t5 < t0.length)) (ck (decide ((a960000.length + [rdD tY t0 t5].length) * 1 ≤ big47)) (iterG impl_Spread_t0 impl_Spread_B0 K n ((t0, (IntKind.i64.wrap (t5 + (1 : Int)), ())), (a960000 ++ [rdD tY t0 t5], ())))))
 (brk (decide (IntKind.i64.wrap (t5 + (1 : Int)) = (t0.length : Int)))
 (K .ret (impl_Spread_x0_0 false a960000))
 (brk (!decide (IntKind.i64.wrap (rdD tY t0 t5) = (0 : Int)))
 ((impl_from_F (IntKind.i64.wrap (rdD tY t0 t5), ((131 : Int), ((228 : Int), ())))).bind fun y40 =>
 brk (!y40.1.1)
 (K .ret (impl_Spread_x0_0 false a960000))
 (ck (decide (0 ≤ IntKind.i64.wrap (t5 + (1 : Int))) && decide (IntKind.i64.wrap (t5 + (1 : Int)) < t0.length)) (brk (decide (IntKind.i64.wrap (rdD tY t0 t5) = (0 : Int)))
 ((impl_from_F (IntKind.i64.wrap (rdD tY t0 (IntKind.i64.wrap (t5 + (1 : Int)))), ((1 : Int), ((127 : Int), ())))).bind fun y52 =>
 brk y52.1.1
 (K .ret (impl_Spread_x0_0 false a960000))
 (ck (decide (0 ≤ IntKind.i64.wrap (t5 + (1 : Int))) && decide (IntKind.i64.wrap (t5 + (1 : Int)) < t0.length)) (ck (decide ((a960000.length + [rdD tY t0 (IntKind.i64.wrap (t5 + (1 : Int)))].length) * 1 ≤ big47)) (iterG impl_Spread_t0 impl_Spread_B0 K n ((t0, (IntKind.i64.wrap ((IntKind.i64.wrap (t5 + (1 : Int))) + (1 : Int)), ())), (a960000 ++ [rdD tY t0 (IntKind.i64.wrap (t5 + (1 : Int)))], ()))))))
 (brk (decide (IntKind.i64.wrap (rdD tY t0 (IntKind.i64.wrap (t5 + (1 : Int)))) < (1 : Int)))
 (K .ret (impl_Spread_x0_0 false a960000))
 (brk (decide ((a960000.length : Int) < IntKind.i64.wrap (rdD tY t0 (IntKind.i64.wrap (t5 + (1 : Int))))))
 (K .ret (impl_Spread_x0_0 false a960000))
 (loopG impl_Spread_t2 impl_Spread_B2 (impl_Spread_K2 K n) ((t0, (IntKind.i64.wrap (t5 + (1 : Int)), (IntKind.i64.wrap (rdD tY t0 (IntKind.i64.wrap (t5 + (1 : Int)))), (IntKind.i64.wrap (rdD tY t0 t5), (!decide (IntKind.i64.wrap (rdD tY t0 t5) = (0 : Int)), (true, (!y40.1.1, (IntKind.i64.wrap (rdD tY t0 (IntKind.i64.wrap (t5 + (1 : Int)))), ((a960000.length : Int), (decide ((a960000.length : Int) < IntKind.i64.wrap (rdD tY t0 (IntKind.i64.wrap (t5 + (1 : Int))))), (IntKind.i64.wrap ((IntKind.i64.wrap (rdD tY t0 t5)) - (128 : Int)), ((0 : Int), ())))))))))))), (a960000, ()))))))))
 (ck (decide (0 ≤ IntKind.i64.wrap (t5 + (1 : Int))) && decide (IntKind.i64.wrap (t5 + (1 : Int)) < t0.length)) (brk (decide (IntKind.i64.wrap (rdD tY t0 t5) = (0 : Int)))
 ((impl_from_F (IntKind.i64.wrap (rdD tY t0 (IntKind.i64.wrap (t5 + (1 : Int)))), ((1 : Int), ((127 : Int), ())))).bind fun y52 =>
 brk y52.1.1
 (K .ret (impl_Spread_x0_0 false a960000))
 (ck (decide (0 ≤ IntKind.i64.wrap (t5 + (1 : Int))) && decide (IntKind.i64.wrap (t5 + (1 : Int)) < t0.length)) (ck (decide ((a960000.length + [rdD tY t0 (IntKind.i64.wrap (t5 + (1 : Int)))].length) * 1 ≤ big47)) (iterG impl_Spread_t0 impl_Spread_B0 K n ((t0, (IntKind.i64.wrap ((IntKind.i64.wrap (t5 + (1 : Int))) + (1 : Int)), ())), (a960000 ++ [rdD tY t0 (IntKind.i64.wrap (t5 + (1 : Int)))], ()))))))
 (brk (decide (IntKind.i64.wrap (rdD tY t0 (IntKind.i64.wrap (t5 + (1 : Int)))) < (1 : Int)))
 (K .ret (impl_Spread_x0_0 false a960000))
 (brk (decide ((a960000.length : Int) < IntKind.i64.wrap (rdD tY t0 (IntKind.i64.wrap (t5 + (1 : Int))))))
 (K .ret (impl_Spread_x0_0 false a960000))
 (loopG impl_Spread_t2 impl_Spread_B2 (impl_Spread_K2 K n) ((t0, (IntKind.i64.wrap (t5 + (1 : Int)), (IntKind.i64.wrap (rdD tY t0 (IntKind.i64.wrap (t5 + (1 : Int)))), (IntKind.i64.wrap (rdD tY t0 t5), (!decide (IntKind.i64.wrap (rdD tY t0 t5) = (0 : Int)), (false, (false, (IntKind.i64.wrap (rdD tY t0 (IntKind.i64.wrap (t5 + (1 : Int)))), ((a960000.length : Int), (decide ((a960000.length : Int) < IntKind.i64.wrap (rdD tY t0 (IntKind.i64.wrap (t5 + (1 : Int))))), (IntKind.i64.wrap ((IntKind.i64.wrap (rdD tY t0 t5)) - (128 : Int)), ((0 : Int), ())))))))))))), (a960000, ())))))))))))
 (K (.exit 0) (impl_Spread_x0_1 a960000)) := by kernel_rfl
theorem impl_Spread_r2 {R : Type} (K : Ex → AS → Option R) (n : Nat) (t0 : List Int) (t5 : Int) (t7 : Int) (t36 : Int) (t37 : Bool) (t38 : Bool) (t42 : Bool) (t63 : Int) (t65 : Int) (t66 : Bool) (t69 : Int) (t70 : Int) (a960600 : List Int) : iterG impl_Spread_t2 impl_Spread_B2 K (n + 1) ((t0, (t5, (t7, (t36, (t37, (t38, (t42, (t63, (t65, (t66, (t69, (t70, ())))))))))))), (a960600, ())) =
 brk (decide (t70 < t69))
 (ck (decide (0 ≤ IntKind.i64.wrap ((a960600.length : Int) - t7)) && decide (IntKind.i64.wrap ((a960600.length : Int) - t7) < a960600.length)) (ck (decide ((a960600.length + [rdD tY a960600 (IntKind.i64.wrap ((a960600.length : Int) - t7))].length) * 1 ≤ big47)) (iterG impl_Spread_t2 impl_Spread_B2 K n ((t0, (t5, (t7, (t36, (t37, (t38, (t42, (t63, (t65, (t66, (t69, (IntKind.i64.wrap (t70 + (1 : Int)), ())))))))))))), (a960600 ++ [rdD tY a960600 (IntKind.i64.wrap ((a960600.length : Int) - t7))], ())))))
 (K (.exit 2) (impl_Spread_x2_0 t0 t5 t36 t37 t38 t42 t63 t65 t66 a960600)) := by kernel_rfl
theorem impl_Spread_e0_0 (x0 : List Int) (d0 : Bool) (d1 : List Int) : impl_Spread_K0 x0 .ret (impl_Spread_x0_0 d0 d1) =
 some ((([] : List Int), (d0, ())), ((), ())) := by kernel_rfl
theorem impl_Spread_e0_1 (x0 : List Int) (d0 : List Int) : impl_Spread_K0 x0 (.exit 0) (impl_Spread_x0_1 d0) =
 brk (decide ((3000 : Int) < (d0.length : Int)))
 (some ((([] : List Int), (false, ())), ((), ())))
 (some ((d0, (true, ())), ((), ()))) := by kernel_rfl
theorem impl_Spread_e2_0 {R : Type} (K : Ex → AS → Option R) (n : Nat) (d0 : List Int) (d1 : Int) (d2 : Int) (d3 : Bool) (d4 : Bool) (d5 : Bool) (d6 : Int) (d7 : Int) (d8 : Bool) (d9 : List Int) : impl_Spread_K2 K n (.exit 2) (impl_Spread_x2_0 d0 d1 d2 d3 d4 d5 d6 d7 d8 d9) =
 iterG impl_Spread_t0 impl_Spread_B0 K n ((d0, (IntKind.i64.wrap (d1 + (1 : Int)), ())), (d9, ())) := by kernel_rfl
/-! impl.Unpack -/
noncomputable def impl_Unpack_b : Code := bd Try.f24
@[reducible] def impl_Unpack_t0 : Tm := ⟨[(6, 960000)], [], [(0, .sc true tYs), (4, .own 208), (6, .own 960000), (7, .sc true tI)], [(208, .arr 5 tY), (960000, .arr 47 tMsg)], [0, 2, 3, 6], [288, 960000]⟩
def impl_Unpack_T : List (Nat × Tm) := [(0, impl_Unpack_t0)]
noncomputable def impl_Unpack_E : Env := ⟨tt0, [(33, impl_MsgOf_C), (37, impl_Pack_C), (53, bytes_Equal_C), (71, impl_Spread_C)]⟩
noncomputable def impl_Unpack_F : PsD [.ro tYs] → Option (RsD [.own tMsgs, .own tB] × PsO [.ro tYs]) := fun x => evFn impl_Unpack_E impl_Unpack_T Try.f24 impl_Unpack_b [.ro tYs] [.own tMsgs, .own tB] x
@[reducible] noncomputable def impl_Unpack_C : Ct := ⟨[.ro tYs], [.own tMsgs, .own tB], impl_Unpack_F⟩
theorem impl_Unpack_h (x : PsD [.ro tYs]) (y : RsD [.own tMsgs, .own tB] × PsO [.ro tYs]) (h : impl_Unpack_F x = some y) : evFn impl_Unpack_E impl_Unpack_T Try.f24 impl_Unpack_b [.ro tYs] [.own tMsgs, .own tB] x = some y := h
theorem impl_Unpack_c : ∀ f c, get impl_Unpack_E.ct f = some c → Sat Try.prog f c := ct_cons impl_MsgOf_S (ct_cons impl_Pack_S (ct_cons bytes_Equal_S (ct_cons impl_Spread_S (ct_nil))))
theorem impl_Unpack_S : Sat Try.prog 24 impl_Unpack_C := fn_ok2 (envOk _) impl_Unpack_c mixedOk Try.func24 (by kernel_rfl : Try.f24.body = some impl_Unpack_b) (by kernel_rfl) (by kernel_rfl) impl_Unpack_h
noncomputable def impl_Unpack_Ke  (x0 : List Int) : Ex → AS → Option (RsD [.own tMsgs, .own tB] × PsO [.ro tYs]) := endK impl_Unpack_E Try.f24 [.ro tYs] [.own tMsgs, .own tB] (initL [.ro tYs] (x0, ()) 0).1
noncomputable def impl_Unpack_B0 {R : Type} : AS → (Ex → AS → Option R) → Option R := fun A K => ev impl_Unpack_E impl_Unpack_T 0 (cA (cA (cB (cA (cB (cB (cB (cB impl_Unpack_b)))))))) A K
noncomputable def impl_Unpack_K0  (x0 : List Int) : Ex → AS → Option (RsD [.own tMsgs, .own tB] × PsO [.ro tYs]) := kBlk 0 (kSeq (fun A K => ev impl_Unpack_E impl_Unpack_T 1000 (cB (cB (cB (cB (cB impl_Unpack_b))))) A K) (impl_Unpack_Ke x0))
noncomputable def impl_Unpack_x0_0 (d0 : List Int) (d1 : Bool) (d2 : List (Int × Int × Int × Int × List Int × Unit)) : AS := ⟨[(0, .v (.one (.d true tYs d0))), (2, .v (.one (.nil))), (3, .v (.one (.d true tB d1))), (6, .v (.one (.own 960000)))], [(960000, .arr 47 tMsg d2)]⟩
noncomputable def impl_Unpack_x0_1 (d0 : List Int) (d1 : List (Int × Int × Int × Int × List Int × Unit)) : AS := ⟨[(0, .v (.one (.d true tYs d0))), (6, .v (.one (.own 960000)))], [(960000, .arr 47 tMsg d1)]⟩
theorem impl_Unpack_l0 {R : Type} {K : Ex → AS → Option R} {s : impl_Unpack_t0.D} (n : Nat) {v : Option R} (h : iterG impl_Unpack_t0 impl_Unpack_B0 K n s = v) (hv : ∃ r, v = some r) : loopG impl_Unpack_t0 impl_Unpack_B0 K s = v := loop_eq (ev_mono _ _) n h hv
theorem impl_Unpack_main (x0 : List Int) : impl_Unpack_F (x0, ()) =
 (impl_Spread_F (x0, ())).bind fun y13 =>
 brk (!y13.1.2.1)
 (some ((([] : List (Int × Int × Int × Int × List Int × Unit)), (false, ())), ((), ())))
 (loopG impl_Unpack_t0 impl_Unpack_B0 (impl_Unpack_K0 x0) ((x0, ((0 : Int), ())), (y13.1.1, (([] : List (Int × Int × Int × Int × List Int × Unit)), ())))) := by kernel_rfl
theorem impl_Unpack_r0 {R : Type} (K : Ex → AS → Option R) (n : Nat) (t0 : List Int) (t7 : Int) (a208 : List Int) (a960000 : List (Int × Int × Int × Int × List Int × Unit)) : iterG impl_Unpack_t0 impl_Unpack_B0 K (n + 1) ((t0, (t7, ())), (a208, (a960000, ()))) =
 brk (decide (t7 < (a208.length : Int)))
 ((impl_MsgOf_F (a208, (t7, ()))).bind fun y26 =>
 brk (!y26.1.2.2.1)
 (K .ret (impl_Unpack_x0_0 t0 false a960000))
 (ck (decide ((a960000.length + [(y26.1.1.1, (y26.1.1.2.1, (y26.1.1.2.2.1, (y26.1.1.2.2.2.1, (y26.1.1.2.2.2.2.1, ())))))].length) * 56 ≤ big47)) (iterG impl_Unpack_t0 impl_Unpack_B0 K n ((t0, (y26.1.2.1, ())), (a208, (a960000 ++ [(y26.1.1.1, (y26.1.1.2.1, (y26.1.1.2.2.1, (y26.1.1.2.2.2.1, (y26.1.1.2.2.2.2.1, ())))))], ()))))))
 (K (.exit 0) (impl_Unpack_x0_1 t0 a960000)) := by kernel_rfl
theorem impl_Unpack_e0_0 (x0 : List Int) (d0 : List Int) (d1 : Bool) (d2 : List (Int × Int × Int × Int × List Int × Unit)) : impl_Unpack_K0 x0 .ret (impl_Unpack_x0_0 d0 d1 d2) =
 some ((([] : List (Int × Int × Int × Int × List Int × Unit)), (d1, ())), ((), ())) := by kernel_rfl
theorem impl_Unpack_e0_1 (x0 : List Int) (d0 : List Int) (d1 : List (Int × Int × Int × Int × List Int × Unit)) : impl_Unpack_K0 x0 (.exit 0) (impl_Unpack_x0_1 d0 d1) =
 (impl_Pack_F (d1, ())).bind fun y38 =>
 (bytes_Equal_F (y38.1.1, (d0, ()))).bind fun y40 =>
 brk (!y40.1.1)
 (some ((([] : List (Int × Int × Int × Int × List Int × Unit)), (false, ())), ((), ())))
 (some ((d1, (true, ())), ((), ()))) := by kernel_rfl
/-! laws.eqIntS -/
noncomputable def laws_eqIntS_b : Code := bd Try.f102
@[reducible] def laws_eqIntS_t0 : Tm := ⟨[], [], [(0, .sc true tIs), (1, .sc true tIs), (5, .sc true tI)], [], [4], []⟩
def laws_eqIntS_T : List (Nat × Tm) := [(0, laws_eqIntS_t0)]
noncomputable def laws_eqIntS_E : Env := ⟨tt0, []⟩
noncomputable def laws_eqIntS_F : PsD [.ro tIs, .ro tIs] → Option (RsD [.own tB] × PsO [.ro tIs, .ro tIs]) := fun x => evFn laws_eqIntS_E laws_eqIntS_T Try.f102 laws_eqIntS_b [.ro tIs, .ro tIs] [.own tB] x
@[reducible] noncomputable def laws_eqIntS_C : Ct := ⟨[.ro tIs, .ro tIs], [.own tB], laws_eqIntS_F⟩
theorem laws_eqIntS_h (x : PsD [.ro tIs, .ro tIs]) (y : RsD [.own tB] × PsO [.ro tIs, .ro tIs]) (h : laws_eqIntS_F x = some y) : evFn laws_eqIntS_E laws_eqIntS_T Try.f102 laws_eqIntS_b [.ro tIs, .ro tIs] [.own tB] x = some y := h
theorem laws_eqIntS_c : ∀ f c, get laws_eqIntS_E.ct f = some c → Sat Try.prog f c := ct_nil
theorem laws_eqIntS_S : Sat Try.prog 102 laws_eqIntS_C := fn_ok2 (envOk _) laws_eqIntS_c mixedOk Try.func102 (by kernel_rfl : Try.f102.body = some laws_eqIntS_b) (by kernel_rfl) (by kernel_rfl) laws_eqIntS_h
noncomputable def laws_eqIntS_Ke  (x0 : List Int) (x1 : List Int) : Ex → AS → Option (RsD [.own tB] × PsO [.ro tIs, .ro tIs]) := endK laws_eqIntS_E Try.f102 [.ro tIs, .ro tIs] [.own tB] (initL [.ro tIs, .ro tIs] (x0, (x1, ())) 0).1
noncomputable def laws_eqIntS_B0 {R : Type} : AS → (Ex → AS → Option R) → Option R := fun A K => ev laws_eqIntS_E laws_eqIntS_T 0 (cA (cA (cB (cA (cB (cB laws_eqIntS_b)))))) A K
noncomputable def laws_eqIntS_K0  (x0 : List Int) (x1 : List Int) : Ex → AS → Option (RsD [.own tB] × PsO [.ro tIs, .ro tIs]) := kBlk 0 (kSeq (fun A K => ev laws_eqIntS_E laws_eqIntS_T 1000 (cB (cB (cB laws_eqIntS_b))) A K) (laws_eqIntS_Ke x0 x1))
noncomputable def laws_eqIntS_x0_0 (d0 : Bool) : AS := ⟨[(4, .v (.one (.d true tB d0)))], []⟩
noncomputable def laws_eqIntS_x0_1 : AS := ⟨[], []⟩
theorem laws_eqIntS_l0 {R : Type} {K : Ex → AS → Option R} {s : laws_eqIntS_t0.D} (n : Nat) {v : Option R} (h : iterG laws_eqIntS_t0 laws_eqIntS_B0 K n s = v) (hv : ∃ r, v = some r) : loopG laws_eqIntS_t0 laws_eqIntS_B0 K s = v := loop_eq (ev_mono _ _) n h hv
theorem laws_eqIntS_main (x0 : List Int) (x1 : List Int) : laws_eqIntS_F (x0, (x1, ())) =
 brk (!decide ((x0.length : Int) = (x1.length : Int)))
 (some ((false, ()), ((), ((), ()))))
 (loopG laws_eqIntS_t0 laws_eqIntS_B0 (laws_eqIntS_K0 x0 x1) ((x0, (x1, ((0 : Int), ()))), ())) := by kernel_rfl
theorem laws_eqIntS_r0 {R : Type} (K : Ex → AS → Option R) (n : Nat) (t0 : List Int) (t1 : List Int) (t5 : Int) : iterG laws_eqIntS_t0 laws_eqIntS_B0 K (n + 1) ((t0, (t1, (t5, ()))), ()) =
 brk (decide (t5 < (t0.length : Int)))
 (ck (decide (0 ≤ t5) && decide (t5 < t0.length)) (ck (decide (0 ≤ t5) && decide (t5 < t1.length)) (brk (!decide (rdD tI t0 t5 = rdD tI t1 t5))
 (K .ret (laws_eqIntS_x0_0 false))
 (iterG laws_eqIntS_t0 laws_eqIntS_B0 K n ((t0, (t1, (IntKind.i64.wrap (t5 + (1 : Int)), ()))), ())))))
 (K (.exit 0) (laws_eqIntS_x0_1)) := by kernel_rfl
theorem laws_eqIntS_e0_0 (x0 : List Int) (x1 : List Int) (d0 : Bool) : laws_eqIntS_K0 x0 x1 .ret (laws_eqIntS_x0_0 d0) =
 some ((d0, ()), ((), ((), ()))) := by kernel_rfl
theorem laws_eqIntS_e0_1 (x0 : List Int) (x1 : List Int) : laws_eqIntS_K0 x0 x1 (.exit 0) (laws_eqIntS_x0_1) =
 some ((true, ()), ((), ((), ()))) := by kernel_rfl
/-! laws.eqMsg -/
noncomputable def laws_eqMsg_b : Code := bd Try.f72
def laws_eqMsg_T : List (Nat × Tm) := []
noncomputable def laws_eqMsg_E : Env := ⟨tt0, [(102, laws_eqIntS_C)]⟩
noncomputable def laws_eqMsg_F : PsD [.ro tMsg, .ro tMsg] → Option (RsD [.own tB] × PsO [.ro tMsg, .ro tMsg]) := fun x => evFn laws_eqMsg_E laws_eqMsg_T Try.f72 laws_eqMsg_b [.ro tMsg, .ro tMsg] [.own tB] x
@[reducible] noncomputable def laws_eqMsg_C : Ct := ⟨[.ro tMsg, .ro tMsg], [.own tB], laws_eqMsg_F⟩
theorem laws_eqMsg_h (x : PsD [.ro tMsg, .ro tMsg]) (y : RsD [.own tB] × PsO [.ro tMsg, .ro tMsg]) (h : laws_eqMsg_F x = some y) : evFn laws_eqMsg_E laws_eqMsg_T Try.f72 laws_eqMsg_b [.ro tMsg, .ro tMsg] [.own tB] x = some y := h
theorem laws_eqMsg_c : ∀ f c, get laws_eqMsg_E.ct f = some c → Sat Try.prog f c := ct_cons laws_eqIntS_S (ct_nil)
theorem laws_eqMsg_S : Sat Try.prog 72 laws_eqMsg_C := fn_ok2 (envOk _) laws_eqMsg_c mixedOk Try.func72 (by kernel_rfl : Try.f72.body = some laws_eqMsg_b) (by kernel_rfl) (by kernel_rfl) laws_eqMsg_h
noncomputable def laws_eqMsg_Ke  (x0 : Int × Int × Int × Int × List Int × Unit) (x1 : Int × Int × Int × Int × List Int × Unit) : Ex → AS → Option (RsD [.own tB] × PsO [.ro tMsg, .ro tMsg]) := endK laws_eqMsg_E Try.f72 [.ro tMsg, .ro tMsg] [.own tB] (initL [.ro tMsg, .ro tMsg] (x0, (x1, ())) 0).1
theorem laws_eqMsg_main (x0 : Int × Int × Int × Int × List Int × Unit) (x1 : Int × Int × Int × Int × List Int × Unit) : laws_eqMsg_F (x0, (x1, ())) =
 brk (!decide (x0.1 = x1.1))
 (some ((false, ()), ((), ((), ()))))
 (brk (!decide (x0.2.1 = x1.2.1))
 (some ((false, ()), ((), ((), ()))))
 (brk (!decide (x0.2.2.1 = x1.2.2.1))
 (some ((false, ()), ((), ((), ()))))
 (brk (!decide (x0.2.2.2.1 = x1.2.2.2.1))
 (some ((false, ()), ((), ((), ()))))
 ((laws_eqIntS_F (x0.2.2.2.2.1, (x1.2.2.2.2.1, ()))).bind fun y29 =>
 brk (!y29.1.1)
 (some ((false, ()), ((), ((), ()))))
 (some ((true, ()), ((), ((), ())))))))) := by kernel_rfl
/-! laws.eqMsgS -/
noncomputable def laws_eqMsgS_b : Code := bd Try.f25
@[reducible] def laws_eqMsgS_t0 : Tm := ⟨[], [], [(0, .sc true tMsgs), (1, .sc true tMsgs), (5, .sc true tI)], [], [4], []⟩
def laws_eqMsgS_T : List (Nat × Tm) := [(0, laws_eqMsgS_t0)]
noncomputable def laws_eqMsgS_E : Env := ⟨tt0, [(72, laws_eqMsg_C)]⟩
noncomputable def laws_eqMsgS_F : PsD [.ro tMsgs, .ro tMsgs] → Option (RsD [.own tB] × PsO [.ro tMsgs, .ro tMsgs]) := fun x => evFn laws_eqMsgS_E laws_eqMsgS_T Try.f25 laws_eqMsgS_b [.ro tMsgs, .ro tMsgs] [.own tB] x
@[reducible] noncomputable def laws_eqMsgS_C : Ct := ⟨[.ro tMsgs, .ro tMsgs], [.own tB], laws_eqMsgS_F⟩
theorem laws_eqMsgS_h (x : PsD [.ro tMsgs, .ro tMsgs]) (y : RsD [.own tB] × PsO [.ro tMsgs, .ro tMsgs]) (h : laws_eqMsgS_F x = some y) : evFn laws_eqMsgS_E laws_eqMsgS_T Try.f25 laws_eqMsgS_b [.ro tMsgs, .ro tMsgs] [.own tB] x = some y := h
theorem laws_eqMsgS_c : ∀ f c, get laws_eqMsgS_E.ct f = some c → Sat Try.prog f c := ct_cons laws_eqMsg_S (ct_nil)
theorem laws_eqMsgS_S : Sat Try.prog 25 laws_eqMsgS_C := fn_ok2 (envOk _) laws_eqMsgS_c mixedOk Try.func25 (by kernel_rfl : Try.f25.body = some laws_eqMsgS_b) (by kernel_rfl) (by kernel_rfl) laws_eqMsgS_h
noncomputable def laws_eqMsgS_Ke  (x0 : List (Int × Int × Int × Int × List Int × Unit)) (x1 : List (Int × Int × Int × Int × List Int × Unit)) : Ex → AS → Option (RsD [.own tB] × PsO [.ro tMsgs, .ro tMsgs]) := endK laws_eqMsgS_E Try.f25 [.ro tMsgs, .ro tMsgs] [.own tB] (initL [.ro tMsgs, .ro tMsgs] (x0, (x1, ())) 0).1
noncomputable def laws_eqMsgS_B0 {R : Type} : AS → (Ex → AS → Option R) → Option R := fun A K => ev laws_eqMsgS_E laws_eqMsgS_T 0 (cA (cA (cB (cA (cB (cB laws_eqMsgS_b)))))) A K
noncomputable def laws_eqMsgS_K0  (x0 : List (Int × Int × Int × Int × List Int × Unit)) (x1 : List (Int × Int × Int × Int × List Int × Unit)) : Ex → AS → Option (RsD [.own tB] × PsO [.ro tMsgs, .ro tMsgs]) := kBlk 0 (kSeq (fun A K => ev laws_eqMsgS_E laws_eqMsgS_T 1000 (cB (cB (cB laws_eqMsgS_b))) A K) (laws_eqMsgS_Ke x0 x1))
noncomputable def laws_eqMsgS_x0_0 (d0 : Bool) : AS := ⟨[(4, .v (.one (.d true tB d0)))], []⟩
noncomputable def laws_eqMsgS_x0_1 : AS := ⟨[], []⟩
theorem laws_eqMsgS_l0 {R : Type} {K : Ex → AS → Option R} {s : laws_eqMsgS_t0.D} (n : Nat) {v : Option R} (h : iterG laws_eqMsgS_t0 laws_eqMsgS_B0 K n s = v) (hv : ∃ r, v = some r) : loopG laws_eqMsgS_t0 laws_eqMsgS_B0 K s = v := loop_eq (ev_mono _ _) n h hv
theorem laws_eqMsgS_main (x0 : List (Int × Int × Int × Int × List Int × Unit)) (x1 : List (Int × Int × Int × Int × List Int × Unit)) : laws_eqMsgS_F (x0, (x1, ())) =
 brk (!decide ((x0.length : Int) = (x1.length : Int)))
 (some ((false, ()), ((), ((), ()))))
 (loopG laws_eqMsgS_t0 laws_eqMsgS_B0 (laws_eqMsgS_K0 x0 x1) ((x0, (x1, ((0 : Int), ()))), ())) := by kernel_rfl
theorem laws_eqMsgS_r0 {R : Type} (K : Ex → AS → Option R) (n : Nat) (t0 : List (Int × Int × Int × Int × List Int × Unit)) (t1 : List (Int × Int × Int × Int × List Int × Unit)) (t5 : Int) : iterG laws_eqMsgS_t0 laws_eqMsgS_B0 K (n + 1) ((t0, (t1, (t5, ()))), ()) =
 brk (decide (t5 < (t0.length : Int)))
 (ck (decide (0 ≤ t5) && decide (t5 < t0.length)) (ck (decide (0 ≤ t5) && decide (t5 < t1.length)) ((laws_eqMsg_F (((rdD tMsg t0 t5).1, (((rdD tMsg t0 t5).2).1, ((((rdD tMsg t0 t5).2).2).1, (((((rdD tMsg t0 t5).2).2).2).1, ((((((rdD tMsg t0 t5).2).2).2).2).1, ()))))), (((rdD tMsg t1 t5).1, (((rdD tMsg t1 t5).2).1, ((((rdD tMsg t1 t5).2).2).1, (((((rdD tMsg t1 t5).2).2).2).1, ((((((rdD tMsg t1 t5).2).2).2).2).1, ()))))), ()))).bind fun y25 =>
 brk (!y25.1.1)
 (K .ret (laws_eqMsgS_x0_0 false))
 (iterG laws_eqMsgS_t0 laws_eqMsgS_B0 K n ((t0, (t1, (IntKind.i64.wrap (t5 + (1 : Int)), ()))), ())))))
 (K (.exit 0) (laws_eqMsgS_x0_1)) := by kernel_rfl
theorem laws_eqMsgS_e0_0 (x0 : List (Int × Int × Int × Int × List Int × Unit)) (x1 : List (Int × Int × Int × Int × List Int × Unit)) (d0 : Bool) : laws_eqMsgS_K0 x0 x1 .ret (laws_eqMsgS_x0_0 d0) =
 some ((d0, ()), ((), ((), ()))) := by kernel_rfl
theorem laws_eqMsgS_e0_1 (x0 : List (Int × Int × Int × Int × List Int × Unit)) (x1 : List (Int × Int × Int × Int × List Int × Unit)) : laws_eqMsgS_K0 x0 x1 (.exit 0) (laws_eqMsgS_x0_1) =
 some ((true, ()), ((), ((), ()))) := by kernel_rfl
/-! laws.eqByteS -/
noncomputable def laws_eqByteS_b : Code := bd Try.f26
@[reducible] def laws_eqByteS_t0 : Tm := ⟨[], [], [(0, .sc true tYs), (1, .sc true tYs), (5, .sc true tI)], [], [4], []⟩
def laws_eqByteS_T : List (Nat × Tm) := [(0, laws_eqByteS_t0)]
noncomputable def laws_eqByteS_E : Env := ⟨tt0, []⟩
noncomputable def laws_eqByteS_F : PsD [.ro tYs, .ro tYs] → Option (RsD [.own tB] × PsO [.ro tYs, .ro tYs]) := fun x => evFn laws_eqByteS_E laws_eqByteS_T Try.f26 laws_eqByteS_b [.ro tYs, .ro tYs] [.own tB] x
@[reducible] noncomputable def laws_eqByteS_C : Ct := ⟨[.ro tYs, .ro tYs], [.own tB], laws_eqByteS_F⟩
theorem laws_eqByteS_h (x : PsD [.ro tYs, .ro tYs]) (y : RsD [.own tB] × PsO [.ro tYs, .ro tYs]) (h : laws_eqByteS_F x = some y) : evFn laws_eqByteS_E laws_eqByteS_T Try.f26 laws_eqByteS_b [.ro tYs, .ro tYs] [.own tB] x = some y := h
theorem laws_eqByteS_c : ∀ f c, get laws_eqByteS_E.ct f = some c → Sat Try.prog f c := ct_nil
theorem laws_eqByteS_S : Sat Try.prog 26 laws_eqByteS_C := fn_ok2 (envOk _) laws_eqByteS_c mixedOk Try.func26 (by kernel_rfl : Try.f26.body = some laws_eqByteS_b) (by kernel_rfl) (by kernel_rfl) laws_eqByteS_h
noncomputable def laws_eqByteS_Ke  (x0 : List Int) (x1 : List Int) : Ex → AS → Option (RsD [.own tB] × PsO [.ro tYs, .ro tYs]) := endK laws_eqByteS_E Try.f26 [.ro tYs, .ro tYs] [.own tB] (initL [.ro tYs, .ro tYs] (x0, (x1, ())) 0).1
noncomputable def laws_eqByteS_B0 {R : Type} : AS → (Ex → AS → Option R) → Option R := fun A K => ev laws_eqByteS_E laws_eqByteS_T 0 (cA (cA (cB (cA (cB (cB laws_eqByteS_b)))))) A K
noncomputable def laws_eqByteS_K0  (x0 : List Int) (x1 : List Int) : Ex → AS → Option (RsD [.own tB] × PsO [.ro tYs, .ro tYs]) := kBlk 0 (kSeq (fun A K => ev laws_eqByteS_E laws_eqByteS_T 1000 (cB (cB (cB laws_eqByteS_b))) A K) (laws_eqByteS_Ke x0 x1))
noncomputable def laws_eqByteS_x0_0 (d0 : Bool) : AS := ⟨[(4, .v (.one (.d true tB d0)))], []⟩
noncomputable def laws_eqByteS_x0_1 : AS := ⟨[], []⟩
theorem laws_eqByteS_l0 {R : Type} {K : Ex → AS → Option R} {s : laws_eqByteS_t0.D} (n : Nat) {v : Option R} (h : iterG laws_eqByteS_t0 laws_eqByteS_B0 K n s = v) (hv : ∃ r, v = some r) : loopG laws_eqByteS_t0 laws_eqByteS_B0 K s = v := loop_eq (ev_mono _ _) n h hv
theorem laws_eqByteS_main (x0 : List Int) (x1 : List Int) : laws_eqByteS_F (x0, (x1, ())) =
 brk (!decide ((x0.length : Int) = (x1.length : Int)))
 (some ((false, ()), ((), ((), ()))))
 (loopG laws_eqByteS_t0 laws_eqByteS_B0 (laws_eqByteS_K0 x0 x1) ((x0, (x1, ((0 : Int), ()))), ())) := by kernel_rfl
theorem laws_eqByteS_r0 {R : Type} (K : Ex → AS → Option R) (n : Nat) (t0 : List Int) (t1 : List Int) (t5 : Int) : iterG laws_eqByteS_t0 laws_eqByteS_B0 K (n + 1) ((t0, (t1, (t5, ()))), ()) =
 brk (decide (t5 < (t0.length : Int)))
 (ck (decide (0 ≤ t5) && decide (t5 < t0.length)) (ck (decide (0 ≤ t5) && decide (t5 < t1.length)) (brk (!decide (rdD tY t0 t5 = rdD tY t1 t5))
 (K .ret (laws_eqByteS_x0_0 false))
 (iterG laws_eqByteS_t0 laws_eqByteS_B0 K n ((t0, (t1, (IntKind.i64.wrap (t5 + (1 : Int)), ()))), ())))))
 (K (.exit 0) (laws_eqByteS_x0_1)) := by kernel_rfl
theorem laws_eqByteS_e0_0 (x0 : List Int) (x1 : List Int) (d0 : Bool) : laws_eqByteS_K0 x0 x1 .ret (laws_eqByteS_x0_0 d0) =
 some ((d0, ()), ((), ((), ()))) := by kernel_rfl
theorem laws_eqByteS_e0_1 (x0 : List Int) (x1 : List Int) : laws_eqByteS_K0 x0 x1 (.exit 0) (laws_eqByteS_x0_1) =
 some ((true, ()), ((), ((), ()))) := by kernel_rfl
/-! laws.markByteS -/
noncomputable def laws_markByteS_b : Code := bd Try.f27
@[reducible] def laws_markByteS_t0 : Tm := ⟨[], [], [(0, .own 1000000), (1, .sc true tI), (5, .sc true tI)], [(1000000, .arr 5 tY)], [1], []⟩
def laws_markByteS_T : List (Nat × Tm) := [(0, laws_markByteS_t0)]
noncomputable def laws_markByteS_E : Env := ⟨tt0, []⟩
noncomputable def laws_markByteS_F : PsD [.inp tYs, .ro tI] → Option (RsD [.own tI] × PsO [.inp tYs, .ro tI]) := fun x => evFn laws_markByteS_E laws_markByteS_T Try.f27 laws_markByteS_b [.inp tYs, .ro tI] [.own tI] x
@[reducible] noncomputable def laws_markByteS_C : Ct := ⟨[.inp tYs, .ro tI], [.own tI], laws_markByteS_F⟩
theorem laws_markByteS_h (x : PsD [.inp tYs, .ro tI]) (y : RsD [.own tI] × PsO [.inp tYs, .ro tI]) (h : laws_markByteS_F x = some y) : evFn laws_markByteS_E laws_markByteS_T Try.f27 laws_markByteS_b [.inp tYs, .ro tI] [.own tI] x = some y := h
theorem laws_markByteS_c : ∀ f c, get laws_markByteS_E.ct f = some c → Sat Try.prog f c := ct_nil
theorem laws_markByteS_S : Sat Try.prog 27 laws_markByteS_C := fn_ok2 (envOk _) laws_markByteS_c mixedOk Try.func27 (by kernel_rfl : Try.f27.body = some laws_markByteS_b) (by kernel_rfl) (by kernel_rfl) laws_markByteS_h
noncomputable def laws_markByteS_Ke  (x0 : List Int) (x1 : Int) : Ex → AS → Option (RsD [.own tI] × PsO [.inp tYs, .ro tI]) := endK laws_markByteS_E Try.f27 [.inp tYs, .ro tI] [.own tI] (initL [.inp tYs, .ro tI] (x0, (x1, ())) 0).1
noncomputable def laws_markByteS_B0 {R : Type} : AS → (Ex → AS → Option R) → Option R := fun A K => ev laws_markByteS_E laws_markByteS_T 0 (cA (cA (cB (cA (cB laws_markByteS_b))))) A K
noncomputable def laws_markByteS_K0  (x0 : List Int) (x1 : Int) : Ex → AS → Option (RsD [.own tI] × PsO [.inp tYs, .ro tI]) := kBlk 0 (kSeq (fun A K => ev laws_markByteS_E laws_markByteS_T 1000 (cB (cB laws_markByteS_b)) A K) (laws_markByteS_Ke x0 x1))
noncomputable def laws_markByteS_x0_0 (d0 : Int) (d1 : List Int) : AS := ⟨[(1, .v (.one (.d true tI d0)))], [(1000000, .arr 5 tY d1)]⟩
theorem laws_markByteS_l0 {R : Type} {K : Ex → AS → Option R} {s : laws_markByteS_t0.D} (n : Nat) {v : Option R} (h : iterG laws_markByteS_t0 laws_markByteS_B0 K n s = v) (hv : ∃ r, v = some r) : loopG laws_markByteS_t0 laws_markByteS_B0 K s = v := loop_eq (ev_mono _ _) n h hv
theorem laws_markByteS_main (x0 : List Int) (x1 : Int) : laws_markByteS_F (x0, (x1, ())) =
 loopG laws_markByteS_t0 laws_markByteS_B0 (laws_markByteS_K0 x0 x1) ((x1, ((0 : Int), ())), (x0, ())) := by kernel_rfl
theorem laws_markByteS_r0 {R : Type} (K : Ex → AS → Option R) (n : Nat) (t1 : Int) (t5 : Int) (a1000000 : List Int) : iterG laws_markByteS_t0 laws_markByteS_B0 K (n + 1) ((t1, (t5, ())), (a1000000, ())) =
 brk (decide (t5 < (a1000000.length : Int)))
 (ck (decide (0 ≤ t5) && decide (t5 < a1000000.length)) (iterG laws_markByteS_t0 laws_markByteS_B0 K n ((IntKind.i64.wrap (t1 + (1 : Int)), (IntKind.i64.wrap (t5 + (1 : Int)), ())), (a1000000.set t5.toNat (IntKind.u8.wrap t1), ()))))
 (K (.exit 0) (laws_markByteS_x0_0 t1 a1000000)) := by kernel_rfl
theorem laws_markByteS_e0_0 (x0 : List Int) (x1 : Int) (d0 : Int) (d1 : List Int) : laws_markByteS_K0 x0 x1 (.exit 0) (laws_markByteS_x0_0 d0 d1) =
 some ((d0, ()), (d1, ((), ()))) := by kernel_rfl
/-! laws.markIntS -/
noncomputable def laws_markIntS_b : Code := bd Try.f73
@[reducible] def laws_markIntS_t0 : Tm := ⟨[], [], [(0, .own 1000000), (1, .sc true tI), (5, .sc true tI)], [(1000000, .arr 3 tI)], [1], []⟩
def laws_markIntS_T : List (Nat × Tm) := [(0, laws_markIntS_t0)]
noncomputable def laws_markIntS_E : Env := ⟨tt0, []⟩
noncomputable def laws_markIntS_F : PsD [.inp tIs, .ro tI] → Option (RsD [.own tI] × PsO [.inp tIs, .ro tI]) := fun x => evFn laws_markIntS_E laws_markIntS_T Try.f73 laws_markIntS_b [.inp tIs, .ro tI] [.own tI] x
@[reducible] noncomputable def laws_markIntS_C : Ct := ⟨[.inp tIs, .ro tI], [.own tI], laws_markIntS_F⟩
theorem laws_markIntS_h (x : PsD [.inp tIs, .ro tI]) (y : RsD [.own tI] × PsO [.inp tIs, .ro tI]) (h : laws_markIntS_F x = some y) : evFn laws_markIntS_E laws_markIntS_T Try.f73 laws_markIntS_b [.inp tIs, .ro tI] [.own tI] x = some y := h
theorem laws_markIntS_c : ∀ f c, get laws_markIntS_E.ct f = some c → Sat Try.prog f c := ct_nil
theorem laws_markIntS_S : Sat Try.prog 73 laws_markIntS_C := fn_ok2 (envOk _) laws_markIntS_c mixedOk Try.func73 (by kernel_rfl : Try.f73.body = some laws_markIntS_b) (by kernel_rfl) (by kernel_rfl) laws_markIntS_h
noncomputable def laws_markIntS_Ke  (x0 : List Int) (x1 : Int) : Ex → AS → Option (RsD [.own tI] × PsO [.inp tIs, .ro tI]) := endK laws_markIntS_E Try.f73 [.inp tIs, .ro tI] [.own tI] (initL [.inp tIs, .ro tI] (x0, (x1, ())) 0).1
noncomputable def laws_markIntS_B0 {R : Type} : AS → (Ex → AS → Option R) → Option R := fun A K => ev laws_markIntS_E laws_markIntS_T 0 (cA (cA (cB (cA (cB laws_markIntS_b))))) A K
noncomputable def laws_markIntS_K0  (x0 : List Int) (x1 : Int) : Ex → AS → Option (RsD [.own tI] × PsO [.inp tIs, .ro tI]) := kBlk 0 (kSeq (fun A K => ev laws_markIntS_E laws_markIntS_T 1000 (cB (cB laws_markIntS_b)) A K) (laws_markIntS_Ke x0 x1))
noncomputable def laws_markIntS_x0_0 (d0 : Int) (d1 : List Int) : AS := ⟨[(1, .v (.one (.d true tI d0)))], [(1000000, .arr 3 tI d1)]⟩
theorem laws_markIntS_l0 {R : Type} {K : Ex → AS → Option R} {s : laws_markIntS_t0.D} (n : Nat) {v : Option R} (h : iterG laws_markIntS_t0 laws_markIntS_B0 K n s = v) (hv : ∃ r, v = some r) : loopG laws_markIntS_t0 laws_markIntS_B0 K s = v := loop_eq (ev_mono _ _) n h hv
theorem laws_markIntS_main (x0 : List Int) (x1 : Int) : laws_markIntS_F (x0, (x1, ())) =
 loopG laws_markIntS_t0 laws_markIntS_B0 (laws_markIntS_K0 x0 x1) ((x1, ((0 : Int), ())), (x0, ())) := by kernel_rfl
theorem laws_markIntS_r0 {R : Type} (K : Ex → AS → Option R) (n : Nat) (t1 : Int) (t5 : Int) (a1000000 : List Int) : iterG laws_markIntS_t0 laws_markIntS_B0 K (n + 1) ((t1, (t5, ())), (a1000000, ())) =
 brk (decide (t5 < (a1000000.length : Int)))
 (ck (decide (0 ≤ t5) && decide (t5 < a1000000.length)) (iterG laws_markIntS_t0 laws_markIntS_B0 K n ((IntKind.i64.wrap (t1 + (1 : Int)), (IntKind.i64.wrap (t5 + (1 : Int)), ())), (a1000000.set t5.toNat t1, ()))))
 (K (.exit 0) (laws_markIntS_x0_0 t1 a1000000)) := by kernel_rfl
theorem laws_markIntS_e0_0 (x0 : List Int) (x1 : Int) (d0 : Int) (d1 : List Int) : laws_markIntS_K0 x0 x1 (.exit 0) (laws_markIntS_x0_0 d0 d1) =
 some ((d0, ()), (d1, ((), ()))) := by kernel_rfl
/-! laws.markMsgS -/
noncomputable def laws_markMsgS_b : Code := bd Try.f28
@[reducible] def laws_markMsgS_t0 : Tm := ⟨[], [], [(0, .own 1000000), (1, .sc true tI), (5, .sc true tI)], [(1000000, .arr 47 tMsg)], [1], []⟩
def laws_markMsgS_T : List (Nat × Tm) := [(0, laws_markMsgS_t0)]
noncomputable def laws_markMsgS_E : Env := ⟨tt0, [(73, laws_markIntS_C)]⟩
noncomputable def laws_markMsgS_F : PsD [.inp tMsgs, .ro tI] → Option (RsD [.own tI] × PsO [.inp tMsgs, .ro tI]) := fun x => evFn laws_markMsgS_E laws_markMsgS_T Try.f28 laws_markMsgS_b [.inp tMsgs, .ro tI] [.own tI] x
@[reducible] noncomputable def laws_markMsgS_C : Ct := ⟨[.inp tMsgs, .ro tI], [.own tI], laws_markMsgS_F⟩
theorem laws_markMsgS_h (x : PsD [.inp tMsgs, .ro tI]) (y : RsD [.own tI] × PsO [.inp tMsgs, .ro tI]) (h : laws_markMsgS_F x = some y) : evFn laws_markMsgS_E laws_markMsgS_T Try.f28 laws_markMsgS_b [.inp tMsgs, .ro tI] [.own tI] x = some y := h
theorem laws_markMsgS_c : ∀ f c, get laws_markMsgS_E.ct f = some c → Sat Try.prog f c := ct_cons laws_markIntS_S (ct_nil)
theorem laws_markMsgS_S : Sat Try.prog 28 laws_markMsgS_C := fn_ok2 (envOk _) laws_markMsgS_c mixedOk Try.func28 (by kernel_rfl : Try.f28.body = some laws_markMsgS_b) (by kernel_rfl) (by kernel_rfl) laws_markMsgS_h
noncomputable def laws_markMsgS_Ke  (x0 : List (Int × Int × Int × Int × List Int × Unit)) (x1 : Int) : Ex → AS → Option (RsD [.own tI] × PsO [.inp tMsgs, .ro tI]) := endK laws_markMsgS_E Try.f28 [.inp tMsgs, .ro tI] [.own tI] (initL [.inp tMsgs, .ro tI] (x0, (x1, ())) 0).1
noncomputable def laws_markMsgS_B0 {R : Type} : AS → (Ex → AS → Option R) → Option R := fun A K => ev laws_markMsgS_E laws_markMsgS_T 0 (cA (cA (cB (cA (cB laws_markMsgS_b))))) A K
noncomputable def laws_markMsgS_K0  (x0 : List (Int × Int × Int × Int × List Int × Unit)) (x1 : Int) : Ex → AS → Option (RsD [.own tI] × PsO [.inp tMsgs, .ro tI]) := kBlk 0 (kSeq (fun A K => ev laws_markMsgS_E laws_markMsgS_T 1000 (cB (cB laws_markMsgS_b)) A K) (laws_markMsgS_Ke x0 x1))
noncomputable def laws_markMsgS_x0_0 (d0 : Int) (d1 : List (Int × Int × Int × Int × List Int × Unit)) : AS := ⟨[(1, .v (.one (.d true tI d0)))], [(1000000, .arr 47 tMsg d1)]⟩
theorem laws_markMsgS_l0 {R : Type} {K : Ex → AS → Option R} {s : laws_markMsgS_t0.D} (n : Nat) {v : Option R} (h : iterG laws_markMsgS_t0 laws_markMsgS_B0 K n s = v) (hv : ∃ r, v = some r) : loopG laws_markMsgS_t0 laws_markMsgS_B0 K s = v := loop_eq (ev_mono _ _) n h hv
theorem laws_markMsgS_main (x0 : List (Int × Int × Int × Int × List Int × Unit)) (x1 : Int) : laws_markMsgS_F (x0, (x1, ())) =
 loopG laws_markMsgS_t0 laws_markMsgS_B0 (laws_markMsgS_K0 x0 x1) ((x1, ((0 : Int), ())), (x0, ())) := by kernel_rfl
theorem laws_markMsgS_r0 {R : Type} (K : Ex → AS → Option R) (n : Nat) (t1 : Int) (t5 : Int) (a1000000 : List (Int × Int × Int × Int × List Int × Unit)) : iterG laws_markMsgS_t0 laws_markMsgS_B0 K (n + 1) ((t1, (t5, ())), (a1000000, ())) =
 brk (decide (t5 < (a1000000.length : Int)))
 (ck (decide (0 ≤ t5) && decide (t5 < a1000000.length)) (ck (decide (0 ≤ t5) && decide (t5 < (a1000000.set t5.toNat (t1, (rdD tMsg a1000000 t5).2)).length)) (ck (decide (0 ≤ t5) && decide (t5 < ((a1000000.set t5.toNat (t1, (rdD tMsg a1000000 t5).2)).set t5.toNat ((rdD tMsg (a1000000.set t5.toNat (t1, (rdD tMsg a1000000 t5).2)) t5).1, (IntKind.i64.wrap (t1 + (1 : Int)), ((rdD tMsg (a1000000.set t5.toNat (t1, (rdD tMsg a1000000 t5).2)) t5).2).2))).length)) (ck (decide (0 ≤ t5) && decide (t5 < (((a1000000.set t5.toNat (t1, (rdD tMsg a1000000 t5).2)).set t5.toNat ((rdD tMsg (a1000000.set t5.toNat (t1, (rdD tMsg a1000000 t5).2)) t5).1, (IntKind.i64.wrap (t1 + (1 : Int)), ((rdD tMsg (a1000000.set t5.toNat (t1, (rdD tMsg a1000000 t5).2)) t5).2).2))).set t5.toNat ((rdD tMsg ((a1000000.set t5.toNat (t1, (rdD tMsg a1000000 t5).2)).set t5.toNat ((rdD tMsg (a1000000.set t5.toNat (t1, (rdD tMsg a1000000 t5).2)) t5).1, (IntKind.i64.wrap (t1 + (1 : Int)), ((rdD tMsg (a1000000.set t5.toNat (t1, (rdD tMsg a1000000 t5).2)) t5).2).2))) t5).1, (((rdD tMsg ((a1000000.set t5.toNat (t1, (rdD tMsg a1000000 t5).2)).set t5.toNat ((rdD tMsg (a1000000.set t5.toNat (t1, (rdD tMsg a1000000 t5).2)) t5).1, (IntKind.i64.wrap (t1 + (1 : Int)), ((rdD tMsg (a1000000.set t5.toNat (t1, (rdD tMsg a1000000 t5).2)) t5).2).2))) t5).2).1, (IntKind.i64.wrap ((IntKind.i64.wrap (t1 + (1 : Int))) + (1 : Int)), (((rdD tMsg ((a1000000.set t5.toNat (t1, (rdD tMsg a1000000 t5).2)).set t5.toNat ((rdD tMsg (a1000000.set t5.toNat (t1, (rdD tMsg a1000000 t5).2)) t5).1, (IntKind.i64.wrap (t1 + (1 : Int)), ((rdD tMsg (a1000000.set t5.toNat (t1, (rdD tMsg a1000000 t5).2)) t5).2).2))) t5).2).2).2)))).length)) (ck (decide (0 ≤ t5) && decide (t5 < ((((a1000000.set t5.toNat (t1, (rdD tMsg a1000000 t5).2)).set t5.toNat ((rdD tMsg (a1000000.set t5.toNat (t1, (rdD tMsg a1000000 t5).2)) t5).1, (IntKind.i64.wrap (t1 + (1 : Int)), ((rdD tMsg (a1000000.set t5.toNat (t1, (rdD tMsg a1000000 t5).2)) t5).2).2))).set t5.toNat ((rdD tMsg ((a1000000.set t5.toNat (t1, (rdD tMsg a1000000 t5).2)).set t5.toNat ((rdD tMsg (a1000000.set t5.toNat (t1, (rdD tMsg a1000000 t5).2)) t5).1, (IntKind.i64.wrap (t1 + (1 : Int)), ((rdD tMsg (a1000000.set t5.toNat (t1, (rdD tMsg a1000000 t5).2)) t5).2).2))) t5).1, (((rdD tMsg ((a1000000.set t5.toNat (t1, (rdD tMsg a1000000 t5).2)).set t5.toNat ((rdD tMsg (a1000000.set t5.toNat (t1, (rdD tMsg a1000000 t5).2)) t5).1, (IntKind.i64.wrap (t1 + (1 : Int)), ((rdD tMsg (a1000000.set t5.toNat (t1, (rdD tMsg a1000000 t5).2)) t5).2).2))) t5).2).1, (IntKind.i64.wrap ((IntKind.i64.wrap (t1 + (1 : Int))) + (1 : Int)), (((rdD tMsg ((a1000000.set t5.toNat (t1, (rdD tMsg a1000000 t5).2)).set t5.toNat ((rdD tMsg (a1000000.set t5.toNat (t1, (rdD tMsg a1000000 t5).2)) t5).1, (IntKind.i64.wrap (t1 + (1 : Int)), ((rdD tMsg (a1000000.set t5.toNat (t1, (rdD tMsg a1000000 t5).2)) t5).2).2))) t5).2).2).2)))).set t5.toNat ((rdD tMsg (((a1000000.set t5.toNat (t1, (rdD tMsg a1000000 t5).2)).set t5.toNat ((rdD tMsg (a1000000.set t5.toNat (t1, (rdD tMsg a1000000 t5).2)) t5).1, (IntKind.i64.wrap (t1 + (1 : Int)), ((rdD tMsg (a1000000.set t5.toNat (t1, (rdD tMsg a1000000 t5).2)) t5).2).2))).set t5.toNat ((rdD tMsg ((a1000000.set t5.toNat (t1, (rdD tMsg a1000000 t5).2)).set t5.toNat ((rdD tMsg (a1000000.set t5.toNat (t1, (rdD tMsg a1000000 t5).2)) t5).1, (IntKind.i64.wrap (t1 + (1 : Int)), ((rdD tMsg (a1000000.set t5.toNat (t1, (rdD tMsg a1000000 t5).2)) t5).2).2))) t5).1, (((rdD tMsg ((a1000000.set t5.toNat (t1, (rdD tMsg a1000000 t5).2)).set t5.toNat ((rdD tMsg (a1000000.set t5.toNat (t1, (rdD tMsg a1000000 t5).2)) t5).1, (IntKind.i64.wrap (t1 + (1 : Int)), ((rdD tMsg (a1000000.set t5.toNat (t1, (rdD tMsg a1000000 t5).2)) t5).2).2))) t5).2).1, (IntKind.i64.wrap ((IntKind.i64.wrap (t1 + (1 : Int))) + (1 : Int)), (((rdD tMsg ((a1000000.set t5.toNat (t1, (rdD tMsg a1000000 t5).2)).set t5.toNat ((rdD tMsg (a1000000.set t5.toNat (t1, (rdD tMsg a1000000 t5).2)) t5).1, (IntKind.i64.wrap (t1 + (1 : Int)), ((rdD tMsg (a1000000.set t5.toNat (t1, (rdD tMsg a1000000 t5).2)) t5).2).2))) t5).2).2).2)))) t5).1, (((rdD tMsg (((a1000000.set t5.toNat (t1, (rdD tMsg a1000000 t5).2)).set t5.toNat ((rdD tMsg (a1000000.set t5.toNat (t1, (rdD tMsg a1000000 t5).2)) t5).1, (IntKind.i64.wrap (t1 + (1 : Int)), ((rdD tMsg (a1000000.set t5.toNat (t1, (rdD tMsg a1000000 t5).2)) t5).2).2))).set t5.toNat ((rdD tMsg ((a1000000.set t5.toNat (t1, (rdD tMsg a1000000 t5).2)).set t5.toNat ((rdD tMsg (a1000000.set t5.toNat (t1, (rdD tMsg a1000000 t5).2)) t5).1, (IntKind.i64.wrap (t1 + (1 : Int)), ((rdD tMsg (a1000000.set t5.toNat (t1, (rdD tMsg a1000000 t5).2)) t5).2).2))) t5).1, (((rdD tMsg ((a1000000.set t5.toNat (t1, (rdD tMsg a1000000 t5).2)).set t5.toNat ((rdD tMsg (a1000000.set t5.toNat (t1, (rdD tMsg a1000000 t5).2)) t5).1, (IntKind.i64.wrap (t1 + (1 : Int)), ((rdD tMsg (a1000000.set t5.toNat (t1, (rdD tMsg a1000000 t5).2)) t5).2).2))) t5).2).1, (IntKind.i64.wrap ((IntKind.i64.wrap (t1 + (1 : Int))) + (1 : Int)), (((rdD tMsg ((a1000000.set t5.toNat (t1, (rdD tMsg a1000000 t5).2)).set t5.toNat ((rdD tMsg (a1000000.set t5.toNat (t1, (rdD tMsg a1000000 t5).2)) t5).1, (IntKind.i64.wrap (t1 + (1 : Int)), ((rdD tMsg (a1000000.set t5.toNat (t1, (rdD tMsg a1000000 t5).2)) t5).2).2))) t5).2).2).2)))) t5).2).1, ((((rdD tMsg (((a1000000.set t5.toNat (t1, (rdD tMsg a1000000 t5).2)).set t5.toNat ((rdD tMsg (a1000000.set t5.toNat (t1, (rdD tMsg a1000000 t5).2)) t5).1, (IntKind.i64.wrap (t1 + (1 : Int)), ((rdD tMsg (a1000000.set t5.toNat (t1, (rdD tMsg a1000000 t5).2)) t5).2).2))).set t5.toNat ((rdD tMsg ((a1000000.set t5.toNat (t1, (rdD tMsg a1000000 t5).2)).set t5.toNat ((rdD tMsg (a1000000.set t5.toNat (t1, (rdD tMsg a1000000 t5).2)) t5).1, (IntKind.i64.wrap (t1 + (1 : Int)), ((rdD tMsg (a1000000.set t5.toNat (t1, (rdD tMsg a1000000 t5).2)) t5).2).2))) t5).1, (((rdD tMsg ((a1000000.set t5.toNat (t1, (rdD tMsg a1000000 t5).2)).set t5.toNat ((rdD tMsg (a1000000.set t5.toNat (t1, (rdD tMsg a1000000 t5).2)) t5).1, (IntKind.i64.wrap (t1 + (1 : Int)), ((rdD tMsg (a1000000.set t5.toNat (t1, (rdD tMsg a1000000 t5).2)) t5).2).2))) t5).2).1, (IntKind.i64.wrap ((IntKind.i64.wrap (t1 + (1 : Int))) + (1 : Int)), (((rdD tMsg ((a1000000.set t5.toNat (t1, (rdD tMsg a1000000 t5).2)).set t5.toNat ((rdD tMsg (a1000000.set t5.toNat (t1, (rdD tMsg a1000000 t5).2)) t5).1, (IntKind.i64.wrap (t1 + (1 : Int)), ((rdD tMsg (a1000000.set t5.toNat (t1, (rdD tMsg a1000000 t5).2)) t5).2).2))) t5).2).2).2)))) t5).2).2).1, (IntKind.i64.wrap ((IntKind.i64.wrap ((IntKind.i64.wrap (t1 + (1 : Int))) + (1 : Int))) + (1 : Int)), ((((rdD tMsg (((a1000000.set t5.toNat (t1, (rdD tMsg a1000000 t5).2)).set t5.toNat ((rdD tMsg (a1000000.set t5.toNat (t1, (rdD tMsg a1000000 t5).2)) t5).1, (IntKind.i64.wrap (t1 + (1 : Int)), ((rdD tMsg (a1000000.set t5.toNat (t1, (rdD tMsg a1000000 t5).2)) t5).2).2))).set t5.toNat ((rdD tMsg ((a1000000.set t5.toNat (t1, (rdD tMsg a1000000 t5).2)).set t5.toNat ((rdD tMsg (a1000000.set t5.toNat (t1, (rdD tMsg a1000000 t5).2)) t5).1, (IntKind.i64.wrap (t1 + (1 : Int)), ((rdD tMsg (a1000000.set t5.toNat (t1, (rdD tMsg a1000000 t5).2)) t5).2).2))) t5).1, (((rdD tMsg ((a1000000.set t5.toNat (t1, (rdD tMsg a1000000 t5).2)).set t5.toNat ((rdD tMsg (a1000000.set t5.toNat (t1, (rdD tMsg a1000000 t5).2)) t5).1, (IntKind.i64.wrap (t1 + (1 : Int)), ((rdD tMsg (a1000000.set t5.toNat (t1, (rdD tMsg a1000000 t5).2)) t5).2).2))) t5).2).1, (IntKind.i64.wrap ((IntKind.i64.wrap (t1 + (1 : Int))) + (1 : Int)), (((rdD tMsg ((a1000000.set t5.toNat (t1, (rdD tMsg a1000000 t5).2)).set t5.toNat ((rdD tMsg (a1000000.set t5.toNat (t1, (rdD tMsg a1000000 t5).2)) t5).1, (IntKind.i64.wrap (t1 + (1 : Int)), ((rdD tMsg (a1000000.set t5.toNat (t1, (rdD tMsg a1000000 t5).2)) t5).2).2))) t5).2).2).2)))) t5).2).2).2).2))))).length)) ((laws_markIntS_F ((((((rdD tMsg ((((a1000000.set t5.toNat (t1, (rdD tMsg a1000000 t5).2)).set t5.toNat ((rdD tMsg (a1000000.set t5.toNat (t1, (rdD tMsg a1000000 t5).2)) t5).1, (IntKind.i64.wrap (t1 + (1 : Int)), ((rdD tMsg (a1000000.set t5.toNat (t1, (rdD tMsg a1000000 t5).2)) t5).2).2))).set t5.toNat ((rdD tMsg ((a1000000.set t5.toNat (t1, (rdD tMsg a1000000 t5).2)).set t5.toNat ((rdD tMsg (a1000000.set t5.toNat (t1, (rdD tMsg a1000000 t5).2)) t5).1, (IntKind.i64.wrap (t1 + (1 : Int)), ((rdD tMsg (a1000000.set t5.toNat (t1, (rdD tMsg a1000000 t5).2)) t5).2).2))) t5).1, (((rdD tMsg ((a1000000.set t5.toNat (t1, (rdD tMsg a1000000 t5).2)).set t5.toNat ((rdD tMsg (a1000000.set t5.toNat (t1, (rdD tMsg a1000000 t5).2)) t5).1, (IntKind.i64.wrap (t1 + (1 : Int)), ((rdD tMsg (a1000000.set t5.toNat (t1, (rdD tMsg a1000000 t5).2)) t5).2).2))) t5).2).1, (IntKind.i64.wrap ((IntKind.i64.wrap (t1 + (1 : Int))) + (1 : Int)), (((rdD tMsg ((a1000000.set t5.toNat (t1, (rdD tMsg a1000000 t5).2)).set t5.toNat ((rdD tMsg (a1000000.set t5.toNat (t1, (rdD tMsg a1000000 t5).2)) t5).1, (IntKind.i64.wrap (t1 + (1 : Int)), ((rdD tMsg (a1000000.set t5.toNat (t1, (rdD tMsg a1000000 t5).2)) t5).2).2))) t5).2).2).2)))).set t5.toNat ((rdD tMsg (((a1000000.set t5.toNat (t1, (rdD tMsg a1000000 t5).2)).set t5.toNat ((rdD tMsg (a1000000.set t5.toNat (t1, (rdD tMsg a1000000 t5).2)) t5).1, (IntKind.i64.wrap (t1 + (1 : Int)), ((rdD tMsg (a1000000.set t5.toNat (t1, (rdD tMsg a1000000 t5).2)) t5).2).2))).set t5.toNat ((rdD tMsg ((a1000000.set t5.toNat (t1, (rdD tMsg a1000000 t5).2)).set t5.toNat ((rdD tMsg (a1000000.set t5.toNat (t1, (rdD tMsg a1000000 t5).2)) t5).1, (IntKind.i64.wrap (t1 + (1 : Int)), ((rdD tMsg (a1000000.set t5.toNat (t1, (rdD tMsg a1000000 t5).2)) t5).2).2))) t5).1, (((rdD tMsg ((a1000000.set t5.toNat (t1, (rdD tMsg a1000000 t5).2)).set t5.toNat ((rdD tMsg (a1000000.set t5.toNat (t1, (rdD tMsg a1000000 t5).2)) t5).1, (IntKind.i64.wrap (t1 + (1 : Int)), ((rdD tMsg (a1000000.set t5.toNat (t1, (rdD tMsg a1000000 t5).2)) t5).2).2))) t5).2).1, (IntKind.i64.wrap ((IntKind.i64.wrap (t1 + (1 : Int))) + (1 : Int)), (((rdD tMsg ((a1000000.set t5.toNat (t1, (rdD tMsg a1000000 t5).2)).set t5.toNat ((rdD tMsg (a1000000.set t5.toNat (t1, (rdD tMsg a1000000 t5).2)) t5).1, (IntKind.i64.wrap (t1 + (1 : Int)), ((rdD tMsg (a1000000.set t5.toNat (t1, (rdD tMsg a1000000 t5).2)) t5).2).2))) t5).2).2).2)))) t5).1, (((rdD tMsg (((a1000000.set t5.toNat (t1, (rdD tMsg a1000000 t5).2)).set t5.toNat ((rdD tMsg (a1000000.set t5.toNat (t1, (rdD tMsg a1000000 t5).2)) t5).1, (IntKind.i64.wrap (t1 + (1 : Int)), ((rdD tMsg (a1000000.set t5.toNat (t1, (rdD tMsg a1000000 t5).2)) t5).2).2))).set t5.toNat ((rdD tMsg ((a1000000.set t5.toNat (t1, (rdD tMsg a1000000 t5).2)).set t5.toNat ((rdD tMsg (a1000000.set t5.toNat (t1, (rdD tMsg a1000000 t5).2)) t5).1, (IntKind.i64.wrap (t1 + (1 : Int)), ((rdD tMsg (a1000000.set t5.toNat (t1, (rdD tMsg a1000000 t5).2)) t5).2).2))) t5).1, (((rdD tMsg ((a1000000.set t5.toNat (t1, (rdD tMsg a1000000 t5).2)).set t5.toNat ((rdD tMsg (a1000000.set t5.toNat (t1, (rdD tMsg a1000000 t5).2)) t5).1, (IntKind.i64.wrap (t1 + (1 : Int)), ((rdD tMsg (a1000000.set t5.toNat (t1, (rdD tMsg a1000000 t5).2)) t5).2).2))) t5).2).1, (IntKind.i64.wrap ((IntKind.i64.wrap (t1 + (1 : Int))) + (1 : Int)), (((rdD tMsg ((a1000000.set t5.toNat (t1, (rdD tMsg a1000000 t5).2)).set t5.toNat ((rdD tMsg (a1000000.set t5.toNat (t1, (rdD tMsg a1000000 t5).2)) t5).1, (IntKind.i64.wrap (t1 + (1 : Int)), ((rdD tMsg (a1000000.set t5.toNat (t1, (rdD tMsg a1000000 t5).2)) t5).2).2))) t5).2).2).2)))) t5).2).1, ((((rdD tMsg (((a1000000.set t5.toNat (t1, (rdD tMsg a1000000 t5).2)).set t5.toNat ((rdD tMsg (a1000000.set t5.toNat (t1, (rdD tMsg a1000000 t5).2)) t5).1, (IntKind.i64.wrap (t1 + (1 : Int)), ((rdD tMsg (a1000000.set t5.toNat (t1, (rdD tMsg a1000000 t5).2)) t5).2).2))).set t5.toNat ((rdD tMsg ((a1000000.set t5.toNat (t1, (rdD tMsg a1000000 t5).2)).set t5.toNat ((rdD tMsg (a1000000.set t5.toNat (t1, (rdD tMsg a1000000 t5).2)) t5).1, (IntKind.i64.wrap (t1 + (1 : Int)), ((rdD tMsg (a1000000.set t5.toNat (t1, (rdD tMsg a1000000 t5).2)) t5).2).2))) t5).1, (((rdD tMsg ((a1000000.set t5.toNat (t1, (rdD tMsg a1000000 t5).2)).set t5.toNat ((rdD tMsg (a1000000.set t5.toNat (t1, (rdD tMsg a1000000 t5).2)) t5).1, (IntKind.i64.wrap (t1 + (1 : Int)), ((rdD tMsg (a1000000.set t5.toNat (t1, (rdD tMsg a1000000 t5).2)) t5).2).2))) t5).2).1, (IntKind.i64.wrap ((IntKind.i64.wrap (t1 + (1 : Int))) + (1 : Int)), (((rdD tMsg ((a1000000.set t5.toNat (t1, (rdD tMsg a1000000 t5).2)).set t5.toNat ((rdD tMsg (a1000000.set t5.toNat (t1, (rdD tMsg a1000000 t5).2)) t5).1, (IntKind.i64.wrap (t1 + (1 : Int)), ((rdD tMsg (a1000000.set t5.toNat (t1, (rdD tMsg a1000000 t5).2)) t5).2).2))) t5).2).2).2)))) t5).2).2).1, (IntKind.i64.wrap ((IntKind.i64.wrap ((IntKind.i64.wrap (t1 + (1 : Int))) + (1 : Int))) + (1 : Int)), ((((rdD tMsg (((a1000000.set t5.toNat (t1, (rdD tMsg a1000000 t5).2)).set t5.toNat ((rdD tMsg (a1000000.set t5.toNat (t1, (rdD tMsg a1000000 t5).2)) t5).1, (IntKind.i64.wrap (t1 + (1 : Int)), ((rdD tMsg (a1000000.set t5.toNat (t1, (rdD tMsg a1000000 t5).2)) t5).2).2))).set t5.toNat ((rdD tMsg ((a1000000.set t5.toNat (t1, (rdD tMsg a1000000 t5).2)).set t5.toNat ((rdD tMsg (a1000000.set t5.toNat (t1, (rdD tMsg a1000000 t5).2)) t5).1, (IntKind.i64.wrap (t1 + (1 : Int)), ((rdD tMsg (a1000000.set t5.toNat (t1, (rdD tMsg a1000000 t5).2)) t5).2).2))) t5).1, (((rdD tMsg ((a1000000.set t5.toNat (t1, (rdD tMsg a1000000 t5).2)).set t5.toNat ((rdD tMsg (a1000000.set t5.toNat (t1, (rdD tMsg a1000000 t5).2)) t5).1, (IntKind.i64.wrap (t1 + (1 : Int)), ((rdD tMsg (a1000000.set t5.toNat (t1, (rdD tMsg a1000000 t5).2)) t5).2).2))) t5).2).1, (IntKind.i64.wrap ((IntKind.i64.wrap (t1 + (1 : Int))) + (1 : Int)), (((rdD tMsg ((a1000000.set t5.toNat (t1, (rdD tMsg a1000000 t5).2)).set t5.toNat ((rdD tMsg (a1000000.set t5.toNat (t1, (rdD tMsg a1000000 t5).2)) t5).1, (IntKind.i64.wrap (t1 + (1 : Int)), ((rdD tMsg (a1000000.set t5.toNat (t1, (rdD tMsg a1000000 t5).2)) t5).2).2))) t5).2).2).2)))) t5).2).2).2).2))))) t5).2).2).2).2).1, (IntKind.i64.wrap ((IntKind.i64.wrap ((IntKind.i64.wrap ((IntKind.i64.wrap (t1 + (1 : Int))) + (1 : Int))) + (1 : Int))) + (1 : Int)), ()))).bind fun y46 =>
 iterG laws_markMsgS_t0 laws_markMsgS_B0 K n ((y46.1.1, (IntKind.i64.wrap (t5 + (1 : Int)), ())), (((((a1000000.set t5.toNat (t1, (rdD tMsg a1000000 t5).2)).set t5.toNat ((rdD tMsg (a1000000.set t5.toNat (t1, (rdD tMsg a1000000 t5).2)) t5).1, (IntKind.i64.wrap (t1 + (1 : Int)), ((rdD tMsg (a1000000.set t5.toNat (t1, (rdD tMsg a1000000 t5).2)) t5).2).2))).set t5.toNat ((rdD tMsg ((a1000000.set t5.toNat (t1, (rdD tMsg a1000000 t5).2)).set t5.toNat ((rdD tMsg (a1000000.set t5.toNat (t1, (rdD tMsg a1000000 t5).2)) t5).1, (IntKind.i64.wrap (t1 + (1 : Int)), ((rdD tMsg (a1000000.set t5.toNat (t1, (rdD tMsg a1000000 t5).2)) t5).2).2))) t5).1, (((rdD tMsg ((a1000000.set t5.toNat (t1, (rdD tMsg a1000000 t5).2)).set t5.toNat ((rdD tMsg (a1000000.set t5.toNat (t1, (rdD tMsg a1000000 t5).2)) t5).1, (IntKind.i64.wrap (t1 + (1 : Int)), ((rdD tMsg (a1000000.set t5.toNat (t1, (rdD tMsg a1000000 t5).2)) t5).2).2))) t5).2).1, (IntKind.i64.wrap ((IntKind.i64.wrap (t1 + (1 : Int))) + (1 : Int)), (((rdD tMsg ((a1000000.set t5.toNat (t1, (rdD tMsg a1000000 t5).2)).set t5.toNat ((rdD tMsg (a1000000.set t5.toNat (t1, (rdD tMsg a1000000 t5).2)) t5).1, (IntKind.i64.wrap (t1 + (1 : Int)), ((rdD tMsg (a1000000.set t5.toNat (t1, (rdD tMsg a1000000 t5).2)) t5).2).2))) t5).2).2).2)))).set t5.toNat ((rdD tMsg (((a1000000.set t5.toNat (t1, (rdD tMsg a1000000 t5).2)).set t5.toNat ((rdD tMsg (a1000000.set t5.toNat (t1, (rdD tMsg a1000000 t5).2)) t5).1, (IntKind.i64.wrap (t1 + (1 : Int)), ((rdD tMsg (a1000000.set t5.toNat (t1, (rdD tMsg a1000000 t5).2)) t5).2).2))).set t5.toNat ((rdD tMsg ((a1000000.set t5.toNat (t1, (rdD tMsg a1000000 t5).2)).set t5.toNat ((rdD tMsg (a1000000.set t5.toNat (t1, (rdD tMsg a1000000 t5).2)) t5).1, (IntKind.i64.wrap (t1 + (1 : Int)), ((rdD tMsg (a1000000.set t5.toNat (t1, (rdD tMsg a1000000 t5).2)) t5).2).2))) t5).1, (((rdD tMsg ((a1000000.set t5.toNat (t1, (rdD tMsg a1000000 t5).2)).set t5.toNat ((rdD tMsg (a1000000.set t5.toNat (t1, (rdD tMsg a1000000 t5).2)) t5).1, (IntKind.i64.wrap (t1 + (1 : Int)), ((rdD tMsg (a1000000.set t5.toNat (t1, (rdD tMsg a1000000 t5).2)) t5).2).2))) t5).2).1, (IntKind.i64.wrap ((IntKind.i64.wrap (t1 + (1 : Int))) + (1 : Int)), (((rdD tMsg ((a1000000.set t5.toNat (t1, (rdD tMsg a1000000 t5).2)).set t5.toNat ((rdD tMsg (a1000000.set t5.toNat (t1, (rdD tMsg a1000000 t5).2)) t5).1, (IntKind.i64.wrap (t1 + (1 : Int)), ((rdD tMsg (a1000000.set t5.toNat (t1, (rdD tMsg a1000000 t5).2)) t5).2).2))) t5).2).2).2)))) t5).1, (((rdD tMsg (((a1000000.set t5.toNat (t1, (rdD tMsg a1000000 t5).2)).set t5.toNat ((rdD tMsg (a1000000.set t5.toNat (t1, (rdD tMsg a1000000 t5).2)) t5).1, (IntKind.i64.wrap (t1 + (1 : Int)), ((rdD tMsg (a1000000.set t5.toNat (t1, (rdD tMsg a1000000 t5).2)) t5).2).2))).set t5.toNat ((rdD tMsg ((a1000000.set t5.toNat (t1, (rdD tMsg a1000000 t5).2)).set t5.toNat ((rdD tMsg (a1000000.set t5.toNat (t1, (rdD tMsg a1000000 t5).2)) t5).1, (IntKind.i64.wrap (t1 + (1 : Int)), ((rdD tMsg (a1000000.set t5.toNat (t1, (rdD tMsg a1000000 t5).2)) t5).2).2))) t5).1, (((rdD tMsg ((a1000000.set t5.toNat (t1, (rdD tMsg a1000000 t5).2)).set t5.toNat ((rdD tMsg (a1000000.set t5.toNat (t1, (rdD tMsg a1000000 t5).2)) t5).1, (IntKind.i64.wrap (t1 + (1 : Int)), ((rdD tMsg (a1000000.set t5.toNat (t1, (rdD tMsg a1000000 t5).2)) t5).2).2))) t5).2).1, (IntKind.i64.wrap ((IntKind.i64.wrap (t1 + (1 : Int))) + (1 : Int)), (((rdD tMsg ((a1000000.set t5.toNat (t1, (rdD tMsg a1000000 t5).2)).set t5.toNat ((rdD tMsg (a1000000.set t5.toNat (t1, (rdD tMsg a1000000 t5).2)) t5).1, (IntKind.i64.wrap (t1 + (1 : Int)), ((rdD tMsg (a1000000.set t5.toNat (t1, (rdD tMsg a1000000 t5).2)) t5).2).2))) t5).2).2).2)))) t5).2).1, ((((rdD tMsg (((a1000000.set t5.toNat (t1, (rdD tMsg a1000000 t5).2)).set t5.toNat ((rdD tMsg (a1000000.set t5.toNat (t1, (rdD tMsg a1000000 t5).2)) t5).1, (IntKind.i64.wrap (t1 + (1 : Int)), ((rdD tMsg (a1000000.set t5.toNat (t1, (rdD tMsg a1000000 t5).2)) t5).2).2))).set t5.toNat ((rdD tMsg ((a1000000.set t5.toNat (t1, (rdD tMsg a1000000 t5).2)).set t5.toNat ((rdD tMsg (a1000000.set t5.toNat (t1, (rdD tMsg a1000000 t5).2)) t5).1, (IntKind.i64.wrap (t1 + (1 : Int)), ((rdD tMsg (a1000000.set t5.toNat (t1, (rdD tMsg a1000000 t5).2)) t5).2).2))) t5).1, (((rdD tMsg ((a1000000.set t5.toNat (t1, (rdD tMsg a1000000 t5).2)).set t5.toNat ((rdD tMsg (a1000000.set t5.toNat (t1, (rdD tMsg a1000000 t5).2)) t5).1, (IntKind.i64.wrap (t1 + (1 : Int)), ((rdD tMsg (a1000000.set t5.toNat (t1, (rdD tMsg a1000000 t5).2)) t5).2).2))) t5).2).1, (IntKind.i64.wrap ((IntKind.i64.wrap (t1 + (1 : Int))) + (1 : Int)), (((rdD tMsg ((a1000000.set t5.toNat (t1, (rdD tMsg a1000000 t5).2)).set t5.toNat ((rdD tMsg (a1000000.set t5.toNat (t1, (rdD tMsg a1000000 t5).2)) t5).1, (IntKind.i64.wrap (t1 + (1 : Int)), ((rdD tMsg (a1000000.set t5.toNat (t1, (rdD tMsg a1000000 t5).2)) t5).2).2))) t5).2).2).2)))) t5).2).2).1, (IntKind.i64.wrap ((IntKind.i64.wrap ((IntKind.i64.wrap (t1 + (1 : Int))) + (1 : Int))) + (1 : Int)), ((((rdD tMsg (((a1000000.set t5.toNat (t1, (rdD tMsg a1000000 t5).2)).set t5.toNat ((rdD tMsg (a1000000.set t5.toNat (t1, (rdD tMsg a1000000 t5).2)) t5).1, (IntKind.i64.wrap (t1 + (1 : Int)), ((rdD tMsg (a1000000.set t5.toNat (t1, (rdD tMsg a1000000 t5).2)) t5).2).2))).set t5.toNat ((rdD tMsg ((a1000000.set t5.toNat (t1, (rdD tMsg a1000000 t5).2)).set t5.toNat ((rdD tMsg (a1000000.set t5.toNat (t1, (rdD tMsg a1000000 t5).2)) t5).1, (IntKind.i64.wrap (t1 + (1 : Int)), ((rdD tMsg (a1000000.set t5.toNat (t1, (rdD tMsg a1000000 t5).2)) t5).2).2))) t5).1, (((rdD tMsg ((a1000000.set t5.toNat (t1, (rdD tMsg a1000000 t5).2)).set t5.toNat ((rdD tMsg (a1000000.set t5.toNat (t1, (rdD tMsg a1000000 t5).2)) t5).1, (IntKind.i64.wrap (t1 + (1 : Int)), ((rdD tMsg (a1000000.set t5.toNat (t1, (rdD tMsg a1000000 t5).2)) t5).2).2))) t5).2).1, (IntKind.i64.wrap ((IntKind.i64.wrap (t1 + (1 : Int))) + (1 : Int)), (((rdD tMsg ((a1000000.set t5.toNat (t1, (rdD tMsg a1000000 t5).2)).set t5.toNat ((rdD tMsg (a1000000.set t5.toNat (t1, (rdD tMsg a1000000 t5).2)) t5).1, (IntKind.i64.wrap (t1 + (1 : Int)), ((rdD tMsg (a1000000.set t5.toNat (t1, (rdD tMsg a1000000 t5).2)) t5).2).2))) t5).2).2).2)))) t5).2).2).2).2))))).set t5.toNat ((rdD tMsg ((((a1000000.set t5.toNat (t1, (rdD tMsg a1000000 t5).2)).set t5.toNat ((rdD tMsg (a1000000.set t5.toNat (t1, (rdD tMsg a1000000 t5).2)) t5).1, (IntKind.i64.wrap (t1 + (1 : Int)), ((rdD tMsg (a1000000.set t5.toNat (t1, (rdD tMsg a1000000 t5).2)) t5).2).2))).set t5.toNat ((rdD tMsg ((a1000000.set t5.toNat (t1, (rdD tMsg a1000000 t5).2)).set t5.toNat ((rdD tMsg (a1000000.set t5.toNat (t1, (rdD tMsg a1000000 t5).2)) t5).1, (IntKind.i64.wrap (t1 + (1 : Int)), ((rdD tMsg (a1000000.set t5.toNat (t1, (rdD tMsg a1000000 t5).2)) t5).2).2))) t5).1, (((rdD tMsg ((a1000000.set t5.toNat (t1, (rdD tMsg a1000000 t5).2)).set t5.toNat ((rdD tMsg (a1000000.set t5.toNat (t1, (rdD tMsg a1000000 t5).2)) t5).1, (IntKind.i64.wrap (t1 + (1 : Int)), ((rdD tMsg (a1000000.set t5.toNat (t1, (rdD tMsg a1000000 t5).2)) t5).2).2))) t5).2).1, (IntKind.i64.wrap ((IntKind.i64.wrap (t1 + (1 : Int))) + (1 : Int)), (((rdD tMsg ((a1000000.set t5.toNat (t1, (rdD tMsg a1000000 t5).2)).set t5.toNat ((rdD tMsg (a1000000.set t5.toNat (t1, (rdD tMsg a1000000 t5).2)) t5).1, (IntKind.i64.wrap (t1 + (1 : Int)), ((rdD tMsg (a1000000.set t5.toNat (t1, (rdD tMsg a1000000 t5).2)) t5).2).2))) t5).2).2).2)))).set t5.toNat ((rdD tMsg (((a1000000.set t5.toNat (t1, (rdD tMsg a1000000 t5).2)).set t5.toNat ((rdD tMsg (a1000000.set t5.toNat (t1, (rdD tMsg a1000000 t5).2)) t5).1, (IntKind.i64.wrap (t1 + (1 : Int)), ((rdD tMsg (a1000000.set t5.toNat (t1, (rdD tMsg a1000000 t5).2)) t5).2).2))).set t5.toNat ((rdD tMsg ((a1000000.set t5.toNat (t1, (rdD tMsg a1000000 t5).2)).set t5.toNat ((rdD tMsg (a1000000.set t5.toNat (t1, (rdD tMsg a1000000 t5).2)) t5).1, (IntKind.i64.wrap (t1 + (1 : Int)), ((rdD tMsg (a1000000.set t5.toNat (t1, (rdD tMsg a1000000 t5).2)) t5).2).2))) t5).1, (((rdD tMsg ((a1000000.set t5.toNat (t1, (rdD tMsg a1000000 t5).2)).set t5.toNat ((rdD tMsg (a1000000.set t5.toNat (t1, (rdD tMsg a1000000 t5).2)) t5).1, (IntKind.i64.wrap (t1 + (1 : Int)), ((rdD tMsg (a1000000.set t5.toNat (t1, (rdD tMsg a1000000 t5).2)) t5).2).2))) t5).2).1, (IntKind.i64.wrap ((IntKind.i64.wrap (t1 + (1 : Int))) + (1 : Int)), (((rdD tMsg ((a1000000.set t5.toNat (t1, (rdD tMsg a1000000 t5).2)).set t5.toNat ((rdD tMsg (a1000000.set t5.toNat (t1, (rdD tMsg a1000000 t5).2)) t5).1, (IntKind.i64.wrap (t1 + (1 : Int)), ((rdD tMsg (a1000000.set t5.toNat (t1, (rdD tMsg a1000000 t5).2)) t5).2).2))) t5).2).2).2)))) t5).1, (((rdD tMsg (((a1000000.set t5.toNat (t1, (rdD tMsg a1000000 t5).2)).set t5.toNat ((rdD tMsg (a1000000.set t5.toNat (t1, (rdD tMsg a1000000 t5).2)) t5).1, (IntKind.i64.wrap (t1 + (1 : Int)), ((rdD tMsg (a1000000.set t5.toNat (t1, (rdD tMsg a1000000 t5).2)) t5).2).2))).set t5.toNat ((rdD tMsg ((a1000000.set t5.toNat (t1, (rdD tMsg a1000000 t5).2)).set t5.toNat ((rdD tMsg (a1000000.set t5.toNat (t1, (rdD tMsg a1000000 t5).2)) t5).1, (IntKind.i64.wrap (t1 + (1 : Int)), ((rdD tMsg (a1000000.set t5.toNat (t1, (rdD tMsg a1000000 t5).2)) t5).2).2))) t5).1, (((rdD tMsg ((a1000000.set t5.toNat (t1, (rdD tMsg a1000000 t5).2)).set t5.toNat ((rdD tMsg (a1000000.set t5.toNat (t1, (rdD tMsg a1000000 t5).2)) t5).1, (IntKind.i64.wrap (t1 + (1 : Int)), ((rdD tMsg (a1000000.set t5.toNat (t1, (rdD tMsg a1000000 t5).2)) t5).2).2))) t5).2).1, (IntKind.i64.wrap ((IntKind.i64.wrap (t1 + (1 : Int))) + (1 : Int)), (((rdD tMsg ((a1000000.set t5.toNat (t1, (rdD tMsg a1000000 t5).2)).set t5.toNat ((rdD tMsg (a1000000.set t5.toNat (t1, (rdD tMsg a1000000 t5).2)) t5).1, (IntKind.i64.wrap (t1 + (1 : Int)), ((rdD tMsg (a1000000.set t5.toNat (t1, (rdD tMsg a1000000 t5).2)) t5).2).2))) t5).2).2).2)))) t5).2).1, ((((rdD tMsg (((a1000000.set t5.toNat (t1, (rdD tMsg a1000000 t5).2)).set t5.toNat ((rdD tMsg (a1000000.set t5.toNat (t1, (rdD tMsg a1000000 t5).2)) t5).1, (IntKind.i64.wrap (t1 + (1 : Int)), ((rdD tMsg (a1000000.set t5.toNat (t1, (rdD tMsg a1000000 t5).2)) t5).2).2))).set t5.toNat ((rdD tMsg ((a1000000.set t5.toNat (t1, (rdD tMsg a1000000 t5).2)).set t5.toNat ((rdD tMsg (a1000000.set t5.toNat (t1, (rdD tMsg a1000000 t5).2)) t5).1, (IntKind.i64.wrap (t1 + (1 : Int)), ((rdD tMsg (a1000000.set t5.toNat (t1, (rdD tMsg a1000000 t5).2)) t5).2).2))) t5).1, (((rdD tMsg ((a1000000.set t5.toNat (t1, (rdD tMsg a1000000 t5).2)).set t5.toNat ((rdD tMsg (a1000000.set t5.toNat (t1, (rdD tMsg a1000000 t5).2)) t5).1, (IntKind.i64.wrap (t1 + (1 : Int)), ((rdD tMsg (a1000000.set t5.toNat (t1, (rdD tMsg a1000000 t5).2)) t5).2).2))) t5).2).1, (IntKind.i64.wrap ((IntKind.i64.wrap (t1 + (1 : Int))) + (1 : Int)), (((rdD tMsg ((a1000000.set t5.toNat (t1, (rdD tMsg a1000000 t5).2)).set t5.toNat ((rdD tMsg (a1000000.set t5.toNat (t1, (rdD tMsg a1000000 t5).2)) t5).1, (IntKind.i64.wrap (t1 + (1 : Int)), ((rdD tMsg (a1000000.set t5.toNat (t1, (rdD tMsg a1000000 t5).2)) t5).2).2))) t5).2).2).2)))) t5).2).2).1, (IntKind.i64.wrap ((IntKind.i64.wrap ((IntKind.i64.wrap (t1 + (1 : Int))) + (1 : Int))) + (1 : Int)), ((((rdD tMsg (((a1000000.set t5.toNat (t1, (rdD tMsg a1000000 t5).2)).set t5.toNat ((rdD tMsg (a1000000.set t5.toNat (t1, (rdD tMsg a1000000 t5).2)) t5).1, (IntKind.i64.wrap (t1 + (1 : Int)), ((rdD tMsg (a1000000.set t5.toNat (t1, (rdD tMsg a1000000 t5).2)) t5).2).2))).set t5.toNat ((rdD tMsg ((a1000000.set t5.toNat (t1, (rdD tMsg a1000000 t5).2)).set t5.toNat ((rdD tMsg (a1000000.set t5.toNat (t1, (rdD tMsg a1000000 t5).2)) t5).1, (IntKind.i64.wrap (t1 + (1 : Int)), ((rdD tMsg (a1000000.set t5.toNat (t1, (rdD tMsg a1000000 t5).2)) t5).2).2))) t5).1, (((rdD tMsg ((a1000000.set t5.toNat (t1, (rdD tMsg a1000000 t5).2)).set t5.toNat ((rdD tMsg (a1000000.set t5.toNat (t1, (rdD tMsg a1000000 t5).2)) t5).1, (IntKind.i64.wrap (t1 + (1 : Int)), ((rdD tMsg (a1000000.set t5.toNat (t1, (rdD tMsg a1000000 t5).2)) t5).2).2))) t5).2).1, (IntKind.i64.wrap ((IntKind.i64.wrap (t1 + (1 : Int))) + (1 : Int)), (((rdD tMsg ((a1000000.set t5.toNat (t1, (rdD tMsg a1000000 t5).2)).set t5.toNat ((rdD tMsg (a1000000.set t5.toNat (t1, (rdD tMsg a1000000 t5).2)) t5).1, (IntKind.i64.wrap (t1 + (1 : Int)), ((rdD tMsg (a1000000.set t5.toNat (t1, (rdD tMsg a1000000 t5).2)) t5).2).2))) t5).2).2).2)))) t5).2).2).2).2))))) t5).1, (((rdD tMsg ((((a1000000.set t5.toNat (t1, (rdD tMsg a1000000 t5).2)).set t5.toNat ((rdD tMsg (a1000000.set t5.toNat (t1, (rdD tMsg a1000000 t5).2)) t5).1, (IntKind.i64.wrap (t1 + (1 : Int)), ((rdD tMsg (a1000000.set t5.toNat (t1, (rdD tMsg a1000000 t5).2)) t5).2).2))).set t5.toNat ((rdD tMsg ((a1000000.set t5.toNat (t1, (rdD tMsg a1000000 t5).2)).set t5.toNat ((rdD tMsg (a1000000.set t5.toNat (t1, (rdD tMsg a1000000 t5).2)) t5).1, (IntKind.i64.wrap (t1 + (1 : Int)), ((rdD tMsg (a1000000.set t5.toNat (t1, (rdD tMsg a1000000 t5).2)) t5).2).2))) t5).1, (((rdD tMsg ((a1000000.set t5.toNat (t1, (rdD tMsg a1000000 t5).2)).set t5.toNat ((rdD tMsg (a1000000.set t5.toNat (t1, (rdD tMsg a1000000 t5).2)) t5).1, (IntKind.i64.wrap (t1 + (1 : Int)), ((rdD tMsg (a1000000.set t5.toNat (t1, (rdD tMsg a1000000 t5).2)) t5).2).2))) t5).2).1, (IntKind.i64.wrap ((IntKind.i64.wrap (t1 + (1 : Int))) + (1 : Int)), (((rdD tMsg ((a1000000.set t5.toNat (t1, (rdD tMsg a1000000 t5).2)).set t5.toNat ((rdD tMsg (a1000000.set t5.toNat (t1, (rdD tMsg a1000000 t5).2)) t5).1, (IntKind.i64.wrap (t1 + (1 : Int)), ((rdD tMsg (a1000000.set t5.toNat (t1, (rdD tMsg a1000000 t5).2)) t5).2).2))) t5).2).2).2)))).set t5.toNat ((rdD tMsg (((a1000000.set t5.toNat (t1, (rdD tMsg a1000000 t5).2)).set t5.toNat ((rdD tMsg (a1000000.set t5.toNat (t1, (rdD tMsg a1000000 t5).2)) t5).1, (IntKind.i64.wrap (t1 + (1 : Int)), ((rdD tMsg (a1000000.set t5.toNat (t1, (rdD tMsg a1000000 t5).2)) t5).2).2))).set t5.toNat ((rdD tMsg ((a1000000.set t5.toNat (t1, (rdD tMsg a1000000 t5).2)).set t5.toNat ((rdD tMsg (a1000000.set t5.toNat (t1, (rdD tMsg a1000000 t5).2)) t5).1, (IntKind.i64.wrap (t1 + (1 : Int)), ((rdD tMsg (a1000000.set t5.toNat (t1, (rdD tMsg a1000000 t5).2)) t5).2).2))) t5).1, (((rdD tMsg ((a1000000.set t5.toNat (t1, (rdD tMsg a1000000 t5).2)).set t5.toNat ((rdD tMsg (a1000000.set t5.toNat (t1, (rdD tMsg a1000000 t5).2)) t5).1, (IntKind.i64.wrap (t1 + (1 : Int)), ((rdD tMsg (a1000000.set t5.toNat (t1, (rdD tMsg a1000000 t5).2)) t5).2).2))) t5).2).1, (IntKind.i64.wrap ((IntKind.i64.wrap (t1 + (1 : Int))) + (1 : Int)), (((rdD tMsg ((a1000000.set t5.toNat (t1, (rdD tMsg a1000000 t5).2)).set t5.toNat ((rdD tMsg (a1000000.set t5.toNat (t1, (rdD tMsg a1000000 t5).2)) t5).1, (IntKind.i64.wrap (t1 + (1 : Int)), ((rdD tMsg (a1000000.set t5.toNat (t1, (rdD tMsg a1000000 t5).2)) t5).2).2))) t5).2).2).2)))) t5).1, (((rdD tMsg (((a1000000.set t5.toNat (t1, (rdD tMsg a1000000 t5).2)).set t5.toNat ((rdD tMsg (a1000000.set t5.toNat (t1, (rdD tMsg a1000000 t5).2)) t5).1, (IntKind.i64.wrap (t1 + (1 : Int)), ((rdD tMsg (a1000000.set t5.toNat (t1, (rdD tMsg a1000000 t5).2)) t5).2).2))).set t5.toNat ((rdD tMsg ((a1000000.set t5.toNat (t1, (rdD tMsg a1000000 t5).2)).set t5.toNat ((rdD tMsg (a1000000.set t5.toNat (t1, (rdD tMsg a1000000 t5).2)) t5).1, (IntKind.i64.wrap (t1 + (1 : Int)), ((rdD tMsg (a1000000.set t5.toNat (t1, (rdD tMsg a1000000 t5).2)) t5).2).2))) t5).1, (((rdD tMsg ((a1000000.set t5.toNat (t1, (rdD tMsg a1000000 t5).2)).set t5.toNat ((rdD tMsg (a1000000.set t5.toNat (t1, (rdD tMsg a1000000 t5).2)) t5).1, (IntKind.i64.wrap (t1 + (1 : Int)), ((rdD tMsg (a1000000.set t5.toNat (t1, (rdD tMsg a1000000 t5).2)) t5).2).2))) t5).2).1, (IntKind.i64.wrap ((IntKind.i64.wrap (t1 + (1 : Int))) + (1 : Int)), (((rdD tMsg ((a1000000.set t5.toNat (t1, (rdD tMsg a1000000 t5).2)).set t5.toNat ((rdD tMsg (a1000000.set t5.toNat (t1, (rdD tMsg a1000000 t5).2)) t5).1, (IntKind.i64.wrap (t1 + (1 : Int)), ((rdD tMsg (a1000000.set t5.toNat (t1, (rdD tMsg a1000000 t5).2)) t5).2).2))) t5).2).2).2)))) t5).2).1, ((((rdD tMsg (((a1000000.set t5.toNat (t1, (rdD tMsg a1000000 t5).2)).set t5.toNat ((rdD tMsg (a1000000.set t5.toNat (t1, (rdD tMsg a1000000 t5).2)) t5).1, (IntKind.i64.wrap (t1 + (1 : Int)), ((rdD tMsg (a1000000.set t5.toNat (t1, (rdD tMsg a1000000 t5).2)) t5).2).2))).set t5.toNat ((rdD tMsg ((a1000000.set t5.toNat (t1, (rdD tMsg a1000000 t5).2)).set t5.toNat ((rdD tMsg (a1000000.set t5.toNat (t1, (rdD tMsg a1000000 t5).2)) t5).1, (IntKind.i64.wrap (t1 + (1 : Int)), ((rdD tMsg (a1000000.set t5.toNat (t1, (rdD tMsg a1000000 t5).2)) t5).2).2))) t5).1, (((rdD tMsg ((a1000000.set t5.toNat (t1, (rdD tMsg a1000000 t5).2)).set t5.toNat ((rdD tMsg (a1000000.set t5.toNat (t1, (rdD tMsg a1000000 t5).2)) t5).1, (IntKind.i64.wrap (t1 + (1 : Int)), ((rdD tMsg (a1000000.set t5.toNat (t1, (rdD tMsg a1000000 t5).2)) t5).2).2))) t5).2).1, (IntKind.i64.wrap ((IntKind.i64.wrap (t1 + (1 : Int))) + (1 : Int)), (((rdD tMsg ((a1000000.set t5.toNat (t1, (rdD tMsg a1000000 t5).2)).set t5.toNat ((rdD tMsg (a1000000.set t5.toNat (t1, (rdD tMsg a1000000 t5).2)) t5).1, (IntKind.i64.wrap (t1 + (1 : Int)), ((rdD tMsg (a1000000.set t5.toNat (t1, (rdD tMsg a1000000 t5).2)) t5).2).2))) t5).2).2).2)))) t5).2).2).1, (IntKind.i64.wrap ((IntKind.i64.wrap ((IntKind.i64.wrap (t1 + (1 : Int))) + (1 : Int))) + (1 : Int)), ((((rdD tMsg (((a1000000.set t5.toNat (t1, (rdD tMsg a1000000 t5).2)).set t5.toNat ((rdD tMsg (a1000000.set t5.toNat (t1, (rdD tMsg a1000000 t5).2)) t5).1, (IntKind.i64.wrap (t1 + (1 : Int)), ((rdD tMsg (a1000000.set t5.toNat (t1, (rdD tMsg a1000000 t5).2)) t5).2).2))).set t5.toNat ((rdD tMsg ((a1000000.set t5.toNat (t1, (rdD tMsg a1000000 t5).2)).set t5.toNat ((rdD tMsg (a1000000.set t5.toNat (t1, (rdD tMsg a1000000 t5).2)) t5).1, (IntKind.i64.wrap (t1 + (1 : Int)), ((rdD tMsg (a1000000.set t5.toNat (t1, (rdD tMsg a1000000 t5).2)) t5).2).2))) t5).1, (((rdD tMsg ((a1000000.set t5.toNat (t1, (rdD tMsg a1000000 t5).2)).set t5.toNat ((rdD tMsg (a1000000.set t5.toNat (t1, (rdD tMsg a1000000 t5).2)) t5).1, (IntKind.i64.wrap (t1 + (1 : Int)), ((rdD tMsg (a1000000.set t5.toNat (t1, (rdD tMsg a1000000 t5).2)) t5).2).2))) t5).2).1, (IntKind.i64.wrap ((IntKind.i64.wrap (t1 + (1 : Int))) + (1 : Int)), (((rdD tMsg ((a1000000.set t5.toNat (t1, (rdD tMsg a1000000 t5).2)).set t5.toNat ((rdD tMsg (a1000000.set t5.toNat (t1, (rdD tMsg a1000000 t5).2)) t5).1, (IntKind.i64.wrap (t1 + (1 : Int)), ((rdD tMsg (a1000000.set t5.toNat (t1, (rdD tMsg a1000000 t5).2)) t5).2).2))) t5).2).2).2)))) t5).2).2).2).2))))) t5).2).1, ((((rdD tMsg ((((a1000000.set t5.toNat (t1, (rdD tMsg a1000000 t5).2)).set t5.toNat ((rdD tMsg (a1000000.set t5.toNat (t1, (rdD tMsg a1000000 t5).2)) t5).1, (IntKind.i64.wrap (t1 + (1 : Int)), ((rdD tMsg (a1000000.set t5.toNat (t1, (rdD tMsg a1000000 t5).2)) t5).2).2))).set t5.toNat ((rdD tMsg ((a1000000.set t5.toNat (t1, (rdD tMsg a1000000 t5).2)).set t5.toNat ((rdD tMsg (a1000000.set t5.toNat (t1, (rdD tMsg a1000000 t5).2)) t5).1, (IntKind.i64.wrap (t1 + (1 : Int)), ((rdD tMsg (a1000000.set t5.toNat (t1, (rdD tMsg a1000000 t5).2)) t5).2).2))) t5).1, (((rdD tMsg ((a1000000.set t5.toNat (t1, (rdD tMsg a1000000 t5).2)).set t5.toNat ((rdD tMsg (a1000000.set t5.toNat (t1, (rdD tMsg a1000000 t5).2)) t5).1, (IntKind.i64.wrap (t1 + (1 : Int)), ((rdD tMsg (a1000000.set t5.toNat (t1, (rdD tMsg a1000000 t5).2)) t5).2).2))) t5).2).1, (IntKind.i64.wrap ((IntKind.i64.wrap (t1 + (1 : Int))) + (1 : Int)), (((rdD tMsg ((a1000000.set t5.toNat (t1, (rdD tMsg a1000000 t5).2)).set t5.toNat ((rdD tMsg (a1000000.set t5.toNat (t1, (rdD tMsg a1000000 t5).2)) t5).1, (IntKind.i64.wrap (t1 + (1 : Int)), ((rdD tMsg (a1000000.set t5.toNat (t1, (rdD tMsg a1000000 t5).2)) t5).2).2))) t5).2).2).2)))).set t5.toNat ((rdD tMsg (((a1000000.set t5.toNat (t1, (rdD tMsg a1000000 t5).2)).set t5.toNat ((rdD tMsg (a1000000.set t5.toNat (t1, (rdD tMsg a1000000 t5).2)) t5).1, (IntKind.i64.wrap (t1 + (1 : Int)), ((rdD tMsg (a1000000.set t5.toNat (t1, (rdD tMsg a1000000 t5).2)) t5).2).2))).set t5.toNat ((rdD tMsg ((a1000000.set t5.toNat (t1, (rdD tMsg a1000000 t5).2)).set t5.toNat ((rdD tMsg (a1000000.set t5.toNat (t1, (rdD tMsg a1000000 t5).2)) t5).1, (IntKind.i64.wrap (t1 + (1 : Int)), ((rdD tMsg (a1000000.set t5.toNat (t1, (rdD tMsg a1000000 t5).2)) t5).2).2))) t5).1, (((rdD tMsg ((a1000000.set t5.toNat (t1, (rdD tMsg a1000000 t5).2)).set t5.toNat ((rdD tMsg (a1000000.set t5.toNat (t1, (rdD tMsg a1000000 t5).2)) t5).1, (IntKind.i64.wrap (t1 + (1 : Int)), ((rdD tMsg (a1000000.set t5.toNat (t1, (rdD tMsg a1000000 t5).2)) t5).2).2))) t5).2).1, (IntKind.i64.wrap ((IntKind.i64.wrap (t1 + (1 : Int))) + (1 : Int)), (((rdD tMsg ((a1000000.set t5.toNat (t1, (rdD tMsg a1000000 t5).2)).set t5.toNat ((rdD tMsg (a1000000.set t5.toNat (t1, (rdD tMsg a1000000 t5).2)) t5).1, (IntKind.i64.wrap (t1 + (1 : Int)), ((rdD tMsg (a1000000.set t5.toNat (t1, (rdD tMsg a1000000 t5).2)) t5).2).2))) t5).2).2).2)))) t5).1, (((rdD tMsg (((a1000000.set t5.toNat (t1, (rdD tMsg a1000000 t5).2)).set t5.toNat ((rdD tMsg (a1000000.set t5.toNat (t1, (rdD tMsg a1000000 t5).2)) t5).1, (IntKind.i64.wrap (t1 + (1 : Int)), ((rdD tMsg (a1000000.set t5.toNat (t1, (rdD tMsg a1000000 t5).2)) t5).2).2))).set t5.toNat ((rdD tMsg ((a1000000.set t5.toNat (t1, (rdD tMsg a1000000 t5).2)).set t5.toNat ((rdD tMsg (a1000000.set t5.toNat (t1, (rdD tMsg a1000000 t5).2)) t5).1, (IntKind.i64.wrap (t1 + (1 : Int)), ((rdD tMsg (a1000000.set t5.toNat (t1, (rdD tMsg a1000000 t5).2)) t5).2).2))) t5).1, (((rdD tMsg ((a1000000.set t5.toNat (t1, (rdD tMsg a1000000 t5).2)).set t5.toNat ((rdD tMsg (a1000000.set t5.toNat (t1, (rdD tMsg a1000000 t5).2)) t5).1, (IntKind.i64.wrap (t1 + (1 : Int)), ((rdD tMsg (a1000000.set t5.toNat (t1, (rdD tMsg a1000000 t5).2)) t5).2).2))) t5).2).1, (IntKind.i64.wrap ((IntKind.i64.wrap (t1 + (1 : Int))) + (1 : Int)), (((rdD tMsg ((a1000000.set t5.toNat (t1, (rdD tMsg a1000000 t5).2)).set t5.toNat ((rdD tMsg (a1000000.set t5.toNat (t1, (rdD tMsg a1000000 t5).2)) t5).1, (IntKind.i64.wrap (t1 + (1 : Int)), ((rdD tMsg (a1000000.set t5.toNat (t1, (rdD tMsg a1000000 t5).2)) t5).2).2))) t5).2).2).2)))) t5).2).1, ((((rdD tMsg (((a1000000.set t5.toNat (t1, (rdD tMsg a1000000 t5).2)).set t5.toNat ((rdD tMsg (a1000000.set t5.toNat (t1, (rdD tMsg a1000000 t5).2)) t5).1, (IntKind.i64.wrap (t1 + (1 : Int)), ((rdD tMsg (a1000000.set t5.toNat (t1, (rdD tMsg a1000000 t5).2)) t5).2).2))).set t5.toNat ((rdD tMsg ((a1000000.set t5.toNat (t1, (rdD tMsg a1000000 t5).2)).set t5.toNat ((rdD tMsg (a1000000.set t5.toNat (t1, (rdD tMsg a1000000 t5).2)) t5).1, (IntKind.i64.wrap (t1 + (1 : Int)), ((rdD tMsg (a1000000.set t5.toNat (t1, (rdD tMsg a1000000 t5).2)) t5).2).2))) t5).1, (((rdD tMsg ((a1000000.set t5.toNat (t1, (rdD tMsg a1000000 t5).2)).set t5.toNat ((rdD tMsg (a1000000.set t5.toNat (t1, (rdD tMsg a1000000 t5).2)) t5).1, (IntKind.i64.wrap (t1 + (1 : Int)), ((rdD tMsg (a1000000.set t5.toNat (t1, (rdD tMsg a1000000 t5).2)) t5).2).2))) t5).2).1, (IntKind.i64.wrap ((IntKind.i64.wrap (t1 + (1 : Int))) + (1 : Int)), (((rdD tMsg ((a1000000.set t5.toNat (t1, (rdD tMsg a1000000 t5).2)).set t5.toNat ((rdD tMsg (a1000000.set t5.toNat (t1, (rdD tMsg a1000000 t5).2)) t5).1, (IntKind.i64.wrap (t1 + (1 : Int)), ((rdD tMsg (a1000000.set t5.toNat (t1, (rdD tMsg a1000000 t5).2)) t5).2).2))) t5).2).2).2)))) t5).2).2).1, (IntKind.i64.wrap ((IntKind.i64.wrap ((IntKind.i64.wrap (t1 + (1 : Int))) + (1 : Int))) + (1 : Int)), ((((rdD tMsg (((a1000000.set t5.toNat (t1, (rdD tMsg a1000000 t5).2)).set t5.toNat ((rdD tMsg (a1000000.set t5.toNat (t1, (rdD tMsg a1000000 t5).2)) t5).1, (IntKind.i64.wrap (t1 + (1 : Int)), ((rdD tMsg (a1000000.set t5.toNat (t1, (rdD tMsg a1000000 t5).2)) t5).2).2))).set t5.toNat ((rdD tMsg ((a1000000.set t5.toNat (t1, (rdD tMsg a1000000 t5).2)).set t5.toNat ((rdD tMsg (a1000000.set t5.toNat (t1, (rdD tMsg a1000000 t5).2)) t5).1, (IntKind.i64.wrap (t1 + (1 : Int)), ((rdD tMsg (a1000000.set t5.toNat (t1, (rdD tMsg a1000000 t5).2)) t5).2).2))) t5).1, (((rdD tMsg ((a1000000.set t5.toNat (t1, (rdD tMsg a1000000 t5).2)).set t5.toNat ((rdD tMsg (a1000000.set t5.toNat (t1, (rdD tMsg a1000000 t5).2)) t5).1, (IntKind.i64.wrap (t1 + (1 : Int)), ((rdD tMsg (a1000000.set t5.toNat (t1, (rdD tMsg a1000000 t5).2)) t5).2).2))) t5).2).1, (IntKind.i64.wrap ((IntKind.i64.wrap (t1 + (1 : Int))) + (1 : Int)), (((rdD tMsg ((a1000000.set t5.toNat (t1, (rdD tMsg a1000000 t5).2)).set t5.toNat ((rdD tMsg (a1000000.set t5.toNat (t1, (rdD tMsg a1000000 t5).2)) t5).1, (IntKind.i64.wrap (t1 + (1 : Int)), ((rdD tMsg (a1000000.set t5.toNat (t1, (rdD tMsg a1000000 t5).2)) t5).2).2))) t5).2).2).2)))) t5).2).2).2).2))))) t5).2).2).1, (((((rdD tMsg ((((a1000000.set t5.toNat (t1, (rdD tMsg a1000000 t5).2)).set t5.toNat ((rdD tMsg (a1000000.set t5.toNat (t1, (rdD tMsg a1000000 t5).2)) t5).1, (IntKind.i64.wrap (t1 + (1 : Int)), ((rdD tMsg (a1000000.set t5.toNat (t1, (rdD tMsg a1000000 t5).2)) t5).2).2))).set t5.toNat ((rdD tMsg ((a1000000.set t5.toNat (t1, (rdD tMsg a1000000 t5).2)).set t5.toNat ((rdD tMsg (a1000000.set t5.toNat (t1, (rdD tMsg a1000000 t5).2)) t5).1, (IntKind.i64.wrap (t1 + (1 : Int)), ((rdD tMsg (a1000000.set t5.toNat (t1, (rdD tMsg a1000000 t5).2)) t5).2).2))) t5).1, (((rdD tMsg ((a1000000.set t5.toNat (t1, (rdD tMsg a1000000 t5).2)).set t5.toNat ((rdD tMsg (a1000000.set t5.toNat (t1, (rdD tMsg a1000000 t5).2)) t5).1, (IntKind.i64.wrap (t1 + (1 : Int)), ((rdD tMsg (a1000000.set t5.toNat (t1, (rdD tMsg a1000000 t5).2)) t5).2).2))) t5).2).1, (IntKind.i64.wrap ((IntKind.i64.wrap (t1 + (1 : Int))) + (1 : Int)), (((rdD tMsg ((a1000000.set t5.toNat (t1, (rdD tMsg a1000000 t5).2)).set t5.toNat ((rdD tMsg (a1000000.set t5.toNat (t1, (rdD tMsg a1000000 t5).2)) t5).1, (IntKind.i64.wrap (t1 + (1 : Int)), ((rdD tMsg (a1000000.set t5.toNat (t1, (rdD tMsg a1000000 t5).2)) t5).2).2))) t5).2).2).2)))).set t5.toNat ((rdD tMsg (((a1000000.set t5.toNat (t1, (rdD tMsg a1000000 t5).2)).set t5.toNat ((rdD tMsg (a1000000.set t5.toNat (t1, (rdD tMsg a1000000 t5).2)) t5).1, (IntKind.i64.wrap (t1 + (1 : Int)), ((rdD tMsg (a1000000.set t5.toNat (t1, (rdD tMsg a1000000 t5).2)) t5).2).2))).set t5.toNat ((rdD tMsg ((a1000000.set t5.toNat (t1, (rdD tMsg a1000000 t5).2)).set t5.toNat ((rdD tMsg (a1000000.set t5.toNat (t1, (rdD tMsg a1000000 t5).2)) t5).1, (IntKind.i64.wrap (t1 + (1 : Int)), ((rdD tMsg (a1000000.set t5.toNat (t1, (rdD tMsg a1000000 t5).2)) t5).2).2))) t5).1, (((rdD tMsg ((a1000000.set t5.toNat (t1, (rdD tMsg a1000000 t5).2)).set t5.toNat ((rdD tMsg (a1000000.set t5.toNat (t1, (rdD tMsg a1000000 t5).2)) t5).1, (IntKind.i64.wrap (t1 + (1 : Int)), ((rdD tMsg (a1000000.set t5.toNat (t1, (rdD tMsg a1000000 t5).2)) t5).2).2))) t5).2).1, (IntKind.i64.wrap ((IntKind.i64.wrap (t1 + (1 : Int))) + (1 : Int)), (((rdD tMsg ((a1000000.set t5.toNat (t1, (rdD tMsg a1000000 t5).2)).set t5.toNat ((rdD tMsg (a1000000.set t5.toNat (t1, (rdD tMsg a1000000 t5).2)) t5).1, (IntKind.i64.wrap (t1 + (1 : Int)), ((rdD tMsg (a1000000.set t5.toNat (t1, (rdD tMsg a1000000 t5).2)) t5).2).2))) t5).2).2).2)))) t5).1, (((rdD tMsg (((a1000000.set t5.toNat (t1, (rdD tMsg a1000000 t5).2)).set t5.toNat ((rdD tMsg (a1000000.set t5.toNat (t1, (rdD tMsg a1000000 t5).2)) t5).1, (IntKind.i64.wrap (t1 + (1 : Int)), ((rdD tMsg (a1000000.set t5.toNat (t1, (rdD tMsg a1000000 t5).2)) t5).2).2))).set t5.toNat ((rdD tMsg ((a1000000.set t5.toNat (t1, (rdD tMsg a1000000 t5).2)).set t5.toNat ((rdD tMsg (a1000000.set t5.toNat (t1, (rdD tMsg a1000000 t5).2)) t5).1, (IntKind.i64.wrap (t1 + (1 : Int)), ((rdD tMsg (a1000000.set t5.toNat (t1, (rdD tMsg a1000000 t5).2)) t5).2).2))) t5).1, (((rdD tMsg ((a1000000.set t5.toNat (t1, (rdD tMsg a1000000 t5).2)).set t5.toNat ((rdD tMsg (a1000000.set t5.toNat (t1, (rdD tMsg a1000000 t5).2)) t5).1, (IntKind.i64.wrap (t1 + (1 : Int)), ((rdD tMsg (a1000000.set t5.toNat (t1, (rdD tMsg a1000000 t5).2)) t5).2).2))) t5).2).1, (IntKind.i64.wrap ((IntKind.i64.wrap (t1 + (1 : Int))) + (1 : Int)), (((rdD tMsg ((a1000000.set t5.toNat (t1, (rdD tMsg a1000000 t5).2)).set t5.toNat ((rdD tMsg (a1000000.set t5.toNat (t1, (rdD tMsg a1000000 t5).2)) t5).1, (IntKind.i64.wrap (t1 + (1 : Int)), ((rdD tMsg (a1000000.set t5.toNat (t1, (rdD tMsg a1000000 t5).2)) t5).2).2))) t5).2).2).2)))) t5).2).1, ((((rdD tMsg (((a1000000.set t5.toNat (t1, (rdD tMsg a1000000 t5).2)).set t5.toNat ((rdD tMsg (a1000000.set t5.toNat (t1, (rdD tMsg a1000000 t5).2)) t5).1, (IntKind.i64.wrap (t1 + (1 : Int)), ((rdD tMsg (a1000000.set t5.toNat (t1, (rdD tMsg a1000000 t5).2)) t5).2).2))).set t5.toNat ((rdD tMsg ((a1000000.set t5.toNat (t1, (rdD tMsg a1000000 t5).2)).set t5.toNat ((rdD tMsg (a1000000.set t5.toNat (t1, (rdD tMsg a1000000 t5).2)) t5).1, (IntKind.i64.wrap (t1 + (1 : Int)), ((rdD tMsg (a1000000.set t5.toNat (t1, (rdD tMsg a1000000 t5).2)) t5).2).2))) t5).1, (((rdD tMsg ((a1000000.set t5.toNat (t1, (rdD tMsg a1000000 t5).2)).set t5.toNat ((rdD tMsg (a1000000.set t5.toNat (t1, (rdD tMsg a1000000 t5).2)) t5).1, (IntKind.i64.wrap (t1 + (1 : Int)), ((rdD tMsg (a1000000.set t5.toNat (t1, (rdD tMsg a1000000 t5).2)) t5).2).2))) t5).2).1, (IntKind.i64.wrap ((IntKind.i64.wrap (t1 + (1 : Int))) + (1 : Int)), (((rdD tMsg ((a1000000.set t5.toNat (t1, (rdD tMsg a1000000 t5).2)).set t5.toNat ((rdD tMsg (a1000000.set t5.toNat (t1, (rdD tMsg a1000000 t5).2)) t5).1, (IntKind.i64.wrap (t1 + (1 : Int)), ((rdD tMsg (a1000000.set t5.toNat (t1, (rdD tMsg a1000000 t5).2)) t5).2).2))) t5).2).2).2)))) t5).2).2).1, (IntKind.i64.wrap ((IntKind.i64.wrap ((IntKind.i64.wrap (t1 + (1 : Int))) + (1 : Int))) + (1 : Int)), ((((rdD tMsg (((a1000000.set t5.toNat (t1, (rdD tMsg a1000000 t5).2)).set t5.toNat ((rdD tMsg (a1000000.set t5.toNat (t1, (rdD tMsg a1000000 t5).2)) t5).1, (IntKind.i64.wrap (t1 + (1 : Int)), ((rdD tMsg (a1000000.set t5.toNat (t1, (rdD tMsg a1000000 t5).2)) t5).2).2))).set t5.toNat ((rdD tMsg ((a1000000.set t5.toNat (t1, (rdD tMsg a1000000 t5).2)).set t5.toNat ((rdD tMsg (a1000000.set t5.toNat (t1, (rdD tMsg a1000000 t5).2)) t5).1, (IntKind.i64.wrap (t1 + (1 : Int)), ((rdD tMsg (a1000000.set t5.toNat (t1, (rdD tMsg a1000000 t5).2)) t5).2).2))) t5).1, (((rdD tMsg ((a1000000.set t5.toNat (t1, (rdD tMsg a1000000 t5).2)).set t5.toNat ((rdD tMsg (a1000000.set t5.toNat (t1, (rdD tMsg a1000000 t5).2)) t5).1, (IntKind.i64.wrap (t1 + (1 : Int)), ((rdD tMsg (a1000000.set t5.toNat (t1, (rdD tMsg a1000000 t5).2)) t5).2).2))) t5).2).1, (IntKind.i64.wrap ((IntKind.i64.wrap (t1 + (1 : Int))) + (1 : Int)), (((rdD tMsg ((a1000000.set t5.toNat (t1, (rdD tMsg a1000000 t5).2)).set t5.toNat ((rdD tMsg (a1000000.set t5.toNat (t1, (rdD tMsg a1000000 t5).2)) t5).1, (IntKind.i64.wrap (t1 + (1 : Int)), ((rdD tMsg (a1000000.set t5.toNat (t1, (rdD tMsg a1000000 t5).2)) t5).2).2))) t5).2).2).2)))) t5).2).2).2).2))))) t5).2).2).2).1, (y46.2.1, (((((rdD tMsg ((((a1000000.set t5.toNat (t1, (rdD tMsg a1000000 t5).2)).set t5.toNat ((rdD tMsg (a1000000.set t5.toNat (t1, (rdD tMsg a1000000 t5).2)) t5).1, (IntKind.i64.wrap (t1 + (1 : Int)), ((rdD tMsg (a1000000.set t5.toNat (t1, (rdD tMsg a1000000 t5).2)) t5).2).2))).set t5.toNat ((rdD tMsg ((a1000000.set t5.toNat (t1, (rdD tMsg a1000000 t5).2)).set t5.toNat ((rdD tMsg (a1000000.set t5.toNat (t1, (rdD tMsg a1000000 t5).2)) t5).1, (IntKind.i64.wrap (t1 + (1 : Int)), ((rdD tMsg (a1000000.set t5.toNat (t1, (rdD tMsg a1000000 t5).2)) t5).2).2))) t5).1, (((rdD tMsg ((a1000000.set t5.toNat (t1, (rdD tMsg a1000000 t5).2)).set t5.toNat ((rdD tMsg (a1000000.set t5.toNat (t1, (rdD tMsg a1000000 t5).2)) t5).1, (IntKind.i64.wrap (t1 + (1 : Int)), ((rdD tMsg (a1000000.set t5.toNat (t1, (rdD tMsg a1000000 t5).2)) t5).2).2))) t5).2).1, (IntKind.i64.wrap ((IntKind.i64.wrap (t1 + (1 : Int))) + (1 : Int)), (((rdD tMsg ((a1000000.set t5.toNat (t1, (rdD tMsg a1000000 t5).2)).set t5.toNat ((rdD tMsg (a1000000.set t5.toNat (t1, (rdD tMsg a1000000 t5).2)) t5).1, (IntKind.i64.wrap (t1 + (1 : Int)), ((rdD tMsg (a1000000.set t5.toNat (t1, (rdD tMsg a1000000 t5).2)) t5).2).2))) t5).2).2).2)))).set t5.toNat ((rdD tMsg (((a1000000.set t5.toNat (t1, (rdD tMsg a1000000 t5).2)).set t5.toNat ((rdD tMsg (a1000000.set t5.toNat (t1, (rdD tMsg a1000000 t5).2)) t5).1, (IntKind.i64.wrap (t1 + (1 : Int)), ((rdD tMsg (a1000000.set t5.toNat (t1, (rdD tMsg a1000000 t5).2)) t5).2).2))).set t5.toNat ((rdD tMsg ((a1000000.set t5.toNat (t1, (rdD tMsg a1000000 t5).2)).set t5.toNat ((rdD tMsg (a1000000.set t5.toNat (t1, (rdD tMsg a1000000 t5).2)) t5).1, (IntKind.i64.wrap (t1 + (1 : Int)), ((rdD tMsg (a1000000.set t5.toNat (t1, (rdD tMsg a1000000 t5).2)) t5).2).2))) t5).1, (((rdD tMsg ((a1000000.set t5.toNat (t1, (rdD tMsg a1000000 t5).2)).set t5.toNat ((rdD tMsg (a1000000.set t5.toNat (t1, (rdD tMsg a1000000 t5).2)) t5).1, (IntKind.i64.wrap (t1 + (1 : Int)), ((rdD tMsg (a1000000.set t5.toNat (t1, (rdD tMsg a1000000 t5).2)) t5).2).2))) t5).2).1, (IntKind.i64.wrap ((IntKind.i64.wrap (t1 + (1 : Int))) + (1 : Int)), (((rdD tMsg ((a1000000.set t5.toNat (t1, (rdD tMsg a1000000 t5).2)).set t5.toNat ((rdD tMsg (a1000000.set t5.toNat (t1, (rdD tMsg a1000000 t5).2)) t5).1, (IntKind.i64.wrap (t1 + (1 : Int)), ((rdD tMsg (a1000000.set t5.toNat (t1, (rdD tMsg a1000000 t5).2)) t5).2).2))) t5).2).2).2)))) t5).1, (((rdD tMsg (((a1000000.set t5.toNat (t1, (rdD tMsg a1000000 t5).2)).set t5.toNat ((rdD tMsg (a1000000.set t5.toNat (t1, (rdD tMsg a1000000 t5).2)) t5).1, (IntKind.i64.wrap (t1 + (1 : Int)), ((rdD tMsg (a1000000.set t5.toNat (t1, (rdD tMsg a1000000 t5).2)) t5).2).2))).set t5.toNat ((rdD tMsg ((a1000000.set t5.toNat (t1, (rdD tMsg a1000000 t5).2)).set t5.toNat ((rdD tMsg (a1000000.set t5.toNat (t1, (rdD tMsg a1000000 t5).2)) t5).1, (IntKind.i64.wrap (t1 + (1 : Int)), ((rdD tMsg (a1000000.set t5.toNat (t1, (rdD tMsg a1000000 t5).2)) t5).2).2))) t5).1, (((rdD tMsg ((a1000000.set t5.toNat (t1, (rdD tMsg a1000000 t5).2)).set t5.toNat ((rdD tMsg (a1000000.set t5.toNat (t1, (rdD tMsg a1000000 t5).2)) t5).1, (IntKind.i64.wrap (t1 + (1 : Int)), ((rdD tMsg (a1000000.set t5.toNat (t1, (rdD tMsg a1000000 t5).2)) t5).2).2))) t5).2).1, (IntKind.i64.wrap ((IntKind.i64.wrap (t1 + (1 : Int))) + (1 : Int)), (((rdD tMsg ((a1000000.set t5.toNat (t1, (rdD tMsg a1000000 t5).2)).set t5.toNat ((rdD tMsg (a1000000.set t5.toNat (t1, (rdD tMsg a1000000 t5).2)) t5).1, (IntKind.i64.wrap (t1 + (1 : Int)), ((rdD tMsg (a1000000.set t5.toNat (t1, (rdD tMsg a1000000 t5).2)) t5).2).2))) t5).2).2).2)))) t5).2).1, ((((rdD tMsg (((a1000000.set t5.toNat (t1, (rdD tMsg a1000000 t5).2)).set t5.toNat ((rdD tMsg (a1000000.set t5.toNat (t1, (rdD tMsg a1000000 t5).2)) t5).1, (IntKind.i64.wrap (t1 + (1 : Int)), ((rdD tMsg (a1000000.set t5.toNat (t1, (rdD tMsg a1000000 t5).2)) t5).2).2))).set t5.toNat ((rdD tMsg ((a1000000.set t5.toNat (t1, (rdD tMsg a1000000 t5).2)).set t5.toNat ((rdD tMsg (a1000000.set t5.toNat (t1, (rdD tMsg a1000000 t5).2)) t5).1, (IntKind.i64.wrap (t1 + (1 : Int)), ((rdD tMsg (a1000000.set t5.toNat (t1, (rdD tMsg a1000000 t5).2)) t5).2).2))) t5).1, (((rdD tMsg ((a1000000.set t5.toNat (t1, (rdD tMsg a1000000 t5).2)).set t5.toNat ((rdD tMsg (a1000000.set t5.toNat (t1, (rdD tMsg a1000000 t5).2)) t5).1, (IntKind.i64.wrap (t1 + (1 : Int)), ((rdD tMsg (a1000000.set t5.toNat (t1, (rdD tMsg a1000000 t5).2)) t5).2).2))) t5).2).1, (IntKind.i64.wrap ((IntKind.i64.wrap (t1 + (1 : Int))) + (1 : Int)), (((rdD tMsg ((a1000000.set t5.toNat (t1, (rdD tMsg a1000000 t5).2)).set t5.toNat ((rdD tMsg (a1000000.set t5.toNat (t1, (rdD tMsg a1000000 t5).2)) t5).1, (IntKind.i64.wrap (t1 + (1 : Int)), ((rdD tMsg (a1000000.set t5.toNat (t1, (rdD tMsg a1000000 t5).2)) t5).2).2))) t5).2).2).2)))) t5).2).2).1, (IntKind.i64.wrap ((IntKind.i64.wrap ((IntKind.i64.wrap (t1 + (1 : Int))) + (1 : Int))) + (1 : Int)), ((((rdD tMsg (((a1000000.set t5.toNat (t1, (rdD tMsg a1000000 t5).2)).set t5.toNat ((rdD tMsg (a1000000.set t5.toNat (t1, (rdD tMsg a1000000 t5).2)) t5).1, (IntKind.i64.wrap (t1 + (1 : Int)), ((rdD tMsg (a1000000.set t5.toNat (t1, (rdD tMsg a1000000 t5).2)) t5).2).2))).set t5.toNat ((rdD tMsg ((a1000000.set t5.toNat (t1, (rdD tMsg a1000000 t5).2)).set t5.toNat ((rdD tMsg (a1000000.set t5.toNat (t1, (rdD tMsg a1000000 t5).2)) t5).1, (IntKind.i64.wrap (t1 + (1 : Int)), ((rdD tMsg (a1000000.set t5.toNat (t1, (rdD tMsg a1000000 t5).2)) t5).2).2))) t5).1, (((rdD tMsg ((a1000000.set t5.toNat (t1, (rdD tMsg a1000000 t5).2)).set t5.toNat ((rdD tMsg (a1000000.set t5.toNat (t1, (rdD tMsg a1000000 t5).2)) t5).1, (IntKind.i64.wrap (t1 + (1 : Int)), ((rdD tMsg (a1000000.set t5.toNat (t1, (rdD tMsg a1000000 t5).2)) t5).2).2))) t5).2).1, (IntKind.i64.wrap ((IntKind.i64.wrap (t1 + (1 : Int))) + (1 : Int)), (((rdD tMsg ((a1000000.set t5.toNat (t1, (rdD tMsg a1000000 t5).2)).set t5.toNat ((rdD tMsg (a1000000.set t5.toNat (t1, (rdD tMsg a1000000 t5).2)) t5).1, (IntKind.i64.wrap (t1 + (1 : Int)), ((rdD tMsg (a1000000.set t5.toNat (t1, (rdD tMsg a1000000 t5).2)) t5).2).2))) t5).2).2).2)))) t5).2).2).2).2))))) t5).2).2).2).2).2))))), ()))))))))
 (K (.exit 0) (laws_markMsgS_x0_0 t1 a1000000)) := by kernel_rfl
theorem laws_markMsgS_e0_0 (x0 : List (Int × Int × Int × Int × List Int × Unit)) (x1 : Int) (d0 : Int) (d1 : List (Int × Int × Int × Int × List Int × Unit)) : laws_markMsgS_K0 x0 x1 (.exit 0) (laws_markMsgS_x0_0 d0 d1) =
 some ((d0, ()), (d1, ((), ()))) := by kernel_rfl
/-! laws.heldIntS -/
noncomputable def laws_heldIntS_b : Code := bd Try.f74
@[reducible] def laws_heldIntS_t0 : Tm := ⟨[], [], [(0, .sc true tIs), (1, .sc true tI), (5, .sc true tI)], [], [1, 4], []⟩
def laws_heldIntS_T : List (Nat × Tm) := [(0, laws_heldIntS_t0)]
noncomputable def laws_heldIntS_E : Env := ⟨tt0, []⟩
noncomputable def laws_heldIntS_F : PsD [.ro tIs, .ro tI] → Option (RsD [.own tI] × PsO [.ro tIs, .ro tI]) := fun x => evFn laws_heldIntS_E laws_heldIntS_T Try.f74 laws_heldIntS_b [.ro tIs, .ro tI] [.own tI] x
@[reducible] noncomputable def laws_heldIntS_C : Ct := ⟨[.ro tIs, .ro tI], [.own tI], laws_heldIntS_F⟩
theorem laws_heldIntS_h (x : PsD [.ro tIs, .ro tI]) (y : RsD [.own tI] × PsO [.ro tIs, .ro tI]) (h : laws_heldIntS_F x = some y) : evFn laws_heldIntS_E laws_heldIntS_T Try.f74 laws_heldIntS_b [.ro tIs, .ro tI] [.own tI] x = some y := h
theorem laws_heldIntS_c : ∀ f c, get laws_heldIntS_E.ct f = some c → Sat Try.prog f c := ct_nil
theorem laws_heldIntS_S : Sat Try.prog 74 laws_heldIntS_C := fn_ok2 (envOk _) laws_heldIntS_c mixedOk Try.func74 (by kernel_rfl : Try.f74.body = some laws_heldIntS_b) (by kernel_rfl) (by kernel_rfl) laws_heldIntS_h
noncomputable def laws_heldIntS_Ke  (x0 : List Int) (x1 : Int) : Ex → AS → Option (RsD [.own tI] × PsO [.ro tIs, .ro tI]) := endK laws_heldIntS_E Try.f74 [.ro tIs, .ro tI] [.own tI] (initL [.ro tIs, .ro tI] (x0, (x1, ())) 0).1
noncomputable def laws_heldIntS_B0 {R : Type} : AS → (Ex → AS → Option R) → Option R := fun A K => ev laws_heldIntS_E laws_heldIntS_T 0 (cA (cA (cB (cA (cB laws_heldIntS_b))))) A K
noncomputable def laws_heldIntS_K0  (x0 : List Int) (x1 : Int) : Ex → AS → Option (RsD [.own tI] × PsO [.ro tIs, .ro tI]) := kBlk 0 (kSeq (fun A K => ev laws_heldIntS_E laws_heldIntS_T 1000 (cB (cB laws_heldIntS_b)) A K) (laws_heldIntS_Ke x0 x1))
noncomputable def laws_heldIntS_x0_0 (d0 : Int) (d1 : Int) : AS := ⟨[(1, .v (.one (.d true tI d0))), (4, .v (.one (.d true tI d1)))], []⟩
noncomputable def laws_heldIntS_x0_1 (d0 : Int) : AS := ⟨[(1, .v (.one (.d true tI d0)))], []⟩
theorem laws_heldIntS_l0 {R : Type} {K : Ex → AS → Option R} {s : laws_heldIntS_t0.D} (n : Nat) {v : Option R} (h : iterG laws_heldIntS_t0 laws_heldIntS_B0 K n s = v) (hv : ∃ r, v = some r) : loopG laws_heldIntS_t0 laws_heldIntS_B0 K s = v := loop_eq (ev_mono _ _) n h hv
theorem laws_heldIntS_main (x0 : List Int) (x1 : Int) : laws_heldIntS_F (x0, (x1, ())) =
 loopG laws_heldIntS_t0 laws_heldIntS_B0 (laws_heldIntS_K0 x0 x1) ((x0, (x1, ((0 : Int), ()))), ()) := by kernel_rfl
theorem laws_heldIntS_r0 {R : Type} (K : Ex → AS → Option R) (n : Nat) (t0 : List Int) (t1 : Int) (t5 : Int) : iterG laws_heldIntS_t0 laws_heldIntS_B0 K (n + 1) ((t0, (t1, (t5, ()))), ()) =
 brk (decide (t5 < (t0.length : Int)))
 (ck (decide (0 ≤ t5) && decide (t5 < t0.length)) (brk (!decide (rdD tI t0 t5 = t1))
 (K .ret (laws_heldIntS_x0_0 t1 (-1 : Int)))
 (iterG laws_heldIntS_t0 laws_heldIntS_B0 K n ((t0, (IntKind.i64.wrap (t1 + (1 : Int)), (IntKind.i64.wrap (t5 + (1 : Int)), ()))), ()))))
 (K (.exit 0) (laws_heldIntS_x0_1 t1)) := by kernel_rfl
theorem laws_heldIntS_e0_0 (x0 : List Int) (x1 : Int) (d0 : Int) (d1 : Int) : laws_heldIntS_K0 x0 x1 .ret (laws_heldIntS_x0_0 d0 d1) =
 some ((d1, ()), ((), ((), ()))) := by kernel_rfl
theorem laws_heldIntS_e0_1 (x0 : List Int) (x1 : Int) (d0 : Int) : laws_heldIntS_K0 x0 x1 (.exit 0) (laws_heldIntS_x0_1 d0) =
 some ((d0, ()), ((), ((), ()))) := by kernel_rfl
/-! laws.heldMsgS -/
noncomputable def laws_heldMsgS_b : Code := bd Try.f29
@[reducible] def laws_heldMsgS_t0 : Tm := ⟨[], [], [(0, .sc true tMsgs), (1, .sc true tI), (5, .sc true tI)], [], [1, 4], []⟩
def laws_heldMsgS_T : List (Nat × Tm) := [(0, laws_heldMsgS_t0)]
noncomputable def laws_heldMsgS_E : Env := ⟨tt0, [(74, laws_heldIntS_C)]⟩
noncomputable def laws_heldMsgS_F : PsD [.ro tMsgs, .ro tI] → Option (RsD [.own tI] × PsO [.ro tMsgs, .ro tI]) := fun x => evFn laws_heldMsgS_E laws_heldMsgS_T Try.f29 laws_heldMsgS_b [.ro tMsgs, .ro tI] [.own tI] x
@[reducible] noncomputable def laws_heldMsgS_C : Ct := ⟨[.ro tMsgs, .ro tI], [.own tI], laws_heldMsgS_F⟩
theorem laws_heldMsgS_h (x : PsD [.ro tMsgs, .ro tI]) (y : RsD [.own tI] × PsO [.ro tMsgs, .ro tI]) (h : laws_heldMsgS_F x = some y) : evFn laws_heldMsgS_E laws_heldMsgS_T Try.f29 laws_heldMsgS_b [.ro tMsgs, .ro tI] [.own tI] x = some y := h
theorem laws_heldMsgS_c : ∀ f c, get laws_heldMsgS_E.ct f = some c → Sat Try.prog f c := ct_cons laws_heldIntS_S (ct_nil)
theorem laws_heldMsgS_S : Sat Try.prog 29 laws_heldMsgS_C := fn_ok2 (envOk _) laws_heldMsgS_c mixedOk Try.func29 (by kernel_rfl : Try.f29.body = some laws_heldMsgS_b) (by kernel_rfl) (by kernel_rfl) laws_heldMsgS_h
noncomputable def laws_heldMsgS_Ke  (x0 : List (Int × Int × Int × Int × List Int × Unit)) (x1 : Int) : Ex → AS → Option (RsD [.own tI] × PsO [.ro tMsgs, .ro tI]) := endK laws_heldMsgS_E Try.f29 [.ro tMsgs, .ro tI] [.own tI] (initL [.ro tMsgs, .ro tI] (x0, (x1, ())) 0).1
noncomputable def laws_heldMsgS_B0 {R : Type} : AS → (Ex → AS → Option R) → Option R := fun A K => ev laws_heldMsgS_E laws_heldMsgS_T 0 (cA (cA (cB (cA (cB laws_heldMsgS_b))))) A K
noncomputable def laws_heldMsgS_K0  (x0 : List (Int × Int × Int × Int × List Int × Unit)) (x1 : Int) : Ex → AS → Option (RsD [.own tI] × PsO [.ro tMsgs, .ro tI]) := kBlk 0 (kSeq (fun A K => ev laws_heldMsgS_E laws_heldMsgS_T 1000 (cB (cB laws_heldMsgS_b)) A K) (laws_heldMsgS_Ke x0 x1))
noncomputable def laws_heldMsgS_x0_0 (d0 : Int) (d1 : Int) : AS := ⟨[(1, .v (.one (.d true tI d0))), (4, .v (.one (.d true tI d1)))], []⟩
noncomputable def laws_heldMsgS_x0_1 (d0 : Int) : AS := ⟨[(1, .v (.one (.d true tI d0)))], []⟩
theorem laws_heldMsgS_l0 {R : Type} {K : Ex → AS → Option R} {s : laws_heldMsgS_t0.D} (n : Nat) {v : Option R} (h : iterG laws_heldMsgS_t0 laws_heldMsgS_B0 K n s = v) (hv : ∃ r, v = some r) : loopG laws_heldMsgS_t0 laws_heldMsgS_B0 K s = v := loop_eq (ev_mono _ _) n h hv
theorem laws_heldMsgS_main (x0 : List (Int × Int × Int × Int × List Int × Unit)) (x1 : Int) : laws_heldMsgS_F (x0, (x1, ())) =
 loopG laws_heldMsgS_t0 laws_heldMsgS_B0 (laws_heldMsgS_K0 x0 x1) ((x0, (x1, ((0 : Int), ()))), ()) := by kernel_rfl
theorem laws_heldMsgS_r0 {R : Type} (K : Ex → AS → Option R) (n : Nat) (t0 : List (Int × Int × Int × Int × List Int × Unit)) (t1 : Int) (t5 : Int) : iterG laws_heldMsgS_t0 laws_heldMsgS_B0 K (n + 1) ((t0, (t1, (t5, ()))), ()) =
 brk (decide (t5 < (t0.length : Int)))
 (ck (decide (0 ≤ t5) && decide (t5 < t0.length)) (brk (!decide ((rdD tMsg t0 t5).1 = t1))
 (K .ret (laws_heldMsgS_x0_0 t1 (-1 : Int)))
 (ck (decide (0 ≤ t5) && decide (t5 < t0.length)) (brk (!decide (((rdD tMsg t0 t5).2).1 = IntKind.i64.wrap (t1 + (1 : Int))))
 (K .ret (laws_heldMsgS_x0_0 (IntKind.i64.wrap (t1 + (1 : Int))) (-1 : Int)))
 (ck (decide (0 ≤ t5) && decide (t5 < t0.length)) (brk (!decide ((((rdD tMsg t0 t5).2).2).1 = IntKind.i64.wrap ((IntKind.i64.wrap (t1 + (1 : Int))) + (1 : Int))))
 (K .ret (laws_heldMsgS_x0_0 (IntKind.i64.wrap ((IntKind.i64.wrap (t1 + (1 : Int))) + (1 : Int))) (-1 : Int)))
 (ck (decide (0 ≤ t5) && decide (t5 < t0.length)) (brk (!decide (((((rdD tMsg t0 t5).2).2).2).1 = IntKind.i64.wrap ((IntKind.i64.wrap ((IntKind.i64.wrap (t1 + (1 : Int))) + (1 : Int))) + (1 : Int))))
 (K .ret (laws_heldMsgS_x0_0 (IntKind.i64.wrap ((IntKind.i64.wrap ((IntKind.i64.wrap (t1 + (1 : Int))) + (1 : Int))) + (1 : Int))) (-1 : Int)))
 (ck (decide (0 ≤ t5) && decide (t5 < t0.length)) ((laws_heldIntS_F ((((((rdD tMsg t0 t5).2).2).2).2).1, (IntKind.i64.wrap ((IntKind.i64.wrap ((IntKind.i64.wrap ((IntKind.i64.wrap (t1 + (1 : Int))) + (1 : Int))) + (1 : Int))) + (1 : Int)), ()))).bind fun y54 =>
 brk (decide (y54.1.1 < (0 : Int)))
 (K .ret (laws_heldMsgS_x0_0 y54.1.1 (-1 : Int)))
 (iterG laws_heldMsgS_t0 laws_heldMsgS_B0 K n ((t0, (y54.1.1, (IntKind.i64.wrap (t5 + (1 : Int)), ()))), ()))))))))))))
 (K (.exit 0) (laws_heldMsgS_x0_1 t1)) := by kernel_rfl
theorem laws_heldMsgS_e0_0 (x0 : List (Int × Int × Int × Int × List Int × Unit)) (x1 : Int) (d0 : Int) (d1 : Int) : laws_heldMsgS_K0 x0 x1 .ret (laws_heldMsgS_x0_0 d0 d1) =
 some ((d1, ()), ((), ((), ()))) := by kernel_rfl
theorem laws_heldMsgS_e0_1 (x0 : List (Int × Int × Int × Int × List Int × Unit)) (x1 : Int) (d0 : Int) : laws_heldMsgS_K0 x0 x1 (.exit 0) (laws_heldMsgS_x0_1 d0) =
 some ((d0, ()), ((), ((), ()))) := by kernel_rfl
/-! laws.FnExactUnpack -/
noncomputable def laws_FnExactUnpack_b : Code := bd Try.f4
def laws_FnExactUnpack_T : List (Nat × Tm) := []
noncomputable def laws_FnExactUnpack_E : Env := ⟨tt0, [(22, spec_Unpack_C), (23, laws_toByteS_C), (24, impl_Unpack_C), (25, laws_eqMsgS_C), (26, laws_eqByteS_C), (27, laws_markByteS_C), (28, laws_markMsgS_C), (29, laws_heldMsgS_C)]⟩
noncomputable def laws_FnExactUnpack_F : PsD [.ro tYs] → Option (RsD [.own tB] × PsO [.ro tYs]) := fun x => evFn laws_FnExactUnpack_E laws_FnExactUnpack_T Try.f4 laws_FnExactUnpack_b [.ro tYs] [.own tB] x
@[reducible] noncomputable def laws_FnExactUnpack_C : Ct := ⟨[.ro tYs], [.own tB], laws_FnExactUnpack_F⟩
theorem laws_FnExactUnpack_h (x : PsD [.ro tYs]) (y : RsD [.own tB] × PsO [.ro tYs]) (h : laws_FnExactUnpack_F x = some y) : evFn laws_FnExactUnpack_E laws_FnExactUnpack_T Try.f4 laws_FnExactUnpack_b [.ro tYs] [.own tB] x = some y := h
theorem laws_FnExactUnpack_c : ∀ f c, get laws_FnExactUnpack_E.ct f = some c → Sat Try.prog f c := ct_cons spec_Unpack_S (ct_cons laws_toByteS_S (ct_cons impl_Unpack_S (ct_cons laws_eqMsgS_S (ct_cons laws_eqByteS_S (ct_cons laws_markByteS_S (ct_cons laws_markMsgS_S (ct_cons laws_heldMsgS_S (ct_nil))))))))
theorem laws_FnExactUnpack_S : Sat Try.prog 4 laws_FnExactUnpack_C := fn_ok2 (envOk _) laws_FnExactUnpack_c mixedOk Try.func4 (by kernel_rfl : Try.f4.body = some laws_FnExactUnpack_b) (by kernel_rfl) (by kernel_rfl) laws_FnExactUnpack_h
noncomputable def laws_FnExactUnpack_Ke  (x0 : List Int) : Ex → AS → Option (RsD [.own tB] × PsO [.ro tYs]) := endK laws_FnExactUnpack_E Try.f4 [.ro tYs] [.own tB] (initL [.ro tYs] (x0, ()) 0).1
theorem laws_FnExactUnpack_main (x0 : List Int) : laws_FnExactUnpack_F (x0, ()) =
 brk (decide ((1048576 : Int) < (x0.length : Int)))
 (some ((true, ()), ((), ())))
 ((laws_toByteS_F (x0, ())).bind fun y18 =>
 (spec_Unpack_F (y18.1.1, ())).bind fun y19 =>
 (laws_toByteS_F (x0, ())).bind fun y23 =>
 (impl_Unpack_F (y23.1.1, ())).bind fun y26 =>
 (laws_eqMsgS_F (y26.1.1, (y19.1.1, ()))).bind fun y31 =>
 brk (!y31.1.1)
 (some ((false, ()), ((), ())))
 (brk (!(y26.1.2.1 == y19.1.2.1))
 (some ((false, ()), ((), ())))
 ((laws_toByteS_F (x0, ())).bind fun y40 =>
 (laws_eqByteS_F (y23.1.1, (y40.1.1, ()))).bind fun y41 =>
 brk (!y41.1.1)
 (some ((false, ()), ((), ())))
 ((laws_markByteS_F (y23.1.1, ((1 : Int), ()))).bind fun y45 =>
 brk (decide (y45.1.1 < (0 : Int)))
 (some ((false, ()), ((), ())))
 ((laws_eqMsgS_F (y26.1.1, (y19.1.1, ()))).bind fun y51 =>
 brk (!y51.1.1)
 (some ((false, ()), ((), ())))
 (brk (!(y26.1.2.1 == y19.1.2.1))
 (some ((false, ()), ((), ())))
 ((laws_markMsgS_F (y26.1.1, ((1 : Int), ()))).bind fun y61 =>
 (laws_heldMsgS_F (y61.2.1, ((1 : Int), ()))).bind fun y64 =>
 brk (decide (y64.1.1 < (0 : Int)))
 (some ((false, ()), ((), ())))
 (brk (!decide (y64.1.1 = y61.1.1))
 (some ((false, ()), ((), ())))
 ((laws_toByteS_F (x0, ())).bind fun y72 =>
 (impl_Unpack_F (y72.1.1, ())).bind fun y73 =>
 (laws_eqMsgS_F (y73.1.1, (y19.1.1, ()))).bind fun y78 =>
 brk (!y78.1.1)
 (some ((false, ()), ((), ())))
 (brk (!(y73.1.2.1 == y19.1.2.1))
 (some ((false, ()), ((), ())))
 ((laws_heldMsgS_F (y61.2.1, ((1 : Int), ()))).bind fun y87 =>
 brk (decide (y87.1.1 < (0 : Int)))
 (some ((false, ()), ((), ())))
 (brk (!decide (y87.1.1 = y61.1.1))
 (some ((false, ()), ((), ())))
 (some ((true, ()), ((), ()))))))))))))))) := by kernel_rfl
end Go.Refl
