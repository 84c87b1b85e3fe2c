/- Functions of the program, told by the evaluator: printed by a program of this claim. No condition. -/
import Derived.Test.YtfikbjbijpbdkaaFnExactMetaNewGt
namespace Go.Refl
open Go.RowKit Go.Proofs
set_option linter.unusedVariables false
set_option maxRecDepth 100000
/-! spec.l1In -/
noncomputable def spec_l1In_b : Code := bd Try.f101
def spec_l1In_T : List (Nat × Tm) := []
noncomputable def spec_l1In_E : Env := ⟨tt0, []⟩
noncomputable def spec_l1In_F : PsD [.ro tI, .ro tI, .ro tI] → Option (RsD [.own tB] × PsO [.ro tI, .ro tI, .ro tI]) := fun x => evFn spec_l1In_E spec_l1In_T Try.f101 spec_l1In_b [.ro tI, .ro tI, .ro tI] [.own tB] x
@[reducible] noncomputable def spec_l1In_C : Ct := ⟨[.ro tI, .ro tI, .ro tI], [.own tB], spec_l1In_F⟩
theorem spec_l1In_h (x : PsD [.ro tI, .ro tI, .ro tI]) (y : RsD [.own tB] × PsO [.ro tI, .ro tI, .ro tI]) (h : spec_l1In_F x = some y) : evFn spec_l1In_E spec_l1In_T Try.f101 spec_l1In_b [.ro tI, .ro tI, .ro tI] [.own tB] x = some y := h
theorem spec_l1In_c : ∀ f c, get spec_l1In_E.ct f = some c → Sat Try.prog f c := ct_nil
theorem spec_l1In_S : Sat Try.prog 101 spec_l1In_C := fn_ok2 (envOk _) spec_l1In_c mixedOk Try.func101 (by kernel_rfl : Try.f101.body = some spec_l1In_b) (by kernel_rfl) (by kernel_rfl) spec_l1In_h
noncomputable def spec_l1In_Ke  (x0 : Int) (x1 : Int) (x2 : Int) : Ex → AS → Option (RsD [.own tB] × PsO [.ro tI, .ro tI, .ro tI]) := endK spec_l1In_E Try.f101 [.ro tI, .ro tI, .ro tI] [.own tB] (initL [.ro tI, .ro tI, .ro tI] (x0, (x1, (x2, ()))) 0).1
theorem spec_l1In_main (x0 : Int) (x1 : Int) (x2 : Int) : spec_l1In_F (x0, (x1, (x2, ()))) =
 brk (decide (x1 ≤ x0))
 (some ((decide (x0 ≤ x2), ()), ((), ((), ((), ())))))
 (some ((false, ()), ((), ((), ((), ()))))) := by kernel_rfl
/-! spec.MarksOk -/
noncomputable def spec_MarksOk_b : Code := bd Try.f93
@[reducible] def spec_MarksOk_t0 : Tm := ⟨[], [], [(0, .sc true tIs), (3, .sc true tI)], [], [2], []⟩
def spec_MarksOk_T : List (Nat × Tm) := [(0, spec_MarksOk_t0)]
noncomputable def spec_MarksOk_E : Env := ⟨tt0, [(101, spec_l1In_C)]⟩
noncomputable def spec_MarksOk_F : PsD [.ro tIs] → Option (RsD [.own tB] × PsO [.ro tIs]) := fun x => evFn spec_MarksOk_E spec_MarksOk_T Try.f93 spec_MarksOk_b [.ro tIs] [.own tB] x
@[reducible] noncomputable def spec_MarksOk_C : Ct := ⟨[.ro tIs], [.own tB], spec_MarksOk_F⟩
theorem spec_MarksOk_h (x : PsD [.ro tIs]) (y : RsD [.own tB] × PsO [.ro tIs]) (h : spec_MarksOk_F x = some y) : evFn spec_MarksOk_E spec_MarksOk_T Try.f93 spec_MarksOk_b [.ro tIs] [.own tB] x = some y := h
theorem spec_MarksOk_c : ∀ f c, get spec_MarksOk_E.ct f = some c → Sat Try.prog f c := ct_cons spec_l1In_S (ct_nil)
theorem spec_MarksOk_S : Sat Try.prog 93 spec_MarksOk_C := fn_ok2 (envOk _) spec_MarksOk_c mixedOk Try.func93 (by kernel_rfl : Try.f93.body = some spec_MarksOk_b) (by kernel_rfl) (by kernel_rfl) spec_MarksOk_h
noncomputable def spec_MarksOk_Ke  (x0 : List Int) : Ex → AS → Option (RsD [.own tB] × PsO [.ro tIs]) := endK spec_MarksOk_E Try.f93 [.ro tIs] [.own tB] (initL [.ro tIs] (x0, ()) 0).1
noncomputable def spec_MarksOk_B0 {R : Type} : AS → (Ex → AS → Option R) → Option R := fun A K => ev spec_MarksOk_E spec_MarksOk_T 0 (cA (cA (cB (cA (cB spec_MarksOk_b))))) A K
noncomputable def spec_MarksOk_K0  (x0 : List Int) : Ex → AS → Option (RsD [.own tB] × PsO [.ro tIs]) := kBlk 0 (kSeq (fun A K => ev spec_MarksOk_E spec_MarksOk_T 1000 (cB (cB spec_MarksOk_b)) A K) (spec_MarksOk_Ke x0))
noncomputable def spec_MarksOk_x0_0 (d0 : Bool) : AS := ⟨[(2, .v (.one (.d true tB d0)))], []⟩
noncomputable def spec_MarksOk_x0_1 : AS := ⟨[], []⟩
theorem spec_MarksOk_l0 {R : Type} {K : Ex → AS → Option R} {s : spec_MarksOk_t0.D} (n : Nat) {v : Option R} (h : iterG spec_MarksOk_t0 spec_MarksOk_B0 K n s = v) (hv : ∃ r, v = some r) : loopG spec_MarksOk_t0 spec_MarksOk_B0 K s = v := loop_eq (ev_mono _ _) n h hv
theorem spec_MarksOk_main (x0 : List Int) : spec_MarksOk_F (x0, ()) =
 loopG spec_MarksOk_t0 spec_MarksOk_B0 (spec_MarksOk_K0 x0) ((x0, ((0 : Int), ())), ()) := by kernel_rfl
theorem spec_MarksOk_r0 {R : Type} (K : Ex → AS → Option R) (n : Nat) (t0 : List Int) (t3 : Int) : iterG spec_MarksOk_t0 spec_MarksOk_B0 K (n + 1) ((t0, (t3, ())), ()) =
 brk (decide (t3 < (t0.length : Int)))
 (ck (decide (0 ≤ t3) && decide (t3 < t0.length)) ((spec_l1In_F (rdD tI t0 t3, ((0 : Int), ((7 : Int), ())))).bind fun y14 =>
 brk (!y14.1.1)
 (K .ret (spec_MarksOk_x0_0 false))
 (brk (decide ((0 : Int) < t3))
 (ck (decide (0 ≤ IntKind.i64.wrap (t3 - (1 : Int))) && decide (IntKind.i64.wrap (t3 - (1 : Int)) < t0.length)) (ck (decide (0 ≤ t3) && decide (t3 < t0.length)) (brk (decide (rdD tI t0 t3 ≤ rdD tI t0 (IntKind.i64.wrap (t3 - (1 : Int)))))
 (K .ret (spec_MarksOk_x0_0 false))
 (iterG spec_MarksOk_t0 spec_MarksOk_B0 K n ((t0, (IntKind.i64.wrap (t3 + (1 : Int)), ())), ())))))
 (iterG spec_MarksOk_t0 spec_MarksOk_B0 K n ((t0, (IntKind.i64.wrap (t3 + (1 : Int)), ())), ())))))
 (K (.exit 0) (spec_MarksOk_x0_1)) := by kernel_rfl
theorem spec_MarksOk_e0_0 (x0 : List Int) (d0 : Bool) : spec_MarksOk_K0 x0 .ret (spec_MarksOk_x0_0 d0) =
 some ((d0, ()), ((), ())) := by kernel_rfl
theorem spec_MarksOk_e0_1 (x0 : List Int) : spec_MarksOk_K0 x0 (.exit 0) (spec_MarksOk_x0_1) =
 some ((true, ()), ((), ())) := by kernel_rfl
/-! spec.l2Has -/
noncomputable def spec_l2Has_b : Code := bd Try.f107
@[reducible] def spec_l2Has_t0 : Tm := ⟨[], [], [(0, .sc true tIs), (1, .sc true tI), (5, .sc true tI)], [], [4], []⟩
def spec_l2Has_T : List (Nat × Tm) := [(0, spec_l2Has_t0)]
noncomputable def spec_l2Has_E : Env := ⟨tt0, []⟩
noncomputable def spec_l2Has_F : PsD [.ro tIs, .ro tI] → Option (RsD [.own tB] × PsO [.ro tIs, .ro tI]) := fun x => evFn spec_l2Has_E spec_l2Has_T Try.f107 spec_l2Has_b [.ro tIs, .ro tI] [.own tB] x
@[reducible] noncomputable def spec_l2Has_C : Ct := ⟨[.ro tIs, .ro tI], [.own tB], spec_l2Has_F⟩
theorem spec_l2Has_h (x : PsD [.ro tIs, .ro tI]) (y : RsD [.own tB] × PsO [.ro tIs, .ro tI]) (h : spec_l2Has_F x = some y) : evFn spec_l2Has_E spec_l2Has_T Try.f107 spec_l2Has_b [.ro tIs, .ro tI] [.own tB] x = some y := h
theorem spec_l2Has_c : ∀ f c, get spec_l2Has_E.ct f = some c → Sat Try.prog f c := ct_nil
theorem spec_l2Has_S : Sat Try.prog 107 spec_l2Has_C := fn_ok2 (envOk _) spec_l2Has_c mixedOk Try.func107 (by kernel_rfl : Try.f107.body = some spec_l2Has_b) (by kernel_rfl) (by kernel_rfl) spec_l2Has_h
noncomputable def spec_l2Has_Ke  (x0 : List Int) (x1 : Int) : Ex → AS → Option (RsD [.own tB] × PsO [.ro tIs, .ro tI]) := endK spec_l2Has_E Try.f107 [.ro tIs, .ro tI] [.own tB] (initL [.ro tIs, .ro tI] (x0, (x1, ())) 0).1
noncomputable def spec_l2Has_B0 {R : Type} : AS → (Ex → AS → Option R) → Option R := fun A K => ev spec_l2Has_E spec_l2Has_T 0 (cA (cA (cB (cA (cB spec_l2Has_b))))) A K
noncomputable def spec_l2Has_K0  (x0 : List Int) (x1 : Int) : Ex → AS → Option (RsD [.own tB] × PsO [.ro tIs, .ro tI]) := kBlk 0 (kSeq (fun A K => ev spec_l2Has_E spec_l2Has_T 1000 (cB (cB spec_l2Has_b)) A K) (spec_l2Has_Ke x0 x1))
noncomputable def spec_l2Has_x0_0 (d0 : Bool) : AS := ⟨[(4, .v (.one (.d true tB d0)))], []⟩
noncomputable def spec_l2Has_x0_1 : AS := ⟨[], []⟩
theorem spec_l2Has_l0 {R : Type} {K : Ex → AS → Option R} {s : spec_l2Has_t0.D} (n : Nat) {v : Option R} (h : iterG spec_l2Has_t0 spec_l2Has_B0 K n s = v) (hv : ∃ r, v = some r) : loopG spec_l2Has_t0 spec_l2Has_B0 K s = v := loop_eq (ev_mono _ _) n h hv
theorem spec_l2Has_main (x0 : List Int) (x1 : Int) : spec_l2Has_F (x0, (x1, ())) =
 loopG spec_l2Has_t0 spec_l2Has_B0 (spec_l2Has_K0 x0 x1) ((x0, (x1, ((0 : Int), ()))), ()) := by kernel_rfl
theorem spec_l2Has_r0 {R : Type} (K : Ex → AS → Option R) (n : Nat) (t0 : List Int) (t1 : Int) (t5 : Int) : iterG spec_l2Has_t0 spec_l2Has_B0 K (n + 1) ((t0, (t1, (t5, ()))), ()) =
 brk (decide (t5 < (t0.length : Int)))
 (ck (decide (0 ≤ t5) && decide (t5 < t0.length)) (brk (decide (rdD tI t0 t5 = t1))
 (K .ret (spec_l2Has_x0_0 true))
 (iterG spec_l2Has_t0 spec_l2Has_B0 K n ((t0, (t1, (IntKind.i64.wrap (t5 + (1 : Int)), ()))), ()))))
 (K (.exit 0) (spec_l2Has_x0_1)) := by kernel_rfl
theorem spec_l2Has_e0_0 (x0 : List Int) (x1 : Int) (d0 : Bool) : spec_l2Has_K0 x0 x1 .ret (spec_l2Has_x0_0 d0) =
 some ((d0, ()), ((), ((), ()))) := by kernel_rfl
theorem spec_l2Has_e0_1 (x0 : List Int) (x1 : Int) : spec_l2Has_K0 x0 x1 (.exit 0) (spec_l2Has_x0_1) =
 some ((false, ()), ((), ((), ()))) := by kernel_rfl
/-! spec.GensOk -/
noncomputable def spec_GensOk_b : Code := bd Try.f142
@[reducible] def spec_GensOk_t0 : Tm := ⟨[], [], [(0, .sc true tIs), (3, .sc true tI)], [], [0, 2], []⟩
def spec_GensOk_T : List (Nat × Tm) := [(0, spec_GensOk_t0)]
noncomputable def spec_GensOk_E : Env := ⟨tt0, [(101, spec_l1In_C), (107, spec_l2Has_C)]⟩
noncomputable def spec_GensOk_F : PsD [.ro tIs] → Option (RsD [.own tB] × PsO [.ro tIs]) := fun x => evFn spec_GensOk_E spec_GensOk_T Try.f142 spec_GensOk_b [.ro tIs] [.own tB] x
@[reducible] noncomputable def spec_GensOk_C : Ct := ⟨[.ro tIs], [.own tB], spec_GensOk_F⟩
theorem spec_GensOk_h (x : PsD [.ro tIs]) (y : RsD [.own tB] × PsO [.ro tIs]) (h : spec_GensOk_F x = some y) : evFn spec_GensOk_E spec_GensOk_T Try.f142 spec_GensOk_b [.ro tIs] [.own tB] x = some y := h
theorem spec_GensOk_c : ∀ f c, get spec_GensOk_E.ct f = some c → Sat Try.prog f c := ct_cons spec_l1In_S (ct_cons spec_l2Has_S (ct_nil))
theorem spec_GensOk_S : Sat Try.prog 142 spec_GensOk_C := fn_ok2 (envOk _) spec_GensOk_c mixedOk Try.func142 (by kernel_rfl : Try.f142.body = some spec_GensOk_b) (by kernel_rfl) (by kernel_rfl) spec_GensOk_h
noncomputable def spec_GensOk_Ke  (x0 : List Int) : Ex → AS → Option (RsD [.own tB] × PsO [.ro tIs]) := endK spec_GensOk_E Try.f142 [.ro tIs] [.own tB] (initL [.ro tIs] (x0, ()) 0).1
noncomputable def spec_GensOk_B0 {R : Type} : AS → (Ex → AS → Option R) → Option R := fun A K => ev spec_GensOk_E spec_GensOk_T 0 (cA (cA (cB (cA (cB spec_GensOk_b))))) A K
noncomputable def spec_GensOk_K0  (x0 : List Int) : Ex → AS → Option (RsD [.own tB] × PsO [.ro tIs]) := kBlk 0 (kSeq (fun A K => ev spec_GensOk_E spec_GensOk_T 1000 (cB (cB spec_GensOk_b)) A K) (spec_GensOk_Ke x0))
noncomputable def spec_GensOk_x0_0 (d0 : List Int) (d1 : Bool) : AS := ⟨[(0, .v (.one (.d true tIs d0))), (2, .v (.one (.d true tB d1)))], []⟩
noncomputable def spec_GensOk_x0_1 (d0 : List Int) : AS := ⟨[(0, .v (.one (.d true tIs d0)))], []⟩
theorem spec_GensOk_l0 {R : Type} {K : Ex → AS → Option R} {s : spec_GensOk_t0.D} (n : Nat) {v : Option R} (h : iterG spec_GensOk_t0 spec_GensOk_B0 K n s = v) (hv : ∃ r, v = some r) : loopG spec_GensOk_t0 spec_GensOk_B0 K s = v := loop_eq (ev_mono _ _) n h hv
theorem spec_GensOk_main (x0 : List Int) : spec_GensOk_F (x0, ()) =
 loopG spec_GensOk_t0 spec_GensOk_B0 (spec_GensOk_K0 x0) ((x0, ((0 : Int), ())), ()) := by kernel_rfl
theorem spec_GensOk_r0 {R : Type} (K : Ex → AS → Option R) (n : Nat) (t0 : List Int) (t3 : Int) : iterG spec_GensOk_t0 spec_GensOk_B0 K (n + 1) ((t0, (t3, ())), ()) =
 brk (decide (t3 < (t0.length : Int)))
 (ck (decide (0 ≤ t3) && decide (t3 < t0.length)) ((spec_l1In_F (rdD tI t0 t3, ((1 : Int), ((100000 : Int), ())))).bind fun y14 =>
 brk (!y14.1.1)
 (K .ret (spec_GensOk_x0_0 t0 false))
 (ck (decide (0 ≤ (0 : Int)) && decide ((0 : Int) ≤ t3) && decide (t3 ≤ t0.length)) (ck (decide (0 ≤ t3) && decide (t3 < t0.length)) ((spec_l2Has_F ((t0.take t3.toNat).drop (0 : Int).toNat, (rdD tI t0 t3, ()))).bind fun y24 =>
 brk y24.1.1
 (K .ret (spec_GensOk_x0_0 t0 false))
 (iterG spec_GensOk_t0 spec_GensOk_B0 K n ((t0, (IntKind.i64.wrap (t3 + (1 : Int)), ())), ())))))))
 (K (.exit 0) (spec_GensOk_x0_1 t0)) := by kernel_rfl
theorem spec_GensOk_e0_0 (x0 : List Int) (d0 : List Int) (d1 : Bool) : spec_GensOk_K0 x0 .ret (spec_GensOk_x0_0 d0 d1) =
 some ((d1, ()), ((), ())) := by kernel_rfl
theorem spec_GensOk_e0_1 (x0 : List Int) (d0 : List Int) : spec_GensOk_K0 x0 (.exit 0) (spec_GensOk_x0_1 d0) =
 some ((decide ((d0.length : Int) ≤ (12 : Int)), ()), ((), ())) := by kernel_rfl
/-! spec.MetaOk -/
noncomputable def spec_MetaOk_b : Code := bd Try.f102
@[reducible] def spec_MetaOk_t0 : Tm := ⟨[], [], [(1, .ptr 16 0), (3, .sc true tI)], [(16, .box [.sc true tIs, .sc true tIss, .sc true tB, .sc true tB, .sc true tB, .sc true tI])], [1, 2, 22, 23, 24, 25, 28, 29, 30, 31, 34, 35, 36, 39, 40, 41, 42, 43, 44, 45], [16]⟩
def spec_MetaOk_T : List (Nat × Tm) := [(0, spec_MetaOk_t0)]
noncomputable def spec_MetaOk_E : Env := ⟨tt0, [(93, spec_MarksOk_C), (101, spec_l1In_C), (142, spec_GensOk_C)]⟩
noncomputable def spec_MetaOk_F : PsD [.ro tMeta] → Option (RsD [.own tB] × PsO [.ro tMeta]) := fun x => evFn spec_MetaOk_E spec_MetaOk_T Try.f102 spec_MetaOk_b [.ro tMeta] [.own tB] x
@[reducible] noncomputable def spec_MetaOk_C : Ct := ⟨[.ro tMeta], [.own tB], spec_MetaOk_F⟩
theorem spec_MetaOk_h (x : PsD [.ro tMeta]) (y : RsD [.own tB] × PsO [.ro tMeta]) (h : spec_MetaOk_F x = some y) : evFn spec_MetaOk_E spec_MetaOk_T Try.f102 spec_MetaOk_b [.ro tMeta] [.own tB] x = some y := h
theorem spec_MetaOk_c : ∀ f c, get spec_MetaOk_E.ct f = some c → Sat Try.prog f c := ct_cons spec_MarksOk_S (ct_cons spec_l1In_S (ct_cons spec_GensOk_S (ct_nil)))
theorem spec_MetaOk_S : Sat Try.prog 102 spec_MetaOk_C := fn_ok2 (envOk _) spec_MetaOk_c mixedOk Try.func102 (by kernel_rfl : Try.f102.body = some spec_MetaOk_b) (by kernel_rfl) (by kernel_rfl) spec_MetaOk_h
noncomputable def spec_MetaOk_Ke  (x0 : List Int × List (List Int) × Bool × Bool × Bool × Int × Unit) : Ex → AS → Option (RsD [.own tB] × PsO [.ro tMeta]) := endK spec_MetaOk_E Try.f102 [.ro tMeta] [.own tB] (initL [.ro tMeta] (x0, ()) 0).1
noncomputable def spec_MetaOk_B0 {R : Type} : AS → (Ex → AS → Option R) → Option R := fun A K => ev spec_MetaOk_E spec_MetaOk_T 0 (cA (cA (cB (cA (cB spec_MetaOk_b))))) A K
noncomputable def spec_MetaOk_K0  (x0 : List Int × List (List Int) × Bool × Bool × Bool × Int × Unit) : Ex → AS → Option (RsD [.own tB] × PsO [.ro tMeta]) := kBlk 0 (kSeq (fun A K => ev spec_MetaOk_E spec_MetaOk_T 1000 (cB (cB spec_MetaOk_b)) A K) (spec_MetaOk_Ke x0))
noncomputable def spec_MetaOk_x0_0 (d0 : Bool) (d1 : List Int) (d2 : List (List Int)) (d3 : Bool) (d4 : Bool) (d5 : Bool) (d6 : Int) : AS := ⟨[(1, .v (.one (.bptr 16 0))), (2, .v (.one (.d true tB d0)))], [(16, .box [.d true tIs d1, .d true tIss d2, .d true tB d3, .d true tB d4, .d true tB d5, .d true tI d6])]⟩
noncomputable def spec_MetaOk_x0_1 (d0 : List Int) (d1 : List (List Int)) (d2 : Bool) (d3 : Bool) (d4 : Bool) (d5 : Int) : AS := ⟨[(1, .v (.one (.bptr 16 0)))], [(16, .box [.d true tIs d0, .d true tIss d1, .d true tB d2, .d true tB d3, .d true tB d4, .d true tI d5])]⟩
theorem spec_MetaOk_l0 {R : Type} {K : Ex → AS → Option R} {s : spec_MetaOk_t0.D} (n : Nat) {v : Option R} (h : iterG spec_MetaOk_t0 spec_MetaOk_B0 K n s = v) (hv : ∃ r, v = some r) : loopG spec_MetaOk_t0 spec_MetaOk_B0 K s = v := loop_eq (ev_mono _ _) n h hv
theorem spec_MetaOk_main (x0 : List Int × List (List Int) × Bool × Bool × Bool × Int × Unit) : spec_MetaOk_F (x0, ()) =
 loopG spec_MetaOk_t0 spec_MetaOk_B0 (spec_MetaOk_K0 x0) (((0 : Int), ()), ((x0.1, (x0.2.1, (x0.2.2.1, (x0.2.2.2.1, (x0.2.2.2.2.1, (x0.2.2.2.2.2.1, ())))))), ())) := by kernel_rfl
theorem spec_MetaOk_r0 {R : Type} (K : Ex → AS → Option R) (n : Nat) (t3 : Int) (b16_0 : List Int) (b16_1 : List (List Int)) (b16_2 : Bool) (b16_3 : Bool) (b16_4 : Bool) (b16_5 : Int) : iterG spec_MetaOk_t0 spec_MetaOk_B0 K (n + 1) ((t3, ()), ((b16_0, (b16_1, (b16_2, (b16_3, (b16_4, (b16_5, ())))))), ())) =
 brk (decide (t3 < (b16_1.length : Int)))
 (ck (decide (0 ≤ t3) && decide (t3 < b16_1.length)) ((spec_MarksOk_F (rdD tIs b16_1 t3, ())).bind fun y16 =>
 brk (!y16.1.1)
 (K .ret (spec_MetaOk_x0_0 false b16_0 b16_1 b16_2 b16_3 b16_4 b16_5))
 (iterG spec_MetaOk_t0 spec_MetaOk_B0 K n ((IntKind.i64.wrap (t3 + (1 : Int)), ()), ((b16_0, (b16_1, (b16_2, (b16_3, (b16_4, (b16_5, ())))))), ())))))
 (K (.exit 0) (spec_MetaOk_x0_1 b16_0 b16_1 b16_2 b16_3 b16_4 b16_5)) := by kernel_rfl
theorem spec_MetaOk_e0_0 (x0 : List Int × List (List Int) × Bool × Bool × Bool × Int × Unit) (d0 : Bool) (d1 : List Int) (d2 : List (List Int)) (d3 : Bool) (d4 : Bool) (d5 : Bool) (d6 : Int) : spec_MetaOk_K0 x0 .ret (spec_MetaOk_x0_0 d0 d1 d2 d3 d4 d5 d6) =
 some ((d0, ()), ((), ())) := by kernel_rfl
theorem spec_MetaOk_e0_1 (x0 : List Int × List (List Int) × Bool × Bool × Bool × Int × Unit) (d0 : List Int) (d1 : List (List Int)) (d2 : Bool) (d3 : Bool) (d4 : Bool) (d5 : Int) : spec_MetaOk_K0 x0 (.exit 0) (spec_MetaOk_x0_1 d0 d1 d2 d3 d4 d5) =
 (spec_GensOk_F (d0, ())).bind fun y20 =>
 brk y20.1.1
 (brk (decide ((0 : Int) < (d0.length : Int)))
 (brk (decide ((d1.length : Int) = (3 : Int)))
 ((spec_l1In_F (d5, ((0 : Int), ((200 : Int), ())))).bind fun y36 =>
 brk y36.1.1
 (brk d3
 (some ((!d4, ()), ((), ())))
 (some ((true, ()), ((), ()))))
 (some ((false, ()), ((), ()))))
 (some ((false, ()), ((), ()))))
 (some ((false, ()), ((), ()))))
 (some ((false, ()), ((), ()))) := by kernel_rfl
/-! spec.MetaNew -/
noncomputable def spec_MetaNew_b : Code := bd Try.f28
def spec_MetaNew_T : List (Nat × Tm) := []
noncomputable def spec_MetaNew_E : Env := ⟨tt0, [(102, spec_MetaOk_C)]⟩
noncomputable def spec_MetaNew_F : PsD [.ro tI] → Option (RsD [.own tMeta] × PsO [.ro tI]) := fun x => evFn spec_MetaNew_E spec_MetaNew_T Try.f28 spec_MetaNew_b [.ro tI] [.own tMeta] x
@[reducible] noncomputable def spec_MetaNew_C : Ct := ⟨[.ro tI], [.own tMeta], spec_MetaNew_F⟩
theorem spec_MetaNew_h (x : PsD [.ro tI]) (y : RsD [.own tMeta] × PsO [.ro tI]) (h : spec_MetaNew_F x = some y) : evFn spec_MetaNew_E spec_MetaNew_T Try.f28 spec_MetaNew_b [.ro tI] [.own tMeta] x = some y := h
theorem spec_MetaNew_c : ∀ f c, get spec_MetaNew_E.ct f = some c → Sat Try.prog f c := ct_cons spec_MetaOk_S (ct_nil)
theorem spec_MetaNew_S : Sat Try.prog 28 spec_MetaNew_C := fn_ok2 (envOk _) spec_MetaNew_c mixedOk Try.func28 (by kernel_rfl : Try.f28.body = some spec_MetaNew_b) (by kernel_rfl) (by kernel_rfl) spec_MetaNew_h
noncomputable def spec_MetaNew_Ke  (x0 : Int) : Ex → AS → Option (RsD [.own tMeta] × PsO [.ro tI]) := endK spec_MetaNew_E Try.f28 [.ro tI] [.own tMeta] (initL [.ro tI] (x0, ()) 0).1
theorem spec_MetaNew_main (x0 : Int) : spec_MetaNew_F (x0, ()) =
 ck (decide (0 ≤ (3 : Int)) && decide ((3 : Int) = (3 : Int)) && decide ((3 : Int) * (24 : Int) ≤ 140737488355328) && decide ((3 : Int) ≤ 140737488355328)) ((spec_MetaOk_F (([x0], (List.replicate (3 : Int).toNat tIs.zero, (true, (false, (false, ((0 : Int), ())))))), ())).bind fun y9 =>
 brk (!y9.1.1)
 (some (((([] : List Int), (([] : List (List Int)), (false, (false, (false, ((0 : Int), ())))))), ()), ((), ())))
 (some ((([x0], (List.replicate (3 : Int).toNat tIs.zero, (true, (false, (false, ((0 : Int), ())))))), ()), ((), ())))) := by kernel_rfl
/-! impl.from -/
noncomputable def impl_from_b : Code := bd Try.f114
def impl_from_T : List (Nat × Tm) := []
noncomputable def impl_from_E : Env := ⟨tt0, []⟩
noncomputable def impl_from_F : PsD [.ro tI, .ro tI, .ro tI] → Option (RsD [.own tB] × PsO [.ro tI, .ro tI, .ro tI]) := fun x => evFn impl_from_E impl_from_T Try.f114 impl_from_b [.ro tI, .ro tI, .ro tI] [.own tB] x
@[reducible] noncomputable def impl_from_C : Ct := ⟨[.ro tI, .ro tI, .ro tI], [.own tB], impl_from_F⟩
theorem impl_from_h (x : PsD [.ro tI, .ro tI, .ro tI]) (y : RsD [.own tB] × PsO [.ro tI, .ro tI, .ro tI]) (h : impl_from_F x = some y) : evFn impl_from_E impl_from_T Try.f114 impl_from_b [.ro tI, .ro tI, .ro tI] [.own tB] x = some y := h
theorem impl_from_c : ∀ f c, get impl_from_E.ct f = some c → Sat Try.prog f c := ct_nil
theorem impl_from_S : Sat Try.prog 114 impl_from_C := fn_ok2 (envOk _) impl_from_c mixedOk Try.func114 (by kernel_rfl : Try.f114.body = some impl_from_b) (by kernel_rfl) (by kernel_rfl) impl_from_h
noncomputable def impl_from_Ke  (x0 : Int) (x1 : Int) (x2 : Int) : Ex → AS → Option (RsD [.own tB] × PsO [.ro tI, .ro tI, .ro tI]) := endK impl_from_E Try.f114 [.ro tI, .ro tI, .ro tI] [.own tB] (initL [.ro tI, .ro tI, .ro tI] (x0, (x1, (x2, ()))) 0).1
theorem impl_from_main (x0 : Int) (x1 : Int) (x2 : Int) : impl_from_F (x0, (x1, (x2, ()))) =
 brk (decide (x1 ≤ x0))
 (some ((decide (x0 ≤ x2), ()), ((), ((), ((), ())))))
 (some ((false, ()), ((), ((), ((), ()))))) := by kernel_rfl
/-! slices.Index[[]int,int] -/
noncomputable def slices_Index_int_b : Code := bd Try.f155
@[reducible] def slices_Index_int_t0 : Tm := ⟨[], [], [(0, .sc true tIs), (1, .sc true tI), (7, .sc true tI), (8, .sc true tI)], [], [4], []⟩
def slices_Index_int_T : List (Nat × Tm) := [(0, slices_Index_int_t0)]
noncomputable def slices_Index_int_E : Env := ⟨tt0, []⟩
noncomputable def slices_Index_int_F : PsD [.ro tIs, .ro tI] → Option (RsD [.own tI] × PsO [.ro tIs, .ro tI]) := fun x => evFn slices_Index_int_E slices_Index_int_T Try.f155 slices_Index_int_b [.ro tIs, .ro tI] [.own tI] x
@[reducible] noncomputable def slices_Index_int_C : Ct := ⟨[.ro tIs, .ro tI], [.own tI], slices_Index_int_F⟩
theorem slices_Index_int_h (x : PsD [.ro tIs, .ro tI]) (y : RsD [.own tI] × PsO [.ro tIs, .ro tI]) (h : slices_Index_int_F x = some y) : evFn slices_Index_int_E slices_Index_int_T Try.f155 slices_Index_int_b [.ro tIs, .ro tI] [.own tI] x = some y := h
theorem slices_Index_int_c : ∀ f c, get slices_Index_int_E.ct f = some c → Sat Try.prog f c := ct_nil
theorem slices_Index_int_S : Sat Try.prog 155 slices_Index_int_C := fn_ok2 (envOk _) slices_Index_int_c mixedOk Try.func155 (by kernel_rfl : Try.f155.body = some slices_Index_int_b) (by kernel_rfl) (by kernel_rfl) slices_Index_int_h
noncomputable def slices_Index_int_Ke  (x0 : List Int) (x1 : Int) : Ex → AS → Option (RsD [.own tI] × PsO [.ro tIs, .ro tI]) := endK slices_Index_int_E Try.f155 [.ro tIs, .ro tI] [.own tI] (initL [.ro tIs, .ro tI] (x0, (x1, ())) 0).1
noncomputable def slices_Index_int_B0 {R : Type} : AS → (Ex → AS → Option R) → Option R := fun A K => ev slices_Index_int_E slices_Index_int_T 0 (cA (cA (cB (cA (cB slices_Index_int_b))))) A K
noncomputable def slices_Index_int_K0  (x0 : List Int) (x1 : Int) : Ex → AS → Option (RsD [.own tI] × PsO [.ro tIs, .ro tI]) := kBlk 0 (kSeq (fun A K => ev slices_Index_int_E slices_Index_int_T 1000 (cB (cB slices_Index_int_b)) A K) (slices_Index_int_Ke x0 x1))
noncomputable def slices_Index_int_x0_0 (d0 : Int) : AS := ⟨[(4, .v (.one (.d true tI d0)))], []⟩
noncomputable def slices_Index_int_x0_1 : AS := ⟨[], []⟩
theorem slices_Index_int_l0 {R : Type} {K : Ex → AS → Option R} {s : slices_Index_int_t0.D} (n : Nat) {v : Option R} (h : iterG slices_Index_int_t0 slices_Index_int_B0 K n s = v) (hv : ∃ r, v = some r) : loopG slices_Index_int_t0 slices_Index_int_B0 K s = v := loop_eq (ev_mono _ _) n h hv
theorem slices_Index_int_main (x0 : List Int) (x1 : Int) : slices_Index_int_F (x0, (x1, ())) =
 loopG slices_Index_int_t0 slices_Index_int_B0 (slices_Index_int_K0 x0 x1) ((x0, (x1, ((x0.length : Int), ((0 : Int), ())))), ()) := by kernel_rfl
theorem slices_Index_int_r0 {R : Type} (K : Ex → AS → Option R) (n : Nat) (t0 : List Int) (t1 : Int) (t7 : Int) (t8 : Int) : iterG slices_Index_int_t0 slices_Index_int_B0 K (n + 1) ((t0, (t1, (t7, (t8, ())))), ()) =
 brk (decide (t8 < t7))
 (ck (decide (0 ≤ t8) && decide (t8 < t0.length)) (brk (decide (t1 = rdD tI t0 t8))
 (K .ret (slices_Index_int_x0_0 t8))
 (iterG slices_Index_int_t0 slices_Index_int_B0 K n ((t0, (t1, (t7, (IntKind.i64.wrap (t8 + (1 : Int)), ())))), ()))))
 (K (.exit 0) (slices_Index_int_x0_1)) := by kernel_rfl
theorem slices_Index_int_e0_0 (x0 : List Int) (x1 : Int) (d0 : Int) : slices_Index_int_K0 x0 x1 .ret (slices_Index_int_x0_0 d0) =
 some ((d0, ()), ((), ((), ()))) := by kernel_rfl
theorem slices_Index_int_e0_1 (x0 : List Int) (x1 : Int) : slices_Index_int_K0 x0 x1 (.exit 0) (slices_Index_int_x0_1) =
 some (((-1 : Int), ()), ((), ((), ()))) := by kernel_rfl
/-! slices.Contains[[]int,int] -/
noncomputable def slices_Contains_int_b : Code := bd Try.f145
def slices_Contains_int_T : List (Nat × Tm) := []
noncomputable def slices_Contains_int_E : Env := ⟨tt0, [(155, slices_Index_int_C)]⟩
noncomputable def slices_Contains_int_F : PsD [.ro tIs, .ro tI] → Option (RsD [.own tB] × PsO [.ro tIs, .ro tI]) := fun x => evFn slices_Contains_int_E slices_Contains_int_T Try.f145 slices_Contains_int_b [.ro tIs, .ro tI] [.own tB] x
@[reducible] noncomputable def slices_Contains_int_C : Ct := ⟨[.ro tIs, .ro tI], [.own tB], slices_Contains_int_F⟩
theorem slices_Contains_int_h (x : PsD [.ro tIs, .ro tI]) (y : RsD [.own tB] × PsO [.ro tIs, .ro tI]) (h : slices_Contains_int_F x = some y) : evFn slices_Contains_int_E slices_Contains_int_T Try.f145 slices_Contains_int_b [.ro tIs, .ro tI] [.own tB] x = some y := h
theorem slices_Contains_int_c : ∀ f c, get slices_Contains_int_E.ct f = some c → Sat Try.prog f c := ct_cons slices_Index_int_S (ct_nil)
theorem slices_Contains_int_S : Sat Try.prog 145 slices_Contains_int_C := fn_ok2 (envOk _) slices_Contains_int_c mixedOk Try.func145 (by kernel_rfl : Try.f145.body = some slices_Contains_int_b) (by kernel_rfl) (by kernel_rfl) slices_Contains_int_h
noncomputable def slices_Contains_int_Ke  (x0 : List Int) (x1 : Int) : Ex → AS → Option (RsD [.own tB] × PsO [.ro tIs, .ro tI]) := endK slices_Contains_int_E Try.f145 [.ro tIs, .ro tI] [.own tB] (initL [.ro tIs, .ro tI] (x0, (x1, ())) 0).1
theorem slices_Contains_int_main (x0 : List Int) (x1 : Int) : slices_Contains_int_F (x0, (x1, ())) =
 (slices_Index_int_F (x0, (x1, ()))).bind fun y7 =>
 some ((decide ((0 : Int) ≤ y7.1.1), ()), ((), ((), ()))) := by kernel_rfl
/-! impl.GensOk -/
noncomputable def impl_GensOk_b : Code := bd Try.f143
@[reducible] def impl_GensOk_t0 : Tm := ⟨[], [], [(0, .sc true tIs), (5, .sc true tIs), (6, .sc true tI), (7, .sc true tI)], [], [0, 2], []⟩
def impl_GensOk_T : List (Nat × Tm) := [(0, impl_GensOk_t0)]
noncomputable def impl_GensOk_E : Env := ⟨tt0, [(114, impl_from_C), (145, slices_Contains_int_C)]⟩
noncomputable def impl_GensOk_F : PsD [.ro tIs] → Option (RsD [.own tB] × PsO [.ro tIs]) := fun x => evFn impl_GensOk_E impl_GensOk_T Try.f143 impl_GensOk_b [.ro tIs] [.own tB] x
@[reducible] noncomputable def impl_GensOk_C : Ct := ⟨[.ro tIs], [.own tB], impl_GensOk_F⟩
theorem impl_GensOk_h (x : PsD [.ro tIs]) (y : RsD [.own tB] × PsO [.ro tIs]) (h : impl_GensOk_F x = some y) : evFn impl_GensOk_E impl_GensOk_T Try.f143 impl_GensOk_b [.ro tIs] [.own tB] x = some y := h
theorem impl_GensOk_c : ∀ f c, get impl_GensOk_E.ct f = some c → Sat Try.prog f c := ct_cons impl_from_S (ct_cons slices_Contains_int_S (ct_nil))
theorem impl_GensOk_S : Sat Try.prog 143 impl_GensOk_C := fn_ok2 (envOk _) impl_GensOk_c mixedOk Try.func143 (by kernel_rfl : Try.f143.body = some impl_GensOk_b) (by kernel_rfl) (by kernel_rfl) impl_GensOk_h
noncomputable def impl_GensOk_Ke  (x0 : List Int) : Ex → AS → Option (RsD [.own tB] × PsO [.ro tIs]) := endK impl_GensOk_E Try.f143 [.ro tIs] [.own tB] (initL [.ro tIs] (x0, ()) 0).1
noncomputable def impl_GensOk_B0 {R : Type} : AS → (Ex → AS → Option R) → Option R := fun A K => ev impl_GensOk_E impl_GensOk_T 0 (cA (cA (cB (cA (cB impl_GensOk_b))))) A K
noncomputable def impl_GensOk_K0  (x0 : List Int) : Ex → AS → Option (RsD [.own tB] × PsO [.ro tIs]) := kBlk 0 (kSeq (fun A K => ev impl_GensOk_E impl_GensOk_T 1000 (cB (cB impl_GensOk_b)) A K) (impl_GensOk_Ke x0))
noncomputable def impl_GensOk_x0_0 (d0 : List Int) (d1 : Bool) : AS := ⟨[(0, .v (.one (.d true tIs d0))), (2, .v (.one (.d true tB d1)))], []⟩
noncomputable def impl_GensOk_x0_1 (d0 : List Int) : AS := ⟨[(0, .v (.one (.d true tIs d0)))], []⟩
theorem impl_GensOk_l0 {R : Type} {K : Ex → AS → Option R} {s : impl_GensOk_t0.D} (n : Nat) {v : Option R} (h : iterG impl_GensOk_t0 impl_GensOk_B0 K n s = v) (hv : ∃ r, v = some r) : loopG impl_GensOk_t0 impl_GensOk_B0 K s = v := loop_eq (ev_mono _ _) n h hv
theorem impl_GensOk_main (x0 : List Int) : impl_GensOk_F (x0, ()) =
 loopG impl_GensOk_t0 impl_GensOk_B0 (impl_GensOk_K0 x0) ((x0, (x0, ((x0.length : Int), ((0 : Int), ())))), ()) := by kernel_rfl
theorem impl_GensOk_r0 {R : Type} (K : Ex → AS → Option R) (n : Nat) (t0 : List Int) (t5 : List Int) (t6 : Int) (t7 : Int) : iterG impl_GensOk_t0 impl_GensOk_B0 K (n + 1) ((t0, (t5, (t6, (t7, ())))), ()) =
 brk (decide (t7 < t6))
 (ck (decide (0 ≤ t7) && decide (t7 < t5.length)) ((impl_from_F (rdD tI t5 t7, ((1 : Int), ((100000 : Int), ())))).bind fun y13 =>
 brk (!y13.1.1)
 (K .ret (impl_GensOk_x0_0 t0 false))
 (ck (decide (0 ≤ (0 : Int)) && decide ((0 : Int) ≤ t7) && decide (t7 ≤ t0.length)) ((slices_Contains_int_F ((t0.take t7.toNat).drop (0 : Int).toNat, (rdD tI t5 t7, ()))).bind fun y20 =>
 brk y20.1.1
 (K .ret (impl_GensOk_x0_0 t0 false))
 (iterG impl_GensOk_t0 impl_GensOk_B0 K n ((t0, (t5, (t6, (IntKind.i64.wrap (t7 + (1 : Int)), ())))), ()))))))
 (K (.exit 0) (impl_GensOk_x0_1 t0)) := by kernel_rfl
theorem impl_GensOk_e0_0 (x0 : List Int) (d0 : List Int) (d1 : Bool) : impl_GensOk_K0 x0 .ret (impl_GensOk_x0_0 d0 d1) =
 some ((d1, ()), ((), ())) := by kernel_rfl
theorem impl_GensOk_e0_1 (x0 : List Int) (d0 : List Int) : impl_GensOk_K0 x0 (.exit 0) (impl_GensOk_x0_1 d0) =
 some ((decide ((d0.length : Int) ≤ (12 : Int)), ()), ((), ())) := by kernel_rfl
/-! impl.isCell -/
noncomputable def impl_isCell_b : Code := bd Try.f108
def impl_isCell_T : List (Nat × Tm) := []
noncomputable def impl_isCell_E : Env := ⟨tt0, [(114, impl_from_C)]⟩
noncomputable def impl_isCell_F : PsD [.ro tI] → Option (RsD [.own tB] × PsO [.ro tI]) := fun x => evFn impl_isCell_E impl_isCell_T Try.f108 impl_isCell_b [.ro tI] [.own tB] x
@[reducible] noncomputable def impl_isCell_C : Ct := ⟨[.ro tI], [.own tB], impl_isCell_F⟩
theorem impl_isCell_h (x : PsD [.ro tI]) (y : RsD [.own tB] × PsO [.ro tI]) (h : impl_isCell_F x = some y) : evFn impl_isCell_E impl_isCell_T Try.f108 impl_isCell_b [.ro tI] [.own tB] x = some y := h
theorem impl_isCell_c : ∀ f c, get impl_isCell_E.ct f = some c → Sat Try.prog f c := ct_cons impl_from_S (ct_nil)
theorem impl_isCell_S : Sat Try.prog 108 impl_isCell_C := fn_ok2 (envOk _) impl_isCell_c mixedOk Try.func108 (by kernel_rfl : Try.f108.body = some impl_isCell_b) (by kernel_rfl) (by kernel_rfl) impl_isCell_h
noncomputable def impl_isCell_Ke  (x0 : Int) : Ex → AS → Option (RsD [.own tB] × PsO [.ro tI]) := endK impl_isCell_E Try.f108 [.ro tI] [.own tB] (initL [.ro tI] (x0, ()) 0).1
theorem impl_isCell_main (x0 : Int) : impl_isCell_F (x0, ()) =
 (impl_from_F (x0, ((0 : Int), ((7 : Int), ())))).bind fun y4 =>
 some ((y4.1.1, ()), ((), ())) := by kernel_rfl
/-! impl.MarksOk -/
noncomputable def impl_MarksOk_b : Code := bd Try.f67
@[reducible] def impl_MarksOk_t0 : Tm := ⟨[], [], [(0, .sc true tIs), (5, .sc true tIs), (6, .sc true tI), (7, .sc true tI)], [], [2], []⟩
def impl_MarksOk_T : List (Nat × Tm) := [(0, impl_MarksOk_t0)]
noncomputable def impl_MarksOk_E : Env := ⟨tt0, [(108, impl_isCell_C)]⟩
noncomputable def impl_MarksOk_F : PsD [.ro tIs] → Option (RsD [.own tB] × PsO [.ro tIs]) := fun x => evFn impl_MarksOk_E impl_MarksOk_T Try.f67 impl_MarksOk_b [.ro tIs] [.own tB] x
@[reducible] noncomputable def impl_MarksOk_C : Ct := ⟨[.ro tIs], [.own tB], impl_MarksOk_F⟩
theorem impl_MarksOk_h (x : PsD [.ro tIs]) (y : RsD [.own tB] × PsO [.ro tIs]) (h : impl_MarksOk_F x = some y) : evFn impl_MarksOk_E impl_MarksOk_T Try.f67 impl_MarksOk_b [.ro tIs] [.own tB] x = some y := h
theorem impl_MarksOk_c : ∀ f c, get impl_MarksOk_E.ct f = some c → Sat Try.prog f c := ct_cons impl_isCell_S (ct_nil)
theorem impl_MarksOk_S : Sat Try.prog 67 impl_MarksOk_C := fn_ok2 (envOk _) impl_MarksOk_c mixedOk Try.func67 (by kernel_rfl : Try.f67.body = some impl_MarksOk_b) (by kernel_rfl) (by kernel_rfl) impl_MarksOk_h
noncomputable def impl_MarksOk_Ke  (x0 : List Int) : Ex → AS → Option (RsD [.own tB] × PsO [.ro tIs]) := endK impl_MarksOk_E Try.f67 [.ro tIs] [.own tB] (initL [.ro tIs] (x0, ()) 0).1
noncomputable def impl_MarksOk_B0 {R : Type} : AS → (Ex → AS → Option R) → Option R := fun A K => ev impl_MarksOk_E impl_MarksOk_T 0 (cA (cA (cB (cA (cB impl_MarksOk_b))))) A K
noncomputable def impl_MarksOk_K0  (x0 : List Int) : Ex → AS → Option (RsD [.own tB] × PsO [.ro tIs]) := kBlk 0 (kSeq (fun A K => ev impl_MarksOk_E impl_MarksOk_T 1000 (cB (cB impl_MarksOk_b)) A K) (impl_MarksOk_Ke x0))
noncomputable def impl_MarksOk_x0_0 (d0 : Bool) : AS := ⟨[(2, .v (.one (.d true tB d0)))], []⟩
noncomputable def impl_MarksOk_x0_1 : AS := ⟨[], []⟩
theorem impl_MarksOk_l0 {R : Type} {K : Ex → AS → Option R} {s : impl_MarksOk_t0.D} (n : Nat) {v : Option R} (h : iterG impl_MarksOk_t0 impl_MarksOk_B0 K n s = v) (hv : ∃ r, v = some r) : loopG impl_MarksOk_t0 impl_MarksOk_B0 K s = v := loop_eq (ev_mono _ _) n h hv
theorem impl_MarksOk_main (x0 : List Int) : impl_MarksOk_F (x0, ()) =
 loopG impl_MarksOk_t0 impl_MarksOk_B0 (impl_MarksOk_K0 x0) ((x0, (x0, ((x0.length : Int), ((0 : Int), ())))), ()) := by kernel_rfl
theorem impl_MarksOk_r0 {R : Type} (K : Ex → AS → Option R) (n : Nat) (t0 : List Int) (t5 : List Int) (t6 : Int) (t7 : Int) : iterG impl_MarksOk_t0 impl_MarksOk_B0 K (n + 1) ((t0, (t5, (t6, (t7, ())))), ()) =
 brk (decide (t7 < t6))
 (ck (decide (0 ≤ t7) && decide (t7 < t5.length)) ((impl_isCell_F (rdD tI t5 t7, ())).bind fun y13 =>
 brk (!y13.1.1)
 (K .ret (impl_MarksOk_x0_0 false))
 (brk (decide ((0 : Int) < t7))
 (ck (decide (0 ≤ IntKind.i64.wrap (t7 - (1 : Int))) && decide (IntKind.i64.wrap (t7 - (1 : Int)) < t0.length)) (brk (decide (rdD tI t5 t7 ≤ rdD tI t0 (IntKind.i64.wrap (t7 - (1 : Int)))))
 (K .ret (impl_MarksOk_x0_0 false))
 (iterG impl_MarksOk_t0 impl_MarksOk_B0 K n ((t0, (t5, (t6, (IntKind.i64.wrap (t7 + (1 : Int)), ())))), ()))))
 (iterG impl_MarksOk_t0 impl_MarksOk_B0 K n ((t0, (t5, (t6, (IntKind.i64.wrap (t7 + (1 : Int)), ())))), ())))))
 (K (.exit 0) (impl_MarksOk_x0_1)) := by kernel_rfl
theorem impl_MarksOk_e0_0 (x0 : List Int) (d0 : Bool) : impl_MarksOk_K0 x0 .ret (impl_MarksOk_x0_0 d0) =
 some ((d0, ()), ((), ())) := by kernel_rfl
theorem impl_MarksOk_e0_1 (x0 : List Int) : impl_MarksOk_K0 x0 (.exit 0) (impl_MarksOk_x0_1) =
 some ((true, ()), ((), ())) := by kernel_rfl
/-! impl.marksAll$1 -/
noncomputable def impl_marksAll_1_b : Code := bd Try.f154
def impl_marksAll_1_T : List (Nat × Tm) := []
noncomputable def impl_marksAll_1_E : Env := ⟨tt0, [(67, impl_MarksOk_C)]⟩
noncomputable def impl_marksAll_1_F : PsD [.ro tIs] → Option (RsD [.own tB] × PsO [.ro tIs]) := fun x => evFn impl_marksAll_1_E impl_marksAll_1_T Try.f154 impl_marksAll_1_b [.ro tIs] [.own tB] x
@[reducible] noncomputable def impl_marksAll_1_C : Ct := ⟨[.ro tIs], [.own tB], impl_marksAll_1_F⟩
theorem impl_marksAll_1_h (x : PsD [.ro tIs]) (y : RsD [.own tB] × PsO [.ro tIs]) (h : impl_marksAll_1_F x = some y) : evFn impl_marksAll_1_E impl_marksAll_1_T Try.f154 impl_marksAll_1_b [.ro tIs] [.own tB] x = some y := h
theorem impl_marksAll_1_c : ∀ f c, get impl_marksAll_1_E.ct f = some c → Sat Try.prog f c := ct_cons impl_MarksOk_S (ct_nil)
theorem impl_marksAll_1_S : Sat Try.prog 154 impl_marksAll_1_C := fn_ok2 (envOk _) impl_marksAll_1_c mixedOk Try.func154 (by kernel_rfl : Try.f154.body = some impl_marksAll_1_b) (by kernel_rfl) (by kernel_rfl) impl_marksAll_1_h
noncomputable def impl_marksAll_1_Ke  (x0 : List Int) : Ex → AS → Option (RsD [.own tB] × PsO [.ro tIs]) := endK impl_marksAll_1_E Try.f154 [.ro tIs] [.own tB] (initL [.ro tIs] (x0, ()) 0).1
theorem impl_marksAll_1_main (x0 : List Int) : impl_marksAll_1_F (x0, ()) =
 (impl_MarksOk_F (x0, ())).bind fun y4 =>
 some ((!y4.1.1, ()), ((), ())) := by kernel_rfl
/-! slices.IndexFunc[[][]int,[]int] -/
noncomputable def slices_IndexFunc__int_b : Code := bd Try.f158
@[reducible] def slices_IndexFunc__int_t0 : Tm := ⟨[], [], [(0, .sc true tIss), (1, .fnv 154 []), (7, .sc true tI), (8, .sc true tI)], [], [4], []⟩
def slices_IndexFunc__int_T : List (Nat × Tm) := [(0, slices_IndexFunc__int_t0)]
noncomputable def slices_IndexFunc__int_E : Env := ⟨tt0, [(154, impl_marksAll_1_C)]⟩
noncomputable def slices_IndexFunc__int_F : PsD [.ro tIss, .fn 154 []] → Option (RsD [.own tI] × PsO [.ro tIss, .fn 154 []]) := fun x => evFn slices_IndexFunc__int_E slices_IndexFunc__int_T Try.f158 slices_IndexFunc__int_b [.ro tIss, .fn 154 []] [.own tI] x
@[reducible] noncomputable def slices_IndexFunc__int_C : Ct := ⟨[.ro tIss, .fn 154 []], [.own tI], slices_IndexFunc__int_F⟩
theorem slices_IndexFunc__int_h (x : PsD [.ro tIss, .fn 154 []]) (y : RsD [.own tI] × PsO [.ro tIss, .fn 154 []]) (h : slices_IndexFunc__int_F x = some y) : evFn slices_IndexFunc__int_E slices_IndexFunc__int_T Try.f158 slices_IndexFunc__int_b [.ro tIss, .fn 154 []] [.own tI] x = some y := h
theorem slices_IndexFunc__int_c : ∀ f c, get slices_IndexFunc__int_E.ct f = some c → Sat Try.prog f c := ct_cons impl_marksAll_1_S (ct_nil)
theorem slices_IndexFunc__int_S : Sat Try.prog 158 slices_IndexFunc__int_C := fn_ok2 (envOk _) slices_IndexFunc__int_c mixedOk Try.func158 (by kernel_rfl : Try.f158.body = some slices_IndexFunc__int_b) (by kernel_rfl) (by kernel_rfl) slices_IndexFunc__int_h
noncomputable def slices_IndexFunc__int_Ke  (x0 : List (List Int)) (x1 : Unit) : Ex → AS → Option (RsD [.own tI] × PsO [.ro tIss, .fn 154 []]) := endK slices_IndexFunc__int_E Try.f158 [.ro tIss, .fn 154 []] [.own tI] (initL [.ro tIss, .fn 154 []] (x0, (x1, ())) 0).1
noncomputable def slices_IndexFunc__int_B0 {R : Type} : AS → (Ex → AS → Option R) → Option R := fun A K => ev slices_IndexFunc__int_E slices_IndexFunc__int_T 0 (cA (cA (cB (cA (cB slices_IndexFunc__int_b))))) A K
noncomputable def slices_IndexFunc__int_K0  (x0 : List (List Int)) (x1 : Unit) : Ex → AS → Option (RsD [.own tI] × PsO [.ro tIss, .fn 154 []]) := kBlk 0 (kSeq (fun A K => ev slices_IndexFunc__int_E slices_IndexFunc__int_T 1000 (cB (cB slices_IndexFunc__int_b)) A K) (slices_IndexFunc__int_Ke x0 x1))
noncomputable def slices_IndexFunc__int_x0_0 (d0 : Int) : AS := ⟨[(4, .v (.one (.d true tI d0)))], []⟩
noncomputable def slices_IndexFunc__int_x0_1 : AS := ⟨[], []⟩
theorem slices_IndexFunc__int_l0 {R : Type} {K : Ex → AS → Option R} {s : slices_IndexFunc__int_t0.D} (n : Nat) {v : Option R} (h : iterG slices_IndexFunc__int_t0 slices_IndexFunc__int_B0 K n s = v) (hv : ∃ r, v = some r) : loopG slices_IndexFunc__int_t0 slices_IndexFunc__int_B0 K s = v := loop_eq (ev_mono _ _) n h hv
theorem slices_IndexFunc__int_main (x0 : List (List Int)) (x1 : Unit) : slices_IndexFunc__int_F (x0, (x1, ())) =
 loopG slices_IndexFunc__int_t0 slices_IndexFunc__int_B0 (slices_IndexFunc__int_K0 x0 x1) ((x0, ((x0.length : Int), ((0 : Int), ()))), ()) := by kernel_rfl
theorem slices_IndexFunc__int_r0 {R : Type} (K : Ex → AS → Option R) (n : Nat) (t0 : List (List Int)) (t7 : Int) (t8 : Int) : iterG slices_IndexFunc__int_t0 slices_IndexFunc__int_B0 K (n + 1) ((t0, (t7, (t8, ()))), ()) =
 brk (decide (t8 < t7))
 (ck (decide (0 ≤ t8) && decide (t8 < t0.length)) ((impl_marksAll_1_F (rdD tIs t0 t8, ())).bind fun y16 =>
 brk y16.1.1
 (K .ret (slices_IndexFunc__int_x0_0 t8))
 (iterG slices_IndexFunc__int_t0 slices_IndexFunc__int_B0 K n ((t0, (t7, (IntKind.i64.wrap (t8 + (1 : Int)), ()))), ()))))
 (K (.exit 0) (slices_IndexFunc__int_x0_1)) := by kernel_rfl
theorem slices_IndexFunc__int_e0_0 (x0 : List (List Int)) (x1 : Unit) (d0 : Int) : slices_IndexFunc__int_K0 x0 x1 .ret (slices_IndexFunc__int_x0_0 d0) =
 some ((d0, ()), ((), ((), ()))) := by kernel_rfl
theorem slices_IndexFunc__int_e0_1 (x0 : List (List Int)) (x1 : Unit) : slices_IndexFunc__int_K0 x0 x1 (.exit 0) (slices_IndexFunc__int_x0_1) =
 some (((-1 : Int), ()), ((), ((), ()))) := by kernel_rfl
/-! slices.ContainsFunc[[][]int,[]int] -/
noncomputable def slices_ContainsFunc__int_b : Code := bd Try.f153
def slices_ContainsFunc__int_T : List (Nat × Tm) := []
noncomputable def slices_ContainsFunc__int_E : Env := ⟨tt0, [(158, slices_IndexFunc__int_C)]⟩
noncomputable def slices_ContainsFunc__int_F : PsD [.ro tIss, .fn 154 []] → Option (RsD [.own tB] × PsO [.ro tIss, .fn 154 []]) := fun x => evFn slices_ContainsFunc__int_E slices_ContainsFunc__int_T Try.f153 slices_ContainsFunc__int_b [.ro tIss, .fn 154 []] [.own tB] x
@[reducible] noncomputable def slices_ContainsFunc__int_C : Ct := ⟨[.ro tIss, .fn 154 []], [.own tB], slices_ContainsFunc__int_F⟩
theorem slices_ContainsFunc__int_h (x : PsD [.ro tIss, .fn 154 []]) (y : RsD [.own tB] × PsO [.ro tIss, .fn 154 []]) (h : slices_ContainsFunc__int_F x = some y) : evFn slices_ContainsFunc__int_E slices_ContainsFunc__int_T Try.f153 slices_ContainsFunc__int_b [.ro tIss, .fn 154 []] [.own tB] x = some y := h
theorem slices_ContainsFunc__int_c : ∀ f c, get slices_ContainsFunc__int_E.ct f = some c → Sat Try.prog f c := ct_cons slices_IndexFunc__int_S (ct_nil)
theorem slices_ContainsFunc__int_S : Sat Try.prog 153 slices_ContainsFunc__int_C := fn_ok2 (envOk _) slices_ContainsFunc__int_c mixedOk Try.func153 (by kernel_rfl : Try.f153.body = some slices_ContainsFunc__int_b) (by kernel_rfl) (by kernel_rfl) slices_ContainsFunc__int_h
noncomputable def slices_ContainsFunc__int_Ke  (x0 : List (List Int)) (x1 : Unit) : Ex → AS → Option (RsD [.own tB] × PsO [.ro tIss, .fn 154 []]) := endK slices_ContainsFunc__int_E Try.f153 [.ro tIss, .fn 154 []] [.own tB] (initL [.ro tIss, .fn 154 []] (x0, (x1, ())) 0).1
theorem slices_ContainsFunc__int_main (x0 : List (List Int)) (x1 : Unit) : slices_ContainsFunc__int_F (x0, (x1, ())) =
 (slices_IndexFunc__int_F (x0, ((), ()))).bind fun y7 =>
 some ((decide ((0 : Int) ≤ y7.1.1), ()), ((), ((), ()))) := by kernel_rfl
/-! impl.marksAll -/
noncomputable def impl_marksAll_b : Code := bd Try.f144
def impl_marksAll_T : List (Nat × Tm) := []
noncomputable def impl_marksAll_E : Env := ⟨tt0, [(153, slices_ContainsFunc__int_C)]⟩
noncomputable def impl_marksAll_F : PsD [.ro tIss] → Option (RsD [.own tB] × PsO [.ro tIss]) := fun x => evFn impl_marksAll_E impl_marksAll_T Try.f144 impl_marksAll_b [.ro tIss] [.own tB] x
@[reducible] noncomputable def impl_marksAll_C : Ct := ⟨[.ro tIss], [.own tB], impl_marksAll_F⟩
theorem impl_marksAll_h (x : PsD [.ro tIss]) (y : RsD [.own tB] × PsO [.ro tIss]) (h : impl_marksAll_F x = some y) : evFn impl_marksAll_E impl_marksAll_T Try.f144 impl_marksAll_b [.ro tIss] [.own tB] x = some y := h
theorem impl_marksAll_c : ∀ f c, get impl_marksAll_E.ct f = some c → Sat Try.prog f c := ct_cons slices_ContainsFunc__int_S (ct_nil)
theorem impl_marksAll_S : Sat Try.prog 144 impl_marksAll_C := fn_ok2 (envOk _) impl_marksAll_c mixedOk Try.func144 (by kernel_rfl : Try.f144.body = some impl_marksAll_b) (by kernel_rfl) (by kernel_rfl) impl_marksAll_h
noncomputable def impl_marksAll_Ke  (x0 : List (List Int)) : Ex → AS → Option (RsD [.own tB] × PsO [.ro tIss]) := endK impl_marksAll_E Try.f144 [.ro tIss] [.own tB] (initL [.ro tIss] (x0, ()) 0).1
theorem impl_marksAll_main (x0 : List (List Int)) : impl_marksAll_F (x0, ()) =
 brk (decide ((x0.length : Int) = (3 : Int)))
 ((slices_ContainsFunc__int_F (x0, ((), ()))).bind fun y8 =>
 some ((!y8.1.1, ()), ((), ())))
 (some ((false, ()), ((), ()))) := by kernel_rfl
/-! impl.MetaOk -/
noncomputable def impl_MetaOk_b : Code := bd Try.f103
def impl_MetaOk_T : List (Nat × Tm) := []
noncomputable def impl_MetaOk_E : Env := ⟨tt0, [(114, impl_from_C), (143, impl_GensOk_C), (144, impl_marksAll_C)]⟩
noncomputable def impl_MetaOk_F : PsD [.ro tMeta] → Option (RsD [.own tB] × PsO [.ro tMeta]) := fun x => evFn impl_MetaOk_E impl_MetaOk_T Try.f103 impl_MetaOk_b [.ro tMeta] [.own tB] x
@[reducible] noncomputable def impl_MetaOk_C : Ct := ⟨[.ro tMeta], [.own tB], impl_MetaOk_F⟩
theorem impl_MetaOk_h (x : PsD [.ro tMeta]) (y : RsD [.own tB] × PsO [.ro tMeta]) (h : impl_MetaOk_F x = some y) : evFn impl_MetaOk_E impl_MetaOk_T Try.f103 impl_MetaOk_b [.ro tMeta] [.own tB] x = some y := h
theorem impl_MetaOk_c : ∀ f c, get impl_MetaOk_E.ct f = some c → Sat Try.prog f c := ct_cons impl_from_S (ct_cons impl_GensOk_S (ct_cons impl_marksAll_S (ct_nil)))
theorem impl_MetaOk_S : Sat Try.prog 103 impl_MetaOk_C := fn_ok2 (envOk _) impl_MetaOk_c mixedOk Try.func103 (by kernel_rfl : Try.f103.body = some impl_MetaOk_b) (by kernel_rfl) (by kernel_rfl) impl_MetaOk_h
noncomputable def impl_MetaOk_Ke  (x0 : List Int × List (List Int) × Bool × Bool × Bool × Int × Unit) : Ex → AS → Option (RsD [.own tB] × PsO [.ro tMeta]) := endK impl_MetaOk_E Try.f103 [.ro tMeta] [.own tB] (initL [.ro tMeta] (x0, ()) 0).1
theorem impl_MetaOk_main (x0 : List Int × List (List Int) × Bool × Bool × Bool × Int × Unit) : impl_MetaOk_F (x0, ()) =
 (impl_GensOk_F (x0.1, ())).bind fun y5 =>
 brk y5.1.1
 (brk (decide ((0 : Int) < (x0.1.length : Int)))
 ((impl_marksAll_F (x0.2.1, ())).bind fun y15 =>
 brk y15.1.1
 ((impl_from_F (x0.2.2.2.2.2.1, ((0 : Int), ((200 : Int), ())))).bind fun y20 =>
 brk y20.1.1
 (brk x0.2.2.2.1
 (some ((!x0.2.2.2.2.1, ()), ((), ())))
 (some ((true, ()), ((), ()))))
 (some ((false, ()), ((), ()))))
 (some ((false, ()), ((), ()))))
 (some ((false, ()), ((), ()))))
 (some ((false, ()), ((), ()))) := by kernel_rfl
/-! impl.MetaNew -/
noncomputable def impl_MetaNew_b : Code := bd Try.f29
def impl_MetaNew_T : List (Nat × Tm) := []
noncomputable def impl_MetaNew_E : Env := ⟨tt0, [(103, impl_MetaOk_C)]⟩
noncomputable def impl_MetaNew_F : PsD [.ro tI] → Option (RsD [.own tMeta] × PsO [.ro tI]) := fun x => evFn impl_MetaNew_E impl_MetaNew_T Try.f29 impl_MetaNew_b [.ro tI] [.own tMeta] x
@[reducible] noncomputable def impl_MetaNew_C : Ct := ⟨[.ro tI], [.own tMeta], impl_MetaNew_F⟩
theorem impl_MetaNew_h (x : PsD [.ro tI]) (y : RsD [.own tMeta] × PsO [.ro tI]) (h : impl_MetaNew_F x = some y) : evFn impl_MetaNew_E impl_MetaNew_T Try.f29 impl_MetaNew_b [.ro tI] [.own tMeta] x = some y := h
theorem impl_MetaNew_c : ∀ f c, get impl_MetaNew_E.ct f = some c → Sat Try.prog f c := ct_cons impl_MetaOk_S (ct_nil)
theorem impl_MetaNew_S : Sat Try.prog 29 impl_MetaNew_C := fn_ok2 (envOk _) impl_MetaNew_c mixedOk Try.func29 (by kernel_rfl : Try.f29.body = some impl_MetaNew_b) (by kernel_rfl) (by kernel_rfl) impl_MetaNew_h
noncomputable def impl_MetaNew_Ke  (x0 : Int) : Ex → AS → Option (RsD [.own tMeta] × PsO [.ro tI]) := endK impl_MetaNew_E Try.f29 [.ro tI] [.own tMeta] (initL [.ro tI] (x0, ()) 0).1
theorem impl_MetaNew_main (x0 : Int) : impl_MetaNew_F (x0, ()) =
 ck (decide (0 ≤ (3 : Int)) && decide ((3 : Int) = (3 : Int)) && decide ((3 : Int) * (24 : Int) ≤ 140737488355328) && decide ((3 : Int) ≤ 140737488355328)) ((impl_MetaOk_F (([x0], (List.replicate (3 : Int).toNat tIs.zero, (true, (false, (false, ((0 : Int), ())))))), ())).bind fun y9 =>
 brk (!y9.1.1)
 (some (((([] : List Int), (([] : List (List Int)), (false, (false, (false, ((0 : Int), ())))))), ()), ((), ())))
 (some ((([x0], (List.replicate (3 : Int).toNat tIs.zero, (true, (false, (false, ((0 : Int), ())))))), ()), ((), ())))) := by kernel_rfl
/-! laws.eqIntS -/
noncomputable def laws_eqIntS_b : Code := bd Try.f36
@[reducible] def laws_eqIntS_t0 : Tm := ⟨[], [], [(0, .sc true tIs), (1, .sc true tIs), (5, .sc true tI)], [], [4], []⟩
def laws_eqIntS_T : List (Nat × Tm) := [(0, laws_eqIntS_t0)]
noncomputable def laws_eqIntS_E : Env := ⟨tt0, []⟩
noncomputable def laws_eqIntS_F : PsD [.ro tIs, .ro tIs] → Option (RsD [.own tB] × PsO [.ro tIs, .ro tIs]) := fun x => evFn laws_eqIntS_E laws_eqIntS_T Try.f36 laws_eqIntS_b [.ro tIs, .ro tIs] [.own tB] x
@[reducible] noncomputable def laws_eqIntS_C : Ct := ⟨[.ro tIs, .ro tIs], [.own tB], laws_eqIntS_F⟩
theorem laws_eqIntS_h (x : PsD [.ro tIs, .ro tIs]) (y : RsD [.own tB] × PsO [.ro tIs, .ro tIs]) (h : laws_eqIntS_F x = some y) : evFn laws_eqIntS_E laws_eqIntS_T Try.f36 laws_eqIntS_b [.ro tIs, .ro tIs] [.own tB] x = some y := h
theorem laws_eqIntS_c : ∀ f c, get laws_eqIntS_E.ct f = some c → Sat Try.prog f c := ct_nil
theorem laws_eqIntS_S : Sat Try.prog 36 laws_eqIntS_C := fn_ok2 (envOk _) laws_eqIntS_c mixedOk Try.func36 (by kernel_rfl : Try.f36.body = some laws_eqIntS_b) (by kernel_rfl) (by kernel_rfl) laws_eqIntS_h
noncomputable def laws_eqIntS_Ke  (x0 : List Int) (x1 : List Int) : Ex → AS → Option (RsD [.own tB] × PsO [.ro tIs, .ro tIs]) := endK laws_eqIntS_E Try.f36 [.ro tIs, .ro tIs] [.own tB] (initL [.ro tIs, .ro tIs] (x0, (x1, ())) 0).1
noncomputable def laws_eqIntS_B0 {R : Type} : AS → (Ex → AS → Option R) → Option R := fun A K => ev laws_eqIntS_E laws_eqIntS_T 0 (cA (cA (cB (cA (cB (cB laws_eqIntS_b)))))) A K
noncomputable def laws_eqIntS_K0  (x0 : List Int) (x1 : List Int) : Ex → AS → Option (RsD [.own tB] × PsO [.ro tIs, .ro tIs]) := kBlk 0 (kSeq (fun A K => ev laws_eqIntS_E laws_eqIntS_T 1000 (cB (cB (cB laws_eqIntS_b))) A K) (laws_eqIntS_Ke x0 x1))
noncomputable def laws_eqIntS_x0_0 (d0 : Bool) : AS := ⟨[(4, .v (.one (.d true tB d0)))], []⟩
noncomputable def laws_eqIntS_x0_1 : AS := ⟨[], []⟩
theorem laws_eqIntS_l0 {R : Type} {K : Ex → AS → Option R} {s : laws_eqIntS_t0.D} (n : Nat) {v : Option R} (h : iterG laws_eqIntS_t0 laws_eqIntS_B0 K n s = v) (hv : ∃ r, v = some r) : loopG laws_eqIntS_t0 laws_eqIntS_B0 K s = v := loop_eq (ev_mono _ _) n h hv
theorem laws_eqIntS_main (x0 : List Int) (x1 : List Int) : laws_eqIntS_F (x0, (x1, ())) =
 brk (!decide ((x0.length : Int) = (x1.length : Int)))
 (some ((false, ()), ((), ((), ()))))
 (loopG laws_eqIntS_t0 laws_eqIntS_B0 (laws_eqIntS_K0 x0 x1) ((x0, (x1, ((0 : Int), ()))), ())) := by kernel_rfl
theorem laws_eqIntS_r0 {R : Type} (K : Ex → AS → Option R) (n : Nat) (t0 : List Int) (t1 : List Int) (t5 : Int) : iterG laws_eqIntS_t0 laws_eqIntS_B0 K (n + 1) ((t0, (t1, (t5, ()))), ()) =
 brk (decide (t5 < (t0.length : Int)))
 (ck (decide (0 ≤ t5) && decide (t5 < t0.length)) (ck (decide (0 ≤ t5) && decide (t5 < t1.length)) (brk (!decide (rdD tI t0 t5 = rdD tI t1 t5))
 (K .ret (laws_eqIntS_x0_0 false))
 (iterG laws_eqIntS_t0 laws_eqIntS_B0 K n ((t0, (t1, (IntKind.i64.wrap (t5 + (1 : Int)), ()))), ())))))
 (K (.exit 0) (laws_eqIntS_x0_1)) := by kernel_rfl
theorem laws_eqIntS_e0_0 (x0 : List Int) (x1 : List Int) (d0 : Bool) : laws_eqIntS_K0 x0 x1 .ret (laws_eqIntS_x0_0 d0) =
 some ((d0, ()), ((), ((), ()))) := by kernel_rfl
theorem laws_eqIntS_e0_1 (x0 : List Int) (x1 : List Int) : laws_eqIntS_K0 x0 x1 (.exit 0) (laws_eqIntS_x0_1) =
 some ((true, ()), ((), ((), ()))) := by kernel_rfl
/-! laws.eqIntSS -/
noncomputable def laws_eqIntSS_b : Code := bd Try.f104
@[reducible] def laws_eqIntSS_t0 : Tm := ⟨[], [], [(0, .sc true tIss), (1, .sc true tIss), (5, .sc true tI)], [], [4], []⟩
def laws_eqIntSS_T : List (Nat × Tm) := [(0, laws_eqIntSS_t0)]
noncomputable def laws_eqIntSS_E : Env := ⟨tt0, [(36, laws_eqIntS_C)]⟩
noncomputable def laws_eqIntSS_F : PsD [.ro tIss, .ro tIss] → Option (RsD [.own tB] × PsO [.ro tIss, .ro tIss]) := fun x => evFn laws_eqIntSS_E laws_eqIntSS_T Try.f104 laws_eqIntSS_b [.ro tIss, .ro tIss] [.own tB] x
@[reducible] noncomputable def laws_eqIntSS_C : Ct := ⟨[.ro tIss, .ro tIss], [.own tB], laws_eqIntSS_F⟩
theorem laws_eqIntSS_h (x : PsD [.ro tIss, .ro tIss]) (y : RsD [.own tB] × PsO [.ro tIss, .ro tIss]) (h : laws_eqIntSS_F x = some y) : evFn laws_eqIntSS_E laws_eqIntSS_T Try.f104 laws_eqIntSS_b [.ro tIss, .ro tIss] [.own tB] x = some y := h
theorem laws_eqIntSS_c : ∀ f c, get laws_eqIntSS_E.ct f = some c → Sat Try.prog f c := ct_cons laws_eqIntS_S (ct_nil)
theorem laws_eqIntSS_S : Sat Try.prog 104 laws_eqIntSS_C := fn_ok2 (envOk _) laws_eqIntSS_c mixedOk Try.func104 (by kernel_rfl : Try.f104.body = some laws_eqIntSS_b) (by kernel_rfl) (by kernel_rfl) laws_eqIntSS_h
noncomputable def laws_eqIntSS_Ke  (x0 : List (List Int)) (x1 : List (List Int)) : Ex → AS → Option (RsD [.own tB] × PsO [.ro tIss, .ro tIss]) := endK laws_eqIntSS_E Try.f104 [.ro tIss, .ro tIss] [.own tB] (initL [.ro tIss, .ro tIss] (x0, (x1, ())) 0).1
noncomputable def laws_eqIntSS_B0 {R : Type} : AS → (Ex → AS → Option R) → Option R := fun A K => ev laws_eqIntSS_E laws_eqIntSS_T 0 (cA (cA (cB (cA (cB (cB laws_eqIntSS_b)))))) A K
noncomputable def laws_eqIntSS_K0  (x0 : List (List Int)) (x1 : List (List Int)) : Ex → AS → Option (RsD [.own tB] × PsO [.ro tIss, .ro tIss]) := kBlk 0 (kSeq (fun A K => ev laws_eqIntSS_E laws_eqIntSS_T 1000 (cB (cB (cB laws_eqIntSS_b))) A K) (laws_eqIntSS_Ke x0 x1))
noncomputable def laws_eqIntSS_x0_0 (d0 : Bool) : AS := ⟨[(4, .v (.one (.d true tB d0)))], []⟩
noncomputable def laws_eqIntSS_x0_1 : AS := ⟨[], []⟩
theorem laws_eqIntSS_l0 {R : Type} {K : Ex → AS → Option R} {s : laws_eqIntSS_t0.D} (n : Nat) {v : Option R} (h : iterG laws_eqIntSS_t0 laws_eqIntSS_B0 K n s = v) (hv : ∃ r, v = some r) : loopG laws_eqIntSS_t0 laws_eqIntSS_B0 K s = v := loop_eq (ev_mono _ _) n h hv
theorem laws_eqIntSS_main (x0 : List (List Int)) (x1 : List (List Int)) : laws_eqIntSS_F (x0, (x1, ())) =
 brk (!decide ((x0.length : Int) = (x1.length : Int)))
 (some ((false, ()), ((), ((), ()))))
 (loopG laws_eqIntSS_t0 laws_eqIntSS_B0 (laws_eqIntSS_K0 x0 x1) ((x0, (x1, ((0 : Int), ()))), ())) := by kernel_rfl
theorem laws_eqIntSS_r0 {R : Type} (K : Ex → AS → Option R) (n : Nat) (t0 : List (List Int)) (t1 : List (List Int)) (t5 : Int) : iterG laws_eqIntSS_t0 laws_eqIntSS_B0 K (n + 1) ((t0, (t1, (t5, ()))), ()) =
 brk (decide (t5 < (t0.length : Int)))
 (ck (decide (0 ≤ t5) && decide (t5 < t0.length)) (ck (decide (0 ≤ t5) && decide (t5 < t1.length)) ((laws_eqIntS_F (rdD tIs t0 t5, (rdD tIs t1 t5, ()))).bind fun y25 =>
 brk (!y25.1.1)
 (K .ret (laws_eqIntSS_x0_0 false))
 (iterG laws_eqIntSS_t0 laws_eqIntSS_B0 K n ((t0, (t1, (IntKind.i64.wrap (t5 + (1 : Int)), ()))), ())))))
 (K (.exit 0) (laws_eqIntSS_x0_1)) := by kernel_rfl
theorem laws_eqIntSS_e0_0 (x0 : List (List Int)) (x1 : List (List Int)) (d0 : Bool) : laws_eqIntSS_K0 x0 x1 .ret (laws_eqIntSS_x0_0 d0) =
 some ((d0, ()), ((), ((), ()))) := by kernel_rfl
theorem laws_eqIntSS_e0_1 (x0 : List (List Int)) (x1 : List (List Int)) : laws_eqIntSS_K0 x0 x1 (.exit 0) (laws_eqIntSS_x0_1) =
 some ((true, ()), ((), ((), ()))) := by kernel_rfl
/-! laws.eqMeta -/
noncomputable def laws_eqMeta_b : Code := bd Try.f30
def laws_eqMeta_T : List (Nat × Tm) := []
noncomputable def laws_eqMeta_E : Env := ⟨tt0, [(36, laws_eqIntS_C), (104, laws_eqIntSS_C)]⟩
noncomputable def laws_eqMeta_F : PsD [.ro tMeta, .ro tMeta] → Option (RsD [.own tB] × PsO [.ro tMeta, .ro tMeta]) := fun x => evFn laws_eqMeta_E laws_eqMeta_T Try.f30 laws_eqMeta_b [.ro tMeta, .ro tMeta] [.own tB] x
@[reducible] noncomputable def laws_eqMeta_C : Ct := ⟨[.ro tMeta, .ro tMeta], [.own tB], laws_eqMeta_F⟩
theorem laws_eqMeta_h (x : PsD [.ro tMeta, .ro tMeta]) (y : RsD [.own tB] × PsO [.ro tMeta, .ro tMeta]) (h : laws_eqMeta_F x = some y) : evFn laws_eqMeta_E laws_eqMeta_T Try.f30 laws_eqMeta_b [.ro tMeta, .ro tMeta] [.own tB] x = some y := h
theorem laws_eqMeta_c : ∀ f c, get laws_eqMeta_E.ct f = some c → Sat Try.prog f c := ct_cons laws_eqIntS_S (ct_cons laws_eqIntSS_S (ct_nil))
theorem laws_eqMeta_S : Sat Try.prog 30 laws_eqMeta_C := fn_ok2 (envOk _) laws_eqMeta_c mixedOk Try.func30 (by kernel_rfl : Try.f30.body = some laws_eqMeta_b) (by kernel_rfl) (by kernel_rfl) laws_eqMeta_h
noncomputable def laws_eqMeta_Ke  (x0 : List Int × List (List Int) × Bool × Bool × Bool × Int × Unit) (x1 : List Int × List (List Int) × Bool × Bool × Bool × Int × Unit) : Ex → AS → Option (RsD [.own tB] × PsO [.ro tMeta, .ro tMeta]) := endK laws_eqMeta_E Try.f30 [.ro tMeta, .ro tMeta] [.own tB] (initL [.ro tMeta, .ro tMeta] (x0, (x1, ())) 0).1
theorem laws_eqMeta_main (x0 : List Int × List (List Int) × Bool × Bool × Bool × Int × Unit) (x1 : List Int × List (List Int) × Bool × Bool × Bool × Int × Unit) : laws_eqMeta_F (x0, (x1, ())) =
 (laws_eqIntS_F (x0.1, (x1.1, ()))).bind fun y9 =>
 brk (!y9.1.1)
 (some ((false, ()), ((), ((), ()))))
 ((laws_eqIntSS_F (x0.2.1, (x1.2.1, ()))).bind fun y15 =>
 brk (!y15.1.1)
 (some ((false, ()), ((), ((), ()))))
 (brk (!(x0.2.2.1 == x1.2.2.1))
 (some ((false, ()), ((), ((), ()))))
 (brk (!(x0.2.2.2.1 == x1.2.2.2.1))
 (some ((false, ()), ((), ((), ()))))
 (brk (!(x0.2.2.2.2.1 == x1.2.2.2.2.1))
 (some ((false, ()), ((), ((), ()))))
 (brk (!decide (x0.2.2.2.2.2.1 = x1.2.2.2.2.2.1))
 (some ((false, ()), ((), ((), ()))))
 (some ((true, ()), ((), ((), ()))))))))) := by kernel_rfl
/-! laws.markIntS -/
noncomputable def laws_markIntS_b : Code := bd Try.f37
@[reducible] def laws_markIntS_t0 : Tm := ⟨[], [], [(0, .own 1000000), (1, .sc true tI), (5, .sc true tI)], [(1000000, .arr 3 tI)], [1], []⟩
def laws_markIntS_T : List (Nat × Tm) := [(0, laws_markIntS_t0)]
noncomputable def laws_markIntS_E : Env := ⟨tt0, []⟩
noncomputable def laws_markIntS_F : PsD [.inp tIs, .ro tI] → Option (RsD [.own tI] × PsO [.inp tIs, .ro tI]) := fun x => evFn laws_markIntS_E laws_markIntS_T Try.f37 laws_markIntS_b [.inp tIs, .ro tI] [.own tI] x
@[reducible] noncomputable def laws_markIntS_C : Ct := ⟨[.inp tIs, .ro tI], [.own tI], laws_markIntS_F⟩
theorem laws_markIntS_h (x : PsD [.inp tIs, .ro tI]) (y : RsD [.own tI] × PsO [.inp tIs, .ro tI]) (h : laws_markIntS_F x = some y) : evFn laws_markIntS_E laws_markIntS_T Try.f37 laws_markIntS_b [.inp tIs, .ro tI] [.own tI] x = some y := h
theorem laws_markIntS_c : ∀ f c, get laws_markIntS_E.ct f = some c → Sat Try.prog f c := ct_nil
theorem laws_markIntS_S : Sat Try.prog 37 laws_markIntS_C := fn_ok2 (envOk _) laws_markIntS_c mixedOk Try.func37 (by kernel_rfl : Try.f37.body = some laws_markIntS_b) (by kernel_rfl) (by kernel_rfl) laws_markIntS_h
noncomputable def laws_markIntS_Ke  (x0 : List Int) (x1 : Int) : Ex → AS → Option (RsD [.own tI] × PsO [.inp tIs, .ro tI]) := endK laws_markIntS_E Try.f37 [.inp tIs, .ro tI] [.own tI] (initL [.inp tIs, .ro tI] (x0, (x1, ())) 0).1
noncomputable def laws_markIntS_B0 {R : Type} : AS → (Ex → AS → Option R) → Option R := fun A K => ev laws_markIntS_E laws_markIntS_T 0 (cA (cA (cB (cA (cB laws_markIntS_b))))) A K
noncomputable def laws_markIntS_K0  (x0 : List Int) (x1 : Int) : Ex → AS → Option (RsD [.own tI] × PsO [.inp tIs, .ro tI]) := kBlk 0 (kSeq (fun A K => ev laws_markIntS_E laws_markIntS_T 1000 (cB (cB laws_markIntS_b)) A K) (laws_markIntS_Ke x0 x1))
noncomputable def laws_markIntS_x0_0 (d0 : Int) (d1 : List Int) : AS := ⟨[(1, .v (.one (.d true tI d0)))], [(1000000, .arr 3 tI d1)]⟩
theorem laws_markIntS_l0 {R : Type} {K : Ex → AS → Option R} {s : laws_markIntS_t0.D} (n : Nat) {v : Option R} (h : iterG laws_markIntS_t0 laws_markIntS_B0 K n s = v) (hv : ∃ r, v = some r) : loopG laws_markIntS_t0 laws_markIntS_B0 K s = v := loop_eq (ev_mono _ _) n h hv
theorem laws_markIntS_main (x0 : List Int) (x1 : Int) : laws_markIntS_F (x0, (x1, ())) =
 loopG laws_markIntS_t0 laws_markIntS_B0 (laws_markIntS_K0 x0 x1) ((x1, ((0 : Int), ())), (x0, ())) := by kernel_rfl
theorem laws_markIntS_r0 {R : Type} (K : Ex → AS → Option R) (n : Nat) (t1 : Int) (t5 : Int) (a1000000 : List Int) : iterG laws_markIntS_t0 laws_markIntS_B0 K (n + 1) ((t1, (t5, ())), (a1000000, ())) =
 brk (decide (t5 < (a1000000.length : Int)))
 (ck (decide (0 ≤ t5) && decide (t5 < a1000000.length)) (iterG laws_markIntS_t0 laws_markIntS_B0 K n ((IntKind.i64.wrap (t1 + (1 : Int)), (IntKind.i64.wrap (t5 + (1 : Int)), ())), (a1000000.set t5.toNat t1, ()))))
 (K (.exit 0) (laws_markIntS_x0_0 t1 a1000000)) := by kernel_rfl
theorem laws_markIntS_e0_0 (x0 : List Int) (x1 : Int) (d0 : Int) (d1 : List Int) : laws_markIntS_K0 x0 x1 (.exit 0) (laws_markIntS_x0_0 d0 d1) =
 some ((d0, ()), (d1, ((), ()))) := by kernel_rfl
/-! laws.markIntSS -/
noncomputable def laws_markIntSS_b : Code := bd Try.f105
@[reducible] def laws_markIntSS_t0 : Tm := ⟨[], [], [(0, .own 1000000), (1, .sc true tI), (5, .sc true tI)], [(1000000, .arr 32 tIs)], [1], []⟩
def laws_markIntSS_T : List (Nat × Tm) := [(0, laws_markIntSS_t0)]
noncomputable def laws_markIntSS_E : Env := ⟨tt0, [(37, laws_markIntS_C)]⟩
noncomputable def laws_markIntSS_F : PsD [.inp tIss, .ro tI] → Option (RsD [.own tI] × PsO [.inp tIss, .ro tI]) := fun x => evFn laws_markIntSS_E laws_markIntSS_T Try.f105 laws_markIntSS_b [.inp tIss, .ro tI] [.own tI] x
@[reducible] noncomputable def laws_markIntSS_C : Ct := ⟨[.inp tIss, .ro tI], [.own tI], laws_markIntSS_F⟩
theorem laws_markIntSS_h (x : PsD [.inp tIss, .ro tI]) (y : RsD [.own tI] × PsO [.inp tIss, .ro tI]) (h : laws_markIntSS_F x = some y) : evFn laws_markIntSS_E laws_markIntSS_T Try.f105 laws_markIntSS_b [.inp tIss, .ro tI] [.own tI] x = some y := h
theorem laws_markIntSS_c : ∀ f c, get laws_markIntSS_E.ct f = some c → Sat Try.prog f c := ct_cons laws_markIntS_S (ct_nil)
theorem laws_markIntSS_S : Sat Try.prog 105 laws_markIntSS_C := fn_ok2 (envOk _) laws_markIntSS_c mixedOk Try.func105 (by kernel_rfl : Try.f105.body = some laws_markIntSS_b) (by kernel_rfl) (by kernel_rfl) laws_markIntSS_h
noncomputable def laws_markIntSS_Ke  (x0 : List (List Int)) (x1 : Int) : Ex → AS → Option (RsD [.own tI] × PsO [.inp tIss, .ro tI]) := endK laws_markIntSS_E Try.f105 [.inp tIss, .ro tI] [.own tI] (initL [.inp tIss, .ro tI] (x0, (x1, ())) 0).1
noncomputable def laws_markIntSS_B0 {R : Type} : AS → (Ex → AS → Option R) → Option R := fun A K => ev laws_markIntSS_E laws_markIntSS_T 0 (cA (cA (cB (cA (cB laws_markIntSS_b))))) A K
noncomputable def laws_markIntSS_K0  (x0 : List (List Int)) (x1 : Int) : Ex → AS → Option (RsD [.own tI] × PsO [.inp tIss, .ro tI]) := kBlk 0 (kSeq (fun A K => ev laws_markIntSS_E laws_markIntSS_T 1000 (cB (cB laws_markIntSS_b)) A K) (laws_markIntSS_Ke x0 x1))
noncomputable def laws_markIntSS_x0_0 (d0 : Int) (d1 : List (List Int)) : AS := ⟨[(1, .v (.one (.d true tI d0)))], [(1000000, .arr 32 tIs d1)]⟩
theorem laws_markIntSS_l0 {R : Type} {K : Ex → AS → Option R} {s : laws_markIntSS_t0.D} (n : Nat) {v : Option R} (h : iterG laws_markIntSS_t0 laws_markIntSS_B0 K n s = v) (hv : ∃ r, v = some r) : loopG laws_markIntSS_t0 laws_markIntSS_B0 K s = v := loop_eq (ev_mono _ _) n h hv
theorem laws_markIntSS_main (x0 : List (List Int)) (x1 : Int) : laws_markIntSS_F (x0, (x1, ())) =
 loopG laws_markIntSS_t0 laws_markIntSS_B0 (laws_markIntSS_K0 x0 x1) ((x1, ((0 : Int), ())), (x0, ())) := by kernel_rfl
theorem laws_markIntSS_r0 {R : Type} (K : Ex → AS → Option R) (n : Nat) (t1 : Int) (t5 : Int) (a1000000 : List (List Int)) : iterG laws_markIntSS_t0 laws_markIntSS_B0 K (n + 1) ((t1, (t5, ())), (a1000000, ())) =
 brk (decide (t5 < (a1000000.length : Int)))
 (ck (decide (0 ≤ t5) && decide (t5 < a1000000.length)) ((laws_markIntS_F (rdD tIs a1000000 t5, (t1, ()))).bind fun y17 =>
 iterG laws_markIntSS_t0 laws_markIntSS_B0 K n ((y17.1.1, (IntKind.i64.wrap (t5 + (1 : Int)), ())), (a1000000.set t5.toNat y17.2.1, ()))))
 (K (.exit 0) (laws_markIntSS_x0_0 t1 a1000000)) := by kernel_rfl
theorem laws_markIntSS_e0_0 (x0 : List (List Int)) (x1 : Int) (d0 : Int) (d1 : List (List Int)) : laws_markIntSS_K0 x0 x1 (.exit 0) (laws_markIntSS_x0_0 d0 d1) =
 some ((d0, ()), (d1, ((), ()))) := by kernel_rfl
/-! laws.markMeta -/
noncomputable def laws_markMeta_b : Code := bd Try.f31
def laws_markMeta_T : List (Nat × Tm) := []
noncomputable def laws_markMeta_E : Env := ⟨tt0, [(37, laws_markIntS_C), (105, laws_markIntSS_C)]⟩
noncomputable def laws_markMeta_F : PsD [.inp tMeta, .ro tI] → Option (RsD [.own tI] × PsO [.inp tMeta, .ro tI]) := fun x => evFn laws_markMeta_E laws_markMeta_T Try.f31 laws_markMeta_b [.inp tMeta, .ro tI] [.own tI] x
@[reducible] noncomputable def laws_markMeta_C : Ct := ⟨[.inp tMeta, .ro tI], [.own tI], laws_markMeta_F⟩
theorem laws_markMeta_h (x : PsD [.inp tMeta, .ro tI]) (y : RsD [.own tI] × PsO [.inp tMeta, .ro tI]) (h : laws_markMeta_F x = some y) : evFn laws_markMeta_E laws_markMeta_T Try.f31 laws_markMeta_b [.inp tMeta, .ro tI] [.own tI] x = some y := h
theorem laws_markMeta_c : ∀ f c, get laws_markMeta_E.ct f = some c → Sat Try.prog f c := ct_cons laws_markIntS_S (ct_cons laws_markIntSS_S (ct_nil))
theorem laws_markMeta_S : Sat Try.prog 31 laws_markMeta_C := fn_ok2 (envOk _) laws_markMeta_c mixedOk Try.func31 (by kernel_rfl : Try.f31.body = some laws_markMeta_b) (by kernel_rfl) (by kernel_rfl) laws_markMeta_h
noncomputable def laws_markMeta_Ke  (x0 : List Int × List (List Int) × Bool × Bool × Bool × Int × Unit) (x1 : Int) : Ex → AS → Option (RsD [.own tI] × PsO [.inp tMeta, .ro tI]) := endK laws_markMeta_E Try.f31 [.inp tMeta, .ro tI] [.own tI] (initL [.inp tMeta, .ro tI] (x0, (x1, ())) 0).1
theorem laws_markMeta_main (x0 : List Int × List (List Int) × Bool × Bool × Bool × Int × Unit) (x1 : Int) : laws_markMeta_F (x0, (x1, ())) =
 (laws_markIntS_F (x0.1, (x1, ()))).bind fun y8 =>
 (laws_markIntSS_F (x0.2.1, (y8.1.1, ()))).bind fun y12 =>
 some ((y12.1.1, ()), ((y8.2.1, (y12.2.1, (x0.2.2.1, (x0.2.2.2.1, (x0.2.2.2.2.1, (x0.2.2.2.2.2.1, ())))))), ((), ()))) := by kernel_rfl
/-! laws.heldIntS -/
noncomputable def laws_heldIntS_b : Code := bd Try.f38
@[reducible] def laws_heldIntS_t0 : Tm := ⟨[], [], [(0, .sc true tIs), (1, .sc true tI), (5, .sc true tI)], [], [1, 4], []⟩
def laws_heldIntS_T : List (Nat × Tm) := [(0, laws_heldIntS_t0)]
noncomputable def laws_heldIntS_E : Env := ⟨tt0, []⟩
noncomputable def laws_heldIntS_F : PsD [.ro tIs, .ro tI] → Option (RsD [.own tI] × PsO [.ro tIs, .ro tI]) := fun x => evFn laws_heldIntS_E laws_heldIntS_T Try.f38 laws_heldIntS_b [.ro tIs, .ro tI] [.own tI] x
@[reducible] noncomputable def laws_heldIntS_C : Ct := ⟨[.ro tIs, .ro tI], [.own tI], laws_heldIntS_F⟩
theorem laws_heldIntS_h (x : PsD [.ro tIs, .ro tI]) (y : RsD [.own tI] × PsO [.ro tIs, .ro tI]) (h : laws_heldIntS_F x = some y) : evFn laws_heldIntS_E laws_heldIntS_T Try.f38 laws_heldIntS_b [.ro tIs, .ro tI] [.own tI] x = some y := h
theorem laws_heldIntS_c : ∀ f c, get laws_heldIntS_E.ct f = some c → Sat Try.prog f c := ct_nil
theorem laws_heldIntS_S : Sat Try.prog 38 laws_heldIntS_C := fn_ok2 (envOk _) laws_heldIntS_c mixedOk Try.func38 (by kernel_rfl : Try.f38.body = some laws_heldIntS_b) (by kernel_rfl) (by kernel_rfl) laws_heldIntS_h
noncomputable def laws_heldIntS_Ke  (x0 : List Int) (x1 : Int) : Ex → AS → Option (RsD [.own tI] × PsO [.ro tIs, .ro tI]) := endK laws_heldIntS_E Try.f38 [.ro tIs, .ro tI] [.own tI] (initL [.ro tIs, .ro tI] (x0, (x1, ())) 0).1
noncomputable def laws_heldIntS_B0 {R : Type} : AS → (Ex → AS → Option R) → Option R := fun A K => ev laws_heldIntS_E laws_heldIntS_T 0 (cA (cA (cB (cA (cB laws_heldIntS_b))))) A K
noncomputable def laws_heldIntS_K0  (x0 : List Int) (x1 : Int) : Ex → AS → Option (RsD [.own tI] × PsO [.ro tIs, .ro tI]) := kBlk 0 (kSeq (fun A K => ev laws_heldIntS_E laws_heldIntS_T 1000 (cB (cB laws_heldIntS_b)) A K) (laws_heldIntS_Ke x0 x1))
noncomputable def laws_heldIntS_x0_0 (d0 : Int) (d1 : Int) : AS := ⟨[(1, .v (.one (.d true tI d0))), (4, .v (.one (.d true tI d1)))], []⟩
noncomputable def laws_heldIntS_x0_1 (d0 : Int) : AS := ⟨[(1, .v (.one (.d true tI d0)))], []⟩
theorem laws_heldIntS_l0 {R : Type} {K : Ex → AS → Option R} {s : laws_heldIntS_t0.D} (n : Nat) {v : Option R} (h : iterG laws_heldIntS_t0 laws_heldIntS_B0 K n s = v) (hv : ∃ r, v = some r) : loopG laws_heldIntS_t0 laws_heldIntS_B0 K s = v := loop_eq (ev_mono _ _) n h hv
theorem laws_heldIntS_main (x0 : List Int) (x1 : Int) : laws_heldIntS_F (x0, (x1, ())) =
 loopG laws_heldIntS_t0 laws_heldIntS_B0 (laws_heldIntS_K0 x0 x1) ((x0, (x1, ((0 : Int), ()))), ()) := by kernel_rfl
theorem laws_heldIntS_r0 {R : Type} (K : Ex → AS → Option R) (n : Nat) (t0 : List Int) (t1 : Int) (t5 : Int) : iterG laws_heldIntS_t0 laws_heldIntS_B0 K (n + 1) ((t0, (t1, (t5, ()))), ()) =
 brk (decide (t5 < (t0.length : Int)))
 (ck (decide (0 ≤ t5) && decide (t5 < t0.length)) (brk (!decide (rdD tI t0 t5 = t1))
 (K .ret (laws_heldIntS_x0_0 t1 (-1 : Int)))
 (iterG laws_heldIntS_t0 laws_heldIntS_B0 K n ((t0, (IntKind.i64.wrap (t1 + (1 : Int)), (IntKind.i64.wrap (t5 + (1 : Int)), ()))), ()))))
 (K (.exit 0) (laws_heldIntS_x0_1 t1)) := by kernel_rfl
theorem laws_heldIntS_e0_0 (x0 : List Int) (x1 : Int) (d0 : Int) (d1 : Int) : laws_heldIntS_K0 x0 x1 .ret (laws_heldIntS_x0_0 d0 d1) =
 some ((d1, ()), ((), ((), ()))) := by kernel_rfl
theorem laws_heldIntS_e0_1 (x0 : List Int) (x1 : Int) (d0 : Int) : laws_heldIntS_K0 x0 x1 (.exit 0) (laws_heldIntS_x0_1 d0) =
 some ((d0, ()), ((), ((), ()))) := by kernel_rfl
/-! laws.heldIntSS -/
noncomputable def laws_heldIntSS_b : Code := bd Try.f106
@[reducible] def laws_heldIntSS_t0 : Tm := ⟨[], [], [(0, .sc true tIss), (1, .sc true tI), (5, .sc true tI)], [], [1, 4], []⟩
def laws_heldIntSS_T : List (Nat × Tm) := [(0, laws_heldIntSS_t0)]
noncomputable def laws_heldIntSS_E : Env := ⟨tt0, [(38, laws_heldIntS_C)]⟩
noncomputable def laws_heldIntSS_F : PsD [.ro tIss, .ro tI] → Option (RsD [.own tI] × PsO [.ro tIss, .ro tI]) := fun x => evFn laws_heldIntSS_E laws_heldIntSS_T Try.f106 laws_heldIntSS_b [.ro tIss, .ro tI] [.own tI] x
@[reducible] noncomputable def laws_heldIntSS_C : Ct := ⟨[.ro tIss, .ro tI], [.own tI], laws_heldIntSS_F⟩
theorem laws_heldIntSS_h (x : PsD [.ro tIss, .ro tI]) (y : RsD [.own tI] × PsO [.ro tIss, .ro tI]) (h : laws_heldIntSS_F x = some y) : evFn laws_heldIntSS_E laws_heldIntSS_T Try.f106 laws_heldIntSS_b [.ro tIss, .ro tI] [.own tI] x = some y := h
theorem laws_heldIntSS_c : ∀ f c, get laws_heldIntSS_E.ct f = some c → Sat Try.prog f c := ct_cons laws_heldIntS_S (ct_nil)
theorem laws_heldIntSS_S : Sat Try.prog 106 laws_heldIntSS_C := fn_ok2 (envOk _) laws_heldIntSS_c mixedOk Try.func106 (by kernel_rfl : Try.f106.body = some laws_heldIntSS_b) (by kernel_rfl) (by kernel_rfl) laws_heldIntSS_h
noncomputable def laws_heldIntSS_Ke  (x0 : List (List Int)) (x1 : Int) : Ex → AS → Option (RsD [.own tI] × PsO [.ro tIss, .ro tI]) := endK laws_heldIntSS_E Try.f106 [.ro tIss, .ro tI] [.own tI] (initL [.ro tIss, .ro tI] (x0, (x1, ())) 0).1
noncomputable def laws_heldIntSS_B0 {R : Type} : AS → (Ex → AS → Option R) → Option R := fun A K => ev laws_heldIntSS_E laws_heldIntSS_T 0 (cA (cA (cB (cA (cB laws_heldIntSS_b))))) A K
noncomputable def laws_heldIntSS_K0  (x0 : List (List Int)) (x1 : Int) : Ex → AS → Option (RsD [.own tI] × PsO [.ro tIss, .ro tI]) := kBlk 0 (kSeq (fun A K => ev laws_heldIntSS_E laws_heldIntSS_T 1000 (cB (cB laws_heldIntSS_b)) A K) (laws_heldIntSS_Ke x0 x1))
noncomputable def laws_heldIntSS_x0_0 (d0 : Int) (d1 : Int) : AS := ⟨[(1, .v (.one (.d true tI d0))), (4, .v (.one (.d true tI d1)))], []⟩
noncomputable def laws_heldIntSS_x0_1 (d0 : Int) : AS := ⟨[(1, .v (.one (.d true tI d0)))], []⟩
theorem laws_heldIntSS_l0 {R : Type} {K : Ex → AS → Option R} {s : laws_heldIntSS_t0.D} (n : Nat) {v : Option R} (h : iterG laws_heldIntSS_t0 laws_heldIntSS_B0 K n s = v) (hv : ∃ r, v = some r) : loopG laws_heldIntSS_t0 laws_heldIntSS_B0 K s = v := loop_eq (ev_mono _ _) n h hv
theorem laws_heldIntSS_main (x0 : List (List Int)) (x1 : Int) : laws_heldIntSS_F (x0, (x1, ())) =
 loopG laws_heldIntSS_t0 laws_heldIntSS_B0 (laws_heldIntSS_K0 x0 x1) ((x0, (x1, ((0 : Int), ()))), ()) := by kernel_rfl
theorem laws_heldIntSS_r0 {R : Type} (K : Ex → AS → Option R) (n : Nat) (t0 : List (List Int)) (t1 : Int) (t5 : Int) : iterG laws_heldIntSS_t0 laws_heldIntSS_B0 K (n + 1) ((t0, (t1, (t5, ()))), ()) =
 brk (decide (t5 < (t0.length : Int)))
 (ck (decide (0 ≤ t5) && decide (t5 < t0.length)) ((laws_heldIntS_F (rdD tIs t0 t5, (t1, ()))).bind fun y17 =>
 brk (decide (y17.1.1 < (0 : Int)))
 (K .ret (laws_heldIntSS_x0_0 y17.1.1 (-1 : Int)))
 (iterG laws_heldIntSS_t0 laws_heldIntSS_B0 K n ((t0, (y17.1.1, (IntKind.i64.wrap (t5 + (1 : Int)), ()))), ()))))
 (K (.exit 0) (laws_heldIntSS_x0_1 t1)) := by kernel_rfl
theorem laws_heldIntSS_e0_0 (x0 : List (List Int)) (x1 : Int) (d0 : Int) (d1 : Int) : laws_heldIntSS_K0 x0 x1 .ret (laws_heldIntSS_x0_0 d0 d1) =
 some ((d1, ()), ((), ((), ()))) := by kernel_rfl
theorem laws_heldIntSS_e0_1 (x0 : List (List Int)) (x1 : Int) (d0 : Int) : laws_heldIntSS_K0 x0 x1 (.exit 0) (laws_heldIntSS_x0_1 d0) =
 some ((d0, ()), ((), ((), ()))) := by kernel_rfl
/-! laws.heldMeta -/
noncomputable def laws_heldMeta_b : Code := bd Try.f32
def laws_heldMeta_T : List (Nat × Tm) := []
noncomputable def laws_heldMeta_E : Env := ⟨tt0, [(38, laws_heldIntS_C), (106, laws_heldIntSS_C)]⟩
noncomputable def laws_heldMeta_F : PsD [.ro tMeta, .ro tI] → Option (RsD [.own tI] × PsO [.ro tMeta, .ro tI]) := fun x => evFn laws_heldMeta_E laws_heldMeta_T Try.f32 laws_heldMeta_b [.ro tMeta, .ro tI] [.own tI] x
@[reducible] noncomputable def laws_heldMeta_C : Ct := ⟨[.ro tMeta, .ro tI], [.own tI], laws_heldMeta_F⟩
theorem laws_heldMeta_h (x : PsD [.ro tMeta, .ro tI]) (y : RsD [.own tI] × PsO [.ro tMeta, .ro tI]) (h : laws_heldMeta_F x = some y) : evFn laws_heldMeta_E laws_heldMeta_T Try.f32 laws_heldMeta_b [.ro tMeta, .ro tI] [.own tI] x = some y := h
theorem laws_heldMeta_c : ∀ f c, get laws_heldMeta_E.ct f = some c → Sat Try.prog f c := ct_cons laws_heldIntS_S (ct_cons laws_heldIntSS_S (ct_nil))
theorem laws_heldMeta_S : Sat Try.prog 32 laws_heldMeta_C := fn_ok2 (envOk _) laws_heldMeta_c mixedOk Try.func32 (by kernel_rfl : Try.f32.body = some laws_heldMeta_b) (by kernel_rfl) (by kernel_rfl) laws_heldMeta_h
noncomputable def laws_heldMeta_Ke  (x0 : List Int × List (List Int) × Bool × Bool × Bool × Int × Unit) (x1 : Int) : Ex → AS → Option (RsD [.own tI] × PsO [.ro tMeta, .ro tI]) := endK laws_heldMeta_E Try.f32 [.ro tMeta, .ro tI] [.own tI] (initL [.ro tMeta, .ro tI] (x0, (x1, ())) 0).1
theorem laws_heldMeta_main (x0 : List Int × List (List Int) × Bool × Bool × Bool × Int × Unit) (x1 : Int) : laws_heldMeta_F (x0, (x1, ())) =
 (laws_heldIntS_F (x0.1, (x1, ()))).bind fun y8 =>
 brk (decide (y8.1.1 < (0 : Int)))
 (some (((-1 : Int), ()), ((), ((), ()))))
 ((laws_heldIntSS_F (x0.2.1, (y8.1.1, ()))).bind fun y14 =>
 brk (decide (y14.1.1 < (0 : Int)))
 (some (((-1 : Int), ()), ((), ((), ()))))
 (some ((y14.1.1, ()), ((), ((), ()))))) := by kernel_rfl
/-! laws.FnExactMetaNew -/
noncomputable def laws_FnExactMetaNew_b : Code := bd Try.f4
def laws_FnExactMetaNew_T : List (Nat × Tm) := []
noncomputable def laws_FnExactMetaNew_E : Env := ⟨tt0, [(28, spec_MetaNew_C), (29, impl_MetaNew_C), (30, laws_eqMeta_C), (31, laws_markMeta_C), (32, laws_heldMeta_C)]⟩
noncomputable def laws_FnExactMetaNew_F : PsD [.ro tI] → Option (RsD [.own tB] × PsO [.ro tI]) := fun x => evFn laws_FnExactMetaNew_E laws_FnExactMetaNew_T Try.f4 laws_FnExactMetaNew_b [.ro tI] [.own tB] x
@[reducible] noncomputable def laws_FnExactMetaNew_C : Ct := ⟨[.ro tI], [.own tB], laws_FnExactMetaNew_F⟩
theorem laws_FnExactMetaNew_h (x : PsD [.ro tI]) (y : RsD [.own tB] × PsO [.ro tI]) (h : laws_FnExactMetaNew_F x = some y) : evFn laws_FnExactMetaNew_E laws_FnExactMetaNew_T Try.f4 laws_FnExactMetaNew_b [.ro tI] [.own tB] x = some y := h
theorem laws_FnExactMetaNew_c : ∀ f c, get laws_FnExactMetaNew_E.ct f = some c → Sat Try.prog f c := ct_cons spec_MetaNew_S (ct_cons impl_MetaNew_S (ct_cons laws_eqMeta_S (ct_cons laws_markMeta_S (ct_cons laws_heldMeta_S (ct_nil)))))
theorem laws_FnExactMetaNew_S : Sat Try.prog 4 laws_FnExactMetaNew_C := fn_ok2 (envOk _) laws_FnExactMetaNew_c mixedOk Try.func4 (by kernel_rfl : Try.f4.body = some laws_FnExactMetaNew_b) (by kernel_rfl) (by kernel_rfl) laws_FnExactMetaNew_h
noncomputable def laws_FnExactMetaNew_Ke  (x0 : Int) : Ex → AS → Option (RsD [.own tB] × PsO [.ro tI]) := endK laws_FnExactMetaNew_E Try.f4 [.ro tI] [.own tB] (initL [.ro tI] (x0, ()) 0).1
theorem laws_FnExactMetaNew_main (x0 : Int) : laws_FnExactMetaNew_F (x0, ()) =
 (spec_MetaNew_F (x0, ())).bind fun y9 =>
 (impl_MetaNew_F (x0, ())).bind fun y11 =>
 (laws_eqMeta_F ((y11.1.1.1, (y11.1.1.2.1, (y11.1.1.2.2.1, (y11.1.1.2.2.2.1, (y11.1.1.2.2.2.2.1, (y11.1.1.2.2.2.2.2.1, ())))))), ((y9.1.1.1, (y9.1.1.2.1, (y9.1.1.2.2.1, (y9.1.1.2.2.2.1, (y9.1.1.2.2.2.2.1, (y9.1.1.2.2.2.2.2.1, ())))))), ()))).bind fun y14 =>
 brk (!y14.1.1)
 (some ((false, ()), ((), ())))
 ((laws_markMeta_F ((y11.1.1.1, (y11.1.1.2.1, (y11.1.1.2.2.1, (y11.1.1.2.2.2.1, (y11.1.1.2.2.2.2.1, (y11.1.1.2.2.2.2.2.1, ())))))), ((1 : Int), ()))).bind fun y18 =>
 (laws_heldMeta_F ((y18.2.1.1, (y18.2.1.2.1, (y11.1.1.2.2.1, (y11.1.1.2.2.2.1, (y11.1.1.2.2.2.2.1, (y11.1.1.2.2.2.2.2.1, ())))))), ((1 : Int), ()))).bind fun y21 =>
 brk (decide (y21.1.1 < (0 : Int)))
 (some ((false, ()), ((), ())))
 (brk (!decide (y21.1.1 = y18.1.1))
 (some ((false, ()), ((), ())))
 ((impl_MetaNew_F (x0, ())).bind fun y28 =>
 (laws_eqMeta_F ((y28.1.1.1, (y28.1.1.2.1, (y28.1.1.2.2.1, (y28.1.1.2.2.2.1, (y28.1.1.2.2.2.2.1, (y28.1.1.2.2.2.2.2.1, ())))))), ((y9.1.1.1, (y9.1.1.2.1, (y9.1.1.2.2.1, (y9.1.1.2.2.2.1, (y9.1.1.2.2.2.2.1, (y9.1.1.2.2.2.2.2.1, ())))))), ()))).bind fun y31 =>
 brk (!y31.1.1)
 (some ((false, ()), ((), ())))
 ((laws_heldMeta_F ((y18.2.1.1, (y18.2.1.2.1, (y11.1.1.2.2.1, (y11.1.1.2.2.2.1, (y11.1.1.2.2.2.2.1, (y11.1.1.2.2.2.2.2.1, ())))))), ((1 : Int), ()))).bind fun y35 =>
 brk (decide (y35.1.1 < (0 : Int)))
 (some ((false, ()), ((), ())))
 (brk (!decide (y35.1.1 = y18.1.1))
 (some ((false, ()), ((), ())))
 (some ((true, ()), ((), ())))))))) := by kernel_rfl
end Go.Refl
