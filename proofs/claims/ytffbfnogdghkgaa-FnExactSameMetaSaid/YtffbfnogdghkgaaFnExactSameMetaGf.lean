/- Functions of the program, told by the evaluator: printed by a program of this claim. No condition. -/
import Derived.Test.YtffbfnogdghkgaaFnExactSameMetaGt
namespace Go.Refl
open Go.RowKit Go.Proofs
set_option linter.unusedVariables false
set_option maxRecDepth 100000
/-! laws.szIntS -/
noncomputable def laws_szIntS_b : Code := bd Try.f66
def laws_szIntS_T : List (Nat × Tm) := []
noncomputable def laws_szIntS_E : Env := ⟨tt0, []⟩
noncomputable def laws_szIntS_F : PsD [.ro tIs, .ro tI] → Option (RsD [.own tI] × PsO [.ro tIs, .ro tI]) := fun x => evFn laws_szIntS_E laws_szIntS_T Try.f66 laws_szIntS_b [.ro tIs, .ro tI] [.own tI] x
@[reducible] noncomputable def laws_szIntS_C : Ct := ⟨[.ro tIs, .ro tI], [.own tI], laws_szIntS_F⟩
theorem laws_szIntS_h (x : PsD [.ro tIs, .ro tI]) (y : RsD [.own tI] × PsO [.ro tIs, .ro tI]) (h : laws_szIntS_F x = some y) : evFn laws_szIntS_E laws_szIntS_T Try.f66 laws_szIntS_b [.ro tIs, .ro tI] [.own tI] x = some y := h
theorem laws_szIntS_c : ∀ f c, get laws_szIntS_E.ct f = some c → Sat Try.prog f c := ct_nil
theorem laws_szIntS_S : Sat Try.prog 66 laws_szIntS_C := fn_ok2 (envOk _) laws_szIntS_c mixedOk Try.func66 (by kernel_rfl : Try.f66.body = some laws_szIntS_b) (by kernel_rfl) (by kernel_rfl) laws_szIntS_h
noncomputable def laws_szIntS_Ke  (x0 : List Int) (x1 : Int) : Ex → AS → Option (RsD [.own tI] × PsO [.ro tIs, .ro tI]) := endK laws_szIntS_E Try.f66 [.ro tIs, .ro tI] [.own tI] (initL [.ro tIs, .ro tI] (x0, (x1, ())) 0).1
theorem laws_szIntS_main (x0 : List Int) (x1 : Int) : laws_szIntS_F (x0, (x1, ())) =
 brk (decide (IntKind.i64.wrap (x1 - (x0.length : Int)) < (0 : Int)))
 (some (((-1 : Int), ()), ((), ((), ()))))
 (some ((IntKind.i64.wrap (x1 - (x0.length : Int)), ()), ((), ((), ())))) := by kernel_rfl
/-! laws.szIntSS -/
noncomputable def laws_szIntSS_b : Code := bd Try.f75
@[reducible] def laws_szIntSS_t0 : Tm := ⟨[], [], [(0, .sc true tIss), (1, .sc true tI), (5, .sc true tI)], [], [1, 4], []⟩
def laws_szIntSS_T : List (Nat × Tm) := [(0, laws_szIntSS_t0)]
noncomputable def laws_szIntSS_E : Env := ⟨tt0, [(66, laws_szIntS_C)]⟩
noncomputable def laws_szIntSS_F : PsD [.ro tIss, .ro tI] → Option (RsD [.own tI] × PsO [.ro tIss, .ro tI]) := fun x => evFn laws_szIntSS_E laws_szIntSS_T Try.f75 laws_szIntSS_b [.ro tIss, .ro tI] [.own tI] x
@[reducible] noncomputable def laws_szIntSS_C : Ct := ⟨[.ro tIss, .ro tI], [.own tI], laws_szIntSS_F⟩
theorem laws_szIntSS_h (x : PsD [.ro tIss, .ro tI]) (y : RsD [.own tI] × PsO [.ro tIss, .ro tI]) (h : laws_szIntSS_F x = some y) : evFn laws_szIntSS_E laws_szIntSS_T Try.f75 laws_szIntSS_b [.ro tIss, .ro tI] [.own tI] x = some y := h
theorem laws_szIntSS_c : ∀ f c, get laws_szIntSS_E.ct f = some c → Sat Try.prog f c := ct_cons laws_szIntS_S (ct_nil)
theorem laws_szIntSS_S : Sat Try.prog 75 laws_szIntSS_C := fn_ok2 (envOk _) laws_szIntSS_c mixedOk Try.func75 (by kernel_rfl : Try.f75.body = some laws_szIntSS_b) (by kernel_rfl) (by kernel_rfl) laws_szIntSS_h
noncomputable def laws_szIntSS_Ke  (x0 : List (List Int)) (x1 : Int) : Ex → AS → Option (RsD [.own tI] × PsO [.ro tIss, .ro tI]) := endK laws_szIntSS_E Try.f75 [.ro tIss, .ro tI] [.own tI] (initL [.ro tIss, .ro tI] (x0, (x1, ())) 0).1
noncomputable def laws_szIntSS_B0 {R : Type} : AS → (Ex → AS → Option R) → Option R := fun A K => ev laws_szIntSS_E laws_szIntSS_T 0 (cA (cA (cB (cA (cB (cB (cB laws_szIntSS_b))))))) A K
noncomputable def laws_szIntSS_K0  (x0 : List (List Int)) (x1 : Int) : Ex → AS → Option (RsD [.own tI] × PsO [.ro tIss, .ro tI]) := kBlk 0 (kSeq (fun A K => ev laws_szIntSS_E laws_szIntSS_T 1000 (cB (cB (cB (cB laws_szIntSS_b)))) A K) (laws_szIntSS_Ke x0 x1))
noncomputable def laws_szIntSS_x0_0 (d0 : Int) (d1 : Int) : AS := ⟨[(1, .v (.one (.d true tI d0))), (4, .v (.one (.d true tI d1)))], []⟩
noncomputable def laws_szIntSS_x0_1 (d0 : Int) : AS := ⟨[(1, .v (.one (.d true tI d0)))], []⟩
theorem laws_szIntSS_l0 {R : Type} {K : Ex → AS → Option R} {s : laws_szIntSS_t0.D} (n : Nat) {v : Option R} (h : iterG laws_szIntSS_t0 laws_szIntSS_B0 K n s = v) (hv : ∃ r, v = some r) : loopG laws_szIntSS_t0 laws_szIntSS_B0 K s = v := loop_eq (ev_mono _ _) n h hv
theorem laws_szIntSS_main (x0 : List (List Int)) (x1 : Int) : laws_szIntSS_F (x0, (x1, ())) =
 brk (decide (IntKind.i64.wrap (x1 - (x0.length : Int)) < (0 : Int)))
 (some (((-1 : Int), ()), ((), ((), ()))))
 (loopG laws_szIntSS_t0 laws_szIntSS_B0 (laws_szIntSS_K0 x0 x1) ((x0, (IntKind.i64.wrap (x1 - (x0.length : Int)), ((0 : Int), ()))), ())) := by kernel_rfl
theorem laws_szIntSS_r0 {R : Type} (K : Ex → AS → Option R) (n : Nat) (t0 : List (List Int)) (t1 : Int) (t5 : Int) : iterG laws_szIntSS_t0 laws_szIntSS_B0 K (n + 1) ((t0, (t1, (t5, ()))), ()) =
 brk (decide (t5 < (t0.length : Int)))
 (ck (decide (0 ≤ t5) && decide (t5 < t0.length)) ((laws_szIntS_F (rdD tIs t0 t5, (t1, ()))).bind fun y23 =>
 brk (decide (y23.1.1 < (0 : Int)))
 (K .ret (laws_szIntSS_x0_0 y23.1.1 (-1 : Int)))
 (iterG laws_szIntSS_t0 laws_szIntSS_B0 K n ((t0, (y23.1.1, (IntKind.i64.wrap (t5 + (1 : Int)), ()))), ()))))
 (K (.exit 0) (laws_szIntSS_x0_1 t1)) := by kernel_rfl
theorem laws_szIntSS_e0_0 (x0 : List (List Int)) (x1 : Int) (d0 : Int) (d1 : Int) : laws_szIntSS_K0 x0 x1 .ret (laws_szIntSS_x0_0 d0 d1) =
 some ((d1, ()), ((), ((), ()))) := by kernel_rfl
theorem laws_szIntSS_e0_1 (x0 : List (List Int)) (x1 : Int) (d0 : Int) : laws_szIntSS_K0 x0 x1 (.exit 0) (laws_szIntSS_x0_1 d0) =
 some ((d0, ()), ((), ((), ()))) := by kernel_rfl
/-! laws.szMeta -/
noncomputable def laws_szMeta_b : Code := bd Try.f24
def laws_szMeta_T : List (Nat × Tm) := []
noncomputable def laws_szMeta_E : Env := ⟨tt0, [(66, laws_szIntS_C), (75, laws_szIntSS_C)]⟩
noncomputable def laws_szMeta_F : PsD [.ro tMeta, .ro tI] → Option (RsD [.own tI] × PsO [.ro tMeta, .ro tI]) := fun x => evFn laws_szMeta_E laws_szMeta_T Try.f24 laws_szMeta_b [.ro tMeta, .ro tI] [.own tI] x
@[reducible] noncomputable def laws_szMeta_C : Ct := ⟨[.ro tMeta, .ro tI], [.own tI], laws_szMeta_F⟩
theorem laws_szMeta_h (x : PsD [.ro tMeta, .ro tI]) (y : RsD [.own tI] × PsO [.ro tMeta, .ro tI]) (h : laws_szMeta_F x = some y) : evFn laws_szMeta_E laws_szMeta_T Try.f24 laws_szMeta_b [.ro tMeta, .ro tI] [.own tI] x = some y := h
theorem laws_szMeta_c : ∀ f c, get laws_szMeta_E.ct f = some c → Sat Try.prog f c := ct_cons laws_szIntS_S (ct_cons laws_szIntSS_S (ct_nil))
theorem laws_szMeta_S : Sat Try.prog 24 laws_szMeta_C := fn_ok2 (envOk _) laws_szMeta_c mixedOk Try.func24 (by kernel_rfl : Try.f24.body = some laws_szMeta_b) (by kernel_rfl) (by kernel_rfl) laws_szMeta_h
noncomputable def laws_szMeta_Ke  (x0 : List Int × List (List Int) × Bool × Bool × Bool × Int × Unit) (x1 : Int) : Ex → AS → Option (RsD [.own tI] × PsO [.ro tMeta, .ro tI]) := endK laws_szMeta_E Try.f24 [.ro tMeta, .ro tI] [.own tI] (initL [.ro tMeta, .ro tI] (x0, (x1, ())) 0).1
theorem laws_szMeta_main (x0 : List Int × List (List Int) × Bool × Bool × Bool × Int × Unit) (x1 : Int) : laws_szMeta_F (x0, (x1, ())) =
 (laws_szIntS_F (x0.1, (x1, ()))).bind fun y8 =>
 brk (decide (y8.1.1 < (0 : Int)))
 (some (((-1 : Int), ()), ((), ((), ()))))
 ((laws_szIntSS_F (x0.2.1, (y8.1.1, ()))).bind fun y14 =>
 brk (decide (y14.1.1 < (0 : Int)))
 (some (((-1 : Int), ()), ((), ((), ()))))
 (some ((y14.1.1, ()), ((), ((), ()))))) := by kernel_rfl
/-! spec.l5Same -/
noncomputable def spec_l5Same_b : Code := bd Try.f76
@[reducible] def spec_l5Same_t0 : Tm := ⟨[], [], [(0, .sc true tIs), (1, .sc true tIs), (5, .sc true tI)], [], [0, 1, 4], []⟩
def spec_l5Same_T : List (Nat × Tm) := [(0, spec_l5Same_t0)]
noncomputable def spec_l5Same_E : Env := ⟨tt0, []⟩
noncomputable def spec_l5Same_F : PsD [.ro tIs, .ro tIs] → Option (RsD [.own tB] × PsO [.ro tIs, .ro tIs]) := fun x => evFn spec_l5Same_E spec_l5Same_T Try.f76 spec_l5Same_b [.ro tIs, .ro tIs] [.own tB] x
@[reducible] noncomputable def spec_l5Same_C : Ct := ⟨[.ro tIs, .ro tIs], [.own tB], spec_l5Same_F⟩
theorem spec_l5Same_h (x : PsD [.ro tIs, .ro tIs]) (y : RsD [.own tB] × PsO [.ro tIs, .ro tIs]) (h : spec_l5Same_F x = some y) : evFn spec_l5Same_E spec_l5Same_T Try.f76 spec_l5Same_b [.ro tIs, .ro tIs] [.own tB] x = some y := h
theorem spec_l5Same_c : ∀ f c, get spec_l5Same_E.ct f = some c → Sat Try.prog f c := ct_nil
theorem spec_l5Same_S : Sat Try.prog 76 spec_l5Same_C := fn_ok2 (envOk _) spec_l5Same_c mixedOk Try.func76 (by kernel_rfl : Try.f76.body = some spec_l5Same_b) (by kernel_rfl) (by kernel_rfl) spec_l5Same_h
noncomputable def spec_l5Same_Ke  (x0 : List Int) (x1 : List Int) : Ex → AS → Option (RsD [.own tB] × PsO [.ro tIs, .ro tIs]) := endK spec_l5Same_E Try.f76 [.ro tIs, .ro tIs] [.own tB] (initL [.ro tIs, .ro tIs] (x0, (x1, ())) 0).1
noncomputable def spec_l5Same_B0 {R : Type} : AS → (Ex → AS → Option R) → Option R := fun A K => ev spec_l5Same_E spec_l5Same_T 0 (cA (cA (cB (cA (cB spec_l5Same_b))))) A K
noncomputable def spec_l5Same_K0  (x0 : List Int) (x1 : List Int) : Ex → AS → Option (RsD [.own tB] × PsO [.ro tIs, .ro tIs]) := kBlk 0 (kSeq (fun A K => ev spec_l5Same_E spec_l5Same_T 1000 (cB (cB spec_l5Same_b)) A K) (spec_l5Same_Ke x0 x1))
noncomputable def spec_l5Same_x0_0 (d0 : List Int) (d1 : List Int) (d2 : Bool) : AS := ⟨[(0, .v (.one (.d true tIs d0))), (1, .v (.one (.d true tIs d1))), (4, .v (.one (.d true tB d2)))], []⟩
noncomputable def spec_l5Same_x0_1 (d0 : List Int) (d1 : List Int) : AS := ⟨[(0, .v (.one (.d true tIs d0))), (1, .v (.one (.d true tIs d1)))], []⟩
theorem spec_l5Same_l0 {R : Type} {K : Ex → AS → Option R} {s : spec_l5Same_t0.D} (n : Nat) {v : Option R} (h : iterG spec_l5Same_t0 spec_l5Same_B0 K n s = v) (hv : ∃ r, v = some r) : loopG spec_l5Same_t0 spec_l5Same_B0 K s = v := loop_eq (ev_mono _ _) n h hv
theorem spec_l5Same_main (x0 : List Int) (x1 : List Int) : spec_l5Same_F (x0, (x1, ())) =
 loopG spec_l5Same_t0 spec_l5Same_B0 (spec_l5Same_K0 x0 x1) ((x0, (x1, ((0 : Int), ()))), ()) := by kernel_rfl
theorem spec_l5Same_r0 {R : Type} (K : Ex → AS → Option R) (n : Nat) (t0 : List Int) (t1 : List Int) (t5 : Int) : iterG spec_l5Same_t0 spec_l5Same_B0 K (n + 1) ((t0, (t1, (t5, ()))), ()) =
 brk (decide (t5 < (t0.length : Int)))
 (brk (decide (t5 < (t1.length : Int)))
 (ck (decide (0 ≤ t5) && decide (t5 < t0.length)) (ck (decide (0 ≤ t5) && decide (t5 < t1.length)) (brk (!decide (rdD tI t0 t5 = rdD tI t1 t5))
 (K .ret (spec_l5Same_x0_0 t0 t1 false))
 (iterG spec_l5Same_t0 spec_l5Same_B0 K n ((t0, (t1, (IntKind.i64.wrap (t5 + (1 : Int)), ()))), ())))))
 (K (.exit 0) (spec_l5Same_x0_1 t0 t1)))
 (K (.exit 0) (spec_l5Same_x0_1 t0 t1)) := by kernel_rfl
theorem spec_l5Same_e0_0 (x0 : List Int) (x1 : List Int) (d0 : List Int) (d1 : List Int) (d2 : Bool) : spec_l5Same_K0 x0 x1 .ret (spec_l5Same_x0_0 d0 d1 d2) =
 some ((d2, ()), ((), ((), ()))) := by kernel_rfl
theorem spec_l5Same_e0_1 (x0 : List Int) (x1 : List Int) (d0 : List Int) (d1 : List Int) : spec_l5Same_K0 x0 x1 (.exit 0) (spec_l5Same_x0_1 d0 d1) =
 some ((decide ((d0.length : Int) = (d1.length : Int)), ()), ((), ((), ()))) := by kernel_rfl
/-! spec.SameMeta -/
noncomputable def spec_SameMeta_b : Code := bd Try.f25
@[reducible] def spec_SameMeta_t0 : Tm := ⟨[], [], [(2, .ptr 32 0), (3, .ptr 48 0), (5, .sc true tI)], [(32, .box [.sc true tIs, .sc true tIss, .sc true tB, .sc true tB, .sc true tB, .sc true tI]), (48, .box [.sc true tIs, .sc true tIss, .sc true tB, .sc true tB, .sc true tB, .sc true tI])], [4], []⟩
def spec_SameMeta_T : List (Nat × Tm) := [(0, spec_SameMeta_t0)]
noncomputable def spec_SameMeta_E : Env := ⟨tt0, [(76, spec_l5Same_C)]⟩
noncomputable def spec_SameMeta_F : PsD [.ro tMeta, .ro tMeta] → Option (RsD [.own tB] × PsO [.ro tMeta, .ro tMeta]) := fun x => evFn spec_SameMeta_E spec_SameMeta_T Try.f25 spec_SameMeta_b [.ro tMeta, .ro tMeta] [.own tB] x
@[reducible] noncomputable def spec_SameMeta_C : Ct := ⟨[.ro tMeta, .ro tMeta], [.own tB], spec_SameMeta_F⟩
theorem spec_SameMeta_h (x : PsD [.ro tMeta, .ro tMeta]) (y : RsD [.own tB] × PsO [.ro tMeta, .ro tMeta]) (h : spec_SameMeta_F x = some y) : evFn spec_SameMeta_E spec_SameMeta_T Try.f25 spec_SameMeta_b [.ro tMeta, .ro tMeta] [.own tB] x = some y := h
theorem spec_SameMeta_c : ∀ f c, get spec_SameMeta_E.ct f = some c → Sat Try.prog f c := ct_cons spec_l5Same_S (ct_nil)
theorem spec_SameMeta_S : Sat Try.prog 25 spec_SameMeta_C := fn_ok2 (envOk _) spec_SameMeta_c mixedOk Try.func25 (by kernel_rfl : Try.f25.body = some spec_SameMeta_b) (by kernel_rfl) (by kernel_rfl) spec_SameMeta_h
noncomputable def spec_SameMeta_Ke  (x0 : List Int × List (List Int) × Bool × Bool × Bool × Int × Unit) (x1 : List Int × List (List Int) × Bool × Bool × Bool × Int × Unit) : Ex → AS → Option (RsD [.own tB] × PsO [.ro tMeta, .ro tMeta]) := endK spec_SameMeta_E Try.f25 [.ro tMeta, .ro tMeta] [.own tB] (initL [.ro tMeta, .ro tMeta] (x0, (x1, ())) 0).1
noncomputable def spec_SameMeta_B0 {R : Type} : AS → (Ex → AS → Option R) → Option R := fun A K => ev spec_SameMeta_E spec_SameMeta_T 0 (cA (cA (cB (cA (cB (cB spec_SameMeta_b)))))) A K
noncomputable def spec_SameMeta_K0  (x0 : List Int × List (List Int) × Bool × Bool × Bool × Int × Unit) (x1 : List Int × List (List Int) × Bool × Bool × Bool × Int × Unit) : Ex → AS → Option (RsD [.own tB] × PsO [.ro tMeta, .ro tMeta]) := kBlk 0 (kSeq (fun A K => ev spec_SameMeta_E spec_SameMeta_T 1000 (cB (cB (cB spec_SameMeta_b))) A K) (spec_SameMeta_Ke x0 x1))
noncomputable def spec_SameMeta_x0_0 (d0 : Bool) : AS := ⟨[(4, .v (.one (.d true tB d0)))], []⟩
noncomputable def spec_SameMeta_x0_1 : AS := ⟨[], []⟩
theorem spec_SameMeta_l0 {R : Type} {K : Ex → AS → Option R} {s : spec_SameMeta_t0.D} (n : Nat) {v : Option R} (h : iterG spec_SameMeta_t0 spec_SameMeta_B0 K n s = v) (hv : ∃ r, v = some r) : loopG spec_SameMeta_t0 spec_SameMeta_B0 K s = v := loop_eq (ev_mono _ _) n h hv
theorem spec_SameMeta_main (x0 : List Int × List (List Int) × Bool × Bool × Bool × Int × Unit) (x1 : List Int × List (List Int) × Bool × Bool × Bool × Int × Unit) : spec_SameMeta_F (x0, (x1, ())) =
 brk (!decide ((x0.2.1.length : Int) = (x1.2.1.length : Int)))
 (some ((false, ()), ((), ((), ()))))
 ((spec_l5Same_F (x0.1, (x1.1, ()))).bind fun y18 =>
 brk (!y18.1.1)
 (some ((false, ()), ((), ((), ()))))
 (brk (!(x0.2.2.1 == x1.2.2.1))
 (some ((false, ()), ((), ((), ()))))
 (brk (!(x0.2.2.2.1 == x1.2.2.2.1))
 (some ((false, ()), ((), ((), ()))))
 (brk (!(x0.2.2.2.2.1 == x1.2.2.2.2.1))
 (some ((false, ()), ((), ((), ()))))
 (brk (!decide (x0.2.2.2.2.2.1 = x1.2.2.2.2.2.1))
 (some ((false, ()), ((), ((), ()))))
 (loopG spec_SameMeta_t0 spec_SameMeta_B0 (spec_SameMeta_K0 x0 x1) (((0 : Int), ()), ((x0.1, (x0.2.1, (x0.2.2.1, (x0.2.2.2.1, (x0.2.2.2.2.1, (x0.2.2.2.2.2.1, ())))))), ((x1.1, (x1.2.1, (x1.2.2.1, (x1.2.2.2.1, (x1.2.2.2.2.1, (x1.2.2.2.2.2.1, ())))))), ()))))))))) := by kernel_rfl
theorem spec_SameMeta_r0 {R : Type} (K : Ex → AS → Option R) (n : Nat) (t5 : Int) (b32_0 : List Int) (b32_1 : List (List Int)) (b32_2 : Bool) (b32_3 : Bool) (b32_4 : Bool) (b32_5 : Int) (b48_0 : List Int) (b48_1 : List (List Int)) (b48_2 : Bool) (b48_3 : Bool) (b48_4 : Bool) (b48_5 : Int) : iterG spec_SameMeta_t0 spec_SameMeta_B0 K (n + 1) ((t5, ()), ((b32_0, (b32_1, (b32_2, (b32_3, (b32_4, (b32_5, ())))))), ((b48_0, (b48_1, (b48_2, (b48_3, (b48_4, (b48_5, ())))))), ()))) =
 brk (decide (t5 < (b32_1.length : Int)))
 (ck (decide (0 ≤ t5) && decide (t5 < b32_1.length)) (ck (decide (0 ≤ t5) && decide (t5 < b48_1.length)) ((spec_l5Same_F (rdD tIs b32_1 t5, (rdD tIs b48_1 t5, ()))).bind fun y66 =>
 brk (!y66.1.1)
 (K .ret (spec_SameMeta_x0_0 false))
 (iterG spec_SameMeta_t0 spec_SameMeta_B0 K n ((IntKind.i64.wrap (t5 + (1 : Int)), ()), ((b32_0, (b32_1, (b32_2, (b32_3, (b32_4, (b32_5, ())))))), ((b48_0, (b48_1, (b48_2, (b48_3, (b48_4, (b48_5, ())))))), ())))))))
 (K (.exit 0) (spec_SameMeta_x0_1)) := by kernel_rfl
theorem spec_SameMeta_e0_0 (x0 : List Int × List (List Int) × Bool × Bool × Bool × Int × Unit) (x1 : List Int × List (List Int) × Bool × Bool × Bool × Int × Unit) (d0 : Bool) : spec_SameMeta_K0 x0 x1 .ret (spec_SameMeta_x0_0 d0) =
 some ((d0, ()), ((), ((), ()))) := by kernel_rfl
theorem spec_SameMeta_e0_1 (x0 : List Int × List (List Int) × Bool × Bool × Bool × Int × Unit) (x1 : List Int × List (List Int) × Bool × Bool × Bool × Int × Unit) : spec_SameMeta_K0 x0 x1 (.exit 0) (spec_SameMeta_x0_1) =
 some ((true, ()), ((), ((), ()))) := by kernel_rfl
/-! laws.toIntS -/
noncomputable def laws_toIntS_b : Code := bd Try.f14
@[reducible] def laws_toIntS_t0 : Tm := ⟨[], [], [(0, .sc true tIs), (3, .own 112), (4, .sc true tI)], [(112, .arr 3 tI)], [3], [112]⟩
def laws_toIntS_T : List (Nat × Tm) := [(0, laws_toIntS_t0)]
noncomputable def laws_toIntS_E : Env := ⟨tt0, []⟩
noncomputable def laws_toIntS_F : PsD [.ro tIs] → Option (RsD [.own tIs] × PsO [.ro tIs]) := fun x => evFn laws_toIntS_E laws_toIntS_T Try.f14 laws_toIntS_b [.ro tIs] [.own tIs] x
@[reducible] noncomputable def laws_toIntS_C : Ct := ⟨[.ro tIs], [.own tIs], laws_toIntS_F⟩
theorem laws_toIntS_h (x : PsD [.ro tIs]) (y : RsD [.own tIs] × PsO [.ro tIs]) (h : laws_toIntS_F x = some y) : evFn laws_toIntS_E laws_toIntS_T Try.f14 laws_toIntS_b [.ro tIs] [.own tIs] x = some y := h
theorem laws_toIntS_c : ∀ f c, get laws_toIntS_E.ct f = some c → Sat Try.prog f c := ct_nil
theorem laws_toIntS_S : Sat Try.prog 14 laws_toIntS_C := fn_ok2 (envOk _) laws_toIntS_c mixedOk Try.func14 (by kernel_rfl : Try.f14.body = some laws_toIntS_b) (by kernel_rfl) (by kernel_rfl) laws_toIntS_h
noncomputable def laws_toIntS_Ke  (x0 : List Int) : Ex → AS → Option (RsD [.own tIs] × PsO [.ro tIs]) := endK laws_toIntS_E Try.f14 [.ro tIs] [.own tIs] (initL [.ro tIs] (x0, ()) 0).1
noncomputable def laws_toIntS_B0 {R : Type} : AS → (Ex → AS → Option R) → Option R := fun A K => ev laws_toIntS_E laws_toIntS_T 0 (cA (cA (cB (cA (cB (cB laws_toIntS_b)))))) A K
noncomputable def laws_toIntS_K0  (x0 : List Int) : Ex → AS → Option (RsD [.own tIs] × PsO [.ro tIs]) := kBlk 0 (kSeq (fun A K => ev laws_toIntS_E laws_toIntS_T 1000 (cB (cB (cB laws_toIntS_b))) A K) (laws_toIntS_Ke x0))
noncomputable def laws_toIntS_x0_0 (d0 : List Int) : AS := ⟨[(3, .v (.one (.own 112)))], [(112, .arr 3 tI d0)]⟩
theorem laws_toIntS_l0 {R : Type} {K : Ex → AS → Option R} {s : laws_toIntS_t0.D} (n : Nat) {v : Option R} (h : iterG laws_toIntS_t0 laws_toIntS_B0 K n s = v) (hv : ∃ r, v = some r) : loopG laws_toIntS_t0 laws_toIntS_B0 K s = v := loop_eq (ev_mono _ _) n h hv
theorem laws_toIntS_main (x0 : List Int) : laws_toIntS_F (x0, ()) =
 ck (decide (0 ≤ (x0.length : Int)) && decide ((x0.length : Int) = (x0.length : Int)) && decide ((x0.length : Int) * (8 : Int) ≤ 140737488355328) && decide ((x0.length : Int) ≤ 140737488355328)) (loopG laws_toIntS_t0 laws_toIntS_B0 (laws_toIntS_K0 x0) ((x0, ((0 : Int), ())), (List.replicate (x0.length : Int).toNat tI.zero, ()))) := by kernel_rfl
theorem laws_toIntS_r0 {R : Type} (K : Ex → AS → Option R) (n : Nat) (t0 : List Int) (t4 : Int) (a112 : List Int) : iterG laws_toIntS_t0 laws_toIntS_B0 K (n + 1) ((t0, (t4, ())), (a112, ())) =
 brk (decide (t4 < (t0.length : Int)))
 (ck (decide (0 ≤ t4) && decide (t4 < t0.length)) (ck (decide (0 ≤ t4) && decide (t4 < a112.length)) (iterG laws_toIntS_t0 laws_toIntS_B0 K n ((t0, (IntKind.i64.wrap (t4 + (1 : Int)), ())), (a112.set t4.toNat (rdD tI t0 t4), ())))))
 (K (.exit 0) (laws_toIntS_x0_0 a112)) := by kernel_rfl
theorem laws_toIntS_e0_0 (x0 : List Int) (d0 : List Int) : laws_toIntS_K0 x0 (.exit 0) (laws_toIntS_x0_0 d0) =
 some ((d0, ()), ((), ())) := by kernel_rfl
/-! laws.toIntSS -/
noncomputable def laws_toIntSS_b : Code := bd Try.f77
@[reducible] def laws_toIntSS_t0 : Tm := ⟨[], [], [(0, .sc true tIss), (3, .own 112), (4, .sc true tI)], [(112, .arr 24 tIs)], [3], [112]⟩
def laws_toIntSS_T : List (Nat × Tm) := [(0, laws_toIntSS_t0)]
noncomputable def laws_toIntSS_E : Env := ⟨tt0, [(14, laws_toIntS_C)]⟩
noncomputable def laws_toIntSS_F : PsD [.ro tIss] → Option (RsD [.own tIss] × PsO [.ro tIss]) := fun x => evFn laws_toIntSS_E laws_toIntSS_T Try.f77 laws_toIntSS_b [.ro tIss] [.own tIss] x
@[reducible] noncomputable def laws_toIntSS_C : Ct := ⟨[.ro tIss], [.own tIss], laws_toIntSS_F⟩
theorem laws_toIntSS_h (x : PsD [.ro tIss]) (y : RsD [.own tIss] × PsO [.ro tIss]) (h : laws_toIntSS_F x = some y) : evFn laws_toIntSS_E laws_toIntSS_T Try.f77 laws_toIntSS_b [.ro tIss] [.own tIss] x = some y := h
theorem laws_toIntSS_c : ∀ f c, get laws_toIntSS_E.ct f = some c → Sat Try.prog f c := ct_cons laws_toIntS_S (ct_nil)
theorem laws_toIntSS_S : Sat Try.prog 77 laws_toIntSS_C := fn_ok2 (envOk _) laws_toIntSS_c mixedOk Try.func77 (by kernel_rfl : Try.f77.body = some laws_toIntSS_b) (by kernel_rfl) (by kernel_rfl) laws_toIntSS_h
noncomputable def laws_toIntSS_Ke  (x0 : List (List Int)) : Ex → AS → Option (RsD [.own tIss] × PsO [.ro tIss]) := endK laws_toIntSS_E Try.f77 [.ro tIss] [.own tIss] (initL [.ro tIss] (x0, ()) 0).1
noncomputable def laws_toIntSS_B0 {R : Type} : AS → (Ex → AS → Option R) → Option R := fun A K => ev laws_toIntSS_E laws_toIntSS_T 0 (cA (cA (cB (cA (cB (cB laws_toIntSS_b)))))) A K
noncomputable def laws_toIntSS_K0  (x0 : List (List Int)) : Ex → AS → Option (RsD [.own tIss] × PsO [.ro tIss]) := kBlk 0 (kSeq (fun A K => ev laws_toIntSS_E laws_toIntSS_T 1000 (cB (cB (cB laws_toIntSS_b))) A K) (laws_toIntSS_Ke x0))
noncomputable def laws_toIntSS_x0_0 (d0 : List (List Int)) : AS := ⟨[(3, .v (.one (.own 112)))], [(112, .arr 24 tIs d0)]⟩
theorem laws_toIntSS_l0 {R : Type} {K : Ex → AS → Option R} {s : laws_toIntSS_t0.D} (n : Nat) {v : Option R} (h : iterG laws_toIntSS_t0 laws_toIntSS_B0 K n s = v) (hv : ∃ r, v = some r) : loopG laws_toIntSS_t0 laws_toIntSS_B0 K s = v := loop_eq (ev_mono _ _) n h hv
theorem laws_toIntSS_main (x0 : List (List Int)) : laws_toIntSS_F (x0, ()) =
 ck (decide (0 ≤ (x0.length : Int)) && decide ((x0.length : Int) = (x0.length : Int)) && decide ((x0.length : Int) * (24 : Int) ≤ 140737488355328) && decide ((x0.length : Int) ≤ 140737488355328)) (loopG laws_toIntSS_t0 laws_toIntSS_B0 (laws_toIntSS_K0 x0) ((x0, ((0 : Int), ())), (List.replicate (x0.length : Int).toNat tIs.zero, ()))) := by kernel_rfl
theorem laws_toIntSS_r0 {R : Type} (K : Ex → AS → Option R) (n : Nat) (t0 : List (List Int)) (t4 : Int) (a112 : List (List Int)) : iterG laws_toIntSS_t0 laws_toIntSS_B0 K (n + 1) ((t0, (t4, ())), (a112, ())) =
 brk (decide (t4 < (t0.length : Int)))
 (ck (decide (0 ≤ t4) && decide (t4 < t0.length)) ((laws_toIntS_F (rdD tIs t0 t4, ())).bind fun y20 =>
 ck (decide (0 ≤ t4) && decide (t4 < a112.length)) (iterG laws_toIntSS_t0 laws_toIntSS_B0 K n ((t0, (IntKind.i64.wrap (t4 + (1 : Int)), ())), (a112.set t4.toNat y20.1.1, ())))))
 (K (.exit 0) (laws_toIntSS_x0_0 a112)) := by kernel_rfl
theorem laws_toIntSS_e0_0 (x0 : List (List Int)) (d0 : List (List Int)) : laws_toIntSS_K0 x0 (.exit 0) (laws_toIntSS_x0_0 d0) =
 some ((d0, ()), ((), ())) := by kernel_rfl
/-! laws.toMeta -/
noncomputable def laws_toMeta_b : Code := bd Try.f26
def laws_toMeta_T : List (Nat × Tm) := []
noncomputable def laws_toMeta_E : Env := ⟨tt0, [(14, laws_toIntS_C), (77, laws_toIntSS_C)]⟩
noncomputable def laws_toMeta_F : PsD [.ro tMeta] → Option (RsD [.own tMeta] × PsO [.ro tMeta]) := fun x => evFn laws_toMeta_E laws_toMeta_T Try.f26 laws_toMeta_b [.ro tMeta] [.own tMeta] x
@[reducible] noncomputable def laws_toMeta_C : Ct := ⟨[.ro tMeta], [.own tMeta], laws_toMeta_F⟩
theorem laws_toMeta_h (x : PsD [.ro tMeta]) (y : RsD [.own tMeta] × PsO [.ro tMeta]) (h : laws_toMeta_F x = some y) : evFn laws_toMeta_E laws_toMeta_T Try.f26 laws_toMeta_b [.ro tMeta] [.own tMeta] x = some y := h
theorem laws_toMeta_c : ∀ f c, get laws_toMeta_E.ct f = some c → Sat Try.prog f c := ct_cons laws_toIntS_S (ct_cons laws_toIntSS_S (ct_nil))
theorem laws_toMeta_S : Sat Try.prog 26 laws_toMeta_C := fn_ok2 (envOk _) laws_toMeta_c mixedOk Try.func26 (by kernel_rfl : Try.f26.body = some laws_toMeta_b) (by kernel_rfl) (by kernel_rfl) laws_toMeta_h
noncomputable def laws_toMeta_Ke  (x0 : List Int × List (List Int) × Bool × Bool × Bool × Int × Unit) : Ex → AS → Option (RsD [.own tMeta] × PsO [.ro tMeta]) := endK laws_toMeta_E Try.f26 [.ro tMeta] [.own tMeta] (initL [.ro tMeta] (x0, ()) 0).1
theorem laws_toMeta_main (x0 : List Int × List (List Int) × Bool × Bool × Bool × Int × Unit) : laws_toMeta_F (x0, ()) =
 (laws_toIntS_F (x0.1, ())).bind fun y6 =>
 (laws_toIntSS_F (x0.2.1, ())).bind fun y10 =>
 some (((y6.1.1, (y10.1.1, (x0.2.2.1, (x0.2.2.2.1, (x0.2.2.2.2.1, (x0.2.2.2.2.2.1, ())))))), ()), ((), ())) := by kernel_rfl
/-! slices.Equal[[]int,int] -/
noncomputable def slices_Equal_int_b : Code := bd Try.f78
@[reducible] def slices_Equal_int_t0 : Tm := ⟨[], [], [(0, .sc true tIs), (1, .sc true tIs), (12, .sc true tI), (13, .sc true tI)], [], [4], []⟩
def slices_Equal_int_T : List (Nat × Tm) := [(0, slices_Equal_int_t0)]
noncomputable def slices_Equal_int_E : Env := ⟨tt0, []⟩
noncomputable def slices_Equal_int_F : PsD [.ro tIs, .ro tIs] → Option (RsD [.own tB] × PsO [.ro tIs, .ro tIs]) := fun x => evFn slices_Equal_int_E slices_Equal_int_T Try.f78 slices_Equal_int_b [.ro tIs, .ro tIs] [.own tB] x
@[reducible] noncomputable def slices_Equal_int_C : Ct := ⟨[.ro tIs, .ro tIs], [.own tB], slices_Equal_int_F⟩
theorem slices_Equal_int_h (x : PsD [.ro tIs, .ro tIs]) (y : RsD [.own tB] × PsO [.ro tIs, .ro tIs]) (h : slices_Equal_int_F x = some y) : evFn slices_Equal_int_E slices_Equal_int_T Try.f78 slices_Equal_int_b [.ro tIs, .ro tIs] [.own tB] x = some y := h
theorem slices_Equal_int_c : ∀ f c, get slices_Equal_int_E.ct f = some c → Sat Try.prog f c := ct_nil
theorem slices_Equal_int_S : Sat Try.prog 78 slices_Equal_int_C := fn_ok2 (envOk _) slices_Equal_int_c mixedOk Try.func78 (by kernel_rfl : Try.f78.body = some slices_Equal_int_b) (by kernel_rfl) (by kernel_rfl) slices_Equal_int_h
noncomputable def slices_Equal_int_Ke  (x0 : List Int) (x1 : List Int) : Ex → AS → Option (RsD [.own tB] × PsO [.ro tIs, .ro tIs]) := endK slices_Equal_int_E Try.f78 [.ro tIs, .ro tIs] [.own tB] (initL [.ro tIs, .ro tIs] (x0, (x1, ())) 0).1
noncomputable def slices_Equal_int_B0 {R : Type} : AS → (Ex → AS → Option R) → Option R := fun A K => ev slices_Equal_int_E slices_Equal_int_T 0 (cA (cA (cB (cA (cB (cB slices_Equal_int_b)))))) A K
noncomputable def slices_Equal_int_K0  (x0 : List Int) (x1 : List Int) : Ex → AS → Option (RsD [.own tB] × PsO [.ro tIs, .ro tIs]) := kBlk 0 (kSeq (fun A K => ev slices_Equal_int_E slices_Equal_int_T 1000 (cB (cB (cB slices_Equal_int_b))) A K) (slices_Equal_int_Ke x0 x1))
noncomputable def slices_Equal_int_x0_0 (d0 : Bool) : AS := ⟨[(4, .v (.one (.d true tB d0)))], []⟩
noncomputable def slices_Equal_int_x0_1 : AS := ⟨[], []⟩
theorem slices_Equal_int_l0 {R : Type} {K : Ex → AS → Option R} {s : slices_Equal_int_t0.D} (n : Nat) {v : Option R} (h : iterG slices_Equal_int_t0 slices_Equal_int_B0 K n s = v) (hv : ∃ r, v = some r) : loopG slices_Equal_int_t0 slices_Equal_int_B0 K s = v := loop_eq (ev_mono _ _) n h hv
theorem slices_Equal_int_main (x0 : List Int) (x1 : List Int) : slices_Equal_int_F (x0, (x1, ())) =
 brk (!decide ((x0.length : Int) = (x1.length : Int)))
 (some ((false, ()), ((), ((), ()))))
 (loopG slices_Equal_int_t0 slices_Equal_int_B0 (slices_Equal_int_K0 x0 x1) ((x0, (x1, ((x0.length : Int), ((0 : Int), ())))), ())) := by kernel_rfl
theorem slices_Equal_int_r0 {R : Type} (K : Ex → AS → Option R) (n : Nat) (t0 : List Int) (t1 : List Int) (t12 : Int) (t13 : Int) : iterG slices_Equal_int_t0 slices_Equal_int_B0 K (n + 1) ((t0, (t1, (t12, (t13, ())))), ()) =
 brk (decide (t13 < t12))
 (ck (decide (0 ≤ t13) && decide (t13 < t0.length)) (ck (decide (0 ≤ t13) && decide (t13 < t1.length)) (brk (!decide (rdD tI t0 t13 = rdD tI t1 t13))
 (K .ret (slices_Equal_int_x0_0 false))
 (iterG slices_Equal_int_t0 slices_Equal_int_B0 K n ((t0, (t1, (t12, (IntKind.i64.wrap (t13 + (1 : Int)), ())))), ())))))
 (K (.exit 0) (slices_Equal_int_x0_1)) := by kernel_rfl
theorem slices_Equal_int_e0_0 (x0 : List Int) (x1 : List Int) (d0 : Bool) : slices_Equal_int_K0 x0 x1 .ret (slices_Equal_int_x0_0 d0) =
 some ((d0, ()), ((), ((), ()))) := by kernel_rfl
theorem slices_Equal_int_e0_1 (x0 : List Int) (x1 : List Int) : slices_Equal_int_K0 x0 x1 (.exit 0) (slices_Equal_int_x0_1) =
 some ((true, ()), ((), ((), ()))) := by kernel_rfl
/-! slices.EqualFunc[[][]int,[][]int,[]int,[]int] -/
noncomputable def slices_EqualFunc__int_b : Code := bd Try.f79
@[reducible] def slices_EqualFunc__int_t0 : Tm := ⟨[], [], [(1, .sc true tIss), (2, .fnv 78 []), (15, .sc true tIss), (16, .sc true tI), (17, .sc true tI)], [], [6], []⟩
def slices_EqualFunc__int_T : List (Nat × Tm) := [(0, slices_EqualFunc__int_t0)]
noncomputable def slices_EqualFunc__int_E : Env := ⟨tt0, [(78, slices_Equal_int_C)]⟩
noncomputable def slices_EqualFunc__int_F : PsD [.ro tIss, .ro tIss, .fn 78 []] → Option (RsD [.own tB] × PsO [.ro tIss, .ro tIss, .fn 78 []]) := fun x => evFn slices_EqualFunc__int_E slices_EqualFunc__int_T Try.f79 slices_EqualFunc__int_b [.ro tIss, .ro tIss, .fn 78 []] [.own tB] x
@[reducible] noncomputable def slices_EqualFunc__int_C : Ct := ⟨[.ro tIss, .ro tIss, .fn 78 []], [.own tB], slices_EqualFunc__int_F⟩
theorem slices_EqualFunc__int_h (x : PsD [.ro tIss, .ro tIss, .fn 78 []]) (y : RsD [.own tB] × PsO [.ro tIss, .ro tIss, .fn 78 []]) (h : slices_EqualFunc__int_F x = some y) : evFn slices_EqualFunc__int_E slices_EqualFunc__int_T Try.f79 slices_EqualFunc__int_b [.ro tIss, .ro tIss, .fn 78 []] [.own tB] x = some y := h
theorem slices_EqualFunc__int_c : ∀ f c, get slices_EqualFunc__int_E.ct f = some c → Sat Try.prog f c := ct_cons slices_Equal_int_S (ct_nil)
theorem slices_EqualFunc__int_S : Sat Try.prog 79 slices_EqualFunc__int_C := fn_ok2 (envOk _) slices_EqualFunc__int_c mixedOk Try.func79 (by kernel_rfl : Try.f79.body = some slices_EqualFunc__int_b) (by kernel_rfl) (by kernel_rfl) slices_EqualFunc__int_h
noncomputable def slices_EqualFunc__int_Ke  (x0 : List (List Int)) (x1 : List (List Int)) (x2 : Unit) : Ex → AS → Option (RsD [.own tB] × PsO [.ro tIss, .ro tIss, .fn 78 []]) := endK slices_EqualFunc__int_E Try.f79 [.ro tIss, .ro tIss, .fn 78 []] [.own tB] (initL [.ro tIss, .ro tIss, .fn 78 []] (x0, (x1, (x2, ()))) 0).1
noncomputable def slices_EqualFunc__int_B0 {R : Type} : AS → (Ex → AS → Option R) → Option R := fun A K => ev slices_EqualFunc__int_E slices_EqualFunc__int_T 0 (cA (cA (cB (cA (cB (cB slices_EqualFunc__int_b)))))) A K
noncomputable def slices_EqualFunc__int_K0  (x0 : List (List Int)) (x1 : List (List Int)) (x2 : Unit) : Ex → AS → Option (RsD [.own tB] × PsO [.ro tIss, .ro tIss, .fn 78 []]) := kBlk 0 (kSeq (fun A K => ev slices_EqualFunc__int_E slices_EqualFunc__int_T 1000 (cB (cB (cB slices_EqualFunc__int_b))) A K) (slices_EqualFunc__int_Ke x0 x1 x2))
noncomputable def slices_EqualFunc__int_x0_0 (d0 : Bool) : AS := ⟨[(6, .v (.one (.d true tB d0)))], []⟩
noncomputable def slices_EqualFunc__int_x0_1 : AS := ⟨[], []⟩
theorem slices_EqualFunc__int_l0 {R : Type} {K : Ex → AS → Option R} {s : slices_EqualFunc__int_t0.D} (n : Nat) {v : Option R} (h : iterG slices_EqualFunc__int_t0 slices_EqualFunc__int_B0 K n s = v) (hv : ∃ r, v = some r) : loopG slices_EqualFunc__int_t0 slices_EqualFunc__int_B0 K s = v := loop_eq (ev_mono _ _) n h hv
theorem slices_EqualFunc__int_main (x0 : List (List Int)) (x1 : List (List Int)) (x2 : Unit) : slices_EqualFunc__int_F (x0, (x1, (x2, ()))) =
 brk (!decide ((x0.length : Int) = (x1.length : Int)))
 (some ((false, ()), ((), ((), ((), ())))))
 (loopG slices_EqualFunc__int_t0 slices_EqualFunc__int_B0 (slices_EqualFunc__int_K0 x0 x1 x2) ((x1, (x0, ((x0.length : Int), ((0 : Int), ())))), ())) := by kernel_rfl
theorem slices_EqualFunc__int_r0 {R : Type} (K : Ex → AS → Option R) (n : Nat) (t1 : List (List Int)) (t15 : List (List Int)) (t16 : Int) (t17 : Int) : iterG slices_EqualFunc__int_t0 slices_EqualFunc__int_B0 K (n + 1) ((t1, (t15, (t16, (t17, ())))), ()) =
 brk (decide (t17 < t16))
 (ck (decide (0 ≤ t17) && decide (t17 < t15.length)) (ck (decide (0 ≤ t17) && decide (t17 < t1.length)) ((slices_Equal_int_F (rdD tIs t15 t17, (rdD tIs t1 t17, ()))).bind fun y29 =>
 brk (!y29.1.1)
 (K .ret (slices_EqualFunc__int_x0_0 false))
 (iterG slices_EqualFunc__int_t0 slices_EqualFunc__int_B0 K n ((t1, (t15, (t16, (IntKind.i64.wrap (t17 + (1 : Int)), ())))), ())))))
 (K (.exit 0) (slices_EqualFunc__int_x0_1)) := by kernel_rfl
theorem slices_EqualFunc__int_e0_0 (x0 : List (List Int)) (x1 : List (List Int)) (x2 : Unit) (d0 : Bool) : slices_EqualFunc__int_K0 x0 x1 x2 .ret (slices_EqualFunc__int_x0_0 d0) =
 some ((d0, ()), ((), ((), ((), ())))) := by kernel_rfl
theorem slices_EqualFunc__int_e0_1 (x0 : List (List Int)) (x1 : List (List Int)) (x2 : Unit) : slices_EqualFunc__int_K0 x0 x1 x2 (.exit 0) (slices_EqualFunc__int_x0_1) =
 some ((true, ()), ((), ((), ((), ())))) := by kernel_rfl
/-! impl.SameMeta -/
noncomputable def impl_SameMeta_b : Code := bd Try.f27
def impl_SameMeta_T : List (Nat × Tm) := []
noncomputable def impl_SameMeta_E : Env := ⟨tt0, [(78, slices_Equal_int_C), (79, slices_EqualFunc__int_C)]⟩
noncomputable def impl_SameMeta_F : PsD [.ro tMeta, .ro tMeta] → Option (RsD [.own tB] × PsO [.ro tMeta, .ro tMeta]) := fun x => evFn impl_SameMeta_E impl_SameMeta_T Try.f27 impl_SameMeta_b [.ro tMeta, .ro tMeta] [.own tB] x
@[reducible] noncomputable def impl_SameMeta_C : Ct := ⟨[.ro tMeta, .ro tMeta], [.own tB], impl_SameMeta_F⟩
theorem impl_SameMeta_h (x : PsD [.ro tMeta, .ro tMeta]) (y : RsD [.own tB] × PsO [.ro tMeta, .ro tMeta]) (h : impl_SameMeta_F x = some y) : evFn impl_SameMeta_E impl_SameMeta_T Try.f27 impl_SameMeta_b [.ro tMeta, .ro tMeta] [.own tB] x = some y := h
theorem impl_SameMeta_c : ∀ f c, get impl_SameMeta_E.ct f = some c → Sat Try.prog f c := ct_cons slices_Equal_int_S (ct_cons slices_EqualFunc__int_S (ct_nil))
theorem impl_SameMeta_S : Sat Try.prog 27 impl_SameMeta_C := fn_ok2 (envOk _) impl_SameMeta_c mixedOk Try.func27 (by kernel_rfl : Try.f27.body = some impl_SameMeta_b) (by kernel_rfl) (by kernel_rfl) impl_SameMeta_h
noncomputable def impl_SameMeta_Ke  (x0 : List Int × List (List Int) × Bool × Bool × Bool × Int × Unit) (x1 : List Int × List (List Int) × Bool × Bool × Bool × Int × Unit) : Ex → AS → Option (RsD [.own tB] × PsO [.ro tMeta, .ro tMeta]) := endK impl_SameMeta_E Try.f27 [.ro tMeta, .ro tMeta] [.own tB] (initL [.ro tMeta, .ro tMeta] (x0, (x1, ())) 0).1
theorem impl_SameMeta_main (x0 : List Int × List (List Int) × Bool × Bool × Bool × Int × Unit) (x1 : List Int × List (List Int) × Bool × Bool × Bool × Int × Unit) : impl_SameMeta_F (x0, (x1, ())) =
 (slices_Equal_int_F (x0.1, (x1.1, ()))).bind fun y9 =>
 brk y9.1.1
 ((slices_EqualFunc__int_F (x0.2.1, (x1.2.1, ((), ())))).bind fun y15 =>
 brk y15.1.1
 (brk (x0.2.2.1 == x1.2.2.1)
 (brk (x0.2.2.2.1 == x1.2.2.2.1)
 (brk (x0.2.2.2.2.1 == x1.2.2.2.2.1)
 (some ((decide (x0.2.2.2.2.2.1 = x1.2.2.2.2.2.1), ()), ((), ((), ()))))
 (some ((false, ()), ((), ((), ())))))
 (some ((false, ()), ((), ((), ())))))
 (some ((false, ()), ((), ((), ())))))
 (some ((false, ()), ((), ((), ())))))
 (some ((false, ()), ((), ((), ())))) := by kernel_rfl
/-! laws.eqIntS -/
noncomputable def laws_eqIntS_b : Code := bd Try.f16
@[reducible] def laws_eqIntS_t0 : Tm := ⟨[], [], [(0, .sc true tIs), (1, .sc true tIs), (5, .sc true tI)], [], [4], []⟩
def laws_eqIntS_T : List (Nat × Tm) := [(0, laws_eqIntS_t0)]
noncomputable def laws_eqIntS_E : Env := ⟨tt0, []⟩
noncomputable def laws_eqIntS_F : PsD [.ro tIs, .ro tIs] → Option (RsD [.own tB] × PsO [.ro tIs, .ro tIs]) := fun x => evFn laws_eqIntS_E laws_eqIntS_T Try.f16 laws_eqIntS_b [.ro tIs, .ro tIs] [.own tB] x
@[reducible] noncomputable def laws_eqIntS_C : Ct := ⟨[.ro tIs, .ro tIs], [.own tB], laws_eqIntS_F⟩
theorem laws_eqIntS_h (x : PsD [.ro tIs, .ro tIs]) (y : RsD [.own tB] × PsO [.ro tIs, .ro tIs]) (h : laws_eqIntS_F x = some y) : evFn laws_eqIntS_E laws_eqIntS_T Try.f16 laws_eqIntS_b [.ro tIs, .ro tIs] [.own tB] x = some y := h
theorem laws_eqIntS_c : ∀ f c, get laws_eqIntS_E.ct f = some c → Sat Try.prog f c := ct_nil
theorem laws_eqIntS_S : Sat Try.prog 16 laws_eqIntS_C := fn_ok2 (envOk _) laws_eqIntS_c mixedOk Try.func16 (by kernel_rfl : Try.f16.body = some laws_eqIntS_b) (by kernel_rfl) (by kernel_rfl) laws_eqIntS_h
noncomputable def laws_eqIntS_Ke  (x0 : List Int) (x1 : List Int) : Ex → AS → Option (RsD [.own tB] × PsO [.ro tIs, .ro tIs]) := endK laws_eqIntS_E Try.f16 [.ro tIs, .ro tIs] [.own tB] (initL [.ro tIs, .ro tIs] (x0, (x1, ())) 0).1
noncomputable def laws_eqIntS_B0 {R : Type} : AS → (Ex → AS → Option R) → Option R := fun A K => ev laws_eqIntS_E laws_eqIntS_T 0 (cA (cA (cB (cA (cB (cB laws_eqIntS_b)))))) A K
noncomputable def laws_eqIntS_K0  (x0 : List Int) (x1 : List Int) : Ex → AS → Option (RsD [.own tB] × PsO [.ro tIs, .ro tIs]) := kBlk 0 (kSeq (fun A K => ev laws_eqIntS_E laws_eqIntS_T 1000 (cB (cB (cB laws_eqIntS_b))) A K) (laws_eqIntS_Ke x0 x1))
noncomputable def laws_eqIntS_x0_0 (d0 : Bool) : AS := ⟨[(4, .v (.one (.d true tB d0)))], []⟩
noncomputable def laws_eqIntS_x0_1 : AS := ⟨[], []⟩
theorem laws_eqIntS_l0 {R : Type} {K : Ex → AS → Option R} {s : laws_eqIntS_t0.D} (n : Nat) {v : Option R} (h : iterG laws_eqIntS_t0 laws_eqIntS_B0 K n s = v) (hv : ∃ r, v = some r) : loopG laws_eqIntS_t0 laws_eqIntS_B0 K s = v := loop_eq (ev_mono _ _) n h hv
theorem laws_eqIntS_main (x0 : List Int) (x1 : List Int) : laws_eqIntS_F (x0, (x1, ())) =
 brk (!decide ((x0.length : Int) = (x1.length : Int)))
 (some ((false, ()), ((), ((), ()))))
 (loopG laws_eqIntS_t0 laws_eqIntS_B0 (laws_eqIntS_K0 x0 x1) ((x0, (x1, ((0 : Int), ()))), ())) := by kernel_rfl
theorem laws_eqIntS_r0 {R : Type} (K : Ex → AS → Option R) (n : Nat) (t0 : List Int) (t1 : List Int) (t5 : Int) : iterG laws_eqIntS_t0 laws_eqIntS_B0 K (n + 1) ((t0, (t1, (t5, ()))), ()) =
 brk (decide (t5 < (t0.length : Int)))
 (ck (decide (0 ≤ t5) && decide (t5 < t0.length)) (ck (decide (0 ≤ t5) && decide (t5 < t1.length)) (brk (!decide (rdD tI t0 t5 = rdD tI t1 t5))
 (K .ret (laws_eqIntS_x0_0 false))
 (iterG laws_eqIntS_t0 laws_eqIntS_B0 K n ((t0, (t1, (IntKind.i64.wrap (t5 + (1 : Int)), ()))), ())))))
 (K (.exit 0) (laws_eqIntS_x0_1)) := by kernel_rfl
theorem laws_eqIntS_e0_0 (x0 : List Int) (x1 : List Int) (d0 : Bool) : laws_eqIntS_K0 x0 x1 .ret (laws_eqIntS_x0_0 d0) =
 some ((d0, ()), ((), ((), ()))) := by kernel_rfl
theorem laws_eqIntS_e0_1 (x0 : List Int) (x1 : List Int) : laws_eqIntS_K0 x0 x1 (.exit 0) (laws_eqIntS_x0_1) =
 some ((true, ()), ((), ((), ()))) := by kernel_rfl
/-! laws.eqIntSS -/
noncomputable def laws_eqIntSS_b : Code := bd Try.f80
@[reducible] def laws_eqIntSS_t0 : Tm := ⟨[], [], [(0, .sc true tIss), (1, .sc true tIss), (5, .sc true tI)], [], [4], []⟩
def laws_eqIntSS_T : List (Nat × Tm) := [(0, laws_eqIntSS_t0)]
noncomputable def laws_eqIntSS_E : Env := ⟨tt0, [(16, laws_eqIntS_C)]⟩
noncomputable def laws_eqIntSS_F : PsD [.ro tIss, .ro tIss] → Option (RsD [.own tB] × PsO [.ro tIss, .ro tIss]) := fun x => evFn laws_eqIntSS_E laws_eqIntSS_T Try.f80 laws_eqIntSS_b [.ro tIss, .ro tIss] [.own tB] x
@[reducible] noncomputable def laws_eqIntSS_C : Ct := ⟨[.ro tIss, .ro tIss], [.own tB], laws_eqIntSS_F⟩
theorem laws_eqIntSS_h (x : PsD [.ro tIss, .ro tIss]) (y : RsD [.own tB] × PsO [.ro tIss, .ro tIss]) (h : laws_eqIntSS_F x = some y) : evFn laws_eqIntSS_E laws_eqIntSS_T Try.f80 laws_eqIntSS_b [.ro tIss, .ro tIss] [.own tB] x = some y := h
theorem laws_eqIntSS_c : ∀ f c, get laws_eqIntSS_E.ct f = some c → Sat Try.prog f c := ct_cons laws_eqIntS_S (ct_nil)
theorem laws_eqIntSS_S : Sat Try.prog 80 laws_eqIntSS_C := fn_ok2 (envOk _) laws_eqIntSS_c mixedOk Try.func80 (by kernel_rfl : Try.f80.body = some laws_eqIntSS_b) (by kernel_rfl) (by kernel_rfl) laws_eqIntSS_h
noncomputable def laws_eqIntSS_Ke  (x0 : List (List Int)) (x1 : List (List Int)) : Ex → AS → Option (RsD [.own tB] × PsO [.ro tIss, .ro tIss]) := endK laws_eqIntSS_E Try.f80 [.ro tIss, .ro tIss] [.own tB] (initL [.ro tIss, .ro tIss] (x0, (x1, ())) 0).1
noncomputable def laws_eqIntSS_B0 {R : Type} : AS → (Ex → AS → Option R) → Option R := fun A K => ev laws_eqIntSS_E laws_eqIntSS_T 0 (cA (cA (cB (cA (cB (cB laws_eqIntSS_b)))))) A K
noncomputable def laws_eqIntSS_K0  (x0 : List (List Int)) (x1 : List (List Int)) : Ex → AS → Option (RsD [.own tB] × PsO [.ro tIss, .ro tIss]) := kBlk 0 (kSeq (fun A K => ev laws_eqIntSS_E laws_eqIntSS_T 1000 (cB (cB (cB laws_eqIntSS_b))) A K) (laws_eqIntSS_Ke x0 x1))
noncomputable def laws_eqIntSS_x0_0 (d0 : Bool) : AS := ⟨[(4, .v (.one (.d true tB d0)))], []⟩
noncomputable def laws_eqIntSS_x0_1 : AS := ⟨[], []⟩
theorem laws_eqIntSS_l0 {R : Type} {K : Ex → AS → Option R} {s : laws_eqIntSS_t0.D} (n : Nat) {v : Option R} (h : iterG laws_eqIntSS_t0 laws_eqIntSS_B0 K n s = v) (hv : ∃ r, v = some r) : loopG laws_eqIntSS_t0 laws_eqIntSS_B0 K s = v := loop_eq (ev_mono _ _) n h hv
theorem laws_eqIntSS_main (x0 : List (List Int)) (x1 : List (List Int)) : laws_eqIntSS_F (x0, (x1, ())) =
 brk (!decide ((x0.length : Int) = (x1.length : Int)))
 (some ((false, ()), ((), ((), ()))))
 (loopG laws_eqIntSS_t0 laws_eqIntSS_B0 (laws_eqIntSS_K0 x0 x1) ((x0, (x1, ((0 : Int), ()))), ())) := by kernel_rfl
theorem laws_eqIntSS_r0 {R : Type} (K : Ex → AS → Option R) (n : Nat) (t0 : List (List Int)) (t1 : List (List Int)) (t5 : Int) : iterG laws_eqIntSS_t0 laws_eqIntSS_B0 K (n + 1) ((t0, (t1, (t5, ()))), ()) =
 brk (decide (t5 < (t0.length : Int)))
 (ck (decide (0 ≤ t5) && decide (t5 < t0.length)) (ck (decide (0 ≤ t5) && decide (t5 < t1.length)) ((laws_eqIntS_F (rdD tIs t0 t5, (rdD tIs t1 t5, ()))).bind fun y25 =>
 brk (!y25.1.1)
 (K .ret (laws_eqIntSS_x0_0 false))
 (iterG laws_eqIntSS_t0 laws_eqIntSS_B0 K n ((t0, (t1, (IntKind.i64.wrap (t5 + (1 : Int)), ()))), ())))))
 (K (.exit 0) (laws_eqIntSS_x0_1)) := by kernel_rfl
theorem laws_eqIntSS_e0_0 (x0 : List (List Int)) (x1 : List (List Int)) (d0 : Bool) : laws_eqIntSS_K0 x0 x1 .ret (laws_eqIntSS_x0_0 d0) =
 some ((d0, ()), ((), ((), ()))) := by kernel_rfl
theorem laws_eqIntSS_e0_1 (x0 : List (List Int)) (x1 : List (List Int)) : laws_eqIntSS_K0 x0 x1 (.exit 0) (laws_eqIntSS_x0_1) =
 some ((true, ()), ((), ((), ()))) := by kernel_rfl
/-! laws.eqMeta -/
noncomputable def laws_eqMeta_b : Code := bd Try.f28
def laws_eqMeta_T : List (Nat × Tm) := []
noncomputable def laws_eqMeta_E : Env := ⟨tt0, [(16, laws_eqIntS_C), (80, laws_eqIntSS_C)]⟩
noncomputable def laws_eqMeta_F : PsD [.ro tMeta, .ro tMeta] → Option (RsD [.own tB] × PsO [.ro tMeta, .ro tMeta]) := fun x => evFn laws_eqMeta_E laws_eqMeta_T Try.f28 laws_eqMeta_b [.ro tMeta, .ro tMeta] [.own tB] x
@[reducible] noncomputable def laws_eqMeta_C : Ct := ⟨[.ro tMeta, .ro tMeta], [.own tB], laws_eqMeta_F⟩
theorem laws_eqMeta_h (x : PsD [.ro tMeta, .ro tMeta]) (y : RsD [.own tB] × PsO [.ro tMeta, .ro tMeta]) (h : laws_eqMeta_F x = some y) : evFn laws_eqMeta_E laws_eqMeta_T Try.f28 laws_eqMeta_b [.ro tMeta, .ro tMeta] [.own tB] x = some y := h
theorem laws_eqMeta_c : ∀ f c, get laws_eqMeta_E.ct f = some c → Sat Try.prog f c := ct_cons laws_eqIntS_S (ct_cons laws_eqIntSS_S (ct_nil))
theorem laws_eqMeta_S : Sat Try.prog 28 laws_eqMeta_C := fn_ok2 (envOk _) laws_eqMeta_c mixedOk Try.func28 (by kernel_rfl : Try.f28.body = some laws_eqMeta_b) (by kernel_rfl) (by kernel_rfl) laws_eqMeta_h
noncomputable def laws_eqMeta_Ke  (x0 : List Int × List (List Int) × Bool × Bool × Bool × Int × Unit) (x1 : List Int × List (List Int) × Bool × Bool × Bool × Int × Unit) : Ex → AS → Option (RsD [.own tB] × PsO [.ro tMeta, .ro tMeta]) := endK laws_eqMeta_E Try.f28 [.ro tMeta, .ro tMeta] [.own tB] (initL [.ro tMeta, .ro tMeta] (x0, (x1, ())) 0).1
theorem laws_eqMeta_main (x0 : List Int × List (List Int) × Bool × Bool × Bool × Int × Unit) (x1 : List Int × List (List Int) × Bool × Bool × Bool × Int × Unit) : laws_eqMeta_F (x0, (x1, ())) =
 (laws_eqIntS_F (x0.1, (x1.1, ()))).bind fun y9 =>
 brk (!y9.1.1)
 (some ((false, ()), ((), ((), ()))))
 ((laws_eqIntSS_F (x0.2.1, (x1.2.1, ()))).bind fun y15 =>
 brk (!y15.1.1)
 (some ((false, ()), ((), ((), ()))))
 (brk (!(x0.2.2.1 == x1.2.2.1))
 (some ((false, ()), ((), ((), ()))))
 (brk (!(x0.2.2.2.1 == x1.2.2.2.1))
 (some ((false, ()), ((), ((), ()))))
 (brk (!(x0.2.2.2.2.1 == x1.2.2.2.2.1))
 (some ((false, ()), ((), ((), ()))))
 (brk (!decide (x0.2.2.2.2.2.1 = x1.2.2.2.2.2.1))
 (some ((false, ()), ((), ((), ()))))
 (some ((true, ()), ((), ((), ()))))))))) := by kernel_rfl
/-! laws.FnExactSameMeta -/
noncomputable def laws_FnExactSameMeta_b : Code := bd Try.f6
def laws_FnExactSameMeta_T : List (Nat × Tm) := []
noncomputable def laws_FnExactSameMeta_E : Env := ⟨tt0, [(24, laws_szMeta_C), (25, spec_SameMeta_C), (26, laws_toMeta_C), (27, impl_SameMeta_C), (28, laws_eqMeta_C)]⟩
noncomputable def laws_FnExactSameMeta_F : PsD [.ro tMeta, .ro tMeta] → Option (RsD [.own tB] × PsO [.ro tMeta, .ro tMeta]) := fun x => evFn laws_FnExactSameMeta_E laws_FnExactSameMeta_T Try.f6 laws_FnExactSameMeta_b [.ro tMeta, .ro tMeta] [.own tB] x
@[reducible] noncomputable def laws_FnExactSameMeta_C : Ct := ⟨[.ro tMeta, .ro tMeta], [.own tB], laws_FnExactSameMeta_F⟩
theorem laws_FnExactSameMeta_h (x : PsD [.ro tMeta, .ro tMeta]) (y : RsD [.own tB] × PsO [.ro tMeta, .ro tMeta]) (h : laws_FnExactSameMeta_F x = some y) : evFn laws_FnExactSameMeta_E laws_FnExactSameMeta_T Try.f6 laws_FnExactSameMeta_b [.ro tMeta, .ro tMeta] [.own tB] x = some y := h
theorem laws_FnExactSameMeta_c : ∀ f c, get laws_FnExactSameMeta_E.ct f = some c → Sat Try.prog f c := ct_cons laws_szMeta_S (ct_cons spec_SameMeta_S (ct_cons laws_toMeta_S (ct_cons impl_SameMeta_S (ct_cons laws_eqMeta_S (ct_nil)))))
theorem laws_FnExactSameMeta_S : Sat Try.prog 6 laws_FnExactSameMeta_C := fn_ok2 (envOk _) laws_FnExactSameMeta_c mixedOk Try.func6 (by kernel_rfl : Try.f6.body = some laws_FnExactSameMeta_b) (by kernel_rfl) (by kernel_rfl) laws_FnExactSameMeta_h
noncomputable def laws_FnExactSameMeta_Ke  (x0 : List Int × List (List Int) × Bool × Bool × Bool × Int × Unit) (x1 : List Int × List (List Int) × Bool × Bool × Bool × Int × Unit) : Ex → AS → Option (RsD [.own tB] × PsO [.ro tMeta, .ro tMeta]) := endK laws_FnExactSameMeta_E Try.f6 [.ro tMeta, .ro tMeta] [.own tB] (initL [.ro tMeta, .ro tMeta] (x0, (x1, ())) 0).1
theorem laws_FnExactSameMeta_main (x0 : List Int × List (List Int) × Bool × Bool × Bool × Int × Unit) (x1 : List Int × List (List Int) × Bool × Bool × Bool × Int × Unit) : laws_FnExactSameMeta_F (x0, (x1, ())) =
 (laws_szMeta_F ((x0.1, (x0.2.1, (x0.2.2.1, (x0.2.2.2.1, (x0.2.2.2.2.1, (x0.2.2.2.2.2.1, ())))))), ((1048576 : Int), ()))).bind fun y12 =>
 brk (decide (y12.1.1 < (0 : Int)))
 (some ((true, ()), ((), ((), ()))))
 ((laws_szMeta_F ((x1.1, (x1.2.1, (x1.2.2.1, (x1.2.2.2.1, (x1.2.2.2.2.1, (x1.2.2.2.2.2.1, ())))))), (y12.1.1, ()))).bind fun y17 =>
 brk (decide (y17.1.1 < (0 : Int)))
 (some ((true, ()), ((), ((), ()))))
 ((laws_toMeta_F ((x0.1, (x0.2.1, (x0.2.2.1, (x0.2.2.2.1, (x0.2.2.2.2.1, (x0.2.2.2.2.2.1, ())))))), ())).bind fun y21 =>
 (laws_toMeta_F ((x1.1, (x1.2.1, (x1.2.2.1, (x1.2.2.2.1, (x1.2.2.2.2.1, (x1.2.2.2.2.2.1, ())))))), ())).bind fun y23 =>
 (spec_SameMeta_F ((y21.1.1.1, (y21.1.1.2.1, (y21.1.1.2.2.1, (y21.1.1.2.2.2.1, (y21.1.1.2.2.2.2.1, (y21.1.1.2.2.2.2.2.1, ())))))), ((y23.1.1.1, (y23.1.1.2.1, (y23.1.1.2.2.1, (y23.1.1.2.2.2.1, (y23.1.1.2.2.2.2.1, (y23.1.1.2.2.2.2.2.1, ())))))), ()))).bind fun y24 =>
 (laws_toMeta_F ((x0.1, (x0.2.1, (x0.2.2.1, (x0.2.2.2.1, (x0.2.2.2.2.1, (x0.2.2.2.2.2.1, ())))))), ())).bind fun y26 =>
 (laws_toMeta_F ((x1.1, (x1.2.1, (x1.2.2.1, (x1.2.2.2.1, (x1.2.2.2.2.1, (x1.2.2.2.2.2.1, ())))))), ())).bind fun y28 =>
 (impl_SameMeta_F ((y26.1.1.1, (y26.1.1.2.1, (y26.1.1.2.2.1, (y26.1.1.2.2.2.1, (y26.1.1.2.2.2.2.1, (y26.1.1.2.2.2.2.2.1, ())))))), ((y28.1.1.1, (y28.1.1.2.1, (y28.1.1.2.2.1, (y28.1.1.2.2.2.1, (y28.1.1.2.2.2.2.1, (y28.1.1.2.2.2.2.2.1, ())))))), ()))).bind fun y31 =>
 brk (!(y31.1.1 == y24.1.1))
 (some ((false, ()), ((), ((), ()))))
 ((laws_toMeta_F ((x0.1, (x0.2.1, (x0.2.2.1, (x0.2.2.2.1, (x0.2.2.2.2.1, (x0.2.2.2.2.2.1, ())))))), ())).bind fun y37 =>
 (laws_eqMeta_F ((y26.1.1.1, (y26.1.1.2.1, (y26.1.1.2.2.1, (y26.1.1.2.2.2.1, (y26.1.1.2.2.2.2.1, (y26.1.1.2.2.2.2.2.1, ())))))), ((y37.1.1.1, (y37.1.1.2.1, (y37.1.1.2.2.1, (y37.1.1.2.2.2.1, (y37.1.1.2.2.2.2.1, (y37.1.1.2.2.2.2.2.1, ())))))), ()))).bind fun y38 =>
 brk (!y38.1.1)
 (some ((false, ()), ((), ((), ()))))
 ((laws_toMeta_F ((x1.1, (x1.2.1, (x1.2.2.1, (x1.2.2.2.1, (x1.2.2.2.2.1, (x1.2.2.2.2.2.1, ())))))), ())).bind fun y42 =>
 (laws_eqMeta_F ((y28.1.1.1, (y28.1.1.2.1, (y28.1.1.2.2.1, (y28.1.1.2.2.2.1, (y28.1.1.2.2.2.2.1, (y28.1.1.2.2.2.2.2.1, ())))))), ((y42.1.1.1, (y42.1.1.2.1, (y42.1.1.2.2.1, (y42.1.1.2.2.2.1, (y42.1.1.2.2.2.2.1, (y42.1.1.2.2.2.2.2.1, ())))))), ()))).bind fun y43 =>
 brk (!y43.1.1)
 (some ((false, ()), ((), ((), ()))))
 (some ((true, ()), ((), ((), ())))))))) := by kernel_rfl
end Go.Refl
