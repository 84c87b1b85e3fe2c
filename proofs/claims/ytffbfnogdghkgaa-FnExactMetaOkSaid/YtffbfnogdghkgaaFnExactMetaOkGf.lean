/- Functions of the program, told by the evaluator: printed by a program of this claim. No condition. -/
import Derived.Test.YtffbfnogdghkgaaFnExactMetaOkGt
namespace Go.Refl
open Go.RowKit Go.Proofs
set_option linter.unusedVariables false
set_option maxRecDepth 100000
/-! laws.szIntS -/
noncomputable def laws_szIntS_b : Code := bd Try.f66
def laws_szIntS_T : List (Nat × Tm) := []
noncomputable def laws_szIntS_E : Env := ⟨tt0, []⟩
noncomputable def laws_szIntS_F : PsD [.ro tIs, .ro tI] → Option (RsD [.own tI] × PsO [.ro tIs, .ro tI]) := fun x => evFn laws_szIntS_E laws_szIntS_T Try.f66 laws_szIntS_b [.ro tIs, .ro tI] [.own tI] x
@[reducible] noncomputable def laws_szIntS_C : Ct := ⟨[.ro tIs, .ro tI], [.own tI], laws_szIntS_F⟩
theorem laws_szIntS_h (x : PsD [.ro tIs, .ro tI]) (y : RsD [.own tI] × PsO [.ro tIs, .ro tI]) (h : laws_szIntS_F x = some y) : evFn laws_szIntS_E laws_szIntS_T Try.f66 laws_szIntS_b [.ro tIs, .ro tI] [.own tI] x = some y := h
theorem laws_szIntS_c : ∀ f c, get laws_szIntS_E.ct f = some c → Sat Try.prog f c := ct_nil
theorem laws_szIntS_S : Sat Try.prog 66 laws_szIntS_C := fn_ok2 (envOk _) laws_szIntS_c mixedOk Try.func66 (by kernel_rfl : Try.f66.body = some laws_szIntS_b) (by kernel_rfl) (by kernel_rfl) laws_szIntS_h
noncomputable def laws_szIntS_Ke  (x0 : List Int) (x1 : Int) : Ex → AS → Option (RsD [.own tI] × PsO [.ro tIs, .ro tI]) := endK laws_szIntS_E Try.f66 [.ro tIs, .ro tI] [.own tI] (initL [.ro tIs, .ro tI] (x0, (x1, ())) 0).1
theorem laws_szIntS_main (x0 : List Int) (x1 : Int) : laws_szIntS_F (x0, (x1, ())) =
 brk (decide (IntKind.i64.wrap (x1 - (x0.length : Int)) < (0 : Int)))
 (some (((-1 : Int), ()), ((), ((), ()))))
 (some ((IntKind.i64.wrap (x1 - (x0.length : Int)), ()), ((), ((), ())))) := by kernel_rfl
/-! laws.szIntSS -/
noncomputable def laws_szIntSS_b : Code := bd Try.f75
@[reducible] def laws_szIntSS_t0 : Tm := ⟨[], [], [(0, .sc true tIss), (1, .sc true tI), (5, .sc true tI)], [], [1, 4], []⟩
def laws_szIntSS_T : List (Nat × Tm) := [(0, laws_szIntSS_t0)]
noncomputable def laws_szIntSS_E : Env := ⟨tt0, [(66, laws_szIntS_C)]⟩
noncomputable def laws_szIntSS_F : PsD [.ro tIss, .ro tI] → Option (RsD [.own tI] × PsO [.ro tIss, .ro tI]) := fun x => evFn laws_szIntSS_E laws_szIntSS_T Try.f75 laws_szIntSS_b [.ro tIss, .ro tI] [.own tI] x
@[reducible] noncomputable def laws_szIntSS_C : Ct := ⟨[.ro tIss, .ro tI], [.own tI], laws_szIntSS_F⟩
theorem laws_szIntSS_h (x : PsD [.ro tIss, .ro tI]) (y : RsD [.own tI] × PsO [.ro tIss, .ro tI]) (h : laws_szIntSS_F x = some y) : evFn laws_szIntSS_E laws_szIntSS_T Try.f75 laws_szIntSS_b [.ro tIss, .ro tI] [.own tI] x = some y := h
theorem laws_szIntSS_c : ∀ f c, get laws_szIntSS_E.ct f = some c → Sat Try.prog f c := ct_cons laws_szIntS_S (ct_nil)
theorem laws_szIntSS_S : Sat Try.prog 75 laws_szIntSS_C := fn_ok2 (envOk _) laws_szIntSS_c mixedOk Try.func75 (by kernel_rfl : Try.f75.body = some laws_szIntSS_b) (by kernel_rfl) (by kernel_rfl) laws_szIntSS_h
noncomputable def laws_szIntSS_Ke  (x0 : List (List Int)) (x1 : Int) : Ex → AS → Option (RsD [.own tI] × PsO [.ro tIss, .ro tI]) := endK laws_szIntSS_E Try.f75 [.ro tIss, .ro tI] [.own tI] (initL [.ro tIss, .ro tI] (x0, (x1, ())) 0).1
noncomputable def laws_szIntSS_B0 {R : Type} : AS → (Ex → AS → Option R) → Option R := fun A K => ev laws_szIntSS_E laws_szIntSS_T 0 (cA (cA (cB (cA (cB (cB (cB laws_szIntSS_b))))))) A K
noncomputable def laws_szIntSS_K0  (x0 : List (List Int)) (x1 : Int) : Ex → AS → Option (RsD [.own tI] × PsO [.ro tIss, .ro tI]) := kBlk 0 (kSeq (fun A K => ev laws_szIntSS_E laws_szIntSS_T 1000 (cB (cB (cB (cB laws_szIntSS_b)))) A K) (laws_szIntSS_Ke x0 x1))
noncomputable def laws_szIntSS_x0_0 (d0 : Int) (d1 : Int) : AS := ⟨[(1, .v (.one (.d true tI d0))), (4, .v (.one (.d true tI d1)))], []⟩
noncomputable def laws_szIntSS_x0_1 (d0 : Int) : AS := ⟨[(1, .v (.one (.d true tI d0)))], []⟩
theorem laws_szIntSS_l0 {R : Type} {K : Ex → AS → Option R} {s : laws_szIntSS_t0.D} (n : Nat) {v : Option R} (h : iterG laws_szIntSS_t0 laws_szIntSS_B0 K n s = v) (hv : ∃ r, v = some r) : loopG laws_szIntSS_t0 laws_szIntSS_B0 K s = v := loop_eq (ev_mono _ _) n h hv
theorem laws_szIntSS_main (x0 : List (List Int)) (x1 : Int) : laws_szIntSS_F (x0, (x1, ())) =
 brk (decide (IntKind.i64.wrap (x1 - (x0.length : Int)) < (0 : Int)))
 (some (((-1 : Int), ()), ((), ((), ()))))
 (loopG laws_szIntSS_t0 laws_szIntSS_B0 (laws_szIntSS_K0 x0 x1) ((x0, (IntKind.i64.wrap (x1 - (x0.length : Int)), ((0 : Int), ()))), ())) := by kernel_rfl
theorem laws_szIntSS_r0 {R : Type} (K : Ex → AS → Option R) (n : Nat) (t0 : List (List Int)) (t1 : Int) (t5 : Int) : iterG laws_szIntSS_t0 laws_szIntSS_B0 K (n + 1) ((t0, (t1, (t5, ()))), ()) =
 brk (decide (t5 < (t0.length : Int)))
 (ck (decide (0 ≤ t5) && decide (t5 < t0.length)) ((laws_szIntS_F (rdD tIs t0 t5, (t1, ()))).bind fun y23 =>
 brk (decide (y23.1.1 < (0 : Int)))
 (K .ret (laws_szIntSS_x0_0 y23.1.1 (-1 : Int)))
 (iterG laws_szIntSS_t0 laws_szIntSS_B0 K n ((t0, (y23.1.1, (IntKind.i64.wrap (t5 + (1 : Int)), ()))), ()))))
 (K (.exit 0) (laws_szIntSS_x0_1 t1)) := by kernel_rfl
theorem laws_szIntSS_e0_0 (x0 : List (List Int)) (x1 : Int) (d0 : Int) (d1 : Int) : laws_szIntSS_K0 x0 x1 .ret (laws_szIntSS_x0_0 d0 d1) =
 some ((d1, ()), ((), ((), ()))) := by kernel_rfl
theorem laws_szIntSS_e0_1 (x0 : List (List Int)) (x1 : Int) (d0 : Int) : laws_szIntSS_K0 x0 x1 (.exit 0) (laws_szIntSS_x0_1 d0) =
 some ((d0, ()), ((), ((), ()))) := by kernel_rfl
/-! laws.szMeta -/
noncomputable def laws_szMeta_b : Code := bd Try.f24
def laws_szMeta_T : List (Nat × Tm) := []
noncomputable def laws_szMeta_E : Env := ⟨tt0, [(66, laws_szIntS_C), (75, laws_szIntSS_C)]⟩
noncomputable def laws_szMeta_F : PsD [.ro tMeta, .ro tI] → Option (RsD [.own tI] × PsO [.ro tMeta, .ro tI]) := fun x => evFn laws_szMeta_E laws_szMeta_T Try.f24 laws_szMeta_b [.ro tMeta, .ro tI] [.own tI] x
@[reducible] noncomputable def laws_szMeta_C : Ct := ⟨[.ro tMeta, .ro tI], [.own tI], laws_szMeta_F⟩
theorem laws_szMeta_h (x : PsD [.ro tMeta, .ro tI]) (y : RsD [.own tI] × PsO [.ro tMeta, .ro tI]) (h : laws_szMeta_F x = some y) : evFn laws_szMeta_E laws_szMeta_T Try.f24 laws_szMeta_b [.ro tMeta, .ro tI] [.own tI] x = some y := h
theorem laws_szMeta_c : ∀ f c, get laws_szMeta_E.ct f = some c → Sat Try.prog f c := ct_cons laws_szIntS_S (ct_cons laws_szIntSS_S (ct_nil))
theorem laws_szMeta_S : Sat Try.prog 24 laws_szMeta_C := fn_ok2 (envOk _) laws_szMeta_c mixedOk Try.func24 (by kernel_rfl : Try.f24.body = some laws_szMeta_b) (by kernel_rfl) (by kernel_rfl) laws_szMeta_h
noncomputable def laws_szMeta_Ke  (x0 : List Int × List (List Int) × Bool × Bool × Bool × Int × Unit) (x1 : Int) : Ex → AS → Option (RsD [.own tI] × PsO [.ro tMeta, .ro tI]) := endK laws_szMeta_E Try.f24 [.ro tMeta, .ro tI] [.own tI] (initL [.ro tMeta, .ro tI] (x0, (x1, ())) 0).1
theorem laws_szMeta_main (x0 : List Int × List (List Int) × Bool × Bool × Bool × Int × Unit) (x1 : Int) : laws_szMeta_F (x0, (x1, ())) =
 (laws_szIntS_F (x0.1, (x1, ()))).bind fun y8 =>
 brk (decide (y8.1.1 < (0 : Int)))
 (some (((-1 : Int), ()), ((), ((), ()))))
 ((laws_szIntSS_F (x0.2.1, (y8.1.1, ()))).bind fun y14 =>
 brk (decide (y14.1.1 < (0 : Int)))
 (some (((-1 : Int), ()), ((), ((), ()))))
 (some ((y14.1.1, ()), ((), ((), ()))))) := by kernel_rfl
/-! laws.toIntS -/
noncomputable def laws_toIntS_b : Code := bd Try.f14
@[reducible] def laws_toIntS_t0 : Tm := ⟨[], [], [(0, .sc true tIs), (3, .own 112), (4, .sc true tI)], [(112, .arr 3 tI)], [3], [112]⟩
def laws_toIntS_T : List (Nat × Tm) := [(0, laws_toIntS_t0)]
noncomputable def laws_toIntS_E : Env := ⟨tt0, []⟩
noncomputable def laws_toIntS_F : PsD [.ro tIs] → Option (RsD [.own tIs] × PsO [.ro tIs]) := fun x => evFn laws_toIntS_E laws_toIntS_T Try.f14 laws_toIntS_b [.ro tIs] [.own tIs] x
@[reducible] noncomputable def laws_toIntS_C : Ct := ⟨[.ro tIs], [.own tIs], laws_toIntS_F⟩
theorem laws_toIntS_h (x : PsD [.ro tIs]) (y : RsD [.own tIs] × PsO [.ro tIs]) (h : laws_toIntS_F x = some y) : evFn laws_toIntS_E laws_toIntS_T Try.f14 laws_toIntS_b [.ro tIs] [.own tIs] x = some y := h
theorem laws_toIntS_c : ∀ f c, get laws_toIntS_E.ct f = some c → Sat Try.prog f c := ct_nil
theorem laws_toIntS_S : Sat Try.prog 14 laws_toIntS_C := fn_ok2 (envOk _) laws_toIntS_c mixedOk Try.func14 (by kernel_rfl : Try.f14.body = some laws_toIntS_b) (by kernel_rfl) (by kernel_rfl) laws_toIntS_h
noncomputable def laws_toIntS_Ke  (x0 : List Int) : Ex → AS → Option (RsD [.own tIs] × PsO [.ro tIs]) := endK laws_toIntS_E Try.f14 [.ro tIs] [.own tIs] (initL [.ro tIs] (x0, ()) 0).1
noncomputable def laws_toIntS_B0 {R : Type} : AS → (Ex → AS → Option R) → Option R := fun A K => ev laws_toIntS_E laws_toIntS_T 0 (cA (cA (cB (cA (cB (cB laws_toIntS_b)))))) A K
noncomputable def laws_toIntS_K0  (x0 : List Int) : Ex → AS → Option (RsD [.own tIs] × PsO [.ro tIs]) := kBlk 0 (kSeq (fun A K => ev laws_toIntS_E laws_toIntS_T 1000 (cB (cB (cB laws_toIntS_b))) A K) (laws_toIntS_Ke x0))
noncomputable def laws_toIntS_x0_0 (d0 : List Int) : AS := ⟨[(3, .v (.one (.own 112)))], [(112, .arr 3 tI d0)]⟩
theorem laws_toIntS_l0 {R : Type} {K : Ex → AS → Option R} {s : laws_toIntS_t0.D} (n : Nat) {v : Option R} (h : iterG laws_toIntS_t0 laws_toIntS_B0 K n s = v) (hv : ∃ r, v = some r) : loopG laws_toIntS_t0 laws_toIntS_B0 K s = v := loop_eq (ev_mono _ _) n h hv
theorem laws_toIntS_main (x0 : List Int) : laws_toIntS_F (x0, ()) =
 ck (decide (0 ≤ (x0.length : Int)) && decide ((x0.length : Int) = (x0.length : Int)) && decide ((x0.length : Int) * (8 : Int) ≤ 140737488355328) && decide ((x0.length : Int) ≤ 140737488355328)) (loopG laws_toIntS_t0 laws_toIntS_B0 (laws_toIntS_K0 x0) ((x0, ((0 : Int), ())), (List.replicate (x0.length : Int).toNat tI.zero, ()))) := by kernel_rfl
theorem laws_toIntS_r0 {R : Type} (K : Ex → AS → Option R) (n : Nat) (t0 : List Int) (t4 : Int) (a112 : List Int) : iterG laws_toIntS_t0 laws_toIntS_B0 K (n + 1) ((t0, (t4, ())), (a112, ())) =
 brk (decide (t4 < (t0.length : Int)))
 (ck (decide (0 ≤ t4) && decide (t4 < t0.length)) (ck (decide (0 ≤ t4) && decide (t4 < a112.length)) (iterG laws_toIntS_t0 laws_toIntS_B0 K n ((t0, (IntKind.i64.wrap (t4 + (1 : Int)), ())), (a112.set t4.toNat (rdD tI t0 t4), ())))))
 (K (.exit 0) (laws_toIntS_x0_0 a112)) := by kernel_rfl
theorem laws_toIntS_e0_0 (x0 : List Int) (d0 : List Int) : laws_toIntS_K0 x0 (.exit 0) (laws_toIntS_x0_0 d0) =
 some ((d0, ()), ((), ())) := by kernel_rfl
/-! laws.toIntSS -/
noncomputable def laws_toIntSS_b : Code := bd Try.f77
@[reducible] def laws_toIntSS_t0 : Tm := ⟨[], [], [(0, .sc true tIss), (3, .own 112), (4, .sc true tI)], [(112, .arr 24 tIs)], [3], [112]⟩
def laws_toIntSS_T : List (Nat × Tm) := [(0, laws_toIntSS_t0)]
noncomputable def laws_toIntSS_E : Env := ⟨tt0, [(14, laws_toIntS_C)]⟩
noncomputable def laws_toIntSS_F : PsD [.ro tIss] → Option (RsD [.own tIss] × PsO [.ro tIss]) := fun x => evFn laws_toIntSS_E laws_toIntSS_T Try.f77 laws_toIntSS_b [.ro tIss] [.own tIss] x
@[reducible] noncomputable def laws_toIntSS_C : Ct := ⟨[.ro tIss], [.own tIss], laws_toIntSS_F⟩
theorem laws_toIntSS_h (x : PsD [.ro tIss]) (y : RsD [.own tIss] × PsO [.ro tIss]) (h : laws_toIntSS_F x = some y) : evFn laws_toIntSS_E laws_toIntSS_T Try.f77 laws_toIntSS_b [.ro tIss] [.own tIss] x = some y := h
theorem laws_toIntSS_c : ∀ f c, get laws_toIntSS_E.ct f = some c → Sat Try.prog f c := ct_cons laws_toIntS_S (ct_nil)
theorem laws_toIntSS_S : Sat Try.prog 77 laws_toIntSS_C := fn_ok2 (envOk _) laws_toIntSS_c mixedOk Try.func77 (by kernel_rfl : Try.f77.body = some laws_toIntSS_b) (by kernel_rfl) (by kernel_rfl) laws_toIntSS_h
noncomputable def laws_toIntSS_Ke  (x0 : List (List Int)) : Ex → AS → Option (RsD [.own tIss] × PsO [.ro tIss]) := endK laws_toIntSS_E Try.f77 [.ro tIss] [.own tIss] (initL [.ro tIss] (x0, ()) 0).1
noncomputable def laws_toIntSS_B0 {R : Type} : AS → (Ex → AS → Option R) → Option R := fun A K => ev laws_toIntSS_E laws_toIntSS_T 0 (cA (cA (cB (cA (cB (cB laws_toIntSS_b)))))) A K
noncomputable def laws_toIntSS_K0  (x0 : List (List Int)) : Ex → AS → Option (RsD [.own tIss] × PsO [.ro tIss]) := kBlk 0 (kSeq (fun A K => ev laws_toIntSS_E laws_toIntSS_T 1000 (cB (cB (cB laws_toIntSS_b))) A K) (laws_toIntSS_Ke x0))
noncomputable def laws_toIntSS_x0_0 (d0 : List (List Int)) : AS := ⟨[(3, .v (.one (.own 112)))], [(112, .arr 24 tIs d0)]⟩
theorem laws_toIntSS_l0 {R : Type} {K : Ex → AS → Option R} {s : laws_toIntSS_t0.D} (n : Nat) {v : Option R} (h : iterG laws_toIntSS_t0 laws_toIntSS_B0 K n s = v) (hv : ∃ r, v = some r) : loopG laws_toIntSS_t0 laws_toIntSS_B0 K s = v := loop_eq (ev_mono _ _) n h hv
theorem laws_toIntSS_main (x0 : List (List Int)) : laws_toIntSS_F (x0, ()) =
 ck (decide (0 ≤ (x0.length : Int)) && decide ((x0.length : Int) = (x0.length : Int)) && decide ((x0.length : Int) * (24 : Int) ≤ 140737488355328) && decide ((x0.length : Int) ≤ 140737488355328)) (loopG laws_toIntSS_t0 laws_toIntSS_B0 (laws_toIntSS_K0 x0) ((x0, ((0 : Int), ())), (List.replicate (x0.length : Int).toNat tIs.zero, ()))) := by kernel_rfl
theorem laws_toIntSS_r0 {R : Type} (K : Ex → AS → Option R) (n : Nat) (t0 : List (List Int)) (t4 : Int) (a112 : List (List Int)) : iterG laws_toIntSS_t0 laws_toIntSS_B0 K (n + 1) ((t0, (t4, ())), (a112, ())) =
 brk (decide (t4 < (t0.length : Int)))
 (ck (decide (0 ≤ t4) && decide (t4 < t0.length)) ((laws_toIntS_F (rdD tIs t0 t4, ())).bind fun y20 =>
 ck (decide (0 ≤ t4) && decide (t4 < a112.length)) (iterG laws_toIntSS_t0 laws_toIntSS_B0 K n ((t0, (IntKind.i64.wrap (t4 + (1 : Int)), ())), (a112.set t4.toNat y20.1.1, ())))))
 (K (.exit 0) (laws_toIntSS_x0_0 a112)) := by kernel_rfl
theorem laws_toIntSS_e0_0 (x0 : List (List Int)) (d0 : List (List Int)) : laws_toIntSS_K0 x0 (.exit 0) (laws_toIntSS_x0_0 d0) =
 some ((d0, ()), ((), ())) := by kernel_rfl
/-! laws.toMeta -/
noncomputable def laws_toMeta_b : Code := bd Try.f26
def laws_toMeta_T : List (Nat × Tm) := []
noncomputable def laws_toMeta_E : Env := ⟨tt0, [(14, laws_toIntS_C), (77, laws_toIntSS_C)]⟩
noncomputable def laws_toMeta_F : PsD [.ro tMeta] → Option (RsD [.own tMeta] × PsO [.ro tMeta]) := fun x => evFn laws_toMeta_E laws_toMeta_T Try.f26 laws_toMeta_b [.ro tMeta] [.own tMeta] x
@[reducible] noncomputable def laws_toMeta_C : Ct := ⟨[.ro tMeta], [.own tMeta], laws_toMeta_F⟩
theorem laws_toMeta_h (x : PsD [.ro tMeta]) (y : RsD [.own tMeta] × PsO [.ro tMeta]) (h : laws_toMeta_F x = some y) : evFn laws_toMeta_E laws_toMeta_T Try.f26 laws_toMeta_b [.ro tMeta] [.own tMeta] x = some y := h
theorem laws_toMeta_c : ∀ f c, get laws_toMeta_E.ct f = some c → Sat Try.prog f c := ct_cons laws_toIntS_S (ct_cons laws_toIntSS_S (ct_nil))
theorem laws_toMeta_S : Sat Try.prog 26 laws_toMeta_C := fn_ok2 (envOk _) laws_toMeta_c mixedOk Try.func26 (by kernel_rfl : Try.f26.body = some laws_toMeta_b) (by kernel_rfl) (by kernel_rfl) laws_toMeta_h
noncomputable def laws_toMeta_Ke  (x0 : List Int × List (List Int) × Bool × Bool × Bool × Int × Unit) : Ex → AS → Option (RsD [.own tMeta] × PsO [.ro tMeta]) := endK laws_toMeta_E Try.f26 [.ro tMeta] [.own tMeta] (initL [.ro tMeta] (x0, ()) 0).1
theorem laws_toMeta_main (x0 : List Int × List (List Int) × Bool × Bool × Bool × Int × Unit) : laws_toMeta_F (x0, ()) =
 (laws_toIntS_F (x0.1, ())).bind fun y6 =>
 (laws_toIntSS_F (x0.2.1, ())).bind fun y10 =>
 some (((y6.1.1, (y10.1.1, (x0.2.2.1, (x0.2.2.2.1, (x0.2.2.2.2.1, (x0.2.2.2.2.2.1, ())))))), ()), ((), ())) := by kernel_rfl
/-! laws.eqIntS -/
noncomputable def laws_eqIntS_b : Code := bd Try.f16
@[reducible] def laws_eqIntS_t0 : Tm := ⟨[], [], [(0, .sc true tIs), (1, .sc true tIs), (5, .sc true tI)], [], [4], []⟩
def laws_eqIntS_T : List (Nat × Tm) := [(0, laws_eqIntS_t0)]
noncomputable def laws_eqIntS_E : Env := ⟨tt0, []⟩
noncomputable def laws_eqIntS_F : PsD [.ro tIs, .ro tIs] → Option (RsD [.own tB] × PsO [.ro tIs, .ro tIs]) := fun x => evFn laws_eqIntS_E laws_eqIntS_T Try.f16 laws_eqIntS_b [.ro tIs, .ro tIs] [.own tB] x
@[reducible] noncomputable def laws_eqIntS_C : Ct := ⟨[.ro tIs, .ro tIs], [.own tB], laws_eqIntS_F⟩
theorem laws_eqIntS_h (x : PsD [.ro tIs, .ro tIs]) (y : RsD [.own tB] × PsO [.ro tIs, .ro tIs]) (h : laws_eqIntS_F x = some y) : evFn laws_eqIntS_E laws_eqIntS_T Try.f16 laws_eqIntS_b [.ro tIs, .ro tIs] [.own tB] x = some y := h
theorem laws_eqIntS_c : ∀ f c, get laws_eqIntS_E.ct f = some c → Sat Try.prog f c := ct_nil
theorem laws_eqIntS_S : Sat Try.prog 16 laws_eqIntS_C := fn_ok2 (envOk _) laws_eqIntS_c mixedOk Try.func16 (by kernel_rfl : Try.f16.body = some laws_eqIntS_b) (by kernel_rfl) (by kernel_rfl) laws_eqIntS_h
noncomputable def laws_eqIntS_Ke  (x0 : List Int) (x1 : List Int) : Ex → AS → Option (RsD [.own tB] × PsO [.ro tIs, .ro tIs]) := endK laws_eqIntS_E Try.f16 [.ro tIs, .ro tIs] [.own tB] (initL [.ro tIs, .ro tIs] (x0, (x1, ())) 0).1
noncomputable def laws_eqIntS_B0 {R : Type} : AS → (Ex → AS → Option R) → Option R := fun A K => ev laws_eqIntS_E laws_eqIntS_T 0 (cA (cA (cB (cA (cB (cB laws_eqIntS_b)))))) A K
noncomputable def laws_eqIntS_K0  (x0 : List Int) (x1 : List Int) : Ex → AS → Option (RsD [.own tB] × PsO [.ro tIs, .ro tIs]) := kBlk 0 (kSeq (fun A K => ev laws_eqIntS_E laws_eqIntS_T 1000 (cB (cB (cB laws_eqIntS_b))) A K) (laws_eqIntS_Ke x0 x1))
noncomputable def laws_eqIntS_x0_0 (d0 : Bool) : AS := ⟨[(4, .v (.one (.d true tB d0)))], []⟩
noncomputable def laws_eqIntS_x0_1 : AS := ⟨[], []⟩
theorem laws_eqIntS_l0 {R : Type} {K : Ex → AS → Option R} {s : laws_eqIntS_t0.D} (n : Nat) {v : Option R} (h : iterG laws_eqIntS_t0 laws_eqIntS_B0 K n s = v) (hv : ∃ r, v = some r) : loopG laws_eqIntS_t0 laws_eqIntS_B0 K s = v := loop_eq (ev_mono _ _) n h hv
theorem laws_eqIntS_main (x0 : List Int) (x1 : List Int) : laws_eqIntS_F (x0, (x1, ())) =
 brk (!decide ((x0.length : Int) = (x1.length : Int)))
 (some ((false, ()), ((), ((), ()))))
 (loopG laws_eqIntS_t0 laws_eqIntS_B0 (laws_eqIntS_K0 x0 x1) ((x0, (x1, ((0 : Int), ()))), ())) := by kernel_rfl
theorem laws_eqIntS_r0 {R : Type} (K : Ex → AS → Option R) (n : Nat) (t0 : List Int) (t1 : List Int) (t5 : Int) : iterG laws_eqIntS_t0 laws_eqIntS_B0 K (n + 1) ((t0, (t1, (t5, ()))), ()) =
 brk (decide (t5 < (t0.length : Int)))
 (ck (decide (0 ≤ t5) && decide (t5 < t0.length)) (ck (decide (0 ≤ t5) && decide (t5 < t1.length)) (brk (!decide (rdD tI t0 t5 = rdD tI t1 t5))
 (K .ret (laws_eqIntS_x0_0 false))
 (iterG laws_eqIntS_t0 laws_eqIntS_B0 K n ((t0, (t1, (IntKind.i64.wrap (t5 + (1 : Int)), ()))), ())))))
 (K (.exit 0) (laws_eqIntS_x0_1)) := by kernel_rfl
theorem laws_eqIntS_e0_0 (x0 : List Int) (x1 : List Int) (d0 : Bool) : laws_eqIntS_K0 x0 x1 .ret (laws_eqIntS_x0_0 d0) =
 some ((d0, ()), ((), ((), ()))) := by kernel_rfl
theorem laws_eqIntS_e0_1 (x0 : List Int) (x1 : List Int) : laws_eqIntS_K0 x0 x1 (.exit 0) (laws_eqIntS_x0_1) =
 some ((true, ()), ((), ((), ()))) := by kernel_rfl
/-! laws.eqIntSS -/
noncomputable def laws_eqIntSS_b : Code := bd Try.f80
@[reducible] def laws_eqIntSS_t0 : Tm := ⟨[], [], [(0, .sc true tIss), (1, .sc true tIss), (5, .sc true tI)], [], [4], []⟩
def laws_eqIntSS_T : List (Nat × Tm) := [(0, laws_eqIntSS_t0)]
noncomputable def laws_eqIntSS_E : Env := ⟨tt0, [(16, laws_eqIntS_C)]⟩
noncomputable def laws_eqIntSS_F : PsD [.ro tIss, .ro tIss] → Option (RsD [.own tB] × PsO [.ro tIss, .ro tIss]) := fun x => evFn laws_eqIntSS_E laws_eqIntSS_T Try.f80 laws_eqIntSS_b [.ro tIss, .ro tIss] [.own tB] x
@[reducible] noncomputable def laws_eqIntSS_C : Ct := ⟨[.ro tIss, .ro tIss], [.own tB], laws_eqIntSS_F⟩
theorem laws_eqIntSS_h (x : PsD [.ro tIss, .ro tIss]) (y : RsD [.own tB] × PsO [.ro tIss, .ro tIss]) (h : laws_eqIntSS_F x = some y) : evFn laws_eqIntSS_E laws_eqIntSS_T Try.f80 laws_eqIntSS_b [.ro tIss, .ro tIss] [.own tB] x = some y := h
theorem laws_eqIntSS_c : ∀ f c, get laws_eqIntSS_E.ct f = some c → Sat Try.prog f c := ct_cons laws_eqIntS_S (ct_nil)
theorem laws_eqIntSS_S : Sat Try.prog 80 laws_eqIntSS_C := fn_ok2 (envOk _) laws_eqIntSS_c mixedOk Try.func80 (by kernel_rfl : Try.f80.body = some laws_eqIntSS_b) (by kernel_rfl) (by kernel_rfl) laws_eqIntSS_h
noncomputable def laws_eqIntSS_Ke  (x0 : List (List Int)) (x1 : List (List Int)) : Ex → AS → Option (RsD [.own tB] × PsO [.ro tIss, .ro tIss]) := endK laws_eqIntSS_E Try.f80 [.ro tIss, .ro tIss] [.own tB] (initL [.ro tIss, .ro tIss] (x0, (x1, ())) 0).1
noncomputable def laws_eqIntSS_B0 {R : Type} : AS → (Ex → AS → Option R) → Option R := fun A K => ev laws_eqIntSS_E laws_eqIntSS_T 0 (cA (cA (cB (cA (cB (cB laws_eqIntSS_b)))))) A K
noncomputable def laws_eqIntSS_K0  (x0 : List (List Int)) (x1 : List (List Int)) : Ex → AS → Option (RsD [.own tB] × PsO [.ro tIss, .ro tIss]) := kBlk 0 (kSeq (fun A K => ev laws_eqIntSS_E laws_eqIntSS_T 1000 (cB (cB (cB laws_eqIntSS_b))) A K) (laws_eqIntSS_Ke x0 x1))
noncomputable def laws_eqIntSS_x0_0 (d0 : Bool) : AS := ⟨[(4, .v (.one (.d true tB d0)))], []⟩
noncomputable def laws_eqIntSS_x0_1 : AS := ⟨[], []⟩
theorem laws_eqIntSS_l0 {R : Type} {K : Ex → AS → Option R} {s : laws_eqIntSS_t0.D} (n : Nat) {v : Option R} (h : iterG laws_eqIntSS_t0 laws_eqIntSS_B0 K n s = v) (hv : ∃ r, v = some r) : loopG laws_eqIntSS_t0 laws_eqIntSS_B0 K s = v := loop_eq (ev_mono _ _) n h hv
theorem laws_eqIntSS_main (x0 : List (List Int)) (x1 : List (List Int)) : laws_eqIntSS_F (x0, (x1, ())) =
 brk (!decide ((x0.length : Int) = (x1.length : Int)))
 (some ((false, ()), ((), ((), ()))))
 (loopG laws_eqIntSS_t0 laws_eqIntSS_B0 (laws_eqIntSS_K0 x0 x1) ((x0, (x1, ((0 : Int), ()))), ())) := by kernel_rfl
theorem laws_eqIntSS_r0 {R : Type} (K : Ex → AS → Option R) (n : Nat) (t0 : List (List Int)) (t1 : List (List Int)) (t5 : Int) : iterG laws_eqIntSS_t0 laws_eqIntSS_B0 K (n + 1) ((t0, (t1, (t5, ()))), ()) =
 brk (decide (t5 < (t0.length : Int)))
 (ck (decide (0 ≤ t5) && decide (t5 < t0.length)) (ck (decide (0 ≤ t5) && decide (t5 < t1.length)) ((laws_eqIntS_F (rdD tIs t0 t5, (rdD tIs t1 t5, ()))).bind fun y25 =>
 brk (!y25.1.1)
 (K .ret (laws_eqIntSS_x0_0 false))
 (iterG laws_eqIntSS_t0 laws_eqIntSS_B0 K n ((t0, (t1, (IntKind.i64.wrap (t5 + (1 : Int)), ()))), ())))))
 (K (.exit 0) (laws_eqIntSS_x0_1)) := by kernel_rfl
theorem laws_eqIntSS_e0_0 (x0 : List (List Int)) (x1 : List (List Int)) (d0 : Bool) : laws_eqIntSS_K0 x0 x1 .ret (laws_eqIntSS_x0_0 d0) =
 some ((d0, ()), ((), ((), ()))) := by kernel_rfl
theorem laws_eqIntSS_e0_1 (x0 : List (List Int)) (x1 : List (List Int)) : laws_eqIntSS_K0 x0 x1 (.exit 0) (laws_eqIntSS_x0_1) =
 some ((true, ()), ((), ((), ()))) := by kernel_rfl
/-! laws.eqMeta -/
noncomputable def laws_eqMeta_b : Code := bd Try.f28
def laws_eqMeta_T : List (Nat × Tm) := []
noncomputable def laws_eqMeta_E : Env := ⟨tt0, [(16, laws_eqIntS_C), (80, laws_eqIntSS_C)]⟩
noncomputable def laws_eqMeta_F : PsD [.ro tMeta, .ro tMeta] → Option (RsD [.own tB] × PsO [.ro tMeta, .ro tMeta]) := fun x => evFn laws_eqMeta_E laws_eqMeta_T Try.f28 laws_eqMeta_b [.ro tMeta, .ro tMeta] [.own tB] x
@[reducible] noncomputable def laws_eqMeta_C : Ct := ⟨[.ro tMeta, .ro tMeta], [.own tB], laws_eqMeta_F⟩
theorem laws_eqMeta_h (x : PsD [.ro tMeta, .ro tMeta]) (y : RsD [.own tB] × PsO [.ro tMeta, .ro tMeta]) (h : laws_eqMeta_F x = some y) : evFn laws_eqMeta_E laws_eqMeta_T Try.f28 laws_eqMeta_b [.ro tMeta, .ro tMeta] [.own tB] x = some y := h
theorem laws_eqMeta_c : ∀ f c, get laws_eqMeta_E.ct f = some c → Sat Try.prog f c := ct_cons laws_eqIntS_S (ct_cons laws_eqIntSS_S (ct_nil))
theorem laws_eqMeta_S : Sat Try.prog 28 laws_eqMeta_C := fn_ok2 (envOk _) laws_eqMeta_c mixedOk Try.func28 (by kernel_rfl : Try.f28.body = some laws_eqMeta_b) (by kernel_rfl) (by kernel_rfl) laws_eqMeta_h
noncomputable def laws_eqMeta_Ke  (x0 : List Int × List (List Int) × Bool × Bool × Bool × Int × Unit) (x1 : List Int × List (List Int) × Bool × Bool × Bool × Int × Unit) : Ex → AS → Option (RsD [.own tB] × PsO [.ro tMeta, .ro tMeta]) := endK laws_eqMeta_E Try.f28 [.ro tMeta, .ro tMeta] [.own tB] (initL [.ro tMeta, .ro tMeta] (x0, (x1, ())) 0).1
theorem laws_eqMeta_main (x0 : List Int × List (List Int) × Bool × Bool × Bool × Int × Unit) (x1 : List Int × List (List Int) × Bool × Bool × Bool × Int × Unit) : laws_eqMeta_F (x0, (x1, ())) =
 (laws_eqIntS_F (x0.1, (x1.1, ()))).bind fun y9 =>
 brk (!y9.1.1)
 (some ((false, ()), ((), ((), ()))))
 ((laws_eqIntSS_F (x0.2.1, (x1.2.1, ()))).bind fun y15 =>
 brk (!y15.1.1)
 (some ((false, ()), ((), ((), ()))))
 (brk (!(x0.2.2.1 == x1.2.2.1))
 (some ((false, ()), ((), ((), ()))))
 (brk (!(x0.2.2.2.1 == x1.2.2.2.1))
 (some ((false, ()), ((), ((), ()))))
 (brk (!(x0.2.2.2.2.1 == x1.2.2.2.2.1))
 (some ((false, ()), ((), ((), ()))))
 (brk (!decide (x0.2.2.2.2.2.1 = x1.2.2.2.2.2.1))
 (some ((false, ()), ((), ((), ()))))
 (some ((true, ()), ((), ((), ()))))))))) := by kernel_rfl
/-! spec.l1In -/
noncomputable def spec_l1In_b : Code := bd Try.f68
def spec_l1In_T : List (Nat × Tm) := []
noncomputable def spec_l1In_E : Env := ⟨tt0, []⟩
noncomputable def spec_l1In_F : PsD [.ro tI, .ro tI, .ro tI] → Option (RsD [.own tB] × PsO [.ro tI, .ro tI, .ro tI]) := fun x => evFn spec_l1In_E spec_l1In_T Try.f68 spec_l1In_b [.ro tI, .ro tI, .ro tI] [.own tB] x
@[reducible] noncomputable def spec_l1In_C : Ct := ⟨[.ro tI, .ro tI, .ro tI], [.own tB], spec_l1In_F⟩
theorem spec_l1In_h (x : PsD [.ro tI, .ro tI, .ro tI]) (y : RsD [.own tB] × PsO [.ro tI, .ro tI, .ro tI]) (h : spec_l1In_F x = some y) : evFn spec_l1In_E spec_l1In_T Try.f68 spec_l1In_b [.ro tI, .ro tI, .ro tI] [.own tB] x = some y := h
theorem spec_l1In_c : ∀ f c, get spec_l1In_E.ct f = some c → Sat Try.prog f c := ct_nil
theorem spec_l1In_S : Sat Try.prog 68 spec_l1In_C := fn_ok2 (envOk _) spec_l1In_c mixedOk Try.func68 (by kernel_rfl : Try.f68.body = some spec_l1In_b) (by kernel_rfl) (by kernel_rfl) spec_l1In_h
noncomputable def spec_l1In_Ke  (x0 : Int) (x1 : Int) (x2 : Int) : Ex → AS → Option (RsD [.own tB] × PsO [.ro tI, .ro tI, .ro tI]) := endK spec_l1In_E Try.f68 [.ro tI, .ro tI, .ro tI] [.own tB] (initL [.ro tI, .ro tI, .ro tI] (x0, (x1, (x2, ()))) 0).1
theorem spec_l1In_main (x0 : Int) (x1 : Int) (x2 : Int) : spec_l1In_F (x0, (x1, (x2, ()))) =
 brk (decide (x1 ≤ x0))
 (some ((decide (x0 ≤ x2), ()), ((), ((), ((), ())))))
 (some ((false, ()), ((), ((), ((), ()))))) := by kernel_rfl
/-! spec.l2Has -/
noncomputable def spec_l2Has_b : Code := bd Try.f116
@[reducible] def spec_l2Has_t0 : Tm := ⟨[], [], [(0, .sc true tIs), (1, .sc true tI), (5, .sc true tI)], [], [4], []⟩
def spec_l2Has_T : List (Nat × Tm) := [(0, spec_l2Has_t0)]
noncomputable def spec_l2Has_E : Env := ⟨tt0, []⟩
noncomputable def spec_l2Has_F : PsD [.ro tIs, .ro tI] → Option (RsD [.own tB] × PsO [.ro tIs, .ro tI]) := fun x => evFn spec_l2Has_E spec_l2Has_T Try.f116 spec_l2Has_b [.ro tIs, .ro tI] [.own tB] x
@[reducible] noncomputable def spec_l2Has_C : Ct := ⟨[.ro tIs, .ro tI], [.own tB], spec_l2Has_F⟩
theorem spec_l2Has_h (x : PsD [.ro tIs, .ro tI]) (y : RsD [.own tB] × PsO [.ro tIs, .ro tI]) (h : spec_l2Has_F x = some y) : evFn spec_l2Has_E spec_l2Has_T Try.f116 spec_l2Has_b [.ro tIs, .ro tI] [.own tB] x = some y := h
theorem spec_l2Has_c : ∀ f c, get spec_l2Has_E.ct f = some c → Sat Try.prog f c := ct_nil
theorem spec_l2Has_S : Sat Try.prog 116 spec_l2Has_C := fn_ok2 (envOk _) spec_l2Has_c mixedOk Try.func116 (by kernel_rfl : Try.f116.body = some spec_l2Has_b) (by kernel_rfl) (by kernel_rfl) spec_l2Has_h
noncomputable def spec_l2Has_Ke  (x0 : List Int) (x1 : Int) : Ex → AS → Option (RsD [.own tB] × PsO [.ro tIs, .ro tI]) := endK spec_l2Has_E Try.f116 [.ro tIs, .ro tI] [.own tB] (initL [.ro tIs, .ro tI] (x0, (x1, ())) 0).1
noncomputable def spec_l2Has_B0 {R : Type} : AS → (Ex → AS → Option R) → Option R := fun A K => ev spec_l2Has_E spec_l2Has_T 0 (cA (cA (cB (cA (cB spec_l2Has_b))))) A K
noncomputable def spec_l2Has_K0  (x0 : List Int) (x1 : Int) : Ex → AS → Option (RsD [.own tB] × PsO [.ro tIs, .ro tI]) := kBlk 0 (kSeq (fun A K => ev spec_l2Has_E spec_l2Has_T 1000 (cB (cB spec_l2Has_b)) A K) (spec_l2Has_Ke x0 x1))
noncomputable def spec_l2Has_x0_0 (d0 : Bool) : AS := ⟨[(4, .v (.one (.d true tB d0)))], []⟩
noncomputable def spec_l2Has_x0_1 : AS := ⟨[], []⟩
theorem spec_l2Has_l0 {R : Type} {K : Ex → AS → Option R} {s : spec_l2Has_t0.D} (n : Nat) {v : Option R} (h : iterG spec_l2Has_t0 spec_l2Has_B0 K n s = v) (hv : ∃ r, v = some r) : loopG spec_l2Has_t0 spec_l2Has_B0 K s = v := loop_eq (ev_mono _ _) n h hv
theorem spec_l2Has_main (x0 : List Int) (x1 : Int) : spec_l2Has_F (x0, (x1, ())) =
 loopG spec_l2Has_t0 spec_l2Has_B0 (spec_l2Has_K0 x0 x1) ((x0, (x1, ((0 : Int), ()))), ()) := by kernel_rfl
theorem spec_l2Has_r0 {R : Type} (K : Ex → AS → Option R) (n : Nat) (t0 : List Int) (t1 : Int) (t5 : Int) : iterG spec_l2Has_t0 spec_l2Has_B0 K (n + 1) ((t0, (t1, (t5, ()))), ()) =
 brk (decide (t5 < (t0.length : Int)))
 (ck (decide (0 ≤ t5) && decide (t5 < t0.length)) (brk (decide (rdD tI t0 t5 = t1))
 (K .ret (spec_l2Has_x0_0 true))
 (iterG spec_l2Has_t0 spec_l2Has_B0 K n ((t0, (t1, (IntKind.i64.wrap (t5 + (1 : Int)), ()))), ()))))
 (K (.exit 0) (spec_l2Has_x0_1)) := by kernel_rfl
theorem spec_l2Has_e0_0 (x0 : List Int) (x1 : Int) (d0 : Bool) : spec_l2Has_K0 x0 x1 .ret (spec_l2Has_x0_0 d0) =
 some ((d0, ()), ((), ((), ()))) := by kernel_rfl
theorem spec_l2Has_e0_1 (x0 : List Int) (x1 : Int) : spec_l2Has_K0 x0 x1 (.exit 0) (spec_l2Has_x0_1) =
 some ((false, ()), ((), ((), ()))) := by kernel_rfl
/-! spec.GensOk -/
noncomputable def spec_GensOk_b : Code := bd Try.f67
@[reducible] def spec_GensOk_t0 : Tm := ⟨[], [], [(0, .sc true tIs), (3, .sc true tI)], [], [0, 2], []⟩
def spec_GensOk_T : List (Nat × Tm) := [(0, spec_GensOk_t0)]
noncomputable def spec_GensOk_E : Env := ⟨tt0, [(68, spec_l1In_C), (116, spec_l2Has_C)]⟩
noncomputable def spec_GensOk_F : PsD [.ro tIs] → Option (RsD [.own tB] × PsO [.ro tIs]) := fun x => evFn spec_GensOk_E spec_GensOk_T Try.f67 spec_GensOk_b [.ro tIs] [.own tB] x
@[reducible] noncomputable def spec_GensOk_C : Ct := ⟨[.ro tIs], [.own tB], spec_GensOk_F⟩
theorem spec_GensOk_h (x : PsD [.ro tIs]) (y : RsD [.own tB] × PsO [.ro tIs]) (h : spec_GensOk_F x = some y) : evFn spec_GensOk_E spec_GensOk_T Try.f67 spec_GensOk_b [.ro tIs] [.own tB] x = some y := h
theorem spec_GensOk_c : ∀ f c, get spec_GensOk_E.ct f = some c → Sat Try.prog f c := ct_cons spec_l1In_S (ct_cons spec_l2Has_S (ct_nil))
theorem spec_GensOk_S : Sat Try.prog 67 spec_GensOk_C := fn_ok2 (envOk _) spec_GensOk_c mixedOk Try.func67 (by kernel_rfl : Try.f67.body = some spec_GensOk_b) (by kernel_rfl) (by kernel_rfl) spec_GensOk_h
noncomputable def spec_GensOk_Ke  (x0 : List Int) : Ex → AS → Option (RsD [.own tB] × PsO [.ro tIs]) := endK spec_GensOk_E Try.f67 [.ro tIs] [.own tB] (initL [.ro tIs] (x0, ()) 0).1
noncomputable def spec_GensOk_B0 {R : Type} : AS → (Ex → AS → Option R) → Option R := fun A K => ev spec_GensOk_E spec_GensOk_T 0 (cA (cA (cB (cA (cB spec_GensOk_b))))) A K
noncomputable def spec_GensOk_K0  (x0 : List Int) : Ex → AS → Option (RsD [.own tB] × PsO [.ro tIs]) := kBlk 0 (kSeq (fun A K => ev spec_GensOk_E spec_GensOk_T 1000 (cB (cB spec_GensOk_b)) A K) (spec_GensOk_Ke x0))
noncomputable def spec_GensOk_x0_0 (d0 : List Int) (d1 : Bool) : AS := ⟨[(0, .v (.one (.d true tIs d0))), (2, .v (.one (.d true tB d1)))], []⟩
noncomputable def spec_GensOk_x0_1 (d0 : List Int) : AS := ⟨[(0, .v (.one (.d true tIs d0)))], []⟩
theorem spec_GensOk_l0 {R : Type} {K : Ex → AS → Option R} {s : spec_GensOk_t0.D} (n : Nat) {v : Option R} (h : iterG spec_GensOk_t0 spec_GensOk_B0 K n s = v) (hv : ∃ r, v = some r) : loopG spec_GensOk_t0 spec_GensOk_B0 K s = v := loop_eq (ev_mono _ _) n h hv
theorem spec_GensOk_main (x0 : List Int) : spec_GensOk_F (x0, ()) =
 loopG spec_GensOk_t0 spec_GensOk_B0 (spec_GensOk_K0 x0) ((x0, ((0 : Int), ())), ()) := by kernel_rfl
theorem spec_GensOk_r0 {R : Type} (K : Ex → AS → Option R) (n : Nat) (t0 : List Int) (t3 : Int) : iterG spec_GensOk_t0 spec_GensOk_B0 K (n + 1) ((t0, (t3, ())), ()) =
 brk (decide (t3 < (t0.length : Int)))
 (ck (decide (0 ≤ t3) && decide (t3 < t0.length)) ((spec_l1In_F (rdD tI t0 t3, ((1 : Int), ((100000 : Int), ())))).bind fun y14 =>
 brk (!y14.1.1)
 (K .ret (spec_GensOk_x0_0 t0 false))
 (ck (decide (0 ≤ (0 : Int)) && decide ((0 : Int) ≤ t3) && decide (t3 ≤ t0.length)) (ck (decide (0 ≤ t3) && decide (t3 < t0.length)) ((spec_l2Has_F ((t0.take t3.toNat).drop (0 : Int).toNat, (rdD tI t0 t3, ()))).bind fun y24 =>
 brk y24.1.1
 (K .ret (spec_GensOk_x0_0 t0 false))
 (iterG spec_GensOk_t0 spec_GensOk_B0 K n ((t0, (IntKind.i64.wrap (t3 + (1 : Int)), ())), ())))))))
 (K (.exit 0) (spec_GensOk_x0_1 t0)) := by kernel_rfl
theorem spec_GensOk_e0_0 (x0 : List Int) (d0 : List Int) (d1 : Bool) : spec_GensOk_K0 x0 .ret (spec_GensOk_x0_0 d0 d1) =
 some ((d1, ()), ((), ())) := by kernel_rfl
theorem spec_GensOk_e0_1 (x0 : List Int) (d0 : List Int) : spec_GensOk_K0 x0 (.exit 0) (spec_GensOk_x0_1 d0) =
 some ((decide ((d0.length : Int) ≤ (12 : Int)), ()), ((), ())) := by kernel_rfl
/-! spec.MarksOk -/
noncomputable def spec_MarksOk_b : Code := bd Try.f81
@[reducible] def spec_MarksOk_t0 : Tm := ⟨[], [], [(0, .sc true tIs), (3, .sc true tI)], [], [2], []⟩
def spec_MarksOk_T : List (Nat × Tm) := [(0, spec_MarksOk_t0)]
noncomputable def spec_MarksOk_E : Env := ⟨tt0, [(68, spec_l1In_C)]⟩
noncomputable def spec_MarksOk_F : PsD [.ro tIs] → Option (RsD [.own tB] × PsO [.ro tIs]) := fun x => evFn spec_MarksOk_E spec_MarksOk_T Try.f81 spec_MarksOk_b [.ro tIs] [.own tB] x
@[reducible] noncomputable def spec_MarksOk_C : Ct := ⟨[.ro tIs], [.own tB], spec_MarksOk_F⟩
theorem spec_MarksOk_h (x : PsD [.ro tIs]) (y : RsD [.own tB] × PsO [.ro tIs]) (h : spec_MarksOk_F x = some y) : evFn spec_MarksOk_E spec_MarksOk_T Try.f81 spec_MarksOk_b [.ro tIs] [.own tB] x = some y := h
theorem spec_MarksOk_c : ∀ f c, get spec_MarksOk_E.ct f = some c → Sat Try.prog f c := ct_cons spec_l1In_S (ct_nil)
theorem spec_MarksOk_S : Sat Try.prog 81 spec_MarksOk_C := fn_ok2 (envOk _) spec_MarksOk_c mixedOk Try.func81 (by kernel_rfl : Try.f81.body = some spec_MarksOk_b) (by kernel_rfl) (by kernel_rfl) spec_MarksOk_h
noncomputable def spec_MarksOk_Ke  (x0 : List Int) : Ex → AS → Option (RsD [.own tB] × PsO [.ro tIs]) := endK spec_MarksOk_E Try.f81 [.ro tIs] [.own tB] (initL [.ro tIs] (x0, ()) 0).1
noncomputable def spec_MarksOk_B0 {R : Type} : AS → (Ex → AS → Option R) → Option R := fun A K => ev spec_MarksOk_E spec_MarksOk_T 0 (cA (cA (cB (cA (cB spec_MarksOk_b))))) A K
noncomputable def spec_MarksOk_K0  (x0 : List Int) : Ex → AS → Option (RsD [.own tB] × PsO [.ro tIs]) := kBlk 0 (kSeq (fun A K => ev spec_MarksOk_E spec_MarksOk_T 1000 (cB (cB spec_MarksOk_b)) A K) (spec_MarksOk_Ke x0))
noncomputable def spec_MarksOk_x0_0 (d0 : Bool) : AS := ⟨[(2, .v (.one (.d true tB d0)))], []⟩
noncomputable def spec_MarksOk_x0_1 : AS := ⟨[], []⟩
theorem spec_MarksOk_l0 {R : Type} {K : Ex → AS → Option R} {s : spec_MarksOk_t0.D} (n : Nat) {v : Option R} (h : iterG spec_MarksOk_t0 spec_MarksOk_B0 K n s = v) (hv : ∃ r, v = some r) : loopG spec_MarksOk_t0 spec_MarksOk_B0 K s = v := loop_eq (ev_mono _ _) n h hv
theorem spec_MarksOk_main (x0 : List Int) : spec_MarksOk_F (x0, ()) =
 loopG spec_MarksOk_t0 spec_MarksOk_B0 (spec_MarksOk_K0 x0) ((x0, ((0 : Int), ())), ()) := by kernel_rfl
theorem spec_MarksOk_r0 {R : Type} (K : Ex → AS → Option R) (n : Nat) (t0 : List Int) (t3 : Int) : iterG spec_MarksOk_t0 spec_MarksOk_B0 K (n + 1) ((t0, (t3, ())), ()) =
 brk (decide (t3 < (t0.length : Int)))
 (ck (decide (0 ≤ t3) && decide (t3 < t0.length)) ((spec_l1In_F (rdD tI t0 t3, ((0 : Int), ((7 : Int), ())))).bind fun y14 =>
 brk (!y14.1.1)
 (K .ret (spec_MarksOk_x0_0 false))
 (brk (decide ((0 : Int) < t3))
 (ck (decide (0 ≤ IntKind.i64.wrap (t3 - (1 : Int))) && decide (IntKind.i64.wrap (t3 - (1 : Int)) < t0.length)) (ck (decide (0 ≤ t3) && decide (t3 < t0.length)) (brk (decide (rdD tI t0 t3 ≤ rdD tI t0 (IntKind.i64.wrap (t3 - (1 : Int)))))
 (K .ret (spec_MarksOk_x0_0 false))
 (iterG spec_MarksOk_t0 spec_MarksOk_B0 K n ((t0, (IntKind.i64.wrap (t3 + (1 : Int)), ())), ())))))
 (iterG spec_MarksOk_t0 spec_MarksOk_B0 K n ((t0, (IntKind.i64.wrap (t3 + (1 : Int)), ())), ())))))
 (K (.exit 0) (spec_MarksOk_x0_1)) := by kernel_rfl
theorem spec_MarksOk_e0_0 (x0 : List Int) (d0 : Bool) : spec_MarksOk_K0 x0 .ret (spec_MarksOk_x0_0 d0) =
 some ((d0, ()), ((), ())) := by kernel_rfl
theorem spec_MarksOk_e0_1 (x0 : List Int) : spec_MarksOk_K0 x0 (.exit 0) (spec_MarksOk_x0_1) =
 some ((true, ()), ((), ())) := by kernel_rfl
/-! spec.MetaOk -/
noncomputable def spec_MetaOk_b : Code := bd Try.f29
@[reducible] def spec_MetaOk_t0 : Tm := ⟨[], [], [(1, .ptr 16 0), (3, .sc true tI)], [(16, .box [.sc true tIs, .sc true tIss, .sc true tB, .sc true tB, .sc true tB, .sc true tI])], [1, 2, 22, 23, 24, 25, 28, 29, 30, 31, 34, 35, 36, 39, 40, 41, 42, 43, 44, 45], [16]⟩
def spec_MetaOk_T : List (Nat × Tm) := [(0, spec_MetaOk_t0)]
noncomputable def spec_MetaOk_E : Env := ⟨tt0, [(67, spec_GensOk_C), (68, spec_l1In_C), (81, spec_MarksOk_C)]⟩
noncomputable def spec_MetaOk_F : PsD [.ro tMeta] → Option (RsD [.own tB] × PsO [.ro tMeta]) := fun x => evFn spec_MetaOk_E spec_MetaOk_T Try.f29 spec_MetaOk_b [.ro tMeta] [.own tB] x
@[reducible] noncomputable def spec_MetaOk_C : Ct := ⟨[.ro tMeta], [.own tB], spec_MetaOk_F⟩
theorem spec_MetaOk_h (x : PsD [.ro tMeta]) (y : RsD [.own tB] × PsO [.ro tMeta]) (h : spec_MetaOk_F x = some y) : evFn spec_MetaOk_E spec_MetaOk_T Try.f29 spec_MetaOk_b [.ro tMeta] [.own tB] x = some y := h
theorem spec_MetaOk_c : ∀ f c, get spec_MetaOk_E.ct f = some c → Sat Try.prog f c := ct_cons spec_GensOk_S (ct_cons spec_l1In_S (ct_cons spec_MarksOk_S (ct_nil)))
theorem spec_MetaOk_S : Sat Try.prog 29 spec_MetaOk_C := fn_ok2 (envOk _) spec_MetaOk_c mixedOk Try.func29 (by kernel_rfl : Try.f29.body = some spec_MetaOk_b) (by kernel_rfl) (by kernel_rfl) spec_MetaOk_h
noncomputable def spec_MetaOk_Ke  (x0 : List Int × List (List Int) × Bool × Bool × Bool × Int × Unit) : Ex → AS → Option (RsD [.own tB] × PsO [.ro tMeta]) := endK spec_MetaOk_E Try.f29 [.ro tMeta] [.own tB] (initL [.ro tMeta] (x0, ()) 0).1
noncomputable def spec_MetaOk_B0 {R : Type} : AS → (Ex → AS → Option R) → Option R := fun A K => ev spec_MetaOk_E spec_MetaOk_T 0 (cA (cA (cB (cA (cB spec_MetaOk_b))))) A K
noncomputable def spec_MetaOk_K0  (x0 : List Int × List (List Int) × Bool × Bool × Bool × Int × Unit) : Ex → AS → Option (RsD [.own tB] × PsO [.ro tMeta]) := kBlk 0 (kSeq (fun A K => ev spec_MetaOk_E spec_MetaOk_T 1000 (cB (cB spec_MetaOk_b)) A K) (spec_MetaOk_Ke x0))
noncomputable def spec_MetaOk_x0_0 (d0 : Bool) (d1 : List Int) (d2 : List (List Int)) (d3 : Bool) (d4 : Bool) (d5 : Bool) (d6 : Int) : AS := ⟨[(1, .v (.one (.bptr 16 0))), (2, .v (.one (.d true tB d0)))], [(16, .box [.d true tIs d1, .d true tIss d2, .d true tB d3, .d true tB d4, .d true tB d5, .d true tI d6])]⟩
noncomputable def spec_MetaOk_x0_1 (d0 : List Int) (d1 : List (List Int)) (d2 : Bool) (d3 : Bool) (d4 : Bool) (d5 : Int) : AS := ⟨[(1, .v (.one (.bptr 16 0)))], [(16, .box [.d true tIs d0, .d true tIss d1, .d true tB d2, .d true tB d3, .d true tB d4, .d true tI d5])]⟩
theorem spec_MetaOk_l0 {R : Type} {K : Ex → AS → Option R} {s : spec_MetaOk_t0.D} (n : Nat) {v : Option R} (h : iterG spec_MetaOk_t0 spec_MetaOk_B0 K n s = v) (hv : ∃ r, v = some r) : loopG spec_MetaOk_t0 spec_MetaOk_B0 K s = v := loop_eq (ev_mono _ _) n h hv
theorem spec_MetaOk_main (x0 : List Int × List (List Int) × Bool × Bool × Bool × Int × Unit) : spec_MetaOk_F (x0, ()) =
 loopG spec_MetaOk_t0 spec_MetaOk_B0 (spec_MetaOk_K0 x0) (((0 : Int), ()), ((x0.1, (x0.2.1, (x0.2.2.1, (x0.2.2.2.1, (x0.2.2.2.2.1, (x0.2.2.2.2.2.1, ())))))), ())) := by kernel_rfl
theorem spec_MetaOk_r0 {R : Type} (K : Ex → AS → Option R) (n : Nat) (t3 : Int) (b16_0 : List Int) (b16_1 : List (List Int)) (b16_2 : Bool) (b16_3 : Bool) (b16_4 : Bool) (b16_5 : Int) : iterG spec_MetaOk_t0 spec_MetaOk_B0 K (n + 1) ((t3, ()), ((b16_0, (b16_1, (b16_2, (b16_3, (b16_4, (b16_5, ())))))), ())) =
 brk (decide (t3 < (b16_1.length : Int)))
 (ck (decide (0 ≤ t3) && decide (t3 < b16_1.length)) ((spec_MarksOk_F (rdD tIs b16_1 t3, ())).bind fun y16 =>
 brk (!y16.1.1)
 (K .ret (spec_MetaOk_x0_0 false b16_0 b16_1 b16_2 b16_3 b16_4 b16_5))
 (iterG spec_MetaOk_t0 spec_MetaOk_B0 K n ((IntKind.i64.wrap (t3 + (1 : Int)), ()), ((b16_0, (b16_1, (b16_2, (b16_3, (b16_4, (b16_5, ())))))), ())))))
 (K (.exit 0) (spec_MetaOk_x0_1 b16_0 b16_1 b16_2 b16_3 b16_4 b16_5)) := by kernel_rfl
theorem spec_MetaOk_e0_0 (x0 : List Int × List (List Int) × Bool × Bool × Bool × Int × Unit) (d0 : Bool) (d1 : List Int) (d2 : List (List Int)) (d3 : Bool) (d4 : Bool) (d5 : Bool) (d6 : Int) : spec_MetaOk_K0 x0 .ret (spec_MetaOk_x0_0 d0 d1 d2 d3 d4 d5 d6) =
 some ((d0, ()), ((), ())) := by kernel_rfl
theorem spec_MetaOk_e0_1 (x0 : List Int × List (List Int) × Bool × Bool × Bool × Int × Unit) (d0 : List Int) (d1 : List (List Int)) (d2 : Bool) (d3 : Bool) (d4 : Bool) (d5 : Int) : spec_MetaOk_K0 x0 (.exit 0) (spec_MetaOk_x0_1 d0 d1 d2 d3 d4 d5) =
 (spec_GensOk_F (d0, ())).bind fun y20 =>
 brk y20.1.1
 (brk (decide ((0 : Int) < (d0.length : Int)))
 (brk (decide ((d1.length : Int) = (3 : Int)))
 ((spec_l1In_F (d5, ((0 : Int), ((200 : Int), ())))).bind fun y36 =>
 brk y36.1.1
 (brk d3
 (some ((!d4, ()), ((), ())))
 (some ((true, ()), ((), ()))))
 (some ((false, ()), ((), ()))))
 (some ((false, ()), ((), ()))))
 (some ((false, ()), ((), ()))))
 (some ((false, ()), ((), ()))) := by kernel_rfl
/-! impl.from -/
noncomputable def impl_from_b : Code := bd Try.f71
def impl_from_T : List (Nat × Tm) := []
noncomputable def impl_from_E : Env := ⟨tt0, []⟩
noncomputable def impl_from_F : PsD [.ro tI, .ro tI, .ro tI] → Option (RsD [.own tB] × PsO [.ro tI, .ro tI, .ro tI]) := fun x => evFn impl_from_E impl_from_T Try.f71 impl_from_b [.ro tI, .ro tI, .ro tI] [.own tB] x
@[reducible] noncomputable def impl_from_C : Ct := ⟨[.ro tI, .ro tI, .ro tI], [.own tB], impl_from_F⟩
theorem impl_from_h (x : PsD [.ro tI, .ro tI, .ro tI]) (y : RsD [.own tB] × PsO [.ro tI, .ro tI, .ro tI]) (h : impl_from_F x = some y) : evFn impl_from_E impl_from_T Try.f71 impl_from_b [.ro tI, .ro tI, .ro tI] [.own tB] x = some y := h
theorem impl_from_c : ∀ f c, get impl_from_E.ct f = some c → Sat Try.prog f c := ct_nil
theorem impl_from_S : Sat Try.prog 71 impl_from_C := fn_ok2 (envOk _) impl_from_c mixedOk Try.func71 (by kernel_rfl : Try.f71.body = some impl_from_b) (by kernel_rfl) (by kernel_rfl) impl_from_h
noncomputable def impl_from_Ke  (x0 : Int) (x1 : Int) (x2 : Int) : Ex → AS → Option (RsD [.own tB] × PsO [.ro tI, .ro tI, .ro tI]) := endK impl_from_E Try.f71 [.ro tI, .ro tI, .ro tI] [.own tB] (initL [.ro tI, .ro tI, .ro tI] (x0, (x1, (x2, ()))) 0).1
theorem impl_from_main (x0 : Int) (x1 : Int) (x2 : Int) : impl_from_F (x0, (x1, (x2, ()))) =
 brk (decide (x1 ≤ x0))
 (some ((decide (x0 ≤ x2), ()), ((), ((), ((), ())))))
 (some ((false, ()), ((), ((), ((), ()))))) := by kernel_rfl
/-! slices.Index[[]int,int] -/
noncomputable def slices_Index_int_b : Code := bd Try.f129
@[reducible] def slices_Index_int_t0 : Tm := ⟨[], [], [(0, .sc true tIs), (1, .sc true tI), (7, .sc true tI), (8, .sc true tI)], [], [4], []⟩
def slices_Index_int_T : List (Nat × Tm) := [(0, slices_Index_int_t0)]
noncomputable def slices_Index_int_E : Env := ⟨tt0, []⟩
noncomputable def slices_Index_int_F : PsD [.ro tIs, .ro tI] → Option (RsD [.own tI] × PsO [.ro tIs, .ro tI]) := fun x => evFn slices_Index_int_E slices_Index_int_T Try.f129 slices_Index_int_b [.ro tIs, .ro tI] [.own tI] x
@[reducible] noncomputable def slices_Index_int_C : Ct := ⟨[.ro tIs, .ro tI], [.own tI], slices_Index_int_F⟩
theorem slices_Index_int_h (x : PsD [.ro tIs, .ro tI]) (y : RsD [.own tI] × PsO [.ro tIs, .ro tI]) (h : slices_Index_int_F x = some y) : evFn slices_Index_int_E slices_Index_int_T Try.f129 slices_Index_int_b [.ro tIs, .ro tI] [.own tI] x = some y := h
theorem slices_Index_int_c : ∀ f c, get slices_Index_int_E.ct f = some c → Sat Try.prog f c := ct_nil
theorem slices_Index_int_S : Sat Try.prog 129 slices_Index_int_C := fn_ok2 (envOk _) slices_Index_int_c mixedOk Try.func129 (by kernel_rfl : Try.f129.body = some slices_Index_int_b) (by kernel_rfl) (by kernel_rfl) slices_Index_int_h
noncomputable def slices_Index_int_Ke  (x0 : List Int) (x1 : Int) : Ex → AS → Option (RsD [.own tI] × PsO [.ro tIs, .ro tI]) := endK slices_Index_int_E Try.f129 [.ro tIs, .ro tI] [.own tI] (initL [.ro tIs, .ro tI] (x0, (x1, ())) 0).1
noncomputable def slices_Index_int_B0 {R : Type} : AS → (Ex → AS → Option R) → Option R := fun A K => ev slices_Index_int_E slices_Index_int_T 0 (cA (cA (cB (cA (cB slices_Index_int_b))))) A K
noncomputable def slices_Index_int_K0  (x0 : List Int) (x1 : Int) : Ex → AS → Option (RsD [.own tI] × PsO [.ro tIs, .ro tI]) := kBlk 0 (kSeq (fun A K => ev slices_Index_int_E slices_Index_int_T 1000 (cB (cB slices_Index_int_b)) A K) (slices_Index_int_Ke x0 x1))
noncomputable def slices_Index_int_x0_0 (d0 : Int) : AS := ⟨[(4, .v (.one (.d true tI d0)))], []⟩
noncomputable def slices_Index_int_x0_1 : AS := ⟨[], []⟩
theorem slices_Index_int_l0 {R : Type} {K : Ex → AS → Option R} {s : slices_Index_int_t0.D} (n : Nat) {v : Option R} (h : iterG slices_Index_int_t0 slices_Index_int_B0 K n s = v) (hv : ∃ r, v = some r) : loopG slices_Index_int_t0 slices_Index_int_B0 K s = v := loop_eq (ev_mono _ _) n h hv
theorem slices_Index_int_main (x0 : List Int) (x1 : Int) : slices_Index_int_F (x0, (x1, ())) =
 loopG slices_Index_int_t0 slices_Index_int_B0 (slices_Index_int_K0 x0 x1) ((x0, (x1, ((x0.length : Int), ((0 : Int), ())))), ()) := by kernel_rfl
theorem slices_Index_int_r0 {R : Type} (K : Ex → AS → Option R) (n : Nat) (t0 : List Int) (t1 : Int) (t7 : Int) (t8 : Int) : iterG slices_Index_int_t0 slices_Index_int_B0 K (n + 1) ((t0, (t1, (t7, (t8, ())))), ()) =
 brk (decide (t8 < t7))
 (ck (decide (0 ≤ t8) && decide (t8 < t0.length)) (brk (decide (t1 = rdD tI t0 t8))
 (K .ret (slices_Index_int_x0_0 t8))
 (iterG slices_Index_int_t0 slices_Index_int_B0 K n ((t0, (t1, (t7, (IntKind.i64.wrap (t8 + (1 : Int)), ())))), ()))))
 (K (.exit 0) (slices_Index_int_x0_1)) := by kernel_rfl
theorem slices_Index_int_e0_0 (x0 : List Int) (x1 : Int) (d0 : Int) : slices_Index_int_K0 x0 x1 .ret (slices_Index_int_x0_0 d0) =
 some ((d0, ()), ((), ((), ()))) := by kernel_rfl
theorem slices_Index_int_e0_1 (x0 : List Int) (x1 : Int) : slices_Index_int_K0 x0 x1 (.exit 0) (slices_Index_int_x0_1) =
 some (((-1 : Int), ()), ((), ((), ()))) := by kernel_rfl
/-! slices.Contains[[]int,int] -/
noncomputable def slices_Contains_int_b : Code := bd Try.f117
def slices_Contains_int_T : List (Nat × Tm) := []
noncomputable def slices_Contains_int_E : Env := ⟨tt0, [(129, slices_Index_int_C)]⟩
noncomputable def slices_Contains_int_F : PsD [.ro tIs, .ro tI] → Option (RsD [.own tB] × PsO [.ro tIs, .ro tI]) := fun x => evFn slices_Contains_int_E slices_Contains_int_T Try.f117 slices_Contains_int_b [.ro tIs, .ro tI] [.own tB] x
@[reducible] noncomputable def slices_Contains_int_C : Ct := ⟨[.ro tIs, .ro tI], [.own tB], slices_Contains_int_F⟩
theorem slices_Contains_int_h (x : PsD [.ro tIs, .ro tI]) (y : RsD [.own tB] × PsO [.ro tIs, .ro tI]) (h : slices_Contains_int_F x = some y) : evFn slices_Contains_int_E slices_Contains_int_T Try.f117 slices_Contains_int_b [.ro tIs, .ro tI] [.own tB] x = some y := h
theorem slices_Contains_int_c : ∀ f c, get slices_Contains_int_E.ct f = some c → Sat Try.prog f c := ct_cons slices_Index_int_S (ct_nil)
theorem slices_Contains_int_S : Sat Try.prog 117 slices_Contains_int_C := fn_ok2 (envOk _) slices_Contains_int_c mixedOk Try.func117 (by kernel_rfl : Try.f117.body = some slices_Contains_int_b) (by kernel_rfl) (by kernel_rfl) slices_Contains_int_h
noncomputable def slices_Contains_int_Ke  (x0 : List Int) (x1 : Int) : Ex → AS → Option (RsD [.own tB] × PsO [.ro tIs, .ro tI]) := endK slices_Contains_int_E Try.f117 [.ro tIs, .ro tI] [.own tB] (initL [.ro tIs, .ro tI] (x0, (x1, ())) 0).1
theorem slices_Contains_int_main (x0 : List Int) (x1 : Int) : slices_Contains_int_F (x0, (x1, ())) =
 (slices_Index_int_F (x0, (x1, ()))).bind fun y7 =>
 some ((decide ((0 : Int) ≤ y7.1.1), ()), ((), ((), ()))) := by kernel_rfl
/-! impl.GensOk -/
noncomputable def impl_GensOk_b : Code := bd Try.f70
@[reducible] def impl_GensOk_t0 : Tm := ⟨[], [], [(0, .sc true tIs), (5, .sc true tIs), (6, .sc true tI), (7, .sc true tI)], [], [0, 2], []⟩
def impl_GensOk_T : List (Nat × Tm) := [(0, impl_GensOk_t0)]
noncomputable def impl_GensOk_E : Env := ⟨tt0, [(71, impl_from_C), (117, slices_Contains_int_C)]⟩
noncomputable def impl_GensOk_F : PsD [.ro tIs] → Option (RsD [.own tB] × PsO [.ro tIs]) := fun x => evFn impl_GensOk_E impl_GensOk_T Try.f70 impl_GensOk_b [.ro tIs] [.own tB] x
@[reducible] noncomputable def impl_GensOk_C : Ct := ⟨[.ro tIs], [.own tB], impl_GensOk_F⟩
theorem impl_GensOk_h (x : PsD [.ro tIs]) (y : RsD [.own tB] × PsO [.ro tIs]) (h : impl_GensOk_F x = some y) : evFn impl_GensOk_E impl_GensOk_T Try.f70 impl_GensOk_b [.ro tIs] [.own tB] x = some y := h
theorem impl_GensOk_c : ∀ f c, get impl_GensOk_E.ct f = some c → Sat Try.prog f c := ct_cons impl_from_S (ct_cons slices_Contains_int_S (ct_nil))
theorem impl_GensOk_S : Sat Try.prog 70 impl_GensOk_C := fn_ok2 (envOk _) impl_GensOk_c mixedOk Try.func70 (by kernel_rfl : Try.f70.body = some impl_GensOk_b) (by kernel_rfl) (by kernel_rfl) impl_GensOk_h
noncomputable def impl_GensOk_Ke  (x0 : List Int) : Ex → AS → Option (RsD [.own tB] × PsO [.ro tIs]) := endK impl_GensOk_E Try.f70 [.ro tIs] [.own tB] (initL [.ro tIs] (x0, ()) 0).1
noncomputable def impl_GensOk_B0 {R : Type} : AS → (Ex → AS → Option R) → Option R := fun A K => ev impl_GensOk_E impl_GensOk_T 0 (cA (cA (cB (cA (cB impl_GensOk_b))))) A K
noncomputable def impl_GensOk_K0  (x0 : List Int) : Ex → AS → Option (RsD [.own tB] × PsO [.ro tIs]) := kBlk 0 (kSeq (fun A K => ev impl_GensOk_E impl_GensOk_T 1000 (cB (cB impl_GensOk_b)) A K) (impl_GensOk_Ke x0))
noncomputable def impl_GensOk_x0_0 (d0 : List Int) (d1 : Bool) : AS := ⟨[(0, .v (.one (.d true tIs d0))), (2, .v (.one (.d true tB d1)))], []⟩
noncomputable def impl_GensOk_x0_1 (d0 : List Int) : AS := ⟨[(0, .v (.one (.d true tIs d0)))], []⟩
theorem impl_GensOk_l0 {R : Type} {K : Ex → AS → Option R} {s : impl_GensOk_t0.D} (n : Nat) {v : Option R} (h : iterG impl_GensOk_t0 impl_GensOk_B0 K n s = v) (hv : ∃ r, v = some r) : loopG impl_GensOk_t0 impl_GensOk_B0 K s = v := loop_eq (ev_mono _ _) n h hv
theorem impl_GensOk_main (x0 : List Int) : impl_GensOk_F (x0, ()) =
 loopG impl_GensOk_t0 impl_GensOk_B0 (impl_GensOk_K0 x0) ((x0, (x0, ((x0.length : Int), ((0 : Int), ())))), ()) := by kernel_rfl
theorem impl_GensOk_r0 {R : Type} (K : Ex → AS → Option R) (n : Nat) (t0 : List Int) (t5 : List Int) (t6 : Int) (t7 : Int) : iterG impl_GensOk_t0 impl_GensOk_B0 K (n + 1) ((t0, (t5, (t6, (t7, ())))), ()) =
 brk (decide (t7 < t6))
 (ck (decide (0 ≤ t7) && decide (t7 < t5.length)) ((impl_from_F (rdD tI t5 t7, ((1 : Int), ((100000 : Int), ())))).bind fun y13 =>
 brk (!y13.1.1)
 (K .ret (impl_GensOk_x0_0 t0 false))
 (ck (decide (0 ≤ (0 : Int)) && decide ((0 : Int) ≤ t7) && decide (t7 ≤ t0.length)) ((slices_Contains_int_F ((t0.take t7.toNat).drop (0 : Int).toNat, (rdD tI t5 t7, ()))).bind fun y20 =>
 brk y20.1.1
 (K .ret (impl_GensOk_x0_0 t0 false))
 (iterG impl_GensOk_t0 impl_GensOk_B0 K n ((t0, (t5, (t6, (IntKind.i64.wrap (t7 + (1 : Int)), ())))), ()))))))
 (K (.exit 0) (impl_GensOk_x0_1 t0)) := by kernel_rfl
theorem impl_GensOk_e0_0 (x0 : List Int) (d0 : List Int) (d1 : Bool) : impl_GensOk_K0 x0 .ret (impl_GensOk_x0_0 d0 d1) =
 some ((d1, ()), ((), ())) := by kernel_rfl
theorem impl_GensOk_e0_1 (x0 : List Int) (d0 : List Int) : impl_GensOk_K0 x0 (.exit 0) (impl_GensOk_x0_1 d0) =
 some ((decide ((d0.length : Int) ≤ (12 : Int)), ()), ((), ())) := by kernel_rfl
/-! impl.isCell -/
noncomputable def impl_isCell_b : Code := bd Try.f72
def impl_isCell_T : List (Nat × Tm) := []
noncomputable def impl_isCell_E : Env := ⟨tt0, [(71, impl_from_C)]⟩
noncomputable def impl_isCell_F : PsD [.ro tI] → Option (RsD [.own tB] × PsO [.ro tI]) := fun x => evFn impl_isCell_E impl_isCell_T Try.f72 impl_isCell_b [.ro tI] [.own tB] x
@[reducible] noncomputable def impl_isCell_C : Ct := ⟨[.ro tI], [.own tB], impl_isCell_F⟩
theorem impl_isCell_h (x : PsD [.ro tI]) (y : RsD [.own tB] × PsO [.ro tI]) (h : impl_isCell_F x = some y) : evFn impl_isCell_E impl_isCell_T Try.f72 impl_isCell_b [.ro tI] [.own tB] x = some y := h
theorem impl_isCell_c : ∀ f c, get impl_isCell_E.ct f = some c → Sat Try.prog f c := ct_cons impl_from_S (ct_nil)
theorem impl_isCell_S : Sat Try.prog 72 impl_isCell_C := fn_ok2 (envOk _) impl_isCell_c mixedOk Try.func72 (by kernel_rfl : Try.f72.body = some impl_isCell_b) (by kernel_rfl) (by kernel_rfl) impl_isCell_h
noncomputable def impl_isCell_Ke  (x0 : Int) : Ex → AS → Option (RsD [.own tB] × PsO [.ro tI]) := endK impl_isCell_E Try.f72 [.ro tI] [.own tB] (initL [.ro tI] (x0, ()) 0).1
theorem impl_isCell_main (x0 : Int) : impl_isCell_F (x0, ()) =
 (impl_from_F (x0, ((0 : Int), ((7 : Int), ())))).bind fun y4 =>
 some ((y4.1.1, ()), ((), ())) := by kernel_rfl
/-! impl.MarksOk -/
noncomputable def impl_MarksOk_b : Code := bd Try.f120
@[reducible] def impl_MarksOk_t0 : Tm := ⟨[], [], [(0, .sc true tIs), (5, .sc true tIs), (6, .sc true tI), (7, .sc true tI)], [], [2], []⟩
def impl_MarksOk_T : List (Nat × Tm) := [(0, impl_MarksOk_t0)]
noncomputable def impl_MarksOk_E : Env := ⟨tt0, [(72, impl_isCell_C)]⟩
noncomputable def impl_MarksOk_F : PsD [.ro tIs] → Option (RsD [.own tB] × PsO [.ro tIs]) := fun x => evFn impl_MarksOk_E impl_MarksOk_T Try.f120 impl_MarksOk_b [.ro tIs] [.own tB] x
@[reducible] noncomputable def impl_MarksOk_C : Ct := ⟨[.ro tIs], [.own tB], impl_MarksOk_F⟩
theorem impl_MarksOk_h (x : PsD [.ro tIs]) (y : RsD [.own tB] × PsO [.ro tIs]) (h : impl_MarksOk_F x = some y) : evFn impl_MarksOk_E impl_MarksOk_T Try.f120 impl_MarksOk_b [.ro tIs] [.own tB] x = some y := h
theorem impl_MarksOk_c : ∀ f c, get impl_MarksOk_E.ct f = some c → Sat Try.prog f c := ct_cons impl_isCell_S (ct_nil)
theorem impl_MarksOk_S : Sat Try.prog 120 impl_MarksOk_C := fn_ok2 (envOk _) impl_MarksOk_c mixedOk Try.func120 (by kernel_rfl : Try.f120.body = some impl_MarksOk_b) (by kernel_rfl) (by kernel_rfl) impl_MarksOk_h
noncomputable def impl_MarksOk_Ke  (x0 : List Int) : Ex → AS → Option (RsD [.own tB] × PsO [.ro tIs]) := endK impl_MarksOk_E Try.f120 [.ro tIs] [.own tB] (initL [.ro tIs] (x0, ()) 0).1
noncomputable def impl_MarksOk_B0 {R : Type} : AS → (Ex → AS → Option R) → Option R := fun A K => ev impl_MarksOk_E impl_MarksOk_T 0 (cA (cA (cB (cA (cB impl_MarksOk_b))))) A K
noncomputable def impl_MarksOk_K0  (x0 : List Int) : Ex → AS → Option (RsD [.own tB] × PsO [.ro tIs]) := kBlk 0 (kSeq (fun A K => ev impl_MarksOk_E impl_MarksOk_T 1000 (cB (cB impl_MarksOk_b)) A K) (impl_MarksOk_Ke x0))
noncomputable def impl_MarksOk_x0_0 (d0 : Bool) : AS := ⟨[(2, .v (.one (.d true tB d0)))], []⟩
noncomputable def impl_MarksOk_x0_1 : AS := ⟨[], []⟩
theorem impl_MarksOk_l0 {R : Type} {K : Ex → AS → Option R} {s : impl_MarksOk_t0.D} (n : Nat) {v : Option R} (h : iterG impl_MarksOk_t0 impl_MarksOk_B0 K n s = v) (hv : ∃ r, v = some r) : loopG impl_MarksOk_t0 impl_MarksOk_B0 K s = v := loop_eq (ev_mono _ _) n h hv
theorem impl_MarksOk_main (x0 : List Int) : impl_MarksOk_F (x0, ()) =
 loopG impl_MarksOk_t0 impl_MarksOk_B0 (impl_MarksOk_K0 x0) ((x0, (x0, ((x0.length : Int), ((0 : Int), ())))), ()) := by kernel_rfl
theorem impl_MarksOk_r0 {R : Type} (K : Ex → AS → Option R) (n : Nat) (t0 : List Int) (t5 : List Int) (t6 : Int) (t7 : Int) : iterG impl_MarksOk_t0 impl_MarksOk_B0 K (n + 1) ((t0, (t5, (t6, (t7, ())))), ()) =
 brk (decide (t7 < t6))
 (ck (decide (0 ≤ t7) && decide (t7 < t5.length)) ((impl_isCell_F (rdD tI t5 t7, ())).bind fun y13 =>
 brk (!y13.1.1)
 (K .ret (impl_MarksOk_x0_0 false))
 (brk (decide ((0 : Int) < t7))
 (ck (decide (0 ≤ IntKind.i64.wrap (t7 - (1 : Int))) && decide (IntKind.i64.wrap (t7 - (1 : Int)) < t0.length)) (brk (decide (rdD tI t5 t7 ≤ rdD tI t0 (IntKind.i64.wrap (t7 - (1 : Int)))))
 (K .ret (impl_MarksOk_x0_0 false))
 (iterG impl_MarksOk_t0 impl_MarksOk_B0 K n ((t0, (t5, (t6, (IntKind.i64.wrap (t7 + (1 : Int)), ())))), ()))))
 (iterG impl_MarksOk_t0 impl_MarksOk_B0 K n ((t0, (t5, (t6, (IntKind.i64.wrap (t7 + (1 : Int)), ())))), ())))))
 (K (.exit 0) (impl_MarksOk_x0_1)) := by kernel_rfl
theorem impl_MarksOk_e0_0 (x0 : List Int) (d0 : Bool) : impl_MarksOk_K0 x0 .ret (impl_MarksOk_x0_0 d0) =
 some ((d0, ()), ((), ())) := by kernel_rfl
theorem impl_MarksOk_e0_1 (x0 : List Int) : impl_MarksOk_K0 x0 (.exit 0) (impl_MarksOk_x0_1) =
 some ((true, ()), ((), ())) := by kernel_rfl
/-! impl.marksAll$1 -/
noncomputable def impl_marksAll_1_b : Code := bd Try.f119
def impl_marksAll_1_T : List (Nat × Tm) := []
noncomputable def impl_marksAll_1_E : Env := ⟨tt0, [(120, impl_MarksOk_C)]⟩
noncomputable def impl_marksAll_1_F : PsD [.ro tIs] → Option (RsD [.own tB] × PsO [.ro tIs]) := fun x => evFn impl_marksAll_1_E impl_marksAll_1_T Try.f119 impl_marksAll_1_b [.ro tIs] [.own tB] x
@[reducible] noncomputable def impl_marksAll_1_C : Ct := ⟨[.ro tIs], [.own tB], impl_marksAll_1_F⟩
theorem impl_marksAll_1_h (x : PsD [.ro tIs]) (y : RsD [.own tB] × PsO [.ro tIs]) (h : impl_marksAll_1_F x = some y) : evFn impl_marksAll_1_E impl_marksAll_1_T Try.f119 impl_marksAll_1_b [.ro tIs] [.own tB] x = some y := h
theorem impl_marksAll_1_c : ∀ f c, get impl_marksAll_1_E.ct f = some c → Sat Try.prog f c := ct_cons impl_MarksOk_S (ct_nil)
theorem impl_marksAll_1_S : Sat Try.prog 119 impl_marksAll_1_C := fn_ok2 (envOk _) impl_marksAll_1_c mixedOk Try.func119 (by kernel_rfl : Try.f119.body = some impl_marksAll_1_b) (by kernel_rfl) (by kernel_rfl) impl_marksAll_1_h
noncomputable def impl_marksAll_1_Ke  (x0 : List Int) : Ex → AS → Option (RsD [.own tB] × PsO [.ro tIs]) := endK impl_marksAll_1_E Try.f119 [.ro tIs] [.own tB] (initL [.ro tIs] (x0, ()) 0).1
theorem impl_marksAll_1_main (x0 : List Int) : impl_marksAll_1_F (x0, ()) =
 (impl_MarksOk_F (x0, ())).bind fun y4 =>
 some ((!y4.1.1, ()), ((), ())) := by kernel_rfl
/-! slices.IndexFunc[[][]int,[]int] -/
noncomputable def slices_IndexFunc__int_b : Code := bd Try.f130
@[reducible] def slices_IndexFunc__int_t0 : Tm := ⟨[], [], [(0, .sc true tIss), (1, .fnv 119 []), (7, .sc true tI), (8, .sc true tI)], [], [4], []⟩
def slices_IndexFunc__int_T : List (Nat × Tm) := [(0, slices_IndexFunc__int_t0)]
noncomputable def slices_IndexFunc__int_E : Env := ⟨tt0, [(119, impl_marksAll_1_C)]⟩
noncomputable def slices_IndexFunc__int_F : PsD [.ro tIss, .fn 119 []] → Option (RsD [.own tI] × PsO [.ro tIss, .fn 119 []]) := fun x => evFn slices_IndexFunc__int_E slices_IndexFunc__int_T Try.f130 slices_IndexFunc__int_b [.ro tIss, .fn 119 []] [.own tI] x
@[reducible] noncomputable def slices_IndexFunc__int_C : Ct := ⟨[.ro tIss, .fn 119 []], [.own tI], slices_IndexFunc__int_F⟩
theorem slices_IndexFunc__int_h (x : PsD [.ro tIss, .fn 119 []]) (y : RsD [.own tI] × PsO [.ro tIss, .fn 119 []]) (h : slices_IndexFunc__int_F x = some y) : evFn slices_IndexFunc__int_E slices_IndexFunc__int_T Try.f130 slices_IndexFunc__int_b [.ro tIss, .fn 119 []] [.own tI] x = some y := h
theorem slices_IndexFunc__int_c : ∀ f c, get slices_IndexFunc__int_E.ct f = some c → Sat Try.prog f c := ct_cons impl_marksAll_1_S (ct_nil)
theorem slices_IndexFunc__int_S : Sat Try.prog 130 slices_IndexFunc__int_C := fn_ok2 (envOk _) slices_IndexFunc__int_c mixedOk Try.func130 (by kernel_rfl : Try.f130.body = some slices_IndexFunc__int_b) (by kernel_rfl) (by kernel_rfl) slices_IndexFunc__int_h
noncomputable def slices_IndexFunc__int_Ke  (x0 : List (List Int)) (x1 : Unit) : Ex → AS → Option (RsD [.own tI] × PsO [.ro tIss, .fn 119 []]) := endK slices_IndexFunc__int_E Try.f130 [.ro tIss, .fn 119 []] [.own tI] (initL [.ro tIss, .fn 119 []] (x0, (x1, ())) 0).1
noncomputable def slices_IndexFunc__int_B0 {R : Type} : AS → (Ex → AS → Option R) → Option R := fun A K => ev slices_IndexFunc__int_E slices_IndexFunc__int_T 0 (cA (cA (cB (cA (cB slices_IndexFunc__int_b))))) A K
noncomputable def slices_IndexFunc__int_K0  (x0 : List (List Int)) (x1 : Unit) : Ex → AS → Option (RsD [.own tI] × PsO [.ro tIss, .fn 119 []]) := kBlk 0 (kSeq (fun A K => ev slices_IndexFunc__int_E slices_IndexFunc__int_T 1000 (cB (cB slices_IndexFunc__int_b)) A K) (slices_IndexFunc__int_Ke x0 x1))
noncomputable def slices_IndexFunc__int_x0_0 (d0 : Int) : AS := ⟨[(4, .v (.one (.d true tI d0)))], []⟩
noncomputable def slices_IndexFunc__int_x0_1 : AS := ⟨[], []⟩
theorem slices_IndexFunc__int_l0 {R : Type} {K : Ex → AS → Option R} {s : slices_IndexFunc__int_t0.D} (n : Nat) {v : Option R} (h : iterG slices_IndexFunc__int_t0 slices_IndexFunc__int_B0 K n s = v) (hv : ∃ r, v = some r) : loopG slices_IndexFunc__int_t0 slices_IndexFunc__int_B0 K s = v := loop_eq (ev_mono _ _) n h hv
theorem slices_IndexFunc__int_main (x0 : List (List Int)) (x1 : Unit) : slices_IndexFunc__int_F (x0, (x1, ())) =
 loopG slices_IndexFunc__int_t0 slices_IndexFunc__int_B0 (slices_IndexFunc__int_K0 x0 x1) ((x0, ((x0.length : Int), ((0 : Int), ()))), ()) := by kernel_rfl
theorem slices_IndexFunc__int_r0 {R : Type} (K : Ex → AS → Option R) (n : Nat) (t0 : List (List Int)) (t7 : Int) (t8 : Int) : iterG slices_IndexFunc__int_t0 slices_IndexFunc__int_B0 K (n + 1) ((t0, (t7, (t8, ()))), ()) =
 brk (decide (t8 < t7))
 (ck (decide (0 ≤ t8) && decide (t8 < t0.length)) ((impl_marksAll_1_F (rdD tIs t0 t8, ())).bind fun y16 =>
 brk y16.1.1
 (K .ret (slices_IndexFunc__int_x0_0 t8))
 (iterG slices_IndexFunc__int_t0 slices_IndexFunc__int_B0 K n ((t0, (t7, (IntKind.i64.wrap (t8 + (1 : Int)), ()))), ()))))
 (K (.exit 0) (slices_IndexFunc__int_x0_1)) := by kernel_rfl
theorem slices_IndexFunc__int_e0_0 (x0 : List (List Int)) (x1 : Unit) (d0 : Int) : slices_IndexFunc__int_K0 x0 x1 .ret (slices_IndexFunc__int_x0_0 d0) =
 some ((d0, ()), ((), ((), ()))) := by kernel_rfl
theorem slices_IndexFunc__int_e0_1 (x0 : List (List Int)) (x1 : Unit) : slices_IndexFunc__int_K0 x0 x1 (.exit 0) (slices_IndexFunc__int_x0_1) =
 some (((-1 : Int), ()), ((), ((), ()))) := by kernel_rfl
/-! slices.ContainsFunc[[][]int,[]int] -/
noncomputable def slices_ContainsFunc__int_b : Code := bd Try.f118
def slices_ContainsFunc__int_T : List (Nat × Tm) := []
noncomputable def slices_ContainsFunc__int_E : Env := ⟨tt0, [(130, slices_IndexFunc__int_C)]⟩
noncomputable def slices_ContainsFunc__int_F : PsD [.ro tIss, .fn 119 []] → Option (RsD [.own tB] × PsO [.ro tIss, .fn 119 []]) := fun x => evFn slices_ContainsFunc__int_E slices_ContainsFunc__int_T Try.f118 slices_ContainsFunc__int_b [.ro tIss, .fn 119 []] [.own tB] x
@[reducible] noncomputable def slices_ContainsFunc__int_C : Ct := ⟨[.ro tIss, .fn 119 []], [.own tB], slices_ContainsFunc__int_F⟩
theorem slices_ContainsFunc__int_h (x : PsD [.ro tIss, .fn 119 []]) (y : RsD [.own tB] × PsO [.ro tIss, .fn 119 []]) (h : slices_ContainsFunc__int_F x = some y) : evFn slices_ContainsFunc__int_E slices_ContainsFunc__int_T Try.f118 slices_ContainsFunc__int_b [.ro tIss, .fn 119 []] [.own tB] x = some y := h
theorem slices_ContainsFunc__int_c : ∀ f c, get slices_ContainsFunc__int_E.ct f = some c → Sat Try.prog f c := ct_cons slices_IndexFunc__int_S (ct_nil)
theorem slices_ContainsFunc__int_S : Sat Try.prog 118 slices_ContainsFunc__int_C := fn_ok2 (envOk _) slices_ContainsFunc__int_c mixedOk Try.func118 (by kernel_rfl : Try.f118.body = some slices_ContainsFunc__int_b) (by kernel_rfl) (by kernel_rfl) slices_ContainsFunc__int_h
noncomputable def slices_ContainsFunc__int_Ke  (x0 : List (List Int)) (x1 : Unit) : Ex → AS → Option (RsD [.own tB] × PsO [.ro tIss, .fn 119 []]) := endK slices_ContainsFunc__int_E Try.f118 [.ro tIss, .fn 119 []] [.own tB] (initL [.ro tIss, .fn 119 []] (x0, (x1, ())) 0).1
theorem slices_ContainsFunc__int_main (x0 : List (List Int)) (x1 : Unit) : slices_ContainsFunc__int_F (x0, (x1, ())) =
 (slices_IndexFunc__int_F (x0, ((), ()))).bind fun y7 =>
 some ((decide ((0 : Int) ≤ y7.1.1), ()), ((), ((), ()))) := by kernel_rfl
/-! impl.marksAll -/
noncomputable def impl_marksAll_b : Code := bd Try.f82
def impl_marksAll_T : List (Nat × Tm) := []
noncomputable def impl_marksAll_E : Env := ⟨tt0, [(118, slices_ContainsFunc__int_C)]⟩
noncomputable def impl_marksAll_F : PsD [.ro tIss] → Option (RsD [.own tB] × PsO [.ro tIss]) := fun x => evFn impl_marksAll_E impl_marksAll_T Try.f82 impl_marksAll_b [.ro tIss] [.own tB] x
@[reducible] noncomputable def impl_marksAll_C : Ct := ⟨[.ro tIss], [.own tB], impl_marksAll_F⟩
theorem impl_marksAll_h (x : PsD [.ro tIss]) (y : RsD [.own tB] × PsO [.ro tIss]) (h : impl_marksAll_F x = some y) : evFn impl_marksAll_E impl_marksAll_T Try.f82 impl_marksAll_b [.ro tIss] [.own tB] x = some y := h
theorem impl_marksAll_c : ∀ f c, get impl_marksAll_E.ct f = some c → Sat Try.prog f c := ct_cons slices_ContainsFunc__int_S (ct_nil)
theorem impl_marksAll_S : Sat Try.prog 82 impl_marksAll_C := fn_ok2 (envOk _) impl_marksAll_c mixedOk Try.func82 (by kernel_rfl : Try.f82.body = some impl_marksAll_b) (by kernel_rfl) (by kernel_rfl) impl_marksAll_h
noncomputable def impl_marksAll_Ke  (x0 : List (List Int)) : Ex → AS → Option (RsD [.own tB] × PsO [.ro tIss]) := endK impl_marksAll_E Try.f82 [.ro tIss] [.own tB] (initL [.ro tIss] (x0, ()) 0).1
theorem impl_marksAll_main (x0 : List (List Int)) : impl_marksAll_F (x0, ()) =
 brk (decide ((x0.length : Int) = (3 : Int)))
 ((slices_ContainsFunc__int_F (x0, ((), ()))).bind fun y8 =>
 some ((!y8.1.1, ()), ((), ())))
 (some ((false, ()), ((), ()))) := by kernel_rfl
/-! impl.MetaOk -/
noncomputable def impl_MetaOk_b : Code := bd Try.f30
def impl_MetaOk_T : List (Nat × Tm) := []
noncomputable def impl_MetaOk_E : Env := ⟨tt0, [(70, impl_GensOk_C), (71, impl_from_C), (82, impl_marksAll_C)]⟩
noncomputable def impl_MetaOk_F : PsD [.ro tMeta] → Option (RsD [.own tB] × PsO [.ro tMeta]) := fun x => evFn impl_MetaOk_E impl_MetaOk_T Try.f30 impl_MetaOk_b [.ro tMeta] [.own tB] x
@[reducible] noncomputable def impl_MetaOk_C : Ct := ⟨[.ro tMeta], [.own tB], impl_MetaOk_F⟩
theorem impl_MetaOk_h (x : PsD [.ro tMeta]) (y : RsD [.own tB] × PsO [.ro tMeta]) (h : impl_MetaOk_F x = some y) : evFn impl_MetaOk_E impl_MetaOk_T Try.f30 impl_MetaOk_b [.ro tMeta] [.own tB] x = some y := h
theorem impl_MetaOk_c : ∀ f c, get impl_MetaOk_E.ct f = some c → Sat Try.prog f c := ct_cons impl_GensOk_S (ct_cons impl_from_S (ct_cons impl_marksAll_S (ct_nil)))
theorem impl_MetaOk_S : Sat Try.prog 30 impl_MetaOk_C := fn_ok2 (envOk _) impl_MetaOk_c mixedOk Try.func30 (by kernel_rfl : Try.f30.body = some impl_MetaOk_b) (by kernel_rfl) (by kernel_rfl) impl_MetaOk_h
noncomputable def impl_MetaOk_Ke  (x0 : List Int × List (List Int) × Bool × Bool × Bool × Int × Unit) : Ex → AS → Option (RsD [.own tB] × PsO [.ro tMeta]) := endK impl_MetaOk_E Try.f30 [.ro tMeta] [.own tB] (initL [.ro tMeta] (x0, ()) 0).1
theorem impl_MetaOk_main (x0 : List Int × List (List Int) × Bool × Bool × Bool × Int × Unit) : impl_MetaOk_F (x0, ()) =
 (impl_GensOk_F (x0.1, ())).bind fun y5 =>
 brk y5.1.1
 (brk (decide ((0 : Int) < (x0.1.length : Int)))
 ((impl_marksAll_F (x0.2.1, ())).bind fun y15 =>
 brk y15.1.1
 ((impl_from_F (x0.2.2.2.2.2.1, ((0 : Int), ((200 : Int), ())))).bind fun y20 =>
 brk y20.1.1
 (brk x0.2.2.2.1
 (some ((!x0.2.2.2.2.1, ()), ((), ())))
 (some ((true, ()), ((), ()))))
 (some ((false, ()), ((), ()))))
 (some ((false, ()), ((), ()))))
 (some ((false, ()), ((), ()))))
 (some ((false, ()), ((), ()))) := by kernel_rfl
/-! laws.FnExactMetaOk -/
noncomputable def laws_FnExactMetaOk_b : Code := bd Try.f7
def laws_FnExactMetaOk_T : List (Nat × Tm) := []
noncomputable def laws_FnExactMetaOk_E : Env := ⟨tt0, [(24, laws_szMeta_C), (26, laws_toMeta_C), (28, laws_eqMeta_C), (29, spec_MetaOk_C), (30, impl_MetaOk_C)]⟩
noncomputable def laws_FnExactMetaOk_F : PsD [.ro tMeta] → Option (RsD [.own tB] × PsO [.ro tMeta]) := fun x => evFn laws_FnExactMetaOk_E laws_FnExactMetaOk_T Try.f7 laws_FnExactMetaOk_b [.ro tMeta] [.own tB] x
@[reducible] noncomputable def laws_FnExactMetaOk_C : Ct := ⟨[.ro tMeta], [.own tB], laws_FnExactMetaOk_F⟩
theorem laws_FnExactMetaOk_h (x : PsD [.ro tMeta]) (y : RsD [.own tB] × PsO [.ro tMeta]) (h : laws_FnExactMetaOk_F x = some y) : evFn laws_FnExactMetaOk_E laws_FnExactMetaOk_T Try.f7 laws_FnExactMetaOk_b [.ro tMeta] [.own tB] x = some y := h
theorem laws_FnExactMetaOk_c : ∀ f c, get laws_FnExactMetaOk_E.ct f = some c → Sat Try.prog f c := ct_cons laws_szMeta_S (ct_cons laws_toMeta_S (ct_cons laws_eqMeta_S (ct_cons spec_MetaOk_S (ct_cons impl_MetaOk_S (ct_nil)))))
theorem laws_FnExactMetaOk_S : Sat Try.prog 7 laws_FnExactMetaOk_C := fn_ok2 (envOk _) laws_FnExactMetaOk_c mixedOk Try.func7 (by kernel_rfl : Try.f7.body = some laws_FnExactMetaOk_b) (by kernel_rfl) (by kernel_rfl) laws_FnExactMetaOk_h
noncomputable def laws_FnExactMetaOk_Ke  (x0 : List Int × List (List Int) × Bool × Bool × Bool × Int × Unit) : Ex → AS → Option (RsD [.own tB] × PsO [.ro tMeta]) := endK laws_FnExactMetaOk_E Try.f7 [.ro tMeta] [.own tB] (initL [.ro tMeta] (x0, ()) 0).1
theorem laws_FnExactMetaOk_main (x0 : List Int × List (List Int) × Bool × Bool × Bool × Int × Unit) : laws_FnExactMetaOk_F (x0, ()) =
 (laws_szMeta_F ((x0.1, (x0.2.1, (x0.2.2.1, (x0.2.2.2.1, (x0.2.2.2.2.1, (x0.2.2.2.2.2.1, ())))))), ((1048576 : Int), ()))).bind fun y9 =>
 brk (decide (y9.1.1 < (0 : Int)))
 (some ((true, ()), ((), ())))
 ((laws_toMeta_F ((x0.1, (x0.2.1, (x0.2.2.1, (x0.2.2.2.1, (x0.2.2.2.2.1, (x0.2.2.2.2.2.1, ())))))), ())).bind fun y13 =>
 (spec_MetaOk_F ((y13.1.1.1, (y13.1.1.2.1, (y13.1.1.2.2.1, (y13.1.1.2.2.2.1, (y13.1.1.2.2.2.2.1, (y13.1.1.2.2.2.2.2.1, ())))))), ())).bind fun y14 =>
 (laws_toMeta_F ((x0.1, (x0.2.1, (x0.2.2.1, (x0.2.2.2.1, (x0.2.2.2.2.1, (x0.2.2.2.2.2.1, ())))))), ())).bind fun y16 =>
 (impl_MetaOk_F ((y16.1.1.1, (y16.1.1.2.1, (y16.1.1.2.2.1, (y16.1.1.2.2.2.1, (y16.1.1.2.2.2.2.1, (y16.1.1.2.2.2.2.2.1, ())))))), ())).bind fun y18 =>
 brk (!(y18.1.1 == y14.1.1))
 (some ((false, ()), ((), ())))
 ((laws_toMeta_F ((x0.1, (x0.2.1, (x0.2.2.1, (x0.2.2.2.1, (x0.2.2.2.2.1, (x0.2.2.2.2.2.1, ())))))), ())).bind fun y24 =>
 (laws_eqMeta_F ((y16.1.1.1, (y16.1.1.2.1, (y16.1.1.2.2.1, (y16.1.1.2.2.2.1, (y16.1.1.2.2.2.2.1, (y16.1.1.2.2.2.2.2.1, ())))))), ((y24.1.1.1, (y24.1.1.2.1, (y24.1.1.2.2.1, (y24.1.1.2.2.2.1, (y24.1.1.2.2.2.2.1, (y24.1.1.2.2.2.2.2.1, ())))))), ()))).bind fun y25 =>
 brk (!y25.1.1)
 (some ((false, ()), ((), ())))
 (some ((true, ()), ((), ()))))) := by kernel_rfl
end Go.Refl
