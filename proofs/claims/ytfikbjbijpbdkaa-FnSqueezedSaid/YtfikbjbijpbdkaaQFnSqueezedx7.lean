/- Functions of the program as plain Lean functions, and their contracts, told by a program for this claim. No condition. -/
import Derived.Test.YtfikbjbijpbdkaaQFnSqueezedx0
import Derived.Test.YtfikbjbijpbdkaaQFnSqueezedx1
import Derived.Test.YtfikbjbijpbdkaaQFnSqueezedx2
import Derived.Test.YtfikbjbijpbdkaaQFnSqueezedx3
import Derived.Test.YtfikbjbijpbdkaaQFnSqueezedx4
import Derived.Test.YtfikbjbijpbdkaaQFnSqueezedx5
import Derived.Test.YtfikbjbijpbdkaaQFnSqueezedx6
namespace Go.Proofs.Ytfikbjbijpbdkaa.QFnSqueezed
open Go.RowKit Go.Proofs.YtfikbjbijpbdkaaW.PrintWords Go.Proofs.YtfikbjbijpbdkaaW.PrintLast Go.Proofs.YtfikbjbijpbdkaaW.PrintMore Go.Proofs.Ytfikbjbijpbdkaa.My
attribute [local go_sem] max2_int min2_int max_two min_two max_three min_three max_four min_four   -- for this text's walks alone
set_option linter.unusedVariables false
set_option linter.unusedSimpArgs false

/-! ### laws_FnSqueezed: function 6 -/
def laws_FnSqueezed.j0 : Nat → List Int → List Int → List Int → Bool → Bool → Option (Bool)
  | 0, _, _, _, _, _ => none
  | k + 1, x3, x4, x6, x7, x67 => if x67 = true then (some false) else (if (x3.length : Int) > 3000 then (some ((x4.length : Int) == 0)) else ((impl_Spread.f k x4).bind fun bt392 => (if bt392.2 = true then (if (strOfNums bt392.1).toList = (strOfNums x3).toList then (if (x4.length : Int) ≤ (wrap64 (2 * (x3.length : Int))) then (if x7 = true then (some (decide ((x6.length : Int) ≤ 3000))) else (if (x6.length : Int) = 0 then (some (decide ((x6.length : Int) ≤ 3000))) else (some false))) else (some false)) else (some false)) else (some false))))
def laws_FnSqueezed.f (k : Nat) (l0 : List Int) : Option (Bool) := (laws_big.f l0).bind fun t364 => (if t364 = true then (some true) else ((spec_DrawSqueeze.f k l0).bind fun t365 => ((impl_Squeeze.f k t365).bind fun t368 => ((spec_DrawSpread.f k l0).bind fun t371 => ((impl_Spread.f k t371).bind fun bt374 => ((spec_Spread.f k t371).bind fun bt378 => ((spec_DrawRun.f k l0).bind fun bt382 => ((spec_Squeeze.f k t365).bind fun t387 => (if (strOfNums t368).toList = (strOfNums t387).toList then (if (bt374.2 != bt378.2) = true then (laws_FnSqueezed.j0 k t365 t368 bt374.1 bt374.2 true) else (if (strOfNums bt374.1).toList = (strOfNums bt378.1).toList then ((impl_Run.f k bt382.1 bt382.2.1 bt382.2.2).bind fun t390 => ((spec_Run.f k bt382.1 bt382.2.1 bt382.2.2).bind fun t391 => (laws_FnSqueezed.j0 k t365 t368 bt374.1 bt374.2 (t390 != t391)))) else (laws_FnSqueezed.j0 k t365 t368 bt374.1 bt374.2 true))) else (laws_FnSqueezed.j0 k t365 t368 bt374.1 bt374.2 true))))))))))
theorem laws_FnSqueezed.mono_l : ∀ k, (∀ y0 y1 y2 y3 y4, LeO (laws_FnSqueezed.j0 k y0 y1 y2 y3 y4) (laws_FnSqueezed.j0 (k + 1) y0 y1 y2 y3 y4))
  | 0 => fun _ _ _ _ _ r h => by simp [laws_FnSqueezed.j0] at h
  | k + 1 => by
    have ih0 := laws_FnSqueezed.mono_l k
    intro y0 y1 y2 y3 y4
    unfold laws_FnSqueezed.j0
    repeat' first
    | (with_reducible exact ih0 _ _ _ _ _)
    | (with_reducible exact impl_Run.mono _ _ _ _)
    | (with_reducible exact impl_Spread.mono _ _)
    | (with_reducible exact impl_Squeeze.mono _ _)
    | (with_reducible exact spec_DrawRun.mono _ _)
    | (with_reducible exact spec_DrawSpread.mono _ _)
    | (with_reducible exact spec_DrawSqueeze.mono _ _)
    | (with_reducible exact spec_Run.mono _ _ _ _)
    | (with_reducible exact spec_Spread.mono _ _)
    | (with_reducible exact spec_Squeeze.mono _ _)
    | (with_reducible exact LeO.refl _)
    | (with_reducible exact LeO.none _)
    | (with_reducible refine LeO.ite ?_ ?_)
    | (with_reducible refine LeO.bind ?_ (fun _ => ?_))
    | exact ih0 _ _ _ _ _
    | exact impl_Run.mono _ _ _ _
    | exact impl_Spread.mono _ _
    | exact impl_Squeeze.mono _ _
    | exact spec_DrawRun.mono _ _
    | exact spec_DrawSpread.mono _ _
    | exact spec_DrawSqueeze.mono _ _
    | exact spec_Run.mono _ _ _ _
    | exact spec_Spread.mono _ _
    | exact spec_Squeeze.mono _ _
    | exact LeO.none _
    | refine LeO.ite ?_ ?_
    | refine LeO.bind ?_ (fun _ => ?_)
theorem laws_FnSqueezed.mono : ∀ a0 k, LeO (laws_FnSqueezed.f k a0) (laws_FnSqueezed.f (k + 1) a0) := by
  intro a0 k
  have ih0 := laws_FnSqueezed.mono_l k
  unfold laws_FnSqueezed.f
  repeat' first
      | (with_reducible exact ih0 _ _ _ _ _)
      | (with_reducible exact impl_Run.mono _ _ _ _)
      | (with_reducible exact impl_Spread.mono _ _)
      | (with_reducible exact impl_Squeeze.mono _ _)
      | (with_reducible exact spec_DrawRun.mono _ _)
      | (with_reducible exact spec_DrawSpread.mono _ _)
      | (with_reducible exact spec_DrawSqueeze.mono _ _)
      | (with_reducible exact spec_Run.mono _ _ _ _)
      | (with_reducible exact spec_Spread.mono _ _)
      | (with_reducible exact spec_Squeeze.mono _ _)
      | (with_reducible exact LeO.refl _)
      | (with_reducible exact LeO.none _)
      | (with_reducible refine LeO.ite ?_ ?_)
      | (with_reducible refine LeO.bind ?_ (fun _ => ?_))
      | exact ih0 _ _ _ _ _
      | exact impl_Run.mono _ _ _ _
      | exact impl_Spread.mono _ _
      | exact impl_Squeeze.mono _ _
      | exact spec_DrawRun.mono _ _
      | exact spec_DrawSpread.mono _ _
      | exact spec_DrawSqueeze.mono _ _
      | exact spec_Run.mono _ _ _ _
      | exact spec_Spread.mono _ _
      | exact spec_Squeeze.mono _ _
      | exact LeO.none _
      | refine LeO.ite ?_ ?_
      | refine LeO.bind ?_ (fun _ => ?_)
def laws_FnSqueezed.T9 : Bool × List (List Nat × List Nat) := (true, [([], []), ([0], [0]), ([], []), ([2], [2]), ([3], [3]), ([1, 4], [1, 4]), ([5, 3], [5]), ([6], [6]), ([6], [6]), ([7, 8, 6], [6, 7, 8]), ([6, 9], [6, 9]), ([10, 6], [10]), ([11], [11]), ([12, 11], [11, 12]), ([11], [11]), ([14, 11], [11, 14]), ([13, 15, 11], [11, 13, 15]), ([11, 16], [11, 16]), ([17, 11], [17]), ([18], [18]), ([18], [18]), ([18], [18]), ([19, 20, 21, 18, 18], [18, 19, 20, 21]), ([18], [18]), ([18], [18]), ([18], [18]), ([23, 24, 25, 22, 18], [18, 23, 24, 25]), ([22, 26, 18], [18, 22, 26]), ([18, 27], [18, 27])])
def laws_FnSqueezed.B9 : List Nat := [0, 1, 0, 4, 12, 31, 63, 127, 127, 511, 1023, 2047, 4095, 8191, 4095, 20479, 65535, 131071, 262143, 524287, 524287, 524287, 4194303, 524287, 524287, 524287, 67108863, 134217727, 268435455]
theorem laws_FnSqueezed.tab9 : rtab .any (opsOf Try.f6 9) = laws_FnSqueezed.T9 := by kernel_rfl
theorem laws_FnSqueezed.bits9 : waitsOk laws_FnSqueezed.T9.2 laws_FnSqueezed.B9 = true := by kernel_rfl
set_option maxHeartbeats 8000000 in
set_option maxRecDepth 100000 in
theorem laws_FnSqueezed.calls (k : Nat) (A0 : Option Addr) (c0 : Nat) (l0 : List Int) (r : Bool) (w : World) (hr0 : Kd.C (Kd.int .u8) w A0 l0.length l0) (hc0 : l0.length ≤ c0) (hT_ : Aside0 (r = true)) (h : laws_FnSqueezed.f k l0 = some r) :
    Calls Try.prog 6 #[.slice A0 l0.length c0] w fun e w' => e = .returned (.bool r) ∧ Below w.heap.size w w' := by
  have HR0 := Aside0.mk hr0
  have HC0 := Aside0.mk hc0
  clear hr0 hc0
  have HB := Aside0.mk (Below.refl w.heap.size w)
  have H : ((laws_big.f l0).bind fun t364 => (if t364 = true then (some true) else ((spec_DrawSqueeze.f k l0).bind fun t365 => ((impl_Squeeze.f k t365).bind fun t368 => ((spec_DrawSpread.f k l0).bind fun t371 => ((impl_Spread.f k t371).bind fun bt374 => ((spec_Spread.f k t371).bind fun bt378 => ((spec_DrawRun.f k l0).bind fun bt382 => ((spec_Squeeze.f k t365).bind fun t387 => (if (strOfNums t368).toList = (strOfNums t387).toList then (if (bt374.2 != bt378.2) = true then (laws_FnSqueezed.j0 k t365 t368 bt374.1 bt374.2 true) else (if (strOfNums bt374.1).toList = (strOfNums bt378.1).toList then ((impl_Run.f k bt382.1 bt382.2.1 bt382.2.2).bind fun t390 => ((spec_Run.f k bt382.1 bt382.2.1 bt382.2.2).bind fun t391 => (laws_FnSqueezed.j0 k t365 t368 bt374.1 bt374.2 (t390 != t391)))) else (laws_FnSqueezed.j0 k t365 t368 bt374.1 bt374.2 true))) else (laws_FnSqueezed.j0 k t365 t368 bt374.1 bt374.2 true))))))))))) = some r := h
  clear h
  replace H := Option.bind_eq_some_iff.mp H
  obtain ⟨t364, A20, H⟩ := H
  replace H : (if t364 = true then (some true) else ((spec_DrawSqueeze.f k l0).bind fun t365 => ((impl_Squeeze.f k t365).bind fun t368 => ((spec_DrawSpread.f k l0).bind fun t371 => ((impl_Spread.f k t371).bind fun bt374 => ((spec_Spread.f k t371).bind fun bt378 => ((spec_DrawRun.f k l0).bind fun bt382 => ((spec_Squeeze.f k t365).bind fun t387 => (if (strOfNums t368).toList = (strOfNums t387).toList then (if (bt374.2 != bt378.2) = true then (laws_FnSqueezed.j0 k t365 t368 bt374.1 bt374.2 true) else (if (strOfNums bt374.1).toList = (strOfNums bt378.1).toList then ((impl_Run.f k bt382.1 bt382.2.1 bt382.2.2).bind fun t390 => ((spec_Run.f k bt382.1 bt382.2.1 bt382.2.2).bind fun t391 => (laws_FnSqueezed.j0 k t365 t368 bt374.1 bt374.2 (t390 != t391)))) else (laws_FnSqueezed.j0 k t365 t368 bt374.1 bt374.2 true))) else (laws_FnSqueezed.j0 k t365 t368 bt374.1 bt374.2 true)))))))))) = some r := H
  have A2 := Aside0.mk A20
  clear A20
  by_cases c3 : t364 = true
  · subst c3
    have H1 : (some true) = some r := by rw [if_pos rfl] at H; exact H
    clear H
    have H := H1
    clear H1
    obtain rfl := Option.some.inj H
    go_enter Try.func6, Try.ntmps6
    go_wp2_with (first | ((with_reducible refine gate_callee (f := 15) rfl ?_); refine goesL_ (some 16) rfl rfl Try.func15 (by kernel_rfl) rfl #[.slice A0 l0.length c0] rfl (by (try simp only [List.map_toArray, List.map_cons, List.map_nil]); first | done | rfl | (simp only [List.length_drop, List.length_take]; rfl)) ?_; (with_reducible refine (laws_big.calls _ _ l0 true _ ?side1 ?side2 A2.out).mono ?_); (case side1 => repeat (first | exact HR0.out | (with_reducible refine Kd.C_alloc ?_ _) | (with_reducible refine Kd.C_drewN ?_ _) | (with_reducible refine Kd.C_drew ?_))); (case side2 => exact HC0.out); rintro e w' ⟨rfl, ⟨nd, rfl⟩⟩; refine ⟨_, rfl, ?_⟩))
    go_ret
    exact ⟨by first | rfl | (simp [errW_none, errW_some] <;> rfl) | (simp [*, errW_none, errW_some] <;> rfl), by repeat (first | (with_reducible first | exact HB.out | apply below_alloc | apply pw_below_drewN | apply below_drew1) | exact HB.out)⟩
  replace c3 := Bool.eq_false_iff.mpr c3
  subst c3
  have H1 : ((spec_DrawSqueeze.f k l0).bind fun t365 => ((impl_Squeeze.f k t365).bind fun t368 => ((spec_DrawSpread.f k l0).bind fun t371 => ((impl_Spread.f k t371).bind fun bt374 => ((spec_Spread.f k t371).bind fun bt378 => ((spec_DrawRun.f k l0).bind fun bt382 => ((spec_Squeeze.f k t365).bind fun t387 => (if (strOfNums t368).toList = (strOfNums t387).toList then (if (bt374.2 != bt378.2) = true then (laws_FnSqueezed.j0 k t365 t368 bt374.1 bt374.2 true) else (if (strOfNums bt374.1).toList = (strOfNums bt378.1).toList then ((impl_Run.f k bt382.1 bt382.2.1 bt382.2.2).bind fun t390 => ((spec_Run.f k bt382.1 bt382.2.1 bt382.2.2).bind fun t391 => (laws_FnSqueezed.j0 k t365 t368 bt374.1 bt374.2 (t390 != t391)))) else (laws_FnSqueezed.j0 k t365 t368 bt374.1 bt374.2 true))) else (laws_FnSqueezed.j0 k t365 t368 bt374.1 bt374.2 true))))))))) = some r := by rw [if_neg (show ¬ (false = true) by decide)] at H; exact H
  clear H
  have H := H1
  clear H1
  replace H := Option.bind_eq_some_iff.mp H
  obtain ⟨t365, A40, H⟩ := H
  replace H : ((impl_Squeeze.f k t365).bind fun t368 => ((spec_DrawSpread.f k l0).bind fun t371 => ((impl_Spread.f k t371).bind fun bt374 => ((spec_Spread.f k t371).bind fun bt378 => ((spec_DrawRun.f k l0).bind fun bt382 => ((spec_Squeeze.f k t365).bind fun t387 => (if (strOfNums t368).toList = (strOfNums t387).toList then (if (bt374.2 != bt378.2) = true then (laws_FnSqueezed.j0 k t365 t368 bt374.1 bt374.2 true) else (if (strOfNums bt374.1).toList = (strOfNums bt378.1).toList then ((impl_Run.f k bt382.1 bt382.2.1 bt382.2.2).bind fun t390 => ((spec_Run.f k bt382.1 bt382.2.1 bt382.2.2).bind fun t391 => (laws_FnSqueezed.j0 k t365 t368 bt374.1 bt374.2 (t390 != t391)))) else (laws_FnSqueezed.j0 k t365 t368 bt374.1 bt374.2 true))) else (laws_FnSqueezed.j0 k t365 t368 bt374.1 bt374.2 true)))))))) = some r := H
  have A4 := Aside0.mk A40
  clear A40
  replace H := Option.bind_eq_some_iff.mp H
  obtain ⟨t368, A50, H⟩ := H
  replace H : ((spec_DrawSpread.f k l0).bind fun t371 => ((impl_Spread.f k t371).bind fun bt374 => ((spec_Spread.f k t371).bind fun bt378 => ((spec_DrawRun.f k l0).bind fun bt382 => ((spec_Squeeze.f k t365).bind fun t387 => (if (strOfNums t368).toList = (strOfNums t387).toList then (if (bt374.2 != bt378.2) = true then (laws_FnSqueezed.j0 k t365 t368 bt374.1 bt374.2 true) else (if (strOfNums bt374.1).toList = (strOfNums bt378.1).toList then ((impl_Run.f k bt382.1 bt382.2.1 bt382.2.2).bind fun t390 => ((spec_Run.f k bt382.1 bt382.2.1 bt382.2.2).bind fun t391 => (laws_FnSqueezed.j0 k t365 t368 bt374.1 bt374.2 (t390 != t391)))) else (laws_FnSqueezed.j0 k t365 t368 bt374.1 bt374.2 true))) else (laws_FnSqueezed.j0 k t365 t368 bt374.1 bt374.2 true))))))) = some r := H
  have A5 := Aside0.mk A50
  clear A50
  replace H := Option.bind_eq_some_iff.mp H
  obtain ⟨t371, A60, H⟩ := H
  replace H : ((impl_Spread.f k t371).bind fun bt374 => ((spec_Spread.f k t371).bind fun bt378 => ((spec_DrawRun.f k l0).bind fun bt382 => ((spec_Squeeze.f k t365).bind fun t387 => (if (strOfNums t368).toList = (strOfNums t387).toList then (if (bt374.2 != bt378.2) = true then (laws_FnSqueezed.j0 k t365 t368 bt374.1 bt374.2 true) else (if (strOfNums bt374.1).toList = (strOfNums bt378.1).toList then ((impl_Run.f k bt382.1 bt382.2.1 bt382.2.2).bind fun t390 => ((spec_Run.f k bt382.1 bt382.2.1 bt382.2.2).bind fun t391 => (laws_FnSqueezed.j0 k t365 t368 bt374.1 bt374.2 (t390 != t391)))) else (laws_FnSqueezed.j0 k t365 t368 bt374.1 bt374.2 true))) else (laws_FnSqueezed.j0 k t365 t368 bt374.1 bt374.2 true)))))) = some r := H
  have A6 := Aside0.mk A60
  clear A60
  replace H := Option.bind_eq_some_iff.mp H
  obtain ⟨⟨t374, t375⟩, A70, H⟩ := H
  replace H : ((spec_Spread.f k t371).bind fun bt378 => ((spec_DrawRun.f k l0).bind fun bt382 => ((spec_Squeeze.f k t365).bind fun t387 => (if (strOfNums t368).toList = (strOfNums t387).toList then (if (t375 != bt378.2) = true then (laws_FnSqueezed.j0 k t365 t368 t374 t375 true) else (if (strOfNums t374).toList = (strOfNums bt378.1).toList then ((impl_Run.f k bt382.1 bt382.2.1 bt382.2.2).bind fun t390 => ((spec_Run.f k bt382.1 bt382.2.1 bt382.2.2).bind fun t391 => (laws_FnSqueezed.j0 k t365 t368 t374 t375 (t390 != t391)))) else (laws_FnSqueezed.j0 k t365 t368 t374 t375 true))) else (laws_FnSqueezed.j0 k t365 t368 t374 t375 true))))) = some r := H
  have A7 := Aside0.mk A70
  clear A70
  replace H := Option.bind_eq_some_iff.mp H
  obtain ⟨⟨t378, t379⟩, A80, H⟩ := H
  replace H : ((spec_DrawRun.f k l0).bind fun bt382 => ((spec_Squeeze.f k t365).bind fun t387 => (if (strOfNums t368).toList = (strOfNums t387).toList then (if (t375 != t379) = true then (laws_FnSqueezed.j0 k t365 t368 t374 t375 true) else (if (strOfNums t374).toList = (strOfNums t378).toList then ((impl_Run.f k bt382.1 bt382.2.1 bt382.2.2).bind fun t390 => ((spec_Run.f k bt382.1 bt382.2.1 bt382.2.2).bind fun t391 => (laws_FnSqueezed.j0 k t365 t368 t374 t375 (t390 != t391)))) else (laws_FnSqueezed.j0 k t365 t368 t374 t375 true))) else (laws_FnSqueezed.j0 k t365 t368 t374 t375 true)))) = some r := H
  have A8 := Aside0.mk A80
  clear A80
  replace H := Option.bind_eq_some_iff.mp H
  obtain ⟨⟨t382, t383, t384⟩, A90, H⟩ := H
  replace H : ((spec_Squeeze.f k t365).bind fun t387 => (if (strOfNums t368).toList = (strOfNums t387).toList then (if (t375 != t379) = true then (laws_FnSqueezed.j0 k t365 t368 t374 t375 true) else (if (strOfNums t374).toList = (strOfNums t378).toList then ((impl_Run.f k t382 t383 t384).bind fun t390 => ((spec_Run.f k t382 t383 t384).bind fun t391 => (laws_FnSqueezed.j0 k t365 t368 t374 t375 (t390 != t391)))) else (laws_FnSqueezed.j0 k t365 t368 t374 t375 true))) else (laws_FnSqueezed.j0 k t365 t368 t374 t375 true))) = some r := H
  have A9 := Aside0.mk A90
  clear A90
  have HC10 := Aside0.mk H
  clear H
  go_enter Try.func6, Try.ntmps6
  go_upto_region 9 with (first | ((with_reducible refine gate_callee (f := 15) rfl ?_); refine goesL_ (some 16) rfl rfl Try.func15 (by kernel_rfl) rfl #[.slice A0 l0.length c0] rfl (by (try simp only [List.map_toArray, List.map_cons, List.map_nil]); first | done | rfl | (simp only [List.length_drop, List.length_take]; rfl)) ?_; (with_reducible refine (laws_big.calls _ _ l0 false _ ?side1 ?side2 A2.out).mono ?_); (case side1 => repeat (first | exact HR0.out | (with_reducible refine Kd.C_alloc ?_ _) | (with_reducible refine Kd.C_drewN ?_ _) | (with_reducible refine Kd.C_drew ?_))); (case side2 => exact HC0.out); rintro e w' ⟨rfl, ⟨nd, rfl⟩⟩; refine ⟨_, rfl, ?_⟩) | ((with_reducible refine gate_callee (f := 39) rfl ?_); refine goesL_ (some 18) rfl rfl Try.func39 (by kernel_rfl) rfl #[.slice A0 l0.length c0] rfl (by (try simp only [List.map_toArray, List.map_cons, List.map_nil]); first | done | rfl | (simp only [List.length_drop, List.length_take]; rfl)) ?_; (with_reducible refine (spec_DrawSqueeze.calls k _ _ l0 t365 _ ?side1 ?side2 A4.out).mono ?_); (case side1 => repeat (first | exact HR0.out | (with_reducible refine Kd.C_alloc ?_ _) | (with_reducible refine Kd.C_drewN ?_ _) | (with_reducible refine Kd.C_drew ?_))); (case side2 => exact HC0.out); rintro e w11 ⟨v366, rfl, ho0, hb⟩; refine ⟨_, rfl, ?_⟩; have n0_ := Aside0.mk (Kd.R_lower ho0 (below_size (by repeat (first | (with_reducible first | exact HB.out | apply below_alloc | apply pw_below_drewN | apply below_drew1) | exact HB.out)))); have n1_ := Aside0.mk (below_step (by repeat (first | (with_reducible first | exact HB.out | apply below_alloc | apply pw_below_drewN | apply below_drew1) | exact HB.out)) hb); clear HB; have HO367 := n0_; have HB := n1_; clear n0_ n1_; (try clear hb); (try clear hb2); (try clear hk); (try clear hi); (try clear ho0); obtain ⟨Ao12, co12, eo12⟩ := Kd.R_slice HO367.out; subst eo12) | ((with_reducible refine gate_callee (f := 40) rfl ?_); refine goesL_ (some 20) rfl rfl Try.func40 (by kernel_rfl) rfl #[.slice Ao12 t365.length co12] rfl (by (try simp only [List.map_toArray, List.map_cons, List.map_nil]); first | done | rfl | (simp only [List.length_drop, List.length_take]; rfl)) ?_; (with_reducible refine (impl_Squeeze.calls k _ _ t365 t368 _ ?side1 ?side2 A5.out).mono ?_); (case side1 => repeat (first | exact (Kd.R_reads' HO367.out).2.2 | (with_reducible refine Kd.C_alloc ?_ _) | (with_reducible refine Kd.C_drewN ?_ _) | (with_reducible refine Kd.C_drew ?_))); (case side2 => exact (Kd.R_reads' HO367.out).2.1); rintro e w13 ⟨v369, rfl, ho0, hb⟩; refine ⟨_, rfl, ?_⟩; have n0_ := Aside0.mk (Kd.R_elder' (by (with_reducible repeat (first | apply a1 | apply a2 | apply a3)); exact HO367.out) (Kd.R_base ho0) hb); have n1_ := Aside0.mk (Kd.R_lower (Kd.R_new' ho0 (Kd.R_lt (by (with_reducible repeat (first | apply a1 | apply a2 | apply a3)); exact HO367.out))) (below_size (by repeat (first | (with_reducible first | exact HB.out | apply below_alloc | apply pw_below_drewN | apply below_drew1) | exact HB.out)))); have n2_ := Aside0.mk (below_step (by repeat (first | (with_reducible first | exact HB.out | apply below_alloc | apply pw_below_drewN | apply below_drew1) | exact HB.out)) hb); clear HO367; clear HB; have HO367 := n0_; have HO370 := n1_; have HB := n2_; clear n0_ n1_ n2_; (try clear hb); (try clear hb2); (try clear hk); (try clear hi); (try clear ho0)) | ((with_reducible refine gate_callee (f := 41) rfl ?_); refine goesL_ (some 22) rfl rfl Try.func41 (by kernel_rfl) rfl #[.slice A0 l0.length c0] rfl (by (try simp only [List.map_toArray, List.map_cons, List.map_nil]); first | done | rfl | (simp only [List.length_drop, List.length_take]; rfl)) ?_; (with_reducible refine (spec_DrawSpread.calls k _ _ l0 t371 _ ?side1 ?side2 A6.out).mono ?_); (case side1 => repeat (first | exact (Kd.C_below HR0.out HB.out) | (with_reducible refine Kd.C_alloc ?_ _) | (with_reducible refine Kd.C_drewN ?_ _) | (with_reducible refine Kd.C_drew ?_))); (case side2 => exact HC0.out); rintro e w14 ⟨v372, rfl, ho0, hb⟩; refine ⟨_, rfl, ?_⟩; have n0_ := Aside0.mk (Kd.R_elder' (by (with_reducible repeat (first | apply a1 | apply a2 | apply a3)); exact HO367.out) (Kd.R_base ho0) hb); have n1_ := Aside0.mk (Kd.R_elder' (by (with_reducible repeat (first | apply a1 | apply a2 | apply a3)); exact HO370.out) (Kd.R_base ho0) hb); have n2_ := Aside0.mk (Kd.R_lower (Kd.R_new' (Kd.R_new' ho0 (Kd.R_lt (by (with_reducible repeat (first | apply a1 | apply a2 | apply a3)); exact HO367.out))) (Kd.R_lt (by (with_reducible repeat (first | apply a1 | apply a2 | apply a3)); exact HO370.out))) (below_size (by repeat (first | (with_reducible first | exact HB.out | apply below_alloc | apply pw_below_drewN | apply below_drew1) | exact HB.out)))); have n3_ := Aside0.mk (below_step (by repeat (first | (with_reducible first | exact HB.out | apply below_alloc | apply pw_below_drewN | apply below_drew1) | exact HB.out)) hb); clear HO367; clear HO370; clear HB; have HO367 := n0_; have HO370 := n1_; have HO373 := n2_; have HB := n3_; clear n0_ n1_ n2_ n3_; (try clear hb); (try clear hb2); (try clear hk); (try clear hi); (try clear ho0); obtain ⟨Ao15, co15, eo15⟩ := Kd.R_slice HO373.out; subst eo15) | ((with_reducible refine gate_callee (f := 42) rfl ?_); refine goesL_ (some 25) rfl rfl Try.func42 (by kernel_rfl) rfl #[.slice Ao15 t371.length co15] rfl (by (try simp only [List.map_toArray, List.map_cons, List.map_nil]); first | done | rfl | (simp only [List.length_drop, List.length_take]; rfl)) ?_; (with_reducible refine (impl_Spread.calls k _ _ t371 t374 t375 _ ?side1 ?side2 A7.out).mono ?_); (case side1 => repeat (first | exact (Kd.R_reads' HO373.out).2.2 | (with_reducible refine Kd.C_alloc ?_ _) | (with_reducible refine Kd.C_drewN ?_ _) | (with_reducible refine Kd.C_drew ?_))); (case side2 => exact (Kd.R_reads' HO373.out).2.1); rintro e w16 ⟨v376, rfl, ho0, hb⟩; refine ⟨_, rfl, ?_⟩; have n0_ := Aside0.mk (Kd.R_elder' (by (with_reducible repeat (first | apply a1 | apply a2 | apply a3)); exact HO367.out) (Kd.R_base ho0) hb); have n1_ := Aside0.mk (Kd.R_elder' (by (with_reducible repeat (first | apply a1 | apply a2 | apply a3)); exact HO370.out) (Kd.R_base ho0) hb); have n2_ := Aside0.mk (Kd.R_elder' (by (with_reducible repeat (first | apply a1 | apply a2 | apply a3)); exact HO373.out) (Kd.R_base ho0) hb); have n3_ := Aside0.mk (Kd.R_lower (Kd.R_new' (Kd.R_new' (Kd.R_new' ho0 (Kd.R_lt (by (with_reducible repeat (first | apply a1 | apply a2 | apply a3)); exact HO367.out))) (Kd.R_lt (by (with_reducible repeat (first | apply a1 | apply a2 | apply a3)); exact HO370.out))) (Kd.R_lt (by (with_reducible repeat (first | apply a1 | apply a2 | apply a3)); exact HO373.out))) (below_size (by repeat (first | (with_reducible first | exact HB.out | apply below_alloc | apply pw_below_drewN | apply below_drew1) | exact HB.out)))); have n4_ := Aside0.mk (below_step (by repeat (first | (with_reducible first | exact HB.out | apply below_alloc | apply pw_below_drewN | apply below_drew1) | exact HB.out)) hb); clear HO367; clear HO370; clear HO373; clear HB; have HO367 := n0_; have HO370 := n1_; have HO373 := n2_; have HO377 := n3_; have HB := n4_; clear n0_ n1_ n2_ n3_ n4_; (try clear hb); (try clear hb2); (try clear hk); (try clear hi); (try clear ho0)) | ((with_reducible refine gate_callee (f := 43) rfl ?_); refine goesL_ (some 30) rfl rfl Try.func43 (by kernel_rfl) rfl #[.slice Ao15 t371.length co15] rfl (by (try simp only [List.map_toArray, List.map_cons, List.map_nil]); first | done | rfl | (simp only [List.length_drop, List.length_take]; rfl)) ?_; (with_reducible refine (spec_Spread.calls k _ _ t371 t378 t379 _ ?side1 ?side2 A8.out).mono ?_); (case side1 => repeat (first | exact (Kd.R_reads' HO373.out).2.2 | (with_reducible refine Kd.C_alloc ?_ _) | (with_reducible refine Kd.C_drewN ?_ _) | (with_reducible refine Kd.C_drew ?_))); (case side2 => exact (Kd.R_reads' HO373.out).2.1); rintro e w17 ⟨v380, rfl, ho0, hb⟩; refine ⟨_, rfl, ?_⟩; have n0_ := Aside0.mk (Kd.R_elder' (by (with_reducible repeat (first | apply a1 | apply a2 | apply a3)); exact HO367.out) (Kd.R_base ho0) hb); have n1_ := Aside0.mk (Kd.R_elder' (by (with_reducible repeat (first | apply a1 | apply a2 | apply a3)); exact HO370.out) (Kd.R_base ho0) hb); have n2_ := Aside0.mk (Kd.R_elder' (by (with_reducible repeat (first | apply a1 | apply a2 | apply a3)); exact HO373.out) (Kd.R_base ho0) hb); have n3_ := Aside0.mk (Kd.R_elder' (by (with_reducible repeat (first | apply a1 | apply a2 | apply a3)); exact HO377.out) (Kd.R_base ho0) hb); have n4_ := Aside0.mk (Kd.R_lower (Kd.R_new' (Kd.R_new' (Kd.R_new' (Kd.R_new' ho0 (Kd.R_lt (by (with_reducible repeat (first | apply a1 | apply a2 | apply a3)); exact HO367.out))) (Kd.R_lt (by (with_reducible repeat (first | apply a1 | apply a2 | apply a3)); exact HO370.out))) (Kd.R_lt (by (with_reducible repeat (first | apply a1 | apply a2 | apply a3)); exact HO373.out))) (Kd.R_lt (by (with_reducible repeat (first | apply a1 | apply a2 | apply a3)); exact HO377.out))) (below_size (by repeat (first | (with_reducible first | exact HB.out | apply below_alloc | apply pw_below_drewN | apply below_drew1) | exact HB.out)))); have n5_ := Aside0.mk (below_step (by repeat (first | (with_reducible first | exact HB.out | apply below_alloc | apply pw_below_drewN | apply below_drew1) | exact HB.out)) hb); clear HO367; clear HO370; clear HO373; clear HO377; clear HB; have HO367 := n0_; have HO370 := n1_; have HO373 := n2_; have HO377 := n3_; have HO381 := n4_; have HB := n5_; clear n0_ n1_ n2_ n3_ n4_ n5_; (try clear hb); (try clear hb2); (try clear hk); (try clear hi); (try clear ho0)) | ((with_reducible refine gate_callee (f := 44) rfl ?_); refine goesL_ (some 35) rfl rfl Try.func44 (by kernel_rfl) rfl #[.slice A0 l0.length c0] rfl (by (try simp only [List.map_toArray, List.map_cons, List.map_nil]); first | done | rfl | (simp only [List.length_drop, List.length_take]; rfl)) ?_; (with_reducible refine (spec_DrawRun.calls k _ _ l0 t382 t383 t384 _ ?side1 ?side2 A9.out).mono ?_); (case side1 => repeat (first | exact (Kd.C_below HR0.out HB.out) | (with_reducible refine Kd.C_alloc ?_ _) | (with_reducible refine Kd.C_drewN ?_ _) | (with_reducible refine Kd.C_drew ?_))); (case side2 => exact HC0.out); rintro e w18 ⟨v385, rfl, ho0, hb⟩; refine ⟨_, rfl, ?_⟩; have n0_ := Aside0.mk (Kd.R_elder' (by (with_reducible repeat (first | apply a1 | apply a2 | apply a3)); exact HO367.out) (Kd.R_base ho0) hb); have n1_ := Aside0.mk (Kd.R_elder' (by (with_reducible repeat (first | apply a1 | apply a2 | apply a3)); exact HO370.out) (Kd.R_base ho0) hb); have n2_ := Aside0.mk (Kd.R_elder' (by (with_reducible repeat (first | apply a1 | apply a2 | apply a3)); exact HO373.out) (Kd.R_base ho0) hb); have n3_ := Aside0.mk (Kd.R_elder' (by (with_reducible repeat (first | apply a1 | apply a2 | apply a3)); exact HO377.out) (Kd.R_base ho0) hb); have n4_ := Aside0.mk (Kd.R_elder' (by (with_reducible repeat (first | apply a1 | apply a2 | apply a3)); exact HO381.out) (Kd.R_base ho0) hb); have n5_ := Aside0.mk (Kd.R_lower (Kd.R_new' (Kd.R_new' (Kd.R_new' (Kd.R_new' (Kd.R_new' ho0 (Kd.R_lt (by (with_reducible repeat (first | apply a1 | apply a2 | apply a3)); exact HO367.out))) (Kd.R_lt (by (with_reducible repeat (first | apply a1 | apply a2 | apply a3)); exact HO370.out))) (Kd.R_lt (by (with_reducible repeat (first | apply a1 | apply a2 | apply a3)); exact HO373.out))) (Kd.R_lt (by (with_reducible repeat (first | apply a1 | apply a2 | apply a3)); exact HO377.out))) (Kd.R_lt (by (with_reducible repeat (first | apply a1 | apply a2 | apply a3)); exact HO381.out))) (below_size (by repeat (first | (with_reducible first | exact HB.out | apply below_alloc | apply pw_below_drewN | apply below_drew1) | exact HB.out)))); have n6_ := Aside0.mk (below_step (by repeat (first | (with_reducible first | exact HB.out | apply below_alloc | apply pw_below_drewN | apply below_drew1) | exact HB.out)) hb); clear HO367; clear HO370; clear HO373; clear HO377; clear HO381; clear HB; have HO367 := n0_; have HO370 := n1_; have HO373 := n2_; have HO377 := n3_; have HO381 := n4_; have HO386 := n5_; have HB := n6_; clear n0_ n1_ n2_ n3_ n4_ n5_ n6_; (try clear hb); (try clear hb2); (try clear hk); (try clear hi); (try clear ho0)))
  (try simp only [Act.put, s1, s2, s3])
  go_cut [67] (fun v67 wc => ∃ (kq : Nat) (x67_9 : Bool), v67 = .bool x67_9 ∧ Aside0 (laws_FnSqueezed.j0 kq t365 t368 t374 t375 x67_9 = some r) ∧ Aside0 (kq ≤ k) ∧ Aside0 (Kd.R (Kd.int .u8) 5 wc w.heap.size (fun k_ => some k_ ≠ ob v369 ∧ some k_ ≠ ob v376) (.slice Ao12 t365.length co12) t365) ∧ Aside0 (Kd.R (Kd.int .u8) 5 wc w.heap.size (fun k_ => some k_ ≠ ((.slice Ao12 t365.length co12) : Value).ownBlock ∧ some k_ ≠ ob v376) v369 t368) ∧ Aside0 (Kd.R (Kd.int .u8) 5 wc w.heap.size (fun k_ => some k_ ≠ ((.slice Ao12 t365.length co12) : Value).ownBlock ∧ some k_ ≠ ob v369) v376 t374) ∧ Aside0 (Below w.heap.size w wc))
  case first =>
    have H := HC10.out
    clear HC10
    replace H := Option.bind_eq_some_iff.mp H
    obtain ⟨t387, A190, H⟩ := H
    replace H : (if (strOfNums t368).toList = (strOfNums t387).toList then (if (t375 != t379) = true then (laws_FnSqueezed.j0 k t365 t368 t374 t375 true) else (if (strOfNums t374).toList = (strOfNums t378).toList then ((impl_Run.f k t382 t383 t384).bind fun t390 => ((spec_Run.f k t382 t383 t384).bind fun t391 => (laws_FnSqueezed.j0 k t365 t368 t374 t375 (t390 != t391)))) else (laws_FnSqueezed.j0 k t365 t368 t374 t375 true))) else (laws_FnSqueezed.j0 k t365 t368 t374 t375 true)) = some r := H
    have A19 := Aside0.mk A190
    clear A190
    by_cases c20 : (strOfNums t368).toList = (strOfNums t387).toList
    · rw [if_pos c20] at H
      have c20b0 : ((strOfNums t368).toList == (strOfNums t387).toList) = true := beq_iff_eq.mpr c20
      have c20b1 : ((strOfNums t368).toList != (strOfNums t387).toList) = false := bne_eq_false_iff_eq.mpr c20
      clear c20
      (first | rw [c20b0] | (simp only [i64_w, i32_w]; rw [c20b0]) | skip)
      by_cases c21 : (t375 != t379) = true
      · rw [if_pos c21] at H
        have c21b0 : (t375 != t379) = true := c21
        (try (have c21b1 : decide (t375 = t379) = false := by simpa using c21))
        (try (have c21b2 : (t375 == t379) = false := by simpa using c21))
        (try (have c21b3 : ¬ (t375 = t379) := by simpa using c21))
        clear c21
        have H' := Aside0.mk H
        clear H
        try go_wp2
        have n0_ := Aside0.mk (Kd.R_drew HO367.out)
        have n1_ := Aside0.mk (Kd.R_drew HO370.out)
        have n2_ := Aside0.mk (Kd.R_drew HO373.out)
        have n3_ := Aside0.mk (Kd.R_drew HO377.out)
        have n4_ := Aside0.mk (Kd.R_drew HO381.out)
        have n5_ := Aside0.mk (Kd.R_drew HO386.out)
        have n6_ := Aside0.mk (below_drew1 HB.out)
        clear HO367
        clear HO370
        clear HO373
        clear HO377
        clear HO381
        clear HO386
        clear HB
        have HO367 := n0_
        have HO370 := n1_
        have HO373 := n2_
        have HO377 := n3_
        have HO381 := n4_
        have HO386 := n5_
        have HB := n6_
        clear n0_ n1_ n2_ n3_ n4_ n5_ n6_
        refine start_ (n := 29) (S := fun w' => True) (ds := []) #[F,F,F,F,F,F,F,F,F,F,F,F,F,F,F,F,F,F,F,F,F,F,F,F,F,F,F,F,F] (by kernel_rfl) rfl rfl trivial (fun hHeld => ?_); refine with_tabW laws_FnSqueezed.tab9 laws_FnSqueezed.bits9 (fun HT_ HW_ => ?_)
        generalize w18.drew = w22 at HO367 HO370 HO373 HO377 HO381 HO386 HB hHeld ⊢
        refine pure_ (i := 0) (N := some 39) (v := ?_) (a' := ?_) #[T,F,F,F,F,F,F,F,F,F,F,F,F,F,F,F,F,F,F,F,F,F,F,F,F,F,F,F,F] rfl rfl (any_of HT_.out (by kernel_rfl)) (fun _ _ _ h => h) (Or.inl ⟨by first | rfl | (simp only [c20b1, c21b0]; rfl), ?_⟩) ?_ ?_
        rotate_left
        · intro w'
          go_simp
          with_reducible rfl
        rotate_left
        · simp only [Act.put, s1, s2, s3, i64_w, i32_w]
          rfl
        refine pure_ (i := 2) (N := some 41) (v := ?_) (a' := ?_) #[T,F,T,F,F,F,F,F,F,F,F,F,F,F,F,F,F,F,F,F,F,F,F,F,F,F,F,F,F] rfl rfl (any_of HT_.out (by kernel_rfl)) (fun _ _ _ h => h) (Or.inl ⟨by first | rfl | (simp only [c20b1, c21b0]; rfl), ?_⟩) ?_ ?_
        rotate_left
        · intro w'
          go_simp
          with_reducible rfl
        rotate_left
        · simp only [Act.put, s1, s2, s3, i64_w, i32_w]
          rfl
        refine join_ (σ := Value) 24 #[T,T,T,T,T,F,F,F,F,F,F,F,F,F,F,F,F,F,F,F,F,F,F,F,F,F,F,F,F] (fun s_ => [(40, .string (strOfNums t368)), (42, s_), (43, .string (strOfNums t387))]) (fun s_ w' => (Kd.R (Kd.int .u8) 5 w' w.heap.size (fun k_ => some k_ ≠ ob v369 ∧ some k_ ≠ ob (.slice Ao15 t371.length co15) ∧ some k_ ≠ ob v376 ∧ some k_ ≠ ob v380 ∧ some k_ ≠ ob v385 ∧ some k_ ≠ ob s_) (.slice Ao12 t365.length co12) t365) ∧ (Kd.R (Kd.int .u8) 5 w' w.heap.size (fun k_ => some k_ ≠ ob (.slice Ao12 t365.length co12) ∧ some k_ ≠ ob (.slice Ao15 t371.length co15) ∧ some k_ ≠ ob v376 ∧ some k_ ≠ ob v380 ∧ some k_ ≠ ob v385 ∧ some k_ ≠ ob s_) v369 t368) ∧ (Kd.R (Kd.int .u8) 5 w' w.heap.size (fun k_ => some k_ ≠ ob (.slice Ao12 t365.length co12) ∧ some k_ ≠ ob v369 ∧ some k_ ≠ ob v376 ∧ some k_ ≠ ob v380 ∧ some k_ ≠ ob v385 ∧ some k_ ≠ ob s_) (.slice Ao15 t371.length co15) t371) ∧ (Kd.R (Kd.int .u8) 5 w' w.heap.size (fun k_ => some k_ ≠ ob (.slice Ao12 t365.length co12) ∧ some k_ ≠ ob v369 ∧ some k_ ≠ ob (.slice Ao15 t371.length co15) ∧ some k_ ≠ ob v380 ∧ some k_ ≠ ob v385 ∧ some k_ ≠ ob s_) v376 t374) ∧ (Kd.R (Kd.int .u8) 5 w' w.heap.size (fun k_ => some k_ ≠ ob (.slice Ao12 t365.length co12) ∧ some k_ ≠ ob v369 ∧ some k_ ≠ ob (.slice Ao15 t371.length co15) ∧ some k_ ≠ ob v376 ∧ some k_ ≠ ob v385 ∧ some k_ ≠ ob s_) v380 t378) ∧ (Kd.R (Kd.int .u8) 5 w' w.heap.size (fun k_ => some k_ ≠ ob (.slice Ao12 t365.length co12) ∧ some k_ ≠ ob v369 ∧ some k_ ≠ ob (.slice Ao15 t371.length co15) ∧ some k_ ≠ ob v376 ∧ some k_ ≠ ob v380 ∧ some k_ ≠ ob s_) v385 t382) ∧ (Kd.R (Kd.int .u8) 5 w' w.heap.size (fun k_ => some k_ ≠ ob (.slice Ao12 t365.length co12) ∧ some k_ ≠ ob v369 ∧ some k_ ≠ ob (.slice Ao15 t371.length co15) ∧ some k_ ≠ ob v376 ∧ some k_ ≠ ob v380 ∧ some k_ ≠ ob v385) s_ t387) ∧ (Below w.heap.size w w')) ?_ ?_
        rotate_left
        · intro hCont
          refine two_ (i := 1) (j := 3) (Ni := some 40) (Nj := some 42) #[T,T,T,F,F,F,F,F,F,F,F,F,F,F,F,F,F,F,F,F,F,F,F,F,F,F,F,F,F] #[T,F,T,T,F,F,F,F,F,F,F,F,F,F,F,F,F,F,F,F,F,F,F,F,F,F,F,F,F] rfl rfl rfl rfl (two_of HT_.out (by kernel_rfl)) (by decide) (by decide) (fun K hK => ?_) (fun K hK => ?_)
          · skip
            have hcv23 := own_string (P := Try.prog) Try.underlying22 Try.underlying5 Try.underlying9 (Kd.own_of_R HO370.out)
            refine value_ (w1 := ?_) (v := ?_) (by first | rfl | (simp only [c20b1, c21b0]; rfl)) rfl ?_ ?_
            rotate_left 2
            · go_simp
              constructor
              · rfl
              rfl
            clear hcv23
            refine hK.out _ _ trivial (fun hHeld => ?_)
            clear hK K
            refine norm_ (a' := ?_) ?_ ?_
            rotate_left
            · show Act.put _ (some 40) _ = _
              simp only [Act.put, s1, s2, s3, i64_w, i32_w]
              rfl
            refine one_ (i := 3) (N := some 42) #[T,T,T,T,F,F,F,F,F,F,F,F,F,F,F,F,F,F,F,F,F,F,F,F,F,F,F,F,F] rfl rfl (one_of HT_.out (by kernel_rfl)) (by decide) (fun K hK => ?_)
            refine goes_ Try.func45 (by kernel_rfl) rfl #[.slice Ao12 t365.length co12] (by rfl) rfl rfl (by (try simp only [List.map_toArray, List.map_cons, List.map_nil]); first | done | rfl | (simp only [List.length_drop, List.length_take]; rfl)) ?_
            with_reducible refine (spec_Squeeze.calls k _ _ t365 t387 _ ?side1 ?side2 A19.out).mono ?_
            (case side1 => repeat (first | exact (Kd.R_reads' HO367.out).2.2 | (with_reducible refine Kd.C_alloc ?_ _) | (with_reducible refine Kd.C_drewN ?_ _) | (with_reducible refine Kd.C_drew ?_)))
            (case side2 => exact (Kd.R_reads' HO367.out).2.1)
            rintro e w24 ⟨v388, rfl, ho0, hb⟩
            refine ⟨_, rfl, ?_⟩
            have n0_ := Aside0.mk (Kd.R_elder' (by (with_reducible repeat (first | apply a1 | apply a2 | apply a3)); exact HO367.out) (Kd.R_base ho0) hb)
            have n1_ := Aside0.mk (Kd.R_elder' (by (with_reducible repeat (first | apply a1 | apply a2 | apply a3)); exact HO370.out) (Kd.R_base ho0) hb)
            have n2_ := Aside0.mk (Kd.R_elder' (by (with_reducible repeat (first | apply a1 | apply a2 | apply a3)); exact HO373.out) (Kd.R_base ho0) hb)
            have n3_ := Aside0.mk (Kd.R_elder' (by (with_reducible repeat (first | apply a1 | apply a2 | apply a3)); exact HO377.out) (Kd.R_base ho0) hb)
            have n4_ := Aside0.mk (Kd.R_elder' (by (with_reducible repeat (first | apply a1 | apply a2 | apply a3)); exact HO381.out) (Kd.R_base ho0) hb)
            have n5_ := Aside0.mk (Kd.R_elder' (by (with_reducible repeat (first | apply a1 | apply a2 | apply a3)); exact HO386.out) (Kd.R_base ho0) hb)
            have n6_ := Aside0.mk (Kd.R_lower (Kd.R_new' (Kd.R_new' (Kd.R_new' (Kd.R_new' (Kd.R_new' (Kd.R_new' ho0 (Kd.R_lt (by (with_reducible repeat (first | apply a1 | apply a2 | apply a3)); exact HO367.out))) (Kd.R_lt (by (with_reducible repeat (first | apply a1 | apply a2 | apply a3)); exact HO370.out))) (Kd.R_lt (by (with_reducible repeat (first | apply a1 | apply a2 | apply a3)); exact HO373.out))) (Kd.R_lt (by (with_reducible repeat (first | apply a1 | apply a2 | apply a3)); exact HO377.out))) (Kd.R_lt (by (with_reducible repeat (first | apply a1 | apply a2 | apply a3)); exact HO381.out))) (Kd.R_lt (by (with_reducible repeat (first | apply a1 | apply a2 | apply a3)); exact HO386.out))) (below_size (by repeat (first | (with_reducible first | exact HB.out | apply below_alloc | apply pw_below_drewN | apply below_drew1) | exact HB.out))))
            have n7_ := Aside0.mk (below_step (by repeat (first | (with_reducible first | exact HB.out | apply below_alloc | apply pw_below_drewN | apply below_drew1) | exact HB.out)) hb)
            clear HO367
            clear HO370
            clear HO373
            clear HO377
            clear HO381
            clear HO386
            clear HB
            have HO367 := n0_
            have HO370 := n1_
            have HO373 := n2_
            have HO377 := n3_
            have HO381 := n4_
            have HO386 := n5_
            have HO389 := n6_
            have HB := n7_
            clear n0_ n1_ n2_ n3_ n4_ n5_ n6_ n7_
            (try clear hb)
            (try clear hb2)
            (try clear hk)
            (try clear hi)
            (try clear ho0)
            refine hK.out _ _ trivial (fun hHeld => ?_)
            clear hK K
            refine norm_ (a' := ?_) ?_ ?_
            rotate_left
            · show Act.put _ (some 42) _ = _
              simp only [Act.put, s1, s2, s3, i64_w, i32_w]
              rfl
            refine one_ (i := 4) (N := some 43) #[T,T,T,T,T,F,F,F,F,F,F,F,F,F,F,F,F,F,F,F,F,F,F,F,F,F,F,F,F] rfl rfl (one_of HT_.out (by kernel_rfl)) (by decide) (fun K hK => ?_)
            have hcv25 := own_string (P := Try.prog) Try.underlying22 Try.underlying5 Try.underlying9 (Kd.own_of_R HO389.out)
            refine value_ (w1 := ?_) (v := ?_) (by first | rfl | (simp only [c20b1, c21b0]; rfl)) rfl ?_ ?_
            rotate_left 2
            · go_simp
              constructor
              · rfl
              rfl
            clear hcv25
            refine hK.out _ _ trivial (fun hHeld => ?_)
            clear hK K
            refine norm_ (a' := ?_) ?_ ?_
            rotate_left
            · show Act.put _ (some 43) _ = _
              simp only [Act.put, s1, s2, s3, i64_w, i32_w]
              rfl
            exact norm_ (by simp only [putAll, Act.put, s1, s2, s3]) (hCont (v388) _ ⟨(by (with_reducible repeat (first | apply a1 | apply a2 | apply a3)); exact Kd.R_mono HO367.out (fun _ hk => ⟨hk.1.1.1.1.1.2, ⟨hk.1.1.1.1.2, ⟨hk.1.1.1.2, ⟨hk.1.1.2, ⟨hk.1.2, hk.2⟩⟩⟩⟩⟩)), (by (with_reducible repeat (first | apply a1 | apply a2 | apply a3)); exact Kd.R_mono HO370.out (fun _ hk => ⟨hk.1.1.1.1.1.2, ⟨hk.1.1.1.1.2, ⟨hk.1.1.1.2, ⟨hk.1.1.2, ⟨hk.1.2, hk.2⟩⟩⟩⟩⟩)), (by (with_reducible repeat (first | apply a1 | apply a2 | apply a3)); exact Kd.R_mono HO373.out (fun _ hk => ⟨hk.1.1.1.1.1.2, ⟨hk.1.1.1.1.2, ⟨hk.1.1.1.2, ⟨hk.1.1.2, ⟨hk.1.2, hk.2⟩⟩⟩⟩⟩)), (by (with_reducible repeat (first | apply a1 | apply a2 | apply a3)); exact Kd.R_mono HO377.out (fun _ hk => ⟨hk.1.1.1.1.1.2, ⟨hk.1.1.1.1.2, ⟨hk.1.1.1.2, ⟨hk.1.1.2, ⟨hk.1.2, hk.2⟩⟩⟩⟩⟩)), (by (with_reducible repeat (first | apply a1 | apply a2 | apply a3)); exact Kd.R_mono HO381.out (fun _ hk => ⟨hk.1.1.1.1.1.2, ⟨hk.1.1.1.1.2, ⟨hk.1.1.1.2, ⟨hk.1.1.2, ⟨hk.1.2, hk.2⟩⟩⟩⟩⟩)), (by (with_reducible repeat (first | apply a1 | apply a2 | apply a3)); exact Kd.R_mono HO386.out (fun _ hk => ⟨hk.1.1.1.1.1.2, ⟨hk.1.1.1.1.2, ⟨hk.1.1.1.2, ⟨hk.1.1.2, ⟨hk.1.2, hk.2⟩⟩⟩⟩⟩)), (by (with_reducible repeat (first | apply a1 | apply a2 | apply a3)); exact Kd.R_mono HO389.out (fun _ hk => ⟨hk.1.1.1.1.1.2, ⟨hk.1.1.1.1.2, ⟨hk.1.1.1.2, ⟨hk.1.1.2, ⟨hk.1.2, hk.2⟩⟩⟩⟩⟩)), (by repeat (first | (with_reducible first | exact HB.out | apply below_alloc | apply pw_below_drewN | apply below_drew1) | exact HB.out))⟩)
          skip
          refine goes_ Try.func45 (by kernel_rfl) rfl #[.slice Ao12 t365.length co12] (by rfl) rfl rfl (by (try simp only [List.map_toArray, List.map_cons, List.map_nil]); first | done | rfl | (simp only [List.length_drop, List.length_take]; rfl)) ?_
          with_reducible refine (spec_Squeeze.calls k _ _ t365 t387 _ ?side1 ?side2 A19.out).mono ?_
          (case side1 => repeat (first | exact (Kd.R_reads' HO367.out).2.2 | (with_reducible refine Kd.C_alloc ?_ _) | (with_reducible refine Kd.C_drewN ?_ _) | (with_reducible refine Kd.C_drew ?_)))
          (case side2 => exact (Kd.R_reads' HO367.out).2.1)
          rintro e w23 ⟨v388, rfl, ho0, hb⟩
          refine ⟨_, rfl, ?_⟩
          have n0_ := Aside0.mk (Kd.R_elder' (by (with_reducible repeat (first | apply a1 | apply a2 | apply a3)); exact HO367.out) (Kd.R_base ho0) hb)
          have n1_ := Aside0.mk (Kd.R_elder' (by (with_reducible repeat (first | apply a1 | apply a2 | apply a3)); exact HO370.out) (Kd.R_base ho0) hb)
          have n2_ := Aside0.mk (Kd.R_elder' (by (with_reducible repeat (first | apply a1 | apply a2 | apply a3)); exact HO373.out) (Kd.R_base ho0) hb)
          have n3_ := Aside0.mk (Kd.R_elder' (by (with_reducible repeat (first | apply a1 | apply a2 | apply a3)); exact HO377.out) (Kd.R_base ho0) hb)
          have n4_ := Aside0.mk (Kd.R_elder' (by (with_reducible repeat (first | apply a1 | apply a2 | apply a3)); exact HO381.out) (Kd.R_base ho0) hb)
          have n5_ := Aside0.mk (Kd.R_elder' (by (with_reducible repeat (first | apply a1 | apply a2 | apply a3)); exact HO386.out) (Kd.R_base ho0) hb)
          have n6_ := Aside0.mk (Kd.R_lower (Kd.R_new' (Kd.R_new' (Kd.R_new' (Kd.R_new' (Kd.R_new' (Kd.R_new' ho0 (Kd.R_lt (by (with_reducible repeat (first | apply a1 | apply a2 | apply a3)); exact HO367.out))) (Kd.R_lt (by (with_reducible repeat (first | apply a1 | apply a2 | apply a3)); exact HO370.out))) (Kd.R_lt (by (with_reducible repeat (first | apply a1 | apply a2 | apply a3)); exact HO373.out))) (Kd.R_lt (by (with_reducible repeat (first | apply a1 | apply a2 | apply a3)); exact HO377.out))) (Kd.R_lt (by (with_reducible repeat (first | apply a1 | apply a2 | apply a3)); exact HO381.out))) (Kd.R_lt (by (with_reducible repeat (first | apply a1 | apply a2 | apply a3)); exact HO386.out))) (below_size (by repeat (first | (with_reducible first | exact HB.out | apply below_alloc | apply pw_below_drewN | apply below_drew1) | exact HB.out))))
          have n7_ := Aside0.mk (below_step (by repeat (first | (with_reducible first | exact HB.out | apply below_alloc | apply pw_below_drewN | apply below_drew1) | exact HB.out)) hb)
          clear HO367
          clear HO370
          clear HO373
          clear HO377
          clear HO381
          clear HO386
          clear HB
          have HO367 := n0_
          have HO370 := n1_
          have HO373 := n2_
          have HO377 := n3_
          have HO381 := n4_
          have HO386 := n5_
          have HO389 := n6_
          have HB := n7_
          clear n0_ n1_ n2_ n3_ n4_ n5_ n6_ n7_
          (try clear hb)
          (try clear hb2)
          (try clear hk)
          (try clear hi)
          (try clear ho0)
          refine hK.out _ _ trivial (fun hHeld => ?_)
          clear hK K
          refine norm_ (a' := ?_) ?_ ?_
          rotate_left
          · show Act.put _ (some 42) _ = _
            simp only [Act.put, s1, s2, s3, i64_w, i32_w]
            rfl
          refine two_ (i := 1) (j := 4) (Ni := some 40) (Nj := some 43) #[T,T,T,T,F,F,F,F,F,F,F,F,F,F,F,F,F,F,F,F,F,F,F,F,F,F,F,F,F] #[T,F,T,T,T,F,F,F,F,F,F,F,F,F,F,F,F,F,F,F,F,F,F,F,F,F,F,F,F] rfl rfl rfl rfl (two_of HT_.out (by kernel_rfl)) (by decide) (by decide) (fun K hK => ?_) (fun K hK => ?_)
          · skip
            have hcv24 := own_string (P := Try.prog) Try.underlying22 Try.underlying5 Try.underlying9 (Kd.own_of_R HO370.out)
            refine value_ (w1 := ?_) (v := ?_) (by first | rfl | (simp only [c20b1, c21b0]; rfl)) rfl ?_ ?_
            rotate_left 2
            · go_simp
              constructor
              · rfl
              rfl
            clear hcv24
            refine hK.out _ _ trivial (fun hHeld => ?_)
            clear hK K
            refine norm_ (a' := ?_) ?_ ?_
            rotate_left
            · show Act.put _ (some 40) _ = _
              simp only [Act.put, s1, s2, s3, i64_w, i32_w]
              rfl
            refine one_ (i := 4) (N := some 43) #[T,T,T,T,T,F,F,F,F,F,F,F,F,F,F,F,F,F,F,F,F,F,F,F,F,F,F,F,F] rfl rfl (one_of HT_.out (by kernel_rfl)) (by decide) (fun K hK => ?_)
            have hcv25 := own_string (P := Try.prog) Try.underlying22 Try.underlying5 Try.underlying9 (Kd.own_of_R HO389.out)
            refine value_ (w1 := ?_) (v := ?_) (by first | rfl | (simp only [c20b1, c21b0]; rfl)) rfl ?_ ?_
            rotate_left 2
            · go_simp
              constructor
              · rfl
              rfl
            clear hcv25
            refine hK.out _ _ trivial (fun hHeld => ?_)
            clear hK K
            refine norm_ (a' := ?_) ?_ ?_
            rotate_left
            · show Act.put _ (some 43) _ = _
              simp only [Act.put, s1, s2, s3, i64_w, i32_w]
              rfl
            exact norm_ (by simp only [putAll, Act.put, s1, s2, s3]) (hCont (v388) _ ⟨(by (with_reducible repeat (first | apply a1 | apply a2 | apply a3)); exact Kd.R_mono HO367.out (fun _ hk => ⟨hk.1.1.1.1.1.2, ⟨hk.1.1.1.1.2, ⟨hk.1.1.1.2, ⟨hk.1.1.2, ⟨hk.1.2, hk.2⟩⟩⟩⟩⟩)), (by (with_reducible repeat (first | apply a1 | apply a2 | apply a3)); exact Kd.R_mono HO370.out (fun _ hk => ⟨hk.1.1.1.1.1.2, ⟨hk.1.1.1.1.2, ⟨hk.1.1.1.2, ⟨hk.1.1.2, ⟨hk.1.2, hk.2⟩⟩⟩⟩⟩)), (by (with_reducible repeat (first | apply a1 | apply a2 | apply a3)); exact Kd.R_mono HO373.out (fun _ hk => ⟨hk.1.1.1.1.1.2, ⟨hk.1.1.1.1.2, ⟨hk.1.1.1.2, ⟨hk.1.1.2, ⟨hk.1.2, hk.2⟩⟩⟩⟩⟩)), (by (with_reducible repeat (first | apply a1 | apply a2 | apply a3)); exact Kd.R_mono HO377.out (fun _ hk => ⟨hk.1.1.1.1.1.2, ⟨hk.1.1.1.1.2, ⟨hk.1.1.1.2, ⟨hk.1.1.2, ⟨hk.1.2, hk.2⟩⟩⟩⟩⟩)), (by (with_reducible repeat (first | apply a1 | apply a2 | apply a3)); exact Kd.R_mono HO381.out (fun _ hk => ⟨hk.1.1.1.1.1.2, ⟨hk.1.1.1.1.2, ⟨hk.1.1.1.2, ⟨hk.1.1.2, ⟨hk.1.2, hk.2⟩⟩⟩⟩⟩)), (by (with_reducible repeat (first | apply a1 | apply a2 | apply a3)); exact Kd.R_mono HO386.out (fun _ hk => ⟨hk.1.1.1.1.1.2, ⟨hk.1.1.1.1.2, ⟨hk.1.1.1.2, ⟨hk.1.1.2, ⟨hk.1.2, hk.2⟩⟩⟩⟩⟩)), (by (with_reducible repeat (first | apply a1 | apply a2 | apply a3)); exact Kd.R_mono HO389.out (fun _ hk => ⟨hk.1.1.1.1.1.2, ⟨hk.1.1.1.1.2, ⟨hk.1.1.1.2, ⟨hk.1.1.2, ⟨hk.1.2, hk.2⟩⟩⟩⟩⟩)), (by repeat (first | (with_reducible first | exact HB.out | apply below_alloc | apply pw_below_drewN | apply below_drew1) | exact HB.out))⟩)
          skip
          have hcv24 := own_string (P := Try.prog) Try.underlying22 Try.underlying5 Try.underlying9 (Kd.own_of_R HO389.out)
          refine value_ (w1 := ?_) (v := ?_) (by first | rfl | (simp only [c20b1, c21b0]; rfl)) rfl ?_ ?_
          rotate_left 2
          · go_simp
            constructor
            · rfl
            rfl
          clear hcv24
          refine hK.out _ _ trivial (fun hHeld => ?_)
          clear hK K
          refine norm_ (a' := ?_) ?_ ?_
          rotate_left
          · show Act.put _ (some 43) _ = _
            simp only [Act.put, s1, s2, s3, i64_w, i32_w]
            rfl
          refine one_ (i := 1) (N := some 40) #[T,T,T,T,T,F,F,F,F,F,F,F,F,F,F,F,F,F,F,F,F,F,F,F,F,F,F,F,F] rfl rfl (one_of HT_.out (by kernel_rfl)) (by decide) (fun K hK => ?_)
          have hcv25 := own_string (P := Try.prog) Try.underlying22 Try.underlying5 Try.underlying9 (Kd.own_of_R HO370.out)
          refine value_ (w1 := ?_) (v := ?_) (by first | rfl | (simp only [c20b1, c21b0]; rfl)) rfl ?_ ?_
          rotate_left 2
          · go_simp
            constructor
            · rfl
            rfl
          clear hcv25
          refine hK.out _ _ trivial (fun hHeld => ?_)
          clear hK K
          refine norm_ (a' := ?_) ?_ ?_
          rotate_left
          · show Act.put _ (some 40) _ = _
            simp only [Act.put, s1, s2, s3, i64_w, i32_w]
            rfl
          exact norm_ (by simp only [putAll, Act.put, s1, s2, s3]) (hCont (v388) _ ⟨(by (with_reducible repeat (first | apply a1 | apply a2 | apply a3)); exact Kd.R_mono HO367.out (fun _ hk => ⟨hk.1.1.1.1.1.2, ⟨hk.1.1.1.1.2, ⟨hk.1.1.1.2, ⟨hk.1.1.2, ⟨hk.1.2, hk.2⟩⟩⟩⟩⟩)), (by (with_reducible repeat (first | apply a1 | apply a2 | apply a3)); exact Kd.R_mono HO370.out (fun _ hk => ⟨hk.1.1.1.1.1.2, ⟨hk.1.1.1.1.2, ⟨hk.1.1.1.2, ⟨hk.1.1.2, ⟨hk.1.2, hk.2⟩⟩⟩⟩⟩)), (by (with_reducible repeat (first | apply a1 | apply a2 | apply a3)); exact Kd.R_mono HO373.out (fun _ hk => ⟨hk.1.1.1.1.1.2, ⟨hk.1.1.1.1.2, ⟨hk.1.1.1.2, ⟨hk.1.1.2, ⟨hk.1.2, hk.2⟩⟩⟩⟩⟩)), (by (with_reducible repeat (first | apply a1 | apply a2 | apply a3)); exact Kd.R_mono HO377.out (fun _ hk => ⟨hk.1.1.1.1.1.2, ⟨hk.1.1.1.1.2, ⟨hk.1.1.1.2, ⟨hk.1.1.2, ⟨hk.1.2, hk.2⟩⟩⟩⟩⟩)), (by (with_reducible repeat (first | apply a1 | apply a2 | apply a3)); exact Kd.R_mono HO381.out (fun _ hk => ⟨hk.1.1.1.1.1.2, ⟨hk.1.1.1.1.2, ⟨hk.1.1.1.2, ⟨hk.1.1.2, ⟨hk.1.2, hk.2⟩⟩⟩⟩⟩)), (by (with_reducible repeat (first | apply a1 | apply a2 | apply a3)); exact Kd.R_mono HO386.out (fun _ hk => ⟨hk.1.1.1.1.1.2, ⟨hk.1.1.1.1.2, ⟨hk.1.1.1.2, ⟨hk.1.1.2, ⟨hk.1.2, hk.2⟩⟩⟩⟩⟩)), (by (with_reducible repeat (first | apply a1 | apply a2 | apply a3)); exact Kd.R_mono HO389.out (fun _ hk => ⟨hk.1.1.1.1.1.2, ⟨hk.1.1.1.1.2, ⟨hk.1.1.1.2, ⟨hk.1.1.2, ⟨hk.1.2, hk.2⟩⟩⟩⟩⟩)), (by repeat (first | (with_reducible first | exact HB.out | apply below_alloc | apply pw_below_drewN | apply below_drew1) | exact HB.out))⟩)
        rintro v388 w26 ⟨h0_, h1_, h2_, h3_, h4_, h5_, h6_, h7_⟩
        have n0_ : Aside0 (Kd.R (Kd.int .u8) 5 w26 w.heap.size (fun k_ => some k_ ≠ ob v369 ∧ some k_ ≠ ob (.slice Ao15 t371.length co15) ∧ some k_ ≠ ob v376 ∧ some k_ ≠ ob v380 ∧ some k_ ≠ ob v385 ∧ some k_ ≠ ob v388) (.slice Ao12 t365.length co12) t365) := ⟨h0_⟩
        have n1_ : Aside0 (Kd.R (Kd.int .u8) 5 w26 w.heap.size (fun k_ => some k_ ≠ ob (.slice Ao12 t365.length co12) ∧ some k_ ≠ ob (.slice Ao15 t371.length co15) ∧ some k_ ≠ ob v376 ∧ some k_ ≠ ob v380 ∧ some k_ ≠ ob v385 ∧ some k_ ≠ ob v388) v369 t368) := ⟨h1_⟩
        have n2_ : Aside0 (Kd.R (Kd.int .u8) 5 w26 w.heap.size (fun k_ => some k_ ≠ ob (.slice Ao12 t365.length co12) ∧ some k_ ≠ ob v369 ∧ some k_ ≠ ob v376 ∧ some k_ ≠ ob v380 ∧ some k_ ≠ ob v385 ∧ some k_ ≠ ob v388) (.slice Ao15 t371.length co15) t371) := ⟨h2_⟩
        have n3_ : Aside0 (Kd.R (Kd.int .u8) 5 w26 w.heap.size (fun k_ => some k_ ≠ ob (.slice Ao12 t365.length co12) ∧ some k_ ≠ ob v369 ∧ some k_ ≠ ob (.slice Ao15 t371.length co15) ∧ some k_ ≠ ob v380 ∧ some k_ ≠ ob v385 ∧ some k_ ≠ ob v388) v376 t374) := ⟨h3_⟩
        have n4_ : Aside0 (Kd.R (Kd.int .u8) 5 w26 w.heap.size (fun k_ => some k_ ≠ ob (.slice Ao12 t365.length co12) ∧ some k_ ≠ ob v369 ∧ some k_ ≠ ob (.slice Ao15 t371.length co15) ∧ some k_ ≠ ob v376 ∧ some k_ ≠ ob v385 ∧ some k_ ≠ ob v388) v380 t378) := ⟨h4_⟩
        have n5_ : Aside0 (Kd.R (Kd.int .u8) 5 w26 w.heap.size (fun k_ => some k_ ≠ ob (.slice Ao12 t365.length co12) ∧ some k_ ≠ ob v369 ∧ some k_ ≠ ob (.slice Ao15 t371.length co15) ∧ some k_ ≠ ob v376 ∧ some k_ ≠ ob v380 ∧ some k_ ≠ ob v388) v385 t382) := ⟨h5_⟩
        have n6_ : Aside0 (Kd.R (Kd.int .u8) 5 w26 w.heap.size (fun k_ => some k_ ≠ ob (.slice Ao12 t365.length co12) ∧ some k_ ≠ ob v369 ∧ some k_ ≠ ob (.slice Ao15 t371.length co15) ∧ some k_ ≠ ob v376 ∧ some k_ ≠ ob v380 ∧ some k_ ≠ ob v385) v388 t387) := ⟨h6_⟩
        have n7_ : Aside0 (Below w.heap.size w w26) := ⟨h7_⟩
        clear HO367
        clear HO370
        clear HO373
        clear HO377
        clear HO381
        clear HO386
        clear HB
        clear h0_ h1_ h2_ h3_ h4_ h5_ h6_ h7_
        have HO367 := n0_
        have HO370 := n1_
        have HO373 := n2_
        have HO377 := n3_
        have HO381 := n4_
        have HO386 := n5_
        have HO389 := n6_
        have HB := n7_
        clear n0_ n1_ n2_ n3_ n4_ n5_ n6_ n7_
        have hHeld := trivial
        refine norm_ (a' := ?_) ?_ ?_
        rotate_left
        · simp only [putAll, Act.put, s1, s2, s3]
          rfl
        refine pure_ (i := 5) (N := some 44) (v := ?_) (a' := ?_) #[T,T,T,T,T,T,F,F,F,F,F,F,F,F,F,F,F,F,F,F,F,F,F,F,F,F,F,F,F] rfl rfl (any_of HT_.out (by kernel_rfl)) (fun _ _ _ h => h) (Or.inl ⟨by first | rfl | (simp only [c20b1, c21b0]; rfl), ?_⟩) ?_ ?_
        rotate_left
        · intro w'
          go_simp
          with_reducible rfl
        rotate_left
        · simp only [Act.put, s1, s2, s3, i64_w, i32_w]
          rfl
        refine pure_ (i := 6) (N := some 45) (v := ?_) (a' := ?_) #[T,T,T,T,T,T,T,F,F,F,F,F,F,F,F,F,F,F,F,F,F,F,F,F,F,F,F,F,F] rfl rfl (any_of HT_.out (by kernel_rfl)) (fun _ _ _ h => h) (Or.inl ⟨by first | rfl | (simp only [c20b1, c21b0]; rfl), ?_⟩) ?_ ?_
        rotate_left
        · intro w'
          go_simp
          with_reducible rfl
        rotate_left
        · simp only [Act.put, s1, s2, s3, i64_w, i32_w]
          rfl
        refine pure_ (i := 7) (N := some 46) (v := ?_) (a' := ?_) #[T,T,T,T,T,T,T,T,F,F,F,F,F,F,F,F,F,F,F,F,F,F,F,F,F,F,F,F,F] rfl rfl (any_of HT_.out (by kernel_rfl)) (fun _ _ _ h => h) (Or.inl ⟨by first | rfl | (simp only [c20b1, c21b0]; rfl), ?_⟩) ?_ ?_
        rotate_left
        · intro w'
          go_simp
          with_reducible rfl
        rotate_left
        · simp only [Act.put, s1, s2, s3, i64_w, i32_w]
          rfl
        refine pure_ (i := 8) (N := some 47) (v := ?_) (a' := ?_) #[T,T,T,T,T,T,T,T,T,F,F,F,F,F,F,F,F,F,F,F,F,F,F,F,F,F,F,F,F] rfl rfl (any_of HT_.out (by kernel_rfl)) (fun _ _ _ h => h) (Or.inl ⟨by first | rfl | (simp only [c20b1, c21b0]; rfl), ?_⟩) ?_ ?_
        rotate_left
        · intro w'
          go_simp
          with_reducible rfl
        rotate_left
        · simp only [Act.put, s1, s2, s3, i64_w, i32_w]
          rfl
        refine pure_ (i := 9) (N := some 48) (v := ?_) (a' := ?_) #[T,T,T,T,T,T,T,T,T,T,F,F,F,F,F,F,F,F,F,F,F,F,F,F,F,F,F,F,F] rfl rfl (any_of HT_.out (by kernel_rfl)) (fun _ _ _ h => h) (Or.inl ⟨by first | rfl | (simp only [c20b1, c21b0]; rfl), ?_⟩) ?_ ?_
        rotate_left
        · intro w'
          go_simp
          with_reducible rfl
        rotate_left
        · simp only [Act.put, s1, s2, s3, i64_w, i32_w]
          rfl
        refine pure_ (i := 10) (N := some 49) (v := ?_) (a' := ?_) #[T,T,T,T,T,T,T,T,T,T,T,F,F,F,F,F,F,F,F,F,F,F,F,F,F,F,F,F,F] rfl rfl (any_of HT_.out (by kernel_rfl)) (fun _ _ _ h => h) (Or.inl ⟨by first | rfl | (simp only [c20b1, c21b0]; rfl), ?_⟩) ?_ ?_
        rotate_left
        · intro w'
          go_simp
          with_reducible rfl
        rotate_left
        · simp only [Act.put, s1, s2, s3, i64_w, i32_w]
          rfl
        refine pure_ (i := 11) (N := some 50) (v := ?_) (a' := ?_) #[T,T,T,T,T,T,T,T,T,T,T,T,F,F,F,F,F,F,F,F,F,F,F,F,F,F,F,F,F] rfl rfl (any_of HT_.out (by kernel_rfl)) (fun _ _ _ h => h) (Or.inl ⟨by first | rfl | (simp only [c20b1, c21b0]; rfl), ?_⟩) ?_ ?_
        rotate_left
        · intro w'
          go_simp
          with_reducible rfl
        rotate_left
        · simp only [Act.put, s1, s2, s3, i64_w, i32_w]
          rfl
        refine pure_ (i := 12) (N := some 51) (v := undef) (a' := ?_) #[T,T,T,T,T,T,T,T,T,T,T,T,T,F,F,F,F,F,F,F,F,F,F,F,F,F,F,F,F] rfl rfl (any_of HT_.out (by kernel_rfl)) (fun _ _ _ h => h) (Or.inr ⟨by rfl, rfl⟩) ?_ ?_
        rotate_left
        · simp only [Act.put, s1, s2, s3, i64_w, i32_w]
          rfl
        refine pure_ (i := 13) (N := some 52) (v := undef) (a' := ?_) #[T,T,T,T,T,T,T,T,T,T,T,T,T,T,F,F,F,F,F,F,F,F,F,F,F,F,F,F,F] rfl rfl (any_of HT_.out (by kernel_rfl)) (fun _ _ _ h => h) (Or.inr ⟨by rfl, rfl⟩) ?_ ?_
        rotate_left
        · simp only [Act.put, s1, s2, s3, i64_w, i32_w]
          rfl
        refine pure_ (i := 14) (N := some 53) (v := undef) (a' := ?_) #[T,T,T,T,T,T,T,T,T,T,T,T,T,T,T,F,F,F,F,F,F,F,F,F,F,F,F,F,F] rfl rfl (any_of HT_.out (by kernel_rfl)) (fun _ _ _ h => h) (Or.inr ⟨by rfl, rfl⟩) ?_ ?_
        rotate_left
        · simp only [Act.put, s1, s2, s3, i64_w, i32_w]
          rfl
        refine pure_ (i := 15) (N := some 54) (v := undef) (a' := ?_) #[T,T,T,T,T,T,T,T,T,T,T,T,T,T,T,T,F,F,F,F,F,F,F,F,F,F,F,F,F] rfl rfl (any_of HT_.out (by kernel_rfl)) (fun _ _ _ h => h) (Or.inr ⟨by rfl, rfl⟩) ?_ ?_
        rotate_left
        · simp only [Act.put, s1, s2, s3, i64_w, i32_w]
          rfl
        refine pure_ (i := 16) (N := some 55) (v := undef) (a' := ?_) #[T,T,T,T,T,T,T,T,T,T,T,T,T,T,T,T,T,F,F,F,F,F,F,F,F,F,F,F,F] rfl rfl (any_of HT_.out (by kernel_rfl)) (fun _ _ _ h => h) (Or.inr ⟨by rfl, rfl⟩) ?_ ?_
        rotate_left
        · simp only [Act.put, s1, s2, s3, i64_w, i32_w]
          rfl
        refine pure_ (i := 17) (N := some 56) (v := ?_) (a' := ?_) #[T,T,T,T,T,T,T,T,T,T,T,T,T,T,T,T,T,T,F,F,F,F,F,F,F,F,F,F,F] rfl rfl (any_of HT_.out (by kernel_rfl)) (fun _ _ _ h => h) (Or.inl ⟨by first | rfl | (simp only [c20b1, c21b0]; rfl), ?_⟩) ?_ ?_
        rotate_left
        · intro w'
          go_simp
          with_reducible rfl
        rotate_left
        · simp only [Act.put, s1, s2, s3, i64_w, i32_w]
          rfl
        refine pure_ (i := 18) (N := some 57) (v := ?_) (a' := ?_) #[T,T,T,T,T,T,T,T,T,T,T,T,T,T,T,T,T,T,T,F,F,F,F,F,F,F,F,F,F] rfl rfl (any_of HT_.out (by kernel_rfl)) (fun _ _ _ h => h) (Or.inl ⟨by first | rfl | (simp only [c20b1, c21b0]; rfl), ?_⟩) ?_ ?_
        rotate_left
        · intro w'
          go_simp
          with_reducible rfl
        rotate_left
        · simp only [Act.put, s1, s2, s3, i64_w, i32_w]
          rfl
        refine pure_ (i := 19) (N := some 58) (v := undef) (a' := ?_) #[T,T,T,T,T,T,T,T,T,T,T,T,T,T,T,T,T,T,T,T,F,F,F,F,F,F,F,F,F] rfl rfl (any_of HT_.out (by kernel_rfl)) (fun _ _ _ h => h) (Or.inr ⟨by rfl, rfl⟩) ?_ ?_
        rotate_left
        · simp only [Act.put, s1, s2, s3, i64_w, i32_w]
          rfl
        refine pure_ (i := 20) (N := some 59) (v := undef) (a' := ?_) #[T,T,T,T,T,T,T,T,T,T,T,T,T,T,T,T,T,T,T,T,T,F,F,F,F,F,F,F,F] rfl rfl (any_of HT_.out (by kernel_rfl)) (fun _ _ _ h => h) (Or.inr ⟨by rfl, rfl⟩) ?_ ?_
        rotate_left
        · simp only [Act.put, s1, s2, s3, i64_w, i32_w]
          rfl
        refine pure_ (i := 21) (N := some 60) (v := undef) (a' := ?_) #[T,T,T,T,T,T,T,T,T,T,T,T,T,T,T,T,T,T,T,T,T,T,F,F,F,F,F,F,F] rfl rfl (any_of HT_.out (by kernel_rfl)) (fun _ _ _ h => h) (Or.inr ⟨by rfl, rfl⟩) ?_ ?_
        rotate_left
        · simp only [Act.put, s1, s2, s3, i64_w, i32_w]
          rfl
        refine pure_ (i := 22) (N := some 61) (v := undef) (a' := ?_) #[T,T,T,T,T,T,T,T,T,T,T,T,T,T,T,T,T,T,T,T,T,T,T,F,F,F,F,F,F] rfl rfl (any_of HT_.out (by kernel_rfl)) (fun _ _ _ h => h) (Or.inr ⟨by rfl, rfl⟩) ?_ ?_
        rotate_left
        · simp only [Act.put, s1, s2, s3, i64_w, i32_w]
          rfl
        refine pure_ (i := 23) (N := some 62) (v := undef) (a' := ?_) #[T,T,T,T,T,T,T,T,T,T,T,T,T,T,T,T,T,T,T,T,T,T,T,T,F,F,F,F,F] rfl rfl (any_of HT_.out (by kernel_rfl)) (fun _ _ _ h => h) (Or.inr ⟨by rfl, rfl⟩) ?_ ?_
        rotate_left
        · simp only [Act.put, s1, s2, s3, i64_w, i32_w]
          rfl
        refine pure_ (i := 24) (N := some 63) (v := undef) (a' := ?_) #[T,T,T,T,T,T,T,T,T,T,T,T,T,T,T,T,T,T,T,T,T,T,T,T,T,F,F,F,F] rfl rfl (any_of HT_.out (by kernel_rfl)) (fun _ _ _ h => h) (Or.inr ⟨by rfl, rfl⟩) ?_ ?_
        rotate_left
        · simp only [Act.put, s1, s2, s3, i64_w, i32_w]
          rfl
        refine pure_ (i := 25) (N := some 64) (v := undef) (a' := ?_) #[T,T,T,T,T,T,T,T,T,T,T,T,T,T,T,T,T,T,T,T,T,T,T,T,T,T,F,F,F] rfl rfl (any_of HT_.out (by kernel_rfl)) (fun _ _ _ h => h) (Or.inr ⟨by rfl, rfl⟩) ?_ ?_
        rotate_left
        · simp only [Act.put, s1, s2, s3, i64_w, i32_w]
          rfl
        refine pure_ (i := 26) (N := some 65) (v := undef) (a' := ?_) #[T,T,T,T,T,T,T,T,T,T,T,T,T,T,T,T,T,T,T,T,T,T,T,T,T,T,T,F,F] rfl rfl (any_of HT_.out (by kernel_rfl)) (fun _ _ _ h => h) (Or.inr ⟨by rfl, rfl⟩) ?_ ?_
        rotate_left
        · simp only [Act.put, s1, s2, s3, i64_w, i32_w]
          rfl
        refine pure_ (i := 27) (N := some 66) (v := undef) (a' := ?_) #[T,T,T,T,T,T,T,T,T,T,T,T,T,T,T,T,T,T,T,T,T,T,T,T,T,T,T,T,F] rfl rfl (any_of HT_.out (by kernel_rfl)) (fun _ _ _ h => h) (Or.inr ⟨by rfl, rfl⟩) ?_ ?_
        rotate_left
        · simp only [Act.put, s1, s2, s3, i64_w, i32_w]
          rfl
        refine pure_ (i := 28) (N := some 67) (v := ?_) (a' := ?_) #[T,T,T,T,T,T,T,T,T,T,T,T,T,T,T,T,T,T,T,T,T,T,T,T,T,T,T,T,T] rfl rfl (any_of HT_.out (by kernel_rfl)) (fun _ _ _ h => h) (Or.inl ⟨by first | rfl | (simp only [c20b1, c21b0]; rfl), ?_⟩) ?_ ?_
        rotate_left
        · intro w'
          go_simp
          with_reducible rfl
        rotate_left
        · simp only [Act.put, s1, s2, s3, i64_w, i32_w]
          rfl
        refine done_ (done_of HT_.out (by kernel_rfl)) ?_
        try go_wp2
        go_meet
        case rel => exact ⟨_, (true), (by first | rfl | (simp; done) | (simp [*]; done)), H', ⟨by first | omega | exact Nat.le_refl _⟩, ⟨by (with_reducible repeat (first | apply a1 | apply a2 | apply a3)); exact Kd.R_mono HO367.out (fun _ hk => ⟨hk.1, hk.2.2.1⟩)⟩, ⟨by (with_reducible repeat (first | apply a1 | apply a2 | apply a3)); exact Kd.R_mono HO370.out (fun _ hk => ⟨hk.1, hk.2.2.1⟩)⟩, ⟨by (with_reducible repeat (first | apply a1 | apply a2 | apply a3)); exact Kd.R_mono HO377.out (fun _ hk => ⟨hk.1, hk.2.1⟩)⟩, ⟨by repeat (first | (with_reducible first | exact HB.out | apply below_alloc | apply pw_below_drewN | apply below_drew1) | exact HB.out)⟩⟩
      rw [if_neg c21] at H
      have c21b0 : (t375 != t379) = false := by simpa using c21
      (try (have c21b1 : decide (t375 = t379) = true := by simpa using c21))
      (try (have c21b2 : (t375 == t379) = true := by simpa using c21))
      clear c21
      by_cases c27 : (strOfNums t374).toList = (strOfNums t378).toList
      · rw [if_pos c27] at H
        have c27b0 : ((strOfNums t374).toList == (strOfNums t378).toList) = true := beq_iff_eq.mpr c27
        have c27b1 : ((strOfNums t374).toList != (strOfNums t378).toList) = false := bne_eq_false_iff_eq.mpr c27
        clear c27
        replace H := Option.bind_eq_some_iff.mp H
        obtain ⟨t390, A280, H⟩ := H
        replace H : ((spec_Run.f k t382 t383 t384).bind fun t391 => (laws_FnSqueezed.j0 k t365 t368 t374 t375 (t390 != t391))) = some r := H
        have A28 := Aside0.mk A280
        clear A280
        replace H := Option.bind_eq_some_iff.mp H
        obtain ⟨t391, A290, H⟩ := H
        replace H : (laws_FnSqueezed.j0 k t365 t368 t374 t375 (t390 != t391)) = some r := H
        have A29 := Aside0.mk A290
        clear A290
        have H' := Aside0.mk H
        clear H
        obtain ⟨Ao30, co30, eo30⟩ := Kd.R_slice HO386.out
        subst eo30
        try go_wp2
        have n0_ := Aside0.mk (Kd.R_drew HO367.out)
        have n1_ := Aside0.mk (Kd.R_drew HO370.out)
        have n2_ := Aside0.mk (Kd.R_drew HO373.out)
        have n3_ := Aside0.mk (Kd.R_drew HO377.out)
        have n4_ := Aside0.mk (Kd.R_drew HO381.out)
        have n5_ := Aside0.mk (Kd.R_drew HO386.out)
        have n6_ := Aside0.mk (below_drew1 HB.out)
        clear HO367
        clear HO370
        clear HO373
        clear HO377
        clear HO381
        clear HO386
        clear HB
        have HO367 := n0_
        have HO370 := n1_
        have HO373 := n2_
        have HO377 := n3_
        have HO381 := n4_
        have HO386 := n5_
        have HB := n6_
        clear n0_ n1_ n2_ n3_ n4_ n5_ n6_
        refine start_ (n := 29) (S := fun w' => True) (ds := []) #[F,F,F,F,F,F,F,F,F,F,F,F,F,F,F,F,F,F,F,F,F,F,F,F,F,F,F,F,F] (by kernel_rfl) rfl rfl trivial (fun hHeld => ?_); refine with_tabW laws_FnSqueezed.tab9 laws_FnSqueezed.bits9 (fun HT_ HW_ => ?_)
        generalize w18.drew = w31 at HO367 HO370 HO373 HO377 HO381 HO386 HB hHeld ⊢
        refine pure_ (i := 0) (N := some 39) (v := ?_) (a' := ?_) #[T,F,F,F,F,F,F,F,F,F,F,F,F,F,F,F,F,F,F,F,F,F,F,F,F,F,F,F,F] rfl rfl (any_of HT_.out (by kernel_rfl)) (fun _ _ _ h => h) (Or.inl ⟨by first | rfl | (simp only [c20b1, c21b0, c27b1]; rfl), ?_⟩) ?_ ?_
        rotate_left
        · intro w'
          go_simp
          with_reducible rfl
        rotate_left
        · simp only [Act.put, s1, s2, s3, i64_w, i32_w]
          rfl
        refine pure_ (i := 2) (N := some 41) (v := ?_) (a' := ?_) #[T,F,T,F,F,F,F,F,F,F,F,F,F,F,F,F,F,F,F,F,F,F,F,F,F,F,F,F,F] rfl rfl (any_of HT_.out (by kernel_rfl)) (fun _ _ _ h => h) (Or.inl ⟨by first | rfl | (simp only [c20b1, c21b0, c27b1]; rfl), ?_⟩) ?_ ?_
        rotate_left
        · intro w'
          go_simp
          with_reducible rfl
        rotate_left
        · simp only [Act.put, s1, s2, s3, i64_w, i32_w]
          rfl
        refine join_ (σ := Value) 13 #[T,T,T,T,T,T,T,T,T,T,T,T,T,T,T,T,F,F,F,F,F,F,F,F,F,F,F,F,F] (fun s_ => [(40, .string (strOfNums t368)), (42, s_), (43, .string (strOfNums t387)), (52, .string (strOfNums t374)), (54, .string (strOfNums t378)), (44, .bool ((strOfNums t368).toList != (strOfNums t387).toList)), (45, .bool ((strOfNums t368).toList != (strOfNums t387).toList)), (46, .bool t375), (47, .bool t379), (48, .bool (t375 != t379)), (49, .bool (t375 != t379)), (50, .bool (t375 != t379)), (51, v376), (53, v380)]) (fun s_ w' => (Kd.R (Kd.int .u8) 5 w' w.heap.size (fun k_ => some k_ ≠ ob v369 ∧ some k_ ≠ ob (.slice Ao15 t371.length co15) ∧ some k_ ≠ ob v376 ∧ some k_ ≠ ob v380 ∧ some k_ ≠ ob (.slice Ao30 t382.length co30) ∧ some k_ ≠ ob s_) (.slice Ao12 t365.length co12) t365) ∧ (Kd.R (Kd.int .u8) 5 w' w.heap.size (fun k_ => some k_ ≠ ob (.slice Ao12 t365.length co12) ∧ some k_ ≠ ob (.slice Ao15 t371.length co15) ∧ some k_ ≠ ob v376 ∧ some k_ ≠ ob v380 ∧ some k_ ≠ ob (.slice Ao30 t382.length co30) ∧ some k_ ≠ ob s_) v369 t368) ∧ (Kd.R (Kd.int .u8) 5 w' w.heap.size (fun k_ => some k_ ≠ ob (.slice Ao12 t365.length co12) ∧ some k_ ≠ ob v369 ∧ some k_ ≠ ob v376 ∧ some k_ ≠ ob v380 ∧ some k_ ≠ ob (.slice Ao30 t382.length co30) ∧ some k_ ≠ ob s_) (.slice Ao15 t371.length co15) t371) ∧ (Kd.R (Kd.int .u8) 5 w' w.heap.size (fun k_ => some k_ ≠ ob (.slice Ao12 t365.length co12) ∧ some k_ ≠ ob v369 ∧ some k_ ≠ ob (.slice Ao15 t371.length co15) ∧ some k_ ≠ ob v380 ∧ some k_ ≠ ob (.slice Ao30 t382.length co30) ∧ some k_ ≠ ob s_) v376 t374) ∧ (Kd.R (Kd.int .u8) 5 w' w.heap.size (fun k_ => some k_ ≠ ob (.slice Ao12 t365.length co12) ∧ some k_ ≠ ob v369 ∧ some k_ ≠ ob (.slice Ao15 t371.length co15) ∧ some k_ ≠ ob v376 ∧ some k_ ≠ ob (.slice Ao30 t382.length co30) ∧ some k_ ≠ ob s_) v380 t378) ∧ (Kd.R (Kd.int .u8) 5 w' w.heap.size (fun k_ => some k_ ≠ ob (.slice Ao12 t365.length co12) ∧ some k_ ≠ ob v369 ∧ some k_ ≠ ob (.slice Ao15 t371.length co15) ∧ some k_ ≠ ob v376 ∧ some k_ ≠ ob v380 ∧ some k_ ≠ ob s_) (.slice Ao30 t382.length co30) t382) ∧ (Kd.R (Kd.int .u8) 5 w' w.heap.size (fun k_ => some k_ ≠ ob (.slice Ao12 t365.length co12) ∧ some k_ ≠ ob v369 ∧ some k_ ≠ ob (.slice Ao15 t371.length co15) ∧ some k_ ≠ ob v376 ∧ some k_ ≠ ob v380 ∧ some k_ ≠ ob (.slice Ao30 t382.length co30)) s_ t387) ∧ (Below w.heap.size w w')) ?_ ?_
        rotate_left
        · intro hJ1_3_4_13_15
          refine join_ (σ := Value) 14 #[T,T,T,T,T,T,T,T,T,T,T,T,T,T,T,F,F,F,F,F,F,F,F,F,F,F,F,F,F] (fun s_ => [(40, .string (strOfNums t368)), (42, s_), (43, .string (strOfNums t387)), (52, .string (strOfNums t374)), (44, .bool ((strOfNums t368).toList != (strOfNums t387).toList)), (45, .bool ((strOfNums t368).toList != (strOfNums t387).toList)), (46, .bool t375), (47, .bool t379), (48, .bool (t375 != t379)), (49, .bool (t375 != t379)), (50, .bool (t375 != t379)), (51, v376), (53, v380)]) (fun s_ w' => (Kd.R (Kd.int .u8) 5 w' w.heap.size (fun k_ => some k_ ≠ ob v369 ∧ some k_ ≠ ob (.slice Ao15 t371.length co15) ∧ some k_ ≠ ob v376 ∧ some k_ ≠ ob v380 ∧ some k_ ≠ ob (.slice Ao30 t382.length co30) ∧ some k_ ≠ ob s_) (.slice Ao12 t365.length co12) t365) ∧ (Kd.R (Kd.int .u8) 5 w' w.heap.size (fun k_ => some k_ ≠ ob (.slice Ao12 t365.length co12) ∧ some k_ ≠ ob (.slice Ao15 t371.length co15) ∧ some k_ ≠ ob v376 ∧ some k_ ≠ ob v380 ∧ some k_ ≠ ob (.slice Ao30 t382.length co30) ∧ some k_ ≠ ob s_) v369 t368) ∧ (Kd.R (Kd.int .u8) 5 w' w.heap.size (fun k_ => some k_ ≠ ob (.slice Ao12 t365.length co12) ∧ some k_ ≠ ob v369 ∧ some k_ ≠ ob v376 ∧ some k_ ≠ ob v380 ∧ some k_ ≠ ob (.slice Ao30 t382.length co30) ∧ some k_ ≠ ob s_) (.slice Ao15 t371.length co15) t371) ∧ (Kd.R (Kd.int .u8) 5 w' w.heap.size (fun k_ => some k_ ≠ ob (.slice Ao12 t365.length co12) ∧ some k_ ≠ ob v369 ∧ some k_ ≠ ob (.slice Ao15 t371.length co15) ∧ some k_ ≠ ob v380 ∧ some k_ ≠ ob (.slice Ao30 t382.length co30) ∧ some k_ ≠ ob s_) v376 t374) ∧ (Kd.R (Kd.int .u8) 5 w' w.heap.size (fun k_ => some k_ ≠ ob (.slice Ao12 t365.length co12) ∧ some k_ ≠ ob v369 ∧ some k_ ≠ ob (.slice Ao15 t371.length co15) ∧ some k_ ≠ ob v376 ∧ some k_ ≠ ob (.slice Ao30 t382.length co30) ∧ some k_ ≠ ob s_) v380 t378) ∧ (Kd.R (Kd.int .u8) 5 w' w.heap.size (fun k_ => some k_ ≠ ob (.slice Ao12 t365.length co12) ∧ some k_ ≠ ob v369 ∧ some k_ ≠ ob (.slice Ao15 t371.length co15) ∧ some k_ ≠ ob v376 ∧ some k_ ≠ ob v380 ∧ some k_ ≠ ob s_) (.slice Ao30 t382.length co30) t382) ∧ (Kd.R (Kd.int .u8) 5 w' w.heap.size (fun k_ => some k_ ≠ ob (.slice Ao12 t365.length co12) ∧ some k_ ≠ ob v369 ∧ some k_ ≠ ob (.slice Ao15 t371.length co15) ∧ some k_ ≠ ob v376 ∧ some k_ ≠ ob v380 ∧ some k_ ≠ ob (.slice Ao30 t382.length co30)) s_ t387) ∧ (Below w.heap.size w w')) ?_ ?_
          rotate_left
          · intro hJ1_3_4_13
            refine join_ (σ := Value) 14 #[T,T,T,T,T,T,T,T,T,T,T,T,T,F,T,T,F,F,F,F,F,F,F,F,F,F,F,F,F] (fun s_ => [(40, .string (strOfNums t368)), (42, s_), (43, .string (strOfNums t387)), (54, .string (strOfNums t378)), (44, .bool ((strOfNums t368).toList != (strOfNums t387).toList)), (45, .bool ((strOfNums t368).toList != (strOfNums t387).toList)), (46, .bool t375), (47, .bool t379), (48, .bool (t375 != t379)), (49, .bool (t375 != t379)), (50, .bool (t375 != t379)), (51, v376), (53, v380)]) (fun s_ w' => (Kd.R (Kd.int .u8) 5 w' w.heap.size (fun k_ => some k_ ≠ ob v369 ∧ some k_ ≠ ob (.slice Ao15 t371.length co15) ∧ some k_ ≠ ob v376 ∧ some k_ ≠ ob v380 ∧ some k_ ≠ ob (.slice Ao30 t382.length co30) ∧ some k_ ≠ ob s_) (.slice Ao12 t365.length co12) t365) ∧ (Kd.R (Kd.int .u8) 5 w' w.heap.size (fun k_ => some k_ ≠ ob (.slice Ao12 t365.length co12) ∧ some k_ ≠ ob (.slice Ao15 t371.length co15) ∧ some k_ ≠ ob v376 ∧ some k_ ≠ ob v380 ∧ some k_ ≠ ob (.slice Ao30 t382.length co30) ∧ some k_ ≠ ob s_) v369 t368) ∧ (Kd.R (Kd.int .u8) 5 w' w.heap.size (fun k_ => some k_ ≠ ob (.slice Ao12 t365.length co12) ∧ some k_ ≠ ob v369 ∧ some k_ ≠ ob v376 ∧ some k_ ≠ ob v380 ∧ some k_ ≠ ob (.slice Ao30 t382.length co30) ∧ some k_ ≠ ob s_) (.slice Ao15 t371.length co15) t371) ∧ (Kd.R (Kd.int .u8) 5 w' w.heap.size (fun k_ => some k_ ≠ ob (.slice Ao12 t365.length co12) ∧ some k_ ≠ ob v369 ∧ some k_ ≠ ob (.slice Ao15 t371.length co15) ∧ some k_ ≠ ob v380 ∧ some k_ ≠ ob (.slice Ao30 t382.length co30) ∧ some k_ ≠ ob s_) v376 t374) ∧ (Kd.R (Kd.int .u8) 5 w' w.heap.size (fun k_ => some k_ ≠ ob (.slice Ao12 t365.length co12) ∧ some k_ ≠ ob v369 ∧ some k_ ≠ ob (.slice Ao15 t371.length co15) ∧ some k_ ≠ ob v376 ∧ some k_ ≠ ob (.slice Ao30 t382.length co30) ∧ some k_ ≠ ob s_) v380 t378) ∧ (Kd.R (Kd.int .u8) 5 w' w.heap.size (fun k_ => some k_ ≠ ob (.slice Ao12 t365.length co12) ∧ some k_ ≠ ob v369 ∧ some k_ ≠ ob (.slice Ao15 t371.length co15) ∧ some k_ ≠ ob v376 ∧ some k_ ≠ ob v380 ∧ some k_ ≠ ob s_) (.slice Ao30 t382.length co30) t382) ∧ (Kd.R (Kd.int .u8) 5 w' w.heap.size (fun k_ => some k_ ≠ ob (.slice Ao12 t365.length co12) ∧ some k_ ≠ ob v369 ∧ some k_ ≠ ob (.slice Ao15 t371.length co15) ∧ some k_ ≠ ob v376 ∧ some k_ ≠ ob v380 ∧ some k_ ≠ ob (.slice Ao30 t382.length co30)) s_ t387) ∧ (Below w.heap.size w w')) ?_ ?_
            rotate_left
            · intro hJ1_3_4_15
              refine join_ (σ := Value) 15 #[T,T,T,T,T,T,T,T,T,T,T,T,T,F,T,F,F,F,F,F,F,F,F,F,F,F,F,F,F] (fun s_ => [(40, .string (strOfNums t368)), (42, s_), (43, .string (strOfNums t387)), (44, .bool ((strOfNums t368).toList != (strOfNums t387).toList)), (45, .bool ((strOfNums t368).toList != (strOfNums t387).toList)), (46, .bool t375), (47, .bool t379), (48, .bool (t375 != t379)), (49, .bool (t375 != t379)), (50, .bool (t375 != t379)), (51, v376), (53, v380)]) (fun s_ w' => (Kd.R (Kd.int .u8) 5 w' w.heap.size (fun k_ => some k_ ≠ ob v369 ∧ some k_ ≠ ob (.slice Ao15 t371.length co15) ∧ some k_ ≠ ob v376 ∧ some k_ ≠ ob v380 ∧ some k_ ≠ ob (.slice Ao30 t382.length co30) ∧ some k_ ≠ ob s_) (.slice Ao12 t365.length co12) t365) ∧ (Kd.R (Kd.int .u8) 5 w' w.heap.size (fun k_ => some k_ ≠ ob (.slice Ao12 t365.length co12) ∧ some k_ ≠ ob (.slice Ao15 t371.length co15) ∧ some k_ ≠ ob v376 ∧ some k_ ≠ ob v380 ∧ some k_ ≠ ob (.slice Ao30 t382.length co30) ∧ some k_ ≠ ob s_) v369 t368) ∧ (Kd.R (Kd.int .u8) 5 w' w.heap.size (fun k_ => some k_ ≠ ob (.slice Ao12 t365.length co12) ∧ some k_ ≠ ob v369 ∧ some k_ ≠ ob v376 ∧ some k_ ≠ ob v380 ∧ some k_ ≠ ob (.slice Ao30 t382.length co30) ∧ some k_ ≠ ob s_) (.slice Ao15 t371.length co15) t371) ∧ (Kd.R (Kd.int .u8) 5 w' w.heap.size (fun k_ => some k_ ≠ ob (.slice Ao12 t365.length co12) ∧ some k_ ≠ ob v369 ∧ some k_ ≠ ob (.slice Ao15 t371.length co15) ∧ some k_ ≠ ob v380 ∧ some k_ ≠ ob (.slice Ao30 t382.length co30) ∧ some k_ ≠ ob s_) v376 t374) ∧ (Kd.R (Kd.int .u8) 5 w' w.heap.size (fun k_ => some k_ ≠ ob (.slice Ao12 t365.length co12) ∧ some k_ ≠ ob v369 ∧ some k_ ≠ ob (.slice Ao15 t371.length co15) ∧ some k_ ≠ ob v376 ∧ some k_ ≠ ob (.slice Ao30 t382.length co30) ∧ some k_ ≠ ob s_) v380 t378) ∧ (Kd.R (Kd.int .u8) 5 w' w.heap.size (fun k_ => some k_ ≠ ob (.slice Ao12 t365.length co12) ∧ some k_ ≠ ob v369 ∧ some k_ ≠ ob (.slice Ao15 t371.length co15) ∧ some k_ ≠ ob v376 ∧ some k_ ≠ ob v380 ∧ some k_ ≠ ob s_) (.slice Ao30 t382.length co30) t382) ∧ (Kd.R (Kd.int .u8) 5 w' w.heap.size (fun k_ => some k_ ≠ ob (.slice Ao12 t365.length co12) ∧ some k_ ≠ ob v369 ∧ some k_ ≠ ob (.slice Ao15 t371.length co15) ∧ some k_ ≠ ob v376 ∧ some k_ ≠ ob v380 ∧ some k_ ≠ ob (.slice Ao30 t382.length co30)) s_ t387) ∧ (Below w.heap.size w w')) ?_ ?_
              rotate_left
              · intro hJ1_3_4
                refine join_ (σ := Value) 25 #[T,T,T,T,F,F,F,F,F,F,F,F,F,F,F,F,F,F,F,F,F,F,F,F,F,F,F,F,F] (fun s_ => [(40, .string (strOfNums t368)), (42, s_)]) (fun s_ w' => (Kd.R (Kd.int .u8) 5 w' w.heap.size (fun k_ => some k_ ≠ ob v369 ∧ some k_ ≠ ob (.slice Ao15 t371.length co15) ∧ some k_ ≠ ob v376 ∧ some k_ ≠ ob v380 ∧ some k_ ≠ ob (.slice Ao30 t382.length co30) ∧ some k_ ≠ ob s_) (.slice Ao12 t365.length co12) t365) ∧ (Kd.R (Kd.int .u8) 5 w' w.heap.size (fun k_ => some k_ ≠ ob (.slice Ao12 t365.length co12) ∧ some k_ ≠ ob (.slice Ao15 t371.length co15) ∧ some k_ ≠ ob v376 ∧ some k_ ≠ ob v380 ∧ some k_ ≠ ob (.slice Ao30 t382.length co30) ∧ some k_ ≠ ob s_) v369 t368) ∧ (Kd.R (Kd.int .u8) 5 w' w.heap.size (fun k_ => some k_ ≠ ob (.slice Ao12 t365.length co12) ∧ some k_ ≠ ob v369 ∧ some k_ ≠ ob v376 ∧ some k_ ≠ ob v380 ∧ some k_ ≠ ob (.slice Ao30 t382.length co30) ∧ some k_ ≠ ob s_) (.slice Ao15 t371.length co15) t371) ∧ (Kd.R (Kd.int .u8) 5 w' w.heap.size (fun k_ => some k_ ≠ ob (.slice Ao12 t365.length co12) ∧ some k_ ≠ ob v369 ∧ some k_ ≠ ob (.slice Ao15 t371.length co15) ∧ some k_ ≠ ob v380 ∧ some k_ ≠ ob (.slice Ao30 t382.length co30) ∧ some k_ ≠ ob s_) v376 t374) ∧ (Kd.R (Kd.int .u8) 5 w' w.heap.size (fun k_ => some k_ ≠ ob (.slice Ao12 t365.length co12) ∧ some k_ ≠ ob v369 ∧ some k_ ≠ ob (.slice Ao15 t371.length co15) ∧ some k_ ≠ ob v376 ∧ some k_ ≠ ob (.slice Ao30 t382.length co30) ∧ some k_ ≠ ob s_) v380 t378) ∧ (Kd.R (Kd.int .u8) 5 w' w.heap.size (fun k_ => some k_ ≠ ob (.slice Ao12 t365.length co12) ∧ some k_ ≠ ob v369 ∧ some k_ ≠ ob (.slice Ao15 t371.length co15) ∧ some k_ ≠ ob v376 ∧ some k_ ≠ ob v380 ∧ some k_ ≠ ob s_) (.slice Ao30 t382.length co30) t382) ∧ (Kd.R (Kd.int .u8) 5 w' w.heap.size (fun k_ => some k_ ≠ ob (.slice Ao12 t365.length co12) ∧ some k_ ≠ ob v369 ∧ some k_ ≠ ob (.slice Ao15 t371.length co15) ∧ some k_ ≠ ob v376 ∧ some k_ ≠ ob v380 ∧ some k_ ≠ ob (.slice Ao30 t382.length co30)) s_ t387) ∧ (Below w.heap.size w w')) ?_ ?_
                rotate_left
                · intro hJ1_3
                  refine join_ (σ := Value) 25 #[T,F,T,T,T,F,F,F,F,F,F,F,F,F,F,F,F,F,F,F,F,F,F,F,F,F,F,F,F] (fun s_ => [(42, s_), (43, .string (strOfNums t387))]) (fun s_ w' => (Kd.R (Kd.int .u8) 5 w' w.heap.size (fun k_ => some k_ ≠ ob v369 ∧ some k_ ≠ ob (.slice Ao15 t371.length co15) ∧ some k_ ≠ ob v376 ∧ some k_ ≠ ob v380 ∧ some k_ ≠ ob (.slice Ao30 t382.length co30) ∧ some k_ ≠ ob s_) (.slice Ao12 t365.length co12) t365) ∧ (Kd.R (Kd.int .u8) 5 w' w.heap.size (fun k_ => some k_ ≠ ob (.slice Ao12 t365.length co12) ∧ some k_ ≠ ob (.slice Ao15 t371.length co15) ∧ some k_ ≠ ob v376 ∧ some k_ ≠ ob v380 ∧ some k_ ≠ ob (.slice Ao30 t382.length co30) ∧ some k_ ≠ ob s_) v369 t368) ∧ (Kd.R (Kd.int .u8) 5 w' w.heap.size (fun k_ => some k_ ≠ ob (.slice Ao12 t365.length co12) ∧ some k_ ≠ ob v369 ∧ some k_ ≠ ob v376 ∧ some k_ ≠ ob v380 ∧ some k_ ≠ ob (.slice Ao30 t382.length co30) ∧ some k_ ≠ ob s_) (.slice Ao15 t371.length co15) t371) ∧ (Kd.R (Kd.int .u8) 5 w' w.heap.size (fun k_ => some k_ ≠ ob (.slice Ao12 t365.length co12) ∧ some k_ ≠ ob v369 ∧ some k_ ≠ ob (.slice Ao15 t371.length co15) ∧ some k_ ≠ ob v380 ∧ some k_ ≠ ob (.slice Ao30 t382.length co30) ∧ some k_ ≠ ob s_) v376 t374) ∧ (Kd.R (Kd.int .u8) 5 w' w.heap.size (fun k_ => some k_ ≠ ob (.slice Ao12 t365.length co12) ∧ some k_ ≠ ob v369 ∧ some k_ ≠ ob (.slice Ao15 t371.length co15) ∧ some k_ ≠ ob v376 ∧ some k_ ≠ ob (.slice Ao30 t382.length co30) ∧ some k_ ≠ ob s_) v380 t378) ∧ (Kd.R (Kd.int .u8) 5 w' w.heap.size (fun k_ => some k_ ≠ ob (.slice Ao12 t365.length co12) ∧ some k_ ≠ ob v369 ∧ some k_ ≠ ob (.slice Ao15 t371.length co15) ∧ some k_ ≠ ob v376 ∧ some k_ ≠ ob v380 ∧ some k_ ≠ ob s_) (.slice Ao30 t382.length co30) t382) ∧ (Kd.R (Kd.int .u8) 5 w' w.heap.size (fun k_ => some k_ ≠ ob (.slice Ao12 t365.length co12) ∧ some k_ ≠ ob v369 ∧ some k_ ≠ ob (.slice Ao15 t371.length co15) ∧ some k_ ≠ ob v376 ∧ some k_ ≠ ob v380 ∧ some k_ ≠ ob (.slice Ao30 t382.length co30)) s_ t387) ∧ (Below w.heap.size w w')) ?_ ?_
                  rotate_left
                  · intro hJ3_4
                    refine join_ (σ := Unit) 26 #[T,T,T,F,F,F,F,F,F,F,F,F,F,F,F,F,F,F,F,F,F,F,F,F,F,F,F,F,F] (fun s_ => [(40, .string (strOfNums t368))]) (fun s_ w' => (Kd.R (Kd.int .u8) 5 w' w.heap.size (fun k_ => some k_ ≠ ob v369 ∧ some k_ ≠ ob (.slice Ao15 t371.length co15) ∧ some k_ ≠ ob v376 ∧ some k_ ≠ ob v380 ∧ some k_ ≠ ob (.slice Ao30 t382.length co30)) (.slice Ao12 t365.length co12) t365) ∧ (Kd.R (Kd.int .u8) 5 w' w.heap.size (fun k_ => some k_ ≠ ob (.slice Ao12 t365.length co12) ∧ some k_ ≠ ob (.slice Ao15 t371.length co15) ∧ some k_ ≠ ob v376 ∧ some k_ ≠ ob v380 ∧ some k_ ≠ ob (.slice Ao30 t382.length co30)) v369 t368) ∧ (Kd.R (Kd.int .u8) 5 w' w.heap.size (fun k_ => some k_ ≠ ob (.slice Ao12 t365.length co12) ∧ some k_ ≠ ob v369 ∧ some k_ ≠ ob v376 ∧ some k_ ≠ ob v380 ∧ some k_ ≠ ob (.slice Ao30 t382.length co30)) (.slice Ao15 t371.length co15) t371) ∧ (Kd.R (Kd.int .u8) 5 w' w.heap.size (fun k_ => some k_ ≠ ob (.slice Ao12 t365.length co12) ∧ some k_ ≠ ob v369 ∧ some k_ ≠ ob (.slice Ao15 t371.length co15) ∧ some k_ ≠ ob v380 ∧ some k_ ≠ ob (.slice Ao30 t382.length co30)) v376 t374) ∧ (Kd.R (Kd.int .u8) 5 w' w.heap.size (fun k_ => some k_ ≠ ob (.slice Ao12 t365.length co12) ∧ some k_ ≠ ob v369 ∧ some k_ ≠ ob (.slice Ao15 t371.length co15) ∧ some k_ ≠ ob v376 ∧ some k_ ≠ ob (.slice Ao30 t382.length co30)) v380 t378) ∧ (Kd.R (Kd.int .u8) 5 w' w.heap.size (fun k_ => some k_ ≠ ob (.slice Ao12 t365.length co12) ∧ some k_ ≠ ob v369 ∧ some k_ ≠ ob (.slice Ao15 t371.length co15) ∧ some k_ ≠ ob v376 ∧ some k_ ≠ ob v380) (.slice Ao30 t382.length co30) t382) ∧ (Below w.heap.size w w')) ?_ ?_
                    rotate_left
                    · intro hJ1
                      refine join_ (σ := Value) 26 #[T,F,T,T,F,F,F,F,F,F,F,F,F,F,F,F,F,F,F,F,F,F,F,F,F,F,F,F,F] (fun s_ => [(42, s_)]) (fun s_ w' => (Kd.R (Kd.int .u8) 5 w' w.heap.size (fun k_ => some k_ ≠ ob v369 ∧ some k_ ≠ ob (.slice Ao15 t371.length co15) ∧ some k_ ≠ ob v376 ∧ some k_ ≠ ob v380 ∧ some k_ ≠ ob (.slice Ao30 t382.length co30) ∧ some k_ ≠ ob s_) (.slice Ao12 t365.length co12) t365) ∧ (Kd.R (Kd.int .u8) 5 w' w.heap.size (fun k_ => some k_ ≠ ob (.slice Ao12 t365.length co12) ∧ some k_ ≠ ob (.slice Ao15 t371.length co15) ∧ some k_ ≠ ob v376 ∧ some k_ ≠ ob v380 ∧ some k_ ≠ ob (.slice Ao30 t382.length co30) ∧ some k_ ≠ ob s_) v369 t368) ∧ (Kd.R (Kd.int .u8) 5 w' w.heap.size (fun k_ => some k_ ≠ ob (.slice Ao12 t365.length co12) ∧ some k_ ≠ ob v369 ∧ some k_ ≠ ob v376 ∧ some k_ ≠ ob v380 ∧ some k_ ≠ ob (.slice Ao30 t382.length co30) ∧ some k_ ≠ ob s_) (.slice Ao15 t371.length co15) t371) ∧ (Kd.R (Kd.int .u8) 5 w' w.heap.size (fun k_ => some k_ ≠ ob (.slice Ao12 t365.length co12) ∧ some k_ ≠ ob v369 ∧ some k_ ≠ ob (.slice Ao15 t371.length co15) ∧ some k_ ≠ ob v380 ∧ some k_ ≠ ob (.slice Ao30 t382.length co30) ∧ some k_ ≠ ob s_) v376 t374) ∧ (Kd.R (Kd.int .u8) 5 w' w.heap.size (fun k_ => some k_ ≠ ob (.slice Ao12 t365.length co12) ∧ some k_ ≠ ob v369 ∧ some k_ ≠ ob (.slice Ao15 t371.length co15) ∧ some k_ ≠ ob v376 ∧ some k_ ≠ ob (.slice Ao30 t382.length co30) ∧ some k_ ≠ ob s_) v380 t378) ∧ (Kd.R (Kd.int .u8) 5 w' w.heap.size (fun k_ => some k_ ≠ ob (.slice Ao12 t365.length co12) ∧ some k_ ≠ ob v369 ∧ some k_ ≠ ob (.slice Ao15 t371.length co15) ∧ some k_ ≠ ob v376 ∧ some k_ ≠ ob v380 ∧ some k_ ≠ ob s_) (.slice Ao30 t382.length co30) t382) ∧ (Kd.R (Kd.int .u8) 5 w' w.heap.size (fun k_ => some k_ ≠ ob (.slice Ao12 t365.length co12) ∧ some k_ ≠ ob v369 ∧ some k_ ≠ ob (.slice Ao15 t371.length co15) ∧ some k_ ≠ ob v376 ∧ some k_ ≠ ob v380 ∧ some k_ ≠ ob (.slice Ao30 t382.length co30)) s_ t387) ∧ (Below w.heap.size w w')) ?_ ?_
                      rotate_left
                      · intro hJ3
                        refine two_ (i := 1) (j := 3) (Ni := some 40) (Nj := some 42) #[T,T,T,F,F,F,F,F,F,F,F,F,F,F,F,F,F,F,F,F,F,F,F,F,F,F,F,F,F] #[T,F,T,T,F,F,F,F,F,F,F,F,F,F,F,F,F,F,F,F,F,F,F,F,F,F,F,F,F] rfl rfl rfl rfl (two_of HT_.out (by kernel_rfl)) (by decide) (by decide) (fun K hK => ?_) (fun K hK => ?_)
                        · skip
                          have hcv32 := own_string (P := Try.prog) Try.underlying22 Try.underlying5 Try.underlying9 (Kd.own_of_R HO370.out)
                          refine value_ (w1 := ?_) (v := ?_) (by first | rfl | (simp only [c20b1, c21b0, c27b1]; rfl)) rfl ?_ ?_
                          rotate_left 2
                          · go_simp
                            constructor
                            · rfl
                            rfl
                          clear hcv32
                          refine hK.out _ _ trivial (fun hHeld => ?_)
                          clear hK K
                          refine norm_ (a' := ?_) ?_ ?_
                          rotate_left
                          · show Act.put _ (some 40) _ = _
                            simp only [Act.put, s1, s2, s3, i64_w, i32_w]
                            rfl
                          exact norm_ (by first | (simp only [putAll, Act.put, s1, s2, s3]; done) | (simp only [putAll, Act.put, s1, s2, s3]; rfl) | (simp only [putAll, Act.put, s1, s2, s3, c20b1, c21b0, c27b1]; try rfl)) (hJ1 () _ ⟨(by (with_reducible repeat (first | apply a1 | apply a2 | apply a3)); exact Kd.R_mono HO367.out (fun _ hk => ⟨hk.1.1.1.1.2, ⟨hk.1.1.1.2, ⟨hk.1.1.2, ⟨hk.1.2, hk.2⟩⟩⟩⟩)), (by (with_reducible repeat (first | apply a1 | apply a2 | apply a3)); exact Kd.R_mono HO370.out (fun _ hk => ⟨hk.1.1.1.1.2, ⟨hk.1.1.1.2, ⟨hk.1.1.2, ⟨hk.1.2, hk.2⟩⟩⟩⟩)), (by (with_reducible repeat (first | apply a1 | apply a2 | apply a3)); exact Kd.R_mono HO373.out (fun _ hk => ⟨hk.1.1.1.1.2, ⟨hk.1.1.1.2, ⟨hk.1.1.2, ⟨hk.1.2, hk.2⟩⟩⟩⟩)), (by (with_reducible repeat (first | apply a1 | apply a2 | apply a3)); exact Kd.R_mono HO377.out (fun _ hk => ⟨hk.1.1.1.1.2, ⟨hk.1.1.1.2, ⟨hk.1.1.2, ⟨hk.1.2, hk.2⟩⟩⟩⟩)), (by (with_reducible repeat (first | apply a1 | apply a2 | apply a3)); exact Kd.R_mono HO381.out (fun _ hk => ⟨hk.1.1.1.1.2, ⟨hk.1.1.1.2, ⟨hk.1.1.2, ⟨hk.1.2, hk.2⟩⟩⟩⟩)), (by (with_reducible repeat (first | apply a1 | apply a2 | apply a3)); exact Kd.R_mono HO386.out (fun _ hk => ⟨hk.1.1.1.1.2, ⟨hk.1.1.1.2, ⟨hk.1.1.2, ⟨hk.1.2, hk.2⟩⟩⟩⟩)), (by repeat (first | (with_reducible first | exact HB.out | apply below_alloc | apply pw_below_drewN | apply below_drew1) | exact HB.out))⟩)
                        skip
                        refine goes_ Try.func45 (by kernel_rfl) rfl #[.slice Ao12 t365.length co12] (by rfl) rfl rfl (by (try simp only [List.map_toArray, List.map_cons, List.map_nil]); first | done | rfl | (simp only [List.length_drop, List.length_take]; rfl)) ?_
                        with_reducible refine (spec_Squeeze.calls k _ _ t365 t387 _ ?side1 ?side2 A19.out).mono ?_
                        (case side1 => repeat (first | exact (Kd.R_reads' HO367.out).2.2 | (with_reducible refine Kd.C_alloc ?_ _) | (with_reducible refine Kd.C_drewN ?_ _) | (with_reducible refine Kd.C_drew ?_)))
                        (case side2 => exact (Kd.R_reads' HO367.out).2.1)
                        rintro e w32 ⟨v388, rfl, ho0, hb⟩
                        refine ⟨_, rfl, ?_⟩
                        have n0_ := Aside0.mk (Kd.R_elder' (by (with_reducible repeat (first | apply a1 | apply a2 | apply a3)); exact HO367.out) (Kd.R_base ho0) hb)
                        have n1_ := Aside0.mk (Kd.R_elder' (by (with_reducible repeat (first | apply a1 | apply a2 | apply a3)); exact HO370.out) (Kd.R_base ho0) hb)
                        have n2_ := Aside0.mk (Kd.R_elder' (by (with_reducible repeat (first | apply a1 | apply a2 | apply a3)); exact HO373.out) (Kd.R_base ho0) hb)
                        have n3_ := Aside0.mk (Kd.R_elder' (by (with_reducible repeat (first | apply a1 | apply a2 | apply a3)); exact HO377.out) (Kd.R_base ho0) hb)
                        have n4_ := Aside0.mk (Kd.R_elder' (by (with_reducible repeat (first | apply a1 | apply a2 | apply a3)); exact HO381.out) (Kd.R_base ho0) hb)
                        have n5_ := Aside0.mk (Kd.R_elder' (by (with_reducible repeat (first | apply a1 | apply a2 | apply a3)); exact HO386.out) (Kd.R_base ho0) hb)
                        have n6_ := Aside0.mk (Kd.R_lower (Kd.R_new' (Kd.R_new' (Kd.R_new' (Kd.R_new' (Kd.R_new' (Kd.R_new' ho0 (Kd.R_lt (by (with_reducible repeat (first | apply a1 | apply a2 | apply a3)); exact HO367.out))) (Kd.R_lt (by (with_reducible repeat (first | apply a1 | apply a2 | apply a3)); exact HO370.out))) (Kd.R_lt (by (with_reducible repeat (first | apply a1 | apply a2 | apply a3)); exact HO373.out))) (Kd.R_lt (by (with_reducible repeat (first | apply a1 | apply a2 | apply a3)); exact HO377.out))) (Kd.R_lt (by (with_reducible repeat (first | apply a1 | apply a2 | apply a3)); exact HO381.out))) (Kd.R_lt (by (with_reducible repeat (first | apply a1 | apply a2 | apply a3)); exact HO386.out))) (below_size (by repeat (first | (with_reducible first | exact HB.out | apply below_alloc | apply pw_below_drewN | apply below_drew1) | exact HB.out))))
                        have n7_ := Aside0.mk (below_step (by repeat (first | (with_reducible first | exact HB.out | apply below_alloc | apply pw_below_drewN | apply below_drew1) | exact HB.out)) hb)
                        clear HO367
                        clear HO370
                        clear HO373
                        clear HO377
                        clear HO381
                        clear HO386
                        clear HB
                        have HO367 := n0_
                        have HO370 := n1_
                        have HO373 := n2_
                        have HO377 := n3_
                        have HO381 := n4_
                        have HO386 := n5_
                        have HO389 := n6_
                        have HB := n7_
                        clear n0_ n1_ n2_ n3_ n4_ n5_ n6_ n7_
                        (try clear hb)
                        (try clear hb2)
                        (try clear hk)
                        (try clear hi)
                        (try clear ho0)
                        refine hK.out _ _ trivial (fun hHeld => ?_)
                        clear hK K
                        refine norm_ (a' := ?_) ?_ ?_
                        rotate_left
                        · show Act.put _ (some 42) _ = _
                          simp only [Act.put, s1, s2, s3, i64_w, i32_w]
                          rfl
                        exact norm_ (by first | (simp only [putAll, Act.put, s1, s2, s3]; done) | (simp only [putAll, Act.put, s1, s2, s3]; rfl) | (simp only [putAll, Act.put, s1, s2, s3, c20b1, c21b0, c27b1]; try rfl)) (hJ3 (v388) _ ⟨(by (with_reducible repeat (first | apply a1 | apply a2 | apply a3)); exact Kd.R_mono HO367.out (fun _ hk => ⟨hk.1.1.1.1.1.2, ⟨hk.1.1.1.1.2, ⟨hk.1.1.1.2, ⟨hk.1.1.2, ⟨hk.1.2, hk.2⟩⟩⟩⟩⟩)), (by (with_reducible repeat (first | apply a1 | apply a2 | apply a3)); exact Kd.R_mono HO370.out (fun _ hk => ⟨hk.1.1.1.1.1.2, ⟨hk.1.1.1.1.2, ⟨hk.1.1.1.2, ⟨hk.1.1.2, ⟨hk.1.2, hk.2⟩⟩⟩⟩⟩)), (by (with_reducible repeat (first | apply a1 | apply a2 | apply a3)); exact Kd.R_mono HO373.out (fun _ hk => ⟨hk.1.1.1.1.1.2, ⟨hk.1.1.1.1.2, ⟨hk.1.1.1.2, ⟨hk.1.1.2, ⟨hk.1.2, hk.2⟩⟩⟩⟩⟩)), (by (with_reducible repeat (first | apply a1 | apply a2 | apply a3)); exact Kd.R_mono HO377.out (fun _ hk => ⟨hk.1.1.1.1.1.2, ⟨hk.1.1.1.1.2, ⟨hk.1.1.1.2, ⟨hk.1.1.2, ⟨hk.1.2, hk.2⟩⟩⟩⟩⟩)), (by (with_reducible repeat (first | apply a1 | apply a2 | apply a3)); exact Kd.R_mono HO381.out (fun _ hk => ⟨hk.1.1.1.1.1.2, ⟨hk.1.1.1.1.2, ⟨hk.1.1.1.2, ⟨hk.1.1.2, ⟨hk.1.2, hk.2⟩⟩⟩⟩⟩)), (by (with_reducible repeat (first | apply a1 | apply a2 | apply a3)); exact Kd.R_mono HO386.out (fun _ hk => ⟨hk.1.1.1.1.1.2, ⟨hk.1.1.1.1.2, ⟨hk.1.1.1.2, ⟨hk.1.1.2, ⟨hk.1.2, hk.2⟩⟩⟩⟩⟩)), (by (with_reducible repeat (first | apply a1 | apply a2 | apply a3)); exact Kd.R_mono HO389.out (fun _ hk => ⟨hk.1.1.1.1.1.2, ⟨hk.1.1.1.1.2, ⟨hk.1.1.1.2, ⟨hk.1.1.2, ⟨hk.1.2, hk.2⟩⟩⟩⟩⟩)), (by repeat (first | (with_reducible first | exact HB.out | apply below_alloc | apply pw_below_drewN | apply below_drew1) | exact HB.out))⟩)
                      skip
                      rintro v388 w33 ⟨h0_, h1_, h2_, h3_, h4_, h5_, h6_, h7_⟩
                      have n0_ : Aside0 (Kd.R (Kd.int .u8) 5 w33 w.heap.size (fun k_ => some k_ ≠ ob v369 ∧ some k_ ≠ ob (.slice Ao15 t371.length co15) ∧ some k_ ≠ ob v376 ∧ some k_ ≠ ob v380 ∧ some k_ ≠ ob (.slice Ao30 t382.length co30) ∧ some k_ ≠ ob v388) (.slice Ao12 t365.length co12) t365) := ⟨h0_⟩
                      have n1_ : Aside0 (Kd.R (Kd.int .u8) 5 w33 w.heap.size (fun k_ => some k_ ≠ ob (.slice Ao12 t365.length co12) ∧ some k_ ≠ ob (.slice Ao15 t371.length co15) ∧ some k_ ≠ ob v376 ∧ some k_ ≠ ob v380 ∧ some k_ ≠ ob (.slice Ao30 t382.length co30) ∧ some k_ ≠ ob v388) v369 t368) := ⟨h1_⟩
                      have n2_ : Aside0 (Kd.R (Kd.int .u8) 5 w33 w.heap.size (fun k_ => some k_ ≠ ob (.slice Ao12 t365.length co12) ∧ some k_ ≠ ob v369 ∧ some k_ ≠ ob v376 ∧ some k_ ≠ ob v380 ∧ some k_ ≠ ob (.slice Ao30 t382.length co30) ∧ some k_ ≠ ob v388) (.slice Ao15 t371.length co15) t371) := ⟨h2_⟩
                      have n3_ : Aside0 (Kd.R (Kd.int .u8) 5 w33 w.heap.size (fun k_ => some k_ ≠ ob (.slice Ao12 t365.length co12) ∧ some k_ ≠ ob v369 ∧ some k_ ≠ ob (.slice Ao15 t371.length co15) ∧ some k_ ≠ ob v380 ∧ some k_ ≠ ob (.slice Ao30 t382.length co30) ∧ some k_ ≠ ob v388) v376 t374) := ⟨h3_⟩
                      have n4_ : Aside0 (Kd.R (Kd.int .u8) 5 w33 w.heap.size (fun k_ => some k_ ≠ ob (.slice Ao12 t365.length co12) ∧ some k_ ≠ ob v369 ∧ some k_ ≠ ob (.slice Ao15 t371.length co15) ∧ some k_ ≠ ob v376 ∧ some k_ ≠ ob (.slice Ao30 t382.length co30) ∧ some k_ ≠ ob v388) v380 t378) := ⟨h4_⟩
                      have n5_ : Aside0 (Kd.R (Kd.int .u8) 5 w33 w.heap.size (fun k_ => some k_ ≠ ob (.slice Ao12 t365.length co12) ∧ some k_ ≠ ob v369 ∧ some k_ ≠ ob (.slice Ao15 t371.length co15) ∧ some k_ ≠ ob v376 ∧ some k_ ≠ ob v380 ∧ some k_ ≠ ob v388) (.slice Ao30 t382.length co30) t382) := ⟨h5_⟩
                      have n6_ : Aside0 (Kd.R (Kd.int .u8) 5 w33 w.heap.size (fun k_ => some k_ ≠ ob (.slice Ao12 t365.length co12) ∧ some k_ ≠ ob v369 ∧ some k_ ≠ ob (.slice Ao15 t371.length co15) ∧ some k_ ≠ ob v376 ∧ some k_ ≠ ob v380 ∧ some k_ ≠ ob (.slice Ao30 t382.length co30)) v388 t387) := ⟨h6_⟩
                      have n7_ : Aside0 (Below w.heap.size w w33) := ⟨h7_⟩
                      clear HO367
                      clear HO370
                      clear HO373
                      clear HO377
                      clear HO381
                      clear HO386
                      clear HB
                      clear h0_ h1_ h2_ h3_ h4_ h5_ h6_ h7_
                      have HO367 := n0_
                      have HO370 := n1_
                      have HO373 := n2_
                      have HO377 := n3_
                      have HO381 := n4_
                      have HO386 := n5_
                      have HO389 := n6_
                      have HB := n7_
                      clear n0_ n1_ n2_ n3_ n4_ n5_ n6_ n7_
                      have hHeld := trivial
                      refine norm_ (a' := ?_) ?_ ?_
                      rotate_left
                      · simp only [putAll, Act.put, s1, s2, s3]
                        rfl
                      refine two_ (i := 1) (j := 4) (Ni := some 40) (Nj := some 43) #[T,T,T,T,F,F,F,F,F,F,F,F,F,F,F,F,F,F,F,F,F,F,F,F,F,F,F,F,F] #[T,F,T,T,T,F,F,F,F,F,F,F,F,F,F,F,F,F,F,F,F,F,F,F,F,F,F,F,F] rfl rfl rfl rfl (two_of HT_.out (by kernel_rfl)) (by decide) (by decide) (fun K hK => ?_) (fun K hK => ?_)
                      · skip
                        have hcv34 := own_string (P := Try.prog) Try.underlying22 Try.underlying5 Try.underlying9 (Kd.own_of_R HO370.out)
                        refine value_ (w1 := ?_) (v := ?_) (by first | rfl | (simp only [c20b1, c21b0, c27b1]; rfl)) rfl ?_ ?_
                        rotate_left 2
                        · go_simp
                          constructor
                          · rfl
                          rfl
                        clear hcv34
                        refine hK.out _ _ trivial (fun hHeld => ?_)
                        clear hK K
                        refine norm_ (a' := ?_) ?_ ?_
                        rotate_left
                        · show Act.put _ (some 40) _ = _
                          simp only [Act.put, s1, s2, s3, i64_w, i32_w]
                          rfl
                        exact norm_ (by first | (simp only [putAll, Act.put, s1, s2, s3]; done) | (simp only [putAll, Act.put, s1, s2, s3]; rfl) | (simp only [putAll, Act.put, s1, s2, s3, c20b1, c21b0, c27b1]; try rfl)) (hJ1_3 (v388) _ ⟨(by (with_reducible repeat (first | apply a1 | apply a2 | apply a3)); exact HO367.out), (by (with_reducible repeat (first | apply a1 | apply a2 | apply a3)); exact HO370.out), (by (with_reducible repeat (first | apply a1 | apply a2 | apply a3)); exact HO373.out), (by (with_reducible repeat (first | apply a1 | apply a2 | apply a3)); exact HO377.out), (by (with_reducible repeat (first | apply a1 | apply a2 | apply a3)); exact HO381.out), (by (with_reducible repeat (first | apply a1 | apply a2 | apply a3)); exact HO386.out), (by (with_reducible repeat (first | apply a1 | apply a2 | apply a3)); exact HO389.out), (by repeat (first | (with_reducible first | exact HB.out | apply below_alloc | apply pw_below_drewN | apply below_drew1) | exact HB.out))⟩)
                      skip
                      have hcv34 := own_string (P := Try.prog) Try.underlying22 Try.underlying5 Try.underlying9 (Kd.own_of_R HO389.out)
                      refine value_ (w1 := ?_) (v := ?_) (by first | rfl | (simp only [c20b1, c21b0, c27b1]; rfl)) rfl ?_ ?_
                      rotate_left 2
                      · go_simp
                        constructor
                        · rfl
                        rfl
                      clear hcv34
                      refine hK.out _ _ trivial (fun hHeld => ?_)
                      clear hK K
                      refine norm_ (a' := ?_) ?_ ?_
                      rotate_left
                      · show Act.put _ (some 43) _ = _
                        simp only [Act.put, s1, s2, s3, i64_w, i32_w]
                        rfl
                      exact norm_ (by first | (simp only [putAll, Act.put, s1, s2, s3]; done) | (simp only [putAll, Act.put, s1, s2, s3]; rfl) | (simp only [putAll, Act.put, s1, s2, s3, c20b1, c21b0, c27b1]; try rfl)) (hJ3_4 (v388) _ ⟨(by (with_reducible repeat (first | apply a1 | apply a2 | apply a3)); exact HO367.out), (by (with_reducible repeat (first | apply a1 | apply a2 | apply a3)); exact HO370.out), (by (with_reducible repeat (first | apply a1 | apply a2 | apply a3)); exact HO373.out), (by (with_reducible repeat (first | apply a1 | apply a2 | apply a3)); exact HO377.out), (by (with_reducible repeat (first | apply a1 | apply a2 | apply a3)); exact HO381.out), (by (with_reducible repeat (first | apply a1 | apply a2 | apply a3)); exact HO386.out), (by (with_reducible repeat (first | apply a1 | apply a2 | apply a3)); exact HO389.out), (by repeat (first | (with_reducible first | exact HB.out | apply below_alloc | apply pw_below_drewN | apply below_drew1) | exact HB.out))⟩)
                    skip
                    rintro _ w33 ⟨h0_, h1_, h2_, h3_, h4_, h5_, h6_⟩
                    have n0_ : Aside0 (Kd.R (Kd.int .u8) 5 w33 w.heap.size (fun k_ => some k_ ≠ ob v369 ∧ some k_ ≠ ob (.slice Ao15 t371.length co15) ∧ some k_ ≠ ob v376 ∧ some k_ ≠ ob v380 ∧ some k_ ≠ ob (.slice Ao30 t382.length co30)) (.slice Ao12 t365.length co12) t365) := ⟨h0_⟩
                    have n1_ : Aside0 (Kd.R (Kd.int .u8) 5 w33 w.heap.size (fun k_ => some k_ ≠ ob (.slice Ao12 t365.length co12) ∧ some k_ ≠ ob (.slice Ao15 t371.length co15) ∧ some k_ ≠ ob v376 ∧ some k_ ≠ ob v380 ∧ some k_ ≠ ob (.slice Ao30 t382.length co30)) v369 t368) := ⟨h1_⟩
                    have n2_ : Aside0 (Kd.R (Kd.int .u8) 5 w33 w.heap.size (fun k_ => some k_ ≠ ob (.slice Ao12 t365.length co12) ∧ some k_ ≠ ob v369 ∧ some k_ ≠ ob v376 ∧ some k_ ≠ ob v380 ∧ some k_ ≠ ob (.slice Ao30 t382.length co30)) (.slice Ao15 t371.length co15) t371) := ⟨h2_⟩
                    have n3_ : Aside0 (Kd.R (Kd.int .u8) 5 w33 w.heap.size (fun k_ => some k_ ≠ ob (.slice Ao12 t365.length co12) ∧ some k_ ≠ ob v369 ∧ some k_ ≠ ob (.slice Ao15 t371.length co15) ∧ some k_ ≠ ob v380 ∧ some k_ ≠ ob (.slice Ao30 t382.length co30)) v376 t374) := ⟨h3_⟩
                    have n4_ : Aside0 (Kd.R (Kd.int .u8) 5 w33 w.heap.size (fun k_ => some k_ ≠ ob (.slice Ao12 t365.length co12) ∧ some k_ ≠ ob v369 ∧ some k_ ≠ ob (.slice Ao15 t371.length co15) ∧ some k_ ≠ ob v376 ∧ some k_ ≠ ob (.slice Ao30 t382.length co30)) v380 t378) := ⟨h4_⟩
                    have n5_ : Aside0 (Kd.R (Kd.int .u8) 5 w33 w.heap.size (fun k_ => some k_ ≠ ob (.slice Ao12 t365.length co12) ∧ some k_ ≠ ob v369 ∧ some k_ ≠ ob (.slice Ao15 t371.length co15) ∧ some k_ ≠ ob v376 ∧ some k_ ≠ ob v380) (.slice Ao30 t382.length co30) t382) := ⟨h5_⟩
                    have n6_ : Aside0 (Below w.heap.size w w33) := ⟨h6_⟩
                    clear HO367
                    clear HO370
                    clear HO373
                    clear HO377
                    clear HO381
                    clear HO386
                    clear HB
                    clear h0_ h1_ h2_ h3_ h4_ h5_ h6_
                    have HO367 := n0_
                    have HO370 := n1_
                    have HO373 := n2_
                    have HO377 := n3_
                    have HO381 := n4_
                    have HO386 := n5_
                    have HB := n6_
                    clear n0_ n1_ n2_ n3_ n4_ n5_ n6_
                    have hHeld := trivial
                    refine norm_ (a' := ?_) ?_ ?_
                    rotate_left
                    · simp only [putAll, Act.put, s1, s2, s3]
                      rfl
                    refine one_ (i := 3) (N := some 42) #[T,T,T,T,F,F,F,F,F,F,F,F,F,F,F,F,F,F,F,F,F,F,F,F,F,F,F,F,F] rfl rfl (one_of HT_.out (by kernel_rfl)) (by decide) (fun K hK => ?_)
                    refine goes_ Try.func45 (by kernel_rfl) rfl #[.slice Ao12 t365.length co12] (by rfl) rfl rfl (by (try simp only [List.map_toArray, List.map_cons, List.map_nil]); first | done | rfl | (simp only [List.length_drop, List.length_take]; rfl)) ?_
                    with_reducible refine (spec_Squeeze.calls k _ _ t365 t387 _ ?side1 ?side2 A19.out).mono ?_
                    (case side1 => repeat (first | exact (Kd.R_reads' HO367.out).2.2 | (with_reducible refine Kd.C_alloc ?_ _) | (with_reducible refine Kd.C_drewN ?_ _) | (with_reducible refine Kd.C_drew ?_)))
                    (case side2 => exact (Kd.R_reads' HO367.out).2.1)
                    rintro e w34 ⟨v388, rfl, ho0, hb⟩
                    refine ⟨_, rfl, ?_⟩
                    have n0_ := Aside0.mk (Kd.R_elder' (by (with_reducible repeat (first | apply a1 | apply a2 | apply a3)); exact HO367.out) (Kd.R_base ho0) hb)
                    have n1_ := Aside0.mk (Kd.R_elder' (by (with_reducible repeat (first | apply a1 | apply a2 | apply a3)); exact HO370.out) (Kd.R_base ho0) hb)
                    have n2_ := Aside0.mk (Kd.R_elder' (by (with_reducible repeat (first | apply a1 | apply a2 | apply a3)); exact HO373.out) (Kd.R_base ho0) hb)
                    have n3_ := Aside0.mk (Kd.R_elder' (by (with_reducible repeat (first | apply a1 | apply a2 | apply a3)); exact HO377.out) (Kd.R_base ho0) hb)
                    have n4_ := Aside0.mk (Kd.R_elder' (by (with_reducible repeat (first | apply a1 | apply a2 | apply a3)); exact HO381.out) (Kd.R_base ho0) hb)
                    have n5_ := Aside0.mk (Kd.R_elder' (by (with_reducible repeat (first | apply a1 | apply a2 | apply a3)); exact HO386.out) (Kd.R_base ho0) hb)
                    have n6_ := Aside0.mk (Kd.R_lower (Kd.R_new' (Kd.R_new' (Kd.R_new' (Kd.R_new' (Kd.R_new' (Kd.R_new' ho0 (Kd.R_lt (by (with_reducible repeat (first | apply a1 | apply a2 | apply a3)); exact HO367.out))) (Kd.R_lt (by (with_reducible repeat (first | apply a1 | apply a2 | apply a3)); exact HO370.out))) (Kd.R_lt (by (with_reducible repeat (first | apply a1 | apply a2 | apply a3)); exact HO373.out))) (Kd.R_lt (by (with_reducible repeat (first | apply a1 | apply a2 | apply a3)); exact HO377.out))) (Kd.R_lt (by (with_reducible repeat (first | apply a1 | apply a2 | apply a3)); exact HO381.out))) (Kd.R_lt (by (with_reducible repeat (first | apply a1 | apply a2 | apply a3)); exact HO386.out))) (below_size (by repeat (first | (with_reducible first | exact HB.out | apply below_alloc | apply pw_below_drewN | apply below_drew1) | exact HB.out))))
                    have n7_ := Aside0.mk (below_step (by repeat (first | (with_reducible first | exact HB.out | apply below_alloc | apply pw_below_drewN | apply below_drew1) | exact HB.out)) hb)
                    clear HO367
                    clear HO370
                    clear HO373
                    clear HO377
                    clear HO381
                    clear HO386
                    clear HB
                    have HO367 := n0_
                    have HO370 := n1_
                    have HO373 := n2_
                    have HO377 := n3_
                    have HO381 := n4_
                    have HO386 := n5_
                    have HO389 := n6_
                    have HB := n7_
                    clear n0_ n1_ n2_ n3_ n4_ n5_ n6_ n7_
                    (try clear hb)
                    (try clear hb2)
                    (try clear hk)
                    (try clear hi)
                    (try clear ho0)
                    refine hK.out _ _ trivial (fun hHeld => ?_)
                    clear hK K
                    refine norm_ (a' := ?_) ?_ ?_
                    rotate_left
                    · show Act.put _ (some 42) _ = _
                      simp only [Act.put, s1, s2, s3, i64_w, i32_w]
                      rfl
                    exact norm_ (by first | (simp only [putAll, Act.put, s1, s2, s3]; done) | (simp only [putAll, Act.put, s1, s2, s3]; rfl) | (simp only [putAll, Act.put, s1, s2, s3, c20b1, c21b0, c27b1]; try rfl)) (hJ1_3 (v388) _ ⟨(by (with_reducible repeat (first | apply a1 | apply a2 | apply a3)); exact Kd.R_mono HO367.out (fun _ hk => ⟨hk.1.1, ⟨hk.1.2.1, ⟨hk.1.2.2.1, ⟨hk.1.2.2.2.1, ⟨hk.1.2.2.2.2, hk.2⟩⟩⟩⟩⟩)), (by (with_reducible repeat (first | apply a1 | apply a2 | apply a3)); exact Kd.R_mono HO370.out (fun _ hk => ⟨hk.1.1, ⟨hk.1.2.1, ⟨hk.1.2.2.1, ⟨hk.1.2.2.2.1, ⟨hk.1.2.2.2.2, hk.2⟩⟩⟩⟩⟩)), (by (with_reducible repeat (first | apply a1 | apply a2 | apply a3)); exact Kd.R_mono HO373.out (fun _ hk => ⟨hk.1.1, ⟨hk.1.2.1, ⟨hk.1.2.2.1, ⟨hk.1.2.2.2.1, ⟨hk.1.2.2.2.2, hk.2⟩⟩⟩⟩⟩)), (by (with_reducible repeat (first | apply a1 | apply a2 | apply a3)); exact Kd.R_mono HO377.out (fun _ hk => ⟨hk.1.1, ⟨hk.1.2.1, ⟨hk.1.2.2.1, ⟨hk.1.2.2.2.1, ⟨hk.1.2.2.2.2, hk.2⟩⟩⟩⟩⟩)), (by (with_reducible repeat (first | apply a1 | apply a2 | apply a3)); exact Kd.R_mono HO381.out (fun _ hk => ⟨hk.1.1, ⟨hk.1.2.1, ⟨hk.1.2.2.1, ⟨hk.1.2.2.2.1, ⟨hk.1.2.2.2.2, hk.2⟩⟩⟩⟩⟩)), (by (with_reducible repeat (first | apply a1 | apply a2 | apply a3)); exact Kd.R_mono HO386.out (fun _ hk => ⟨hk.1.1, ⟨hk.1.2.1, ⟨hk.1.2.2.1, ⟨hk.1.2.2.2.1, ⟨hk.1.2.2.2.2, hk.2⟩⟩⟩⟩⟩)), (by (with_reducible repeat (first | apply a1 | apply a2 | apply a3)); exact Kd.R_mono HO389.out (fun _ hk => ⟨hk.1.1.1.1.1.2, ⟨hk.1.1.1.1.2, ⟨hk.1.1.1.2, ⟨hk.1.1.2, ⟨hk.1.2, hk.2⟩⟩⟩⟩⟩)), (by repeat (first | (with_reducible first | exact HB.out | apply below_alloc | apply pw_below_drewN | apply below_drew1) | exact HB.out))⟩)
                  skip
                  rintro v388 w34 ⟨h0_, h1_, h2_, h3_, h4_, h5_, h6_, h7_⟩
                  have n0_ : Aside0 (Kd.R (Kd.int .u8) 5 w34 w.heap.size (fun k_ => some k_ ≠ ob v369 ∧ some k_ ≠ ob (.slice Ao15 t371.length co15) ∧ some k_ ≠ ob v376 ∧ some k_ ≠ ob v380 ∧ some k_ ≠ ob (.slice Ao30 t382.length co30) ∧ some k_ ≠ ob v388) (.slice Ao12 t365.length co12) t365) := ⟨h0_⟩
                  have n1_ : Aside0 (Kd.R (Kd.int .u8) 5 w34 w.heap.size (fun k_ => some k_ ≠ ob (.slice Ao12 t365.length co12) ∧ some k_ ≠ ob (.slice Ao15 t371.length co15) ∧ some k_ ≠ ob v376 ∧ some k_ ≠ ob v380 ∧ some k_ ≠ ob (.slice Ao30 t382.length co30) ∧ some k_ ≠ ob v388) v369 t368) := ⟨h1_⟩
                  have n2_ : Aside0 (Kd.R (Kd.int .u8) 5 w34 w.heap.size (fun k_ => some k_ ≠ ob (.slice Ao12 t365.length co12) ∧ some k_ ≠ ob v369 ∧ some k_ ≠ ob v376 ∧ some k_ ≠ ob v380 ∧ some k_ ≠ ob (.slice Ao30 t382.length co30) ∧ some k_ ≠ ob v388) (.slice Ao15 t371.length co15) t371) := ⟨h2_⟩
                  have n3_ : Aside0 (Kd.R (Kd.int .u8) 5 w34 w.heap.size (fun k_ => some k_ ≠ ob (.slice Ao12 t365.length co12) ∧ some k_ ≠ ob v369 ∧ some k_ ≠ ob (.slice Ao15 t371.length co15) ∧ some k_ ≠ ob v380 ∧ some k_ ≠ ob (.slice Ao30 t382.length co30) ∧ some k_ ≠ ob v388) v376 t374) := ⟨h3_⟩
                  have n4_ : Aside0 (Kd.R (Kd.int .u8) 5 w34 w.heap.size (fun k_ => some k_ ≠ ob (.slice Ao12 t365.length co12) ∧ some k_ ≠ ob v369 ∧ some k_ ≠ ob (.slice Ao15 t371.length co15) ∧ some k_ ≠ ob v376 ∧ some k_ ≠ ob (.slice Ao30 t382.length co30) ∧ some k_ ≠ ob v388) v380 t378) := ⟨h4_⟩
                  have n5_ : Aside0 (Kd.R (Kd.int .u8) 5 w34 w.heap.size (fun k_ => some k_ ≠ ob (.slice Ao12 t365.length co12) ∧ some k_ ≠ ob v369 ∧ some k_ ≠ ob (.slice Ao15 t371.length co15) ∧ some k_ ≠ ob v376 ∧ some k_ ≠ ob v380 ∧ some k_ ≠ ob v388) (.slice Ao30 t382.length co30) t382) := ⟨h5_⟩
                  have n6_ : Aside0 (Kd.R (Kd.int .u8) 5 w34 w.heap.size (fun k_ => some k_ ≠ ob (.slice Ao12 t365.length co12) ∧ some k_ ≠ ob v369 ∧ some k_ ≠ ob (.slice Ao15 t371.length co15) ∧ some k_ ≠ ob v376 ∧ some k_ ≠ ob v380 ∧ some k_ ≠ ob (.slice Ao30 t382.length co30)) v388 t387) := ⟨h6_⟩
                  have n7_ : Aside0 (Below w.heap.size w w34) := ⟨h7_⟩
                  clear HO367
                  clear HO370
                  clear HO373
                  clear HO377
                  clear HO381
                  clear HO386
                  clear HB
                  clear h0_ h1_ h2_ h3_ h4_ h5_ h6_ h7_
                  have HO367 := n0_
                  have HO370 := n1_
                  have HO373 := n2_
                  have HO377 := n3_
                  have HO381 := n4_
                  have HO386 := n5_
                  have HO389 := n6_
                  have HB := n7_
                  clear n0_ n1_ n2_ n3_ n4_ n5_ n6_ n7_
                  have hHeld := trivial
                  refine norm_ (a' := ?_) ?_ ?_
                  rotate_left
                  · simp only [putAll, Act.put, s1, s2, s3]
                    rfl
                  refine one_ (i := 1) (N := some 40) #[T,T,T,T,T,F,F,F,F,F,F,F,F,F,F,F,F,F,F,F,F,F,F,F,F,F,F,F,F] rfl rfl (one_of HT_.out (by kernel_rfl)) (by decide) (fun K hK => ?_)
                  have hcv35 := own_string (P := Try.prog) Try.underlying22 Try.underlying5 Try.underlying9 (Kd.own_of_R HO370.out)
                  refine value_ (w1 := ?_) (v := ?_) (by first | rfl | (simp only [c20b1, c21b0, c27b1]; rfl)) rfl ?_ ?_
                  rotate_left 2
                  · go_simp
                    constructor
                    · rfl
                    rfl
                  clear hcv35
                  refine hK.out _ _ trivial (fun hHeld => ?_)
                  clear hK K
                  refine norm_ (a' := ?_) ?_ ?_
                  rotate_left
                  · show Act.put _ (some 40) _ = _
                    simp only [Act.put, s1, s2, s3, i64_w, i32_w]
                    rfl
                  refine pure_ (i := 5) (N := some 44) (v := ?_) (a' := ?_) #[T,T,T,T,T,T,F,F,F,F,F,F,F,F,F,F,F,F,F,F,F,F,F,F,F,F,F,F,F] rfl rfl (any_of HT_.out (by kernel_rfl)) (fun _ _ _ h => h) (Or.inl ⟨by first | rfl | (simp only [c20b1, c21b0, c27b1]; rfl), ?_⟩) ?_ ?_
                  rotate_left
                  · intro w'
                    go_simp
                    with_reducible rfl
                  rotate_left
                  · simp only [Act.put, s1, s2, s3, i64_w, i32_w]
                    rfl
                  refine pure_ (i := 6) (N := some 45) (v := ?_) (a' := ?_) #[T,T,T,T,T,T,T,F,F,F,F,F,F,F,F,F,F,F,F,F,F,F,F,F,F,F,F,F,F] rfl rfl (any_of HT_.out (by kernel_rfl)) (fun _ _ _ h => h) (Or.inl ⟨by first | rfl | (simp only [c20b1, c21b0, c27b1]; rfl), ?_⟩) ?_ ?_
                  rotate_left
                  · intro w'
                    go_simp
                    with_reducible rfl
                  rotate_left
                  · simp only [Act.put, s1, s2, s3, i64_w, i32_w]
                    rfl
                  refine pure_ (i := 7) (N := some 46) (v := ?_) (a' := ?_) #[T,T,T,T,T,T,T,T,F,F,F,F,F,F,F,F,F,F,F,F,F,F,F,F,F,F,F,F,F] rfl rfl (any_of HT_.out (by kernel_rfl)) (fun _ _ _ h => h) (Or.inl ⟨by first | rfl | (simp only [c20b1, c21b0, c27b1]; rfl), ?_⟩) ?_ ?_
                  rotate_left
                  · intro w'
                    go_simp
                    with_reducible rfl
                  rotate_left
                  · simp only [Act.put, s1, s2, s3, i64_w, i32_w]
                    rfl
                  refine pure_ (i := 8) (N := some 47) (v := ?_) (a' := ?_) #[T,T,T,T,T,T,T,T,T,F,F,F,F,F,F,F,F,F,F,F,F,F,F,F,F,F,F,F,F] rfl rfl (any_of HT_.out (by kernel_rfl)) (fun _ _ _ h => h) (Or.inl ⟨by first | rfl | (simp only [c20b1, c21b0, c27b1]; rfl), ?_⟩) ?_ ?_
                  rotate_left
                  · intro w'
                    go_simp
                    with_reducible rfl
                  rotate_left
                  · simp only [Act.put, s1, s2, s3, i64_w, i32_w]
                    rfl
                  refine pure_ (i := 9) (N := some 48) (v := ?_) (a' := ?_) #[T,T,T,T,T,T,T,T,T,T,F,F,F,F,F,F,F,F,F,F,F,F,F,F,F,F,F,F,F] rfl rfl (any_of HT_.out (by kernel_rfl)) (fun _ _ _ h => h) (Or.inl ⟨by first | rfl | (simp only [c20b1, c21b0, c27b1]; rfl), ?_⟩) ?_ ?_
                  rotate_left
                  · intro w'
                    go_simp
                    with_reducible rfl
                  rotate_left
                  · simp only [Act.put, s1, s2, s3, i64_w, i32_w]
                    rfl
                  refine pure_ (i := 10) (N := some 49) (v := ?_) (a' := ?_) #[T,T,T,T,T,T,T,T,T,T,T,F,F,F,F,F,F,F,F,F,F,F,F,F,F,F,F,F,F] rfl rfl (any_of HT_.out (by kernel_rfl)) (fun _ _ _ h => h) (Or.inl ⟨by first | rfl | (simp only [c20b1, c21b0, c27b1]; rfl), ?_⟩) ?_ ?_
                  rotate_left
                  · intro w'
                    go_simp
                    with_reducible rfl
                  rotate_left
                  · simp only [Act.put, s1, s2, s3, i64_w, i32_w]
                    rfl
                  refine pure_ (i := 11) (N := some 50) (v := ?_) (a' := ?_) #[T,T,T,T,T,T,T,T,T,T,T,T,F,F,F,F,F,F,F,F,F,F,F,F,F,F,F,F,F] rfl rfl (any_of HT_.out (by kernel_rfl)) (fun _ _ _ h => h) (Or.inl ⟨by first | rfl | (simp only [c20b1, c21b0, c27b1]; rfl), ?_⟩) ?_ ?_
                  rotate_left
                  · intro w'
                    go_simp
                    with_reducible rfl
                  rotate_left
                  · simp only [Act.put, s1, s2, s3, i64_w, i32_w]
                    rfl
                  refine pure_ (i := 12) (N := some 51) (v := ?_) (a' := ?_) #[T,T,T,T,T,T,T,T,T,T,T,T,T,F,F,F,F,F,F,F,F,F,F,F,F,F,F,F,F] rfl rfl (any_of HT_.out (by kernel_rfl)) (fun _ _ _ h => h) (Or.inl ⟨by first | rfl | (simp only [c20b1, c21b0, c27b1]; rfl), ?_⟩) ?_ ?_
                  rotate_left
                  · intro w'
                    go_simp
                    with_reducible rfl
                  rotate_left
                  · simp only [Act.put, s1, s2, s3, i64_w, i32_w]
                    rfl
                  refine pure_ (i := 14) (N := some 53) (v := ?_) (a' := ?_) #[T,T,T,T,T,T,T,T,T,T,T,T,T,F,T,F,F,F,F,F,F,F,F,F,F,F,F,F,F] rfl rfl (any_of HT_.out (by kernel_rfl)) (fun _ _ _ h => h) (Or.inl ⟨by first | rfl | (simp only [c20b1, c21b0, c27b1]; rfl), ?_⟩) ?_ ?_
                  rotate_left
                  · intro w'
                    go_simp
                    with_reducible rfl
                  rotate_left
                  · simp only [Act.put, s1, s2, s3, i64_w, i32_w]
                    rfl
                  exact norm_ (by first | (simp only [putAll, Act.put, s1, s2, s3]; done) | (simp only [putAll, Act.put, s1, s2, s3]; rfl) | (simp only [putAll, Act.put, s1, s2, s3, c20b1, c21b0, c27b1]; try rfl)) (hJ1_3_4 (v388) _ ⟨(by (with_reducible repeat (first | apply a1 | apply a2 | apply a3)); exact HO367.out), (by (with_reducible repeat (first | apply a1 | apply a2 | apply a3)); exact HO370.out), (by (with_reducible repeat (first | apply a1 | apply a2 | apply a3)); exact HO373.out), (by (with_reducible repeat (first | apply a1 | apply a2 | apply a3)); exact HO377.out), (by (with_reducible repeat (first | apply a1 | apply a2 | apply a3)); exact HO381.out), (by (with_reducible repeat (first | apply a1 | apply a2 | apply a3)); exact HO386.out), (by (with_reducible repeat (first | apply a1 | apply a2 | apply a3)); exact HO389.out), (by repeat (first | (with_reducible first | exact HB.out | apply below_alloc | apply pw_below_drewN | apply below_drew1) | exact HB.out))⟩)
                skip
                rintro v388 w34 ⟨h0_, h1_, h2_, h3_, h4_, h5_, h6_, h7_⟩
                have n0_ : Aside0 (Kd.R (Kd.int .u8) 5 w34 w.heap.size (fun k_ => some k_ ≠ ob v369 ∧ some k_ ≠ ob (.slice Ao15 t371.length co15) ∧ some k_ ≠ ob v376 ∧ some k_ ≠ ob v380 ∧ some k_ ≠ ob (.slice Ao30 t382.length co30) ∧ some k_ ≠ ob v388) (.slice Ao12 t365.length co12) t365) := ⟨h0_⟩
                have n1_ : Aside0 (Kd.R (Kd.int .u8) 5 w34 w.heap.size (fun k_ => some k_ ≠ ob (.slice Ao12 t365.length co12) ∧ some k_ ≠ ob (.slice Ao15 t371.length co15) ∧ some k_ ≠ ob v376 ∧ some k_ ≠ ob v380 ∧ some k_ ≠ ob (.slice Ao30 t382.length co30) ∧ some k_ ≠ ob v388) v369 t368) := ⟨h1_⟩
                have n2_ : Aside0 (Kd.R (Kd.int .u8) 5 w34 w.heap.size (fun k_ => some k_ ≠ ob (.slice Ao12 t365.length co12) ∧ some k_ ≠ ob v369 ∧ some k_ ≠ ob v376 ∧ some k_ ≠ ob v380 ∧ some k_ ≠ ob (.slice Ao30 t382.length co30) ∧ some k_ ≠ ob v388) (.slice Ao15 t371.length co15) t371) := ⟨h2_⟩
                have n3_ : Aside0 (Kd.R (Kd.int .u8) 5 w34 w.heap.size (fun k_ => some k_ ≠ ob (.slice Ao12 t365.length co12) ∧ some k_ ≠ ob v369 ∧ some k_ ≠ ob (.slice Ao15 t371.length co15) ∧ some k_ ≠ ob v380 ∧ some k_ ≠ ob (.slice Ao30 t382.length co30) ∧ some k_ ≠ ob v388) v376 t374) := ⟨h3_⟩
                have n4_ : Aside0 (Kd.R (Kd.int .u8) 5 w34 w.heap.size (fun k_ => some k_ ≠ ob (.slice Ao12 t365.length co12) ∧ some k_ ≠ ob v369 ∧ some k_ ≠ ob (.slice Ao15 t371.length co15) ∧ some k_ ≠ ob v376 ∧ some k_ ≠ ob (.slice Ao30 t382.length co30) ∧ some k_ ≠ ob v388) v380 t378) := ⟨h4_⟩
                have n5_ : Aside0 (Kd.R (Kd.int .u8) 5 w34 w.heap.size (fun k_ => some k_ ≠ ob (.slice Ao12 t365.length co12) ∧ some k_ ≠ ob v369 ∧ some k_ ≠ ob (.slice Ao15 t371.length co15) ∧ some k_ ≠ ob v376 ∧ some k_ ≠ ob v380 ∧ some k_ ≠ ob v388) (.slice Ao30 t382.length co30) t382) := ⟨h5_⟩
                have n6_ : Aside0 (Kd.R (Kd.int .u8) 5 w34 w.heap.size (fun k_ => some k_ ≠ ob (.slice Ao12 t365.length co12) ∧ some k_ ≠ ob v369 ∧ some k_ ≠ ob (.slice Ao15 t371.length co15) ∧ some k_ ≠ ob v376 ∧ some k_ ≠ ob v380 ∧ some k_ ≠ ob (.slice Ao30 t382.length co30)) v388 t387) := ⟨h6_⟩
                have n7_ : Aside0 (Below w.heap.size w w34) := ⟨h7_⟩
                clear HO367
                clear HO370
                clear HO373
                clear HO377
                clear HO381
                clear HO386
                clear HB
                clear h0_ h1_ h2_ h3_ h4_ h5_ h6_ h7_
                have HO367 := n0_
                have HO370 := n1_
                have HO373 := n2_
                have HO377 := n3_
                have HO381 := n4_
                have HO386 := n5_
                have HO389 := n6_
                have HB := n7_
                clear n0_ n1_ n2_ n3_ n4_ n5_ n6_ n7_
                have hHeld := trivial
                refine norm_ (a' := ?_) ?_ ?_
                rotate_left
                · simp only [putAll, Act.put, s1, s2, s3]
                  rfl
                refine one_ (i := 4) (N := some 43) #[T,T,T,T,T,F,F,F,F,F,F,F,F,F,F,F,F,F,F,F,F,F,F,F,F,F,F,F,F] rfl rfl (one_of HT_.out (by kernel_rfl)) (by decide) (fun K hK => ?_)
                have hcv35 := own_string (P := Try.prog) Try.underlying22 Try.underlying5 Try.underlying9 (Kd.own_of_R HO389.out)
                refine value_ (w1 := ?_) (v := ?_) (by first | rfl | (simp only [c20b1, c21b0, c27b1]; rfl)) rfl ?_ ?_
                rotate_left 2
                · go_simp
                  constructor
                  · rfl
                  rfl
                clear hcv35
                refine hK.out _ _ trivial (fun hHeld => ?_)
                clear hK K
                refine norm_ (a' := ?_) ?_ ?_
                rotate_left
                · show Act.put _ (some 43) _ = _
                  simp only [Act.put, s1, s2, s3, i64_w, i32_w]
                  rfl
                refine pure_ (i := 5) (N := some 44) (v := ?_) (a' := ?_) #[T,T,T,T,T,T,F,F,F,F,F,F,F,F,F,F,F,F,F,F,F,F,F,F,F,F,F,F,F] rfl rfl (any_of HT_.out (by kernel_rfl)) (fun _ _ _ h => h) (Or.inl ⟨by first | rfl | (simp only [c20b1, c21b0, c27b1]; rfl), ?_⟩) ?_ ?_
                rotate_left
                · intro w'
                  go_simp
                  with_reducible rfl
                rotate_left
                · simp only [Act.put, s1, s2, s3, i64_w, i32_w]
                  rfl
                refine pure_ (i := 6) (N := some 45) (v := ?_) (a' := ?_) #[T,T,T,T,T,T,T,F,F,F,F,F,F,F,F,F,F,F,F,F,F,F,F,F,F,F,F,F,F] rfl rfl (any_of HT_.out (by kernel_rfl)) (fun _ _ _ h => h) (Or.inl ⟨by first | rfl | (simp only [c20b1, c21b0, c27b1]; rfl), ?_⟩) ?_ ?_
                rotate_left
                · intro w'
                  go_simp
                  with_reducible rfl
                rotate_left
                · simp only [Act.put, s1, s2, s3, i64_w, i32_w]
                  rfl
                refine pure_ (i := 7) (N := some 46) (v := ?_) (a' := ?_) #[T,T,T,T,T,T,T,T,F,F,F,F,F,F,F,F,F,F,F,F,F,F,F,F,F,F,F,F,F] rfl rfl (any_of HT_.out (by kernel_rfl)) (fun _ _ _ h => h) (Or.inl ⟨by first | rfl | (simp only [c20b1, c21b0, c27b1]; rfl), ?_⟩) ?_ ?_
                rotate_left
                · intro w'
                  go_simp
                  with_reducible rfl
                rotate_left
                · simp only [Act.put, s1, s2, s3, i64_w, i32_w]
                  rfl
                refine pure_ (i := 8) (N := some 47) (v := ?_) (a' := ?_) #[T,T,T,T,T,T,T,T,T,F,F,F,F,F,F,F,F,F,F,F,F,F,F,F,F,F,F,F,F] rfl rfl (any_of HT_.out (by kernel_rfl)) (fun _ _ _ h => h) (Or.inl ⟨by first | rfl | (simp only [c20b1, c21b0, c27b1]; rfl), ?_⟩) ?_ ?_
                rotate_left
                · intro w'
                  go_simp
                  with_reducible rfl
                rotate_left
                · simp only [Act.put, s1, s2, s3, i64_w, i32_w]
                  rfl
                refine pure_ (i := 9) (N := some 48) (v := ?_) (a' := ?_) #[T,T,T,T,T,T,T,T,T,T,F,F,F,F,F,F,F,F,F,F,F,F,F,F,F,F,F,F,F] rfl rfl (any_of HT_.out (by kernel_rfl)) (fun _ _ _ h => h) (Or.inl ⟨by first | rfl | (simp only [c20b1, c21b0, c27b1]; rfl), ?_⟩) ?_ ?_
                rotate_left
                · intro w'
                  go_simp
                  with_reducible rfl
                rotate_left
                · simp only [Act.put, s1, s2, s3, i64_w, i32_w]
                  rfl
                refine pure_ (i := 10) (N := some 49) (v := ?_) (a' := ?_) #[T,T,T,T,T,T,T,T,T,T,T,F,F,F,F,F,F,F,F,F,F,F,F,F,F,F,F,F,F] rfl rfl (any_of HT_.out (by kernel_rfl)) (fun _ _ _ h => h) (Or.inl ⟨by first | rfl | (simp only [c20b1, c21b0, c27b1]; rfl), ?_⟩) ?_ ?_
                rotate_left
                · intro w'
                  go_simp
                  with_reducible rfl
                rotate_left
                · simp only [Act.put, s1, s2, s3, i64_w, i32_w]
                  rfl
                refine pure_ (i := 11) (N := some 50) (v := ?_) (a' := ?_) #[T,T,T,T,T,T,T,T,T,T,T,T,F,F,F,F,F,F,F,F,F,F,F,F,F,F,F,F,F] rfl rfl (any_of HT_.out (by kernel_rfl)) (fun _ _ _ h => h) (Or.inl ⟨by first | rfl | (simp only [c20b1, c21b0, c27b1]; rfl), ?_⟩) ?_ ?_
                rotate_left
                · intro w'
                  go_simp
                  with_reducible rfl
                rotate_left
                · simp only [Act.put, s1, s2, s3, i64_w, i32_w]
                  rfl
                refine pure_ (i := 12) (N := some 51) (v := ?_) (a' := ?_) #[T,T,T,T,T,T,T,T,T,T,T,T,T,F,F,F,F,F,F,F,F,F,F,F,F,F,F,F,F] rfl rfl (any_of HT_.out (by kernel_rfl)) (fun _ _ _ h => h) (Or.inl ⟨by first | rfl | (simp only [c20b1, c21b0, c27b1]; rfl), ?_⟩) ?_ ?_
                rotate_left
                · intro w'
                  go_simp
                  with_reducible rfl
                rotate_left
                · simp only [Act.put, s1, s2, s3, i64_w, i32_w]
                  rfl
                refine pure_ (i := 14) (N := some 53) (v := ?_) (a' := ?_) #[T,T,T,T,T,T,T,T,T,T,T,T,T,F,T,F,F,F,F,F,F,F,F,F,F,F,F,F,F] rfl rfl (any_of HT_.out (by kernel_rfl)) (fun _ _ _ h => h) (Or.inl ⟨by first | rfl | (simp only [c20b1, c21b0, c27b1]; rfl), ?_⟩) ?_ ?_
                rotate_left
                · intro w'
                  go_simp
                  with_reducible rfl
                rotate_left
                · simp only [Act.put, s1, s2, s3, i64_w, i32_w]
                  rfl
                exact norm_ (by first | (simp only [putAll, Act.put, s1, s2, s3]; done) | (simp only [putAll, Act.put, s1, s2, s3]; rfl) | (simp only [putAll, Act.put, s1, s2, s3, c20b1, c21b0, c27b1]; try rfl)) (hJ1_3_4 (v388) _ ⟨(by (with_reducible repeat (first | apply a1 | apply a2 | apply a3)); exact HO367.out), (by (with_reducible repeat (first | apply a1 | apply a2 | apply a3)); exact HO370.out), (by (with_reducible repeat (first | apply a1 | apply a2 | apply a3)); exact HO373.out), (by (with_reducible repeat (first | apply a1 | apply a2 | apply a3)); exact HO377.out), (by (with_reducible repeat (first | apply a1 | apply a2 | apply a3)); exact HO381.out), (by (with_reducible repeat (first | apply a1 | apply a2 | apply a3)); exact HO386.out), (by (with_reducible repeat (first | apply a1 | apply a2 | apply a3)); exact HO389.out), (by repeat (first | (with_reducible first | exact HB.out | apply below_alloc | apply pw_below_drewN | apply below_drew1) | exact HB.out))⟩)
              skip
              rintro v388 w35 ⟨h0_, h1_, h2_, h3_, h4_, h5_, h6_, h7_⟩
              have n0_ : Aside0 (Kd.R (Kd.int .u8) 5 w35 w.heap.size (fun k_ => some k_ ≠ ob v369 ∧ some k_ ≠ ob (.slice Ao15 t371.length co15) ∧ some k_ ≠ ob v376 ∧ some k_ ≠ ob v380 ∧ some k_ ≠ ob (.slice Ao30 t382.length co30) ∧ some k_ ≠ ob v388) (.slice Ao12 t365.length co12) t365) := ⟨h0_⟩
              have n1_ : Aside0 (Kd.R (Kd.int .u8) 5 w35 w.heap.size (fun k_ => some k_ ≠ ob (.slice Ao12 t365.length co12) ∧ some k_ ≠ ob (.slice Ao15 t371.length co15) ∧ some k_ ≠ ob v376 ∧ some k_ ≠ ob v380 ∧ some k_ ≠ ob (.slice Ao30 t382.length co30) ∧ some k_ ≠ ob v388) v369 t368) := ⟨h1_⟩
              have n2_ : Aside0 (Kd.R (Kd.int .u8) 5 w35 w.heap.size (fun k_ => some k_ ≠ ob (.slice Ao12 t365.length co12) ∧ some k_ ≠ ob v369 ∧ some k_ ≠ ob v376 ∧ some k_ ≠ ob v380 ∧ some k_ ≠ ob (.slice Ao30 t382.length co30) ∧ some k_ ≠ ob v388) (.slice Ao15 t371.length co15) t371) := ⟨h2_⟩
              have n3_ : Aside0 (Kd.R (Kd.int .u8) 5 w35 w.heap.size (fun k_ => some k_ ≠ ob (.slice Ao12 t365.length co12) ∧ some k_ ≠ ob v369 ∧ some k_ ≠ ob (.slice Ao15 t371.length co15) ∧ some k_ ≠ ob v380 ∧ some k_ ≠ ob (.slice Ao30 t382.length co30) ∧ some k_ ≠ ob v388) v376 t374) := ⟨h3_⟩
              have n4_ : Aside0 (Kd.R (Kd.int .u8) 5 w35 w.heap.size (fun k_ => some k_ ≠ ob (.slice Ao12 t365.length co12) ∧ some k_ ≠ ob v369 ∧ some k_ ≠ ob (.slice Ao15 t371.length co15) ∧ some k_ ≠ ob v376 ∧ some k_ ≠ ob (.slice Ao30 t382.length co30) ∧ some k_ ≠ ob v388) v380 t378) := ⟨h4_⟩
              have n5_ : Aside0 (Kd.R (Kd.int .u8) 5 w35 w.heap.size (fun k_ => some k_ ≠ ob (.slice Ao12 t365.length co12) ∧ some k_ ≠ ob v369 ∧ some k_ ≠ ob (.slice Ao15 t371.length co15) ∧ some k_ ≠ ob v376 ∧ some k_ ≠ ob v380 ∧ some k_ ≠ ob v388) (.slice Ao30 t382.length co30) t382) := ⟨h5_⟩
              have n6_ : Aside0 (Kd.R (Kd.int .u8) 5 w35 w.heap.size (fun k_ => some k_ ≠ ob (.slice Ao12 t365.length co12) ∧ some k_ ≠ ob v369 ∧ some k_ ≠ ob (.slice Ao15 t371.length co15) ∧ some k_ ≠ ob v376 ∧ some k_ ≠ ob v380 ∧ some k_ ≠ ob (.slice Ao30 t382.length co30)) v388 t387) := ⟨h6_⟩
              have n7_ : Aside0 (Below w.heap.size w w35) := ⟨h7_⟩
              clear HO367
              clear HO370
              clear HO373
              clear HO377
              clear HO381
              clear HO386
              clear HB
              clear h0_ h1_ h2_ h3_ h4_ h5_ h6_ h7_
              have HO367 := n0_
              have HO370 := n1_
              have HO373 := n2_
              have HO377 := n3_
              have HO381 := n4_
              have HO386 := n5_
              have HO389 := n6_
              have HB := n7_
              clear n0_ n1_ n2_ n3_ n4_ n5_ n6_ n7_
              have hHeld := trivial
              refine norm_ (a' := ?_) ?_ ?_
              rotate_left
              · simp only [putAll, Act.put, s1, s2, s3]
                rfl
              refine two_ (i := 13) (j := 15) (Ni := some 52) (Nj := some 54) #[T,T,T,T,T,T,T,T,T,T,T,T,T,T,T,F,F,F,F,F,F,F,F,F,F,F,F,F,F] #[T,T,T,T,T,T,T,T,T,T,T,T,T,F,T,T,F,F,F,F,F,F,F,F,F,F,F,F,F] rfl rfl rfl rfl (two_of HT_.out (by kernel_rfl)) (by decide) (by decide) (fun K hK => ?_) (fun K hK => ?_)
              · skip
                have hcv36 := own_string (P := Try.prog) Try.underlying22 Try.underlying5 Try.underlying9 (Kd.own_of_R HO377.out)
                refine value_ (w1 := ?_) (v := ?_) (by first | rfl | (simp only [c20b1, c21b0, c27b1]; rfl)) rfl ?_ ?_
                rotate_left 2
                · go_simp
                  constructor
                  · rfl
                  rfl
                clear hcv36
                refine hK.out _ _ trivial (fun hHeld => ?_)
                clear hK K
                refine norm_ (a' := ?_) ?_ ?_
                rotate_left
                · show Act.put _ (some 52) _ = _
                  simp only [Act.put, s1, s2, s3, i64_w, i32_w]
                  rfl
                exact norm_ (by first | (simp only [putAll, Act.put, s1, s2, s3]; done) | (simp only [putAll, Act.put, s1, s2, s3]; rfl) | (simp only [putAll, Act.put, s1, s2, s3, c20b1, c21b0, c27b1]; try rfl)) (hJ1_3_4_13 (v388) _ ⟨(by (with_reducible repeat (first | apply a1 | apply a2 | apply a3)); exact HO367.out), (by (with_reducible repeat (first | apply a1 | apply a2 | apply a3)); exact HO370.out), (by (with_reducible repeat (first | apply a1 | apply a2 | apply a3)); exact HO373.out), (by (with_reducible repeat (first | apply a1 | apply a2 | apply a3)); exact HO377.out), (by (with_reducible repeat (first | apply a1 | apply a2 | apply a3)); exact HO381.out), (by (with_reducible repeat (first | apply a1 | apply a2 | apply a3)); exact HO386.out), (by (with_reducible repeat (first | apply a1 | apply a2 | apply a3)); exact HO389.out), (by repeat (first | (with_reducible first | exact HB.out | apply below_alloc | apply pw_below_drewN | apply below_drew1) | exact HB.out))⟩)
              skip
              have hcv36 := own_string (P := Try.prog) Try.underlying22 Try.underlying5 Try.underlying9 (Kd.own_of_R HO381.out)
              refine value_ (w1 := ?_) (v := ?_) (by first | rfl | (simp only [c20b1, c21b0, c27b1]; rfl)) rfl ?_ ?_
              rotate_left 2
              · go_simp
                constructor
                · rfl
                rfl
              clear hcv36
              refine hK.out _ _ trivial (fun hHeld => ?_)
              clear hK K
              refine norm_ (a' := ?_) ?_ ?_
              rotate_left
              · show Act.put _ (some 54) _ = _
                simp only [Act.put, s1, s2, s3, i64_w, i32_w]
                rfl
              exact norm_ (by first | (simp only [putAll, Act.put, s1, s2, s3]; done) | (simp only [putAll, Act.put, s1, s2, s3]; rfl) | (simp only [putAll, Act.put, s1, s2, s3, c20b1, c21b0, c27b1]; try rfl)) (hJ1_3_4_15 (v388) _ ⟨(by (with_reducible repeat (first | apply a1 | apply a2 | apply a3)); exact HO367.out), (by (with_reducible repeat (first | apply a1 | apply a2 | apply a3)); exact HO370.out), (by (with_reducible repeat (first | apply a1 | apply a2 | apply a3)); exact HO373.out), (by (with_reducible repeat (first | apply a1 | apply a2 | apply a3)); exact HO377.out), (by (with_reducible repeat (first | apply a1 | apply a2 | apply a3)); exact HO381.out), (by (with_reducible repeat (first | apply a1 | apply a2 | apply a3)); exact HO386.out), (by (with_reducible repeat (first | apply a1 | apply a2 | apply a3)); exact HO389.out), (by repeat (first | (with_reducible first | exact HB.out | apply below_alloc | apply pw_below_drewN | apply below_drew1) | exact HB.out))⟩)
            skip
            rintro v388 w36 ⟨h0_, h1_, h2_, h3_, h4_, h5_, h6_, h7_⟩
            have n0_ : Aside0 (Kd.R (Kd.int .u8) 5 w36 w.heap.size (fun k_ => some k_ ≠ ob v369 ∧ some k_ ≠ ob (.slice Ao15 t371.length co15) ∧ some k_ ≠ ob v376 ∧ some k_ ≠ ob v380 ∧ some k_ ≠ ob (.slice Ao30 t382.length co30) ∧ some k_ ≠ ob v388) (.slice Ao12 t365.length co12) t365) := ⟨h0_⟩
            have n1_ : Aside0 (Kd.R (Kd.int .u8) 5 w36 w.heap.size (fun k_ => some k_ ≠ ob (.slice Ao12 t365.length co12) ∧ some k_ ≠ ob (.slice Ao15 t371.length co15) ∧ some k_ ≠ ob v376 ∧ some k_ ≠ ob v380 ∧ some k_ ≠ ob (.slice Ao30 t382.length co30) ∧ some k_ ≠ ob v388) v369 t368) := ⟨h1_⟩
            have n2_ : Aside0 (Kd.R (Kd.int .u8) 5 w36 w.heap.size (fun k_ => some k_ ≠ ob (.slice Ao12 t365.length co12) ∧ some k_ ≠ ob v369 ∧ some k_ ≠ ob v376 ∧ some k_ ≠ ob v380 ∧ some k_ ≠ ob (.slice Ao30 t382.length co30) ∧ some k_ ≠ ob v388) (.slice Ao15 t371.length co15) t371) := ⟨h2_⟩
            have n3_ : Aside0 (Kd.R (Kd.int .u8) 5 w36 w.heap.size (fun k_ => some k_ ≠ ob (.slice Ao12 t365.length co12) ∧ some k_ ≠ ob v369 ∧ some k_ ≠ ob (.slice Ao15 t371.length co15) ∧ some k_ ≠ ob v380 ∧ some k_ ≠ ob (.slice Ao30 t382.length co30) ∧ some k_ ≠ ob v388) v376 t374) := ⟨h3_⟩
            have n4_ : Aside0 (Kd.R (Kd.int .u8) 5 w36 w.heap.size (fun k_ => some k_ ≠ ob (.slice Ao12 t365.length co12) ∧ some k_ ≠ ob v369 ∧ some k_ ≠ ob (.slice Ao15 t371.length co15) ∧ some k_ ≠ ob v376 ∧ some k_ ≠ ob (.slice Ao30 t382.length co30) ∧ some k_ ≠ ob v388) v380 t378) := ⟨h4_⟩
            have n5_ : Aside0 (Kd.R (Kd.int .u8) 5 w36 w.heap.size (fun k_ => some k_ ≠ ob (.slice Ao12 t365.length co12) ∧ some k_ ≠ ob v369 ∧ some k_ ≠ ob (.slice Ao15 t371.length co15) ∧ some k_ ≠ ob v376 ∧ some k_ ≠ ob v380 ∧ some k_ ≠ ob v388) (.slice Ao30 t382.length co30) t382) := ⟨h5_⟩
            have n6_ : Aside0 (Kd.R (Kd.int .u8) 5 w36 w.heap.size (fun k_ => some k_ ≠ ob (.slice Ao12 t365.length co12) ∧ some k_ ≠ ob v369 ∧ some k_ ≠ ob (.slice Ao15 t371.length co15) ∧ some k_ ≠ ob v376 ∧ some k_ ≠ ob v380 ∧ some k_ ≠ ob (.slice Ao30 t382.length co30)) v388 t387) := ⟨h6_⟩
            have n7_ : Aside0 (Below w.heap.size w w36) := ⟨h7_⟩
            clear HO367
            clear HO370
            clear HO373
            clear HO377
            clear HO381
            clear HO386
            clear HB
            clear h0_ h1_ h2_ h3_ h4_ h5_ h6_ h7_
            have HO367 := n0_
            have HO370 := n1_
            have HO373 := n2_
            have HO377 := n3_
            have HO381 := n4_
            have HO386 := n5_
            have HO389 := n6_
            have HB := n7_
            clear n0_ n1_ n2_ n3_ n4_ n5_ n6_ n7_
            have hHeld := trivial
            refine norm_ (a' := ?_) ?_ ?_
            rotate_left
            · simp only [putAll, Act.put, s1, s2, s3]
              rfl
            refine one_ (i := 13) (N := some 52) #[T,T,T,T,T,T,T,T,T,T,T,T,T,T,T,T,F,F,F,F,F,F,F,F,F,F,F,F,F] rfl rfl (one_of HT_.out (by kernel_rfl)) (by decide) (fun K hK => ?_)
            have hcv37 := own_string (P := Try.prog) Try.underlying22 Try.underlying5 Try.underlying9 (Kd.own_of_R HO377.out)
            refine value_ (w1 := ?_) (v := ?_) (by first | rfl | (simp only [c20b1, c21b0, c27b1]; rfl)) rfl ?_ ?_
            rotate_left 2
            · go_simp
              constructor
              · rfl
              rfl
            clear hcv37
            refine hK.out _ _ trivial (fun hHeld => ?_)
            clear hK K
            refine norm_ (a' := ?_) ?_ ?_
            rotate_left
            · show Act.put _ (some 52) _ = _
              simp only [Act.put, s1, s2, s3, i64_w, i32_w]
              rfl
            exact norm_ (by first | (simp only [putAll, Act.put, s1, s2, s3]; done) | (simp only [putAll, Act.put, s1, s2, s3]; rfl) | (simp only [putAll, Act.put, s1, s2, s3, c20b1, c21b0, c27b1]; try rfl)) (hJ1_3_4_13_15 (v388) _ ⟨(by (with_reducible repeat (first | apply a1 | apply a2 | apply a3)); exact HO367.out), (by (with_reducible repeat (first | apply a1 | apply a2 | apply a3)); exact HO370.out), (by (with_reducible repeat (first | apply a1 | apply a2 | apply a3)); exact HO373.out), (by (with_reducible repeat (first | apply a1 | apply a2 | apply a3)); exact HO377.out), (by (with_reducible repeat (first | apply a1 | apply a2 | apply a3)); exact HO381.out), (by (with_reducible repeat (first | apply a1 | apply a2 | apply a3)); exact HO386.out), (by (with_reducible repeat (first | apply a1 | apply a2 | apply a3)); exact HO389.out), (by repeat (first | (with_reducible first | exact HB.out | apply below_alloc | apply pw_below_drewN | apply below_drew1) | exact HB.out))⟩)
          skip
          rintro v388 w36 ⟨h0_, h1_, h2_, h3_, h4_, h5_, h6_, h7_⟩
          have n0_ : Aside0 (Kd.R (Kd.int .u8) 5 w36 w.heap.size (fun k_ => some k_ ≠ ob v369 ∧ some k_ ≠ ob (.slice Ao15 t371.length co15) ∧ some k_ ≠ ob v376 ∧ some k_ ≠ ob v380 ∧ some k_ ≠ ob (.slice Ao30 t382.length co30) ∧ some k_ ≠ ob v388) (.slice Ao12 t365.length co12) t365) := ⟨h0_⟩
          have n1_ : Aside0 (Kd.R (Kd.int .u8) 5 w36 w.heap.size (fun k_ => some k_ ≠ ob (.slice Ao12 t365.length co12) ∧ some k_ ≠ ob (.slice Ao15 t371.length co15) ∧ some k_ ≠ ob v376 ∧ some k_ ≠ ob v380 ∧ some k_ ≠ ob (.slice Ao30 t382.length co30) ∧ some k_ ≠ ob v388) v369 t368) := ⟨h1_⟩
          have n2_ : Aside0 (Kd.R (Kd.int .u8) 5 w36 w.heap.size (fun k_ => some k_ ≠ ob (.slice Ao12 t365.length co12) ∧ some k_ ≠ ob v369 ∧ some k_ ≠ ob v376 ∧ some k_ ≠ ob v380 ∧ some k_ ≠ ob (.slice Ao30 t382.length co30) ∧ some k_ ≠ ob v388) (.slice Ao15 t371.length co15) t371) := ⟨h2_⟩
          have n3_ : Aside0 (Kd.R (Kd.int .u8) 5 w36 w.heap.size (fun k_ => some k_ ≠ ob (.slice Ao12 t365.length co12) ∧ some k_ ≠ ob v369 ∧ some k_ ≠ ob (.slice Ao15 t371.length co15) ∧ some k_ ≠ ob v380 ∧ some k_ ≠ ob (.slice Ao30 t382.length co30) ∧ some k_ ≠ ob v388) v376 t374) := ⟨h3_⟩
          have n4_ : Aside0 (Kd.R (Kd.int .u8) 5 w36 w.heap.size (fun k_ => some k_ ≠ ob (.slice Ao12 t365.length co12) ∧ some k_ ≠ ob v369 ∧ some k_ ≠ ob (.slice Ao15 t371.length co15) ∧ some k_ ≠ ob v376 ∧ some k_ ≠ ob (.slice Ao30 t382.length co30) ∧ some k_ ≠ ob v388) v380 t378) := ⟨h4_⟩
          have n5_ : Aside0 (Kd.R (Kd.int .u8) 5 w36 w.heap.size (fun k_ => some k_ ≠ ob (.slice Ao12 t365.length co12) ∧ some k_ ≠ ob v369 ∧ some k_ ≠ ob (.slice Ao15 t371.length co15) ∧ some k_ ≠ ob v376 ∧ some k_ ≠ ob v380 ∧ some k_ ≠ ob v388) (.slice Ao30 t382.length co30) t382) := ⟨h5_⟩
          have n6_ : Aside0 (Kd.R (Kd.int .u8) 5 w36 w.heap.size (fun k_ => some k_ ≠ ob (.slice Ao12 t365.length co12) ∧ some k_ ≠ ob v369 ∧ some k_ ≠ ob (.slice Ao15 t371.length co15) ∧ some k_ ≠ ob v376 ∧ some k_ ≠ ob v380 ∧ some k_ ≠ ob (.slice Ao30 t382.length co30)) v388 t387) := ⟨h6_⟩
          have n7_ : Aside0 (Below w.heap.size w w36) := ⟨h7_⟩
          clear HO367
          clear HO370
          clear HO373
          clear HO377
          clear HO381
          clear HO386
          clear HB
          clear h0_ h1_ h2_ h3_ h4_ h5_ h6_ h7_
          have HO367 := n0_
          have HO370 := n1_
          have HO373 := n2_
          have HO377 := n3_
          have HO381 := n4_
          have HO386 := n5_
          have HO389 := n6_
          have HB := n7_
          clear n0_ n1_ n2_ n3_ n4_ n5_ n6_ n7_
          have hHeld := trivial
          refine norm_ (a' := ?_) ?_ ?_
          rotate_left
          · simp only [putAll, Act.put, s1, s2, s3]
            rfl
          refine one_ (i := 15) (N := some 54) #[T,T,T,T,T,T,T,T,T,T,T,T,T,T,T,T,F,F,F,F,F,F,F,F,F,F,F,F,F] rfl rfl (one_of HT_.out (by kernel_rfl)) (by decide) (fun K hK => ?_)
          have hcv37 := own_string (P := Try.prog) Try.underlying22 Try.underlying5 Try.underlying9 (Kd.own_of_R HO381.out)
          refine value_ (w1 := ?_) (v := ?_) (by first | rfl | (simp only [c20b1, c21b0, c27b1]; rfl)) rfl ?_ ?_
          rotate_left 2
          · go_simp
            constructor
            · rfl
            rfl
          clear hcv37
          refine hK.out _ _ trivial (fun hHeld => ?_)
          clear hK K
          refine norm_ (a' := ?_) ?_ ?_
          rotate_left
          · show Act.put _ (some 54) _ = _
            simp only [Act.put, s1, s2, s3, i64_w, i32_w]
            rfl
          exact norm_ (by first | (simp only [putAll, Act.put, s1, s2, s3]; done) | (simp only [putAll, Act.put, s1, s2, s3]; rfl) | (simp only [putAll, Act.put, s1, s2, s3, c20b1, c21b0, c27b1]; try rfl)) (hJ1_3_4_13_15 (v388) _ ⟨(by (with_reducible repeat (first | apply a1 | apply a2 | apply a3)); exact HO367.out), (by (with_reducible repeat (first | apply a1 | apply a2 | apply a3)); exact HO370.out), (by (with_reducible repeat (first | apply a1 | apply a2 | apply a3)); exact HO373.out), (by (with_reducible repeat (first | apply a1 | apply a2 | apply a3)); exact HO377.out), (by (with_reducible repeat (first | apply a1 | apply a2 | apply a3)); exact HO381.out), (by (with_reducible repeat (first | apply a1 | apply a2 | apply a3)); exact HO386.out), (by (with_reducible repeat (first | apply a1 | apply a2 | apply a3)); exact HO389.out), (by repeat (first | (with_reducible first | exact HB.out | apply below_alloc | apply pw_below_drewN | apply below_drew1) | exact HB.out))⟩)
        rintro v388 w37 ⟨h0_, h1_, h2_, h3_, h4_, h5_, h6_, h7_⟩
        have n0_ : Aside0 (Kd.R (Kd.int .u8) 5 w37 w.heap.size (fun k_ => some k_ ≠ ob v369 ∧ some k_ ≠ ob (.slice Ao15 t371.length co15) ∧ some k_ ≠ ob v376 ∧ some k_ ≠ ob v380 ∧ some k_ ≠ ob (.slice Ao30 t382.length co30) ∧ some k_ ≠ ob v388) (.slice Ao12 t365.length co12) t365) := ⟨h0_⟩
        have n1_ : Aside0 (Kd.R (Kd.int .u8) 5 w37 w.heap.size (fun k_ => some k_ ≠ ob (.slice Ao12 t365.length co12) ∧ some k_ ≠ ob (.slice Ao15 t371.length co15) ∧ some k_ ≠ ob v376 ∧ some k_ ≠ ob v380 ∧ some k_ ≠ ob (.slice Ao30 t382.length co30) ∧ some k_ ≠ ob v388) v369 t368) := ⟨h1_⟩
        have n2_ : Aside0 (Kd.R (Kd.int .u8) 5 w37 w.heap.size (fun k_ => some k_ ≠ ob (.slice Ao12 t365.length co12) ∧ some k_ ≠ ob v369 ∧ some k_ ≠ ob v376 ∧ some k_ ≠ ob v380 ∧ some k_ ≠ ob (.slice Ao30 t382.length co30) ∧ some k_ ≠ ob v388) (.slice Ao15 t371.length co15) t371) := ⟨h2_⟩
        have n3_ : Aside0 (Kd.R (Kd.int .u8) 5 w37 w.heap.size (fun k_ => some k_ ≠ ob (.slice Ao12 t365.length co12) ∧ some k_ ≠ ob v369 ∧ some k_ ≠ ob (.slice Ao15 t371.length co15) ∧ some k_ ≠ ob v380 ∧ some k_ ≠ ob (.slice Ao30 t382.length co30) ∧ some k_ ≠ ob v388) v376 t374) := ⟨h3_⟩
        have n4_ : Aside0 (Kd.R (Kd.int .u8) 5 w37 w.heap.size (fun k_ => some k_ ≠ ob (.slice Ao12 t365.length co12) ∧ some k_ ≠ ob v369 ∧ some k_ ≠ ob (.slice Ao15 t371.length co15) ∧ some k_ ≠ ob v376 ∧ some k_ ≠ ob (.slice Ao30 t382.length co30) ∧ some k_ ≠ ob v388) v380 t378) := ⟨h4_⟩
        have n5_ : Aside0 (Kd.R (Kd.int .u8) 5 w37 w.heap.size (fun k_ => some k_ ≠ ob (.slice Ao12 t365.length co12) ∧ some k_ ≠ ob v369 ∧ some k_ ≠ ob (.slice Ao15 t371.length co15) ∧ some k_ ≠ ob v376 ∧ some k_ ≠ ob v380 ∧ some k_ ≠ ob v388) (.slice Ao30 t382.length co30) t382) := ⟨h5_⟩
        have n6_ : Aside0 (Kd.R (Kd.int .u8) 5 w37 w.heap.size (fun k_ => some k_ ≠ ob (.slice Ao12 t365.length co12) ∧ some k_ ≠ ob v369 ∧ some k_ ≠ ob (.slice Ao15 t371.length co15) ∧ some k_ ≠ ob v376 ∧ some k_ ≠ ob v380 ∧ some k_ ≠ ob (.slice Ao30 t382.length co30)) v388 t387) := ⟨h6_⟩
        have n7_ : Aside0 (Below w.heap.size w w37) := ⟨h7_⟩
        clear HO367
        clear HO370
        clear HO373
        clear HO377
        clear HO381
        clear HO386
        clear HB
        clear h0_ h1_ h2_ h3_ h4_ h5_ h6_ h7_
        have HO367 := n0_
        have HO370 := n1_
        have HO373 := n2_
        have HO377 := n3_
        have HO381 := n4_
        have HO386 := n5_
        have HO389 := n6_
        have HB := n7_
        clear n0_ n1_ n2_ n3_ n4_ n5_ n6_ n7_
        have hHeld := trivial
        refine norm_ (a' := ?_) ?_ ?_
        rotate_left
        · simp only [putAll, Act.put, s1, s2, s3]
          rfl
        refine pure_ (i := 16) (N := some 55) (v := ?_) (a' := ?_) #[T,T,T,T,T,T,T,T,T,T,T,T,T,T,T,T,T,F,F,F,F,F,F,F,F,F,F,F,F] rfl rfl (any_of HT_.out (by kernel_rfl)) (fun _ _ _ h => h) (Or.inl ⟨by first | rfl | (simp only [c20b1, c21b0, c27b1]; rfl), ?_⟩) ?_ ?_
        rotate_left
        · intro w'
          go_simp
          with_reducible rfl
        rotate_left
        · simp only [Act.put, s1, s2, s3, i64_w, i32_w]
          rfl
        refine pure_ (i := 17) (N := some 56) (v := ?_) (a' := ?_) #[T,T,T,T,T,T,T,T,T,T,T,T,T,T,T,T,T,T,F,F,F,F,F,F,F,F,F,F,F] rfl rfl (any_of HT_.out (by kernel_rfl)) (fun _ _ _ h => h) (Or.inl ⟨by first | rfl | (simp only [c20b1, c21b0, c27b1]; rfl), ?_⟩) ?_ ?_
        rotate_left
        · intro w'
          go_simp
          with_reducible rfl
        rotate_left
        · simp only [Act.put, s1, s2, s3, i64_w, i32_w]
          rfl
        refine pure_ (i := 18) (N := some 57) (v := ?_) (a' := ?_) #[T,T,T,T,T,T,T,T,T,T,T,T,T,T,T,T,T,T,T,F,F,F,F,F,F,F,F,F,F] rfl rfl (any_of HT_.out (by kernel_rfl)) (fun _ _ _ h => h) (Or.inl ⟨by first | rfl | (simp only [c20b1, c21b0, c27b1]; rfl), ?_⟩) ?_ ?_
        rotate_left
        · intro w'
          go_simp
          with_reducible rfl
        rotate_left
        · simp only [Act.put, s1, s2, s3, i64_w, i32_w]
          rfl
        refine pure_ (i := 19) (N := some 58) (v := ?_) (a' := ?_) #[T,T,T,T,T,T,T,T,T,T,T,T,T,T,T,T,T,T,T,T,F,F,F,F,F,F,F,F,F] rfl rfl (any_of HT_.out (by kernel_rfl)) (fun _ _ _ h => h) (Or.inl ⟨by first | rfl | (simp only [c20b1, c21b0, c27b1]; rfl), ?_⟩) ?_ ?_
        rotate_left
        · intro w'
          go_simp
          with_reducible rfl
        rotate_left
        · simp only [Act.put, s1, s2, s3, i64_w, i32_w]
          rfl
        refine pure_ (i := 20) (N := some 59) (v := ?_) (a' := ?_) #[T,T,T,T,T,T,T,T,T,T,T,T,T,T,T,T,T,T,T,T,T,F,F,F,F,F,F,F,F] rfl rfl (any_of HT_.out (by kernel_rfl)) (fun _ _ _ h => h) (Or.inl ⟨by first | rfl | (simp only [c20b1, c21b0, c27b1]; rfl), ?_⟩) ?_ ?_
        rotate_left
        · intro w'
          go_simp
          with_reducible rfl
        rotate_left
        · simp only [Act.put, s1, s2, s3, i64_w, i32_w]
          rfl
        refine pure_ (i := 21) (N := some 60) (v := ?_) (a' := ?_) #[T,T,T,T,T,T,T,T,T,T,T,T,T,T,T,T,T,T,T,T,T,T,F,F,F,F,F,F,F] rfl rfl (any_of HT_.out (by kernel_rfl)) (fun _ _ _ h => h) (Or.inl ⟨by first | rfl | (simp only [c20b1, c21b0, c27b1]; rfl), ?_⟩) ?_ ?_
        rotate_left
        · intro w'
          go_simp
          with_reducible rfl
        rotate_left
        · simp only [Act.put, s1, s2, s3, i64_w, i32_w]
          rfl
        refine pure_ (i := 23) (N := some 62) (v := ?_) (a' := ?_) #[T,T,T,T,T,T,T,T,T,T,T,T,T,T,T,T,T,T,T,T,T,T,F,T,F,F,F,F,F] rfl rfl (any_of HT_.out (by kernel_rfl)) (fun _ _ _ h => h) (Or.inl ⟨by first | rfl | (simp only [c20b1, c21b0, c27b1]; rfl), ?_⟩) ?_ ?_
        rotate_left
        · intro w'
          go_simp
          with_reducible rfl
        rotate_left
        · simp only [Act.put, s1, s2, s3, i64_w, i32_w]
          rfl
        refine pure_ (i := 24) (N := some 63) (v := ?_) (a' := ?_) #[T,T,T,T,T,T,T,T,T,T,T,T,T,T,T,T,T,T,T,T,T,T,F,T,T,F,F,F,F] rfl rfl (any_of HT_.out (by kernel_rfl)) (fun _ _ _ h => h) (Or.inl ⟨by first | rfl | (simp only [c20b1, c21b0, c27b1]; rfl), ?_⟩) ?_ ?_
        rotate_left
        · intro w'
          go_simp
          with_reducible rfl
        rotate_left
        · simp only [Act.put, s1, s2, s3, i64_w, i32_w]
          rfl
        refine pure_ (i := 25) (N := some 64) (v := ?_) (a' := ?_) #[T,T,T,T,T,T,T,T,T,T,T,T,T,T,T,T,T,T,T,T,T,T,F,T,T,T,F,F,F] rfl rfl (any_of HT_.out (by kernel_rfl)) (fun _ _ _ h => h) (Or.inl ⟨by first | rfl | (simp only [c20b1, c21b0, c27b1]; rfl), ?_⟩) ?_ ?_
        rotate_left
        · intro w'
          go_simp
          with_reducible rfl
        rotate_left
        · simp only [Act.put, s1, s2, s3, i64_w, i32_w]
          rfl
        refine one_ (i := 22) (N := some 61) #[T,T,T,T,T,T,T,T,T,T,T,T,T,T,T,T,T,T,T,T,T,T,T,T,T,T,F,F,F] rfl rfl (one_of HT_.out (by kernel_rfl)) (by decide) (fun K hK => ?_)
        refine goes_ Try.func46 (by kernel_rfl) rfl #[.slice Ao30 t382.length co30, .int .i64 t383, .int .i64 t384] (by rfl) rfl rfl (by (try simp only [List.map_toArray, List.map_cons, List.map_nil]); first | done | rfl | (simp only [List.length_drop, List.length_take]; rfl)) ?_
        with_reducible refine (impl_Run.calls k _ _ t382 t383 t384 t390 _ ?side1 ?side2 A28.out).mono ?_
        (case side1 => repeat (first | exact (Kd.R_reads' HO386.out).2.2 | (with_reducible refine Kd.C_alloc ?_ _) | (with_reducible refine Kd.C_drewN ?_ _) | (with_reducible refine Kd.C_drew ?_)))
        (case side2 => exact (Kd.R_reads' HO386.out).2.1)
        rintro e w' ⟨rfl, ⟨nd, rfl⟩⟩
        refine ⟨_, rfl, ?_⟩
        refine hK.out _ _ trivial (fun hHeld => ?_)
        clear hK K
        refine norm_ (a' := ?_) ?_ ?_
        rotate_left
        · show Act.put _ (some 61) _ = _
          simp only [Act.put, s1, s2, s3, i64_w, i32_w]
          rfl
        refine one_ (i := 26) (N := some 65) #[T,T,T,T,T,T,T,T,T,T,T,T,T,T,T,T,T,T,T,T,T,T,T,T,T,T,T,F,F] rfl rfl (one_of HT_.out (by kernel_rfl)) (by decide) (fun K hK => ?_)
        refine goes_ Try.func47 (by kernel_rfl) rfl #[.slice Ao30 t382.length co30, .int .i64 t383, .int .i64 t384] (by rfl) rfl rfl (by (try simp only [List.map_toArray, List.map_cons, List.map_nil]); first | done | rfl | (simp only [List.length_drop, List.length_take]; rfl)) ?_
        with_reducible refine (spec_Run.calls k _ _ t382 t383 t384 t391 _ ?side1 ?side2 A29.out).mono ?_
        (case side1 => repeat (first | exact (Kd.R_reads' HO386.out).2.2 | (with_reducible refine Kd.C_alloc ?_ _) | (with_reducible refine Kd.C_drewN ?_ _) | (with_reducible refine Kd.C_drew ?_)))
        (case side2 => exact (Kd.R_reads' HO386.out).2.1)
        rintro e w' ⟨rfl, ⟨nd, rfl⟩⟩
        refine ⟨_, rfl, ?_⟩
        refine hK.out _ _ trivial (fun hHeld => ?_)
        clear hK K
        refine norm_ (a' := ?_) ?_ ?_
        rotate_left
        · show Act.put _ (some 65) _ = _
          simp only [Act.put, s1, s2, s3, i64_w, i32_w]
          rfl
        refine pure_ (i := 27) (N := some 66) (v := ?_) (a' := ?_) #[T,T,T,T,T,T,T,T,T,T,T,T,T,T,T,T,T,T,T,T,T,T,T,T,T,T,T,T,F] rfl rfl (any_of HT_.out (by kernel_rfl)) (fun _ _ _ h => h) (Or.inl ⟨by first | rfl | (simp only [c20b1, c21b0, c27b1]; rfl), ?_⟩) ?_ ?_
        rotate_left
        · intro w'
          go_simp
          with_reducible rfl
        rotate_left
        · simp only [Act.put, s1, s2, s3, i64_w, i32_w]
          rfl
        refine pure_ (i := 28) (N := some 67) (v := ?_) (a' := ?_) #[T,T,T,T,T,T,T,T,T,T,T,T,T,T,T,T,T,T,T,T,T,T,T,T,T,T,T,T,T] rfl rfl (any_of HT_.out (by kernel_rfl)) (fun _ _ _ h => h) (Or.inl ⟨by first | rfl | (simp only [c20b1, c21b0, c27b1]; rfl), ?_⟩) ?_ ?_
        rotate_left
        · intro w'
          go_simp
          with_reducible rfl
        rotate_left
        · simp only [Act.put, s1, s2, s3, i64_w, i32_w]
          rfl
        refine done_ (done_of HT_.out (by kernel_rfl)) ?_
        try go_wp2
        go_meet
        case rel => exact ⟨_, ((t390 != t391)), (by first | rfl | (simp; done) | (simp [*]; done)), H', ⟨by first | omega | exact Nat.le_refl _⟩, ⟨by (with_reducible repeat (first | apply a1 | apply a2 | apply a3)); exact Kd.R_mono HO367.out (fun _ hk => ⟨hk.1, hk.2.2.1⟩)⟩, ⟨by (with_reducible repeat (first | apply a1 | apply a2 | apply a3)); exact Kd.R_mono HO370.out (fun _ hk => ⟨hk.1, hk.2.2.1⟩)⟩, ⟨by (with_reducible repeat (first | apply a1 | apply a2 | apply a3)); exact Kd.R_mono HO377.out (fun _ hk => ⟨hk.1, hk.2.1⟩)⟩, ⟨by repeat (first | (with_reducible first | exact HB.out | apply below_alloc | apply pw_below_drewN | apply below_drew1) | exact HB.out)⟩⟩
      rw [if_neg c27] at H
      have c27b0 : ((strOfNums t374).toList == (strOfNums t378).toList) = false := beq_eq_false_iff_ne.mpr c27
      have c27b1 : ((strOfNums t374).toList != (strOfNums t378).toList) = true := bne_iff_ne.mpr c27
      have H' := Aside0.mk H
      clear H
      try go_wp2
      have n0_ := Aside0.mk (Kd.R_drew HO367.out)
      have n1_ := Aside0.mk (Kd.R_drew HO370.out)
      have n2_ := Aside0.mk (Kd.R_drew HO373.out)
      have n3_ := Aside0.mk (Kd.R_drew HO377.out)
      have n4_ := Aside0.mk (Kd.R_drew HO381.out)
      have n5_ := Aside0.mk (Kd.R_drew HO386.out)
      have n6_ := Aside0.mk (below_drew1 HB.out)
      clear HO367
      clear HO370
      clear HO373
      clear HO377
      clear HO381
      clear HO386
      clear HB
      have HO367 := n0_
      have HO370 := n1_
      have HO373 := n2_
      have HO377 := n3_
      have HO381 := n4_
      have HO386 := n5_
      have HB := n6_
      clear n0_ n1_ n2_ n3_ n4_ n5_ n6_
      refine start_ (n := 29) (S := fun w' => True) (ds := []) #[F,F,F,F,F,F,F,F,F,F,F,F,F,F,F,F,F,F,F,F,F,F,F,F,F,F,F,F,F] (by kernel_rfl) rfl rfl trivial (fun hHeld => ?_); refine with_tabW laws_FnSqueezed.tab9 laws_FnSqueezed.bits9 (fun HT_ HW_ => ?_)
      generalize w18.drew = w38 at HO367 HO370 HO373 HO377 HO381 HO386 HB hHeld ⊢
      refine pure_ (i := 0) (N := some 39) (v := ?_) (a' := ?_) #[T,F,F,F,F,F,F,F,F,F,F,F,F,F,F,F,F,F,F,F,F,F,F,F,F,F,F,F,F] rfl rfl (any_of HT_.out (by kernel_rfl)) (fun _ _ _ h => h) (Or.inl ⟨by first | rfl | (simp only [c20b1, c21b0, c27b1]; rfl), ?_⟩) ?_ ?_
      rotate_left
      · intro w'
        go_simp
        with_reducible rfl
      rotate_left
      · simp only [Act.put, s1, s2, s3, i64_w, i32_w]
        rfl
      refine pure_ (i := 2) (N := some 41) (v := ?_) (a' := ?_) #[T,F,T,F,F,F,F,F,F,F,F,F,F,F,F,F,F,F,F,F,F,F,F,F,F,F,F,F,F] rfl rfl (any_of HT_.out (by kernel_rfl)) (fun _ _ _ h => h) (Or.inl ⟨by first | rfl | (simp only [c20b1, c21b0, c27b1]; rfl), ?_⟩) ?_ ?_
      rotate_left
      · intro w'
        go_simp
        with_reducible rfl
      rotate_left
      · simp only [Act.put, s1, s2, s3, i64_w, i32_w]
        rfl
      refine join_ (σ := Value) 13 #[T,T,T,T,T,T,T,T,T,T,T,T,T,T,T,T,F,F,F,F,F,F,F,F,F,F,F,F,F] (fun s_ => [(40, .string (strOfNums t368)), (42, s_), (43, .string (strOfNums t387)), (52, .string (strOfNums t374)), (54, .string (strOfNums t378)), (44, .bool ((strOfNums t368).toList != (strOfNums t387).toList)), (45, .bool ((strOfNums t368).toList != (strOfNums t387).toList)), (46, .bool t375), (47, .bool t379), (48, .bool (t375 != t379)), (49, .bool (t375 != t379)), (50, .bool (t375 != t379)), (51, v376), (53, v380)]) (fun s_ w' => (Kd.R (Kd.int .u8) 5 w' w.heap.size (fun k_ => some k_ ≠ ob v369 ∧ some k_ ≠ ob (.slice Ao15 t371.length co15) ∧ some k_ ≠ ob v376 ∧ some k_ ≠ ob v380 ∧ some k_ ≠ ob v385 ∧ some k_ ≠ ob s_) (.slice Ao12 t365.length co12) t365) ∧ (Kd.R (Kd.int .u8) 5 w' w.heap.size (fun k_ => some k_ ≠ ob (.slice Ao12 t365.length co12) ∧ some k_ ≠ ob (.slice Ao15 t371.length co15) ∧ some k_ ≠ ob v376 ∧ some k_ ≠ ob v380 ∧ some k_ ≠ ob v385 ∧ some k_ ≠ ob s_) v369 t368) ∧ (Kd.R (Kd.int .u8) 5 w' w.heap.size (fun k_ => some k_ ≠ ob (.slice Ao12 t365.length co12) ∧ some k_ ≠ ob v369 ∧ some k_ ≠ ob v376 ∧ some k_ ≠ ob v380 ∧ some k_ ≠ ob v385 ∧ some k_ ≠ ob s_) (.slice Ao15 t371.length co15) t371) ∧ (Kd.R (Kd.int .u8) 5 w' w.heap.size (fun k_ => some k_ ≠ ob (.slice Ao12 t365.length co12) ∧ some k_ ≠ ob v369 ∧ some k_ ≠ ob (.slice Ao15 t371.length co15) ∧ some k_ ≠ ob v380 ∧ some k_ ≠ ob v385 ∧ some k_ ≠ ob s_) v376 t374) ∧ (Kd.R (Kd.int .u8) 5 w' w.heap.size (fun k_ => some k_ ≠ ob (.slice Ao12 t365.length co12) ∧ some k_ ≠ ob v369 ∧ some k_ ≠ ob (.slice Ao15 t371.length co15) ∧ some k_ ≠ ob v376 ∧ some k_ ≠ ob v385 ∧ some k_ ≠ ob s_) v380 t378) ∧ (Kd.R (Kd.int .u8) 5 w' w.heap.size (fun k_ => some k_ ≠ ob (.slice Ao12 t365.length co12) ∧ some k_ ≠ ob v369 ∧ some k_ ≠ ob (.slice Ao15 t371.length co15) ∧ some k_ ≠ ob v376 ∧ some k_ ≠ ob v380 ∧ some k_ ≠ ob s_) v385 t382) ∧ (Kd.R (Kd.int .u8) 5 w' w.heap.size (fun k_ => some k_ ≠ ob (.slice Ao12 t365.length co12) ∧ some k_ ≠ ob v369 ∧ some k_ ≠ ob (.slice Ao15 t371.length co15) ∧ some k_ ≠ ob v376 ∧ some k_ ≠ ob v380 ∧ some k_ ≠ ob v385) s_ t387) ∧ (Below w.heap.size w w')) ?_ ?_
      rotate_left
      · intro hJ1_3_4_13_15
        refine join_ (σ := Value) 14 #[T,T,T,T,T,T,T,T,T,T,T,T,T,T,T,F,F,F,F,F,F,F,F,F,F,F,F,F,F] (fun s_ => [(40, .string (strOfNums t368)), (42, s_), (43, .string (strOfNums t387)), (52, .string (strOfNums t374)), (44, .bool ((strOfNums t368).toList != (strOfNums t387).toList)), (45, .bool ((strOfNums t368).toList != (strOfNums t387).toList)), (46, .bool t375), (47, .bool t379), (48, .bool (t375 != t379)), (49, .bool (t375 != t379)), (50, .bool (t375 != t379)), (51, v376), (53, v380)]) (fun s_ w' => (Kd.R (Kd.int .u8) 5 w' w.heap.size (fun k_ => some k_ ≠ ob v369 ∧ some k_ ≠ ob (.slice Ao15 t371.length co15) ∧ some k_ ≠ ob v376 ∧ some k_ ≠ ob v380 ∧ some k_ ≠ ob v385 ∧ some k_ ≠ ob s_) (.slice Ao12 t365.length co12) t365) ∧ (Kd.R (Kd.int .u8) 5 w' w.heap.size (fun k_ => some k_ ≠ ob (.slice Ao12 t365.length co12) ∧ some k_ ≠ ob (.slice Ao15 t371.length co15) ∧ some k_ ≠ ob v376 ∧ some k_ ≠ ob v380 ∧ some k_ ≠ ob v385 ∧ some k_ ≠ ob s_) v369 t368) ∧ (Kd.R (Kd.int .u8) 5 w' w.heap.size (fun k_ => some k_ ≠ ob (.slice Ao12 t365.length co12) ∧ some k_ ≠ ob v369 ∧ some k_ ≠ ob v376 ∧ some k_ ≠ ob v380 ∧ some k_ ≠ ob v385 ∧ some k_ ≠ ob s_) (.slice Ao15 t371.length co15) t371) ∧ (Kd.R (Kd.int .u8) 5 w' w.heap.size (fun k_ => some k_ ≠ ob (.slice Ao12 t365.length co12) ∧ some k_ ≠ ob v369 ∧ some k_ ≠ ob (.slice Ao15 t371.length co15) ∧ some k_ ≠ ob v380 ∧ some k_ ≠ ob v385 ∧ some k_ ≠ ob s_) v376 t374) ∧ (Kd.R (Kd.int .u8) 5 w' w.heap.size (fun k_ => some k_ ≠ ob (.slice Ao12 t365.length co12) ∧ some k_ ≠ ob v369 ∧ some k_ ≠ ob (.slice Ao15 t371.length co15) ∧ some k_ ≠ ob v376 ∧ some k_ ≠ ob v385 ∧ some k_ ≠ ob s_) v380 t378) ∧ (Kd.R (Kd.int .u8) 5 w' w.heap.size (fun k_ => some k_ ≠ ob (.slice Ao12 t365.length co12) ∧ some k_ ≠ ob v369 ∧ some k_ ≠ ob (.slice Ao15 t371.length co15) ∧ some k_ ≠ ob v376 ∧ some k_ ≠ ob v380 ∧ some k_ ≠ ob s_) v385 t382) ∧ (Kd.R (Kd.int .u8) 5 w' w.heap.size (fun k_ => some k_ ≠ ob (.slice Ao12 t365.length co12) ∧ some k_ ≠ ob v369 ∧ some k_ ≠ ob (.slice Ao15 t371.length co15) ∧ some k_ ≠ ob v376 ∧ some k_ ≠ ob v380 ∧ some k_ ≠ ob v385) s_ t387) ∧ (Below w.heap.size w w')) ?_ ?_
        rotate_left
        · intro hJ1_3_4_13
          refine join_ (σ := Value) 14 #[T,T,T,T,T,T,T,T,T,T,T,T,T,F,T,T,F,F,F,F,F,F,F,F,F,F,F,F,F] (fun s_ => [(40, .string (strOfNums t368)), (42, s_), (43, .string (strOfNums t387)), (54, .string (strOfNums t378)), (44, .bool ((strOfNums t368).toList != (strOfNums t387).toList)), (45, .bool ((strOfNums t368).toList != (strOfNums t387).toList)), (46, .bool t375), (47, .bool t379), (48, .bool (t375 != t379)), (49, .bool (t375 != t379)), (50, .bool (t375 != t379)), (51, v376), (53, v380)]) (fun s_ w' => (Kd.R (Kd.int .u8) 5 w' w.heap.size (fun k_ => some k_ ≠ ob v369 ∧ some k_ ≠ ob (.slice Ao15 t371.length co15) ∧ some k_ ≠ ob v376 ∧ some k_ ≠ ob v380 ∧ some k_ ≠ ob v385 ∧ some k_ ≠ ob s_) (.slice Ao12 t365.length co12) t365) ∧ (Kd.R (Kd.int .u8) 5 w' w.heap.size (fun k_ => some k_ ≠ ob (.slice Ao12 t365.length co12) ∧ some k_ ≠ ob (.slice Ao15 t371.length co15) ∧ some k_ ≠ ob v376 ∧ some k_ ≠ ob v380 ∧ some k_ ≠ ob v385 ∧ some k_ ≠ ob s_) v369 t368) ∧ (Kd.R (Kd.int .u8) 5 w' w.heap.size (fun k_ => some k_ ≠ ob (.slice Ao12 t365.length co12) ∧ some k_ ≠ ob v369 ∧ some k_ ≠ ob v376 ∧ some k_ ≠ ob v380 ∧ some k_ ≠ ob v385 ∧ some k_ ≠ ob s_) (.slice Ao15 t371.length co15) t371) ∧ (Kd.R (Kd.int .u8) 5 w' w.heap.size (fun k_ => some k_ ≠ ob (.slice Ao12 t365.length co12) ∧ some k_ ≠ ob v369 ∧ some k_ ≠ ob (.slice Ao15 t371.length co15) ∧ some k_ ≠ ob v380 ∧ some k_ ≠ ob v385 ∧ some k_ ≠ ob s_) v376 t374) ∧ (Kd.R (Kd.int .u8) 5 w' w.heap.size (fun k_ => some k_ ≠ ob (.slice Ao12 t365.length co12) ∧ some k_ ≠ ob v369 ∧ some k_ ≠ ob (.slice Ao15 t371.length co15) ∧ some k_ ≠ ob v376 ∧ some k_ ≠ ob v385 ∧ some k_ ≠ ob s_) v380 t378) ∧ (Kd.R (Kd.int .u8) 5 w' w.heap.size (fun k_ => some k_ ≠ ob (.slice Ao12 t365.length co12) ∧ some k_ ≠ ob v369 ∧ some k_ ≠ ob (.slice Ao15 t371.length co15) ∧ some k_ ≠ ob v376 ∧ some k_ ≠ ob v380 ∧ some k_ ≠ ob s_) v385 t382) ∧ (Kd.R (Kd.int .u8) 5 w' w.heap.size (fun k_ => some k_ ≠ ob (.slice Ao12 t365.length co12) ∧ some k_ ≠ ob v369 ∧ some k_ ≠ ob (.slice Ao15 t371.length co15) ∧ some k_ ≠ ob v376 ∧ some k_ ≠ ob v380 ∧ some k_ ≠ ob v385) s_ t387) ∧ (Below w.heap.size w w')) ?_ ?_
          rotate_left
          · intro hJ1_3_4_15
            refine join_ (σ := Value) 15 #[T,T,T,T,T,T,T,T,T,T,T,T,T,F,T,F,F,F,F,F,F,F,F,F,F,F,F,F,F] (fun s_ => [(40, .string (strOfNums t368)), (42, s_), (43, .string (strOfNums t387)), (44, .bool ((strOfNums t368).toList != (strOfNums t387).toList)), (45, .bool ((strOfNums t368).toList != (strOfNums t387).toList)), (46, .bool t375), (47, .bool t379), (48, .bool (t375 != t379)), (49, .bool (t375 != t379)), (50, .bool (t375 != t379)), (51, v376), (53, v380)]) (fun s_ w' => (Kd.R (Kd.int .u8) 5 w' w.heap.size (fun k_ => some k_ ≠ ob v369 ∧ some k_ ≠ ob (.slice Ao15 t371.length co15) ∧ some k_ ≠ ob v376 ∧ some k_ ≠ ob v380 ∧ some k_ ≠ ob v385 ∧ some k_ ≠ ob s_) (.slice Ao12 t365.length co12) t365) ∧ (Kd.R (Kd.int .u8) 5 w' w.heap.size (fun k_ => some k_ ≠ ob (.slice Ao12 t365.length co12) ∧ some k_ ≠ ob (.slice Ao15 t371.length co15) ∧ some k_ ≠ ob v376 ∧ some k_ ≠ ob v380 ∧ some k_ ≠ ob v385 ∧ some k_ ≠ ob s_) v369 t368) ∧ (Kd.R (Kd.int .u8) 5 w' w.heap.size (fun k_ => some k_ ≠ ob (.slice Ao12 t365.length co12) ∧ some k_ ≠ ob v369 ∧ some k_ ≠ ob v376 ∧ some k_ ≠ ob v380 ∧ some k_ ≠ ob v385 ∧ some k_ ≠ ob s_) (.slice Ao15 t371.length co15) t371) ∧ (Kd.R (Kd.int .u8) 5 w' w.heap.size (fun k_ => some k_ ≠ ob (.slice Ao12 t365.length co12) ∧ some k_ ≠ ob v369 ∧ some k_ ≠ ob (.slice Ao15 t371.length co15) ∧ some k_ ≠ ob v380 ∧ some k_ ≠ ob v385 ∧ some k_ ≠ ob s_) v376 t374) ∧ (Kd.R (Kd.int .u8) 5 w' w.heap.size (fun k_ => some k_ ≠ ob (.slice Ao12 t365.length co12) ∧ some k_ ≠ ob v369 ∧ some k_ ≠ ob (.slice Ao15 t371.length co15) ∧ some k_ ≠ ob v376 ∧ some k_ ≠ ob v385 ∧ some k_ ≠ ob s_) v380 t378) ∧ (Kd.R (Kd.int .u8) 5 w' w.heap.size (fun k_ => some k_ ≠ ob (.slice Ao12 t365.length co12) ∧ some k_ ≠ ob v369 ∧ some k_ ≠ ob (.slice Ao15 t371.length co15) ∧ some k_ ≠ ob v376 ∧ some k_ ≠ ob v380 ∧ some k_ ≠ ob s_) v385 t382) ∧ (Kd.R (Kd.int .u8) 5 w' w.heap.size (fun k_ => some k_ ≠ ob (.slice Ao12 t365.length co12) ∧ some k_ ≠ ob v369 ∧ some k_ ≠ ob (.slice Ao15 t371.length co15) ∧ some k_ ≠ ob v376 ∧ some k_ ≠ ob v380 ∧ some k_ ≠ ob v385) s_ t387) ∧ (Below w.heap.size w w')) ?_ ?_
            rotate_left
            · intro hJ1_3_4
              refine join_ (σ := Value) 25 #[T,T,T,T,F,F,F,F,F,F,F,F,F,F,F,F,F,F,F,F,F,F,F,F,F,F,F,F,F] (fun s_ => [(40, .string (strOfNums t368)), (42, s_)]) (fun s_ w' => (Kd.R (Kd.int .u8) 5 w' w.heap.size (fun k_ => some k_ ≠ ob v369 ∧ some k_ ≠ ob (.slice Ao15 t371.length co15) ∧ some k_ ≠ ob v376 ∧ some k_ ≠ ob v380 ∧ some k_ ≠ ob v385 ∧ some k_ ≠ ob s_) (.slice Ao12 t365.length co12) t365) ∧ (Kd.R (Kd.int .u8) 5 w' w.heap.size (fun k_ => some k_ ≠ ob (.slice Ao12 t365.length co12) ∧ some k_ ≠ ob (.slice Ao15 t371.length co15) ∧ some k_ ≠ ob v376 ∧ some k_ ≠ ob v380 ∧ some k_ ≠ ob v385 ∧ some k_ ≠ ob s_) v369 t368) ∧ (Kd.R (Kd.int .u8) 5 w' w.heap.size (fun k_ => some k_ ≠ ob (.slice Ao12 t365.length co12) ∧ some k_ ≠ ob v369 ∧ some k_ ≠ ob v376 ∧ some k_ ≠ ob v380 ∧ some k_ ≠ ob v385 ∧ some k_ ≠ ob s_) (.slice Ao15 t371.length co15) t371) ∧ (Kd.R (Kd.int .u8) 5 w' w.heap.size (fun k_ => some k_ ≠ ob (.slice Ao12 t365.length co12) ∧ some k_ ≠ ob v369 ∧ some k_ ≠ ob (.slice Ao15 t371.length co15) ∧ some k_ ≠ ob v380 ∧ some k_ ≠ ob v385 ∧ some k_ ≠ ob s_) v376 t374) ∧ (Kd.R (Kd.int .u8) 5 w' w.heap.size (fun k_ => some k_ ≠ ob (.slice Ao12 t365.length co12) ∧ some k_ ≠ ob v369 ∧ some k_ ≠ ob (.slice Ao15 t371.length co15) ∧ some k_ ≠ ob v376 ∧ some k_ ≠ ob v385 ∧ some k_ ≠ ob s_) v380 t378) ∧ (Kd.R (Kd.int .u8) 5 w' w.heap.size (fun k_ => some k_ ≠ ob (.slice Ao12 t365.length co12) ∧ some k_ ≠ ob v369 ∧ some k_ ≠ ob (.slice Ao15 t371.length co15) ∧ some k_ ≠ ob v376 ∧ some k_ ≠ ob v380 ∧ some k_ ≠ ob s_) v385 t382) ∧ (Kd.R (Kd.int .u8) 5 w' w.heap.size (fun k_ => some k_ ≠ ob (.slice Ao12 t365.length co12) ∧ some k_ ≠ ob v369 ∧ some k_ ≠ ob (.slice Ao15 t371.length co15) ∧ some k_ ≠ ob v376 ∧ some k_ ≠ ob v380 ∧ some k_ ≠ ob v385) s_ t387) ∧ (Below w.heap.size w w')) ?_ ?_
              rotate_left
              · intro hJ1_3
                refine join_ (σ := Value) 25 #[T,F,T,T,T,F,F,F,F,F,F,F,F,F,F,F,F,F,F,F,F,F,F,F,F,F,F,F,F] (fun s_ => [(42, s_), (43, .string (strOfNums t387))]) (fun s_ w' => (Kd.R (Kd.int .u8) 5 w' w.heap.size (fun k_ => some k_ ≠ ob v369 ∧ some k_ ≠ ob (.slice Ao15 t371.length co15) ∧ some k_ ≠ ob v376 ∧ some k_ ≠ ob v380 ∧ some k_ ≠ ob v385 ∧ some k_ ≠ ob s_) (.slice Ao12 t365.length co12) t365) ∧ (Kd.R (Kd.int .u8) 5 w' w.heap.size (fun k_ => some k_ ≠ ob (.slice Ao12 t365.length co12) ∧ some k_ ≠ ob (.slice Ao15 t371.length co15) ∧ some k_ ≠ ob v376 ∧ some k_ ≠ ob v380 ∧ some k_ ≠ ob v385 ∧ some k_ ≠ ob s_) v369 t368) ∧ (Kd.R (Kd.int .u8) 5 w' w.heap.size (fun k_ => some k_ ≠ ob (.slice Ao12 t365.length co12) ∧ some k_ ≠ ob v369 ∧ some k_ ≠ ob v376 ∧ some k_ ≠ ob v380 ∧ some k_ ≠ ob v385 ∧ some k_ ≠ ob s_) (.slice Ao15 t371.length co15) t371) ∧ (Kd.R (Kd.int .u8) 5 w' w.heap.size (fun k_ => some k_ ≠ ob (.slice Ao12 t365.length co12) ∧ some k_ ≠ ob v369 ∧ some k_ ≠ ob (.slice Ao15 t371.length co15) ∧ some k_ ≠ ob v380 ∧ some k_ ≠ ob v385 ∧ some k_ ≠ ob s_) v376 t374) ∧ (Kd.R (Kd.int .u8) 5 w' w.heap.size (fun k_ => some k_ ≠ ob (.slice Ao12 t365.length co12) ∧ some k_ ≠ ob v369 ∧ some k_ ≠ ob (.slice Ao15 t371.length co15) ∧ some k_ ≠ ob v376 ∧ some k_ ≠ ob v385 ∧ some k_ ≠ ob s_) v380 t378) ∧ (Kd.R (Kd.int .u8) 5 w' w.heap.size (fun k_ => some k_ ≠ ob (.slice Ao12 t365.length co12) ∧ some k_ ≠ ob v369 ∧ some k_ ≠ ob (.slice Ao15 t371.length co15) ∧ some k_ ≠ ob v376 ∧ some k_ ≠ ob v380 ∧ some k_ ≠ ob s_) v385 t382) ∧ (Kd.R (Kd.int .u8) 5 w' w.heap.size (fun k_ => some k_ ≠ ob (.slice Ao12 t365.length co12) ∧ some k_ ≠ ob v369 ∧ some k_ ≠ ob (.slice Ao15 t371.length co15) ∧ some k_ ≠ ob v376 ∧ some k_ ≠ ob v380 ∧ some k_ ≠ ob v385) s_ t387) ∧ (Below w.heap.size w w')) ?_ ?_
                rotate_left
                · intro hJ3_4
                  refine join_ (σ := Unit) 26 #[T,T,T,F,F,F,F,F,F,F,F,F,F,F,F,F,F,F,F,F,F,F,F,F,F,F,F,F,F] (fun s_ => [(40, .string (strOfNums t368))]) (fun s_ w' => (Kd.R (Kd.int .u8) 5 w' w.heap.size (fun k_ => some k_ ≠ ob v369 ∧ some k_ ≠ ob (.slice Ao15 t371.length co15) ∧ some k_ ≠ ob v376 ∧ some k_ ≠ ob v380 ∧ some k_ ≠ ob v385) (.slice Ao12 t365.length co12) t365) ∧ (Kd.R (Kd.int .u8) 5 w' w.heap.size (fun k_ => some k_ ≠ ob (.slice Ao12 t365.length co12) ∧ some k_ ≠ ob (.slice Ao15 t371.length co15) ∧ some k_ ≠ ob v376 ∧ some k_ ≠ ob v380 ∧ some k_ ≠ ob v385) v369 t368) ∧ (Kd.R (Kd.int .u8) 5 w' w.heap.size (fun k_ => some k_ ≠ ob (.slice Ao12 t365.length co12) ∧ some k_ ≠ ob v369 ∧ some k_ ≠ ob v376 ∧ some k_ ≠ ob v380 ∧ some k_ ≠ ob v385) (.slice Ao15 t371.length co15) t371) ∧ (Kd.R (Kd.int .u8) 5 w' w.heap.size (fun k_ => some k_ ≠ ob (.slice Ao12 t365.length co12) ∧ some k_ ≠ ob v369 ∧ some k_ ≠ ob (.slice Ao15 t371.length co15) ∧ some k_ ≠ ob v380 ∧ some k_ ≠ ob v385) v376 t374) ∧ (Kd.R (Kd.int .u8) 5 w' w.heap.size (fun k_ => some k_ ≠ ob (.slice Ao12 t365.length co12) ∧ some k_ ≠ ob v369 ∧ some k_ ≠ ob (.slice Ao15 t371.length co15) ∧ some k_ ≠ ob v376 ∧ some k_ ≠ ob v385) v380 t378) ∧ (Kd.R (Kd.int .u8) 5 w' w.heap.size (fun k_ => some k_ ≠ ob (.slice Ao12 t365.length co12) ∧ some k_ ≠ ob v369 ∧ some k_ ≠ ob (.slice Ao15 t371.length co15) ∧ some k_ ≠ ob v376 ∧ some k_ ≠ ob v380) v385 t382) ∧ (Below w.heap.size w w')) ?_ ?_
                  rotate_left
                  · intro hJ1
                    refine join_ (σ := Value) 26 #[T,F,T,T,F,F,F,F,F,F,F,F,F,F,F,F,F,F,F,F,F,F,F,F,F,F,F,F,F] (fun s_ => [(42, s_)]) (fun s_ w' => (Kd.R (Kd.int .u8) 5 w' w.heap.size (fun k_ => some k_ ≠ ob v369 ∧ some k_ ≠ ob (.slice Ao15 t371.length co15) ∧ some k_ ≠ ob v376 ∧ some k_ ≠ ob v380 ∧ some k_ ≠ ob v385 ∧ some k_ ≠ ob s_) (.slice Ao12 t365.length co12) t365) ∧ (Kd.R (Kd.int .u8) 5 w' w.heap.size (fun k_ => some k_ ≠ ob (.slice Ao12 t365.length co12) ∧ some k_ ≠ ob (.slice Ao15 t371.length co15) ∧ some k_ ≠ ob v376 ∧ some k_ ≠ ob v380 ∧ some k_ ≠ ob v385 ∧ some k_ ≠ ob s_) v369 t368) ∧ (Kd.R (Kd.int .u8) 5 w' w.heap.size (fun k_ => some k_ ≠ ob (.slice Ao12 t365.length co12) ∧ some k_ ≠ ob v369 ∧ some k_ ≠ ob v376 ∧ some k_ ≠ ob v380 ∧ some k_ ≠ ob v385 ∧ some k_ ≠ ob s_) (.slice Ao15 t371.length co15) t371) ∧ (Kd.R (Kd.int .u8) 5 w' w.heap.size (fun k_ => some k_ ≠ ob (.slice Ao12 t365.length co12) ∧ some k_ ≠ ob v369 ∧ some k_ ≠ ob (.slice Ao15 t371.length co15) ∧ some k_ ≠ ob v380 ∧ some k_ ≠ ob v385 ∧ some k_ ≠ ob s_) v376 t374) ∧ (Kd.R (Kd.int .u8) 5 w' w.heap.size (fun k_ => some k_ ≠ ob (.slice Ao12 t365.length co12) ∧ some k_ ≠ ob v369 ∧ some k_ ≠ ob (.slice Ao15 t371.length co15) ∧ some k_ ≠ ob v376 ∧ some k_ ≠ ob v385 ∧ some k_ ≠ ob s_) v380 t378) ∧ (Kd.R (Kd.int .u8) 5 w' w.heap.size (fun k_ => some k_ ≠ ob (.slice Ao12 t365.length co12) ∧ some k_ ≠ ob v369 ∧ some k_ ≠ ob (.slice Ao15 t371.length co15) ∧ some k_ ≠ ob v376 ∧ some k_ ≠ ob v380 ∧ some k_ ≠ ob s_) v385 t382) ∧ (Kd.R (Kd.int .u8) 5 w' w.heap.size (fun k_ => some k_ ≠ ob (.slice Ao12 t365.length co12) ∧ some k_ ≠ ob v369 ∧ some k_ ≠ ob (.slice Ao15 t371.length co15) ∧ some k_ ≠ ob v376 ∧ some k_ ≠ ob v380 ∧ some k_ ≠ ob v385) s_ t387) ∧ (Below w.heap.size w w')) ?_ ?_
                    rotate_left
                    · intro hJ3
                      refine two_ (i := 1) (j := 3) (Ni := some 40) (Nj := some 42) #[T,T,T,F,F,F,F,F,F,F,F,F,F,F,F,F,F,F,F,F,F,F,F,F,F,F,F,F,F] #[T,F,T,T,F,F,F,F,F,F,F,F,F,F,F,F,F,F,F,F,F,F,F,F,F,F,F,F,F] rfl rfl rfl rfl (two_of HT_.out (by kernel_rfl)) (by decide) (by decide) (fun K hK => ?_) (fun K hK => ?_)
                      · skip
                        have hcv39 := own_string (P := Try.prog) Try.underlying22 Try.underlying5 Try.underlying9 (Kd.own_of_R HO370.out)
                        refine value_ (w1 := ?_) (v := ?_) (by first | rfl | (simp only [c20b1, c21b0, c27b1]; rfl)) rfl ?_ ?_
                        rotate_left 2
                        · go_simp
                          constructor
                          · rfl
                          rfl
                        clear hcv39
                        refine hK.out _ _ trivial (fun hHeld => ?_)
                        clear hK K
                        refine norm_ (a' := ?_) ?_ ?_
                        rotate_left
                        · show Act.put _ (some 40) _ = _
                          simp only [Act.put, s1, s2, s3, i64_w, i32_w]
                          rfl
                        exact norm_ (by first | (simp only [putAll, Act.put, s1, s2, s3]; done) | (simp only [putAll, Act.put, s1, s2, s3]; rfl) | (simp only [putAll, Act.put, s1, s2, s3, c20b1, c21b0, c27b1]; try rfl)) (hJ1 () _ ⟨(by (with_reducible repeat (first | apply a1 | apply a2 | apply a3)); exact Kd.R_mono HO367.out (fun _ hk => ⟨hk.1.1.1.1.2, ⟨hk.1.1.1.2, ⟨hk.1.1.2, ⟨hk.1.2, hk.2⟩⟩⟩⟩)), (by (with_reducible repeat (first | apply a1 | apply a2 | apply a3)); exact Kd.R_mono HO370.out (fun _ hk => ⟨hk.1.1.1.1.2, ⟨hk.1.1.1.2, ⟨hk.1.1.2, ⟨hk.1.2, hk.2⟩⟩⟩⟩)), (by (with_reducible repeat (first | apply a1 | apply a2 | apply a3)); exact Kd.R_mono HO373.out (fun _ hk => ⟨hk.1.1.1.1.2, ⟨hk.1.1.1.2, ⟨hk.1.1.2, ⟨hk.1.2, hk.2⟩⟩⟩⟩)), (by (with_reducible repeat (first | apply a1 | apply a2 | apply a3)); exact Kd.R_mono HO377.out (fun _ hk => ⟨hk.1.1.1.1.2, ⟨hk.1.1.1.2, ⟨hk.1.1.2, ⟨hk.1.2, hk.2⟩⟩⟩⟩)), (by (with_reducible repeat (first | apply a1 | apply a2 | apply a3)); exact Kd.R_mono HO381.out (fun _ hk => ⟨hk.1.1.1.1.2, ⟨hk.1.1.1.2, ⟨hk.1.1.2, ⟨hk.1.2, hk.2⟩⟩⟩⟩)), (by (with_reducible repeat (first | apply a1 | apply a2 | apply a3)); exact Kd.R_mono HO386.out (fun _ hk => ⟨hk.1.1.1.1.2, ⟨hk.1.1.1.2, ⟨hk.1.1.2, ⟨hk.1.2, hk.2⟩⟩⟩⟩)), (by repeat (first | (with_reducible first | exact HB.out | apply below_alloc | apply pw_below_drewN | apply below_drew1) | exact HB.out))⟩)
                      skip
                      refine goes_ Try.func45 (by kernel_rfl) rfl #[.slice Ao12 t365.length co12] (by rfl) rfl rfl (by (try simp only [List.map_toArray, List.map_cons, List.map_nil]); first | done | rfl | (simp only [List.length_drop, List.length_take]; rfl)) ?_
                      with_reducible refine (spec_Squeeze.calls k _ _ t365 t387 _ ?side1 ?side2 A19.out).mono ?_
                      (case side1 => repeat (first | exact (Kd.R_reads' HO367.out).2.2 | (with_reducible refine Kd.C_alloc ?_ _) | (with_reducible refine Kd.C_drewN ?_ _) | (with_reducible refine Kd.C_drew ?_)))
                      (case side2 => exact (Kd.R_reads' HO367.out).2.1)
                      rintro e w39 ⟨v388, rfl, ho0, hb⟩
                      refine ⟨_, rfl, ?_⟩
                      have n0_ := Aside0.mk (Kd.R_elder' (by (with_reducible repeat (first | apply a1 | apply a2 | apply a3)); exact HO367.out) (Kd.R_base ho0) hb)
                      have n1_ := Aside0.mk (Kd.R_elder' (by (with_reducible repeat (first | apply a1 | apply a2 | apply a3)); exact HO370.out) (Kd.R_base ho0) hb)
                      have n2_ := Aside0.mk (Kd.R_elder' (by (with_reducible repeat (first | apply a1 | apply a2 | apply a3)); exact HO373.out) (Kd.R_base ho0) hb)
                      have n3_ := Aside0.mk (Kd.R_elder' (by (with_reducible repeat (first | apply a1 | apply a2 | apply a3)); exact HO377.out) (Kd.R_base ho0) hb)
                      have n4_ := Aside0.mk (Kd.R_elder' (by (with_reducible repeat (first | apply a1 | apply a2 | apply a3)); exact HO381.out) (Kd.R_base ho0) hb)
                      have n5_ := Aside0.mk (Kd.R_elder' (by (with_reducible repeat (first | apply a1 | apply a2 | apply a3)); exact HO386.out) (Kd.R_base ho0) hb)
                      have n6_ := Aside0.mk (Kd.R_lower (Kd.R_new' (Kd.R_new' (Kd.R_new' (Kd.R_new' (Kd.R_new' (Kd.R_new' ho0 (Kd.R_lt (by (with_reducible repeat (first | apply a1 | apply a2 | apply a3)); exact HO367.out))) (Kd.R_lt (by (with_reducible repeat (first | apply a1 | apply a2 | apply a3)); exact HO370.out))) (Kd.R_lt (by (with_reducible repeat (first | apply a1 | apply a2 | apply a3)); exact HO373.out))) (Kd.R_lt (by (with_reducible repeat (first | apply a1 | apply a2 | apply a3)); exact HO377.out))) (Kd.R_lt (by (with_reducible repeat (first | apply a1 | apply a2 | apply a3)); exact HO381.out))) (Kd.R_lt (by (with_reducible repeat (first | apply a1 | apply a2 | apply a3)); exact HO386.out))) (below_size (by repeat (first | (with_reducible first | exact HB.out | apply below_alloc | apply pw_below_drewN | apply below_drew1) | exact HB.out))))
                      have n7_ := Aside0.mk (below_step (by repeat (first | (with_reducible first | exact HB.out | apply below_alloc | apply pw_below_drewN | apply below_drew1) | exact HB.out)) hb)
                      clear HO367
                      clear HO370
                      clear HO373
                      clear HO377
                      clear HO381
                      clear HO386
                      clear HB
                      have HO367 := n0_
                      have HO370 := n1_
                      have HO373 := n2_
                      have HO377 := n3_
                      have HO381 := n4_
                      have HO386 := n5_
                      have HO389 := n6_
                      have HB := n7_
                      clear n0_ n1_ n2_ n3_ n4_ n5_ n6_ n7_
                      (try clear hb)
                      (try clear hb2)
                      (try clear hk)
                      (try clear hi)
                      (try clear ho0)
                      refine hK.out _ _ trivial (fun hHeld => ?_)
                      clear hK K
                      refine norm_ (a' := ?_) ?_ ?_
                      rotate_left
                      · show Act.put _ (some 42) _ = _
                        simp only [Act.put, s1, s2, s3, i64_w, i32_w]
                        rfl
                      exact norm_ (by first | (simp only [putAll, Act.put, s1, s2, s3]; done) | (simp only [putAll, Act.put, s1, s2, s3]; rfl) | (simp only [putAll, Act.put, s1, s2, s3, c20b1, c21b0, c27b1]; try rfl)) (hJ3 (v388) _ ⟨(by (with_reducible repeat (first | apply a1 | apply a2 | apply a3)); exact Kd.R_mono HO367.out (fun _ hk => ⟨hk.1.1.1.1.1.2, ⟨hk.1.1.1.1.2, ⟨hk.1.1.1.2, ⟨hk.1.1.2, ⟨hk.1.2, hk.2⟩⟩⟩⟩⟩)), (by (with_reducible repeat (first | apply a1 | apply a2 | apply a3)); exact Kd.R_mono HO370.out (fun _ hk => ⟨hk.1.1.1.1.1.2, ⟨hk.1.1.1.1.2, ⟨hk.1.1.1.2, ⟨hk.1.1.2, ⟨hk.1.2, hk.2⟩⟩⟩⟩⟩)), (by (with_reducible repeat (first | apply a1 | apply a2 | apply a3)); exact Kd.R_mono HO373.out (fun _ hk => ⟨hk.1.1.1.1.1.2, ⟨hk.1.1.1.1.2, ⟨hk.1.1.1.2, ⟨hk.1.1.2, ⟨hk.1.2, hk.2⟩⟩⟩⟩⟩)), (by (with_reducible repeat (first | apply a1 | apply a2 | apply a3)); exact Kd.R_mono HO377.out (fun _ hk => ⟨hk.1.1.1.1.1.2, ⟨hk.1.1.1.1.2, ⟨hk.1.1.1.2, ⟨hk.1.1.2, ⟨hk.1.2, hk.2⟩⟩⟩⟩⟩)), (by (with_reducible repeat (first | apply a1 | apply a2 | apply a3)); exact Kd.R_mono HO381.out (fun _ hk => ⟨hk.1.1.1.1.1.2, ⟨hk.1.1.1.1.2, ⟨hk.1.1.1.2, ⟨hk.1.1.2, ⟨hk.1.2, hk.2⟩⟩⟩⟩⟩)), (by (with_reducible repeat (first | apply a1 | apply a2 | apply a3)); exact Kd.R_mono HO386.out (fun _ hk => ⟨hk.1.1.1.1.1.2, ⟨hk.1.1.1.1.2, ⟨hk.1.1.1.2, ⟨hk.1.1.2, ⟨hk.1.2, hk.2⟩⟩⟩⟩⟩)), (by (with_reducible repeat (first | apply a1 | apply a2 | apply a3)); exact Kd.R_mono HO389.out (fun _ hk => ⟨hk.1.1.1.1.1.2, ⟨hk.1.1.1.1.2, ⟨hk.1.1.1.2, ⟨hk.1.1.2, ⟨hk.1.2, hk.2⟩⟩⟩⟩⟩)), (by repeat (first | (with_reducible first | exact HB.out | apply below_alloc | apply pw_below_drewN | apply below_drew1) | exact HB.out))⟩)
                    skip
                    rintro v388 w40 ⟨h0_, h1_, h2_, h3_, h4_, h5_, h6_, h7_⟩
                    have n0_ : Aside0 (Kd.R (Kd.int .u8) 5 w40 w.heap.size (fun k_ => some k_ ≠ ob v369 ∧ some k_ ≠ ob (.slice Ao15 t371.length co15) ∧ some k_ ≠ ob v376 ∧ some k_ ≠ ob v380 ∧ some k_ ≠ ob v385 ∧ some k_ ≠ ob v388) (.slice Ao12 t365.length co12) t365) := ⟨h0_⟩
                    have n1_ : Aside0 (Kd.R (Kd.int .u8) 5 w40 w.heap.size (fun k_ => some k_ ≠ ob (.slice Ao12 t365.length co12) ∧ some k_ ≠ ob (.slice Ao15 t371.length co15) ∧ some k_ ≠ ob v376 ∧ some k_ ≠ ob v380 ∧ some k_ ≠ ob v385 ∧ some k_ ≠ ob v388) v369 t368) := ⟨h1_⟩
                    have n2_ : Aside0 (Kd.R (Kd.int .u8) 5 w40 w.heap.size (fun k_ => some k_ ≠ ob (.slice Ao12 t365.length co12) ∧ some k_ ≠ ob v369 ∧ some k_ ≠ ob v376 ∧ some k_ ≠ ob v380 ∧ some k_ ≠ ob v385 ∧ some k_ ≠ ob v388) (.slice Ao15 t371.length co15) t371) := ⟨h2_⟩
                    have n3_ : Aside0 (Kd.R (Kd.int .u8) 5 w40 w.heap.size (fun k_ => some k_ ≠ ob (.slice Ao12 t365.length co12) ∧ some k_ ≠ ob v369 ∧ some k_ ≠ ob (.slice Ao15 t371.length co15) ∧ some k_ ≠ ob v380 ∧ some k_ ≠ ob v385 ∧ some k_ ≠ ob v388) v376 t374) := ⟨h3_⟩
                    have n4_ : Aside0 (Kd.R (Kd.int .u8) 5 w40 w.heap.size (fun k_ => some k_ ≠ ob (.slice Ao12 t365.length co12) ∧ some k_ ≠ ob v369 ∧ some k_ ≠ ob (.slice Ao15 t371.length co15) ∧ some k_ ≠ ob v376 ∧ some k_ ≠ ob v385 ∧ some k_ ≠ ob v388) v380 t378) := ⟨h4_⟩
                    have n5_ : Aside0 (Kd.R (Kd.int .u8) 5 w40 w.heap.size (fun k_ => some k_ ≠ ob (.slice Ao12 t365.length co12) ∧ some k_ ≠ ob v369 ∧ some k_ ≠ ob (.slice Ao15 t371.length co15) ∧ some k_ ≠ ob v376 ∧ some k_ ≠ ob v380 ∧ some k_ ≠ ob v388) v385 t382) := ⟨h5_⟩
                    have n6_ : Aside0 (Kd.R (Kd.int .u8) 5 w40 w.heap.size (fun k_ => some k_ ≠ ob (.slice Ao12 t365.length co12) ∧ some k_ ≠ ob v369 ∧ some k_ ≠ ob (.slice Ao15 t371.length co15) ∧ some k_ ≠ ob v376 ∧ some k_ ≠ ob v380 ∧ some k_ ≠ ob v385) v388 t387) := ⟨h6_⟩
                    have n7_ : Aside0 (Below w.heap.size w w40) := ⟨h7_⟩
                    clear HO367
                    clear HO370
                    clear HO373
                    clear HO377
                    clear HO381
                    clear HO386
                    clear HB
                    clear h0_ h1_ h2_ h3_ h4_ h5_ h6_ h7_
                    have HO367 := n0_
                    have HO370 := n1_
                    have HO373 := n2_
                    have HO377 := n3_
                    have HO381 := n4_
                    have HO386 := n5_
                    have HO389 := n6_
                    have HB := n7_
                    clear n0_ n1_ n2_ n3_ n4_ n5_ n6_ n7_
                    have hHeld := trivial
                    refine norm_ (a' := ?_) ?_ ?_
                    rotate_left
                    · simp only [putAll, Act.put, s1, s2, s3]
                      rfl
                    refine two_ (i := 1) (j := 4) (Ni := some 40) (Nj := some 43) #[T,T,T,T,F,F,F,F,F,F,F,F,F,F,F,F,F,F,F,F,F,F,F,F,F,F,F,F,F] #[T,F,T,T,T,F,F,F,F,F,F,F,F,F,F,F,F,F,F,F,F,F,F,F,F,F,F,F,F] rfl rfl rfl rfl (two_of HT_.out (by kernel_rfl)) (by decide) (by decide) (fun K hK => ?_) (fun K hK => ?_)
                    · skip
                      have hcv41 := own_string (P := Try.prog) Try.underlying22 Try.underlying5 Try.underlying9 (Kd.own_of_R HO370.out)
                      refine value_ (w1 := ?_) (v := ?_) (by first | rfl | (simp only [c20b1, c21b0, c27b1]; rfl)) rfl ?_ ?_
                      rotate_left 2
                      · go_simp
                        constructor
                        · rfl
                        rfl
                      clear hcv41
                      refine hK.out _ _ trivial (fun hHeld => ?_)
                      clear hK K
                      refine norm_ (a' := ?_) ?_ ?_
                      rotate_left
                      · show Act.put _ (some 40) _ = _
                        simp only [Act.put, s1, s2, s3, i64_w, i32_w]
                        rfl
                      exact norm_ (by first | (simp only [putAll, Act.put, s1, s2, s3]; done) | (simp only [putAll, Act.put, s1, s2, s3]; rfl) | (simp only [putAll, Act.put, s1, s2, s3, c20b1, c21b0, c27b1]; try rfl)) (hJ1_3 (v388) _ ⟨(by (with_reducible repeat (first | apply a1 | apply a2 | apply a3)); exact HO367.out), (by (with_reducible repeat (first | apply a1 | apply a2 | apply a3)); exact HO370.out), (by (with_reducible repeat (first | apply a1 | apply a2 | apply a3)); exact HO373.out), (by (with_reducible repeat (first | apply a1 | apply a2 | apply a3)); exact HO377.out), (by (with_reducible repeat (first | apply a1 | apply a2 | apply a3)); exact HO381.out), (by (with_reducible repeat (first | apply a1 | apply a2 | apply a3)); exact HO386.out), (by (with_reducible repeat (first | apply a1 | apply a2 | apply a3)); exact HO389.out), (by repeat (first | (with_reducible first | exact HB.out | apply below_alloc | apply pw_below_drewN | apply below_drew1) | exact HB.out))⟩)
                    skip
                    have hcv41 := own_string (P := Try.prog) Try.underlying22 Try.underlying5 Try.underlying9 (Kd.own_of_R HO389.out)
                    refine value_ (w1 := ?_) (v := ?_) (by first | rfl | (simp only [c20b1, c21b0, c27b1]; rfl)) rfl ?_ ?_
                    rotate_left 2
                    · go_simp
                      constructor
                      · rfl
                      rfl
                    clear hcv41
                    refine hK.out _ _ trivial (fun hHeld => ?_)
                    clear hK K
                    refine norm_ (a' := ?_) ?_ ?_
                    rotate_left
                    · show Act.put _ (some 43) _ = _
                      simp only [Act.put, s1, s2, s3, i64_w, i32_w]
                      rfl
                    exact norm_ (by first | (simp only [putAll, Act.put, s1, s2, s3]; done) | (simp only [putAll, Act.put, s1, s2, s3]; rfl) | (simp only [putAll, Act.put, s1, s2, s3, c20b1, c21b0, c27b1]; try rfl)) (hJ3_4 (v388) _ ⟨(by (with_reducible repeat (first | apply a1 | apply a2 | apply a3)); exact HO367.out), (by (with_reducible repeat (first | apply a1 | apply a2 | apply a3)); exact HO370.out), (by (with_reducible repeat (first | apply a1 | apply a2 | apply a3)); exact HO373.out), (by (with_reducible repeat (first | apply a1 | apply a2 | apply a3)); exact HO377.out), (by (with_reducible repeat (first | apply a1 | apply a2 | apply a3)); exact HO381.out), (by (with_reducible repeat (first | apply a1 | apply a2 | apply a3)); exact HO386.out), (by (with_reducible repeat (first | apply a1 | apply a2 | apply a3)); exact HO389.out), (by repeat (first | (with_reducible first | exact HB.out | apply below_alloc | apply pw_below_drewN | apply below_drew1) | exact HB.out))⟩)
                  skip
                  rintro _ w40 ⟨h0_, h1_, h2_, h3_, h4_, h5_, h6_⟩
                  have n0_ : Aside0 (Kd.R (Kd.int .u8) 5 w40 w.heap.size (fun k_ => some k_ ≠ ob v369 ∧ some k_ ≠ ob (.slice Ao15 t371.length co15) ∧ some k_ ≠ ob v376 ∧ some k_ ≠ ob v380 ∧ some k_ ≠ ob v385) (.slice Ao12 t365.length co12) t365) := ⟨h0_⟩
                  have n1_ : Aside0 (Kd.R (Kd.int .u8) 5 w40 w.heap.size (fun k_ => some k_ ≠ ob (.slice Ao12 t365.length co12) ∧ some k_ ≠ ob (.slice Ao15 t371.length co15) ∧ some k_ ≠ ob v376 ∧ some k_ ≠ ob v380 ∧ some k_ ≠ ob v385) v369 t368) := ⟨h1_⟩
                  have n2_ : Aside0 (Kd.R (Kd.int .u8) 5 w40 w.heap.size (fun k_ => some k_ ≠ ob (.slice Ao12 t365.length co12) ∧ some k_ ≠ ob v369 ∧ some k_ ≠ ob v376 ∧ some k_ ≠ ob v380 ∧ some k_ ≠ ob v385) (.slice Ao15 t371.length co15) t371) := ⟨h2_⟩
                  have n3_ : Aside0 (Kd.R (Kd.int .u8) 5 w40 w.heap.size (fun k_ => some k_ ≠ ob (.slice Ao12 t365.length co12) ∧ some k_ ≠ ob v369 ∧ some k_ ≠ ob (.slice Ao15 t371.length co15) ∧ some k_ ≠ ob v380 ∧ some k_ ≠ ob v385) v376 t374) := ⟨h3_⟩
                  have n4_ : Aside0 (Kd.R (Kd.int .u8) 5 w40 w.heap.size (fun k_ => some k_ ≠ ob (.slice Ao12 t365.length co12) ∧ some k_ ≠ ob v369 ∧ some k_ ≠ ob (.slice Ao15 t371.length co15) ∧ some k_ ≠ ob v376 ∧ some k_ ≠ ob v385) v380 t378) := ⟨h4_⟩
                  have n5_ : Aside0 (Kd.R (Kd.int .u8) 5 w40 w.heap.size (fun k_ => some k_ ≠ ob (.slice Ao12 t365.length co12) ∧ some k_ ≠ ob v369 ∧ some k_ ≠ ob (.slice Ao15 t371.length co15) ∧ some k_ ≠ ob v376 ∧ some k_ ≠ ob v380) v385 t382) := ⟨h5_⟩
                  have n6_ : Aside0 (Below w.heap.size w w40) := ⟨h6_⟩
                  clear HO367
                  clear HO370
                  clear HO373
                  clear HO377
                  clear HO381
                  clear HO386
                  clear HB
                  clear h0_ h1_ h2_ h3_ h4_ h5_ h6_
                  have HO367 := n0_
                  have HO370 := n1_
                  have HO373 := n2_
                  have HO377 := n3_
                  have HO381 := n4_
                  have HO386 := n5_
                  have HB := n6_
                  clear n0_ n1_ n2_ n3_ n4_ n5_ n6_
                  have hHeld := trivial
                  refine norm_ (a' := ?_) ?_ ?_
                  rotate_left
                  · simp only [putAll, Act.put, s1, s2, s3]
                    rfl
                  refine one_ (i := 3) (N := some 42) #[T,T,T,T,F,F,F,F,F,F,F,F,F,F,F,F,F,F,F,F,F,F,F,F,F,F,F,F,F] rfl rfl (one_of HT_.out (by kernel_rfl)) (by decide) (fun K hK => ?_)
                  refine goes_ Try.func45 (by kernel_rfl) rfl #[.slice Ao12 t365.length co12] (by rfl) rfl rfl (by (try simp only [List.map_toArray, List.map_cons, List.map_nil]); first | done | rfl | (simp only [List.length_drop, List.length_take]; rfl)) ?_
                  with_reducible refine (spec_Squeeze.calls k _ _ t365 t387 _ ?side1 ?side2 A19.out).mono ?_
                  (case side1 => repeat (first | exact (Kd.R_reads' HO367.out).2.2 | (with_reducible refine Kd.C_alloc ?_ _) | (with_reducible refine Kd.C_drewN ?_ _) | (with_reducible refine Kd.C_drew ?_)))
                  (case side2 => exact (Kd.R_reads' HO367.out).2.1)
                  rintro e w41 ⟨v388, rfl, ho0, hb⟩
                  refine ⟨_, rfl, ?_⟩
                  have n0_ := Aside0.mk (Kd.R_elder' (by (with_reducible repeat (first | apply a1 | apply a2 | apply a3)); exact HO367.out) (Kd.R_base ho0) hb)
                  have n1_ := Aside0.mk (Kd.R_elder' (by (with_reducible repeat (first | apply a1 | apply a2 | apply a3)); exact HO370.out) (Kd.R_base ho0) hb)
                  have n2_ := Aside0.mk (Kd.R_elder' (by (with_reducible repeat (first | apply a1 | apply a2 | apply a3)); exact HO373.out) (Kd.R_base ho0) hb)
                  have n3_ := Aside0.mk (Kd.R_elder' (by (with_reducible repeat (first | apply a1 | apply a2 | apply a3)); exact HO377.out) (Kd.R_base ho0) hb)
                  have n4_ := Aside0.mk (Kd.R_elder' (by (with_reducible repeat (first | apply a1 | apply a2 | apply a3)); exact HO381.out) (Kd.R_base ho0) hb)
                  have n5_ := Aside0.mk (Kd.R_elder' (by (with_reducible repeat (first | apply a1 | apply a2 | apply a3)); exact HO386.out) (Kd.R_base ho0) hb)
                  have n6_ := Aside0.mk (Kd.R_lower (Kd.R_new' (Kd.R_new' (Kd.R_new' (Kd.R_new' (Kd.R_new' (Kd.R_new' ho0 (Kd.R_lt (by (with_reducible repeat (first | apply a1 | apply a2 | apply a3)); exact HO367.out))) (Kd.R_lt (by (with_reducible repeat (first | apply a1 | apply a2 | apply a3)); exact HO370.out))) (Kd.R_lt (by (with_reducible repeat (first | apply a1 | apply a2 | apply a3)); exact HO373.out))) (Kd.R_lt (by (with_reducible repeat (first | apply a1 | apply a2 | apply a3)); exact HO377.out))) (Kd.R_lt (by (with_reducible repeat (first | apply a1 | apply a2 | apply a3)); exact HO381.out))) (Kd.R_lt (by (with_reducible repeat (first | apply a1 | apply a2 | apply a3)); exact HO386.out))) (below_size (by repeat (first | (with_reducible first | exact HB.out | apply below_alloc | apply pw_below_drewN | apply below_drew1) | exact HB.out))))
                  have n7_ := Aside0.mk (below_step (by repeat (first | (with_reducible first | exact HB.out | apply below_alloc | apply pw_below_drewN | apply below_drew1) | exact HB.out)) hb)
                  clear HO367
                  clear HO370
                  clear HO373
                  clear HO377
                  clear HO381
                  clear HO386
                  clear HB
                  have HO367 := n0_
                  have HO370 := n1_
                  have HO373 := n2_
                  have HO377 := n3_
                  have HO381 := n4_
                  have HO386 := n5_
                  have HO389 := n6_
                  have HB := n7_
                  clear n0_ n1_ n2_ n3_ n4_ n5_ n6_ n7_
                  (try clear hb)
                  (try clear hb2)
                  (try clear hk)
                  (try clear hi)
                  (try clear ho0)
                  refine hK.out _ _ trivial (fun hHeld => ?_)
                  clear hK K
                  refine norm_ (a' := ?_) ?_ ?_
                  rotate_left
                  · show Act.put _ (some 42) _ = _
                    simp only [Act.put, s1, s2, s3, i64_w, i32_w]
                    rfl
                  exact norm_ (by first | (simp only [putAll, Act.put, s1, s2, s3]; done) | (simp only [putAll, Act.put, s1, s2, s3]; rfl) | (simp only [putAll, Act.put, s1, s2, s3, c20b1, c21b0, c27b1]; try rfl)) (hJ1_3 (v388) _ ⟨(by (with_reducible repeat (first | apply a1 | apply a2 | apply a3)); exact Kd.R_mono HO367.out (fun _ hk => ⟨hk.1.1, ⟨hk.1.2.1, ⟨hk.1.2.2.1, ⟨hk.1.2.2.2.1, ⟨hk.1.2.2.2.2, hk.2⟩⟩⟩⟩⟩)), (by (with_reducible repeat (first | apply a1 | apply a2 | apply a3)); exact Kd.R_mono HO370.out (fun _ hk => ⟨hk.1.1, ⟨hk.1.2.1, ⟨hk.1.2.2.1, ⟨hk.1.2.2.2.1, ⟨hk.1.2.2.2.2, hk.2⟩⟩⟩⟩⟩)), (by (with_reducible repeat (first | apply a1 | apply a2 | apply a3)); exact Kd.R_mono HO373.out (fun _ hk => ⟨hk.1.1, ⟨hk.1.2.1, ⟨hk.1.2.2.1, ⟨hk.1.2.2.2.1, ⟨hk.1.2.2.2.2, hk.2⟩⟩⟩⟩⟩)), (by (with_reducible repeat (first | apply a1 | apply a2 | apply a3)); exact Kd.R_mono HO377.out (fun _ hk => ⟨hk.1.1, ⟨hk.1.2.1, ⟨hk.1.2.2.1, ⟨hk.1.2.2.2.1, ⟨hk.1.2.2.2.2, hk.2⟩⟩⟩⟩⟩)), (by (with_reducible repeat (first | apply a1 | apply a2 | apply a3)); exact Kd.R_mono HO381.out (fun _ hk => ⟨hk.1.1, ⟨hk.1.2.1, ⟨hk.1.2.2.1, ⟨hk.1.2.2.2.1, ⟨hk.1.2.2.2.2, hk.2⟩⟩⟩⟩⟩)), (by (with_reducible repeat (first | apply a1 | apply a2 | apply a3)); exact Kd.R_mono HO386.out (fun _ hk => ⟨hk.1.1, ⟨hk.1.2.1, ⟨hk.1.2.2.1, ⟨hk.1.2.2.2.1, ⟨hk.1.2.2.2.2, hk.2⟩⟩⟩⟩⟩)), (by (with_reducible repeat (first | apply a1 | apply a2 | apply a3)); exact Kd.R_mono HO389.out (fun _ hk => ⟨hk.1.1.1.1.1.2, ⟨hk.1.1.1.1.2, ⟨hk.1.1.1.2, ⟨hk.1.1.2, ⟨hk.1.2, hk.2⟩⟩⟩⟩⟩)), (by repeat (first | (with_reducible first | exact HB.out | apply below_alloc | apply pw_below_drewN | apply below_drew1) | exact HB.out))⟩)
                skip
                rintro v388 w41 ⟨h0_, h1_, h2_, h3_, h4_, h5_, h6_, h7_⟩
                have n0_ : Aside0 (Kd.R (Kd.int .u8) 5 w41 w.heap.size (fun k_ => some k_ ≠ ob v369 ∧ some k_ ≠ ob (.slice Ao15 t371.length co15) ∧ some k_ ≠ ob v376 ∧ some k_ ≠ ob v380 ∧ some k_ ≠ ob v385 ∧ some k_ ≠ ob v388) (.slice Ao12 t365.length co12) t365) := ⟨h0_⟩
                have n1_ : Aside0 (Kd.R (Kd.int .u8) 5 w41 w.heap.size (fun k_ => some k_ ≠ ob (.slice Ao12 t365.length co12) ∧ some k_ ≠ ob (.slice Ao15 t371.length co15) ∧ some k_ ≠ ob v376 ∧ some k_ ≠ ob v380 ∧ some k_ ≠ ob v385 ∧ some k_ ≠ ob v388) v369 t368) := ⟨h1_⟩
                have n2_ : Aside0 (Kd.R (Kd.int .u8) 5 w41 w.heap.size (fun k_ => some k_ ≠ ob (.slice Ao12 t365.length co12) ∧ some k_ ≠ ob v369 ∧ some k_ ≠ ob v376 ∧ some k_ ≠ ob v380 ∧ some k_ ≠ ob v385 ∧ some k_ ≠ ob v388) (.slice Ao15 t371.length co15) t371) := ⟨h2_⟩
                have n3_ : Aside0 (Kd.R (Kd.int .u8) 5 w41 w.heap.size (fun k_ => some k_ ≠ ob (.slice Ao12 t365.length co12) ∧ some k_ ≠ ob v369 ∧ some k_ ≠ ob (.slice Ao15 t371.length co15) ∧ some k_ ≠ ob v380 ∧ some k_ ≠ ob v385 ∧ some k_ ≠ ob v388) v376 t374) := ⟨h3_⟩
                have n4_ : Aside0 (Kd.R (Kd.int .u8) 5 w41 w.heap.size (fun k_ => some k_ ≠ ob (.slice Ao12 t365.length co12) ∧ some k_ ≠ ob v369 ∧ some k_ ≠ ob (.slice Ao15 t371.length co15) ∧ some k_ ≠ ob v376 ∧ some k_ ≠ ob v385 ∧ some k_ ≠ ob v388) v380 t378) := ⟨h4_⟩
                have n5_ : Aside0 (Kd.R (Kd.int .u8) 5 w41 w.heap.size (fun k_ => some k_ ≠ ob (.slice Ao12 t365.length co12) ∧ some k_ ≠ ob v369 ∧ some k_ ≠ ob (.slice Ao15 t371.length co15) ∧ some k_ ≠ ob v376 ∧ some k_ ≠ ob v380 ∧ some k_ ≠ ob v388) v385 t382) := ⟨h5_⟩
                have n6_ : Aside0 (Kd.R (Kd.int .u8) 5 w41 w.heap.size (fun k_ => some k_ ≠ ob (.slice Ao12 t365.length co12) ∧ some k_ ≠ ob v369 ∧ some k_ ≠ ob (.slice Ao15 t371.length co15) ∧ some k_ ≠ ob v376 ∧ some k_ ≠ ob v380 ∧ some k_ ≠ ob v385) v388 t387) := ⟨h6_⟩
                have n7_ : Aside0 (Below w.heap.size w w41) := ⟨h7_⟩
                clear HO367
                clear HO370
                clear HO373
                clear HO377
                clear HO381
                clear HO386
                clear HB
                clear h0_ h1_ h2_ h3_ h4_ h5_ h6_ h7_
                have HO367 := n0_
                have HO370 := n1_
                have HO373 := n2_
                have HO377 := n3_
                have HO381 := n4_
                have HO386 := n5_
                have HO389 := n6_
                have HB := n7_
                clear n0_ n1_ n2_ n3_ n4_ n5_ n6_ n7_
                have hHeld := trivial
                refine norm_ (a' := ?_) ?_ ?_
                rotate_left
                · simp only [putAll, Act.put, s1, s2, s3]
                  rfl
                refine one_ (i := 1) (N := some 40) #[T,T,T,T,T,F,F,F,F,F,F,F,F,F,F,F,F,F,F,F,F,F,F,F,F,F,F,F,F] rfl rfl (one_of HT_.out (by kernel_rfl)) (by decide) (fun K hK => ?_)
                have hcv42 := own_string (P := Try.prog) Try.underlying22 Try.underlying5 Try.underlying9 (Kd.own_of_R HO370.out)
                refine value_ (w1 := ?_) (v := ?_) (by first | rfl | (simp only [c20b1, c21b0, c27b1]; rfl)) rfl ?_ ?_
                rotate_left 2
                · go_simp
                  constructor
                  · rfl
                  rfl
                clear hcv42
                refine hK.out _ _ trivial (fun hHeld => ?_)
                clear hK K
                refine norm_ (a' := ?_) ?_ ?_
                rotate_left
                · show Act.put _ (some 40) _ = _
                  simp only [Act.put, s1, s2, s3, i64_w, i32_w]
                  rfl
                refine pure_ (i := 5) (N := some 44) (v := ?_) (a' := ?_) #[T,T,T,T,T,T,F,F,F,F,F,F,F,F,F,F,F,F,F,F,F,F,F,F,F,F,F,F,F] rfl rfl (any_of HT_.out (by kernel_rfl)) (fun _ _ _ h => h) (Or.inl ⟨by first | rfl | (simp only [c20b1, c21b0, c27b1]; rfl), ?_⟩) ?_ ?_
                rotate_left
                · intro w'
                  go_simp
                  with_reducible rfl
                rotate_left
                · simp only [Act.put, s1, s2, s3, i64_w, i32_w]
                  rfl
                refine pure_ (i := 6) (N := some 45) (v := ?_) (a' := ?_) #[T,T,T,T,T,T,T,F,F,F,F,F,F,F,F,F,F,F,F,F,F,F,F,F,F,F,F,F,F] rfl rfl (any_of HT_.out (by kernel_rfl)) (fun _ _ _ h => h) (Or.inl ⟨by first | rfl | (simp only [c20b1, c21b0, c27b1]; rfl), ?_⟩) ?_ ?_
                rotate_left
                · intro w'
                  go_simp
                  with_reducible rfl
                rotate_left
                · simp only [Act.put, s1, s2, s3, i64_w, i32_w]
                  rfl
                refine pure_ (i := 7) (N := some 46) (v := ?_) (a' := ?_) #[T,T,T,T,T,T,T,T,F,F,F,F,F,F,F,F,F,F,F,F,F,F,F,F,F,F,F,F,F] rfl rfl (any_of HT_.out (by kernel_rfl)) (fun _ _ _ h => h) (Or.inl ⟨by first | rfl | (simp only [c20b1, c21b0, c27b1]; rfl), ?_⟩) ?_ ?_
                rotate_left
                · intro w'
                  go_simp
                  with_reducible rfl
                rotate_left
                · simp only [Act.put, s1, s2, s3, i64_w, i32_w]
                  rfl
                refine pure_ (i := 8) (N := some 47) (v := ?_) (a' := ?_) #[T,T,T,T,T,T,T,T,T,F,F,F,F,F,F,F,F,F,F,F,F,F,F,F,F,F,F,F,F] rfl rfl (any_of HT_.out (by kernel_rfl)) (fun _ _ _ h => h) (Or.inl ⟨by first | rfl | (simp only [c20b1, c21b0, c27b1]; rfl), ?_⟩) ?_ ?_
                rotate_left
                · intro w'
                  go_simp
                  with_reducible rfl
                rotate_left
                · simp only [Act.put, s1, s2, s3, i64_w, i32_w]
                  rfl
                refine pure_ (i := 9) (N := some 48) (v := ?_) (a' := ?_) #[T,T,T,T,T,T,T,T,T,T,F,F,F,F,F,F,F,F,F,F,F,F,F,F,F,F,F,F,F] rfl rfl (any_of HT_.out (by kernel_rfl)) (fun _ _ _ h => h) (Or.inl ⟨by first | rfl | (simp only [c20b1, c21b0, c27b1]; rfl), ?_⟩) ?_ ?_
                rotate_left
                · intro w'
                  go_simp
                  with_reducible rfl
                rotate_left
                · simp only [Act.put, s1, s2, s3, i64_w, i32_w]
                  rfl
                refine pure_ (i := 10) (N := some 49) (v := ?_) (a' := ?_) #[T,T,T,T,T,T,T,T,T,T,T,F,F,F,F,F,F,F,F,F,F,F,F,F,F,F,F,F,F] rfl rfl (any_of HT_.out (by kernel_rfl)) (fun _ _ _ h => h) (Or.inl ⟨by first | rfl | (simp only [c20b1, c21b0, c27b1]; rfl), ?_⟩) ?_ ?_
                rotate_left
                · intro w'
                  go_simp
                  with_reducible rfl
                rotate_left
                · simp only [Act.put, s1, s2, s3, i64_w, i32_w]
                  rfl
                refine pure_ (i := 11) (N := some 50) (v := ?_) (a' := ?_) #[T,T,T,T,T,T,T,T,T,T,T,T,F,F,F,F,F,F,F,F,F,F,F,F,F,F,F,F,F] rfl rfl (any_of HT_.out (by kernel_rfl)) (fun _ _ _ h => h) (Or.inl ⟨by first | rfl | (simp only [c20b1, c21b0, c27b1]; rfl), ?_⟩) ?_ ?_
                rotate_left
                · intro w'
                  go_simp
                  with_reducible rfl
                rotate_left
                · simp only [Act.put, s1, s2, s3, i64_w, i32_w]
                  rfl
                refine pure_ (i := 12) (N := some 51) (v := ?_) (a' := ?_) #[T,T,T,T,T,T,T,T,T,T,T,T,T,F,F,F,F,F,F,F,F,F,F,F,F,F,F,F,F] rfl rfl (any_of HT_.out (by kernel_rfl)) (fun _ _ _ h => h) (Or.inl ⟨by first | rfl | (simp only [c20b1, c21b0, c27b1]; rfl), ?_⟩) ?_ ?_
                rotate_left
                · intro w'
                  go_simp
                  with_reducible rfl
                rotate_left
                · simp only [Act.put, s1, s2, s3, i64_w, i32_w]
                  rfl
                refine pure_ (i := 14) (N := some 53) (v := ?_) (a' := ?_) #[T,T,T,T,T,T,T,T,T,T,T,T,T,F,T,F,F,F,F,F,F,F,F,F,F,F,F,F,F] rfl rfl (any_of HT_.out (by kernel_rfl)) (fun _ _ _ h => h) (Or.inl ⟨by first | rfl | (simp only [c20b1, c21b0, c27b1]; rfl), ?_⟩) ?_ ?_
                rotate_left
                · intro w'
                  go_simp
                  with_reducible rfl
                rotate_left
                · simp only [Act.put, s1, s2, s3, i64_w, i32_w]
                  rfl
                exact norm_ (by first | (simp only [putAll, Act.put, s1, s2, s3]; done) | (simp only [putAll, Act.put, s1, s2, s3]; rfl) | (simp only [putAll, Act.put, s1, s2, s3, c20b1, c21b0, c27b1]; try rfl)) (hJ1_3_4 (v388) _ ⟨(by (with_reducible repeat (first | apply a1 | apply a2 | apply a3)); exact HO367.out), (by (with_reducible repeat (first | apply a1 | apply a2 | apply a3)); exact HO370.out), (by (with_reducible repeat (first | apply a1 | apply a2 | apply a3)); exact HO373.out), (by (with_reducible repeat (first | apply a1 | apply a2 | apply a3)); exact HO377.out), (by (with_reducible repeat (first | apply a1 | apply a2 | apply a3)); exact HO381.out), (by (with_reducible repeat (first | apply a1 | apply a2 | apply a3)); exact HO386.out), (by (with_reducible repeat (first | apply a1 | apply a2 | apply a3)); exact HO389.out), (by repeat (first | (with_reducible first | exact HB.out | apply below_alloc | apply pw_below_drewN | apply below_drew1) | exact HB.out))⟩)
              skip
              rintro v388 w41 ⟨h0_, h1_, h2_, h3_, h4_, h5_, h6_, h7_⟩
              have n0_ : Aside0 (Kd.R (Kd.int .u8) 5 w41 w.heap.size (fun k_ => some k_ ≠ ob v369 ∧ some k_ ≠ ob (.slice Ao15 t371.length co15) ∧ some k_ ≠ ob v376 ∧ some k_ ≠ ob v380 ∧ some k_ ≠ ob v385 ∧ some k_ ≠ ob v388) (.slice Ao12 t365.length co12) t365) := ⟨h0_⟩
              have n1_ : Aside0 (Kd.R (Kd.int .u8) 5 w41 w.heap.size (fun k_ => some k_ ≠ ob (.slice Ao12 t365.length co12) ∧ some k_ ≠ ob (.slice Ao15 t371.length co15) ∧ some k_ ≠ ob v376 ∧ some k_ ≠ ob v380 ∧ some k_ ≠ ob v385 ∧ some k_ ≠ ob v388) v369 t368) := ⟨h1_⟩
              have n2_ : Aside0 (Kd.R (Kd.int .u8) 5 w41 w.heap.size (fun k_ => some k_ ≠ ob (.slice Ao12 t365.length co12) ∧ some k_ ≠ ob v369 ∧ some k_ ≠ ob v376 ∧ some k_ ≠ ob v380 ∧ some k_ ≠ ob v385 ∧ some k_ ≠ ob v388) (.slice Ao15 t371.length co15) t371) := ⟨h2_⟩
              have n3_ : Aside0 (Kd.R (Kd.int .u8) 5 w41 w.heap.size (fun k_ => some k_ ≠ ob (.slice Ao12 t365.length co12) ∧ some k_ ≠ ob v369 ∧ some k_ ≠ ob (.slice Ao15 t371.length co15) ∧ some k_ ≠ ob v380 ∧ some k_ ≠ ob v385 ∧ some k_ ≠ ob v388) v376 t374) := ⟨h3_⟩
              have n4_ : Aside0 (Kd.R (Kd.int .u8) 5 w41 w.heap.size (fun k_ => some k_ ≠ ob (.slice Ao12 t365.length co12) ∧ some k_ ≠ ob v369 ∧ some k_ ≠ ob (.slice Ao15 t371.length co15) ∧ some k_ ≠ ob v376 ∧ some k_ ≠ ob v385 ∧ some k_ ≠ ob v388) v380 t378) := ⟨h4_⟩
              have n5_ : Aside0 (Kd.R (Kd.int .u8) 5 w41 w.heap.size (fun k_ => some k_ ≠ ob (.slice Ao12 t365.length co12) ∧ some k_ ≠ ob v369 ∧ some k_ ≠ ob (.slice Ao15 t371.length co15) ∧ some k_ ≠ ob v376 ∧ some k_ ≠ ob v380 ∧ some k_ ≠ ob v388) v385 t382) := ⟨h5_⟩
              have n6_ : Aside0 (Kd.R (Kd.int .u8) 5 w41 w.heap.size (fun k_ => some k_ ≠ ob (.slice Ao12 t365.length co12) ∧ some k_ ≠ ob v369 ∧ some k_ ≠ ob (.slice Ao15 t371.length co15) ∧ some k_ ≠ ob v376 ∧ some k_ ≠ ob v380 ∧ some k_ ≠ ob v385) v388 t387) := ⟨h6_⟩
              have n7_ : Aside0 (Below w.heap.size w w41) := ⟨h7_⟩
              clear HO367
              clear HO370
              clear HO373
              clear HO377
              clear HO381
              clear HO386
              clear HB
              clear h0_ h1_ h2_ h3_ h4_ h5_ h6_ h7_
              have HO367 := n0_
              have HO370 := n1_
              have HO373 := n2_
              have HO377 := n3_
              have HO381 := n4_
              have HO386 := n5_
              have HO389 := n6_
              have HB := n7_
              clear n0_ n1_ n2_ n3_ n4_ n5_ n6_ n7_
              have hHeld := trivial
              refine norm_ (a' := ?_) ?_ ?_
              rotate_left
              · simp only [putAll, Act.put, s1, s2, s3]
                rfl
              refine one_ (i := 4) (N := some 43) #[T,T,T,T,T,F,F,F,F,F,F,F,F,F,F,F,F,F,F,F,F,F,F,F,F,F,F,F,F] rfl rfl (one_of HT_.out (by kernel_rfl)) (by decide) (fun K hK => ?_)
              have hcv42 := own_string (P := Try.prog) Try.underlying22 Try.underlying5 Try.underlying9 (Kd.own_of_R HO389.out)
              refine value_ (w1 := ?_) (v := ?_) (by first | rfl | (simp only [c20b1, c21b0, c27b1]; rfl)) rfl ?_ ?_
              rotate_left 2
              · go_simp
                constructor
                · rfl
                rfl
              clear hcv42
              refine hK.out _ _ trivial (fun hHeld => ?_)
              clear hK K
              refine norm_ (a' := ?_) ?_ ?_
              rotate_left
              · show Act.put _ (some 43) _ = _
                simp only [Act.put, s1, s2, s3, i64_w, i32_w]
                rfl
              refine pure_ (i := 5) (N := some 44) (v := ?_) (a' := ?_) #[T,T,T,T,T,T,F,F,F,F,F,F,F,F,F,F,F,F,F,F,F,F,F,F,F,F,F,F,F] rfl rfl (any_of HT_.out (by kernel_rfl)) (fun _ _ _ h => h) (Or.inl ⟨by first | rfl | (simp only [c20b1, c21b0, c27b1]; rfl), ?_⟩) ?_ ?_
              rotate_left
              · intro w'
                go_simp
                with_reducible rfl
              rotate_left
              · simp only [Act.put, s1, s2, s3, i64_w, i32_w]
                rfl
              refine pure_ (i := 6) (N := some 45) (v := ?_) (a' := ?_) #[T,T,T,T,T,T,T,F,F,F,F,F,F,F,F,F,F,F,F,F,F,F,F,F,F,F,F,F,F] rfl rfl (any_of HT_.out (by kernel_rfl)) (fun _ _ _ h => h) (Or.inl ⟨by first | rfl | (simp only [c20b1, c21b0, c27b1]; rfl), ?_⟩) ?_ ?_
              rotate_left
              · intro w'
                go_simp
                with_reducible rfl
              rotate_left
              · simp only [Act.put, s1, s2, s3, i64_w, i32_w]
                rfl
              refine pure_ (i := 7) (N := some 46) (v := ?_) (a' := ?_) #[T,T,T,T,T,T,T,T,F,F,F,F,F,F,F,F,F,F,F,F,F,F,F,F,F,F,F,F,F] rfl rfl (any_of HT_.out (by kernel_rfl)) (fun _ _ _ h => h) (Or.inl ⟨by first | rfl | (simp only [c20b1, c21b0, c27b1]; rfl), ?_⟩) ?_ ?_
              rotate_left
              · intro w'
                go_simp
                with_reducible rfl
              rotate_left
              · simp only [Act.put, s1, s2, s3, i64_w, i32_w]
                rfl
              refine pure_ (i := 8) (N := some 47) (v := ?_) (a' := ?_) #[T,T,T,T,T,T,T,T,T,F,F,F,F,F,F,F,F,F,F,F,F,F,F,F,F,F,F,F,F] rfl rfl (any_of HT_.out (by kernel_rfl)) (fun _ _ _ h => h) (Or.inl ⟨by first | rfl | (simp only [c20b1, c21b0, c27b1]; rfl), ?_⟩) ?_ ?_
              rotate_left
              · intro w'
                go_simp
                with_reducible rfl
              rotate_left
              · simp only [Act.put, s1, s2, s3, i64_w, i32_w]
                rfl
              refine pure_ (i := 9) (N := some 48) (v := ?_) (a' := ?_) #[T,T,T,T,T,T,T,T,T,T,F,F,F,F,F,F,F,F,F,F,F,F,F,F,F,F,F,F,F] rfl rfl (any_of HT_.out (by kernel_rfl)) (fun _ _ _ h => h) (Or.inl ⟨by first | rfl | (simp only [c20b1, c21b0, c27b1]; rfl), ?_⟩) ?_ ?_
              rotate_left
              · intro w'
                go_simp
                with_reducible rfl
              rotate_left
              · simp only [Act.put, s1, s2, s3, i64_w, i32_w]
                rfl
              refine pure_ (i := 10) (N := some 49) (v := ?_) (a' := ?_) #[T,T,T,T,T,T,T,T,T,T,T,F,F,F,F,F,F,F,F,F,F,F,F,F,F,F,F,F,F] rfl rfl (any_of HT_.out (by kernel_rfl)) (fun _ _ _ h => h) (Or.inl ⟨by first | rfl | (simp only [c20b1, c21b0, c27b1]; rfl), ?_⟩) ?_ ?_
              rotate_left
              · intro w'
                go_simp
                with_reducible rfl
              rotate_left
              · simp only [Act.put, s1, s2, s3, i64_w, i32_w]
                rfl
              refine pure_ (i := 11) (N := some 50) (v := ?_) (a' := ?_) #[T,T,T,T,T,T,T,T,T,T,T,T,F,F,F,F,F,F,F,F,F,F,F,F,F,F,F,F,F] rfl rfl (any_of HT_.out (by kernel_rfl)) (fun _ _ _ h => h) (Or.inl ⟨by first | rfl | (simp only [c20b1, c21b0, c27b1]; rfl), ?_⟩) ?_ ?_
              rotate_left
              · intro w'
                go_simp
                with_reducible rfl
              rotate_left
              · simp only [Act.put, s1, s2, s3, i64_w, i32_w]
                rfl
              refine pure_ (i := 12) (N := some 51) (v := ?_) (a' := ?_) #[T,T,T,T,T,T,T,T,T,T,T,T,T,F,F,F,F,F,F,F,F,F,F,F,F,F,F,F,F] rfl rfl (any_of HT_.out (by kernel_rfl)) (fun _ _ _ h => h) (Or.inl ⟨by first | rfl | (simp only [c20b1, c21b0, c27b1]; rfl), ?_⟩) ?_ ?_
              rotate_left
              · intro w'
                go_simp
                with_reducible rfl
              rotate_left
              · simp only [Act.put, s1, s2, s3, i64_w, i32_w]
                rfl
              refine pure_ (i := 14) (N := some 53) (v := ?_) (a' := ?_) #[T,T,T,T,T,T,T,T,T,T,T,T,T,F,T,F,F,F,F,F,F,F,F,F,F,F,F,F,F] rfl rfl (any_of HT_.out (by kernel_rfl)) (fun _ _ _ h => h) (Or.inl ⟨by first | rfl | (simp only [c20b1, c21b0, c27b1]; rfl), ?_⟩) ?_ ?_
              rotate_left
              · intro w'
                go_simp
                with_reducible rfl
              rotate_left
              · simp only [Act.put, s1, s2, s3, i64_w, i32_w]
                rfl
              exact norm_ (by first | (simp only [putAll, Act.put, s1, s2, s3]; done) | (simp only [putAll, Act.put, s1, s2, s3]; rfl) | (simp only [putAll, Act.put, s1, s2, s3, c20b1, c21b0, c27b1]; try rfl)) (hJ1_3_4 (v388) _ ⟨(by (with_reducible repeat (first | apply a1 | apply a2 | apply a3)); exact HO367.out), (by (with_reducible repeat (first | apply a1 | apply a2 | apply a3)); exact HO370.out), (by (with_reducible repeat (first | apply a1 | apply a2 | apply a3)); exact HO373.out), (by (with_reducible repeat (first | apply a1 | apply a2 | apply a3)); exact HO377.out), (by (with_reducible repeat (first | apply a1 | apply a2 | apply a3)); exact HO381.out), (by (with_reducible repeat (first | apply a1 | apply a2 | apply a3)); exact HO386.out), (by (with_reducible repeat (first | apply a1 | apply a2 | apply a3)); exact HO389.out), (by repeat (first | (with_reducible first | exact HB.out | apply below_alloc | apply pw_below_drewN | apply below_drew1) | exact HB.out))⟩)
            skip
            rintro v388 w42 ⟨h0_, h1_, h2_, h3_, h4_, h5_, h6_, h7_⟩
            have n0_ : Aside0 (Kd.R (Kd.int .u8) 5 w42 w.heap.size (fun k_ => some k_ ≠ ob v369 ∧ some k_ ≠ ob (.slice Ao15 t371.length co15) ∧ some k_ ≠ ob v376 ∧ some k_ ≠ ob v380 ∧ some k_ ≠ ob v385 ∧ some k_ ≠ ob v388) (.slice Ao12 t365.length co12) t365) := ⟨h0_⟩
            have n1_ : Aside0 (Kd.R (Kd.int .u8) 5 w42 w.heap.size (fun k_ => some k_ ≠ ob (.slice Ao12 t365.length co12) ∧ some k_ ≠ ob (.slice Ao15 t371.length co15) ∧ some k_ ≠ ob v376 ∧ some k_ ≠ ob v380 ∧ some k_ ≠ ob v385 ∧ some k_ ≠ ob v388) v369 t368) := ⟨h1_⟩
            have n2_ : Aside0 (Kd.R (Kd.int .u8) 5 w42 w.heap.size (fun k_ => some k_ ≠ ob (.slice Ao12 t365.length co12) ∧ some k_ ≠ ob v369 ∧ some k_ ≠ ob v376 ∧ some k_ ≠ ob v380 ∧ some k_ ≠ ob v385 ∧ some k_ ≠ ob v388) (.slice Ao15 t371.length co15) t371) := ⟨h2_⟩
            have n3_ : Aside0 (Kd.R (Kd.int .u8) 5 w42 w.heap.size (fun k_ => some k_ ≠ ob (.slice Ao12 t365.length co12) ∧ some k_ ≠ ob v369 ∧ some k_ ≠ ob (.slice Ao15 t371.length co15) ∧ some k_ ≠ ob v380 ∧ some k_ ≠ ob v385 ∧ some k_ ≠ ob v388) v376 t374) := ⟨h3_⟩
            have n4_ : Aside0 (Kd.R (Kd.int .u8) 5 w42 w.heap.size (fun k_ => some k_ ≠ ob (.slice Ao12 t365.length co12) ∧ some k_ ≠ ob v369 ∧ some k_ ≠ ob (.slice Ao15 t371.length co15) ∧ some k_ ≠ ob v376 ∧ some k_ ≠ ob v385 ∧ some k_ ≠ ob v388) v380 t378) := ⟨h4_⟩
            have n5_ : Aside0 (Kd.R (Kd.int .u8) 5 w42 w.heap.size (fun k_ => some k_ ≠ ob (.slice Ao12 t365.length co12) ∧ some k_ ≠ ob v369 ∧ some k_ ≠ ob (.slice Ao15 t371.length co15) ∧ some k_ ≠ ob v376 ∧ some k_ ≠ ob v380 ∧ some k_ ≠ ob v388) v385 t382) := ⟨h5_⟩
            have n6_ : Aside0 (Kd.R (Kd.int .u8) 5 w42 w.heap.size (fun k_ => some k_ ≠ ob (.slice Ao12 t365.length co12) ∧ some k_ ≠ ob v369 ∧ some k_ ≠ ob (.slice Ao15 t371.length co15) ∧ some k_ ≠ ob v376 ∧ some k_ ≠ ob v380 ∧ some k_ ≠ ob v385) v388 t387) := ⟨h6_⟩
            have n7_ : Aside0 (Below w.heap.size w w42) := ⟨h7_⟩
            clear HO367
            clear HO370
            clear HO373
            clear HO377
            clear HO381
            clear HO386
            clear HB
            clear h0_ h1_ h2_ h3_ h4_ h5_ h6_ h7_
            have HO367 := n0_
            have HO370 := n1_
            have HO373 := n2_
            have HO377 := n3_
            have HO381 := n4_
            have HO386 := n5_
            have HO389 := n6_
            have HB := n7_
            clear n0_ n1_ n2_ n3_ n4_ n5_ n6_ n7_
            have hHeld := trivial
            refine norm_ (a' := ?_) ?_ ?_
            rotate_left
            · simp only [putAll, Act.put, s1, s2, s3]
              rfl
            refine two_ (i := 13) (j := 15) (Ni := some 52) (Nj := some 54) #[T,T,T,T,T,T,T,T,T,T,T,T,T,T,T,F,F,F,F,F,F,F,F,F,F,F,F,F,F] #[T,T,T,T,T,T,T,T,T,T,T,T,T,F,T,T,F,F,F,F,F,F,F,F,F,F,F,F,F] rfl rfl rfl rfl (two_of HT_.out (by kernel_rfl)) (by decide) (by decide) (fun K hK => ?_) (fun K hK => ?_)
            · skip
              have hcv43 := own_string (P := Try.prog) Try.underlying22 Try.underlying5 Try.underlying9 (Kd.own_of_R HO377.out)
              refine value_ (w1 := ?_) (v := ?_) (by first | rfl | (simp only [c20b1, c21b0, c27b1]; rfl)) rfl ?_ ?_
              rotate_left 2
              · go_simp
                constructor
                · rfl
                rfl
              clear hcv43
              refine hK.out _ _ trivial (fun hHeld => ?_)
              clear hK K
              refine norm_ (a' := ?_) ?_ ?_
              rotate_left
              · show Act.put _ (some 52) _ = _
                simp only [Act.put, s1, s2, s3, i64_w, i32_w]
                rfl
              exact norm_ (by first | (simp only [putAll, Act.put, s1, s2, s3]; done) | (simp only [putAll, Act.put, s1, s2, s3]; rfl) | (simp only [putAll, Act.put, s1, s2, s3, c20b1, c21b0, c27b1]; try rfl)) (hJ1_3_4_13 (v388) _ ⟨(by (with_reducible repeat (first | apply a1 | apply a2 | apply a3)); exact HO367.out), (by (with_reducible repeat (first | apply a1 | apply a2 | apply a3)); exact HO370.out), (by (with_reducible repeat (first | apply a1 | apply a2 | apply a3)); exact HO373.out), (by (with_reducible repeat (first | apply a1 | apply a2 | apply a3)); exact HO377.out), (by (with_reducible repeat (first | apply a1 | apply a2 | apply a3)); exact HO381.out), (by (with_reducible repeat (first | apply a1 | apply a2 | apply a3)); exact HO386.out), (by (with_reducible repeat (first | apply a1 | apply a2 | apply a3)); exact HO389.out), (by repeat (first | (with_reducible first | exact HB.out | apply below_alloc | apply pw_below_drewN | apply below_drew1) | exact HB.out))⟩)
            skip
            have hcv43 := own_string (P := Try.prog) Try.underlying22 Try.underlying5 Try.underlying9 (Kd.own_of_R HO381.out)
            refine value_ (w1 := ?_) (v := ?_) (by first | rfl | (simp only [c20b1, c21b0, c27b1]; rfl)) rfl ?_ ?_
            rotate_left 2
            · go_simp
              constructor
              · rfl
              rfl
            clear hcv43
            refine hK.out _ _ trivial (fun hHeld => ?_)
            clear hK K
            refine norm_ (a' := ?_) ?_ ?_
            rotate_left
            · show Act.put _ (some 54) _ = _
              simp only [Act.put, s1, s2, s3, i64_w, i32_w]
              rfl
            exact norm_ (by first | (simp only [putAll, Act.put, s1, s2, s3]; done) | (simp only [putAll, Act.put, s1, s2, s3]; rfl) | (simp only [putAll, Act.put, s1, s2, s3, c20b1, c21b0, c27b1]; try rfl)) (hJ1_3_4_15 (v388) _ ⟨(by (with_reducible repeat (first | apply a1 | apply a2 | apply a3)); exact HO367.out), (by (with_reducible repeat (first | apply a1 | apply a2 | apply a3)); exact HO370.out), (by (with_reducible repeat (first | apply a1 | apply a2 | apply a3)); exact HO373.out), (by (with_reducible repeat (first | apply a1 | apply a2 | apply a3)); exact HO377.out), (by (with_reducible repeat (first | apply a1 | apply a2 | apply a3)); exact HO381.out), (by (with_reducible repeat (first | apply a1 | apply a2 | apply a3)); exact HO386.out), (by (with_reducible repeat (first | apply a1 | apply a2 | apply a3)); exact HO389.out), (by repeat (first | (with_reducible first | exact HB.out | apply below_alloc | apply pw_below_drewN | apply below_drew1) | exact HB.out))⟩)
          skip
          rintro v388 w43 ⟨h0_, h1_, h2_, h3_, h4_, h5_, h6_, h7_⟩
          have n0_ : Aside0 (Kd.R (Kd.int .u8) 5 w43 w.heap.size (fun k_ => some k_ ≠ ob v369 ∧ some k_ ≠ ob (.slice Ao15 t371.length co15) ∧ some k_ ≠ ob v376 ∧ some k_ ≠ ob v380 ∧ some k_ ≠ ob v385 ∧ some k_ ≠ ob v388) (.slice Ao12 t365.length co12) t365) := ⟨h0_⟩
          have n1_ : Aside0 (Kd.R (Kd.int .u8) 5 w43 w.heap.size (fun k_ => some k_ ≠ ob (.slice Ao12 t365.length co12) ∧ some k_ ≠ ob (.slice Ao15 t371.length co15) ∧ some k_ ≠ ob v376 ∧ some k_ ≠ ob v380 ∧ some k_ ≠ ob v385 ∧ some k_ ≠ ob v388) v369 t368) := ⟨h1_⟩
          have n2_ : Aside0 (Kd.R (Kd.int .u8) 5 w43 w.heap.size (fun k_ => some k_ ≠ ob (.slice Ao12 t365.length co12) ∧ some k_ ≠ ob v369 ∧ some k_ ≠ ob v376 ∧ some k_ ≠ ob v380 ∧ some k_ ≠ ob v385 ∧ some k_ ≠ ob v388) (.slice Ao15 t371.length co15) t371) := ⟨h2_⟩
          have n3_ : Aside0 (Kd.R (Kd.int .u8) 5 w43 w.heap.size (fun k_ => some k_ ≠ ob (.slice Ao12 t365.length co12) ∧ some k_ ≠ ob v369 ∧ some k_ ≠ ob (.slice Ao15 t371.length co15) ∧ some k_ ≠ ob v380 ∧ some k_ ≠ ob v385 ∧ some k_ ≠ ob v388) v376 t374) := ⟨h3_⟩
          have n4_ : Aside0 (Kd.R (Kd.int .u8) 5 w43 w.heap.size (fun k_ => some k_ ≠ ob (.slice Ao12 t365.length co12) ∧ some k_ ≠ ob v369 ∧ some k_ ≠ ob (.slice Ao15 t371.length co15) ∧ some k_ ≠ ob v376 ∧ some k_ ≠ ob v385 ∧ some k_ ≠ ob v388) v380 t378) := ⟨h4_⟩
          have n5_ : Aside0 (Kd.R (Kd.int .u8) 5 w43 w.heap.size (fun k_ => some k_ ≠ ob (.slice Ao12 t365.length co12) ∧ some k_ ≠ ob v369 ∧ some k_ ≠ ob (.slice Ao15 t371.length co15) ∧ some k_ ≠ ob v376 ∧ some k_ ≠ ob v380 ∧ some k_ ≠ ob v388) v385 t382) := ⟨h5_⟩
          have n6_ : Aside0 (Kd.R (Kd.int .u8) 5 w43 w.heap.size (fun k_ => some k_ ≠ ob (.slice Ao12 t365.length co12) ∧ some k_ ≠ ob v369 ∧ some k_ ≠ ob (.slice Ao15 t371.length co15) ∧ some k_ ≠ ob v376 ∧ some k_ ≠ ob v380 ∧ some k_ ≠ ob v385) v388 t387) := ⟨h6_⟩
          have n7_ : Aside0 (Below w.heap.size w w43) := ⟨h7_⟩
          clear HO367
          clear HO370
          clear HO373
          clear HO377
          clear HO381
          clear HO386
          clear HB
          clear h0_ h1_ h2_ h3_ h4_ h5_ h6_ h7_
          have HO367 := n0_
          have HO370 := n1_
          have HO373 := n2_
          have HO377 := n3_
          have HO381 := n4_
          have HO386 := n5_
          have HO389 := n6_
          have HB := n7_
          clear n0_ n1_ n2_ n3_ n4_ n5_ n6_ n7_
          have hHeld := trivial
          refine norm_ (a' := ?_) ?_ ?_
          rotate_left
          · simp only [putAll, Act.put, s1, s2, s3]
            rfl
          refine one_ (i := 13) (N := some 52) #[T,T,T,T,T,T,T,T,T,T,T,T,T,T,T,T,F,F,F,F,F,F,F,F,F,F,F,F,F] rfl rfl (one_of HT_.out (by kernel_rfl)) (by decide) (fun K hK => ?_)
          have hcv44 := own_string (P := Try.prog) Try.underlying22 Try.underlying5 Try.underlying9 (Kd.own_of_R HO377.out)
          refine value_ (w1 := ?_) (v := ?_) (by first | rfl | (simp only [c20b1, c21b0, c27b1]; rfl)) rfl ?_ ?_
          rotate_left 2
          · go_simp
            constructor
            · rfl
            rfl
          clear hcv44
          refine hK.out _ _ trivial (fun hHeld => ?_)
          clear hK K
          refine norm_ (a' := ?_) ?_ ?_
          rotate_left
          · show Act.put _ (some 52) _ = _
            simp only [Act.put, s1, s2, s3, i64_w, i32_w]
            rfl
          exact norm_ (by first | (simp only [putAll, Act.put, s1, s2, s3]; done) | (simp only [putAll, Act.put, s1, s2, s3]; rfl) | (simp only [putAll, Act.put, s1, s2, s3, c20b1, c21b0, c27b1]; try rfl)) (hJ1_3_4_13_15 (v388) _ ⟨(by (with_reducible repeat (first | apply a1 | apply a2 | apply a3)); exact HO367.out), (by (with_reducible repeat (first | apply a1 | apply a2 | apply a3)); exact HO370.out), (by (with_reducible repeat (first | apply a1 | apply a2 | apply a3)); exact HO373.out), (by (with_reducible repeat (first | apply a1 | apply a2 | apply a3)); exact HO377.out), (by (with_reducible repeat (first | apply a1 | apply a2 | apply a3)); exact HO381.out), (by (with_reducible repeat (first | apply a1 | apply a2 | apply a3)); exact HO386.out), (by (with_reducible repeat (first | apply a1 | apply a2 | apply a3)); exact HO389.out), (by repeat (first | (with_reducible first | exact HB.out | apply below_alloc | apply pw_below_drewN | apply below_drew1) | exact HB.out))⟩)
        skip
        rintro v388 w43 ⟨h0_, h1_, h2_, h3_, h4_, h5_, h6_, h7_⟩
        have n0_ : Aside0 (Kd.R (Kd.int .u8) 5 w43 w.heap.size (fun k_ => some k_ ≠ ob v369 ∧ some k_ ≠ ob (.slice Ao15 t371.length co15) ∧ some k_ ≠ ob v376 ∧ some k_ ≠ ob v380 ∧ some k_ ≠ ob v385 ∧ some k_ ≠ ob v388) (.slice Ao12 t365.length co12) t365) := ⟨h0_⟩
        have n1_ : Aside0 (Kd.R (Kd.int .u8) 5 w43 w.heap.size (fun k_ => some k_ ≠ ob (.slice Ao12 t365.length co12) ∧ some k_ ≠ ob (.slice Ao15 t371.length co15) ∧ some k_ ≠ ob v376 ∧ some k_ ≠ ob v380 ∧ some k_ ≠ ob v385 ∧ some k_ ≠ ob v388) v369 t368) := ⟨h1_⟩
        have n2_ : Aside0 (Kd.R (Kd.int .u8) 5 w43 w.heap.size (fun k_ => some k_ ≠ ob (.slice Ao12 t365.length co12) ∧ some k_ ≠ ob v369 ∧ some k_ ≠ ob v376 ∧ some k_ ≠ ob v380 ∧ some k_ ≠ ob v385 ∧ some k_ ≠ ob v388) (.slice Ao15 t371.length co15) t371) := ⟨h2_⟩
        have n3_ : Aside0 (Kd.R (Kd.int .u8) 5 w43 w.heap.size (fun k_ => some k_ ≠ ob (.slice Ao12 t365.length co12) ∧ some k_ ≠ ob v369 ∧ some k_ ≠ ob (.slice Ao15 t371.length co15) ∧ some k_ ≠ ob v380 ∧ some k_ ≠ ob v385 ∧ some k_ ≠ ob v388) v376 t374) := ⟨h3_⟩
        have n4_ : Aside0 (Kd.R (Kd.int .u8) 5 w43 w.heap.size (fun k_ => some k_ ≠ ob (.slice Ao12 t365.length co12) ∧ some k_ ≠ ob v369 ∧ some k_ ≠ ob (.slice Ao15 t371.length co15) ∧ some k_ ≠ ob v376 ∧ some k_ ≠ ob v385 ∧ some k_ ≠ ob v388) v380 t378) := ⟨h4_⟩
        have n5_ : Aside0 (Kd.R (Kd.int .u8) 5 w43 w.heap.size (fun k_ => some k_ ≠ ob (.slice Ao12 t365.length co12) ∧ some k_ ≠ ob v369 ∧ some k_ ≠ ob (.slice Ao15 t371.length co15) ∧ some k_ ≠ ob v376 ∧ some k_ ≠ ob v380 ∧ some k_ ≠ ob v388) v385 t382) := ⟨h5_⟩
        have n6_ : Aside0 (Kd.R (Kd.int .u8) 5 w43 w.heap.size (fun k_ => some k_ ≠ ob (.slice Ao12 t365.length co12) ∧ some k_ ≠ ob v369 ∧ some k_ ≠ ob (.slice Ao15 t371.length co15) ∧ some k_ ≠ ob v376 ∧ some k_ ≠ ob v380 ∧ some k_ ≠ ob v385) v388 t387) := ⟨h6_⟩
        have n7_ : Aside0 (Below w.heap.size w w43) := ⟨h7_⟩
        clear HO367
        clear HO370
        clear HO373
        clear HO377
        clear HO381
        clear HO386
        clear HB
        clear h0_ h1_ h2_ h3_ h4_ h5_ h6_ h7_
        have HO367 := n0_
        have HO370 := n1_
        have HO373 := n2_
        have HO377 := n3_
        have HO381 := n4_
        have HO386 := n5_
        have HO389 := n6_
        have HB := n7_
        clear n0_ n1_ n2_ n3_ n4_ n5_ n6_ n7_
        have hHeld := trivial
        refine norm_ (a' := ?_) ?_ ?_
        rotate_left
        · simp only [putAll, Act.put, s1, s2, s3]
          rfl
        refine one_ (i := 15) (N := some 54) #[T,T,T,T,T,T,T,T,T,T,T,T,T,T,T,T,F,F,F,F,F,F,F,F,F,F,F,F,F] rfl rfl (one_of HT_.out (by kernel_rfl)) (by decide) (fun K hK => ?_)
        have hcv44 := own_string (P := Try.prog) Try.underlying22 Try.underlying5 Try.underlying9 (Kd.own_of_R HO381.out)
        refine value_ (w1 := ?_) (v := ?_) (by first | rfl | (simp only [c20b1, c21b0, c27b1]; rfl)) rfl ?_ ?_
        rotate_left 2
        · go_simp
          constructor
          · rfl
          rfl
        clear hcv44
        refine hK.out _ _ trivial (fun hHeld => ?_)
        clear hK K
        refine norm_ (a' := ?_) ?_ ?_
        rotate_left
        · show Act.put _ (some 54) _ = _
          simp only [Act.put, s1, s2, s3, i64_w, i32_w]
          rfl
        exact norm_ (by first | (simp only [putAll, Act.put, s1, s2, s3]; done) | (simp only [putAll, Act.put, s1, s2, s3]; rfl) | (simp only [putAll, Act.put, s1, s2, s3, c20b1, c21b0, c27b1]; try rfl)) (hJ1_3_4_13_15 (v388) _ ⟨(by (with_reducible repeat (first | apply a1 | apply a2 | apply a3)); exact HO367.out), (by (with_reducible repeat (first | apply a1 | apply a2 | apply a3)); exact HO370.out), (by (with_reducible repeat (first | apply a1 | apply a2 | apply a3)); exact HO373.out), (by (with_reducible repeat (first | apply a1 | apply a2 | apply a3)); exact HO377.out), (by (with_reducible repeat (first | apply a1 | apply a2 | apply a3)); exact HO381.out), (by (with_reducible repeat (first | apply a1 | apply a2 | apply a3)); exact HO386.out), (by (with_reducible repeat (first | apply a1 | apply a2 | apply a3)); exact HO389.out), (by repeat (first | (with_reducible first | exact HB.out | apply below_alloc | apply pw_below_drewN | apply below_drew1) | exact HB.out))⟩)
      rintro v388 w44 ⟨h0_, h1_, h2_, h3_, h4_, h5_, h6_, h7_⟩
      have n0_ : Aside0 (Kd.R (Kd.int .u8) 5 w44 w.heap.size (fun k_ => some k_ ≠ ob v369 ∧ some k_ ≠ ob (.slice Ao15 t371.length co15) ∧ some k_ ≠ ob v376 ∧ some k_ ≠ ob v380 ∧ some k_ ≠ ob v385 ∧ some k_ ≠ ob v388) (.slice Ao12 t365.length co12) t365) := ⟨h0_⟩
      have n1_ : Aside0 (Kd.R (Kd.int .u8) 5 w44 w.heap.size (fun k_ => some k_ ≠ ob (.slice Ao12 t365.length co12) ∧ some k_ ≠ ob (.slice Ao15 t371.length co15) ∧ some k_ ≠ ob v376 ∧ some k_ ≠ ob v380 ∧ some k_ ≠ ob v385 ∧ some k_ ≠ ob v388) v369 t368) := ⟨h1_⟩
      have n2_ : Aside0 (Kd.R (Kd.int .u8) 5 w44 w.heap.size (fun k_ => some k_ ≠ ob (.slice Ao12 t365.length co12) ∧ some k_ ≠ ob v369 ∧ some k_ ≠ ob v376 ∧ some k_ ≠ ob v380 ∧ some k_ ≠ ob v385 ∧ some k_ ≠ ob v388) (.slice Ao15 t371.length co15) t371) := ⟨h2_⟩
      have n3_ : Aside0 (Kd.R (Kd.int .u8) 5 w44 w.heap.size (fun k_ => some k_ ≠ ob (.slice Ao12 t365.length co12) ∧ some k_ ≠ ob v369 ∧ some k_ ≠ ob (.slice Ao15 t371.length co15) ∧ some k_ ≠ ob v380 ∧ some k_ ≠ ob v385 ∧ some k_ ≠ ob v388) v376 t374) := ⟨h3_⟩
      have n4_ : Aside0 (Kd.R (Kd.int .u8) 5 w44 w.heap.size (fun k_ => some k_ ≠ ob (.slice Ao12 t365.length co12) ∧ some k_ ≠ ob v369 ∧ some k_ ≠ ob (.slice Ao15 t371.length co15) ∧ some k_ ≠ ob v376 ∧ some k_ ≠ ob v385 ∧ some k_ ≠ ob v388) v380 t378) := ⟨h4_⟩
      have n5_ : Aside0 (Kd.R (Kd.int .u8) 5 w44 w.heap.size (fun k_ => some k_ ≠ ob (.slice Ao12 t365.length co12) ∧ some k_ ≠ ob v369 ∧ some k_ ≠ ob (.slice Ao15 t371.length co15) ∧ some k_ ≠ ob v376 ∧ some k_ ≠ ob v380 ∧ some k_ ≠ ob v388) v385 t382) := ⟨h5_⟩
      have n6_ : Aside0 (Kd.R (Kd.int .u8) 5 w44 w.heap.size (fun k_ => some k_ ≠ ob (.slice Ao12 t365.length co12) ∧ some k_ ≠ ob v369 ∧ some k_ ≠ ob (.slice Ao15 t371.length co15) ∧ some k_ ≠ ob v376 ∧ some k_ ≠ ob v380 ∧ some k_ ≠ ob v385) v388 t387) := ⟨h6_⟩
      have n7_ : Aside0 (Below w.heap.size w w44) := ⟨h7_⟩
      clear HO367
      clear HO370
      clear HO373
      clear HO377
      clear HO381
      clear HO386
      clear HB
      clear h0_ h1_ h2_ h3_ h4_ h5_ h6_ h7_
      have HO367 := n0_
      have HO370 := n1_
      have HO373 := n2_
      have HO377 := n3_
      have HO381 := n4_
      have HO386 := n5_
      have HO389 := n6_
      have HB := n7_
      clear n0_ n1_ n2_ n3_ n4_ n5_ n6_ n7_
      have hHeld := trivial
      refine norm_ (a' := ?_) ?_ ?_
      rotate_left
      · simp only [putAll, Act.put, s1, s2, s3]
        rfl
      refine pure_ (i := 16) (N := some 55) (v := ?_) (a' := ?_) #[T,T,T,T,T,T,T,T,T,T,T,T,T,T,T,T,T,F,F,F,F,F,F,F,F,F,F,F,F] rfl rfl (any_of HT_.out (by kernel_rfl)) (fun _ _ _ h => h) (Or.inl ⟨by first | rfl | (simp only [c20b1, c21b0, c27b1]; rfl), ?_⟩) ?_ ?_
      rotate_left
      · intro w'
        go_simp
        with_reducible rfl
      rotate_left
      · simp only [Act.put, s1, s2, s3, i64_w, i32_w]
        rfl
      refine pure_ (i := 17) (N := some 56) (v := ?_) (a' := ?_) #[T,T,T,T,T,T,T,T,T,T,T,T,T,T,T,T,T,T,F,F,F,F,F,F,F,F,F,F,F] rfl rfl (any_of HT_.out (by kernel_rfl)) (fun _ _ _ h => h) (Or.inl ⟨by first | rfl | (simp only [c20b1, c21b0, c27b1]; rfl), ?_⟩) ?_ ?_
      rotate_left
      · intro w'
        go_simp
        with_reducible rfl
      rotate_left
      · simp only [Act.put, s1, s2, s3, i64_w, i32_w]
        rfl
      refine pure_ (i := 18) (N := some 57) (v := ?_) (a' := ?_) #[T,T,T,T,T,T,T,T,T,T,T,T,T,T,T,T,T,T,T,F,F,F,F,F,F,F,F,F,F] rfl rfl (any_of HT_.out (by kernel_rfl)) (fun _ _ _ h => h) (Or.inl ⟨by first | rfl | (simp only [c20b1, c21b0, c27b1]; rfl), ?_⟩) ?_ ?_
      rotate_left
      · intro w'
        go_simp
        with_reducible rfl
      rotate_left
      · simp only [Act.put, s1, s2, s3, i64_w, i32_w]
        rfl
      refine pure_ (i := 19) (N := some 58) (v := undef) (a' := ?_) #[T,T,T,T,T,T,T,T,T,T,T,T,T,T,T,T,T,T,T,T,F,F,F,F,F,F,F,F,F] rfl rfl (any_of HT_.out (by kernel_rfl)) (fun _ _ _ h => h) (Or.inr ⟨by rfl, rfl⟩) ?_ ?_
      rotate_left
      · simp only [Act.put, s1, s2, s3, i64_w, i32_w]
        rfl
      refine pure_ (i := 20) (N := some 59) (v := undef) (a' := ?_) #[T,T,T,T,T,T,T,T,T,T,T,T,T,T,T,T,T,T,T,T,T,F,F,F,F,F,F,F,F] rfl rfl (any_of HT_.out (by kernel_rfl)) (fun _ _ _ h => h) (Or.inr ⟨by rfl, rfl⟩) ?_ ?_
      rotate_left
      · simp only [Act.put, s1, s2, s3, i64_w, i32_w]
        rfl
      refine pure_ (i := 21) (N := some 60) (v := undef) (a' := ?_) #[T,T,T,T,T,T,T,T,T,T,T,T,T,T,T,T,T,T,T,T,T,T,F,F,F,F,F,F,F] rfl rfl (any_of HT_.out (by kernel_rfl)) (fun _ _ _ h => h) (Or.inr ⟨by rfl, rfl⟩) ?_ ?_
      rotate_left
      · simp only [Act.put, s1, s2, s3, i64_w, i32_w]
        rfl
      refine pure_ (i := 22) (N := some 61) (v := undef) (a' := ?_) #[T,T,T,T,T,T,T,T,T,T,T,T,T,T,T,T,T,T,T,T,T,T,T,F,F,F,F,F,F] rfl rfl (any_of HT_.out (by kernel_rfl)) (fun _ _ _ h => h) (Or.inr ⟨by rfl, rfl⟩) ?_ ?_
      rotate_left
      · simp only [Act.put, s1, s2, s3, i64_w, i32_w]
        rfl
      refine pure_ (i := 23) (N := some 62) (v := undef) (a' := ?_) #[T,T,T,T,T,T,T,T,T,T,T,T,T,T,T,T,T,T,T,T,T,T,T,T,F,F,F,F,F] rfl rfl (any_of HT_.out (by kernel_rfl)) (fun _ _ _ h => h) (Or.inr ⟨by rfl, rfl⟩) ?_ ?_
      rotate_left
      · simp only [Act.put, s1, s2, s3, i64_w, i32_w]
        rfl
      refine pure_ (i := 24) (N := some 63) (v := undef) (a' := ?_) #[T,T,T,T,T,T,T,T,T,T,T,T,T,T,T,T,T,T,T,T,T,T,T,T,T,F,F,F,F] rfl rfl (any_of HT_.out (by kernel_rfl)) (fun _ _ _ h => h) (Or.inr ⟨by rfl, rfl⟩) ?_ ?_
      rotate_left
      · simp only [Act.put, s1, s2, s3, i64_w, i32_w]
        rfl
      refine pure_ (i := 25) (N := some 64) (v := undef) (a' := ?_) #[T,T,T,T,T,T,T,T,T,T,T,T,T,T,T,T,T,T,T,T,T,T,T,T,T,T,F,F,F] rfl rfl (any_of HT_.out (by kernel_rfl)) (fun _ _ _ h => h) (Or.inr ⟨by rfl, rfl⟩) ?_ ?_
      rotate_left
      · simp only [Act.put, s1, s2, s3, i64_w, i32_w]
        rfl
      refine pure_ (i := 26) (N := some 65) (v := undef) (a' := ?_) #[T,T,T,T,T,T,T,T,T,T,T,T,T,T,T,T,T,T,T,T,T,T,T,T,T,T,T,F,F] rfl rfl (any_of HT_.out (by kernel_rfl)) (fun _ _ _ h => h) (Or.inr ⟨by rfl, rfl⟩) ?_ ?_
      rotate_left
      · simp only [Act.put, s1, s2, s3, i64_w, i32_w]
        rfl
      refine pure_ (i := 27) (N := some 66) (v := undef) (a' := ?_) #[T,T,T,T,T,T,T,T,T,T,T,T,T,T,T,T,T,T,T,T,T,T,T,T,T,T,T,T,F] rfl rfl (any_of HT_.out (by kernel_rfl)) (fun _ _ _ h => h) (Or.inr ⟨by rfl, rfl⟩) ?_ ?_
      rotate_left
      · simp only [Act.put, s1, s2, s3, i64_w, i32_w]
        rfl
      refine pure_ (i := 28) (N := some 67) (v := ?_) (a' := ?_) #[T,T,T,T,T,T,T,T,T,T,T,T,T,T,T,T,T,T,T,T,T,T,T,T,T,T,T,T,T] rfl rfl (any_of HT_.out (by kernel_rfl)) (fun _ _ _ h => h) (Or.inl ⟨by first | rfl | (simp only [c20b1, c21b0, c27b1]; rfl), ?_⟩) ?_ ?_
      rotate_left
      · intro w'
        go_simp
        with_reducible rfl
      rotate_left
      · simp only [Act.put, s1, s2, s3, i64_w, i32_w]
        rfl
      refine done_ (done_of HT_.out (by kernel_rfl)) ?_
      try go_wp2
      go_meet
      case rel => exact ⟨_, (true), (by first | rfl | (simp; done) | (simp [*]; done)), H', ⟨by first | omega | exact Nat.le_refl _⟩, ⟨by (with_reducible repeat (first | apply a1 | apply a2 | apply a3)); exact Kd.R_mono HO367.out (fun _ hk => ⟨hk.1, hk.2.2.1⟩)⟩, ⟨by (with_reducible repeat (first | apply a1 | apply a2 | apply a3)); exact Kd.R_mono HO370.out (fun _ hk => ⟨hk.1, hk.2.2.1⟩)⟩, ⟨by (with_reducible repeat (first | apply a1 | apply a2 | apply a3)); exact Kd.R_mono HO377.out (fun _ hk => ⟨hk.1, hk.2.1⟩)⟩, ⟨by repeat (first | (with_reducible first | exact HB.out | apply below_alloc | apply pw_below_drewN | apply below_drew1) | exact HB.out)⟩⟩
    rw [if_neg c20] at H
    have c20b0 : ((strOfNums t368).toList == (strOfNums t387).toList) = false := beq_eq_false_iff_ne.mpr c20
    have c20b1 : ((strOfNums t368).toList != (strOfNums t387).toList) = true := bne_iff_ne.mpr c20
    (first | rw [c20b0] | (simp only [i64_w, i32_w]; rw [c20b0]) | skip)
    have H' := Aside0.mk H
    clear H
    try go_wp2
    have n0_ := Aside0.mk (Kd.R_drew HO367.out)
    have n1_ := Aside0.mk (Kd.R_drew HO370.out)
    have n2_ := Aside0.mk (Kd.R_drew HO373.out)
    have n3_ := Aside0.mk (Kd.R_drew HO377.out)
    have n4_ := Aside0.mk (Kd.R_drew HO381.out)
    have n5_ := Aside0.mk (Kd.R_drew HO386.out)
    have n6_ := Aside0.mk (below_drew1 HB.out)
    clear HO367
    clear HO370
    clear HO373
    clear HO377
    clear HO381
    clear HO386
    clear HB
    have HO367 := n0_
    have HO370 := n1_
    have HO373 := n2_
    have HO377 := n3_
    have HO381 := n4_
    have HO386 := n5_
    have HB := n6_
    clear n0_ n1_ n2_ n3_ n4_ n5_ n6_
    refine start_ (n := 29) (S := fun w' => True) (ds := []) #[F,F,F,F,F,F,F,F,F,F,F,F,F,F,F,F,F,F,F,F,F,F,F,F,F,F,F,F,F] (by kernel_rfl) rfl rfl trivial (fun hHeld => ?_); refine with_tabW laws_FnSqueezed.tab9 laws_FnSqueezed.bits9 (fun HT_ HW_ => ?_)
    generalize w18.drew = w45 at HO367 HO370 HO373 HO377 HO381 HO386 HB hHeld ⊢
    refine pure_ (i := 0) (N := some 39) (v := ?_) (a' := ?_) #[T,F,F,F,F,F,F,F,F,F,F,F,F,F,F,F,F,F,F,F,F,F,F,F,F,F,F,F,F] rfl rfl (any_of HT_.out (by kernel_rfl)) (fun _ _ _ h => h) (Or.inl ⟨by first | rfl | (simp only [c20b1]; rfl), ?_⟩) ?_ ?_
    rotate_left
    · intro w'
      go_simp
      with_reducible rfl
    rotate_left
    · simp only [Act.put, s1, s2, s3, i64_w, i32_w]
      rfl
    refine pure_ (i := 2) (N := some 41) (v := ?_) (a' := ?_) #[T,F,T,F,F,F,F,F,F,F,F,F,F,F,F,F,F,F,F,F,F,F,F,F,F,F,F,F,F] rfl rfl (any_of HT_.out (by kernel_rfl)) (fun _ _ _ h => h) (Or.inl ⟨by first | rfl | (simp only [c20b1]; rfl), ?_⟩) ?_ ?_
    rotate_left
    · intro w'
      go_simp
      with_reducible rfl
    rotate_left
    · simp only [Act.put, s1, s2, s3, i64_w, i32_w]
      rfl
    refine join_ (σ := Value) 24 #[T,T,T,T,T,F,F,F,F,F,F,F,F,F,F,F,F,F,F,F,F,F,F,F,F,F,F,F,F] (fun s_ => [(40, .string (strOfNums t368)), (42, s_), (43, .string (strOfNums t387))]) (fun s_ w' => (Kd.R (Kd.int .u8) 5 w' w.heap.size (fun k_ => some k_ ≠ ob v369 ∧ some k_ ≠ ob (.slice Ao15 t371.length co15) ∧ some k_ ≠ ob v376 ∧ some k_ ≠ ob v380 ∧ some k_ ≠ ob v385 ∧ some k_ ≠ ob s_) (.slice Ao12 t365.length co12) t365) ∧ (Kd.R (Kd.int .u8) 5 w' w.heap.size (fun k_ => some k_ ≠ ob (.slice Ao12 t365.length co12) ∧ some k_ ≠ ob (.slice Ao15 t371.length co15) ∧ some k_ ≠ ob v376 ∧ some k_ ≠ ob v380 ∧ some k_ ≠ ob v385 ∧ some k_ ≠ ob s_) v369 t368) ∧ (Kd.R (Kd.int .u8) 5 w' w.heap.size (fun k_ => some k_ ≠ ob (.slice Ao12 t365.length co12) ∧ some k_ ≠ ob v369 ∧ some k_ ≠ ob v376 ∧ some k_ ≠ ob v380 ∧ some k_ ≠ ob v385 ∧ some k_ ≠ ob s_) (.slice Ao15 t371.length co15) t371) ∧ (Kd.R (Kd.int .u8) 5 w' w.heap.size (fun k_ => some k_ ≠ ob (.slice Ao12 t365.length co12) ∧ some k_ ≠ ob v369 ∧ some k_ ≠ ob (.slice Ao15 t371.length co15) ∧ some k_ ≠ ob v380 ∧ some k_ ≠ ob v385 ∧ some k_ ≠ ob s_) v376 t374) ∧ (Kd.R (Kd.int .u8) 5 w' w.heap.size (fun k_ => some k_ ≠ ob (.slice Ao12 t365.length co12) ∧ some k_ ≠ ob v369 ∧ some k_ ≠ ob (.slice Ao15 t371.length co15) ∧ some k_ ≠ ob v376 ∧ some k_ ≠ ob v385 ∧ some k_ ≠ ob s_) v380 t378) ∧ (Kd.R (Kd.int .u8) 5 w' w.heap.size (fun k_ => some k_ ≠ ob (.slice Ao12 t365.length co12) ∧ some k_ ≠ ob v369 ∧ some k_ ≠ ob (.slice Ao15 t371.length co15) ∧ some k_ ≠ ob v376 ∧ some k_ ≠ ob v380 ∧ some k_ ≠ ob s_) v385 t382) ∧ (Kd.R (Kd.int .u8) 5 w' w.heap.size (fun k_ => some k_ ≠ ob (.slice Ao12 t365.length co12) ∧ some k_ ≠ ob v369 ∧ some k_ ≠ ob (.slice Ao15 t371.length co15) ∧ some k_ ≠ ob v376 ∧ some k_ ≠ ob v380 ∧ some k_ ≠ ob v385) s_ t387) ∧ (Below w.heap.size w w')) ?_ ?_
    rotate_left
    · intro hCont
      refine two_ (i := 1) (j := 3) (Ni := some 40) (Nj := some 42) #[T,T,T,F,F,F,F,F,F,F,F,F,F,F,F,F,F,F,F,F,F,F,F,F,F,F,F,F,F] #[T,F,T,T,F,F,F,F,F,F,F,F,F,F,F,F,F,F,F,F,F,F,F,F,F,F,F,F,F] rfl rfl rfl rfl (two_of HT_.out (by kernel_rfl)) (by decide) (by decide) (fun K hK => ?_) (fun K hK => ?_)
      · skip
        have hcv46 := own_string (P := Try.prog) Try.underlying22 Try.underlying5 Try.underlying9 (Kd.own_of_R HO370.out)
        refine value_ (w1 := ?_) (v := ?_) (by first | rfl | (simp only [c20b1]; rfl)) rfl ?_ ?_
        rotate_left 2
        · go_simp
          constructor
          · rfl
          rfl
        clear hcv46
        refine hK.out _ _ trivial (fun hHeld => ?_)
        clear hK K
        refine norm_ (a' := ?_) ?_ ?_
        rotate_left
        · show Act.put _ (some 40) _ = _
          simp only [Act.put, s1, s2, s3, i64_w, i32_w]
          rfl
        refine one_ (i := 3) (N := some 42) #[T,T,T,T,F,F,F,F,F,F,F,F,F,F,F,F,F,F,F,F,F,F,F,F,F,F,F,F,F] rfl rfl (one_of HT_.out (by kernel_rfl)) (by decide) (fun K hK => ?_)
        refine goes_ Try.func45 (by kernel_rfl) rfl #[.slice Ao12 t365.length co12] (by rfl) rfl rfl (by (try simp only [List.map_toArray, List.map_cons, List.map_nil]); first | done | rfl | (simp only [List.length_drop, List.length_take]; rfl)) ?_
        with_reducible refine (spec_Squeeze.calls k _ _ t365 t387 _ ?side1 ?side2 A19.out).mono ?_
        (case side1 => repeat (first | exact (Kd.R_reads' HO367.out).2.2 | (with_reducible refine Kd.C_alloc ?_ _) | (with_reducible refine Kd.C_drewN ?_ _) | (with_reducible refine Kd.C_drew ?_)))
        (case side2 => exact (Kd.R_reads' HO367.out).2.1)
        rintro e w47 ⟨v388, rfl, ho0, hb⟩
        refine ⟨_, rfl, ?_⟩
        have n0_ := Aside0.mk (Kd.R_elder' (by (with_reducible repeat (first | apply a1 | apply a2 | apply a3)); exact HO367.out) (Kd.R_base ho0) hb)
        have n1_ := Aside0.mk (Kd.R_elder' (by (with_reducible repeat (first | apply a1 | apply a2 | apply a3)); exact HO370.out) (Kd.R_base ho0) hb)
        have n2_ := Aside0.mk (Kd.R_elder' (by (with_reducible repeat (first | apply a1 | apply a2 | apply a3)); exact HO373.out) (Kd.R_base ho0) hb)
        have n3_ := Aside0.mk (Kd.R_elder' (by (with_reducible repeat (first | apply a1 | apply a2 | apply a3)); exact HO377.out) (Kd.R_base ho0) hb)
        have n4_ := Aside0.mk (Kd.R_elder' (by (with_reducible repeat (first | apply a1 | apply a2 | apply a3)); exact HO381.out) (Kd.R_base ho0) hb)
        have n5_ := Aside0.mk (Kd.R_elder' (by (with_reducible repeat (first | apply a1 | apply a2 | apply a3)); exact HO386.out) (Kd.R_base ho0) hb)
        have n6_ := Aside0.mk (Kd.R_lower (Kd.R_new' (Kd.R_new' (Kd.R_new' (Kd.R_new' (Kd.R_new' (Kd.R_new' ho0 (Kd.R_lt (by (with_reducible repeat (first | apply a1 | apply a2 | apply a3)); exact HO367.out))) (Kd.R_lt (by (with_reducible repeat (first | apply a1 | apply a2 | apply a3)); exact HO370.out))) (Kd.R_lt (by (with_reducible repeat (first | apply a1 | apply a2 | apply a3)); exact HO373.out))) (Kd.R_lt (by (with_reducible repeat (first | apply a1 | apply a2 | apply a3)); exact HO377.out))) (Kd.R_lt (by (with_reducible repeat (first | apply a1 | apply a2 | apply a3)); exact HO381.out))) (Kd.R_lt (by (with_reducible repeat (first | apply a1 | apply a2 | apply a3)); exact HO386.out))) (below_size (by repeat (first | (with_reducible first | exact HB.out | apply below_alloc | apply pw_below_drewN | apply below_drew1) | exact HB.out))))
        have n7_ := Aside0.mk (below_step (by repeat (first | (with_reducible first | exact HB.out | apply below_alloc | apply pw_below_drewN | apply below_drew1) | exact HB.out)) hb)
        clear HO367
        clear HO370
        clear HO373
        clear HO377
        clear HO381
        clear HO386
        clear HB
        have HO367 := n0_
        have HO370 := n1_
        have HO373 := n2_
        have HO377 := n3_
        have HO381 := n4_
        have HO386 := n5_
        have HO389 := n6_
        have HB := n7_
        clear n0_ n1_ n2_ n3_ n4_ n5_ n6_ n7_
        (try clear hb)
        (try clear hb2)
        (try clear hk)
        (try clear hi)
        (try clear ho0)
        refine hK.out _ _ trivial (fun hHeld => ?_)
        clear hK K
        refine norm_ (a' := ?_) ?_ ?_
        rotate_left
        · show Act.put _ (some 42) _ = _
          simp only [Act.put, s1, s2, s3, i64_w, i32_w]
          rfl
        refine one_ (i := 4) (N := some 43) #[T,T,T,T,T,F,F,F,F,F,F,F,F,F,F,F,F,F,F,F,F,F,F,F,F,F,F,F,F] rfl rfl (one_of HT_.out (by kernel_rfl)) (by decide) (fun K hK => ?_)
        have hcv48 := own_string (P := Try.prog) Try.underlying22 Try.underlying5 Try.underlying9 (Kd.own_of_R HO389.out)
        refine value_ (w1 := ?_) (v := ?_) (by first | rfl | (simp only [c20b1]; rfl)) rfl ?_ ?_
        rotate_left 2
        · go_simp
          constructor
          · rfl
          rfl
        clear hcv48
        refine hK.out _ _ trivial (fun hHeld => ?_)
        clear hK K
        refine norm_ (a' := ?_) ?_ ?_
        rotate_left
        · show Act.put _ (some 43) _ = _
          simp only [Act.put, s1, s2, s3, i64_w, i32_w]
          rfl
        exact norm_ (by simp only [putAll, Act.put, s1, s2, s3]) (hCont (v388) _ ⟨(by (with_reducible repeat (first | apply a1 | apply a2 | apply a3)); exact Kd.R_mono HO367.out (fun _ hk => ⟨hk.1.1.1.1.1.2, ⟨hk.1.1.1.1.2, ⟨hk.1.1.1.2, ⟨hk.1.1.2, ⟨hk.1.2, hk.2⟩⟩⟩⟩⟩)), (by (with_reducible repeat (first | apply a1 | apply a2 | apply a3)); exact Kd.R_mono HO370.out (fun _ hk => ⟨hk.1.1.1.1.1.2, ⟨hk.1.1.1.1.2, ⟨hk.1.1.1.2, ⟨hk.1.1.2, ⟨hk.1.2, hk.2⟩⟩⟩⟩⟩)), (by (with_reducible repeat (first | apply a1 | apply a2 | apply a3)); exact Kd.R_mono HO373.out (fun _ hk => ⟨hk.1.1.1.1.1.2, ⟨hk.1.1.1.1.2, ⟨hk.1.1.1.2, ⟨hk.1.1.2, ⟨hk.1.2, hk.2⟩⟩⟩⟩⟩)), (by (with_reducible repeat (first | apply a1 | apply a2 | apply a3)); exact Kd.R_mono HO377.out (fun _ hk => ⟨hk.1.1.1.1.1.2, ⟨hk.1.1.1.1.2, ⟨hk.1.1.1.2, ⟨hk.1.1.2, ⟨hk.1.2, hk.2⟩⟩⟩⟩⟩)), (by (with_reducible repeat (first | apply a1 | apply a2 | apply a3)); exact Kd.R_mono HO381.out (fun _ hk => ⟨hk.1.1.1.1.1.2, ⟨hk.1.1.1.1.2, ⟨hk.1.1.1.2, ⟨hk.1.1.2, ⟨hk.1.2, hk.2⟩⟩⟩⟩⟩)), (by (with_reducible repeat (first | apply a1 | apply a2 | apply a3)); exact Kd.R_mono HO386.out (fun _ hk => ⟨hk.1.1.1.1.1.2, ⟨hk.1.1.1.1.2, ⟨hk.1.1.1.2, ⟨hk.1.1.2, ⟨hk.1.2, hk.2⟩⟩⟩⟩⟩)), (by (with_reducible repeat (first | apply a1 | apply a2 | apply a3)); exact Kd.R_mono HO389.out (fun _ hk => ⟨hk.1.1.1.1.1.2, ⟨hk.1.1.1.1.2, ⟨hk.1.1.1.2, ⟨hk.1.1.2, ⟨hk.1.2, hk.2⟩⟩⟩⟩⟩)), (by repeat (first | (with_reducible first | exact HB.out | apply below_alloc | apply pw_below_drewN | apply below_drew1) | exact HB.out))⟩)
      skip
      refine goes_ Try.func45 (by kernel_rfl) rfl #[.slice Ao12 t365.length co12] (by rfl) rfl rfl (by (try simp only [List.map_toArray, List.map_cons, List.map_nil]); first | done | rfl | (simp only [List.length_drop, List.length_take]; rfl)) ?_
      with_reducible refine (spec_Squeeze.calls k _ _ t365 t387 _ ?side1 ?side2 A19.out).mono ?_
      (case side1 => repeat (first | exact (Kd.R_reads' HO367.out).2.2 | (with_reducible refine Kd.C_alloc ?_ _) | (with_reducible refine Kd.C_drewN ?_ _) | (with_reducible refine Kd.C_drew ?_)))
      (case side2 => exact (Kd.R_reads' HO367.out).2.1)
      rintro e w46 ⟨v388, rfl, ho0, hb⟩
      refine ⟨_, rfl, ?_⟩
      have n0_ := Aside0.mk (Kd.R_elder' (by (with_reducible repeat (first | apply a1 | apply a2 | apply a3)); exact HO367.out) (Kd.R_base ho0) hb)
      have n1_ := Aside0.mk (Kd.R_elder' (by (with_reducible repeat (first | apply a1 | apply a2 | apply a3)); exact HO370.out) (Kd.R_base ho0) hb)
      have n2_ := Aside0.mk (Kd.R_elder' (by (with_reducible repeat (first | apply a1 | apply a2 | apply a3)); exact HO373.out) (Kd.R_base ho0) hb)
      have n3_ := Aside0.mk (Kd.R_elder' (by (with_reducible repeat (first | apply a1 | apply a2 | apply a3)); exact HO377.out) (Kd.R_base ho0) hb)
      have n4_ := Aside0.mk (Kd.R_elder' (by (with_reducible repeat (first | apply a1 | apply a2 | apply a3)); exact HO381.out) (Kd.R_base ho0) hb)
      have n5_ := Aside0.mk (Kd.R_elder' (by (with_reducible repeat (first | apply a1 | apply a2 | apply a3)); exact HO386.out) (Kd.R_base ho0) hb)
      have n6_ := Aside0.mk (Kd.R_lower (Kd.R_new' (Kd.R_new' (Kd.R_new' (Kd.R_new' (Kd.R_new' (Kd.R_new' ho0 (Kd.R_lt (by (with_reducible repeat (first | apply a1 | apply a2 | apply a3)); exact HO367.out))) (Kd.R_lt (by (with_reducible repeat (first | apply a1 | apply a2 | apply a3)); exact HO370.out))) (Kd.R_lt (by (with_reducible repeat (first | apply a1 | apply a2 | apply a3)); exact HO373.out))) (Kd.R_lt (by (with_reducible repeat (first | apply a1 | apply a2 | apply a3)); exact HO377.out))) (Kd.R_lt (by (with_reducible repeat (first | apply a1 | apply a2 | apply a3)); exact HO381.out))) (Kd.R_lt (by (with_reducible repeat (first | apply a1 | apply a2 | apply a3)); exact HO386.out))) (below_size (by repeat (first | (with_reducible first | exact HB.out | apply below_alloc | apply pw_below_drewN | apply below_drew1) | exact HB.out))))
      have n7_ := Aside0.mk (below_step (by repeat (first | (with_reducible first | exact HB.out | apply below_alloc | apply pw_below_drewN | apply below_drew1) | exact HB.out)) hb)
      clear HO367
      clear HO370
      clear HO373
      clear HO377
      clear HO381
      clear HO386
      clear HB
      have HO367 := n0_
      have HO370 := n1_
      have HO373 := n2_
      have HO377 := n3_
      have HO381 := n4_
      have HO386 := n5_
      have HO389 := n6_
      have HB := n7_
      clear n0_ n1_ n2_ n3_ n4_ n5_ n6_ n7_
      (try clear hb)
      (try clear hb2)
      (try clear hk)
      (try clear hi)
      (try clear ho0)
      refine hK.out _ _ trivial (fun hHeld => ?_)
      clear hK K
      refine norm_ (a' := ?_) ?_ ?_
      rotate_left
      · show Act.put _ (some 42) _ = _
        simp only [Act.put, s1, s2, s3, i64_w, i32_w]
        rfl
      refine two_ (i := 1) (j := 4) (Ni := some 40) (Nj := some 43) #[T,T,T,T,F,F,F,F,F,F,F,F,F,F,F,F,F,F,F,F,F,F,F,F,F,F,F,F,F] #[T,F,T,T,T,F,F,F,F,F,F,F,F,F,F,F,F,F,F,F,F,F,F,F,F,F,F,F,F] rfl rfl rfl rfl (two_of HT_.out (by kernel_rfl)) (by decide) (by decide) (fun K hK => ?_) (fun K hK => ?_)
      · skip
        have hcv47 := own_string (P := Try.prog) Try.underlying22 Try.underlying5 Try.underlying9 (Kd.own_of_R HO370.out)
        refine value_ (w1 := ?_) (v := ?_) (by first | rfl | (simp only [c20b1]; rfl)) rfl ?_ ?_
        rotate_left 2
        · go_simp
          constructor
          · rfl
          rfl
        clear hcv47
        refine hK.out _ _ trivial (fun hHeld => ?_)
        clear hK K
        refine norm_ (a' := ?_) ?_ ?_
        rotate_left
        · show Act.put _ (some 40) _ = _
          simp only [Act.put, s1, s2, s3, i64_w, i32_w]
          rfl
        refine one_ (i := 4) (N := some 43) #[T,T,T,T,T,F,F,F,F,F,F,F,F,F,F,F,F,F,F,F,F,F,F,F,F,F,F,F,F] rfl rfl (one_of HT_.out (by kernel_rfl)) (by decide) (fun K hK => ?_)
        have hcv48 := own_string (P := Try.prog) Try.underlying22 Try.underlying5 Try.underlying9 (Kd.own_of_R HO389.out)
        refine value_ (w1 := ?_) (v := ?_) (by first | rfl | (simp only [c20b1]; rfl)) rfl ?_ ?_
        rotate_left 2
        · go_simp
          constructor
          · rfl
          rfl
        clear hcv48
        refine hK.out _ _ trivial (fun hHeld => ?_)
        clear hK K
        refine norm_ (a' := ?_) ?_ ?_
        rotate_left
        · show Act.put _ (some 43) _ = _
          simp only [Act.put, s1, s2, s3, i64_w, i32_w]
          rfl
        exact norm_ (by simp only [putAll, Act.put, s1, s2, s3]) (hCont (v388) _ ⟨(by (with_reducible repeat (first | apply a1 | apply a2 | apply a3)); exact Kd.R_mono HO367.out (fun _ hk => ⟨hk.1.1.1.1.1.2, ⟨hk.1.1.1.1.2, ⟨hk.1.1.1.2, ⟨hk.1.1.2, ⟨hk.1.2, hk.2⟩⟩⟩⟩⟩)), (by (with_reducible repeat (first | apply a1 | apply a2 | apply a3)); exact Kd.R_mono HO370.out (fun _ hk => ⟨hk.1.1.1.1.1.2, ⟨hk.1.1.1.1.2, ⟨hk.1.1.1.2, ⟨hk.1.1.2, ⟨hk.1.2, hk.2⟩⟩⟩⟩⟩)), (by (with_reducible repeat (first | apply a1 | apply a2 | apply a3)); exact Kd.R_mono HO373.out (fun _ hk => ⟨hk.1.1.1.1.1.2, ⟨hk.1.1.1.1.2, ⟨hk.1.1.1.2, ⟨hk.1.1.2, ⟨hk.1.2, hk.2⟩⟩⟩⟩⟩)), (by (with_reducible repeat (first | apply a1 | apply a2 | apply a3)); exact Kd.R_mono HO377.out (fun _ hk => ⟨hk.1.1.1.1.1.2, ⟨hk.1.1.1.1.2, ⟨hk.1.1.1.2, ⟨hk.1.1.2, ⟨hk.1.2, hk.2⟩⟩⟩⟩⟩)), (by (with_reducible repeat (first | apply a1 | apply a2 | apply a3)); exact Kd.R_mono HO381.out (fun _ hk => ⟨hk.1.1.1.1.1.2, ⟨hk.1.1.1.1.2, ⟨hk.1.1.1.2, ⟨hk.1.1.2, ⟨hk.1.2, hk.2⟩⟩⟩⟩⟩)), (by (with_reducible repeat (first | apply a1 | apply a2 | apply a3)); exact Kd.R_mono HO386.out (fun _ hk => ⟨hk.1.1.1.1.1.2, ⟨hk.1.1.1.1.2, ⟨hk.1.1.1.2, ⟨hk.1.1.2, ⟨hk.1.2, hk.2⟩⟩⟩⟩⟩)), (by (with_reducible repeat (first | apply a1 | apply a2 | apply a3)); exact Kd.R_mono HO389.out (fun _ hk => ⟨hk.1.1.1.1.1.2, ⟨hk.1.1.1.1.2, ⟨hk.1.1.1.2, ⟨hk.1.1.2, ⟨hk.1.2, hk.2⟩⟩⟩⟩⟩)), (by repeat (first | (with_reducible first | exact HB.out | apply below_alloc | apply pw_below_drewN | apply below_drew1) | exact HB.out))⟩)
      skip
      have hcv47 := own_string (P := Try.prog) Try.underlying22 Try.underlying5 Try.underlying9 (Kd.own_of_R HO389.out)
      refine value_ (w1 := ?_) (v := ?_) (by first | rfl | (simp only [c20b1]; rfl)) rfl ?_ ?_
      rotate_left 2
      · go_simp
        constructor
        · rfl
        rfl
      clear hcv47
      refine hK.out _ _ trivial (fun hHeld => ?_)
      clear hK K
      refine norm_ (a' := ?_) ?_ ?_
      rotate_left
      · show Act.put _ (some 43) _ = _
        simp only [Act.put, s1, s2, s3, i64_w, i32_w]
        rfl
      refine one_ (i := 1) (N := some 40) #[T,T,T,T,T,F,F,F,F,F,F,F,F,F,F,F,F,F,F,F,F,F,F,F,F,F,F,F,F] rfl rfl (one_of HT_.out (by kernel_rfl)) (by decide) (fun K hK => ?_)
      have hcv48 := own_string (P := Try.prog) Try.underlying22 Try.underlying5 Try.underlying9 (Kd.own_of_R HO370.out)
      refine value_ (w1 := ?_) (v := ?_) (by first | rfl | (simp only [c20b1]; rfl)) rfl ?_ ?_
      rotate_left 2
      · go_simp
        constructor
        · rfl
        rfl
      clear hcv48
      refine hK.out _ _ trivial (fun hHeld => ?_)
      clear hK K
      refine norm_ (a' := ?_) ?_ ?_
      rotate_left
      · show Act.put _ (some 40) _ = _
        simp only [Act.put, s1, s2, s3, i64_w, i32_w]
        rfl
      exact norm_ (by simp only [putAll, Act.put, s1, s2, s3]) (hCont (v388) _ ⟨(by (with_reducible repeat (first | apply a1 | apply a2 | apply a3)); exact Kd.R_mono HO367.out (fun _ hk => ⟨hk.1.1.1.1.1.2, ⟨hk.1.1.1.1.2, ⟨hk.1.1.1.2, ⟨hk.1.1.2, ⟨hk.1.2, hk.2⟩⟩⟩⟩⟩)), (by (with_reducible repeat (first | apply a1 | apply a2 | apply a3)); exact Kd.R_mono HO370.out (fun _ hk => ⟨hk.1.1.1.1.1.2, ⟨hk.1.1.1.1.2, ⟨hk.1.1.1.2, ⟨hk.1.1.2, ⟨hk.1.2, hk.2⟩⟩⟩⟩⟩)), (by (with_reducible repeat (first | apply a1 | apply a2 | apply a3)); exact Kd.R_mono HO373.out (fun _ hk => ⟨hk.1.1.1.1.1.2, ⟨hk.1.1.1.1.2, ⟨hk.1.1.1.2, ⟨hk.1.1.2, ⟨hk.1.2, hk.2⟩⟩⟩⟩⟩)), (by (with_reducible repeat (first | apply a1 | apply a2 | apply a3)); exact Kd.R_mono HO377.out (fun _ hk => ⟨hk.1.1.1.1.1.2, ⟨hk.1.1.1.1.2, ⟨hk.1.1.1.2, ⟨hk.1.1.2, ⟨hk.1.2, hk.2⟩⟩⟩⟩⟩)), (by (with_reducible repeat (first | apply a1 | apply a2 | apply a3)); exact Kd.R_mono HO381.out (fun _ hk => ⟨hk.1.1.1.1.1.2, ⟨hk.1.1.1.1.2, ⟨hk.1.1.1.2, ⟨hk.1.1.2, ⟨hk.1.2, hk.2⟩⟩⟩⟩⟩)), (by (with_reducible repeat (first | apply a1 | apply a2 | apply a3)); exact Kd.R_mono HO386.out (fun _ hk => ⟨hk.1.1.1.1.1.2, ⟨hk.1.1.1.1.2, ⟨hk.1.1.1.2, ⟨hk.1.1.2, ⟨hk.1.2, hk.2⟩⟩⟩⟩⟩)), (by (with_reducible repeat (first | apply a1 | apply a2 | apply a3)); exact Kd.R_mono HO389.out (fun _ hk => ⟨hk.1.1.1.1.1.2, ⟨hk.1.1.1.1.2, ⟨hk.1.1.1.2, ⟨hk.1.1.2, ⟨hk.1.2, hk.2⟩⟩⟩⟩⟩)), (by repeat (first | (with_reducible first | exact HB.out | apply below_alloc | apply pw_below_drewN | apply below_drew1) | exact HB.out))⟩)
    rintro v388 w49 ⟨h0_, h1_, h2_, h3_, h4_, h5_, h6_, h7_⟩
    have n0_ : Aside0 (Kd.R (Kd.int .u8) 5 w49 w.heap.size (fun k_ => some k_ ≠ ob v369 ∧ some k_ ≠ ob (.slice Ao15 t371.length co15) ∧ some k_ ≠ ob v376 ∧ some k_ ≠ ob v380 ∧ some k_ ≠ ob v385 ∧ some k_ ≠ ob v388) (.slice Ao12 t365.length co12) t365) := ⟨h0_⟩
    have n1_ : Aside0 (Kd.R (Kd.int .u8) 5 w49 w.heap.size (fun k_ => some k_ ≠ ob (.slice Ao12 t365.length co12) ∧ some k_ ≠ ob (.slice Ao15 t371.length co15) ∧ some k_ ≠ ob v376 ∧ some k_ ≠ ob v380 ∧ some k_ ≠ ob v385 ∧ some k_ ≠ ob v388) v369 t368) := ⟨h1_⟩
    have n2_ : Aside0 (Kd.R (Kd.int .u8) 5 w49 w.heap.size (fun k_ => some k_ ≠ ob (.slice Ao12 t365.length co12) ∧ some k_ ≠ ob v369 ∧ some k_ ≠ ob v376 ∧ some k_ ≠ ob v380 ∧ some k_ ≠ ob v385 ∧ some k_ ≠ ob v388) (.slice Ao15 t371.length co15) t371) := ⟨h2_⟩
    have n3_ : Aside0 (Kd.R (Kd.int .u8) 5 w49 w.heap.size (fun k_ => some k_ ≠ ob (.slice Ao12 t365.length co12) ∧ some k_ ≠ ob v369 ∧ some k_ ≠ ob (.slice Ao15 t371.length co15) ∧ some k_ ≠ ob v380 ∧ some k_ ≠ ob v385 ∧ some k_ ≠ ob v388) v376 t374) := ⟨h3_⟩
    have n4_ : Aside0 (Kd.R (Kd.int .u8) 5 w49 w.heap.size (fun k_ => some k_ ≠ ob (.slice Ao12 t365.length co12) ∧ some k_ ≠ ob v369 ∧ some k_ ≠ ob (.slice Ao15 t371.length co15) ∧ some k_ ≠ ob v376 ∧ some k_ ≠ ob v385 ∧ some k_ ≠ ob v388) v380 t378) := ⟨h4_⟩
    have n5_ : Aside0 (Kd.R (Kd.int .u8) 5 w49 w.heap.size (fun k_ => some k_ ≠ ob (.slice Ao12 t365.length co12) ∧ some k_ ≠ ob v369 ∧ some k_ ≠ ob (.slice Ao15 t371.length co15) ∧ some k_ ≠ ob v376 ∧ some k_ ≠ ob v380 ∧ some k_ ≠ ob v388) v385 t382) := ⟨h5_⟩
    have n6_ : Aside0 (Kd.R (Kd.int .u8) 5 w49 w.heap.size (fun k_ => some k_ ≠ ob (.slice Ao12 t365.length co12) ∧ some k_ ≠ ob v369 ∧ some k_ ≠ ob (.slice Ao15 t371.length co15) ∧ some k_ ≠ ob v376 ∧ some k_ ≠ ob v380 ∧ some k_ ≠ ob v385) v388 t387) := ⟨h6_⟩
    have n7_ : Aside0 (Below w.heap.size w w49) := ⟨h7_⟩
    clear HO367
    clear HO370
    clear HO373
    clear HO377
    clear HO381
    clear HO386
    clear HB
    clear h0_ h1_ h2_ h3_ h4_ h5_ h6_ h7_
    have HO367 := n0_
    have HO370 := n1_
    have HO373 := n2_
    have HO377 := n3_
    have HO381 := n4_
    have HO386 := n5_
    have HO389 := n6_
    have HB := n7_
    clear n0_ n1_ n2_ n3_ n4_ n5_ n6_ n7_
    have hHeld := trivial
    refine norm_ (a' := ?_) ?_ ?_
    rotate_left
    · simp only [putAll, Act.put, s1, s2, s3]
      rfl
    refine pure_ (i := 5) (N := some 44) (v := ?_) (a' := ?_) #[T,T,T,T,T,T,F,F,F,F,F,F,F,F,F,F,F,F,F,F,F,F,F,F,F,F,F,F,F] rfl rfl (any_of HT_.out (by kernel_rfl)) (fun _ _ _ h => h) (Or.inl ⟨by first | rfl | (simp only [c20b1]; rfl), ?_⟩) ?_ ?_
    rotate_left
    · intro w'
      go_simp
      with_reducible rfl
    rotate_left
    · simp only [Act.put, s1, s2, s3, i64_w, i32_w]
      rfl
    refine pure_ (i := 6) (N := some 45) (v := ?_) (a' := ?_) #[T,T,T,T,T,T,T,F,F,F,F,F,F,F,F,F,F,F,F,F,F,F,F,F,F,F,F,F,F] rfl rfl (any_of HT_.out (by kernel_rfl)) (fun _ _ _ h => h) (Or.inl ⟨by first | rfl | (simp only [c20b1]; rfl), ?_⟩) ?_ ?_
    rotate_left
    · intro w'
      go_simp
      with_reducible rfl
    rotate_left
    · simp only [Act.put, s1, s2, s3, i64_w, i32_w]
      rfl
    refine pure_ (i := 7) (N := some 46) (v := undef) (a' := ?_) #[T,T,T,T,T,T,T,T,F,F,F,F,F,F,F,F,F,F,F,F,F,F,F,F,F,F,F,F,F] rfl rfl (any_of HT_.out (by kernel_rfl)) (fun _ _ _ h => h) (Or.inr ⟨by rfl, rfl⟩) ?_ ?_
    rotate_left
    · simp only [Act.put, s1, s2, s3, i64_w, i32_w]
      rfl
    refine pure_ (i := 8) (N := some 47) (v := undef) (a' := ?_) #[T,T,T,T,T,T,T,T,T,F,F,F,F,F,F,F,F,F,F,F,F,F,F,F,F,F,F,F,F] rfl rfl (any_of HT_.out (by kernel_rfl)) (fun _ _ _ h => h) (Or.inr ⟨by rfl, rfl⟩) ?_ ?_
    rotate_left
    · simp only [Act.put, s1, s2, s3, i64_w, i32_w]
      rfl
    refine pure_ (i := 9) (N := some 48) (v := undef) (a' := ?_) #[T,T,T,T,T,T,T,T,T,T,F,F,F,F,F,F,F,F,F,F,F,F,F,F,F,F,F,F,F] rfl rfl (any_of HT_.out (by kernel_rfl)) (fun _ _ _ h => h) (Or.inr ⟨by rfl, rfl⟩) ?_ ?_
    rotate_left
    · simp only [Act.put, s1, s2, s3, i64_w, i32_w]
      rfl
    refine pure_ (i := 10) (N := some 49) (v := ?_) (a' := ?_) #[T,T,T,T,T,T,T,T,T,T,T,F,F,F,F,F,F,F,F,F,F,F,F,F,F,F,F,F,F] rfl rfl (any_of HT_.out (by kernel_rfl)) (fun _ _ _ h => h) (Or.inl ⟨by first | rfl | (simp only [c20b1]; rfl), ?_⟩) ?_ ?_
    rotate_left
    · intro w'
      go_simp
      with_reducible rfl
    rotate_left
    · simp only [Act.put, s1, s2, s3, i64_w, i32_w]
      rfl
    refine pure_ (i := 11) (N := some 50) (v := ?_) (a' := ?_) #[T,T,T,T,T,T,T,T,T,T,T,T,F,F,F,F,F,F,F,F,F,F,F,F,F,F,F,F,F] rfl rfl (any_of HT_.out (by kernel_rfl)) (fun _ _ _ h => h) (Or.inl ⟨by first | rfl | (simp only [c20b1]; rfl), ?_⟩) ?_ ?_
    rotate_left
    · intro w'
      go_simp
      with_reducible rfl
    rotate_left
    · simp only [Act.put, s1, s2, s3, i64_w, i32_w]
      rfl
    refine pure_ (i := 12) (N := some 51) (v := undef) (a' := ?_) #[T,T,T,T,T,T,T,T,T,T,T,T,T,F,F,F,F,F,F,F,F,F,F,F,F,F,F,F,F] rfl rfl (any_of HT_.out (by kernel_rfl)) (fun _ _ _ h => h) (Or.inr ⟨by rfl, rfl⟩) ?_ ?_
    rotate_left
    · simp only [Act.put, s1, s2, s3, i64_w, i32_w]
      rfl
    refine pure_ (i := 13) (N := some 52) (v := undef) (a' := ?_) #[T,T,T,T,T,T,T,T,T,T,T,T,T,T,F,F,F,F,F,F,F,F,F,F,F,F,F,F,F] rfl rfl (any_of HT_.out (by kernel_rfl)) (fun _ _ _ h => h) (Or.inr ⟨by rfl, rfl⟩) ?_ ?_
    rotate_left
    · simp only [Act.put, s1, s2, s3, i64_w, i32_w]
      rfl
    refine pure_ (i := 14) (N := some 53) (v := undef) (a' := ?_) #[T,T,T,T,T,T,T,T,T,T,T,T,T,T,T,F,F,F,F,F,F,F,F,F,F,F,F,F,F] rfl rfl (any_of HT_.out (by kernel_rfl)) (fun _ _ _ h => h) (Or.inr ⟨by rfl, rfl⟩) ?_ ?_
    rotate_left
    · simp only [Act.put, s1, s2, s3, i64_w, i32_w]
      rfl
    refine pure_ (i := 15) (N := some 54) (v := undef) (a' := ?_) #[T,T,T,T,T,T,T,T,T,T,T,T,T,T,T,T,F,F,F,F,F,F,F,F,F,F,F,F,F] rfl rfl (any_of HT_.out (by kernel_rfl)) (fun _ _ _ h => h) (Or.inr ⟨by rfl, rfl⟩) ?_ ?_
    rotate_left
    · simp only [Act.put, s1, s2, s3, i64_w, i32_w]
      rfl
    refine pure_ (i := 16) (N := some 55) (v := undef) (a' := ?_) #[T,T,T,T,T,T,T,T,T,T,T,T,T,T,T,T,T,F,F,F,F,F,F,F,F,F,F,F,F] rfl rfl (any_of HT_.out (by kernel_rfl)) (fun _ _ _ h => h) (Or.inr ⟨by rfl, rfl⟩) ?_ ?_
    rotate_left
    · simp only [Act.put, s1, s2, s3, i64_w, i32_w]
      rfl
    refine pure_ (i := 17) (N := some 56) (v := ?_) (a' := ?_) #[T,T,T,T,T,T,T,T,T,T,T,T,T,T,T,T,T,T,F,F,F,F,F,F,F,F,F,F,F] rfl rfl (any_of HT_.out (by kernel_rfl)) (fun _ _ _ h => h) (Or.inl ⟨by first | rfl | (simp only [c20b1]; rfl), ?_⟩) ?_ ?_
    rotate_left
    · intro w'
      go_simp
      with_reducible rfl
    rotate_left
    · simp only [Act.put, s1, s2, s3, i64_w, i32_w]
      rfl
    refine pure_ (i := 18) (N := some 57) (v := ?_) (a' := ?_) #[T,T,T,T,T,T,T,T,T,T,T,T,T,T,T,T,T,T,T,F,F,F,F,F,F,F,F,F,F] rfl rfl (any_of HT_.out (by kernel_rfl)) (fun _ _ _ h => h) (Or.inl ⟨by first | rfl | (simp only [c20b1]; rfl), ?_⟩) ?_ ?_
    rotate_left
    · intro w'
      go_simp
      with_reducible rfl
    rotate_left
    · simp only [Act.put, s1, s2, s3, i64_w, i32_w]
      rfl
    refine pure_ (i := 19) (N := some 58) (v := undef) (a' := ?_) #[T,T,T,T,T,T,T,T,T,T,T,T,T,T,T,T,T,T,T,T,F,F,F,F,F,F,F,F,F] rfl rfl (any_of HT_.out (by kernel_rfl)) (fun _ _ _ h => h) (Or.inr ⟨by rfl, rfl⟩) ?_ ?_
    rotate_left
    · simp only [Act.put, s1, s2, s3, i64_w, i32_w]
      rfl
    refine pure_ (i := 20) (N := some 59) (v := undef) (a' := ?_) #[T,T,T,T,T,T,T,T,T,T,T,T,T,T,T,T,T,T,T,T,T,F,F,F,F,F,F,F,F] rfl rfl (any_of HT_.out (by kernel_rfl)) (fun _ _ _ h => h) (Or.inr ⟨by rfl, rfl⟩) ?_ ?_
    rotate_left
    · simp only [Act.put, s1, s2, s3, i64_w, i32_w]
      rfl
    refine pure_ (i := 21) (N := some 60) (v := undef) (a' := ?_) #[T,T,T,T,T,T,T,T,T,T,T,T,T,T,T,T,T,T,T,T,T,T,F,F,F,F,F,F,F] rfl rfl (any_of HT_.out (by kernel_rfl)) (fun _ _ _ h => h) (Or.inr ⟨by rfl, rfl⟩) ?_ ?_
    rotate_left
    · simp only [Act.put, s1, s2, s3, i64_w, i32_w]
      rfl
    refine pure_ (i := 22) (N := some 61) (v := undef) (a' := ?_) #[T,T,T,T,T,T,T,T,T,T,T,T,T,T,T,T,T,T,T,T,T,T,T,F,F,F,F,F,F] rfl rfl (any_of HT_.out (by kernel_rfl)) (fun _ _ _ h => h) (Or.inr ⟨by rfl, rfl⟩) ?_ ?_
    rotate_left
    · simp only [Act.put, s1, s2, s3, i64_w, i32_w]
      rfl
    refine pure_ (i := 23) (N := some 62) (v := undef) (a' := ?_) #[T,T,T,T,T,T,T,T,T,T,T,T,T,T,T,T,T,T,T,T,T,T,T,T,F,F,F,F,F] rfl rfl (any_of HT_.out (by kernel_rfl)) (fun _ _ _ h => h) (Or.inr ⟨by rfl, rfl⟩) ?_ ?_
    rotate_left
    · simp only [Act.put, s1, s2, s3, i64_w, i32_w]
      rfl
    refine pure_ (i := 24) (N := some 63) (v := undef) (a' := ?_) #[T,T,T,T,T,T,T,T,T,T,T,T,T,T,T,T,T,T,T,T,T,T,T,T,T,F,F,F,F] rfl rfl (any_of HT_.out (by kernel_rfl)) (fun _ _ _ h => h) (Or.inr ⟨by rfl, rfl⟩) ?_ ?_
    rotate_left
    · simp only [Act.put, s1, s2, s3, i64_w, i32_w]
      rfl
    refine pure_ (i := 25) (N := some 64) (v := undef) (a' := ?_) #[T,T,T,T,T,T,T,T,T,T,T,T,T,T,T,T,T,T,T,T,T,T,T,T,T,T,F,F,F] rfl rfl (any_of HT_.out (by kernel_rfl)) (fun _ _ _ h => h) (Or.inr ⟨by rfl, rfl⟩) ?_ ?_
    rotate_left
    · simp only [Act.put, s1, s2, s3, i64_w, i32_w]
      rfl
    refine pure_ (i := 26) (N := some 65) (v := undef) (a' := ?_) #[T,T,T,T,T,T,T,T,T,T,T,T,T,T,T,T,T,T,T,T,T,T,T,T,T,T,T,F,F] rfl rfl (any_of HT_.out (by kernel_rfl)) (fun _ _ _ h => h) (Or.inr ⟨by rfl, rfl⟩) ?_ ?_
    rotate_left
    · simp only [Act.put, s1, s2, s3, i64_w, i32_w]
      rfl
    refine pure_ (i := 27) (N := some 66) (v := undef) (a' := ?_) #[T,T,T,T,T,T,T,T,T,T,T,T,T,T,T,T,T,T,T,T,T,T,T,T,T,T,T,T,F] rfl rfl (any_of HT_.out (by kernel_rfl)) (fun _ _ _ h => h) (Or.inr ⟨by rfl, rfl⟩) ?_ ?_
    rotate_left
    · simp only [Act.put, s1, s2, s3, i64_w, i32_w]
      rfl
    refine pure_ (i := 28) (N := some 67) (v := ?_) (a' := ?_) #[T,T,T,T,T,T,T,T,T,T,T,T,T,T,T,T,T,T,T,T,T,T,T,T,T,T,T,T,T] rfl rfl (any_of HT_.out (by kernel_rfl)) (fun _ _ _ h => h) (Or.inl ⟨by first | rfl | (simp only [c20b1]; rfl), ?_⟩) ?_ ?_
    rotate_left
    · intro w'
      go_simp
      with_reducible rfl
    rotate_left
    · simp only [Act.put, s1, s2, s3, i64_w, i32_w]
      rfl
    refine done_ (done_of HT_.out (by kernel_rfl)) ?_
    try go_wp2
    go_meet
    case rel => exact ⟨_, (true), (by first | rfl | (simp; done) | (simp [*]; done)), H', ⟨by first | omega | exact Nat.le_refl _⟩, ⟨by (with_reducible repeat (first | apply a1 | apply a2 | apply a3)); exact Kd.R_mono HO367.out (fun _ hk => ⟨hk.1, hk.2.2.1⟩)⟩, ⟨by (with_reducible repeat (first | apply a1 | apply a2 | apply a3)); exact Kd.R_mono HO370.out (fun _ hk => ⟨hk.1, hk.2.2.1⟩)⟩, ⟨by (with_reducible repeat (first | apply a1 | apply a2 | apply a3)); exact Kd.R_mono HO377.out (fun _ hk => ⟨hk.1, hk.2.1⟩)⟩, ⟨by repeat (first | (with_reducible first | exact HB.out | apply below_alloc | apply pw_below_drewN | apply below_drew1) | exact HB.out)⟩⟩
  case rest =>
    clear HC10
    try clear c2
    try clear p2
    try clear c4
    try clear hcv4
    try clear c20
    try clear c20b0
    try clear c20b1
    try clear hcv44
    try clear c45
    try clear hcv46
    try clear hcv47
    try clear hcv48
    obtain ⟨kq, x67_9, rfl, HA, HJ9, HO_3, HO_4, HO_6, HB⟩ := hcut
    cases kq with
    | zero => exact absurd HA.out (by simp [laws_FnSqueezed.j0])
    | succ kj9 =>
      have H := HA.out
      clear HA
      simp only [laws_FnSqueezed.j0] at H
      by_cases c50 : x67_9 = true
      · subst c50
        have H1 : (some false) = some r := by rw [if_pos rfl] at H; exact H
        clear H
        have H := H1
        clear H1
        exact absurd (H.trans (congrArg some hT_.out)) (by simp)
      replace c50 := Bool.eq_false_iff.mpr c50
      subst c50
      have H1 : (if (t365.length : Int) > 3000 then (some ((t368.length : Int) == 0)) else ((impl_Spread.f kj9 t368).bind fun bt392 => (if bt392.2 = true then (if (strOfNums bt392.1).toList = (strOfNums t365).toList then (if (t368.length : Int) ≤ (wrap64 (2 * (t365.length : Int))) then (if t375 = true then (some (decide ((t374.length : Int) ≤ 3000))) else (if (t374.length : Int) = 0 then (some (decide ((t374.length : Int) ≤ 3000))) else (some false))) else (some false)) else (some false)) else (some false)))) = some r := by rw [if_neg (show ¬ (false = true) by decide)] at H; exact H
      clear H
      have H := H1
      clear H1
      by_cases c51 : (t365.length : Int) > 3000
      · rw [if_pos c51] at H
        have c51b0 : decide (3000 < (t365.length : Int)) = true := decide_eq_true c51
        have c51b1 : decide (3000 < t365.length) = true := decide_eq_true (by omega)
        clear c51
        obtain rfl := Option.some.inj H
        obtain ⟨Ao52, co52, eo52⟩ := Kd.R_slice HO_4.out
        subst eo52
        go_wp2
        go_ret
        exact ⟨by first | rfl | (simp [errW_none, errW_some] <;> rfl) | (simp [*, errW_none, errW_some] <;> rfl), by repeat (first | (with_reducible first | exact HB.out | apply below_alloc | apply pw_below_drewN | apply below_drew1) | exact HB.out)⟩
      rw [if_neg c51] at H
      have c51b0 : decide (3000 < (t365.length : Int)) = false := decide_eq_false c51
      have c51b1 : decide (3000 < t365.length) = false := decide_eq_false (by omega)
      clear c51
      replace H := Option.bind_eq_some_iff.mp H
      obtain ⟨⟨t392, t393⟩, A530, H⟩ := H
      replace H : (if t393 = true then (if (strOfNums t392).toList = (strOfNums t365).toList then (if (t368.length : Int) ≤ (wrap64 (2 * (t365.length : Int))) then (if t375 = true then (some (decide ((t374.length : Int) ≤ 3000))) else (if (t374.length : Int) = 0 then (some (decide ((t374.length : Int) ≤ 3000))) else (some false))) else (some false)) else (some false)) else (some false)) = some r := H
      have A53 := Aside0.mk A530
      clear A530
      by_cases c54 : t393 = true
      · subst c54
        have H1 : (if (strOfNums t392).toList = (strOfNums t365).toList then (if (t368.length : Int) ≤ (wrap64 (2 * (t365.length : Int))) then (if t375 = true then (some (decide ((t374.length : Int) ≤ 3000))) else (if (t374.length : Int) = 0 then (some (decide ((t374.length : Int) ≤ 3000))) else (some false))) else (some false)) else (some false)) = some r := by rw [if_pos rfl] at H; exact H
        clear H
        have H := H1
        clear H1
        by_cases c55 : (strOfNums t392).toList = (strOfNums t365).toList
        · rw [if_pos c55] at H
          have c55b0 : ((strOfNums t392).toList == (strOfNums t365).toList) = true := beq_iff_eq.mpr c55
          have c55b1 : ((strOfNums t392).toList != (strOfNums t365).toList) = false := bne_eq_false_iff_eq.mpr c55
          clear c55
          by_cases c56 : (t368.length : Int) ≤ (wrap64 (2 * (t365.length : Int)))
          · rw [if_pos c56] at H
            have c56b0 : decide ((t368.length : Int) ≤ (wrap64 (2 * (t365.length : Int)))) = true := decide_eq_true c56
            clear c56
            by_cases c57 : t375 = true
            · subst c57
              have H1 : (some (decide ((t374.length : Int) ≤ 3000))) = some r := by rw [if_pos rfl] at H; exact H
              clear H
              have H := H1
              clear H1
              obtain rfl := Option.some.inj H
              obtain ⟨Ao58, co58, eo58⟩ := Kd.R_slice HO_4.out
              subst eo58
              go_wp2_with (first | ((with_reducible refine gate_callee (f := 42) rfl ?_); refine goesL_ (some 76) rfl rfl Try.func42 (by kernel_rfl) rfl #[.slice Ao58 t368.length co58] rfl (by (try simp only [List.map_toArray, List.map_cons, List.map_nil]); first | done | rfl | (simp only [List.length_drop, List.length_take]; rfl)) ?_; (with_reducible refine (impl_Spread.calls kj9 _ _ t368 t392 true _ ?side1 ?side2 A53.out).mono ?_); (case side1 => repeat (first | exact (Kd.R_reads' HO_4.out).2.2 | (with_reducible refine Kd.C_alloc ?_ _) | (with_reducible refine Kd.C_drewN ?_ _) | (with_reducible refine Kd.C_drew ?_))); (case side2 => exact (Kd.R_reads' HO_4.out).2.1); rintro e w59 ⟨v394, rfl, ho0, hb⟩; refine ⟨_, rfl, ?_⟩; have n0_ := Aside0.mk (Kd.R_elder' (by (with_reducible repeat (first | apply a1 | apply a2 | apply a3)); exact HO_3.out) (Kd.R_base ho0) hb); have n1_ := Aside0.mk (Kd.R_elder' (by (with_reducible repeat (first | apply a1 | apply a2 | apply a3)); exact HO_4.out) (Kd.R_base ho0) hb); have n2_ := Aside0.mk (Kd.R_elder' (by (with_reducible repeat (first | apply a1 | apply a2 | apply a3)); exact HO_6.out) (Kd.R_base ho0) hb); have n3_ := Aside0.mk (Kd.R_lower (Kd.R_new' (Kd.R_new' (Kd.R_new' ho0 (Kd.R_lt (by (with_reducible repeat (first | apply a1 | apply a2 | apply a3)); exact HO_3.out))) (Kd.R_lt (by (with_reducible repeat (first | apply a1 | apply a2 | apply a3)); exact HO_4.out))) (Kd.R_lt (by (with_reducible repeat (first | apply a1 | apply a2 | apply a3)); exact HO_6.out))) (below_size (by repeat (first | (with_reducible first | exact HB.out | apply below_alloc | apply pw_below_drewN | apply below_drew1) | exact HB.out)))); have n4_ := Aside0.mk (below_step (by repeat (first | (with_reducible first | exact HB.out | apply below_alloc | apply pw_below_drewN | apply below_drew1) | exact HB.out)) hb); clear HO_3; clear HO_4; clear HO_6; clear HB; have HO_3 := n0_; have HO_4 := n1_; have HO_6 := n2_; have HO395 := n3_; have HB := n4_; clear n0_ n1_ n2_ n3_ n4_; (try clear hb); (try clear hb2); (try clear hk); (try clear hi); (try clear ho0); have hcv60 := own_string (P := Try.prog) Try.underlying22 Try.underlying5 Try.underlying9 (Kd.own_of_R HO395.out); have hcv61 := own_string (P := Try.prog) Try.underlying22 Try.underlying5 Try.underlying9 (Kd.own_of_R HO_3.out); obtain ⟨Ao62, co62, eo62⟩ := Kd.R_slice HO_6.out; subst eo62))
              go_ret
              exact ⟨by first | rfl | (simp [errW_none, errW_some] <;> rfl) | (simp [*, errW_none, errW_some] <;> rfl), by repeat (first | (with_reducible first | exact HB.out | apply below_alloc | apply pw_below_drewN | apply below_drew1) | exact HB.out)⟩
            replace c57 := Bool.eq_false_iff.mpr c57
            subst c57
            have H1 : (if (t374.length : Int) = 0 then (some (decide ((t374.length : Int) ≤ 3000))) else (some false)) = some r := by rw [if_neg (show ¬ (false = true) by decide)] at H; exact H
            clear H
            have H := H1
            clear H1
            by_cases c63 : (t374.length : Int) = 0
            · rw [if_pos c63] at H
              have c63b0 : ((t374.length : Int) == 0) = true := beq_iff_eq.mpr c63
              have c63b1 : ((t374.length : Int) != 0) = false := bne_eq_false_iff_eq.mpr c63
              clear c63
              obtain rfl := Option.some.inj H
              obtain ⟨Ao64, co64, eo64⟩ := Kd.R_slice HO_4.out
              subst eo64
              go_wp2_with (first | ((with_reducible refine gate_callee (f := 42) rfl ?_); refine goesL_ (some 76) rfl rfl Try.func42 (by kernel_rfl) rfl #[.slice Ao64 t368.length co64] rfl (by (try simp only [List.map_toArray, List.map_cons, List.map_nil]); first | done | rfl | (simp only [List.length_drop, List.length_take]; rfl)) ?_; (with_reducible refine (impl_Spread.calls kj9 _ _ t368 t392 true _ ?side1 ?side2 A53.out).mono ?_); (case side1 => repeat (first | exact (Kd.R_reads' HO_4.out).2.2 | (with_reducible refine Kd.C_alloc ?_ _) | (with_reducible refine Kd.C_drewN ?_ _) | (with_reducible refine Kd.C_drew ?_))); (case side2 => exact (Kd.R_reads' HO_4.out).2.1); rintro e w65 ⟨v394, rfl, ho0, hb⟩; refine ⟨_, rfl, ?_⟩; have n0_ := Aside0.mk (Kd.R_elder' (by (with_reducible repeat (first | apply a1 | apply a2 | apply a3)); exact HO_3.out) (Kd.R_base ho0) hb); have n1_ := Aside0.mk (Kd.R_elder' (by (with_reducible repeat (first | apply a1 | apply a2 | apply a3)); exact HO_4.out) (Kd.R_base ho0) hb); have n2_ := Aside0.mk (Kd.R_elder' (by (with_reducible repeat (first | apply a1 | apply a2 | apply a3)); exact HO_6.out) (Kd.R_base ho0) hb); have n3_ := Aside0.mk (Kd.R_lower (Kd.R_new' (Kd.R_new' (Kd.R_new' ho0 (Kd.R_lt (by (with_reducible repeat (first | apply a1 | apply a2 | apply a3)); exact HO_3.out))) (Kd.R_lt (by (with_reducible repeat (first | apply a1 | apply a2 | apply a3)); exact HO_4.out))) (Kd.R_lt (by (with_reducible repeat (first | apply a1 | apply a2 | apply a3)); exact HO_6.out))) (below_size (by repeat (first | (with_reducible first | exact HB.out | apply below_alloc | apply pw_below_drewN | apply below_drew1) | exact HB.out)))); have n4_ := Aside0.mk (below_step (by repeat (first | (with_reducible first | exact HB.out | apply below_alloc | apply pw_below_drewN | apply below_drew1) | exact HB.out)) hb); clear HO_3; clear HO_4; clear HO_6; clear HB; have HO_3 := n0_; have HO_4 := n1_; have HO_6 := n2_; have HO395 := n3_; have HB := n4_; clear n0_ n1_ n2_ n3_ n4_; (try clear hb); (try clear hb2); (try clear hk); (try clear hi); (try clear ho0); have hcv66 := own_string (P := Try.prog) Try.underlying22 Try.underlying5 Try.underlying9 (Kd.own_of_R HO395.out); have hcv67 := own_string (P := Try.prog) Try.underlying22 Try.underlying5 Try.underlying9 (Kd.own_of_R HO_3.out); obtain ⟨Ao68, co68, eo68⟩ := Kd.R_slice HO_6.out; subst eo68))
              go_ret
              exact ⟨by first | rfl | (simp [errW_none, errW_some] <;> rfl) | (simp [*, errW_none, errW_some] <;> rfl), by repeat (first | (with_reducible first | exact HB.out | apply below_alloc | apply pw_below_drewN | apply below_drew1) | exact HB.out)⟩
            rw [if_neg c63] at H
            have c63b0 : ((t374.length : Int) == 0) = false := beq_eq_false_iff_ne.mpr c63
            have c63b1 : ((t374.length : Int) != 0) = true := bne_iff_ne.mpr c63
            have c63b2 : ¬ (t374 = []) := fun h_ => c63 (by rw [h_]; rfl)
            exact absurd (H.trans (congrArg some hT_.out)) (by simp)
          rw [if_neg c56] at H
          have c56b0 : decide ((t368.length : Int) ≤ (wrap64 (2 * (t365.length : Int)))) = false := decide_eq_false c56
          clear c56
          exact absurd (H.trans (congrArg some hT_.out)) (by simp)
        rw [if_neg c55] at H
        have c55b0 : ((strOfNums t392).toList == (strOfNums t365).toList) = false := beq_eq_false_iff_ne.mpr c55
        have c55b1 : ((strOfNums t392).toList != (strOfNums t365).toList) = true := bne_iff_ne.mpr c55
        exact absurd (H.trans (congrArg some hT_.out)) (by simp)
      replace c54 := Bool.eq_false_iff.mpr c54
      subst c54
      have H1 : (some false) = some r := by rw [if_neg (show ¬ (false = true) by decide)] at H; exact H
      clear H
      have H := H1
      clear H1
      exact absurd (H.trans (congrArg some hT_.out)) (by simp)

/-- THE ONE PURE STATEMENT of laws_FnSqueezed: yours. -/
def laws_FnSqueezed.Pure : Prop := ∀ (l0 : List Int), l0.length ≤ maxLen → l0.length * 1 ≤ 140737488351232 → (∀ x ∈ l0, (Lit.int .u8 x).wf = true) → ∃ k, laws_FnSqueezed.f k l0 = some true
theorem laws_FnSqueezed.walk (P : laws_FnSqueezed.Pure) (a0 : Option Addr) (len0 cap0 : Nat) (z0 : List Int) (w : World) (w0 : (a0 = none ∧ len0 = 0 ∧ cap0 = 0 ∧ z0 = []) ∨ ∃ x, a0 = some x ∧ len0 ≤ cap0 ∧ cap0 ≤ maxLen ∧ z0.length = cap0 ∧ (∀ i, i < z0.length → w.cell? (x.add i) = some (.int .u8 (z0.getD i 0))) ∧ ∀ n ∈ z0, (Lit.int .u8 n).wf = true) (y0 : len0 * 1 ≤ 140737488351232) :
    Calls Try.prog 6 #[.slice a0 len0 cap0] w fun e w' => e = .returned (.bool true) ∧ Below w.heap.size w w' := by
  obtain ⟨l0, rfl, hr0, hm0, hw0, hc0⟩ := ReadsInt.ofRowC w0
  obtain ⟨k, h⟩ := P l0 hm0 y0 hw0
  refine (laws_FnSqueezed.calls k _ _ l0 true w (Kd.C_of_reads (d := (0 : Int)) (h1 := fun _ => rfl) hr0) hc0 ⟨rfl⟩ h).mono ?_
  rintro e w' ⟨rfl, hd⟩
  exact ⟨rfl, hd⟩

end Go.Proofs.Ytfikbjbijpbdkaa.QFnSqueezed
