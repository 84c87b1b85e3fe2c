/- Functions of the program as plain Lean functions, and their contracts, told by a program for this claim. No condition. -/
import Derived.Test.YtkejojcjmlnpgaaQFnGensx0
import Derived.Test.YtkejojcjmlnpgaaQFnGensx1
import Derived.Test.YtkejojcjmlnpgaaQFnGensx2
import Derived.Test.YtkejojcjmlnpgaaQFnGensx3
import Derived.Test.YtkejojcjmlnpgaaQFnGensx4
import Derived.Test.YtkejojcjmlnpgaaQFnGensx5
namespace Go.Proofs.Ytkejojcjmlnpgaa.QFnGens
open Go.RowKit Go.Proofs.YtkejojcjmlnpgaaW.PrintWords Go.Proofs.YtkejojcjmlnpgaaW.PrintLast Go.Proofs.YtkejojcjmlnpgaaW.PrintMore
attribute [local go_sem] max2_int min2_int max_two min_two max_three min_three max_four min_four   -- for this text's walks alone
set_option linter.unusedVariables false
set_option linter.unusedSimpArgs false

/-! ### laws_FnGens: function 13 -/
mutual
def laws_FnGens.j0 : Nat → List Int → Int → List Int → List Int → List Int → Int → Bool → Option (Bool)
  | 0, _, _, _, _, _, _, _ => none
  | k + 1, x3, x4, x5, x6, x7, x8, x50 => if x50 = true then (some false) else ((impl_GensOk.f k x6).bind fun t306 => (if t306 = true then ((impl_GensOk.f k x7).bind fun t307 => (if t307 = true then ((impl_GensOk.f k x3).bind fun t308 => (laws_FnGens.j1 k x3 x4 x5 x6 x7 x8 (!t308))) else (laws_FnGens.j1 k x3 x4 x5 x6 x7 x8 true))) else (laws_FnGens.j1 k x3 x4 x5 x6 x7 x8 true)))
def laws_FnGens.j1 : Nat → List Int → Int → List Int → List Int → List Int → Int → Bool → Option (Bool)
  | 0, _, _, _, _, _, _, _ => none
  | k + 1, x3, x4, x5, x6, x7, x8, x63 => if x63 = true then (some true) else ((impl_Newer.f k x7 x6).bind fun t309 => (if x8 = 0 then (if t309 = x8 then (if x8 = 3 then (if x8 = 2 then (laws_FnGens.j2 k x3 x4 x5 (t309 != 1)) else (laws_FnGens.j2 k x3 x4 x5 false)) else (if x8 = 2 then (laws_FnGens.j2 k x3 x4 x5 (t309 != 1)) else (laws_FnGens.j2 k x3 x4 x5 false))) else (laws_FnGens.j2 k x3 x4 x5 true)) else (if x8 = 3 then (if t309 = x8 then (if x8 = 2 then (laws_FnGens.j2 k x3 x4 x5 (t309 != 1)) else (laws_FnGens.j2 k x3 x4 x5 false)) else (laws_FnGens.j2 k x3 x4 x5 true)) else (if x8 = 2 then (laws_FnGens.j2 k x3 x4 x5 (t309 != 1)) else (laws_FnGens.j2 k x3 x4 x5 false)))))
def laws_FnGens.j2 : Nat → List Int → Int → List Int → Bool → Option (Bool)
  | 0, _, _, _, _ => none
  | k + 1, x3, x4, x5, x90 => if x90 = true then (some false) else ((laws_within.f k x3 x4).bind fun t310 => (if t310 = true then (laws_FnGens.j3 k x3 x4 x5 true) else (if x4 < 1 then (laws_FnGens.j3 k x3 x4 x5 true) else (laws_FnGens.j3 k x3 x4 x5 (decide (x4 > 100000))))))
def laws_FnGens.j3 : Nat → List Int → Int → List Int → Bool → Option (Bool)
  | 0, _, _, _, _ => none
  | k + 1, x3, x4, x5, x101 => if x101 = true then ((laws_sameInts.f k x5 x3).bind fun t311 => (some t311)) else ((impl_GensOk.f k x5).bind fun t312 => (if t312 = true then (if 0 < (x5.length : Int) then (if (rd x5 0) = x4 then (if (x3.length : Int) = 0 then (some true) else ((impl_Newer.f k x5 x3).bind fun t314 => (some (t314 == 1)))) else (some false)) else (none)) else (some false)))
end
def laws_FnGens.f (k : Nat) (l0 : List Int) : Option (Bool) := (laws_big.f l0).bind fun t281 => (if t281 = true then (some true) else ((spec_DrawGenPush.f k l0).bind fun bt282 => ((impl_GenPush.f k bt282.1 bt282.2).bind fun t286 => ((spec_DrawNewer.f k l0).bind fun bt289 => ((impl_Newer.f k bt289.1 bt289.2).bind fun t295 => ((spec_DrawGensOk.f k l0).bind fun t296 => ((spec_GenPush.f k bt282.1 bt282.2).bind fun t299 => ((laws_sameInts.f k t286 t299).bind fun t302 => (if t302 = true then ((spec_Newer.f k bt289.1 bt289.2).bind fun t303 => (if t295 = t303 then ((impl_GensOk.f k t296).bind fun t304 => ((spec_GensOk.f k t296).bind fun t305 => (laws_FnGens.j0 k bt282.1 bt282.2 t286 bt289.1 bt289.2 t295 (t304 != t305)))) else (laws_FnGens.j0 k bt282.1 bt282.2 t286 bt289.1 bt289.2 t295 true))) else (laws_FnGens.j0 k bt282.1 bt282.2 t286 bt289.1 bt289.2 t295 true))))))))))
theorem laws_FnGens.mono_l : ∀ k, (∀ y0 y1 y2 y3 y4 y5 y6, LeO (laws_FnGens.j0 k y0 y1 y2 y3 y4 y5 y6) (laws_FnGens.j0 (k + 1) y0 y1 y2 y3 y4 y5 y6)) ∧ (∀ y0 y1 y2 y3 y4 y5 y6, LeO (laws_FnGens.j1 k y0 y1 y2 y3 y4 y5 y6) (laws_FnGens.j1 (k + 1) y0 y1 y2 y3 y4 y5 y6)) ∧ (∀ y0 y1 y2 y3, LeO (laws_FnGens.j2 k y0 y1 y2 y3) (laws_FnGens.j2 (k + 1) y0 y1 y2 y3)) ∧ (∀ y0 y1 y2 y3, LeO (laws_FnGens.j3 k y0 y1 y2 y3) (laws_FnGens.j3 (k + 1) y0 y1 y2 y3))
  | 0 => ⟨fun _ _ _ _ _ _ _ r h => by simp [laws_FnGens.j0] at h, fun _ _ _ _ _ _ _ r h => by simp [laws_FnGens.j1] at h, fun _ _ _ _ r h => by simp [laws_FnGens.j2] at h, fun _ _ _ _ r h => by simp [laws_FnGens.j3] at h⟩
  | k + 1 => by
    obtain ⟨ih0, ih1, ih2, ih3⟩ := laws_FnGens.mono_l k
    refine ⟨?_, ?_, ?_, ?_⟩
    · intro y0 y1 y2 y3 y4 y5 y6
      unfold laws_FnGens.j0
      repeat' first
      | (with_reducible exact ih0 _ _ _ _ _ _ _)
      | (with_reducible exact ih1 _ _ _ _ _ _ _)
      | (with_reducible exact ih2 _ _ _ _)
      | (with_reducible exact ih3 _ _ _ _)
      | (with_reducible exact impl_GenPush.mono _ _ _)
      | (with_reducible exact impl_GensOk.mono _ _)
      | (with_reducible exact impl_Newer.mono _ _ _)
      | (with_reducible exact laws_sameInts.mono _ _ _)
      | (with_reducible exact laws_within.mono _ _ _)
      | (with_reducible exact spec_DrawGenPush.mono _ _)
      | (with_reducible exact spec_DrawGensOk.mono _ _)
      | (with_reducible exact spec_DrawNewer.mono _ _)
      | (with_reducible exact spec_GenPush.mono _ _ _)
      | (with_reducible exact spec_GensOk.mono _ _)
      | (with_reducible exact spec_Newer.mono _ _ _)
      | (with_reducible exact LeO.refl _)
      | (with_reducible exact LeO.none _)
      | (with_reducible refine LeO.ite ?_ ?_)
      | (with_reducible refine LeO.bind ?_ (fun _ => ?_))
      | exact ih0 _ _ _ _ _ _ _
      | exact ih1 _ _ _ _ _ _ _
      | exact ih2 _ _ _ _
      | exact ih3 _ _ _ _
      | exact impl_GenPush.mono _ _ _
      | exact impl_GensOk.mono _ _
      | exact impl_Newer.mono _ _ _
      | exact laws_sameInts.mono _ _ _
      | exact laws_within.mono _ _ _
      | exact spec_DrawGenPush.mono _ _
      | exact spec_DrawGensOk.mono _ _
      | exact spec_DrawNewer.mono _ _
      | exact spec_GenPush.mono _ _ _
      | exact spec_GensOk.mono _ _
      | exact spec_Newer.mono _ _ _
      | exact LeO.none _
      | refine LeO.ite ?_ ?_
      | refine LeO.bind ?_ (fun _ => ?_)
    · intro y0 y1 y2 y3 y4 y5 y6
      unfold laws_FnGens.j1
      repeat' first
      | (with_reducible exact ih0 _ _ _ _ _ _ _)
      | (with_reducible exact ih1 _ _ _ _ _ _ _)
      | (with_reducible exact ih2 _ _ _ _)
      | (with_reducible exact ih3 _ _ _ _)
      | (with_reducible exact impl_GenPush.mono _ _ _)
      | (with_reducible exact impl_GensOk.mono _ _)
      | (with_reducible exact impl_Newer.mono _ _ _)
      | (with_reducible exact laws_sameInts.mono _ _ _)
      | (with_reducible exact laws_within.mono _ _ _)
      | (with_reducible exact spec_DrawGenPush.mono _ _)
      | (with_reducible exact spec_DrawGensOk.mono _ _)
      | (with_reducible exact spec_DrawNewer.mono _ _)
      | (with_reducible exact spec_GenPush.mono _ _ _)
      | (with_reducible exact spec_GensOk.mono _ _)
      | (with_reducible exact spec_Newer.mono _ _ _)
      | (with_reducible exact LeO.refl _)
      | (with_reducible exact LeO.none _)
      | (with_reducible refine LeO.ite ?_ ?_)
      | (with_reducible refine LeO.bind ?_ (fun _ => ?_))
      | exact ih0 _ _ _ _ _ _ _
      | exact ih1 _ _ _ _ _ _ _
      | exact ih2 _ _ _ _
      | exact ih3 _ _ _ _
      | exact impl_GenPush.mono _ _ _
      | exact impl_GensOk.mono _ _
      | exact impl_Newer.mono _ _ _
      | exact laws_sameInts.mono _ _ _
      | exact laws_within.mono _ _ _
      | exact spec_DrawGenPush.mono _ _
      | exact spec_DrawGensOk.mono _ _
      | exact spec_DrawNewer.mono _ _
      | exact spec_GenPush.mono _ _ _
      | exact spec_GensOk.mono _ _
      | exact spec_Newer.mono _ _ _
      | exact LeO.none _
      | refine LeO.ite ?_ ?_
      | refine LeO.bind ?_ (fun _ => ?_)
    · intro y0 y1 y2 y3
      unfold laws_FnGens.j2
      repeat' first
      | (with_reducible exact ih0 _ _ _ _ _ _ _)
      | (with_reducible exact ih1 _ _ _ _ _ _ _)
      | (with_reducible exact ih2 _ _ _ _)
      | (with_reducible exact ih3 _ _ _ _)
      | (with_reducible exact impl_GenPush.mono _ _ _)
      | (with_reducible exact impl_GensOk.mono _ _)
      | (with_reducible exact impl_Newer.mono _ _ _)
      | (with_reducible exact laws_sameInts.mono _ _ _)
      | (with_reducible exact laws_within.mono _ _ _)
      | (with_reducible exact spec_DrawGenPush.mono _ _)
      | (with_reducible exact spec_DrawGensOk.mono _ _)
      | (with_reducible exact spec_DrawNewer.mono _ _)
      | (with_reducible exact spec_GenPush.mono _ _ _)
      | (with_reducible exact spec_GensOk.mono _ _)
      | (with_reducible exact spec_Newer.mono _ _ _)
      | (with_reducible exact LeO.refl _)
      | (with_reducible exact LeO.none _)
      | (with_reducible refine LeO.ite ?_ ?_)
      | (with_reducible refine LeO.bind ?_ (fun _ => ?_))
      | exact ih0 _ _ _ _ _ _ _
      | exact ih1 _ _ _ _ _ _ _
      | exact ih2 _ _ _ _
      | exact ih3 _ _ _ _
      | exact impl_GenPush.mono _ _ _
      | exact impl_GensOk.mono _ _
      | exact impl_Newer.mono _ _ _
      | exact laws_sameInts.mono _ _ _
      | exact laws_within.mono _ _ _
      | exact spec_DrawGenPush.mono _ _
      | exact spec_DrawGensOk.mono _ _
      | exact spec_DrawNewer.mono _ _
      | exact spec_GenPush.mono _ _ _
      | exact spec_GensOk.mono _ _
      | exact spec_Newer.mono _ _ _
      | exact LeO.none _
      | refine LeO.ite ?_ ?_
      | refine LeO.bind ?_ (fun _ => ?_)
    · intro y0 y1 y2 y3
      unfold laws_FnGens.j3
      repeat' first
      | (with_reducible exact ih0 _ _ _ _ _ _ _)
      | (with_reducible exact ih1 _ _ _ _ _ _ _)
      | (with_reducible exact ih2 _ _ _ _)
      | (with_reducible exact ih3 _ _ _ _)
      | (with_reducible exact impl_GenPush.mono _ _ _)
      | (with_reducible exact impl_GensOk.mono _ _)
      | (with_reducible exact impl_Newer.mono _ _ _)
      | (with_reducible exact laws_sameInts.mono _ _ _)
      | (with_reducible exact laws_within.mono _ _ _)
      | (with_reducible exact spec_DrawGenPush.mono _ _)
      | (with_reducible exact spec_DrawGensOk.mono _ _)
      | (with_reducible exact spec_DrawNewer.mono _ _)
      | (with_reducible exact spec_GenPush.mono _ _ _)
      | (with_reducible exact spec_GensOk.mono _ _)
      | (with_reducible exact spec_Newer.mono _ _ _)
      | (with_reducible exact LeO.refl _)
      | (with_reducible exact LeO.none _)
      | (with_reducible refine LeO.ite ?_ ?_)
      | (with_reducible refine LeO.bind ?_ (fun _ => ?_))
      | exact ih0 _ _ _ _ _ _ _
      | exact ih1 _ _ _ _ _ _ _
      | exact ih2 _ _ _ _
      | exact ih3 _ _ _ _
      | exact impl_GenPush.mono _ _ _
      | exact impl_GensOk.mono _ _
      | exact impl_Newer.mono _ _ _
      | exact laws_sameInts.mono _ _ _
      | exact laws_within.mono _ _ _
      | exact spec_DrawGenPush.mono _ _
      | exact spec_DrawGensOk.mono _ _
      | exact spec_DrawNewer.mono _ _
      | exact spec_GenPush.mono _ _ _
      | exact spec_GensOk.mono _ _
      | exact spec_Newer.mono _ _ _
      | exact LeO.none _
      | refine LeO.ite ?_ ?_
      | refine LeO.bind ?_ (fun _ => ?_)
theorem laws_FnGens.mono : ∀ a0 k, LeO (laws_FnGens.f k a0) (laws_FnGens.f (k + 1) a0) := by
  intro a0 k
  obtain ⟨ih0, ih1, ih2, ih3⟩ := laws_FnGens.mono_l k
  unfold laws_FnGens.f
  repeat' first
      | (with_reducible exact ih0 _ _ _ _ _ _ _)
      | (with_reducible exact ih1 _ _ _ _ _ _ _)
      | (with_reducible exact ih2 _ _ _ _)
      | (with_reducible exact ih3 _ _ _ _)
      | (with_reducible exact impl_GenPush.mono _ _ _)
      | (with_reducible exact impl_GensOk.mono _ _)
      | (with_reducible exact impl_Newer.mono _ _ _)
      | (with_reducible exact laws_sameInts.mono _ _ _)
      | (with_reducible exact laws_within.mono _ _ _)
      | (with_reducible exact spec_DrawGenPush.mono _ _)
      | (with_reducible exact spec_DrawGensOk.mono _ _)
      | (with_reducible exact spec_DrawNewer.mono _ _)
      | (with_reducible exact spec_GenPush.mono _ _ _)
      | (with_reducible exact spec_GensOk.mono _ _)
      | (with_reducible exact spec_Newer.mono _ _ _)
      | (with_reducible exact LeO.refl _)
      | (with_reducible exact LeO.none _)
      | (with_reducible refine LeO.ite ?_ ?_)
      | (with_reducible refine LeO.bind ?_ (fun _ => ?_))
      | exact ih0 _ _ _ _ _ _ _
      | exact ih1 _ _ _ _ _ _ _
      | exact ih2 _ _ _ _
      | exact ih3 _ _ _ _
      | exact impl_GenPush.mono _ _ _
      | exact impl_GensOk.mono _ _
      | exact impl_Newer.mono _ _ _
      | exact laws_sameInts.mono _ _ _
      | exact laws_within.mono _ _ _
      | exact spec_DrawGenPush.mono _ _
      | exact spec_DrawGensOk.mono _ _
      | exact spec_DrawNewer.mono _ _
      | exact spec_GenPush.mono _ _ _
      | exact spec_GensOk.mono _ _
      | exact spec_Newer.mono _ _ _
      | exact LeO.none _
      | refine LeO.ite ?_ ?_
      | refine LeO.bind ?_ (fun _ => ?_)
set_option maxHeartbeats 8000000 in
set_option maxRecDepth 100000 in
theorem laws_FnGens.calls (k : Nat) (A0 : Option Addr) (c0 : Nat) (l0 : List Int) (r : Bool) (w : World) (hr0 : Kd.C (Kd.int .u8) w A0 l0.length l0) (hc0 : l0.length ≤ c0) (hT_ : Aside0 (r = true)) (h : laws_FnGens.f k l0 = some r) :
    Calls Try.prog 13 #[.slice A0 l0.length c0] w fun e w' => e = .returned (.bool r) ∧ Below w.heap.size w w' := by
  have HR0 := Aside0.mk hr0
  have HC0 := Aside0.mk hc0
  clear hr0 hc0
  have HB := Aside0.mk (Below.refl w.heap.size w)
  have H : ((laws_big.f l0).bind fun t281 => (if t281 = true then (some true) else ((spec_DrawGenPush.f k l0).bind fun bt282 => ((impl_GenPush.f k bt282.1 bt282.2).bind fun t286 => ((spec_DrawNewer.f k l0).bind fun bt289 => ((impl_Newer.f k bt289.1 bt289.2).bind fun t295 => ((spec_DrawGensOk.f k l0).bind fun t296 => ((spec_GenPush.f k bt282.1 bt282.2).bind fun t299 => ((laws_sameInts.f k t286 t299).bind fun t302 => (if t302 = true then ((spec_Newer.f k bt289.1 bt289.2).bind fun t303 => (if t295 = t303 then ((impl_GensOk.f k t296).bind fun t304 => ((spec_GensOk.f k t296).bind fun t305 => (laws_FnGens.j0 k bt282.1 bt282.2 t286 bt289.1 bt289.2 t295 (t304 != t305)))) else (laws_FnGens.j0 k bt282.1 bt282.2 t286 bt289.1 bt289.2 t295 true))) else (laws_FnGens.j0 k bt282.1 bt282.2 t286 bt289.1 bt289.2 t295 true))))))))))) = some r := h
  clear h
  replace H := Option.bind_eq_some_iff.mp H
  obtain ⟨t281, A20, H⟩ := H
  replace H : (if t281 = true then (some true) else ((spec_DrawGenPush.f k l0).bind fun bt282 => ((impl_GenPush.f k bt282.1 bt282.2).bind fun t286 => ((spec_DrawNewer.f k l0).bind fun bt289 => ((impl_Newer.f k bt289.1 bt289.2).bind fun t295 => ((spec_DrawGensOk.f k l0).bind fun t296 => ((spec_GenPush.f k bt282.1 bt282.2).bind fun t299 => ((laws_sameInts.f k t286 t299).bind fun t302 => (if t302 = true then ((spec_Newer.f k bt289.1 bt289.2).bind fun t303 => (if t295 = t303 then ((impl_GensOk.f k t296).bind fun t304 => ((spec_GensOk.f k t296).bind fun t305 => (laws_FnGens.j0 k bt282.1 bt282.2 t286 bt289.1 bt289.2 t295 (t304 != t305)))) else (laws_FnGens.j0 k bt282.1 bt282.2 t286 bt289.1 bt289.2 t295 true))) else (laws_FnGens.j0 k bt282.1 bt282.2 t286 bt289.1 bt289.2 t295 true)))))))))) = some r := H
  have A2 := Aside0.mk A20
  clear A20
  by_cases c3 : t281 = true
  · subst c3
    have H1 : (some true) = some r := by rw [if_pos rfl] at H; exact H
    clear H
    have H := H1
    clear H1
    obtain rfl := Option.some.inj H
    go_enter Try.func13, Try.ntmps13
    go_wp2_with (first | ((with_reducible refine gate_callee (f := 35) rfl ?_); refine goesL_ (some 12) rfl rfl Try.func35 (by kernel_rfl) rfl #[.slice A0 l0.length c0] rfl (by (try simp only [List.map_toArray, List.map_cons, List.map_nil]); first | done | rfl | (simp only [List.length_drop, List.length_take]; rfl)) ?_; (with_reducible refine (laws_big.calls _ _ l0 true _ ?side1 ?side2 A2.out).mono ?_); (case side1 => repeat (first | exact HR0.out | (with_reducible refine Kd.C_alloc ?_ _) | (with_reducible refine Kd.C_drewN ?_ _) | (with_reducible refine Kd.C_drew ?_))); (case side2 => exact HC0.out); rintro e w' ⟨rfl, ⟨nd, rfl⟩⟩; refine ⟨_, rfl, ?_⟩))
    go_ret
    exact ⟨by first | rfl | (simp [errW_none, errW_some] <;> rfl) | (simp [*, errW_none, errW_some] <;> rfl), by repeat (first | (with_reducible first | exact HB.out | apply below_alloc | apply pw_below_drewN | apply below_drew1) | exact HB.out)⟩
  · replace c3 := Bool.eq_false_iff.mpr c3
    subst c3
    have H1 : ((spec_DrawGenPush.f k l0).bind fun bt282 => ((impl_GenPush.f k bt282.1 bt282.2).bind fun t286 => ((spec_DrawNewer.f k l0).bind fun bt289 => ((impl_Newer.f k bt289.1 bt289.2).bind fun t295 => ((spec_DrawGensOk.f k l0).bind fun t296 => ((spec_GenPush.f k bt282.1 bt282.2).bind fun t299 => ((laws_sameInts.f k t286 t299).bind fun t302 => (if t302 = true then ((spec_Newer.f k bt289.1 bt289.2).bind fun t303 => (if t295 = t303 then ((impl_GensOk.f k t296).bind fun t304 => ((spec_GensOk.f k t296).bind fun t305 => (laws_FnGens.j0 k bt282.1 bt282.2 t286 bt289.1 bt289.2 t295 (t304 != t305)))) else (laws_FnGens.j0 k bt282.1 bt282.2 t286 bt289.1 bt289.2 t295 true))) else (laws_FnGens.j0 k bt282.1 bt282.2 t286 bt289.1 bt289.2 t295 true))))))))) = some r := by rw [if_neg (show ¬ (false = true) by decide)] at H; exact H
    clear H
    have H := H1
    clear H1
    replace H := Option.bind_eq_some_iff.mp H
    obtain ⟨⟨t282, t283⟩, A40, H⟩ := H
    replace H : ((impl_GenPush.f k t282 t283).bind fun t286 => ((spec_DrawNewer.f k l0).bind fun bt289 => ((impl_Newer.f k bt289.1 bt289.2).bind fun t295 => ((spec_DrawGensOk.f k l0).bind fun t296 => ((spec_GenPush.f k t282 t283).bind fun t299 => ((laws_sameInts.f k t286 t299).bind fun t302 => (if t302 = true then ((spec_Newer.f k bt289.1 bt289.2).bind fun t303 => (if t295 = t303 then ((impl_GensOk.f k t296).bind fun t304 => ((spec_GensOk.f k t296).bind fun t305 => (laws_FnGens.j0 k t282 t283 t286 bt289.1 bt289.2 t295 (t304 != t305)))) else (laws_FnGens.j0 k t282 t283 t286 bt289.1 bt289.2 t295 true))) else (laws_FnGens.j0 k t282 t283 t286 bt289.1 bt289.2 t295 true)))))))) = some r := H
    have A4 := Aside0.mk A40
    clear A40
    replace H := Option.bind_eq_some_iff.mp H
    obtain ⟨t286, A50, H⟩ := H
    replace H : ((spec_DrawNewer.f k l0).bind fun bt289 => ((impl_Newer.f k bt289.1 bt289.2).bind fun t295 => ((spec_DrawGensOk.f k l0).bind fun t296 => ((spec_GenPush.f k t282 t283).bind fun t299 => ((laws_sameInts.f k t286 t299).bind fun t302 => (if t302 = true then ((spec_Newer.f k bt289.1 bt289.2).bind fun t303 => (if t295 = t303 then ((impl_GensOk.f k t296).bind fun t304 => ((spec_GensOk.f k t296).bind fun t305 => (laws_FnGens.j0 k t282 t283 t286 bt289.1 bt289.2 t295 (t304 != t305)))) else (laws_FnGens.j0 k t282 t283 t286 bt289.1 bt289.2 t295 true))) else (laws_FnGens.j0 k t282 t283 t286 bt289.1 bt289.2 t295 true))))))) = some r := H
    have A5 := Aside0.mk A50
    clear A50
    replace H := Option.bind_eq_some_iff.mp H
    obtain ⟨⟨t289, t290⟩, A60, H⟩ := H
    replace H : ((impl_Newer.f k t289 t290).bind fun t295 => ((spec_DrawGensOk.f k l0).bind fun t296 => ((spec_GenPush.f k t282 t283).bind fun t299 => ((laws_sameInts.f k t286 t299).bind fun t302 => (if t302 = true then ((spec_Newer.f k t289 t290).bind fun t303 => (if t295 = t303 then ((impl_GensOk.f k t296).bind fun t304 => ((spec_GensOk.f k t296).bind fun t305 => (laws_FnGens.j0 k t282 t283 t286 t289 t290 t295 (t304 != t305)))) else (laws_FnGens.j0 k t282 t283 t286 t289 t290 t295 true))) else (laws_FnGens.j0 k t282 t283 t286 t289 t290 t295 true)))))) = some r := H
    have A6 := Aside0.mk A60
    clear A60
    replace H := Option.bind_eq_some_iff.mp H
    obtain ⟨t295, A70, H⟩ := H
    replace H : ((spec_DrawGensOk.f k l0).bind fun t296 => ((spec_GenPush.f k t282 t283).bind fun t299 => ((laws_sameInts.f k t286 t299).bind fun t302 => (if t302 = true then ((spec_Newer.f k t289 t290).bind fun t303 => (if t295 = t303 then ((impl_GensOk.f k t296).bind fun t304 => ((spec_GensOk.f k t296).bind fun t305 => (laws_FnGens.j0 k t282 t283 t286 t289 t290 t295 (t304 != t305)))) else (laws_FnGens.j0 k t282 t283 t286 t289 t290 t295 true))) else (laws_FnGens.j0 k t282 t283 t286 t289 t290 t295 true))))) = some r := H
    have A7 := Aside0.mk A70
    clear A70
    replace H := Option.bind_eq_some_iff.mp H
    obtain ⟨t296, A80, H⟩ := H
    replace H : ((spec_GenPush.f k t282 t283).bind fun t299 => ((laws_sameInts.f k t286 t299).bind fun t302 => (if t302 = true then ((spec_Newer.f k t289 t290).bind fun t303 => (if t295 = t303 then ((impl_GensOk.f k t296).bind fun t304 => ((spec_GensOk.f k t296).bind fun t305 => (laws_FnGens.j0 k t282 t283 t286 t289 t290 t295 (t304 != t305)))) else (laws_FnGens.j0 k t282 t283 t286 t289 t290 t295 true))) else (laws_FnGens.j0 k t282 t283 t286 t289 t290 t295 true)))) = some r := H
    have A8 := Aside0.mk A80
    clear A80
    have HC9 := Aside0.mk H
    clear H
    go_enter Try.func13, Try.ntmps13
    go_upto_region 8 with (first | ((with_reducible refine gate_callee (f := 35) rfl ?_); refine goesL_ (some 12) rfl rfl Try.func35 (by kernel_rfl) rfl #[.slice A0 l0.length c0] rfl (by (try simp only [List.map_toArray, List.map_cons, List.map_nil]); first | done | rfl | (simp only [List.length_drop, List.length_take]; rfl)) ?_; (with_reducible refine (laws_big.calls _ _ l0 false _ ?side1 ?side2 A2.out).mono ?_); (case side1 => repeat (first | exact HR0.out | (with_reducible refine Kd.C_alloc ?_ _) | (with_reducible refine Kd.C_drewN ?_ _) | (with_reducible refine Kd.C_drew ?_))); (case side2 => exact HC0.out); rintro e w' ⟨rfl, ⟨nd, rfl⟩⟩; refine ⟨_, rfl, ?_⟩) | ((with_reducible refine gate_callee (f := 52) rfl ?_); refine goesL_ (some 15) rfl rfl Try.func52 (by kernel_rfl) rfl #[.slice A0 l0.length c0] rfl (by (try simp only [List.map_toArray, List.map_cons, List.map_nil]); first | done | rfl | (simp only [List.length_drop, List.length_take]; rfl)) ?_; (with_reducible refine (spec_DrawGenPush.calls k _ _ l0 t282 t283 _ ?side1 ?side2 A4.out).mono ?_); (case side1 => repeat (first | exact HR0.out | (with_reducible refine Kd.C_alloc ?_ _) | (with_reducible refine Kd.C_drewN ?_ _) | (with_reducible refine Kd.C_drew ?_))); (case side2 => exact HC0.out); rintro e w10 ⟨v284, rfl, ho0, hb⟩; refine ⟨_, rfl, ?_⟩; have n0_ := Aside0.mk (Kd.R_lower ho0 (below_size (by repeat (first | (with_reducible first | exact HB.out | apply below_alloc | apply pw_below_drewN | apply below_drew1) | exact HB.out)))); have n1_ := Aside0.mk (below_step (by repeat (first | (with_reducible first | exact HB.out | apply below_alloc | apply pw_below_drewN | apply below_drew1) | exact HB.out)) hb); clear HB; have HO285 := n0_; have HB := n1_; clear n0_ n1_; (try clear hb); (try clear hb2); (try clear hk); (try clear hi); (try clear ho0); obtain ⟨Ao11, co11, eo11⟩ := Kd.R_slice HO285.out; subst eo11) | ((with_reducible refine gate_callee (f := 26) rfl ?_); refine goesL_ (some 20) rfl rfl Try.func26 (by kernel_rfl) rfl #[.slice Ao11 t282.length co11, .int .i64 t283] rfl (by (try simp only [List.map_toArray, List.map_cons, List.map_nil]); first | done | rfl | (simp only [List.length_drop, List.length_take]; rfl)) ?_; (with_reducible refine (impl_GenPush.calls k _ _ t282 t283 t286 _ ?side1 ?side2 A5.out).mono ?_); (case side1 => repeat (first | exact (Kd.R_reads' HO285.out).2.2 | (with_reducible refine Kd.C_alloc ?_ _) | (with_reducible refine Kd.C_drewN ?_ _) | (with_reducible refine Kd.C_drew ?_))); (case side2 => exact (Kd.R_reads' HO285.out).2.1); rintro e w12 ⟨v287, rfl, ho0, hb⟩; refine ⟨_, rfl, ?_⟩; have n0_ := Aside0.mk (Kd.R_elder' (by (with_reducible repeat (first | apply Kd.R_alloc | apply Kd.R_drewN | apply Kd.R_drew)); exact HO285.out) (Kd.R_base ho0) hb); have n1_ := Aside0.mk (Kd.R_lower (Kd.R_new' ho0 (Kd.R_lt (by (with_reducible repeat (first | apply Kd.R_alloc | apply Kd.R_drewN | apply Kd.R_drew)); exact HO285.out))) (below_size (by repeat (first | (with_reducible first | exact HB.out | apply below_alloc | apply pw_below_drewN | apply below_drew1) | exact HB.out)))); have n2_ := Aside0.mk (below_step (by repeat (first | (with_reducible first | exact HB.out | apply below_alloc | apply pw_below_drewN | apply below_drew1) | exact HB.out)) hb); clear HO285; clear HB; have HO285 := n0_; have HO288 := n1_; have HB := n2_; clear n0_ n1_ n2_; (try clear hb); (try clear hb2); (try clear hk); (try clear hi); (try clear ho0)) | ((with_reducible refine gate_callee (f := 53) rfl ?_); refine goesL_ (some 23) rfl rfl Try.func53 (by kernel_rfl) rfl #[.slice A0 l0.length c0] rfl (by (try simp only [List.map_toArray, List.map_cons, List.map_nil]); first | done | rfl | (simp only [List.length_drop, List.length_take]; rfl)) ?_; (with_reducible refine (spec_DrawNewer.calls k _ _ l0 t289 t290 _ ?side1 ?side2 A6.out).mono ?_); (case side1 => repeat (first | exact (Kd.C_below HR0.out HB.out) | (with_reducible refine Kd.C_alloc ?_ _) | (with_reducible refine Kd.C_drewN ?_ _) | (with_reducible refine Kd.C_drew ?_))); (case side2 => exact HC0.out); rintro e w13 ⟨v291, v293, rfl, ho0, ho1, hb⟩; refine ⟨_, rfl, ?_⟩; have n0_ := Aside0.mk (Kd.R_mono (Kd.R_told (Kd.R_told (Kd.R_old (by (with_reducible repeat (first | apply Kd.R_alloc | apply Kd.R_drewN | apply Kd.R_drew)); exact HO285.out) hb) (Kd.R_base ho0)) (Kd.R_base ho1)) (fun _ h_ => h_.1)); have n1_ := Aside0.mk (Kd.R_mono (Kd.R_told (Kd.R_told (Kd.R_old (by (with_reducible repeat (first | apply Kd.R_alloc | apply Kd.R_drewN | apply Kd.R_drew)); exact HO288.out) hb) (Kd.R_base ho0)) (Kd.R_base ho1)) (fun _ h_ => h_.1)); have n2_ := Aside0.mk (Kd.R_lower (Kd.R_new' (Kd.R_new' ho0 (Kd.R_lt (by (with_reducible repeat (first | apply Kd.R_alloc | apply Kd.R_drewN | apply Kd.R_drew)); exact HO285.out))) (Kd.R_lt (by (with_reducible repeat (first | apply Kd.R_alloc | apply Kd.R_drewN | apply Kd.R_drew)); exact HO288.out))) (below_size (by repeat (first | (with_reducible first | exact HB.out | apply below_alloc | apply pw_below_drewN | apply below_drew1) | exact HB.out)))); have n3_ := Aside0.mk (Kd.R_lower (Kd.R_new' (Kd.R_new' ho1 (Kd.R_lt (by (with_reducible repeat (first | apply Kd.R_alloc | apply Kd.R_drewN | apply Kd.R_drew)); exact HO285.out))) (Kd.R_lt (by (with_reducible repeat (first | apply Kd.R_alloc | apply Kd.R_drewN | apply Kd.R_drew)); exact HO288.out))) (below_size (by repeat (first | (with_reducible first | exact HB.out | apply below_alloc | apply pw_below_drewN | apply below_drew1) | exact HB.out)))); have n4_ := Aside0.mk (below_step (by repeat (first | (with_reducible first | exact HB.out | apply below_alloc | apply pw_below_drewN | apply below_drew1) | exact HB.out)) hb); clear HO285; clear HO288; clear HB; have HO285 := n0_; have HO288 := n1_; have HO292 := n2_; have HO294 := n3_; have HB := n4_; clear n0_ n1_ n2_ n3_ n4_; (try clear hb); (try clear hb2); (try clear hk); (try clear hi); (try clear ho0); (try clear ho1); obtain ⟨Ao14, co14, eo14⟩ := Kd.R_slice HO292.out; subst eo14; obtain ⟨Ao15, co15, eo15⟩ := Kd.R_slice HO294.out; subst eo15) | ((with_reducible refine gate_callee (f := 17) rfl ?_); refine goesL_ (some 28) rfl rfl Try.func17 (by kernel_rfl) rfl #[.slice Ao14 t289.length co14, .slice Ao15 t290.length co15] rfl (by (try simp only [List.map_toArray, List.map_cons, List.map_nil]); first | done | rfl | (simp only [List.length_drop, List.length_take]; rfl)) ?_; (with_reducible refine (impl_Newer.calls k _ _ t289 _ _ t290 t295 _ ?side1 ?side2 ?side3 ?side4 A7.out).mono ?_); (case side1 => repeat (first | exact (Kd.R_reads' HO292.out).2.2 | (with_reducible refine Kd.C_alloc ?_ _) | (with_reducible refine Kd.C_drewN ?_ _) | (with_reducible refine Kd.C_drew ?_))); (case side2 => exact (Kd.R_reads' HO292.out).2.1); (case side3 => repeat (first | exact (Kd.R_reads' HO294.out).2.2 | (with_reducible refine Kd.C_alloc ?_ _) | (with_reducible refine Kd.C_drewN ?_ _) | (with_reducible refine Kd.C_drew ?_))); (case side4 => exact (Kd.R_reads' HO294.out).2.1); rintro e w' ⟨rfl, ⟨nd, rfl⟩⟩; refine ⟨_, rfl, ?_⟩) | ((with_reducible refine gate_callee (f := 54) rfl ?_); refine goesL_ (some 30) rfl rfl Try.func54 (by kernel_rfl) rfl #[.slice A0 l0.length c0] rfl (by (try simp only [List.map_toArray, List.map_cons, List.map_nil]); first | done | rfl | (simp only [List.length_drop, List.length_take]; rfl)) ?_; (with_reducible refine (spec_DrawGensOk.calls k _ _ l0 t296 _ ?side1 ?side2 A8.out).mono ?_); (case side1 => repeat (first | exact (Kd.C_below HR0.out (by repeat (first | (with_reducible first | exact HB.out | apply below_alloc | apply pw_below_drewN | apply below_drew1) | exact HB.out))) | (with_reducible refine Kd.C_alloc ?_ _) | (with_reducible refine Kd.C_drewN ?_ _) | (with_reducible refine Kd.C_drew ?_))); (case side2 => exact HC0.out); rintro e w16 ⟨v297, rfl, ho0, hb⟩; refine ⟨_, rfl, ?_⟩; have n0_ := Aside0.mk (Kd.R_elder' (by (with_reducible repeat (first | apply Kd.R_alloc | apply Kd.R_drewN | apply Kd.R_drew)); exact HO285.out) (Kd.R_base ho0) hb); have n1_ := Aside0.mk (Kd.R_elder' (by (with_reducible repeat (first | apply Kd.R_alloc | apply Kd.R_drewN | apply Kd.R_drew)); exact HO288.out) (Kd.R_base ho0) hb); have n2_ := Aside0.mk (Kd.R_elder' (by (with_reducible repeat (first | apply Kd.R_alloc | apply Kd.R_drewN | apply Kd.R_drew)); exact HO292.out) (Kd.R_base ho0) hb); have n3_ := Aside0.mk (Kd.R_elder' (by (with_reducible repeat (first | apply Kd.R_alloc | apply Kd.R_drewN | apply Kd.R_drew)); exact HO294.out) (Kd.R_base ho0) hb); have n4_ := Aside0.mk (Kd.R_lower (Kd.R_new' (Kd.R_new' (Kd.R_new' (Kd.R_new' ho0 (Kd.R_lt (by (with_reducible repeat (first | apply Kd.R_alloc | apply Kd.R_drewN | apply Kd.R_drew)); exact HO285.out))) (Kd.R_lt (by (with_reducible repeat (first | apply Kd.R_alloc | apply Kd.R_drewN | apply Kd.R_drew)); exact HO288.out))) (Kd.R_lt (by (with_reducible repeat (first | apply Kd.R_alloc | apply Kd.R_drewN | apply Kd.R_drew)); exact HO292.out))) (Kd.R_lt (by (with_reducible repeat (first | apply Kd.R_alloc | apply Kd.R_drewN | apply Kd.R_drew)); exact HO294.out))) (below_size (by repeat (first | (with_reducible first | exact HB.out | apply below_alloc | apply pw_below_drewN | apply below_drew1) | exact HB.out)))); have n5_ := Aside0.mk (below_step (by repeat (first | (with_reducible first | exact HB.out | apply below_alloc | apply pw_below_drewN | apply below_drew1) | exact HB.out)) hb); clear HO285; clear HO288; clear HO292; clear HO294; clear HB; have HO285 := n0_; have HO288 := n1_; have HO292 := n2_; have HO294 := n3_; have HO298 := n4_; have HB := n5_; clear n0_ n1_ n2_ n3_ n4_ n5_; (try clear hb); (try clear hb2); (try clear hk); (try clear hi); (try clear ho0)))
    (try simp only [Act.put, List.setIfInBounds_toArray, List.set_cons_zero, List.set_cons_succ])
    go_cut [50] (fun v50 wc => ∃ (kq : Nat) (x50_8 : Bool), v50 = .bool x50_8 ∧ Aside0 (laws_FnGens.j0 kq t282 t283 t286 t289 t290 t295 x50_8 = some r) ∧ Aside0 (kq ≤ k) ∧ Aside0 (Kd.R (Kd.int .i64) 3 wc w.heap.size (fun k_ => some k_ ≠ (v287 : Value).ownBlock ∧ some k_ ≠ ((.slice Ao14 t289.length co14) : Value).ownBlock ∧ some k_ ≠ ((.slice Ao15 t290.length co15) : Value).ownBlock) (.slice Ao11 t282.length co11) t282) ∧ Aside0 (Kd.R (Kd.int .i64) 3 wc w.heap.size (fun k_ => some k_ ≠ ((.slice Ao11 t282.length co11) : Value).ownBlock ∧ some k_ ≠ ((.slice Ao14 t289.length co14) : Value).ownBlock ∧ some k_ ≠ ((.slice Ao15 t290.length co15) : Value).ownBlock) v287 t286) ∧ Aside0 (Kd.R (Kd.int .i64) 3 wc w.heap.size (fun k_ => some k_ ≠ ((.slice Ao11 t282.length co11) : Value).ownBlock ∧ some k_ ≠ (v287 : Value).ownBlock ∧ some k_ ≠ ((.slice Ao15 t290.length co15) : Value).ownBlock) (.slice Ao14 t289.length co14) t289) ∧ Aside0 (Kd.R (Kd.int .i64) 3 wc w.heap.size (fun k_ => some k_ ≠ ((.slice Ao11 t282.length co11) : Value).ownBlock ∧ some k_ ≠ (v287 : Value).ownBlock ∧ some k_ ≠ ((.slice Ao14 t289.length co14) : Value).ownBlock) (.slice Ao15 t290.length co15) t290) ∧ Aside0 (Below w.heap.size w wc))
    case first =>
      have H := HC9.out
      clear HC9
      replace H := Option.bind_eq_some_iff.mp H
      obtain ⟨t299, A170, H⟩ := H
      replace H : ((laws_sameInts.f k t286 t299).bind fun t302 => (if t302 = true then ((spec_Newer.f k t289 t290).bind fun t303 => (if t295 = t303 then ((impl_GensOk.f k t296).bind fun t304 => ((spec_GensOk.f k t296).bind fun t305 => (laws_FnGens.j0 k t282 t283 t286 t289 t290 t295 (t304 != t305)))) else (laws_FnGens.j0 k t282 t283 t286 t289 t290 t295 true))) else (laws_FnGens.j0 k t282 t283 t286 t289 t290 t295 true))) = some r := H
      have A17 := Aside0.mk A170
      clear A170
      replace H := Option.bind_eq_some_iff.mp H
      obtain ⟨t302, A180, H⟩ := H
      replace H : (if t302 = true then ((spec_Newer.f k t289 t290).bind fun t303 => (if t295 = t303 then ((impl_GensOk.f k t296).bind fun t304 => ((spec_GensOk.f k t296).bind fun t305 => (laws_FnGens.j0 k t282 t283 t286 t289 t290 t295 (t304 != t305)))) else (laws_FnGens.j0 k t282 t283 t286 t289 t290 t295 true))) else (laws_FnGens.j0 k t282 t283 t286 t289 t290 t295 true)) = some r := H
      have A18 := Aside0.mk A180
      clear A180
      by_cases c19 : t302 = true
      · subst c19
        have H1 : ((spec_Newer.f k t289 t290).bind fun t303 => (if t295 = t303 then ((impl_GensOk.f k t296).bind fun t304 => ((spec_GensOk.f k t296).bind fun t305 => (laws_FnGens.j0 k t282 t283 t286 t289 t290 t295 (t304 != t305)))) else (laws_FnGens.j0 k t282 t283 t286 t289 t290 t295 true))) = some r := by rw [if_pos rfl] at H; exact H
        clear H
        have H := H1
        clear H1
        replace H := Option.bind_eq_some_iff.mp H
        obtain ⟨t303, A200, H⟩ := H
        replace H : (if t295 = t303 then ((impl_GensOk.f k t296).bind fun t304 => ((spec_GensOk.f k t296).bind fun t305 => (laws_FnGens.j0 k t282 t283 t286 t289 t290 t295 (t304 != t305)))) else (laws_FnGens.j0 k t282 t283 t286 t289 t290 t295 true)) = some r := H
        have A20 := Aside0.mk A200
        clear A200
        by_cases c21 : t295 = t303
        · rw [if_pos c21] at H
          have c21b0 : (t295 == t303) = true := beq_iff_eq.mpr c21
          have c21b1 : (t295 != t303) = false := bne_eq_false_iff_eq.mpr c21
          clear c21
          (first | rw [c21b0] | (simp only [i64_w, i32_w]; rw [c21b0]) | skip)
          replace H := Option.bind_eq_some_iff.mp H
          obtain ⟨t304, A220, H⟩ := H
          replace H : ((spec_GensOk.f k t296).bind fun t305 => (laws_FnGens.j0 k t282 t283 t286 t289 t290 t295 (t304 != t305))) = some r := H
          have A22 := Aside0.mk A220
          clear A220
          replace H := Option.bind_eq_some_iff.mp H
          obtain ⟨t305, A230, H⟩ := H
          replace H : (laws_FnGens.j0 k t282 t283 t286 t289 t290 t295 (t304 != t305)) = some r := H
          have A23 := Aside0.mk A230
          clear A230
          have H' := Aside0.mk H
          clear H
          go_wp2_with (first | ((with_reducible refine gate_callee (f := 25) rfl ?_); refine goesL_ (some 34) rfl rfl Try.func25 (by kernel_rfl) rfl #[.slice Ao11 t282.length co11, .int .i64 t283] rfl (by (try simp only [List.map_toArray, List.map_cons, List.map_nil]); first | done | rfl | (simp only [List.length_drop, List.length_take]; rfl)) ?_; (with_reducible refine (spec_GenPush.calls k _ _ t282 t283 t299 _ ?side1 ?side2 A17.out).mono ?_); (case side1 => repeat (first | exact (Kd.R_reads' HO285.out).2.2 | (with_reducible refine Kd.C_alloc ?_ _) | (with_reducible refine Kd.C_drewN ?_ _) | (with_reducible refine Kd.C_drew ?_))); (case side2 => exact (Kd.R_reads' HO285.out).2.1); rintro e w24 ⟨v300, rfl, ho0, hb⟩; refine ⟨_, rfl, ?_⟩; have n0_ := Aside0.mk (Kd.R_elder' (by (with_reducible repeat (first | apply Kd.R_alloc | apply Kd.R_drewN | apply Kd.R_drew)); exact HO285.out) (Kd.R_base ho0) hb); have n1_ := Aside0.mk (Kd.R_elder' (by (with_reducible repeat (first | apply Kd.R_alloc | apply Kd.R_drewN | apply Kd.R_drew)); exact HO288.out) (Kd.R_base ho0) hb); have n2_ := Aside0.mk (Kd.R_elder' (by (with_reducible repeat (first | apply Kd.R_alloc | apply Kd.R_drewN | apply Kd.R_drew)); exact HO292.out) (Kd.R_base ho0) hb); have n3_ := Aside0.mk (Kd.R_elder' (by (with_reducible repeat (first | apply Kd.R_alloc | apply Kd.R_drewN | apply Kd.R_drew)); exact HO294.out) (Kd.R_base ho0) hb); have n4_ := Aside0.mk (Kd.R_elder' (by (with_reducible repeat (first | apply Kd.R_alloc | apply Kd.R_drewN | apply Kd.R_drew)); exact HO298.out) (Kd.R_base ho0) hb); have n5_ := Aside0.mk (Kd.R_lower (Kd.R_new' (Kd.R_new' (Kd.R_new' (Kd.R_new' (Kd.R_new' ho0 (Kd.R_lt (by (with_reducible repeat (first | apply Kd.R_alloc | apply Kd.R_drewN | apply Kd.R_drew)); exact HO285.out))) (Kd.R_lt (by (with_reducible repeat (first | apply Kd.R_alloc | apply Kd.R_drewN | apply Kd.R_drew)); exact HO288.out))) (Kd.R_lt (by (with_reducible repeat (first | apply Kd.R_alloc | apply Kd.R_drewN | apply Kd.R_drew)); exact HO292.out))) (Kd.R_lt (by (with_reducible repeat (first | apply Kd.R_alloc | apply Kd.R_drewN | apply Kd.R_drew)); exact HO294.out))) (Kd.R_lt (by (with_reducible repeat (first | apply Kd.R_alloc | apply Kd.R_drewN | apply Kd.R_drew)); exact HO298.out))) (below_size (by repeat (first | (with_reducible first | exact HB.out | apply below_alloc | apply pw_below_drewN | apply below_drew1) | exact HB.out)))); have n6_ := Aside0.mk (below_step (by repeat (first | (with_reducible first | exact HB.out | apply below_alloc | apply pw_below_drewN | apply below_drew1) | exact HB.out)) hb); clear HO285; clear HO288; clear HO292; clear HO294; clear HO298; clear HB; have HO285 := n0_; have HO288 := n1_; have HO292 := n2_; have HO294 := n3_; have HO298 := n4_; have HO301 := n5_; have HB := n6_; clear n0_ n1_ n2_ n3_ n4_ n5_ n6_; (try clear hb); (try clear hb2); (try clear hk); (try clear hi); (try clear ho0); obtain ⟨Ao25, co25, eo25⟩ := Kd.R_slice HO288.out; subst eo25; obtain ⟨Ao26, co26, eo26⟩ := Kd.R_slice HO301.out; subst eo26) | ((with_reducible refine gate_callee (f := 38) rfl ?_); refine goesL_ (some 35) rfl rfl Try.func38 (by kernel_rfl) rfl #[.slice Ao25 t286.length co25, .slice Ao26 t299.length co26] rfl (by (try simp only [List.map_toArray, List.map_cons, List.map_nil]); first | done | rfl | (simp only [List.length_drop, List.length_take]; rfl)) ?_; (with_reducible refine (laws_sameInts.calls k _ _ t286 _ _ t299 true _ ?side1 ?side2 ?side3 ?side4 A18.out).mono ?_); (case side1 => repeat (first | exact (Kd.R_reads' HO288.out).2.2 | (with_reducible refine Kd.C_alloc ?_ _) | (with_reducible refine Kd.C_drewN ?_ _) | (with_reducible refine Kd.C_drew ?_))); (case side2 => exact (Kd.R_reads' HO288.out).2.1); (case side3 => repeat (first | exact (Kd.R_reads' HO301.out).2.2 | (with_reducible refine Kd.C_alloc ?_ _) | (with_reducible refine Kd.C_drewN ?_ _) | (with_reducible refine Kd.C_drew ?_))); (case side4 => exact (Kd.R_reads' HO301.out).2.1); rintro e w' ⟨rfl, ⟨nd, rfl⟩⟩; refine ⟨_, rfl, ?_⟩) | (go_at_call 15; (with_reducible refine (spec_Newer.calls k _ _ t289 _ _ t290 t303 _ ?side1 ?side2 ?side3 ?side4 A20.out).mono ?_); (case side1 => repeat (first | exact (Kd.R_reads' HO292.out).2.2 | (with_reducible refine Kd.C_alloc ?_ _) | (with_reducible refine Kd.C_drewN ?_ _) | (with_reducible refine Kd.C_drew ?_))); (case side2 => exact (Kd.R_reads' HO292.out).2.1); (case side3 => repeat (first | exact (Kd.R_reads' HO294.out).2.2 | (with_reducible refine Kd.C_alloc ?_ _) | (with_reducible refine Kd.C_drewN ?_ _) | (with_reducible refine Kd.C_drew ?_))); (case side4 => exact (Kd.R_reads' HO294.out).2.1); rintro e w' ⟨rfl, ⟨nd, rfl⟩⟩; obtain ⟨Ao27, co27, eo27⟩ := Kd.R_slice HO298.out; subst eo27) | (go_at_call 55; (with_reducible refine (impl_GensOk.calls k _ _ t296 t304 _ ?side1 ?side2 A22.out).mono ?_); (case side1 => repeat (first | exact (Kd.R_reads' HO298.out).2.2 | (with_reducible refine Kd.C_alloc ?_ _) | (with_reducible refine Kd.C_drewN ?_ _) | (with_reducible refine Kd.C_drew ?_))); (case side2 => exact (Kd.R_reads' HO298.out).2.1); rintro e w' ⟨rfl, ⟨nd, rfl⟩⟩) | (go_at_call 56; (with_reducible refine (spec_GensOk.calls k _ _ t296 t305 _ ?side1 ?side2 A23.out).mono ?_); (case side1 => repeat (first | exact (Kd.R_reads' HO298.out).2.2 | (with_reducible refine Kd.C_alloc ?_ _) | (with_reducible refine Kd.C_drewN ?_ _) | (with_reducible refine Kd.C_drew ?_))); (case side2 => exact (Kd.R_reads' HO298.out).2.1); rintro e w28 ⟨rfl, hb⟩; have n0_ := Aside0.mk (Kd.R_below (by (with_reducible repeat (first | apply Kd.R_alloc | apply Kd.R_drewN | apply Kd.R_drew)); exact HO285.out) hb); have n1_ := Aside0.mk (Kd.R_below (by (with_reducible repeat (first | apply Kd.R_alloc | apply Kd.R_drewN | apply Kd.R_drew)); exact HO288.out) hb); have n2_ := Aside0.mk (Kd.R_below (by (with_reducible repeat (first | apply Kd.R_alloc | apply Kd.R_drewN | apply Kd.R_drew)); exact HO292.out) hb); have n3_ := Aside0.mk (Kd.R_below (by (with_reducible repeat (first | apply Kd.R_alloc | apply Kd.R_drewN | apply Kd.R_drew)); exact HO294.out) hb); have n4_ := Aside0.mk (Kd.R_below (by (with_reducible repeat (first | apply Kd.R_alloc | apply Kd.R_drewN | apply Kd.R_drew)); exact HO298.out) hb); have n5_ := Aside0.mk (Kd.R_below (by (with_reducible repeat (first | apply Kd.R_alloc | apply Kd.R_drewN | apply Kd.R_drew)); exact HO301.out) hb); have n6_ := Aside0.mk (below_step (by repeat (first | (with_reducible first | exact HB.out | apply below_alloc | apply pw_below_drewN | apply below_drew1) | exact HB.out)) hb); clear HO285; clear HO288; clear HO292; clear HO294; clear HO298; clear HO301; clear HB; have HO285 := n0_; have HO288 := n1_; have HO292 := n2_; have HO294 := n3_; have HO298 := n4_; have HO301 := n5_; have HB := n6_; clear n0_ n1_ n2_ n3_ n4_ n5_ n6_; (try clear hb); (try clear hb2); (try clear hk); (try clear hi)))
          go_meet
          case rel => exact ⟨_, ((t304 != t305)), (by first | rfl | (simp; done) | (simp [*]; done)), H', ⟨by first | omega | exact Nat.le_refl _⟩, ⟨by (with_reducible repeat (first | apply Kd.R_alloc | apply Kd.R_drewN | apply Kd.R_drew)); exact Kd.R_mono HO285.out (fun _ hk => ⟨hk.1.1.1.1.2, ⟨hk.1.1.1.2, hk.1.1.2⟩⟩)⟩, ⟨by (with_reducible repeat (first | apply Kd.R_alloc | apply Kd.R_drewN | apply Kd.R_drew)); exact Kd.R_mono HO288.out (fun _ hk => ⟨hk.1.1.1.1.2, ⟨hk.1.1.1.2, hk.1.1.2⟩⟩)⟩, ⟨by (with_reducible repeat (first | apply Kd.R_alloc | apply Kd.R_drewN | apply Kd.R_drew)); exact Kd.R_mono HO292.out (fun _ hk => ⟨hk.1.1.1.2, ⟨hk.1.1.2, hk.1.1.1.1⟩⟩)⟩, ⟨by (with_reducible repeat (first | apply Kd.R_alloc | apply Kd.R_drewN | apply Kd.R_drew)); exact Kd.R_mono HO294.out (fun _ hk => ⟨hk.1.1.1.2, ⟨hk.1.1.2, hk.1.1.1.1⟩⟩)⟩, ⟨by repeat (first | (with_reducible first | exact HB.out | apply below_alloc | apply pw_below_drewN | apply below_drew1) | exact HB.out)⟩⟩
        · rw [if_neg c21] at H
          have c21b0 : (t295 == t303) = false := beq_eq_false_iff_ne.mpr c21
          have c21b1 : (t295 != t303) = true := bne_iff_ne.mpr c21
          (first | rw [c21b0] | (simp only [i64_w, i32_w]; rw [c21b0]) | skip)
          have H' := Aside0.mk H
          clear H
          go_wp2_with (first | ((with_reducible refine gate_callee (f := 25) rfl ?_); refine goesL_ (some 34) rfl rfl Try.func25 (by kernel_rfl) rfl #[.slice Ao11 t282.length co11, .int .i64 t283] rfl (by (try simp only [List.map_toArray, List.map_cons, List.map_nil]); first | done | rfl | (simp only [List.length_drop, List.length_take]; rfl)) ?_; (with_reducible refine (spec_GenPush.calls k _ _ t282 t283 t299 _ ?side1 ?side2 A17.out).mono ?_); (case side1 => repeat (first | exact (Kd.R_reads' HO285.out).2.2 | (with_reducible refine Kd.C_alloc ?_ _) | (with_reducible refine Kd.C_drewN ?_ _) | (with_reducible refine Kd.C_drew ?_))); (case side2 => exact (Kd.R_reads' HO285.out).2.1); rintro e w29 ⟨v300, rfl, ho0, hb⟩; refine ⟨_, rfl, ?_⟩; have n0_ := Aside0.mk (Kd.R_elder' (by (with_reducible repeat (first | apply Kd.R_alloc | apply Kd.R_drewN | apply Kd.R_drew)); exact HO285.out) (Kd.R_base ho0) hb); have n1_ := Aside0.mk (Kd.R_elder' (by (with_reducible repeat (first | apply Kd.R_alloc | apply Kd.R_drewN | apply Kd.R_drew)); exact HO288.out) (Kd.R_base ho0) hb); have n2_ := Aside0.mk (Kd.R_elder' (by (with_reducible repeat (first | apply Kd.R_alloc | apply Kd.R_drewN | apply Kd.R_drew)); exact HO292.out) (Kd.R_base ho0) hb); have n3_ := Aside0.mk (Kd.R_elder' (by (with_reducible repeat (first | apply Kd.R_alloc | apply Kd.R_drewN | apply Kd.R_drew)); exact HO294.out) (Kd.R_base ho0) hb); have n4_ := Aside0.mk (Kd.R_elder' (by (with_reducible repeat (first | apply Kd.R_alloc | apply Kd.R_drewN | apply Kd.R_drew)); exact HO298.out) (Kd.R_base ho0) hb); have n5_ := Aside0.mk (Kd.R_lower (Kd.R_new' (Kd.R_new' (Kd.R_new' (Kd.R_new' (Kd.R_new' ho0 (Kd.R_lt (by (with_reducible repeat (first | apply Kd.R_alloc | apply Kd.R_drewN | apply Kd.R_drew)); exact HO285.out))) (Kd.R_lt (by (with_reducible repeat (first | apply Kd.R_alloc | apply Kd.R_drewN | apply Kd.R_drew)); exact HO288.out))) (Kd.R_lt (by (with_reducible repeat (first | apply Kd.R_alloc | apply Kd.R_drewN | apply Kd.R_drew)); exact HO292.out))) (Kd.R_lt (by (with_reducible repeat (first | apply Kd.R_alloc | apply Kd.R_drewN | apply Kd.R_drew)); exact HO294.out))) (Kd.R_lt (by (with_reducible repeat (first | apply Kd.R_alloc | apply Kd.R_drewN | apply Kd.R_drew)); exact HO298.out))) (below_size (by repeat (first | (with_reducible first | exact HB.out | apply below_alloc | apply pw_below_drewN | apply below_drew1) | exact HB.out)))); have n6_ := Aside0.mk (below_step (by repeat (first | (with_reducible first | exact HB.out | apply below_alloc | apply pw_below_drewN | apply below_drew1) | exact HB.out)) hb); clear HO285; clear HO288; clear HO292; clear HO294; clear HO298; clear HB; have HO285 := n0_; have HO288 := n1_; have HO292 := n2_; have HO294 := n3_; have HO298 := n4_; have HO301 := n5_; have HB := n6_; clear n0_ n1_ n2_ n3_ n4_ n5_ n6_; (try clear hb); (try clear hb2); (try clear hk); (try clear hi); (try clear ho0); obtain ⟨Ao30, co30, eo30⟩ := Kd.R_slice HO288.out; subst eo30; obtain ⟨Ao31, co31, eo31⟩ := Kd.R_slice HO301.out; subst eo31) | ((with_reducible refine gate_callee (f := 38) rfl ?_); refine goesL_ (some 35) rfl rfl Try.func38 (by kernel_rfl) rfl #[.slice Ao30 t286.length co30, .slice Ao31 t299.length co31] rfl (by (try simp only [List.map_toArray, List.map_cons, List.map_nil]); first | done | rfl | (simp only [List.length_drop, List.length_take]; rfl)) ?_; (with_reducible refine (laws_sameInts.calls k _ _ t286 _ _ t299 true _ ?side1 ?side2 ?side3 ?side4 A18.out).mono ?_); (case side1 => repeat (first | exact (Kd.R_reads' HO288.out).2.2 | (with_reducible refine Kd.C_alloc ?_ _) | (with_reducible refine Kd.C_drewN ?_ _) | (with_reducible refine Kd.C_drew ?_))); (case side2 => exact (Kd.R_reads' HO288.out).2.1); (case side3 => repeat (first | exact (Kd.R_reads' HO301.out).2.2 | (with_reducible refine Kd.C_alloc ?_ _) | (with_reducible refine Kd.C_drewN ?_ _) | (with_reducible refine Kd.C_drew ?_))); (case side4 => exact (Kd.R_reads' HO301.out).2.1); rintro e w' ⟨rfl, ⟨nd, rfl⟩⟩; refine ⟨_, rfl, ?_⟩) | (go_at_call 15; (with_reducible refine (spec_Newer.calls k _ _ t289 _ _ t290 t303 _ ?side1 ?side2 ?side3 ?side4 A20.out).mono ?_); (case side1 => repeat (first | exact (Kd.R_reads' HO292.out).2.2 | (with_reducible refine Kd.C_alloc ?_ _) | (with_reducible refine Kd.C_drewN ?_ _) | (with_reducible refine Kd.C_drew ?_))); (case side2 => exact (Kd.R_reads' HO292.out).2.1); (case side3 => repeat (first | exact (Kd.R_reads' HO294.out).2.2 | (with_reducible refine Kd.C_alloc ?_ _) | (with_reducible refine Kd.C_drewN ?_ _) | (with_reducible refine Kd.C_drew ?_))); (case side4 => exact (Kd.R_reads' HO294.out).2.1); rintro e w' ⟨rfl, ⟨nd, rfl⟩⟩))
          go_meet
          case rel => exact ⟨_, (true), (by first | rfl | (simp; done) | (simp [*]; done)), H', ⟨by first | omega | exact Nat.le_refl _⟩, ⟨by (with_reducible repeat (first | apply Kd.R_alloc | apply Kd.R_drewN | apply Kd.R_drew)); exact Kd.R_mono HO285.out (fun _ hk => ⟨hk.1.1.1.1.2, ⟨hk.1.1.1.2, hk.1.1.2⟩⟩)⟩, ⟨by (with_reducible repeat (first | apply Kd.R_alloc | apply Kd.R_drewN | apply Kd.R_drew)); exact Kd.R_mono HO288.out (fun _ hk => ⟨hk.1.1.1.1.2, ⟨hk.1.1.1.2, hk.1.1.2⟩⟩)⟩, ⟨by (with_reducible repeat (first | apply Kd.R_alloc | apply Kd.R_drewN | apply Kd.R_drew)); exact Kd.R_mono HO292.out (fun _ hk => ⟨hk.1.1.1.2, ⟨hk.1.1.2, hk.1.1.1.1⟩⟩)⟩, ⟨by (with_reducible repeat (first | apply Kd.R_alloc | apply Kd.R_drewN | apply Kd.R_drew)); exact Kd.R_mono HO294.out (fun _ hk => ⟨hk.1.1.1.2, ⟨hk.1.1.2, hk.1.1.1.1⟩⟩)⟩, ⟨by repeat (first | (with_reducible first | exact HB.out | apply below_alloc | apply pw_below_drewN | apply below_drew1) | exact HB.out)⟩⟩
      · replace c19 := Bool.eq_false_iff.mpr c19
        subst c19
        have H1 : (laws_FnGens.j0 k t282 t283 t286 t289 t290 t295 true) = some r := by rw [if_neg (show ¬ (false = true) by decide)] at H; exact H
        clear H
        have H := H1
        clear H1
        have H' := Aside0.mk H
        clear H
        go_wp2_with (first | ((with_reducible refine gate_callee (f := 25) rfl ?_); refine goesL_ (some 34) rfl rfl Try.func25 (by kernel_rfl) rfl #[.slice Ao11 t282.length co11, .int .i64 t283] rfl (by (try simp only [List.map_toArray, List.map_cons, List.map_nil]); first | done | rfl | (simp only [List.length_drop, List.length_take]; rfl)) ?_; (with_reducible refine (spec_GenPush.calls k _ _ t282 t283 t299 _ ?side1 ?side2 A17.out).mono ?_); (case side1 => repeat (first | exact (Kd.R_reads' HO285.out).2.2 | (with_reducible refine Kd.C_alloc ?_ _) | (with_reducible refine Kd.C_drewN ?_ _) | (with_reducible refine Kd.C_drew ?_))); (case side2 => exact (Kd.R_reads' HO285.out).2.1); rintro e w32 ⟨v300, rfl, ho0, hb⟩; refine ⟨_, rfl, ?_⟩; have n0_ := Aside0.mk (Kd.R_elder' (by (with_reducible repeat (first | apply Kd.R_alloc | apply Kd.R_drewN | apply Kd.R_drew)); exact HO285.out) (Kd.R_base ho0) hb); have n1_ := Aside0.mk (Kd.R_elder' (by (with_reducible repeat (first | apply Kd.R_alloc | apply Kd.R_drewN | apply Kd.R_drew)); exact HO288.out) (Kd.R_base ho0) hb); have n2_ := Aside0.mk (Kd.R_elder' (by (with_reducible repeat (first | apply Kd.R_alloc | apply Kd.R_drewN | apply Kd.R_drew)); exact HO292.out) (Kd.R_base ho0) hb); have n3_ := Aside0.mk (Kd.R_elder' (by (with_reducible repeat (first | apply Kd.R_alloc | apply Kd.R_drewN | apply Kd.R_drew)); exact HO294.out) (Kd.R_base ho0) hb); have n4_ := Aside0.mk (Kd.R_elder' (by (with_reducible repeat (first | apply Kd.R_alloc | apply Kd.R_drewN | apply Kd.R_drew)); exact HO298.out) (Kd.R_base ho0) hb); have n5_ := Aside0.mk (Kd.R_lower (Kd.R_new' (Kd.R_new' (Kd.R_new' (Kd.R_new' (Kd.R_new' ho0 (Kd.R_lt (by (with_reducible repeat (first | apply Kd.R_alloc | apply Kd.R_drewN | apply Kd.R_drew)); exact HO285.out))) (Kd.R_lt (by (with_reducible repeat (first | apply Kd.R_alloc | apply Kd.R_drewN | apply Kd.R_drew)); exact HO288.out))) (Kd.R_lt (by (with_reducible repeat (first | apply Kd.R_alloc | apply Kd.R_drewN | apply Kd.R_drew)); exact HO292.out))) (Kd.R_lt (by (with_reducible repeat (first | apply Kd.R_alloc | apply Kd.R_drewN | apply Kd.R_drew)); exact HO294.out))) (Kd.R_lt (by (with_reducible repeat (first | apply Kd.R_alloc | apply Kd.R_drewN | apply Kd.R_drew)); exact HO298.out))) (below_size (by repeat (first | (with_reducible first | exact HB.out | apply below_alloc | apply pw_below_drewN | apply below_drew1) | exact HB.out)))); have n6_ := Aside0.mk (below_step (by repeat (first | (with_reducible first | exact HB.out | apply below_alloc | apply pw_below_drewN | apply below_drew1) | exact HB.out)) hb); clear HO285; clear HO288; clear HO292; clear HO294; clear HO298; clear HB; have HO285 := n0_; have HO288 := n1_; have HO292 := n2_; have HO294 := n3_; have HO298 := n4_; have HO301 := n5_; have HB := n6_; clear n0_ n1_ n2_ n3_ n4_ n5_ n6_; (try clear hb); (try clear hb2); (try clear hk); (try clear hi); (try clear ho0); obtain ⟨Ao33, co33, eo33⟩ := Kd.R_slice HO288.out; subst eo33; obtain ⟨Ao34, co34, eo34⟩ := Kd.R_slice HO301.out; subst eo34) | ((with_reducible refine gate_callee (f := 38) rfl ?_); refine goesL_ (some 35) rfl rfl Try.func38 (by kernel_rfl) rfl #[.slice Ao33 t286.length co33, .slice Ao34 t299.length co34] rfl (by (try simp only [List.map_toArray, List.map_cons, List.map_nil]); first | done | rfl | (simp only [List.length_drop, List.length_take]; rfl)) ?_; (with_reducible refine (laws_sameInts.calls k _ _ t286 _ _ t299 false _ ?side1 ?side2 ?side3 ?side4 A18.out).mono ?_); (case side1 => repeat (first | exact (Kd.R_reads' HO288.out).2.2 | (with_reducible refine Kd.C_alloc ?_ _) | (with_reducible refine Kd.C_drewN ?_ _) | (with_reducible refine Kd.C_drew ?_))); (case side2 => exact (Kd.R_reads' HO288.out).2.1); (case side3 => repeat (first | exact (Kd.R_reads' HO301.out).2.2 | (with_reducible refine Kd.C_alloc ?_ _) | (with_reducible refine Kd.C_drewN ?_ _) | (with_reducible refine Kd.C_drew ?_))); (case side4 => exact (Kd.R_reads' HO301.out).2.1); rintro e w' ⟨rfl, ⟨nd, rfl⟩⟩; refine ⟨_, rfl, ?_⟩))
        go_meet
        case rel => exact ⟨_, (true), (by first | rfl | (simp; done) | (simp [*]; done)), H', ⟨by first | omega | exact Nat.le_refl _⟩, ⟨by (with_reducible repeat (first | apply Kd.R_alloc | apply Kd.R_drewN | apply Kd.R_drew)); exact Kd.R_mono HO285.out (fun _ hk => ⟨hk.1.1.1.1.2, ⟨hk.1.1.1.2, hk.1.1.2⟩⟩)⟩, ⟨by (with_reducible repeat (first | apply Kd.R_alloc | apply Kd.R_drewN | apply Kd.R_drew)); exact Kd.R_mono HO288.out (fun _ hk => ⟨hk.1.1.1.1.2, ⟨hk.1.1.1.2, hk.1.1.2⟩⟩)⟩, ⟨by (with_reducible repeat (first | apply Kd.R_alloc | apply Kd.R_drewN | apply Kd.R_drew)); exact Kd.R_mono HO292.out (fun _ hk => ⟨hk.1.1.1.2, ⟨hk.1.1.2, hk.1.1.1.1⟩⟩)⟩, ⟨by (with_reducible repeat (first | apply Kd.R_alloc | apply Kd.R_drewN | apply Kd.R_drew)); exact Kd.R_mono HO294.out (fun _ hk => ⟨hk.1.1.1.2, ⟨hk.1.1.2, hk.1.1.1.1⟩⟩)⟩, ⟨by repeat (first | (with_reducible first | exact HB.out | apply below_alloc | apply pw_below_drewN | apply below_drew1) | exact HB.out)⟩⟩
    case rest =>
      clear HC9
      try clear c1
      try clear c2
      try clear p2
      try clear c3
      try clear c5
      try clear c13
      try clear c17
      try clear c19
      try clear c21
      try clear c21b0
      try clear c21b1
      try clear c25
      try clear c26
      obtain ⟨kq, x50_8, rfl, HA, HJ8, HO_3, HO_5, HO_6, HO_7, HB⟩ := hcut
      cases kq with
      | zero => exact absurd HA.out (by simp [laws_FnGens.j0])
      | succ kj8 =>
        have H := HA.out
        clear HA
        simp only [laws_FnGens.j0] at H
        by_cases c35 : x50_8 = true
        · subst c35
          have H1 : (some false) = some r := by rw [if_pos rfl] at H; exact H
          clear H
          have H := H1
          clear H1
          exact absurd (H.trans (congrArg some hT_.out)) (by simp)
        · replace c35 := Bool.eq_false_iff.mpr c35
          subst c35
          have H1 : ((impl_GensOk.f kj8 t289).bind fun t306 => (if t306 = true then ((impl_GensOk.f kj8 t290).bind fun t307 => (if t307 = true then ((impl_GensOk.f kj8 t282).bind fun t308 => (laws_FnGens.j1 kj8 t282 t283 t286 t289 t290 t295 (!t308))) else (laws_FnGens.j1 kj8 t282 t283 t286 t289 t290 t295 true))) else (laws_FnGens.j1 kj8 t282 t283 t286 t289 t290 t295 true))) = some r := by rw [if_neg (show ¬ (false = true) by decide)] at H; exact H
          clear H
          have H := H1
          clear H1
          have HC36 := Aside0.mk H
          clear H
          go_upto_region 10 with (fail)
          go_cut [63] (fun v63 wc => ∃ (kq : Nat) (x63_35 : Bool), v63 = .bool x63_35 ∧ Aside0 (laws_FnGens.j1 kq t282 t283 t286 t289 t290 t295 x63_35 = some r) ∧ Aside0 (kq ≤ kj8) ∧ Aside0 (Kd.R (Kd.int .i64) 3 wc w.heap.size (fun k_ => some k_ ≠ (v287 : Value).ownBlock ∧ some k_ ≠ ((.slice Ao14 t289.length co14) : Value).ownBlock ∧ some k_ ≠ ((.slice Ao15 t290.length co15) : Value).ownBlock) (.slice Ao11 t282.length co11) t282) ∧ Aside0 (Kd.R (Kd.int .i64) 3 wc w.heap.size (fun k_ => some k_ ≠ ((.slice Ao11 t282.length co11) : Value).ownBlock ∧ some k_ ≠ ((.slice Ao14 t289.length co14) : Value).ownBlock ∧ some k_ ≠ ((.slice Ao15 t290.length co15) : Value).ownBlock) v287 t286) ∧ Aside0 (Kd.R (Kd.int .i64) 3 wc w.heap.size (fun k_ => some k_ ≠ ((.slice Ao11 t282.length co11) : Value).ownBlock ∧ some k_ ≠ (v287 : Value).ownBlock ∧ some k_ ≠ ((.slice Ao15 t290.length co15) : Value).ownBlock) (.slice Ao14 t289.length co14) t289) ∧ Aside0 (Kd.R (Kd.int .i64) 3 wc w.heap.size (fun k_ => some k_ ≠ ((.slice Ao11 t282.length co11) : Value).ownBlock ∧ some k_ ≠ (v287 : Value).ownBlock ∧ some k_ ≠ ((.slice Ao14 t289.length co14) : Value).ownBlock) (.slice Ao15 t290.length co15) t290) ∧ Aside0 (Below w.heap.size w wc))
          case first =>
            have H := HC36.out
            clear HC36
            replace H := Option.bind_eq_some_iff.mp H
            obtain ⟨t306, A370, H⟩ := H
            replace H : (if t306 = true then ((impl_GensOk.f kj8 t290).bind fun t307 => (if t307 = true then ((impl_GensOk.f kj8 t282).bind fun t308 => (laws_FnGens.j1 kj8 t282 t283 t286 t289 t290 t295 (!t308))) else (laws_FnGens.j1 kj8 t282 t283 t286 t289 t290 t295 true))) else (laws_FnGens.j1 kj8 t282 t283 t286 t289 t290 t295 true)) = some r := H
            have A37 := Aside0.mk A370
            clear A370
            by_cases c38 : t306 = true
            · subst c38
              have H1 : ((impl_GensOk.f kj8 t290).bind fun t307 => (if t307 = true then ((impl_GensOk.f kj8 t282).bind fun t308 => (laws_FnGens.j1 kj8 t282 t283 t286 t289 t290 t295 (!t308))) else (laws_FnGens.j1 kj8 t282 t283 t286 t289 t290 t295 true))) = some r := by rw [if_pos rfl] at H; exact H
              clear H
              have H := H1
              clear H1
              replace H := Option.bind_eq_some_iff.mp H
              obtain ⟨t307, A390, H⟩ := H
              replace H : (if t307 = true then ((impl_GensOk.f kj8 t282).bind fun t308 => (laws_FnGens.j1 kj8 t282 t283 t286 t289 t290 t295 (!t308))) else (laws_FnGens.j1 kj8 t282 t283 t286 t289 t290 t295 true)) = some r := H
              have A39 := Aside0.mk A390
              clear A390
              by_cases c40 : t307 = true
              · subst c40
                have H1 : ((impl_GensOk.f kj8 t282).bind fun t308 => (laws_FnGens.j1 kj8 t282 t283 t286 t289 t290 t295 (!t308))) = some r := by rw [if_pos rfl] at H; exact H
                clear H
                have H := H1
                clear H1
                replace H := Option.bind_eq_some_iff.mp H
                obtain ⟨t308, A410, H⟩ := H
                replace H : (laws_FnGens.j1 kj8 t282 t283 t286 t289 t290 t295 (!t308)) = some r := H
                have A41 := Aside0.mk A410
                clear A410
                have H' := Aside0.mk H
                clear H
                go_wp2_with (first | ((with_reducible refine gate_callee (f := 55) rfl ?_); refine goesL_ (some 52) rfl rfl Try.func55 (by kernel_rfl) rfl #[.slice Ao14 t289.length co14] rfl (by (try simp only [List.map_toArray, List.map_cons, List.map_nil]); first | done | rfl | (simp only [List.length_drop, List.length_take]; rfl)) ?_; (with_reducible refine (impl_GensOk.calls kj8 _ _ t289 true _ ?side1 ?side2 A37.out).mono ?_); (case side1 => repeat (first | exact (Kd.R_reads' HO_6.out).2.2 | (with_reducible refine Kd.C_alloc ?_ _) | (with_reducible refine Kd.C_drewN ?_ _) | (with_reducible refine Kd.C_drew ?_))); (case side2 => exact (Kd.R_reads' HO_6.out).2.1); rintro e w' ⟨rfl, ⟨nd, rfl⟩⟩; refine ⟨_, rfl, ?_⟩) | (go_at_call 55; (with_reducible refine (impl_GensOk.calls kj8 _ _ t290 true _ ?side1 ?side2 A39.out).mono ?_); (case side1 => repeat (first | exact (Kd.R_reads' HO_7.out).2.2 | (with_reducible refine Kd.C_alloc ?_ _) | (with_reducible refine Kd.C_drewN ?_ _) | (with_reducible refine Kd.C_drew ?_))); (case side2 => exact (Kd.R_reads' HO_7.out).2.1); rintro e w' ⟨rfl, ⟨nd, rfl⟩⟩) | (go_at_call 55; (with_reducible refine (impl_GensOk.calls kj8 _ _ t282 t308 _ ?side1 ?side2 A41.out).mono ?_); (case side1 => repeat (first | exact (Kd.R_reads' HO_3.out).2.2 | (with_reducible refine Kd.C_alloc ?_ _) | (with_reducible refine Kd.C_drewN ?_ _) | (with_reducible refine Kd.C_drew ?_))); (case side2 => exact (Kd.R_reads' HO_3.out).2.1); rintro e w' ⟨rfl, ⟨nd, rfl⟩⟩))
                go_meet
                case rel => exact ⟨_, (!t308), (by first | rfl | (simp; done) | (simp [*]; done)), H', ⟨by have := HJ8.out; first | omega | exact Nat.le_refl _⟩, ⟨by (with_reducible repeat (first | apply Kd.R_alloc | apply Kd.R_drewN | apply Kd.R_drew)); exact HO_3.out⟩, ⟨by (with_reducible repeat (first | apply Kd.R_alloc | apply Kd.R_drewN | apply Kd.R_drew)); exact HO_5.out⟩, ⟨by (with_reducible repeat (first | apply Kd.R_alloc | apply Kd.R_drewN | apply Kd.R_drew)); exact HO_6.out⟩, ⟨by (with_reducible repeat (first | apply Kd.R_alloc | apply Kd.R_drewN | apply Kd.R_drew)); exact HO_7.out⟩, ⟨by repeat (first | (with_reducible first | exact HB.out | apply below_alloc | apply pw_below_drewN | apply below_drew1) | exact HB.out)⟩⟩
              · replace c40 := Bool.eq_false_iff.mpr c40
                subst c40
                have H1 : (laws_FnGens.j1 kj8 t282 t283 t286 t289 t290 t295 true) = some r := by rw [if_neg (show ¬ (false = true) by decide)] at H; exact H
                clear H
                have H := H1
                clear H1
                have H' := Aside0.mk H
                clear H
                go_wp2_with (first | ((with_reducible refine gate_callee (f := 55) rfl ?_); refine goesL_ (some 52) rfl rfl Try.func55 (by kernel_rfl) rfl #[.slice Ao14 t289.length co14] rfl (by (try simp only [List.map_toArray, List.map_cons, List.map_nil]); first | done | rfl | (simp only [List.length_drop, List.length_take]; rfl)) ?_; (with_reducible refine (impl_GensOk.calls kj8 _ _ t289 true _ ?side1 ?side2 A37.out).mono ?_); (case side1 => repeat (first | exact (Kd.R_reads' HO_6.out).2.2 | (with_reducible refine Kd.C_alloc ?_ _) | (with_reducible refine Kd.C_drewN ?_ _) | (with_reducible refine Kd.C_drew ?_))); (case side2 => exact (Kd.R_reads' HO_6.out).2.1); rintro e w' ⟨rfl, ⟨nd, rfl⟩⟩; refine ⟨_, rfl, ?_⟩) | (go_at_call 55; (with_reducible refine (impl_GensOk.calls kj8 _ _ t290 false _ ?side1 ?side2 A39.out).mono ?_); (case side1 => repeat (first | exact (Kd.R_reads' HO_7.out).2.2 | (with_reducible refine Kd.C_alloc ?_ _) | (with_reducible refine Kd.C_drewN ?_ _) | (with_reducible refine Kd.C_drew ?_))); (case side2 => exact (Kd.R_reads' HO_7.out).2.1); rintro e w' ⟨rfl, ⟨nd, rfl⟩⟩))
                go_meet
                case rel => exact ⟨_, (true), (by first | rfl | (simp; done) | (simp [*]; done)), H', ⟨by have := HJ8.out; first | omega | exact Nat.le_refl _⟩, ⟨by (with_reducible repeat (first | apply Kd.R_alloc | apply Kd.R_drewN | apply Kd.R_drew)); exact HO_3.out⟩, ⟨by (with_reducible repeat (first | apply Kd.R_alloc | apply Kd.R_drewN | apply Kd.R_drew)); exact HO_5.out⟩, ⟨by (with_reducible repeat (first | apply Kd.R_alloc | apply Kd.R_drewN | apply Kd.R_drew)); exact HO_6.out⟩, ⟨by (with_reducible repeat (first | apply Kd.R_alloc | apply Kd.R_drewN | apply Kd.R_drew)); exact HO_7.out⟩, ⟨by repeat (first | (with_reducible first | exact HB.out | apply below_alloc | apply pw_below_drewN | apply below_drew1) | exact HB.out)⟩⟩
            · replace c38 := Bool.eq_false_iff.mpr c38
              subst c38
              have H1 : (laws_FnGens.j1 kj8 t282 t283 t286 t289 t290 t295 true) = some r := by rw [if_neg (show ¬ (false = true) by decide)] at H; exact H
              clear H
              have H := H1
              clear H1
              have H' := Aside0.mk H
              clear H
              go_wp2_with (first | ((with_reducible refine gate_callee (f := 55) rfl ?_); refine goesL_ (some 52) rfl rfl Try.func55 (by kernel_rfl) rfl #[.slice Ao14 t289.length co14] rfl (by (try simp only [List.map_toArray, List.map_cons, List.map_nil]); first | done | rfl | (simp only [List.length_drop, List.length_take]; rfl)) ?_; (with_reducible refine (impl_GensOk.calls kj8 _ _ t289 false _ ?side1 ?side2 A37.out).mono ?_); (case side1 => repeat (first | exact (Kd.R_reads' HO_6.out).2.2 | (with_reducible refine Kd.C_alloc ?_ _) | (with_reducible refine Kd.C_drewN ?_ _) | (with_reducible refine Kd.C_drew ?_))); (case side2 => exact (Kd.R_reads' HO_6.out).2.1); rintro e w' ⟨rfl, ⟨nd, rfl⟩⟩; refine ⟨_, rfl, ?_⟩))
              go_meet
              case rel => exact ⟨_, (true), (by first | rfl | (simp; done) | (simp [*]; done)), H', ⟨by have := HJ8.out; first | omega | exact Nat.le_refl _⟩, ⟨by (with_reducible repeat (first | apply Kd.R_alloc | apply Kd.R_drewN | apply Kd.R_drew)); exact HO_3.out⟩, ⟨by (with_reducible repeat (first | apply Kd.R_alloc | apply Kd.R_drewN | apply Kd.R_drew)); exact HO_5.out⟩, ⟨by (with_reducible repeat (first | apply Kd.R_alloc | apply Kd.R_drewN | apply Kd.R_drew)); exact HO_6.out⟩, ⟨by (with_reducible repeat (first | apply Kd.R_alloc | apply Kd.R_drewN | apply Kd.R_drew)); exact HO_7.out⟩, ⟨by repeat (first | (with_reducible first | exact HB.out | apply below_alloc | apply pw_below_drewN | apply below_drew1) | exact HB.out)⟩⟩
          case rest =>
            clear HC36
            try clear c1
            try clear c2
            try clear p2
            try clear c3
            try clear c4
            try clear c5
            try clear c13
            try clear c17
            try clear c19
            try clear c21
            try clear c21b0
            try clear c21b1
            try clear c25
            try clear c26
            try clear c35
            try clear c38
            try clear c40
            try clear p2
            obtain ⟨kq, x63_35, rfl, HA, HJ35, HO_3, HO_5, HO_6, HO_7, HB⟩ := hcut
            cases kq with
            | zero => exact absurd HA.out (by simp [laws_FnGens.j1])
            | succ kj35 =>
              have H := HA.out
              clear HA
              simp only [laws_FnGens.j1] at H
              by_cases c42 : x63_35 = true
              · subst c42
                have H1 : (some true) = some r := by rw [if_pos rfl] at H; exact H
                clear H
                have H := H1
                clear H1
                obtain rfl := Option.some.inj H
                go_wp2
                go_ret
                exact ⟨by first | rfl | (simp [errW_none, errW_some] <;> rfl) | (simp [*, errW_none, errW_some] <;> rfl), by repeat (first | (with_reducible first | exact HB.out | apply below_alloc | apply pw_below_drewN | apply below_drew1) | exact HB.out)⟩
              · replace c42 := Bool.eq_false_iff.mpr c42
                subst c42
                have H1 : ((impl_Newer.f kj35 t290 t289).bind fun t309 => (if t295 = 0 then (if t309 = t295 then (if t295 = 3 then (if t295 = 2 then (laws_FnGens.j2 kj35 t282 t283 t286 (t309 != 1)) else (laws_FnGens.j2 kj35 t282 t283 t286 false)) else (if t295 = 2 then (laws_FnGens.j2 kj35 t282 t283 t286 (t309 != 1)) else (laws_FnGens.j2 kj35 t282 t283 t286 false))) else (laws_FnGens.j2 kj35 t282 t283 t286 true)) else (if t295 = 3 then (if t309 = t295 then (if t295 = 2 then (laws_FnGens.j2 kj35 t282 t283 t286 (t309 != 1)) else (laws_FnGens.j2 kj35 t282 t283 t286 false)) else (laws_FnGens.j2 kj35 t282 t283 t286 true)) else (if t295 = 2 then (laws_FnGens.j2 kj35 t282 t283 t286 (t309 != 1)) else (laws_FnGens.j2 kj35 t282 t283 t286 false))))) = some r := by rw [if_neg (show ¬ (false = true) by decide)] at H; exact H
                clear H
                have H := H1
                clear H1
                replace H := Option.bind_eq_some_iff.mp H
                obtain ⟨t309, A430, H⟩ := H
                replace H : (if t295 = 0 then (if t309 = t295 then (if t295 = 3 then (if t295 = 2 then (laws_FnGens.j2 kj35 t282 t283 t286 (t309 != 1)) else (laws_FnGens.j2 kj35 t282 t283 t286 false)) else (if t295 = 2 then (laws_FnGens.j2 kj35 t282 t283 t286 (t309 != 1)) else (laws_FnGens.j2 kj35 t282 t283 t286 false))) else (laws_FnGens.j2 kj35 t282 t283 t286 true)) else (if t295 = 3 then (if t309 = t295 then (if t295 = 2 then (laws_FnGens.j2 kj35 t282 t283 t286 (t309 != 1)) else (laws_FnGens.j2 kj35 t282 t283 t286 false)) else (laws_FnGens.j2 kj35 t282 t283 t286 true)) else (if t295 = 2 then (laws_FnGens.j2 kj35 t282 t283 t286 (t309 != 1)) else (laws_FnGens.j2 kj35 t282 t283 t286 false)))) = some r := H
                have A43 := Aside0.mk A430
                clear A430
                have HC44 := Aside0.mk H
                clear H
                go_upto_region 13 with (first | ((with_reducible refine gate_callee (f := 17) rfl ?_); refine goesL_ (some 66) rfl rfl Try.func17 (by kernel_rfl) rfl #[.slice Ao15 t290.length co15, .slice Ao14 t289.length co14] rfl (by (try simp only [List.map_toArray, List.map_cons, List.map_nil]); first | done | rfl | (simp only [List.length_drop, List.length_take]; rfl)) ?_; (with_reducible refine (impl_Newer.calls kj35 _ _ t290 _ _ t289 t309 _ ?side1 ?side2 ?side3 ?side4 A43.out).mono ?_); (case side1 => repeat (first | exact (Kd.R_reads' HO_7.out).2.2 | (with_reducible refine Kd.C_alloc ?_ _) | (with_reducible refine Kd.C_drewN ?_ _) | (with_reducible refine Kd.C_drew ?_))); (case side2 => exact (Kd.R_reads' HO_7.out).2.1); (case side3 => repeat (first | exact (Kd.R_reads' HO_6.out).2.2 | (with_reducible refine Kd.C_alloc ?_ _) | (with_reducible refine Kd.C_drewN ?_ _) | (with_reducible refine Kd.C_drew ?_))); (case side4 => exact (Kd.R_reads' HO_6.out).2.1); rintro e w' ⟨rfl, ⟨nd, rfl⟩⟩; refine ⟨_, rfl, ?_⟩))
                (try simp only [Act.put, List.setIfInBounds_toArray, List.set_cons_zero, List.set_cons_succ])
                go_cut [90] (fun v90 wc => ∃ (kq : Nat) (x90_43 : Bool), v90 = .bool x90_43 ∧ Aside0 (laws_FnGens.j2 kq t282 t283 t286 x90_43 = some r) ∧ Aside0 (kq ≤ kj35) ∧ Aside0 (Kd.R (Kd.int .i64) 3 wc w.heap.size (fun k_ => some k_ ≠ (v287 : Value).ownBlock) (.slice Ao11 t282.length co11) t282) ∧ Aside0 (Kd.R (Kd.int .i64) 3 wc w.heap.size (fun k_ => some k_ ≠ ((.slice Ao11 t282.length co11) : Value).ownBlock) v287 t286) ∧ Aside0 (Below w.heap.size w wc))
                case first =>
                  have H := HC44.out
                  clear HC44
                  by_cases c45 : t295 = 0
                  · rw [if_pos c45] at H
                    have c45b0 : (t295 == 0) = true := beq_iff_eq.mpr c45
                    have c45b1 : (t295 != 0) = false := bne_eq_false_iff_eq.mpr c45
                    clear c45
                    (first | rw [c45b0] | (simp only [i64_w, i32_w]; rw [c45b0]) | skip)
                    by_cases c46 : t309 = t295
                    · rw [if_pos c46] at H
                      have c46b0 : (t309 == t295) = true := beq_iff_eq.mpr c46
                      have c46b1 : (t309 != t295) = false := bne_eq_false_iff_eq.mpr c46
                      clear c46
                      by_cases c47 : t295 = 3
                      · rw [if_pos c47] at H
                        have c47b0 : (t295 == 3) = true := beq_iff_eq.mpr c47
                        have c47b1 : (t295 != 3) = false := bne_eq_false_iff_eq.mpr c47
                        clear c47
                        by_cases c48 : t295 = 2
                        · rw [if_pos c48] at H
                          have c48b0 : (t295 == 2) = true := beq_iff_eq.mpr c48
                          have c48b1 : (t295 != 2) = false := bne_eq_false_iff_eq.mpr c48
                          clear c48
                          have H' := Aside0.mk H
                          clear H
                          go_wp2
                          go_meet
                          case rel => exact ⟨_, ((t309 != 1)), (by first | rfl | (simp; done) | (simp [*]; done)), H', ⟨by have := HJ8.out; have := HJ35.out; first | omega | exact Nat.le_refl _⟩, ⟨by (with_reducible repeat (first | apply Kd.R_alloc | apply Kd.R_drewN | apply Kd.R_drew)); exact Kd.R_mono HO_3.out (fun _ hk => hk.1)⟩, ⟨by (with_reducible repeat (first | apply Kd.R_alloc | apply Kd.R_drewN | apply Kd.R_drew)); exact Kd.R_mono HO_5.out (fun _ hk => hk.1)⟩, ⟨by repeat (first | (with_reducible first | exact HB.out | apply below_alloc | apply pw_below_drewN | apply below_drew1) | exact HB.out)⟩⟩
                        · rw [if_neg c48] at H
                          have c48b0 : (t295 == 2) = false := beq_eq_false_iff_ne.mpr c48
                          have c48b1 : (t295 != 2) = true := bne_iff_ne.mpr c48
                          have H' := Aside0.mk H
                          clear H
                          go_wp2
                          go_meet
                          case rel => exact ⟨_, (false), (by first | rfl | (simp; done) | (simp [*]; done)), H', ⟨by have := HJ8.out; have := HJ35.out; first | omega | exact Nat.le_refl _⟩, ⟨by (with_reducible repeat (first | apply Kd.R_alloc | apply Kd.R_drewN | apply Kd.R_drew)); exact Kd.R_mono HO_3.out (fun _ hk => hk.1)⟩, ⟨by (with_reducible repeat (first | apply Kd.R_alloc | apply Kd.R_drewN | apply Kd.R_drew)); exact Kd.R_mono HO_5.out (fun _ hk => hk.1)⟩, ⟨by repeat (first | (with_reducible first | exact HB.out | apply below_alloc | apply pw_below_drewN | apply below_drew1) | exact HB.out)⟩⟩
                      · rw [if_neg c47] at H
                        have c47b0 : (t295 == 3) = false := beq_eq_false_iff_ne.mpr c47
                        have c47b1 : (t295 != 3) = true := bne_iff_ne.mpr c47
                        by_cases c49 : t295 = 2
                        · rw [if_pos c49] at H
                          have c49b0 : (t295 == 2) = true := beq_iff_eq.mpr c49
                          have c49b1 : (t295 != 2) = false := bne_eq_false_iff_eq.mpr c49
                          clear c49
                          have H' := Aside0.mk H
                          clear H
                          go_wp2
                          go_meet
                          case rel => exact ⟨_, ((t309 != 1)), (by first | rfl | (simp; done) | (simp [*]; done)), H', ⟨by have := HJ8.out; have := HJ35.out; first | omega | exact Nat.le_refl _⟩, ⟨by (with_reducible repeat (first | apply Kd.R_alloc | apply Kd.R_drewN | apply Kd.R_drew)); exact Kd.R_mono HO_3.out (fun _ hk => hk.1)⟩, ⟨by (with_reducible repeat (first | apply Kd.R_alloc | apply Kd.R_drewN | apply Kd.R_drew)); exact Kd.R_mono HO_5.out (fun _ hk => hk.1)⟩, ⟨by repeat (first | (with_reducible first | exact HB.out | apply below_alloc | apply pw_below_drewN | apply below_drew1) | exact HB.out)⟩⟩
                        · rw [if_neg c49] at H
                          have c49b0 : (t295 == 2) = false := beq_eq_false_iff_ne.mpr c49
                          have c49b1 : (t295 != 2) = true := bne_iff_ne.mpr c49
                          have H' := Aside0.mk H
                          clear H
                          go_wp2
                          go_meet
                          case rel => exact ⟨_, (false), (by first | rfl | (simp; done) | (simp [*]; done)), H', ⟨by have := HJ8.out; have := HJ35.out; first | omega | exact Nat.le_refl _⟩, ⟨by (with_reducible repeat (first | apply Kd.R_alloc | apply Kd.R_drewN | apply Kd.R_drew)); exact Kd.R_mono HO_3.out (fun _ hk => hk.1)⟩, ⟨by (with_reducible repeat (first | apply Kd.R_alloc | apply Kd.R_drewN | apply Kd.R_drew)); exact Kd.R_mono HO_5.out (fun _ hk => hk.1)⟩, ⟨by repeat (first | (with_reducible first | exact HB.out | apply below_alloc | apply pw_below_drewN | apply below_drew1) | exact HB.out)⟩⟩
                    · rw [if_neg c46] at H
                      have c46b0 : (t309 == t295) = false := beq_eq_false_iff_ne.mpr c46
                      have c46b1 : (t309 != t295) = true := bne_iff_ne.mpr c46
                      have H' := Aside0.mk H
                      clear H
                      go_wp2
                      go_meet
                      case rel => exact ⟨_, (true), (by first | rfl | (simp; done) | (simp [*]; done)), H', ⟨by have := HJ8.out; have := HJ35.out; first | omega | exact Nat.le_refl _⟩, ⟨by (with_reducible repeat (first | apply Kd.R_alloc | apply Kd.R_drewN | apply Kd.R_drew)); exact Kd.R_mono HO_3.out (fun _ hk => hk.1)⟩, ⟨by (with_reducible repeat (first | apply Kd.R_alloc | apply Kd.R_drewN | apply Kd.R_drew)); exact Kd.R_mono HO_5.out (fun _ hk => hk.1)⟩, ⟨by repeat (first | (with_reducible first | exact HB.out | apply below_alloc | apply pw_below_drewN | apply below_drew1) | exact HB.out)⟩⟩
                  · rw [if_neg c45] at H
                    have c45b0 : (t295 == 0) = false := beq_eq_false_iff_ne.mpr c45
                    have c45b1 : (t295 != 0) = true := bne_iff_ne.mpr c45
                    (first | rw [c45b0] | (simp only [i64_w, i32_w]; rw [c45b0]) | skip)
                    by_cases c50 : t295 = 3
                    · rw [if_pos c50] at H
                      have c50b0 : (t295 == 3) = true := beq_iff_eq.mpr c50
                      have c50b1 : (t295 != 3) = false := bne_eq_false_iff_eq.mpr c50
                      clear c50
                      by_cases c51 : t309 = t295
                      · rw [if_pos c51] at H
                        have c51b0 : (t309 == t295) = true := beq_iff_eq.mpr c51
                        have c51b1 : (t309 != t295) = false := bne_eq_false_iff_eq.mpr c51
                        clear c51
                        by_cases c52 : t295 = 2
                        · rw [if_pos c52] at H
                          have c52b0 : (t295 == 2) = true := beq_iff_eq.mpr c52
                          have c52b1 : (t295 != 2) = false := bne_eq_false_iff_eq.mpr c52
                          clear c52
                          have H' := Aside0.mk H
                          clear H
                          go_wp2
                          go_meet
                          case rel => exact ⟨_, ((t309 != 1)), (by first | rfl | (simp; done) | (simp [*]; done)), H', ⟨by have := HJ8.out; have := HJ35.out; first | omega | exact Nat.le_refl _⟩, ⟨by (with_reducible repeat (first | apply Kd.R_alloc | apply Kd.R_drewN | apply Kd.R_drew)); exact Kd.R_mono HO_3.out (fun _ hk => hk.1)⟩, ⟨by (with_reducible repeat (first | apply Kd.R_alloc | apply Kd.R_drewN | apply Kd.R_drew)); exact Kd.R_mono HO_5.out (fun _ hk => hk.1)⟩, ⟨by repeat (first | (with_reducible first | exact HB.out | apply below_alloc | apply pw_below_drewN | apply below_drew1) | exact HB.out)⟩⟩
                        · rw [if_neg c52] at H
                          have c52b0 : (t295 == 2) = false := beq_eq_false_iff_ne.mpr c52
                          have c52b1 : (t295 != 2) = true := bne_iff_ne.mpr c52
                          have H' := Aside0.mk H
                          clear H
                          go_wp2
                          go_meet
                          case rel => exact ⟨_, (false), (by first | rfl | (simp; done) | (simp [*]; done)), H', ⟨by have := HJ8.out; have := HJ35.out; first | omega | exact Nat.le_refl _⟩, ⟨by (with_reducible repeat (first | apply Kd.R_alloc | apply Kd.R_drewN | apply Kd.R_drew)); exact Kd.R_mono HO_3.out (fun _ hk => hk.1)⟩, ⟨by (with_reducible repeat (first | apply Kd.R_alloc | apply Kd.R_drewN | apply Kd.R_drew)); exact Kd.R_mono HO_5.out (fun _ hk => hk.1)⟩, ⟨by repeat (first | (with_reducible first | exact HB.out | apply below_alloc | apply pw_below_drewN | apply below_drew1) | exact HB.out)⟩⟩
                      · rw [if_neg c51] at H
                        have c51b0 : (t309 == t295) = false := beq_eq_false_iff_ne.mpr c51
                        have c51b1 : (t309 != t295) = true := bne_iff_ne.mpr c51
                        have H' := Aside0.mk H
                        clear H
                        go_wp2
                        go_meet
                        case rel => exact ⟨_, (true), (by first | rfl | (simp; done) | (simp [*]; done)), H', ⟨by have := HJ8.out; have := HJ35.out; first | omega | exact Nat.le_refl _⟩, ⟨by (with_reducible repeat (first | apply Kd.R_alloc | apply Kd.R_drewN | apply Kd.R_drew)); exact Kd.R_mono HO_3.out (fun _ hk => hk.1)⟩, ⟨by (with_reducible repeat (first | apply Kd.R_alloc | apply Kd.R_drewN | apply Kd.R_drew)); exact Kd.R_mono HO_5.out (fun _ hk => hk.1)⟩, ⟨by repeat (first | (with_reducible first | exact HB.out | apply below_alloc | apply pw_below_drewN | apply below_drew1) | exact HB.out)⟩⟩
                    · rw [if_neg c50] at H
                      have c50b0 : (t295 == 3) = false := beq_eq_false_iff_ne.mpr c50
                      have c50b1 : (t295 != 3) = true := bne_iff_ne.mpr c50
                      by_cases c53 : t295 = 2
                      · rw [if_pos c53] at H
                        have c53b0 : (t295 == 2) = true := beq_iff_eq.mpr c53
                        have c53b1 : (t295 != 2) = false := bne_eq_false_iff_eq.mpr c53
                        clear c53
                        have H' := Aside0.mk H
                        clear H
                        go_wp2
                        go_meet
                        case rel => exact ⟨_, ((t309 != 1)), (by first | rfl | (simp; done) | (simp [*]; done)), H', ⟨by have := HJ8.out; have := HJ35.out; first | omega | exact Nat.le_refl _⟩, ⟨by (with_reducible repeat (first | apply Kd.R_alloc | apply Kd.R_drewN | apply Kd.R_drew)); exact Kd.R_mono HO_3.out (fun _ hk => hk.1)⟩, ⟨by (with_reducible repeat (first | apply Kd.R_alloc | apply Kd.R_drewN | apply Kd.R_drew)); exact Kd.R_mono HO_5.out (fun _ hk => hk.1)⟩, ⟨by repeat (first | (with_reducible first | exact HB.out | apply below_alloc | apply pw_below_drewN | apply below_drew1) | exact HB.out)⟩⟩
                      · rw [if_neg c53] at H
                        have c53b0 : (t295 == 2) = false := beq_eq_false_iff_ne.mpr c53
                        have c53b1 : (t295 != 2) = true := bne_iff_ne.mpr c53
                        have H' := Aside0.mk H
                        clear H
                        go_wp2
                        go_meet
                        case rel => exact ⟨_, (false), (by first | rfl | (simp; done) | (simp [*]; done)), H', ⟨by have := HJ8.out; have := HJ35.out; first | omega | exact Nat.le_refl _⟩, ⟨by (with_reducible repeat (first | apply Kd.R_alloc | apply Kd.R_drewN | apply Kd.R_drew)); exact Kd.R_mono HO_3.out (fun _ hk => hk.1)⟩, ⟨by (with_reducible repeat (first | apply Kd.R_alloc | apply Kd.R_drewN | apply Kd.R_drew)); exact Kd.R_mono HO_5.out (fun _ hk => hk.1)⟩, ⟨by repeat (first | (with_reducible first | exact HB.out | apply below_alloc | apply pw_below_drewN | apply below_drew1) | exact HB.out)⟩⟩
                case rest =>
                  clear HC44
                  try clear c1
                  try clear c2
                  try clear p2
                  try clear c3
                  try clear c4
                  try clear c5
                  try clear c13
                  try clear c17
                  try clear c19
                  try clear c21
                  try clear c21b0
                  try clear c21b1
                  try clear c25
                  try clear c26
                  try clear c35
                  try clear c38
                  try clear c40
                  try clear c42
                  try clear c45
                  try clear c45b0
                  try clear c45b1
                  try clear c46
                  try clear c46b0
                  try clear c46b1
                  try clear c47
                  try clear c47b0
                  try clear c47b1
                  try clear c48
                  try clear c48b0
                  try clear c48b1
                  try clear c49
                  try clear c49b0
                  try clear c49b1
                  try clear c50
                  try clear c50b0
                  try clear c50b1
                  try clear c51
                  try clear c51b0
                  try clear c51b1
                  try clear c52
                  try clear c52b0
                  try clear c52b1
                  try clear c53
                  try clear c53b0
                  try clear c53b1
                  try clear p2
                  obtain ⟨kq, x90_43, rfl, HA, HJ43, HO_3, HO_5, HB⟩ := hcut
                  cases kq with
                  | zero => exact absurd HA.out (by simp [laws_FnGens.j2])
                  | succ kj43 =>
                    have H := HA.out
                    clear HA
                    simp only [laws_FnGens.j2] at H
                    by_cases c54 : x90_43 = true
                    · subst c54
                      have H1 : (some false) = some r := by rw [if_pos rfl] at H; exact H
                      clear H
                      have H := H1
                      clear H1
                      exact absurd (H.trans (congrArg some hT_.out)) (by simp)
                    · replace c54 := Bool.eq_false_iff.mpr c54
                      subst c54
                      have H1 : ((laws_within.f kj43 t282 t283).bind fun t310 => (if t310 = true then (laws_FnGens.j3 kj43 t282 t283 t286 true) else (if t283 < 1 then (laws_FnGens.j3 kj43 t282 t283 t286 true) else (laws_FnGens.j3 kj43 t282 t283 t286 (decide (t283 > 100000)))))) = some r := by rw [if_neg (show ¬ (false = true) by decide)] at H; exact H
                      clear H
                      have H := H1
                      clear H1
                      have HC55 := Aside0.mk H
                      clear H
                      go_upto_region 15 with (fail)
                      go_cut [101] (fun v101 wc => ∃ (kq : Nat) (x101_54 : Bool), v101 = .bool x101_54 ∧ Aside0 (laws_FnGens.j3 kq t282 t283 t286 x101_54 = some r) ∧ Aside0 (kq ≤ kj43) ∧ Aside0 (Kd.R (Kd.int .i64) 3 wc w.heap.size (fun k_ => some k_ ≠ (v287 : Value).ownBlock) (.slice Ao11 t282.length co11) t282) ∧ Aside0 (Kd.R (Kd.int .i64) 3 wc w.heap.size (fun k_ => some k_ ≠ ((.slice Ao11 t282.length co11) : Value).ownBlock) v287 t286) ∧ Aside0 (Below w.heap.size w wc))
                      case first =>
                        have H := HC55.out
                        clear HC55
                        replace H := Option.bind_eq_some_iff.mp H
                        obtain ⟨t310, A560, H⟩ := H
                        replace H : (if t310 = true then (laws_FnGens.j3 kj43 t282 t283 t286 true) else (if t283 < 1 then (laws_FnGens.j3 kj43 t282 t283 t286 true) else (laws_FnGens.j3 kj43 t282 t283 t286 (decide (t283 > 100000))))) = some r := H
                        have A56 := Aside0.mk A560
                        clear A560
                        by_cases c57 : t310 = true
                        · subst c57
                          have H1 : (laws_FnGens.j3 kj43 t282 t283 t286 true) = some r := by rw [if_pos rfl] at H; exact H
                          clear H
                          have H := H1
                          clear H1
                          have H' := Aside0.mk H
                          clear H
                          go_wp2_with (first | ((with_reducible refine gate_callee (f := 57) rfl ?_); refine goesL_ (some 93) rfl rfl Try.func57 (by kernel_rfl) rfl #[.slice Ao11 t282.length co11, .int .i64 t283] rfl (by (try simp only [List.map_toArray, List.map_cons, List.map_nil]); first | done | rfl | (simp only [List.length_drop, List.length_take]; rfl)) ?_; (with_reducible refine (laws_within.calls kj43 _ _ t282 t283 true _ ?side1 ?side2 A56.out).mono ?_); (case side1 => repeat (first | exact (Kd.R_reads' HO_3.out).2.2 | (with_reducible refine Kd.C_alloc ?_ _) | (with_reducible refine Kd.C_drewN ?_ _) | (with_reducible refine Kd.C_drew ?_))); (case side2 => exact (Kd.R_reads' HO_3.out).2.1); rintro e w' ⟨rfl, ⟨nd, rfl⟩⟩; refine ⟨_, rfl, ?_⟩))
                          go_meet
                          case rel => exact ⟨_, (true), (by first | rfl | (simp; done) | (simp [*]; done)), H', ⟨by have := HJ8.out; have := HJ35.out; have := HJ43.out; first | omega | exact Nat.le_refl _⟩, ⟨by (with_reducible repeat (first | apply Kd.R_alloc | apply Kd.R_drewN | apply Kd.R_drew)); exact HO_3.out⟩, ⟨by (with_reducible repeat (first | apply Kd.R_alloc | apply Kd.R_drewN | apply Kd.R_drew)); exact HO_5.out⟩, ⟨by repeat (first | (with_reducible first | exact HB.out | apply below_alloc | apply pw_below_drewN | apply below_drew1) | exact HB.out)⟩⟩
                        · replace c57 := Bool.eq_false_iff.mpr c57
                          subst c57
                          have H1 : (if t283 < 1 then (laws_FnGens.j3 kj43 t282 t283 t286 true) else (laws_FnGens.j3 kj43 t282 t283 t286 (decide (t283 > 100000)))) = some r := by rw [if_neg (show ¬ (false = true) by decide)] at H; exact H
                          clear H
                          have H := H1
                          clear H1
                          by_cases c58 : t283 < 1
                          · rw [if_pos c58] at H
                            have c58b0 : decide (t283 < 1) = true := decide_eq_true c58
                            clear c58
                            (first | rw [c58b0] | (simp only [i64_w, i32_w]; rw [c58b0]) | skip)
                            have H' := Aside0.mk H
                            clear H
                            go_wp2_with (first | ((with_reducible refine gate_callee (f := 57) rfl ?_); refine goesL_ (some 93) rfl rfl Try.func57 (by kernel_rfl) rfl #[.slice Ao11 t282.length co11, .int .i64 t283] rfl (by (try simp only [List.map_toArray, List.map_cons, List.map_nil]); first | done | rfl | (simp only [List.length_drop, List.length_take]; rfl)) ?_; (with_reducible refine (laws_within.calls kj43 _ _ t282 t283 false _ ?side1 ?side2 A56.out).mono ?_); (case side1 => repeat (first | exact (Kd.R_reads' HO_3.out).2.2 | (with_reducible refine Kd.C_alloc ?_ _) | (with_reducible refine Kd.C_drewN ?_ _) | (with_reducible refine Kd.C_drew ?_))); (case side2 => exact (Kd.R_reads' HO_3.out).2.1); rintro e w' ⟨rfl, ⟨nd, rfl⟩⟩; refine ⟨_, rfl, ?_⟩))
                            go_meet
                            case rel => exact ⟨_, (true), (by first | rfl | (simp; done) | (simp [*]; done)), H', ⟨by have := HJ8.out; have := HJ35.out; have := HJ43.out; first | omega | exact Nat.le_refl _⟩, ⟨by (with_reducible repeat (first | apply Kd.R_alloc | apply Kd.R_drewN | apply Kd.R_drew)); exact HO_3.out⟩, ⟨by (with_reducible repeat (first | apply Kd.R_alloc | apply Kd.R_drewN | apply Kd.R_drew)); exact HO_5.out⟩, ⟨by repeat (first | (with_reducible first | exact HB.out | apply below_alloc | apply pw_below_drewN | apply below_drew1) | exact HB.out)⟩⟩
                          · rw [if_neg c58] at H
                            have c58b0 : decide (t283 < 1) = false := decide_eq_false c58
                            clear c58
                            (first | rw [c58b0] | (simp only [i64_w, i32_w]; rw [c58b0]) | skip)
                            have H' := Aside0.mk H
                            clear H
                            go_wp2_with (first | ((with_reducible refine gate_callee (f := 57) rfl ?_); refine goesL_ (some 93) rfl rfl Try.func57 (by kernel_rfl) rfl #[.slice Ao11 t282.length co11, .int .i64 t283] rfl (by (try simp only [List.map_toArray, List.map_cons, List.map_nil]); first | done | rfl | (simp only [List.length_drop, List.length_take]; rfl)) ?_; (with_reducible refine (laws_within.calls kj43 _ _ t282 t283 false _ ?side1 ?side2 A56.out).mono ?_); (case side1 => repeat (first | exact (Kd.R_reads' HO_3.out).2.2 | (with_reducible refine Kd.C_alloc ?_ _) | (with_reducible refine Kd.C_drewN ?_ _) | (with_reducible refine Kd.C_drew ?_))); (case side2 => exact (Kd.R_reads' HO_3.out).2.1); rintro e w' ⟨rfl, ⟨nd, rfl⟩⟩; refine ⟨_, rfl, ?_⟩))
                            go_meet
                            case rel => exact ⟨_, (decide (t283 > 100000)), (by first | rfl | (simp; done) | (simp [*]; done)), H', ⟨by have := HJ8.out; have := HJ35.out; have := HJ43.out; first | omega | exact Nat.le_refl _⟩, ⟨by (with_reducible repeat (first | apply Kd.R_alloc | apply Kd.R_drewN | apply Kd.R_drew)); exact HO_3.out⟩, ⟨by (with_reducible repeat (first | apply Kd.R_alloc | apply Kd.R_drewN | apply Kd.R_drew)); exact HO_5.out⟩, ⟨by repeat (first | (with_reducible first | exact HB.out | apply below_alloc | apply pw_below_drewN | apply below_drew1) | exact HB.out)⟩⟩
                      case rest =>
                        clear HC55
                        try clear c1
                        try clear c2
                        try clear p2
                        try clear c3
                        try clear c4
                        try clear c5
                        try clear c13
                        try clear c17
                        try clear c19
                        try clear c21
                        try clear c21b0
                        try clear c21b1
                        try clear c25
                        try clear c26
                        try clear c35
                        try clear c38
                        try clear c40
                        try clear c42
                        try clear c45
                        try clear c45b0
                        try clear c45b1
                        try clear c46
                        try clear c46b0
                        try clear c46b1
                        try clear c47
                        try clear c47b0
                        try clear c47b1
                        try clear c48
                        try clear c48b0
                        try clear c48b1
                        try clear c49
                        try clear c49b0
                        try clear c49b1
                        try clear c50
                        try clear c50b0
                        try clear c50b1
                        try clear c51
                        try clear c51b0
                        try clear c51b1
                        try clear c52
                        try clear c52b0
                        try clear c52b1
                        try clear c53
                        try clear c53b0
                        try clear c53b1
                        try clear c54
                        try clear c55
                        try clear c57
                        try clear c58
                        try clear c58b0
                        try clear p2
                        obtain ⟨kq, x101_54, rfl, HA, HJ54, HO_3, HO_5, HB⟩ := hcut
                        cases kq with
                        | zero => exact absurd HA.out (by simp [laws_FnGens.j3])
                        | succ kj54 =>
                          have H := HA.out
                          clear HA
                          simp only [laws_FnGens.j3] at H
                          by_cases c59 : x101_54 = true
                          · subst c59
                            have H1 : ((laws_sameInts.f kj54 t286 t282).bind fun t311 => (some t311)) = some r := by rw [if_pos rfl] at H; exact H
                            clear H
                            have H := H1
                            clear H1
                            replace H := Option.bind_eq_some_iff.mp H
                            obtain ⟨t311, A600, H⟩ := H
                            replace H : (some t311) = some r := H
                            have A60 := Aside0.mk A600
                            clear A600
                            obtain rfl := Option.some.inj H
                            obtain ⟨Ao61, co61, eo61⟩ := Kd.R_slice HO_5.out
                            subst eo61
                            go_wp2_with (first | ((with_reducible refine gate_callee (f := 38) rfl ?_); refine goesL_ (some 104) rfl rfl Try.func38 (by kernel_rfl) rfl #[.slice Ao61 t286.length co61, .slice Ao11 t282.length co11] rfl (by (try simp only [List.map_toArray, List.map_cons, List.map_nil]); first | done | rfl | (simp only [List.length_drop, List.length_take]; rfl)) ?_; (with_reducible refine (laws_sameInts.calls kj54 _ _ t286 _ _ t282 t311 _ ?side1 ?side2 ?side3 ?side4 A60.out).mono ?_); (case side1 => repeat (first | exact (Kd.R_reads' HO_5.out).2.2 | (with_reducible refine Kd.C_alloc ?_ _) | (with_reducible refine Kd.C_drewN ?_ _) | (with_reducible refine Kd.C_drew ?_))); (case side2 => exact (Kd.R_reads' HO_5.out).2.1); (case side3 => repeat (first | exact (Kd.R_reads' HO_3.out).2.2 | (with_reducible refine Kd.C_alloc ?_ _) | (with_reducible refine Kd.C_drewN ?_ _) | (with_reducible refine Kd.C_drew ?_))); (case side4 => exact (Kd.R_reads' HO_3.out).2.1); rintro e w' ⟨rfl, ⟨nd, rfl⟩⟩; refine ⟨_, rfl, ?_⟩))
                            go_ret
                            exact ⟨by first | rfl | (simp [errW_none, errW_some] <;> rfl) | (simp [*, errW_none, errW_some] <;> rfl), by repeat (first | (with_reducible first | exact HB.out | apply below_alloc | apply pw_below_drewN | apply below_drew1) | exact HB.out)⟩
                          · replace c59 := Bool.eq_false_iff.mpr c59
                            subst c59
                            have H1 : ((impl_GensOk.f kj54 t286).bind fun t312 => (if t312 = true then (if 0 < (t286.length : Int) then (if (rd t286 0) = t283 then (if (t282.length : Int) = 0 then (some true) else ((impl_Newer.f kj54 t286 t282).bind fun t314 => (some (t314 == 1)))) else (some false)) else (none)) else (some false))) = some r := by rw [if_neg (show ¬ (false = true) by decide)] at H; exact H
                            clear H
                            have H := H1
                            clear H1
                            replace H := Option.bind_eq_some_iff.mp H
                            obtain ⟨t312, A620, H⟩ := H
                            replace H : (if t312 = true then (if 0 < (t286.length : Int) then (if (rd t286 0) = t283 then (if (t282.length : Int) = 0 then (some true) else ((impl_Newer.f kj54 t286 t282).bind fun t314 => (some (t314 == 1)))) else (some false)) else (none)) else (some false)) = some r := H
                            have A62 := Aside0.mk A620
                            clear A620
                            by_cases c63 : t312 = true
                            · subst c63
                              have H1 : (if 0 < (t286.length : Int) then (if (rd t286 0) = t283 then (if (t282.length : Int) = 0 then (some true) else ((impl_Newer.f kj54 t286 t282).bind fun t314 => (some (t314 == 1)))) else (some false)) else (none)) = some r := by rw [if_pos rfl] at H; exact H
                              clear H
                              have H := H1
                              clear H1
                              by_cases c64 : 0 < (t286.length : Int)
                              · rw [if_pos c64] at H
                                have c64b0 : decide (0 < (t286.length : Int)) = true := decide_eq_true c64
                                have c64b1 : decide (0 < t286.length) = true := decide_eq_true (by omega)
                                clear c64
                                by_cases c65 : (rd t286 0) = t283
                                · rw [if_pos c65] at H
                                  have c65b0 : ((rd t286 0) == t283) = true := beq_iff_eq.mpr c65
                                  have c65b1 : ((rd t286 0) != t283) = false := bne_eq_false_iff_eq.mpr c65
                                  clear c65
                                  by_cases c66 : (t282.length : Int) = 0
                                  · rw [if_pos c66] at H
                                    have c66b0 : ((t282.length : Int) == 0) = true := beq_iff_eq.mpr c66
                                    have c66b1 : ((t282.length : Int) != 0) = false := bne_eq_false_iff_eq.mpr c66
                                    clear c66
                                    obtain rfl := Option.some.inj H
                                    obtain ⟨Ao67, co67, eo67⟩ := Kd.R_slice HO_5.out
                                    subst eo67
                                    go_wp2_with (first | ((with_reducible refine gate_callee (f := 55) rfl ?_); refine goesL_ (some 106) rfl rfl Try.func55 (by kernel_rfl) rfl #[.slice Ao67 t286.length co67] rfl (by (try simp only [List.map_toArray, List.map_cons, List.map_nil]); first | done | rfl | (simp only [List.length_drop, List.length_take]; rfl)) ?_; (with_reducible refine (impl_GensOk.calls kj54 _ _ t286 true _ ?side1 ?side2 A62.out).mono ?_); (case side1 => repeat (first | exact (Kd.R_reads' HO_5.out).2.2 | (with_reducible refine Kd.C_alloc ?_ _) | (with_reducible refine Kd.C_drewN ?_ _) | (with_reducible refine Kd.C_drew ?_))); (case side2 => exact (Kd.R_reads' HO_5.out).2.1); rintro e w' ⟨rfl, ⟨nd, rfl⟩⟩; refine ⟨_, rfl, ?_⟩; have p313 : 0 ≤ (0 : Int) := (by omega); have q313 : 0 < (t286.length : Int) := of_decide_eq_true (by first | (with_reducible assumption) | assumption); obtain ⟨ad313, e313, hx313_0⟩ := Kd.at_int (Kd.R_reads' HO_5.out).2.2 0 p313 q313; cases e313; have qi313 : (0 < t286.length) = True := eq_true (by omega); (try rw [show ((0 : Int)).toNat = 0 from rfl] at hx313_0); (try rw [Addr.add_zero'] at hx313_0); replace p313 := eq_true p313; replace q313 := eq_true q313))
                                    go_ret
                                    exact ⟨by first | rfl | (simp [errW_none, errW_some] <;> rfl) | (simp [*, errW_none, errW_some] <;> rfl), by repeat (first | (with_reducible first | exact HB.out | apply below_alloc | apply pw_below_drewN | apply below_drew1) | exact HB.out)⟩
                                  · rw [if_neg c66] at H
                                    have c66b0 : ((t282.length : Int) == 0) = false := beq_eq_false_iff_ne.mpr c66
                                    have c66b1 : ((t282.length : Int) != 0) = true := bne_iff_ne.mpr c66
                                    have c66b2 : ¬ (t282 = []) := fun h_ => c66 (by rw [h_]; rfl)
                                    replace H := Option.bind_eq_some_iff.mp H
                                    obtain ⟨t314, A680, H⟩ := H
                                    replace H : (some (t314 == 1)) = some r := H
                                    have A68 := Aside0.mk A680
                                    clear A680
                                    obtain rfl := Option.some.inj H
                                    obtain ⟨Ao69, co69, eo69⟩ := Kd.R_slice HO_5.out
                                    subst eo69
                                    go_wp2_with (first | ((with_reducible refine gate_callee (f := 55) rfl ?_); refine goesL_ (some 106) rfl rfl Try.func55 (by kernel_rfl) rfl #[.slice Ao69 t286.length co69] rfl (by (try simp only [List.map_toArray, List.map_cons, List.map_nil]); first | done | rfl | (simp only [List.length_drop, List.length_take]; rfl)) ?_; (with_reducible refine (impl_GensOk.calls kj54 _ _ t286 true _ ?side1 ?side2 A62.out).mono ?_); (case side1 => repeat (first | exact (Kd.R_reads' HO_5.out).2.2 | (with_reducible refine Kd.C_alloc ?_ _) | (with_reducible refine Kd.C_drewN ?_ _) | (with_reducible refine Kd.C_drew ?_))); (case side2 => exact (Kd.R_reads' HO_5.out).2.1); rintro e w' ⟨rfl, ⟨nd, rfl⟩⟩; refine ⟨_, rfl, ?_⟩; have p313 : 0 ≤ (0 : Int) := (by omega); have q313 : 0 < (t286.length : Int) := of_decide_eq_true (by first | (with_reducible assumption) | assumption); obtain ⟨ad313, e313, hx313_0⟩ := Kd.at_int (Kd.R_reads' HO_5.out).2.2 0 p313 q313; cases e313; have qi313 : (0 < t286.length) = True := eq_true (by omega); (try rw [show ((0 : Int)).toNat = 0 from rfl] at hx313_0); (try rw [Addr.add_zero'] at hx313_0); replace p313 := eq_true p313; replace q313 := eq_true q313) | (go_at_call 17; (with_reducible refine (impl_Newer.calls kj54 _ _ t286 _ _ t282 t314 _ ?side1 ?side2 ?side3 ?side4 A68.out).mono ?_); (case side1 => repeat (first | exact (Kd.R_reads' HO_5.out).2.2 | (with_reducible refine Kd.C_alloc ?_ _) | (with_reducible refine Kd.C_drewN ?_ _) | (with_reducible refine Kd.C_drew ?_))); (case side2 => exact (Kd.R_reads' HO_5.out).2.1); (case side3 => repeat (first | exact (Kd.R_reads' HO_3.out).2.2 | (with_reducible refine Kd.C_alloc ?_ _) | (with_reducible refine Kd.C_drewN ?_ _) | (with_reducible refine Kd.C_drew ?_))); (case side4 => exact (Kd.R_reads' HO_3.out).2.1); rintro e w' ⟨rfl, ⟨nd, rfl⟩⟩))
                                    go_ret
                                    exact ⟨by first | rfl | (simp [errW_none, errW_some] <;> rfl) | (simp [*, errW_none, errW_some] <;> rfl), by repeat (first | (with_reducible first | exact HB.out | apply below_alloc | apply pw_below_drewN | apply below_drew1) | exact HB.out)⟩
                                · rw [if_neg c65] at H
                                  have c65b0 : ((rd t286 0) == t283) = false := beq_eq_false_iff_ne.mpr c65
                                  have c65b1 : ((rd t286 0) != t283) = true := bne_iff_ne.mpr c65
                                  exact absurd (H.trans (congrArg some hT_.out)) (by simp)
                              · rw [if_neg c64] at H
                                exact absurd H (by simp)
                            · replace c63 := Bool.eq_false_iff.mpr c63
                              subst c63
                              have H1 : (some false) = some r := by rw [if_neg (show ¬ (false = true) by decide)] at H; exact H
                              clear H
                              have H := H1
                              clear H1
                              exact absurd (H.trans (congrArg some hT_.out)) (by simp)

/-- THE ONE PURE STATEMENT of laws_FnGens: yours. -/
def laws_FnGens.Pure : Prop := ∀ (l0 : List Int), l0.length ≤ maxLen → l0.length * 1 ≤ 140737488351232 → (∀ x ∈ l0, (Lit.int .u8 x).wf = true) → ∃ k, laws_FnGens.f k l0 = some true
theorem laws_FnGens.walk (P : laws_FnGens.Pure) (a0 : Option Addr) (len0 cap0 : Nat) (z0 : List Int) (w : World) (w0 : (a0 = none ∧ len0 = 0 ∧ cap0 = 0 ∧ z0 = []) ∨ ∃ x, a0 = some x ∧ len0 ≤ cap0 ∧ cap0 ≤ maxLen ∧ z0.length = cap0 ∧ (∀ i, i < z0.length → w.cell? (x.add i) = some (.int .u8 (z0.getD i 0))) ∧ ∀ n ∈ z0, (Lit.int .u8 n).wf = true) (y0 : len0 * 1 ≤ 140737488351232) :
    Calls Try.prog 13 #[.slice a0 len0 cap0] w fun e w' => e = .returned (.bool true) ∧ Below w.heap.size w w' := by
  obtain ⟨l0, rfl, hr0, hm0, hw0, hc0⟩ := ReadsInt.ofRowC w0
  obtain ⟨k, h⟩ := P l0 hm0 y0 hw0
  refine (laws_FnGens.calls k _ _ l0 true w (Kd.C_of_reads (d := (0 : Int)) (h1 := fun _ => rfl) hr0) hc0 ⟨rfl⟩ h).mono ?_
  rintro e w' ⟨rfl, hd⟩
  exact ⟨rfl, hd⟩

end Go.Proofs.Ytkejojcjmlnpgaa.QFnGens
