/- The evaluator is right: code, loops and all. No program in sight. No condition. -/
import Derived.Test.YthmaaogfmakohaaRfS
import Derived.Test.YthmaaogfmakohaaRfW
import Derived.Deep.LoopGhost
namespace Go.Refl
open Go.RowKit
set_option linter.unusedVariables false
set_option linter.unusedSimpArgs false

def exM : Ex → Exit
  | .normal => .normal
  | .exit i => .exit i
  | .ret => .ret
def codeOk (n : Nat) : Code → Bool
  | .region _ ops _ => ops.toList.all (dstOk n)
  | .seq a b => codeOk n a && codeOk n b
  | .cond _ a b => codeOk n a && codeOk n b
  | .block _ c => codeOk n c
  | .loop c => codeOk n c
  | _ => true
theorem loopG_some {R : Type} {τ : Tm} {body : AS → (Ex → AS → Option R) → Option R} {K : Ex → AS → Option R} {s : τ.D} {r : R} (h : loopG τ body K s = some r) : ∃ n, iterG τ body K n s = some r := by
  unfold loopG at h
  split at h
  · exact ⟨_, h⟩
  · cases h
section
variable {cx : Cx} {P : Program}
theorem ev_ok {R0 : Type} {E : Env} (hE : EnvOk P E) (hct : ∀ f c, get E.ct f = some c → Sat P f c) (hm : P.follows .mixedOrders = true) {TM : List (Nat × Tm)} (hpins : ∀ k u, (k, u) ∈ cx.pins → pinBase ≤ k) {N : Nat} (hN : N ≤ 60000) {r : R0} :
    ∀ (c : Code) (cur : Nat) (A : AS) (a : Act) (w : World) (K : Ex → AS → Option R0) (Q : Exit → Act → World → Prop), codeOk N c = true → Rel cx A a w → a.tmps.size = N → ev E TM cur c A K = some r →
      (∀ e A' a' w', K e A' = some r → Rel cx A' a' w' → a'.tmps.size = N → Q (exM e) a' w') → c.wp P Q a w
  | .skip, cur, A, a, w, K, Q, hc, h, hs, he, hQ => wp_skip (hQ .normal A a w (by simpa [ev] using he) h hs)
  | .region id ops false, cur, A, a, w, K, Q, hc, h, hs, he, hQ =>
    evReg_ok hE hct hpins hN (fun A' a' w' hk hr hs => hQ .normal A' a' w' hk hr hs) h hs hc (by simpa only [ev] using he)
  | .region id ops true, cur, A, a, w, K, Q, hc, h, hs, he, hQ => by
    simp only [ev] at he
    split at he
    · rename_i hns
      rw [Bool.and_eq_true, Bool.and_eq_true, Bool.and_eq_true] at hns
      exact drawU_fin hE hct hm hns.1 hpins hN hc (fun A' a' w' hk hr hs => hQ .normal A' a' w' hk hr hs) h hs hns.2.2 he
    rename_i hnu
    clear hnu
    split at he
    · rename_i hns
      rw [Bool.and_eq_true, Bool.and_eq_true] at hns
      exact draw_ok hE hct hm hns.1.1 hpins hN hc (fun A' a' w' hk hr hs => hQ .normal A' a' w' hk hr hs) h hs hns.2 he
    · split at he
      · rename_i _ hns
        rw [Bool.and_eq_true] at hns
        exact drawT_fin hE hct hm hns.1 hpins hN hc (fun A' a' w' hk hr hs => hQ .normal A' a' w' hk hr hs) h hs hns.2 he
      · cases he
  | .seq x y, cur, A, a, w, K, Q, hc, h, hs, he, hQ => by
    simp only [codeOk, Bool.and_eq_true] at hc
    refine wp_seq ?_
    simp only [ev] at he
    refine ev_ok hE hct hm hpins hN x cur A a w _ _ hc.1 h hs he fun e A' a' w' hk hr hs => ?_
    cases e with
    | normal => simp only [kSeq] at hk; exact ev_ok hE hct hm hpins hN y cur A' a' w' K Q hc.2 hr hs hk hQ
    | exit i => exact hQ (.exit i) A' a' w' hk hr hs
    | ret => exact hQ .ret A' a' w' hk hr hs
  | .cond b x y, cur, A, a, w, K, Q, hc, h, hs, he, hQ => by
    simp only [codeOk, Bool.and_eq_true] at hc
    simp only [ev] at he
    split at he
    · rename_i p t hb
      obtain ⟨m, hrel⟩ := h
      have hv := opdC_ok hrel b
      rw [hb] at hv
      have hv := hv.bool
      refine wp_cond (t := t) hv ?_
      rcases brk_some he with ⟨rfl, he⟩ | ⟨rfl, he⟩
      · exact ev_ok hE hct hm hpins hN x cur A a w K Q hc.1 ⟨m, hrel⟩ hs he hQ
      · exact ev_ok hE hct hm hpins hN y cur A a w K Q hc.2 ⟨m, hrel⟩ hs he hQ
    · cases he
  | .block id c, cur, A, a, w, K, Q, hc, h, hs, he, hQ => by
    refine wp_block ?_
    simp only [ev] at he
    refine ev_ok hE hct hm hpins hN c id A a w _ _ hc h hs he fun e A' a' w' hk hr hs => ?_
    cases e with
    | normal => exact hQ .normal A' a' w' hk hr hs
    | exit i =>
      simp only [kBlk] at hk
      show Exit.inBlock id Q (.exit i) a' w'
      unfold Exit.inBlock
      split at hk
      · rename_i e; simp only [if_pos e]; exact hQ .normal A' a' w' hk hr hs
      · rename_i e; simp only [if_neg e]; exact hQ (.exit i) A' a' w' hk hr hs
    | ret => exact hQ .ret A' a' w' hk hr hs
  | .loop c, cur, A, a, w, K, Q, hc, h, hs, he, hQ => by
    simp only [ev] at he
    split at he
    · rename_i sp hsp
      cases hmt : matT sp A with
      | none => rw [hmt] at he; cases he
      | some s =>
        rw [hmt] at he
        simp only [Option.bind_some] at he
        obtain ⟨n, hn⟩ := loopG_some he
        refine wp_loop_ghost (fun n a w => ∃ s, Rel cx (inst sp s) a w ∧ a.tmps.size = N ∧ iterG sp (fun A K => ev E TM cur c A K) K n s = some r) n ⟨s, matT_ok hpins h hmt, hs, hn⟩ ?_
        rintro n a w ⟨s, h, hs, hn⟩
        cases n with
        | zero => simp [iterG] at hn
        | succ n =>
          simp only [iterG] at hn
          refine ev_ok hE hct hm hpins hN c cur _ a w _ _ hc h hs hn fun e A' a' w' hk hr hs => ?_
          cases e with
          | normal =>
            simp only [iterK] at hk
            cases hmt : matT sp A' with
            | none => rw [hmt] at hk; cases hk
            | some s' =>
              rw [hmt] at hk
              simp only [Option.bind_some] at hk
              exact ⟨n, Nat.lt_succ_self n, s', matT_ok hpins hr hmt, hs, hk⟩
          | exit i => exact hQ (.exit i) _ a' w' hk (restr_ok hr _) hs
          | ret => exact hQ .ret _ a' w' hk (restr_ok hr _) hs
    · cases he
  | .exit id, cur, A, a, w, K, Q, hc, h, hs, he, hQ => wp_exit (hQ (.exit id) A a w (by simpa [ev] using he) h hs)
  | .ret, cur, A, a, w, K, Q, hc, h, hs, he, hQ => wp_ret (hQ .ret A a w (by simpa [ev] using he) h hs)
  | .label _, cur, A, a, w, K, Q, hc, h, hs, he, hQ => by simp [ev] at he
  | .goto _, cur, A, a, w, K, Q, hc, h, hs, he, hQ => by simp [ev] at he
end
end Go.Refl
