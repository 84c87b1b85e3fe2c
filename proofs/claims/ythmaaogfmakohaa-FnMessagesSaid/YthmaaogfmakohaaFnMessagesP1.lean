/- Plain laws: what the functions come to. No condition. -/
import Derived.Test.YthmaaogfmakohaaFnMessagesP0
namespace Go.Refl
open Go.RowKit
set_option linter.unusedVariables false
set_option linter.unusedSimpArgs false
/-- All of a list right: it is packed and unpacked. -/
theorem msgs_loops (x0 : List Int) (d0 d1 d2 d3 : Int) (d4 : List Int) (hg : d4.length ≤ 1000) (d5 : List Int) (h5 : d5 = msgB (d0, (d1, (d2, (d3, (d4, ())))))) (l : List tMsg.D) (hl : l.length ≤ 6) (hx : ∀ x ∈ l, List.length x.2.2.2.2.1 ≤ 13) :
    loopG laws_FnMessages_t0 laws_FnMessages_B0 (laws_FnMessages_K0 x0) ((true, ((0 : Int), ())), ((d0, (d1, (d2, (d3, ())))), (d4, (d5, (l, (squP (packB l), ())))))) = some ((true, ()), ((), ())) := by
  have htail := msgs_tail d0 d1 d2 d3 d4 hg d5 h5
  have hsl := squP_length (packB l)
  have hpl := packB_len l
  have loop2 : loopG laws_FnMessages_t2 laws_FnMessages_B2 (laws_FnMessages_K2 x0) (((0 : Int), ()), ((d0, (d1, (d2, (d3, ())))), (d4, (d5, (l, (l, ())))))) = some ((true, ()), ((), ())) := by
    obtain ⟨n, v, h, rfl⟩ := for_loop (σ := Unit) (G := fun n i _ => iterG laws_FnMessages_t2 laws_FnMessages_B2 (laws_FnMessages_K2 x0) n (((i : Int), ()), ((d0, (d1, (d2, (d3, ())))), (d4, (d5, (l, (l, ()))))))) l.length (fun i _ => True) (· = some ((true, ()), ((), ())))
      (fun i _ hi _ => by
        refine .inr ⟨(), trivial, fun n => ?_⟩
        have hz := hx (l.getD i tMsg.zero) (by rw [getD_at hi]; exact List.getElem_mem hi)
        have hs := sameMsg_self (l.getD i tMsg.zero).1 (l.getD i tMsg.zero).2.1 (l.getD i tMsg.zero).2.2.1 (l.getD i tMsg.zero).2.2.2.1 (l.getD i tMsg.zero).2.2.2.2.1 (Nat.le_trans hz (by rw [big47_eq]; omega))
        dsimp only
        rw [laws_FnMessages_r2, brk_lt hi, ck_idx hi, ck_idx hi, rdD_nat (t := tMsg) l i, hs]
        simp only [Option.bind_some]
        rw [Bool.not_true, brk_false, step_nat i (by omega)])
      (fun _ _ => by
        refine ⟨_, rfl, fun n => ?_⟩
        dsimp only
        rw [laws_FnMessages_r2, brk_nlt (by omega), laws_FnMessages_e2_1, htail]) () trivial
    exact laws_FnMessages_l2 n h ⟨_, rfl⟩
  obtain ⟨n, v, h, rfl⟩ := for_loop (σ := Bool) (G := fun n i s => iterG laws_FnMessages_t0 laws_FnMessages_B0 (laws_FnMessages_K0 x0) n ((s, ((i : Int), ())), ((d0, (d1, (d2, (d3, ())))), (d4, (d5, (l, (squP (packB l), ()))))))) l.length (fun i s => s = true → ∀ j, j < i → msgOk (l.getD j tMsg.zero) = true) (· = some ((true, ()), ((), ())))
    (fun i s hi hI => by
      have hz := hx (l.getD i tMsg.zero) (by rw [getD_at hi]; exact List.getElem_mem hi)
      have hs : impl_MsgOk_F (((l.getD i tMsg.zero).1, (((l.getD i tMsg.zero).2).1, ((((l.getD i tMsg.zero).2).2).1, (((((l.getD i tMsg.zero).2).2).2).1, ((((((l.getD i tMsg.zero).2).2).2).2).1, ()))))), ()) = some ((msgOk (l.getD i tMsg.zero), ()), ((), ())) := impl_MsgOkM (l.getD i tMsg.zero) (by omega)
      cases s
      · refine .inr ⟨false, fun q => (by cases q), fun n => ?_⟩
        dsimp only
        rw [laws_FnMessages_r0, brk_lt hi, brk_false, step_nat i (by omega)]
      · refine .inr ⟨msgOk (l.getD i tMsg.zero), fun q j hj => ?_, fun n => ?_⟩
        · rcases Nat.lt_succ_iff_lt_or_eq.1 hj with hj | rfl
          · exact hI rfl j hj
          · exact q
        · dsimp only
          rw [laws_FnMessages_r0, brk_lt hi, brk_true, ck_idx hi, rdD_nat (t := tMsg) l i, hs]
          simp only [Option.bind_some]
          rw [step_nat i (by omega)])
    (fun s hI => by
      refine ⟨_, rfl, fun n => ?_⟩
      dsimp only
      rw [laws_FnMessages_r0, brk_nlt (by omega), laws_FnMessages_e0_0]
      cases s
      · rw [brk_false, htail]
      · have hall : ∀ x ∈ l, msgOk x = true := fun x hx => by
          obtain ⟨j, hj, rfl⟩ := List.mem_iff_getElem.1 hx
          have := hI rfl j hj
          rwa [getD_at hj] at this
        have hu := impl_Unpack_ok (squP (packB l)) (by omega) (squP_bytes _ (packB_byte l))
        rw [unpackP_pack hall (by omega)] at hu
        simp only at hu
        rw [brk_true, hu]
        simp only [Option.bind_some, Bool.not_true, brk_false, decide_true]
        exact loop2) true (fun _ j hj => by omega)
  exact laws_FnMessages_l0 n h ⟨_, rfl⟩
theorem laws_FnMessages_pure (code : tYs.D) (hC : Ok tYs code) : laws_FnMessages_F (code, ()) = some ((true, ()), ((), ())) := by
  rw [laws_FnMessages_main, laws_big_main]
  simp only [Option.bind_some]
  by_cases hx : (1048576 : Int) < (List.length code : Int)
  · rw [brk_pos (decide_eq_true hx)]
  rw [brk_neg (decide_eq_false hx)]
  have hl : List.length code ≤ 1048576 := by omega
  have hb : Byte code := fun x hx => hC.2 x hx
  obtain ⟨m, hm, e1⟩ := spec_DrawMsgBytes_ok code hl hb
  obtain ⟨x, k, x1, x2, hk, e2⟩ := spec_DrawMsgOf_ok code hl hb
  obtain ⟨o, ho, e3⟩ := spec_DrawMsgOk_ok code hl hb
  obtain ⟨l, l1, l2, e4⟩ := spec_DrawPack_ok code hl hb
  obtain ⟨u, u1, u2, e5⟩ := spec_DrawUnpack_ok code hl hb
  have t1 := impl_MsgBytes_ok m (by omega)
  have t2 := spec_MsgBytes_ok m (by omega)
  have t3 := impl_MsgOf_ok x k (by omega) x1 hk
  have t4 := spec_MsgOf_ok x k (by omega) x1 hk
  have t5 := impl_Pack_ok l (by omega) (fun y hy => Nat.le_trans (l2 y hy) (by omega))
  have t6 := spec_Pack_ok l (by omega) (fun y hy => Nat.le_trans (l2 y hy) (by omega))
  have t7 := impl_Unpack_ok u (by omega) u1
  have t8 := spec_Unpack_ok u (by omega) u1
  have t9 := impl_MsgOkM o (by omega)
  have t10 := spec_MsgOkM o (by omega)
  have hr := msgOfP_len x k x1
  have t11 := impl_MsgBytes_ok (msgOfP x k).1 (by omega)
  have hslice := msgOfP_slice (k := k) x1
  obtain ⟨v1, v2, v3⟩ := unpackP_ok (b := u)
  have t12 := impl_Pack_ok (unpackP u).1 (by omega) (fun y hy => Nat.le_trans (msg_parts (v2 y hy)).2.2.2.2.1 (by omega))
  have loops : ∀ (d0 d1 d2 d3 : Int) (d4 : List Int), m = (d0, (d1, (d2, (d3, (d4, ()))))) → loopG laws_FnMessages_t0 laws_FnMessages_B0 (laws_FnMessages_K0 code) ((true, ((0 : Int), ())), ((d0, (d1, (d2, (d3, ())))), (d4, (msgB m, (l, (squP (packB l), ())))))) = some ((true, ()), ((), ())) := fun d0 d1 d2 d3 d4 q => by
    subst q
    exact msgs_loops code d0 d1 d2 d3 d4 (by simp only at hm; omega) _ rfl l l1 l2
  generalize msgB m = bm at *
  generalize msgOfP x k = r at *
  generalize unpackP u = w at *
  generalize squP (packB l) = pl at *
  obtain ⟨ka1, m2, m3, m4, m5, ⟨⟩⟩ := m
  obtain ⟨o1, o2, o3, o4, o5, ⟨⟩⟩ := o
  obtain ⟨⟨r1, r2, r3, r4, r5, ⟨⟩⟩, nx, ok⟩ := r
  obtain ⟨wl, wok⟩ := w
  have loops := loops ka1 m2 m3 m4 m5 rfl
  simp only at t3 t4 t7 t8 t11 t12 hslice v3
  rw [e1]
  simp only [Option.bind_some]
  rw [t1]
  simp only [Option.bind_some]
  rw [e2]
  simp only [Option.bind_some]
  rw [t3]
  simp only [Option.bind_some]
  rw [t4]
  simp only [Option.bind_some]
  rw [e3]
  simp only [Option.bind_some]
  rw [e4]
  simp only [Option.bind_some]
  rw [t5]
  simp only [Option.bind_some]
  rw [e5]
  simp only [Option.bind_some]
  rw [t7]
  simp only [Option.bind_some]
  rw [t8]
  simp only [Option.bind_some]
  rw [t2]
  simp only [Option.bind_some, decide_true, beq_self_eq_true, Bool.not_true, brk_false]
  rw [t9]
  simp only [Option.bind_some]
  rw [t10]
  simp only [Option.bind_some, decide_true, beq_self_eq_true, Bool.not_true, brk_false]
  rw [t6]
  simp only [Option.bind_some, decide_true, beq_self_eq_true, Bool.not_true, brk_false]
  have part2 : brk wok
      ((impl_Pack_F (wl, ())).bind fun y134 =>
        brk (!decide (y134.1.1 = u))
        (some ((false, ()), ((), ())))
        (loopG laws_FnMessages_t0 laws_FnMessages_B0 (laws_FnMessages_K0 code) ((true, ((0 : Int), ())), ((ka1, (m2, (m3, (m4, ())))), (m5, (bm, (l, (pl, ()))))))))
        (loopG laws_FnMessages_t0 laws_FnMessages_B0 (laws_FnMessages_K0 code) ((true, ((0 : Int), ())), ((ka1, (m2, (m3, (m4, ())))), (m5, (bm, (l, (pl, ()))))))) = some ((true, ()), ((), ())) := by
    cases wok
    · rw [brk_false, loops]
    · rw [brk_true, t12]
      simp only [Option.bind_some]
      rw [decide_eq_true (v3 rfl), Bool.not_true, brk_false, loops]
  cases ok
  · rw [brk_false]
    exact part2
  · obtain ⟨h1, h2, h3, h4⟩ := hslice rfl
    rw [brk_true, ck_pos (by simp only [Bool.and_eq_true, decide_eq_true_eq]; exact ⟨⟨h1, h2⟩, h3⟩), t11]
    simp only [Option.bind_some]
    rw [decide_eq_true h4.symm, Bool.not_true, brk_false]
    exact part2
end Go.Refl
