/- The evaluator is right: data out of cells and into cells. No program in sight. No condition. -/
import Derived.Test.YthmaaogfmakohaaRf5
namespace Go.Refl
open Go.RowKit
set_option linter.unusedVariables false
set_option linter.unusedSimpArgs false

theorem Gone.left {m : Mp} {h h1 h2 : Hp} {b : Nat} (hg : Gone m h h1 b) (hs : Sub h2 h1) : Gone m h h2 b := by
  obtain ⟨k, hk, hn, hb⟩ := hg
  refine ⟨k, hk, ?_, hb⟩
  cases hc : get h2 k with
  | none => rfl
  | some o => rw [hs k o hc] at hn; cases hn
theorem Gone.right {m : Mp} {h h1 h2 : Hp} {b : Nat} (hg : Gone m h1 h2 b) (hs : Sub h1 h) : Gone m h h2 b := by
  obtain ⟨k, hk, hn, hb⟩ := hg
  refine ⟨k, ?_, hn, hb⟩
  cases hc : get h1 k with
  | none => rw [hc] at hk; cases hk
  | some o => simp [hs k o hc]
theorem Gone.not {cx : Cx} {A : AS} {a : Act} {w : World} {m : Mp} (h : RelW cx A a w m) {h1 h2 : Hp} {b : Nat} (hs : Sub h1 A.hp) (hg : Gone m h1 h2 b) {k : Nat} (hk : (get h2 k).isSome = true) (h21 : Sub h2 h1) : b ∉ m.F k := by
  obtain ⟨j, hj, hn, hb⟩ := hg
  have hne : j ≠ k := by rintro rfl; rw [hn] at hk; cases hk
  have hk1 : (get h1 k).isSome = true := by
    cases hc : get h2 k with
    | none => rw [hc] at hk; cases hk
    | some o => simp [h21 k o hc]
  exact h.dj j k (live_sub hs hj) (live_sub hs hk1) hne b hb
theorem gone_del {m : Mp} {hp : Hp} {k : Nat} {o : AO} (h : get hp k = some o) {b : Nat} (hb : b ∈ m.F k) : Gone m hp (del hp k) b :=
  ⟨k, by simp [h], by rw [get_del, if_pos rfl], hb⟩
theorem OwnL.take {α : Type} {own : α → List Value → List Nat → Prop} {sz : Nat} (hl : ∀ x c f, own x c f → c.length = sz) : ∀ {xs : List α} {cs : List Value} {fp : List Nat} (n : Nat), OwnL own xs cs fp → ∃ f1 f2, fp = f1 ++ f2 ∧ OwnL own (xs.take n) (cs.take (n * sz)) f1
  | [], cs, fp, n, h => by
    obtain ⟨h1, h2⟩ : cs = [] ∧ fp = [] := h
    exact ⟨[], [], by simp [h2], by simp [OwnL, h1]⟩
  | x :: xs, cs, fp, 0, h => ⟨[], fp, (List.nil_append fp).symm, by simp [OwnL]⟩
  | x :: xs, cs, fp, n + 1, ⟨c1, c2, f1, f2, hc, hf, h1, h2⟩ => by
    subst hc hf
    obtain ⟨g1, g2, hg, h3⟩ := h2.take hl n
    subst hg
    refine ⟨f1 ++ g1, g2, by simp, c1, c2.take (n * sz), f1, g1, ?_, rfl, h1, h3⟩
    have := hl _ _ _ h1
    rw [List.take_append]
    rw [List.take_of_length_le (by rw [this, Nat.add_mul]; omega)]
    congr 2
    rw [this, Nat.add_mul]; omega
theorem HeadAt.take {w : World} {e : TypeId} {sz : Nat} {a : Option Addr} {n c : Nat} {vs : List Value} {fp : List Nat} (h : HeadAt w e sz (.slice a n c) n vs fp) (i : Nat) (hi : i ≤ n) :
    HeadAt w e sz (.slice (if c = 0 then a else a.map (·.add (0 * sz))) i c) i (vs.take (i * sz)) fp := by
  rcases h with ⟨a', h0, h1, h2, h3⟩ | ⟨g, cap, cur, h0, h1, h2, h3, h4, h5, h6, h7⟩
  · simp at h0
    obtain ⟨rfl, rfl, rfl⟩ := h0
    have hi0 : i = 0 := by omega
    subst hi0
    exact .inl ⟨a, by simp, rfl, by simp [h2], h3⟩
  · simp at h0
    obtain ⟨rfl, rfl⟩ := h0
    refine .inr ⟨g, c, cur, ?_, h1, by omega, h3, by omega, h5, ?_, h7⟩
    · by_cases hc : c = 0 <;> simp [hc, Addr.add]
    · rw [h6, List.take_take, Nat.min_eq_left (Nat.mul_le_mul_right _ hi)]
theorem takeC_sub : ∀ (hp : Hp) (t : Ty) (cs : List AC) (x : t.D) (rest : List AC) (hp' : Hp), takeC hp t cs = some (x, rest, hp') → Sub hp' hp := by
  intro hp t
  induction t generalizing hp with
  | unit => intro cs x rest hp' h; simp [takeC] at h; rw [← h.2]; exact Sub.refl _
  | pair ta tb iha ihb =>
    intro cs x rest hp' h
    simp only [takeC] at h
    cases h1 : takeC hp ta cs with
    | none => rw [h1] at h; cases h
    | some p =>
      obtain ⟨xa, cs1, hp1⟩ := p
      rw [h1] at h
      simp only [Option.bind_some] at h
      cases h2 : takeC hp1 tb cs1 with
      | none => rw [h2] at h; cases h
      | some q =>
        obtain ⟨xb, cs2, hp2⟩ := q
        rw [h2] at h
        simp at h
        obtain ⟨_, _, rfl⟩ := h
        exact (ihb hp1 cs1 xb cs2 hp2 h2).trans (iha hp cs xa cs1 hp1 h1)
  | int k => intro cs x rest hp' h; cases cs with
    | nil => simp [takeC] at h
    | cons c cs =>
      cases c <;> simp only [takeC] at h <;> try (cases h; done)
      rename_i p t' x'
      cases hx : castD t' (.int k) x' with
      | none => rw [hx] at h; cases h
      | some z =>
        rw [hx] at h
        simp only [Option.map_some, Option.some.injEq, Prod.mk.injEq] at h
        obtain ⟨_, _, rfl⟩ := h
        exact Sub.refl _
  | bool => intro cs x rest hp' h; cases cs with
    | nil => simp [takeC] at h
    | cons c cs =>
      cases c <;> simp only [takeC] at h <;> try (cases h; done)
      rename_i p t' x'
      cases hx : castD t' .bool x' with
      | none => rw [hx] at h; cases h
      | some z =>
        rw [hx] at h
        simp only [Option.map_some, Option.some.injEq, Prod.mk.injEq] at h
        obtain ⟨_, _, rfl⟩ := h
        exact Sub.refl _
  | str => intro cs x rest hp' h; cases cs with
    | nil => simp [takeC] at h
    | cons c cs =>
      cases c <;> simp only [takeC] at h <;> try (cases h; done)
      rename_i p t' x'
      cases hx : castD t' .str x' with
      | none => rw [hx] at h; cases h
      | some z =>
        rw [hx] at h
        simp only [Option.map_some, Option.some.injEq, Prod.mk.injEq] at h
        obtain ⟨_, _, rfl⟩ := h
        exact Sub.refl _
  | sl e t _ => intro cs x rest hp' h; cases cs with
    | nil => simp [takeC] at h
    | cons c cs =>
      cases c <;> simp only [takeC] at h <;> try (cases h; done)
      case nil => simp at h; obtain ⟨_, _, rfl⟩ := h; exact Sub.refl _
      case own k =>
        cases hk : get hp k with
        | none => rw [hk] at h; cases h
        | some o =>
          rw [hk] at h
          cases o with
          | box _ => cases h
          | arr e' t' xs => simp at h; obtain ⟨_, _, _, _, rfl⟩ := h; exact Sub.del _ _
      case sub k sz lo hi =>
        cases hk : get hp k with
        | none => rw [hk] at h; cases h
        | some o =>
          rw [hk] at h
          cases o with
          | box _ => cases h
          | arr e' t' xs =>
            simp only at h
            split at h
            · simp at h; obtain ⟨_, _, _, _, rfl⟩ := h; exact Sub.del _ _
            · cases h
section
variable {cx : Cx} {A : AS} {a : Act} {w : World} {m : Mp}
theorem own_tok (h : RelW cx A a w m) {hp : Hp} (hs : Sub hp A.hp) {k : Nat} {e : TypeId} {t : Ty} {xs : List t.D} (hk : get hp k = some (.arr e t xs)) : Own w (.sl e t) xs [m.μ k] (m.F k) := by
  obtain ⟨vs, hh, ho⟩ := h.hp k _ (hs k _ hk)
  exact ⟨m.μ k, vs, m.out k, m.inn k, rfl, hh, ho, rfl⟩
theorem takeC_ok (h : RelW cx A a w m) : ∀ (t : Ty) (hp : Hp) (cs : List AC) (vs : List Value) (x : t.D) (rest : List AC) (hp' : Hp), Sub hp A.hp → All2 (VC w (R0of A m) (R1of A m) m.μ) cs vs →
    takeC hp t cs = some (x, rest, hp') → ∃ v1 v2 fp, vs = v1 ++ v2 ∧ Own w t x v1 fp ∧ All2 (VC w (R0of A m) (R1of A m) m.μ) rest v2 ∧ Sub hp' hp ∧ fp.Nodup ∧ ∀ b ∈ fp, Gone m hp hp' b
  | .unit, hp, cs, vs, x, rest, hp', hs, hv, ht => by
    simp only [takeC, Option.some.injEq, Prod.mk.injEq] at ht
    obtain ⟨_, rfl, rfl⟩ := ht
    exact ⟨[], vs, [], rfl, ⟨rfl, rfl⟩, hv, Sub.refl _, List.nodup_nil, by simp⟩
  | .pair ta tb, hp, cs, vs, x, rest, hp', hs, hv, ht => by
    simp only [takeC] at ht
    cases h1 : takeC hp ta cs with
    | none => rw [h1] at ht; cases ht
    | some p =>
      obtain ⟨xa, cs1, hp1⟩ := p
      rw [h1] at ht
      simp only [Option.bind_some] at ht
      cases h2 : takeC hp1 tb cs1 with
      | none => rw [h2] at ht; cases ht
      | some p =>
        obtain ⟨xb, cs2, hp2⟩ := p
        rw [h2] at ht
        simp only [Option.map_some, Option.some.injEq, Prod.mk.injEq] at ht
        obtain ⟨rfl, rfl, rfl⟩ := ht
        obtain ⟨v1, v2, f1, rfl, ho1, hr1, hs1, hn1, hg1⟩ := takeC_ok h ta hp cs vs xa cs1 hp1 hs hv h1
        obtain ⟨v3, v4, f2, rfl, ho2, hr2, hs2, hn2, hg2⟩ := takeC_ok h tb hp1 cs1 v2 xb cs2 hp2 (hs1.trans hs) hr1 h2
        refine ⟨v1 ++ v3, v4, f1 ++ f2, by simp, ⟨v1, v3, f1, f2, rfl, rfl, ho1, ho2⟩, hr2, hs2.trans hs1, ?_, fun b hb => ?_⟩
        · refine List.nodup_append.2 ⟨hn1, hn2, fun b hb1 c hb2 e => ?_⟩
          subst e
          obtain ⟨k, hk, _, hkb⟩ := hg2 b hb2
          exact (hg1 b hb1).not h hs hk hs1 hkb
        · rcases List.mem_append.1 hb with hb | hb
          · exact (hg1 b hb).left hs2
          · exact (hg2 b hb).right hs1
  | .int k, hp, cs, vs, x, rest, hp', hs, hv, ht => by
    cases cs with
    | nil => simp [takeC] at ht
    | cons c cs =>
      cases c <;> simp only [takeC] at ht <;> try (cases ht; done)
      obtain ⟨v, us, rfl, hc, hr⟩ := hv
      rename_i p t' x'
      cases hx : castD t' (.int k) x' with
      | none => rw [hx] at ht; cases ht
      | some y =>
        rw [hx] at ht
        simp only [Option.map_some, Option.some.injEq, Prod.mk.injEq] at ht
        obtain ⟨rfl, rfl, rfl⟩ := ht
        obtain ⟨rfl, rfl⟩ := castD_eq hx
        obtain ⟨rfl, hi⟩ := hc.int
        exact ⟨[_], us, [], rfl, ⟨rfl, hi, rfl⟩, hr, Sub.refl _, List.nodup_nil, by simp⟩
  | .bool, hp, cs, vs, x, rest, hp', hs, hv, ht => by
    cases cs with
    | nil => simp [takeC] at ht
    | cons c cs =>
      cases c <;> simp only [takeC] at ht <;> try (cases ht; done)
      obtain ⟨v, us, rfl, hc, hr⟩ := hv
      rename_i p t' x'
      cases hx : castD t' .bool x' with
      | none => rw [hx] at ht; cases ht
      | some y =>
        rw [hx] at ht
        simp only [Option.map_some, Option.some.injEq, Prod.mk.injEq] at ht
        obtain ⟨rfl, rfl, rfl⟩ := ht
        obtain ⟨rfl, rfl⟩ := castD_eq hx
        obtain rfl := hc.bool
        exact ⟨[_], us, [], rfl, ⟨rfl, rfl⟩, hr, Sub.refl _, List.nodup_nil, by simp⟩
  | .str, hp, cs, vs, x, rest, hp', hs, hv, ht => by
    cases cs with
    | nil => simp [takeC] at ht
    | cons c cs =>
      cases c <;> simp only [takeC] at ht <;> try (cases ht; done)
      obtain ⟨v, us, rfl, hc, hr⟩ := hv
      rename_i p t' x'
      cases hx : castD t' .str x' with
      | none => rw [hx] at ht; cases ht
      | some y =>
        rw [hx] at ht
        simp only [Option.map_some, Option.some.injEq, Prod.mk.injEq] at ht
        obtain ⟨rfl, rfl, rfl⟩ := ht
        obtain ⟨rfl, rfl⟩ := castD_eq hx
        obtain ⟨s, rfl, hx, hsz⟩ := hc.str
        exact ⟨[_], us, [], rfl, ⟨⟨s, rfl, hx, hsz⟩, rfl⟩, hr, Sub.refl _, List.nodup_nil, by simp⟩
  | .sl e t, hp, cs, vs, x, rest, hp', hs, hv, ht => by
    cases cs with
    | nil => simp [takeC] at ht
    | cons c cs =>
      obtain ⟨v, us, rfl, hc, hr⟩ := hv
      cases c <;> simp only [takeC] at ht <;> try (cases ht; done)
      case nil =>
        simp only [Option.some.injEq, Prod.mk.injEq] at ht
        obtain ⟨rfl, rfl, rfl⟩ := ht
        exact ⟨[v], us, [], rfl, ⟨v, [], [], [], rfl, .inl ⟨none, hc, rfl, rfl, rfl⟩, ⟨rfl, rfl⟩, rfl⟩, hr, Sub.refl _, List.nodup_nil, by simp⟩
      case own k =>
        cases hk : get hp k with
        | none => rw [hk] at ht; cases ht
        | some o =>
          rw [hk] at ht
          cases o with
          | box _ => cases ht
          | arr e' t' xs =>
            simp only at ht
            cases hx : castD (.sl e' t') (.sl e t) xs with
            | none => rw [hx] at ht; cases ht
            | some y =>
              rw [hx] at ht
              simp only [Option.map_some, Option.some.injEq, Prod.mk.injEq] at ht
              obtain ⟨rfl, rfl, rfl⟩ := ht
              obtain ⟨he, rfl⟩ := castD_eq hx
              cases he
              obtain ⟨rfl, _⟩ := hc
              exact ⟨[_], us, m.F k, rfl, own_tok h hs hk, hr, Sub.del _ _, h.nd k (live_sub hs (by simp [hk])), fun b hb => gone_del hk hb⟩
      case sub k sz lo hi =>
        cases hk : get hp k with
        | none => rw [hk] at ht; cases ht
        | some o =>
          rw [hk] at ht
          cases o with
          | box _ => cases ht
          | arr e' t' xs =>
            simp only at ht
            split at ht
            · rename_i hz
              cases hx : castD (.sl e' t') (.sl e t) (xs.take hi.toNat) with
              | none => rw [hx] at ht; cases ht
              | some y =>
                rw [hx] at ht
                simp only [Option.map_some, Option.some.injEq, Prod.mk.injEq] at ht
                obtain ⟨rfl, rfl, rfl⟩ := ht
                obtain ⟨he, rfl⟩ := castD_eq hx
                cases he
                obtain ⟨rfl, rfl⟩ := hz
                obtain ⟨ad, n, c, hμ, h0, h1, h2, h3, h3', rfl⟩ := hc
                obtain ⟨ws, hh, ho⟩ := h.hp k _ (hs k _ hk)
                have hn : n = xs.length := by
                  obtain ⟨a', c', hs', _⟩ := hh.slice
                  rw [hμ] at hs'; simp at hs'; exact hs'.2.1
                rw [hμ] at hh
                subst hn
                have hi' : hi.toNat ≤ xs.length := by omega
                obtain ⟨f1, f2, hf, ho'⟩ := ho.take (fun _ _ _ h => h.length) hi.toNat
                have hh' := hh.take hi.toNat hi'
                refine ⟨[_], us, m.out k ++ f1, rfl, ⟨_, _, m.out k, f1, rfl, ?_, ho', rfl⟩, hr, Sub.del _ _, ?_, fun b hb => gone_del hk ?_⟩
                · have e1 : (xs.take hi.toNat).length = hi.toNat := by rw [List.length_take]; omega
                  rw [e1]
                  simpa using hh'
                · have := h.nd k (live_sub hs (by simp [hk]))
                  unfold Mp.F at this
                  rw [hf, ← List.append_assoc] at this
                  exact (List.nodup_append.1 this).1
                · unfold Mp.F
                  rw [hf]
                  simp only [List.mem_append] at hb ⊢
                  rcases hb with hb | hb
                  · exact .inl hb
                  · exact .inr (.inl hb)
            · cases ht
theorem RoL.take {α : Type} {ro : α → List Value → Prop} {sz : Nat} (hl : ∀ x c, ro x c → c.length = sz) : ∀ {xs : List α} {cs : List Value} (n : Nat), RoL ro xs cs → RoL ro (xs.take n) (cs.take (n * sz))
  | [], cs, n, h => by
    have h1 : cs = [] := h
    subst h1; simp [RoL]
  | x :: xs, cs, 0, h => by simp [RoL]
  | x :: xs, cs, n + 1, ⟨c1, c2, hc, h1, h2⟩ => by
    subst hc
    refine ⟨c1, c2.take (n * sz), ?_, h1, h2.take hl n⟩
    have := hl _ _ h1
    rw [List.take_append, List.take_of_length_le (by rw [this, Nat.add_mul]; omega)]
    congr 2
    rw [this, Nat.add_mul]; omega
theorem RoL.drop {α : Type} {ro : α → List Value → Prop} {sz : Nat} (hl : ∀ x c, ro x c → c.length = sz) : ∀ {xs : List α} {cs : List Value} (n : Nat), RoL ro xs cs → RoL ro (xs.drop n) (cs.drop (n * sz))
  | [], cs, n, h => by
    have h1 : cs = [] := h
    subst h1; simp [RoL]
  | x :: xs, cs, 0, h => by simpa using h
  | x :: xs, cs, n + 1, ⟨c1, c2, hc, h1, h2⟩ => by
    subst hc
    have h3 := h2.drop hl n
    have := hl _ _ h1
    simp only [List.drop_succ_cons]
    rw [List.drop_append, show c1.drop ((n + 1) * sz) = [] from List.drop_of_length_le (by rw [this, Nat.add_mul]; omega), List.nil_append, this]
    rw [show (n + 1) * sz - sz = n * sz by rw [Nat.add_mul]; omega]
    exact h3
theorem add_add' (a : Addr) (m n : Nat) : (a.add m).add n = a.add (m + n) := by
  unfold Addr.add
  by_cases hm : m = 0 <;> by_cases hn : n = 0 <;> simp [hm, hn, Nat.add_assoc]
theorem AtCells.take {R : Nat → Prop} {w : World} {a : Option Addr} {vs : List Value} (h : AtCells R w a vs) (n : Nat) : AtCells R w a (vs.take n) := by
  rcases h with rfl | ⟨ad, rfl, hR, hc⟩
  · exact .inl (by simp)
  · refine .inr ⟨ad, rfl, hR, fun j u hj => hc j u ?_⟩
    rw [List.getElem?_take] at hj
    split at hj
    · exact hj
    · cases hj
theorem AtCells.drop {R : Nat → Prop} {w : World} {a : Option Addr} {vs : List Value} (h : AtCells R w a vs) (n : Nat) : AtCells R w (a.map (·.add n)) (vs.drop n) := by
  rcases h with rfl | ⟨ad, rfl, hR, hc⟩
  · exact .inl (by simp)
  · refine .inr ⟨ad.add n, rfl, by rw [add_block]; exact hR, fun j u hj => ?_⟩
    rw [add_add']
    exact hc _ u (by simpa using hj)
/-- A part of a slice that is read. -/
theorem Ro.part {R : Nat → Prop} {w : World} {e : TypeId} {t : Ty} {xs : List t.D} {a : Option Addr} {n c : Nat} (h : Ro R w (.sl e t) xs [.slice a n c]) (lo hi : Nat) (h1 : lo ≤ hi) (h2 : hi ≤ n) :
    Ro R w (.sl e t) ((xs.take hi).drop lo) [.slice (if c = lo then a else a.map (·.add (lo * t.cells))) (hi - lo) (c - lo)] := by
  obtain ⟨a', cap, vs, hv, h3, h4, h5, h6, h7⟩ := h
  simp at hv
  obtain ⟨rfl, rfl, rfl⟩ := hv
  have hlen : ((xs.take hi).drop lo).length = hi - lo := by simp; omega
  refine ⟨_, c - lo, (vs.take (hi * t.cells)).drop (lo * t.cells), by rw [hlen], by omega, by omega, by omega, ?_, (h7.take (fun _ _ h => h.length) hi).drop (fun _ _ h => h.length) lo⟩
  split
  · have : hi - lo = 0 := by omega
    left
    have hl := h7.length fun _ _ h => h.length
    apply List.drop_eq_nil_of_le
    rw [List.length_take]
    have : hi * t.cells ≤ lo * t.cells := Nat.mul_le_mul_right _ (by omega)
    omega
  · exact (h6.take _).drop _
theorem VC.sl_slice {w : World} {R0 R1 : Nat → Prop} {μ : Nat → Value} {p : Bool} {e : TypeId} {t : Ty} {x : List t.D} {v : Value} (h : VC w R0 R1 μ (.d p (.sl e t) x) v) : ∃ a c, v = .slice a x.length c ∧ x.length ≤ c ∧ c ≤ maxLen := by
  obtain ⟨_, a, cap, vs, hv, h1, h2, _⟩ := h
  exact ⟨a, cap, by simpa using hv, h1, h2⟩
/-- R holds of every block that what is read may lie in. -/
structure Reads (A : AS) (m : Mp) (hp : Hp) (R : Nat → Prop) (cs : List AC) : Prop where
  r0 : ∀ b, R0of A m b → R b
  r1 : (∃ c ∈ cs, c.shy = true) → ∀ b, R1of A m b → R b
  tk : ∀ k, (get hp k).isSome = true → (∃ c ∈ cs, k ∈ c.arrs) → ∀ b ∈ m.F k, R b
theorem Reads.tail {hp : Hp} {R : Nat → Prop} {c : AC} {cs : List AC} (h : Reads A m hp R (c :: cs)) : Reads A m hp R cs := ⟨h.r0, fun ⟨d, hd, hs⟩ => h.r1 ⟨d, by simp [hd], hs⟩, fun k hk ⟨d, hd, hs⟩ => h.tk k hk ⟨d, by simp [hd], hs⟩⟩
theorem Reads.pick {hp : Hp} {R : Nat → Prop} {p : Bool} {t : Ty} {x : t.D} {cs : List AC} (h : Reads A m hp R (.d p t x :: cs)) (b : Nat) (hb : pick (R0of A m) (R1of A m) p b) : R b := by
  cases p with
  | true => exact h.r0 b hb
  | false => exact h.r1 ⟨.d false t x, by simp, rfl⟩ b hb
theorem readC_ok (h : RelW cx A a w m) (R : Nat → Prop) : ∀ (t : Ty) (hp : Hp) (cs : List AC) (vs : List Value) (x : t.D) (rest : List AC), Sub hp A.hp → All2 (VC w (R0of A m) (R1of A m) m.μ) cs vs → Reads A m hp R cs →
    readC hp t cs = some (x, rest) → ∃ v1 v2, vs = v1 ++ v2 ∧ Ro R w t x v1 ∧ All2 (VC w (R0of A m) (R1of A m) m.μ) rest v2 ∧ Reads A m hp R rest
  | .unit, hp, cs, vs, x, rest, hs, hv, hR, ht => by
    simp only [readC, Option.some.injEq, Prod.mk.injEq] at ht
    obtain ⟨_, rfl⟩ := ht
    exact ⟨[], vs, rfl, rfl, hv, hR⟩
  | .pair ta tb, hp, cs, vs, x, rest, hs, hv, hR, ht => by
    simp only [readC] at ht
    cases h1 : readC hp ta cs with
    | none => rw [h1] at ht; cases ht
    | some p =>
      obtain ⟨xa, cs1⟩ := p
      rw [h1] at ht
      simp only [Option.bind_some] at ht
      cases h2 : readC hp tb cs1 with
      | none => rw [h2] at ht; cases ht
      | some p =>
        obtain ⟨xb, cs2⟩ := p
        rw [h2] at ht
        simp only [Option.map_some, Option.some.injEq, Prod.mk.injEq] at ht
        obtain ⟨rfl, rfl⟩ := ht
        obtain ⟨v1, v2, rfl, ho1, hr1, hR1⟩ := readC_ok h R ta hp cs vs xa cs1 hs hv hR h1
        obtain ⟨v3, v4, rfl, ho2, hr2, hR2⟩ := readC_ok h R tb hp cs1 v2 xb cs2 hs hr1 hR1 h2
        exact ⟨v1 ++ v3, v4, by simp, ⟨v1, v3, rfl, ho1, ho2⟩, hr2, hR2⟩
  | .int k, hp, cs, vs, x, rest, hs, hv, hR, ht => by
    cases cs with
    | nil => simp [readC] at ht
    | cons c cs =>
      cases c <;> simp only [readC] at ht <;> try (cases ht; done)
      obtain ⟨v, us, rfl, hc, hr⟩ := hv
      rename_i p t' x'
      cases hx : castD t' (.int k) x' with
      | none => rw [hx] at ht; cases ht
      | some y =>
        rw [hx] at ht
        simp only [Option.map_some, Option.some.injEq, Prod.mk.injEq] at ht
        obtain ⟨rfl, rfl⟩ := ht
        obtain ⟨rfl, rfl⟩ := castD_eq hx
        obtain ⟨rfl, hi⟩ := hc.int
        exact ⟨[_], us, rfl, ⟨rfl, hi⟩, hr, hR.tail⟩
  | .bool, hp, cs, vs, x, rest, hs, hv, hR, ht => by
    cases cs with
    | nil => simp [readC] at ht
    | cons c cs =>
      cases c <;> simp only [readC] at ht <;> try (cases ht; done)
      obtain ⟨v, us, rfl, hc, hr⟩ := hv
      rename_i p t' x'
      cases hx : castD t' .bool x' with
      | none => rw [hx] at ht; cases ht
      | some y =>
        rw [hx] at ht
        simp only [Option.map_some, Option.some.injEq, Prod.mk.injEq] at ht
        obtain ⟨rfl, rfl⟩ := ht
        obtain ⟨rfl, rfl⟩ := castD_eq hx
        obtain rfl := hc.bool
        exact ⟨[_], us, rfl, rfl, hr, hR.tail⟩
  | .str, hp, cs, vs, x, rest, hs, hv, hR, ht => by
    cases cs with
    | nil => simp [readC] at ht
    | cons c cs =>
      cases c <;> simp only [readC] at ht <;> try (cases ht; done)
      obtain ⟨v, us, rfl, hc, hr⟩ := hv
      rename_i p t' x'
      cases hx : castD t' .str x' with
      | none => rw [hx] at ht; cases ht
      | some y =>
        rw [hx] at ht
        simp only [Option.map_some, Option.some.injEq, Prod.mk.injEq] at ht
        obtain ⟨rfl, rfl⟩ := ht
        obtain ⟨rfl, rfl⟩ := castD_eq hx
        obtain ⟨s, rfl, hx, hsz⟩ := hc.str
        exact ⟨[_], us, rfl, ⟨s, rfl, hx, hsz⟩, hr, hR.tail⟩
  | .sl e t, hp, cs, vs, x, rest, hs, hv, hR, ht => by
    cases cs with
    | nil => simp [readC] at ht
    | cons c cs =>
      obtain ⟨v, us, rfl, hc, hr⟩ := hv
      cases c <;> simp only [readC] at ht <;> try (cases ht; done)
      case d p t' x' =>
        cases hx : castD t' (.sl e t) x' with
        | none => rw [hx] at ht; cases ht
        | some y =>
          rw [hx] at ht
          simp only [Option.map_some, Option.some.injEq, Prod.mk.injEq] at ht
          obtain ⟨rfl, rfl⟩ := ht
          obtain ⟨rfl, rfl⟩ := castD_eq hx
          exact ⟨[v], us, rfl, hc.2.mono fun b hb hl => ⟨rfl, hR.pick b hb⟩, hr, hR.tail⟩
      case nil =>
        simp only [Option.some.injEq, Prod.mk.injEq] at ht
        obtain ⟨rfl, rfl⟩ := ht
        exact ⟨[v], us, rfl, ⟨none, 0, [], by rw [show v = .slice none 0 0 from hc]; rfl, Nat.le_refl _, Nat.zero_le _, Nat.zero_le _, .inl rfl, rfl⟩, hr, hR.tail⟩
      case own k =>
        cases hk : get hp k with
        | none => rw [hk] at ht; cases ht
        | some o =>
          rw [hk] at ht
          cases o with
          | box _ => cases ht
          | arr e' t' xs =>
            simp only at ht
            cases hx : castD (.sl e' t') (.sl e t) xs with
            | none => rw [hx] at ht; cases ht
            | some y =>
              rw [hx] at ht
              simp only [Option.map_some, Option.some.injEq, Prod.mk.injEq] at ht
              obtain ⟨rfl, rfl⟩ := ht
              obtain ⟨he, rfl⟩ := castD_eq hx
              cases he
              obtain ⟨rfl, _⟩ := hc
              exact ⟨[_], us, rfl, (own_tok h hs hk).ro fun b hb => hR.tk k (by simp [hk]) ⟨_, List.mem_cons_self, by simp [AC.arrs]⟩ b hb, hr, hR.tail⟩
      case sub k sz lo hi =>
        cases hk : get hp k with
        | none => rw [hk] at ht; cases ht
        | some o =>
          rw [hk] at ht
          cases o with
          | box _ => cases ht
          | arr e' t' xs =>
            simp only at ht
            split at ht
            · rename_i hz
              cases hx : castD (.sl e' t') (.sl e t) ((xs.take hi.toNat).drop lo.toNat) with
              | none => rw [hx] at ht; cases ht
              | some y =>
                rw [hx] at ht
                simp only [Option.map_some, Option.some.injEq, Prod.mk.injEq] at ht
                obtain ⟨rfl, rfl⟩ := ht
                obtain ⟨he, rfl⟩ := castD_eq hx
                cases he
                subst hz
                obtain ⟨ad, n, c, hμ, h0, h1, h2, h3, h3', rfl⟩ := hc
                have hro := (own_tok h hs hk).ro (R := R) fun b hb => hR.tk k (by simp [hk]) ⟨_, List.mem_cons_self, by simp [AC.arrs]⟩ b hb
                rw [hμ] at hro
                exact ⟨[_], us, rfl, hro.part lo.toNat hi.toNat (by omega) (by omega), hr, hR.tail⟩
            · cases ht
end
end Go.Refl
