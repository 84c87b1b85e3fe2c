/- Loops told by their rounds: what more rounds come to. No program in sight. No condition. -/
import Derived.Test.YthmaaogfmakohaaRfL
namespace Go.Refl
open Go.RowKit
set_option linter.unusedVariables false
set_option linter.unusedSimpArgs false

section
variable {R : Type} {E : Env} {r : R}
theorem brk_mono {x : Bool} {a b a' b' : Option R} (h1 : a = some r → a' = some r) (h2 : b = some r → b' = some r) : brk x a b = some r → brk x a' b' = some r := by
  cases x
  · exact h2
  · exact h1
theorem ck_mono {x : Bool} {a a' : Option R} (h1 : a = some r → a' = some r) : ck x a = some r → ck x a' = some r := brk_mono h1 id
theorem bind_mono {α : Type} {o : Option α} {f g : α → Option R} (h : ∀ x, f x = some r → g x = some r) : o.bind f = some r → o.bind g = some r := by
  cases o with
  | none => intro h; cases h
  | some x => exact h x
theorem intOp_mono {op : BinOp} {k : IntKind} {x y : Int} {K K' : AC → Option R} (h : ∀ c, K c = some r → K' c = some r) : intOp op k x y K = some r → intOp op k x y K' = some r := by
  cases op <;> simp only [intOp] <;> first | exact h _ | exact ck_mono (h _) | exact id
theorem shOp_mono {op : BinOp} {k : IntKind} {x y : Int} {K K' : AC → Option R} (h : ∀ c, K c = some r → K' c = some r) : shOp op k x y K = some r → shOp op k x y K' = some r := by
  cases op <;> simp only [shOp] <;> first | exact ck_mono (h _) | exact id
theorem both_mono {a b a' b' : Option R} (h1 : a = some r → a' = some r) (h2 : b = some r → b' = some r) : both a b = some r → both a' b' = some r := by
  intro h
  unfold both at h
  split at h
  · rename_i e
    have e1 := h1 h
    have e2 := h2 (e ▸ h)
    unfold both
    rw [if_pos (by rw [e1, e2]), e1]
  · cases h
theorem binA_mono {op : BinOp} {tb : Option Ty} {a b : AC} {K K' : AC → Option R} (h : ∀ c, K c = some r → K' c = some r) : binA op tb a b K = some r → binA op tb a b K' = some r := by
  unfold binA
  repeat' split
  all_goals first | exact intOp_mono h | exact shOp_mono h | exact h _ | exact ck_mono (h _) | exact brk_mono (both_mono (h _) (h _)) (h _) | exact id
theorem unA_mono {op : UnOp} {a : AC} {K K' : AC → Option R} (h : ∀ c, K c = some r → K' c = some r) : unA op a K = some r → unA op a K' = some r := by
  unfold unA
  repeat' split
  all_goals first | exact h _ | exact id
theorem convA_mono {A : AS} {d : Nat} {s t : TypeId} {x : AC} {K K' : AS → Option R} (h : ∀ c, K c = some r → K' c = some r) : convA E A d s t x K = some r → convA E A d s t x K' = some r := by
  unfold convA
  repeat' split
  all_goals first | exact h _ | exact ck_mono (h _) | exact id | exact bind_mono fun _ => ck_mono (h _)
theorem sliceA_mono {A : AS} {e : TypeId} {T : Ty} {x : AC} {lo hi : Option Int} {K K' : AC → Option R} (h : ∀ c, K c = some r → K' c = some r) : sliceA A e T x lo hi K = some r → sliceA A e T x lo hi K' = some r := by
  unfold sliceA
  repeat' split
  all_goals first | exact ck_mono (h _) | exact id
theorem idxA_mono {A : AS} {e : TypeId} {T : Ty} {x : AC} {i : Int} {K K' : AC → Option R} (h : ∀ c, K c = some r → K' c = some r) : idxA A e T x i K = some r → idxA A e T x i K' = some r := by
  unfold idxA
  repeat' split
  all_goals first | exact ck_mono (h _) | exact id
theorem clrA_mono {A : AS} {e : TypeId} {T : Ty} {x : AC} {K K' : AS → Option R} (h : ∀ c, K c = some r → K' c = some r) : clrA A e T K x = some r → clrA A e T K' x = some r := by
  unfold clrA
  repeat' split
  all_goals first | exact h _ | exact id
theorem appA_mono {A : AS} {d : Nat} {ty : TypeId} {s x : AC} {K K' : AS → Option R} (h : ∀ c, K c = some r → K' c = some r) : appA E A d ty s x K = some r → appA E A d ty s x K' = some r := by
  unfold appA
  repeat' split
  all_goals first | exact ck_mono (h _) | exact id
theorem appZ_mono {A : AS} {d : Nat} {ty ti : TypeId} {s x : AC} {K K' : AS → Option R} (h : ∀ c, K c = some r → K' c = some r) : appZ E A d ty ti s x K = some r → appZ E A d ty ti s x K' = some r := by
  unfold appZ
  repeat' split
  all_goals first | exact ck_mono (ck_mono (h _)) | exact id
theorem mmA_mono {lo : Bool} {a b : AC} {K K' : AC → Option R} (h : ∀ c, K c = some r → K' c = some r) : mmA lo a b K = some r → mmA lo a b K' = some r := by
  unfold mmA
  repeat' split
  all_goals first | exact h _ | exact id
theorem callA_mono {A : AS} {d f : Nat} {as : List A1} {K K' : AS → Option R} (h : ∀ c, K c = some r → K' c = some r) : callA E A d f as K = some r → callA E A d f as K' = some r := by
  unfold callA
  repeat' split
  all_goals first | exact bind_mono fun _ => h _ | exact id
theorem op1_mono {A : AS} {o : Oper} {K K' : AS → Option R} (h : ∀ c, K c = some r → K' c = some r) : op1 E A o K = some r → op1 E A o K' = some r := by
  unfold op1
  repeat' split
  all_goals first
    | exact h _
    | exact id
    | exact ck_mono (h _)
    | exact brk_mono (h _) (h _)
    | exact binA_mono fun _ => h _
    | exact unA_mono fun _ => h _
    | exact convA_mono h
    | exact sliceA_mono fun _ => h _
    | exact idxA_mono fun _ => h _
    | exact callA_mono h
    | exact appA_mono h
    | exact appZ_mono h
    | exact mmA_mono fun _ => h _
    | exact clrA_mono fun _ => h _
theorem opG_mono {ops : List Oper} {A : AS} {o : Oper} {K K' : AS → Option R} (h : ∀ c, K c = some r → K' c = some r) : opG E ops A o K = some r → opG E ops A o K' = some r := by
  unfold opG
  repeat' split
  all_goals first | exact op1_mono h | exact id | exact h _ | exact brk_mono (op1_mono h) (h _) | exact brk_mono (h _) (op1_mono h)
theorem evOps_mono {ops : List Oper} {K K' : AS → Option R} (h : ∀ c, K c = some r → K' c = some r) : ∀ (l : List Oper) (A : AS), evOps E ops K l A = some r → evOps E ops K' l A = some r
  | [], A => h A
  | o :: l, A => opG_mono fun A => evOps_mono h l A
theorem rowA_mono {A : AS} {o1 o2 o3 : Oper} {K K' : AS → Option R} {alt alt' : Option R} (h : ∀ c, K c = some r → K' c = some r) (ha : alt = some r → alt' = some r) : rowA E A o1 o2 o3 K alt = some r → rowA E A o1 o2 o3 K' alt' = some r := by
  unfold rowA
  repeat' split
  all_goals first | exact ha | exact bind_mono fun _ => h _
theorem rowF_mono {A : AS} {o1 o2 o3 : Oper} {K K' : AS → Option R} {alt alt' : Option R} (h : ∀ c, K c = some r → K' c = some r) (ha : alt = some r → alt' = some r) : rowF E A o1 o2 o3 K alt = some r → rowF E A o1 o2 o3 K' alt' = some r := by
  unfold rowF
  repeat' split
  all_goals first | exact ha | (refine bind_mono fun z => ?_; split <;> first | exact h _ | exact id)
theorem evReg_mono {ops : List Oper} {A : AS} {K K' : AS → Option R} (h : ∀ c, K c = some r → K' c = some r) : evReg E ops K A = some r → evReg E ops K' A = some r := by
  unfold evReg
  split
  · exact evOps_mono (fun A => rowA_mono (fun A => evOps_mono h _ _) (rowF_mono (fun A => evOps_mono h _ _) (evOps_mono h _ _))) _ _
  · exact evOps_mono h _ _
theorem drawP_mono {ops : Array Oper} {K K' : AS → Option R} (h : ∀ c, K c = some r → K' c = some r) : ∀ (l : List (Nat × Nat)) (B : AS) (C : Option AS), drawP E ops K l B C = some r → drawP E ops K' l B C = some r
  | [], B, C => by
    simp only [drawP]
    exact bind_mono h
  | (1, j) :: l, B, C => by
    simp only [drawP]
    split
    · exact bind_mono fun A => opG_mono fun A => drawP_mono h l _ _
    · exact id
  | (0, j) :: l, B, C => by
    simp only [drawP]
    repeat' split
    all_goals first | exact bind_mono fun A => opG_mono fun A => drawP_mono h l _ _ | exact opG_mono fun A => drawP_mono h l _ _ | exact id
  | (2, j) :: l, B, C => by
    simp only [drawP]
    split
    · exact bind_mono fun A => opG_mono fun A => drawP_mono h l _ _
    · exact id
  | (_ + 3, _) :: l, B, C => by
    simp only [drawP]
    exact id
theorem drawT_mono {ops : Array Oper} {K K' : AS → Option R} (h : ∀ c, K c = some r → K' c = some r) : ∀ (p : Pt) (B : AS) (C : Option AS), drawT E ops K p B C = some r → drawT E ops K' p B C = some r
  | .done, B, C => by
    simp only [drawT]
    exact bind_mono h
  | .q j p, B, C => by
    simp only [drawT]
    split
    · exact bind_mono fun A => opG_mono fun A => drawT_mono h p _ _
    · exact id
  | .t j p, B, C => by
    simp only [drawT]
    split
    · exact bind_mono fun A => opG_mono fun A => drawT_mono h p _ _
    · exact id
  | .s1 b j p, B, C => by
    simp only [drawT]
    repeat' split
    all_goals first | exact bind_mono fun A => opG_mono fun A => drawT_mono h p _ _ | exact opG_mono fun A => drawT_mono h p _ _ | exact id
  | .s2 b j p q, B, C => by
    simp only [drawT]
    split
    · intro hb
      obtain ⟨e1, e2⟩ := both_some hb
      have e2' := drawT_mono h q _ _ e2
      unfold both
      rw [e2']
      split at e1
      · rename_i hc
        rw [if_pos hc, bind_mono (fun A => opG_mono fun A => drawT_mono h p _ _) e1, if_pos rfl]
      · rename_i hc
        rw [if_neg hc, opG_mono (fun A => drawT_mono h p _ _) e1, if_pos rfl]
    · exact id
theorem drawU_mono {ops : Array Oper} {K K' : AS → Option R} (h : ∀ c, K c = some r → K' c = some r) : ∀ (p : Pt) (A : AS), drawU E ops K p A = some r → drawU E ops K' p A = some r
  | .done, A => by
    simp only [drawU]
    exact h A
  | .q j p, A => by
    simp only [drawU]
    split
    · exact opG_mono fun A => drawU_mono h p _
    · exact id
  | .t j p, A => by
    simp only [drawU]
    split
    · exact opG_mono fun A => drawU_mono h p _
    · exact id
  | .s1 b j p, A => by
    simp only [drawU]
    split
    · exact opG_mono fun A => drawU_mono h p _
    · exact id
  | .s2 b j p q, A => by
    simp only [drawU]
    split
    · intro hb
      obtain ⟨e1, e2⟩ := both_some hb
      have e2' := drawU_mono h q _ e2
      unfold both
      rw [e2', opG_mono (fun A => drawU_mono h p _) e1, if_pos rfl]
    · exact id
def Mono {R : Type} (body : AS → (Ex → AS → Option R) → Option R) : Prop := ∀ (A : AS) (K K' : Ex → AS → Option R) (r : R), (∀ e A, K e A = some r → K' e A = some r) → body A K = some r → body A K' = some r
theorem iterK_mono {τ : Tm} {K K' : Ex → AS → Option R} {f g : τ.D → Option R} (h : ∀ e A, K e A = some r → K' e A = some r) (hf : ∀ s, f s = some r → g s = some r) (e : Ex) (A : AS) : iterK τ K f e A = some r → iterK τ K' g e A = some r := by
  cases e with
  | normal => exact bind_mono hf
  | exit i => exact h _ _
  | ret => exact h _ _
theorem iterG_mono {τ : Tm} {body : AS → (Ex → AS → Option R) → Option R} (hb : Mono body) {K K' : Ex → AS → Option R} (h : ∀ e A, K e A = some r → K' e A = some r) : ∀ (n m : Nat) (s : τ.D), n ≤ m → iterG τ body K n s = some r → iterG τ body K' m s = some r
  | 0, m, s, hnm, hi => by simp [iterG] at hi
  | n + 1, 0, s, hnm, hi => by omega
  | n + 1, m + 1, s, hnm, hi => hb _ _ _ r (fun e A => iterK_mono h (fun s => iterG_mono hb h n m s (by omega)) e A) hi
/-- What so many rounds come to, the loop comes to. -/
theorem loopG_of {τ : Tm} {body : AS → (Ex → AS → Option R) → Option R} (hb : Mono body) {K : Ex → AS → Option R} {n : Nat} {s : τ.D} (h : iterG τ body K n s = some r) : loopG τ body K s = some r := by
  unfold loopG
  have hex : ∃ n r, iterG τ body K n s = some r := ⟨n, r, h⟩
  rw [dif_pos hex]
  obtain ⟨r', hr'⟩ := Classical.choose_spec hex
  have h1 := iterG_mono hb (K' := K) (fun _ _ h => h) n (n + Classical.choose hex) s (by omega) h
  have h2 := iterG_mono hb (K' := K) (fun _ _ h => h) (Classical.choose hex) (n + Classical.choose hex) s (by omega) hr'
  rw [h1] at h2
  rw [hr', ← h2]
theorem loopG_mono {τ : Tm} {body : AS → (Ex → AS → Option R) → Option R} (hb : Mono body) {K K' : Ex → AS → Option R} (h : ∀ e A, K e A = some r → K' e A = some r) (s : τ.D) (hl : loopG τ body K s = some r) : loopG τ body K' s = some r := by
  obtain ⟨n, hn⟩ := loopG_some hl
  exact loopG_of hb (iterG_mono hb h n n s (Nat.le_refl _) hn)
theorem kSeq_mono {next : AS → (Ex → AS → Option R) → Option R} (hn : Mono next) {K K' : Ex → AS → Option R} (h : ∀ e A, K e A = some r → K' e A = some r) (e : Ex) (A : AS) : kSeq next K e A = some r → kSeq next K' e A = some r := by
  cases e with
  | normal => exact hn A K K' r h
  | exit i => exact h _ _
  | ret => exact h _ _
theorem kBlk_mono {id : Nat} {K K' : Ex → AS → Option R} (h : ∀ e A, K e A = some r → K' e A = some r) (e : Ex) (A : AS) : kBlk id K e A = some r → kBlk id K' e A = some r := by
  cases e with
  | normal => exact h _ _
  | exit i => simp only [kBlk]; split <;> exact h _ _
  | ret => exact h _ _
theorem ev_mono {TM : List (Nat × Tm)} : ∀ (c : Code) (cur : Nat), Mono (R := R) (fun A K => ev E TM cur c A K)
  | .skip, cur => fun A K K' r h => by simp only [ev]; exact h _ _
  | .region id ops false, cur => fun A K K' r h => by simp only [ev]; exact evReg_mono (h _)
  | .region _ ops true, cur => fun A K K' r h => by
    simp only [ev]
    split
    · exact drawU_mono (h _) _ _
    · split
      · exact drawP_mono (h _) _ _ _
      · split
        · exact drawT_mono (h _) _ _ _
        · exact fun h => h
  | .seq a b, cur => fun A K K' r h => by
    simp only [ev]
    exact ev_mono a cur A _ _ r (kSeq_mono (ev_mono b cur) h)
  | .cond c a b, cur => fun A K K' r h => by
    simp only [ev]
    split
    · exact brk_mono (ev_mono a cur A _ _ r h) (ev_mono b cur A _ _ r h)
    · exact id
  | .block id c, cur => fun A K K' r h => by
    simp only [ev]
    exact ev_mono c id A _ _ r (kBlk_mono h)
  | .loop c, cur => fun A K K' r h => by
    simp only [ev]
    split
    · exact bind_mono fun s => loopG_mono (ev_mono c cur) h s
    · exact id
  | .exit id, cur => fun A K K' r h => by simp only [ev]; exact h _ _
  | .ret, cur => fun A K K' r h => by simp only [ev]; exact h _ _
  | .label _, cur => fun A K K' r h => by simp only [ev]; exact id
  | .goto _, cur => fun A K K' r h => by simp only [ev]; exact id
  | .scope _, cur => fun A K K' r h => by simp only [ev]; exact id
  | .rangeFunc _ _ _ _, cur => fun A K K' r h => by simp only [ev]; exact id
  | .refuse _, cur => fun A K K' r h => by simp only [ev]; exact id
theorem loop_eq {τ : Tm} {body : AS → (Ex → AS → Option R) → Option R} (hb : Mono body) {K : Ex → AS → Option R} {s : τ.D} (n : Nat) {v : Option R} (h : iterG τ body K n s = v) (hv : ∃ r, v = some r) : loopG τ body K s = v := by
  obtain ⟨r, rfl⟩ := hv
  exact loopG_of hb h
end
/-! ### Plain words for what the evaluator says -/
section
variable {α : Type}
@[simp] theorem brk_true (a b : Option α) : brk true a b = a := rfl
@[simp] theorem brk_false (a b : Option α) : brk false a b = b := rfl
@[simp] theorem ck_true (a : Option α) : ck true a = a := rfl
theorem brk_pos {x : Bool} (h : x = true) (a b : Option α) : brk x a b = a := by rw [h]; rfl
theorem brk_neg {x : Bool} (h : x = false) (a b : Option α) : brk x a b = b := by rw [h]; rfl
theorem ck_pos {x : Bool} (h : x = true) (a : Option α) : ck x a = a := by rw [h]; rfl
theorem wrap64 {x : Int} (h1 : -9223372036854775808 ≤ x) (h2 : x ≤ 9223372036854775807) : IntKind.i64.wrap x = x := by
  simp only [IntKind.wrap, IntKind.signed, IntKind.bits]
  simp
  omega
theorem rdD_get {t : Ty} {xs : List t.D} {i : Nat} {x : t.D} (h : xs[i]? = some x) : rdD t xs (i : Int) = x := by
  simp [rdD, List.getD, h]
end
end Go.Refl
