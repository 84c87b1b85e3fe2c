/- Types of the program, as data: printed by a program of this claim. No condition. -/
import Derived.Test.YthmaaogfmakohaaRfQ
import Derived.Test.YthmaaogfmakohaaRfN
import Derived.Test.YthmaaogfmakohaaProg
namespace Go.Refl
open Go.RowKit Go.Proofs
set_option linter.unusedVariables false
set_option maxRecDepth 100000
@[reducible] def tI : Ty := .int .i64
@[reducible] def tB : Ty := .bool
@[reducible] def tY : Ty := .int .u8
@[reducible] def tS : Ty := .str
@[reducible] def tYs : Ty := .sl 5 tY
@[reducible] def tIs : Ty := .sl 3 tI
@[reducible] def tMsg : Ty := .pair tI (.pair tI (.pair tI (.pair tI (.pair tIs (.unit)))))
@[reducible] def tMsgs : Ty := .sl 47 tMsg
@[reducible] def tL4Cur : Ty := .pair tYs (.pair tI (.pair tB (.unit)))
@[reducible] def tt0 : TT := [(3, (tI, 8)), (4, (tB, 1)), (5, (tY, 1)), (9, (tS, 16)), (22, (tYs, 24)), (24, (tIs, 24)), (39, (tMsgs, 24)), (47, (tMsg, 56)), (67, (tL4Cur, 40)), (72, (tL4Cur, 40))]
noncomputable def bd (f : Func) : Code := f.body.getD .skip
def cA : Code → Code
  | .seq a _ => a
  | .cond _ a _ => a
  | .block _ c => c
  | .loop c => c
  | c => c
def cB : Code → Code
  | .seq _ b => b
  | .cond _ _ b => b
  | c => c
theorem ct_nil {P : Program} : ∀ f c, get ([] : List (Nat × Ct)) f = some c → Sat P f c := fun f c h => by cases h
theorem ct_cons {P : Program} {i : Nat} {c0 : Ct} {l : List (Nat × Ct)} (h : Sat P i c0) (hl : ∀ f c, get l f = some c → Sat P f c) : ∀ f c, get ((i, c0) :: l) f = some c → Sat P f c := fun f c hg => by
  simp only [get] at hg
  split at hg
  · rename_i e; subst e; cases hg; exact h
  · exact hl f c hg
theorem ff_cons {tt : TT} {f : Field} {fs : List Field} {a b : Ty} {off by_ : Nat} (h1 : f.offset = off) (h2 : get tt f.type = some (a, by_)) (h3 : a.cells ≠ 0) (h4 : FieldsFit tt fs b (off + a.cells)) : FieldsFit tt (f :: fs) (.pair a b) off := ⟨h1, ⟨by_, h2⟩, h3, h4⟩
theorem ff_nil {tt : TT} {off : Nat} : FieldsFit tt [] .unit off := trivial
theorem fn_ok2 {P : Program} {E : Env} {TM : List (Nat × Tm)} {f : FuncId} {fn : Func} {body : Code} {ps : List Pm} {rs : List Rk} {F : PsD ps → Option (RsD rs × PsO ps)} (hE : EnvOk P E) (hct : ∀ f c, get E.ct f = some c → Sat P f c) (hm : P.follows .mixedOrders = true) (hf : P.funcs[f]? = some fn) (hb : fn.body = some body) (hname : (fn.name == "runtime.NumGoroutine") = false)
    (hn : (decide (ps.length ≤ fn.ntmps) && decide (fn.ntmps ≤ 60000) && psOk ps && codeOk fn.ntmps body) = true) (hF : ∀ x y, F x = some y → evFn E TM fn body ps rs x = some y) : Sat P f ⟨ps, rs, F⟩ := fn_ok hE hct hm ⟨ps, rs, F⟩ hf hb hname hn hF
theorem mixedOk : Try.prog.follows .mixedOrders = true := by kernel_rfl
theorem fit3 : TFit Try.prog tt0 3 tI 8 := ⟨⟨_, _, (by kernel_rfl : Try.prog.info? 3 = some Try.t3), rfl, rfl, rfl, rfl⟩, by decide, by show (Try.prog.underlying 3 = some (.int .i64)); kernel_rfl⟩
theorem fit4 : TFit Try.prog tt0 4 tB 1 := ⟨⟨_, _, (by kernel_rfl : Try.prog.info? 4 = some Try.t4), rfl, rfl, rfl, rfl⟩, by decide, by show (Try.prog.underlying 4 = some (.bool)); kernel_rfl⟩
theorem fit5 : TFit Try.prog tt0 5 tY 1 := ⟨⟨_, _, (by kernel_rfl : Try.prog.info? 5 = some Try.t5), rfl, rfl, rfl, rfl⟩, by decide, by show (Try.prog.underlying 5 = some (.int .u8)); kernel_rfl⟩
theorem fit9 : TFit Try.prog tt0 9 tS 16 := ⟨⟨_, _, (by kernel_rfl : Try.prog.info? 9 = some Try.t9), rfl, rfl, rfl, rfl⟩, by decide, by show (Try.prog.underlying 9 = some (.string)); kernel_rfl⟩
theorem fit22 : TFit Try.prog tt0 22 tYs 24 := ⟨⟨_, _, (by kernel_rfl : Try.prog.info? 22 = some Try.t22), rfl, rfl, rfl, rfl⟩, by decide, by show (Try.prog.underlying 22 = some (.slice 5) ∧ ∃ b, get tt0 5 = some (tY, b)); exact ⟨by kernel_rfl, _, rfl⟩⟩
theorem fit24 : TFit Try.prog tt0 24 tIs 24 := ⟨⟨_, _, (by kernel_rfl : Try.prog.info? 24 = some Try.t24), rfl, rfl, rfl, rfl⟩, by decide, by show (Try.prog.underlying 24 = some (.slice 3) ∧ ∃ b, get tt0 3 = some (tI, b)); exact ⟨by kernel_rfl, _, rfl⟩⟩
theorem fit39 : TFit Try.prog tt0 39 tMsgs 24 := ⟨⟨_, _, (by kernel_rfl : Try.prog.info? 39 = some Try.t39), rfl, rfl, rfl, rfl⟩, by decide, by show (Try.prog.underlying 39 = some (.slice 47) ∧ ∃ b, get tt0 47 = some (tMsg, b)); exact ⟨by kernel_rfl, _, rfl⟩⟩
theorem fit47 : TFit Try.prog tt0 47 tMsg 56 := ⟨⟨_, _, (by kernel_rfl : Try.prog.info? 47 = some Try.t47), rfl, rfl, rfl, rfl⟩, by decide, by show (∃ fs, Try.prog.underlying 47 = some (.struct fs) ∧ FieldsFit tt0 fs.toList tMsg 0); exact ⟨#[{ name := "Kind", type := 3, offset := 0, embedded := false, tag := "", pkgPath := "", byteOffset := 0 }, { name := "Cell", type := 3, offset := 1, embedded := false, tag := "", pkgPath := "", byteOffset := 8 }, { name := "Val", type := 3, offset := 2, embedded := false, tag := "", pkgPath := "", byteOffset := 16 }, { name := "Who", type := 3, offset := 3, embedded := false, tag := "", pkgPath := "", byteOffset := 24 }, { name := "Gens", type := 24, offset := 4, embedded := false, tag := "", pkgPath := "", byteOffset := 32 }], by kernel_rfl, ff_cons rfl rfl (by decide) (ff_cons rfl rfl (by decide) (ff_cons rfl rfl (by decide) (ff_cons rfl rfl (by decide) (ff_cons rfl rfl (by decide) (ff_nil)))))⟩⟩
theorem fit67 : TFit Try.prog tt0 67 tL4Cur 40 := ⟨⟨_, _, (by kernel_rfl : Try.prog.info? 67 = some Try.t67), rfl, rfl, rfl, rfl⟩, by decide, by show (∃ fs, Try.prog.underlying 67 = some (.struct fs) ∧ FieldsFit tt0 fs.toList tL4Cur 0); exact ⟨#[{ name := "b", type := 22, offset := 0, embedded := false, tag := "", pkgPath := "loop.example/g00399/impl", byteOffset := 0 }, { name := "at", type := 3, offset := 1, embedded := false, tag := "", pkgPath := "loop.example/g00399/impl", byteOffset := 24 }, { name := "ok", type := 4, offset := 2, embedded := false, tag := "", pkgPath := "loop.example/g00399/impl", byteOffset := 32 }], by kernel_rfl, ff_cons rfl rfl (by decide) (ff_cons rfl rfl (by decide) (ff_cons rfl rfl (by decide) (ff_nil)))⟩⟩
theorem fit72 : TFit Try.prog tt0 72 tL4Cur 40 := ⟨⟨_, _, (by kernel_rfl : Try.prog.info? 72 = some Try.t72), rfl, rfl, rfl, rfl⟩, by decide, by show (∃ fs, Try.prog.underlying 72 = some (.struct fs) ∧ FieldsFit tt0 fs.toList tL4Cur 0); exact ⟨#[{ name := "b", type := 22, offset := 0, embedded := false, tag := "", pkgPath := "loop.example/g00399/spec", byteOffset := 0 }, { name := "at", type := 3, offset := 1, embedded := false, tag := "", pkgPath := "loop.example/g00399/spec", byteOffset := 24 }, { name := "ok", type := 4, offset := 2, embedded := false, tag := "", pkgPath := "loop.example/g00399/spec", byteOffset := 32 }], by kernel_rfl, ff_cons rfl rfl (by decide) (ff_cons rfl rfl (by decide) (ff_cons rfl rfl (by decide) (ff_nil)))⟩⟩
theorem ft_nil {P : Program} {tt : TT} : ∀ t T b, get ([] : TT) t = some (T, b) → TFit P tt t T b := fun t T b h => by cases h
theorem ft_cons {P : Program} {tt l : TT} {i : Nat} {T0 : Ty} {b0 : Nat} (h0 : TFit P tt i T0 b0) (hl : ∀ t T b, get l t = some (T, b) → TFit P tt t T b) : ∀ t T b, get ((i, (T0, b0)) :: l) t = some (T, b) → TFit P tt t T b := fun t T b h => by
  simp only [get] at h
  split at h
  · rename_i e; subst e; cases h; exact h0
  · exact hl t T b h
theorem fits : ∀ t T b, get tt0 t = some (T, b) → TFit Try.prog tt0 t T b := ft_cons fit3 (ft_cons fit4 (ft_cons fit5 (ft_cons fit9 (ft_cons fit22 (ft_cons fit24 (ft_cons fit39 (ft_cons fit47 (ft_cons fit67 (ft_cons fit72 (ft_nil))))))))))
theorem envOk (ct : List (Nat × Ct)) : EnvOk Try.prog ⟨tt0, ct⟩ := ⟨fits⟩
end Go.Refl
