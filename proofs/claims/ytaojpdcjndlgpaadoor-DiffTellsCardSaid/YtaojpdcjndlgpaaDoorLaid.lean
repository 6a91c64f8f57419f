/- What the condition on errors.errorType gives a walk; a world that meets it. No conditions. -/
import Derived.Test.YtaojpdcjndlgpaaDoorRows
import Derived.Test.YtaojpdcjndlgpaaDoorAs
import Derived.ChangeSame
import Derived.ChangeVars
import Derived.JoinedOf
import Derived.RowKit
import Derived.RowKitTokens
import Derived.LaidLaws
import Derived.LaidHandle
import Derived.Stop.Joined
namespace Go.Proofs.YtaojpdcjndlgpaaDoor
open Go.ChangeShapes Go.WideShapes Go.RowKit

theorem ownGodebug : ownKnob Tryd.prog.godebug = none := by kernel_rfl
theorem errGlobal : Tryd.prog.globalNamed "errors.errorType" = some 0 := by kernel_rfl
theorem rtypeCut : (Tryd.prog.cutTypes.find? (·.1 == "internal/reflectlite.rtype")).map (·.2) = some 131 := by kernel_rfl
theorem oneRow : ((List.range 193).filter fun t => Tryd.prog.rowNamed t [101, 114, 114, 111, 114]) = [27] := by kernel_rfl
theorem typesSize : Tryd.prog.types.size = 193 := by kernel_rfl
theorem laidOutAll : laidOutB Tryd.prog = true := by kernel_rfl

/-- What it gives a walk: the variable's one cell. -/
theorem errType_of_laid {W : World} {laid : List (String × DataW Unit)} (hl : laid = [("errors.errorType", Rows.laid_errors_errorType)]) (h : laidMetH Tryd.prog laid W) : ErrType W := by
  subst hl
  have h' : laidMet Tryd.prog [] W ∧ handlesMet Tryd.prog [("errors.errorType", Rows.laid_errors_errorType)] W := h
  obtain ⟨name, u, ty, e1, e2, e3, e4, e5⟩ := h'.2 _ (List.mem_singleton.2 rfl)
  have en : name = [101, 114, 114, 111, 114] := (Option.some.inj e1).symm
  subst en
  obtain rfl := Option.some.inj (rtypeCut.symm.trans e2)
  have hm : ty ∈ (List.range 193).filter fun t => Tryd.prog.rowNamed t [101, 114, 114, 111, 114] := List.mem_filter.2 ⟨List.mem_range.2 (by rw [← typesSize]; exact e3), e4⟩
  rw [oneRow] at hm
  obtain rfl := List.mem_singleton.1 hm
  have hh : typeHandle Tryd.prog 27 = .pointer (some ⟨1, 27, none⟩) := by kernel_rfl
  rw [hh] at e5
  have hc := World.var?_cell errGlobal e5 0
  unfold ErrType
  simpa using hc

/-- A world that meets the condition. -/
noncomputable def laidWorld (os : Os) : World :=
  let w0 := World.holding Tryd.prog os ⟨#[], #[], []⟩
  { w0 with heap := w0.heap.modify 0 fun
      | .cells _ t frozen => .cells #[.iface 131 (.agg #[.pointer (some ⟨1, 27, none⟩)])] t frozen
      | o => o }
end Go.Proofs.YtaojpdcjndlgpaaDoor
