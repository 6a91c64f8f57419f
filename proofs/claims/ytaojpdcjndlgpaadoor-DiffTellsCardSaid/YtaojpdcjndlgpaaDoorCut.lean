/- A piece of bytes that stand in memory stands there; worlds after some draws. No conditions. -/
import Derived.Test.YtaojpdcjndlgpaaDoorDiffP
namespace Go.Proofs.YtaojpdcjndlgpaaDoor
open Go.RowKit

theorem At.cut {w : World} {b o : Nat} {a : List UInt8} (h : At w (some ⟨b, o, none⟩) (cb a)) (i k : Nat) : At w (some ⟨b, o + i, none⟩) (cb (cut a i k)) := fun j u hj => by
  refine ⟨b, o + i, rfl, ?_⟩
  have hj' : j < (Go.Proofs.YtaojpdcjndlgpaaDoor.cut a i k).length := by
    rcases Nat.lt_or_ge j (Go.Proofs.YtaojpdcjndlgpaaDoor.cut a i k).length with h | h
    · exact h
    · rw [List.getElem?_eq_none (by simpa using h)] at hj; cases hj
  have hl : j < k - i ∧ i + j < a.length := by simp [Go.Proofs.YtaojpdcjndlgpaaDoor.cut] at hj'; omega
  have e : (cb (Go.Proofs.YtaojpdcjndlgpaaDoor.cut a i k))[j]? = (cb a)[i + j]? := by simp [cb, Go.Proofs.YtaojpdcjndlgpaaDoor.cut, hl.1]
  obtain ⟨b', o', e1, hc⟩ := h (i + j) u (e ▸ hj)
  cases e1
  rw [Nat.add_assoc]; exact hc

theorem bdN {B : Nat} {a w : World} (h : Below B a w) (n : Nat) : Below B a (w.drewN n) := ⟨h.os, h.tape, h.output, h.size, h.block⟩
end Go.Proofs.YtaojpdcjndlgpaaDoor
