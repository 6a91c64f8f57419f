/- Words and small laws that all walks of this seat share: bytes in memory, slices of the call's own. No conditions. -/
import Derived.Test.YtaojpdcjndlgpaaDoorProg
import Derived.WalkKit
import Derived.WalkLawsBesides
import Derived.WalkSpells
import Derived.Lib.Hide
import Derived.ProofKit
namespace Go.Proofs.YtaojpdcjndlgpaaDoor
open Go.RowKit

theorem ret_true {p : Prop} [Decidable p] (h : p) : Ending.returned (.bool true) = .returned (.bool (decide p)) := by rw [decide_eq_true h]
theorem ret_false {p : Prop} [Decidable p] (h : ¬p) : Ending.returned (.bool false) = .returned (.bool (decide p)) := by rw [decide_eq_false h]

/-- Bytes as cells. -/
def cb (l : List UInt8) : List Value := l.map fun b => .int .u8 (b.toNat : Int)
@[simp] theorem cb_length (l : List UInt8) : (cb l).length = l.length := by simp [cb]
theorem cb_get (l : List UInt8) (i : Nat) (h : i < l.length) : (cb l)[i]? = some (.int .u8 ((l[i]).toNat : Int)) := by simp [cb, h]
theorem cb_append (a b : List UInt8) : cb (a ++ b) = cb a ++ cb b := by simp [cb]

/-- Cells from an address on. -/
def At (w : World) (a : Option Addr) (xs : List Value) : Prop := ∀ i u, xs[i]? = some u → ∃ b o, a = some ⟨b, o, none⟩ ∧ w.cell? ⟨b, o + i, none⟩ = some u

theorem At.nil (w : World) (a : Option Addr) : At w a [] := fun i u h => by simp at h
theorem At.some_of {w : World} {a : Option Addr} {xs : List Value} (h : At w a xs) (hn : 0 < xs.length) : ∃ b o, a = some ⟨b, o, none⟩ ∧ ∀ i u, xs[i]? = some u → w.cell? ⟨b, o + i, none⟩ = some u := by
  obtain ⟨b, o, rfl, _⟩ := h 0 xs[0] (List.getElem?_eq_getElem hn)
  refine ⟨b, o, rfl, fun i u hi => ?_⟩
  obtain ⟨b', o', e, hc⟩ := h i u hi
  simp only [Option.some.injEq, Addr.mk.injEq] at e
  obtain ⟨rfl, rfl, _⟩ := e
  exact hc
theorem At.lt {w : World} {a : Option Addr} {xs : List Value} (h : At w a xs) (hn : 0 < xs.length) : ∃ b o, a = some ⟨b, o, none⟩ ∧ b < w.heap.size := by
  obtain ⟨b, o, rfl, hc⟩ := h.some_of hn
  exact ⟨b, o, rfl, World.block_lt_of_cell? w _ (hc 0 _ (List.getElem?_eq_getElem hn))⟩
/-- What is below stays. -/
theorem At.below {w w' : World} {a : Option Addr} {xs : List Value} {B : Nat} (h : At w a xs) (hb : Below B w w') (hB : w.heap.size ≤ B) : At w' a xs := fun i u hi => by
  obtain ⟨b, o, e, hc⟩ := h i u hi
  exact ⟨b, o, e, by rw [hb.cell (p := ⟨b, o + i, none⟩) (Nat.lt_of_lt_of_le (World.block_lt_of_cell? w _ hc) hB)]; exact hc⟩
theorem At.of_blocks {w w' : World} {a : Option Addr} {xs : List Value} (h : At w a xs) (hb : ∀ b o, a = some ⟨b, o, none⟩ → w'.heap[b]? = w.heap[b]?) : At w' a xs := fun i u hi => by
  obtain ⟨b, o, e, hc⟩ := h i u hi
  exact ⟨b, o, e, by rw [World.cell?_of_block (w := w) (hb b o e)]; exact hc⟩
theorem At.cell {w : World} {b o : Nat} {xs : List Value} (h : At w (some ⟨b, o, none⟩) xs) (i : Nat) (hi : i < xs.length) : w.cell? ⟨b, o + i, none⟩ = some xs[i] := by
  obtain ⟨b', o', e, hc⟩ := h i xs[i] (List.getElem?_eq_getElem hi)
  simp only [Option.some.injEq, Addr.mk.injEq] at e
  obtain ⟨rfl, rfl, _⟩ := e
  exact hc
/-- As the laws on append want it. -/
theorem At.news {w : World} {b o : Nat} {xs : List Value} (h : At w (some ⟨b, o, none⟩) xs) : ∀ j u, xs[j]? = some u → w.cell? ((⟨b, o, none⟩ : Addr).add j) = some u := fun j u hj => by
  obtain ⟨b', o', e, hc⟩ := h j u hj
  simp only [Option.some.injEq, Addr.mk.injEq] at e
  obtain ⟨rfl, rfl, _⟩ := e
  rw [Go.WideShapes.add_plain]; exact hc
/-- What the call owns stands there. -/
theorem At.of_owns {w : World} {base e size n : Nat} {a : Option Addr} {c : Nat} {xs : List Value} (h : w.ownsRow base e size (.slice a n c) n xs) : At w a xs := fun i u hi => by
  rcases h.2 with ⟨hv, hn⟩ | ⟨g, cap, cur, hv, _, hg, _, _, hs, ht⟩
  · have := h.1; rw [hn] at this; simp at this; subst this; simp at hi
  · cases hv
    refine ⟨g, 0, rfl, ?_⟩
    have := h.cells (g := g) rfl i u hi
    rw [Go.WideShapes.add_plain] at this
    exact this

/-- A slice value over cells: n elements. -/
def Sl (w : World) (v : Value) (n : Nat) (xs : List Value) : Prop := ∃ a c, v = .slice a n c ∧ n ≤ c ∧ c ≤ maxLen ∧ At w a xs
theorem Sl.below {w w' : World} {v : Value} {n : Nat} {xs : List Value} {B : Nat} (h : Sl w v n xs) (hb : Below B w w') (hB : w.heap.size ≤ B) : Sl w' v n xs := by
  obtain ⟨a, c, e, h1, h2, h3⟩ := h
  exact ⟨a, c, e, h1, h2, h3.below hb hB⟩
theorem Sl.of_owns {w : World} {base e size n : Nat} {v : Value} {xs : List Value} (h : w.ownsRow base e size v n xs) : Sl w v n xs := by
  have h0 := h
  rcases h.2 with ⟨rfl, rfl⟩ | ⟨g, cap, cur, rfl, _, _, h1, h2, _⟩
  · exact ⟨none, 0, rfl, Nat.le_refl _, by simp [maxLen], At.of_owns h0⟩
  · exact ⟨_, cap, rfl, h1, h2, At.of_owns h0⟩

theorem ownsRow_base {w : World} {base base' e size n : Nat} {v : Value} {xs : List Value} (h : w.ownsRow base e size v n xs) (hb : base' ≤ base) : w.ownsRow base' e size v n xs := by
  refine ⟨h.1, ?_⟩
  rcases h.2 with hn | ⟨g, cap, cur, hv, hg, r⟩
  · exact .inl hn
  · exact .inr ⟨g, cap, cur, hv, Nat.le_trans hb hg, r⟩

theorem nil_u8 (w : World) (a : Option Addr) (n c : Nat) : (binOp .eql 41 (.slice a n c) (.slice none 0 0)).run Tryd.prog w = .ok (.bool a.isNone) w :=
  Lib.run_eql_slice_nil w 41 5 a n c 0 0 Tryd.underlying41
theorem info_u8 : (Tryd.prog.info? 5).map (fun i => (i.zero, i.size, i.bytes)) = some (some (.int .u8 0), 1, 1) := by kernel_rfl
theorem info_int : (Tryd.prog.info? 3).map (fun i => (i.zero, i.size, i.bytes)) = some (some (.int .i64 0), 1, 8) := by kernel_rfl
end Go.Proofs.YtaojpdcjndlgpaaDoor
