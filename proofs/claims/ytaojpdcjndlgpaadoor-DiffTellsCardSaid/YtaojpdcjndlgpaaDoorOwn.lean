/- Several rows that a call owns at once, no two in one block: what a write to one of them leaves of the others. No conditions. -/
import Derived.Test.YtaojpdcjndlgpaaDoorLib
import Derived.Deep.AppendLies
namespace Go.Proofs.YtaojpdcjndlgpaaDoor
open Go.RowKit

/-- A row that is owned. -/
structure Row where
  e : Nat
  sz : Nat
  v : Value
  n : Nat
  xs : List Value

def Row.ok (w : World) (base : Nat) (r : Row) : Prop := w.ownsRow base r.e r.sz r.v r.n r.xs
/-- All of them, no two in one block. -/
def Owns (w : World) (base : Nat) (R : List Row) : Prop := (∀ r ∈ R, r.ok w base) ∧ (R.filterMap (·.v.ownBlock)).Nodup

theorem Owns.nil (w : World) (base : Nat) : Owns w base [] := ⟨fun _ h => by simp at h, by simp⟩
theorem Owns.perm {w : World} {base : Nat} {R R' : List Row} (h : Owns w base R) (hp : R.Perm R') : Owns w base R' :=
  ⟨fun r hr => h.1 r (hp.mem_iff.2 hr), (hp.filterMap _).nodup_iff.1 h.2⟩
theorem Owns.lt {w : World} {base : Nat} {R : List Row} (h : Owns w base R) : ∀ r ∈ R, ∀ k, r.v.ownBlock = some k → base ≤ k ∧ k < w.heap.size := fun r hr k hk => World.ownsRow.lt (h.1 r hr) k hk

theorem Owns.ne {w : World} {base : Nat} {r : Row} {R : List Row} (h : Owns w base (r :: R)) {k : Nat} (hk : r.v.ownBlock = some k) : ∀ s ∈ R, s.v.ownBlock ≠ some k := fun s hs e => by
  have h2 := h.2
  rw [List.filterMap_cons, hk] at h2
  exact (List.nodup_cons.1 h2).1 (List.mem_filterMap.2 ⟨s, hs, e⟩)
/-- One row at the front is written (or laid anew): the others stay. -/
theorem Owns.head {w w' : World} {base : Nat} {r r' : Row} {R : List Row} (h : Owns w base (r :: R)) (hg : w.grownBy w' r.v.ownBlock) (hr : r'.ok w' base)
    (hb : r'.v.ownBlock = r.v.ownBlock ∨ ∃ k, r'.v.ownBlock = some k ∧ w.heap.size ≤ k) : Owns w' base (r' :: R) := by
  obtain ⟨h1, h2⟩ := h
  have hne : ∀ s ∈ R, s.v.ownBlock = none ∨ s.v.ownBlock ≠ r.v.ownBlock := fun s hs => by
    cases hsb : s.v.ownBlock with
    | none => exact .inl rfl
    | some k =>
      right; intro e
      rw [List.filterMap_cons] at h2
      rw [← e] at h2
      simp only [List.nodup_cons, List.mem_filterMap] at h2
      exact h2.1 ⟨s, hs, hsb⟩
  refine ⟨fun s hs => ?_, ?_⟩
  · rcases List.mem_cons.1 hs with rfl | hs
    · exact hr
    · exact World.ownsRow.kept (h1 s (List.mem_cons_of_mem _ hs)) hg (hne s hs)
  · have ht : (R.filterMap (·.v.ownBlock)).Nodup := by
      rw [List.filterMap_cons] at h2
      cases hrb : r.v.ownBlock with
      | none => simpa [hrb] using h2
      | some k => rw [hrb] at h2; exact (List.nodup_cons.1 h2).2
    rw [List.filterMap_cons]
    cases hrb' : r'.v.ownBlock with
    | none => exact ht
    | some k =>
      refine List.nodup_cons.2 ⟨fun hk => ?_, ht⟩
      obtain ⟨s, hs, hsk⟩ := List.mem_filterMap.1 hk
      rcases hb with hb | ⟨k', hk', hge⟩
      · rcases hne s hs with h0 | h0
        · rw [h0] at hsk; cases hsk
        · exact h0 (by rw [hsk, ← hrb', hb])
      · have := (World.ownsRow.lt (h1 s (List.mem_cons_of_mem _ hs)) k hsk).2
        rw [hrb'] at hk'; cases hk'; omega
/-- A row anywhere. -/
theorem Owns.at {w w' : World} {base : Nat} {A B : List Row} {r r' : Row} (h : Owns w base (A ++ r :: B)) (hg : w.grownBy w' r.v.ownBlock) (hr : r'.ok w' base)
    (hb : r'.v.ownBlock = r.v.ownBlock ∨ ∃ k, r'.v.ownBlock = some k ∧ w.heap.size ≤ k) : Owns w' base (A ++ r' :: B) :=
  ((h.perm (List.perm_middle)).head hg hr hb).perm (List.perm_middle).symm
/-- New blocks turn none of them. -/
theorem Owns.kept {w w' : World} {base : Nat} {R : List Row} (h : Owns w base R) (hg : w.grownBy w' none) : Owns w' base R :=
  ⟨fun r hr => World.ownsRow.kept (h.1 r hr) hg (by cases hv : r.v.ownBlock <;> simp), h.2⟩
theorem Owns.drewN {w : World} {base : Nat} {R : List Row} (h : Owns w base R) (n : Nat) : Owns (w.drewN n) base R := h
theorem Owns.alloc {w : World} {base : Nat} {R : List Row} (h : Owns w base R) (o : Obj) : Owns (w.alloc o) base R := h.kept (World.grownBy_alloc w o none)
/-- A row more. -/
theorem Owns.add {w : World} {base : Nat} {R : List Row} {r : Row} (h : Owns w base R) (hr : r.ok w base) (hb : ∀ k, r.v.ownBlock = some k → ∀ s ∈ R, s.v.ownBlock ≠ some k) : Owns w base (r :: R) := by
  refine ⟨fun s hs => ?_, ?_⟩
  · rcases List.mem_cons.1 hs with rfl | hs
    · exact hr
    · exact h.1 s hs
  · rw [List.filterMap_cons]
    cases hrb : r.v.ownBlock with
    | none => exact h.2
    | some k =>
      refine List.nodup_cons.2 ⟨fun hk => ?_, h.2⟩
      obtain ⟨s, hs, hsk⟩ := List.mem_filterMap.1 hk
      exact hb k hrb s hs hsk
theorem grownBy_setCell (w : World) (g j : Nat) (u : Value) : w.grownBy (w.setCell ⟨g, j, none⟩ u) (some g) :=
  ⟨rfl, rfl, rfl, by simp [World.setCell], fun k _ hne => Below.heap_setCell _ _ _ _ (by rintro rfl; exact hne rfl)⟩
/-- A cell of a row at the front is written. -/
theorem Owns.store {w : World} {base : Nat} {e sz g n cap : Nat} {xs : List Value} {R : List Row} (h : Owns w base (⟨e, sz, .slice (some ⟨g, 0, none⟩) n cap, n, xs⟩ :: R)) (j : Nat) (u : Value) :
    Owns (w.setCell ⟨g, j, none⟩ u) base (⟨e, sz, .slice (some ⟨g, 0, none⟩) n cap, n, xs.set j u⟩ :: R) :=
  have h1 : w.ownsRow base e sz (.slice (some ⟨g, 0, none⟩) n cap) n xs := h.1 ⟨e, sz, .slice (some ⟨g, 0, none⟩) n cap, n, xs⟩ (List.mem_cons_self ..)
  h.head (grownBy_setCell w g j u) (r' := ⟨e, sz, .slice (some ⟨g, 0, none⟩) n cap, n, xs.set j u⟩) (World.ownsRow.stored h1 j u).1 (.inl rfl)
theorem grownBy_trans {w w1 w2 : World} {r : Option Nat} (h : w.grownBy w1 r) (k : w1.grownBy w2 r) : w.grownBy w2 r :=
  ⟨k.os.trans h.os, k.tape.trans h.tape, k.output.trans h.output, Nat.le_trans h.size k.size, fun i hi hne => (k.block i (Nat.lt_of_lt_of_le hi h.size) hne).trans (h.block i hi hne)⟩
theorem grownBy_none {w w1 : World} (h : w.grownBy w1 none) (r : Option Nat) : w.grownBy w1 r :=
  ⟨h.os, h.tape, h.output, h.size, fun i hi _ => h.block i hi (by simp)⟩
theorem grownBy_drewN (w : World) (n : Nat) (r : Option Nat) : w.grownBy (w.drewN n) r := ⟨rfl, rfl, rfl, Nat.le_refl _, fun _ _ _ => rfl⟩
theorem grownBy_drew {w w1 : World} {r : Option Nat} (h : w.grownBy w1 r) : w.grownBy w1.drew r := ⟨h.os, h.tape, h.output, h.size, h.block⟩
theorem grownBy_below {w w1 : World} (h : Below w.heap.size w w1) (r : Option Nat) : w.grownBy w1 r := ⟨h.os, h.tape, h.output, h.size, fun k hk _ => h.block k hk⟩
end Go.Proofs.YtaojpdcjndlgpaaDoor
