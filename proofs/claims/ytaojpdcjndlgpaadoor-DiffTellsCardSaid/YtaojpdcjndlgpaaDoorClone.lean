/- slices.Clone of bytes and the reference's copied: a fresh slice of the same bytes. No conditions but Go's sizes. -/
import Derived.Test.YtaojpdcjndlgpaaDoorLib
namespace Go.Proofs.YtaojpdcjndlgpaaDoor
open Go.RowKit
set_option maxRecDepth 100000

theorem clone_nil (n c : Nat) (w : World) : Calls Tryd.prog 50 #[.slice none n c] w fun e w' => e = .returned (.slice none 0 0) ∧ w = w' := by
  have hn := nil_u8
  go_enter Tryd.func50, Tryd.ntmps50
  go_wp2
  go_ret
  exact ⟨rfl, rfl⟩

theorem cb_one (l : List UInt8) : ∀ u ∈ cb l, u.oneCell' = true := by
  intro u hu
  simp only [cb, List.mem_map] at hu
  obtain ⟨b, _, rfl⟩ := hu
  rfl

theorem clone_some (ad : Addr) (l : List UInt8) (c : Nat) (w : World) (hl : l.length ≤ 140737488351232) (h : ∀ j u, (cb l)[j]? = some u → w.cell? (ad.add j) = some u) :
    Calls Tryd.prog 50 #[.slice (some ad) l.length c] w fun e w' => ∃ v, e = .returned v ∧ w'.ownsRow w.heap.size 5 1 v l.length (cb l) ∧ Below w.heap.size w w' := by
  have hn := nil_u8
  obtain ⟨i0, hi, hz0, hz1, hz2⟩ := info_parts info_u8
  have H := Lib.hid hl
  have H2 := Lib.hid h
  clear hl h
  go_enter Tryd.func50, Tryd.ntmps50
  go_wp2_with (at_builtin; refine wpList_append_own _ rfl _ _ 41 rfl w.heap.size 5 i0 (.int .u8 0) 1 1 Tryd.underlying41 hi hz0 hz1 hz2 rfl (by decide) _ 0 [] rfl (World.ownsRow_made w #[] 0 (Nat.le_refl _) (by simp [maxLen]) (by simp)) ad l.length c (cb l) rfl ?c1 ?c2 ?c3 ?c4 ?c5 ?c6 ?_)
  case c1 => simp
  case c2 =>
    intro j u hj
    have h1 := H2.out j u hj
    rw [World.cell?_alloc_lt _ _ _ (World.block_lt_of_cell? w _ h1)]; exact h1
  case c3 => exact cb_one l
  case c4 => have := H.out; unfold maxLen; omega
  case c5 => have := H.out; omega
  case c6 => simp
  intro v' w' hown hgr _
  go_wp2
  go_ret
  refine ⟨_, rfl, hown, ((Below.refl _ _).alloc (Nat.le_refl _) _).grown hgr (by simp) ?_⟩
  intro k hk; simp [Value.ownBlock] at hk; omega

/-- Whatever slice of bytes. -/
theorem clone_any (a : Option Addr) (l : List UInt8) (c : Nat) (w : World) (hl : l.length ≤ 140737488351232) (h : At w a (cb l)) :
    Calls Tryd.prog 50 #[.slice a l.length c] w fun e w' => ∃ v, e = .returned v ∧ w'.ownsRow w.heap.size 5 1 v l.length (cb l) ∧ Below w.heap.size w w' := by
  cases a with
  | none =>
    have hl0 : l = [] := by
      cases l with
      | nil => rfl
      | cons x r => obtain ⟨b, o, e, _⟩ := h 0 (.int .u8 x.toNat) (by simp [cb]); cases e
    subst hl0
    exact (clone_nil 0 c w).mono fun e w' ⟨h1, h2⟩ => ⟨_, h1, by subst h2; exact World.ownsRow_nil _ _ _ _, h2 ▸ Below.refl _ _⟩
  | some ad =>
    refine clone_some ad l c w hl fun j u hj => ?_
    obtain ⟨b, o, e, hc⟩ := h j u hj
    cases e
    rw [Go.WideShapes.add_plain]; exact hc

/-- The same, the number of bytes by itself. -/
theorem clone_n (a : Option Addr) (l : List UInt8) (n c : Nat) (w : World) (hn : l.length = n) (hl : n ≤ 140737488351232) (h : At w a (cb l)) :
    Calls Tryd.prog 50 #[.slice a n c] w fun e w' => ∃ v, e = .returned v ∧ w'.ownsRow w.heap.size 5 1 v l.length (cb l) ∧ Below w.heap.size w w' := by
  subst hn; exact clone_any a l c w hl h

theorem copied_nil (c : Nat) (w : World) : Calls Tryd.prog 46 #[.slice none 0 c] w fun e w' => e = .returned (.slice none 0 0) ∧ w = w' := by
  go_enter Tryd.func46, Tryd.ntmps46
  go_wp2
  go_ret
  exact ⟨rfl, rfl⟩

theorem copied_some (ad : Addr) (l : List UInt8) (c : Nat) (w : World) (hl : l.length ≤ 140737488351232) (h : ∀ j u, (cb l)[j]? = some u → w.cell? (ad.add j) = some u) :
    Calls Tryd.prog 46 #[.slice (some ad) l.length c] w fun e w' => ∃ v, e = .returned v ∧ w'.ownsRow w.heap.size 5 1 v l.length (cb l) ∧ Below w.heap.size w w' := by
  obtain ⟨i0, hi, hz0, hz1, hz2⟩ := info_parts info_u8
  have H := Lib.hid hl
  have H2 := Lib.hid h
  clear hl h
  go_enter Tryd.func46, Tryd.ntmps46
  go_wp2_with (at_builtin; refine wpList_append_own _ rfl _ _ 41 rfl w.heap.size 5 i0 (.int .u8 0) 1 1 Tryd.underlying41 hi hz0 hz1 hz2 rfl (by decide) _ 0 [] rfl (World.ownsRow_nil _ _ _ _) ad l.length c (cb l) rfl ?c1 ?c2 ?c3 ?c4 ?c5 ?c6 ?_)
  case c1 => simp
  case c2 => exact H2.out
  case c3 => exact cb_one l
  case c4 => have := H.out; unfold maxLen; omega
  case c5 => have := H.out; omega
  case c6 => simp
  intro v' w' hown hgr _
  go_wp2
  go_ret
  refine ⟨_, rfl, hown, (Below.refl _ _).grown hgr (Nat.le_refl _) ?_⟩
  intro k hk; simp [Value.ownBlock] at hk

/-- Whatever slice of bytes. -/
theorem copied_any (a : Option Addr) (l : List UInt8) (c : Nat) (w : World) (hl : l.length ≤ 140737488351232) (h : At w a (cb l)) :
    Calls Tryd.prog 46 #[.slice a l.length c] w fun e w' => ∃ v, e = .returned v ∧ w'.ownsRow w.heap.size 5 1 v l.length (cb l) ∧ Below w.heap.size w w' := by
  cases a with
  | none =>
    have hl0 : l = [] := by
      cases l with
      | nil => rfl
      | cons x r => obtain ⟨b, o, e, _⟩ := h 0 (.int .u8 x.toNat) (by simp [cb]); cases e
    subst hl0
    exact (copied_nil c w).mono fun e w' ⟨h1, h2⟩ => ⟨_, h1, by subst h2; exact World.ownsRow_nil _ _ _ _, h2 ▸ Below.refl _ _⟩
  | some ad =>
    refine copied_some ad l c w hl fun j u hj => ?_
    obtain ⟨b, o, e, hc⟩ := h j u hj
    cases e
    rw [Go.WideShapes.add_plain]; exact hc
end Go.Proofs.YtaojpdcjndlgpaaDoor
