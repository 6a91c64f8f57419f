/- Laws on a list of changes that a call owns: one more; one byte more of what was there, of what is there. No conditions. -/
import Derived.Test.YtaojpdcjndlgpaaDoorDiffP
import Derived.Test.YtaojpdcjndlgpaaDoorOwn
import Derived.Deep.RegionHeld3
import Derived.Deep.RegionHeldLaw
import Derived.Deep.RegionLaw
import Derived.Deep.RegionLawGrows
namespace Go.Proofs.YtaojpdcjndlgpaaDoor
open Go.RowKit
set_option maxRecDepth 100000

/-- A change with the slices that hold its bytes. -/
abbrev CS := Ch × Value × Value
def tS (S : List CS) : List (Int × Value × Value) := S.map fun s => (s.1.at_, s.2.1, s.2.2)
def rowsS (S : List CS) : List Row := S.flatMap fun s => [⟨5, 1, s.2.1, s.1.old.length, cb s.1.old⟩, ⟨5, 1, s.2.2, s.1.new.length, cb s.1.new⟩]
def outS (v : Value) (S : List CS) : Row := ⟨98, 3, v, S.length, cc (tS S)⟩

theorem info_ch : (Tryd.prog.info? 98).map (fun i => (i.zero, i.size, i.bytes)) = some (some (.agg #[.int .i64 0, .slice none 0 0, .slice none 0 0]), 3, 56) := by kernel_rfl

/-- append of one change, its cells given by operands, as a step of a region that draws. -/
theorem step_app_ch {w : World} {ops : Array Oper} {o : Oper} {a : Act} {K : Act → World → Prop} {Q : Exit → Act → World → Prop} {E : Prop} (hgd : o.guard = none) (s x p0 p1 p2 : Operand)
    (ho : o.op = .call { callee := .builtin .append, args := #[s, x], argTypes := #[56, 56] })
    (base : Nat) (v : Value) (n : Nat) (xs : List Value) (hs : a.eval s = v) (hown : w.ownsRow base 98 3 v n xs)
    (B c : Nat) (hx : a.eval x = .slice (some ⟨B, 0, none⟩) 1 c) (h0 : w.cell? ⟨B, 0, none⟩ = some (a.eval p0)) (h1 : w.cell? ⟨B, 1, none⟩ = some (a.eval p1)) (h2 : w.cell? ⟨B, 2, none⟩ = some (a.eval p2))
    (o0 : (a.eval p0).oneCell' = true) (o1 : (a.eval p1).oneCell' = true) (o2 : (a.eval p2).oneCell' = true)
    (hn : n ≤ 6400) (hbase : base ≤ w.heap.size)
    (h : ∀ g cap w', w'.ownsRow base 98 3 (.slice (some ⟨g, 0, none⟩) (n + 1) cap) (n + 1) (xs ++ [a.eval p0, a.eval p1, a.eval p2]) → w.grownBy w' v.ownBlock → (v.ownBlock = some g ∨ g = w.heap.size) → g < w'.heap.size → K (a.put o.dst (.slice (some ⟨g, 0, none⟩) (n + 1) cap)) w') :
    if Region.wanted o (yielded ops a.tmps) = true then Oper.wp Tryd.prog o a w K Q else E := by
  obtain ⟨i0, hi, hz0, hz1, hz2⟩ := info_parts info_ch
  refine step_append_lies w hgd s x 56 ho base 98 i0 _ 3 56 Tryd.underlying56 hi hz0 hz1 hz2 rfl (by decide) v n xs hs hown ⟨B, 0, none⟩ 1 c [a.eval p0, a.eval p1, a.eval p2] hx rfl ?_ ?_ (by decide) (by unfold maxLen; omega) (by omega) hbase _ rfl h
  · intro j u hj
    rw [Go.WideShapes.add_plain]
    match j, hj with
    | 0, hj => simp at hj; subst hj; simpa using h0
    | 1, hj => simp at hj; subst hj; simpa using h1
    | 2, hj => simp at hj; subst hj; simpa using h2
  · intro u hu
    simp at hu
    rcases hu with rfl | rfl | rfl <;> assumption

theorem tS_append (S : List CS) (s : CS) : cc (tS (S ++ [s])) = cc (tS S) ++ [.int .i64 s.1.at_, s.2.1, s.2.2] := by simp [tS, cc_append]; simp [cc, c3]
theorem rowsS_append (S : List CS) (s : CS) : rowsS (S ++ [s]) = rowsS S ++ [⟨5, 1, s.2.1, s.1.old.length, cb s.1.old⟩, ⟨5, 1, s.2.2, s.1.new.length, cb s.1.new⟩] := by simp [rowsS]

/-- A change more. -/
theorem owns_push {wr W w1 : World} {base g cap g1 g2 : Nat} {v : Value} {S : List CS} (hO : Owns wr base (outS v S :: rowsS S)) (hW : wr.grownBy W none) (s : CS)
    (e1 : s.2.1.ownBlock = some g1) (e2 : s.2.2.ownBlock = some g2) (hg1 : wr.heap.size ≤ g1) (hg2 : wr.heap.size ≤ g2) (h12 : g1 ≠ g2)
    (r1 : W.ownsRow base 5 1 s.2.1 s.1.old.length (cb s.1.old)) (r2 : W.ownsRow base 5 1 s.2.2 s.1.new.length (cb s.1.new))
    (hown : w1.ownsRow base 98 3 (.slice (some ⟨g, 0, none⟩) (S.length + 1) cap) (S.length + 1) (cc (tS S) ++ [.int .i64 s.1.at_, s.2.1, s.2.2]))
    (hgrow : W.grownBy w1 v.ownBlock) (hat : v.ownBlock = some g ∨ g = W.heap.size) : Owns w1 base (outS (.slice (some ⟨g, 0, none⟩) (S.length + 1) cap) (S ++ [s]) :: rowsS (S ++ [s])) := by
  have hlt := hO.lt
  have o1 := hO.kept hW
  have o2 : Owns W base (⟨5, 1, s.2.2, s.1.new.length, cb s.1.new⟩ :: outS v S :: rowsS S) := o1.add r2 (fun k hk r hr e => by
    have := (hlt r hr k e).2
    rw [e2] at hk; cases hk; omega)
  have o3 : Owns W base (⟨5, 1, s.2.1, s.1.old.length, cb s.1.old⟩ :: ⟨5, 1, s.2.2, s.1.new.length, cb s.1.new⟩ :: outS v S :: rowsS S) := o2.add r1 (fun k hk r hr e => by
    rw [e1] at hk; cases hk
    rcases List.mem_cons.1 hr with rfl | hr
    · rw [e2] at e; cases e; exact h12 rfl
    · have := (hlt r hr _ e).2; omega)
  have o4 : Owns W base (outS v S :: (rowsS S ++ [⟨5, 1, s.2.1, s.1.old.length, cb s.1.old⟩, ⟨5, 1, s.2.2, s.1.new.length, cb s.1.new⟩])) := by
    refine o3.perm ?_
    refine (List.perm_append_comm (l₁ := [_, _]) (l₂ := outS v S :: rowsS S)).trans ?_
    simp
  have o5 := o4.head (r' := outS (.slice (some ⟨g, 0, none⟩) (S.length + 1) cap) (S ++ [s])) hgrow (by
    show World.ownsRow _ _ _ _ _ _ _
    simp only [outS, List.length_append, List.length_cons, List.length_nil, tS_append]
    exact hown) (by
      rcases hat with h | h
      · left; rw [show (outS v S).v = v from rfl, h]; rfl
      · right; exact ⟨g, rfl, by omega⟩)
  rw [rowsS_append]
  exact o5

/-- Two bytes laid in blocks of their own, then the change, then the append: what holds then. -/
theorem push_two {w wr w1 : World} {g cap m : Nat} {v : Value} {S : List CS} {x y : UInt8} {o3 : Obj} (hO : Owns wr w.heap.size (outS v S :: rowsS S)) (hB : Below w.heap.size w wr) (c : Ch) (g1 g2 : Nat)
    (hg : (g1 = wr.heap.size ∧ g2 = wr.heap.size + 1 ∧ c.old = [x] ∧ c.new = [y]) ∨ (g1 = wr.heap.size + 1 ∧ g2 = wr.heap.size ∧ c.old = [y] ∧ c.new = [x]))
    (hown : w1.ownsRow w.heap.size 98 3 (.slice (some ⟨g, 0, none⟩) (S.length + 1) cap) (S.length + 1) (cc (tS S) ++ [.int .i64 c.at_, .slice (some ⟨g1, 0, none⟩) 1 1, .slice (some ⟨g2, 0, none⟩) 1 1]))
    (hgrow : ((((wr.drewN m).alloc (.cells #[.int .u8 (x.toNat : Int)] 5)).alloc (.cells #[.int .u8 (y.toNat : Int)] 5)).alloc o3).grownBy w1 v.ownBlock)
    (hat : v.ownBlock = some g ∨ g = ((((wr.drewN m).alloc (.cells #[.int .u8 (x.toNat : Int)] 5)).alloc (.cells #[.int .u8 (y.toNat : Int)] 5)).alloc o3).heap.size) :
    Owns w1 w.heap.size (outS (.slice (some ⟨g, 0, none⟩) (S.length + 1) cap) (S ++ [(c, .slice (some ⟨g1, 0, none⟩) 1 1, .slice (some ⟨g2, 0, none⟩) 1 1)]) :: rowsS (S ++ [(c, .slice (some ⟨g1, 0, none⟩) 1 1, .slice (some ⟨g2, 0, none⟩) 1 1)])) ∧ Below w.heap.size w w1 := by
  have hz := hB.size
  have hW : wr.grownBy ((((wr.drewN m).alloc (.cells #[.int .u8 (x.toNat : Int)] 5)).alloc (.cells #[.int .u8 (y.toNat : Int)] 5)).alloc o3) none :=
    grownBy_trans (grownBy_trans (grownBy_trans (grownBy_drewN _ _ _) (World.grownBy_alloc _ _ _)) (World.grownBy_alloc _ _ _)) (World.grownBy_alloc _ _ _)
  have k1 : ((((wr.drewN m).alloc (.cells #[.int .u8 (x.toNat : Int)] 5)).alloc (.cells #[.int .u8 (y.toNat : Int)] 5)).alloc o3).ownsRow w.heap.size 5 1 (.slice (some ⟨wr.heap.size, 0, none⟩) 1 1) 1 (cb [x]) :=
    ((World.ownsRow_lit (base := w.heap.size) (e := 5) (size := 1) (wr.drewN m) #[.int .u8 (x.toNat : Int)] 1 hz (by decide) rfl).alloc _).alloc _
  have k2 : ((((wr.drewN m).alloc (.cells #[.int .u8 (x.toNat : Int)] 5)).alloc (.cells #[.int .u8 (y.toNat : Int)] 5)).alloc o3).ownsRow w.heap.size 5 1 (.slice (some ⟨wr.heap.size + 1, 0, none⟩) 1 1) 1 (cb [y]) := by
    have := (World.ownsRow_lit (base := w.heap.size) (e := 5) (size := 1) ((wr.drewN m).alloc (.cells #[.int .u8 (x.toNat : Int)] 5)) #[.int .u8 (y.toNat : Int)] 1 (by simp; omega) (by decide) rfl).alloc o3
    simpa [cb] using this
  refine ⟨?_, ?_⟩
  · refine owns_push hO hW (c, .slice (some ⟨g1, 0, none⟩) 1 1, .slice (some ⟨g2, 0, none⟩) 1 1) (g1 := g1) (g2 := g2) rfl rfl ?_ ?_ ?_ ?_ ?_ hown hgrow hat
    · rcases hg with ⟨h, _⟩ | ⟨h, _⟩ <;> omega
    · rcases hg with ⟨_, h, _⟩ | ⟨_, h, _⟩ <;> omega
    · rcases hg with ⟨h, h', _⟩ | ⟨h, h', _⟩ <;> omega
    · rcases hg with ⟨rfl, rfl, h, _⟩ | ⟨rfl, rfl, h, _⟩
      · simpa [h] using k1
      · simpa [h] using k2
    · rcases hg with ⟨rfl, rfl, _, h⟩ | ⟨rfl, rfl, _, h⟩
      · simpa [h] using k2
      · simpa [h] using k1
  · refine Below.grown (hB.trans (Below.alloc (Below.alloc (Below.alloc (⟨rfl, rfl, rfl, Nat.le_refl _, fun _ _ => rfl⟩ : Below w.heap.size wr (wr.drewN m)) hz _) (by simp; omega) _) (by simp; omega) _)) hgrow (by simp; omega) ?_
    intro k hk
    exact (hO.lt _ (List.mem_cons_self ..) k hk).1

/-- append of one byte that lies in a block of its own, as a step of a region that draws. -/
theorem step_app_u8 {w : World} {ops : Array Oper} {o : Oper} {a : Act} {K : Act → World → Prop} {Q : Exit → Act → World → Prop} {E : Prop} (hgd : o.guard = none) (s x : Operand)
    (ho : o.op = .call { callee := .builtin .append, args := #[s, x], argTypes := #[41, 41] })
    (base : Nat) (v : Value) (n : Nat) (xs : List Value) (hs : a.eval s = v) (hown : w.ownsRow base 5 1 v n xs)
    (B c : Nat) (hx : a.eval x = .slice (some ⟨B, 0, none⟩) 1 c) (u : Value) (h0 : w.cell? ⟨B, 0, none⟩ = some u) (o0 : u.oneCell' = true)
    (hn : n ≤ 140737488351232) (hbase : base ≤ w.heap.size)
    (h : ∀ g cap w', w'.ownsRow base 5 1 (.slice (some ⟨g, 0, none⟩) (n + 1) cap) (n + 1) (xs ++ [u]) → w.grownBy w' v.ownBlock → (v.ownBlock = some g ∨ g = w.heap.size) → g < w'.heap.size → K (a.put o.dst (.slice (some ⟨g, 0, none⟩) (n + 1) cap)) w') :
    if Region.wanted o (yielded ops a.tmps) = true then Oper.wp Tryd.prog o a w K Q else E := by
  obtain ⟨i0, hi, hz0, hz1, hz2⟩ := info_parts info_u8
  refine step_append_lies w hgd s x 41 ho base 5 i0 _ 1 1 Tryd.underlying41 hi hz0 hz1 hz2 rfl (by decide) v n xs hs hown ⟨B, 0, none⟩ 1 c [u] hx rfl ?_ ?_ (by decide) (by unfold maxLen; omega) (by omega) hbase _ rfl h
  · intro j u hj
    rw [Go.WideShapes.add_plain]
    match j, hj with
    | 0, hj => simp at hj; subst hj; simpa using h0
  · intro u hu
    simp at hu
    subst hu; exact o0

theorem tS_set1 (S : List CS) (s : CS) (v : Value) (l : List UInt8) : (cc (tS (S ++ [s]))).set (S.length * 3 + 1) v = cc (tS (S ++ [({ at_ := s.1.at_, old := l, new := s.1.new }, v, s.2.2)])) := by
  rw [tS_append, tS_append]
  have e : (cc (tS S)).length = S.length * 3 := by rw [cc_length]; simp [tS]
  rw [List.set_append_right _ _ (by omega), e]
  simp
theorem tS_set2 (S : List CS) (s : CS) (v : Value) (l : List UInt8) : (cc (tS (S ++ [s]))).set (S.length * 3 + 2) v = cc (tS (S ++ [({ at_ := s.1.at_, old := s.1.old, new := l }, s.2.1, v)])) := by
  rw [tS_append, tS_append]
  have e : (cc (tS S)).length = S.length * 3 := by rw [cc_length]; simp [tS]
  rw [List.set_append_right _ _ (by omega), e]
  simp

/-- One byte more of what was there. -/
theorem ext_old {wr W w1 : World} {base g0 cv g cap : Nat} {S : List CS} {s : CS} {x : UInt8} (hO : Owns wr base (outS (.slice (some ⟨g0, 0, none⟩) (S.length + 1) cv) (S ++ [s]) :: rowsS (S ++ [s]))) (hW : wr.grownBy W none)
    (hown : w1.ownsRow base 5 1 (.slice (some ⟨g, 0, none⟩) (s.1.old.length + 1) cap) (s.1.old.length + 1) (cb s.1.old ++ [.int .u8 (x.toNat : Int)])) (hgrow : W.grownBy w1 s.2.1.ownBlock) (hat : s.2.1.ownBlock = some g ∨ g = W.heap.size) :
    Owns (w1.setCell ⟨g0, S.length * 3 + 1, none⟩ (.slice (some ⟨g, 0, none⟩) (s.1.old.length + 1) cap)) base
      (outS (.slice (some ⟨g0, 0, none⟩) (S.length + 1) cv) (S ++ [({ at_ := s.1.at_, old := s.1.old ++ [x], new := s.1.new }, .slice (some ⟨g, 0, none⟩) (s.1.old.length + 1) cap, s.2.2)]) ::
        rowsS (S ++ [({ at_ := s.1.at_, old := s.1.old ++ [x], new := s.1.new }, .slice (some ⟨g, 0, none⟩) (s.1.old.length + 1) cap, s.2.2)])) := by
  have h1 := hO.kept hW
  rw [rowsS_append] at h1 ⊢
  have e9 : ∀ t : CS, (S ++ [t]).length = S.length + 1 := fun t => by simp
  simp only [outS, e9] at h1 ⊢
  have h2 : Owns W base ((outS (.slice (some ⟨g0, 0, none⟩) (S.length + 1) cv) (S ++ [s]) :: rowsS S) ++ ⟨5, 1, s.2.1, s.1.old.length, cb s.1.old⟩ :: [⟨5, 1, s.2.2, s.1.new.length, cb s.1.new⟩]) := by simpa [outS] using h1
  have h3 := h2.at (r' := ⟨5, 1, .slice (some ⟨g, 0, none⟩) (s.1.old.length + 1) cap, (s.1.old ++ [x]).length, cb (s.1.old ++ [x])⟩) hgrow (by
    show World.ownsRow _ _ _ _ _ _ _
    simp only [List.length_append, List.length_cons, List.length_nil, cb_append]
    exact hown) (by
    rcases hat with h | h
    · left; exact h.symm
    · right; exact ⟨g, rfl, by omega⟩)
  simp only [List.cons_append, outS, e9] at h3
  have h4 := h3.store (S.length * 3 + 1) (.slice (some ⟨g, 0, none⟩) (s.1.old.length + 1) cap)
  rw [tS_set1 S s _ (s.1.old ++ [x])] at h4
  simpa [outS] using h4
theorem ext_new {wr W w1 : World} {base g0 cv g cap : Nat} {S : List CS} {s : CS} {x : UInt8} (hO : Owns wr base (outS (.slice (some ⟨g0, 0, none⟩) (S.length + 1) cv) (S ++ [s]) :: rowsS (S ++ [s]))) (hW : wr.grownBy W none)
    (hown : w1.ownsRow base 5 1 (.slice (some ⟨g, 0, none⟩) (s.1.new.length + 1) cap) (s.1.new.length + 1) (cb s.1.new ++ [.int .u8 (x.toNat : Int)])) (hgrow : W.grownBy w1 s.2.2.ownBlock) (hat : s.2.2.ownBlock = some g ∨ g = W.heap.size) :
    Owns (w1.setCell ⟨g0, S.length * 3 + 2, none⟩ (.slice (some ⟨g, 0, none⟩) (s.1.new.length + 1) cap)) base
      (outS (.slice (some ⟨g0, 0, none⟩) (S.length + 1) cv) (S ++ [({ at_ := s.1.at_, old := s.1.old, new := s.1.new ++ [x] }, s.2.1, .slice (some ⟨g, 0, none⟩) (s.1.new.length + 1) cap)]) ::
        rowsS (S ++ [({ at_ := s.1.at_, old := s.1.old, new := s.1.new ++ [x] }, s.2.1, .slice (some ⟨g, 0, none⟩) (s.1.new.length + 1) cap)])) := by
  have h1 := hO.kept hW
  rw [rowsS_append] at h1 ⊢
  have e9 : ∀ t : CS, (S ++ [t]).length = S.length + 1 := fun t => by simp
  simp only [outS, e9] at h1 ⊢
  have h2 : Owns W base ((outS (.slice (some ⟨g0, 0, none⟩) (S.length + 1) cv) (S ++ [s]) :: (rowsS S ++ [⟨5, 1, s.2.1, s.1.old.length, cb s.1.old⟩])) ++ ⟨5, 1, s.2.2, s.1.new.length, cb s.1.new⟩ :: []) := by simpa [outS] using h1
  have h3 := h2.at (r' := ⟨5, 1, .slice (some ⟨g, 0, none⟩) (s.1.new.length + 1) cap, (s.1.new ++ [x]).length, cb (s.1.new ++ [x])⟩) hgrow (by
    show World.ownsRow _ _ _ _ _ _ _
    simp only [List.length_append, List.length_cons, List.length_nil, cb_append]
    exact hown) (by
    rcases hat with h | h
    · left; exact h.symm
    · right; exact ⟨g, rfl, by omega⟩)
  simp only [List.cons_append, outS, e9] at h3
  have h4 := h3.store (S.length * 3 + 2) (.slice (some ⟨g, 0, none⟩) (s.1.new.length + 1) cap)
  rw [tS_set2 S s _ (s.1.new ++ [x])] at h4
  simpa [outS] using h4

end Go.Proofs.YtaojpdcjndlgpaaDoor
