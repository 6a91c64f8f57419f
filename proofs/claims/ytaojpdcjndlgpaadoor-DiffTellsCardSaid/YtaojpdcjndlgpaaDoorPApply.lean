/- diff.Apply: what changes make of bytes, and which fault. No conditions but Go's sizes. -/
import Derived.Test.YtaojpdcjndlgpaaDoorApplyP
import Derived.Test.YtaojpdcjndlgpaaDoorTold
import Derived.Laws.CopyOwn
import Derived.Test.YtaojpdcjndlgpaaDoorCut
import Derived.Test.YtaojpdcjndlgpaaDoorOwn
import Derived.Test.YtaojpdcjndlgpaaDoorClone
import Derived.Deep.RegionHeld3
import Derived.Deep.RegionLaw
import Derived.StillTailTactics
import Derived.StillGives
namespace Go.Proofs.YtaojpdcjndlgpaaDoor
open Go.RowKit
set_option maxRecDepth 100000

theorem papply_full (a1 a2 : Option Addr) (n m c1 c2 : Nat) (w : World) (h : 200 < m) :
    Calls Tryd.prog 26 #[.slice a1 n c1, .slice a2 m c2] w fun e w' => e = .returned (.tuple #[.slice none 0 0, errV 4]) ∧ w = w' := by
  go_enter Tryd.func26, Tryd.ntmps26
  go_wp2
  go_ret2
  exact ⟨rfl, rfl⟩

/-- How a call ends that tells a fault. -/
theorem close_err {w W : World} {b : List UInt8} {l : List Ch} {n : Int} (h : ap b l = ([], n)) (hb : Below w.heap.size w W) : ∃ v, Ending.returned (.tuple #[.slice none 0 0, errV n]) = .returned (.tuple #[v, errV (ap b l).2]) ∧ Sl W v (ap b l).1.length (cb (ap b l).1) ∧ Below w.heap.size w W := by
  rw [h]
  exact ⟨_, rfl, ⟨none, 0, rfl, Nat.le_refl _, by simp [maxLen], At.nil _ _⟩, hb⟩
theorem bytesEq_n (a1 a2 : Option Addr) (l1 l2 : List UInt8) (n1 n2 c1 c2 : Nat) (w : World) (e1 : l1.length = n1) (e2 : l2.length = n2) (h1 : At w a1 (cb l1)) (h2 : At w a2 (cb l2)) :
    Calls Tryd.prog 51 #[.slice a1 n1 c1, .slice a2 n2 c2] w fun e w' => e = .returned (.bool (decide (l1 = l2))) ∧ w' = w := by
  subst e1; subst e2; exact bytesEq_any a1 a2 l1 l2 c1 c2 w h1 h2
theorem bd1 {B : Nat} {a w : World} (h : Below B a w) : Below B a w.drew := ⟨h.os, h.tape, h.output, h.size, h.block⟩
theorem At.src {w : World} {an : Option Addr} {xs : List Value} (h : At w an xs) (h0 : 0 < xs.length) : ∃ ad, an = some ad ∧ ∀ j v, xs[j]? = some v → w.cell? (ad.add j) = some v := by
  obtain ⟨b, o, rfl, _⟩ := h.some_of h0
  exact ⟨_, rfl, h.news⟩
theorem step_copy_none {P : Program} {ops : Array Oper} {o : Oper} {a : Act} {w : World} {K : Act → World → Prop} {Q : Exit → Act → World → Prop} {E : Prop} (hgd : o.guard = none) (d s : Operand) (dT sT : TypeId)
    (ho : o.op = .call { callee := .builtin .copy, args := #[d, s], argTypes := #[dT, sT] }) (elem : TypeId) (hu : P.underlying dT = some (.slice elem)) (hsz : (P.info? elem).map (·.size) = some 1)
    (dp sp : Option Addr) (dLen dCap sLen sCap : Nat) (hd : a.eval d = .slice dp dLen dCap) (hs : a.eval s = .slice sp sLen sCap) (hn : Nat.min sLen dLen = 0) (h : K (a.put o.dst (goInt 0)) w) :
    if Region.wanted o (yielded ops a.tmps) = true then Oper.wp P o a w K Q else E := by
  have hw : Region.wanted o (yielded ops a.tmps) = true := by simp [Region.wanted, hgd]
  rw [if_pos hw]
  have hrun := run_copy_none (P := P) w dT sT o.type elem dp sp dLen dCap sLen sCap hu hsz hn
  unfold Oper.wp
  simp [execOp, ho, resolve, invoke, builtin, hd, hs, hrun, Result.andThen]
  exact h
/-- What a copy into a row of the call's own makes of it. -/
theorem splice_owns {w' : World} {base g cv : Nat} {L : List Value} {cur new : List UInt8} {p n : Nat} (hg : w'.heap[g]? = some (.cells (splice L p (cb new)).toArray 5 (0, 0)))
    (hbase : base ≤ g) (hL : L.length = cv) (ht : L.take n = cb cur) (hn : cur.length = n) (hcv : n ≤ cv) (hm : cv ≤ maxLen) (hp : p + new.length ≤ n) :
    w'.ownsRow base 5 1 (.slice (some ⟨g, 0, none⟩) n cv) n (cb (patch cur p new new.length)) := by
  have hpl : (patch cur p new new.length).length = n := by rw [patch_length _ _ _ _ (by omega) (Nat.le_refl _)]; exact hn
  refine ⟨by simp [hpl], .inr ⟨g, cv, _, rfl, hbase, hg, hcv, hm, ?_, ?_⟩⟩
  · rw [List.size_toArray, length_splice _ _ _ (by simp; omega)]; omega
  · have e : L = cb cur ++ L.drop n := by rw [← ht]; exact (List.take_append_drop n L).symm
    have hcl : (cb cur).length = n := by simp [hn]
    simp only [Nat.mul_one]
    apply List.ext_getElem?
    intro i
    have hcg : ∀ j : Nat, (cb cur)[j]? = (cur[j]?).map fun (b : UInt8) => Value.int .u8 (b.toNat : Int) := fun j => List.getElem?_map ..
    by_cases hi : i < n
    · rw [List.getElem?_take, if_pos hi]
      have hLi : ∀ j, j < n → L[j]? = (cb cur)[j]? := fun j hj => by rw [← ht, List.getElem?_take, if_pos hj]
      unfold splice patch
      rw [cb_append, cb_append]
      have l1 : (cb (cur.take p)).length = p := by simp; omega
      have l2 : (cb (new.take new.length)).length = new.length := by simp
      have l3 : (L.take p).length = p := by simp; omega
      rw [List.append_assoc]
      by_cases h1 : i < p
      · rw [List.getElem?_append_left (l₁ := L.take p) (by omega), List.getElem?_append_left (l₁ := cb (cur.take p)) (by omega), List.getElem?_take, if_pos h1, hLi i hi]
        simp [cb, h1]
      · rw [List.getElem?_append_right (l₁ := L.take p) (by omega), List.getElem?_append_right (l₁ := cb (cur.take p)) (by omega), l1, l3]
        by_cases h2 : i - p < new.length
        · rw [List.getElem?_append_left (l₁ := cb new) (by simpa using h2), List.getElem?_append_left (l₁ := cb (new.take new.length)) (by rw [l2]; exact h2)]
          simp
        · rw [List.getElem?_append_right (l₁ := cb new) (by simpa using h2), List.getElem?_append_right (l₁ := cb (new.take new.length)) (by rw [l2]; omega), List.getElem?_drop, hLi _ (by simp; omega)]
          simp only [cb_length, l2]
          simp only [cb, List.getElem?_map, List.getElem?_drop]
    · rw [List.getElem?_eq_none (by simp; omega), List.getElem?_eq_none (by simp [hpl]; omega)]

set_option maxHeartbeats 4000000 in
theorem papply_any (a1 a2 : Option Addr) (b : List UInt8) (l : List Ch) (c1 c2 : Nat) (w : World) (hm : b.length ≤ 140737488351232) (hl : l.length ≤ 200) (h1 : At w a1 (cb b)) (h2 : ChAt w a2 l) :
    Calls Tryd.prog 26 #[.slice a1 b.length c1, .slice a2 l.length c2] w fun e w' => ∃ v, e = .returned (.tuple #[v, errV (ap b l).2]) ∧ Sl w' v (ap b l).1.length (cb (ap b l).1) ∧ Below w.heap.size w w' := by
  have H1 := Lib.hid h1
  have H2 := Lib.hid h2
  have HM : b.length ≤ 9223372036854775807 := by omega
  have HM2 := Lib.hid hm
  clear h1 h2 hm
  go_enter Tryd.func26, Tryd.ntmps26
  go_wp2_with (go_at_call 50; refine (clone_any a1 b c1 _ HM2.out H1.out).mono ?_; rintro e w1 ⟨v1, rfl, hown1, hb1⟩; obtain ⟨av, cv, rfl, hcv, hcm, _⟩ := Sl.of_owns hown1; have HO1 := Lib.hid hown1; have HB1 := Lib.hid hb1; clear hown1 hb1)
  go_loopw [17] (fun i wr => ∃ (k : Nat) (cur : List UInt8), i = .int .i64 k ∧ k ≤ l.length ∧ Hid (cur.length = b.length) ∧ Hid (ap b l = ap cur (l.drop k)) ∧ Hid (wr.ownsRow w.heap.size 5 1 (.slice av b.length cv) b.length (cb cur)) ∧ Below w.heap.size w wr) (fun i _ => l.length - (intOf i).toNat)
  case atStart => exact ⟨0, b, rfl, Nat.zero_le _, Lib.hid rfl, Lib.hid rfl, HO1, HB1.out⟩
  case round =>
    obtain ⟨k, cur, rfl, hk, HC, HA, HO, hB⟩ := hrel
    have HB := Lib.hid hB
    have hBz := hB.size
    clear hB
    by_cases hlt : k < l.length
    · obtain ⟨b2, o2, ao, co, an, cn, rfl, p1, p2, p3, p4, p5, q1, q2, q3, q4⟩ := H2.out.some_of k hlt
      have g1 : wr.cell? ⟨b2, o2 + k * 3, none⟩ = some (.int .i64 l[k].at_) := cell_later HB.out p1
      have g2 : wr.cell? ⟨b2, o2 + k * 3 + 1, none⟩ = some (.slice ao l[k].old.length co) := cell_later HB.out p2
      have g3 : wr.cell? ⟨b2, o2 + k * 3 + 2, none⟩ = some (.slice an l[k].new.length cn) := cell_later HB.out p3
      have P4 := Lib.hid p4
      have P5 := Lib.hid p5
      clear p1 p2 p3 p4 p5
      have hdr : l.drop k = l[k] :: l.drop (k + 1) := List.drop_eq_getElem_cons hlt
      have HD : Hid (ap b l = ap cur (l[k] :: l.drop (k + 1))) := Lib.hid (hdr ▸ HA.out)
      clear hdr
      generalize hcdef : l[k] = c at *
      clear hcdef
      by_cases e1 : c.at_ < 0
      · go_wp2
        go_ret2
        exact close_err (HD.out.trans (ap_one (.inl e1))) (HB.out.alloc hBz _)
      obtain ⟨p, hp⟩ : ∃ p : Nat, c.at_ = p := ⟨c.at_.toNat, by omega⟩
      rw [hp] at g1 e1
      have HP := Lib.hid hp
      clear hp
      by_cases e2 : (b.length : Int) < p
      · go_wp2
        go_ret2
        exact close_err (HD.out.trans (ap_one (.inr (.inl (by rw [HP.out, HC.out]; omega))))) (HB.out.alloc hBz _)
      by_cases e3 : (b.length : Int) - p < c.old.length
      · go_wp2
        go_ret2
        exact close_err (HD.out.trans (ap_one (.inr (.inr (by rw [HP.out, HC.out]; omega))))) (HB.out.alloc hBz _)
      have HN : Hid (¬(c.at_ < 0 ∨ c.at_ > cur.length ∨ (c.old.length : Int) > cur.length - c.at_)) := Lib.hid (by rw [HP.out, HC.out]; omega)
      by_cases e4 : (c.old.length : Int) = c.new.length
      · have hb4 : ((c.old.length : Int) != (c.new.length : Int)) = false := by simpa using e4
        have HE4 := Lib.hid e4
        clear e4
        have hO := HO.out
        have hpl : p + c.old.length ≤ b.length := by omega
        have hcut : ((cur.drop p).take c.old.length).length = c.old.length := by have := HC.out; simp; omega
        have HCUT := Lib.hid hcut
        clear hcut
        by_cases hcp : cv = p
        · have hzb : cv ≤ p ∧ p ≤ b.length := by rcases hO.2 with ⟨hv, _⟩ | ⟨g, cap, cur', hv, _⟩ <;> simp only [Value.slice.injEq] at hv <;> omega
          have ho : c.old = [] := List.length_eq_zero_iff.1 (by omega)
          have hn : c.new = [] := List.length_eq_zero_iff.1 (by have := HE4.out; omega)
          have ho0 : c.old.length = 0 := by rw [ho]; rfl
          have hn0 : c.new.length = 0 := by rw [hn]; rfl
          have hbc : b.length = cv := by omega
          subst hcp
          rw [ho0] at *
          rw [hn0] at *
          clear hb4 hpl
          have HBC := Lib.hid hbc
          clear hbc
          have hw2 : 0 ≤ (cv : Int) := by omega
          have hw3 : (cv : Int).toNat = cv := by omega
          have hw1 : IntKind.i64.wrap (cv : Int) = (cv : Int) := IntWalk.i64_in _ (by omega)
          go_wp2
          go_region_with (((with_reducible refine (bytesEq_n _ _ [] [] _ _ _ _ _ List.length_nil List.length_nil (At.nil _ _) (At.nil _ _)).mono ?_); rintro e w' ⟨rfl, rfl⟩))
          all_goals
            clear hw1 hw2 hw3
            go_wp2
            go_region_law ((refine step_copy_none rfl (.tmp 69) (.tmp 71) 41 41 rfl 5 Tryd.underlying41 (by kernel_rfl) _ _ _ _ _ _ rfl rfl (Nat.zero_min _) ?_))
            all_goals
              go_wp2
              go_roundw
              case rel =>
                refine ⟨k + 1, cur, by go_num, by omega, HC, Lib.hid ?_, Lib.hid (HO.out.alloc _), bd1 (bd1 (HB.out.alloc hBz _))⟩
                rw [HD.out, ap_go HN.out HE4.out (by rw [ho]; simp), HP.out]
                rw [show patch cur ((cv : Int)).toNat c.new c.new.length = cur from by rw [hn]; exact patch_zero _ _ _]
              case measure => simp [intOf]; omega
        · obtain ⟨g, L, rfl, hg0, hg1, hg2, hg3, hg4L, hg5⟩ : ∃ g, ∃ L : List Value, av = some ⟨g, 0, none⟩ ∧ w.heap.size ≤ g ∧ wr.heap[g]? = some (.cells L.toArray 5 (0, 0)) ∧ b.length ≤ cv ∧ cv ≤ maxLen ∧ L.length = cv ∧ L.take b.length = cb cur := by
            rcases hO.2 with ⟨hv, _⟩ | ⟨g, cap, cur', hv, hr1, hr2, hr3, hr4, hr5, hr6⟩
            · simp only [Value.slice.injEq] at hv; omega
            · simp only [Value.slice.injEq] at hv
              obtain ⟨h1, _, rfl⟩ := hv
              exact ⟨g, cur'.toList, h1, hr1, by simpa using hr2, hr3, hr4, by simpa using hr5, by simpa using hr6⟩
          have hX : At wr (some ⟨g, p, none⟩) (cb ((cur.drop p).take c.old.length)) := by
            have := (At.of_owns hO).cut p (p + c.old.length)
            simpa [cut] using this
          have HX := Lib.hid hX
          have hglt : g < wr.heap.size := (World.ownsRow.lt HO.out g rfl).2
          have HG : Hid (∀ o, (wr.alloc o).heap[g]? = some (.cells L.toArray 5 (0, 0))) := Lib.hid (fun o => by rw [Below.heap_alloc _ _ _ hglt]; exact hg1)
          have HG5 := Lib.hid hg5
          have HXA : Hid (∀ o, At ((wr.alloc o).drew) (some ⟨g, p, none⟩) (cb ((cur.drop p).take c.old.length))) := Lib.hid (fun o => hX.below (B := wr.heap.size) ⟨rfl, rfl, rfl, by simp, fun k hk => Below.heap_alloc _ _ _ hk⟩ (Nat.le_refl _))
          have HPA : Hid (∀ o, At ((wr.alloc o).drew) ao (cb c.old)) := Lib.hid (fun o => P4.out.below (B := w.heap.size) (HB.out.trans ⟨rfl, rfl, rfl, by simp, fun k hk => Below.heap_alloc _ _ _ (by omega)⟩) (Nat.le_refl _))
          have HMIN : Hid ((cb c.new).length = Nat.min c.new.length (b.length - p)) := Lib.hid (by rw [cb_length]; show c.new.length = min c.new.length (b.length - p); have := HE4.out; omega)
          have HNA : Hid (∀ o, At ((wr.alloc o).drew.drew) an (cb c.new)) := Lib.hid (fun o => P5.out.below (B := w.heap.size) (HB.out.trans ⟨rfl, rfl, rfl, by simp, fun k hk => Below.heap_alloc _ _ _ (by omega)⟩) (Nat.le_refl _))
          clear hX hO hg1 hg5
          by_cases e6 : (cur.drop p).take c.old.length = c.old
          · have hb6 : decide ((cur.drop p).take c.old.length = c.old) = true := by simpa using e6
            have HE6 := Lib.hid e6
            clear e6
            go_wp2
            have hw1 : IntKind.i64.wrap ((p : Int) + c.old.length) = (p : Int) + c.old.length := IntWalk.i64_in _ (by omega)
            have hw2 : 0 ≤ (p : Int) + c.old.length := by omega
            have hw3 : ((p : Int) + c.old.length).toNat = p + c.old.length := by omega
            have hw4 : (p : Int) + c.old.length ≤ cv := by omega
            go_region_with (((with_reducible refine (bytesEq_n _ _ ((cur.drop p).take c.old.length) c.old _ _ _ _ _ HCUT.out rfl ?_ ?_).mono ?_); exact HXA.out _; exact HPA.out _; rintro e w' ⟨rfl, rfl⟩))
            all_goals clear hw1 hw2 hw3 hw4
            all_goals
              go_wp2
              go_region_law ((refine step_copy_splice rfl (.tmp 69) (.tmp 71) 41 41 rfl 5 Tryd.underlying41 (by kernel_rfl) _ _ _ _ _ _ rfl rfl g p L 5 (HG.out _) (cb c.new) (HMIN.out) (fun h0 => ⟨rfl, (HNA.out _).src h0⟩) (by have := HE4.out; simp; omega) (cb_one _) w.heap.size w (bd1 (bd1 (HB.out.alloc hBz _))) hg0 ?_; intro w4 hg4 hb4))
              all_goals
                go_wp2
                go_roundw
                case rel =>
                  exact ⟨k + 1, patch cur p c.new c.new.length, by go_num, by omega, Lib.hid (by rw [patch_length _ _ _ _ (by have := HC.out; have := HE4.out; omega) (Nat.le_refl _)]; exact HC.out),
                    Lib.hid (by rw [HD.out, ap_go HN.out HE4.out (by rw [HP.out]; exact HE6.out), HP.out]; rfl),
                    Lib.hid (splice_owns hg4.out hg0 hg4L HG5.out HC.out hg2 hg3 (by have := HE4.out; omega)), hb4⟩
                case measure => simp [intOf]; omega
          · have hb6 : decide ((cur.drop p).take c.old.length = c.old) = false := by simpa using e6
            have HE6 := Lib.hid e6
            clear e6
            go_wp2
            have hw1 : IntKind.i64.wrap ((p : Int) + c.old.length) = (p : Int) + c.old.length := IntWalk.i64_in _ (by omega)
            have hw2 : 0 ≤ (p : Int) + c.old.length := by omega
            have hw3 : ((p : Int) + c.old.length).toNat = p + c.old.length := by omega
            have hw4 : (p : Int) + c.old.length ≤ cv := by omega
            go_region_with (((with_reducible refine (bytesEq_n _ _ ((cur.drop p).take c.old.length) c.old _ _ _ _ _ HCUT.out rfl ?_ ?_).mono ?_); exact HXA.out _; exact HPA.out _; rintro e w' ⟨rfl, rfl⟩))
            all_goals clear hw1 hw2 hw3 hw4
            all_goals
              go_wp2
              go_ret2
              exact close_err (HD.out.trans (ap_six HN.out HE4.out (by rw [HP.out]; exact HE6.out))) (bd1 (HB.out.alloc hBz _))
      · have hb4 : ((c.old.length : Int) != (c.new.length : Int)) = true := by simpa using e4
        have HE4 := Lib.hid e4
        clear e4
        go_wp2
        go_ret2
        exact close_err (HD.out.trans (ap_three HN.out HE4.out)) (HB.out.alloc hBz _)
    · go_wp2
      go_ret2
      have hk' : l.drop k = [] := List.drop_eq_nil_of_le (by omega)
      have hA := HA.out
      rw [hk'] at hA
      refine ⟨_, by rw [hA]; rfl, ?_, HB.out⟩
      rw [hA]
      show Sl wr _ cur.length (cb cur)
      rw [HC.out]
      exact Sl.of_owns HO.out
end Go.Proofs.YtaojpdcjndlgpaaDoor
