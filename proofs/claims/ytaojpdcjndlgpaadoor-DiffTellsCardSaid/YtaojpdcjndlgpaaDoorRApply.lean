/- vaultref1.Apply: what changes make of bytes, and which fault. No conditions but Go's sizes. -/
import Derived.Test.YtaojpdcjndlgpaaDoorApplyP
import Derived.Test.YtaojpdcjndlgpaaDoorCut
import Derived.Test.YtaojpdcjndlgpaaDoorOwn
import Derived.Test.YtaojpdcjndlgpaaDoorClone
import Derived.Deep.RegionHeld3
import Derived.Deep.RegionLaw
import Derived.StillTailTactics
import Derived.StillGives
namespace Go.Proofs.YtaojpdcjndlgpaaDoor
open Go.RowKit
set_option maxRecDepth 100000

theorem rapply_full (a1 a2 : Option Addr) (n m c1 c2 : Nat) (w : World) (h : 200 < m) :
    Calls Tryd.prog 25 #[.slice a1 n c1, .slice a2 m c2] w fun e w' => e = .returned (.tuple #[.slice none 0 0, .int .i64 4]) ∧ w = w' := by
  go_enter Tryd.func25, Tryd.ntmps25
  go_wp2
  go_ret2
  exact ⟨rfl, rfl⟩

theorem cb_set (l : List UInt8) (i : Nat) (x : UInt8) : cb (l.set i x) = (cb l).set i (.int .u8 (x.toNat : Int)) := by simp [cb, List.map_set]
/-- How a call ends that tells a fault. -/
theorem close_bad {w W : World} {b : List UInt8} {l : List Ch} {n : Int} (h : ap b l = ([], n)) (hb : Below w.heap.size w W) : ∃ v, Ending.returned (.tuple #[.slice none 0 0, .int .i64 n]) = .returned (.tuple #[v, .int .i64 (ap b l).2]) ∧ Sl W v (ap b l).1.length (cb (ap b l).1) ∧ Below w.heap.size w W := by
  rw [h]
  exact ⟨_, rfl, ⟨none, 0, rfl, Nat.le_refl _, by simp [maxLen], At.nil _ _⟩, hb⟩
theorem close_bad_ {w W : World} {b : List UInt8} {l : List Ch} {n m : Int} (h : ap b l = ([], n)) (e : m = n) (hb : Below w.heap.size w W) : ∃ v, Ending.returned (.tuple #[.slice none 0 0, .int .i64 m]) = .returned (.tuple #[v, .int .i64 (ap b l).2]) ∧ Sl W v (ap b l).1.length (cb (ap b l).1) ∧ Below w.heap.size w W := e ▸ close_bad h hb

set_option maxHeartbeats 4000000 in
theorem rapply_any (a1 a2 : Option Addr) (b : List UInt8) (l : List Ch) (c1 c2 : Nat) (w : World) (hm : b.length ≤ 140737488351232) (hl : l.length ≤ 200) (h1 : At w a1 (cb b)) (h2 : ChAt w a2 l) :
    Calls Tryd.prog 25 #[.slice a1 b.length c1, .slice a2 l.length c2] w fun e w' => ∃ v, e = .returned (.tuple #[v, .int .i64 (ap b l).2]) ∧ Sl w' v (ap b l).1.length (cb (ap b l).1) ∧ Below w.heap.size w w' := by
  have H1 := Lib.hid h1
  have H2 := Lib.hid h2
  have HM : b.length ≤ 9223372036854775807 := by omega
  have HM2 := Lib.hid hm
  clear h1 h2 hm
  go_enter Tryd.func25, Tryd.ntmps25
  go_wp2_with (go_at_call 46; refine (copied_any a1 b c1 _ HM2.out H1.out).mono ?_; rintro e w1 ⟨v1, rfl, hown1, hb1⟩; obtain ⟨av, cv, rfl, hcv, _, _⟩ := Sl.of_owns hown1; have HO1 := Lib.hid hown1; have HB1 := Lib.hid hb1; clear hown1 hb1)
  go_loopw [7] (fun i wr => ∃ (k : Nat) (cur : List UInt8), i = .int .i64 k ∧ k ≤ l.length ∧ Hid (cur.length = b.length) ∧ Hid (ap b l = ap cur (l.drop k)) ∧ Hid (wr.ownsRow w.heap.size 5 1 (.slice av b.length cv) b.length (cb cur)) ∧ Below w.heap.size w wr) (fun i _ => l.length - (intOf i).toNat)
  case atStart => exact ⟨0, b, rfl, Nat.zero_le _, Lib.hid rfl, Lib.hid rfl, HO1, HB1.out⟩
  case round =>
    obtain ⟨k, cur, rfl, hk, HC, HA, HO, hB⟩ := hrel
    have HB := Lib.hid hB
    have hBz := hB.size
    clear hB
    by_cases hlt : k < l.length
    · obtain ⟨b2, o2, ao, co, an, cn, rfl, p1, p2, p3, p4, p5, q1, q2, q3, q4⟩ := H2.out.some_of k hlt
      have g1 : wr.cell? ⟨b2, o2 + k * 3, none⟩ = some (.int .i64 l[k].at_) := cell_later HB.out p1
      have g2 : wr.cell? ⟨b2, o2 + k * 3 + 1, none⟩ = some (.slice ao l[k].old.length co) := cell_later HB.out p2
      have g3 : wr.cell? ⟨b2, o2 + k * 3 + 2, none⟩ = some (.slice an l[k].new.length cn) := cell_later HB.out p3
      have P4 := Lib.hid p4
      have P5 := Lib.hid p5
      clear p1 p2 p3 p4 p5
      have hdr : l.drop k = l[k] :: l.drop (k + 1) := List.drop_eq_getElem_cons hlt
      have HD : Hid (ap b l = ap cur (l[k] :: l.drop (k + 1))) := Lib.hid (hdr ▸ HA.out)
      clear hdr
      generalize hcdef : l[k] = c at *
      clear hcdef
      by_cases e1 : c.at_ < 0
      · go_wp2
        go_ret2
        exact close_bad (HD.out.trans (ap_one (.inl e1))) (HB.out.alloc hBz _)
      obtain ⟨p, hp⟩ : ∃ p : Nat, c.at_ = p := ⟨c.at_.toNat, by omega⟩
      rw [hp] at g1 e1
      have HP := Lib.hid hp
      clear hp
      by_cases e2 : (b.length : Int) < p
      · go_wp2
        go_ret2
        exact close_bad (HD.out.trans (ap_one (.inr (.inl (by rw [HP.out, HC.out]; omega))))) (HB.out.alloc hBz _)
      by_cases e3 : (b.length : Int) - p < c.old.length
      · go_wp2
        go_ret2
        exact close_bad (HD.out.trans (ap_one (.inr (.inr (by rw [HP.out, HC.out]; omega))))) (HB.out.alloc hBz _)
      have HN : Hid (¬(c.at_ < 0 ∨ c.at_ > cur.length ∨ (c.old.length : Int) > cur.length - c.at_)) := Lib.hid (by rw [HP.out, HC.out]; omega)
      by_cases e4 : (c.old.length : Int) = c.new.length
      · have hb4 : ((c.old.length : Int) != (c.new.length : Int)) = false := by simpa using e4
        have HE4 := Lib.hid e4
        clear e4
        have hO := HO.out
        have hpl : p + c.old.length ≤ b.length := by omega
        have hcut : ((cur.drop p).take c.old.length).length = c.old.length := by have := HC.out; simp; omega
        have HCUT := Lib.hid hcut
        clear hcut
        by_cases hcp : cv = p
        · have hzb : cv ≤ p ∧ p ≤ b.length := by rcases hO.2 with ⟨hv, _⟩ | ⟨g, cap, cur', hv, _⟩ <;> simp only [Value.slice.injEq] at hv <;> omega
          have ho : c.old = [] := List.length_eq_zero_iff.1 (by omega)
          have hn : c.new = [] := List.length_eq_zero_iff.1 (by have := HE4.out; omega)
          have ho0 : c.old.length = 0 := by rw [ho]; rfl
          have hn0 : c.new.length = 0 := by rw [hn]; rfl
          have s1 : ∀ nq o k, (convert 41 9 (.slice av 0 k)).run Tryd.prog ((wr.alloc o).drewN nq) = .ok (.string (strOf [])) ((wr.alloc o).drewN nq) := fun nq o k => conv_str av [] k _ (At.nil _ _)
          have s2 : ∀ nq o, (convert 41 9 (.slice ao 0 co)).run Tryd.prog ((wr.alloc o).drewN nq) = .ok (.string (strOf [])) ((wr.alloc o).drewN nq) := fun nq o => conv_str ao [] co _ (At.nil _ _)
          have hb6 : ((strOf []).toList == (strOf []).toList) = true := by simp
          subst hcp
          rw [ho0] at *
          rw [hn0] at *
          clear hb4 hpl
          go_wp2
          go_quiet (fail)
          go_wp2
          obtain ⟨wo, rfl⟩ : ∃ wo : World, wo = wr := ⟨_, rfl⟩
          go_loopw [9] (fun q wr => q = .int .i64 0 ∧ Hid (wr.ownsRow w.heap.size 5 1 (.slice av b.length cv) b.length (cb cur)) ∧
              World.cell? wr ⟨wo.heap.size, 2, none⟩ = some (Value.slice an 0 cn) ∧ Below w.heap.size w wr) (fun q _ => 0)
          case atStart => exact ⟨rfl, Lib.hid (HO.out.alloc _), by simp, bdN (HB.out.alloc hBz _) _⟩
          case round =>
            obtain ⟨rfl, HP2, t3, hB2⟩ := hrel
            have HB2 := Lib.hid hB2
            clear hB2
            go_wp2
            go_roundw
            case rel =>
              refine ⟨k + 1, cur, by go_num, by omega, HC, Lib.hid ?_, HP2, HB2.out⟩
              rw [HD.out, ap_go HN.out HE4.out (by rw [ho]; simp), HP.out]
              rw [show patch cur ((cv : Int)).toNat c.new c.new.length = cur from by rw [hn]; exact patch_zero _ _ _]
            case measure => simp [intOf]; omega
        · obtain ⟨g, rfl⟩ : ∃ g, av = some ⟨g, 0, none⟩ := by
            rcases hO.2 with ⟨hv, _⟩ | ⟨g, cap, cur', hv, _⟩
            · simp only [Value.slice.injEq] at hv; omega
            · simp only [Value.slice.injEq] at hv; exact ⟨g, hv.1⟩
          have hX : At wr (some ⟨g, p, none⟩) (cb ((cur.drop p).take c.old.length)) := by
            have := (At.of_owns hO).cut p (p + c.old.length)
            simpa [cut] using this
          have s1 : ∀ nq o, (convert 41 9 (.slice (some ⟨g, p, none⟩) c.old.length (cv - p))).run Tryd.prog ((wr.alloc o).drewN nq) = .ok (.string (strOf ((cur.drop p).take c.old.length))) ((wr.alloc o).drewN nq) := fun nq o => by
            have := conv_str (some ⟨g, p, none⟩) ((cur.drop p).take c.old.length) (cv - p) ((wr.alloc o).drewN nq) (hX.below (B := wr.heap.size) ⟨rfl, rfl, rfl, by simp, fun k hk => Below.heap_alloc _ _ _ hk⟩ (Nat.le_refl _))
            rw [HCUT.out] at this
            exact this
          have s2 : ∀ nq o, (convert 41 9 (.slice ao c.old.length co)).run Tryd.prog ((wr.alloc o).drewN nq) = .ok (.string (strOf c.old)) ((wr.alloc o).drewN nq) := fun nq o =>
            conv_str ao c.old co ((wr.alloc o).drewN nq) (P4.out.below (B := w.heap.size) (HB.out.trans ⟨rfl, rfl, rfl, by simp, fun k hk => Below.heap_alloc _ _ _ (by omega)⟩) (Nat.le_refl _))
          have HX := Lib.hid hX
          clear hX hO
          by_cases e6 : (cur.drop p).take c.old.length = c.old
          · have hb6 : ((strOf ((cur.drop p).take c.old.length)).toList == (strOf c.old).toList) = true := by rw [strOf_eq]; simpa using e6
            have HE6 := Lib.hid e6
            clear e6
            have hg := (World.ownsRow.lt HO.out g rfl)
            have hg1 : g ≠ wr.heap.size := by omega
            have hg2 : wr.heap.size ≠ g := by omega
            go_wp2
            go_quiet (fail)
            go_wp2
            rw [Nat.add_sub_cancel_left]
            obtain ⟨wo, rfl⟩ : ∃ wo : World, wo = wr := ⟨_, rfl⟩
            go_loopw [9] (fun q wr => ∃ m : Nat, q = .int .i64 m ∧ m ≤ c.new.length ∧ Hid (wr.ownsRow w.heap.size 5 1 (.slice (some ⟨g, 0, none⟩) b.length cv) b.length (cb (patch cur p c.new m))) ∧
              World.cell? wr ⟨wo.heap.size, 0, none⟩ = some (Value.int IntKind.i64 p) ∧ World.cell? wr ⟨wo.heap.size, 1, none⟩ = some (Value.slice ao c.old.length co) ∧ World.cell? wr ⟨wo.heap.size, 2, none⟩ = some (Value.slice an c.new.length cn) ∧ Below w.heap.size w wr) (fun q _ => c.new.length - (intOf q).toNat)
            case atStart => exact ⟨0, rfl, Nat.zero_le _, Lib.hid (by rw [patch_zero]; exact (HO.out.alloc _)), by simp, by simp, by simp, bdN (HB.out.alloc hBz _) _⟩
            case round =>
              obtain ⟨m, rfl, hm, HP2, t1, t2, t3, hB2⟩ := hrel
              have HB2 := Lib.hid hB2
              clear hB2
              by_cases hmn : m < c.new.length
              · obtain ⟨bn, on, rfl, hbn⟩ := P5.out.lt (by simp; omega)
                have k1 : wr.cell? ⟨bn, on + m, none⟩ = some (.int .u8 (c.new[m].toNat)) := cell_later HB2.out ((P5.out.cell m (by simpa using hmn)).trans (by simp [cb] : some ((cb c.new)[m]'(by simpa using hmn)) = some (.int .u8 (c.new[m].toNat : Int))))
                have hpl2 : (patch cur p c.new m).length = b.length := by rw [patch_length _ _ _ _ (by have := HC.out; have := HE4.out; omega) hm]; exact HC.out
                have HPL := Lib.hid hpl2
                clear hpl2
                have k2 : wr.cell? ⟨g, p + m, none⟩ = some ((cb (patch cur p c.new m))[p + m]'(by simp; rw [HPL.out]; have := HE4.out; omega)) := by
                  rw [World.ownsRow.cellAt HP2.out _ (by have := HE4.out; omega)]
                  exact List.getElem?_eq_getElem _
                have k3 : wr.frozen? ⟨g, p + m, none⟩ = false := World.ownsRow.frozenAt HP2.out _
                have hpm : (p : Int) + m < b.length := by have := HE4.out; omega
                have hmn' : (m : Int) < c.new.length := by omega
                go_wp2
                have hw3 : ((p : Int) + m).toNat = p + m := by omega
                have hw2 : 0 ≤ (p : Int) + m := by omega
                have hw1 : IntKind.i64.wrap ((p : Int) + m) = (p : Int) + m := IntWalk.i64_in _ (by omega)
                go_region_law (fail)
                all_goals
                  clear hw1 hw2 hw3
                  go_wp2
                  go_roundw
                  case rel =>
                    have hgb := grownBy_setCell wr g (p + m) (Value.int IntKind.u8 (c.new[m].toNat : Int))
                    have f1 := (World.ownsRow.stored HP2.out (p + m) (Value.int IntKind.u8 (c.new[m].toNat : Int))).1
                    have f1 : Hid ((wr.setCell ⟨g, p + m, none⟩ (Value.int IntKind.u8 (c.new[m].toNat : Int))).ownsRow w.heap.size 5 1 (.slice (some ⟨g, 0, none⟩) b.length cv) b.length (cb (patch cur p c.new (m + 1)))) := Lib.hid (by
                      rw [patch_succ _ _ _ _ (by have := HC.out; omega) hmn, cb_set]; exact f1)
                    have f2 := World.grownBy.cell hgb t1 (by simp; omega)
                    have f3 := World.grownBy.cell hgb t2 (by simp; omega)
                    have f4 := World.grownBy.cell hgb t3 (by simp; omega)
                    have f5 : Below w.heap.size w (wr.setCell ⟨g, p + m, none⟩ (Value.int IntKind.u8 (c.new[m].toNat : Int))) := HB2.out.setCell (by simp; omega) _
                    refine ⟨m + 1, by go_num, by omega, Lib.hid f1.out, f2, f3, f4, ?_⟩
                    first | exact f5 | exact bdN f5 1
                  case measure => simp [intOf]; omega
              · go_wp2
                go_roundw
                case rel =>
                  have hm' : m = c.new.length := by omega
                  subst hm'
                  refine ⟨k + 1, patch cur p c.new c.new.length, by go_num, by omega, Lib.hid ?_, Lib.hid ?_, HP2, HB2.out⟩
                  · rw [patch_length _ _ _ _ (by have := HC.out; have := HE4.out; omega) (Nat.le_refl _)]; exact HC.out
                  · rw [HD.out, ap_go HN.out HE4.out (by rw [HP.out]; exact HE6.out), HP.out]; rfl
                case measure => simp [intOf]; omega
          · have hb6 : ((strOf ((cur.drop p).take c.old.length)).toList == (strOf c.old).toList) = false := by rw [strOf_eq]; simpa using e6
            have HE6 := Lib.hid e6
            clear e6
            go_wp2
            go_quiet (fail)
            go_wp2
            go_ret2
            exact close_bad (HD.out.trans (ap_six HN.out HE4.out (by rw [HP.out]; exact HE6.out))) (bdN (HB.out.alloc hBz _) _)
      · have hb4 : ((c.old.length : Int) != (c.new.length : Int)) = true := by simpa using e4
        have HE4 := Lib.hid e4
        clear e4
        go_wp2
        go_ret2
        exact close_bad (HD.out.trans (ap_three HN.out HE4.out)) (HB.out.alloc hBz _)
    · go_wp2
      go_ret2
      have hk' : l.drop k = [] := List.drop_eq_nil_of_le (by omega)
      have hA := HA.out
      rw [hk'] at hA
      refine ⟨_, by rw [hA]; rfl, ?_, HB.out⟩
      rw [hA]
      show Sl wr _ cur.length (cb cur)
      rw [HC.out]
      exact Sl.of_owns HO.out
end Go.Proofs.YtaojpdcjndlgpaaDoor
