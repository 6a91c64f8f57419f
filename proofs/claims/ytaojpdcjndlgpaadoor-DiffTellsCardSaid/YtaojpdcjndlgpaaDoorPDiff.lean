/- diff.Diff: the runs in which two lists of bytes differ, or which fault. No conditions but Go's sizes. -/
import Derived.Test.YtaojpdcjndlgpaaDoorRDiffA
import Derived.Test.YtaojpdcjndlgpaaDoorClone
import Derived.Test.YtaojpdcjndlgpaaDoorTold
import Derived.Test.YtaojpdcjndlgpaaDoorCut
namespace Go.Proofs.YtaojpdcjndlgpaaDoor
open Go.RowKit
set_option maxRecDepth 100000

theorem pdiff_shape (a1 a2 : Option Addr) (n m c1 c2 : Nat) (w : World) (h : (n : Int) ≠ m) :
    Calls Tryd.prog 23 #[.slice a1 n c1, .slice a2 m c2] w fun e w' => e = .returned (.tuple #[.slice none 0 0, errV 3]) ∧ w = w' := by
  have h1 : ((n : Int) != (m : Int)) = true := by simpa using h
  go_enter Tryd.func23, Tryd.ntmps23
  go_wp2
  go_ret2
  exact ⟨rfl, rfl⟩
theorem pdiff_full (a1 a2 : Option Addr) (n c1 c2 : Nat) (w : World) (h : 6400 < n) :
    Calls Tryd.prog 23 #[.slice a1 n c1, .slice a2 n c2] w fun e w' => e = .returned (.tuple #[.slice none 0 0, errV 4]) ∧ w = w' := by
  have h1 : ((n : Int) != (n : Int)) = false := by simp
  go_enter Tryd.func23, Tryd.ntmps23
  go_wp2
  go_ret2
  exact ⟨rfl, rfl⟩

/-- Two cloned runs, then the change, then the append: what holds then. -/
theorem push_clones {w wr wn w1 w2 w3 : World} {g cap g1 g2 q1 q2 : Nat} {v : Value} {S : List CS} {o3 : Obj} (hO : Owns wr w.heap.size (outS v S :: rowsS S)) (hB : Below w.heap.size w wr) (c : Ch)
    (hn : wr.grownBy wn none)
    (ho1 : w1.ownsRow wn.heap.size 5 1 (.slice (some ⟨g1, 0, none⟩) c.old.length q1) c.old.length (cb c.old)) (hb1 : Below wn.heap.size wn w1)
    (ho2 : w2.ownsRow w1.heap.size 5 1 (.slice (some ⟨g2, 0, none⟩) c.new.length q2) c.new.length (cb c.new)) (hb2 : Below w1.heap.size w1 w2)
    (hown : w3.ownsRow w.heap.size 98 3 (.slice (some ⟨g, 0, none⟩) (S.length + 1) cap) (S.length + 1) (cc (tS S) ++ [.int .i64 c.at_, .slice (some ⟨g1, 0, none⟩) c.old.length q1, .slice (some ⟨g2, 0, none⟩) c.new.length q2]))
    (hgrow : (w2.alloc o3).grownBy w3 v.ownBlock) (hat : v.ownBlock = some g ∨ g = (w2.alloc o3).heap.size) :
    Owns w3 w.heap.size (outS (.slice (some ⟨g, 0, none⟩) (S.length + 1) cap) (S ++ [(c, .slice (some ⟨g1, 0, none⟩) c.old.length q1, .slice (some ⟨g2, 0, none⟩) c.new.length q2)]) :: rowsS (S ++ [(c, .slice (some ⟨g1, 0, none⟩) c.old.length q1, .slice (some ⟨g2, 0, none⟩) c.new.length q2)])) ∧ Below w.heap.size w w3 := by
  have hz := hB.size
  have hz0 := hn.size
  have hz1 := hb1.size
  have hz2 := hb2.size
  have k1 := (World.ownsRow.lt ho1 g1 rfl)
  have k2 := (World.ownsRow.lt ho2 g2 rfl)
  have hW : wr.grownBy (w2.alloc o3) none := grownBy_trans (grownBy_trans (grownBy_trans hn (grownBy_below hb1 none)) (grownBy_below hb2 none)) (World.grownBy_alloc _ _ _)
  refine ⟨owns_push hO hW (c, .slice (some ⟨g1, 0, none⟩) c.old.length q1, .slice (some ⟨g2, 0, none⟩) c.new.length q2) (g1 := g1) (g2 := g2) rfl rfl (by omega) (by omega) (by omega) ?_ ?_ hown hgrow hat, ?_⟩
  · exact ((World.ownsRow.kept (ownsRow_base ho1 (by omega)) (grownBy_below hb2 none) (.inr (by simp [Value.ownBlock])))).alloc _
  · exact (ownsRow_base ho2 (by omega)).alloc _
  · refine Below.grown (w := w2.alloc o3) ?_ hgrow (by simp; omega) (fun k hk => (hO.lt _ (List.mem_cons_self ..) k hk).1)
    exact ⟨hW.os.trans hB.os, hW.tape.trans hB.tape, hW.output.trans hB.output, by have := hW.size; omega, fun k hk => (hW.block k (by omega) (by simp)).trans (hB.block k hk)⟩

set_option maxHeartbeats 4000000 in
theorem pdiff_any (a1 a2 : Option Addr) (a b : List UInt8) (c1 c2 : Nat) (w : World) (hm : a.length ≤ 6400) (he : a.length = b.length) (hc1 : a.length ≤ c1) (hc2 : a.length ≤ c2) (h1 : At w a1 (cb a)) (h2 : At w a2 (cb b)) :
    Calls Tryd.prog 23 #[.slice a1 a.length c1, .slice a2 a.length c2] w fun e w' => ∃ v S, e = .returned (.tuple #[v, .nilIface]) ∧ S.map (·.1) = (rd a b a.length).1 ∧ Owns w' w.heap.size (outS v S :: rowsS S) ∧ Below w.heap.size w w' := by
  have hb0 : ((a.length : Int) != (a.length : Int)) = false := by simp
  have HE := Lib.hid he
  have H1 := Lib.hid h1
  have H2 := Lib.hid h2
  clear he h1 h2
  go_enter Tryd.func23, Tryd.ntmps23
  go_wp2
  go_loopw [6, 7] (fun v i wr => ∃ (k : Nat) (S : List CS) (av : Option Addr) (cv : Nat), v = .slice av S.length cv ∧ i = .int .i64 k ∧ k ≤ a.length + 1 ∧ Hid (k ≤ a.length → (rd a b k).2 ≠ (k : Int) - 1) ∧ Hid (S.map (·.1) = (rd a b (min k a.length)).1) ∧ Hid (Owns wr w.heap.size (outS v S :: rowsS S)) ∧ Below w.heap.size w wr) (fun _ i _ => a.length + 1 - (intOf i).toNat)
  case atStart => exact ⟨0, [], none, 0, rfl, rfl, Nat.zero_le _, by simp [Hid, rd], by simp [Hid, rd], Lib.hid ((Owns.nil _ _).add (World.ownsRow_nil _ _ _ _) (by simp [outS, Value.ownBlock])), Below.refl _ _⟩
  case round =>
    obtain ⟨i, S, av, cv, rfl, rfl, hk, hL, HS, HO, hB⟩ := hrel
    have HB := Lib.hid hB
    have hBz := hB.size
    clear hB
    by_cases hlt : i < a.length
    · go_wp2
      go_loopw [8] (fun q wq => ∃ j : Nat, q = .int .i64 j ∧ i ≤ j ∧ j ≤ a.length ∧ Hid (∀ x, i ≤ x → x < j → a.getD x 0 ≠ b.getD x 0) ∧ ∃ n, wq = wr.drewN n) (fun q _ => a.length - (intOf q).toNat)
      case atStart => exact ⟨i, rfl, Nat.le_refl _, by omega, Lib.hid (fun x h1 h2 => by omega), 0, rfl⟩
      case round =>
        obtain ⟨j, rfl, hij, hj, HD, nd, rfl⟩ := hrel
        obtain ⟨b1, o1, rfl, _⟩ := H1.out.some_of (by simp; omega)
        obtain ⟨b2, o2, rfl, _⟩ := H2.out.some_of (by simp; have := HE.out; omega)
        have hlA : Hid ((cut a i j).length = j - i) := Lib.hid (cut_length a i j hj)
        have hlB : Hid ((cut b i j).length = j - i) := Lib.hid (cut_length b i j (by have := HE.out; omega))
        have hlM : Hid (j - i ≤ 140737488351232) := Lib.hid (by omega)
        have HA : Hid (∀ W, Below w.heap.size w W → At W (some ⟨b1, o1 + i, none⟩) (cb (cut a i j))) := Lib.hid (fun W h => (H1.out.below h (Nat.le_refl _)).cut i j)
        have HA2 : Hid (∀ W, Below w.heap.size w W → At W (some ⟨b2, o2 + i, none⟩) (cb (cut b i j))) := Lib.hid (fun W h => (H2.out.below h (Nat.le_refl _)).cut i j)
        have hSl : Hid (S.length ≤ 6400) := Lib.hid (by
          have h1 := (rd_lt a b (min i a.length)).2.2.2
          rw [← HS.out] at h1
          simp at h1; omega)
        have hz2 : Hid (∀ n w1 w2, Below (wr.drewN n).heap.size (wr.drewN n) w1 → Below w1.heap.size w1 w2 → ∀ o, w.heap.size ≤ (w2.alloc o).heap.size) := Lib.hid (fun n w1 w2 k1 k2 o => by
          have := k1.size; have := k2.size; simp at *; omega)
        by_cases hjn : j < a.length
        · have hjn2 : j < b.length := HE.out ▸ hjn
          have hc3 : wr.cell? ⟨b1, o1 + j, none⟩ = some (.int .u8 (a[j].toNat)) := cell_later HB.out ((H1.out.cell j (by simpa using hjn)).trans (by simp [cb]))
          have hc4 : wr.cell? ⟨b2, o2 + j, none⟩ = some (.int .u8 (b[j].toNat)) := cell_later HB.out ((H2.out.cell j (by simpa using hjn2)).trans (by simp [cb]))
          by_cases heq : a[j] = b[j]
          · have hb : ((a[j].toNat : Int) != (b[j].toNat : Int)) = false := by simp [heq]
            have HX : Hid (j = a.length ∨ a.getD j 0 = b.getD j 0) := Lib.hid (.inr (by simpa [List.getD, hjn, hjn2] using heq))
            clear heq
            by_cases hlt2x : i < j
            · have hlP : Hid (0 < (cut a i j).length) := Lib.hid (by rw [hlA.out]; omega)
              have hlQ : Hid (0 < (cut b i j).length) := Lib.hid (by rw [hlB.out]; omega)
              go_wp2
              go_quiet (fail)
              go_wp2
              go_region_held_law (fun _ => True) (trivial) (first
                | ((go_at_call 50; (with_reducible refine (clone_n (some ⟨b1, o1 + i, none⟩) (cut a i j) _ _ _ hlA.out hlM.out ?_).mono ?_); exact (HA.out _ (bdN HB.out _)); rintro e w1 ⟨v1, rfl, ho1, hb1⟩; obtain ⟨g1, q1, rfl, hg1, hlt1⟩ := ho1.form hlP.out))
                | ((go_at_call 50; (with_reducible refine (clone_n (some ⟨b2, o2 + i, none⟩) (cut b i j) _ _ _ hlB.out hlM.out ?_).mono ?_); exact (HA2.out _ ((bdN HB.out _).trans (hb1.mono hBz))); rintro e w2 ⟨v2, rfl, ho2, hb2⟩; obtain ⟨g2, q2, rfl, hg2, hlt2⟩ := ho2.form hlQ.out))
                | ((refine step_app_ch rfl (.tmp 46) (.tmp 59) (.tmp 47) (.tmp 52) (.tmp 57) rfl w.heap.size _ S.length (cc (tS S)) rfl ((((HO.out.drewN _).kept (grownBy_trans (grownBy_below hb1 none) (grownBy_below hb2 none))).alloc _).1 _ (List.mem_cons_self ..)) _ _ rfl (by rw [World.cell?_alloc_at _ _ _ _ (by simp)]; rfl) (by rw [World.cell?_alloc_at _ _ _ _ (by simp)]; rfl) (by rw [World.cell?_alloc_at _ _ _ _ (by simp)]; rfl) rfl rfl rfl hSl.out (hz2.out _ _ _ hb1 hb2 _) ?_; intro g cap w3 hown hgrow hat hlt9)))
              all_goals
                go_wp2
                go_roundw
                case rel =>
                  have hs := run_state (hL.out (by omega)) hlt2x (by omega) HE.out HD.out HX.out
                  have hP := push_clones HO.out HB.out ⟨i, cut a i j, cut b i j⟩ (grownBy_drewN _ _ _) ho1 hb1 ho2 hb2 hown hgrow hat
                  refine ⟨j + 1, S ++ [_], some ⟨g, 0, none⟩, cap, by simp, by go_num, by omega, Lib.hid hs.2, Lib.hid ?_, Lib.hid hP.1, hP.2⟩
                  rw [hs.1]; simp [HS.out, show min i a.length = i by omega]
                case measure => simp [intOf]; omega
            · go_wp2
              go_quiet (fail)
              go_wp2
              go_roundw
              case rel =>
                obtain rfl : i = j := by omega
                have hs := same_state hlt HX.out
                exact ⟨i + 1, S, av, cv, rfl, by go_num, by omega, Lib.hid hs.2, Lib.hid (by rw [hs.1, HS.out, show min i a.length = i by omega]), Lib.hid (HO.out.drewN _), bdN HB.out _⟩
              case measure => simp [intOf]; omega
          · have hb : ((a[j].toNat : Int) != (b[j].toNat : Int)) = true := by
              simp only [bne_iff_ne, ne_eq, Int.natCast_inj]
              exact fun h => heq (UInt8.toNat_inj.1 h)
            have HQ : Hid (a.getD j 0 ≠ b.getD j 0) := Lib.hid (by simpa [List.getD, hjn, hjn2] using heq)
            clear heq
            go_wp2
            go_quiet (fail)
            go_wp2
            go_roundw
            case rel => exact ⟨j + 1, by go_num, by omega, by omega, Lib.hid (fun x h1 h2 => by rcases Nat.lt_or_ge x j with h | h; exact HD.out x h1 h; rw [show x = j by omega]; exact HQ.out), _, rfl⟩
            case measure => simp [intOf]; omega
        · have hd : decide (j < a.length) = false := by simpa using hjn
          have HX : Hid (j = a.length ∨ a.getD j 0 = b.getD j 0) := Lib.hid (.inl (by omega))
          have hlt2x : i < j := by omega
          have hlP : Hid (0 < (cut a i j).length) := Lib.hid (by rw [hlA.out]; omega)
          have hlQ : Hid (0 < (cut b i j).length) := Lib.hid (by rw [hlB.out]; omega)
          go_wp2
          go_quiet (fail)
          go_wp2
          go_region_held_law (fun _ => True) (trivial) (first
            | ((go_at_call 50; (with_reducible refine (clone_n (some ⟨b1, o1 + i, none⟩) (cut a i j) _ _ _ hlA.out hlM.out ?_).mono ?_); exact (HA.out _ (bdN HB.out _)); rintro e w1 ⟨v1, rfl, ho1, hb1⟩; obtain ⟨g1, q1, rfl, hg1, hlt1⟩ := ho1.form hlP.out))
            | ((go_at_call 50; (with_reducible refine (clone_n (some ⟨b2, o2 + i, none⟩) (cut b i j) _ _ _ hlB.out hlM.out ?_).mono ?_); exact (HA2.out _ ((bdN HB.out _).trans (hb1.mono hBz))); rintro e w2 ⟨v2, rfl, ho2, hb2⟩; obtain ⟨g2, q2, rfl, hg2, hlt2⟩ := ho2.form hlQ.out))
            | ((refine step_app_ch rfl (.tmp 46) (.tmp 59) (.tmp 47) (.tmp 52) (.tmp 57) rfl w.heap.size _ S.length (cc (tS S)) rfl ((((HO.out.drewN _).kept (grownBy_trans (grownBy_below hb1 none) (grownBy_below hb2 none))).alloc _).1 _ (List.mem_cons_self ..)) _ _ rfl (by rw [World.cell?_alloc_at _ _ _ _ (by simp)]; rfl) (by rw [World.cell?_alloc_at _ _ _ _ (by simp)]; rfl) (by rw [World.cell?_alloc_at _ _ _ _ (by simp)]; rfl) rfl rfl rfl hSl.out (hz2.out _ _ _ hb1 hb2 _) ?_; intro g cap w3 hown hgrow hat hlt9)))
          all_goals
            go_wp2
            go_roundw
            case rel =>
              have hs := run_state (hL.out (by omega)) hlt2x (by omega) HE.out HD.out HX.out
              have hP := push_clones HO.out HB.out ⟨i, cut a i j, cut b i j⟩ (grownBy_drewN _ _ _) ho1 hb1 ho2 hb2 hown hgrow hat
              refine ⟨j + 1, S ++ [_], some ⟨g, 0, none⟩, cap, by simp, by go_num, by omega, Lib.hid hs.2, Lib.hid ?_, Lib.hid hP.1, hP.2⟩
              rw [hs.1]; simp [HS.out, show min i a.length = i by omega]
            case measure => simp [intOf]; omega
    · go_wp2
      go_ret2
      have e : min i a.length = a.length := by omega
      have hs := HS.out
      rw [e] at hs
      exact ⟨_, S, rfl, hs, HO.out, HB.out⟩
end Go.Proofs.YtaojpdcjndlgpaaDoor
