/- vaultref1.Diff: it gives the runs in which two lists of bytes differ, in memory of its own. Conditions: at most 6400 bytes, as many in both. -/
import Derived.Test.YtaojpdcjndlgpaaDoorRDiffA
namespace Go.Proofs.YtaojpdcjndlgpaaDoor
open Go.RowKit
set_option maxRecDepth 100000

set_option maxHeartbeats 4000000 in
theorem rdiff_any (a1 a2 : Option Addr) (a b : List UInt8) (c1 c2 : Nat) (w : World) (hm : a.length ≤ 6400) (he : a.length = b.length) (h1 : At w a1 (cb a)) (h2 : At w a2 (cb b)) :
    Calls Tryd.prog 22 #[.slice a1 a.length c1, .slice a2 a.length c2] w fun e w' => ∃ v S, e = .returned v ∧ S.map (·.1) = (rd a b a.length).1 ∧ Owns w' w.heap.size (outS v S :: rowsS S) ∧ Below w.heap.size w w' := by
  have HE := Lib.hid he
  have H1 := Lib.hid h1
  have H2 := Lib.hid h2
  clear he h1 h2
  obtain ⟨i0, hi, hz0, hz1, hz2⟩ := info_parts info_ch
  obtain ⟨i5, hi5, hz50, hz51, hz52⟩ := info_parts info_u8
  go_enter Tryd.func22, Tryd.ntmps22
  go_wp2
  go_loopw [5, 6, 7] (fun v l i wr => ∃ (k : Nat) (S : List CS) (av : Option Addr) (cv : Nat), v = .slice av S.length cv ∧ i = .int .i64 k ∧ k ≤ a.length ∧ l = .int .i64 (rd a b k).2 ∧ Hid (S.map (·.1) = (rd a b k).1) ∧ Owns wr w.heap.size (outS v S :: rowsS S) ∧ Below w.heap.size w wr) (fun _ _ i _ => a.length - (intOf i).toNat)
  case atStart => exact ⟨0, [], none, 0, rfl, rfl, Nat.zero_le _, rfl, rfl, (Owns.nil _ _).add (World.ownsRow_nil _ _ _ _) (by simp [outS, Value.ownBlock]), Below.refl _ _⟩
  case round =>
    obtain ⟨k, S, av, cv, rfl, rfl, hk, rfl, HS, hO, hB⟩ := hrel
    by_cases hlt : k < a.length
    · have hlt2 : k < b.length := HE.out ▸ hlt
      obtain ⟨b1, o1, rfl, C1⟩ := H1.out.some_of (by simp; omega)
      obtain ⟨b2, o2, rfl, C2⟩ := H2.out.some_of (by simp; omega)
      have hc1 : wr.cell? ⟨b1, o1 + k, none⟩ = some (.int .u8 (a[k].toNat)) := (cell_later hB (C1 k _ (cb_get a k hlt)))
      have hc2 : wr.cell? ⟨b2, o2 + k, none⟩ = some (.int .u8 (b[k].toNat)) := (cell_later hB (C2 k _ (cb_get b k hlt2)))
      clear C1 C2
      have nn1 := World.new_ne wr _ hc1
      have nn2 := World.new_ne wr _ hc2
      have hlast := rd_lt a b k
      have q1 := Lib.hid hlast.1
      have q2 : -2 ≤ (rd a b k).2 := hlast.2.1
      have q3 := Lib.hid hlast.2.2
      have hBz := hB.size
      have HO := Lib.hid hO
      have HB := Lib.hid hB
      clear hlast hO hB
      have hSl : S.length ≤ k := by have := q3.out.2; rw [← HS.out] at this; simpa using this
      by_cases heq : a[k] = b[k]
      · have hb : ((a[k].toNat : Int) == (b[k].toNat : Int)) = true := by simp [heq]
        have HQ := Lib.hid heq
        clear heq
        go_wp2
        go_quiet (fail)
        go_wp2
        go_roundw
        case rel => exact ⟨k + 1, S, av, cv, rfl, by go_num, by omega, by rw [rd_same (by simp [List.getD, hlt, hlt2, HQ.out])], by rw [rd_same (by simp [List.getD, hlt, hlt2, HQ.out])]; exact HS, HO.out.drewN _, HB.out.trans ⟨rfl, rfl, rfl, Nat.le_refl _, fun _ _ => rfl⟩⟩
        case measure => simp [intOf]; omega
      · have hne : a.getD k 0 ≠ b.getD k 0 := by simpa [List.getD, hlt, hlt2] using heq
        have hb : ((a[k].toNat : Int) == (b[k].toNat : Int)) = false := by
          simp only [beq_eq_false_iff_ne, ne_eq, Int.natCast_inj]
          exact fun h => heq (UInt8.toNat_inj.1 h)
        have HQ := Lib.hid hne
        clear heq hne
        by_cases hl : (rd a b k).2 = (k : Int) - 1
        · have hl2 : ((rd a b k).2 == (k : Int) - 1) = true := by simpa using hl
          obtain ⟨L, c, hL1, hL2⟩ := rd_on HQ.out hl
          have HL2 := Lib.hid hL2
          obtain ⟨S0, S1, rfl, hS0, hS1⟩ := List.map_eq_append_iff.1 (HS.out.trans hL1)
          obtain ⟨vo, vn, rfl⟩ : ∃ vo vn, S1 = [(c, vo, vn)] := by
            match S1, hS1 with
            | [(c', vo, vn)], h => simp at h; subst h; exact ⟨vo, vn, rfl⟩
          have hO := HO.out
          have hOut : wr.ownsRow w.heap.size 98 3 (.slice av (S0 ++ [(c, vo, vn)]).length cv) (S0 ++ [(c, vo, vn)]).length (cc (tS (S0 ++ [(c, vo, vn)]))) := hO.1 _ (List.mem_cons_self ..)
          obtain ⟨g0, cap0, e0, hg0, hg0lt⟩ := hOut.form (by simp)
          cases e0
          have hget := cc_get (tS (S0 ++ [(c, vo, vn)])) S0.length (by simp [tS])
          have hT : (tS (S0 ++ [(c, vo, vn)]))[S0.length]'(by simp [tS]) = (c.at_, vo, vn) := by simp [tS]
          rw [hT] at hget
          have k1 : wr.cell? ⟨g0, S0.length * 3 + 1, none⟩ = some vo := (hOut.cellAt _ (by simp; omega)).trans hget.2.1
          have k2 : wr.cell? ⟨g0, S0.length * 3 + 2, none⟩ = some vn := (hOut.cellAt _ (by simp; omega)).trans hget.2.2
          have k3 : wr.frozen? ⟨g0, S0.length * 3 + 1, none⟩ = false := hOut.frozenAt _
          have k4 : wr.frozen? ⟨g0, S0.length * 3 + 2, none⟩ = false := hOut.frozenAt _
          have HOut := Lib.hid hOut
          have HOx : Hid (Owns wr w.heap.size (outS (.slice (some ⟨g0, 0, none⟩) (S0.length + 1) cv) (S0 ++ [(c, vo, vn)]) :: rowsS (S0 ++ [(c, vo, vn)]))) := by
            have h := HO.out
            rw [show (S0 ++ [(c, vo, vn)]).length = S0.length + 1 by simp] at h
            exact Lib.hid h
          have hS0l : S0.length ≤ 6400 := by simp at hSl; omega
          have hlen := rd_len a b k c (by rw [hL1]; simp)
          have HLen := Lib.hid hlen
          have HS0 := Lib.hid hS0
          have hOo0 : wr.ownsRow w.heap.size 5 1 vo c.old.length (cb c.old) := hO.1 ⟨5, 1, vo, c.old.length, cb c.old⟩ (by simp [rowsS])
          have HOo : Hid (∀ n o1, ((wr.drewN n).alloc o1).ownsRow w.heap.size 5 1 vo c.old.length (cb c.old)) := Lib.hid (fun n o1 => (show (wr.drewN n).ownsRow w.heap.size 5 1 vo c.old.length (cb c.old) from hOo0).alloc o1)
          have hOo := Lib.hid hOo0
          have hb1lt : b1 < w.heap.size := by obtain ⟨_, _, e1, e2⟩ := H1.out.lt (by simp; omega); cases e1; exact e2
          have hb2lt : b2 < w.heap.size := by obtain ⟨_, _, e1, e2⟩ := H2.out.lt (by simp; omega); cases e1; exact e2
          have hne1 : Hid (some b1 ≠ vo.ownBlock) := Lib.hid (fun e => by have := (World.ownsRow.lt hOo0 b1 e.symm).1; omega)
          have hbg1 : b1 ≠ g0 := by omega
          have hbg1' : g0 ≠ b1 := by omega
          have hne0 : Hid (some g0 ≠ vo.ownBlock) := Lib.hid (fun e => hO.ne rfl ⟨5, 1, vo, c.old.length, cb c.old⟩ (by simp [rowsS]) e.symm)
          have hG1 : Hid (∀ n o1 w1, ((wr.drewN n).alloc o1).grownBy w1 vo.ownBlock → wr.grownBy w1 vo.ownBlock) := Lib.hid (fun n o1 w1 h => grownBy_trans (grownBy_trans (grownBy_drewN _ _ _) (World.grownBy_alloc _ _ _)) h)
          have hix : (S0.length : Int) < (S0.length : Int) + 1 := by omega
          have k1a : ∀ n o, ((wr.drewN n).alloc o).cell? ⟨g0, S0.length * 3 + 1, none⟩ = some vo := fun n o => (World.cell?_alloc_lt (wr.drewN n) o ⟨g0, S0.length * 3 + 1, none⟩ hg0lt).trans k1
          clear hO hOut hget hT hL1 hL2 hS0 hS1 hlen hOo0 hb1lt hb2lt
          have HL := Lib.hid hl
          clear hl
          go_wp2
          go_quiet (fail)
          go_wp2
          go_region_law ((refine step_app_u8 rfl (.tmp 37) (.tmp 42) rfl w.heap.size vo c.old.length (cb c.old) rfl (HOo.out _ _) _ _ rfl (.int .u8 (a[k].toNat)) (by rw [World.cell?_alloc_at _ _ _ _ (by simp)]; rfl) rfl (by have := HLen.out; omega) (by simp; omega) ?_; intro g1 cap1 w1 hown1 hgrow1 hat1 hlt1; have hG2 := hG1.out _ _ _ hgrow1; have st1 : w1.cell? ⟨g0, S0.length * 3 + 1, none⟩ = some vo := hG2.cell k1 hne0.out; have fz1 : w1.frozen? ⟨g0, S0.length * 3 + 1, none⟩ = false := (World.frozen?_of_block (hG2.block g0 hg0lt hne0.out)).trans k3))
          all_goals
            go_wp2
            have hO2 := ext_old (x := a[k]) HOx.out (grownBy_trans (grownBy_drewN _ _ _) (World.grownBy_alloc _ _ _)) hown1 hgrow1 hat1
            have hB2 : Below w.heap.size w (w1.setCell ⟨g0, S0.length * 3 + 1, none⟩ (.slice (some ⟨g1, 0, none⟩) (c.old.length + 1) cap1)) :=
              ((HB.out.grown hG2 hBz (fun j hj => (World.ownsRow.lt hOo.out j hj).1)).setCell hg0 _)
            have hOut2 := hO2.1 _ (List.mem_cons_self ..)
            have hget2 := cc_get (tS (S0 ++ [(({ at_ := c.at_, old := c.old ++ [a[k]], new := c.new } : Ch), Value.slice (some ⟨g1, 0, none⟩) (c.old.length + 1) cap1, vn)])) S0.length (by simp [tS])
            have hT2 : (tS (S0 ++ [(({ at_ := c.at_, old := c.old ++ [a[k]], new := c.new } : Ch), Value.slice (some ⟨g1, 0, none⟩) (c.old.length + 1) cap1, vn)]))[S0.length]'(by simp [tS]) = (c.at_, Value.slice (some ⟨g1, 0, none⟩) (c.old.length + 1) cap1, vn) := by simp [tS]
            rw [hT2] at hget2
            have j2 := (World.ownsRow.cellAt (show World.ownsRow _ w.heap.size 98 3 (.slice (some ⟨g0, 0, none⟩) (S0.length + 1) cv) (S0.length + 1) (cc (tS (S0 ++ [(({ at_ := c.at_, old := c.old ++ [a[k]], new := c.new } : Ch), Value.slice (some ⟨g1, 0, none⟩) (c.old.length + 1) cap1, vn)]))) by simpa [Row.ok, outS] using hOut2) (S0.length * 3 + 2) (by omega)).trans hget2.2.2
            have j4 := World.ownsRow.frozenAt (show World.ownsRow _ w.heap.size 98 3 (.slice (some ⟨g0, 0, none⟩) (S0.length + 1) cv) (S0.length + 1) (cc (tS (S0 ++ [(({ at_ := c.at_, old := c.old ++ [a[k]], new := c.new } : Ch), Value.slice (some ⟨g1, 0, none⟩) (c.old.length + 1) cap1, vn)]))) by simpa [Row.ok, outS] using hOut2) (S0.length * 3 + 2)
            have j5 := cell_later hB2 ((H2.out.cell k (by simpa using hlt2)).trans (by simp [cb] : some ((cb b)[k]'(by simpa using hlt2)) = some (.int .u8 (b[k].toNat : Int))))
            clear hOut2 hget2 hT2
            generalize w1.setCell ⟨g0, S0.length * 3 + 1, none⟩ (.slice (some ⟨g1, 0, none⟩) (c.old.length + 1) cap1) = w2 at hO2 hB2 j2 j4 j5 ⊢
            have hOn0 : w2.ownsRow w.heap.size 5 1 vn c.new.length (cb c.new) := hO2.1 ⟨5, 1, vn, c.new.length, cb c.new⟩ (by simp [rowsS])
            have HOn : Hid (∀ o1, ((w2.alloc o1).drew).ownsRow w.heap.size 5 1 vn c.new.length (cb c.new)) := Lib.hid (fun o1 => hOn0.alloc o1)
            have hOn := Lib.hid hOn0
            have hn0 : Hid (some g0 ≠ vn.ownBlock) := Lib.hid (fun e => hO2.ne rfl ⟨5, 1, vn, c.new.length, cb c.new⟩ (by simp [rowsS]) e.symm)
            have hg02 : g0 < w2.heap.size := (hO2.lt _ (List.mem_cons_self ..) g0 rfl).2
            have j2a : ∀ n o, ((w2.drewN n).alloc o).cell? ⟨g0, S0.length * 3 + 2, none⟩ = some vn := fun n o => (World.cell?_alloc_lt (w2.drewN n) o ⟨g0, S0.length * 3 + 2, none⟩ hg02).trans j2
            have j2b : ∀ o, (w2.alloc o).cell? ⟨g0, S0.length * 3 + 2, none⟩ = some vn := fun o => (World.cell?_alloc_lt w2 o ⟨g0, S0.length * 3 + 2, none⟩ hg02).trans j2
            have HO2 := Lib.hid hO2
            have HB2 := Lib.hid hB2
            have hBz2 := hB2.size
            clear hO2 hB2 hOn0 hown1 hgrow1 hat1 hlt1 hG2 st1 fz1
            go_region_law ((refine step_app_u8 rfl (.tmp 52) (.tmp 57) rfl w.heap.size vn c.new.length (cb c.new) rfl (HOn.out _) _ _ rfl (.int .u8 (b[k].toNat)) (World.cell?_alloc_new w2 #[.int .u8 (b[k].toNat : Int)] 5 0) rfl (by have := HLen.out; omega) (by simp; omega) ?_; intro g2 cap2 w3 hown3 hgrow3 hat3 hlt3; have hG4 := grownBy_trans (grownBy_drew (World.grownBy_alloc w2 _ _)) hgrow3; have st3 : w3.cell? ⟨g0, S0.length * 3 + 2, none⟩ = some vn := World.grownBy.cell hG4 j2 hn0.out; have fz3 : w3.frozen? ⟨g0, S0.length * 3 + 2, none⟩ = false := (World.frozen?_of_block (hG4.block g0 hg02 hn0.out)).trans j4))
            all_goals
              go_wp2
              have hO5 := ext_new (x := b[k]) (s := (({ at_ := c.at_, old := c.old ++ [a[k]], new := c.new } : Ch), Value.slice (some ⟨g1, 0, none⟩) (c.old.length + 1) cap1, vn)) HO2.out (grownBy_drew (World.grownBy_alloc w2 _ _)) hown3 hgrow3 hat3
              have hB5 : Below w.heap.size w (w3.setCell ⟨g0, S0.length * 3 + 2, none⟩ (.slice (some ⟨g2, 0, none⟩) (c.new.length + 1) cap2)) :=
                ((HB2.out.grown hG4 hBz2 (fun j hj => (World.ownsRow.lt hOn.out j hj).1)).setCell hg0 _)
              go_roundw
              case rel =>
                refine ⟨k + 1, _, some ⟨g0, 0, none⟩, cv, ?_, by go_num, by omega, by rw [HL2.out], ?_, hO5, hB5⟩
                · simp
                · rw [HL2.out]; simp [Hid, HS0.out, List.getD, hlt, hlt2]
              case measure => simp [intOf]; omega
        · have hl2 : ((rd a b k).2 == (k : Int) - 1) = false := by simpa using hl
          have HL := Lib.hid hl
          clear hl
          go_wp2
          go_quiet (fail)
          have hne1 : Hid (some b1 ≠ (Value.slice av S.length cv).ownBlock) := Lib.hid (fun e => by
            have := (HO.out.lt _ (List.mem_cons_self ..) b1 e.symm).1
            obtain ⟨_, _, e1, e2⟩ := H1.out.lt (by simp; omega); cases e1; omega)
          have hne2 : Hid (some b2 ≠ (Value.slice av S.length cv).ownBlock) := Lib.hid (fun e => by
            have := (HO.out.lt _ (List.mem_cons_self ..) b2 e.symm).1
            obtain ⟨_, _, e1, e2⟩ := H2.out.lt (by simp; omega); cases e1; omega)
          have HO1 : Hid (∀ n o1 o2 o3, ((((wr.drewN n).alloc o1).alloc o2).alloc o3).ownsRow w.heap.size 98 3 (.slice av S.length cv) S.length (cc (tS S))) :=
            Lib.hid (fun n o1 o2 o3 => (((show (wr.drewN n).ownsRow w.heap.size 98 3 (.slice av S.length cv) S.length (cc (tS S)) from HO.out.1 _ (List.mem_cons_self ..)).alloc o1).alloc o2).alloc o3)
          go_wp2
          go_region_held_law (fun w' => w'.cell? ⟨b1, o1 + k, none⟩ = some (.int .u8 (a[k].toNat)) ∧ w'.cell? ⟨b2, o2 + k, none⟩ = some (.int .u8 (b[k].toNat))) (first | (go_keep; done) | (exact ⟨World.grownBy.cell hgrow (by go_keep) hne1.out, World.grownBy.cell hgrow (by go_keep) hne2.out⟩)) ((refine step_app_ch rfl (.tmp 61) (.tmp 74) (.tmp 62) (.tmp 67) (.tmp 72) rfl w.heap.size _ S.length (cc (tS S)) rfl (HO1.out _ _ _ _) _ _ rfl (by rw [World.cell?_alloc_at _ _ _ _ (by simp)]; rfl) (by rw [World.cell?_alloc_at _ _ _ _ (by simp)]; rfl) (by rw [World.cell?_alloc_at _ _ _ _ (by simp)]; rfl) rfl rfl rfl (by omega) (by simp; omega) ?_; intro g cap w1 hown hgrow hat hlt9))
          all_goals go_wp2
          · go_roundw
            case rel =>
              have hP := push_two (x := a[k]) (y := b[k]) HO.out HB.out ⟨k, [a[k]], [b[k]]⟩ wr.heap.size (wr.heap.size + 1) (.inl ⟨rfl, rfl, rfl, rfl⟩) hown hgrow hat
              have hN := rd_new HQ.out HL.out
              exact ⟨k + 1, S ++ [_], some ⟨g, 0, none⟩, cap, by simp, by go_num, by omega, by rw [hN], by rw [hN]; simp [Hid, HS.out, List.getD, hlt, hlt2], hP.1, hP.2⟩
            case measure => simp [intOf]; omega
          · go_roundw
            case rel =>
              have hP := push_two (x := b[k]) (y := a[k]) HO.out HB.out ⟨k, [a[k]], [b[k]]⟩ (wr.heap.size + 1) wr.heap.size (.inr ⟨rfl, rfl, rfl, rfl⟩) hown hgrow hat
              have hN := rd_new HQ.out HL.out
              exact ⟨k + 1, S ++ [_], some ⟨g, 0, none⟩, cap, by simp, by go_num, by omega, by rw [hN], by rw [hN]; simp [Hid, HS.out, List.getD, hlt, hlt2], hP.1, hP.2⟩
            case measure => simp [intOf]; omega
    · go_wp2
      go_ret
      have hk' : k = a.length := by omega
      subst hk'
      exact ⟨_, S, rfl, HS.out, hO, hB⟩
end Go.Proofs.YtaojpdcjndlgpaaDoor
