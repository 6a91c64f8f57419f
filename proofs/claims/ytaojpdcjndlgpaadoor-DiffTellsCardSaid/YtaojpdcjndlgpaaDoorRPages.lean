/- vaultref1.PagesOf: which pages changes touch. No conditions but Go's sizes. -/
import Derived.Test.YtaojpdcjndlgpaaDoorPagesP
import Derived.Test.YtaojpdcjndlgpaaDoorCut
import Derived.Test.YtaojpdcjndlgpaaDoorOwn
import Derived.Test.YtaojpdcjndlgpaaDoorEq
import Derived.Deep.RegionHeld3
import Derived.Deep.RegionLaw
import Derived.StillTailTactics
import Derived.StillGives
namespace Go.Proofs.YtaojpdcjndlgpaaDoor
open Go.RowKit
set_option maxRecDepth 100000

/-- Truth values as cells. -/
def bc (l : List Bool) : List Value := l.map .bool
@[simp] theorem bc_length (l : List Bool) : (bc l).length = l.length := by simp [bc]
theorem bc_set (l : List Bool) (i : Nat) (x : Bool) : bc (l.set i x) = (bc l).set i (.bool x) := by simp [bc, List.map_set]

theorem heap_new (w : World) (o : Obj) : (w.alloc o).heap[w.heap.size]? = some o := Array.getElem?_push_size
theorem owns_new (w : World) (e : Nat) (xs : List Value) (n : Nat) (hn : xs.length = n) (hm : n ≤ maxLen) : (w.alloc (.cells xs.toArray e)).ownsRow w.heap.size e 1 (.slice (some ⟨w.heap.size, 0, none⟩) n n) n xs := by
  subst hn
  exact ⟨by simp, .inr ⟨w.heap.size, xs.length, _, rfl, Nat.le_refl _, heap_new _ _, Nat.le_refl _, hm, by simp, by simp⟩⟩
/-- What the reference answers. -/
def RPagesPost (w w' : World) (e : Ending) : Option (List Bool) → Prop
  | none => e = .returned (.tuple #[.slice none 0 0, .int .i64 1]) ∧ Below w.heap.size w w'
  | some t => ∃ v, e = .returned (.tuple #[v, .int .i64 0]) ∧ Sl w' v (pages t 201).length (ci (pages t 201)) ∧ Below w.heap.size w w'

set_option maxHeartbeats 4000000 in
theorem rpages_any (a : Option Addr) (l : List Ch) (c : Nat) (w : World) (hl : l.length ≤ 140737488351232) (h : ChAt w a l) :
    Calls Tryd.prog 27 #[.slice a l.length c] w fun e w' => RPagesPost w w' e (pg t0 l) := by
  have H := Lib.hid h
  have HM : l.length ≤ 9223372036854775806 := by omega
  obtain ⟨i0, hi, hz, hsz, hby⟩ := info_parts info_int
  clear h hl
  have hz0 : Tryd.zeroCells100 = (bc t0).toArray := by kernel_rfl
  go_enter Tryd.func27, Tryd.ntmps27
  go_wp2
  go_loopw [5] (fun i wr => ∃ (k : Nat) (t : List Bool), i = .int .i64 k ∧ k ≤ l.length ∧ Hid (pg t0 l = pg t (l.drop k)) ∧ t.length = 201 ∧ Hid (wr.ownsRow w.heap.size 100 1 (.slice (some ⟨w.heap.size, 0, none⟩) 201 201) 201 (bc t)) ∧ Below w.heap.size w wr) (fun i _ => l.length - (intOf i).toNat)
  case atStart => exact ⟨0, t0, rfl, Nat.zero_le _, Lib.hid rfl, t0_length, Lib.hid (owns_new _ _ _ _ (by simp [t0_length]) (by simp [maxLen])), (Below.refl _ _).alloc (Nat.le_refl _) _⟩
  case round =>
    obtain ⟨k, t, rfl, hk, HA, htl, HO, hB⟩ := hrel
    have HB := Lib.hid hB
    have hBz := hB.size
    clear hB
    by_cases hlt : k < l.length
    · obtain ⟨b2, o2, ao, co, an, cn, rfl, p1, p2, p3, p4, p5, q1, q2, q3, q4⟩ := H.out.some_of k hlt
      have g1 : wr.cell? ⟨b2, o2 + k * 3, none⟩ = some (.int .i64 l[k].at_) := cell_later HB.out p1
      have g2 : wr.cell? ⟨b2, o2 + k * 3 + 1, none⟩ = some (.slice ao l[k].old.length co) := cell_later HB.out p2
      have g3 : wr.cell? ⟨b2, o2 + k * 3 + 2, none⟩ = some (.slice an l[k].new.length cn) := cell_later HB.out p3
      clear p1 p2 p3 p4 p5
      have hdr : l.drop k = l[k] :: l.drop (k + 1) := List.drop_eq_getElem_cons hlt
      have HD : Hid (pg t0 l = pg t (l[k] :: l.drop (k + 1))) := Lib.hid (hdr ▸ HA.out)
      clear hdr
      generalize hcdef : l[k] = c at *
      clear hcdef
      by_cases e1 : c.at_ < 0
      · go_wp2
        go_ret2
        rw [HD.out, pg_bad (.inl e1)]
        exact ⟨rfl, HB.out.alloc hBz _⟩
      obtain ⟨p, hp⟩ : ∃ p : Nat, c.at_ = p := ⟨c.at_.toNat, by omega⟩
      rw [hp] at g1 e1
      have HP := Lib.hid hp
      clear hp
      by_cases e2 : (6400 : Int) ≤ p
      · go_wp2
        go_ret2
        rw [HD.out, pg_bad (.inr (.inl (by rw [HP.out]; exact e2)))]
        exact ⟨rfl, HB.out.alloc hBz _⟩
      by_cases e3 : 6400 - (p : Int) < c.new.length
      · go_wp2
        go_ret2
        rw [HD.out, pg_bad (.inr (.inr (by rw [HP.out]; exact e3)))]
        exact ⟨rfl, HB.out.alloc hBz _⟩
      have HN : Hid (¬badP c) := Lib.hid (by unfold badP; rw [HP.out]; omega)
      go_wp2
      obtain ⟨wo, rfl⟩ : ∃ wo : World, wo = wr := ⟨_, rfl⟩
      go_loopw [7] (fun q wr => ∃ m : Nat, q = .int .i64 m ∧ m ≤ c.new.length ∧ Hid (wr.ownsRow w.heap.size 100 1 (.slice (some ⟨w.heap.size, 0, none⟩) 201 201) 201 (bc (tset t p m))) ∧
        World.cell? wr ⟨wo.heap.size, 0, none⟩ = some (Value.int IntKind.i64 p) ∧ World.cell? wr ⟨wo.heap.size, 2, none⟩ = some (Value.slice an c.new.length cn) ∧ Below w.heap.size w wr) (fun q _ => c.new.length - (intOf q).toNat)
      case atStart => exact ⟨0, rfl, Nat.zero_le _, Lib.hid (HO.out.alloc _), by simp, by simp, HB.out.alloc hBz _⟩
      case round =>
        obtain ⟨m, rfl, hm, HP2, t1, t3, hB2⟩ := hrel
        have HB2 := Lib.hid hB2
        clear hB2
        by_cases hmn : m < c.new.length
        · have hmn' : (m : Int) < c.new.length := by omega
          have hqd : Int.tdiv ((p : Int) + m) 32 = ((p + m) / 32 : Nat) := by
            rw [Int.tdiv_eq_ediv_of_nonneg (by omega)]; omega
          obtain ⟨q, hq⟩ : ∃ q, q = (p + m) / 32 := ⟨_, rfl⟩
          rw [← hq] at hqd
          have hq2 : q < 201 := by omega
          have HQ := Lib.hid hq
          clear hq
          have k2 : wr.cell? ⟨w.heap.size, q, none⟩ = some ((bc (tset t p m))[q]'(by simp [htl]; exact hq2)) := by
            rw [World.ownsRow.cellAt HP2.out _ hq2]
            exact List.getElem?_eq_getElem _
          have k3 : wr.frozen? ⟨w.heap.size, q, none⟩ = false := World.ownsRow.frozenAt HP2.out _
          go_wp2
          go_roundw
          case rel =>
            have hgb := grownBy_setCell wr w.heap.size q (Value.bool true)
            have hws : w.heap.size < wo.heap.size := (World.ownsRow.lt HO.out _ rfl).2
            exact ⟨m + 1, by go_num, by omega, Lib.hid (by have := (World.ownsRow.stored HP2.out q (Value.bool true)).1; rw [← bc_set] at this; rw [tset, ← HQ.out]; exact this),
              World.grownBy.cell hgb t1 (by simp; omega), World.grownBy.cell hgb t3 (by simp; omega), HB2.out.setCell (Nat.le_refl _) _⟩
          case measure => simp [intOf]; omega
        · go_wp2
          go_roundw
          case rel =>
            obtain rfl : m = c.new.length := by omega
            exact ⟨k + 1, tset t p c.new.length, by go_num, by omega, Lib.hid (by rw [HD.out, pg_go HN.out, HP.out]; rfl), by simp [htl], HP2, HB2.out⟩
          case measure => simp [intOf]; omega
    · have hk' : l.drop k = [] := List.drop_eq_nil_of_le (by omega)
      have hA := HA.out
      rw [hk'] at hA
      have HA2 : Hid (pg t0 l = some t) := Lib.hid hA
      clear hA hk'
      go_wp2
      obtain ⟨wo, rfl⟩ : ∃ wo : World, wo = wr := ⟨_, rfl⟩
      go_loopw [8, 9] (fun vv q wr => ∃ (m : Nat) (av : Option Addr) (cv : Nat), vv = .slice av (pages t m).length cv ∧ q = .int .i64 m ∧ m ≤ 201 ∧ Hid (wr.ownsRow wo.heap.size 3 1 (.slice av (pages t m).length cv) (pages t m).length (ci (pages t m))) ∧
        Hid (wr.ownsRow w.heap.size 100 1 (.slice (some ⟨w.heap.size, 0, none⟩) 201 201) 201 (bc t)) ∧ Below w.heap.size w wr ∧ wo.heap.size ≤ wr.heap.size) (fun vv q _ => 201 - (intOf q).toNat)
      case atStart => exact ⟨0, none, 0, by rw [pages_zero]; rfl, rfl, by omega, Lib.hid ⟨by simp [pages_zero], .inl ⟨by rw [pages_zero]; rfl, by rw [pages_zero]; rfl⟩⟩, HO, HB.out, Nat.le_refl _⟩
      case round =>
        obtain ⟨m, av, cv, rfl, rfl, hm, HO2, HT, hB2, hws2⟩ := hrel
        have HB2 := Lib.hid hB2
        have hwsz := hB2.size
        clear hB2
        have hwlt : w.heap.size < wo.heap.size := (World.ownsRow.lt HO.out _ rfl).2
        by_cases hm2 : m < 201
        · have k2 : wr.cell? ⟨w.heap.size, m, none⟩ = some (.bool (t.getD m false)) := by
            rw [World.ownsRow.cellAt HT.out _ hm2]
            simp [bc, List.getD, show m < t.length by omega]
          have hpl : Hid ((pages t m).length ≤ m) := Lib.hid (pages_length t m)
          by_cases ht : t.getD m false = true
          · have HY := Lib.hid (pages_yes ht)
            rw [ht] at k2
            clear ht
            go_wp2_with ((at_builtin; refine wpList_append_lies _ rfl (.tmp 57) (.tmp 59) 40 rfl wo.heap.size 3 i0 (.int .i64 0) 1 8 Tryd.underlying40 hi hz hsz hby rfl (by decide) _ _ _ rfl (HO2.out.alloc _) ⟨wr.heap.size, 0, none⟩ 1 1 [.int .i64 m] rfl rfl (cell_one_new _ _ _) (fun x hx => by simp at hx; subst hx; rfl) (by decide) (by have := hpl.out; unfold maxLen; omega) (by have := hpl.out; omega) (by simp; omega) _ rfl ?_; intro g cap w3 hown3 hgrow3 hat3 hlt3))
            go_roundw
            case rel =>
              have hgA := grownBy_trans (World.grownBy_alloc wr (Obj.cells #[Value.int IntKind.i64 (m : Int)] 3) _) hgrow3
              refine ⟨m + 1, some ⟨g, 0, none⟩, cap, by rw [HY.out]; simp, by go_num, by omega, Lib.hid (by rw [HY.out]; simpa [ci] using hown3), Lib.hid ?_, ?_, ?_⟩
              · refine World.ownsRow.kept HT.out hgA (.inr (fun e => ?_))
                have := (World.ownsRow.lt HO2.out w.heap.size e.symm).1
                omega
              · refine Below.grown HB2.out hgA hwsz (fun j hj => ?_)
                have := (World.ownsRow.lt HO2.out _ hj).1
                omega
              · exact Nat.le_trans hws2 hgA.size
            case measure => simp [intOf]; omega
          · have ht : t.getD m false = false := by simpa using ht
            have HY := Lib.hid (pages_no ht)
            rw [ht] at k2
            clear ht
            go_wp2
            go_roundw
            case rel => exact ⟨m + 1, av, cv, by rw [HY.out], by go_num, by omega, Lib.hid (by rw [HY.out]; exact HO2.out), HT, HB2.out, hws2⟩
            case measure => simp [intOf]; omega
        · obtain rfl : m = 201 := by omega
          go_wp2
          go_ret2
          rw [HA2.out]
          exact ⟨_, rfl, Sl.of_owns HO2.out, HB2.out⟩
end Go.Proofs.YtaojpdcjndlgpaaDoor
