/- diff.Pages: which pages changes touch. No conditions but Go's sizes. -/
import Derived.Test.YtaojpdcjndlgpaaDoorKeys
import Derived.Test.YtaojpdcjndlgpaaDoorPagesP
import Derived.Test.YtaojpdcjndlgpaaDoorCut
import Derived.Test.YtaojpdcjndlgpaaDoorOwn
import Derived.Test.YtaojpdcjndlgpaaDoorEq
import Derived.Test.YtaojpdcjndlgpaaDoorTold
import Derived.Deep.RegionHeld3
import Derived.Deep.RegionLaw
import Derived.StillTailTactics
import Derived.StillGives
namespace Go.Proofs.YtaojpdcjndlgpaaDoor
open Go.RowKit Go.Maps
set_option maxRecDepth 100000

/-- A map's keys are the pages that are marked. -/
def KO (D : DataW Unit) (t : List Bool) : Prop := IsMap D ∧ ∀ x : Int, has D (.int .i64 x) = true ↔ ∃ i : Nat, x = i ∧ i < 201 ∧ t.getD i false = true
theorem KO.start : KO (.map []) t0 := ⟨isMap_empty, fun x => by
  constructor
  · intro h; simp [has] at h
  · rintro ⟨i, _, h, h2⟩
    rw [t0_get] at h2; cases h2⟩
theorem KO.put {D : DataW Unit} {t : List Bool} (h : KO D t) (q : Nat) (hq : q < 201) (ht : t.length = 201) (d : DataW Unit) : KO (D.put (.int .i64 q) d) (t.set q true) := by
  refine ⟨h.1.put _ _, fun x => ?_⟩
  by_cases hx : x = q
  · subst hx
    rw [has_put_same h.1 (by trivial)]
    simp only [true_iff]
    exact ⟨q, rfl, hq, by simp [List.getD, ht, hq]⟩
  · rw [has_put_other (fun e => hx (by simpa using e)), h.2 x]
    constructor
    · rintro ⟨i, rfl, h1, h2⟩
      exact ⟨i, rfl, h1, by rw [List.getD_eq_getElem?_getD, List.getElem?_set_ne (by omega)]; simpa using h2⟩
    · rintro ⟨i, rfl, h1, h2⟩
      exact ⟨i, rfl, h1, by rw [List.getD_eq_getElem?_getD, List.getElem?_set_ne (by omega)] at h2; simpa using h2⟩

theorem law_int : Keyed Tryd.prog 3 := int_keyed Tryd.underlying3
theorem KO.perm {D : DataW Unit} {t : List Bool} (h : KO D t) {w : World} {R : Value → Option (DataW Unit × List MemPlace)} {b n : Nat} (ho : w.ownsMap Tryd.prog 3 R b n D) : (pages t 201).Perm (intKeys D) := by
  refine CollectedI.perm (left := fun _ => false) (ss := pages t 201) ⟨(pages_sorted t 201).imp (fun h => by omega), fun x => ?_⟩ ho law_int Tryd.underlying3 (fun _ => rfl)
  rw [mem_pages, h.2 x]; simp
theorem KO.size {D : DataW Unit} {t : List Bool} (h : KO D t) {w : World} {R : Value → Option (DataW Unit × List MemPlace)} {b n : Nat} (ho : w.ownsMap Tryd.prog 3 R b n D) : Maps.size D ≤ 201 := by
  have h1 := (h.perm ho).length_eq
  obtain ⟨es, rfl⟩ := h.1
  have h2 := pages_length t 201
  rw [h1] at h2
  simpa [intKeys, Maps.size] using h2
theorem pages_sort {t : List Bool} {k : Nat} {ss : List Int} (h : (pages t k).Perm ss) : ss.mergeSort (fun x y => decide (x ≤ y)) = pages t k :=
  pages_of_perm (h.nodup_iff.1 ((pages_sorted t k).imp (fun h => by omega))) (fun x => h.symm.mem_iff)

/-- What is answered. -/
def PPagesPost (w w' : World) (e : Ending) : Option (List Bool) → Prop
  | none => e = .returned (.tuple #[.slice none 0 0, errV 1]) ∧ Below w.heap.size w w'
  | some t => ∃ v, e = .returned (.tuple #[v, errV 0]) ∧ Sl w' v (pages t 201).length (ci (pages t 201)) ∧ Below w.heap.size w w'

set_option maxHeartbeats 4000000 in
theorem ppages_any (a : Option Addr) (l : List Ch) (c : Nat) (w : World) (hl : l.length ≤ 140737488351232) (h : ChAt w a l) :
    Calls Tryd.prog 28 #[.slice a l.length c] w fun e w' => PPagesPost w w' e (pg (t0) l) := by
  have H := Lib.hid h
  have HM : l.length ≤ 140737488351232 := hl
  clear h hl
  have hmm := @run_makeMap Tryd.prog
  go_enter Tryd.func28, Tryd.ntmps28
  go_wp2
  go_loopw [11] (fun i wr => ∃ (k n : Nat) (t : List Bool) (D : DataW Unit), i = .int .i64 k ∧ k ≤ l.length ∧ Hid (pg t0 l = pg t (l.drop k)) ∧ t.length = 201 ∧ Hid (KO D t) ∧ n ≤ k * 6400 ∧ Hid (wr.ownsMap Tryd.prog 3 (plainElem Tryd.prog 4) w.heap.size n D) ∧ Below w.heap.size w wr) (fun i _ => l.length - (intOf i).toNat)
  case atStart => exact ⟨0, 0, t0, .map [], rfl, Nat.zero_le _, Lib.hid rfl, t0_length, Lib.hid KO.start, Nat.zero_le _, Lib.hid (World.ownsMap_made _ _ _ _), (Below.refl _ _).alloc (Nat.le_refl _) _⟩
  case round =>
    obtain ⟨k, n, t, D, rfl, hk, HA, htl, HK, hn, HO, hB⟩ := hrel
    have HB := Lib.hid hB
    have hBz := hB.size
    clear hB
    by_cases hlt : k < l.length
    · obtain ⟨b2, o2, ao, co, an, cn, rfl, p1, p2, p3, p4, p5, q1, q2, q3, q4⟩ := H.out.some_of k hlt
      have g1 : wr.cell? ⟨b2, o2 + k * 3, none⟩ = some (.int .i64 l[k].at_) := cell_later HB.out p1
      have g2 : wr.cell? ⟨b2, o2 + k * 3 + 1, none⟩ = some (.slice ao l[k].old.length co) := cell_later HB.out p2
      have g3 : wr.cell? ⟨b2, o2 + k * 3 + 2, none⟩ = some (.slice an l[k].new.length cn) := cell_later HB.out p3
      clear p1 p2 p3 p4 p5
      have hdr : l.drop k = l[k] :: l.drop (k + 1) := List.drop_eq_getElem_cons hlt
      have HD : Hid (pg t0 l = pg t (l[k] :: l.drop (k + 1))) := Lib.hid (hdr ▸ HA.out)
      clear hdr
      generalize hcdef : l[k] = c at *
      clear hcdef
      by_cases e1 : c.at_ < 0
      · go_wp2
        go_ret2
        rw [HD.out, pg_bad (.inl e1)]
        exact ⟨rfl, HB.out.alloc hBz _⟩
      obtain ⟨p, hp⟩ : ∃ p : Nat, c.at_ = p := ⟨c.at_.toNat, by omega⟩
      rw [hp] at g1 e1
      have HP := Lib.hid hp
      clear hp
      by_cases e2 : (6400 : Int) ≤ p
      · go_wp2
        go_ret2
        rw [HD.out, pg_bad (.inr (.inl (by rw [HP.out]; exact e2)))]
        exact ⟨rfl, HB.out.alloc hBz _⟩
      by_cases e3 : 6400 - (p : Int) < c.new.length
      · go_wp2
        go_ret2
        rw [HD.out, pg_bad (.inr (.inr (by rw [HP.out]; exact e3)))]
        exact ⟨rfl, HB.out.alloc hBz _⟩
      have HN : Hid (¬badP c) := Lib.hid (by unfold badP; rw [HP.out]; omega)
      have hcl : c.new.length ≤ 6400 := by omega
      go_wp2
      obtain ⟨wo, rfl⟩ : ∃ wo : World, wo = wr := ⟨_, rfl⟩
      go_loopw [36] (fun q wr => ∃ (m n2 : Nat) (D2 : DataW Unit), q = .int .i64 m ∧ m ≤ c.new.length ∧ Hid (KO D2 (tset t p m)) ∧ n2 ≤ k * 6400 + m ∧ Hid (wr.ownsMap Tryd.prog 3 (plainElem Tryd.prog 4) w.heap.size n2 D2) ∧
        World.cell? wr ⟨wo.heap.size, 0, none⟩ = some (Value.int IntKind.i64 p) ∧ Below w.heap.size w wr) (fun q _ => c.new.length - (intOf q).toNat)
      case atStart => exact ⟨0, n, D, rfl, Nat.zero_le _, HK, hn, Lib.hid (HO.out.alloc _), by simp, HB.out.alloc hBz _⟩
      case round =>
        obtain ⟨m, n2, D2, rfl, hm, HK2, hn2, HO2, t1, hB2⟩ := hrel
        have HB2 := Lib.hid hB2
        have hBz2 := hB2.size
        clear hB2
        by_cases hmn : m < c.new.length
        · have hmn' : (m : Int) < c.new.length := by omega
          have hqd : Int.tdiv ((p : Int) + m) 32 = ((p + m) / 32 : Nat) := by
            rw [Int.tdiv_eq_ediv_of_nonneg (by omega)]; omega
          obtain ⟨q, hq⟩ : ∃ q, q = (p + m) / 32 := ⟨_, rfl⟩
          rw [← hq] at hqd
          have hq2 : q < 201 := by omega
          have HQ := Lib.hid hq
          clear hq
          have hkey : keyOf Tryd.prog 3 (.int .i64 q) = some (.int .i64 q) := keyOf_int_mk Tryd.underlying3 (WalkArith.wf_i64 (by omega))
          have hwlt : w.heap.size < wo.heap.size := HO.out.lt
          go_wp2_with (at_mapUpdate; refine wpList_mapUpdate_own _ rfl _ _ _ 101 rfl 3 4 law_int Tryd.underlying101 _ w.heap.size n2 _ rfl HO2.out (by unfold maxLen; omega) _ _ _ rfl rfl hkey _ [] (plainElem_bool Tryd.underlying4 _) ?_; intro w1 hown1 hgrow1)
          go_roundw
          case rel =>
            exact ⟨m + 1, n2 + 1, _, by go_num, by omega, Lib.hid (by rw [tset, ← HQ.out]; exact HK2.out.put q hq2 (by simp [htl]) _), by omega, Lib.hid hown1, World.grownBy.cell hgrow1 t1 (by simp; omega), HB2.out.grown hgrow1 hBz2 (fun j hj => by cases hj; exact Nat.le_refl _)⟩
          case measure => simp [intOf]; omega
        · go_wp2
          go_roundw
          case rel =>
            obtain rfl : m = c.new.length := by omega
            exact ⟨k + 1, n2, tset t p c.new.length, D2, by go_num, by omega, Lib.hid (by rw [HD.out, pg_go HN.out, HP.out]; rfl), by simp [htl], HK2, by omega, HO2, HB2.out⟩
          case measure => simp [intOf]; omega
    · have hk' : l.drop k = [] := List.drop_eq_nil_of_le (by omega)
      have hA := HA.out
      rw [hk'] at hA
      have HA2 : Hid (pg t0 l = some t) := Lib.hid hA
      clear hA hk'
      go_wp2_with (first
        | (go_at_call 53; refine (keys_call _ _).mono ?_; rintro e w' ⟨rfl, rfl⟩)
        | (go_at_call 52; refine (sorted_call w.heap.size n D _ wr HO.out (by have := HK.out.size HO.out; unfold maxLen; omega) (by have := HK.out.size HO.out; omega)).mono ?_; rintro e w' ⟨v, ss, rfl, hss, hrow, hb9⟩))
      go_ret2
      rw [HA2.out]
      have hps := (HK.out.perm HO.out).trans hss.symm
      rw [pages_sort hps, ← hps.length_eq] at hrow
      exact ⟨v, rfl, Sl.of_owns hrow, (HB.out.alloc hBz _).trans (hb9.mono (by omega))⟩
end Go.Proofs.YtaojpdcjndlgpaaDoor
