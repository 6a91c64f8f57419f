/- vaultlaw1.DiffTells: true of whatever bytes and changes. No conditions but Go's sizes; errors.errorType holds the handle of 'error'. -/
import Derived.Test.YtaojpdcjndlgpaaDoorRDiff
import Derived.Test.YtaojpdcjndlgpaaDoorPDiff
import Derived.Test.YtaojpdcjndlgpaaDoorRApply
import Derived.Test.YtaojpdcjndlgpaaDoorPApply
import Derived.Test.YtaojpdcjndlgpaaDoorRPages
import Derived.Test.YtaojpdcjndlgpaaDoorPPages
namespace Go.Proofs.YtaojpdcjndlgpaaDoor
open Go.RowKit
set_option maxRecDepth 100000

theorem errType_later {w w' : World} {B : Nat} (h : ErrType w) (hb : Below B w w') (hB : w.heap.size ≤ B) : ErrType w' := by
  have hlt := errType_lt h
  unfold ErrType at h ⊢
  rw [hb.cell (p := ⟨0, 0, none⟩) (Nat.lt_of_lt_of_le hlt hB)]; exact h
theorem below_drewN {B : Nat} {w W : World} {n : Nat} (h : W = w.drewN n) : Below B w W := by subst h; exact bdN (Below.refl _ _) n

/-- What lies there once changes are made. -/
theorem owns_changes {w : World} {base : Nat} {v : Value} {S : List CS} {L : List Ch} (h : Owns w base (outS v S :: rowsS S)) (hL : S.map (·.1) = L) : ∃ a c, v = .slice a L.length c ∧ ChAt w a L := by
  subst hL
  have h1 : w.ownsRow base 98 3 v S.length (cc (tS S)) := h.1 _ (List.mem_cons_self ..)
  obtain ⟨a, c, rfl, _, _, hat⟩ := Sl.of_owns h1
  refine ⟨a, c, by simp, tS S, by simp [tS], hat, fun i hi hi' => ?_⟩
  have hi2 : i < S.length := by simpa using hi
  have r1 : w.ownsRow base 5 1 S[i].2.1 S[i].1.old.length (cb S[i].1.old) := h.1 ⟨5, 1, S[i].2.1, S[i].1.old.length, cb S[i].1.old⟩ (List.mem_cons_of_mem _ (List.mem_flatMap.2 ⟨S[i], List.getElem_mem hi2, by simp⟩))
  have r2 : w.ownsRow base 5 1 S[i].2.2 S[i].1.new.length (cb S[i].1.new) := h.1 ⟨5, 1, S[i].2.2, S[i].1.new.length, cb S[i].1.new⟩ (List.mem_cons_of_mem _ (List.mem_flatMap.2 ⟨S[i], List.getElem_mem hi2, by simp⟩))
  simp only [tS, List.getElem_map]
  exact ⟨rfl, Sl.of_owns r1, Sl.of_owns r2⟩

/-- What has changed, and the fault. -/
def dl (a b : List UInt8) : List Ch × Int := if a.length ≠ b.length then ([], 3) else if 6400 < a.length then ([], 4) else ((rd a b a.length).1, 0)
theorem dl_shape {a b : List UInt8} (h : a.length ≠ b.length) : dl a b = ([], 3) := if_pos h
theorem dl_full {a b : List UInt8} (h : a.length = b.length) (h2 : 6400 < a.length) : dl a b = ([], 4) := by rw [dl, if_neg (by simpa using h), if_pos h2]
theorem dl_any {a b : List UInt8} (h : a.length = b.length) (h2 : a.length ≤ 6400) : dl a b = ((rd a b a.length).1, 0) := by rw [dl, if_neg (by simpa using h), if_neg (by omega)]
theorem dl_length (a b : List UInt8) : (dl a b).1.length ≤ 140737488351232 := by
  by_cases h : a.length = b.length
  · by_cases h2 : 6400 < a.length
    · rw [dl_full h h2]; simp
    · rw [dl_any h (by omega)]
      have := (rd_lt a b a.length).2.2.2
      simp at this ⊢; omega
  · rw [dl_shape h]; simp

theorem rdiff_u (a1 a2 : Option Addr) (a b : List UInt8) (n2 c1 c2 : Nat) (w : World) (hm : a.length ≤ 6400) (he : a.length = b.length) (hn : n2 = b.length) (h1 : At w a1 (cb a)) (h2 : At w a2 (cb b)) :
    Calls Tryd.prog 22 #[.slice a1 a.length c1, .slice a2 n2 c2] w fun e w' => ∃ x c, e = .returned (.slice x (dl a b).1.length c) ∧ ChAt w' x (dl a b).1 ∧ Below w.heap.size w w' := by
  obtain rfl : n2 = a.length := by omega
  refine (rdiff_any a1 a2 a b c1 c2 w hm he h1 h2).mono ?_
  rintro e w' ⟨v, S, rfl, hS, hO, hB⟩
  obtain ⟨x, c, rfl, hx⟩ := owns_changes hO (L := (dl a b).1) (by rw [hS, dl_any he hm])
  exact ⟨x, c, rfl, hx, hB⟩
theorem pdiff_u (a1 a2 : Option Addr) (a b : List UInt8) (c1 c2 : Nat) (w : World) (hc1 : a.length ≤ c1) (hc2 : b.length ≤ c2) (h1 : At w a1 (cb a)) (h2 : At w a2 (cb b)) :
    Calls Tryd.prog 23 #[.slice a1 a.length c1, .slice a2 b.length c2] w fun e w' => ∃ x c, e = .returned (.tuple #[.slice x (dl a b).1.length c, errV (dl a b).2]) ∧ ChAt w' x (dl a b).1 ∧ Below w.heap.size w w' := by
  have hnil : ∀ W : World, ChAt W none [] := fun W => ⟨[], rfl, At.nil _ _, fun i hi => by simp at hi⟩
  by_cases h : a.length = b.length
  · by_cases hf : 6400 < a.length
    · rw [← h, dl_full h hf]
      refine (pdiff_full a1 a2 a.length c1 c2 w hf).mono ?_
      rintro e w' ⟨rfl, rfl⟩
      exact ⟨none, 0, rfl, hnil _, Below.refl _ _⟩
    · rw [← h]
      refine (pdiff_any a1 a2 a b c1 c2 w (by omega) h hc1 (by omega) h1 h2).mono ?_
      rintro e w' ⟨v, S, rfl, hS, hO, hB⟩
      obtain ⟨x, c, rfl, hx⟩ := owns_changes hO (L := (dl a b).1) (by rw [hS, dl_any h (by omega)])
      exact ⟨x, c, by rw [dl_any h (by omega)]; rfl, hx, hB⟩
  · rw [dl_shape h]
    refine (pdiff_shape a1 a2 a.length b.length c1 c2 w (by omega)).mono ?_
    rintro e w' ⟨rfl, rfl⟩
    exact ⟨none, 0, rfl, hnil _, Below.refl _ _⟩
theorem rapply_u (a1 a2 : Option Addr) (b : List UInt8) (l : List Ch) (c1 c2 : Nat) (w : World) (hm : b.length ≤ 140737488351232) (h1 : At w a1 (cb b)) (h2 : ChAt w a2 l) :
    Calls Tryd.prog 25 #[.slice a1 b.length c1, .slice a2 l.length c2] w fun e w' => ∃ x c, e = .returned (.tuple #[.slice x (apl b l).1.length c, .int .i64 (apl b l).2]) ∧ At w' x (cb (apl b l).1) ∧ Below w.heap.size w w' := by
  by_cases hl : l.length ≤ 200
  · have e1 : apl b l = ap b l := by rw [apl, if_neg (by omega)]
    rw [e1]
    refine (rapply_any a1 a2 b l c1 c2 w hm hl h1 h2).mono ?_
    rintro e w' ⟨v, rfl, ⟨x, c, rfl, _, _, hx⟩, hB⟩
    exact ⟨x, c, rfl, hx, hB⟩
  · have e1 : apl b l = ([], 4) := by rw [apl, if_pos (by omega)]
    rw [e1]
    refine (rapply_full a1 a2 b.length l.length c1 c2 w (by omega)).mono ?_
    rintro e w' ⟨rfl, rfl⟩
    exact ⟨none, 0, rfl, At.nil _ _, Below.refl _ _⟩
theorem papply_u (a1 a2 : Option Addr) (b : List UInt8) (l : List Ch) (c1 c2 : Nat) (w : World) (hm : b.length ≤ 140737488351232) (h1 : At w a1 (cb b)) (h2 : ChAt w a2 l) :
    Calls Tryd.prog 26 #[.slice a1 b.length c1, .slice a2 l.length c2] w fun e w' => ∃ x c, e = .returned (.tuple #[.slice x (apl b l).1.length c, errV (apl b l).2]) ∧ At w' x (cb (apl b l).1) ∧ Below w.heap.size w w' := by
  by_cases hl : l.length ≤ 200
  · have e1 : apl b l = ap b l := by rw [apl, if_neg (by omega)]
    rw [e1]
    refine (papply_any a1 a2 b l c1 c2 w hm hl h1 h2).mono ?_
    rintro e w' ⟨v, rfl, ⟨x, c, rfl, _, _, hx⟩, hB⟩
    exact ⟨x, c, rfl, hx, hB⟩
  · have e1 : apl b l = ([], 4) := by rw [apl, if_pos (by omega)]
    rw [e1]
    refine (papply_full a1 a2 b.length l.length c1 c2 w (by omega)).mono ?_
    rintro e w' ⟨rfl, rfl⟩
    exact ⟨none, 0, rfl, At.nil _ _, Below.refl _ _⟩
/-- Which pages, and the fault. -/
def pgl (l : List Ch) : List Int × Int := match pg t0 l with
  | none => ([], 1)
  | some t => (pages t 201, 0)
theorem pgl_length (l : List Ch) : (pgl l).1.length ≤ 140737488351232 := by
  unfold pgl
  split
  · simp
  · rename_i t _
    have := pages_length t 201
    simp only; omega
theorem rpages_u (a : Option Addr) (l : List Ch) (c : Nat) (w : World) (hl : l.length ≤ 140737488351232) (h : ChAt w a l) :
    Calls Tryd.prog 27 #[.slice a l.length c] w fun e w' => ∃ x c, e = .returned (.tuple #[.slice x (pgl l).1.length c, .int .i64 (pgl l).2]) ∧ At w' x (ci (pgl l).1) ∧ Below w.heap.size w w' := by
  refine (rpages_any a l c w hl h).mono ?_
  intro e w' hp
  unfold pgl
  cases hpg : pg t0 l with
  | none =>
    rw [hpg] at hp
    obtain ⟨rfl, hB⟩ := hp
    exact ⟨none, 0, rfl, At.nil _ _, hB⟩
  | some t =>
    rw [hpg] at hp
    obtain ⟨v, rfl, ⟨x, c, rfl, _, _, hx⟩, hB⟩ := hp
    exact ⟨x, c, rfl, hx, hB⟩
theorem ppages_u (a : Option Addr) (l : List Ch) (c : Nat) (w : World) (hl : l.length ≤ 140737488351232) (h : ChAt w a l) :
    Calls Tryd.prog 28 #[.slice a l.length c] w fun e w' => ∃ x c, e = .returned (.tuple #[.slice x (pgl l).1.length c, errV (pgl l).2]) ∧ At w' x (ci (pgl l).1) ∧ Below w.heap.size w w' := by
  refine (ppages_any a l c w hl h).mono ?_
  intro e w' hp
  unfold pgl
  cases hpg : pg t0 l with
  | none =>
    rw [hpg] at hp
    obtain ⟨rfl, hB⟩ := hp
    exact ⟨none, 0, rfl, At.nil _ _, hB⟩
  | some t =>
    rw [hpg] at hp
    obtain ⟨v, rfl, ⟨x, c, rfl, _, _, hx⟩, hB⟩ := hp
    exact ⟨x, c, rfl, hx, hB⟩
theorem error_same (n m : Int) (w : World) (he : n = m) (hg : ErrType w) : Calls Tryd.prog 9 #[errV n, .int .i64 m] w fun e w' => e = .returned (.bool true) ∧ Below w.heap.size w w' := by
  subst he
  exact (error_any n n w hg).mono fun e w' ⟨h1, h2⟩ => ⟨by rw [h1]; simp, h2⟩
theorem changes_same (a1 a2 : Option Addr) (l : List Ch) (n1 n2 c1 c2 : Nat) (w : World) (e1 : l.length = n1) (e2 : l.length = n2) (hm : l.length ≤ 140737488351232) (h1 : ChAt w a1 l) (h2 : ChAt w a2 l) :
    Calls Tryd.prog 24 #[.slice a1 n1 c1, .slice a2 n2 c2] w fun e w' => e = .returned (.bool true) ∧ Below w.heap.size w w' := by
  subst e1; subst e2
  exact (changes_any a1 a2 l l c1 c2 w hm h1 h2).mono fun e w' ⟨h1, n, h2⟩ => ⟨by rw [h1]; simp, below_drewN h2⟩
theorem ints_same (a1 a2 : Option Addr) (l : List Int) (c1 c2 : Nat) (w : World) (hm : l.length ≤ 140737488351232) (h1 : At w a1 (ci l)) (h2 : At w a2 (ci l)) :
    Calls Tryd.prog 29 #[.slice a1 l.length c1, .slice a2 l.length c2] w fun e w' => e = .returned (.bool true) ∧ Below w.heap.size w w' :=
  (ints_any a1 a2 l l c1 c2 w hm h1 h2).mono fun e w' ⟨h1, n, h2⟩ => ⟨by rw [h1]; simp, below_drewN h2⟩

set_option maxHeartbeats 4000000 in
/-- The law. -/
theorem diff_law (a1 a2 a3 : Option Addr) (a b : List UInt8) (l : List Ch) (c1 c2 c3 : Nat) (w : World) (ha : a.length ≤ 140737488351232) (hb : b.length ≤ 140737488351232) (hl : l.length ≤ 140737488351232) (hc1 : a.length ≤ c1) (hc2 : b.length ≤ c2)
    (h1 : At w a1 (cb a)) (h2 : At w a2 (cb b)) (h3 : ChAt w a3 l) (hE : ErrType w) :
    Calls Tryd.prog 4 #[.slice a1 a.length c1, .slice a2 b.length c2, .slice a3 l.length c3] w fun e w' => e = .returned (.bool true) ∧ Below w.heap.size w w' := by
  have H1 : Hid (∀ W, Below w.heap.size w W → At W a1 (cb a)) := Lib.hid (fun W h => h1.below h (Nat.le_refl _))
  have H2 : Hid (∀ W, Below w.heap.size w W → At W a2 (cb b)) := Lib.hid (fun W h => h2.below h (Nat.le_refl _))
  have H3 : Hid (∀ W, Below w.heap.size w W → ChAt W a3 l) := Lib.hid (fun W h => h3.below h (Nat.le_refl _))
  have HE : Hid (∀ W, Below w.heap.size w W → ErrType W) := Lib.hid (fun W h => errType_later hE h (Nat.le_refl _))
  have HA := Lib.hid ha
  have HL := Lib.hid hl
  have HC1 := Lib.hid hc1
  have HC2 := Lib.hid hc2
  have hMa : a.length ≤ 9223372036854775807 := by omega
  have hMb : b.length ≤ 9223372036854775807 := by omega
  have hMl : l.length ≤ 9223372036854775807 := by omega
  have hb0 : Hid (Below w.heap.size w w) := Lib.hid (Below.refl _ _)
  clear h1 h2 h3 hE ha hl hc1 hc2
  rcases Nat.lt_or_ge 6400 a.length with hbig | hsm
  · by_cases hne : a.length = b.length
    · have HDL := Lib.hid (dl_full hne hbig)
      have hq : ((a.length : Int) != (b.length : Int)) = false := by simp only [bne_eq_false_iff_eq, Int.natCast_inj]; exact hne
      have hnil : ChAt w none (dl a b).1 := by rw [dl_full hne hbig]; exact ⟨[], rfl, At.nil _ _, fun i hi => by simp at hi⟩
      have hx1 := Lib.hid hnil
      have hb1 := hb0
      clear hne hnil
      go_enter Tryd.func4, Tryd.ntmps4
      go_wp2_with (first
        | (go_at_call 23; refine (pdiff_u a1 a2 a b c1 c2 _ HC1.out HC2.out (H1.out _ hb1.out) (H2.out _ hb1.out)).mono ?_; rintro e w2 ⟨x2, y2, rfl, hx2, hn⟩; have hb2 := Lib.hid (hb1.out.trans (hn.mono hb1.out.size)); have hx2 := Lib.hid hx2; have hx1 := Lib.hid (hx1.out.below hn (Nat.le_refl _)); clear hn)
        | (go_at_call 9; refine (error_same _ _ _ (by rw [HDL.out]) (HE.out _ hb2.out)).mono ?_; rintro e w3 ⟨rfl, hn⟩; have hb3 := Lib.hid (hb2.out.trans (hn.mono hb2.out.size)); have hx1 := Lib.hid (hx1.out.below hn (Nat.le_refl _)); have hx2 := Lib.hid (hx2.out.below hn (Nat.le_refl _)); clear hn)
        | (go_at_call 24; refine (changes_same _ _ (dl a b).1 _ _ _ _ _ rfl (by rw [HDL.out]; rfl) (dl_length a b) hx2.out hx1.out).mono ?_; rintro e w4 ⟨rfl, hn⟩; have hb4 := Lib.hid (hb3.out.trans (hn.mono hb3.out.size)); clear hn hx1 hx2)
        | (go_at_call 25; refine (rapply_u a1 a3 a l c1 c3 _ HA.out (H1.out _ hb4.out) (H3.out _ hb4.out)).mono ?_; rintro e w5 ⟨x5, y5, rfl, hx5, hn⟩; have hb5 := Lib.hid (hb4.out.trans (hn.mono hb4.out.size)); have hx5 := Lib.hid hx5; clear hn)
        | (go_at_call 26; refine (papply_u a1 a3 a l c1 c3 _ HA.out (H1.out _ hb5.out) (H3.out _ hb5.out)).mono ?_; rintro e w6 ⟨x6, y6, rfl, hx6, hn⟩; have hb6 := Lib.hid (hb5.out.trans (hn.mono hb5.out.size)); have hx5 := Lib.hid (hx5.out.below hn (Nat.le_refl _)); have hx6 := Lib.hid hx6; clear hn)
        | (go_at_call 9; refine (error_same _ _ _ rfl (HE.out _ hb6.out)).mono ?_; rintro e w7 ⟨rfl, hn⟩; have hb7 := Lib.hid (hb6.out.trans (hn.mono hb6.out.size)); have hx5 := Lib.hid (hx5.out.below hn (Nat.le_refl _)); have hx6 := Lib.hid (hx6.out.below hn (Nat.le_refl _)); clear hn)
        | (go_at_call 27; refine (rpages_u a3 l c3 _ HL.out (H3.out _ hb7.out)).mono ?_; rintro e w8 ⟨x8, y8, rfl, hx8, hn⟩; have hb8 := Lib.hid (hb7.out.trans (hn.mono hb7.out.size)); have hx5 := Lib.hid (hx5.out.below hn (Nat.le_refl _)); have hx6 := Lib.hid (hx6.out.below hn (Nat.le_refl _)); have hx8 := Lib.hid hx8; clear hn)
        | (go_at_call 28; refine (ppages_u a3 l c3 _ HL.out (H3.out _ hb8.out)).mono ?_; rintro e w9 ⟨x9, y9, rfl, hx9, hn⟩; have hb9 := Lib.hid (hb8.out.trans (hn.mono hb8.out.size)); have hx5 := Lib.hid (hx5.out.below hn (Nat.le_refl _)); have hx6 := Lib.hid (hx6.out.below hn (Nat.le_refl _)); have hx8 := Lib.hid (hx8.out.below hn (Nat.le_refl _)); have hx9 := Lib.hid hx9; clear hn)
        | (go_at_call 9; refine (error_same _ _ _ rfl (HE.out _ hb9.out)).mono ?_; rintro e w10 ⟨rfl, hn⟩; have hb10 := Lib.hid (hb9.out.trans (hn.mono hb9.out.size)); have hx5 := Lib.hid (hx5.out.below hn (Nat.le_refl _)); have hx6 := Lib.hid (hx6.out.below hn (Nat.le_refl _)); have hx8 := Lib.hid (hx8.out.below hn (Nat.le_refl _)); have hx9 := Lib.hid (hx9.out.below hn (Nat.le_refl _)); clear hn)
        | (go_at_call 29; refine (ints_same x9 x8 _ y9 y8 _ (pgl_length l) hx9.out hx8.out).mono ?_; rintro e w11 ⟨rfl, hn⟩; have hb11 := Lib.hid (hb10.out.trans (hn.mono hb10.out.size)); have s5 := conv_str x5 _ y5 w11 (hx5.out.below hn (Nat.le_refl _)); have s6 := conv_str x6 _ y6 w11 (hx6.out.below hn (Nat.le_refl _)); clear hn hx5 hx6 hx8 hx9))
      go_ret
      exact ⟨rfl, hb11.out⟩
    · have HDL := Lib.hid (dl_shape hne)
      have hq : ((a.length : Int) != (b.length : Int)) = true := by simp only [bne_iff_ne, ne_eq, Int.natCast_inj]; exact hne
      have hnil : ChAt w none (dl a b).1 := by rw [dl_shape hne]; exact ⟨[], rfl, At.nil _ _, fun i hi => by simp at hi⟩
      have hx1 := Lib.hid hnil
      have hb1 := hb0
      clear hne hnil
      go_enter Tryd.func4, Tryd.ntmps4
      go_wp2_with (first
        | (go_at_call 23; refine (pdiff_u a1 a2 a b c1 c2 _ HC1.out HC2.out (H1.out _ hb1.out) (H2.out _ hb1.out)).mono ?_; rintro e w2 ⟨x2, y2, rfl, hx2, hn⟩; have hb2 := Lib.hid (hb1.out.trans (hn.mono hb1.out.size)); have hx2 := Lib.hid hx2; have hx1 := Lib.hid (hx1.out.below hn (Nat.le_refl _)); clear hn)
        | (go_at_call 9; refine (error_same _ _ _ (by rw [HDL.out]) (HE.out _ hb2.out)).mono ?_; rintro e w3 ⟨rfl, hn⟩; have hb3 := Lib.hid (hb2.out.trans (hn.mono hb2.out.size)); have hx1 := Lib.hid (hx1.out.below hn (Nat.le_refl _)); have hx2 := Lib.hid (hx2.out.below hn (Nat.le_refl _)); clear hn)
        | (go_at_call 24; refine (changes_same _ _ (dl a b).1 _ _ _ _ _ rfl (by rw [HDL.out]; rfl) (dl_length a b) hx2.out hx1.out).mono ?_; rintro e w4 ⟨rfl, hn⟩; have hb4 := Lib.hid (hb3.out.trans (hn.mono hb3.out.size)); clear hn hx1 hx2)
        | (go_at_call 25; refine (rapply_u a1 a3 a l c1 c3 _ HA.out (H1.out _ hb4.out) (H3.out _ hb4.out)).mono ?_; rintro e w5 ⟨x5, y5, rfl, hx5, hn⟩; have hb5 := Lib.hid (hb4.out.trans (hn.mono hb4.out.size)); have hx5 := Lib.hid hx5; clear hn)
        | (go_at_call 26; refine (papply_u a1 a3 a l c1 c3 _ HA.out (H1.out _ hb5.out) (H3.out _ hb5.out)).mono ?_; rintro e w6 ⟨x6, y6, rfl, hx6, hn⟩; have hb6 := Lib.hid (hb5.out.trans (hn.mono hb5.out.size)); have hx5 := Lib.hid (hx5.out.below hn (Nat.le_refl _)); have hx6 := Lib.hid hx6; clear hn)
        | (go_at_call 9; refine (error_same _ _ _ rfl (HE.out _ hb6.out)).mono ?_; rintro e w7 ⟨rfl, hn⟩; have hb7 := Lib.hid (hb6.out.trans (hn.mono hb6.out.size)); have hx5 := Lib.hid (hx5.out.below hn (Nat.le_refl _)); have hx6 := Lib.hid (hx6.out.below hn (Nat.le_refl _)); clear hn)
        | (go_at_call 27; refine (rpages_u a3 l c3 _ HL.out (H3.out _ hb7.out)).mono ?_; rintro e w8 ⟨x8, y8, rfl, hx8, hn⟩; have hb8 := Lib.hid (hb7.out.trans (hn.mono hb7.out.size)); have hx5 := Lib.hid (hx5.out.below hn (Nat.le_refl _)); have hx6 := Lib.hid (hx6.out.below hn (Nat.le_refl _)); have hx8 := Lib.hid hx8; clear hn)
        | (go_at_call 28; refine (ppages_u a3 l c3 _ HL.out (H3.out _ hb8.out)).mono ?_; rintro e w9 ⟨x9, y9, rfl, hx9, hn⟩; have hb9 := Lib.hid (hb8.out.trans (hn.mono hb8.out.size)); have hx5 := Lib.hid (hx5.out.below hn (Nat.le_refl _)); have hx6 := Lib.hid (hx6.out.below hn (Nat.le_refl _)); have hx8 := Lib.hid (hx8.out.below hn (Nat.le_refl _)); have hx9 := Lib.hid hx9; clear hn)
        | (go_at_call 9; refine (error_same _ _ _ rfl (HE.out _ hb9.out)).mono ?_; rintro e w10 ⟨rfl, hn⟩; have hb10 := Lib.hid (hb9.out.trans (hn.mono hb9.out.size)); have hx5 := Lib.hid (hx5.out.below hn (Nat.le_refl _)); have hx6 := Lib.hid (hx6.out.below hn (Nat.le_refl _)); have hx8 := Lib.hid (hx8.out.below hn (Nat.le_refl _)); have hx9 := Lib.hid (hx9.out.below hn (Nat.le_refl _)); clear hn)
        | (go_at_call 29; refine (ints_same x9 x8 _ y9 y8 _ (pgl_length l) hx9.out hx8.out).mono ?_; rintro e w11 ⟨rfl, hn⟩; have hb11 := Lib.hid (hb10.out.trans (hn.mono hb10.out.size)); have s5 := conv_str x5 _ y5 w11 (hx5.out.below hn (Nat.le_refl _)); have s6 := conv_str x6 _ y6 w11 (hx6.out.below hn (Nat.le_refl _)); clear hn hx5 hx6 hx8 hx9))
      go_ret
      exact ⟨rfl, hb11.out⟩
  · by_cases hne : a.length = b.length
    · have HDL := Lib.hid (dl_any hne hsm)
      have HNE := Lib.hid hne
      have HSM := Lib.hid hsm
      have hq : ((a.length : Int) != (b.length : Int)) = false := by simp only [bne_eq_false_iff_eq, Int.natCast_inj]; exact hne
      clear hne
      go_enter Tryd.func4, Tryd.ntmps4
      go_wp2_with (first
        | (go_at_call 22; refine (rdiff_u a1 a2 a b _ c1 c2 _ HSM.out HNE.out rfl (H1.out _ hb0.out) (H2.out _ hb0.out)).mono ?_; rintro e w1 ⟨x1, y1, rfl, hx1, hn⟩; have hb1 := Lib.hid hn; have hx1 := Lib.hid hx1; clear hn)
        | (go_at_call 23; refine (pdiff_u a1 a2 a b c1 c2 _ HC1.out HC2.out (H1.out _ hb1.out) (H2.out _ hb1.out)).mono ?_; rintro e w2 ⟨x2, y2, rfl, hx2, hn⟩; have hb2 := Lib.hid (hb1.out.trans (hn.mono hb1.out.size)); have hx2 := Lib.hid hx2; have hx1 := Lib.hid (hx1.out.below hn (Nat.le_refl _)); clear hn)
        | (go_at_call 9; refine (error_same _ _ _ (by rw [HDL.out]) (HE.out _ hb2.out)).mono ?_; rintro e w3 ⟨rfl, hn⟩; have hb3 := Lib.hid (hb2.out.trans (hn.mono hb2.out.size)); have hx1 := Lib.hid (hx1.out.below hn (Nat.le_refl _)); have hx2 := Lib.hid (hx2.out.below hn (Nat.le_refl _)); clear hn)
        | (go_at_call 24; refine (changes_same _ _ (dl a b).1 _ _ _ _ _ rfl rfl (dl_length a b) hx2.out hx1.out).mono ?_; rintro e w4 ⟨rfl, hn⟩; have hb4 := Lib.hid (hb3.out.trans (hn.mono hb3.out.size)); clear hn hx1 hx2)
        | (go_at_call 25; refine (rapply_u a1 a3 a l c1 c3 _ HA.out (H1.out _ hb4.out) (H3.out _ hb4.out)).mono ?_; rintro e w5 ⟨x5, y5, rfl, hx5, hn⟩; have hb5 := Lib.hid (hb4.out.trans (hn.mono hb4.out.size)); have hx5 := Lib.hid hx5; clear hn)
        | (go_at_call 26; refine (papply_u a1 a3 a l c1 c3 _ HA.out (H1.out _ hb5.out) (H3.out _ hb5.out)).mono ?_; rintro e w6 ⟨x6, y6, rfl, hx6, hn⟩; have hb6 := Lib.hid (hb5.out.trans (hn.mono hb5.out.size)); have hx5 := Lib.hid (hx5.out.below hn (Nat.le_refl _)); have hx6 := Lib.hid hx6; clear hn)
        | (go_at_call 9; refine (error_same _ _ _ rfl (HE.out _ hb6.out)).mono ?_; rintro e w7 ⟨rfl, hn⟩; have hb7 := Lib.hid (hb6.out.trans (hn.mono hb6.out.size)); have hx5 := Lib.hid (hx5.out.below hn (Nat.le_refl _)); have hx6 := Lib.hid (hx6.out.below hn (Nat.le_refl _)); clear hn)
        | (go_at_call 27; refine (rpages_u a3 l c3 _ HL.out (H3.out _ hb7.out)).mono ?_; rintro e w8 ⟨x8, y8, rfl, hx8, hn⟩; have hb8 := Lib.hid (hb7.out.trans (hn.mono hb7.out.size)); have hx5 := Lib.hid (hx5.out.below hn (Nat.le_refl _)); have hx6 := Lib.hid (hx6.out.below hn (Nat.le_refl _)); have hx8 := Lib.hid hx8; clear hn)
        | (go_at_call 28; refine (ppages_u a3 l c3 _ HL.out (H3.out _ hb8.out)).mono ?_; rintro e w9 ⟨x9, y9, rfl, hx9, hn⟩; have hb9 := Lib.hid (hb8.out.trans (hn.mono hb8.out.size)); have hx5 := Lib.hid (hx5.out.below hn (Nat.le_refl _)); have hx6 := Lib.hid (hx6.out.below hn (Nat.le_refl _)); have hx8 := Lib.hid (hx8.out.below hn (Nat.le_refl _)); have hx9 := Lib.hid hx9; clear hn)
        | (go_at_call 9; refine (error_same _ _ _ rfl (HE.out _ hb9.out)).mono ?_; rintro e w10 ⟨rfl, hn⟩; have hb10 := Lib.hid (hb9.out.trans (hn.mono hb9.out.size)); have hx5 := Lib.hid (hx5.out.below hn (Nat.le_refl _)); have hx6 := Lib.hid (hx6.out.below hn (Nat.le_refl _)); have hx8 := Lib.hid (hx8.out.below hn (Nat.le_refl _)); have hx9 := Lib.hid (hx9.out.below hn (Nat.le_refl _)); clear hn)
        | (go_at_call 29; refine (ints_same x9 x8 _ y9 y8 _ (pgl_length l) hx9.out hx8.out).mono ?_; rintro e w11 ⟨rfl, hn⟩; have hb11 := Lib.hid (hb10.out.trans (hn.mono hb10.out.size)); have s5 := conv_str x5 _ y5 w11 (hx5.out.below hn (Nat.le_refl _)); have s6 := conv_str x6 _ y6 w11 (hx6.out.below hn (Nat.le_refl _)); clear hn hx5 hx6 hx8 hx9))
      go_ret
      exact ⟨rfl, hb11.out⟩
    · have HDL := Lib.hid (dl_shape hne)
      have hq : ((a.length : Int) != (b.length : Int)) = true := by simp only [bne_iff_ne, ne_eq, Int.natCast_inj]; exact hne
      have hnil : ChAt w none (dl a b).1 := by rw [dl_shape hne]; exact ⟨[], rfl, At.nil _ _, fun i hi => by simp at hi⟩
      have hx1 := Lib.hid hnil
      have hb1 := hb0
      clear hne hnil
      go_enter Tryd.func4, Tryd.ntmps4
      go_wp2_with (first
        | (go_at_call 23; refine (pdiff_u a1 a2 a b c1 c2 _ HC1.out HC2.out (H1.out _ hb1.out) (H2.out _ hb1.out)).mono ?_; rintro e w2 ⟨x2, y2, rfl, hx2, hn⟩; have hb2 := Lib.hid (hb1.out.trans (hn.mono hb1.out.size)); have hx2 := Lib.hid hx2; have hx1 := Lib.hid (hx1.out.below hn (Nat.le_refl _)); clear hn)
        | (go_at_call 9; refine (error_same _ _ _ (by rw [HDL.out]) (HE.out _ hb2.out)).mono ?_; rintro e w3 ⟨rfl, hn⟩; have hb3 := Lib.hid (hb2.out.trans (hn.mono hb2.out.size)); have hx1 := Lib.hid (hx1.out.below hn (Nat.le_refl _)); have hx2 := Lib.hid (hx2.out.below hn (Nat.le_refl _)); clear hn)
        | (go_at_call 24; refine (changes_same _ _ (dl a b).1 _ _ _ _ _ rfl (by rw [HDL.out]; rfl) (dl_length a b) hx2.out hx1.out).mono ?_; rintro e w4 ⟨rfl, hn⟩; have hb4 := Lib.hid (hb3.out.trans (hn.mono hb3.out.size)); clear hn hx1 hx2)
        | (go_at_call 25; refine (rapply_u a1 a3 a l c1 c3 _ HA.out (H1.out _ hb4.out) (H3.out _ hb4.out)).mono ?_; rintro e w5 ⟨x5, y5, rfl, hx5, hn⟩; have hb5 := Lib.hid (hb4.out.trans (hn.mono hb4.out.size)); have hx5 := Lib.hid hx5; clear hn)
        | (go_at_call 26; refine (papply_u a1 a3 a l c1 c3 _ HA.out (H1.out _ hb5.out) (H3.out _ hb5.out)).mono ?_; rintro e w6 ⟨x6, y6, rfl, hx6, hn⟩; have hb6 := Lib.hid (hb5.out.trans (hn.mono hb5.out.size)); have hx5 := Lib.hid (hx5.out.below hn (Nat.le_refl _)); have hx6 := Lib.hid hx6; clear hn)
        | (go_at_call 9; refine (error_same _ _ _ rfl (HE.out _ hb6.out)).mono ?_; rintro e w7 ⟨rfl, hn⟩; have hb7 := Lib.hid (hb6.out.trans (hn.mono hb6.out.size)); have hx5 := Lib.hid (hx5.out.below hn (Nat.le_refl _)); have hx6 := Lib.hid (hx6.out.below hn (Nat.le_refl _)); clear hn)
        | (go_at_call 27; refine (rpages_u a3 l c3 _ HL.out (H3.out _ hb7.out)).mono ?_; rintro e w8 ⟨x8, y8, rfl, hx8, hn⟩; have hb8 := Lib.hid (hb7.out.trans (hn.mono hb7.out.size)); have hx5 := Lib.hid (hx5.out.below hn (Nat.le_refl _)); have hx6 := Lib.hid (hx6.out.below hn (Nat.le_refl _)); have hx8 := Lib.hid hx8; clear hn)
        | (go_at_call 28; refine (ppages_u a3 l c3 _ HL.out (H3.out _ hb8.out)).mono ?_; rintro e w9 ⟨x9, y9, rfl, hx9, hn⟩; have hb9 := Lib.hid (hb8.out.trans (hn.mono hb8.out.size)); have hx5 := Lib.hid (hx5.out.below hn (Nat.le_refl _)); have hx6 := Lib.hid (hx6.out.below hn (Nat.le_refl _)); have hx8 := Lib.hid (hx8.out.below hn (Nat.le_refl _)); have hx9 := Lib.hid hx9; clear hn)
        | (go_at_call 9; refine (error_same _ _ _ rfl (HE.out _ hb9.out)).mono ?_; rintro e w10 ⟨rfl, hn⟩; have hb10 := Lib.hid (hb9.out.trans (hn.mono hb9.out.size)); have hx5 := Lib.hid (hx5.out.below hn (Nat.le_refl _)); have hx6 := Lib.hid (hx6.out.below hn (Nat.le_refl _)); have hx8 := Lib.hid (hx8.out.below hn (Nat.le_refl _)); have hx9 := Lib.hid (hx9.out.below hn (Nat.le_refl _)); clear hn)
        | (go_at_call 29; refine (ints_same x9 x8 _ y9 y8 _ (pgl_length l) hx9.out hx8.out).mono ?_; rintro e w11 ⟨rfl, hn⟩; have hb11 := Lib.hid (hb10.out.trans (hn.mono hb10.out.size)); have s5 := conv_str x5 _ y5 w11 (hx5.out.below hn (Nat.le_refl _)); have s6 := conv_str x6 _ y6 w11 (hx6.out.below hn (Nat.le_refl _)); clear hn hx5 hx6 hx8 hx9))
      go_ret
      exact ⟨rfl, hb11.out⟩
end Go.Proofs.YtaojpdcjndlgpaaDoor
