/- bytes.Equal; vaultsame.Changes: whether two lists of changes are the same. No conditions but Go's sizes. -/
import Derived.Test.YtaojpdcjndlgpaaDoorEq
namespace Go.Proofs.YtaojpdcjndlgpaaDoor
open Go.RowKit
set_option maxRecDepth 100000

theorem bytesEq_any (a1 a2 : Option Addr) (l1 l2 : List UInt8) (c1 c2 : Nat) (w : World) (h1 : At w a1 (cb l1)) (h2 : At w a2 (cb l2)) :
    Calls Tryd.prog 51 #[.slice a1 l1.length c1, .slice a2 l2.length c2] w fun e w' => e = .returned (.bool (decide (l1 = l2))) ∧ w' = w := by
  have k1 := conv_str a1 l1 c1 w h1
  have k2 := conv_str a2 l2 c2 w h2
  have k3 := Lib.hid (strOf_eq l1 l2)
  go_enter Tryd.func51, Tryd.ntmps51
  go_wp2
  go_ret
  exact ⟨by rw [← k3.out]; rfl, rfl⟩

/-- A change of an image. -/
structure Ch where
  at_ : Int
  old : List UInt8
  new : List UInt8
deriving DecidableEq

theorem ch_eq {x y : Ch} (h1 : x.at_ = y.at_) (h2 : x.old = y.old) (h3 : x.new = y.new) : x = y := by cases x; cases y; simp_all
/-- The cells of a change. -/
def c3 (t : Int × Value × Value) : List Value := [.int .i64 t.1, t.2.1, t.2.2]
def cc (T : List (Int × Value × Value)) : List Value := T.flatMap c3
theorem cc_length (T : List (Int × Value × Value)) : (cc T).length = T.length * 3 := by
  induction T with
  | nil => rfl
  | cons t r ih => simp [cc, c3] at ih ⊢; omega
theorem cc_get (T : List (Int × Value × Value)) (i : Nat) (h : i < T.length) : (cc T)[i * 3]? = some (.int .i64 T[i].1) ∧ (cc T)[i * 3 + 1]? = some T[i].2.1 ∧ (cc T)[i * 3 + 2]? = some T[i].2.2 := by
  induction T generalizing i with
  | nil => simp at h
  | cons t r ih =>
    cases i with
    | zero => simp [cc, c3]
    | succ i =>
      have := ih i (by simpa using h)
      have e : ∀ j, (cc (t :: r))[(i + 1) * 3 + j]? = (cc r)[i * 3 + j]? := fun j => by
        have e1 : (i + 1) * 3 + j = (i * 3 + j) + 3 := by omega
        rw [e1]; simp [cc, c3]
      have e0 := e 0
      simp only [Nat.add_zero] at e0
      rw [e0, e 1, e 2]
      simpa using this
theorem cc_append (a b : List (Int × Value × Value)) : cc (a ++ b) = cc a ++ cc b := by simp [cc]

/-- How a change stands in memory: its numbers' bytes read so. -/
def ChIs (w : World) (t : Int × Value × Value) (c : Ch) : Prop := t.1 = c.at_ ∧ Sl w t.2.1 c.old.length (cb c.old) ∧ Sl w t.2.2 c.new.length (cb c.new)
/-- A list of changes from an address on. -/
def ChAt (w : World) (a : Option Addr) (L : List Ch) : Prop := ∃ T : List (Int × Value × Value), T.length = L.length ∧ At w a (cc T) ∧ ∀ i (h : i < L.length) (h' : i < T.length), ChIs w T[i] L[i]
theorem ChAt.below {w w' : World} {a : Option Addr} {L : List Ch} {B : Nat} (h : ChAt w a L) (hb : Below B w w') (hB : w.heap.size ≤ B) : ChAt w' a L := by
  obtain ⟨T, h1, h2, h3⟩ := h
  exact ⟨T, h1, h2.below hb hB, fun i hi hi' => let ⟨k1, k2, k3⟩ := h3 i hi hi'; ⟨k1, k2.below hb hB, k3.below hb hB⟩⟩
/-- What a change's cells hold. -/
theorem ChAt.some_of {w : World} {a : Option Addr} {L : List Ch} (h : ChAt w a L) (k : Nat) (hk : k < L.length) : ∃ b o ao co an cn, a = some ⟨b, o, none⟩ ∧
    w.cell? ⟨b, o + k * 3, none⟩ = some (.int .i64 L[k].at_) ∧ w.cell? ⟨b, o + k * 3 + 1, none⟩ = some (.slice ao L[k].old.length co) ∧ w.cell? ⟨b, o + k * 3 + 2, none⟩ = some (.slice an L[k].new.length cn) ∧
    At w ao (cb L[k].old) ∧ At w an (cb L[k].new) ∧ L[k].old.length ≤ co ∧ L[k].new.length ≤ cn ∧ co ≤ maxLen ∧ cn ≤ maxLen := by
  obtain ⟨T, h1, h2, h3⟩ := h
  have hk' : k < T.length := by omega
  obtain ⟨e1, ⟨ao, co, e2, o1, o2, o3⟩, an, cn, e3, n1, n2, n3⟩ := h3 k hk hk'
  obtain ⟨b, o, rfl, C⟩ := h2.some_of (by rw [cc_length]; omega)
  obtain ⟨g1, g2, g3⟩ := cc_get T k hk'
  refine ⟨b, o, ao, co, an, cn, rfl, ?_, ?_, ?_, o3, n3, o1, n1, o2, n2⟩
  · rw [C _ _ g1, e1]
  · rw [Nat.add_assoc, C _ _ g2, e2]
  · rw [Nat.add_assoc, C _ _ g3, e3]

theorem changes_ne (a1 a2 : Option Addr) (n1 n2 c1 c2 : Nat) (w : World) (hne : (n1 : Int) ≠ n2) :
    Calls Tryd.prog 24 #[.slice a1 n1 c1, .slice a2 n2 c2] w fun e w' => e = .returned (.bool false) ∧ w = w' := by
  have h1 : ((n1 : Int) != (n2 : Int)) = true := by simpa using hne
  go_enter Tryd.func24, Tryd.ntmps24
  go_wp2
  go_ret
  exact ⟨rfl, rfl⟩

theorem changes_eq (a1 a2 : Option Addr) (l1 l2 : List Ch) (c1 c2 : Nat) (w : World) (hm : l1.length ≤ 140737488351232) (he : l1.length = l2.length) (h1 : ChAt w a1 l1) (h2 : ChAt w a2 l2) :
    Calls Tryd.prog 24 #[.slice a1 l1.length c1, .slice a2 l1.length c2] w fun e w' => e = .returned (.bool (decide (l1 = l2))) ∧ ∃ n, w' = w.drewN n := by
  have HE := Lib.hid he
  have H1 := Lib.hid h1
  have H2 := Lib.hid h2
  clear he h1 h2
  go_enter Tryd.func24, Tryd.ntmps24
  go_wp2
  go_loopw [5] (fun i wr => ∃ k : Nat, i = .int .i64 k ∧ k ≤ l1.length ∧ Hid (l1.take k = l2.take k) ∧ ∃ n, wr = w.drewN n) (fun i _ => l1.length - (intOf i).toNat)
  case atStart => exact ⟨0, rfl, Nat.zero_le _, by simp [Hid], 0, rfl⟩
  case round =>
    obtain ⟨k, rfl, hk, HT, n, rfl⟩ := hrel
    by_cases hlt : k < l1.length
    · have hlt2 : k < l2.length := HE.out ▸ hlt
      obtain ⟨b1, o1, ao1, co1, an1, cn1, rfl, p1, p2, p3, p4, p5, _⟩ := H1.out.some_of k hlt
      obtain ⟨b2, o2, ao2, co2, an2, cn2, rfl, q1, q2, q3, q4, q5, _⟩ := H2.out.some_of k hlt2
      have s1 := fun m => conv_str ao1 l1[k].old co1 (w.drewN m) p4
      have s2 := fun m => conv_str an1 l1[k].new cn1 (w.drewN m) p5
      have s3 := fun m => conv_str ao2 l2[k].old co2 (w.drewN m) q4
      have s4 := fun m => conv_str an2 l2[k].new cn2 (w.drewN m) q5
      by_cases e1 : l1[k].at_ = l2[k].at_
      · have hb : (l1[k].at_ != l2[k].at_) = false := by simp [e1]
        have HQ1 := Lib.hid e1
        clear e1
        by_cases e2 : l1[k].old = l2[k].old
        · have hb2 : ((strOf l1[k].old).toList == (strOf l2[k].old).toList) = true := by rw [strOf_eq]; simpa using e2
          have HQ2 := Lib.hid e2
          clear e2
          by_cases e3 : l1[k].new = l2[k].new
          · have hb3 : ((strOf l1[k].new).toList == (strOf l2[k].new).toList) = true := by rw [strOf_eq]; simpa using e3
            have HQ3 := Lib.hid e3
            clear e3
            go_wp2
            go_quiet (fail)
            go_wp2
            go_roundw
            case rel => exact ⟨k + 1, by go_num, by omega, take_succ_eq HT.out hlt hlt2 (ch_eq HQ1.out HQ2.out HQ3.out), _, rfl⟩
            case measure => simp [intOf]; omega
          · have hb3 : ((strOf l1[k].new).toList == (strOf l2[k].new).toList) = false := by rw [strOf_eq]; simpa using e3
            have HQ3 := Lib.hid e3
            clear e3
            go_wp2
            go_quiet (fail)
            go_wp2
            go_ret
            exact ⟨ret_false (fun e => HQ3.out (by subst e; rfl)), _, World.drewN_drewN ..⟩
        · have hb2 : ((strOf l1[k].old).toList == (strOf l2[k].old).toList) = false := by rw [strOf_eq]; simpa using e2
          have HQ2 := Lib.hid e2
          clear e2
          go_wp2
          go_quiet (fail)
          go_wp2
          go_ret
          exact ⟨ret_false (fun e => HQ2.out (by subst e; rfl)), _, World.drewN_drewN ..⟩
      · have hb : (l1[k].at_ != l2[k].at_) = true := by simp [e1]
        have HQ := Lib.hid e1
        clear e1
        go_wp2
        go_quiet (fail)
        go_wp2
        go_ret
        exact ⟨ret_false (fun e => HQ.out (by subst e; rfl)), _, World.drewN_drewN ..⟩
    · go_wp2
      go_ret
      have hk' : k = l1.length := by omega
      have ht := HT.out
      rw [hk', List.take_length, HE.out, List.take_length] at ht
      exact ⟨ret_true ht, _, rfl⟩

theorem changes_any (a1 a2 : Option Addr) (l1 l2 : List Ch) (c1 c2 : Nat) (w : World) (hm : l1.length ≤ 140737488351232) (h1 : ChAt w a1 l1) (h2 : ChAt w a2 l2) :
    Calls Tryd.prog 24 #[.slice a1 l1.length c1, .slice a2 l2.length c2] w fun e w' => e = .returned (.bool (decide (l1 = l2))) ∧ ∃ n, w' = w.drewN n := by
  by_cases he : l1.length = l2.length
  · rw [← he]; exact changes_eq a1 a2 l1 l2 c1 c2 w hm he h1 h2
  · refine (changes_ne a1 a2 l1.length l2.length c1 c2 w (by omega)).mono fun e w' ⟨e1, e2⟩ => ⟨?_, 0, e2.symm⟩
    rw [e1, decide_eq_false (fun h => he (by rw [h]))]
end Go.Proofs.YtaojpdcjndlgpaaDoor
