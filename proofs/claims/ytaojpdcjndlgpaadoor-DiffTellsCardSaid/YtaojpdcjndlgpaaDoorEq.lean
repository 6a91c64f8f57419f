/- vaultsame.Ints, bytes.Equal, the string of bytes: whether two lists are the same. No conditions but Go's sizes. -/
import Derived.Test.YtaojpdcjndlgpaaDoorLib
import Derived.Deep.QuietTactic
import Derived.BigQuiet
namespace Go.Proofs.YtaojpdcjndlgpaaDoor
open Go.RowKit
set_option maxRecDepth 100000

/-- Numbers as cells. -/
def ci (l : List Int) : List Value := l.map (Value.int .i64)
@[simp] theorem ci_length (l : List Int) : (ci l).length = l.length := by simp [ci]
theorem ci_get (l : List Int) (i : Nat) (h : i < l.length) : (ci l)[i]? = some (.int .i64 l[i]) := by simp [ci, h]
theorem ci_get' (l : List Int) (i : Nat) (h : i < (ci l).length) : (ci l)[i] = .int .i64 (l[i]'(by simpa using h)) := by simp [ci]

theorem take_succ_eq {α : Type} {l m : List α} {k : Nat} (h : l.take k = m.take k) (h1 : k < l.length) (h2 : k < m.length) (e : l[k] = m[k]) : l.take (k + 1) = m.take (k + 1) := by
  rw [List.take_succ_eq_append_getElem h1, List.take_succ_eq_append_getElem h2, h, e]

theorem ints_ne (a1 a2 : Option Addr) (n1 n2 c1 c2 : Nat) (w : World) (hne : (n1 : Int) ≠ n2) :
    Calls Tryd.prog 29 #[.slice a1 n1 c1, .slice a2 n2 c2] w fun e w' => e = .returned (.bool false) ∧ w = w' := by
  have h1 : ((n1 : Int) != (n2 : Int)) = true := by simpa using hne
  go_enter Tryd.func29, Tryd.ntmps29
  go_wp2
  go_ret
  exact ⟨rfl, rfl⟩

theorem ints_eq (a1 a2 : Option Addr) (l1 l2 : List Int) (c1 c2 : Nat) (w : World) (hm : l1.length ≤ 140737488351232) (he : l1.length = l2.length) (h1 : At w a1 (ci l1)) (h2 : At w a2 (ci l2)) :
    Calls Tryd.prog 29 #[.slice a1 l1.length c1, .slice a2 l1.length c2] w fun e w' => e = .returned (.bool (decide (l1 = l2))) ∧ ∃ n, w' = w.drewN n := by
  have HE := Lib.hid he
  have H1 := Lib.hid h1
  have H2 := Lib.hid h2
  clear he h1 h2
  go_enter Tryd.func29, Tryd.ntmps29
  go_wp2
  go_loopw [5] (fun i wr => ∃ k : Nat, i = .int .i64 k ∧ k ≤ l1.length ∧ Hid (l1.take k = l2.take k) ∧ ∃ n, wr = w.drewN n) (fun i _ => l1.length - (intOf i).toNat)
  case atStart => exact ⟨0, rfl, Nat.zero_le _, by simp [Hid], 0, rfl⟩
  case round =>
    obtain ⟨k, rfl, hk, HT, n, rfl⟩ := hrel
    by_cases hlt : k < l1.length
    · have hlt2 : k < l2.length := HE.out ▸ hlt
      obtain ⟨b1, o1, rfl, C1⟩ := H1.out.some_of (by simp; omega)
      obtain ⟨b2, o2, rfl, C2⟩ := H2.out.some_of (by simp; omega)
      have hc1 : w.cell? ⟨b1, o1 + k, none⟩ = some (.int .i64 l1[k]) := C1 k _ (ci_get l1 k hlt)
      have hc2 : w.cell? ⟨b2, o2 + k, none⟩ = some (.int .i64 l2[k]) := C2 k _ (ci_get l2 k hlt2)
      clear C1 C2
      by_cases heq : l1[k] = l2[k]
      · have hb : (l1[k] != l2[k]) = false := by simp [heq]
        have HQ := Lib.hid heq
        clear heq
        go_wp2
        go_quiet (fail)
        go_wp2
        go_roundw
        case rel => exact ⟨k + 1, by go_num, by omega, take_succ_eq HT.out hlt hlt2 HQ.out, _, rfl⟩
        case measure => simp [intOf]; omega
      · have hb : (l1[k] != l2[k]) = true := by simp [heq]
        have HQ := Lib.hid heq
        clear heq
        go_wp2
        go_quiet (fail)
        go_wp2
        go_ret
        exact ⟨ret_false (fun e => HQ.out (by subst e; rfl)), _, World.drewN_drewN ..⟩
    · go_wp2
      go_ret
      have hk' : k = l1.length := by omega
      have ht := HT.out
      rw [hk', List.take_length, HE.out, List.take_length] at ht
      exact ⟨ret_true ht, _, rfl⟩

theorem ints_any (a1 a2 : Option Addr) (l1 l2 : List Int) (c1 c2 : Nat) (w : World) (hm : l1.length ≤ 140737488351232) (h1 : At w a1 (ci l1)) (h2 : At w a2 (ci l2)) :
    Calls Tryd.prog 29 #[.slice a1 l1.length c1, .slice a2 l2.length c2] w fun e w' => e = .returned (.bool (decide (l1 = l2))) ∧ ∃ n, w' = w.drewN n := by
  by_cases he : l1.length = l2.length
  · rw [← he]; exact ints_eq a1 a2 l1 l2 c1 c2 w hm he h1 h2
  · refine (ints_ne a1 a2 l1.length l2.length c1 c2 w (by omega)).mono fun e w' ⟨e1, e2⟩ => ⟨?_, 0, e2.symm⟩
    rw [e1, decide_eq_false (fun h => he (by rw [h]))]

/-- The string of bytes. -/
def strOf (l : List UInt8) : ByteArray := ⟨l.toArray⟩
theorem strOf_inj {l m : List UInt8} : strOf l = strOf m ↔ l = m := by
  constructor
  · intro h
    have := congrArg (fun s : ByteArray => s.data.toList) h
    simpa [strOf] using this
  · intro h; rw [h]
theorem strOf_toList (l : List UInt8) : (strOf l).toList = l := by rw [ByteArray.toList_eq]; rfl
theorem strOf_eq (l m : List UInt8) : ((strOf l).toList == (strOf m).toList) = decide (l = m) := by
  rw [strOf_toList, strOf_toList]; by_cases h : l = m <;> simp [h]
theorem strOfNums_cb (l : List UInt8) : strOfNums (l.map fun b => (b.toNat : Int)) = strOf l := by
  have h : ((l.map fun b => (b.toNat : Int)).map fun n => UInt8.ofNat n.toNat) = l := by
    rw [List.map_map]; conv => rhs; rw [← List.map_id l]
    apply List.map_congr_left; intro a _; simp
  unfold strOfNums strOf
  rw [h]
/-- string(b). -/
theorem conv_str (a : Option Addr) (l : List UInt8) (c : Nat) (w : World) (h : At w a (cb l)) : (convert 41 9 (.slice a l.length c)).run Tryd.prog w = .ok (.string (strOf l)) w := by
  cases hl : l with
  | nil =>
    cases a with
    | none => exact run_convert_bytes_nil w 41 5 Tryd.underlying41 Tryd.underlying5 0 c _ Tryd.underlying9
    | some ad =>
      show (convert 41 9 (.slice (some ad) 0 c)).run Tryd.prog w = _
      rw [run_convert_bytes_string w 41 9 5 _ 0 c Tryd.underlying41 Tryd.underlying5 Tryd.underlying9]
      simp [Conv.bytesToString, loadCells]
      rfl
  | cons x r =>
    rw [← hl]
    obtain ⟨b, o, rfl, C⟩ := h.some_of (by simp [hl])
    have := run_convert_bytes_arg (P := Tryd.prog) w 41 5 Tryd.underlying41 Tryd.underlying5 b o l.length c (l.map fun b => (b.toNat : Int)) (by simp) (fun i hi => by
      rw [C i _ (cb_get l i hi)]; simp [List.getD, hi]) _ Tryd.underlying9
    rw [this, strOfNums_cb]
end Go.Proofs.YtaojpdcjndlgpaaDoor
