/- What came in as bytes, opened: the cells that a walk reads. No conditions. -/
import Derived.Test.YtaojpdcjndlgpaaDoorLib
import Derived.ChangeSlices
import Derived.Deep.Slices
import Derived.Deep.Strs
namespace Go.Proofs.YtaojpdcjndlgpaaDoor
open Go.RowKit Go.ChangeShapes Go.WideShapes

theorem cells_u8 : Tryd.prog.cellsOf 5 = 1 := by kernel_rfl
theorem bytes_u8 : Tryd.prog.bytesOf 5 = 1 := by kernel_rfl

/-- How many elements a slice's reading has. -/
def dlen {H : Type} : DataW H → Nat
  | .slice l _ => l.length
  | _ => 0

/-- A slice of bytes, read: the bytes. -/
theorem open_bytes {H : Type} {enc : TypeId × Value → H} {W : World} {base : Nat} {sp : Nat → Bool} {held : Bool} {fuel : Nat} {cs : List Value} {x : DataW H × List MemPlace} (h : DataW.trod enc Tryd.prog W base sp held fuel 41 cs = some x) :
    ∃ (a : Option Addr) (l : List UInt8) (c : Nat), cs = [.slice a l.length c] ∧ l.length ≤ c ∧ c ≤ maxLen ∧ At W a (cb l) ∧ dlen x.1 = l.length := by
  rcases open_ints Tryd.underlying41 Tryd.underlying5 cells_u8 h with ⟨rfl, rfl⟩ | ⟨a, len, cap, zs, rfl, _, hl, hm, hz, rfl, hcell, hwz⟩
  · exact ⟨none, [], 0, rfl, Nat.le_refl _, Nat.zero_le _, At.nil _ _, rfl⟩
  · have hzl : len ≤ zs.length := by rw [hz]; split <;> omega
    have hlen : ((zs.take len).map fun n => UInt8.ofNat n.toNat).length = len := by simp; omega
    refine ⟨some a, (zs.take len).map fun n => UInt8.ofNat n.toNat, cap, by rw [hlen], by rw [hlen]; exact hl, hm, ?_, by simp [dlen, lits]⟩
    intro i u hi
    have hil : i < len := by
      rcases Nat.lt_or_ge i len with h | h
      · exact h
      · rw [List.getElem?_eq_none (by rw [cb_length, hlen]; exact h)] at hi; cases hi
    obtain ⟨ab, ao, spot⟩ := a
    have hspot : spot = none := by simpa [Addr.add] using World.cell?_spot (hcell 0 (by omega))
    subst hspot
    refine ⟨ab, ao, rfl, ?_⟩
    have hc := hcell i (by omega)
    rw [Go.WideShapes.add_plain] at hc
    rw [hc, ← hi]
    have hw := hwz (zs[i]'(by omega)) (List.getElem_mem _)
    have hr : 0 ≤ zs[i]'(by omega) ∧ zs[i]'(by omega) < 256 := by
      simp only [Lit.wf, Bool.and_eq_true, decide_eq_true_eq] at hw
      have e1 : IntKind.u8.min = 0 := by decide
      have e2 : IntKind.u8.max = 255 := by decide
      rw [e1, e2] at hw
      omega
    have e : zs.getD i 0 = zs[i]'(by omega) := by simp [List.getD, List.getElem?_eq_getElem (show i < zs.length by omega)]
    rw [e]
    have hg : ((zs.take len).map fun n => UInt8.ofNat n.toNat)[i]? = some (UInt8.ofNat (zs[i]'(by omega)).toNat) := by
      simp [hil, List.getElem?_eq_getElem (show i < zs.length by omega)]
    simp only [cb, List.getElem?_map]
    simp only [List.getElem?_map] at hg
    rw [hg]
    simp only [Option.map_some, Option.some.injEq, Value.int.injEq, true_and]
    simp only [UInt8.toNat_ofNat']
    omega

/-- What the reach says of how long it is. -/
theorem sized_bytes {H : Type} {ts : List TypeId} {ds : List (DataW H)} (h : (DataW.weightsEach Tryd.prog ts ds).all (· ≤ reachBytes) = true) {j : Nat} {d : DataW H} (ht : ts[j]? = some 41) (hd : ds[j]? = some d) : dlen d ≤ 140737488351232 := by
  cases d with
  | slice l sp =>
    have h1 := sized_slice h ht hd Tryd.underlying41
    rw [bytes_u8] at h1
    unfold reachBytes at h1
    simp only [dlen]; omega
  | _ => simp [dlen]
end Go.Proofs.YtaojpdcjndlgpaaDoor
