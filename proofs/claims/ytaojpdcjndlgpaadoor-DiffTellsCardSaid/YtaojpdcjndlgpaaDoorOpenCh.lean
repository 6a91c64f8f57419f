/- What came in as changes, opened: the cells that a walk reads. No conditions. -/
import Derived.Test.YtaojpdcjndlgpaaDoorOpen
import Derived.Test.YtaojpdcjndlgpaaDoorChg
namespace Go.Proofs.YtaojpdcjndlgpaaDoor
open Go.RowKit Go.ChangeShapes Go.WideShapes
set_option maxRecDepth 100000

theorem cells_ch : Tryd.prog.cellsOf 98 = 3 := by kernel_rfl
theorem cells_int : Tryd.prog.cellsOf 3 = 1 := by kernel_rfl
theorem cells_sl : Tryd.prog.cellsOf 41 = 1 := by kernel_rfl
theorem bytes_ch : 1 ≤ Tryd.prog.bytesOf 98 := by
  have h : Tryd.prog.bytesOf 98 = 56 := by kernel_rfl
  omega

instance : Inhabited Ch := ⟨⟨0, [], []⟩⟩
instance : Inhabited (Int × Value × Value) := ⟨(0, .nilIface, .nilIface)⟩

/-- A slice of changes, read: the changes. -/
theorem open_changes {H : Type} {enc : TypeId × Value → H} {W : World} {base : Nat} {sp : Nat → Bool} {held : Bool} {fuel : Nat} {cs : List Value} {x : DataW H × List MemPlace} (h : DataW.trod enc Tryd.prog W base sp held fuel 56 cs = some x) :
    ∃ (a : Option Addr) (L : List Ch) (c : Nat), cs = [.slice a L.length c] ∧ L.length ≤ c ∧ c ≤ maxLen ∧ ChAt W a L ∧ dlen x.1 = L.length := by
  rcases Go.Deep.open_slice Tryd.underlying56 h with ⟨rfl, rfl⟩ | ⟨a, len, cap, m, n, D, Pl, rfl, hb, hl, hm, hmm, rfl, hx⟩
  · exact ⟨none, [], 0, rfl, Nat.le_refl _, Nat.zero_le _, ⟨[], rfl, At.nil _ _, fun i hi => by simp at hi⟩, rfl⟩
  · have hlm : len ≤ m := by rw [hmm]; split <;> omega
    have each : ∀ i, i < len → ∃ p : (Int × Value × Value) × Ch, (∀ j, j < 3 → W.cell? ((a.add (i * 3)).add j) = (c3 p.1)[j]?) ∧ ChIs W p.1 p.2 := by
      intro i hi
      obtain ⟨cs', h1, h2⟩ := hx i (by omega)
      rw [cells_ch] at h1
      obtain ⟨y0, y1, y2, n', _, hlen, t0, t1, t2⟩ := Go.Deep.trod_struct3 Tryd.underlying98 h2
      rw [cells_ch] at hlen
      obtain ⟨_, _, hcell⟩ := World.cells?_some h1
      match cs', hlen with
      | [v0, v1, v2], _ =>
        have t0' : DataW.trod enc Tryd.prog W base sp held n' 3 [v0] = some y0 := by simpa [cells_int] using t0
        have t1' : DataW.trod enc Tryd.prog W base sp held n' 41 [v1] = some y1 := by simpa [cells_sl] using t1
        have t2' : DataW.trod enc Tryd.prog W base sp held n' 41 [v2] = some y2 := by simpa [cells_sl] using t2
        obtain ⟨z, hz, _, _⟩ := DataW.trod_int Tryd.underlying3 t0'
        obtain ⟨ao, lo, co, ho, ho1, ho2, ho3, _⟩ := open_bytes t1'
        obtain ⟨an, ln, cn, hn, hn1, hn2, hn3, _⟩ := open_bytes t2'
        simp only [List.cons.injEq, and_true] at hz ho hn
        subst hz; subst ho; subst hn
        refine ⟨((z, .slice ao lo.length co, .slice an ln.length cn), ⟨z, lo, ln⟩), fun j hj => ?_, rfl, ⟨ao, co, rfl, ho1, ho2, ho3⟩, an, cn, rfl, hn1, hn2, hn3⟩
        have := hcell j hj
        rw [this]; rfl
    obtain ⟨f, hf⟩ := Go.Deep.choose_lt each
    refine ⟨some a, (List.range len).map fun i => (f i).2, cap, by simp, by simpa using hl, hm, ⟨(List.range len).map fun i => (f i).1, by simp, ?_, fun i h1 h2 => ?_⟩, by simp [dlen]⟩
    · intro j u hj
      have hjl : j < len * 3 := by
        rcases Nat.lt_or_ge j (len * 3) with h | h
        · exact h
        · rw [List.getElem?_eq_none (by rw [cc_length]; simpa using h)] at hj; cases hj
      have hi : j / 3 < len := by omega
      have hcj : W.cell? (a.add j) = some u := by
        have h1 := (hf (j / 3) hi).1 (j % 3) (by omega)
        rw [Go.Deep.add_add, show j / 3 * 3 + j % 3 = j by omega] at h1
        rw [h1, ← hj]
        obtain ⟨g0, g1, g2⟩ := cc_get ((List.range len).map fun i => (f i).1) (j / 3) (by simpa using hi)
        simp only [List.getElem_map, List.getElem_range] at g0 g1 g2
        have hr : j % 3 = 0 ∨ j % 3 = 1 ∨ j % 3 = 2 := by omega
        rcases hr with hr | hr | hr
        · rw [show (cc ((List.range len).map fun i => (f i).1))[j]? = (cc ((List.range len).map fun i => (f i).1))[j / 3 * 3]? by rw [show j = j / 3 * 3 by omega]; congr 2; omega, g0, hr]; rfl
        · rw [show (cc ((List.range len).map fun i => (f i).1))[j]? = (cc ((List.range len).map fun i => (f i).1))[j / 3 * 3 + 1]? by congr 1; omega, g1, hr]; rfl
        · rw [show (cc ((List.range len).map fun i => (f i).1))[j]? = (cc ((List.range len).map fun i => (f i).1))[j / 3 * 3 + 2]? by congr 1; omega, g2, hr]; rfl
      obtain ⟨ab, ao, spot⟩ := a
      have h00 := (hf 0 (by omega)).1 0 (by omega)
      have hspot : spot = none := by simpa [Addr.add] using World.cell?_spot (h00.trans (by rfl : (c3 (f 0).1)[0]? = some (.int .i64 (f 0).1.1)))
      subst hspot
      exact ⟨ab, ao, rfl, by rw [← Go.WideShapes.add_plain]; exact hcj⟩
    · simp only [List.getElem_map, List.getElem_range]
      exact (hf i (by simpa using h1)).2

theorem sized_changes {H : Type} {ts : List TypeId} {ds : List (DataW H)} (h : (DataW.weightsEach Tryd.prog ts ds).all (· ≤ reachBytes) = true) {j : Nat} {d : DataW H} (ht : ts[j]? = some 56) (hd : ds[j]? = some d) : dlen d ≤ 140737488351232 := by
  cases d with
  | slice l sp =>
    have h1 := sized_slice h ht hd Tryd.underlying56
    have h2 := Nat.le_trans (Nat.mul_le_mul_left (l.length + sp.length) bytes_ch) h1
    unfold reachBytes at h2
    simp only [dlen]; omega
  | _ => simp [dlen]
end Go.Proofs.YtaojpdcjndlgpaaDoor
