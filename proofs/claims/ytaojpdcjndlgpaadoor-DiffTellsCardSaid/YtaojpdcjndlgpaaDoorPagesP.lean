/- Plain: which pages changes touch. No program in sight. No conditions. -/
import Derived.Test.YtaojpdcjndlgpaaDoorChg
namespace Go.Proofs.YtaojpdcjndlgpaaDoor

/-- What is there before: 201 times false. -/
def t0 : List Bool := List.replicate 201 false
theorem t0_length : t0.length = 201 := List.length_replicate
theorem t0_get (i : Nat) : t0.getD i false = false := by
  unfold t0
  rw [List.getD_eq_getElem?_getD, List.getElem?_replicate]
  split <;> rfl
/-- A change that lies in no image. -/
def badP (c : Ch) : Prop := c.at_ < 0 ∨ c.at_ ≥ 6400 ∨ (c.new.length : Int) > 6400 - c.at_
instance (c : Ch) : Decidable (badP c) := by unfold badP; infer_instance
/-- The pages of m bytes from a place on. -/
def tset (t : List Bool) (a : Nat) : Nat → List Bool
  | 0 => t
  | m + 1 => (tset t a m).set ((a + m) / 32) true
@[simp] theorem tset_length (t : List Bool) (a m : Nat) : (tset t a m).length = t.length := by
  induction m with
  | zero => rfl
  | succ m ih => simp [tset, ih]
/-- All of them. -/
def pg (t : List Bool) : List Ch → Option (List Bool)
  | [] => some t
  | c :: r => if badP c then none else pg (tset t c.at_.toNat c.new.length) r
theorem pg_bad {t : List Bool} {c : Ch} {r : List Ch} (h : badP c) : pg t (c :: r) = none := by rw [pg, if_pos h]
theorem pg_go {t : List Bool} {c : Ch} {r : List Ch} (h : ¬badP c) : pg t (c :: r) = pg (tset t c.at_.toNat c.new.length) r := by rw [pg, if_neg h]
theorem pg_length {t t' : List Bool} {l : List Ch} (h : pg t l = some t') : t'.length = t.length := by
  induction l generalizing t with
  | nil => simp only [pg, Option.some.injEq] at h; rw [h]
  | cons c r ih =>
    unfold pg at h
    split at h
    · cases h
    · rw [ih h]; simp
/-- Which they are, below k. -/
def pages (t : List Bool) (k : Nat) : List Int := ((List.range k).filter fun i => t.getD i false).map Int.ofNat
theorem pages_zero (t : List Bool) : pages t 0 = [] := rfl
theorem pages_yes {t : List Bool} {k : Nat} (h : t.getD k false = true) : pages t (k + 1) = pages t k ++ [(k : Int)] := by
  simp only [pages, List.range_succ, List.filter_append, List.map_append, List.filter_cons, h, if_true, List.filter_nil, List.map_cons, List.map_nil]; rfl
theorem pages_no {t : List Bool} {k : Nat} (h : t.getD k false = false) : pages t (k + 1) = pages t k := by
  simp only [pages, List.range_succ, List.filter_append, List.filter_cons, h, Bool.false_eq_true, if_false, List.filter_nil, List.append_nil]
theorem pages_length (t : List Bool) (k : Nat) : (pages t k).length ≤ k := by
  have := List.length_filter_le (fun i => t.getD i false) (List.range k)
  simpa [pages] using this
theorem mem_pages {t : List Bool} {k : Nat} {x : Int} : x ∈ pages t k ↔ ∃ i : Nat, x = i ∧ i < k ∧ t.getD i false = true := by
  simp only [pages, List.mem_map, List.mem_filter, List.mem_range]
  constructor
  · rintro ⟨i, ⟨h1, h2⟩, rfl⟩; exact ⟨i, rfl, h1, h2⟩
  · rintro ⟨i, rfl, h1, h2⟩; exact ⟨i, ⟨h1, h2⟩, rfl⟩
theorem pages_sorted (t : List Bool) (k : Nat) : (pages t k).Pairwise (· < ·) := by
  unfold pages
  rw [List.pairwise_map]
  exact (List.pairwise_lt_range.filter _).imp (fun h => by simpa using h)
/-- Keys that are no other, in their order, are the pages. -/
theorem pages_of_perm {t : List Bool} {k : Nat} {l : List Int} (h : l.Nodup) (hm : ∀ x, x ∈ l ↔ x ∈ pages t k) : l.mergeSort (fun x y => decide (x ≤ y)) = pages t k := by
  have h1 : (l.mergeSort (fun x y => decide (x ≤ y))).Perm (pages t k) :=
    (List.mergeSort_perm _ _).trans ((List.perm_ext_iff_of_nodup h ((pages_sorted t k).imp (fun h => by omega))).2 hm)
  have s1 : (l.mergeSort (fun x y => decide (x ≤ y))).Pairwise (fun x y => x ≤ y) :=
    (List.pairwise_mergeSort (fun a b c h1 h2 => by simp at *; omega) (fun a b => by simp; omega) l).imp (fun h => by simpa using h)
  exact h1.eq_of_pairwise (fun a b _ _ h1 h2 => by omega) s1 ((pages_sorted t k).imp (fun h => by omega))
end Go.Proofs.YtaojpdcjndlgpaaDoor
