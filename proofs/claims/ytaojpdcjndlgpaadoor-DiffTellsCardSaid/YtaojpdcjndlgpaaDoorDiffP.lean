/- Plain: what two lists of bytes differ in, byte by byte and run by run. No program in sight. No conditions. -/
import Derived.Test.YtaojpdcjndlgpaaDoorChg
namespace Go.Proofs.YtaojpdcjndlgpaaDoor

/-- Behind k bytes: the runs, and the last place that differs. -/
def rd (a b : List UInt8) : Nat → List Ch × Int
  | 0 => ([], -2)
  | k + 1 => if a.getD k 0 = b.getD k 0 then rd a b k else
      if (rd a b k).2 = (k : Int) - 1 then ((rd a b k).1.dropLast ++ ((rd a b k).1.getLast?.map fun c => ({ at_ := c.at_, old := c.old ++ [a.getD k 0], new := c.new ++ [b.getD k 0] } : Ch)).toList, (k : Int))
      else ((rd a b k).1 ++ [⟨k, [a.getD k 0], [b.getD k 0]⟩], (k : Int))

theorem rd_lt (a b : List UInt8) (k : Nat) : (rd a b k).2 < k ∧ (-2 ≤ (rd a b k).2) ∧ ((rd a b k).1 = [] → (rd a b k).2 = -2) ∧ (rd a b k).1.length ≤ k := by
  induction k with
  | zero => simp [rd]
  | succ k ih =>
    obtain ⟨h1, h2, h3, h4⟩ := ih
    unfold rd
    split
    · refine ⟨by omega, h2, h3, by omega⟩
    · split
      · rename_i h
        refine ⟨by simp; omega, by simp <;> omega, ?_, ?_⟩
        · intro he
          have : (rd a b k).1 ≠ [] := fun e => by have := h3 e; omega
          obtain ⟨c, hc⟩ := List.getLast?_isSome.2 this |> Option.isSome_iff_exists.1
          simp [hc] at he
        · have : (rd a b k).1 ≠ [] := fun e => by have := h3 e; omega
          obtain ⟨c, hc⟩ := List.getLast?_isSome.2 this |> Option.isSome_iff_exists.1
          simp [hc]; omega
      · refine ⟨by simp; omega, by simp <;> omega, by simp, by simp; omega⟩
theorem rd_same {a b : List UInt8} {k : Nat} (h : a.getD k 0 = b.getD k 0) : rd a b (k + 1) = rd a b k := by rw [rd, if_pos h]
/-- The run goes on: the last run is written out. -/
theorem rd_on {a b : List UInt8} {k : Nat} (h : a.getD k 0 ≠ b.getD k 0) (hl : (rd a b k).2 = (k : Int) - 1) : ∃ L c, (rd a b k).1 = L ++ [c] ∧
    rd a b (k + 1) = (L ++ [{ at_ := c.at_, old := c.old ++ [a.getD k 0], new := c.new ++ [b.getD k 0] }], (k : Int)) := by
  have hk := rd_lt a b k
  have hne : (rd a b k).1 ≠ [] := fun e => by have := hk.2.2.1 e; omega
  refine ⟨(rd a b k).1.dropLast, (rd a b k).1.getLast hne, (List.dropLast_concat_getLast hne).symm, ?_⟩
  rw [rd, if_neg h, if_pos hl, List.getLast?_eq_some_getLast hne]
  rfl
theorem rd_new {a b : List UInt8} {k : Nat} (h : a.getD k 0 ≠ b.getD k 0) (hl : (rd a b k).2 ≠ (k : Int) - 1) :
    rd a b (k + 1) = ((rd a b k).1 ++ [⟨k, [a.getD k 0], [b.getD k 0]⟩], (k : Int)) := by rw [rd, if_neg h, if_neg hl]

/-- The bytes from i to k. -/
def cut (a : List UInt8) (i k : Nat) : List UInt8 := (a.drop i).take (k - i)
theorem cut_length (a : List UInt8) (i k : Nat) (h : k ≤ a.length) : (cut a i k).length = k - i := by simp [cut]; omega
theorem cut_succ (a : List UInt8) (i k : Nat) (hi : i ≤ k) (h : k < a.length) : cut a i (k + 1) = cut a i k ++ [a.getD k 0] := by
  unfold cut
  have e : k + 1 - i = (k - i) + 1 := by omega
  rw [e, List.take_succ_eq_append_getElem (by simp; omega)]
  simp only [List.getElem_drop]
  have e2 : i + (k - i) = k := by omega
  simp [e2, List.getD, h]
theorem cut_self (a : List UInt8) (i : Nat) : cut a i i = [] := by simp [cut]

/-- A whole run at once. -/
theorem rd_run {a b : List UInt8} {i : Nat} (hl : (rd a b i).2 ≠ (i : Int) - 1) (n : Nat) (ha : i + n ≤ a.length) (hb : i + n ≤ b.length) (hd : ∀ j, j < n → a.getD (i + j) 0 ≠ b.getD (i + j) 0) (hn : 0 < n) :
    rd a b (i + n) = ((rd a b i).1 ++ [⟨i, cut a i (i + n), cut b i (i + n)⟩], ((i + n : Nat) : Int) - 1) := by
  induction n with
  | zero => omega
  | succ n ih =>
    by_cases h0 : n = 0
    · subst h0
      have := rd_new (hd 0 (by omega)) hl
      simp only [Nat.add_zero] at this
      show rd a b (i + 1) = _
      rw [this, cut_succ a i i (Nat.le_refl _) (by omega), cut_succ b i i (Nat.le_refl _) (by omega), cut_self, cut_self]
      simp
    · have ih' := ih (by omega) (by omega) (fun j hj => hd j (by omega)) (by omega)
      obtain ⟨L, c, h1, h2⟩ := rd_on (a := a) (b := b) (k := i + n) (hd n (by omega)) (by rw [ih'])
      rw [ih'] at h1
      have h1' := List.append_inj' h1 rfl
      obtain ⟨rfl, hc⟩ := h1'
      simp at hc
      subst hc
      show rd a b (i + n + 1) = _
      rw [h2]
      have e1 := cut_succ a i (i + n) (by omega) (by omega)
      have e2 := cut_succ b i (i + n) (by omega) (by omega)
      have e3 : i + (n + 1) = i + n + 1 := by omega
      rw [e3, e1, e2]
      simp
/-- Behind a run, and behind a place that is the same (or the end). -/
theorem run_state {a b : List UInt8} {i j : Nat} (hl : (rd a b i).2 ≠ (i : Int) - 1) (hij : i < j) (ha : j ≤ a.length) (hab : a.length = b.length) (hd : ∀ x, i ≤ x → x < j → a.getD x 0 ≠ b.getD x 0) (hx : j = a.length ∨ a.getD j 0 = b.getD j 0) :
    (rd a b (min (j + 1) a.length)).1 = (rd a b i).1 ++ [⟨i, cut a i j, cut b i j⟩] ∧ (j + 1 ≤ a.length → (rd a b (j + 1)).2 ≠ ((j + 1 : Nat) : Int) - 1) := by
  obtain ⟨n, rfl⟩ : ∃ n, j = i + n := ⟨j - i, by omega⟩
  have hr := rd_run hl n ha (by omega) (fun x hx => hd (i + x) (by omega) (by omega)) (by omega)
  by_cases hj : i + n = a.length
  · refine ⟨?_, fun h => by omega⟩
    rw [show min (i + n + 1) a.length = i + n by omega, hr]
  · have hs := hx.resolve_left hj
    have e := rd_same hs
    refine ⟨?_, fun _ => ?_⟩
    · rw [show min (i + n + 1) a.length = i + n + 1 by omega, e, hr]
    · rw [e, hr]; simp; omega
theorem same_state {a b : List UInt8} {j : Nat} (ha : j < a.length) (hx : j = a.length ∨ a.getD j 0 = b.getD j 0) :
    (rd a b (min (j + 1) a.length)).1 = (rd a b j).1 ∧ (j + 1 ≤ a.length → (rd a b (j + 1)).2 ≠ ((j + 1 : Nat) : Int) - 1) := by
  have e := rd_same (hx.resolve_left (by omega))
  refine ⟨by rw [show min (j + 1) a.length = j + 1 by omega, e], fun _ => ?_⟩
  have := (rd_lt a b j).1
  rw [e]; omega

/-- No run is longer than what was gone over. -/
theorem rd_len (a b : List UInt8) (k : Nat) : ∀ c ∈ (rd a b k).1, c.old.length ≤ k ∧ c.new.length ≤ k := by
  induction k with
  | zero => simp [rd]
  | succ k ih =>
    intro c hc
    rw [rd] at hc
    split at hc
    · have := ih c hc; omega
    · split at hc
      · simp only [List.mem_append, Option.mem_toList, Option.map_eq_some_iff] at hc
        rcases hc with hc | ⟨d, hd, rfl⟩
        · have := ih c (List.dropLast_subset _ hc); omega
        · have := ih d (List.mem_of_getLast? hd)
          simp; omega
      · simp only [List.mem_append, List.mem_singleton] at hc
        rcases hc with hc | rfl
        · have := ih c hc; omega
        · simp
end Go.Proofs.YtaojpdcjndlgpaaDoor
