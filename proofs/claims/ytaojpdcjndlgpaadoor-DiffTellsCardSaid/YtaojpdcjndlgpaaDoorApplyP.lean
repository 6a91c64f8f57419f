/- Plain: what changes make of bytes, and which fault. No program in sight. No conditions. -/
import Derived.Test.YtaojpdcjndlgpaaDoorChg
namespace Go.Proofs.YtaojpdcjndlgpaaDoor

/-- Bytes in which the first m of others stand from a place on. -/
def patch (b : List UInt8) (at_ : Nat) (n : List UInt8) (m : Nat) : List UInt8 := b.take at_ ++ n.take m ++ b.drop (at_ + m)
theorem patch_zero (b : List UInt8) (at_ : Nat) (n : List UInt8) : patch b at_ n 0 = b := by simp [patch]
theorem patch_length (b : List UInt8) (at_ : Nat) (n : List UInt8) (m : Nat) (h : at_ + m ≤ b.length) (hm : m ≤ n.length) : (patch b at_ n m).length = b.length := by simp [patch]; omega
theorem patch_succ (b : List UInt8) (at_ : Nat) (n : List UInt8) (m : Nat) (h : at_ + m < b.length) (hm : m < n.length) : patch b at_ n (m + 1) = (patch b at_ n m).set (at_ + m) n[m] := by
  unfold patch
  have l1 : (b.take at_).length = at_ := by simp; omega
  have l2 : (n.take m).length = m := by simp; omega
  rw [List.set_append_right _ _ (by rw [List.length_append, l1, l2]; exact Nat.le_refl _), List.length_append, l1, l2, Nat.sub_self, List.take_succ_eq_append_getElem hm]
  have e : b.drop (at_ + m) = b[at_ + m] :: b.drop (at_ + m + 1) := List.drop_eq_getElem_cons h
  rw [e]
  simp only [List.append_assoc, List.set_cons_zero, Nat.add_assoc, List.cons_append, List.nil_append]

/-- Changes, one behind the other; the fault. -/
def ap (b : List UInt8) : List Ch → List UInt8 × Int
  | [] => (b, 0)
  | c :: r => if c.at_ < 0 ∨ c.at_ > b.length ∨ (c.old.length : Int) > b.length - c.at_ then ([], 1)
    else if (c.old.length : Int) ≠ c.new.length then ([], 3)
    else if (b.drop c.at_.toNat).take c.old.length ≠ c.old then ([], 6)
    else ap (patch b c.at_.toNat c.new c.new.length) r
/-- All of it. -/
def apl (b : List UInt8) (l : List Ch) : List UInt8 × Int := if l.length > 200 then ([], 4) else ap b l
theorem ap_one {b : List UInt8} {c : Ch} {r : List Ch} (h : c.at_ < 0 ∨ c.at_ > b.length ∨ (c.old.length : Int) > b.length - c.at_) : ap b (c :: r) = ([], 1) := by rw [ap, if_pos h]
theorem ap_three {b : List UInt8} {c : Ch} {r : List Ch} (h : ¬(c.at_ < 0 ∨ c.at_ > b.length ∨ (c.old.length : Int) > b.length - c.at_)) (h2 : (c.old.length : Int) ≠ c.new.length) : ap b (c :: r) = ([], 3) := by rw [ap, if_neg h, if_pos h2]
theorem ap_six {b : List UInt8} {c : Ch} {r : List Ch} (h : ¬(c.at_ < 0 ∨ c.at_ > b.length ∨ (c.old.length : Int) > b.length - c.at_)) (h2 : (c.old.length : Int) = c.new.length) (h3 : (b.drop c.at_.toNat).take c.old.length ≠ c.old) : ap b (c :: r) = ([], 6) := by
  rw [ap, if_neg h, if_neg (by simpa using h2), if_pos h3]
theorem ap_go {b : List UInt8} {c : Ch} {r : List Ch} (h : ¬(c.at_ < 0 ∨ c.at_ > b.length ∨ (c.old.length : Int) > b.length - c.at_)) (h2 : (c.old.length : Int) = c.new.length) (h3 : (b.drop c.at_.toNat).take c.old.length = c.old) :
    ap b (c :: r) = ap (patch b c.at_.toNat c.new c.new.length) r := by
  rw [ap, if_neg h, if_neg (by simpa using h2), if_neg (by simpa using h3)]
end Go.Proofs.YtaojpdcjndlgpaaDoor
