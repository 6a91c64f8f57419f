/- plain.Told and vaultsame.Error: of a nil error 0, of an Errno its number; whether it is the one told. Conditions: errors.errorType holds the handle of 'error'. -/
import Derived.Test.YtaojpdcjndlgpaaDoorAs
import Derived.Lib.Hide
namespace Go.Proofs.YtaojpdcjndlgpaaDoor
open Go.RowKit Go.Extern.Stop Go.Stop Go.Extern

/-- An error by its number: 0: nil. -/
def errV (n : Int) : Value := if n = 0 then .nilIface else .iface 69 (.int .i64 n)
theorem errV_zero : errV 0 = .nilIface := rfl
theorem errV_ne {n : Int} (h : n ≠ 0) : errV n = .iface 69 (.int .i64 n) := if_neg h

theorem told_nil (w : World) : Calls Tryd.prog 38 #[.nilIface] w fun e w' => e = .returned (.int .i64 0) ∧ w = w' := by
  go_enter Tryd.func38, Tryd.ntmps38
  go_wp2
  go_ret
  exact ⟨rfl, rfl⟩

theorem errType_lt {w : World} (hg : ErrType w) : 0 < w.heap.size := by
  unfold ErrType at hg
  rcases Nat.lt_or_ge 0 w.heap.size with h | h
  · exact h
  · simp [World.cell?, Array.getElem?_eq_none h] at hg

theorem told_err (n : Int) (w : World) (hg : ErrType w) :
    Calls Tryd.prog 38 #[.iface 69 (.int .i64 n)] w fun e w' => e = .returned (.int .i64 n) ∧ Below w.heap.size w w' := by
  have hlt := errType_lt hg
  have hgA : (w.alloc (.cells #[.int .i64 0] 69)).cell? ⟨0, 0, none⟩ = some (.iface 131 (.agg #[.pointer (some ⟨1, 27, none⟩)])) := by
    rw [World.cell?_alloc_lt _ _ ⟨0, 0, none⟩ hlt]; exact hg
  go_enter Tryd.func38, Tryd.ntmps38
  go_wp2_with ((go_at_call 58; refine (as_hit n _ (.int .i64 0) _ hgA (by simp) (by simp)).mono ?_; rintro e w' ⟨rfl, rfl⟩))
  go_ret
  exact ⟨rfl, ((((((Below.refl _ _).alloc (Nat.le_refl _) _).alloc (by simp) _).alloc (by simp; omega) _).alloc (by simp; omega) _).alloc (by simp; omega) _)⟩

theorem told_any (n : Int) (w : World) (hg : ErrType w) :
    Calls Tryd.prog 38 #[errV n] w fun e w' => e = .returned (.int .i64 n) ∧ Below w.heap.size w w' := by
  by_cases h : n = 0
  · subst h
    exact (told_nil w).mono fun e w' ⟨h1, h2⟩ => ⟨h1, h2 ▸ Below.refl _ _⟩
  · rw [errV_ne h]; exact told_err n w hg

theorem error_any (n m : Int) (w : World) (hg : ErrType w) :
    Calls Tryd.prog 9 #[errV n, .int .i64 m] w fun e w' => e = .returned (.bool (n == m)) ∧ Below w.heap.size w w' := by
  go_enter Tryd.func9, Tryd.ntmps9
  go_wp2_with ((go_at_call 38; refine (told_any n _ hg).mono ?_; rintro e w' ⟨rfl, hb⟩))
  go_ret
  exact ⟨rfl, hb⟩
end Go.Proofs.YtaojpdcjndlgpaaDoor
