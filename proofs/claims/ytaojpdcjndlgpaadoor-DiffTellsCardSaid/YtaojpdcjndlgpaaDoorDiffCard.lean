/- vaultlaw1.DiffTells: the tied card: of whatever bytes and changes the law returns true, and they read as they did. No conditions: what errors.errorType holds is tied to the program's text. -/
import Derived.Test.YtaojpdcjndlgpaaDoorDiffRow
import Derived.Test.YtaojpdcjndlgpaaDoorTie
import Derived.Test.YtaojpdcjndlgpaaDoorCards
import Derived.SevenTiedAt
namespace Go.Proofs.YtaojpdcjndlgpaaDoor
open Go
set_option maxRecDepth 100000

theorem diffTells_card : Rows.DiffTellsCardSaid :=
  Claim7.holds_tied_plain_at .later [] [.handle] true (true, "d16032a8b4b660327c9aea8ff099bf3d6005676e84e1dc4688751a1214e680b0") true
    diffTells_holds (fun _ h => by cases h) (by kernel_rfl) (fun _ h => by cases h) diffTells_row_tie rfl ⟨rfl, rfl⟩ (by kernel_rfl) rfl
    (fun f fn hf hfn => by
      obtain rfl : f = 4 := Option.some.inj ((show Tryd.prog.funcNamed "vaultkeel/vaultlaw1.DiffTells" = some 4 by kernel_rfl).symm.trans hf) |>.symm
      obtain rfl : fn = Tryd.f4 := (Option.some.inj (Tryd.func4.symm.trans hfn)).symm
      exact ⟨by kernel_rfl, fun j t ht => by
        rw [Tryd.params4] at ht
        have h3 : t = 41 ∨ t = 56 := by
          rcases j with _ | _ | _ | j
          · exact .inl (by simpa using ht.symm)
          · exact .inl (by simpa using ht.symm)
          · exact .inr (by simpa using ht.symm)
          · simp at ht
        rcases h3 with rfl | rfl
        · exact (show Tryd.prog.wantsStandIn 41 = false by kernel_rfl)
        · exact (show Tryd.prog.wantsStandIn 56 = false by kernel_rfl)⟩)
    (by kernel_rfl)
#print axioms diffTells_card
end Go.Proofs.YtaojpdcjndlgpaaDoor
