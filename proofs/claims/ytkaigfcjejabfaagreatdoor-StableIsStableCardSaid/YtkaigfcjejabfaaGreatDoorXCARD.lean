/- The tied card, out of the row. -/
import Derived.Test.YtkaigfcjejabfaaGreatDoorXROW
import Derived.Test.YtkaigfcjejabfaaGreatDoorCards
namespace Go.Proofs.YtkaigfcjejabfaaGreatDoor
open Go
set_option maxRecDepth 100000 in
theorem card_holds : Rows.StableIsStableCardSaid :=
  Claim7.holds_tied_plain_at .later [] [.data, .data, .data] true (true, "d3c82c74d8b1d80e8262c63c418950cb7640cace3ed7cdb1219ef7ea6bdf97dc") false
    f_holds (fun _ h => by cases h) (by kernel_rfl) (fun _ h => by cases h) stableIsStable_row_tie rfl ⟨rfl, rfl⟩ (by kernel_rfl) rfl
    (fun f fn hf hfn => by
      obtain rfl : f = 3 := Option.some.inj ((show Tryz.prog.funcNamed "jitney/jitkeep2.StableIsStable" = some 3 by kernel_rfl).symm.trans hf) |>.symm
      obtain rfl : fn = Tryz.f3 := (Option.some.inj (Tryz.func3.symm.trans hfn)).symm
      exact ⟨by kernel_rfl, fun j t ht => by
        rw [Tryz.params3] at ht
        have h3 : t = 22 := by
          rcases j with _ | j
          · simpa using ht.symm
          · simp at ht
        subst h3
        exact (show Tryz.prog.wantsStandIn 22 = false by kernel_rfl)⟩)
    (by kernel_rfl)
#print axioms card_holds
end Go.Proofs.YtkaigfcjejabfaaGreatDoor
