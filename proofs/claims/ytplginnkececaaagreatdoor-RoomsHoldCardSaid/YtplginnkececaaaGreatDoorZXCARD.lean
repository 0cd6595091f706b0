/- The tied card, out of the row. -/
import Derived.Test.YtplginnkececaaaGreatDoorZXROW
import Derived.Test.YtplginnkececaaaGreatDoorCards
namespace Go.Proofs.YtplginnkececaaaGreatDoor
open Go
set_option maxRecDepth 100000 in
theorem card_holds : Rows.RoomsHoldCardSaid :=
  Claim7.holds_tied_plain_at .later [] [.data, .data, .data] true (true, "d0992621579ce48e5d509ec56c0b2c175e206fbbc89c3ae3adeed82dba5b6a2a") false
    f_holds (fun _ h => by cases h) (by kernel_rfl) (fun _ h => by cases h) roomsHold_row_tie rfl ⟨rfl, rfl⟩ (by kernel_rfl) rfl
    (fun f fn hf hfn => by
      obtain rfl : f = 6 := Option.some.inj ((show Tryz.prog.funcNamed "jitney/jitkeep2.RoomsHold" = some 6 by kernel_rfl).symm.trans hf) |>.symm
      obtain rfl : fn = Tryz.f6 := (Option.some.inj (Tryz.func6.symm.trans hfn)).symm
      exact ⟨by kernel_rfl, fun j t ht => by
        rw [Tryz.params6] at ht
        have h3 : t = 22 := by
          rcases j with _ | j
          · simpa using ht.symm
          · simp at ht
        subst h3
        exact (show Tryz.prog.wantsStandIn 22 = false by kernel_rfl)⟩)
    (by kernel_rfl)
#print axioms card_holds
end Go.Proofs.YtplginnkececaaaGreatDoor
