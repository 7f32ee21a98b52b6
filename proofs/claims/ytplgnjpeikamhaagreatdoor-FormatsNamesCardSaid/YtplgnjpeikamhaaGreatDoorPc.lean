/- FormatsNames' tied card holds: the row of FormatsNames, with what its tables hold tied to the program's text. No condition. -/
import Derived.Test.YtplgnjpeikamhaaGreatDoorRows
import Derived.Test.YtplgnjpeikamhaaGreatDoorTie
import Derived.Test.YtplgnjpeikamhaaGreatDoorCards
import Derived.Test.YtplgnjpeikamhaaGreatDoorPf
import Derived.SevenTiedAt
set_option maxRecDepth 100000
namespace Go.Proofs.YtplgnjpeikamhaaGreatDoor
open Go

theorem formatsNames_card : Rows.FormatsNamesCardSaid :=
  Claim7.holds_tied_plain_at .later [] _ _ _ _ formatsNames_holds (fun _ h => by cases h) (by kernel_rfl) (fun _ h => by cases h) formatsNames_row_tie rfl ⟨rfl, rfl⟩ (by kernel_rfl) rfl
    (fun f fn hf hfn => by
      obtain rfl : f = 3 := Option.some.inj (named.symm.trans hf) |>.symm
      obtain rfl : fn = Tryz.f3 := (Option.some.inj (Tryz.func3.symm.trans hfn)).symm
      exact ⟨by kernel_rfl, fun j t ht => by
        rw [Tryz.params3] at ht
        have hm : t ∈ [3, 9] := by simpa using Array.mem_of_getElem? ht
        have hall : ([3, 9].all fun u => !Tryz.prog.wantsStandIn u) = true := by kernel_rfl
        exact (show Tryz.prog.wantsStandIn t = false by simpa using List.all_eq_true.1 hall t hm)⟩)
    (by kernel_rfl)
end Go.Proofs.YtplgnjpeikamhaaGreatDoor
