/- The law TopPurses of package billingtop returns true for every input, and its argument reads behind the call as before; the condition: the listed package-level variables read as the program text lays them (tied). -/
import Derived.Test.YtdhhdfgboalfiaaDoorR2
import Derived.Test.YtdhhdfgboalfiaaDoorCards
import Derived.Test.YtdhhdfgboalfiaaDoorTie
import Derived.SevenTiedAt
set_option maxRecDepth 100000
namespace Go.Proofs.YtdhhdfgboalfiaaDoor
open Go
theorem topPurses_card_holds : Rows.TopPursesCardSaid :=
  Claim7.holds_tied_plain_at .later [] [.data, .data, .data, .data] true (true, "9360bc9333afec20d4bec16b328dac69e0ad881ec7703abdc400d9831bbb446f") false
    topPurses.proved (fun _ h => by cases h) (by kernel_rfl) (fun _ h => by cases h) topPurses_row_tie rfl ⟨rfl, rfl⟩ (by kernel_rfl) rfl
    (fun f fn hf hfn => by
      obtain rfl : f = 3 := Option.some.inj ((show Tryd.prog.funcNamed "billing/billingtop.TopPurses" = some 3 by kernel_rfl).symm.trans hf) |>.symm
      obtain rfl : fn = Tryd.f3 := (Option.some.inj (Tryd.func3.symm.trans hfn)).symm
      exact ⟨by kernel_rfl, fun j t ht => by
        rw [Tryd.params3] at ht
        have h3 : t = 24 := by
          rcases j with _ | j
          · simpa using ht.symm
          · simp at ht
        subst h3
        exact (show Tryd.prog.wantsStandIn 24 = false by kernel_rfl)⟩)
    (by kernel_rfl)
#print axioms topPurses_card_holds
end Go.Proofs.YtdhhdfgboalfiaaDoor
