/- Proved: the tied card of QueueNils (Rows.QueueNilsCardSaid): for every kind, name and number that the row lets in, the law QueueNils answers true, ends, and changes nothing that it was given. Conditions: those of the given statement, no others. -/
import Derived.Test.YtgfbdcbbgpkmnaaGreatDoorNqRow
set_option autoImplicit false
set_option maxRecDepth 100000
namespace Go.Proofs.YtgfbdcbbgpkmnaaGreatDoor
open Go.ChangeShapes Go.WideShapes Go.ChangeAt Go.RowKit
/-- The tied card of QueueNils. -/
theorem card_holds : Rows.QueueNilsCardSaid :=
  Claim7.holds_tied_plain_at .later [] [.data, .pinned] true (true, "2701d1cc4dcd0f998fa1a4f8ed5ae5ef06246bf2bb582af8ee678f518f9c6bb9") false
    queueNils_holds (fun _ h => by cases h) (by as_aux_lemma => kernel_rfl) (fun _ h => by cases h) queueNils_row_tie rfl ⟨rfl, rfl⟩ (by as_aux_lemma => kernel_rfl) rfl
    (fun f fn hf hfn => by
      obtain rfl : f = 3 := Option.some.inj ((show Tryz.prog.funcNamed "progeny/progenylaw22.QueueNils" = some 3 by as_aux_lemma => kernel_rfl).symm.trans hf) |>.symm
      obtain rfl : fn = Tryz.f3 := (Option.some.inj (Tryz.func3.symm.trans hfn)).symm
      exact ⟨by as_aux_lemma => kernel_rfl, fun j t ht => by
        rw [Tryz.params3] at ht
        have hm : t ∈ [3, 9, 3] := by simpa using Array.mem_of_getElem? ht
        have hall : ([3, 9, 3].all fun u => !Tryz.prog.wantsStandIn u) = true := by as_aux_lemma => kernel_rfl
        exact (show Tryz.prog.wantsStandIn t = false by simpa using List.all_eq_true.1 hall t hm)⟩)
    (by as_aux_lemma => kernel_rfl)
#print axioms card_holds
end Go.Proofs.YtgfbdcbbgpkmnaaGreatDoor
