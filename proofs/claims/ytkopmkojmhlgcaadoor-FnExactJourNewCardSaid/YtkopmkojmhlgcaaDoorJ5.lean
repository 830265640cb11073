/- FnExactJourNew: the tied card. Conditions: none. -/
import Derived.Test.YtkopmkojmhlgcaaDoorJ4
namespace Go.Proofs.YtkopmkojmhlgcaaDoor
open Go
theorem fnExactJourNew_card_holds : Rows.FnExactJourNewCardSaid :=
  Claim7.holds_tied_plain_at .later [] [.data, .data, .data] true (true, "62900f077323910cf2db6eaafd1e436f029a4faaf1415397bfc38d88293dfdca") false
    fnExactJourNew_holds (fun _ h => by cases h) (by kernel_rfl) (fun _ h => by cases h) fnExactJourNew_row_tie rfl ⟨rfl, rfl⟩ (by kernel_rfl) rfl
    (fun f fn hf hfn => by
      obtain rfl : f = 3 := Option.some.inj ((show Tryd.prog.funcNamed "loop.example/confluence/laws.FnExactJourNew" = some 3 by kernel_rfl).symm.trans hf) |>.symm
      obtain rfl : fn = Tryd.f3 := (Option.some.inj (Tryd.func3.symm.trans hfn)).symm
      exact ⟨by kernel_rfl, fun j t ht => by
        rw [Tryd.params3] at ht
        have h3 : t = 3 := by
          rcases j with _ | _ | j
          · simpa using ht.symm
          · simpa using ht.symm
          · simp at ht
        subst h3
        exact (show Tryd.prog.wantsStandIn 3 = false by kernel_rfl)⟩)
    (by kernel_rfl)
end Go.Proofs.YtkopmkojmhlgcaaDoor
