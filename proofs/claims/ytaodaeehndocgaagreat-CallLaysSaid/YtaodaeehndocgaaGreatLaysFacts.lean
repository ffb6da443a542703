/- The closed facts of the row 'callLaysRow', a theorem each. -/
import Derived.Test.YtaodaeehndocgaaGreatEvFacts
import Derived.Test.YtaodaeehndocgaaGreatRows
namespace Go.Proofs.YtaodaeehndocgaaGreat
open Go.Ev
theorem lays_inPlace : (Rows.callLaysRow.inPlace == Tryz.checked.prog.inPlace 4) = true := by kernel_rfl
theorem lays_unfollowed : (Rows.callLaysRow.unfollowed == Tryz.checked.prog.unfollowed 4) = true := by kernel_rfl
theorem lays_recurses : (Rows.callLaysRow.recurses == Tryz.checked.prog.recurses 4) = true := by kernel_rfl
theorem lays_named : (Rows.callLaysRow.named == Tryz.checked.prog.varsNamed 4) = true := by kernel_rfl
theorem lays_plainKeys : (Rows.callLaysRow.plainKeys == Tryz.checked.prog.plainKeys) = true := by kernel_rfl
theorem lays_heard : Tryz.checked.prog.stopsHeard = true := by kernel_rfl
theorem lays_mayEnter : Tryz.checked.prog.mayEnter = true := by kernel_rfl
theorem lays_laid : laidOutB Tryz.checked.prog = true := by kernel_rfl
theorem lays_maps : mapsRowed Tryz.checked.prog = true := by kernel_rfl
theorem lays_rest : restFacts Tryz.checked.prog Tryz.f4 Rows.callLaysSpec Rows.callLaysRow = true := by kernel_rfl
theorem lays_facts : joinedFacts Tryz.checked.prog 4 Tryz.f4 Rows.callLaysSpec Rows.callLaysRow = true :=
  facts_of lays_inPlace lays_unfollowed lays_recurses lays_named lays_plainKeys lays_heard lays_mayEnter lays_laid lays_maps lays_rest
theorem lays_func : Tryz.checked.prog.funcNamed Rows.callLaysRow.func = some 4 := by kernel_rfl
theorem lays_unwrapped : Tryz.f4.isWrapper Tryz.checked.prog Rows.callLaysRow.wrapper Rows.callLaysRow.mainSum := by
  unfold Func.isWrapper; rw [if_neg (of_decide_eq_false (by kernel_rfl))]; exact ⟨rfl, rfl⟩
theorem lays_instance : Tryz.f4.isInstance Tryz.checked.prog Rows.callLaysRow.origin Rows.callLaysRow.targs := of_decide_eq_true (by kernel_rfl)

end Go.Proofs.YtaodaeehndocgaaGreat
