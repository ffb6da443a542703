/- The closed facts of the row 'callNobodyRow', a theorem each. -/
import Derived.Test.YtaodaeehndocgaaGreatEvFacts
import Derived.Test.YtaodaeehndocgaaGreatRows
namespace Go.Proofs.YtaodaeehndocgaaGreat
open Go.Ev
theorem nobody_inPlace : (Rows.callNobodyRow.inPlace == Tryz.checked.prog.inPlace 3) = true := by kernel_rfl
theorem nobody_unfollowed : (Rows.callNobodyRow.unfollowed == Tryz.checked.prog.unfollowed 3) = true := by kernel_rfl
theorem nobody_recurses : (Rows.callNobodyRow.recurses == Tryz.checked.prog.recurses 3) = true := by kernel_rfl
theorem nobody_named : (Rows.callNobodyRow.named == Tryz.checked.prog.varsNamed 3) = true := by kernel_rfl
theorem nobody_plainKeys : (Rows.callNobodyRow.plainKeys == Tryz.checked.prog.plainKeys) = true := by kernel_rfl
theorem nobody_heard : Tryz.checked.prog.stopsHeard = true := by kernel_rfl
theorem nobody_mayEnter : Tryz.checked.prog.mayEnter = true := by kernel_rfl
theorem nobody_laid : laidOutB Tryz.checked.prog = true := by kernel_rfl
theorem nobody_maps : mapsRowed Tryz.checked.prog = true := by kernel_rfl
theorem nobody_rest : restFacts Tryz.checked.prog Tryz.f3 Rows.callNobodySpec Rows.callNobodyRow = true := by kernel_rfl
theorem nobody_facts : joinedFacts Tryz.checked.prog 3 Tryz.f3 Rows.callNobodySpec Rows.callNobodyRow = true :=
  facts_of nobody_inPlace nobody_unfollowed nobody_recurses nobody_named nobody_plainKeys nobody_heard nobody_mayEnter nobody_laid nobody_maps nobody_rest
theorem nobody_func : Tryz.checked.prog.funcNamed Rows.callNobodyRow.func = some 3 := by kernel_rfl
theorem nobody_unwrapped : Tryz.f3.isWrapper Tryz.checked.prog Rows.callNobodyRow.wrapper Rows.callNobodyRow.mainSum := by
  unfold Func.isWrapper; rw [if_neg (of_decide_eq_false (by kernel_rfl))]; exact ⟨rfl, rfl⟩
theorem nobody_instance : Tryz.f3.isInstance Tryz.checked.prog Rows.callNobodyRow.origin Rows.callNobodyRow.targs := of_decide_eq_true (by kernel_rfl)

end Go.Proofs.YtaodaeehndocgaaGreat
