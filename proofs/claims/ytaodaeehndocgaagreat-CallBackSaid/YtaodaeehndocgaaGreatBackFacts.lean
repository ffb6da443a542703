/- The closed facts of the row 'callBackRow', a theorem each. -/
import Derived.Test.YtaodaeehndocgaaGreatEvFacts
import Derived.Test.YtaodaeehndocgaaGreatRows
namespace Go.Proofs.YtaodaeehndocgaaGreat
open Go.Ev
theorem back_inPlace : (Rows.callBackRow.inPlace == Tryz.checked.prog.inPlace 5) = true := by kernel_rfl
theorem back_unfollowed : (Rows.callBackRow.unfollowed == Tryz.checked.prog.unfollowed 5) = true := by kernel_rfl
theorem back_recurses : (Rows.callBackRow.recurses == Tryz.checked.prog.recurses 5) = true := by kernel_rfl
theorem back_named : (Rows.callBackRow.named == Tryz.checked.prog.varsNamed 5) = true := by kernel_rfl
theorem back_plainKeys : (Rows.callBackRow.plainKeys == Tryz.checked.prog.plainKeys) = true := by kernel_rfl
theorem back_heard : Tryz.checked.prog.stopsHeard = true := by kernel_rfl
theorem back_mayEnter : Tryz.checked.prog.mayEnter = true := by kernel_rfl
theorem back_laid : laidOutB Tryz.checked.prog = true := by kernel_rfl
theorem back_maps : mapsRowed Tryz.checked.prog = true := by kernel_rfl
theorem back_rest : restFacts Tryz.checked.prog Tryz.f5 Rows.callBackSpec Rows.callBackRow = true := by kernel_rfl
theorem back_facts : joinedFacts Tryz.checked.prog 5 Tryz.f5 Rows.callBackSpec Rows.callBackRow = true :=
  facts_of back_inPlace back_unfollowed back_recurses back_named back_plainKeys back_heard back_mayEnter back_laid back_maps back_rest
theorem back_func : Tryz.checked.prog.funcNamed Rows.callBackRow.func = some 5 := by kernel_rfl
theorem back_unwrapped : Tryz.f5.isWrapper Tryz.checked.prog Rows.callBackRow.wrapper Rows.callBackRow.mainSum := by
  unfold Func.isWrapper; rw [if_neg (of_decide_eq_false (by kernel_rfl))]; exact ⟨rfl, rfl⟩
theorem back_instance : Tryz.f5.isInstance Tryz.checked.prog Rows.callBackRow.origin Rows.callBackRow.targs := of_decide_eq_true (by kernel_rfl)

end Go.Proofs.YtaodaeehndocgaaGreat
