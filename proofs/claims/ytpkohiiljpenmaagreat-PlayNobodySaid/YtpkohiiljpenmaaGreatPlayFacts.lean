/- The closed facts of the row 'playNobodyRow', a theorem each. -/
import Derived.Test.YtpkohiiljpenmaaGreatEvFacts
import Derived.Test.YtpkohiiljpenmaaGreatRows
namespace Go.Proofs.YtpkohiiljpenmaaGreat
open Go.Ev
theorem play_inPlace : (Rows.playNobodyRow.inPlace == Tryz.checked.prog.inPlace 4) = true := by kernel_rfl
theorem play_unfollowed : (Rows.playNobodyRow.unfollowed == Tryz.checked.prog.unfollowed 4) = true := by kernel_rfl
theorem play_recurses : (Rows.playNobodyRow.recurses == Tryz.checked.prog.recurses 4) = true := by kernel_rfl
theorem play_named : (Rows.playNobodyRow.named == Tryz.checked.prog.varsNamed 4) = true := by kernel_rfl
theorem play_plainKeys : (Rows.playNobodyRow.plainKeys == Tryz.checked.prog.plainKeys) = true := by kernel_rfl
theorem play_heard : Tryz.checked.prog.stopsHeard = true := by kernel_rfl
theorem play_mayEnter : Tryz.checked.prog.mayEnter = true := by kernel_rfl
theorem play_laid : laidOutB Tryz.checked.prog = true := by kernel_rfl
theorem play_maps : mapsRowed Tryz.checked.prog = true := by kernel_rfl
theorem play_rest : restFacts Tryz.checked.prog Tryz.f4 Rows.playNobodySpec Rows.playNobodyRow = true := by kernel_rfl
theorem play_facts : joinedFacts Tryz.checked.prog 4 Tryz.f4 Rows.playNobodySpec Rows.playNobodyRow = true :=
  facts_of play_inPlace play_unfollowed play_recurses play_named play_plainKeys play_heard play_mayEnter play_laid play_maps play_rest
theorem play_func : Tryz.checked.prog.funcNamed Rows.playNobodyRow.func = some 4 := by kernel_rfl
theorem play_unwrapped : Tryz.f4.isWrapper Tryz.checked.prog Rows.playNobodyRow.wrapper Rows.playNobodyRow.mainSum := by
  unfold Func.isWrapper; rw [if_neg (of_decide_eq_false (by kernel_rfl))]; exact ⟨rfl, rfl⟩
theorem play_instance : Tryz.f4.isInstance Tryz.checked.prog Rows.playNobodyRow.origin Rows.playNobodyRow.targs := of_decide_eq_true (by kernel_rfl)

end Go.Proofs.YtpkohiiljpenmaaGreat
