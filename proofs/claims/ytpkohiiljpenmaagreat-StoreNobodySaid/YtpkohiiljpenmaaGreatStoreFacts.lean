/- The closed facts of the row 'storeNobodyRow', a theorem each. -/
import Derived.Test.YtpkohiiljpenmaaGreatEvFacts
import Derived.Test.YtpkohiiljpenmaaGreatRows
namespace Go.Proofs.YtpkohiiljpenmaaGreat
open Go.Ev
theorem store_inPlace : (Rows.storeNobodyRow.inPlace == Tryz.checked.prog.inPlace 3) = true := by kernel_rfl
theorem store_unfollowed : (Rows.storeNobodyRow.unfollowed == Tryz.checked.prog.unfollowed 3) = true := by kernel_rfl
theorem store_recurses : (Rows.storeNobodyRow.recurses == Tryz.checked.prog.recurses 3) = true := by kernel_rfl
theorem store_named : (Rows.storeNobodyRow.named == Tryz.checked.prog.varsNamed 3) = true := by kernel_rfl
theorem store_plainKeys : (Rows.storeNobodyRow.plainKeys == Tryz.checked.prog.plainKeys) = true := by kernel_rfl
theorem store_heard : Tryz.checked.prog.stopsHeard = true := by kernel_rfl
theorem store_mayEnter : Tryz.checked.prog.mayEnter = true := by kernel_rfl
theorem store_laid : laidOutB Tryz.checked.prog = true := by kernel_rfl
theorem store_maps : mapsRowed Tryz.checked.prog = true := by kernel_rfl
theorem store_rest : restFacts Tryz.checked.prog Tryz.f3 Rows.storeNobodySpec Rows.storeNobodyRow = true := by kernel_rfl
theorem store_facts : joinedFacts Tryz.checked.prog 3 Tryz.f3 Rows.storeNobodySpec Rows.storeNobodyRow = true :=
  facts_of store_inPlace store_unfollowed store_recurses store_named store_plainKeys store_heard store_mayEnter store_laid store_maps store_rest
theorem store_func : Tryz.checked.prog.funcNamed Rows.storeNobodyRow.func = some 3 := by kernel_rfl
theorem store_unwrapped : Tryz.f3.isWrapper Tryz.checked.prog Rows.storeNobodyRow.wrapper Rows.storeNobodyRow.mainSum := by
  unfold Func.isWrapper; rw [if_neg (of_decide_eq_false (by kernel_rfl))]; exact ⟨rfl, rfl⟩
theorem store_instance : Tryz.f3.isInstance Tryz.checked.prog Rows.storeNobodyRow.origin Rows.storeNobodyRow.targs := of_decide_eq_true (by kernel_rfl)

end Go.Proofs.YtpkohiiljpenmaaGreat
