/- The page's example of layer 42 holds: the function 'lives' answers true, whatever memory there is, and leaves it as it was. It has no argument; no condition. -/
import Derived.Test.YtaodaeehndocgaaGreatEvZe
import Derived.Test.YtaodaeehndocgaaGreatRows
namespace Go.Proofs.YtaodaeehndocgaaGreat
open Go.RowKit Go.Ev

theorem Tryz.mixed : Tryz.prog.follows .mixedOrders = true := by kernel_rfl
theorem Tryz.names : namesOk Tryz.prog = true := by kernel_rfl
theorem Tryz.livesRun : isTrue (callFF (envOf Tryz.prog) 100000 7 [] ⟨0, .nil⟩) = true := by kernel_rfl
theorem lives_any (w : World) : Calls Tryz.prog 7 #[] w fun e w' => e = .returned (.bool true) ∧ Below w.heap.size w w' :=
  lives_of Tryz.mixed Tryz.names Tryz.livesRun w

end Go.Proofs.YtaodaeehndocgaaGreat
