/- The statement of layer 43 on what no call made, run whole: it answers true, whatever memory there is, and leaves it as it was. For every argument; no condition. -/
import Derived.Test.YtpkohiiljpenmaaGreatIds
import Derived.Test.YtpkohiiljpenmaaGreatMemo
namespace Go.Proofs.YtpkohiiljpenmaaGreat
open Go.RowKit Go.Ev

/-- slices.Sorted at the keys of a map (ints, texts), the folder's numbers, calls at plain arguments -/
def orcsB : T (List AV → H → Option (AV × H)) := T.set (some (memo memo288)) (T.set (some (memo memo172)) (T.set (some (memo memo328)) (T.set (some (memo memo451)) (T.set (some (memo memo224)) (T.set (some (memo memo337)) (T.set (some (memo memo174)) (T.set (some (memo memo323)) (T.set (some (memo memo429)) (T.set (some (memo memo371)) (T.set (some (memo memo195)) (T.set (some (memo memo89)) (T.set (some (memo memo265)) (T.set (some (memo memo448)) (T.set (some (memo memo372)) (T.set (some (memo memo312)) (T.set (some (memo memo150)) (T.set (some (memo memo350)) (T.set (some (memo memo186)) (T.set (some (memo memo322)) (T.set (some (memo memo416)) (T.set (some (memo memo196)) (T.set (some (memo memo266)) (T.set (some (idsA 3)) (T.set (some (sortedS 367 9)) (T.set (some (sortedZ 308 3)) .nil 209) 320) 122) 266) 196) 416) 322) 186) 350) 150) 312) 372) 448) 265) 89) 195) 371) 429) 323) 174) 337) 224) 451) 328) 172) 288
theorem orcsB_ok : OrcsOk Tryz.prog orcsB := orcs_set memo288_ok (orcs_set memo172_ok (orcs_set memo328_ok (orcs_set memo451_ok (orcs_set memo224_ok (orcs_set memo337_ok (orcs_set memo174_ok (orcs_set memo323_ok (orcs_set memo429_ok (orcs_set memo371_ok (orcs_set memo195_ok (orcs_set memo89_ok (orcs_set memo265_ok (orcs_set memo448_ok (orcs_set memo372_ok (orcs_set memo312_ok (orcs_set memo150_ok (orcs_set memo350_ok (orcs_set memo186_ok (orcs_set memo322_ok (orcs_set memo416_ok (orcs_set memo196_ok (orcs_set memo266_ok (orcs_set (orcIds Tryz.underlying9 Tryz.underlying3 Tryz.underlying267 (fun w => ⟨_, zero3 w⟩) ids_any) (orcs_set (orcS Tryz.underlying9 sortedS_any) (orcs_set (orcZ Tryz.underlying3 sortedZ_any) orcs_nil)))))))))))))))))))))))))
theorem playRun (kind a n : Int) (s : List UInt8) : isTrue (callFF (envO Tryz.prog orcsB) 100000 4 [.agg [.int .i64 kind, .int .i64 a, .int .i64 n, .str s]] ⟨0, .nil⟩) = true := by kernel_rfl
theorem play_any (kind a n : Int) (s : ByteArray) (w : World) :
    Calls Tryz.prog 4 #[.agg #[.int .i64 kind, .int .i64 a, .int .i64 n, .string s]] w fun e w' => e = .returned (.bool true) ∧ Below w.heap.size w w' :=
  run_ofO Tryz.mixed Tryz.names orcsB_ok (args := [.agg [.int .i64 kind, .int .i64 a, .int .i64 n, .str s.data.toList]]) rfl (playRun kind a n s.data.toList) w

end Go.Proofs.YtpkohiiljpenmaaGreat
