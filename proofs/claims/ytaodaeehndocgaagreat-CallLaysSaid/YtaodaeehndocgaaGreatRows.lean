/-
  No cell of these rows narrows 'for every input' (looked for: loops, veiled, ifaces, maps, wideKeys, modest, calm, conditions, laid).
  DERIVED. THE GIVEN ROWS OF THIS SEAT. 3 by the template 'for every input the law returns true; each argument reads behind the call as it read before'; 0 by the template 'total and deterministic' (their statements: YtaodaeehndocgaaGreatTotals.lean).
  GIVEN WITH THE SEED: the statements are not yours to turn. If you find one false, say at which input.
  Laid BY PROGRAM, IN A SANDBOX (cutbox-rows.mjs): the forced cells as the released guide's own fill.sh prints them over the translation 6c1b13c6a78012ba… (all of the seat's roots in one cut). By AI agents, Wed Nov 11 2026. No macro, syntax, notation, axiom, sorry.
-/
import Derived.Test.YtaodaeehndocgaaGreatChecked
import GoSem.Claim
import GoSem.ClaimJoined
import GoSem.ClaimMapViews
import Derived.JoinedTies
import Derived.KernelRfl
namespace Go.Proofs.YtaodaeehndocgaaGreat
/- THE CELL 'sum', in the pinned program and in every row, IS THE sha256 OF THE DUMP (.gsa) THAT YtaodaeehndocgaaGreatProg.lean LOADS. Nothing in Lean hashes anything: it is a label: what it is worth is what the hold of that sum in a sandbox is worth. -/
noncomputable def Tryz.pinned : Pinned := { name := "ytaodaeehndocgaagreat", sum := "6c1b13c6a78012ba1056e1f88b3138dc87582d9f955b427554958a33fa868ee6", checked := Tryz.checked }
namespace Rows
def none {H : Type} : Left H := { results := [], args := [] }

/-- 'styluslaw42.CallNobody': WHATEVER THE INPUT: true; the input reads as it did. -/
def callNobodySpec : ChangeSpec := { name := "callNobody", fn := fun _ => fun
  | [d] => { results := [.lit (.bool true)], args := [d] }
  | _ => none }
def callNobodyRow : OpenClaim := { program := "ytaodaeehndocgaagreat", sum := "6c1b13c6a78012ba1056e1f88b3138dc87582d9f955b427554958a33fa868ee6", func := "stylus/styluslaw42.CallNobody", spec := "callNobody", inPlace := ["internal/abi.NoEscape", "internal/bytealg.MakeNoZero", "slices.overlaps[stylus/api.Mark]", "maps.clone", "internal/bytealg.abigen_runtime_cmpstring", "internal/bytealg.IndexByteString", "internal/bytealg.IndexString"], unfollowed := true, recurses := true, named := ["internal/bytealg.MaxLen"], apart := false }
def CallNobodySaid : Prop := callNobodyRow.holds Tryz.pinned (OpenSpec.ofChange callNobodySpec)

/-- ITS FALSE NEIGHBOUR: 'it returns false'. Refute it at one input. -/
def callNobodyWrong : ChangeSpec := { name := "callNobody", fn := fun _ => fun
  | [d] => { results := [.lit (.bool false)], args := [d] }
  | _ => none }
def CallNobodyWrongFalsely : Prop := callNobodyRow.holds Tryz.pinned (OpenSpec.ofChange callNobodyWrong)

/-- 'styluslaw42.CallLays': WHATEVER THE INPUT: true; the input reads as it did. -/
def callLaysSpec : ChangeSpec := { name := "callLays", fn := fun _ => fun
  | [d1, d2] => { results := [.lit (.bool true)], args := [d1, d2] }
  | _ => none }
def callLaysRow : OpenClaim := { program := "ytaodaeehndocgaagreat", sum := "6c1b13c6a78012ba1056e1f88b3138dc87582d9f955b427554958a33fa868ee6", func := "stylus/styluslaw42.CallLays", spec := "callLays", inPlace := ["internal/bytealg.IndexByteString", "internal/bytealg.IndexString", "internal/bytealg.abigen_runtime_cmpstring", "internal/abi.NoEscape", "internal/bytealg.MakeNoZero", "slices.overlaps[stylus/api.Mark]", "maps.clone"], unfollowed := true, recurses := true, named := ["internal/bytealg.MaxLen"], apart := false }
def CallLaysSaid : Prop := callLaysRow.holds Tryz.pinned (OpenSpec.ofChange callLaysSpec)

/-- ITS FALSE NEIGHBOUR: 'it returns false'. Refute it at one input. -/
def callLaysWrong : ChangeSpec := { name := "callLays", fn := fun _ => fun
  | [d1, d2] => { results := [.lit (.bool false)], args := [d1, d2] }
  | _ => none }
def CallLaysWrongFalsely : Prop := callLaysRow.holds Tryz.pinned (OpenSpec.ofChange callLaysWrong)

/-- 'styluslaw42.CallBack': WHATEVER THE INPUT: true; the input reads as it did. -/
def callBackSpec : ChangeSpec := { name := "callBack", fn := fun _ => fun
  | [d1, d2, d3] => { results := [.lit (.bool true)], args := [d1, d2, d3] }
  | _ => none }
def callBackRow : OpenClaim := { program := "ytaodaeehndocgaagreat", sum := "6c1b13c6a78012ba1056e1f88b3138dc87582d9f955b427554958a33fa868ee6", func := "stylus/styluslaw42.CallBack", spec := "callBack", inPlace := ["internal/bytealg.IndexByteString", "internal/bytealg.IndexString", "internal/bytealg.abigen_runtime_cmpstring", "internal/abi.NoEscape", "internal/bytealg.MakeNoZero", "slices.overlaps[stylus/api.Mark]", "maps.clone"], unfollowed := true, recurses := true, named := ["internal/bytealg.MaxLen"], apart := false }
def CallBackSaid : Prop := callBackRow.holds Tryz.pinned (OpenSpec.ofChange callBackSpec)

/-- ITS FALSE NEIGHBOUR: 'it returns false'. Refute it at one input. -/
def callBackWrong : ChangeSpec := { name := "callBack", fn := fun _ => fun
  | [d1, d2, d3] => { results := [.lit (.bool false)], args := [d1, d2, d3] }
  | _ => none }
def CallBackWrongFalsely : Prop := callBackRow.holds Tryz.pinned (OpenSpec.ofChange callBackWrong)

/- THE SECOND FORM. 'bulk': how many values and letters a reading holds, each counted each time it is reached (what is shared counts as often as it is met; a slice's spare places count too). A statement '..UptoSaid' is the law's where the arguments, and the package variables that the reading takes, are together of bulk at most 1048576: NARROWER than '..Said'. Prove '..Said' where nothing that the law and all that it calls make is longer than what came in: it says more and counts as full. Else prove '..UptoSaid'. A law counts once. -/
mutual
def uptoBulk {H : Type} : DataW H → Nat
  | .lit (.string bytes) => bytes.length + 1
  | .lit _ => 1
  | .nil => 1
  | .ptr d => uptoBulk d + 1
  | .slice elems spare => uptoBulkAll elems + uptoBulkAll spare + 1
  | .agg parts => uptoBulkAll parts + 1
  | .iface _ d => uptoBulk d + 1
  | .map entries => uptoBulkEntries entries + 1
  | .held _ => 1
def uptoBulkAll {H : Type} : List (DataW H) → Nat
  | [] => 0
  | d :: r => uptoBulk d + uptoBulkAll r
def uptoBulkEntries {H : Type} : List (Lit × DataW H) → Nat
  | [] => 0
  | x :: r => uptoBulkEntry x + uptoBulkEntries r
def uptoBulkEntry {H : Type} : Lit × DataW H → Nat
  | (.string bytes, d) => bytes.length + uptoBulk d + 1
  | (_, d) => uptoBulk d + 1
 end
def uptoSmall : (H : Type) → List (DataW H) → Bool := fun _ ds => decide (uptoBulkAll ds ≤ 1048576)
def OpenSpec.upto (s : _root_.Go.ChangeSpec) : _root_.Go.OpenSpec := { _root_.Go.OpenSpec.ofChange s with cond := some uptoSmall }

/-- 'styluslaw42.CallNobody', WHERE WHAT IT READS IS OF BULK AT MOST 1048576: true; the input reads as it did. -/
def callNobodyUptoRow : OpenClaim := { program := "ytaodaeehndocgaagreat", sum := "6c1b13c6a78012ba1056e1f88b3138dc87582d9f955b427554958a33fa868ee6", func := "stylus/styluslaw42.CallNobody", spec := "callNobody", inPlace := ["internal/abi.NoEscape", "internal/bytealg.MakeNoZero", "slices.overlaps[stylus/api.Mark]", "maps.clone", "internal/bytealg.abigen_runtime_cmpstring", "internal/bytealg.IndexByteString", "internal/bytealg.IndexString"], unfollowed := true, recurses := true, named := ["internal/bytealg.MaxLen"], apart := false, narrowed := true }
def CallNobodyUptoSaid : Prop := callNobodyUptoRow.holds Tryz.pinned (OpenSpec.upto callNobodySpec)

/-- 'styluslaw42.CallLays', WHERE WHAT IT READS IS OF BULK AT MOST 1048576: true; the input reads as it did. -/
def callLaysUptoRow : OpenClaim := { program := "ytaodaeehndocgaagreat", sum := "6c1b13c6a78012ba1056e1f88b3138dc87582d9f955b427554958a33fa868ee6", func := "stylus/styluslaw42.CallLays", spec := "callLays", inPlace := ["internal/bytealg.IndexByteString", "internal/bytealg.IndexString", "internal/bytealg.abigen_runtime_cmpstring", "internal/abi.NoEscape", "internal/bytealg.MakeNoZero", "slices.overlaps[stylus/api.Mark]", "maps.clone"], unfollowed := true, recurses := true, named := ["internal/bytealg.MaxLen"], apart := false, narrowed := true }
def CallLaysUptoSaid : Prop := callLaysUptoRow.holds Tryz.pinned (OpenSpec.upto callLaysSpec)

/-- 'styluslaw42.CallBack', WHERE WHAT IT READS IS OF BULK AT MOST 1048576: true; the input reads as it did. -/
def callBackUptoRow : OpenClaim := { program := "ytaodaeehndocgaagreat", sum := "6c1b13c6a78012ba1056e1f88b3138dc87582d9f955b427554958a33fa868ee6", func := "stylus/styluslaw42.CallBack", spec := "callBack", inPlace := ["internal/bytealg.IndexByteString", "internal/bytealg.IndexString", "internal/bytealg.abigen_runtime_cmpstring", "internal/abi.NoEscape", "internal/bytealg.MakeNoZero", "slices.overlaps[stylus/api.Mark]", "maps.clone"], unfollowed := true, recurses := true, named := ["internal/bytealg.MaxLen"], apart := false, narrowed := true }
def CallBackUptoSaid : Prop := callBackUptoRow.holds Tryz.pinned (OpenSpec.upto callBackSpec)

end Rows
end Go.Proofs.YtaodaeehndocgaaGreat
