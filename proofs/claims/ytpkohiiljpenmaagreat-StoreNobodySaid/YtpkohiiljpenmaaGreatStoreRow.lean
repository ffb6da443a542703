/- The statement 'StoreNobodySaid': the law holds for every input; its arguments read as before. No condition. -/
import Derived.Test.YtpkohiiljpenmaaGreatRunA
import Derived.Test.YtpkohiiljpenmaaGreatStoreFacts
import Derived.Test.YtpkohiiljpenmaaGreatShut
import Derived.ProofKit
import Derived.Lib.SmallJoins
namespace Go.Proofs.YtpkohiiljpenmaaGreat
open Go.ChangeShapes Go.WideShapes Go.ChangeAt Go.RowKit Go.Joins
open Go.ChangeMaps (open_string shut_string)
open Go.Ev (post_of_below)

theorem Tryz.ownstore : ownKnob Tryz.prog.godebug = none := by kernel_rfl
theorem Tryz.cellsstore : Tryz.prog.cellsOf 23 = 4 := by kernel_rfl
set_option maxRecDepth 100000 in
theorem store_lifted (os : Os) (started : os.Started) (H : Type) (enc : TypeId × Value → H) :
    ReturnsInHanded {} Tryz.checked os 3 .any (Rows.storeNobodySpec.pre6 enc Tryz.prog Tryz.f3 Rows.storeNobodyRow.domain false) (Rows.storeNobodySpec.post enc Tryz.prog Tryz.f3 false true false false) := by
  refine returnsInHanded_of_change (C := Tryz.checked) Tryz.ownstore started (by kernel_rfl) Tryz.func3
    (ChangeSpec.witness6 (enc := enc) (C := Tryz.checked) false ⟨#[], #[.agg #[.int .i64 0, .int .i64 0, .int .i64 0, .string ByteArray.empty], .int .i64 0], []⟩ 8 (by kernel_rfl) (by kernel_rfl) (by kernel_rfl) (by kernel_rfl)) ?_
  intro W base args ds gs before hval0 hW _ _
  have hval : ∀ (j : Nat) t v, Tryz.f3.params[j]? = some t → args[j]? = some v → Value.okWide Tryz.prog W .any base t v := hval0
  have hW' := hW
  obtain ⟨p, q, hA0, hV, rfl, _, _⟩ := hW
  have hA : DataW.TrodAll enc Tryz.prog W 0 (fun _ => true) true Tryz.f3.params.toList args.toList ds p := hA0
  rw [Tryz.params3] at hA hval
  obtain ⟨v0, v1, d0, d1, p0, p1, rfl, rfl, rfl, h0, h1⟩ := trodAll_two hA
  obtain ⟨rfl, rfl⟩ := trodVars_none hV
  obtain ⟨c0, c1, c2, c3, y0, y1, y2, y3, m, rfl, rfl, rfl, hy0, hy1, hy2, hy3⟩ := open_agg4 Tryz.underlying23 (by kernel_rfl) Tryz.cellsstore (hval 0 23 v0 rfl rfl) h0
  obtain ⟨kind, e0, rfl, wa⟩ := DataW.trod_int Tryz.underlying3 hy0
  obtain ⟨a, e1, rfl, wb⟩ := DataW.trod_int Tryz.underlying3 hy1
  obtain ⟨n, e2, rfl, wc⟩ := DataW.trod_int Tryz.underlying3 hy2
  obtain ⟨s, e3, rfl, ws⟩ := DataW.trod_string Tryz.underlying9 hy3
  simp at e0 e1 e2 e3
  subst e0 e1 e2 e3
  obtain ⟨x0, rfl, rfl, rfl, wx0⟩ := open_int Tryz.underlying3 (hval 1 3 v1 rfl rfl) h1
  clear hA0 hval0
  simp only [List.append_nil] at hW'
  refine (store_any kind a n s x0 W ).mono fun e W' ⟨he, hw⟩ => ?_
  subst he
  have structReads : ∀ (W' : World) (sp : Nat → Bool), DataW.Trod enc Tryz.prog W' 0 sp true 23 (.agg #[.int .i64 kind, .int .i64 a, .int .i64 n, .string s]) (.agg [.lit (.int .i64 kind), .lit (.int .i64 a), .lit (.int .i64 n), .lit (.string s.data.toList)]) [] := fun W' sp =>
    shut_agg4 (y0 := (.lit (.int .i64 kind), [])) (y1 := (.lit (.int .i64 a), [])) (y2 := (.lit (.int .i64 n), [])) (y3 := (.lit (.string s.data.toList), [])) Tryz.underlying23 (by kernel_rfl) Tryz.cellsstore
      ⟨1, by simp [DataW.trod, Tryz.underlying3, wa]⟩ ⟨1, by simp [DataW.trod, Tryz.underlying3, wb]⟩ ⟨1, by simp [DataW.trod, Tryz.underlying3, wc]⟩ ⟨1, by simp [DataW.trod, Tryz.underlying9, ws]⟩
  exact ⟨_, rfl, post_of_below (pa := []) (pv := []) hW' (fun _ _ _ => trodAll_mk1 (shut_bool Tryz.underlying4 true)) (fun sp _ => trodAll_mk2 (structReads _ sp) (shut_int Tryz.underlying3 wx0)) (fun _ _ => rfl) rfl hw (ok_one (by kernel_rfl) rfl (okWide_bool_mk Tryz.underlying4 true))⟩

theorem store_holds : Rows.StoreNobodySaid :=
  OpenClaim.holds_of_wide 3 Tryz.f3 rfl rfl rfl rfl rfl rfl rfl ⟨rfl, rfl, rfl, rfl, rfl⟩ rfl rfl rfl rfl rfl store_func Tryz.func3 store_facts
    store_instance store_unwrapped (fun os started H enc _ => store_lifted os started H enc)
#print axioms store_holds
end Go.Proofs.YtpkohiiljpenmaaGreat
