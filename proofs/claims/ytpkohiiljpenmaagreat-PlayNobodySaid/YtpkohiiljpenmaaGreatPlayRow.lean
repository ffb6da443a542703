/- The statement 'PlayNobodySaid': the law holds for every input; its arguments read as before. No condition. -/
import Derived.Test.YtpkohiiljpenmaaGreatRunB
import Derived.Test.YtpkohiiljpenmaaGreatPlayFacts
import Derived.Test.YtpkohiiljpenmaaGreatShut
import Derived.ProofKit
import Derived.Lib.SmallJoins
namespace Go.Proofs.YtpkohiiljpenmaaGreat
open Go.ChangeShapes Go.WideShapes Go.ChangeAt Go.RowKit Go.Joins
open Go.ChangeMaps (open_string shut_string)
open Go.Ev (post_of_below)

theorem Tryz.ownplay : ownKnob Tryz.prog.godebug = none := by kernel_rfl
theorem Tryz.cellsplay : Tryz.prog.cellsOf 54 = 4 := by kernel_rfl
set_option maxRecDepth 100000 in
theorem play_lifted (os : Os) (started : os.Started) (H : Type) (enc : TypeId × Value → H) :
    ReturnsInHanded {} Tryz.checked os 4 .any (Rows.playNobodySpec.pre6 enc Tryz.prog Tryz.f4 Rows.playNobodyRow.domain false) (Rows.playNobodySpec.post enc Tryz.prog Tryz.f4 false true false false) := by
  refine returnsInHanded_of_change (C := Tryz.checked) Tryz.ownplay started (by kernel_rfl) Tryz.func4
    (ChangeSpec.witness6 (enc := enc) (C := Tryz.checked) false ⟨#[], #[.agg #[.int .i64 0, .int .i64 0, .int .i64 0, .string ByteArray.empty]], []⟩ 8 (by kernel_rfl) (by kernel_rfl) (by kernel_rfl) (by kernel_rfl)) ?_
  intro W base args ds gs before hval0 hW _ _
  have hval : ∀ (j : Nat) t v, Tryz.f4.params[j]? = some t → args[j]? = some v → Value.okWide Tryz.prog W .any base t v := hval0
  have hW' := hW
  obtain ⟨p, q, hA0, hV, rfl, _, _⟩ := hW
  have hA : DataW.TrodAll enc Tryz.prog W 0 (fun _ => true) true Tryz.f4.params.toList args.toList ds p := hA0
  rw [Tryz.params4] at hA hval
  obtain ⟨v0, d0, rfl, rfl, h0⟩ := trodAll_one hA
  obtain ⟨rfl, rfl⟩ := trodVars_none hV
  obtain ⟨c0, c1, c2, c3, y0, y1, y2, y3, m, rfl, rfl, rfl, hy0, hy1, hy2, hy3⟩ := open_agg4 Tryz.underlying54 (by kernel_rfl) Tryz.cellsplay (hval 0 54 v0 rfl rfl) h0
  obtain ⟨kind, e0, rfl, wa⟩ := DataW.trod_int Tryz.underlying3 hy0
  obtain ⟨a, e1, rfl, wb⟩ := DataW.trod_int Tryz.underlying3 hy1
  obtain ⟨n, e2, rfl, wc⟩ := DataW.trod_int Tryz.underlying3 hy2
  obtain ⟨s, e3, rfl, ws⟩ := DataW.trod_string Tryz.underlying9 hy3
  simp at e0 e1 e2 e3
  subst e0 e1 e2 e3
  clear hA0 hval0
  simp only [List.append_nil] at hW'
  refine (play_any kind a n s  W ).mono fun e W' ⟨he, hw⟩ => ?_
  subst he
  have structReads : ∀ (W' : World) (sp : Nat → Bool), DataW.Trod enc Tryz.prog W' 0 sp true 54 (.agg #[.int .i64 kind, .int .i64 a, .int .i64 n, .string s]) (.agg [.lit (.int .i64 kind), .lit (.int .i64 a), .lit (.int .i64 n), .lit (.string s.data.toList)]) [] := fun W' sp =>
    shut_agg4 (y0 := (.lit (.int .i64 kind), [])) (y1 := (.lit (.int .i64 a), [])) (y2 := (.lit (.int .i64 n), [])) (y3 := (.lit (.string s.data.toList), [])) Tryz.underlying54 (by kernel_rfl) Tryz.cellsplay
      ⟨1, by simp [DataW.trod, Tryz.underlying3, wa]⟩ ⟨1, by simp [DataW.trod, Tryz.underlying3, wb]⟩ ⟨1, by simp [DataW.trod, Tryz.underlying3, wc]⟩ ⟨1, by simp [DataW.trod, Tryz.underlying9, ws]⟩
  exact ⟨_, rfl, post_of_below (pa := []) (pv := []) hW' (fun _ _ _ => trodAll_mk1 (shut_bool Tryz.underlying4 true)) (fun sp _ => trodAll_mk1 (structReads _ sp)) (fun _ _ => rfl) rfl hw (ok_one (by kernel_rfl) rfl (okWide_bool_mk Tryz.underlying4 true))⟩

theorem play_holds : Rows.PlayNobodySaid :=
  OpenClaim.holds_of_wide 4 Tryz.f4 rfl rfl rfl rfl rfl rfl rfl ⟨rfl, rfl, rfl, rfl, rfl⟩ rfl rfl rfl rfl rfl play_func Tryz.func4 play_facts
    play_instance play_unwrapped (fun os started H enc _ => play_lifted os started H enc)
#print axioms play_holds
end Go.Proofs.YtpkohiiljpenmaaGreat
