/- Of no store each call tells that no call made it, and of what is no call of a store that it is none. For every call; no condition. -/
import Derived.Test.YtaodaeehndocgaaGreatLives
import Derived.Test.YtaodaeehndocgaaGreatNobodyFacts
import Derived.WalkKit
import Derived.WalkSpells
import Derived.ProofKit
import Derived.Lib.SmallJoins
namespace Go.Proofs.YtaodaeehndocgaaGreat
open Go.ChangeShapes Go.WideShapes Go.ChangeAt Go.RowKit Go.Joins

theorem bcell {W w1 : World} (hb : Below W.heap.size W w1) : (∀ b o, b < W.heap.size → w1.cell? ⟨b, o, none⟩ = W.cell? ⟨b, o, none⟩) ∧ (∀ b o, b < W.heap.size → w1.frozen? ⟨b, o, none⟩ = W.frozen? ⟨b, o, none⟩) :=
  ⟨fun b o h => hb.cell (p := ⟨b, o, none⟩) h, fun b o h => hb.frozen (p := ⟨b, o, none⟩) h⟩
/-- what 'call.Do' answers of no store -/
def Told (er : Int) (w : World) (e : Ending) (w' : World) : Prop := e = .returned (.agg #[.int .i64 er, .int .i64 0, .int .i64 0, .string ByteArray.empty]) ∧ Below w.heap.size w w'
set_option maxHeartbeats 400000 in
set_option maxRecDepth 100000 in
theorem do_below (kind a n : Int) (s : ByteArray) (w : World) (h : kind < 1) :
    Calls Tryz.prog 6 #[.pointer none, .agg #[.int .i64 kind, .int .i64 a, .int .i64 n, .string s]] w (Told 2 w) := by
  go_enter Tryz.func6, Tryz.ntmps6
  go_wp2
  exact bodyPost_ret (v := .agg #[.int .i64 2, .int .i64 0, .int .i64 0, .string ByteArray.empty]) (by simp [results, Tryz.results6, go_sem]; rfl) rfl
    ⟨rfl, ((Below.refl _ _).alloc (Nat.le_refl _) _).alloc (by simp) _⟩
set_option maxHeartbeats 400000 in
set_option maxRecDepth 100000 in
theorem do_above (kind a n : Int) (s : ByteArray) (w : World) (h : ¬ kind < 1) (h' : 16 < kind) :
    Calls Tryz.prog 6 #[.pointer none, .agg #[.int .i64 kind, .int .i64 a, .int .i64 n, .string s]] w (Told 2 w) := by
  go_enter Tryz.func6, Tryz.ntmps6
  go_wp2
  exact bodyPost_ret (v := .agg #[.int .i64 2, .int .i64 0, .int .i64 0, .string ByteArray.empty]) (by simp [results, Tryz.results6, go_sem]; rfl) rfl
    ⟨rfl, ((Below.refl _ _).alloc (Nat.le_refl _) _).alloc (by simp) _⟩
set_option maxHeartbeats 400000 in
set_option maxRecDepth 100000 in
theorem do_in (kind a n : Int) (s : ByteArray) (w : World) (h : ¬ kind < 1) (h' : ¬ 16 < kind) :
    Calls Tryz.prog 6 #[.pointer none, .agg #[.int .i64 kind, .int .i64 a, .int .i64 n, .string s]] w (Told 1 w) := by
  go_enter Tryz.func6, Tryz.ntmps6
  go_wp2
  exact bodyPost_ret (v := .agg #[.int .i64 1, .int .i64 0, .int .i64 0, .string ByteArray.empty]) (by simp [results, Tryz.results6, go_sem]; rfl) rfl
    ⟨rfl, ((Below.refl _ _).alloc (Nat.le_refl _) _).alloc (by simp) _⟩
set_option maxHeartbeats 400000 in
set_option maxRecDepth 100000 in
theorem nobody_below (kind a n : Int) (s : ByteArray) (w : World) (h : kind < 1) :
    Calls Tryz.prog 3 #[.agg #[.int .i64 kind, .int .i64 a, .int .i64 n, .string s]] w fun e w' => e = .returned (.bool true) ∧ Below w.heap.size w w' := by
  go_enter Tryz.func3, Tryz.ntmps3
  go_wp2_with fail
  refine (do_below kind a n s _ (by omega)).mono ?_
  rintro e w1 ⟨rfl, hb⟩
  obtain ⟨hc, hf⟩ := bcell hb
  have hz : w.heap.size < w1.heap.size := by have := hb.size; simp at this; omega
  go_wp2_with (go_at_call 7; refine (lives_any _).mono ?_; rintro e w2 ⟨rfl, hb2⟩)
  go_ret
  exact ⟨by first | rfl | simp, ((((Below.refl _ _).alloc (Nat.le_refl _) _).trans (hb.mono (by simp))).alloc (by omega) _).trans (hb2.mono (by simp; omega))⟩
set_option maxHeartbeats 400000 in
set_option maxRecDepth 100000 in
theorem nobody_above (kind a n : Int) (s : ByteArray) (w : World) (h : ¬ kind < 1) (h' : 16 < kind) :
    Calls Tryz.prog 3 #[.agg #[.int .i64 kind, .int .i64 a, .int .i64 n, .string s]] w fun e w' => e = .returned (.bool true) ∧ Below w.heap.size w w' := by
  go_enter Tryz.func3, Tryz.ntmps3
  go_wp2_with fail
  refine (do_above kind a n s _ (by omega) (by omega)).mono ?_
  rintro e w1 ⟨rfl, hb⟩
  obtain ⟨hc, hf⟩ := bcell hb
  have hz : w.heap.size < w1.heap.size := by have := hb.size; simp at this; omega
  go_wp2_with (go_at_call 7; refine (lives_any _).mono ?_; rintro e w2 ⟨rfl, hb2⟩)
  go_ret
  exact ⟨by first | rfl | simp, ((((Below.refl _ _).alloc (Nat.le_refl _) _).trans (hb.mono (by simp))).alloc (by omega) _).trans (hb2.mono (by simp; omega))⟩
set_option maxHeartbeats 400000 in
set_option maxRecDepth 100000 in
theorem nobody_in (kind a n : Int) (s : ByteArray) (w : World) (h : ¬ kind < 1) (h' : ¬ 16 < kind) :
    Calls Tryz.prog 3 #[.agg #[.int .i64 kind, .int .i64 a, .int .i64 n, .string s]] w fun e w' => e = .returned (.bool true) ∧ Below w.heap.size w w' := by
  go_enter Tryz.func3, Tryz.ntmps3
  go_wp2_with fail
  refine (do_in kind a n s _ (by omega) (by omega)).mono ?_
  rintro e w1 ⟨rfl, hb⟩
  obtain ⟨hc, hf⟩ := bcell hb
  have hz : w.heap.size < w1.heap.size := by have := hb.size; simp at this; omega
  go_wp2_with (go_at_call 7; refine (lives_any _).mono ?_; rintro e w2 ⟨rfl, hb2⟩)
  go_ret
  exact ⟨by first | rfl | simp, ((((Below.refl _ _).alloc (Nat.le_refl _) _).trans (hb.mono (by simp))).alloc (by omega) _).trans (hb2.mono (by simp; omega))⟩

theorem nobody_any (kind a n : Int) (s : ByteArray) (w : World) :
    Calls Tryz.prog 3 #[.agg #[.int .i64 kind, .int .i64 a, .int .i64 n, .string s]] w fun e w' => e = .returned (.bool true) ∧ Below w.heap.size w w' := by
  by_cases h : kind < 1
  · exact nobody_below kind a n s w h
  · by_cases h' : 16 < kind
    · exact nobody_above kind a n s w h h'
    · exact nobody_in kind a n s w h h'

section
variable {H : Type} {enc : TypeId × Value → H} {P : Program}
theorem post_of_below {f : Func} {s : ChangeSpec} {apart fresh handsOn again : Bool} {W W' : World} {args : Array Value} {v : Value} {ds gs : List (DataW H)} {before pa pv : List MemPlace}
    (hW : DataW.Whole enc P f.params.toList s.vars apart W args.toList ds gs before)
    (hres : ∀ (b : Nat) (sp : Nat → Bool) (hd : Bool), DataW.TrodAll enc P W' b sp hd f.resultTypes.toList (v.resultList f.resultTypes.size) (s.fn H (ds ++ gs)).results [])
    (hargs : ∀ sp : Nat → Bool, (∀ p ∈ before, sp p.block = true) → DataW.TrodAll enc P W' 0 sp true f.params.toList args.toList (s.fn H (ds ++ gs)).args pa)
    (hvars : ∀ sp : Nat → Bool, (∀ p ∈ before, sp p.block = true) → DataW.TrodVars enc P W' sp s.vars (s.fn H (ds ++ gs)).vars pv)
    (hps : before = pa ++ pv) (hb : Below W.heap.size W W')
    (hok : ∀ (j : Nat) (t : TypeId) (r : Value), f.resultTypes[j]? = some t → (v.resultList f.resultTypes.size)[j]? = some r → Value.okWide P W' .any 0 t r) :
    s.post enc P f apart fresh handsOn again W args v W' := by
  have hlt : ∀ p ∈ before, p.block < W.heap.size := fun p hp => hW.lt p hp
  have hold : ∀ p ∈ before, (fun b => decide (b < W.heap.size)) p.block = true := fun p hp => by simpa using hlt p hp
  refine ⟨ds, gs, before, [], pa, pv, hW, hres _ _ _, hargs _ hold, hvars _ hold, World.keptBut_mono (fun p hp => ⟨hp, ?_⟩) (hb.frame (· ∈ before)), fun _ => ?_⟩
  · rw [hps, List.mem_append] at hp
    exact Or.inr hp
  · obtain ⟨_, _, _, _, _, hz, hn⟩ := hW
    refine ⟨hok, _, _, ([] ++ pa) ++ pv, ⟨[] ++ pa, pv, trodAll_append (hargs _ (fun _ _ => rfl)) (hres _ _ _), hvars _ (fun _ _ => rfl), rfl, ?_, ?_⟩, ?_⟩
    · intro b off hp
      have hin : MemPlace.cell b off ∈ before := by rw [hps]; simpa using hp
      rw [hb.frozen (hlt _ hin)]
      exact hz b off hin
    · intro ha
      have := hn ha
      rw [hps] at this
      simpa using this
    · intro p hp _
      rw [hps]
      simpa using hp
end

theorem Tryz.own : ownKnob Tryz.prog.godebug = none := by kernel_rfl
theorem Tryz.cells3 : Tryz.prog.cellsOf 3 = 1 := by kernel_rfl
theorem Tryz.cells9 : Tryz.prog.cellsOf 9 = 1 := by kernel_rfl
theorem Tryz.cells23 : Tryz.prog.cellsOf 23 = 4 := by kernel_rfl
set_option maxRecDepth 100000 in
theorem nobody_lifted (os : Os) (started : os.Started) (H : Type) (enc : TypeId × Value → H) :
    ReturnsInHanded {} Tryz.checked os 3 .any (Rows.callNobodySpec.pre6 enc Tryz.prog Tryz.f3 Rows.callNobodyRow.domain false) (Rows.callNobodySpec.post enc Tryz.prog Tryz.f3 false true false false) := by
  refine returnsInHanded_of_change (C := Tryz.checked) Tryz.own started (by kernel_rfl) Tryz.func3
    (ChangeSpec.witness6 (enc := enc) (C := Tryz.checked) false ⟨#[], #[.agg #[.int .i64 0, .int .i64 0, .int .i64 0, .string ByteArray.empty]], []⟩ 8 (by kernel_rfl) (by kernel_rfl) (by kernel_rfl) (by kernel_rfl)) ?_
  intro W base args ds gs before hval0 hW _ _
  have hval : ∀ (j : Nat) t v, Tryz.f3.params[j]? = some t → args[j]? = some v → Value.okWide Tryz.prog W .any base t v := hval0
  have hW' := hW
  obtain ⟨p, q, hA0, hV, rfl, _, _⟩ := hW
  have hA : DataW.TrodAll enc Tryz.prog W 0 (fun _ => true) true Tryz.f3.params.toList args.toList ds p := hA0
  rw [Tryz.params3] at hA hval
  obtain ⟨v0, d0, rfl, rfl, h0⟩ := trodAll_one hA
  obtain ⟨rfl, rfl⟩ := trodVars_none hV
  obtain ⟨c0, c1, c2, c3, y0, y1, y2, y3, m, rfl, rfl, rfl, hy0, hy1, hy2, hy3⟩ := open_agg4 Tryz.underlying23 (by kernel_rfl) Tryz.cells23 (hval 0 23 v0 rfl rfl) h0
  obtain ⟨kind, e0, rfl, wa⟩ := DataW.trod_int Tryz.underlying3 hy0
  obtain ⟨a, e1, rfl, wb⟩ := DataW.trod_int Tryz.underlying3 hy1
  obtain ⟨n, e2, rfl, wc⟩ := DataW.trod_int Tryz.underlying3 hy2
  obtain ⟨s, e3, rfl, ws⟩ := DataW.trod_string Tryz.underlying9 hy3
  simp at e0 e1 e2 e3
  subst e0 e1 e2 e3
  clear hA0 hval0
  simp only [List.append_nil] at hW'
  refine (nobody_any kind a n s W).mono fun e W' ⟨he, hw⟩ => ?_
  subst he
  have structReads : ∀ (W' : World) (sp : Nat → Bool), DataW.Trod enc Tryz.prog W' 0 sp true 23 (.agg #[.int .i64 kind, .int .i64 a, .int .i64 n, .string s]) (.agg [.lit (.int .i64 kind), .lit (.int .i64 a), .lit (.int .i64 n), .lit (.string s.data.toList)]) [] := fun W' sp =>
    shut_agg4 (y0 := (.lit (.int .i64 kind), [])) (y1 := (.lit (.int .i64 a), [])) (y2 := (.lit (.int .i64 n), [])) (y3 := (.lit (.string s.data.toList), [])) Tryz.underlying23 (by kernel_rfl) Tryz.cells23
      ⟨1, by simp [DataW.trod, Tryz.underlying3, wa]⟩ ⟨1, by simp [DataW.trod, Tryz.underlying3, wb]⟩ ⟨1, by simp [DataW.trod, Tryz.underlying3, wc]⟩ ⟨1, by simp [DataW.trod, Tryz.underlying9, ws]⟩
  exact ⟨_, rfl, post_of_below (pa := []) (pv := []) hW' (fun _ _ _ => trodAll_mk1 (shut_bool Tryz.underlying4 true)) (fun sp _ => trodAll_mk1 (structReads _ sp)) (fun _ _ => rfl) rfl hw (ok_one (by kernel_rfl) rfl (okWide_bool_mk Tryz.underlying4 true))⟩

theorem callNobody_holds : Rows.CallNobodySaid :=
  OpenClaim.holds_of_wide 3 Tryz.f3 rfl rfl rfl rfl rfl rfl rfl ⟨rfl, rfl, rfl, rfl, rfl⟩ rfl rfl rfl rfl rfl nobody_func Tryz.func3 nobody_facts
    nobody_instance nobody_unwrapped (fun os started H enc _ => nobody_lifted os started H enc)
#print axioms callNobody_holds
end Go.Proofs.YtaodaeehndocgaaGreat
