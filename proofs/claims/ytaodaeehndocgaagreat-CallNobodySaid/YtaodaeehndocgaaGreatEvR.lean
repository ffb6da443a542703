/- The evaluator's soundness: communications of a machine of one. -/
import Derived.Test.YtaodaeehndocgaaGreatEvQ
import Derived.Conc.LoneSelect
set_option linter.unusedSimpArgs false
set_option linter.unusedVariables false
namespace Go.Ev
open Go.Conc

section
variable {P : Program} {fr : Frame} {cs : List Frame} {w w₁ : World} {es : Array Event} {c cap s r : Nat} {buf : Array Value} {z z' v : Value} {tm closed : Bool}
theorem step_sel_recv_buf (h : stepG P true (G fr cs) w = .comm (G fr cs) #[rcase c z] true .select w₁ es) (hc : w₁.heap[c]? = some (.chan cap buf closed s r tm)) (hsome : 0 < buf.size) :
    step P (solo (G fr cs) w) = .next (solo (G (fr.finish (.tuple #[goInt 0, .bool true, buf.getD 0 undef])) cs) (w₁.setChan c cap (buf.extract 1 buf.size) closed s (r + 1) tm)) := by
  have hp := partners_alone (c := c) true
  rw [step, stepT_solo rfl]
  simp [runT, solo, G, Array.swapAt!, Array.swapAt, h, GStep.es, communicate, ways, rcase, hc, hp, hsome, choose, Sem.run, Question.forced, bind, Sem.bind, pure, Goroutine.finishComm, commResult, World.setChan] at h ⊢
theorem step_sel_recv_shut (h : stepG P true (G fr cs) w = .comm (G fr cs) #[rcase c z] true .select w₁ es) (hc : w₁.heap[c]? = some (.chan cap #[] true s r tm)) :
    step P (solo (G fr cs) w) = .next (solo (G (fr.finish (.tuple #[goInt 0, .bool false, z])) cs) w₁) := by
  have hp := partners_alone (c := c) true
  rw [step, stepT_solo rfl]
  simp [runT, solo, G, Array.swapAt!, Array.swapAt, h, GStep.es, communicate, ways, rcase, hc, hp, choose, Sem.run, Question.forced, bind, Sem.bind, pure, Goroutine.finishComm, commResult] at h ⊢
end

section
variable {P : Program} {E : Env} {σ : Sg} {w : World} {h h' : H}

theorem apply_comm {cf : Frame} {cs : List Frame} {sm : Sem Next} {cases : Array CommCase} {bl : Bool} {shape : CommShape} {s : GStep} (hs : s = stepG.apply P true cf cs none sm w) (hr : sm.run P w = .ok (.comm cases bl shape) w) :
    ∃ es, s = .comm (G cf cs) cases bl shape w es := by
  subst hs
  simp only [stepG.apply, Sem.runT_eq, hr]
  exact ⟨_, rfl⟩

def CommTo (P : Program) (σ : Sg) (h : H) (w : World) (cf : Frame) (v : AV) (h' : H) : Prop :=
  ∃ w' x, conc σ v = some x ∧ HRel σ h' w'.heap ∧ Ext σ h w σ h' w' ∧ ∀ cs, Steps P (lone cf cs w) (lone (cf.finish x) cs w')

theorem chan_put (r : HRel σ h w.heap) {i b c : Nat} {cap : Nat} {buf : List AV} {cl : Bool} (hg : h.t.get i = some (.chan cap buf cl)) (hs : σ i = some (b, c)) {o : Obj} (hb : w.heap[b]? = some o) {buf' : List AV} {l : List Value} (hl : concL σ buf' = some l) (cl' : Bool) (s rc : Nat) :
    HRel σ ⟨h.next, T.set (some (.chan cap buf' cl')) h.t i⟩ (w.setChan b cap ⟨l⟩ cl' s rc false).heap ∧ Ext σ h w σ ⟨h.next, T.set (some (.chan cap buf' cl')) h.t i⟩ (w.setChan b cap ⟨l⟩ cl' s rc false) :=
  put_set r hg hs hb (.chan cap buf' cl') (.chan cap ⟨l⟩ cl' s rc false) ⟨rfl, hl, rfl, rfl⟩

theorem chanA_inv {c : AV} {i cap : Nat} {buf : List AV} {cl : Bool} (hc : chanA c h = some (i, cap, buf, cl)) : c = .chan (some i) ∧ h.t.get i = some (.chan cap buf cl) := by
  unfold chanA at hc
  split at hc
  · split at hc
    · rename_i hg; cases hc; exact ⟨rfl, hg⟩
    · cases hc
  · cases hc
/-- a channel, found -/
theorem chan_at (r : HRel σ h w.heap) {a : AV} {x : Value} (ha : conc σ a = some x) {i cap : Nat} {buf : List AV} {cl : Bool} (hc : chanA a h = some (i, cap, buf, cl)) :
    ∃ b c buf' s rc, σ i = some (b, c) ∧ x = .chan (some b) ∧ h.t.get i = some (.chan cap buf cl) ∧ w.heap[b]? = some (.chan cap ⟨buf'⟩ cl s rc false) ∧ concL σ buf = some buf' := by
  obtain ⟨rfl, hg⟩ := chanA_inv hc
  obtain ⟨b, c, s1, e1⟩ := conc_chan ha
  obtain ⟨b', c', x', h1, h2, h3⟩ := r.objs _ _ hg
  rw [s1] at h1; cases h1
  obtain ⟨⟨buf'⟩, s, rc, rfl, hbf⟩ := h3.inv_chan
  exact ⟨b, c, buf', s, rc, s1, e1, hg, h2, hbf⟩
theorem push_mk (l : List Value) (y : Value) : (⟨l⟩ : Array Value).push y = ⟨l ++ [y]⟩ := by simp
theorem extract_one (l : List Value) (y : Value) : (⟨y :: l⟩ : Array Value).extract 1 = ⟨l⟩ := by simp
theorem room_of {buf : List AV} {buf' : List Value} {cap : Nat} (hbf : concL σ buf = some buf') (hlt : Nat.blt buf.length cap = true) : (⟨buf'⟩ : Array Value).size < cap := by
  have := concL_length hbf
  have := blt_true.1 hlt
  simp at *; omega
theorem full_of {buf : List AV} {buf' : List Value} {cap : Nat} (hbf : concL σ buf = some buf') (hlt : Nat.blt buf.length cap = false) : cap ≤ (⟨buf'⟩ : Array Value).size := by
  have := concL_length hbf
  have : ¬ buf.length < cap := fun q => by rw [blt_true.2 q] at hlt; cases hlt
  simp at *; omega

theorem send_sound (r : HRel σ h w.heap) {a b : AV} {x y : Value} (ha : conc σ a = some x) (hb : conc σ b = some y) {v : AV} (hc : sendA a b h = some (v, h')) {cf : Frame} {sm : Sem Next}
    (hg : ∀ cs, stepG P true (G cf cs) w = stepG.apply P true cf cs none sm w) (hr : ∀ k, x = .chan (some k) → sm.run P w = .ok (.comm #[scase k y (.tuple #[])] true .send) w) : CommTo P σ h w cf v h' := by
  unfold sendA at hc
  split at hc
  · rename_i i cap buf cl hch
    obtain ⟨bk, c, buf', s, rc, s1, e1, hg1, h2, hbf⟩ := chan_at r ha hch
    cases cl with
    | true => cases hc
    | false =>
      simp only [cond_false] at hc
      cases hlt : Nat.blt buf.length cap with
      | false => rw [hlt] at hc; cases hc
      | true =>
        rw [hlt] at hc; simp only [cond_true, fL_eq, putO_eq] at hc; cases hc
        have hl : concL σ (buf ++ [b]) = some (buf' ++ [y]) := concL_append hbf (concL_one.2 hb)
        obtain ⟨g1, g2⟩ := chan_put r hg1 s1 h2 hl false (s + 1) rc
        refine ⟨_, undef, conc_undef σ, g1, g2, fun cs => .one ?_⟩
        obtain ⟨es, he⟩ := apply_comm (hg cs) (hr bk e1)
        have := step_lone_send_room he h2 (room_of hbf hlt)
        rw [push_mk] at this; exact this
  · cases hc

theorem recv_sound (hE : EnvOk P E) (r : HRel σ h w.heap) {t : TypeId} {ok : Bool} {a : AV} {x : Value} (ha : conc σ a = some x) {v : AV} (hc : recvA E t ok a h = some (v, h')) {cf : Frame} {sm : Sem Next}
    (hg : ∀ cs, stepG P true (G cf cs) w = stepG.apply P true cf cs none sm w)
    (hr : ∀ k ti dir e z, x = .chan (some k) → TOk P t ti → ti.desc = .chan dir e → (∀ w, (zeroValue e).run P w = .ok z w) → sm.run P w = .ok (.comm #[rcase k z] true (.recv ok)) w) : CommTo P σ h w cf v h' := by
  unfold recvA at hc
  cases hgt : E.ts.get t with
  | none => simp [hgt] at hc
  | some ti =>
    have ht := hE.ts _ _ hgt
    simp only [hgt] at hc
    split at hc
    · rename_i dir e hd
      cases hge : E.ts.get e with
      | none => simp [hge] at hc
      | some y =>
        obtain ⟨z, hz1, hz2⟩ := (hE.ts _ _ hge).zero
        simp only [hge] at hc
        split at hc
        · cases hc
        · rename_i i cap buf cl hch
          obtain ⟨bk, c, buf', s, rc, s1, e1, hg1, h2, hbf⟩ := chan_at r ha hch
          have hcases := hr bk ti dir e z e1 ht hd hz1
          cases buf with
          | cons u buf =>
            obtain ⟨x', l, q1, q2, q3⟩ := concL_cons.1 hbf
            subst q3
            simp only [putO_eq] at hc
            obtain ⟨g1, g2⟩ := chan_put r hg1 s1 h2 q2 cl s (rc + 1)
            refine ⟨w.setChan bk cap ⟨l⟩ cl s (rc + 1) false, got ok x' true, ?_, ?_, ?_, fun cs => .one ?_⟩
            rotate_left 3
            · obtain ⟨es, he⟩ := apply_comm (hg cs) hcases
              have := step_lone_recv_buf ok he h2 (by simp)
              rw [extract_one] at this; exact this
            all_goals cases ok <;> simp only [cond_true, cond_false] at hc <;> cases hc
            · simpa [got] using q1
            · simp [got, conc, concL, q1]
            · exact g1
            · exact g1
            · exact g2
            · exact g2
          | nil =>
            rw [concL_nil] at hbf
            subst hbf
            cases cl with
            | false => cases hc
            | true =>
              simp only [cond_true] at hc
              refine ⟨w, got ok z false, ?_, ?_, ?_, fun cs => .one ?_⟩
              rotate_left 3
              · obtain ⟨es, he⟩ := apply_comm (hg cs) hcases
                exact step_lone_recv_shut ok he h2
              all_goals cases ok <;> simp only [cond_true, cond_false] at hc <;> cases hc
              · simpa [got] using hz2 σ
              · simp [got, conc, concL, hz2]
              · exact r
              · exact r
              · exact Ext.refl _ _ _
              · exact Ext.refl _ _ _
    · cases hc

theorem selRecv_sound (hE : EnvOk P E) (r : HRel σ h w.heap) {e : TypeId} {bl : Bool} {a : AV} {x : Value} (ha : conc σ a = some x) {v : AV} (hc : selRecvA E bl e a h = some (v, h')) {cf : Frame} {sm : Sem Next}
    (hg : ∀ cs, stepG P true (G cf cs) w = stepG.apply P true cf cs none sm w)
    (hr : ∀ k z, x = .chan (some k) → (∀ w, (zeroValue e).run P w = .ok z w) → sm.run P w = .ok (.comm #[rcase k z] bl .select) w) : CommTo P σ h w cf v h' := by
  unfold selRecvA at hc
  cases hge : E.ts.get e with
  | none => simp [hge] at hc
  | some y =>
    obtain ⟨z, hz1, hz2⟩ := (hE.ts _ _ hge).zero
    simp only [hge] at hc
    split at hc
    · cases hc
    · rename_i i cap buf cl hch
      obtain ⟨bk, c, buf', s, rc, s1, e1, hg1, h2, hbf⟩ := chan_at r ha hch
      have hcases := hr bk z e1 hz1
      cases buf with
      | cons u buf =>
        obtain ⟨x', l, q1, q2, q3⟩ := concL_cons.1 hbf
        subst q3
        simp only [putO_eq] at hc; cases hc
        obtain ⟨g1, g2⟩ := chan_put r hg1 s1 h2 q2 cl s (rc + 1)
        refine ⟨_, .tuple #[goInt 0, .bool true, x'], by simp [conc, concL, q1, goInt], g1, g2, fun cs => .one ?_⟩
        obtain ⟨es, he⟩ := apply_comm (hg cs) hcases
        cases bl with
        | false =>
          have := step_lone_select_recv_buf he h2 (by simp)
          rw [extract_one] at this; exact this
        | true =>
          have := step_sel_recv_buf he h2 (by simp)
          rw [extract_one] at this; exact this
      | nil =>
        rw [concL_nil] at hbf
        subst hbf
        cases cl with
        | true =>
          simp only [cond_true] at hc; cases hc
          refine ⟨w, .tuple #[goInt 0, .bool false, z], by simp [conc, concL, hz2, goInt], r, Ext.refl _ _ _, fun cs => .one ?_⟩
          obtain ⟨es, he⟩ := apply_comm (hg cs) hcases
          cases bl with
          | false => exact step_lone_select_recv_shut he h2
          | true => exact step_sel_recv_shut he h2
        | false =>
          cases bl with
          | true => cases hc
          | false =>
            simp only [cond_false] at hc; cases hc
            refine ⟨w, .tuple #[goInt (-1), .bool false, z], by simp [conc, concL, hz2, goInt], r, Ext.refl _ _ _, fun cs => .one ?_⟩
            obtain ⟨es, he⟩ := apply_comm (hg cs) hcases
            exact step_lone_select_default he h2

theorem selSend_sound (hE : EnvOk P E) (r : HRel σ h w.heap) {e : TypeId} {a b : AV} {x u : Value} (ha : conc σ a = some x) (hb : conc σ b = some u) {v : AV} (hc : selSendA E e a b h = some (v, h')) {cf : Frame} {sm : Sem Next}
    (hg : ∀ cs, stepG P true (G cf cs) w = stepG.apply P true cf cs none sm w)
    (hr : ∀ k z, x = .chan (some k) → (∀ w, (zeroValue e).run P w = .ok z w) → sm.run P w = .ok (.comm #[scase k u z] false .select) w) : CommTo P σ h w cf v h' := by
  unfold selSendA at hc
  cases hge : E.ts.get e with
  | none => simp [hge] at hc
  | some y =>
    obtain ⟨z, hz1, hz2⟩ := (hE.ts _ _ hge).zero
    simp only [hge] at hc
    split at hc
    · cases hc
    · rename_i i cap buf cl hch
      obtain ⟨bk, c, buf', s, rc, s1, e1, hg1, h2, hbf⟩ := chan_at r ha hch
      have hcases := hr bk z e1 hz1
      cases cl with
      | true => cases hc
      | false =>
        simp only [cond_false] at hc
        cases hlt : Nat.blt buf.length cap with
        | false =>
          rw [hlt] at hc; simp only [cond_false] at hc; cases hc
          refine ⟨w, .tuple #[goInt (-1), .bool false], by simp [conc, concL, goInt], r, Ext.refl _ _ _, fun cs => .one ?_⟩
          obtain ⟨es, he⟩ := apply_comm (hg cs) hcases
          exact step_lone_select_send_full he h2 (full_of hbf hlt)
        | true =>
          rw [hlt] at hc; simp only [cond_true, fL_eq, putO_eq] at hc; cases hc
          have hl : concL σ (buf ++ [b]) = some (buf' ++ [u]) := concL_append hbf (concL_one.2 hb)
          obtain ⟨g1, g2⟩ := chan_put r hg1 s1 h2 hl false (s + 1) rc
          refine ⟨_, .tuple #[goInt 0, .bool false], by simp [conc, concL, goInt], g1, g2, fun cs => .one ?_⟩
          obtain ⟨es, he⟩ := apply_comm (hg cs) hcases
          have := step_lone_select_send_room he h2 (room_of hbf hlt)
          rw [push_mk] at this; exact this

theorem comm_sound (hE : EnvOk P E) (r : HRel σ h w.heap) {o : Oper} {ρ : Operand → Value} {vs : List AV} (hv : concL σ vs = some (o.op.operands.toList.map ρ)) {v : AV} (hc : commA E o.op vs h = some (v, h')) {cf : Frame}
    (hg : ∀ cs, stepG P true (G cf cs) w = stepG.apply P true cf cs none (execOp ρ o) w) : CommTo P σ h w cf v h' := by
  obtain ⟨dst, op, type, pos, after, guard⟩ := o
  simp only at hv hc
  cases op
  case send ch x =>
    obtain ⟨a, b, rfl, ha, hb⟩ := inv2 (by simpa [Op.operands] using hv)
    exact send_sound r ha hb hc hg (fun k e => by simp [execOp, scase, e])
  case recv t ch ok =>
    obtain ⟨a, rfl, ha⟩ := inv1 (by simpa [Op.operands] using hv)
    exact recv_sound hE r ha hc hg (fun k ti dir e z q1 q2 q3 q4 => by simp [execOp, rcase, q1, q2.run, q3, q4])
  case select cases bl =>
    obtain ⟨cases⟩ := cases
    simp only [commA, selA] at hc
    split at hc
    · rename_i c
      obtain ⟨cho, so, e⟩ := c
      cases so with
      | none =>
        obtain ⟨a, rfl, ha⟩ := inv1 (by simpa [Op.operands] using hv)
        exact selRecv_sound hE r ha hc hg (fun k z q1 q2 => by simp [execOp, rcase, q1, q2, Array.mapM_eq_mapM_toList])
      | some so =>
        obtain ⟨a, b, rfl, ha, hb⟩ := inv2 (by simpa [Op.operands] using hv)
        cases bl with
        | true => cases hc
        | false => exact selSend_sound hE r ha hb hc hg (fun k z q1 q2 => by simp [execOp, scase, q1, q2, Array.mapM_eq_mapM_toList])
    · cases hc
  all_goals (simp only [commA] at hc; cases hc)

end
end Go.Ev
