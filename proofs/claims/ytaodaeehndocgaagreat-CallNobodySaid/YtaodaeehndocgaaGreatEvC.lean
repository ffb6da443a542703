/- The evaluator's soundness: heaps. -/
import Derived.Test.YtaodaeehndocgaaGreatEvB
import Derived.Below
namespace Go.Ev
open Go.RowKit

/-- the slots of a frame -/
def TRel (σ : Sg) (nt : Nat) (tm : T AV) (tmps : Array Value) : Prop :=
  tmps.size = nt ∧ ∀ i, match tm.get i with
    | some v => i < nt ∧ ∃ x, tmps[i]? = some x ∧ conc σ v = some x
    | none => tmps.getD i undef = undef
theorem TRel.mono {σ σ' : Sg} (h : Sub σ σ') {nt : Nat} {tm : T AV} {tmps : Array Value} (r : TRel σ nt tm tmps) : TRel σ' nt tm tmps := by
  refine ⟨r.1, fun i => ?_⟩
  have := r.2 i
  split at this
  · obtain ⟨h1, x, h2, h3⟩ := this; exact ⟨h1, x, h2, conc_mono h _ _ h3⟩
  · exact this

def concE (σ : Sg) : List (AV × AV × Nat) → Option (List MapEntry)
  | [] => some []
  | e :: es => (match conc σ e.1, conc σ e.2.1, concE σ es with
    | some k, some v, some l => some ({ key := k, val := v, born := e.2.2 } :: l)
    | _, _, _ => none)
theorem concE_cons {σ : Sg} {e : AV × AV × Nat} {es : List (AV × AV × Nat)} {x : List MapEntry} : concE σ (e :: es) = some x ↔ ∃ k v l, conc σ e.1 = some k ∧ conc σ e.2.1 = some v ∧ concE σ es = some l ∧ x = { key := k, val := v, born := e.2.2 } :: l := by
  simp only [concE]
  constructor
  · intro h
    cases h1 : conc σ e.1 with
    | none => simp [h1] at h
    | some k =>
      cases h2 : conc σ e.2.1 with
      | none => simp [h1, h2] at h
      | some v =>
        cases h3 : concE σ es with
        | none => simp [h1, h2, h3] at h
        | some l => simp [h1, h2, h3] at h; exact ⟨k, v, l, rfl, rfl, rfl, h.symm⟩
  · rintro ⟨k, v, l, h1, h2, h3, rfl⟩; simp [h1, h2, h3]
theorem concE_mono {σ σ' : Sg} (h : Sub σ σ') : ∀ {es : List (AV × AV × Nat)} {x : List MapEntry}, concE σ es = some x → concE σ' es = some x
  | [], x, e => by simpa [concE] using e
  | e :: es, x, hx => by
    obtain ⟨k, v, l, h1, h2, h3, rfl⟩ := concE_cons.1 hx
    exact concE_cons.2 ⟨k, v, l, conc_mono h _ _ h1, conc_mono h _ _ h2, concE_mono h h3, rfl⟩

/-- how many cells a block has -/
def extOk (ext : Option Nat) (size c len : Nat) : Prop :=
  match ext with
  | none => size = len
  | some z => size = c * z

/-- an object and what lies in its block -/
def ORel (σ : Sg) (c : Nat) : AObj → Obj → Prop
  | .cells cs e ext wr, .cells cs' e' fz => ∃ l, concL σ cs = some l ∧ (∃ r, cs'.toList = l ++ r) ∧ e' = e ∧
      extOk ext cs'.size c cs.length ∧ (wr = true → ∀ o, o < cs'.size → ¬ (fz.1 ≤ o ∧ o < fz.2))
  | .map es clock, .map es' clock' => clock' = clock ∧ concE σ es = some es'.toList
  | .chan cap buf closed, .chan cap' buf' closed' _ _ timer => cap' = cap ∧ concL σ buf = some buf'.toList ∧ closed' = closed ∧ timer = false
  | .strIter s pos, .stringIter s' pos' => s' = ⟨⟨s⟩⟩ ∧ pos' = pos
  | .mapIter m since seen last, .mapIter m' since' seen' last' => conc σ (.map m) = some (.map m') ∧ since' = since ∧ seen'.toList = seen ∧ last' = last
  | .loop st pend fn nt tm ps a b d, .loop l => l.state = st ∧ l.pending = pend ∧ l.fn = fn ∧ TRel σ nt tm l.tmps ∧ l.params = ps ∧ l.assign = a ∧ l.body = b ∧ ∃ c, σ d = some (l.defers, c)
  | .deferred, .deferred calls => calls = some []
  | _, _ => False
theorem ORel.mono {σ σ' : Sg} (h : Sub σ σ') {c : Nat} {o : AObj} {x : Obj} (r : ORel σ c o x) : ORel σ' c o x := by
  cases o <;> cases x <;> simp only [ORel] at r ⊢ <;> try exact r
  · obtain ⟨l, h1, h2⟩ := r; exact ⟨l, concL_mono h _ _ h1, h2⟩
  · exact ⟨r.1, concE_mono h r.2⟩
  · exact ⟨r.1, concL_mono h _ _ r.2.1, r.2.2⟩
  · exact ⟨conc_mono h _ _ r.1, r.2⟩
  · obtain ⟨h1, h2, h3, h4, h5, h6, h7, c, h8⟩ := r; exact ⟨h1, h2, h3, h4.mono h, h5, h6, h7, c, h _ _ h8⟩

structure HRel (σ : Sg) (h : H) (hp : Array Obj) : Prop where
  fresh : ∀ i, h.next ≤ i → σ i = none
  objs : ∀ i o, h.t.get i = some o → ∃ b c x, σ i = some (b, c) ∧ hp[b]? = some x ∧ ORel σ c o x
  inj : ∀ i j o o' b c c', h.t.get i = some o → h.t.get j = some o' → σ i = some (b, c) → σ j = some (b, c') → i = j

structure Ext (σ : Sg) (h : H) (w : World) (σ' : Sg) (h' : H) (w' : World) : Prop where
  os : w'.os = w.os
  tape : w'.tape = w.tape
  output : w'.output = w.output
  size : w.heap.size ≤ w'.heap.size
  next : h.next ≤ h'.next
  old : ∀ i, i < h.next → σ' i = σ i
  keeps : ∀ b, b < w.heap.size → (∀ i o c, h.t.get i = some o → σ i = some (b, c) → False) → w'.heap[b]? = w.heap[b]?
  img : ∀ i o b c, h'.t.get i = some o → σ' i = some (b, c) → b < w.heap.size → ∃ i o c, h.t.get i = some o ∧ σ i = some (b, c)

theorem Ext.refl (σ : Sg) (h : H) (w : World) : Ext σ h w σ h w :=
  ⟨rfl, rfl, rfl, Nat.le_refl _, Nat.le_refl _, fun _ _ => rfl, fun _ _ _ => rfl, fun i o _ c hi hs _ => ⟨i, o, c, hi, hs⟩⟩
theorem Ext.trans {σ σ₁ σ₂ : Sg} {h h₁ h₂ : H} {w w₁ w₂ : World} (a : Ext σ h w σ₁ h₁ w₁) (b : Ext σ₁ h₁ w₁ σ₂ h₂ w₂) : Ext σ h w σ₂ h₂ w₂ where
  os := b.os.trans a.os
  tape := b.tape.trans a.tape
  output := b.output.trans a.output
  size := Nat.le_trans a.size b.size
  next := Nat.le_trans a.next b.next
  old i hi := (b.old i (Nat.lt_of_lt_of_le hi a.next)).trans (a.old i hi)
  keeps k hk hn := by
    rw [b.keeps k (Nat.lt_of_lt_of_le hk a.size), a.keeps k hk hn]
    intro i o c hi hs
    obtain ⟨i', o', c', h1, h2⟩ := a.img i o k c hi hs hk
    exact hn i' o' c' h1 h2
  img i o k c hi hs hk := by
    obtain ⟨i', o', c', h1, h2⟩ := b.img i o k c hi hs (Nat.lt_of_lt_of_le hk a.size)
    exact a.img i' o' k c' h1 h2 hk

theorem HRel.sub {σ σ' : Sg} {h : H} {hp : Array Obj} (r : HRel σ h hp) (hs : ∀ i, i < h.next → σ' i = σ i) : Sub σ σ' := by
  intro i p hi
  by_cases hlt : i < h.next
  · rw [hs i hlt]; exact hi
  · rw [r.fresh i (by omega)] at hi; cases hi
theorem Ext.sub {σ σ' : Sg} {h h' : H} {w w' : World} {hp : Array Obj} (a : Ext σ h w σ' h' w') (r : HRel σ h hp) : Sub σ σ' := r.sub a.old

def upd (σ : Sg) (i : Nat) (p : Nat × Nat) : Sg := fun j => if j = i then some p else σ j
theorem upd_self (σ : Sg) (i : Nat) (p : Nat × Nat) : upd σ i p i = some p := by simp [upd]
theorem upd_ne (σ : Sg) {i j : Nat} (p : Nat × Nat) (h : j ≠ i) : upd σ i p j = σ j := by simp [upd, h]
theorem sub_upd {σ : Sg} {i : Nat} (p : Nat × Nat) (h : σ i = none) : Sub σ (upd σ i p) := fun j q hq => by
  by_cases e : j = i
  · subst e; rw [h] at hq; cases hq
  · rw [upd_ne σ p e]; exact hq

theorem HRel.lt {σ : Sg} {h : H} {hp : Array Obj} (r : HRel σ h hp) {i : Nat} {o : AObj} (hi : h.t.get i = some o) : i < h.next := by
  obtain ⟨b, c, x, hs, _⟩ := r.objs i o hi
  rcases Nat.lt_or_ge i h.next with hl | hl
  · exact hl
  · rw [r.fresh i hl] at hs; cases hs

/-- a new block -/
theorem HRel.alloc {σ : Sg} {h : H} {w : World} (r : HRel σ h w.heap) (o : AObj) (x : Obj) (c : Nat) (hx : ORel (upd σ h.next (w.heap.size, c)) c o x) :
    HRel (upd σ h.next (w.heap.size, c)) ⟨h.next + 1, T.set (some o) h.t h.next⟩ (w.heap.push x) ∧
    ∀ w' : World, w'.os = w.os → w'.tape = w.tape → w'.output = w.output → w'.heap = w.heap.push x → Ext σ h w (upd σ h.next (w.heap.size, c)) ⟨h.next + 1, T.set (some o) h.t h.next⟩ w' := by
  have hsub : Sub σ (upd σ h.next (w.heap.size, c)) := sub_upd _ (r.fresh _ (Nat.le_refl _))
  have hlt : ∀ i b c' o', h.t.get i = some o' → σ i = some (b, c') → b < w.heap.size := fun i b c' o' hi hs => by
    obtain ⟨b', c'', x', h1, h2, _⟩ := r.objs i o' hi
    rw [hs] at h1; cases h1
    exact (Array.getElem?_eq_some_iff.1 h2).1
  refine ⟨⟨fun i hi => ?_, fun i o' hi => ?_, fun i j o₁ o₂ b c₁ c₂ hi hj hsi hsj => ?_⟩, fun w' h1 h2 h3 h4 => ⟨h1, h2, h3, ?_, by simp, fun i hi => ?_, fun b hb hn => ?_, fun i o' b c' hi hs hb => ?_⟩⟩
  · simp only at hi; rw [upd_ne σ _ (by omega)]; exact r.fresh i (by omega)
  · simp only [get_set] at hi
    by_cases e : i = h.next
    · subst e
      simp at hi; subst hi
      exact ⟨w.heap.size, c, x, upd_self _ _ _, by simp, hx⟩
    · simp [e] at hi
      obtain ⟨b, c', x', h1, h2, h3⟩ := r.objs i o' hi
      refine ⟨b, c', x', by rw [upd_ne σ _ e]; exact h1, ?_, h3.mono hsub⟩
      rw [Array.getElem?_push, if_neg (by have := hlt i b c' o' hi h1; omega)]; exact h2
  · simp only [get_set] at hi hj
    by_cases ei : i = h.next <;> by_cases ej : j = h.next
    · omega
    · subst ei; simp [ej] at hj
      rw [upd_self] at hsi; rw [upd_ne σ _ ej] at hsj; cases hsi
      have := hlt j _ c₂ o₂ hj hsj; omega
    · subst ej; simp [ei] at hi
      rw [upd_self] at hsj; rw [upd_ne σ _ ei] at hsi; cases hsj
      have := hlt i _ c₁ o₁ hi hsi; omega
    · simp [ei] at hi; simp [ej] at hj
      rw [upd_ne σ _ ei] at hsi; rw [upd_ne σ _ ej] at hsj
      exact r.inj i j o₁ o₂ b c₁ c₂ hi hj hsi hsj
  · rw [h4]; simp
  · rw [upd_ne σ _ (by omega)]
  · rw [h4, Array.getElem?_push, if_neg (by omega)]
  · simp only [get_set] at hi
    by_cases e : i = h.next
    · subst e; rw [upd_self] at hs; cases hs; omega
    · simp [e] at hi; rw [upd_ne σ _ e] at hs; exact ⟨i, o', c', hi, hs⟩

/-- a block written -/
theorem HRel.put {σ : Sg} {h : H} {w : World} (r : HRel σ h w.heap) {i b c : Nat} {o₀ : AObj} (hi : h.t.get i = some o₀) (hs : σ i = some (b, c)) (o : AObj) (x : Obj) (hx : ORel σ c o x)
    (w' : World) (hsz : w'.heap.size = w.heap.size) (hb : w'.heap[b]? = some x) (hk : ∀ k, k ≠ b → w'.heap[k]? = w.heap[k]?) :
    HRel σ ⟨h.next, T.set (some o) h.t i⟩ w'.heap ∧ (w'.os = w.os → w'.tape = w.tape → w'.output = w.output → Ext σ h w σ ⟨h.next, T.set (some o) h.t i⟩ w') := by
  have old : ∀ j o', (T.set (some o) h.t i).get j = some o' → ∃ o'', h.t.get j = some o'' := fun j o' hj => by
    rw [get_set] at hj
    by_cases e : j = i
    · subst e; exact ⟨o₀, hi⟩
    · simp [e] at hj; exact ⟨o', hj⟩
  refine ⟨⟨r.fresh, fun j o' hj => ?_, fun j k o₁ o₂ b' c₁ c₂ hj hk' hsj hsk => ?_⟩, fun h1 h2 h3 => ⟨h1, h2, h3, by omega, Nat.le_refl _, fun _ _ => rfl, fun k hk' hn => ?_, fun j o' k c' hj hsj hk' => ?_⟩⟩
  · simp only [get_set] at hj
    by_cases e : j = i
    · subst e; simp at hj; subst hj; exact ⟨b, c, x, hs, hb, hx⟩
    · simp [e] at hj
      obtain ⟨b', c', x', h1, h2, h3⟩ := r.objs j o' hj
      refine ⟨b', c', x', h1, ?_, h3⟩
      rw [hk b' (fun e' => e (by subst e'; exact r.inj j i o' o₀ b' c' c hj hi h1 hs))]; exact h2
  · obtain ⟨p, hp⟩ := old j o₁ hj
    obtain ⟨q, hq⟩ := old k o₂ hk'
    exact r.inj j k p q b' c₁ c₂ hp hq hsj hsk
  · exact hk k (fun e => by subst e; exact hn i o₀ c hi hs)
  · obtain ⟨p, hp⟩ := old j o' hj
    exact ⟨j, p, c', hp, hsj⟩

/-- fewer blocks known -/
theorem HRel.less {σ : Sg} {h : H} {hp : Array Obj} (r : HRel σ h hp) (t : T AObj) (ht : ∀ i o, t.get i = some o → h.t.get i = some o) : HRel σ ⟨h.next, t⟩ hp :=
  ⟨r.fresh, fun i o hi => r.objs i o (ht i o hi), fun i j o o' b c c' hi hj => r.inj i j o o' b c c' (ht i o hi) (ht j o' hj)⟩
theorem get_del {h : H} {i : Nat} : ∀ j o, (T.set none h.t i).get j = some o → h.t.get j = some o := fun j o hj => by
  rw [get_set] at hj
  by_cases e : j = i
  · subst e; simp at hj
  · simpa [e] using hj
theorem HRel.kill {σ : Sg} {h : H} {w : World} (r : HRel σ h w.heap) (i : Nat) : HRel σ ⟨h.next, T.set none h.t i⟩ w.heap ∧ Ext σ h w σ ⟨h.next, T.set none h.t i⟩ w :=
  ⟨r.less _ get_del, ⟨rfl, rfl, rfl, Nat.le_refl _, Nat.le_refl _, fun _ _ => rfl, fun _ _ _ => rfl, fun j o _ c hj hs _ => ⟨j, o, c, get_del j o hj, hs⟩⟩⟩

/-- a draw -/
theorem Ext.drew {σ σ' : Sg} {h h' : H} {w w' : World} (a : Ext σ h w σ' h' w') (n : Nat) : Ext σ h w σ' h' { w' with drawn := n } := ⟨a.os, a.tape, a.output, a.size, a.next, a.old, a.keeps, a.img⟩
theorem Ext.drew' {σ σ' : Sg} {h h' : H} {w w' : World} {n : Nat} (a : Ext σ h { w with drawn := n } σ' h' w') : Ext σ h w σ' h' w' := ⟨a.os, a.tape, a.output, a.size, a.next, a.old, a.keeps, a.img⟩

/-- what is left alone: all that lies below -/
theorem Ext.below {σ σ' : Sg} {n : Nat} {w w' : World} {h' : H} (a : Ext σ ⟨n, .nil⟩ w σ' h' w') : Below w.heap.size w w' :=
  ⟨a.os, a.tape, a.output, a.size, fun k hk => a.keeps k hk fun i o c hi _ => by simp [get_nil] at hi⟩

end Go.Ev
