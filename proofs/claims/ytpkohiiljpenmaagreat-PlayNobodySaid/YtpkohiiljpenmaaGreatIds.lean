/- What the numbers are that a folder still has. -/
import Derived.Test.YtpkohiiljpenmaaGreatProg
import Derived.WalkKit
import Derived.Maps.RangeWalk
import Derived.Maps.OwnSet
import Derived.Deep.QuietTactic
import Derived.BigQuiet
import Derived.Lib.Hide
import Derived.Test.YtpkohiiljpenmaaGreatEvMemo
import Derived.Test.YtpkohiiljpenmaaGreatShelf
namespace Go.Proofs.YtpkohiiljpenmaaGreat
open Go.RowKit Go.Maps Go.Sort Go.Shelf

/-- slices.Sort's two contracts -/
theorem sortsZ (m : Nat) : Go.Proofs.AnyZI.SortsIn Tryz.prog Go.Proofs.Tryz.sortedA_ren Fence.wide m :=
  ⟨fun blk off cap ss W hH hblk hsz => callsIn_wide.2 (Go.Proofs.AnyM.slices_Sort_int Go.Proofs.Tryz.sortA blk off cap ss W hH hblk hsz),
   fun p cap W => callsIn_wide.2 (Go.Proofs.AnyM.slices_Sort_int_none Go.Proofs.Tryz.sortA p cap W)⟩
theorem sortsS (m : Nat) : Go.Proofs.AnyZ.SortsIn Tryz.prog Go.Proofs.Tryz.sortedB_ren Fence.wide m :=
  ⟨fun blk off cap ss W hH hblk hsz => callsIn_wide.2 (Go.Proofs.AnyM.slices_Sort_string Go.Proofs.Tryz.sortB blk off cap ss W hH hblk hsz),
   fun p cap W => callsIn_wide.2 (Go.Proofs.AnyM.slices_Sort_string_none Go.Proofs.Tryz.sortB p cap W)⟩
theorem keysZ_any (mb : Option Nat) (W : World) : Calls Tryz.prog 210 #[.map mb] W fun e w' => e = .returned (.func (.func 308) #[] #[.pointer (some ⟨W.heap.size, 0, none⟩)]) ∧ w' = W.alloc (.cells #[.map mb] 275) :=
  callsIn_wide.1 (Go.Proofs.AnyZI.keys_in Go.Proofs.Tryz.keysA Fence.wide 5 trivial rfl mb W)
theorem keysS_any (mb : Option Nat) (W : World) : Calls Tryz.prog 321 #[.map mb] W fun e w' => e = .returned (.func (.func 367) #[] #[.pointer (some ⟨W.heap.size, 0, none⟩)]) ∧ w' = W.alloc (.cells #[.map mb] 267) :=
  callsIn_wide.1 (Go.Proofs.AnyZ.keys_in Go.Proofs.Tryz.keysB Fence.wide 5 trivial rfl mb W)
theorem sortedZ_any : Go.Ev.SortedZ Tryz.prog 209 308 3 3 := by
  intro R Bm b nn D0 w hB hm hown hmax hbytes
  have hseq : SeqGives Fence.wide 2 Tryz.prog 308 #[.pointer (some ⟨Bm, 0, none⟩)] encZ (fun ss => ss.Perm (intKeys D0)) (Maps.size D0) w :=
    Go.Proofs.AnyZI.keys_gives (ρ := Go.Proofs.Tryz.keysA_ren) { Go.Proofs.Tryz.keysA with } Fence.wide _ trivial rfl (by omega) Bm b nn D0 w hB hm hown
  have cS := Go.Proofs.AnyZI.sorted_in Go.Proofs.Tryz.sortedA Fence.wide 5 trivial trivial trivial trivial rfl (by omega) (sortsZ _) (enters_of Tryz.func307 (by kernel_rfl) rfl) 308 #[.pointer (some ⟨Bm, 0, none⟩)] trivial (enters_of Tryz.func308 (by kernel_rfl) rfl) _ _ hmax hbytes _ hseq
  exact callsIn_wide.1 cS
theorem sortedS_any : Go.Ev.SortedS Tryz.prog 320 367 9 9 := by
  intro R Bm b nn D0 w hB hm hown hmax hbytes
  have hseq : SeqGives Fence.wide 2 Tryz.prog 367 #[.pointer (some ⟨Bm, 0, none⟩)] Go.Proofs.encStr (fun ss => ss.Perm (strKeys D0)) (Maps.size D0) w :=
    Go.Proofs.AnyZ.keys_gives (ρ := Go.Proofs.Tryz.keysB_ren) { Go.Proofs.Tryz.keysB with } Fence.wide _ trivial rfl (by omega) Bm b nn D0 w hB hm hown
  have cS := Go.Proofs.AnyZ.sorted_in Go.Proofs.Tryz.sortedB Fence.wide 5 trivial trivial trivial trivial rfl (by omega) (sortsS _) (enters_of Tryz.func300 (by kernel_rfl) rfl) 367 #[.pointer (some ⟨Bm, 0, none⟩)] trivial (enters_of Tryz.func367 (by kernel_rfl) rfl) _ _ hmax hbytes _ hseq
  exact callsIn_wide.1 cS

theorem folder_made (B o : Nat) (w : World) (h3 : w.cell? ⟨B, o + 3, none⟩ = some (.bool true)) :
    Calls Tryz.prog 208 #[.pointer (some ⟨B, o, none⟩)] w fun e w' => e = .returned (.bool false) ∧ w = w' := by
  go_enter Tryz.func208, Tryz.ntmps208
  go_wp2
  go_ret
  exact ⟨rfl, rfl⟩

theorem law9 : Keyed Tryz.prog 9 := string_keyed Tryz.underlying9
theorem law3 : Keyed Tryz.prog 3 := int_keyed Tryz.underlying3
theorem zero3 (w : World) : (zeroValue 3).run Tryz.prog w = .ok (.int .i64 0) w := by kernel_rfl

/-- the set has the numbers of the names that have come -/
def Got (D S : DataW Unit) (left : Lit → Bool) : Prop :=
  ∀ x : Int, has S (.int .i64 x) = true ↔ ∃ kl, left kl = false ∧ ∀ zd, D.atKey kl zd = .lit (.int .i64 x)
theorem Got.start (D : DataW Unit) : Got D (.map []) (has D) := fun x => by
  constructor
  · intro h; cases h
  · rintro ⟨kl, h1, h2⟩
    rw [has_true_of_atKey h2] at h1; cases h1
theorem Got.step {D S : DataW Unit} {left : Lit → Bool} {kl : Lit} {c : Int} {d : DataW Unit} (h : Got D S left) (hS : IsMap S) (hk : WideAt.IsKeyLit kl) (hat : ∀ zd, D.atKey kl zd = .lit (.int .i64 c)) :
    Got D (S.put (.int .i64 c) d) (fun z => left z && !z.sameKey kl) := fun x => by
  by_cases hx : x = c
  · subst hx
    rw [has_put_same hS (k := .int .i64 x) trivial]
    exact ⟨fun _ => ⟨kl, by simp [WideAt.sameKey_self hk], hat⟩, fun _ => rfl⟩
  · rw [has_put_other (by simpa using hx), h x]
    constructor
    · rintro ⟨k', h1, h2⟩; exact ⟨k', by simp [h1], h2⟩
    · rintro ⟨k', h1, h2⟩
      refine ⟨k', ?_, h2⟩
      cases hl : left k' with
      | false => rfl
      | true =>
        have hs : k'.sameKey kl = true := by simpa [hl] using h1
        have := WideAt.sameKey_eq hs
        subst this
        have e := (h2 .nil).symm.trans (hat .nil)
        simp at e
        exact absurd e hx

/-- .. and of the first k changes that wait -/
def Has2 (D : DataW Unit) (pu : Nat → Bool) (id : Nat → Int) (k : Nat) (S : DataW Unit) : Prop :=
  ∀ x : Int, has S (.int .i64 x) = true ↔ (∃ kl, ∀ zd, D.atKey kl zd = .lit (.int .i64 x)) ∨ ∃ j, j < k ∧ pu j = true ∧ id j = x
theorem Has2.start {D S : DataW Unit} {left : Lit → Bool} {pu : Nat → Bool} {id : Nat → Int} (h : Got D S left) (hl : ∀ kl, left kl = false) : Has2 D pu id 0 S := fun x => by
  rw [h x]
  constructor
  · rintro ⟨kl, _, h2⟩; exact .inl ⟨kl, h2⟩
  · rintro (⟨kl, h2⟩ | ⟨j, hj, _⟩)
    · exact ⟨kl, hl kl, h2⟩
    · omega
theorem Has2.skip {D S : DataW Unit} {pu : Nat → Bool} {id : Nat → Int} {k : Nat} (h : Has2 D pu id k S) (hp : pu k = false) : Has2 D pu id (k + 1) S := fun x => by
  rw [h x]
  constructor
  · rintro (q | ⟨j, hj, q⟩)
    · exact .inl q
    · exact .inr ⟨j, by omega, q⟩
  · rintro (q | ⟨j, hj, q1, q2⟩)
    · exact .inl q
    · refine .inr ⟨j, ?_, q1, q2⟩
      by_cases e : j = k
      · subst e; rw [hp] at q1; cases q1
      · omega
theorem Has2.put {D S : DataW Unit} {pu : Nat → Bool} {id : Nat → Int} {k : Nat} {d : DataW Unit} (h : Has2 D pu id k S) (hS : IsMap S) (hp : pu k = true) : Has2 D pu id (k + 1) (S.put (.int .i64 (id k)) d) := fun x => by
  by_cases hx : x = id k
  · subst hx
    rw [has_put_same hS (k := .int .i64 (id k)) trivial]
    exact ⟨fun _ => .inr ⟨k, by omega, hp, rfl⟩, fun _ => rfl⟩
  · rw [has_put_other (by simpa using hx), h x]
    constructor
    · rintro (q | ⟨j, hj, q⟩)
      · exact .inl q
      · exact .inr ⟨j, by omega, q⟩
    · rintro (q | ⟨j, hj, q1, q2⟩)
      · exact .inl q
      · refine .inr ⟨j, ?_, q1, q2⟩
        by_cases e : j = k
        · subst e; exact absurd q2.symm hx
        · omega

theorem intKeys_of {P : Program} {k : TypeId} {R : Value → Option (DataW Unit × List MemPlace)} {w : World} {b n : Nat} {S : DataW Unit} (h : w.ownsMap P k R b n S) (K : Keyed P k) (hk : P.underlying k = some (.int .i64)) :
    (intKeys S).Nodup ∧ ∀ x, x ∈ intKeys S ↔ has S (.int .i64 x) = true := by
  obtain ⟨es, rfl, hp, _⟩ := h.entries K
  obtain ⟨es', hD', hko⟩ := h.keysOf
  obtain rfl : es = es' := by simpa using hD'
  have hk' : ∀ p ∈ es, ∃ x, p.1 = .int .i64 x := fun p hp => by
    obtain ⟨v, hv⟩ := hko p hp
    obtain ⟨x, _, hx, _⟩ := Maps.keyOf_i64 hk hv
    exact ⟨x, hx⟩
  constructor
  · show (es.map fun p => Go.intOf p.1).Nodup
    refine List.pairwise_map.2 (hp.imp_of_mem fun {p q} hp' hq' hne e => hne ?_)
    obtain ⟨a, ha⟩ := hk' p hp'
    obtain ⟨b, hb⟩ := hk' q hq'
    rw [ha, hb] at e ⊢
    exact congrArg _ e
  · intro x
    show x ∈ (es.map fun p => Go.intOf p.1) ↔ _
    rw [has_eq, List.any_eq_true, List.mem_map]
    constructor
    · rintro ⟨p, hp', rfl⟩
      obtain ⟨a, ha⟩ := hk' p hp'
      exact ⟨p, hp', by rw [ha]; simp [Lit.sameKey, Go.intOf]⟩
    · rintro ⟨p, hp', hs⟩
      obtain ⟨a, ha⟩ := hk' p hp'
      rw [ha] at hs
      exact ⟨p, hp', by rw [ha]; simpa [Lit.sameKey, Go.intOf] using hs⟩

set_option maxRecDepth 100000 in
set_option maxHeartbeats 1000000 in
theorem ids_any : Go.Ev.IdsC Tryz.prog 122 9 3 3 := by
  intro B o b nn wb wo wn wc wa D dr pu go co id w h0 h2 h3 hown hnn hwn hB hwb hwa hc
  have hmm := @run_makeMap Tryz.prog
  go_enter Tryz.func122, Tryz.ntmps122
  go_wp2_with (first
    | (go_at_call 208; refine (folder_made _ _ _ h3).mono ?_; rintro e w' ⟨rfl, rfl⟩)
    | (at_range; refine wpList_range_own _ rfl _ 267 rfl 9 3 law9 Tryz.underlying267 _ b nn _ rfl (hown.alloc _) ?_; intro w0 hrg0 hg0 hs0)
    | go_in)
  have hz : (w.alloc (Obj.map #[] 0)).heap.size = w.heap.size + 1 := by simp
  rw [hz] at hrg0
  go_frame
  simp only [hz]
  go_loopw [5] (fun _ wr => ∃ (left : Lit → Bool) (cnt m : Nat) (S : DataW Unit), wr.ranges Tryz.prog 9 (plainElem Tryz.prog 3) b (w.heap.size + 1) nn D left cnt ∧ wr.ownsMap Tryz.prog 3 (plainElem Tryz.prog 3) w.heap.size m S ∧ IsMap S ∧ Got D S left ∧ m + cnt ≤ nn ∧ Below w.heap.size w wr)
    (fun _ wr => wr.rangeLeft b (w.heap.size + 1))
  case atStart =>
    exact ⟨_, _, 0, .map [], hrg0, (World.ownsMap_made w _ _ _).kept hg0 (by simp), ⟨_, rfl⟩, Got.start D, by have := hown.size_le; omega, ((Below.refl _ _).alloc (Nat.le_refl _) _).grown hg0 (by simp) (fun j hj => by cases hj)⟩
  case round =>
    obtain ⟨left, cnt, m, S, hrg, hown1, hS, hG, hmc, hbl⟩ := hrel
    go_wp2_with (first
      | (at_next; refine wpList_next_ranges _ rfl _ rfl 9 law9 (plainElem Tryz.prog 3) Go.Proofs.encStr (Value.int .i64) (fun key kl hk => by obtain ⟨x, hx, _⟩ := Maps.keyOf_str Tryz.underlying9 hk; exact ⟨x, hx⟩) (fun v y hv => by obtain ⟨c, rfl, _⟩ := plainElem_int_inv Tryz.underlying3 hv; exact ⟨c, rfl⟩) b (w.heap.size + 1) nn _ _ _ rfl hrg ?_ ?_)
      | go_in)
    · intro hc0 hl0
      have h2r := (hbl.cell (p := ⟨B, o + 2, none⟩) hB).trans h2
      clear hrg
      go_wp2
      go_loopw [29] (fun i wr => ∃ (k m : Nat) (S : DataW Unit), k ≤ wn ∧ i = .int .i64 k ∧ wr.ownsMap Tryz.prog 3 (plainElem Tryz.prog 3) w.heap.size m S ∧ IsMap S ∧ Has2 D pu id k S ∧ m ≤ nn + k ∧ Below w.heap.size w wr)
        (fun i _ => wn - (RowKit.intOf i).toNat)
      case atStart => exact ⟨0, m, S, Nat.zero_le _, rfl, hown1, hS, Has2.start hG hl0, by omega, hbl⟩
      case round =>
        obtain ⟨k, m2, S2, hk, rfl, hown2, hS2, hH, hm2, hbl2⟩ := hrel
        by_cases hlt : k < wn
        · obtain rfl := hwa (by omega)
          obtain ⟨d0, d1, d2, d3, d4, d5⟩ := hc k hlt
          have e0 := (hbl2.cell (p := ⟨wb, wo + k * 5, none⟩) (hwb (by omega))).trans d0
          have e1 := (hbl2.cell (p := ⟨wb, wo + k * 5 + 1, none⟩) (hwb (by omega))).trans d1
          have e2 := (hbl2.cell (p := ⟨wb, wo + k * 5 + 2, none⟩) (hwb (by omega))).trans d2
          have e3 := (hbl2.cell (p := ⟨wb, wo + k * 5 + 3, none⟩) (hwb (by omega))).trans d3
          have e4 := (hbl2.cell (p := ⟨wb, wo + k * 5 + 4, none⟩) (hwb (by omega))).trans d4
          clear hc d0 d1 d2 d3 d4
          cases hp : pu k with
          | false =>
            have hH1 := hH.skip hp
            rw [hp] at e2
            clear hp
            go_wp2
            go_roundw
            case rel => exact ⟨k + 1, m2, S2, by omega, by go_num, hown2.alloc _, hS2, hH1, by omega, hbl2.alloc hbl2.size _⟩
            case measure => simp [RowKit.intOf]; omega
          | true =>
            rw [hp] at e2
            have HP : Hid (pu k = true) := Lib.hid hp
            clear hp
            go_wp2_with (first
              | (at_lookup; refine wpList_lookup_own_int _ rfl _ _ 275 rfl 3 3 .i64 law3 Tryz.underlying275 Tryz.underlying3 (zero3 _) w.heap.size m2 _ rfl (hown2.alloc _) _ _ rfl (keyOf_int_mk Tryz.underlying3 d5) ?_; intro c2 hat2 hwc2)
              | (at_mapUpdate; refine wpList_mapUpdate_own _ rfl _ _ _ 275 rfl 3 3 law3 Tryz.underlying275 _ w.heap.size m2 _ rfl (hown2.alloc _) (by unfold maxLen; omega) _ _ _ rfl rfl (keyOf_int_mk Tryz.underlying3 d5) _ [] (plainElem_int Tryz.underlying3 (wrap64_wf _)) ?_; intro w3 hown3 hgrow3)
              | go_in)
            go_roundw
            case rel => exact ⟨k + 1, m2 + 1, _, by omega, by go_num, hown3, hS2.put _ _, hH.put hS2 HP.out, by omega, (hbl2.alloc hbl2.size _).grown hgrow3 (by have := hbl2.size; simp; omega) (fun j hj => by cases hj; omega)⟩
            case measure => simp [RowKit.intOf]; omega
        · have : k = wn := by omega
          subst this
          go_wp2_with (first
            | (go_at_call 210; refine (keysZ_any _ _).mono ?_; rintro e w' ⟨rfl, rfl⟩)
            | (go_at_call 209; refine (sortedZ_any (plainElem Tryz.prog 3) _ _ _ _ _ (by simp) (by simp) (hown2.alloc _) (by have := hown2.size_le; unfold maxLen; omega) (by have := hown2.size_le; omega)).mono ?_; rintro e w' ⟨v, ss, rfl, hperm, hrow, hnil, hb⟩)
            | go_in)
          go_ret
          have hk := intKeys_of hown2 law3 Tryz.underlying3
          refine ⟨v, ss, rfl, Go.Proofs.ownsRow_base_a hrow (by have := hbl2.size; simp; omega), hnil, hperm.nodup_iff.2 hk.1, fun x => ?_, (hbl2.alloc hbl2.size _).trans (hb.mono (by have := hbl2.size; simp; omega))⟩
          rw [hperm.mem_iff, hk.2 x]
          exact hH x
    · intro x c kl yd yp w2 cnt2 hkey hlk hv hat hrg2 hlt hg2 hs2 hen
      obtain ⟨c', hcc, hy, hwc⟩ := plainElem_int_inv Tryz.underlying3 hv
      obtain rfl : c = c' := by simpa using hcc
      simp only [Prod.mk.injEq] at hy
      obtain ⟨rfl, rfl⟩ := hy
      have hown2 := hown1.kept hg2 (by simp)
      go_wp2_with (first
        | (at_lookup; refine wpList_lookup_own_int _ rfl _ _ 275 rfl 3 3 .i64 law3 Tryz.underlying275 Tryz.underlying3 (zero3 _) w.heap.size m _ rfl hown2 _ _ rfl (keyOf_int_mk Tryz.underlying3 hwc) ?_; intro c2 hat2 hwc2)
        | (at_mapUpdate; refine wpList_mapUpdate_own _ rfl _ _ _ 275 rfl 3 3 law3 Tryz.underlying275 _ w.heap.size m _ rfl hown2 (by unfold maxLen; omega) _ _ _ rfl rfl (keyOf_int_mk Tryz.underlying3 hwc) _ [] (plainElem_int Tryz.underlying3 (wrap64_wf _)) ?_; intro w3 hown3 hgrow3)
        | go_in)
      have hrg3 := hrg2.kept hgrow3 (by have := hown.lt; simp; omega) (by simp)
      go_roundw
      case rel => exact ⟨_, _, _, _, _, _, _, _, _, ⟨_, cnt2, m + 1, _, hrg3, hown3, hS.put _ _, hG.step hS (law9.key hkey) hat, by omega, (hbl.grown hg2 hbl.size (fun j hj => by cases hj; omega)).grown hgrow3 (by have := hbl.size; have := hg2.size; omega) (fun j hj => by cases hj; omega)⟩, rfl⟩
      case measure => rw [hrg3.left_eq, hrg.left_eq]; exact hlt
end Go.Proofs.YtpkohiiljpenmaaGreat
