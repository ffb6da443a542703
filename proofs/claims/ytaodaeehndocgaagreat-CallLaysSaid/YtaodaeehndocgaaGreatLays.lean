/- Any call's bytes, and the call that any bytes begin with, are what the page says, or refused. For every input; no condition. -/
import Derived.Test.YtaodaeehndocgaaGreatLays0
import Derived.Test.YtaodaeehndocgaaGreatLives
import Derived.WalkKit
import Derived.WalkSpells
import Derived.ProofKit
import Derived.Lib.SmallJoins
namespace Go.Proofs.YtaodaeehndocgaaGreat
open Go.ChangeShapes Go.WideShapes Go.ChangeAt Go.RowKit Go.Joins Go.Proofs.YtaodaeehndocgaaGreatW.PrintWords Go.Proofs.YtaodaeehndocgaaGreatW.PrintLast Go.Proofs.YtaodaeehndocgaaGreatW.PrintMore

namespace Bk
theorem lcell {W w1 : World} (hb : Below W.heap.size W w1) : (∀ b o, b < W.heap.size → w1.cell? ⟨b, o, none⟩ = W.cell? ⟨b, o, none⟩) ∧ (∀ b o, b < W.heap.size → w1.frozen? ⟨b, o, none⟩ = W.frozen? ⟨b, o, none⟩) :=
  ⟨fun b o h => hb.cell (p := ⟨b, o, none⟩) h, fun b o h => hb.frozen (p := ⟨b, o, none⟩) h⟩
theorem bytes_v (k a n : Int) (s : ByteArray) {p : ByteArray} {q : Int} (h : (if OKs k a n s then (enc k a n s, 0) else (⟨#[]⟩, 2)) = (p, q)) (w : World) :
    Calls Tryz.prog 8 #[.agg #[.int .i64 k, .int .i64 a, .int .i64 n, .string s]] w fun e w' => e = .returned (.tuple #[.string p, .int .i64 q]) ∧ Below w.heap.size w w' :=
  PCb.call_Bytes.calls k a n s _ _ w (by rw [bytes_eq, h])
theorem rbytes_v (k a n : Int) (s : ByteArray) {p : ByteArray} {q : Int} (h : (if OKs k a n s then (enc k a n s, 0) else (⟨#[]⟩, 2)) = (p, q)) (w : World) :
    Calls Tryz.prog 9 #[.agg #[.int .i64 k, .int .i64 a, .int .i64 n, .string s]] w fun e w' => e = .returned (.tuple #[.string p, .int .i64 q]) ∧ Below w.heap.size w w' :=
  PRb.stylusref42_Bytes.calls 8 k a n s _ _ w (by rw [rbytes_eq, h])
theorem read_v (s : ByteArray) (hs : s.size ≤ 2000) {k a n m f : Int} {t : ByteArray} (h : readV s = (k, a, n, t, m, f)) (w : World) :
    Calls Tryz.prog 10 #[.string s] w fun e w' => e = .returned (.tuple #[.agg #[.int .i64 k, .int .i64 a, .int .i64 n, .string t], .int .i64 m, .int .i64 f]) ∧ Below w.heap.size w w' :=
  PCa.call_Read.calls 8 s _ _ _ _ _ _ w (by rw [read_eq s hs, h])
theorem rread_v (s : ByteArray) (hs : s.size ≤ 2000) {k a n m f : Int} {t : ByteArray} (h : readV s = (k, a, n, t, m, f)) (w : World) :
    Calls Tryz.prog 11 #[.string s] w fun e w' => e = .returned (.tuple #[.agg #[.int .i64 k, .int .i64 a, .int .i64 n, .string t], .int .i64 m, .int .i64 f]) ∧ Below w.heap.size w w' :=
  PRa.stylusref42_Read.calls 8 s _ _ _ _ _ _ w (by rw [rread_eq s hs, h])
theorem right_v (k a n : Int) (s : ByteArray) {r : Bool} (h : decide (OKs k a n s) = r) (w : World) :
    Calls Tryz.prog 12 #[.agg #[.int .i64 k, .int .i64 a, .int .i64 n, .string s]] w fun e w' => e = .returned (.bool r) ∧ Below w.heap.size w w' :=
  PCb.call_Right.calls k a n s _ w (by rw [right_b, h])
theorem rright_v (k a n : Int) (s : ByteArray) {r : Bool} (h : decide (OKs k a n s) = r) (w : World) :
    Calls Tryz.prog 13 #[.agg #[.int .i64 k, .int .i64 a, .int .i64 n, .string s]] w fun e w' => e = .returned (.bool r) ∧ Below w.heap.size w w' :=
  PRa.stylusref42_Right.calls k a n s _ w (by rw [right_ra, h])
abbrev Sx (w w3 w4 : World) (k a n k' a' n' : Int) (c t : ByteArray) (w' : World) : Prop :=
  Below w.heap.size w w' ∧ w4.heap.size < w'.heap.size ∧ w3.heap.size < w4.heap.size ∧ w.heap.size < w3.heap.size ∧ w'.cell? ⟨w.heap.size, 0, none⟩ = some (.int .i64 k) ∧ w'.cell? ⟨w.heap.size, 1, none⟩ = some (.int .i64 a) ∧ w'.cell? ⟨w.heap.size, 2, none⟩ = some (.int .i64 n) ∧ w'.cell? ⟨w.heap.size, 3, none⟩ = some (.string c) ∧ w'.cell? ⟨w3.heap.size, 0, none⟩ = some (.int .i64 k') ∧ w'.cell? ⟨w3.heap.size, 1, none⟩ = some (.int .i64 a') ∧ w'.cell? ⟨w3.heap.size, 2, none⟩ = some (.int .i64 n') ∧ w'.cell? ⟨w3.heap.size, 3, none⟩ = some (.string t) ∧ w'.cell? ⟨w4.heap.size, 0, none⟩ = some (.int .i64 k') ∧ w'.cell? ⟨w4.heap.size, 1, none⟩ = some (.int .i64 a') ∧ w'.cell? ⟨w4.heap.size, 2, none⟩ = some (.int .i64 n') ∧ w'.cell? ⟨w4.heap.size, 3, none⟩ = some (.string t)
theorem l_keep {w w3 w4 w1 w2 : World} {k a n k' a' n' : Int} {c t : ByteArray} (h : Sx w w3 w4 k a n k' a' n' c t w1) (hb : Below w1.heap.size w1 w2) : Sx w w3 w4 k a n k' a' n' c t w2 := by
  obtain ⟨h0, h1, h2, h3, c0, c1, c2, c3, c4, c5, c6, c7, c8, c9, c10, c11⟩ := h
  have hs := hb.size
  have hc := (lcell hb).1
  refine ⟨below_step h0 hb, by omega, h2, h3, ?_, ?_, ?_, ?_, ?_, ?_, ?_, ?_, ?_, ?_, ?_, ?_⟩ <;> rw [hc _ _ (by omega)] <;> assumption
theorem l_first {w w3 w4 w1 : World} {k a n k' a' n' : Int} {c t : ByteArray} (h : Sx w w3 w4 k a n k' a' n' c t w1) : Sx w w3 w4 k a n k' a' n' c t w1.drew := by
  obtain ⟨h0, h1, h2, h3, hr⟩ := h
  exact ⟨below_drew1 h0, h1, h2, h3, hr⟩
theorem l_out {w w3 w4 w1 : World} {k a n k' a' n' : Int} {c t : ByteArray} (h : Sx w w3 w4 k a n k' a' n' c t w1) : Below w.heap.size w w1 := h.1
theorem al_old (W : World) (o : Obj) (b i : Nat) (h : b < W.heap.size) : (W.alloc o).cell? ⟨b, i, none⟩ = W.cell? ⟨b, i, none⟩ := by
  have : (W.alloc o).heap[b]? = W.heap[b]? := by
    show (W.heap.push o)[b]? = _
    rw [Array.getElem?_push]
    split
    · omega
    · rfl
  simp only [World.cell?, this]
theorem al_new (W : World) (cs : Array Value) (ty : TypeId) (i : Nat) (v : Value) (h : cs[i]? = some v) : (W.alloc (Obj.cells cs ty)).cell? ⟨W.heap.size, i, none⟩ = some v := by
  have : (W.alloc (Obj.cells cs ty)).heap[W.heap.size]? = some (Obj.cells cs ty) := by
    show (W.heap.push _)[W.heap.size]? = _
    simp
  simp only [World.cell?, this]
  simpa using h
end Bk
open Bk

set_option maxHeartbeats 800000 in
set_option maxRecDepth 100000 in
theorem lays_long0 (k a n : Int) (c s : ByteArray) (w : World) (h1 : 600 < c.size) :
    Calls Tryz.prog 4 #[.agg #[.int .i64 k, .int .i64 a, .int .i64 n, .string c], .string s] w fun e w' => e = .returned (.bool true) ∧ Below w.heap.size w w' := by
  go_enter Tryz.func4, Tryz.ntmps4
  go_wp2_with (go_at_call 7; refine (lives_any _).mono ?_; rintro e w9 ⟨rfl, hb9⟩)
  go_ret
  refine ⟨by first | rfl | simp, below_step ?_ hb9⟩
  repeat (first | exact Below.refl _ _ | assumption | apply below_alloc)
set_option maxHeartbeats 800000 in
set_option maxRecDepth 100000 in
theorem lays_long1 (k a n : Int) (c s : ByteArray) (w : World) (h1 : c.size ≤ 600) (h2 : 700 < s.size) :
    Calls Tryz.prog 4 #[.agg #[.int .i64 k, .int .i64 a, .int .i64 n, .string c], .string s] w fun e w' => e = .returned (.bool true) ∧ Below w.heap.size w w' := by
  go_enter Tryz.func4, Tryz.ntmps4
  go_wp2_with (go_at_call 7; refine (lives_any _).mono ?_; rintro e w9 ⟨rfl, hb9⟩)
  go_ret
  refine ⟨by first | rfl | simp, below_step ?_ hb9⟩
  repeat (first | exact Below.refl _ _ | assumption | apply below_alloc)
set_option maxHeartbeats 800000 in
set_option maxRecDepth 100000 in
theorem lays_in (k a n k' a' n' m f q : Int) (c s t p : ByteArray) (r : Bool) (w : World) (h1 : c.size ≤ 600) (h2 : s.size ≤ 700) (hq : (if OKs k a n c then (enc k a n c, 0) else (⟨#[]⟩, 2)) = (p, q)) (hr : readV s = (k', a', n', t, m, f)) (ho : decide (OKs k a n c) = r) :
    Calls Tryz.prog 4 #[.agg #[.int .i64 k, .int .i64 a, .int .i64 n, .string c], .string s] w fun e w' => e = .returned (.bool true) ∧ Below w.heap.size w w' := by
  go_enter Tryz.func4, Tryz.ntmps4
  go_wp2_with fail
  refine (bytes_v k a n c hq _).mono ?_
  rintro e w1 ⟨rfl, hb1⟩
  have HB1 : Below w.heap.size w w1 := below_step (by repeat (first | exact Below.refl _ _ | assumption | apply below_alloc)) hb1
  obtain ⟨hc1, hf1⟩ := lcell hb1
  have hy1 : w.heap.size ≤ w1.heap.size := by have := hb1.size; (try simp at this); omega
  have hs1 : 1 ≤ 1 ∧ w.heap.size + 1 ≤ w1.heap.size := ⟨by omega, by have := hb1.size; (try simp at this); omega⟩
  have hz1 : w.heap.size < w1.heap.size := by have := hb1.size; (try simp at this); omega
  clear hb1
  go_wp2_with fail
  refine (rbytes_v k a n c hq _).mono ?_
  rintro e w2 ⟨rfl, hb2⟩
  have HB2 : Below w.heap.size w w2 := below_step (by repeat (first | exact Below.refl _ _ | assumption | apply below_alloc)) hb2
  obtain ⟨hc2, hf2⟩ := lcell hb2
  have hy2 : w1.heap.size ≤ w2.heap.size := by have := hb2.size; (try simp at this); omega
  have hs2 : 1 ≤ 2 ∧ w1.heap.size + 0 ≤ w2.heap.size := ⟨by omega, by have := hb2.size; (try simp at this); omega⟩
  have hz2 : w.heap.size < w2.heap.size := by have := hb2.size; (try simp at this); omega
  clear hb2
  go_wp2_with fail
  refine (read_v s (by omega) hr _).mono ?_
  rintro e w3 ⟨rfl, hb3⟩
  have HB3 : Below w.heap.size w w3 := below_step (by repeat (first | exact Below.refl _ _ | assumption | apply below_alloc)) hb3
  obtain ⟨hc3, hf3⟩ := lcell hb3
  have hy3 : w2.heap.size ≤ w3.heap.size := by have := hb3.size; (try simp at this); omega
  have hs3 : 1 ≤ 3 ∧ w2.heap.size + 0 ≤ w3.heap.size := ⟨by omega, by have := hb3.size; (try simp at this); omega⟩
  have hz3 : w.heap.size < w3.heap.size := by have := hb3.size; (try simp at this); omega
  clear hb3
  go_wp2_with fail
  refine (rread_v s (by omega) hr _).mono ?_
  rintro e w4 ⟨rfl, hb4⟩
  have HB4 : Below w.heap.size w w4 := below_step (by repeat (first | exact Below.refl _ _ | assumption | apply below_alloc)) hb4
  obtain ⟨hc4, hf4⟩ := lcell hb4
  have hy4 : w3.heap.size ≤ w4.heap.size := by have := hb4.size; (try simp at this); omega
  have hs4 : 1 ≤ 4 ∧ w3.heap.size + 1 ≤ w4.heap.size := ⟨by omega, by have := hb4.size; (try simp at this); omega⟩
  have hz4 : w.heap.size < w4.heap.size := by have := hb4.size; (try simp at this); omega
  clear hb4
  have hq4 : w4.heap.size ≤ w4.heap.size := Nat.le_refl _
  go_wp2_with fail
  have hG : Below w.heap.size w (w4.alloc (Obj.cells #[Value.int IntKind.i64 k', Value.int IntKind.i64 a', Value.int IntKind.i64 n', Value.string t] 23)) := below_alloc HB4 _
  have hS0 : Sx w w3 w4 k a n k' a' n' c t (w4.alloc (Obj.cells #[Value.int IntKind.i64 k', Value.int IntKind.i64 a', Value.int IntKind.i64 n', Value.string t] 23)) := by
    have z1 : w3.heap.size < w4.heap.size := by omega
    refine ⟨hG, by simp, by omega, by omega, ?_⟩
    have o1 : ∀ i, w4.cell? ⟨w.heap.size, i, none⟩ = (w.alloc (Obj.cells #[Value.int IntKind.i64 k, Value.int IntKind.i64 a, Value.int IntKind.i64 n, Value.string c] 23)).cell? ⟨w.heap.size, i, none⟩ := fun i => by
      rw [hc4 _ _ (by simp; omega), al_old _ _ _ _ (by omega), hc3 _ _ (by omega), hc2 _ _ (by omega), hc1 _ _ (by simp)]
    have o2 : ∀ i, w4.cell? ⟨w3.heap.size, i, none⟩ = (w3.alloc (Obj.cells #[Value.int IntKind.i64 k', Value.int IntKind.i64 a', Value.int IntKind.i64 n', Value.string t] 23)).cell? ⟨w3.heap.size, i, none⟩ := fun i => by
      rw [hc4 _ _ (by simp)]
    refine ⟨?_, ?_, ?_, ?_, ?_, ?_, ?_, ?_, ?_, ?_, ?_, ?_⟩
    iterate 4 (rw [al_old _ _ _ _ (by omega), o1]; exact al_new _ _ _ _ _ rfl)
    iterate 4 (rw [al_old _ _ _ _ (by omega), o2]; exact al_new _ _ _ _ _ rfl)
    iterate 4 (exact al_new _ _ _ _ _ rfl)
  generalize w4.alloc (Obj.cells #[Value.int IntKind.i64 k', Value.int IntKind.i64 a', Value.int IntKind.i64 n', Value.string t] 23) = W at hS0 ⊢
  clear hG hc1 hc2 hc3 hc4 hf1 hf2 hf3 hf4
  go_region_held3 (fun w' => Below w.heap.size w w' ∧ w4.heap.size < w'.heap.size ∧ w3.heap.size < w4.heap.size ∧ w.heap.size < w3.heap.size ∧ w'.cell? ⟨w.heap.size, 0, none⟩ = some (.int .i64 k) ∧ w'.cell? ⟨w.heap.size, 1, none⟩ = some (.int .i64 a) ∧ w'.cell? ⟨w.heap.size, 2, none⟩ = some (.int .i64 n) ∧ w'.cell? ⟨w.heap.size, 3, none⟩ = some (.string c) ∧ w'.cell? ⟨w3.heap.size, 0, none⟩ = some (.int .i64 k') ∧ w'.cell? ⟨w3.heap.size, 1, none⟩ = some (.int .i64 a') ∧ w'.cell? ⟨w3.heap.size, 2, none⟩ = some (.int .i64 n') ∧ w'.cell? ⟨w3.heap.size, 3, none⟩ = some (.string t) ∧ w'.cell? ⟨w4.heap.size, 0, none⟩ = some (.int .i64 k') ∧ w'.cell? ⟨w4.heap.size, 1, none⟩ = some (.int .i64 a') ∧ w'.cell? ⟨w4.heap.size, 2, none⟩ = some (.int .i64 n') ∧ w'.cell? ⟨w4.heap.size, 3, none⟩ = some (.string t))
    (first | exact l_first (by assumption) | exact l_keep (by assumption) (by assumption))
    (first
      | (go_at_call 12; refine (right_v k a n c ho _).mono ?_; rintro e w5 ⟨rfl, hb5⟩)
      | (go_at_call 13; refine (rright_v k a n c ho _).mono ?_; rintro e w6 ⟨rfl, hb6⟩)
      | (go_at_call 7; refine (lives_any _).mono ?_; rintro e w9 ⟨rfl, hb9⟩))
  go_wp2
  go_ret
  exact ⟨by first | rfl | simp, l_out (by assumption)⟩
theorem lays_any (k a n : Int) (c s : ByteArray) (w : World) :
    Calls Tryz.prog 4 #[.agg #[.int .i64 k, .int .i64 a, .int .i64 n, .string c], .string s] w fun e w' => e = .returned (.bool true) ∧ Below w.heap.size w w' := by
  by_cases h1 : c.size ≤ 600
  · by_cases h2 : s.size ≤ 700
    · obtain ⟨k', a', n', t, m, f, hr⟩ : ∃ k' a' n' t m f, readV s = (k', a', n', t, m, f) := ⟨_, _, _, _, _, _, rfl⟩
      obtain ⟨p, q, hq⟩ : ∃ p q, (if OKs k a n c then (enc k a n c, 0) else (⟨#[]⟩, 2) : ByteArray × Int) = (p, q) := ⟨_, _, rfl⟩
      exact lays_in k a n k' a' n' m f q c s t p _ w h1 h2 hq hr rfl
    · exact lays_long1 k a n c s w h1 (by omega)
  · exact lays_long0 k a n c s w (by omega)
end Go.Proofs.YtaodaeehndocgaaGreat
