/- A call that is laid is read again, whatever stands behind; bytes that are one are just those that are laid of it. For every input; no condition. -/
import Derived.Test.YtaodaeehndocgaaGreatBack1
import Derived.Test.YtaodaeehndocgaaGreatLives
import Derived.WalkKit
import Derived.WalkSpells
import Derived.ProofKit
import Derived.Lib.SmallJoins
namespace Go.Proofs.YtaodaeehndocgaaGreat
open Go.ChangeShapes Go.WideShapes Go.ChangeAt Go.RowKit Go.Joins Go.Proofs.YtaodaeehndocgaaGreatW.PrintWords Go.Proofs.YtaodaeehndocgaaGreatW.PrintLast Go.Proofs.YtaodaeehndocgaaGreatW.PrintMore

namespace Bk
theorem bcell {W w1 : World} (hb : Below W.heap.size W w1) : (∀ b o, b < W.heap.size → w1.cell? ⟨b, o, none⟩ = W.cell? ⟨b, o, none⟩) ∧ (∀ b o, b < W.heap.size → w1.frozen? ⟨b, o, none⟩ = W.frozen? ⟨b, o, none⟩) :=
  ⟨fun b o h => hb.cell (p := ⟨b, o, none⟩) h, fun b o h => hb.frozen (p := ⟨b, o, none⟩) h⟩
theorem bytes_ok (k a n : Int) (s : ByteArray) (w : World) (h : OKs k a n s) :
    Calls Tryz.prog 8 #[.agg #[.int .i64 k, .int .i64 a, .int .i64 n, .string s]] w fun e w' => e = .returned (.tuple #[.string (enc k a n s), .int .i64 0]) ∧ Below w.heap.size w w' :=
  PCb.call_Bytes.calls k a n s _ _ w (by rw [bytes_eq, if_pos h])
theorem bytes_no (k a n : Int) (s : ByteArray) (w : World) (h : ¬ OKs k a n s) :
    Calls Tryz.prog 8 #[.agg #[.int .i64 k, .int .i64 a, .int .i64 n, .string s]] w fun e w' => e = .returned (.tuple #[.string ⟨#[]⟩, .int .i64 2]) ∧ Below w.heap.size w w' :=
  PCb.call_Bytes.calls k a n s _ _ w (by rw [bytes_eq, if_neg h])
theorem read_any (s : ByteArray) (hs : s.size ≤ 2000) {k a n m f : Int} {t : ByteArray} (h : readV s = (k, a, n, t, m, f)) (w : World) :
    Calls Tryz.prog 10 #[.string s] w fun e w' => e = .returned (.tuple #[.agg #[.int .i64 k, .int .i64 a, .int .i64 n, .string t], .int .i64 m, .int .i64 f]) ∧ Below w.heap.size w w' :=
  PCa.call_Read.calls 8 s _ _ _ _ _ _ w (by rw [read_eq s hs, h])
theorem enc_le (k a n : Int) (s : ByteArray) : (enc k a n s).size = 11 + s.size := enc_size k a n s
end Bk
open Bk

set_option maxHeartbeats 800000 in
set_option maxRecDepth 100000 in
theorem back_long0 (k a n : Int) (c b s : ByteArray) (w : World) (h1 : 600 < c.size) :
    Calls Tryz.prog 5 #[.agg #[.int .i64 k, .int .i64 a, .int .i64 n, .string c], .string b, .string s] w fun e w' => e = .returned (.bool true) ∧ Below w.heap.size w w' := by
  go_enter Tryz.func5, Tryz.ntmps5
  go_wp2_with (go_at_call 7; refine (lives_any _).mono ?_; rintro e w9 ⟨rfl, hb9⟩)
  go_ret
  refine ⟨by first | rfl | simp, below_step ?_ hb9⟩
  repeat (first | exact Below.refl _ _ | assumption | apply below_alloc)
set_option maxHeartbeats 800000 in
set_option maxRecDepth 100000 in
theorem back_long1 (k a n : Int) (c b s : ByteArray) (w : World) (h1 : c.size ≤ 600) (h2 : 100 < b.size) :
    Calls Tryz.prog 5 #[.agg #[.int .i64 k, .int .i64 a, .int .i64 n, .string c], .string b, .string s] w fun e w' => e = .returned (.bool true) ∧ Below w.heap.size w w' := by
  go_enter Tryz.func5, Tryz.ntmps5
  go_wp2_with (go_at_call 7; refine (lives_any _).mono ?_; rintro e w9 ⟨rfl, hb9⟩)
  go_ret
  refine ⟨by first | rfl | simp, below_step ?_ hb9⟩
  repeat (first | exact Below.refl _ _ | assumption | apply below_alloc)
set_option maxHeartbeats 800000 in
set_option maxRecDepth 100000 in
theorem back_long2 (k a n : Int) (c b s : ByteArray) (w : World) (h1 : c.size ≤ 600) (h2 : b.size ≤ 100) (h3 : 700 < s.size) :
    Calls Tryz.prog 5 #[.agg #[.int .i64 k, .int .i64 a, .int .i64 n, .string c], .string b, .string s] w fun e w' => e = .returned (.bool true) ∧ Below w.heap.size w w' := by
  go_enter Tryz.func5, Tryz.ntmps5
  go_wp2_with (go_at_call 7; refine (lives_any _).mono ?_; rintro e w9 ⟨rfl, hb9⟩)
  go_ret
  refine ⟨by first | rfl | simp, below_step ?_ hb9⟩
  repeat (first | exact Below.refl _ _ | assumption | apply below_alloc)
set_option maxHeartbeats 800000 in
set_option maxRecDepth 100000 in
theorem back_no_bad (k a n k' a' n' m f : Int) (c b s t : ByteArray) (w : World) (h1 : c.size ≤ 600) (h2 : b.size ≤ 100) (h3 : s.size ≤ 700) (h : ¬ OKs k a n c) (hr : readV s = (k', a', n', t, m, f)) (hf : f ≠ 0) :
    Calls Tryz.prog 5 #[.agg #[.int .i64 k, .int .i64 a, .int .i64 n, .string c], .string b, .string s] w fun e w' => e = .returned (.bool true) ∧ Below w.heap.size w w' := by
  obtain ⟨rfl, rfl, rfl, rfl, rfl⟩ := read_bad hr hf
  go_enter Tryz.func5, Tryz.ntmps5
  go_wp2_with fail
  refine (bytes_no k a n c _ h).mono ?_
  rintro e w1 ⟨rfl, hb1⟩
  have HB1 : Below w.heap.size w w1 := below_step (by repeat (first | exact Below.refl _ _ | assumption | apply below_alloc)) hb1
  obtain ⟨hc1, hf1⟩ := bcell hb1
  have hy1 : w.heap.size ≤ w1.heap.size := by have := hb1.size; (try simp at this); omega
  have hz1 : w.heap.size < w1.heap.size := by have := hb1.size; (try simp at this); omega
  clear hb1
  go_wp2_with fail
  refine (read_any s (by omega) hr _).mono ?_
  rintro e w3 ⟨rfl, hb3⟩
  have HB3 : Below w.heap.size w w3 := below_step (by repeat (first | exact Below.refl _ _ | assumption | apply below_alloc)) hb3
  obtain ⟨hc3, hf3⟩ := bcell hb3
  have hy3 : w.heap.size ≤ w3.heap.size := by have := hb3.size; (try simp at this); omega
  have hz3 : w.heap.size < w3.heap.size := by have := hb3.size; (try simp at this); omega
  clear hb3
  go_wp2_with (go_at_call 7; refine (lives_any _).mono ?_; rintro e w9 ⟨rfl, hb9⟩)
  go_ret
  refine ⟨by first | rfl | simp, below_step ?_ hb9⟩
  repeat (first | exact Below.refl _ _ | assumption | apply below_alloc)
set_option maxHeartbeats 800000 in
set_option maxRecDepth 100000 in
theorem back_no_good (k a n k' a' n' m f : Int) (c b s t : ByteArray) (w : World) (h1 : c.size ≤ 600) (h2 : b.size ≤ 100) (h3 : s.size ≤ 700) (h : ¬ OKs k a n c) (hr : readV s = (k', a', n', t, m, f)) (hf : f = 0) :
    Calls Tryz.prog 5 #[.agg #[.int .i64 k, .int .i64 a, .int .i64 n, .string c], .string b, .string s] w fun e w' => e = .returned (.bool true) ∧ Below w.heap.size w w' := by
  obtain ⟨ho, hm0, hm1, he⟩ := read_good hr hf
  subst hf
  go_enter Tryz.func5, Tryz.ntmps5
  go_wp2_with fail
  refine (bytes_no k a n c _ h).mono ?_
  rintro e w1 ⟨rfl, hb1⟩
  have HB1 : Below w.heap.size w w1 := below_step (by repeat (first | exact Below.refl _ _ | assumption | apply below_alloc)) hb1
  obtain ⟨hc1, hf1⟩ := bcell hb1
  have hy1 : w.heap.size ≤ w1.heap.size := by have := hb1.size; (try simp at this); omega
  have hz1 : w.heap.size < w1.heap.size := by have := hb1.size; (try simp at this); omega
  clear hb1
  go_wp2_with fail
  refine (read_any s (by omega) hr _).mono ?_
  rintro e w3 ⟨rfl, hb3⟩
  have HB3 : Below w.heap.size w w3 := below_step (by repeat (first | exact Below.refl _ _ | assumption | apply below_alloc)) hb3
  obtain ⟨hc3, hf3⟩ := bcell hb3
  have hy3 : w.heap.size ≤ w3.heap.size := by have := hb3.size; (try simp at this); omega
  have hz3 : w.heap.size < w3.heap.size := by have := hb3.size; (try simp at this); omega
  clear hb3
  go_wp2_with fail
  refine (bytes_ok k' a' n' t _ ho).mono ?_
  rintro e w4 ⟨rfl, hb4⟩
  have HB4 : Below w.heap.size w w4 := below_step (by repeat (first | exact Below.refl _ _ | assumption | apply below_alloc)) hb4
  obtain ⟨hc4, hf4⟩ := bcell hb4
  have hy4 : w3.heap.size ≤ w4.heap.size := by have := hb4.size; (try simp at this); omega
  have hz4 : w.heap.size < w4.heap.size := by have := hb4.size; (try simp at this); omega
  clear hb4
  go_wp2_with (go_at_call 7; refine (lives_any _).mono ?_; rintro e w9 ⟨rfl, hb9⟩)
  go_ret
  refine ⟨by first | rfl | simp, below_step ?_ hb9⟩
  repeat (first | exact Below.refl _ _ | assumption | apply below_alloc)
set_option maxHeartbeats 800000 in
set_option maxRecDepth 100000 in
theorem back_ok_bad (k a n k' a' n' m f : Int) (c b s t : ByteArray) (w : World) (h1 : c.size ≤ 600) (h2 : b.size ≤ 100) (h3 : s.size ≤ 700) (h : OKs k a n c) (hr : readV s = (k', a', n', t, m, f)) (hf : f ≠ 0) :
    Calls Tryz.prog 5 #[.agg #[.int .i64 k, .int .i64 a, .int .i64 n, .string c], .string b, .string s] w fun e w' => e = .returned (.bool true) ∧ Below w.heap.size w w' := by
  obtain ⟨rfl, rfl, rfl, rfl, rfl⟩ := read_bad hr hf
  have hs' : (enc k a n c).size = 11 + c.size := enc_le k a n c
  have hq : (enc k a n c ++ b).size = 11 + c.size + b.size := by rw [ByteArray.size_append, hs']
  go_enter Tryz.func5, Tryz.ntmps5
  go_wp2_with fail
  refine (bytes_ok k a n c _ h).mono ?_
  rintro e w1 ⟨rfl, hb1⟩
  have HB1 : Below w.heap.size w w1 := below_step (by repeat (first | exact Below.refl _ _ | assumption | apply below_alloc)) hb1
  obtain ⟨hc1, hf1⟩ := bcell hb1
  have hy1 : w.heap.size ≤ w1.heap.size := by have := hb1.size; (try simp at this); omega
  have hz1 : w.heap.size < w1.heap.size := by have := hb1.size; (try simp at this); omega
  clear hb1
  go_wp2_with fail
  refine (read_any (enc k a n c ++ b) (by omega) (back k a n c b h h2) _).mono ?_
  rintro e w2 ⟨rfl, hb2⟩
  have HB2 : Below w.heap.size w w2 := below_step (by repeat (first | exact Below.refl _ _ | assumption | apply below_alloc)) hb2
  obtain ⟨hc2, hf2⟩ := bcell hb2
  have hy2 : w1.heap.size ≤ w2.heap.size := by have := hb2.size; (try simp at this); omega
  have hz2 : w.heap.size < w2.heap.size := by have := hb2.size; (try simp at this); omega
  clear hb2
  go_wp2_with fail
  refine (read_any s (by omega) hr _).mono ?_
  rintro e w3 ⟨rfl, hb3⟩
  have HB3 : Below w.heap.size w w3 := below_step (by repeat (first | exact Below.refl _ _ | assumption | apply below_alloc)) hb3
  obtain ⟨hc3, hf3⟩ := bcell hb3
  have hy3 : w2.heap.size ≤ w3.heap.size := by have := hb3.size; (try simp at this); omega
  have hz3 : w.heap.size < w3.heap.size := by have := hb3.size; (try simp at this); omega
  clear hb3
  go_wp2_with (go_at_call 7; refine (lives_any _).mono ?_; rintro e w9 ⟨rfl, hb9⟩)
  go_ret
  refine ⟨by first | rfl | simp, below_step ?_ hb9⟩
  repeat (first | exact Below.refl _ _ | assumption | apply below_alloc)
set_option maxHeartbeats 800000 in
set_option maxRecDepth 100000 in
theorem back_ok_good (k a n k' a' n' m f : Int) (c b s t : ByteArray) (w : World) (h1 : c.size ≤ 600) (h2 : b.size ≤ 100) (h3 : s.size ≤ 700) (h : OKs k a n c) (hr : readV s = (k', a', n', t, m, f)) (hf : f = 0) :
    Calls Tryz.prog 5 #[.agg #[.int .i64 k, .int .i64 a, .int .i64 n, .string c], .string b, .string s] w fun e w' => e = .returned (.bool true) ∧ Below w.heap.size w w' := by
  obtain ⟨ho, hm0, hm1, he⟩ := read_good hr hf
  subst hf
  have hs' : (enc k a n c).size = 11 + c.size := enc_le k a n c
  have hq : (enc k a n c ++ b).size = 11 + c.size + b.size := by rw [ByteArray.size_append, hs']
  go_enter Tryz.func5, Tryz.ntmps5
  go_wp2_with fail
  refine (bytes_ok k a n c _ h).mono ?_
  rintro e w1 ⟨rfl, hb1⟩
  have HB1 : Below w.heap.size w w1 := below_step (by repeat (first | exact Below.refl _ _ | assumption | apply below_alloc)) hb1
  obtain ⟨hc1, hf1⟩ := bcell hb1
  have hy1 : w.heap.size ≤ w1.heap.size := by have := hb1.size; (try simp at this); omega
  have hz1 : w.heap.size < w1.heap.size := by have := hb1.size; (try simp at this); omega
  clear hb1
  go_wp2_with fail
  refine (read_any (enc k a n c ++ b) (by omega) (back k a n c b h h2) _).mono ?_
  rintro e w2 ⟨rfl, hb2⟩
  have HB2 : Below w.heap.size w w2 := below_step (by repeat (first | exact Below.refl _ _ | assumption | apply below_alloc)) hb2
  obtain ⟨hc2, hf2⟩ := bcell hb2
  have hy2 : w1.heap.size ≤ w2.heap.size := by have := hb2.size; (try simp at this); omega
  have hz2 : w.heap.size < w2.heap.size := by have := hb2.size; (try simp at this); omega
  clear hb2
  go_wp2_with fail
  refine (read_any s (by omega) hr _).mono ?_
  rintro e w3 ⟨rfl, hb3⟩
  have HB3 : Below w.heap.size w w3 := below_step (by repeat (first | exact Below.refl _ _ | assumption | apply below_alloc)) hb3
  obtain ⟨hc3, hf3⟩ := bcell hb3
  have hy3 : w2.heap.size ≤ w3.heap.size := by have := hb3.size; (try simp at this); omega
  have hz3 : w.heap.size < w3.heap.size := by have := hb3.size; (try simp at this); omega
  clear hb3
  go_wp2_with fail
  refine (bytes_ok k' a' n' t _ ho).mono ?_
  rintro e w4 ⟨rfl, hb4⟩
  have HB4 : Below w.heap.size w w4 := below_step (by repeat (first | exact Below.refl _ _ | assumption | apply below_alloc)) hb4
  obtain ⟨hc4, hf4⟩ := bcell hb4
  have hy4 : w3.heap.size ≤ w4.heap.size := by have := hb4.size; (try simp at this); omega
  have hz4 : w.heap.size < w4.heap.size := by have := hb4.size; (try simp at this); omega
  clear hb4
  go_wp2_with (go_at_call 7; refine (lives_any _).mono ?_; rintro e w9 ⟨rfl, hb9⟩)
  go_ret
  refine ⟨by first | rfl | simp, below_step ?_ hb9⟩
  repeat (first | exact Below.refl _ _ | assumption | apply below_alloc)
theorem back_any (k a n : Int) (c b s : ByteArray) (w : World) :
    Calls Tryz.prog 5 #[.agg #[.int .i64 k, .int .i64 a, .int .i64 n, .string c], .string b, .string s] w fun e w' => e = .returned (.bool true) ∧ Below w.heap.size w w' := by
  by_cases h1 : c.size ≤ 600
  · by_cases h2 : b.size ≤ 100
    · by_cases h3 : s.size ≤ 700
      · obtain ⟨k', a', n', t, m, f, hr⟩ : ∃ k' a' n' t m f, readV s = (k', a', n', t, m, f) := ⟨_, _, _, _, _, _, rfl⟩
        by_cases h : OKs k a n c
        · by_cases hf : f = 0
          · exact back_ok_good k a n k' a' n' m f c b s t w h1 h2 h3 h hr hf
          · exact back_ok_bad k a n k' a' n' m f c b s t w h1 h2 h3 h hr hf
        · by_cases hf : f = 0
          · exact back_no_good k a n k' a' n' m f c b s t w h1 h2 h3 h hr hf
          · exact back_no_bad k a n k' a' n' m f c b s t w h1 h2 h3 h hr hf
      · exact back_long2 k a n c b s w h1 h2 (by omega)
    · exact back_long1 k a n c b s w h1 (by omega)
  · exact back_long0 k a n c b s w (by omega)
end Go.Proofs.YtaodaeehndocgaaGreat
