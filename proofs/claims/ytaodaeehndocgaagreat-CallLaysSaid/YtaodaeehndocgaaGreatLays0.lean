/- CallLays' plain law: the document's 'Bytes' and 'Read' give what the program's do. -/
import Derived.Test.YtaodaeehndocgaaGreatBack1
import Derived.Test.YtaodaeehndocgaaGreatPRax1
import Derived.Test.YtaodaeehndocgaaGreatPRbx2
namespace Go.Proofs.YtaodaeehndocgaaGreat
open Go.RowKit Go.Proofs.YtaodaeehndocgaaGreatW.PrintWords Go.Proofs.YtaodaeehndocgaaGreatW.PrintLast Go.Proofs.YtaodaeehndocgaaGreatW.PrintMore

namespace Bk
theorem right_ra (k a n : Int) (s : ByteArray) : PRa.stylusref42_Right.f k a n s = some (decide (OKs k a n s)) := by
  unfold PRa.stylusref42_Right.f OKs
  by_cases h1 : k ≥ 1 <;> by_cases h2 : k ≤ 18 <;> by_cases h3 : a ≥ 0 <;> by_cases h4 : a ≤ 2147483647 <;> by_cases h5 : n ≥ 0 <;> by_cases h6 : n ≤ 2147483647 <;> simp [h1, h2, h3, h4, h5, h6] <;> omega

theorem get_step (k : Nat) (s : ByteArray) (at_ acc i : Int) (hs : s.size ≤ 2000) (ha : 0 ≤ at_) (ha' : at_ ≤ 100) (hi : 0 ≤ i) (hl : at_ + i < s.size) (hm : i ≤ 100) (h0 : 0 ≤ acc) (h1 : acc < 1099511627776) :
    PRa.stylusref03_get.l0 (k + 1) s at_ acc i = PRa.stylusref03_get.l0 k s at_ (acc * 256 + bt s (at_ + i)) (i - 1) := by
  have hb := bt_range s (at_ + i)
  rw [PRa.stylusref03_get.l0]
  rw [w64 (at_ + i) (by omega) (by omega), w64 (bt s (at_ + i)) (by omega) (by omega), w64 (256 * acc) (by omega) (by omega), w64 (256 * acc + bt s (at_ + i)) (by omega) (by omega), w64 (i - 1) (by omega) (by omega), if_pos hi, if_pos (by omega), if_pos (by omega)]
  rw [Int.mul_comm 256 acc]
theorem get_end (k : Nat) (s : ByteArray) (at_ acc : Int) : PRa.stylusref03_get.l0 (k + 1) s at_ acc (-1) = some (acc, true) := by
  rw [PRa.stylusref03_get.l0, if_neg (by omega)]
theorem rget16 (k : Nat) (s : ByteArray) (i : Int) (hs : s.size ≤ 2000) (hi : 0 ≤ i) (hi' : i ≤ 50) (h : i + 2 ≤ s.size) : PRa.stylusref03_Get16.f (k + 4) s i = some (A16 s i, true) := by
  have r1 := bt_range s (i + 1)
  have r0 := bt_range s i
  unfold PRa.stylusref03_Get16.f PRa.stylusref03_get.f
  rw [if_neg (by omega), w64 ((s.size : Int) - 2) (by omega) (by omega), show decide (i > (s.size : Int) - 2) = false from decide_eq_false (by omega)]
  rw [PRa.stylusref03_get.j0, if_neg (by simp), w64 (2 - 1) (by omega) (by omega)]
  rw [show (2 - 1 : Int) = 1 by rfl, get_step (k + 2) s i 0 1 hs hi (by omega) (by omega) (by omega) (by omega) (by omega) (by omega)]
  rw [show (1 - 1 : Int) = 0 by rfl, get_step (k + 1) s i _ 0 hs hi (by omega) (by omega) (by omega) (by omega) (by omega) (by omega)]
  rw [show (0 - 1 : Int) = -1 by rfl, get_end, Option.bind_some]
  unfold A16
  simp
theorem rget32 (k : Nat) (s : ByteArray) (i : Int) (hs : s.size ≤ 2000) (hi : 0 ≤ i) (hi' : i ≤ 50) (h : i + 4 ≤ s.size) : PRa.stylusref03_Get32.f (k + 6) s i = some (A32 s i, true) := by
  have r3 := bt_range s (i + 3)
  have r2 := bt_range s (i + 2)
  have r1 := bt_range s (i + 1)
  have r0 := bt_range s i
  unfold PRa.stylusref03_Get32.f PRa.stylusref03_get.f
  rw [if_neg (by omega), w64 ((s.size : Int) - 4) (by omega) (by omega), show decide (i > (s.size : Int) - 4) = false from decide_eq_false (by omega)]
  rw [PRa.stylusref03_get.j0, if_neg (by simp), w64 (4 - 1) (by omega) (by omega)]
  rw [show (4 - 1 : Int) = 3 by rfl, get_step (k + 4) s i 0 3 hs hi (by omega) (by omega) (by omega) (by omega) (by omega) (by omega)]
  rw [show (3 - 1 : Int) = 2 by rfl, get_step (k + 3) s i _ 2 hs hi (by omega) (by omega) (by omega) (by omega) (by omega) (by omega)]
  rw [show (2 - 1 : Int) = 1 by rfl, get_step (k + 2) s i _ 1 hs hi (by omega) (by omega) (by omega) (by omega) (by omega) (by omega)]
  rw [show (1 - 1 : Int) = 0 by rfl, get_step (k + 1) s i _ 0 hs hi (by omega) (by omega) (by omega) (by omega) (by omega) (by omega)]
  rw [show (0 - 1 : Int) = -1 by rfl, get_end, Option.bind_some]
  unfold A32
  simp
theorem rread_eq (s : ByteArray) (hs : s.size ≤ 2000) : PRa.stylusref42_Read.f 8 s = some (readV s) := by
  unfold PRa.stylusref42_Read.f readV
  have hA := A16_range s 9
  have hb := bt_range s 0
  by_cases h : (s.size : Int) < 11
  · rw [if_pos h, if_pos (Or.inr (by omega))]
  · rw [if_neg h, rget32 2 s 1 hs (by omega) (by omega) (by omega), rget32 2 s 5 hs (by omega) (by omega) (by omega), rget16 4 s 9 hs (by omega) (by omega) (by omega)]
    simp only [Option.bind_some]
    rw [w64 ((s.size : Int) - 11) (by omega) (by omega), w64 (11 + A16 s 9) (by omega) (by omega)]
    by_cases h2 : (11 + A16 s 9) > (s.size : Int)
    · rw [if_pos (show A16 s 9 > (s.size : Int) - 11 by omega), if_pos (Or.inl (by omega))]
    · rw [if_neg (show ¬ (A16 s 9 > (s.size : Int) - 11) by omega), if_neg (show ¬ ((s.size : Int) < 11 + A16 s 9 ∨ s.size < 11) by omega), if_pos (show (0 : Int) < s.size by omega), if_pos (show (11 : Int) ≤ 11 + A16 s 9 by omega), if_pos (show 11 + A16 s 9 ≤ (s.size : Int) by omega)]
      rw [w64 (bt s 0) (by omega) (by omega), right_ra, Option.bind_some]
      by_cases h3 : OKs (bt s 0) (A32 s 1) (A32 s 5) (s.extract 11 (11 + A16 s 9).toNat)
      · rw [if_pos (by simpa using h3), if_pos h3]
      · rw [if_neg (by simpa using h3), if_neg h3]

theorem u64 (x : Int) (h0 : 0 ≤ x) (h1 : x ≤ 9223372036854775807) : IntKind.u64.wrap x = x := by rw [IntKind.wrap_u64]; omega
theorem put_step (k : Nat) (m : Int) (l : List Int) (u i : Int) (hi : 0 ≤ i) (hl : i < m) (hm : m ≤ 100) (hn : l.length ≤ 100) (h0 : 0 ≤ u) (h1 : u ≤ 2147483647) :
    PRb.stylusref03_put.l0 (k + 1) m l u i = PRb.stylusref03_put.l0 k m (l ++ [u % 256]) (u / 256) (i + 1) := by
  rw [PRb.stylusref03_put.l0, if_pos hl, if_pos (by omega), w64 (i + 1) (by omega) (by omega)]
  have e1 : Int.tdiv u 256 = u / 256 := Int.tdiv_eq_ediv_of_nonneg h0
  have e2 : Int.tmod u 256 = u % 256 := Int.tmod_eq_emod_of_nonneg h0
  rw [e1, e2, u64 (u / 256) (by omega) (by omega), Int.emod_emod_of_dvd _ (Int.dvd_refl _)]
theorem rput32 (k : Nat) (a : Int) (h0 : 0 ≤ a) (h1 : a ≤ 2147483647) : PRb.stylusref03_Put32.f (k + 5) a = some (strOfNums [a % 256, a / 256 % 256, a / 65536 % 256, a / 16777216 % 256]) := by
  unfold PRb.stylusref03_Put32.f PRb.stylusref03_put.f
  rw [u64 a h0 (by omega)]
  rw [put_step (k + 4) 4 [] a 0 (by omega) (by omega) (by omega) (by simp) h0 h1]
  rw [put_step (k + 3) 4 _ (a / 256) (0 + 1) (by omega) (by omega) (by omega) (by simp) (by omega) (by omega)]
  rw [put_step (k + 2) 4 _ (a / 256 / 256) (0 + 1 + 1) (by omega) (by omega) (by omega) (by simp) (by omega) (by omega)]
  rw [put_step (k + 1) 4 _ (a / 256 / 256 / 256) (0 + 1 + 1 + 1) (by omega) (by omega) (by omega) (by simp) (by omega) (by omega)]
  rw [PRb.stylusref03_put.l0, if_neg (by omega), Option.bind_some]
  simp only [List.nil_append, List.cons_append]
  congr 2
  simp only [List.cons.injEq, and_true, true_and]
  omega
theorem rput16 (k : Nat) (a : Int) (h0 : 0 ≤ a) (h1 : a ≤ 2147483647) : PRb.stylusref03_Put16.f (k + 3) a = some (strOfNums [a % 256, a / 256 % 256]) := by
  unfold PRb.stylusref03_Put16.f PRb.stylusref03_put.f
  rw [u64 a h0 (by omega)]
  rw [put_step (k + 2) 2 [] a 0 (by omega) (by omega) (by omega) (by simp) h0 h1]
  rw [put_step (k + 1) 2 _ (a / 256) (0 + 1) (by omega) (by omega) (by omega) (by simp) (by omega) (by omega)]
  rw [PRb.stylusref03_put.l0, if_neg (by omega), Option.bind_some]
  simp only [List.nil_append, List.cons_append]
theorem rbytes_eq (k a n : Int) (s : ByteArray) : PRb.stylusref42_Bytes.f 8 k a n s = some (if OKs k a n s then (enc k a n s, 0) else (⟨#[]⟩, 2)) := by
  unfold PRb.stylusref42_Bytes.f
  rw [right_ra, Option.bind_some]
  by_cases h : OKs k a n s
  · have hs : s.size ≤ 512 := h.2.2.2.2.2.2
    rw [if_pos (by simpa using h), if_pos h]
    rw [rput32 3 a h.2.2.1 h.2.2.2.1, rput32 3 n h.2.2.2.2.1 h.2.2.2.2.2.1, rput16 5 s.size (by omega) (by omega)]
    simp only [Option.bind_some, ByteArray.size_append, strOfNums_size, List.length_cons, List.length_nil]
    rw [if_pos (by omega), if_pos (by omega), if_pos (by omega), if_pos (by omega)]
    congr 2
    apply eq_of_bytes
    simp only [bytesOf_append]
    rw [bytesOf_str _ (by intro x hx; simp only [List.mem_cons, List.not_mem_nil, or_false] at hx; rcases hx with rfl; omega),
      bytesOf_str _ (by intro x hx; simp only [List.mem_cons, List.not_mem_nil, or_false] at hx; rcases hx with rfl | rfl | rfl | rfl <;> omega),
      bytesOf_str _ (by intro x hx; simp only [List.mem_cons, List.not_mem_nil, or_false] at hx; rcases hx with rfl | rfl | rfl | rfl <;> omega),
      bytesOf_str _ (by intro x hx; simp only [List.mem_cons, List.not_mem_nil, or_false] at hx; rcases hx with rfl | rfl <;> omega),
      enc, bytesOf_str _ (encL_range _ _ _ _)]
    rfl
  · rw [if_neg (by simpa using h), if_neg h]
end Bk
end Go.Proofs.YtaodaeehndocgaaGreat
