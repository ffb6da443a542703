/- CallBack's plain law: what 'call.Bytes' and 'call.Read' give, as the printed functions say it. -/
import Derived.Test.YtaodaeehndocgaaGreatPCax2
import Derived.Test.YtaodaeehndocgaaGreatPCbx1
namespace Go.Proofs.YtaodaeehndocgaaGreat
open Go.RowKit Go.Proofs.YtaodaeehndocgaaGreatW.PrintWords Go.Proofs.YtaodaeehndocgaaGreatW.PrintLast Go.Proofs.YtaodaeehndocgaaGreatW.PrintMore

namespace Bk
theorem w64 (x : Int) (h0 : -9223372036854775808 ≤ x) (h1 : x ≤ 9223372036854775807) : wrap64 x = x := by unfold wrap64; omega
theorem ofInt64 (x : Nat) (h : x < 18446744073709551616) : (BitVec.ofInt 64 (x : Int)).toNat = x := by
  rw [BitVec.ofInt_natCast, BitVec.toNat_ofNat]; exact Nat.mod_eq_of_lt (by omega)
theorem or_byte (m b : Int) (h0 : 0 ≤ m) (h1 : m < 1099511627776) (b0 : 0 ≤ b) (b1 : b ≤ 255) : Go.bits .or .i64 (m * 256) b = m * 256 + b := by
  obtain ⟨m, rfl⟩ := Int.eq_ofNat_of_zero_le h0
  obtain ⟨b, rfl⟩ := Int.eq_ofNat_of_zero_le b0
  have e : ((m : Int) * 256) = ((m * 256 : Nat) : Int) := by omega
  rw [e]
  show IntKind.i64.wrap ((BitVec.ofInt 64 _ ||| BitVec.ofInt 64 _).toNat : Int) = _
  rw [BitVec.toNat_or, ofInt64 _ (by omega), ofInt64 _ (by omega)]
  have h : m * 256 ||| b = m * 256 + b := by
    rw [show m * 256 = m <<< 8 by rw [Nat.shiftLeft_eq]]
    exact (Nat.shiftLeft_add_eq_or_of_lt (by omega) m).symm
  rw [h, i64_w, w64 _ (by omega) (by omega)]
  omega
theorem num_step (k : Nat) (xs : List Int) (acc i : Int) (hi : 0 < i) (hl : i ≤ xs.length) (hm : i ≤ 100) (h0 : 0 ≤ acc) (h1 : acc < 1099511627776) (hb : 0 ≤ rd xs (i - 1) ∧ rd xs (i - 1) ≤ 255) :
    PCa.num_number.l0 (k + 1) xs acc i = PCa.num_number.l0 k xs (acc * 256 + rd xs (i - 1)) (i - 1) := by
  rw [PCa.num_number.l0]
  rw [w64 (i - 1) (by omega) (by omega), if_pos (by omega), if_pos (by omega), if_pos (by omega), w64 (acc * 256) (by omega) (by omega), w64 (rd xs (i - 1)) (by omega) (by omega), or_byte _ _ h0 h1 hb.1 hb.2]
theorem num_two (k : Nat) (x y : Int) (hx : 0 ≤ x ∧ x ≤ 255) (hy : 0 ≤ y ∧ y ≤ 255) : PCa.num_number.f (k + 3) [x, y] = some (y * 256 + x) := by
  show PCa.num_number.l0 (k + 3) [x, y] 0 2 = _
  rw [num_step (k + 2) [x, y] 0 2 (by omega) (by simp) (by omega) (by omega) (by omega) hy]
  rw [show ((0 : Int) * 256 + rd [x, y] (2 - 1)) = y by show (0 : Int) * 256 + y = y; omega, show (2 - 1 : Int) = 1 by rfl]
  rw [num_step (k + 1) [x, y] y 1 (by omega) (by simp) (by omega) (by omega) (by omega) hx]
  rw [PCa.num_number.l0, if_neg (by omega)]
  rfl
theorem num_four (k : Nat) (x y z u : Int) (hx : 0 ≤ x ∧ x ≤ 255) (hy : 0 ≤ y ∧ y ≤ 255) (hz : 0 ≤ z ∧ z ≤ 255) (hu : 0 ≤ u ∧ u ≤ 255) :
    PCa.num_number.f (k + 5) [x, y, z, u] = some (((u * 256 + z) * 256 + y) * 256 + x) := by
  show PCa.num_number.l0 (k + 5) [x, y, z, u] 0 4 = _
  rw [num_step (k + 4) [x, y, z, u] 0 4 (by omega) (by simp) (by omega) (by omega) (by omega) hu]
  rw [show ((0 : Int) * 256 + rd [x, y, z, u] (4 - 1)) = u by show (0 : Int) * 256 + u = u; omega, show (4 - 1 : Int) = 3 by rfl]
  rw [num_step (k + 3) [x, y, z, u] u 3 (by omega) (by simp) (by omega) (by omega) (by omega) hz]
  rw [show (u * 256 + rd [x, y, z, u] (3 - 1)) = u * 256 + z by rfl, show (3 - 1 : Int) = 2 by rfl]
  rw [num_step (k + 2) [x, y, z, u] _ 2 (by omega) (by simp) (by omega) (by omega) (by omega) hy]
  rw [show ((u * 256 + z) * 256 + rd [x, y, z, u] (2 - 1)) = (u * 256 + z) * 256 + y by rfl, show (2 - 1 : Int) = 1 by rfl]
  rw [num_step (k + 1) [x, y, z, u] _ 1 (by omega) (by simp) (by omega) (by omega) (by omega) hx]
  rw [PCa.num_number.l0, if_neg (by omega)]
  rfl

def OKs (k a n : Int) (s : ByteArray) : Prop := 1 ≤ k ∧ k ≤ 18 ∧ 0 ≤ a ∧ a ≤ 2147483647 ∧ 0 ≤ n ∧ n ≤ 2147483647 ∧ s.size ≤ 512
instance (k a n : Int) (s : ByteArray) : Decidable (OKs k a n s) := by unfold OKs; infer_instance
theorem right_a (k a n : Int) (s : ByteArray) : PCa.call_Right.f k a n s = some (decide (OKs k a n s)) := by
  unfold PCa.call_Right.f PCa.call_within.f OKs
  by_cases h1 : k ≥ 1 <;> by_cases h2 : k ≤ 18 <;> by_cases h3 : a ≥ 0 <;> by_cases h4 : a ≤ 2147483647 <;> by_cases h5 : n ≥ 0 <;> by_cases h6 : n ≤ 2147483647 <;> simp [h1, h2, h3, h4, h5, h6] <;> omega
theorem right_b (k a n : Int) (s : ByteArray) : PCb.call_Right.f k a n s = some (decide (OKs k a n s)) := right_a k a n s

def encL (k a n : Int) (s : ByteArray) : List Int :=
  [k % 256, a % 256, a / 256 % 256, a / 65536 % 256, a / 16777216 % 256, n % 256, n / 256 % 256, n / 65536 % 256, n / 16777216 % 256, (s.size : Int) % 256, (s.size : Int) / 256 % 256] ++ bytesOf s
theorem encL_range (k a n : Int) (s : ByteArray) : ∀ x ∈ encL k a n s, 0 ≤ x ∧ x ≤ 255 := by
  intro x hx
  simp only [encL, List.cons_append, List.nil_append, List.mem_cons] at hx
  rcases hx with rfl | rfl | rfl | rfl | rfl | rfl | rfl | rfl | rfl | rfl | rfl | hx
  all_goals try omega
  unfold bytesOf at hx
  obtain ⟨b, _, rfl⟩ := List.mem_map.mp hx
  have := b.toNat_lt
  omega
def enc (k a n : Int) (s : ByteArray) : ByteArray := strOfNums (encL k a n s)
theorem bytesOf_str (l : List Int) (h : ∀ x ∈ l, 0 ≤ x ∧ x ≤ 255) : bytesOf (strOfNums l) = l := by
  unfold bytesOf
  rw [strOfNums_data, List.map_map]
  induction l with
  | nil => rfl
  | cons x r ih =>
    have hx := h x (by simp)
    rw [List.map_cons, ih (fun y hy => h y (by simp [hy]))]
    congr 1
    show ((UInt8.ofNat x.toNat).toNat : Int) = x
    rw [UInt8.toNat_ofNat']
    omega
theorem str_bytesOf (s : ByteArray) : strOfNums (bytesOf s) = s := by
  cases s with
  | mk d =>
    have h : ∀ l : List UInt8, l.map ((fun n : Int => UInt8.ofNat n.toNat) ∘ fun x : UInt8 => (x.toNat : Int)) = l := by
      intro l
      induction l with
      | nil => rfl
      | cons x r ih => simp [ih]
    simp [strOfNums, bytesOf, h]
theorem put32 (a : Int) : PCb.num_Put32.f a = some (strOfNums [a % 256, a / 256 % 256, a / 65536 % 256, a / 16777216 % 256]) := rfl
theorem put16 (a : Int) : PCb.num_Put16.f a = some (strOfNums [a % 256, a / 256 % 256]) := rfl
theorem bytes_eq (k a n : Int) (s : ByteArray) : PCb.call_Bytes.f k a n s = some (if OKs k a n s then (enc k a n s, 0) else (⟨#[]⟩, 2)) := by
  unfold PCb.call_Bytes.f
  rw [right_b, Option.bind_some]
  by_cases h : OKs k a n s
  · have hs : s.size ≤ 512 := h.2.2.2.2.2.2
    rw [if_pos (by simpa using h), if_pos h]
    simp only [put32, put16, Option.bind_some, strOfNums_size]
    rw [bytesOf_str _ (by intro x hx; simp only [List.mem_cons, List.not_mem_nil, or_false] at hx; rcases hx with rfl | rfl | rfl | rfl <;> omega),
      bytesOf_str _ (by intro x hx; simp only [List.mem_cons, List.not_mem_nil, or_false] at hx; rcases hx with rfl | rfl | rfl | rfl <;> omega),
      bytesOf_str _ (by intro x hx; simp only [List.mem_cons, List.not_mem_nil, or_false] at hx; rcases hx with rfl | rfl <;> omega)]
    simp only [List.length_append, List.length_cons, List.length_nil]
    rw [if_pos (by omega), if_pos (by omega), if_pos (by omega), if_pos (by omega)]
    rfl
  · rw [if_neg (by simpa using h), if_neg h]

/-- the number that four bytes are -/
def A32 (s : ByteArray) (i : Int) : Int := ((bt s (i + 3) * 256 + bt s (i + 2)) * 256 + bt s (i + 1)) * 256 + bt s i
def A16 (s : ByteArray) (i : Int) : Int := bt s (i + 1) * 256 + bt s i
theorem there (s : ByteArray) (i m : Int) (hs : s.size ≤ 2000) (hi : 0 ≤ i) (hm : 0 ≤ m) (hm' : m ≤ 100) : PCa.num_there.f s i m = some (decide (i + m ≤ s.size)) := by
  unfold PCa.num_there.f
  rw [if_pos hi, w64 _ (by omega) (by omega)]
  congr 1
  exact decide_eq_decide.mpr (by omega)
theorem get16 (k : Nat) (s : ByteArray) (i : Int) (hs : s.size ≤ 2000) (hi : 0 ≤ i) (hi' : i ≤ 100) : PCa.num_Get16.f (k + 3) s i = some (if i + 2 ≤ s.size then (A16 s i, true) else (0, false)) := by
  unfold PCa.num_Get16.f
  rw [there s i 2 hs hi (by omega) (by omega), Option.bind_some]
  by_cases h : i + 2 ≤ (s.size : Int)
  · rw [if_pos (by simpa using h), if_pos h, w64 _ (by omega) (by omega), if_pos (by omega), if_pos (by omega), if_pos (by omega), if_pos (by omega), num_two k _ _ (bt_range _ _) (bt_range _ _)]
    rfl
  · rw [if_neg (by simpa using h), if_neg h]
theorem get32 (k : Nat) (s : ByteArray) (i : Int) (hs : s.size ≤ 2000) (hi : 0 ≤ i) (hi' : i ≤ 100) (h : i + 4 ≤ s.size) : PCa.num_Get32.f (k + 5) s i = some (A32 s i, true) := by
  unfold PCa.num_Get32.f
  rw [there s i 4 hs hi (by omega) (by omega), Option.bind_some]
  rw [if_pos (by simpa using h), w64 (i + 1) (by omega) (by omega), w64 (i + 2) (by omega) (by omega), w64 (i + 3) (by omega) (by omega), if_pos (by omega), if_pos (by omega), if_pos (by omega), if_pos (by omega), if_pos (by omega), if_pos (by omega), if_pos (by omega), if_pos (by omega),
    num_four k _ _ _ _ (bt_range _ _) (bt_range _ _) (bt_range _ _) (bt_range _ _)]
  rfl
/-- what 'call.Read' gives -/
def readV (s : ByteArray) : Int × Int × Int × ByteArray × Int × Int :=
  if (s.size : Int) < 11 + A16 s 9 ∨ s.size < 11 then (0, 0, 0, ⟨#[]⟩, 0, 18)
  else if OKs (bt s 0) (A32 s 1) (A32 s 5) (s.extract 11 (11 + A16 s 9).toNat) then (bt s 0, A32 s 1, A32 s 5, s.extract 11 (11 + A16 s 9).toNat, 11 + A16 s 9, 0)
  else (0, 0, 0, ⟨#[]⟩, 0, 2)
theorem A16_range (s : ByteArray) (i : Int) : 0 ≤ A16 s i ∧ A16 s i ≤ 65535 := by
  have := bt_range s (i + 1)
  have := bt_range s i
  unfold A16; omega
theorem read_eq (s : ByteArray) (hs : s.size ≤ 2000) : PCa.call_Read.f 8 s = some (readV s) := by
  unfold PCa.call_Read.f readV
  have hA := A16_range s 9
  have hb := bt_range s 0
  rw [get16 5 s 9 hs (by omega) (by omega), Option.bind_some]
  by_cases h : (9 : Int) + 2 ≤ s.size
  · rw [if_pos h, if_pos rfl]
    show PCa.call_Read.j0 8 s (wrap64 (11 + A16 s 9)) (decide ((wrap64 (11 + A16 s 9)) > (s.size : Int))) = _
    rw [w64 (11 + A16 s 9) (by omega) (by omega)]
    rw [PCa.call_Read.j0]
    by_cases h2 : (11 + A16 s 9) > (s.size : Int)
    · rw [if_pos (by simpa using h2), if_pos (Or.inl (by omega))]
    · rw [if_neg (show ¬ (decide ((11 + A16 s 9) > (s.size : Int)) = true) by simpa using h2), if_neg (show ¬ ((s.size : Int) < 11 + A16 s 9 ∨ s.size < 11) by omega), if_pos (show (0 : Int) < s.size by omega), if_pos (show (11 : Int) ≤ 11 + A16 s 9 by omega), if_pos (show 11 + A16 s 9 ≤ (s.size : Int) by omega), get32 2 s 1 hs (by omega) (by omega) (by omega), get32 2 s 5 hs (by omega) (by omega) (by omega)]
      simp only [Option.bind_some]
      rw [w64 (bt s 0) (by omega) (by omega), right_a, Option.bind_some]
      by_cases h3 : OKs (bt s 0) (A32 s 1) (A32 s 5) (s.extract 11 (11 + A16 s 9).toNat)
      · rw [if_pos (by simpa using h3), if_pos h3]
      · rw [if_neg (by simpa using h3), if_neg h3]
  · rw [if_neg h, if_neg (by simp)]
    show PCa.call_Read.j0 8 s (wrap64 (11 + 0)) true = _
    rw [PCa.call_Read.j0, if_pos rfl, if_pos (Or.inr (by omega))]
end Bk
end Go.Proofs.YtaodaeehndocgaaGreat
