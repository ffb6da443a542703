/- CallBack's plain law: a call that is laid is read again; bytes that are a call are just those that are laid of it. -/
import Derived.Test.YtaodaeehndocgaaGreatBack0
namespace Go.Proofs.YtaodaeehndocgaaGreat
open Go.RowKit Go.Proofs.YtaodaeehndocgaaGreatW.PrintWords Go.Proofs.YtaodaeehndocgaaGreatW.PrintLast Go.Proofs.YtaodaeehndocgaaGreatW.PrintMore

namespace Bk
theorem enc_size (k a n : Int) (s : ByteArray) : (enc k a n s).size = 11 + s.size := by
  rw [enc, strOfNums_size, encL, List.length_append, bytesOf_length]
  simp
theorem bytesOf_append (x y : ByteArray) : bytesOf (x ++ y) = bytesOf x ++ bytesOf y := by
  unfold bytesOf
  rw [ByteArray.data_append, Array.toList_append, List.map_append]
theorem bytesOf_extract (x : ByteArray) (i j : Nat) : bytesOf (x.extract i j) = ((bytesOf x).drop i).take (j - i) := by
  unfold bytesOf
  rw [ByteArray.data_extract, Array.toList_extract, List.extract_eq_take_drop, List.map_take, List.map_drop]
theorem eq_of_bytes {x y : ByteArray} (h : bytesOf x = bytesOf y) : x = y := by rw [← str_bytesOf x, ← str_bytesOf y, h]
theorem back (k a n : Int) (s b : ByteArray) (h : OKs k a n s) (hb : b.size ≤ 100) : readV (enc k a n s ++ b) = (k, a, n, s, (11 + s.size : Int), 0) := by
  obtain ⟨h1, h2, h3, h4, h5, h6, h7⟩ := h
  have hl : bytesOf (enc k a n s ++ b) = encL k a n s ++ bytesOf b := by rw [bytesOf_append, enc, bytesOf_str _ (encL_range k a n s)]
  have at_ : ∀ i, bt (enc k a n s ++ b) i = rd (encL k a n s ++ bytesOf b) i := fun i => by rw [← hl, rd_bytesOf]
  have hz : (enc k a n s ++ b).size = 11 + s.size + b.size := by rw [ByteArray.size_append, enc_size]
  have e0 : bt (enc k a n s ++ b) 0 = k := by rw [at_]; show k % 256 = k; omega
  have e1 : A32 (enc k a n s ++ b) 1 = a := by
    unfold A32; rw [at_, at_, at_, at_]
    show ((a / 16777216 % 256 * 256 + a / 65536 % 256) * 256 + a / 256 % 256) * 256 + a % 256 = a
    omega
  have e5 : A32 (enc k a n s ++ b) 5 = n := by
    unfold A32; rw [at_, at_, at_, at_]
    show ((n / 16777216 % 256 * 256 + n / 65536 % 256) * 256 + n / 256 % 256) * 256 + n % 256 = n
    omega
  have e9 : A16 (enc k a n s ++ b) 9 = s.size := by
    unfold A16; rw [at_, at_]
    show (s.size : Int) / 256 % 256 * 256 + (s.size : Int) % 256 = s.size
    omega
  have ex : (enc k a n s ++ b).extract 11 (11 + (s.size : Int)).toNat = s := by
    apply eq_of_bytes
    rw [bytesOf_extract, hl]
    show List.take ((11 + (s.size : Int)).toNat - 11) (bytesOf s ++ bytesOf b) = bytesOf s
    rw [show (11 + (s.size : Int)).toNat - 11 = (bytesOf s).length by rw [bytesOf_length]; omega, List.take_left']
    rfl
  unfold readV
  rw [e0, e1, e5, e9, ex, hz, if_neg (by omega), if_pos ⟨h1, h2, h3, h4, h5, h6, h7⟩]

theorem read_bad {s : ByteArray} {k a n m f : Int} {t : ByteArray} (h : readV s = (k, a, n, t, m, f)) (hf : f ≠ 0) : k = 0 ∧ a = 0 ∧ n = 0 ∧ t = ⟨#[]⟩ ∧ m = 0 := by
  unfold readV at h
  split at h
  · simp only [Prod.mk.injEq] at h; obtain ⟨rfl, rfl, rfl, rfl, rfl, rfl⟩ := h; exact ⟨rfl, rfl, rfl, rfl, rfl⟩
  · split at h
    · simp only [Prod.mk.injEq] at h; exact absurd h.2.2.2.2.2.symm hf
    · simp only [Prod.mk.injEq] at h; obtain ⟨rfl, rfl, rfl, rfl, rfl, rfl⟩ := h; exact ⟨rfl, rfl, rfl, rfl, rfl⟩
theorem read_good {s : ByteArray} {k a n m f : Int} {t : ByteArray} (h : readV s = (k, a, n, t, m, f)) (hf : f = 0) :
    OKs k a n t ∧ 0 ≤ m ∧ m ≤ s.size ∧ enc k a n t = s.extract 0 m.toNat := by
  unfold readV at h
  split at h
  · simp only [Prod.mk.injEq] at h; omega
  · rename_i hc
    split at h
    · rename_i ho
      have hA := A16_range s 9
      simp only [Prod.mk.injEq] at h
      obtain ⟨rfl, rfl, rfl, rfl, rfl, -⟩ := h
      refine ⟨ho, by omega, by omega, ?_⟩
      apply eq_of_bytes
      rw [enc, bytesOf_str _ (encL_range _ _ _ _), bytesOf_extract, encL]
      have hlen : (s.extract 11 (11 + A16 s 9).toNat).size = (A16 s 9).toNat := by rw [ByteArray.size_extract]; omega
      rw [hlen, bytesOf_extract, Int.toNat_of_nonneg hA.1]
      have hB : ∀ i, bt s i = rd (bytesOf s) i := fun i => (rd_bytesOf s i).symm
      have hr : ∀ i, 0 ≤ rd (bytesOf s) i ∧ rd (bytesOf s) i ≤ 255 := fun i => by rw [← hB]; exact bt_range s i
      have hn : 11 ≤ (bytesOf s).length := by rw [bytesOf_length]; omega
      have hk : (11 + A16 s 9).toNat - 11 = (A16 s 9).toNat := by omega
      have hk' : (11 + A16 s 9).toNat - 0 = (A16 s 9).toNat + 11 := by omega
      rw [hk, hk', List.drop_zero]
      generalize hq : (A16 s 9).toNat = q
      unfold A32 A16
      simp only [hB]
      generalize bytesOf s = l at hr hn
      match l, hn with
      | x0 :: x1 :: x2 :: x3 :: x4 :: x5 :: x6 :: x7 :: x8 :: x9 :: x10 :: l, _ =>
        have r0 := hr 0; have r1 := hr 1; have r2 := hr 2; have r3 := hr 3; have r4 := hr 4; have r5 := hr 5; have r6 := hr 6; have r7 := hr 7; have r8 := hr 8; have r9 := hr 9; have r10 := hr 10
        change 0 ≤ x0 ∧ x0 ≤ 255 at r0
        change 0 ≤ x1 ∧ x1 ≤ 255 at r1
        change 0 ≤ x2 ∧ x2 ≤ 255 at r2
        change 0 ≤ x3 ∧ x3 ≤ 255 at r3
        change 0 ≤ x4 ∧ x4 ≤ 255 at r4
        change 0 ≤ x5 ∧ x5 ≤ 255 at r5
        change 0 ≤ x6 ∧ x6 ≤ 255 at r6
        change 0 ≤ x7 ∧ x7 ≤ 255 at r7
        change 0 ≤ x8 ∧ x8 ≤ 255 at r8
        change 0 ≤ x9 ∧ x9 ≤ 255 at r9
        change 0 ≤ x10 ∧ x10 ≤ 255 at r10
        show [x0 % 256, (((x4 * 256 + x3) * 256 + x2) * 256 + x1) % 256, (((x4 * 256 + x3) * 256 + x2) * 256 + x1) / 256 % 256, (((x4 * 256 + x3) * 256 + x2) * 256 + x1) / 65536 % 256, (((x4 * 256 + x3) * 256 + x2) * 256 + x1) / 16777216 % 256,
          (((x8 * 256 + x7) * 256 + x6) * 256 + x5) % 256, (((x8 * 256 + x7) * 256 + x6) * 256 + x5) / 256 % 256, (((x8 * 256 + x7) * 256 + x6) * 256 + x5) / 65536 % 256, (((x8 * 256 + x7) * 256 + x6) * 256 + x5) / 16777216 % 256,
          (x10 * 256 + x9) % 256, (x10 * 256 + x9) / 256 % 256] ++ List.take q l = x0 :: x1 :: x2 :: x3 :: x4 :: x5 :: x6 :: x7 :: x8 :: x9 :: x10 :: List.take q l
        simp only [List.cons_append, List.nil_append, List.cons.injEq, and_true]
        refine ⟨by omega, by omega, by omega, by omega, by omega, by omega, by omega, by omega, by omega, by omega, by omega⟩
    · simp only [Prod.mk.injEq] at h; omega
end Bk
end Go.Proofs.YtaodaeehndocgaaGreat
