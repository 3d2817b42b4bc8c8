import Derived.Test.YtnjmcppljbkhnaaFo
import Derived.Test.YtnjmcppljbkhnaaR1
set_option linter.unusedVariables false
set_option linter.unusedSimpArgs false
namespace Go.Proofs.Ytnjmcppljbkhnaa
open Go.RowKit
/-- part j of the sealed file of a text of n parts. -/
def prt (c head text : ByteArray) (n j : Nat) : ByteArray := partB c head j (decide (j + 1 = n)) (blkS text 1024 j)
/-- q parts from part a on. -/
def pf (c head text : ByteArray) (n : Nat) : Nat → Nat → ByteArray
  | _, 0 => ByteArray.empty
  | a, q + 1 => prt c head text n a ++ pf c head text n (a + 1) q
theorem prt_size (c head text : ByteArray) (n j : Nat) : (prt c head text n j).size = (blkS text 1024 j).size + 16 := partB_size _ _ _ _ _
theorem prt_full (c head text : ByteArray) (j : Nat) (h : j + 1 < nparts text) : (prt c head text (nparts text) j).size = 1040 := by
  rw [prt_size]; rw [nparts_m] at h
  unfold blkS cutAt
  rw [Nat.min_eq_left (by omega), Nat.min_eq_left (by omega)]
  simp; omega
theorem prt_le (c head text : ByteArray) (n j : Nat) : 16 ≤ (prt c head text n j).size ∧ (prt c head text n j).size ≤ 1040 := by
  rw [prt_size]; have := blk_le text j; omega
theorem pf_size (c head text : ByteArray) (n a q : Nat) : 16 * q ≤ (pf c head text n a q).size ∧ (pf c head text n a q).size ≤ 1040 * q := by
  induction q generalizing a with
  | zero => exact ⟨Nat.le_refl _, Nat.le_refl _⟩
  | succ q ih => rw [pf, ByteArray.size_append]; have := ih (a + 1); have := prt_le c head text n a; omega
/-- the first of the parts: how many bytes the program takes. -/
theorem pf_take (c head text : ByteArray) (a q : Nat) (h : a + (q + 1) ≤ nparts text) : min 1040 (pf c head text (nparts text) a (q + 1)).size = (prt c head text (nparts text) a).size := by
  rw [pf, ByteArray.size_append]
  have h2 := prt_le c head text (nparts text) a
  cases q with
  | zero => rw [pf]; show min 1040 (_ + 0) = _; omega
  | succ q => have := prt_full c head text a (by omega); omega
theorem left_of (a b : ByteArray) : (a ++ b).extract 0 a.size = a := by
  apply ByteArray.ext; simp
theorem right_of (a b : ByteArray) : (a ++ b).extract a.size (a ++ b).size = b := extract_right a b
theorem pf_cat (c head text : ByteArray) (n a p q : Nat) : pf c head text n a (p + q) = pf c head text n a p ++ pf c head text n (a + p) q := by
  induction p generalizing a with
  | zero => rw [pf, Nat.zero_add]; exact ByteArray.empty_append.symm
  | succ p ih => rw [show p + 1 + q = (p + q) + 1 by omega, pf, pf, ih (a + 1), ByteArray.append_assoc, show a + 1 + p = a + (p + 1) by omega]
theorem file_pf (c head text : ByteArray) (n a q : Nat) : fileN c head text n (a + q) = fileN c head text n a ++ pf c head text n a q := by
  induction q generalizing a with
  | zero => rw [pf]; exact ByteArray.append_empty.symm
  | succ q ih =>
    rw [show a + (q + 1) = (a + 1) + q by omega, ih (a + 1), pf, ← ByteArray.append_assoc]; rfl
theorem fileN_exact (c head text : ByteArray) (n k : Nat) : (fileN c head text n k).size = head.size + cutAt text 1024 k + 16 * k := by
  induction k with
  | zero => rw [fileN]; unfold cutAt; omega
  | succ k ih =>
    have h1 := cutAt_next text 1024 k
    rw [fileN, ByteArray.size_append, partB_size, blkS_size, ih]; omega
theorem mid_of (x y z : ByteArray) : (x ++ y ++ z).extract x.size (x.size + y.size) = y := by
  rw [← ByteArray.size_append]
  have h : (x ++ y ++ z).extract 0 (x ++ y).size = x ++ y := left_of _ _
  apply ByteArray.ext
  have e1 : x.data.size = x.size := rfl
  have e2 : y.data.size = y.size := rfl
  simp only [ByteArray.data_extract, ByteArray.data_append, ByteArray.size_append]
  apply Array.ext'
  simp only [Array.toList_extract, List.extract_eq_take_drop, Array.toList_append]
  rw [List.append_assoc, List.drop_left' (by simp [e1]), Nat.add_sub_cancel_left, List.take_left' (by simp [e2])]
end Go.Proofs.Ytnjmcppljbkhnaa
