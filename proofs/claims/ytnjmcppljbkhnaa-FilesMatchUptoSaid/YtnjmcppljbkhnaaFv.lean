import Derived.Test.YtnjmcppljbkhnaaFt
import Derived.Test.YtnjmcppljbkhnaaFq
set_option linter.unusedVariables false
set_option linter.unusedSimpArgs false
namespace Go.Proofs.Ytnjmcppljbkhnaa
open Go.RowKit
/-- how many bytes the first i pieces have; how many parts were given then; what was given. -/
def fI (xs : List ByteArray) (i : Nat) : Nat := (catS (xs.take i)).size
def pI (xs : List ByteArray) (i : Nat) : Nat := (fI xs i - 1) / 1024
def rI (xs : List ByteArray) (i : Nat) : ByteArray := (catS xs).extract (1024 * pI xs i) (fI xs i)
def oI (c nonce : ByteArray) (xs : List ByteArray) (i : Nat) : ByteArray := if i = 0 then ByteArray.empty else fileN c (markS ++ nonce) (catS xs) (nparts (catS xs)) (pI xs i)
theorem fI_le (xs : List ByteArray) (i : Nat) : fI xs i ≤ (catS xs).size := by
  have h := congrArg ByteArray.size (catS_split xs i)
  rw [ByteArray.size_append] at h
  unfold fI; omega
theorem fI_zero (xs : List ByteArray) : fI xs 0 = 0 := rfl
theorem fI_all (xs : List ByteArray) : fI xs xs.length = (catS xs).size := by unfold fI; rw [List.take_length]
theorem fI_next (xs : List ByteArray) (i : Nat) (t : ByteArray) (h : xs[i]? = some t) : fI xs (i + 1) = fI xs i + t.size := by
  unfold fI; rw [catS_next xs i t h, ByteArray.size_append]
theorem piece_at (xs : List ByteArray) (i : Nat) (t : ByteArray) (h : xs[i]? = some t) : (catS xs).extract (fI xs i) (fI xs i + t.size) = t := by
  have h1 := catS_split xs (i + 1)
  rw [catS_next xs i t h] at h1
  rw [h1]
  exact mid_of _ _ _
theorem oI_next (c nonce : ByteArray) (xs : List ByteArray) (i : Nat) (t : ByteArray) (h : xs[i]? = some t) (hn : nonce.size = 12) (m : Nat) (hm : ((rI xs i ++ t).size - 1) / 1024 = m) :
    pI xs (i + 1) = pI xs i + m ∧ (rI xs i ++ t).extract (1024 * m) (rI xs i ++ t).size = rI xs (i + 1) ∧ oI c nonce xs i ++ wrN c (markS ++ nonce) (if decide (0 < i) = true then ByteArray.empty else markS ++ nonce) (pI xs i) (rI xs i ++ t) m = oI c nonce xs (i + 1) := by
  have hle := fI_le xs (i + 1)
  have hnx := fI_next xs i t h
  rw [hnx] at hle
  obtain ⟨hR, hp, he⟩ := piece_more (catS xs) t (fI xs i) (pI xs i) m rfl hle (piece_at xs i t h) (rI xs i ++ t) rfl hm
  have hp2 : pI xs (i + 1) = pI xs i + m := by rw [hp]; unfold pI; rw [hnx]
  refine ⟨hp2, ?_, ?_⟩
  · rw [he]; unfold rI; rw [hp2, hnx]
  · have hw := wrN_on c (markS ++ nonce) (catS xs) (rI xs i ++ t) (pI xs i) (fI xs i + t.size) m hR hle (by omega) (by rw [hp]; omega)
    have ho : oI c nonce xs i ++ (if decide (0 < i) = true then ByteArray.empty else markS ++ nonce) = fileN c (markS ++ nonce) (catS xs) (nparts (catS xs)) (pI xs i) := by
      unfold oI
      by_cases hi : i = 0
      · subst hi
        rw [if_pos rfl, if_neg (by simp), show pI xs 0 = 0 from by unfold pI; rw [fI_zero]]
        exact ByteArray.empty_append
      · rw [if_neg hi, if_pos (by simp; omega)]
        exact ByteArray.append_empty
    rw [wrN_base, ← ByteArray.append_assoc, ho, ← wrN_base, hw]
    unfold oI
    rw [if_neg (by omega), hp2]
theorem rI_size (xs : List ByteArray) (i : Nat) : (rI xs i).size = fI xs i - 1024 * pI xs i ∧ (rI xs i).size ≤ 1024 := by
  have h := fI_le xs i
  have e : (rI xs i).size = fI xs i - 1024 * pI xs i := by unfold rI; simp; omega
  refine ⟨e, ?_⟩
  rw [e]; unfold pI; omega
/-- what was given is the file up to a part. -/
theorem oI_file (c nonce : ByteArray) (xs : List ByteArray) (i : Nat) (hn : nonce.size = 12) (hi : 0 < i) : (oI c nonce xs i).size = 20 + pI xs i * 1040 ∧ (fileB c nonce (catS xs)).extract 0 (20 + pI xs i * 1040) = oI c nonce xs i ∧ 20 + pI xs i * 1040 ≤ (fileB c nonce (catS xs)).size := by
  have hle := fI_le xs i
  have hpn : pI xs i ≤ nparts (catS xs) := by unfold pI nparts; omega
  have hcut : cutAt (catS xs) 1024 (pI xs i) = pI xs i * 1024 := by unfold cutAt pI; omega
  have ho : oI c nonce xs i = fileN c (markS ++ nonce) (catS xs) (nparts (catS xs)) (pI xs i) := if_neg (by omega)
  have e1 := fileN_exact c (markS ++ nonce) (catS xs) (nparts (catS xs)) (pI xs i)
  rw [show (markS ++ nonce).size = 20 by rw [mark_size]; omega, hcut] at e1
  have e2 := file_upto c nonce (catS xs) hn (pI xs i) hpn
  rw [hcut, show 20 + pI xs i * 1024 + 16 * pI xs i = 20 + pI xs i * 1040 by omega] at e2
  refine ⟨by rw [ho, e1]; omega, by rw [ho]; exact e2, ?_⟩
  rw [file_total c nonce _ hn]
  have : 1024 * pI xs i ≤ (catS xs).size := by unfold pI; omega
  omega
theorem oI_end (c nonce : ByteArray) (xs : List ByteArray) : oI c nonce xs xs.length ++ ((if decide (0 < xs.length) = true then ByteArray.empty else markS ++ nonce) ++ partB c (markS ++ nonce) (pI xs xs.length) true (rI xs xs.length)) = fileB c nonce (catS xs) := by
  have hs := seal_fileN c (markS ++ nonce) (catS xs) (pI xs xs.length) (by unfold pI; rw [fI_all])
  have hr : rI xs xs.length = (catS xs).extract (1024 * pI xs xs.length) (catS xs).size := by unfold rI; rw [fI_all]
  have hw := wrN_fileN c (markS ++ nonce) (catS xs) (pI xs xs.length) (pI xs xs.length) (by unfold pI; rw [fI_all]; omega) (Nat.le_refl _)
  have hn : nparts (catS xs) = pI xs xs.length + 1 := by rw [nparts_m]; unfold pI; rw [fI_all]
  have ho : oI c nonce xs xs.length ++ (if decide (0 < xs.length) = true then ByteArray.empty else markS ++ nonce) = fileN c (markS ++ nonce) (catS xs) (nparts (catS xs)) (pI xs xs.length) := by
    unfold oI
    by_cases hi : xs.length = 0
    · rw [if_pos hi, if_neg (by simp [hi])]
      have : pI xs xs.length = 0 := by unfold pI; rw [hi, fI_zero]
      rw [this]
      exact ByteArray.empty_append
    · rw [if_neg hi, if_pos (by simp; omega)]
      exact ByteArray.append_empty
  rw [← ByteArray.append_assoc, ho, hn, ← hw, hr, hs]
  rfl
end Go.Proofs.Ytnjmcppljbkhnaa
