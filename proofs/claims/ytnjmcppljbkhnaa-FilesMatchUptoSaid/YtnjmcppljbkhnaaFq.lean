import Derived.Test.YtnjmcppljbkhnaaFpa
import Derived.Test.YtnjmcppljbkhnaaFh
set_option linter.unusedVariables false
set_option linter.unusedSimpArgs false
namespace Go.Proofs.Ytnjmcppljbkhnaa
open Go.RowKit
theorem file_cut (c nonce text : ByteArray) (hn : nonce.size = 12) (a b : Nat) (hab : a ≤ b) (hb : b ≤ nparts text) :
    (fileB c nonce text).extract (20 + cutAt text 1024 a + 16 * a) (20 + cutAt text 1024 b + 16 * b) = pf c (markS ++ nonce) text (nparts text) a (b - a) := by
  have hh : (markS ++ nonce).size = 20 := by rw [mark_size]; omega
  have e1 : fileB c nonce text = fileN c (markS ++ nonce) text (nparts text) a ++ pf c (markS ++ nonce) text (nparts text) a (b - a) ++ pf c (markS ++ nonce) text (nparts text) b (nparts text - b) := by
    unfold fileB
    rw [← file_pf, show a + (b - a) = b by omega, ← file_pf, show b + (nparts text - b) = nparts text by omega]
  have e2 := fileN_exact c (markS ++ nonce) text (nparts text) a
  have e3 := fileN_exact c (markS ++ nonce) text (nparts text) b
  have e4 : (fileN c (markS ++ nonce) text (nparts text) b).size = (fileN c (markS ++ nonce) text (nparts text) a).size + (pf c (markS ++ nonce) text (nparts text) a (b - a)).size := by
    rw [← ByteArray.size_append, ← file_pf, show a + (b - a) = b by omega]
  rw [hh] at e2 e3
  rw [← e2, ← e3, e4, e1]
  exact mid_of _ _ _
theorem file_upto (c nonce text : ByteArray) (hn : nonce.size = 12) (k : Nat) (hk : k ≤ nparts text) :
    (fileB c nonce text).extract 0 (20 + cutAt text 1024 k + 16 * k) = fileN c (markS ++ nonce) text (nparts text) k := by
  have hh : (markS ++ nonce).size = 20 := by rw [mark_size]; omega
  have e2 := fileN_exact c (markS ++ nonce) text (nparts text) k
  rw [hh] at e2
  rw [← e2]
  have e1 : fileB c nonce text = fileN c (markS ++ nonce) text (nparts text) k ++ pf c (markS ++ nonce) text (nparts text) k (nparts text - k) := by
    unfold fileB
    rw [← file_pf, show k + (nparts text - k) = nparts text by omega]
  rw [e1]
  exact left_of _ _
theorem file_total (c nonce text : ByteArray) (hn : nonce.size = 12) : (fileB c nonce text).size = 20 + text.size + 16 * nparts text := by
  have e := fileN_exact c (markS ++ nonce) text (nparts text) (nparts text)
  rw [show (markS ++ nonce).size = 20 by rw [mark_size]; omega] at e
  unfold fileB
  rw [e]
  have : cutAt text 1024 (nparts text) = text.size := by unfold cutAt nparts; omega
  omega
theorem file_sl (c nonce text : ByteArray) (hn : nonce.size = 12) : ((fileB c nonce text).size : Int) = sl (text.size : Nat) := by
  rw [file_total c nonce text hn]; unfold sl nparts; omega
theorem file_head (c nonce text : ByteArray) (hn : nonce.size = 12) : (fileB c nonce text).extract 0 20 = markS ++ nonce := by
  have h := file_upto c nonce text hn 0 (by omega)
  rw [show cutAt text 1024 0 = 0 from by unfold cutAt; omega] at h
  exact h
theorem file_rest (c nonce text : ByteArray) (hn : nonce.size = 12) : (fileB c nonce text).extract 20 (fileB c nonce text).size = pf c (markS ++ nonce) text (nparts text) 0 (nparts text) := by
  have h := file_cut c nonce text hn 0 (nparts text) (by omega) (Nat.le_refl _)
  rw [show cutAt text 1024 0 = 0 from by unfold cutAt; omega, show cutAt text 1024 (nparts text) = text.size from by unfold cutAt nparts; omega, ← file_total c nonce text hn] at h
  exact h
theorem text_all (text : ByteArray) : text.extract (cutAt text 1024 0) (cutAt text 1024 (0 + nparts text)) = text := by
  rw [show cutAt text 1024 0 = 0 from by unfold cutAt; omega, show cutAt text 1024 (0 + nparts text) = text.size from by unfold cutAt nparts; omega]
  apply ByteArray.ext; simp
/-- what is needed of the file. -/
theorem need_bounds (text : ByteArray) (f m : Nat) (hm : 0 < m) (hf : f + m ≤ text.size) : ((ndA (f : Nat) : Int) = ((20 + cutAt text 1024 (f / 1024) + 16 * (f / 1024) : Nat) : Int)) ∧ (ndE (text.size : Nat) (f : Nat) (m : Nat) = ((20 + cutAt text 1024 ((f + m - 1) / 1024 + 1) + 16 * ((f + m - 1) / 1024 + 1) : Nat) : Int)) ∧ (f + m - 1) / 1024 + 1 ≤ nparts text ∧ f / 1024 ≤ (f + m - 1) / 1024 + 1 := by
  refine ⟨?_, ?_, ?_, ?_⟩
  · unfold ndA cutAt; omega
  · unfold ndE cutAt sl; omega
  · unfold nparts; omega
  · omega
theorem ext_eq (A : Array UInt8) (a b c d : Nat) (h1 : a = c) (h2 : b = d) : A.extract a b = A.extract c d := by rw [h1, h2]
theorem need_text (text : ByteArray) (f m x : Nat) (hm : 0 < m) (hf : f + m ≤ text.size) (hx : x = cutAt text 1024 ((f + m - 1) / 1024 + 1)) : ((text.extract (cutAt text 1024 (f / 1024)) x).extract (f - f / 1024 * 1024) (x - cutAt text 1024 (f / 1024))).extract 0 m = text.extract f (f + m) := by
  apply ByteArray.ext
  have e1 : text.data.size = text.size := rfl
  have h1 : cutAt text 1024 (f / 1024) = f / 1024 * 1024 := by unfold cutAt; omega
  have h2 : f + m ≤ x := by rw [hx]; unfold cutAt; omega
  simp only [ByteArray.data_extract, Array.extract_extract, h1]
  exact ext_eq _ _ _ _ _ (by omega) (by omega)
theorem wrN_prefix (c head base : ByteArray) (part : Nat) (R : ByteArray) (x k : Nat) (h : 1024 * k ≤ x) (hx : x ≤ R.size) : wrN c head base part (R.extract 0 x) k = wrN c head base part R k := by
  induction k with
  | zero => rfl
  | succ k ih =>
    rw [wrN, wrN, ih (by omega)]
    have e : (R.extract 0 x).extract (1024 * k) (1024 * k + 1024) = R.extract (1024 * k) (1024 * k + 1024) := by
      apply ByteArray.ext
      simp only [ByteArray.data_extract, Array.extract_extract]
      congr 1 <;> omega
    rw [e]
/-- a further piece: what was given, and what is given by it, are the file up to a later part. -/
theorem wrN_on (c head text R : ByteArray) (p x m : Nat) (hR : R = text.extract (1024 * p) x) (hx : x ≤ text.size) (hm : 1024 * (p + m) ≤ x) (hl : p + m ≤ (text.size - 1) / 1024) : wrN c head (fileN c head text (nparts text) p) p R m = fileN c head text (nparts text) (p + m) := by
  induction m with
  | zero => rfl
  | succ m ih =>
    rw [← Nat.add_assoc, wrN, fileN, ih (by omega) (by omega), decide_eq_false (by rw [nparts_m]; omega)]
    have e : R.extract (1024 * m) (1024 * m + 1024) = blkS text 1024 (p + m) := by
      rw [hR]
      unfold blkS cutAt
      apply ByteArray.ext
      simp only [ByteArray.data_extract, Array.extract_extract]
      congr 1 <;> omega
    rw [e]
/-- the pieces up to one, and one more. -/
theorem piece_more (text t : ByteArray) (f p m : Nat) (hp : p = (f - 1) / 1024) (hf : f + t.size ≤ text.size) (ht : text.extract f (f + t.size) = t) (R : ByteArray) (hR : text.extract (1024 * p) f ++ t = R) (hm : (R.size - 1) / 1024 = m) : R = text.extract (1024 * p) (f + t.size) ∧ p + m = (f + t.size - 1) / 1024 ∧ R.extract (1024 * m) R.size = text.extract (1024 * (p + m)) (f + t.size) := by
  have e1 : text.data.size = text.size := rfl
  have hRe : R = text.extract (1024 * p) (f + t.size) := by
    rw [← hR]
    conv => lhs; rhs; rw [← ht]
    apply ByteArray.ext
    simp only [ByteArray.data_extract, ByteArray.data_append]
    rw [Array.extract_append_extract]
    congr 1 <;> omega
  have hs : R.size = f + t.size - 1024 * p := by rw [hRe]; simp; omega
  refine ⟨hRe, by omega, ?_⟩
  have e2 : R.size ≤ f + t.size - 1024 * p := Nat.le_of_eq hs
  rw [hs]
  conv => lhs; arg 1; rw [hRe]
  apply ByteArray.ext
  simp only [ByteArray.data_extract, Array.extract_extract]
  exact ext_eq _ _ _ _ _ (by omega) (by omega)
end Go.Proofs.Ytnjmcppljbkhnaa
