import Derived.Test.YtnjmcppljbkhnaaYha
import Derived.Test.YtnjmcppljbkhnaaYk
set_option linter.unusedVariables false
set_option linter.unusedSimpArgs false
namespace Go.Proofs.Ytnjmcppljbkhnaa
open Go.RowKit
/-- the cells after k stores of the first loop, and of the second. -/
def cl15 (f : Nat → Nat) : Nat → Nat → Nat
  | 0 => f
  | k + 1 => upd (cl15 f k) (4 * k + 3) (cl15 f k (4 * k + 3) % 16)
def cl252 (f : Nat → Nat) : Nat → Nat → Nat
  | 0 => f
  | k + 1 => upd (cl252 f k) (4 * k + 4) (cl252 f k (4 * k + 4) / 4 * 4)
theorem cl15_lt (f : Nat → Nat) (h : ∀ i, f i < 256) (k i : Nat) : cl15 f k i < 256 := by
  induction k generalizing i with
  | zero => exact h i
  | succ k ih => exact upd_lt _ _ _ ih (by omega) i
theorem cl252_lt (f : Nat → Nat) (h : ∀ i, f i < 256) (k i : Nat) : cl252 f k i < 256 := by
  induction k generalizing i with
  | zero => exact h i
  | succ k ih => exact upd_lt _ _ _ ih (by have := ih (4 * k + 4); omega) i
theorem cl_rN (key : ByteArray) : leB (cl252 (cl15 (at8 key) 4) 3) 16 = rN key := by
  unfold rN
  refine leB_congr' _ _ _ (fun i hi => ?_)
  have h : i = 0 ∨ i = 1 ∨ i = 2 ∨ i = 3 ∨ i = 4 ∨ i = 5 ∨ i = 6 ∨ i = 7 ∨ i = 8 ∨ i = 9 ∨ i = 10 ∨ i = 11 ∨ i = 12 ∨ i = 13 ∨ i = 14 ∨ i = 15 := by omega
  rcases h with rfl | rfl | rfl | rfl | rfl | rfl | rfl | rfl | rfl | rfl | rfl | rfl | rfl | rfl | rfl | rfl <;> simp [cl15, cl252, upd, rB]
theorem and252 : ∀ x, x < 256 → x &&& 252 = x / 4 * 4 := by decide +kernel
theorem at8_extract0 (s : ByteArray) (a i : Nat) (h : i < a) (ha : a ≤ s.size) : at8 (s.extract 0 a) i = at8 s i := by
  unfold at8
  simp [List.getD_eq_getElem?_getD]
  rw [List.getElem?_take_of_lt h, Array.getElem?_toList]
theorem at8_cut (s : ByteArray) (a b i : Nat) (h : i < b - a) (hb : b ≤ s.size) : at8 (s.extract a b) i = at8 s (a + i) := by
  unfold at8
  simp [List.getD_eq_getElem?_getD]
  rw [List.getElem?_take_of_lt h, List.getElem?_drop, Array.getElem?_toList]
/-- the digits of a block and a 1 behind them. -/
theorem blkN_dig (s : ByteArray) (k : Nat) (h : 16 * k < s.size) : valD (digS (blkS s 16 k ++ ⟨#[1]⟩) (blkS s 16 k ++ ⟨#[1]⟩).size) = blkN s k := by
  have hc : cutAt s 16 k = 16 * k := by unfold cutAt; omega
  have hc1 := cutAt_next s 16 k
  have hm : (blkS s 16 k).size = min 16 (s.size - 16 * k) := by rw [blkS_size]; omega
  have hsz : (blkS s 16 k ++ ⟨#[1]⟩).size = (blkS s 16 k).size + 1 := by rw [ByteArray.size_append]; rfl
  rw [valD_digS, hsz]
  unfold blkN
  rw [← leB_more (pB s (16 * k) (min 16 (s.size - 16 * k))) ((blkS s 16 k).size + 1) 17 (by omega) (fun i h1 h2 => by
    unfold pB; rw [if_neg (by omega), if_neg (by omega)])]
  refine leB_congr' _ _ _ (fun i hi => ?_)
  unfold pB
  by_cases hi2 : i < (blkS s 16 k).size
  · rw [at8_left _ _ _ hi2, if_pos (by omega)]
    unfold blkS
    rw [at8_cut _ _ _ _ (by omega) (cutAt_le _ _ _), hc]
  · rw [at8_right _ _ _ (by omega), if_neg (by omega), if_pos (by omega), show i - (blkS s 16 k).size = 0 by omega]
    rfl
theorem nblk_of (s : ByteArray) (n : Nat) (h : cutAt s 16 n = s.size) (hp : ∀ k, k < n → cutAt s 16 k < s.size) : n = nblk s := by
  unfold cutAt at h hp
  unfold nblk
  rcases Nat.eq_zero_or_pos n with rfl | hn
  · omega
  · have := hp (n - 1) (by omega)
    omega
theorem valD_digit (L : List Nat) (hd : ∀ d ∈ L, d < 256) (i : Nat) : valD L / 256 ^ i % 256 = L.getD i 0 := by
  induction L generalizing i with
  | nil => simp [valD]
  | cons d t ih =>
    have h1 := hd d (by simp)
    cases i with
    | zero => simp only [valD, List.getD_cons_zero, Nat.pow_zero, Nat.div_one]; omega
    | succ i =>
      rw [List.getD_cons_succ, ← ih (fun x hx => hd x (by simp [hx])) i, Nat.pow_succ, Nat.mul_comm, ← Nat.div_div_eq_div_mul]
      congr 2
      simp only [valD]
      omega
theorem low_digit (A i : Nat) (h : i < 16) : A % 340282366920938463463374607431768211456 / 256 ^ i % 256 = A / 256 ^ i % 256 := by
  have e : (340282366920938463463374607431768211456 : Nat) = 256 ^ i * 256 ^ (16 - i) := by
    rw [← Nat.pow_add, show i + (16 - i) = 16 by omega]
  rw [e, Nat.mod_mul_right_div_self]
  exact Nat.mod_mod_of_dvd _ ⟨256 ^ (15 - i), by rw [← Nat.pow_succ', show (15 - i).succ = 16 - i by omega]⟩
theorem sN_dig (key : ByteArray) (hk : key.size = 32) : valD (digS (key.extract 16 key.size) (key.extract 16 key.size).size) = sN (key.extract 16 key.size) := by
  rw [valD_digS]
  have e : (key.extract 16 key.size).size = 16 := by simp; omega
  rw [e]
  generalize key.extract 16 key.size = s
  unfold sN lw
  simp only [leB, Nat.reduceAdd, Nat.reducePow]
  omega
theorem tagS_of (key text : ByteArray) (L : List Nat) (hd : ∀ d ∈ L, d < 256) (h : valD L = accN (rN key) text (nblk text) + sN (key.extract 16 key.size)) : strB 16 (fun i => L.getD i 0) = tagS key text := by
  unfold tagS
  refine strB_congr (fun i hi => ?_)
  unfold bytesN tagN
  rw [low_digit _ _ hi, ← h, valD_digit L hd]
theorem IR.congr {w : World} {g n : Nat} {f f' : Nat → Nat} (h : IR w g n f) (e : ∀ i, i < n → f i = f' i) : IR w g n f' := ⟨h.1, fun i hi => by rw [← e i hi]; exact h.2 i hi⟩
end Go.Proofs.Ytnjmcppljbkhnaa
