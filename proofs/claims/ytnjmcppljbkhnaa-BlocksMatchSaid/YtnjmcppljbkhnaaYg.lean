import Derived.Test.YtnjmcppljbkhnaaYf
set_option linter.unusedVariables false
set_option linter.unusedSimpArgs false
namespace Go.Proofs.Ytnjmcppljbkhnaa
open Go.RowKit
/-- digit i of a number modulo 2^130. -/
def lowD (a : List Nat) (i : Nat) : Nat := if i < 16 then a.getD i 0 else if i = 16 then a.getD i 0 % 4 else 0
/-- digit i of a number over 2^130. -/
def highD (a : List Nat) (i : Nat) : Nat := a.getD (16 + i) 0 / 4 + a.getD (16 + i + 1) 0 % 4 * 64
theorem valD_take_drop (a : List Nat) (k : Nat) : valD a = valD (a.take k) + 256 ^ k * valD (a.drop k) := by
  induction k generalizing a with
  | zero => simp [valD]
  | succ k ih =>
    cases a with
    | nil => simp [valD]
    | cons d t =>
      simp only [List.take_succ_cons, List.drop_succ_cons, valD, Nat.pow_succ]
      rw [ih t, Nat.mul_add, Nat.add_assoc, ← Nat.mul_assoc, Nat.mul_comm 256 (256 ^ k)]
/-- the digits shifted by two bits. -/
theorem valD_shift (f : Nat → Nat) (n : Nat) (h : ∀ j, f j < 256) (h0 : f n = 0) : 4 * leB (fun i => f i / 4 + f (i + 1) % 4 * 64) n + f 0 % 4 = leB f n := by
  have key : ∀ m, 4 * leB (fun i => f i / 4 + f (i + 1) % 4 * 64) m + f 0 % 4 = leB f m + 256 ^ m * (f m % 4) := by
    intro m
    induction m with
    | zero => simp [leB]
    | succ m ih =>
      rw [leB, leB, Nat.mul_add, Nat.pow_succ]
      have e : 4 * ((f m / 4 + f (m + 1) % 4 * 64) * 256 ^ m) + 256 ^ m * (f m % 4) = f m * 256 ^ m + 256 ^ m * 256 * (f (m + 1) % 4) := by
        generalize 256 ^ m = P
        have hm : f m = 4 * (f m / 4) + f m % 4 := by omega
        generalize f m / 4 = q at *
        generalize f m % 4 = r at *
        generalize f (m + 1) % 4 = s at *
        rw [hm, Nat.add_mul, Nat.add_mul, Nat.mul_add]
        have e1 : 4 * (q * P) = 4 * q * P := by rw [Nat.mul_assoc]
        have e2 : 4 * (s * 64 * P) = P * 256 * s := by
          rw [show P * 256 * s = 256 * (s * P) by ac_rfl, show 4 * (s * 64 * P) = 4 * (64 * (s * P)) by ac_rfl]; omega
        rw [e1, e2, Nat.mul_comm P r]; omega
      omega
  have := key n
  rw [h0] at this
  simpa using this
theorem leB_add (f : Nat → Nat) (m n : Nat) : leB f (m + n) = leB f m + 256 ^ m * leB (fun i => f (m + i)) n := by
  induction n with
  | zero => simp [leB]
  | succ n ih =>
    rw [← Nat.add_assoc, leB, ih, leB, Nat.mul_add, Nat.pow_add]
    rw [show 256 ^ m * (f (m + n) * 256 ^ n) = f (m + n) * (256 ^ m * 256 ^ n) by ac_rfl]
    omega
theorem valD_getD (a : List Nat) (n : Nat) (h : a.length ≤ n) : valD a = leB (fun i => a.getD i 0) n := by
  have key : ∀ m, leB (fun i => a.getD i 0) m = valD (a.take m) := by
    intro m
    induction m with
    | zero => rfl
    | succ m ih => rw [leB, ih, valD_take, Nat.mul_comm]
  rw [key, List.take_of_length_le h]
/-- a number is its low part and 2^130 times its high part. -/
theorem low_high (a : List Nat) (n : Nat) (h : a.length ≤ 16 + n) (hd : ∀ d ∈ a, d < 256) : valD a = leB (lowD a) 17 + 1361129467683753853853498429727072845824 * leB (highD a) n := by
  rw [valD_getD a (16 + n) h, leB_add]
  have h1 := valD_shift (fun i => a.getD (16 + i) 0) n (fun j => getD_lt a hd _) (getD_none a _ (by omega))
  have h2 : leB (lowD a) 17 = leB (fun i => a.getD i 0) 16 + a.getD 16 0 % 4 * 256 ^ 16 := by
    rw [leB]
    congr 1
  rw [h2, ← h1]
  have h3 : leB (fun i => a.getD (16 + i) 0 / 4 + a.getD (16 + (i + 1)) 0 % 4 * 64) n = leB (highD a) n := rfl
  rw [h3]
  generalize leB (highD a) n = H
  simp only [Nat.add_zero]
  generalize a.getD 16 0 % 4 = g
  omega
end Go.Proofs.Ytnjmcppljbkhnaa
