import Derived.Test.YtnjmcppljbkhnaaI
import Derived.Lib.BufferWrite
import Derived.Deep.DeepCutAuto
set_option linter.unusedVariables false
set_option linter.unusedSimpArgs false
namespace Go.Proofs.Ytnjmcppljbkhnaa
open Go.RowKit

/-- the clamped bytes of r. -/
def rB (key : ByteArray) (i : Nat) : Nat := if i % 4 = 3 then at8 key i % 16 else if i % 4 = 0 ∧ i ≠ 0 then at8 key i / 4 * 4 else at8 key i
/-- a number out of its digits, the lowest first. -/
def leB (f : Nat → Nat) : Nat → Nat
  | 0 => 0
  | n + 1 => leB f n + f n * 256 ^ n
def rN (key : ByteArray) : Nat := leB (rB key) 16
/-- the bytes of a block, and a 1 behind them. -/
def pB (s : ByteArray) (o m : Nat) : Nat → Nat := fun i => if i < m then at8 s (o + i) else if i = m then 1 else 0
def blkN (s : ByteArray) (k : Nat) : Nat := leB (pB s (16 * k) (min 16 (s.size - 16 * k))) 17
def accN (r : Nat) (s : ByteArray) : Nat → Nat
  | 0 => 0
  | k + 1 => (accN r s k + blkN s k) * r % P130
def nblk (s : ByteArray) : Nat := (s.size + 15) / 16
def tagN (key s : ByteArray) : Nat := (accN (rN key) s (nblk s) + sN (key.extract 16 key.size)) % 340282366920938463463374607431768211456
def TS (w : World) (R h : Nat → Nat) (wr : World) : Prop := Below w.heap.size w wr ∧ w.heap.size + 3 ≤ wr.heap.size ∧ Blk wr w.heap.size 86 (row8 16 fun _ => 0) ∧ Blk wr (w.heap.size + 1) 128 (row64 R) ∧ Blk wr (w.heap.size + 1 + 1) 128 (row64 h)


theorem and_fc (x : Nat) : x &&& 268435452 = x % 268435456 / 4 * 4 := by
  apply Nat.eq_of_testBit_eq
  intro i
  rw [Nat.testBit_and, show (268435452 : Nat) = (2 ^ 26 - 1) * 2 ^ 2 by decide, show x % 268435456 / 4 * 4 = (x % 2 ^ 28 / 2 ^ 2) * 2 ^ 2 by rfl, Nat.testBit_mul_two_pow, Nat.testBit_mul_two_pow, Nat.testBit_two_pow_sub_one, Nat.testBit_div_two_pow, Nat.testBit_mod_two_pow]
  by_cases h : 2 ≤ i
  · rw [show i - 2 + 2 = i by omega]
    by_cases h2 : i < 28
    · simp [h, h2, show i - 2 < 26 by omega]
    · simp [h, h2, show ¬ i - 2 < 26 by omega]
  · simp [h]
theorem clampA (x : Nat) (h : x < 4294967296) : bits BinOp.and IntKind.u64 (IntKind.u64.wrap (x : Int)) 268435455 = ((x % 268435456 : Nat) : Int) := by
  rw [wrap64, show (x : Int) % 18446744073709551616 = (x : Int) by omega]
  have := u64_and_nat x 268435455 (by omega) (by decide)
  rw [show x &&& 268435455 = x % 268435456 from Nat.and_two_pow_sub_one_eq_mod x 28] at this
  exact this
theorem clampB (x : Nat) (h : x < 4294967296) : bits BinOp.and IntKind.u64 (IntKind.u64.wrap (x : Int)) 268435452 = ((x % 268435456 / 4 * 4 : Nat) : Int) := by
  rw [wrap64, show (x : Int) % 18446744073709551616 = (x : Int) by omega]
  have := u64_and_nat x 268435452 (by omega) (by decide)
  rw [and_fc] at this
  exact this
theorem limb_or (a b M B k : Nat) (hk : B = 2 ^ k) (ha : a / M < B) (hb : a / M + b * B < 18446744073709551616) :
    bits BinOp.and IntKind.u64 (bits BinOp.or IntKind.u64 ((a : Int) / (M : Int)) (IntKind.u64.wrap ((b : Int) * (B : Int)))) 67108863 = (((a / M + b * B) % 67108864 : Nat) : Int) := by
  have e0 : (a : Int) / (M : Int) = ((a / M : Nat) : Int) := by simp
  have e1 : (b : Int) * (B : Int) = ((b * B : Nat) : Int) := by simp
  rw [wrap64, e0, e1]
  subst hk
  generalize a / M = x at *
  have e2 : ((b * 2 ^ k : Nat) : Int) % 18446744073709551616 = ((b * 2 ^ k : Nat) : Int) := by omega
  rw [e2, u64_or_nat _ _ (by omega) (by omega), or_add k _ _ ha, low26 _ hb]
/-- the limbs of r. -/
def rL (a b c d : Nat) : Nat → Nat := fun i => [a % 67108864, (a / 67108864 + b * 64) % 67108864, (b / 1048576 + c * 4096) % 67108864, (c / 16384 + d * 262144) % 67108864, d / 256].getD i 0
theorem rL_val (a b c d : Nat) (ha : a < 268435456) (hb : b < 268435456) (hc : c < 268435456) : val5 (rL a b c d) = a + b * 4294967296 + c * 18446744073709551616 + d * 79228162514264337593543950336 := by
  unfold val5 rL
  simp only [List.getD_cons_zero, List.getD_cons_succ]
  have e1 : (a / 67108864 + b * 64) % 67108864 = a / 67108864 + b % 1048576 * 64 := by omega
  have e2 : (b / 1048576 + c * 4096) % 67108864 = b / 1048576 + c % 16384 * 4096 := by omega
  have e3 : (c / 16384 + d * 262144) % 67108864 = c / 16384 + d % 256 * 262144 := by omega
  rw [e1, e2, e3]
  omega
theorem rL_lt (a b c d : Nat) (hd : d < 268435456) (i : Nat) (hi : i < 5) : rL a b c d i < 2 ^ 26 := by
  have hi' : i = 0 ∨ i = 1 ∨ i = 2 ∨ i = 3 ∨ i = 4 := by omega
  unfold rL
  rcases hi' with rfl | rfl | rfl | rfl | rfl <;> simp only [List.getD_cons_zero, List.getD_cons_succ, List.getD_nil] <;> omega
def rA (key : ByteArray) : Nat := lw key 0 % 268435456
def rX (key : ByteArray) (i : Nat) : Nat := lw key i % 268435456 / 4 * 4
def rF (key : ByteArray) : Nat → Nat := rL (rA key) (rX key 4) (rX key 8) (rX key 12)
theorem rF_val (key : ByteArray) : val5 (rF key) = rN key := by
  have h : ∀ i, at8 key i < 256 := at8_lt key
  have h0 := h 0; have h1 := h 1; have h2 := h 2; have h3 := h 3; have h4 := h 4; have h5 := h 5; have h6 := h 6; have h7 := h 7
  have h8 := h 8; have h9 := h 9; have h10 := h 10; have h11 := h 11; have h12 := h 12; have h13 := h 13; have h14 := h 14; have h15 := h 15
  have a0 : rA key = at8 key 0 + 256 * at8 key 1 + 65536 * at8 key 2 + 16777216 * (at8 key 3 % 16) := by unfold rA lw; simp only [Nat.zero_add]; omega
  have a4 : rX key 4 = at8 key 4 / 4 * 4 + 256 * at8 key 5 + 65536 * at8 key 6 + 16777216 * (at8 key 7 % 16) := by unfold rX lw; simp only [Nat.reduceAdd]; omega
  have a8 : rX key 8 = at8 key 8 / 4 * 4 + 256 * at8 key 9 + 65536 * at8 key 10 + 16777216 * (at8 key 11 % 16) := by unfold rX lw; simp only [Nat.reduceAdd]; omega
  have a12 : rX key 12 = at8 key 12 / 4 * 4 + 256 * at8 key 13 + 65536 * at8 key 14 + 16777216 * (at8 key 15 % 16) := by unfold rX lw; simp only [Nat.reduceAdd]; omega
  have l0 : rA key < 268435456 := Nat.mod_lt _ (by decide)
  have l4 : rX key 4 < 268435456 := by unfold rX; omega
  have l8 : rX key 8 < 268435456 := by unfold rX; omega
  unfold rF rN
  rw [rL_val _ _ _ _ l0 l4 l8, a0, a4, a8, a12]
  simp only [leB, rB]
  simp
  omega
theorem rF_lt (key : ByteArray) (i : Nat) (hi : i < 5) : rF key i < 2 ^ 26 := rL_lt _ _ _ _ (by unfold rX; omega) i hi
/-- the limbs of a block. -/
def bL (f : Nat → Nat) : Nat → Nat := fun i => [lwF f 0 % 67108864, lwF f 3 / 4 % 67108864, lwF f 6 / 16 % 67108864, lwF f 9 / 64 % 67108864, lwF f 12 / 256 + f 16 * 16777216].getD i 0
theorem bL_val (f : Nat → Nat) (hf : ∀ i, f i < 256) : val5 (bL f) = leB f 17 := by
  have h := limbs_of_bytes (f 0) (f 1) (f 2) (f 3) (f 4) (f 5) (f 6) (f 7) (f 8) (f 9) (f 10) (f 11) (f 12) (f 13) (f 14) (f 15) (f 16) (hf _) (hf _) (hf _) (hf _) (hf _) (hf _) (hf _) (hf _) (hf _) (hf _) (hf _) (hf _) (hf _) (hf _) (hf _) (hf _)
  unfold val5 bL lwF
  simp only [List.getD_cons_zero, List.getD_cons_succ, Nat.zero_add, Nat.reduceAdd]
  rw [h]
  clear h hf
  simp only [leB, Nat.reducePow, Nat.pow_zero, Nat.pow_one, Nat.mul_one, Nat.zero_add]
  omega
theorem bL_lt (f : Nat → Nat) (hf : ∀ i, f i < 256) (h16 : f 16 ≤ 1) (i : Nat) (hi : i < 5) : bL f i < 67108864 := by
  have hi' : i = 0 ∨ i = 1 ∨ i = 2 ∨ i = 3 ∨ i = 4 := by omega
  have h12 := hf 12; have h13 := hf 13; have h14 := hf 14; have h15 := hf 15
  unfold bL
  rcases hi' with rfl | rfl | rfl | rfl | rfl <;> simp only [List.getD_cons_zero, List.getD_cons_succ, List.getD_nil] <;> (try unfold lwF) <;> (try simp only [Nat.reduceAdd]) <;> omega
theorem pB_lt (s : ByteArray) (o m i : Nat) : pB s o m i < 256 := by
  unfold pB
  split
  · exact at8_lt _ _
  · split <;> decide
end Go.Proofs.Ytnjmcppljbkhnaa
