import Derived.Test.YtoomhlbebifklaaGreatDoorM
import Derived.Laws.IdiomStrings
import Derived.Laws.BytesArg
set_option linter.unusedVariables false
set_option linter.unusedSimpArgs false
namespace Go.Proofs.YtoomhlbebifklaaGreatDoor.Cha
open Go.RowKit

/-- byte i of a string, as a number. -/
def at8 (s : ByteArray) (i : Nat) : Nat := (s.data.toList.getD i 0).toNat
theorem at8_lt (s : ByteArray) (i : Nat) : at8 s i < 256 := (s.data.toList.getD i 0).toNat_lt
theorem at8_get (s : ByteArray) (i : Nat) (h : i < s.size) : s[i].toNat = at8 s i := by
  unfold at8
  rw [List.getD_eq_getElem?_getD, List.getElem?_eq_getElem (by simpa using h)]
  rfl
/-- four bytes, the lowest first. -/
def lw (s : ByteArray) (i : Nat) : Nat := at8 s i + 256 * at8 s (i + 1) + 65536 * at8 s (i + 2) + 16777216 * at8 s (i + 3)
theorem lw_lt (s : ByteArray) (i : Nat) : lw s i < 4294967296 := by
  have := at8_lt s i; have := at8_lt s (i + 1); have := at8_lt s (i + 2); have := at8_lt s (i + 3)
  unfold lw; omega
theorem or_add (k a b : Nat) (h : b < 2 ^ k) : b ||| a * 2 ^ k = b + a * 2 ^ k := by
  rw [Nat.or_comm, Nat.mul_comm, ← Nat.two_pow_add_eq_or_of_lt h]; omega
theorem add_or (k a b : Nat) (h : b < 2 ^ k) : a * 2 ^ k ||| b = a * 2 ^ k + b := by
  rw [Nat.mul_comm, ← Nat.two_pow_add_eq_or_of_lt h]
theorem lw_bits (b0 b1 b2 b3 : Nat) (h0 : b0 < 256) (h1 : b1 < 256) (h2 : b2 < 256) (h3 : b3 < 256) :
    bits BinOp.or IntKind.u32 (bits BinOp.or IntKind.u32 (bits BinOp.or IntKind.u32 ((b0 : Int) % 4294967296) ((b1 : Int) % 4294967296 * 256 % 4294967296)) ((b2 : Int) % 4294967296 * 65536 % 4294967296)) ((b3 : Int) % 4294967296 * 16777216 % 4294967296)
      = ((b0 + 256 * b1 + 65536 * b2 + 16777216 * b3 : Nat) : Int) := by
  have e0 : (b0 : Int) % 4294967296 = ((b0 : Nat) : Int) := by omega
  have e1 : (b1 : Int) % 4294967296 * 256 % 4294967296 = ((b1 * 2 ^ 8 : Nat) : Int) := by omega
  have e2 : (b2 : Int) % 4294967296 * 65536 % 4294967296 = ((b2 * 2 ^ 16 : Nat) : Int) := by omega
  have e3 : (b3 : Int) % 4294967296 * 16777216 % 4294967296 = ((b3 * 2 ^ 24 : Nat) : Int) := by omega
  rw [e0, e1, e2, e3, u32_or_nat _ _ (by omega) (by omega), or_add 8 _ _ (by omega), u32_or_nat _ _ (by omega) (by omega), or_add 16 _ _ (by omega), u32_or_nat _ _ (by omega) (by omega), or_add 24 _ _ (by omega)]
  omega
theorem lw_bits' (b0 b1 b2 b3 : Nat) (h0 : b0 < 256) (h1 : b1 < 256) (h2 : b2 < 256) (h3 : b3 < 256) :
    bits BinOp.or IntKind.u32 (bits BinOp.or IntKind.u32 (bits BinOp.or IntKind.u32 ((b3 : Int) % 4294967296 * 16777216 % 4294967296) ((b2 : Int) % 4294967296 * 65536 % 4294967296)) ((b1 : Int) % 4294967296 * 256 % 4294967296)) ((b0 : Int) % 4294967296)
      = ((b0 + 256 * b1 + 65536 * b2 + 16777216 * b3 : Nat) : Int) := by
  have e0 : (b0 : Int) % 4294967296 = ((b0 : Nat) : Int) := by omega
  have e1 : (b1 : Int) % 4294967296 * 256 % 4294967296 = ((b1 * 2 ^ 8 : Nat) : Int) := by omega
  have e2 : (b2 : Int) % 4294967296 * 65536 % 4294967296 = ((b2 * 2 ^ 16 : Nat) : Int) := by omega
  have e3 : (b3 : Int) % 4294967296 * 16777216 % 4294967296 = ((b3 * 2 ^ 24 : Nat) : Int) := by omega
  rw [e0, e1, e2, e3, u32_or_nat _ _ (by omega) (by omega), add_or 24 _ _ (by omega), show b3 * 2 ^ 24 + b2 * 2 ^ 16 = (b3 * 256 + b2) * 2 ^ 16 by omega, u32_or_nat _ _ (by omega) (by omega), add_or 16 _ _ (by omega), show (b3 * 256 + b2) * 2 ^ 16 + b1 * 2 ^ 8 = (b3 * 65536 + b2 * 256 + b1) * 2 ^ 8 by omega, u32_or_nat _ _ (by omega) (by omega), add_or 8 _ _ (by omega)]
  omega

def rotl (k x : Nat) : Nat := (x * 2 ^ k % 4294967296) ||| (x / 2 ^ (32 - k))
theorem rotl_lt (k x : Nat) (h : x < 4294967296) : rotl k x < 4294967296 := by
  unfold rotl
  exact Nat.or_lt_two_pow (n := 32) (Nat.mod_lt _ (by decide)) (Nat.lt_of_le_of_lt (Nat.div_le_self _ _) h)
theorem rotl_bits (k x : Nat) (h : x < 4294967296) (A D : Nat) (hA : 2 ^ k = A) (hD : 2 ^ (32 - k) = D) : bits BinOp.or IntKind.u32 ((x : Int) * (A : Int) % 4294967296) ((x : Int) / (D : Int)) = ((rotl k x : Nat) : Int) := by
  subst hA hD
  have e1 : (x : Int) * ((2 ^ k : Nat) : Int) % 4294967296 = ((x * 2 ^ k % 4294967296 : Nat) : Int) := by simp
  have e2 : (x : Int) / ((2 ^ (32 - k) : Nat) : Int) = ((x / 2 ^ (32 - k) : Nat) : Int) := by simp
  rw [e1, e2, u32_or_nat _ _ (Nat.mod_lt _ (by decide)) (Nat.lt_of_le_of_lt (Nat.div_le_self _ _) h)]
  rfl

theorem only_refl (w : World) (g : Nat) : w.grownBy w (some g) := ⟨rfl, rfl, rfl, Nat.le_refl _, fun _ _ _ => rfl⟩
theorem only_set {a w : World} {g : Nat} (h : a.grownBy w (some g)) (i : Nat) (u : Value) : a.grownBy (w.setCell ⟨g, i, none⟩ u) (some g) :=
  ⟨h.os, h.tape, h.output, by simpa [World.setCell] using h.size, fun k hk hne => (Below.heap_setCell w ⟨g, i, none⟩ u k (fun e => hne (by rw [e]))).trans (h.block k hk hne)⟩
theorem only_drewN {a w : World} {g : Nat} (h : a.grownBy w (some g)) (n : Nat) : a.grownBy (w.drewN n) (some g) := ⟨h.os, h.tape, h.output, h.size, h.block⟩
theorem only_drew {a w : World} {g : Nat} (h : a.grownBy w (some g)) : a.grownBy w.drew (some g) := ⟨h.os, h.tape, h.output, h.size, h.block⟩
theorem only_trans {a b c : World} {g : Nat} (h : a.grownBy b (some g)) (k : b.grownBy c (some g)) : a.grownBy c (some g) :=
  ⟨k.os.trans h.os, k.tape.trans h.tape, k.output.trans h.output, Nat.le_trans h.size k.size, fun i hi hne => (k.block i (Nat.lt_of_lt_of_le hi h.size) hne).trans (h.block i hi hne)⟩
theorem only_below {B g : Nat} {a w w' : World} (h : Below B a w) (hg : w.grownBy w' (some g)) (hB : B ≤ w.heap.size) (hr : B ≤ g) : Below B a w' :=
  h.grown hg hB (fun k hk => by injection hk with hk; omega)
theorem below_step {B : Nat} {w w1 w2 : World} (h : Below B w w1) (hB : B ≤ w.heap.size) (h' : Below w1.heap.size w1 w2) : Below B w w2 :=
  h.trans (h'.mono (Nat.le_trans hB h.size))
theorem below_drewN {B : Nat} {a w : World} (h : Below B a w) (n : Nat) : Below B a (w.drewN n) := ⟨h.os, h.tape, h.output, h.size, h.block⟩

set_option maxHeartbeats 1000000 in
theorem rot111_16 (x : Nat) (w : World) (hx : x < 4294967296) : Calls Tryz.prog 139 #[.int .u32 x, .int .i64 16] w fun e w' => e = .returned (.int .u32 (rotl 16 x : Nat)) ∧ w = w' := by
  have b16 : bits BinOp.and IntKind.u64 16 31 = 16 := by decide
  go_enter Tryz.func139, Tryz.ntmps139
  go_wp2
  go_ret
  exact ⟨ret_int (rotl_bits 16 x hx 65536 65536 (by decide) (by decide)), rfl⟩
set_option maxHeartbeats 1000000 in
theorem rot111_12 (x : Nat) (w : World) (hx : x < 4294967296) : Calls Tryz.prog 139 #[.int .u32 x, .int .i64 12] w fun e w' => e = .returned (.int .u32 (rotl 12 x : Nat)) ∧ w = w' := by
  have b16 : bits BinOp.and IntKind.u64 12 31 = 12 := by decide
  go_enter Tryz.func139, Tryz.ntmps139
  go_wp2
  go_ret
  exact ⟨ret_int (rotl_bits 12 x hx 4096 1048576 (by decide) (by decide)), rfl⟩
set_option maxHeartbeats 1000000 in
theorem rot111_8 (x : Nat) (w : World) (hx : x < 4294967296) : Calls Tryz.prog 139 #[.int .u32 x, .int .i64 8] w fun e w' => e = .returned (.int .u32 (rotl 8 x : Nat)) ∧ w = w' := by
  have b16 : bits BinOp.and IntKind.u64 8 31 = 8 := by decide
  go_enter Tryz.func139, Tryz.ntmps139
  go_wp2
  go_ret
  exact ⟨ret_int (rotl_bits 8 x hx 256 16777216 (by decide) (by decide)), rfl⟩
set_option maxHeartbeats 1000000 in
theorem rot111_7 (x : Nat) (w : World) (hx : x < 4294967296) : Calls Tryz.prog 139 #[.int .u32 x, .int .i64 7] w fun e w' => e = .returned (.int .u32 (rotl 7 x : Nat)) ∧ w = w' := by
  have b16 : bits BinOp.and IntKind.u64 7 31 = 7 := by decide
  go_enter Tryz.func139, Tryz.ntmps139
  go_wp2
  go_ret
  exact ⟨ret_int (rotl_bits 7 x hx 128 33554432 (by decide) (by decide)), rfl⟩
set_option maxHeartbeats 1000000 in
theorem littleWord86 (s : ByteArray) (w : World) (hs : 4 ≤ s.size) :
    Calls Tryz.prog 127 #[.string s] w fun e w' => e = .returned (.int .u32 (lw s 0 : Nat)) ∧ ∃ n, w' = w.drewN n := by
  have h0 : 0 < s.size := by omega
  have h1 : 1 < s.size := by omega
  have h2 : 2 < s.size := by omega
  have h3 : 3 < s.size := by omega
  have i0 : (0 : Int) < (s.size : Int) := by omega
  have i1 : (1 : Int) < (s.size : Int) := by omega
  have i2 : (2 : Int) < (s.size : Int) := by omega
  have i3 : (3 : Int) < (s.size : Int) := by omega
  go_enter Tryz.func127, Tryz.ntmps127
  go_wp2
  go_quiet (fail)
  go_wp2
  go_ret
  refine ⟨ret_int ?_, _, rfl⟩
  rw [at8_get s 0 h0, at8_get s 1 h1, at8_get s 2 h2, at8_get s 3 h3]
  exact lw_bits _ _ _ _ (at8_lt _ _) (at8_lt _ _) (at8_lt _ _) (at8_lt _ _)

end Go.Proofs.YtoomhlbebifklaaGreatDoor.Cha
