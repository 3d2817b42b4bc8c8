import Derived.Test.YtpjnjhklkgefcaaGreatDoorM
set_option linter.unusedVariables false
set_option linter.unusedSimpArgs false
namespace Go.Proofs.YtpjnjhklkgefcaaGreatDoor
open Go.RowKit
theorem i64_and_nat (a b : Nat) (ha : a < 9223372036854775808) (hb : b < 9223372036854775808) : bits .and .i64 (a : Int) (b : Int) = ((a &&& b : Nat) : Int) := by
  have hx : a &&& b < 2 ^ 63 := Nat.and_lt_two_pow _ hb
  show IntKind.i64.wrap ((BitVec.ofInt 64 (a : Int) &&& BitVec.ofInt 64 (b : Int)).toNat : Nat) = _
  rw [BitVec.toNat_and, BitVec.ofInt_natCast, BitVec.ofInt_natCast, BitVec.toNat_ofNat, BitVec.toNat_ofNat, Nat.mod_eq_of_lt (by omega), Nat.mod_eq_of_lt (by omega)]
  exact IntWalk.i64_in _ (by omega)
theorem mask_not (a b : Nat) (ha : a < 4096) (hb : b < 4096) : a &&& (18446744073709551615 - b) = a &&& (4095 - b) := by
  have h1 : a = a &&& 4095 := by
    rw [show (4095 : Nat) = 2 ^ 12 - 1 from rfl, Nat.and_two_pow_sub_one_eq_mod, Nat.mod_eq_of_lt (by omega)]
  have h2 : 4095 &&& (18446744073709551615 - b) = 4095 - b := by
    rw [Nat.and_comm, show (4095 : Nat) = 2 ^ 12 - 1 from rfl, Nat.and_two_pow_sub_one_eq_mod]
    omega
  conv => lhs; rw [h1, Nat.and_assoc, h2]
theorem i64_andNot_nat (a b : Nat) (ha : a < 4096) (hb : b < 4096) : bits .andNot .i64 (a : Int) (b : Int) = ((a &&& (4095 - b) : Nat) : Int) := by
  have hx : a &&& (4095 - b) < 2 ^ 12 := Nat.and_lt_two_pow _ (by omega)
  show IntKind.i64.wrap ((BitVec.ofInt 64 (a : Int) &&& ~~~BitVec.ofInt 64 (b : Int)).toNat : Nat) = _
  rw [BitVec.toNat_and, BitVec.toNat_not, BitVec.ofInt_natCast, BitVec.ofInt_natCast, BitVec.toNat_ofNat, BitVec.toNat_ofNat, Nat.mod_eq_of_lt (by omega), Nat.mod_eq_of_lt (by omega)]
  rw [show (2 : Nat) ^ 64 - 1 - b = 18446744073709551615 - b from rfl, mask_not a b ha hb]
  exact IntWalk.i64_in _ (by omega)
/-- what a right number of features is. -/
structure HasOK (m : Nat) : Prop where
  lt : m < 4096
  ver : m &&& 1024 = 0
  mov : m &&& 64 = 64 ∨ m &&& 2048 = 0
  tim : m &&& 4 = 4 ∨ m &&& 8 = 0
/-- a number of features ahead of the last two changes. -/
structure Has0 (m : Nat) : Prop where
  lt : m < 4096
  ver : m &&& 1024 = 0
  mov : m &&& 64 = 64
  tim : m &&& 4 = 4
theorem Has0.wide : Has0 3071 := ⟨by decide, by decide, by decide, by decide⟩
theorem Has0.ok {m : Nat} (h : Has0 m) : HasOK m := ⟨h.lt, h.ver, Or.inl h.mov, Or.inl h.tim⟩
theorem and_swap (m c k : Nat) : m &&& c &&& k = (m &&& k) &&& c := by rw [Nat.and_assoc, Nat.and_comm c k, ← Nat.and_assoc]
theorem Has0.clear {m : Nat} (h : Has0 m) (c : Nat) (h64 : 64 &&& c = 64) (h4 : 4 &&& c = 4) : Has0 (m &&& c) :=
  ⟨Nat.lt_of_le_of_lt Nat.and_le_left h.lt, by rw [and_swap, h.ver, Nat.zero_and], by rw [and_swap, h.mov, h64], by rw [and_swap, h.tim, h4]⟩
/-- the change of the moves. -/
theorem HasOK.noMove {m : Nat} (h : HasOK m) : HasOK (m &&& 1983) := by
  refine ⟨Nat.lt_of_le_of_lt Nat.and_le_left h.lt, by rw [and_swap, h.ver, Nat.zero_and], Or.inr ?_, ?_⟩
  · rw [Nat.and_assoc, show (1983 : Nat) &&& 2048 = 0 from rfl, Nat.and_zero]
  · rcases h.tim with h4 | h8
    · exact Or.inl (by rw [and_swap, h4]; rfl)
    · exact Or.inr (by rw [and_swap, h8, Nat.zero_and])
/-- the change of the times. -/
theorem HasOK.noTime {m : Nat} (h : HasOK m) : HasOK (m &&& 4083) := by
  refine ⟨Nat.lt_of_le_of_lt Nat.and_le_left h.lt, by rw [and_swap, h.ver, Nat.zero_and], ?_, Or.inr ?_⟩
  · rcases h.mov with h4 | h8
    · exact Or.inl (by rw [and_swap, h4]; rfl)
    · exact Or.inr (by rw [and_swap, h8, Nat.zero_and])
  · rw [Nat.and_assoc, show (4083 : Nat) &&& 8 = 0 from rfl, Nat.and_zero]
theorem HasOK.keep {m : Nat} (h : HasOK m) : m &&& 3071 = m := by
  have h1 : m = m &&& 4095 := by
    rw [show (4095 : Nat) = 2 ^ 12 - 1 from rfl, Nat.and_two_pow_sub_one_eq_mod, Nat.mod_eq_of_lt h.lt]
  have h2 : m &&& 4095 = (m &&& 3071) ||| (m &&& 1024) := by rw [← Nat.and_or_distrib_left]; rfl
  rw [h.ver, Nat.or_zero] at h2
  rw [← h2, ← h1]
theorem HasOK.andNot1024 {m : Nat} (h : HasOK m) : bits .andNot .i64 (m : Int) 1024 = (m : Int) := by
  rw [show (1024 : Int) = ((1024 : Nat) : Int) from rfl, i64_andNot_nat m 1024 h.lt (by decide), show 4095 - 1024 = 3071 from rfl, h.keep]
theorem and_test {m : Nat} (b : Nat) (h : m < 4096) (hb : b < 4096) : bits .and .i64 (m : Int) (b : Int) = ((m &&& b : Nat) : Int) := i64_and_nat m b (by omega) (by omega)
end Go.Proofs.YtpjnjhklkgefcaaGreatDoor
