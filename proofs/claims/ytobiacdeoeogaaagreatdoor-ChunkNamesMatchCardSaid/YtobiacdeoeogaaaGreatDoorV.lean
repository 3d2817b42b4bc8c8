import Derived.Test.YtobiacdeoeogaaaGreatDoorU
set_option linter.unusedVariables false
set_option linter.unusedSimpArgs false
namespace Go.Proofs.YtobiacdeoeogaaaGreatDoor
open Go.RowKit
/-- a step of a CRC. -/
def crcStep (v : Nat) : Nat := if v % 2 = 1 then (v / 2) ^^^ 3988292384 else v / 2
def crcN : Nat → Nat → Nat
  | 0, v => v
  | k + 1, v => crcN k (crcStep v)
theorem crcStep_lt {v : Nat} (h : v < 4294967296) : crcStep v < 4294967296 := by
  unfold crcStep; split
  · exact Nat.xor_lt_two_pow (n := 32) (by omega) (by decide)
  · omega
theorem crcN_lt : ∀ k {v : Nat}, v < 4294967296 → crcN k v < 4294967296
  | 0, _, h => h
  | k + 1, _, h => crcN_lt k (crcStep_lt h)
def crcB (s b : Nat) : Nat := crcN 8 (s ^^^ b)
theorem crcB_lt {s b : Nat} (h : s < 4294967296) (hb : b < 256) : crcB s b < 4294967296 :=
  crcN_lt 8 (Nat.xor_lt_two_pow (n := 32) h (by omega))
def crcL (s : Nat) (l : List UInt8) : Nat := l.foldl (fun v b => crcB v b.toNat) s
theorem crcL_lt : ∀ (l : List UInt8) {s : Nat}, s < 4294967296 → crcL s l < 4294967296
  | [], _, h => h
  | b :: l, _, h => crcL_lt l (crcB_lt h b.toNat_lt)
theorem crcL_snoc (s : Nat) (l : List UInt8) (b : UInt8) : crcL s (l ++ [b]) = crcB (crcL s l) b.toNat := by simp [crcL]
theorem and1 (v : Nat) (h : v < 4294967296) : bits .and .u32 (v : Int) 1 = ((v % 2 : Nat) : Int) := by
  rw [show (1 : Int) = ((1 : Nat) : Int) from rfl, u32_and_nat v 1 h (by decide), show (1 : Nat) = 2 ^ 1 - 1 from rfl, Nat.and_two_pow_sub_one_eq_mod]
set_option maxRecDepth 100000 in
set_option maxHeartbeats 4000000 in
theorem crcByte_ok (s b : Nat) (hs : s < 4294967296) (hb : b < 256) (w : World) : Calls Tryz.prog 232 #[.int .u32 (s : Int), .int .u8 (b : Int)] w fun e w' => e = .returned (.int .u32 (crcB s b : Nat)) ∧ w' = w := by
  have hx := u32_xor_nat s b hs (by omega)
  have HX := Lib.hid (Nat.xor_lt_two_pow (n := 32) hs (show b < 2 ^ 32 by omega))
  go_enter Tryz.func232, Tryz.ntmps232
  go_wp2_with fail
  have HE := Lib.hid (show crcN (8 - 0) (s ^^^ b) = crcB s b from rfl)
  generalize s ^^^ b = v0 at *
  clear hx
  go_loopw [0, 10] (fun v k wr => ∃ i, ∃ x : Nat, v = .int .u32 (x : Int) ∧ k = .int .i64 (i : Nat) ∧ i ≤ 8 ∧ x < 4294967296 ∧ crcN (8 - i) x = crcB s b ∧ wr = w) (fun v k _ => 8 - (intOf k).toNat)
  case atStart => exact ⟨0, v0, rfl, rfl, Nat.zero_le _, HX.out, HE.out, rfl⟩
  case round =>
    clear HE HX
    obtain ⟨i, x, rfl, rfl, hi, hx, hC, rfl⟩ := hrel
    have HC := Lib.hid hC
    clear hC
    by_cases hlt : i < 8
    · have hd : decide ((i : Int) < 8) = true := decide_eq_true (by omega)
      have ha := and1 x hx
      have HS := Lib.hid (show crcN (8 - (i + 1)) (crcStep x) = crcB s b from by
        have e : 8 - i = (8 - (i + 1)) + 1 := by omega
        rw [← HC.out, e]; rfl)
      have HL := Lib.hid (crcStep_lt hx)
      obtain ⟨y, hy0⟩ : ∃ y, y = x / 2 := ⟨_, rfl⟩
      have h2 : (x : Int) / 2 = (y : Int) := by omega
      have hy := u32_xor_nat y 3988292384 (by omega) (by decide)
      have e8 : ((3988292384 : Nat) : Int) = 3988292384 := rfl
      rw [e8] at hy
      by_cases hm : x % 2 = 1
      · have HV := Lib.hid (show crcStep x = y ^^^ 3988292384 from by unfold crcStep; rw [if_pos hm, hy0])
        rw [hm] at ha
        clear hy0 hm
        generalize y ^^^ 3988292384 = z at *
        go_wp2_with fail
        go_roundw
        case rel => exact ⟨i + 1, crcStep x, by rw [HV.out], by go_num, by omega, HL.out, HS.out, trivial⟩
        case measure => simp [intOf]; omega
      · have HV := Lib.hid (show crcStep x = y from by unfold crcStep; rw [if_neg hm, hy0])
        have hm0 : x % 2 = 0 := by omega
        rw [hm0] at ha
        clear hy0 hm hm0 hy
        go_wp2_with fail
        go_roundw
        case rel => exact ⟨i + 1, crcStep x, by rw [HV.out], by go_num, by omega, HL.out, HS.out, trivial⟩
        case measure => simp [intOf]; omega
    · have hd : decide ((i : Int) < 8) = false := decide_eq_false (by omega)
      have h8 := Lib.hid (show i = 8 by omega)
      go_wp2_with fail
      go_ret
      have h0 : x = crcB s b := by have := HC.out; rw [h8.out] at this; exact this
      exact ⟨by rw [h0]; rfl, rfl⟩
end Go.Proofs.YtobiacdeoeogaaaGreatDoor
