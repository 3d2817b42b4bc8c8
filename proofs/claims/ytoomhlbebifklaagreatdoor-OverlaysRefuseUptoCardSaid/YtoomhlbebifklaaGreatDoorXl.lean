import Derived.Test.YtoomhlbebifklaaGreatDoorAa
set_option linter.unusedVariables false
set_option linter.unusedSimpArgs false
namespace Go.Proofs.YtoomhlbebifklaaGreatDoor
open Go.RowKit
set_option maxRecDepth 100000 in
set_option maxHeartbeats 4000000 in
theorem baseBits32_ok (w : World) : Calls Tryz.prog 106 #[.int .i64 32] w fun e w' => e = .returned (.int .i64 5) ∧ w' = w := by
  go_enter Tryz.func106, Tryz.ntmps106
  go_wp2_with fail
  go_ret
  exact ⟨rfl, rfl⟩
set_option maxRecDepth 100000 in
set_option maxHeartbeats 4000000 in
theorem baseDigits32_ok (w : World) : Calls Tryz.prog 107 #[.int .i64 32] w fun e w' => ∃ dg : ByteArray, e = .returned (.string dg) ∧ dg.size = 32 ∧ w' = w := by
  go_enter Tryz.func107, Tryz.ntmps107
  go_wp2_with fail
  go_ret
  exact ⟨_, rfl, by decide, rfl⟩
theorem i64_and_at (a k : Nat) (ha : a < 9223372036854775808) (hk : k < 9223372036854775808) : bits .and .i64 (a : Int) (k : Int) = ((a &&& k : Nat) : Int) := by
  have hx : a &&& k < 2 ^ 63 := Nat.and_lt_two_pow _ hk
  show IntKind.i64.wrap ((BitVec.ofInt 64 (a : Int) &&& BitVec.ofInt 64 (k : Int)).toNat : Nat) = _
  rw [BitVec.toNat_and, BitVec.ofInt_natCast, BitVec.ofInt_natCast, BitVec.toNat_ofNat, BitVec.toNat_ofNat, Nat.mod_eq_of_lt (by omega), Nat.mod_eq_of_lt (by omega)]
  exact IntWalk.i64_in _ (by omega)
/-- what a mask leaves of a number. -/
theorem mask_some (a k : Nat) (K : Int) (ha : a < 9223372036854775808) (hk : k < 9223372036854775808) (hK : (k : Int) = K) : ∃ r : Nat, bits .and .i64 (a : Int) K = (r : Int) ∧ r ≤ k := ⟨a &&& k, by rw [← hK]; exact i64_and_at a k ha hk, Nat.and_le_right⟩
theorem or_byte (x y : Nat) (hy : y < 256) : (x * 256) ||| y = x * 256 + y := by
  have := Nat.shiftLeft_add_eq_or_of_lt (show y < 2 ^ 8 by omega) x
  rw [Nat.shiftLeft_eq, show (2 : Nat) ^ 8 = 256 from rfl] at this
  exact this.symm
set_option maxRecDepth 100000 in
set_option maxHeartbeats 8000000 in
theorem encode32_ok (s : ByteArray) (w : World) (hs : s.size = 17) : Calls Tryz.prog 84 #[.int .i64 32, .string s] w fun e w' => ∃ t : ByteArray, e = .returned (.tuple #[.string t, .int .i64 0]) ∧ t.size = 28 ∧ Below w.heap.size w w' := by
  obtain ⟨i0, hi0, hi1, hi2, hi3⟩ := info_parts info5
  obtain ⟨w0, hmk, hO, hG⟩ := run_make_own (P := Tryz.prog) (w := w) w.heap.size 149 5 i0 (.int .u8 0) 1 Tryz.underlying149 hi0 hi1 hi2 .i64 .i64 28 (by rw [hi3]; omega) (by unfold maxLen; omega) (Nat.le_refl _)
  rw [show ((28 : Nat) : Int) = 28 from rfl] at hmk
  have HO := Lib.hid hO
  have HB := Lib.hid ((Below.refl w.heap.size w).grown hG (Nat.le_refl _) (by intro q hq; cases hq))
  clear hO hG
  have hs0 : (s.size : Int) = 17 := by omega
  have HIX := Lib.hid (fun (k : Nat) (b : UInt8) (h : s.data.toList[k]? = some b) w => index_at s k b h w)
  have HL := Lib.hid (show s.data.toList.length = 17 by rw [← Lib.size_eq]; exact hs)
  clear hs
  go_enter Tryz.func84, Tryz.ntmps84
  go_wp2_with fail
  refine (baseBits32_ok w).mono ?_
  rintro e w1 ⟨rfl, rfl⟩
  go_wp2_with fail
  refine (baseDigits32_ok w1).mono ?_
  rintro e w2 ⟨dg, rfl, hdg, rfl⟩
  have HDG := Lib.hid (fun (k : Nat) (b : UInt8) (h : dg.data.toList[k]? = some b) w => index_at dg k b h w)
  have HDL := Lib.hid (show dg.data.toList.length = 32 by rw [← Lib.size_eq]; exact hdg)
  clear hdg
  go_wp2_with fail
  clear hmk
  go_loopw [8, 9, 10, 32] (fun v b m i wr => ∃ k mm len bt : Nat, ∃ l : List UInt8, i = .int .i64 (k : Int) ∧ m = .int .i64 (mm : Int) ∧ b = .int .i64 (bt : Int) ∧ k ≤ 17 ∧ 8 * k = 5 * len + mm ∧ mm < 5 ∧ bt ≤ 15 ∧ wr.ownsRow w2.heap.size 5 1 v len (Lib.byteCells l) ∧ l.length = len ∧ Below w2.heap.size w2 wr) (fun _ _ _ i _ => 17 - (intOf i).toNat)
  case atStart => exact ⟨0, 0, 0, 0, [], rfl, rfl, rfl, by omega, by omega, by omega, by omega, by simpa [Lib.byteCells] using HO.out, rfl, HB.out⟩
  case round =>
    clear HO HB
    obtain ⟨k, mm, len, bt, l, rfl, rfl, rfl, hk, heq, hmm, hbt, hO, hl, hB⟩ := hrel
    have HO := Lib.hid hO
    have HB := Lib.hid hB
    have HEQ := Lib.hid heq
    have HLL := Lib.hid hl
    clear hO hB heq hl
    by_cases hlt : k < 17
    · have hd : decide ((k : Int) < 17) = true := decide_eq_true (by omega)
      obtain ⟨c, hc⟩ : ∃ c, s.data.toList[k]? = some c := ⟨_, List.getElem?_eq_getElem (by rw [HL.out]; omega)⟩
      have hix := HIX.out k c hc
      have hcl := c.toNat_lt
      clear hc
      have hor : bits .or .i64 ((bt : Int) * 256) (c.toNat : Int) = ((bt * 256 + c.toNat : Nat) : Int) := by
        have := i64_or_nat (bt * 256) c.toNat (by omega) (by omega)
        rw [or_byte bt c.toNat (by omega)] at this
        simpa using this
      obtain ⟨b2, hb2⟩ : ∃ b2 : Nat, bt * 256 + c.toNat = b2 := ⟨_, rfl⟩
      have hb2l : b2 ≤ 5000 := by omega
      rw [hb2] at hor
      clear hb2
      go_wp2_with fail
      obtain ⟨wo, hwo⟩ : ∃ wo : World, wo = wr := ⟨_, rfl⟩
      subst hwo
      go_loopw [8, 10] (fun v m wr => ∃ mm2 len2 : Nat, ∃ l2 : List UInt8, m = .int .i64 (mm2 : Int) ∧ 8 * (k + 1) = 5 * len2 + mm2 ∧ mm2 ≤ 12 ∧ wr.ownsRow w2.heap.size 5 1 v len2 (Lib.byteCells l2) ∧ l2.length = len2 ∧ Below w2.heap.size w2 wr) (fun _ m _ => (intOf m).toNat)
      case atStart => exact ⟨mm + 8, len, l, by go_num, by have := HEQ.out; omega, by omega, HO.out, HLL.out, HB.out⟩
      case round =>
        clear HO HB HEQ HLL
        obtain ⟨m2, len2, l2, rfl, heq, hm2, hO, hl, hB⟩ := hrel
        have HO := Lib.hid hO
        have HB := Lib.hid hB
        have HEQ := Lib.hid heq
        have HLL := Lib.hid hl
        have hlen : len2 ≤ 1000 := by omega
        clear hO hB heq hl
        by_cases hge : 5 ≤ m2
        · have hd2 : decide ((m2 : Int) ≥ 5) = true := decide_eq_true (by omega)
          have hge' : (m2 : Int) ≥ 5 := by omega
          obtain ⟨d, hdd⟩ : ∃ d : Nat, m2 = d + 5 := ⟨m2 - 5, by omega⟩
          have hd5 : (m2 : Int) - 5 = (d : Int) := by omega
          have hd7 : d ≤ 7 := by omega
          obtain ⟨x, hxx⟩ : ∃ x : Nat, b2 / 2 ^ d = x := ⟨_, rfl⟩
          have hxl : x ≤ b2 := by rw [← hxx]; exact Nat.div_le_self _ _
          have hsh : (b2 : Int) / 2 ^ d = (x : Int) := by rw [← hxx]; simp
          clear hxx
          obtain ⟨q, hq, hq31⟩ := mask_some x 31 31 (by omega) (by decide) rfl
          obtain ⟨dc, hdc⟩ : ∃ dc, dg.data.toList[q]? = some dc := ⟨_, List.getElem?_eq_getElem (by rw [HDL.out]; omega)⟩
          have hdi := HDG.out q dc hdc
          clear hdc
          have HDD := Lib.hid hdd
          clear hdd
          go_wp2_with (at_builtin; refine wpList_append_lies _ rfl _ _ 149 rfl w2.heap.size 5 i0 (.int .u8 0) 1 1 Tryz.underlying149 hi0 hi1 hi2 hi3 rfl (by decide) _ _ _ rfl (HO.out.alloc _) _ 1 1 [.int .u8 (dc.toNat : Int)] (by rfl) (by rfl) (World.news_of_block (cs := #[.int .u8 (dc.toNat : Int)]) (t := 5) (fr := (0, 0)) (heap_alloc_new _ _)) (by simp [Value.oneCell']) (by decide) (by unfold maxLen; omega) (by omega) ?c5 _ rfl ?_)
          case c5 => exact Nat.le_trans HB.out.size (by simp)
          intro g2 cap2 w3 hown hgrow hat hltg
          have HB2 := Lib.hid (own_grown (HB.out.alloc HB.out.size _) (HO.out.alloc _) hgrow (Nat.le_trans HB.out.size (by simp)))
          have HO2 := Lib.hid (show w3.ownsRow w2.heap.size 5 1 (.slice (some ⟨g2, 0, none⟩) (len2 + 1) cap2) (len2 + 1) (Lib.byteCells (l2 ++ [dc])) from by
            have e : Lib.byteCells (l2 ++ [dc]) = Lib.byteCells l2 ++ [.int .u8 (dc.toNat : Int)] := by simp [Lib.byteCells]
            rw [e]; exact hown)
          clear HO HB hown hgrow hat hltg
          go_wp2_with fail
          go_roundw
          case rel => exact ⟨d, len2 + 1, l2 ++ [dc], by go_num, by have := HEQ.out; have := HDD.out; omega, by omega, HO2.out, by rw [List.length_append, HLL.out]; rfl, HB2.out⟩
          case measure => have := HDD.out; simp [intOf]; omega
        · have hd2 : decide ((m2 : Int) ≥ 5) = false := decide_eq_false (by omega)
          have hge' : ¬ (m2 : Int) ≥ 5 := by omega
          have hcase : m2 = 0 ∨ m2 = 1 ∨ m2 = 2 ∨ m2 = 3 ∨ m2 = 4 := by omega
          rcases hcase with rfl | rfl | rfl | rfl | rfl
          · obtain ⟨r, hr, hr1⟩ := mask_some b2 0 0 (by omega) (by decide) rfl
            go_wp2_with fail
            go_roundw
            case rel => exact ⟨k + 1, 0, len2, r, l2, by go_num, rfl, by rfl, by omega, HEQ.out, by omega, by omega, HO.out, HLL.out, HB.out⟩
            case measure => simp [intOf]; omega
          · obtain ⟨r, hr, hr1⟩ := mask_some b2 1 1 (by omega) (by decide) rfl
            go_wp2_with fail
            go_roundw
            case rel => exact ⟨k + 1, 1, len2, r, l2, by go_num, rfl, by rfl, by omega, HEQ.out, by omega, by omega, HO.out, HLL.out, HB.out⟩
            case measure => simp [intOf]; omega
          · obtain ⟨r, hr, hr1⟩ := mask_some b2 3 3 (by omega) (by decide) rfl
            go_wp2_with fail
            go_roundw
            case rel => exact ⟨k + 1, 2, len2, r, l2, by go_num, rfl, by rfl, by omega, HEQ.out, by omega, by omega, HO.out, HLL.out, HB.out⟩
            case measure => simp [intOf]; omega
          · obtain ⟨r, hr, hr1⟩ := mask_some b2 7 7 (by omega) (by decide) rfl
            go_wp2_with fail
            go_roundw
            case rel => exact ⟨k + 1, 3, len2, r, l2, by go_num, rfl, by rfl, by omega, HEQ.out, by omega, by omega, HO.out, HLL.out, HB.out⟩
            case measure => simp [intOf]; omega
          · obtain ⟨r, hr, hr1⟩ := mask_some b2 15 15 (by omega) (by decide) rfl
            go_wp2_with fail
            go_roundw
            case rel => exact ⟨k + 1, 4, len2, r, l2, by go_num, rfl, by rfl, by omega, HEQ.out, by omega, by omega, HO.out, HLL.out, HB.out⟩
            case measure => simp [intOf]; omega
    · have hd : decide ((k : Int) < 17) = false := decide_eq_false (by omega)
      have heq := HEQ.out
      obtain rfl : mm = 1 := by omega
      obtain rfl : len = 27 := by omega
      clear heq
      obtain ⟨x, hxx⟩ : ∃ x : Nat, bt * 16 = x := ⟨_, rfl⟩
      have hsh : (bt : Int) * 16 = (x : Int) := by omega
      obtain ⟨q, hq, hq31⟩ := mask_some x 31 31 (by omega) (by decide) rfl
      clear hxx
      obtain ⟨dc, hdc⟩ : ∃ dc, dg.data.toList[q]? = some dc := ⟨_, List.getElem?_eq_getElem (by rw [HDL.out]; omega)⟩
      have hdi := HDG.out q dc hdc
      clear hdc
      go_wp2_with (at_builtin; refine wpList_append_lies _ rfl _ _ 149 rfl w2.heap.size 5 i0 (.int .u8 0) 1 1 Tryz.underlying149 hi0 hi1 hi2 hi3 rfl (by decide) _ _ _ rfl (HO.out.alloc _) _ 1 1 [.int .u8 (dc.toNat : Int)] (by rfl) (by rfl) (World.news_of_block (cs := #[.int .u8 (dc.toNat : Int)]) (t := 5) (fr := (0, 0)) (heap_alloc_new _ _)) (by simp [Value.oneCell']) (by decide) (by unfold maxLen; omega) (by omega) ?c6 _ rfl ?_)
      case c6 => exact Nat.le_trans HB.out.size (by simp)
      intro g2 cap2 w3 hown hgrow hat hltg
      have HB2 := Lib.hid (own_grown (HB.out.alloc HB.out.size _) (HO.out.alloc _) hgrow (Nat.le_trans HB.out.size (by simp)))
      have HO2 := Lib.hid (show w3.ownsRow w2.heap.size 5 1 (.slice (some ⟨g2, 0, none⟩) (27 + 1) cap2) (27 + 1) (Lib.byteCells (l ++ [dc])) from by
        have e : Lib.byteCells (l ++ [dc]) = Lib.byteCells l ++ [.int .u8 (dc.toNat : Int)] := by simp [Lib.byteCells]
        rw [e]; exact hown)
      have hcv := own_conv HO2.out
      clear HO HB hown hgrow hat hltg
      go_wp2_with fail
      go_ret2
      refine ⟨_, rfl, ?_, HB2.out⟩
      rw [Lib.size_eq]
      simp [HLL.out]
end Go.Proofs.YtoomhlbebifklaaGreatDoor
