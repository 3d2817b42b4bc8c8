import Derived.Test.YtpjnjhklkgefcaaGreatDoorC
import Derived.Test.YtpjnjhklkgefcaaGreatDoorXb
import Derived.Deep.CutRange
set_option linter.unusedVariables false
set_option linter.unusedSimpArgs false
namespace Go.Proofs.YtpjnjhklkgefcaaGreatDoor
open Go.RowKit
theorem i64_and1 (n : Int) : bits .and .i64 n 1 = n % 2 := by
  have h127 : (BitVec.ofInt 64 1).toNat = 2 ^ 1 - 1 := by decide
  have key : (BitVec.ofInt 64 n &&& BitVec.ofInt 64 1).toNat = (n % ((2 ^ 64 : Nat) : Int)).toNat % 2 ^ 1 := by
    rw [BitVec.toNat_and, BitVec.toNat_ofInt, h127, Nat.and_two_pow_sub_one_eq_mod]
  show IntKind.i64.wrap ((BitVec.ofInt 64 n &&& BitVec.ofInt 64 1).toNat : Nat) = n % 2
  rw [key, IntKind.wrap_i64]
  omega
theorem i64_and3 (n : Int) : bits .and .i64 n 3 = n % 4 := by
  have h127 : (BitVec.ofInt 64 3).toNat = 2 ^ 2 - 1 := by decide
  have key : (BitVec.ofInt 64 n &&& BitVec.ofInt 64 3).toNat = (n % ((2 ^ 64 : Nat) : Int)).toNat % 2 ^ 2 := by
    rw [BitVec.toNat_and, BitVec.toNat_ofInt, h127, Nat.and_two_pow_sub_one_eq_mod]
  show IntKind.i64.wrap ((BitVec.ofInt 64 n &&& BitVec.ofInt 64 3).toNat : Nat) = n % 4
  rw [key, IntKind.wrap_i64]
  omega
/-- the features in the making. -/
abbrev frow (m : Nat) : Array Value := #[.int .i64 (m : Int), .int .i64 16, .int .i64 1, .int .i64 255, .int .i64 1024, .int .i64 100000, .int .i64 3, .int .i64 1, .string ⟨#[]⟩]
abbrev zrow : Array Value := #[.int .i64 0, .int .i64 0, .int .i64 0, .int .i64 0, .int .i64 0, .int .i64 0, .int .i64 0, .int .i64 0, .string ⟨#[]⟩]
abbrev brow : Array Value := #[.int .i64 1, .int .i64 2, .int .i64 8, .int .i64 32, .int .i64 2048, .int .i64 256, .int .i64 512, .int .i64 128]
theorem brow_at (i : Nat) (h : i < 8) : ∃ b : Nat, brow[i]? = some (.int .i64 (b : Int)) ∧ b < 4096 ∧ 64 &&& (4095 - b) = 64 ∧ 4 &&& (4095 - b) = 4 := by
  match i, h with
  | 0, _ => exact ⟨1, rfl, by decide, by decide, by decide⟩
  | 1, _ => exact ⟨2, rfl, by decide, by decide, by decide⟩
  | 2, _ => exact ⟨8, rfl, by decide, by decide, by decide⟩
  | 3, _ => exact ⟨32, rfl, by decide, by decide, by decide⟩
  | 4, _ => exact ⟨2048, rfl, by decide, by decide, by decide⟩
  | 5, _ => exact ⟨256, rfl, by decide, by decide, by decide⟩
  | 6, _ => exact ⟨512, rfl, by decide, by decide, by decide⟩
  | 7, _ => exact ⟨128, rfl, by decide, by decide, by decide⟩
abbrev prow : Array Value := #[.int .i64 1, .int .i64 10, .int .i64 1000]
/-- the memory in the loop. -/
structure FoM (zb fb sb m : Nat) (w wr : World) : Prop where
  hb : Below zb w wr
  hz : Blk wr zb 33 zrow
  hf : Blk wr fb 33 (frow m)
  hs : Blk wr sb 3 brow
  z1 : zb < fb
  z2 : fb < sb
theorem FoM.set {zb fb sb m : Nat} {w wr : World} (h : FoM zb fb sb m w wr) (n : Nat) : FoM zb fb sb n w (wr.setCell ⟨fb, 0, none⟩ (.int .i64 (n : Int))) := by
  have K := (Kp.refl [fb] wr).setCell ⟨fb, 0, none⟩ (.int .i64 (n : Int)) (Or.inl (by simp))
  exact ⟨h.hb.setCell (p := ⟨fb, 0, none⟩) (Nat.le_of_lt h.z1) _, K.blk h.hz (by have := h.z1; simp; omega), h.hf.set 0 (.int .i64 (n : Int)), K.blk h.hs (by have := h.z2; simp; omega), h.z1, h.z2⟩
set_option maxRecDepth 100000 in
set_option maxHeartbeats 4000000 in
theorem featuresOf_ok (n : Int) (w : World) (h1 : -9223372036854775808 ≤ n) (h2 : n ≤ 9223372036854775807) : Calls Tryz.prog 8 #[.int .i64 n] w fun e w' => ∃ (m : Nat) (pr pg : Int), e = .returned (.agg #[.int .i64 (m : Int), .int .i64 16, .int .i64 pr, .int .i64 255, .int .i64 1024, .int .i64 100000, .int .i64 pg, .int .i64 1, .string ⟨#[]⟩]) ∧ HasOK m ∧ 1 ≤ pr ∧ pr ≤ 1000 ∧ 1 ≤ pg ∧ pg ≤ 4 ∧ Below w.heap.size w w' := by
  go_enter Tryz.func8, Tryz.ntmps8
  go_wp2_with fail
  have HZ := Lib.hid (Blk.new w 33 zrow)
  have HB := Lib.hid ((Below.refl w.heap.size w).alloc (Nat.le_refl _) (.cells zrow 33))
  generalize (w.alloc (.cells zrow 33)) = w1 at *
  generalize hzb : w.heap.size = zb at *
  have HZB := Lib.hid hzb
  clear hzb
  refine (wide_ok w1).mono ?_
  rintro e w2 ⟨rfl, hb⟩
  have HZ2 := Lib.hid (HZ.out.below hb HZ.out.lt)
  have HB2 := Lib.hid (HB.out.trans (hb.mono (Nat.le_of_lt HZ.out.lt)))
  clear hb HZ HB
  go_upto_region 3 with (fail)
  have hs2 := Nat.le_of_lt HZ2.out.lt
  have HM := Lib.hid (show FoM zb w2.heap.size (w2.heap.size + 1) 3071 w ((w2.alloc (.cells (frow 3071) 33)).alloc (.cells brow 3)) from
    ⟨(HB2.out.alloc hs2 _).alloc (Nat.le_trans hs2 (by simp)) _, (HZ2.out.old _).old _, (Blk.new w2 _ _).old _, Blk.newAt (by simp), HZ2.out.lt, Nat.lt_succ_self _⟩)
  clear HZ2 HB2 hs2
  generalize ((w2.alloc (.cells (frow 3071) 33)).alloc (.cells brow 3)) = w3 at *
  generalize w2.heap.size + 1 = sb at *
  generalize w2.heap.size = fb at *
  go_loopw [9] (fun x wr => ∃ i m : Nat, x = .int .i64 (i : Int) ∧ i ≤ 8 ∧ Has0 m ∧ FoM zb fb sb m w wr) (fun x _ => 8 - (intOf x).toNat)
  case atStart => exact ⟨0, 3071, rfl, by omega, Has0.wide, HM.out⟩
  case round =>
    clear HM
    obtain ⟨i, m, rfl, hi, hm, hfm⟩ := hrel
    have HM := Lib.hid hfm
    have HO := Lib.hid hm
    clear hm hfm
    by_cases hlt : i < 8
    · have hd : decide ((i : Int) < 8) = true := decide_eq_true (by omega)
      obtain ⟨b, hbi, hb, hb64, hb4⟩ := brow_at i hlt
      have hcb := (HM.out.hs.cell i).trans hbi
      have hc0 := HM.out.hf.cell 0
      have hf0 := HM.out.hf.frozen 0
      simp at hc0
      have ha := i64_andNot_nat m b HO.out.lt hb
      obtain ⟨q, hq⟩ : ∃ q, bits .and .i64 (n / 2 ^ i) 1 = q := ⟨_, rfl⟩
      have HN := Lib.hid (HM.out.set (m &&& (4095 - b)))
      have HNO := Lib.hid (HO.out.clear (4095 - b) hb64 hb4)
      generalize m &&& (4095 - b) = m2 at *
      clear hbi hb hb64 hb4
      cases hq1 : (q == 1)
      · go_wp2_with fail
        go_roundw
        case rel => exact ⟨i + 1, m, by go_num, by omega, HO.out, HM.out⟩
        case measure => simp [intOf]; omega
      · go_wp2_with fail
        go_roundw
        case rel => exact ⟨i + 1, m2, by go_num, by omega, HNO.out, HN.out⟩
        case measure => simp [intOf]; omega
    · have hd : decide ((i : Int) < 8) = false := decide_eq_false (by omega)
      have q8 := i64_and3 (n / 256)
      have q10 := i64_and3 (n / 1024)
      have q12 := i64_and3 (n / 4096)
      have q14 := i64_and3 (n / 16384)
      have hp0 : (0 : Int) ≤ n / 4096 % 4 := by omega
      have hj : n / 4096 % 4 % 3 = 0 ∨ n / 4096 % 4 % 3 = 1 ∨ n / 4096 % 4 % 3 = 2 := by omega
      have HJ := Lib.hid hj
      have hc0 := HM.out.hf.cell 0
      have hf0 := HM.out.hf.frozen 0
      simp at hc0
      have HM1 := HM
      have HO1 := Lib.hid HO.out.ok
      clear HM HO hj
      cases h8 : (n / 256 % 4 == 3)
      · go_upto_region 10 with (fail)
        cases h10 : (n / 1024 % 4 == 3)
        · go_upto_region 12 with (fail)
          have hj := HJ.out
          have hf2 := HM1.out.hf.frozen 2
          have hc2 : wr.cell? ⟨fb, 2, none⟩ = some (.int .i64 1) := HM1.out.hf.cell 2
          have hfl : fb < wr.heap.size := HM1.out.hf.lt
          have hz1 := HM1.out.z1
          have hz2 := HM1.out.z2
          rcases hj with hj | hj | hj
          · go_upto_region 13 with (fail)
            have K3 := ((Kp.refl [fb] wr).setCell ⟨fb, 2, none⟩ (.int .i64 1) (Or.inl (by simp))).alloc (.cells prow 3)
            have HF3 := Lib.hid (show Blk ((wr.setCell ⟨fb, 2, none⟩ (.int .i64 1)).alloc (.cells prow 3)) fb 33 #[.int .i64 (m : Int), .int .i64 16, .int .i64 1, .int .i64 255, .int .i64 1024, .int .i64 100000, .int .i64 3, .int .i64 1, .string ⟨#[]⟩] from (HM1.out.hf.set 2 (.int .i64 1)).old _)
            have HZ3 := Lib.hid (K3.blk HM1.out.hz (by simp; omega))
            have HB3 := Lib.hid ((HM1.out.hb.setCell (p := ⟨fb, 2, none⟩) (Nat.le_of_lt hz1) (.int .i64 1)).alloc (by have := HM1.out.hz.lt; simp [World.setCell]; omega) (.cells prow 3))
            clear K3
            generalize ((wr.setCell ⟨fb, 2, none⟩ (.int .i64 1)).alloc (.cells prow 3)) = w4 at *
            clear hj
            have hg1 : 1 ≤ 1 + n / 16384 % 4 := by omega
            have hg2 : 1 + n / 16384 % 4 ≤ 4 := by omega
            have hf6 := HF3.out.frozen 6
            have hc6 : w4.cell? ⟨fb, 6, none⟩ = some (.int .i64 3) := HF3.out.cell 6
            clear hf2 hc2 hfl
            go_upto_region 14 with (fail)
            have K4 := (Kp.refl [fb] w4).setCell ⟨fb, 6, none⟩ (.int .i64 (1 + n / 16384 % 4)) (Or.inl (by simp))
            have HF4 := Lib.hid (show Blk (w4.setCell ⟨fb, 6, none⟩ (.int .i64 (1 + n / 16384 % 4))) fb 33 #[.int .i64 (m : Int), .int .i64 16, .int .i64 1, .int .i64 255, .int .i64 1024, .int .i64 100000, .int .i64 (1 + n / 16384 % 4), .int .i64 1, .string ⟨#[]⟩] from HF3.out.set 6 (.int .i64 (1 + n / 16384 % 4)))
            have HZ4 := Lib.hid (K4.blk HZ3.out (by simp; omega))
            have HB4 := Lib.hid (HB3.out.setCell (p := ⟨fb, 6, none⟩) (Nat.le_of_lt hz1) (.int .i64 (1 + n / 16384 % 4)))
            clear K4 HF3 HZ3 HB3
            generalize (w4.setCell ⟨fb, 6, none⟩ (.int .i64 (1 + n / 16384 % 4))) = w5 at *
            go_wp2_with (first | (refine wpList_load_row rfl 33 _ rfl fb rfl 33 #[.int .i64 (m : Int), .int .i64 16, .int .i64 1, .int .i64 255, .int .i64 1024, .int .i64 100000, .int .i64 (1 + n / 16384 % 4), .int .i64 1, .string ⟨#[]⟩] (0, 0) _ HF4.out Tryz.underlying33 rfl infoFt ?_) | (refine wpList_store_row rfl 33 _ _ rfl zb #[.int .i64 (m : Int), .int .i64 16, .int .i64 1, .int .i64 255, .int .i64 1024, .int .i64 100000, .int .i64 (1 + n / 16384 % 4), .int .i64 1, .string ⟨#[]⟩] rfl rfl 33 _ HZ4.out infoFt rfl (by simp [Value.oneCell']) ?_))
            (try simp only [Exit.inBlock, Exit.then])
            refine bodyPost_ret (v := .agg #[.int .i64 (m : Int), .int .i64 16, .int .i64 1, .int .i64 255, .int .i64 1024, .int .i64 100000, .int .i64 (1 + n / 16384 % 4), .int .i64 1, .string ⟨#[]⟩]) (results_cell_row (p := 2) Tryz.results8 _ _ zb 33 _ (0, 0) _ rfl (setRow_heap _ _ _ _ _ _ HZ4.out) Tryz.underlying33 rfl infoFt) rfl ?_
            refine ⟨m, 1, _, rfl, HO1.out, by decide, by decide, hg1, hg2, ?_⟩
            rw [HZB.out]
            exact below_setRow HB4.out (Nat.le_refl _)
          · go_upto_region 13 with (fail)
            have K3 := ((Kp.refl [fb] wr).setCell ⟨fb, 2, none⟩ (.int .i64 10) (Or.inl (by simp))).alloc (.cells prow 3)
            have HF3 := Lib.hid (show Blk ((wr.setCell ⟨fb, 2, none⟩ (.int .i64 10)).alloc (.cells prow 3)) fb 33 #[.int .i64 (m : Int), .int .i64 16, .int .i64 10, .int .i64 255, .int .i64 1024, .int .i64 100000, .int .i64 3, .int .i64 1, .string ⟨#[]⟩] from (HM1.out.hf.set 2 (.int .i64 10)).old _)
            have HZ3 := Lib.hid (K3.blk HM1.out.hz (by simp; omega))
            have HB3 := Lib.hid ((HM1.out.hb.setCell (p := ⟨fb, 2, none⟩) (Nat.le_of_lt hz1) (.int .i64 10)).alloc (by have := HM1.out.hz.lt; simp [World.setCell]; omega) (.cells prow 3))
            clear K3
            generalize ((wr.setCell ⟨fb, 2, none⟩ (.int .i64 10)).alloc (.cells prow 3)) = w4 at *
            clear hj
            have hg1 : 1 ≤ 1 + n / 16384 % 4 := by omega
            have hg2 : 1 + n / 16384 % 4 ≤ 4 := by omega
            have hf6 := HF3.out.frozen 6
            have hc6 : w4.cell? ⟨fb, 6, none⟩ = some (.int .i64 3) := HF3.out.cell 6
            clear hf2 hc2 hfl
            go_upto_region 14 with (fail)
            have K4 := (Kp.refl [fb] w4).setCell ⟨fb, 6, none⟩ (.int .i64 (1 + n / 16384 % 4)) (Or.inl (by simp))
            have HF4 := Lib.hid (show Blk (w4.setCell ⟨fb, 6, none⟩ (.int .i64 (1 + n / 16384 % 4))) fb 33 #[.int .i64 (m : Int), .int .i64 16, .int .i64 10, .int .i64 255, .int .i64 1024, .int .i64 100000, .int .i64 (1 + n / 16384 % 4), .int .i64 1, .string ⟨#[]⟩] from HF3.out.set 6 (.int .i64 (1 + n / 16384 % 4)))
            have HZ4 := Lib.hid (K4.blk HZ3.out (by simp; omega))
            have HB4 := Lib.hid (HB3.out.setCell (p := ⟨fb, 6, none⟩) (Nat.le_of_lt hz1) (.int .i64 (1 + n / 16384 % 4)))
            clear K4 HF3 HZ3 HB3
            generalize (w4.setCell ⟨fb, 6, none⟩ (.int .i64 (1 + n / 16384 % 4))) = w5 at *
            go_wp2_with (first | (refine wpList_load_row rfl 33 _ rfl fb rfl 33 #[.int .i64 (m : Int), .int .i64 16, .int .i64 10, .int .i64 255, .int .i64 1024, .int .i64 100000, .int .i64 (1 + n / 16384 % 4), .int .i64 1, .string ⟨#[]⟩] (0, 0) _ HF4.out Tryz.underlying33 rfl infoFt ?_) | (refine wpList_store_row rfl 33 _ _ rfl zb #[.int .i64 (m : Int), .int .i64 16, .int .i64 10, .int .i64 255, .int .i64 1024, .int .i64 100000, .int .i64 (1 + n / 16384 % 4), .int .i64 1, .string ⟨#[]⟩] rfl rfl 33 _ HZ4.out infoFt rfl (by simp [Value.oneCell']) ?_))
            (try simp only [Exit.inBlock, Exit.then])
            refine bodyPost_ret (v := .agg #[.int .i64 (m : Int), .int .i64 16, .int .i64 10, .int .i64 255, .int .i64 1024, .int .i64 100000, .int .i64 (1 + n / 16384 % 4), .int .i64 1, .string ⟨#[]⟩]) (results_cell_row (p := 2) Tryz.results8 _ _ zb 33 _ (0, 0) _ rfl (setRow_heap _ _ _ _ _ _ HZ4.out) Tryz.underlying33 rfl infoFt) rfl ?_
            refine ⟨m, 10, _, rfl, HO1.out, by decide, by decide, hg1, hg2, ?_⟩
            rw [HZB.out]
            exact below_setRow HB4.out (Nat.le_refl _)
          · go_upto_region 13 with (fail)
            have K3 := ((Kp.refl [fb] wr).setCell ⟨fb, 2, none⟩ (.int .i64 1000) (Or.inl (by simp))).alloc (.cells prow 3)
            have HF3 := Lib.hid (show Blk ((wr.setCell ⟨fb, 2, none⟩ (.int .i64 1000)).alloc (.cells prow 3)) fb 33 #[.int .i64 (m : Int), .int .i64 16, .int .i64 1000, .int .i64 255, .int .i64 1024, .int .i64 100000, .int .i64 3, .int .i64 1, .string ⟨#[]⟩] from (HM1.out.hf.set 2 (.int .i64 1000)).old _)
            have HZ3 := Lib.hid (K3.blk HM1.out.hz (by simp; omega))
            have HB3 := Lib.hid ((HM1.out.hb.setCell (p := ⟨fb, 2, none⟩) (Nat.le_of_lt hz1) (.int .i64 1000)).alloc (by have := HM1.out.hz.lt; simp [World.setCell]; omega) (.cells prow 3))
            clear K3
            generalize ((wr.setCell ⟨fb, 2, none⟩ (.int .i64 1000)).alloc (.cells prow 3)) = w4 at *
            clear hj
            have hg1 : 1 ≤ 1 + n / 16384 % 4 := by omega
            have hg2 : 1 + n / 16384 % 4 ≤ 4 := by omega
            have hf6 := HF3.out.frozen 6
            have hc6 : w4.cell? ⟨fb, 6, none⟩ = some (.int .i64 3) := HF3.out.cell 6
            clear hf2 hc2 hfl
            go_upto_region 14 with (fail)
            have K4 := (Kp.refl [fb] w4).setCell ⟨fb, 6, none⟩ (.int .i64 (1 + n / 16384 % 4)) (Or.inl (by simp))
            have HF4 := Lib.hid (show Blk (w4.setCell ⟨fb, 6, none⟩ (.int .i64 (1 + n / 16384 % 4))) fb 33 #[.int .i64 (m : Int), .int .i64 16, .int .i64 1000, .int .i64 255, .int .i64 1024, .int .i64 100000, .int .i64 (1 + n / 16384 % 4), .int .i64 1, .string ⟨#[]⟩] from HF3.out.set 6 (.int .i64 (1 + n / 16384 % 4)))
            have HZ4 := Lib.hid (K4.blk HZ3.out (by simp; omega))
            have HB4 := Lib.hid (HB3.out.setCell (p := ⟨fb, 6, none⟩) (Nat.le_of_lt hz1) (.int .i64 (1 + n / 16384 % 4)))
            clear K4 HF3 HZ3 HB3
            generalize (w4.setCell ⟨fb, 6, none⟩ (.int .i64 (1 + n / 16384 % 4))) = w5 at *
            go_wp2_with (first | (refine wpList_load_row rfl 33 _ rfl fb rfl 33 #[.int .i64 (m : Int), .int .i64 16, .int .i64 1000, .int .i64 255, .int .i64 1024, .int .i64 100000, .int .i64 (1 + n / 16384 % 4), .int .i64 1, .string ⟨#[]⟩] (0, 0) _ HF4.out Tryz.underlying33 rfl infoFt ?_) | (refine wpList_store_row rfl 33 _ _ rfl zb #[.int .i64 (m : Int), .int .i64 16, .int .i64 1000, .int .i64 255, .int .i64 1024, .int .i64 100000, .int .i64 (1 + n / 16384 % 4), .int .i64 1, .string ⟨#[]⟩] rfl rfl 33 _ HZ4.out infoFt rfl (by simp [Value.oneCell']) ?_))
            (try simp only [Exit.inBlock, Exit.then])
            refine bodyPost_ret (v := .agg #[.int .i64 (m : Int), .int .i64 16, .int .i64 1000, .int .i64 255, .int .i64 1024, .int .i64 100000, .int .i64 (1 + n / 16384 % 4), .int .i64 1, .string ⟨#[]⟩]) (results_cell_row (p := 2) Tryz.results8 _ _ zb 33 _ (0, 0) _ rfl (setRow_heap _ _ _ _ _ _ HZ4.out) Tryz.underlying33 rfl infoFt) rfl ?_
            refine ⟨m, 1000, _, rfl, HO1.out, by decide, by decide, hg1, hg2, ?_⟩
            rw [HZB.out]
            exact below_setRow HB4.out (Nat.le_refl _)
        · have ha10 : bits .andNot .i64 (m : Int) 12 = ((m &&& 4083 : Nat) : Int) := i64_andNot_nat m 12 HO1.out.lt (by decide)
          have HMb := Lib.hid (HM1.out.set (m &&& 4083))
          have HOb := Lib.hid HO1.out.noTime
          generalize m &&& 4083 = mb at *
          go_upto_region 12 with (fail)
          clear ha10 hc0 hf0 HM1 HO1
          generalize (wr.setCell ⟨fb, 0, none⟩ (.int .i64 (mb : Int))) = wb at *
          have hj := HJ.out
          have hf2 := HMb.out.hf.frozen 2
          have hc2 : wb.cell? ⟨fb, 2, none⟩ = some (.int .i64 1) := HMb.out.hf.cell 2
          have hfl : fb < wb.heap.size := HMb.out.hf.lt
          have hz1 := HMb.out.z1
          have hz2 := HMb.out.z2
          rcases hj with hj | hj | hj
          · go_upto_region 13 with (fail)
            have K3 := ((Kp.refl [fb] wb).setCell ⟨fb, 2, none⟩ (.int .i64 1) (Or.inl (by simp))).alloc (.cells prow 3)
            have HF3 := Lib.hid (show Blk ((wb.setCell ⟨fb, 2, none⟩ (.int .i64 1)).alloc (.cells prow 3)) fb 33 #[.int .i64 (mb : Int), .int .i64 16, .int .i64 1, .int .i64 255, .int .i64 1024, .int .i64 100000, .int .i64 3, .int .i64 1, .string ⟨#[]⟩] from (HMb.out.hf.set 2 (.int .i64 1)).old _)
            have HZ3 := Lib.hid (K3.blk HMb.out.hz (by simp; omega))
            have HB3 := Lib.hid ((HMb.out.hb.setCell (p := ⟨fb, 2, none⟩) (Nat.le_of_lt hz1) (.int .i64 1)).alloc (by have := HMb.out.hz.lt; simp [World.setCell]; omega) (.cells prow 3))
            clear K3
            generalize ((wb.setCell ⟨fb, 2, none⟩ (.int .i64 1)).alloc (.cells prow 3)) = w4 at *
            clear hj
            have hg1 : 1 ≤ 1 + n / 16384 % 4 := by omega
            have hg2 : 1 + n / 16384 % 4 ≤ 4 := by omega
            have hf6 := HF3.out.frozen 6
            have hc6 : w4.cell? ⟨fb, 6, none⟩ = some (.int .i64 3) := HF3.out.cell 6
            clear hf2 hc2 hfl
            go_upto_region 14 with (fail)
            have K4 := (Kp.refl [fb] w4).setCell ⟨fb, 6, none⟩ (.int .i64 (1 + n / 16384 % 4)) (Or.inl (by simp))
            have HF4 := Lib.hid (show Blk (w4.setCell ⟨fb, 6, none⟩ (.int .i64 (1 + n / 16384 % 4))) fb 33 #[.int .i64 (mb : Int), .int .i64 16, .int .i64 1, .int .i64 255, .int .i64 1024, .int .i64 100000, .int .i64 (1 + n / 16384 % 4), .int .i64 1, .string ⟨#[]⟩] from HF3.out.set 6 (.int .i64 (1 + n / 16384 % 4)))
            have HZ4 := Lib.hid (K4.blk HZ3.out (by simp; omega))
            have HB4 := Lib.hid (HB3.out.setCell (p := ⟨fb, 6, none⟩) (Nat.le_of_lt hz1) (.int .i64 (1 + n / 16384 % 4)))
            clear K4 HF3 HZ3 HB3
            generalize (w4.setCell ⟨fb, 6, none⟩ (.int .i64 (1 + n / 16384 % 4))) = w5 at *
            go_wp2_with (first | (refine wpList_load_row rfl 33 _ rfl fb rfl 33 #[.int .i64 (mb : Int), .int .i64 16, .int .i64 1, .int .i64 255, .int .i64 1024, .int .i64 100000, .int .i64 (1 + n / 16384 % 4), .int .i64 1, .string ⟨#[]⟩] (0, 0) _ HF4.out Tryz.underlying33 rfl infoFt ?_) | (refine wpList_store_row rfl 33 _ _ rfl zb #[.int .i64 (mb : Int), .int .i64 16, .int .i64 1, .int .i64 255, .int .i64 1024, .int .i64 100000, .int .i64 (1 + n / 16384 % 4), .int .i64 1, .string ⟨#[]⟩] rfl rfl 33 _ HZ4.out infoFt rfl (by simp [Value.oneCell']) ?_))
            (try simp only [Exit.inBlock, Exit.then])
            refine bodyPost_ret (v := .agg #[.int .i64 (mb : Int), .int .i64 16, .int .i64 1, .int .i64 255, .int .i64 1024, .int .i64 100000, .int .i64 (1 + n / 16384 % 4), .int .i64 1, .string ⟨#[]⟩]) (results_cell_row (p := 2) Tryz.results8 _ _ zb 33 _ (0, 0) _ rfl (setRow_heap _ _ _ _ _ _ HZ4.out) Tryz.underlying33 rfl infoFt) rfl ?_
            refine ⟨mb, 1, _, rfl, HOb.out, by decide, by decide, hg1, hg2, ?_⟩
            rw [HZB.out]
            exact below_setRow HB4.out (Nat.le_refl _)
          · go_upto_region 13 with (fail)
            have K3 := ((Kp.refl [fb] wb).setCell ⟨fb, 2, none⟩ (.int .i64 10) (Or.inl (by simp))).alloc (.cells prow 3)
            have HF3 := Lib.hid (show Blk ((wb.setCell ⟨fb, 2, none⟩ (.int .i64 10)).alloc (.cells prow 3)) fb 33 #[.int .i64 (mb : Int), .int .i64 16, .int .i64 10, .int .i64 255, .int .i64 1024, .int .i64 100000, .int .i64 3, .int .i64 1, .string ⟨#[]⟩] from (HMb.out.hf.set 2 (.int .i64 10)).old _)
            have HZ3 := Lib.hid (K3.blk HMb.out.hz (by simp; omega))
            have HB3 := Lib.hid ((HMb.out.hb.setCell (p := ⟨fb, 2, none⟩) (Nat.le_of_lt hz1) (.int .i64 10)).alloc (by have := HMb.out.hz.lt; simp [World.setCell]; omega) (.cells prow 3))
            clear K3
            generalize ((wb.setCell ⟨fb, 2, none⟩ (.int .i64 10)).alloc (.cells prow 3)) = w4 at *
            clear hj
            have hg1 : 1 ≤ 1 + n / 16384 % 4 := by omega
            have hg2 : 1 + n / 16384 % 4 ≤ 4 := by omega
            have hf6 := HF3.out.frozen 6
            have hc6 : w4.cell? ⟨fb, 6, none⟩ = some (.int .i64 3) := HF3.out.cell 6
            clear hf2 hc2 hfl
            go_upto_region 14 with (fail)
            have K4 := (Kp.refl [fb] w4).setCell ⟨fb, 6, none⟩ (.int .i64 (1 + n / 16384 % 4)) (Or.inl (by simp))
            have HF4 := Lib.hid (show Blk (w4.setCell ⟨fb, 6, none⟩ (.int .i64 (1 + n / 16384 % 4))) fb 33 #[.int .i64 (mb : Int), .int .i64 16, .int .i64 10, .int .i64 255, .int .i64 1024, .int .i64 100000, .int .i64 (1 + n / 16384 % 4), .int .i64 1, .string ⟨#[]⟩] from HF3.out.set 6 (.int .i64 (1 + n / 16384 % 4)))
            have HZ4 := Lib.hid (K4.blk HZ3.out (by simp; omega))
            have HB4 := Lib.hid (HB3.out.setCell (p := ⟨fb, 6, none⟩) (Nat.le_of_lt hz1) (.int .i64 (1 + n / 16384 % 4)))
            clear K4 HF3 HZ3 HB3
            generalize (w4.setCell ⟨fb, 6, none⟩ (.int .i64 (1 + n / 16384 % 4))) = w5 at *
            go_wp2_with (first | (refine wpList_load_row rfl 33 _ rfl fb rfl 33 #[.int .i64 (mb : Int), .int .i64 16, .int .i64 10, .int .i64 255, .int .i64 1024, .int .i64 100000, .int .i64 (1 + n / 16384 % 4), .int .i64 1, .string ⟨#[]⟩] (0, 0) _ HF4.out Tryz.underlying33 rfl infoFt ?_) | (refine wpList_store_row rfl 33 _ _ rfl zb #[.int .i64 (mb : Int), .int .i64 16, .int .i64 10, .int .i64 255, .int .i64 1024, .int .i64 100000, .int .i64 (1 + n / 16384 % 4), .int .i64 1, .string ⟨#[]⟩] rfl rfl 33 _ HZ4.out infoFt rfl (by simp [Value.oneCell']) ?_))
            (try simp only [Exit.inBlock, Exit.then])
            refine bodyPost_ret (v := .agg #[.int .i64 (mb : Int), .int .i64 16, .int .i64 10, .int .i64 255, .int .i64 1024, .int .i64 100000, .int .i64 (1 + n / 16384 % 4), .int .i64 1, .string ⟨#[]⟩]) (results_cell_row (p := 2) Tryz.results8 _ _ zb 33 _ (0, 0) _ rfl (setRow_heap _ _ _ _ _ _ HZ4.out) Tryz.underlying33 rfl infoFt) rfl ?_
            refine ⟨mb, 10, _, rfl, HOb.out, by decide, by decide, hg1, hg2, ?_⟩
            rw [HZB.out]
            exact below_setRow HB4.out (Nat.le_refl _)
          · go_upto_region 13 with (fail)
            have K3 := ((Kp.refl [fb] wb).setCell ⟨fb, 2, none⟩ (.int .i64 1000) (Or.inl (by simp))).alloc (.cells prow 3)
            have HF3 := Lib.hid (show Blk ((wb.setCell ⟨fb, 2, none⟩ (.int .i64 1000)).alloc (.cells prow 3)) fb 33 #[.int .i64 (mb : Int), .int .i64 16, .int .i64 1000, .int .i64 255, .int .i64 1024, .int .i64 100000, .int .i64 3, .int .i64 1, .string ⟨#[]⟩] from (HMb.out.hf.set 2 (.int .i64 1000)).old _)
            have HZ3 := Lib.hid (K3.blk HMb.out.hz (by simp; omega))
            have HB3 := Lib.hid ((HMb.out.hb.setCell (p := ⟨fb, 2, none⟩) (Nat.le_of_lt hz1) (.int .i64 1000)).alloc (by have := HMb.out.hz.lt; simp [World.setCell]; omega) (.cells prow 3))
            clear K3
            generalize ((wb.setCell ⟨fb, 2, none⟩ (.int .i64 1000)).alloc (.cells prow 3)) = w4 at *
            clear hj
            have hg1 : 1 ≤ 1 + n / 16384 % 4 := by omega
            have hg2 : 1 + n / 16384 % 4 ≤ 4 := by omega
            have hf6 := HF3.out.frozen 6
            have hc6 : w4.cell? ⟨fb, 6, none⟩ = some (.int .i64 3) := HF3.out.cell 6
            clear hf2 hc2 hfl
            go_upto_region 14 with (fail)
            have K4 := (Kp.refl [fb] w4).setCell ⟨fb, 6, none⟩ (.int .i64 (1 + n / 16384 % 4)) (Or.inl (by simp))
            have HF4 := Lib.hid (show Blk (w4.setCell ⟨fb, 6, none⟩ (.int .i64 (1 + n / 16384 % 4))) fb 33 #[.int .i64 (mb : Int), .int .i64 16, .int .i64 1000, .int .i64 255, .int .i64 1024, .int .i64 100000, .int .i64 (1 + n / 16384 % 4), .int .i64 1, .string ⟨#[]⟩] from HF3.out.set 6 (.int .i64 (1 + n / 16384 % 4)))
            have HZ4 := Lib.hid (K4.blk HZ3.out (by simp; omega))
            have HB4 := Lib.hid (HB3.out.setCell (p := ⟨fb, 6, none⟩) (Nat.le_of_lt hz1) (.int .i64 (1 + n / 16384 % 4)))
            clear K4 HF3 HZ3 HB3
            generalize (w4.setCell ⟨fb, 6, none⟩ (.int .i64 (1 + n / 16384 % 4))) = w5 at *
            go_wp2_with (first | (refine wpList_load_row rfl 33 _ rfl fb rfl 33 #[.int .i64 (mb : Int), .int .i64 16, .int .i64 1000, .int .i64 255, .int .i64 1024, .int .i64 100000, .int .i64 (1 + n / 16384 % 4), .int .i64 1, .string ⟨#[]⟩] (0, 0) _ HF4.out Tryz.underlying33 rfl infoFt ?_) | (refine wpList_store_row rfl 33 _ _ rfl zb #[.int .i64 (mb : Int), .int .i64 16, .int .i64 1000, .int .i64 255, .int .i64 1024, .int .i64 100000, .int .i64 (1 + n / 16384 % 4), .int .i64 1, .string ⟨#[]⟩] rfl rfl 33 _ HZ4.out infoFt rfl (by simp [Value.oneCell']) ?_))
            (try simp only [Exit.inBlock, Exit.then])
            refine bodyPost_ret (v := .agg #[.int .i64 (mb : Int), .int .i64 16, .int .i64 1000, .int .i64 255, .int .i64 1024, .int .i64 100000, .int .i64 (1 + n / 16384 % 4), .int .i64 1, .string ⟨#[]⟩]) (results_cell_row (p := 2) Tryz.results8 _ _ zb 33 _ (0, 0) _ rfl (setRow_heap _ _ _ _ _ _ HZ4.out) Tryz.underlying33 rfl infoFt) rfl ?_
            refine ⟨mb, 1000, _, rfl, HOb.out, by decide, by decide, hg1, hg2, ?_⟩
            rw [HZB.out]
            exact below_setRow HB4.out (Nat.le_refl _)
      · have ha8 : bits .andNot .i64 (m : Int) 2112 = ((m &&& 1983 : Nat) : Int) := i64_andNot_nat m 2112 HO1.out.lt (by decide)
        have HMa := Lib.hid (HM1.out.set (m &&& 1983))
        have HOa := Lib.hid HO1.out.noMove
        generalize m &&& 1983 = ma at *
        go_upto_region 10 with (fail)
        clear ha8 hc0 hf0 HM1 HO1
        generalize (wr.setCell ⟨fb, 0, none⟩ (.int .i64 (ma : Int))) = wa at *
        have hc0 := HMa.out.hf.cell 0
        have hf0 := HMa.out.hf.frozen 0
        simp at hc0
        cases h10 : (n / 1024 % 4 == 3)
        · go_upto_region 12 with (fail)
          have hj := HJ.out
          have hf2 := HMa.out.hf.frozen 2
          have hc2 : wa.cell? ⟨fb, 2, none⟩ = some (.int .i64 1) := HMa.out.hf.cell 2
          have hfl : fb < wa.heap.size := HMa.out.hf.lt
          have hz1 := HMa.out.z1
          have hz2 := HMa.out.z2
          rcases hj with hj | hj | hj
          · go_upto_region 13 with (fail)
            have K3 := ((Kp.refl [fb] wa).setCell ⟨fb, 2, none⟩ (.int .i64 1) (Or.inl (by simp))).alloc (.cells prow 3)
            have HF3 := Lib.hid (show Blk ((wa.setCell ⟨fb, 2, none⟩ (.int .i64 1)).alloc (.cells prow 3)) fb 33 #[.int .i64 (ma : Int), .int .i64 16, .int .i64 1, .int .i64 255, .int .i64 1024, .int .i64 100000, .int .i64 3, .int .i64 1, .string ⟨#[]⟩] from (HMa.out.hf.set 2 (.int .i64 1)).old _)
            have HZ3 := Lib.hid (K3.blk HMa.out.hz (by simp; omega))
            have HB3 := Lib.hid ((HMa.out.hb.setCell (p := ⟨fb, 2, none⟩) (Nat.le_of_lt hz1) (.int .i64 1)).alloc (by have := HMa.out.hz.lt; simp [World.setCell]; omega) (.cells prow 3))
            clear K3
            generalize ((wa.setCell ⟨fb, 2, none⟩ (.int .i64 1)).alloc (.cells prow 3)) = w4 at *
            clear hj
            have hg1 : 1 ≤ 1 + n / 16384 % 4 := by omega
            have hg2 : 1 + n / 16384 % 4 ≤ 4 := by omega
            have hf6 := HF3.out.frozen 6
            have hc6 : w4.cell? ⟨fb, 6, none⟩ = some (.int .i64 3) := HF3.out.cell 6
            clear hf2 hc2 hfl
            go_upto_region 14 with (fail)
            have K4 := (Kp.refl [fb] w4).setCell ⟨fb, 6, none⟩ (.int .i64 (1 + n / 16384 % 4)) (Or.inl (by simp))
            have HF4 := Lib.hid (show Blk (w4.setCell ⟨fb, 6, none⟩ (.int .i64 (1 + n / 16384 % 4))) fb 33 #[.int .i64 (ma : Int), .int .i64 16, .int .i64 1, .int .i64 255, .int .i64 1024, .int .i64 100000, .int .i64 (1 + n / 16384 % 4), .int .i64 1, .string ⟨#[]⟩] from HF3.out.set 6 (.int .i64 (1 + n / 16384 % 4)))
            have HZ4 := Lib.hid (K4.blk HZ3.out (by simp; omega))
            have HB4 := Lib.hid (HB3.out.setCell (p := ⟨fb, 6, none⟩) (Nat.le_of_lt hz1) (.int .i64 (1 + n / 16384 % 4)))
            clear K4 HF3 HZ3 HB3
            generalize (w4.setCell ⟨fb, 6, none⟩ (.int .i64 (1 + n / 16384 % 4))) = w5 at *
            go_wp2_with (first | (refine wpList_load_row rfl 33 _ rfl fb rfl 33 #[.int .i64 (ma : Int), .int .i64 16, .int .i64 1, .int .i64 255, .int .i64 1024, .int .i64 100000, .int .i64 (1 + n / 16384 % 4), .int .i64 1, .string ⟨#[]⟩] (0, 0) _ HF4.out Tryz.underlying33 rfl infoFt ?_) | (refine wpList_store_row rfl 33 _ _ rfl zb #[.int .i64 (ma : Int), .int .i64 16, .int .i64 1, .int .i64 255, .int .i64 1024, .int .i64 100000, .int .i64 (1 + n / 16384 % 4), .int .i64 1, .string ⟨#[]⟩] rfl rfl 33 _ HZ4.out infoFt rfl (by simp [Value.oneCell']) ?_))
            (try simp only [Exit.inBlock, Exit.then])
            refine bodyPost_ret (v := .agg #[.int .i64 (ma : Int), .int .i64 16, .int .i64 1, .int .i64 255, .int .i64 1024, .int .i64 100000, .int .i64 (1 + n / 16384 % 4), .int .i64 1, .string ⟨#[]⟩]) (results_cell_row (p := 2) Tryz.results8 _ _ zb 33 _ (0, 0) _ rfl (setRow_heap _ _ _ _ _ _ HZ4.out) Tryz.underlying33 rfl infoFt) rfl ?_
            refine ⟨ma, 1, _, rfl, HOa.out, by decide, by decide, hg1, hg2, ?_⟩
            rw [HZB.out]
            exact below_setRow HB4.out (Nat.le_refl _)
          · go_upto_region 13 with (fail)
            have K3 := ((Kp.refl [fb] wa).setCell ⟨fb, 2, none⟩ (.int .i64 10) (Or.inl (by simp))).alloc (.cells prow 3)
            have HF3 := Lib.hid (show Blk ((wa.setCell ⟨fb, 2, none⟩ (.int .i64 10)).alloc (.cells prow 3)) fb 33 #[.int .i64 (ma : Int), .int .i64 16, .int .i64 10, .int .i64 255, .int .i64 1024, .int .i64 100000, .int .i64 3, .int .i64 1, .string ⟨#[]⟩] from (HMa.out.hf.set 2 (.int .i64 10)).old _)
            have HZ3 := Lib.hid (K3.blk HMa.out.hz (by simp; omega))
            have HB3 := Lib.hid ((HMa.out.hb.setCell (p := ⟨fb, 2, none⟩) (Nat.le_of_lt hz1) (.int .i64 10)).alloc (by have := HMa.out.hz.lt; simp [World.setCell]; omega) (.cells prow 3))
            clear K3
            generalize ((wa.setCell ⟨fb, 2, none⟩ (.int .i64 10)).alloc (.cells prow 3)) = w4 at *
            clear hj
            have hg1 : 1 ≤ 1 + n / 16384 % 4 := by omega
            have hg2 : 1 + n / 16384 % 4 ≤ 4 := by omega
            have hf6 := HF3.out.frozen 6
            have hc6 : w4.cell? ⟨fb, 6, none⟩ = some (.int .i64 3) := HF3.out.cell 6
            clear hf2 hc2 hfl
            go_upto_region 14 with (fail)
            have K4 := (Kp.refl [fb] w4).setCell ⟨fb, 6, none⟩ (.int .i64 (1 + n / 16384 % 4)) (Or.inl (by simp))
            have HF4 := Lib.hid (show Blk (w4.setCell ⟨fb, 6, none⟩ (.int .i64 (1 + n / 16384 % 4))) fb 33 #[.int .i64 (ma : Int), .int .i64 16, .int .i64 10, .int .i64 255, .int .i64 1024, .int .i64 100000, .int .i64 (1 + n / 16384 % 4), .int .i64 1, .string ⟨#[]⟩] from HF3.out.set 6 (.int .i64 (1 + n / 16384 % 4)))
            have HZ4 := Lib.hid (K4.blk HZ3.out (by simp; omega))
            have HB4 := Lib.hid (HB3.out.setCell (p := ⟨fb, 6, none⟩) (Nat.le_of_lt hz1) (.int .i64 (1 + n / 16384 % 4)))
            clear K4 HF3 HZ3 HB3
            generalize (w4.setCell ⟨fb, 6, none⟩ (.int .i64 (1 + n / 16384 % 4))) = w5 at *
            go_wp2_with (first | (refine wpList_load_row rfl 33 _ rfl fb rfl 33 #[.int .i64 (ma : Int), .int .i64 16, .int .i64 10, .int .i64 255, .int .i64 1024, .int .i64 100000, .int .i64 (1 + n / 16384 % 4), .int .i64 1, .string ⟨#[]⟩] (0, 0) _ HF4.out Tryz.underlying33 rfl infoFt ?_) | (refine wpList_store_row rfl 33 _ _ rfl zb #[.int .i64 (ma : Int), .int .i64 16, .int .i64 10, .int .i64 255, .int .i64 1024, .int .i64 100000, .int .i64 (1 + n / 16384 % 4), .int .i64 1, .string ⟨#[]⟩] rfl rfl 33 _ HZ4.out infoFt rfl (by simp [Value.oneCell']) ?_))
            (try simp only [Exit.inBlock, Exit.then])
            refine bodyPost_ret (v := .agg #[.int .i64 (ma : Int), .int .i64 16, .int .i64 10, .int .i64 255, .int .i64 1024, .int .i64 100000, .int .i64 (1 + n / 16384 % 4), .int .i64 1, .string ⟨#[]⟩]) (results_cell_row (p := 2) Tryz.results8 _ _ zb 33 _ (0, 0) _ rfl (setRow_heap _ _ _ _ _ _ HZ4.out) Tryz.underlying33 rfl infoFt) rfl ?_
            refine ⟨ma, 10, _, rfl, HOa.out, by decide, by decide, hg1, hg2, ?_⟩
            rw [HZB.out]
            exact below_setRow HB4.out (Nat.le_refl _)
          · go_upto_region 13 with (fail)
            have K3 := ((Kp.refl [fb] wa).setCell ⟨fb, 2, none⟩ (.int .i64 1000) (Or.inl (by simp))).alloc (.cells prow 3)
            have HF3 := Lib.hid (show Blk ((wa.setCell ⟨fb, 2, none⟩ (.int .i64 1000)).alloc (.cells prow 3)) fb 33 #[.int .i64 (ma : Int), .int .i64 16, .int .i64 1000, .int .i64 255, .int .i64 1024, .int .i64 100000, .int .i64 3, .int .i64 1, .string ⟨#[]⟩] from (HMa.out.hf.set 2 (.int .i64 1000)).old _)
            have HZ3 := Lib.hid (K3.blk HMa.out.hz (by simp; omega))
            have HB3 := Lib.hid ((HMa.out.hb.setCell (p := ⟨fb, 2, none⟩) (Nat.le_of_lt hz1) (.int .i64 1000)).alloc (by have := HMa.out.hz.lt; simp [World.setCell]; omega) (.cells prow 3))
            clear K3
            generalize ((wa.setCell ⟨fb, 2, none⟩ (.int .i64 1000)).alloc (.cells prow 3)) = w4 at *
            clear hj
            have hg1 : 1 ≤ 1 + n / 16384 % 4 := by omega
            have hg2 : 1 + n / 16384 % 4 ≤ 4 := by omega
            have hf6 := HF3.out.frozen 6
            have hc6 : w4.cell? ⟨fb, 6, none⟩ = some (.int .i64 3) := HF3.out.cell 6
            clear hf2 hc2 hfl
            go_upto_region 14 with (fail)
            have K4 := (Kp.refl [fb] w4).setCell ⟨fb, 6, none⟩ (.int .i64 (1 + n / 16384 % 4)) (Or.inl (by simp))
            have HF4 := Lib.hid (show Blk (w4.setCell ⟨fb, 6, none⟩ (.int .i64 (1 + n / 16384 % 4))) fb 33 #[.int .i64 (ma : Int), .int .i64 16, .int .i64 1000, .int .i64 255, .int .i64 1024, .int .i64 100000, .int .i64 (1 + n / 16384 % 4), .int .i64 1, .string ⟨#[]⟩] from HF3.out.set 6 (.int .i64 (1 + n / 16384 % 4)))
            have HZ4 := Lib.hid (K4.blk HZ3.out (by simp; omega))
            have HB4 := Lib.hid (HB3.out.setCell (p := ⟨fb, 6, none⟩) (Nat.le_of_lt hz1) (.int .i64 (1 + n / 16384 % 4)))
            clear K4 HF3 HZ3 HB3
            generalize (w4.setCell ⟨fb, 6, none⟩ (.int .i64 (1 + n / 16384 % 4))) = w5 at *
            go_wp2_with (first | (refine wpList_load_row rfl 33 _ rfl fb rfl 33 #[.int .i64 (ma : Int), .int .i64 16, .int .i64 1000, .int .i64 255, .int .i64 1024, .int .i64 100000, .int .i64 (1 + n / 16384 % 4), .int .i64 1, .string ⟨#[]⟩] (0, 0) _ HF4.out Tryz.underlying33 rfl infoFt ?_) | (refine wpList_store_row rfl 33 _ _ rfl zb #[.int .i64 (ma : Int), .int .i64 16, .int .i64 1000, .int .i64 255, .int .i64 1024, .int .i64 100000, .int .i64 (1 + n / 16384 % 4), .int .i64 1, .string ⟨#[]⟩] rfl rfl 33 _ HZ4.out infoFt rfl (by simp [Value.oneCell']) ?_))
            (try simp only [Exit.inBlock, Exit.then])
            refine bodyPost_ret (v := .agg #[.int .i64 (ma : Int), .int .i64 16, .int .i64 1000, .int .i64 255, .int .i64 1024, .int .i64 100000, .int .i64 (1 + n / 16384 % 4), .int .i64 1, .string ⟨#[]⟩]) (results_cell_row (p := 2) Tryz.results8 _ _ zb 33 _ (0, 0) _ rfl (setRow_heap _ _ _ _ _ _ HZ4.out) Tryz.underlying33 rfl infoFt) rfl ?_
            refine ⟨ma, 1000, _, rfl, HOa.out, by decide, by decide, hg1, hg2, ?_⟩
            rw [HZB.out]
            exact below_setRow HB4.out (Nat.le_refl _)
        · have ha10 : bits .andNot .i64 (ma : Int) 12 = ((ma &&& 4083 : Nat) : Int) := i64_andNot_nat ma 12 HOa.out.lt (by decide)
          have HMb := Lib.hid (HMa.out.set (ma &&& 4083))
          have HOb := Lib.hid HOa.out.noTime
          generalize ma &&& 4083 = mb at *
          go_upto_region 12 with (fail)
          clear ha10 hc0 hf0 HMa HOa
          generalize (wa.setCell ⟨fb, 0, none⟩ (.int .i64 (mb : Int))) = wb at *
          have hj := HJ.out
          have hf2 := HMb.out.hf.frozen 2
          have hc2 : wb.cell? ⟨fb, 2, none⟩ = some (.int .i64 1) := HMb.out.hf.cell 2
          have hfl : fb < wb.heap.size := HMb.out.hf.lt
          have hz1 := HMb.out.z1
          have hz2 := HMb.out.z2
          rcases hj with hj | hj | hj
          · go_upto_region 13 with (fail)
            have K3 := ((Kp.refl [fb] wb).setCell ⟨fb, 2, none⟩ (.int .i64 1) (Or.inl (by simp))).alloc (.cells prow 3)
            have HF3 := Lib.hid (show Blk ((wb.setCell ⟨fb, 2, none⟩ (.int .i64 1)).alloc (.cells prow 3)) fb 33 #[.int .i64 (mb : Int), .int .i64 16, .int .i64 1, .int .i64 255, .int .i64 1024, .int .i64 100000, .int .i64 3, .int .i64 1, .string ⟨#[]⟩] from (HMb.out.hf.set 2 (.int .i64 1)).old _)
            have HZ3 := Lib.hid (K3.blk HMb.out.hz (by simp; omega))
            have HB3 := Lib.hid ((HMb.out.hb.setCell (p := ⟨fb, 2, none⟩) (Nat.le_of_lt hz1) (.int .i64 1)).alloc (by have := HMb.out.hz.lt; simp [World.setCell]; omega) (.cells prow 3))
            clear K3
            generalize ((wb.setCell ⟨fb, 2, none⟩ (.int .i64 1)).alloc (.cells prow 3)) = w4 at *
            clear hj
            have hg1 : 1 ≤ 1 + n / 16384 % 4 := by omega
            have hg2 : 1 + n / 16384 % 4 ≤ 4 := by omega
            have hf6 := HF3.out.frozen 6
            have hc6 : w4.cell? ⟨fb, 6, none⟩ = some (.int .i64 3) := HF3.out.cell 6
            clear hf2 hc2 hfl
            go_upto_region 14 with (fail)
            have K4 := (Kp.refl [fb] w4).setCell ⟨fb, 6, none⟩ (.int .i64 (1 + n / 16384 % 4)) (Or.inl (by simp))
            have HF4 := Lib.hid (show Blk (w4.setCell ⟨fb, 6, none⟩ (.int .i64 (1 + n / 16384 % 4))) fb 33 #[.int .i64 (mb : Int), .int .i64 16, .int .i64 1, .int .i64 255, .int .i64 1024, .int .i64 100000, .int .i64 (1 + n / 16384 % 4), .int .i64 1, .string ⟨#[]⟩] from HF3.out.set 6 (.int .i64 (1 + n / 16384 % 4)))
            have HZ4 := Lib.hid (K4.blk HZ3.out (by simp; omega))
            have HB4 := Lib.hid (HB3.out.setCell (p := ⟨fb, 6, none⟩) (Nat.le_of_lt hz1) (.int .i64 (1 + n / 16384 % 4)))
            clear K4 HF3 HZ3 HB3
            generalize (w4.setCell ⟨fb, 6, none⟩ (.int .i64 (1 + n / 16384 % 4))) = w5 at *
            go_wp2_with (first | (refine wpList_load_row rfl 33 _ rfl fb rfl 33 #[.int .i64 (mb : Int), .int .i64 16, .int .i64 1, .int .i64 255, .int .i64 1024, .int .i64 100000, .int .i64 (1 + n / 16384 % 4), .int .i64 1, .string ⟨#[]⟩] (0, 0) _ HF4.out Tryz.underlying33 rfl infoFt ?_) | (refine wpList_store_row rfl 33 _ _ rfl zb #[.int .i64 (mb : Int), .int .i64 16, .int .i64 1, .int .i64 255, .int .i64 1024, .int .i64 100000, .int .i64 (1 + n / 16384 % 4), .int .i64 1, .string ⟨#[]⟩] rfl rfl 33 _ HZ4.out infoFt rfl (by simp [Value.oneCell']) ?_))
            (try simp only [Exit.inBlock, Exit.then])
            refine bodyPost_ret (v := .agg #[.int .i64 (mb : Int), .int .i64 16, .int .i64 1, .int .i64 255, .int .i64 1024, .int .i64 100000, .int .i64 (1 + n / 16384 % 4), .int .i64 1, .string ⟨#[]⟩]) (results_cell_row (p := 2) Tryz.results8 _ _ zb 33 _ (0, 0) _ rfl (setRow_heap _ _ _ _ _ _ HZ4.out) Tryz.underlying33 rfl infoFt) rfl ?_
            refine ⟨mb, 1, _, rfl, HOb.out, by decide, by decide, hg1, hg2, ?_⟩
            rw [HZB.out]
            exact below_setRow HB4.out (Nat.le_refl _)
          · go_upto_region 13 with (fail)
            have K3 := ((Kp.refl [fb] wb).setCell ⟨fb, 2, none⟩ (.int .i64 10) (Or.inl (by simp))).alloc (.cells prow 3)
            have HF3 := Lib.hid (show Blk ((wb.setCell ⟨fb, 2, none⟩ (.int .i64 10)).alloc (.cells prow 3)) fb 33 #[.int .i64 (mb : Int), .int .i64 16, .int .i64 10, .int .i64 255, .int .i64 1024, .int .i64 100000, .int .i64 3, .int .i64 1, .string ⟨#[]⟩] from (HMb.out.hf.set 2 (.int .i64 10)).old _)
            have HZ3 := Lib.hid (K3.blk HMb.out.hz (by simp; omega))
            have HB3 := Lib.hid ((HMb.out.hb.setCell (p := ⟨fb, 2, none⟩) (Nat.le_of_lt hz1) (.int .i64 10)).alloc (by have := HMb.out.hz.lt; simp [World.setCell]; omega) (.cells prow 3))
            clear K3
            generalize ((wb.setCell ⟨fb, 2, none⟩ (.int .i64 10)).alloc (.cells prow 3)) = w4 at *
            clear hj
            have hg1 : 1 ≤ 1 + n / 16384 % 4 := by omega
            have hg2 : 1 + n / 16384 % 4 ≤ 4 := by omega
            have hf6 := HF3.out.frozen 6
            have hc6 : w4.cell? ⟨fb, 6, none⟩ = some (.int .i64 3) := HF3.out.cell 6
            clear hf2 hc2 hfl
            go_upto_region 14 with (fail)
            have K4 := (Kp.refl [fb] w4).setCell ⟨fb, 6, none⟩ (.int .i64 (1 + n / 16384 % 4)) (Or.inl (by simp))
            have HF4 := Lib.hid (show Blk (w4.setCell ⟨fb, 6, none⟩ (.int .i64 (1 + n / 16384 % 4))) fb 33 #[.int .i64 (mb : Int), .int .i64 16, .int .i64 10, .int .i64 255, .int .i64 1024, .int .i64 100000, .int .i64 (1 + n / 16384 % 4), .int .i64 1, .string ⟨#[]⟩] from HF3.out.set 6 (.int .i64 (1 + n / 16384 % 4)))
            have HZ4 := Lib.hid (K4.blk HZ3.out (by simp; omega))
            have HB4 := Lib.hid (HB3.out.setCell (p := ⟨fb, 6, none⟩) (Nat.le_of_lt hz1) (.int .i64 (1 + n / 16384 % 4)))
            clear K4 HF3 HZ3 HB3
            generalize (w4.setCell ⟨fb, 6, none⟩ (.int .i64 (1 + n / 16384 % 4))) = w5 at *
            go_wp2_with (first | (refine wpList_load_row rfl 33 _ rfl fb rfl 33 #[.int .i64 (mb : Int), .int .i64 16, .int .i64 10, .int .i64 255, .int .i64 1024, .int .i64 100000, .int .i64 (1 + n / 16384 % 4), .int .i64 1, .string ⟨#[]⟩] (0, 0) _ HF4.out Tryz.underlying33 rfl infoFt ?_) | (refine wpList_store_row rfl 33 _ _ rfl zb #[.int .i64 (mb : Int), .int .i64 16, .int .i64 10, .int .i64 255, .int .i64 1024, .int .i64 100000, .int .i64 (1 + n / 16384 % 4), .int .i64 1, .string ⟨#[]⟩] rfl rfl 33 _ HZ4.out infoFt rfl (by simp [Value.oneCell']) ?_))
            (try simp only [Exit.inBlock, Exit.then])
            refine bodyPost_ret (v := .agg #[.int .i64 (mb : Int), .int .i64 16, .int .i64 10, .int .i64 255, .int .i64 1024, .int .i64 100000, .int .i64 (1 + n / 16384 % 4), .int .i64 1, .string ⟨#[]⟩]) (results_cell_row (p := 2) Tryz.results8 _ _ zb 33 _ (0, 0) _ rfl (setRow_heap _ _ _ _ _ _ HZ4.out) Tryz.underlying33 rfl infoFt) rfl ?_
            refine ⟨mb, 10, _, rfl, HOb.out, by decide, by decide, hg1, hg2, ?_⟩
            rw [HZB.out]
            exact below_setRow HB4.out (Nat.le_refl _)
          · go_upto_region 13 with (fail)
            have K3 := ((Kp.refl [fb] wb).setCell ⟨fb, 2, none⟩ (.int .i64 1000) (Or.inl (by simp))).alloc (.cells prow 3)
            have HF3 := Lib.hid (show Blk ((wb.setCell ⟨fb, 2, none⟩ (.int .i64 1000)).alloc (.cells prow 3)) fb 33 #[.int .i64 (mb : Int), .int .i64 16, .int .i64 1000, .int .i64 255, .int .i64 1024, .int .i64 100000, .int .i64 3, .int .i64 1, .string ⟨#[]⟩] from (HMb.out.hf.set 2 (.int .i64 1000)).old _)
            have HZ3 := Lib.hid (K3.blk HMb.out.hz (by simp; omega))
            have HB3 := Lib.hid ((HMb.out.hb.setCell (p := ⟨fb, 2, none⟩) (Nat.le_of_lt hz1) (.int .i64 1000)).alloc (by have := HMb.out.hz.lt; simp [World.setCell]; omega) (.cells prow 3))
            clear K3
            generalize ((wb.setCell ⟨fb, 2, none⟩ (.int .i64 1000)).alloc (.cells prow 3)) = w4 at *
            clear hj
            have hg1 : 1 ≤ 1 + n / 16384 % 4 := by omega
            have hg2 : 1 + n / 16384 % 4 ≤ 4 := by omega
            have hf6 := HF3.out.frozen 6
            have hc6 : w4.cell? ⟨fb, 6, none⟩ = some (.int .i64 3) := HF3.out.cell 6
            clear hf2 hc2 hfl
            go_upto_region 14 with (fail)
            have K4 := (Kp.refl [fb] w4).setCell ⟨fb, 6, none⟩ (.int .i64 (1 + n / 16384 % 4)) (Or.inl (by simp))
            have HF4 := Lib.hid (show Blk (w4.setCell ⟨fb, 6, none⟩ (.int .i64 (1 + n / 16384 % 4))) fb 33 #[.int .i64 (mb : Int), .int .i64 16, .int .i64 1000, .int .i64 255, .int .i64 1024, .int .i64 100000, .int .i64 (1 + n / 16384 % 4), .int .i64 1, .string ⟨#[]⟩] from HF3.out.set 6 (.int .i64 (1 + n / 16384 % 4)))
            have HZ4 := Lib.hid (K4.blk HZ3.out (by simp; omega))
            have HB4 := Lib.hid (HB3.out.setCell (p := ⟨fb, 6, none⟩) (Nat.le_of_lt hz1) (.int .i64 (1 + n / 16384 % 4)))
            clear K4 HF3 HZ3 HB3
            generalize (w4.setCell ⟨fb, 6, none⟩ (.int .i64 (1 + n / 16384 % 4))) = w5 at *
            go_wp2_with (first | (refine wpList_load_row rfl 33 _ rfl fb rfl 33 #[.int .i64 (mb : Int), .int .i64 16, .int .i64 1000, .int .i64 255, .int .i64 1024, .int .i64 100000, .int .i64 (1 + n / 16384 % 4), .int .i64 1, .string ⟨#[]⟩] (0, 0) _ HF4.out Tryz.underlying33 rfl infoFt ?_) | (refine wpList_store_row rfl 33 _ _ rfl zb #[.int .i64 (mb : Int), .int .i64 16, .int .i64 1000, .int .i64 255, .int .i64 1024, .int .i64 100000, .int .i64 (1 + n / 16384 % 4), .int .i64 1, .string ⟨#[]⟩] rfl rfl 33 _ HZ4.out infoFt rfl (by simp [Value.oneCell']) ?_))
            (try simp only [Exit.inBlock, Exit.then])
            refine bodyPost_ret (v := .agg #[.int .i64 (mb : Int), .int .i64 16, .int .i64 1000, .int .i64 255, .int .i64 1024, .int .i64 100000, .int .i64 (1 + n / 16384 % 4), .int .i64 1, .string ⟨#[]⟩]) (results_cell_row (p := 2) Tryz.results8 _ _ zb 33 _ (0, 0) _ rfl (setRow_heap _ _ _ _ _ _ HZ4.out) Tryz.underlying33 rfl infoFt) rfl ?_
            refine ⟨mb, 1000, _, rfl, HOb.out, by decide, by decide, hg1, hg2, ?_⟩
            rw [HZB.out]
            exact below_setRow HB4.out (Nat.le_refl _)
end Go.Proofs.YtpjnjhklkgefcaaGreatDoor
