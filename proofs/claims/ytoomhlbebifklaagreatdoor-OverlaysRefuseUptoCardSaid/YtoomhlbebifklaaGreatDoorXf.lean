import Derived.Test.YtoomhlbebifklaaGreatDoorXb
import Derived.Test.YtoomhlbebifklaaGreatDoorXc
import Derived.Test.YtoomhlbebifklaaGreatDoorAc
set_option linter.unusedVariables false
set_option linter.unusedSimpArgs false
namespace Go.Proofs.YtoomhlbebifklaaGreatDoor
open Go.RowKit
set_option maxRecDepth 100000 in
set_option maxHeartbeats 4000000 in
theorem partsOf_ok (n : Nat) (w : World) (h : n ≤ 1048576) : Calls Tryz.prog 97 #[.int .i64 (n : Int)] w fun e w' => e = .returned (.int .i64 ((max 1 ((n + 1023) / 1024) : Nat) : Int)) ∧ w' = w := by
  obtain ⟨v, hv⟩ : ∃ v : Nat, max 1 ((n + 1023) / 1024) = v := ⟨_, rfl⟩
  have hq : ((n : Int) + 1024 - 1) / 1024 = (((n + 1023) / 1024 : Nat) : Int) := by omega
  have hmx : (if (1 : Int) < ((n : Int) + 1024 - 1) / 1024 then ((n : Int) + 1024 - 1) / 1024 else 1) = (v : Int) := by
    rw [hq, ← hv]
    split <;> omega
  have hmx2 : max 1 (((n : Int) + 1024 - 1) / 1024) = (v : Int) := by rw [hq, ← hv]; omega
  rw [hv]
  clear hv hq
  go_enter Tryz.func97, Tryz.ntmps97
  go_wp2_with fail
  go_ret
  first | exact ⟨rfl, rfl⟩ | exact ⟨by rw [hmx2]; rfl, rfl⟩ | exact ⟨by rw [hmx]; rfl, rfl⟩
/-- how many bytes the sealed file of n bytes has. -/
def sealN (n : Nat) : Nat := 20 + n + 16 * max 1 ((n + 1023) / 1024)
theorem sealN_mono (m n : Nat) (h : m ≤ n) : sealN m ≤ sealN n := by unfold sealN; omega
theorem sealN_zero : sealN 0 = 36 := rfl
theorem sealN_le (n : Nat) (h : n ≤ 1048576) : sealN n ≤ 2000000 := by unfold sealN; omega
set_option maxRecDepth 100000 in
set_option maxHeartbeats 4000000 in
theorem sealedSize_ok (n : Nat) (w : World) (h : n ≤ 1048576) : Calls Tryz.prog 69 #[.int .i64 (n : Int)] w fun e w' => e = .returned (.int .i64 (sealN n : Nat)) ∧ w' = w := by
  have C := Lib.hid (fun wx => partsOf_ok n wx h)
  have hv2 : max 1 ((n + 1023) / 1024) ≤ 2000 := by omega
  have E : RowKit.Hid (sealN n = 20 + n + 16 * max 1 ((n + 1023) / 1024)) := Lib.hid rfl
  generalize max 1 ((n + 1023) / 1024) = v at *
  go_enter Tryz.func69, Tryz.ntmps69
  go_wp2_with fail
  refine (C.out _).mono ?_
  rintro e w1 ⟨rfl, rfl⟩
  go_wp2_with fail
  go_ret
  exact ⟨by rw [E.out]; go_num, rfl⟩
set_option maxRecDepth 100000 in
set_option maxHeartbeats 4000000 in
theorem SealedSize_ok (n : Nat) (w : World) (h : n ≤ 1048576) : Calls Tryz.prog 60 #[.int .i64 (n : Int)] w fun e w' => e = .returned (.tuple #[.int .i64 (sealN n : Nat), .int .i64 0]) ∧ w' = w := by
  have C := Lib.hid (fun wx => sealedSize_ok n wx h)
  have d1 : decide ((n : Int) < 0) = false := decide_eq_false (by omega)
  have d2 : decide ((n : Int) > 1048576) = false := decide_eq_false (by omega)
  have r2 : ¬ (n : Int) > 1048576 := by omega
  go_enter Tryz.func60, Tryz.ntmps60
  go_wp2_with fail
  refine (C.out _).mono ?_
  rintro e w1 ⟨rfl, rfl⟩
  go_wp2_with fail
  go_ret2
  exact ⟨rfl, rfl⟩
def clP (ms : Int) (n : Nat) : Bool := decide ((sealN n : Int) ≤ ms)
theorem clP_mono (ms : Int) (m n : Nat) (h : m ≤ n) (hn : clP ms n = true) : clP ms m = true := by
  unfold clP at *
  have h1 := of_decide_eq_true hn
  have h2 := sealN_mono m n h
  exact decide_eq_true (by omega)
theorem clP_zero (ms : Int) : clP ms 0 = decide (36 ≤ ms) := by unfold clP; rw [sealN_zero]; rfl
set_option maxRecDepth 100000 in
set_option maxHeartbeats 4000000 in
theorem holdsC_ok (n b1 : Nat) (ms : Int) (w : World) (h : n ≤ 1048576) (h1 : w.cell? ⟨b1, 5, none⟩ = some (.int .i64 ms)) :
    Calls Tryz.prog 59 #[.int .i64 (n : Int), pt b1] w fun e w' => e = .returned (.bool (clP ms n)) ∧ Below w.heap.size w w' := by
  have C := Lib.hid (fun wx => SealedSize_ok n wx h)
  have E : RowKit.Hid (clP ms n = decide ((sealN n : Int) ≤ ms)) := Lib.hid rfl
  have hy := sealN_le n h
  generalize sealN n = y at *
  go_enter Tryz.func59, Tryz.ntmps59
  go_wp2_with fail
  refine (C.out _).mono ?_
  rintro e w1 ⟨rfl, rfl⟩
  go_wp2_with fail
  go_ret
  exact ⟨by rw [E.out]; rfl, Below.refl _ _⟩
def nmP (mn : Int) (n : Nat) : Bool := decide (((16 + (n : Int)) * 8 + 4) / 5 ≤ mn)
theorem nmP_mono (mn : Int) (m n : Nat) (h : m ≤ n) (hn : nmP mn n = true) : nmP mn m = true := by
  unfold nmP at *
  have h1 := of_decide_eq_true hn
  exact decide_eq_true (by omega)
set_option maxRecDepth 100000 in
set_option maxHeartbeats 4000000 in
theorem holdsN_ok (n b1 : Nat) (mn : Int) (w : World) (h : n ≤ 255) (h1 : w.cell? ⟨b1, 3, none⟩ = some (.int .i64 mn)) :
    Calls Tryz.prog 61 #[.int .i64 (n : Int), pt b1] w fun e w' => e = .returned (.bool (nmP mn n)) ∧ Below w.heap.size w w' := by
  have E : RowKit.Hid (nmP mn n = decide (((16 + (n : Int)) * 8 + 4) / 5 ≤ mn)) := Lib.hid rfl
  have hpos : (0 : Int) ≤ (16 + (n : Int)) * 8 + 4 := by omega
  go_enter Tryz.func61, Tryz.ntmps61
  go_wp2_with fail
  go_ret
  exact ⟨by rw [E.out]; rfl, Below.refl _ _⟩
/-- the greatest length of a name that is sealed. -/
theorem gr_name (mn g : Int) (h1 : 1 ≤ mn) (h2 : mn ≤ 255) (h : GrOut 255 (nmP mn) g) : (g < 1 ↔ mn * 5 / 8 - 16 < 1) ∧ (1 ≤ g → g = mn * 5 / 8 - 16) := by
  obtain ⟨a1, a2, a3, a4⟩ := h
  have b3 : g = -1 ∨ ((16 + g) * 8 + 4) / 5 ≤ mn := by
    rcases a3 with a3 | a3
    · exact Or.inl a3
    · by_cases hg : g = -1
      · exact Or.inl hg
      · refine Or.inr ?_
        have := of_decide_eq_true a3
        rw [Int.toNat_of_nonneg (by omega)] at this
        exact this
  have b4 : g = 255 ∨ ¬ ((16 + (g + 1)) * 8 + 4) / 5 ≤ mn := by
    rcases a4 with a4 | a4
    · exact Or.inl a4
    · refine Or.inr ?_
      have := of_decide_eq_false a4
      rw [Int.toNat_of_nonneg (by omega)] at this
      exact this
  constructor
  · omega
  · intro; omega
set_option maxRecDepth 100000 in
set_option maxHeartbeats 4000000 in
theorem crypt1N_ok (m : Nat) (h sm pr mn mp ms pg ps : Int) (fo : ByteArray) (w : World) (hA : RowKit.Hid (bits .andNot .i64 h 1024 = h)) (hf : FeatG h sm pr mn mp ms pg ps fo m w) (hn1 : 1 ≤ mn) (hn2 : mn ≤ 255) (hm1 : 0 ≤ ms) (hm2 : ms ≤ 1048576) (hc : mn - 2 < 1) : Calls Tryz.prog 31 #[.iface 29 (pt m), .int .i64 1] w fun e w' => ∃ (x0 x1 x2 x3 x4 x5 x6 x7 : Int) (x8 : ByteArray), e = .returned (.tuple #[.agg #[.int .i64 x0, .int .i64 x1, .int .i64 x2, .int .i64 x3, .int .i64 x4, .int .i64 x5, .int .i64 x6, .int .i64 x7, .string x8], .int .i64 12]) ∧ Below w.heap.size w w' := by
  have H := Lib.hid (fun wx (hb : Below w.heap.size w wx) => hf.below hb)
  clear hf
  have HC := Lib.hid (fun wx => Tryz.strings_Contains_one fo 46 wx)
  go_enter Tryz.func31, Tryz.ntmps31
  go_wp2_with fail
  have HZ := Lib.hid (Blk.new w 26 #[.int .i64 0, .int .i64 0, .int .i64 0, .int .i64 0, .int .i64 0, .int .i64 0, .int .i64 0, .int .i64 0, .string ⟨#[]⟩])
  have HB := Lib.hid ((Below.refl w.heap.size w).alloc (Nat.le_refl _) (.cells #[.int .i64 0, .int .i64 0, .int .i64 0, .int .i64 0, .int .i64 0, .int .i64 0, .int .i64 0, .int .i64 0, .string ⟨#[]⟩] 26))
  generalize (w.alloc (.cells #[.int .i64 0, .int .i64 0, .int .i64 0, .int .i64 0, .int .i64 0, .int .i64 0, .int .i64 0, .int .i64 0, .string ⟨#[]⟩] 26)) = w1 at *
  generalize hzb : w.heap.size = zb at *
  have HZB := Lib.hid hzb
  clear hzb
  refine (featuresG_ok h sm pr mn mp ms pg ps fo m w1 hA.out (H.out _ HB.out)).mono ?_
  rintro e w2 ⟨rfl, hb⟩
  have HZ2 := Lib.hid (HZ.out.below hb HZ.out.lt)
  have HB2 := Lib.hid (HB.out.trans (hb.mono (Nat.le_of_lt HZ.out.lt)))
  clear hb HZ HB
  go_wp2_with fail
  have hs2 := Nat.le_of_lt HZ2.out.lt
  have hfl := Lib.hid (show zb < w2.heap.size from HZ2.out.lt)
  have HF3 := Lib.hid (Blk.new w2 26 #[.int .i64 h, .int .i64 sm, .int .i64 pr, .int .i64 mn, .int .i64 mp, .int .i64 ms, .int .i64 pg, .int .i64 ps, .string fo])
  have HB3 := Lib.hid (HB2.out.alloc hs2 (.cells #[.int .i64 h, .int .i64 sm, .int .i64 pr, .int .i64 mn, .int .i64 mp, .int .i64 ms, .int .i64 pg, .int .i64 ps, .string fo] 26))
  have HZ3 := Lib.hid (HZ2.out.old (.cells #[.int .i64 h, .int .i64 sm, .int .i64 pr, .int .i64 mn, .int .i64 mp, .int .i64 ms, .int .i64 pg, .int .i64 ps, .string fo] 26))
  clear HZ2 HB2 hs2
  generalize (w2.alloc (.cells #[.int .i64 h, .int .i64 sm, .int .i64 pr, .int .i64 mn, .int .i64 mp, .int .i64 ms, .int .i64 pg, .int .i64 ps, .string fo] 26)) = w3 at *
  generalize w2.heap.size = fb at *
  refine ((H.out _ HB3.out).call).mono ?_
  rintro e w4 ⟨rfl, hb⟩
  have HF4 := Lib.hid (HF3.out.below hb HF3.out.lt)
  have HZ4 := Lib.hid (HZ3.out.below hb HZ3.out.lt)
  have HB4 := Lib.hid (HB3.out.trans (hb.mono (Nat.le_of_lt HZ3.out.lt)))
  clear hb HF3 HZ3 HB3
  go_wp2_with fail
  have hs4 := Nat.le_of_lt HZ4.out.lt
  have hll := Lib.hid (show fb < w4.heap.size from HF4.out.lt)
  have HL5 := Lib.hid (Blk.new w4 26 #[.int .i64 h, .int .i64 sm, .int .i64 pr, .int .i64 mn, .int .i64 mp, .int .i64 ms, .int .i64 pg, .int .i64 ps, .string fo])
  have HB5 := Lib.hid (HB4.out.alloc hs4 (.cells #[.int .i64 h, .int .i64 sm, .int .i64 pr, .int .i64 mn, .int .i64 mp, .int .i64 ms, .int .i64 pg, .int .i64 ps, .string fo] 26))
  have HZ5 := Lib.hid (HZ4.out.old (.cells #[.int .i64 h, .int .i64 sm, .int .i64 pr, .int .i64 mn, .int .i64 mp, .int .i64 ms, .int .i64 pg, .int .i64 ps, .string fo] 26))
  have HF5 := Lib.hid (HF4.out.old (.cells #[.int .i64 h, .int .i64 sm, .int .i64 pr, .int .i64 mn, .int .i64 mp, .int .i64 ms, .int .i64 pg, .int .i64 ps, .string fo] 26))
  clear HZ4 HB4 HF4 hs4
  generalize (w4.alloc (.cells #[.int .i64 h, .int .i64 sm, .int .i64 pr, .int .i64 mn, .int .i64 mp, .int .i64 ms, .int .i64 pg, .int .i64 ps, .string fo] 26)) = w5 at *
  generalize w4.heap.size = lb at *
  refine (greatestC_ok lb 1048576 (by decide) (by decide) (clP ms) w5 (fun wx hx n hn => holdsC_ok n lb ms wx (by omega) ((hx.cell (World.block_lt_of_cell? _ _ (HL5.out.cell 5))).trans (HL5.out.cell 5)))).mono ?_
  rintro e w6 ⟨g, rfl, hgr, hb⟩
  have HF6 := Lib.hid (HF5.out.below hb HF5.out.lt)
  have HL6 := Lib.hid (HL5.out.below hb HL5.out.lt)
  have HZ6 := Lib.hid (HZ5.out.below hb HZ5.out.lt)
  have HB6 := Lib.hid (HB5.out.trans (hb.mono (Nat.le_of_lt HZ5.out.lt)))
  have hgn := hgr.neg (by decide) (clP_mono ms)
  rw [clP_zero ms] at hgn
  have hg1 := hgr.1
  have hg2 := hgr.2.1
  have hzl : zb ≤ fb := Nat.le_of_lt hfl.out
  clear hb hgr HF5 HL5 HZ5 HB5 H
  have c0 := HF6.out.cell 0
  have c3 := HF6.out.cell 3
  have c5 := HF6.out.cell 5
  have c8 := HF6.out.cell 8
  simp at c0 c3 c5 c8
  have f0 := HF6.out.frozen 0
  have f3 := HF6.out.frozen 3
  have f5 := HF6.out.frozen 5
  have f8 := HF6.out.frozen 8
  have e1d : decide (mn - 2 < 1) = true := decide_eq_true hc
  clear hgn
  go_upto_region 12 with (fail)
  have HF7 := Lib.hid (show Blk _ fb 26 #[.int .i64 h, .int .i64 sm, .int .i64 pr, .int .i64 (mn - 2), .int .i64 mp, .int .i64 g, .int .i64 pg, .int .i64 ps, .string fo] from (HF6.out.set 5 (.int .i64 g)).set 3 (.int .i64 (mn - 2)))
  have K := ((Kp.refl [fb] w6).setCell ⟨fb, 5, none⟩ (.int .i64 g) (Or.inl (by simp))).setCell ⟨fb, 3, none⟩ (.int .i64 (mn - 2)) (Or.inl (by simp))
  have HL7 := Lib.hid (K.blk HL6.out (by have := hll.out; simp; omega))
  have HZ7 := Lib.hid (K.blk HZ6.out (by have := hfl.out; simp; omega))
  have HB7 := Lib.hid ((HB6.out.setCell (p := ⟨fb, 5, none⟩) hzl (.int .i64 g)).setCell (p := ⟨fb, 3, none⟩) hzl (.int .i64 (mn - 2)))
  clear K HF6 HL6 HZ6 HB6 c0 c3 c5 c8 f0 f3 f5 f8
  generalize ((w6.setCell ⟨fb, 5, none⟩ (.int .i64 g)).setCell ⟨fb, 3, none⟩ (.int .i64 (mn - 2))) = w7 at *
  have c0 := HF7.out.cell 0
  have c3 := HF7.out.cell 3
  have c5 := HF7.out.cell 5
  have l0 := HL7.out.cell 0
  have l8 := HL7.out.cell 8
  simp at c0 c3 c5 l0 l8
  go_wp2_with fail
  refine (HC.out _).mono ?_
  rintro e w8 ⟨rfl, rfl⟩
  go_wp2_with (first | (refine wpList_load_row rfl 26 _ rfl fb rfl 26 #[.int .i64 h, .int .i64 sm, .int .i64 pr, .int .i64 (mn - 2), .int .i64 mp, .int .i64 g, .int .i64 pg, .int .i64 ps, .string fo] (0, 0) _ HF7.out Tryz.underlying26 rfl infoFt ?_) | (refine wpList_store_row rfl 26 _ _ rfl zb #[.int .i64 h, .int .i64 sm, .int .i64 pr, .int .i64 (mn - 2), .int .i64 mp, .int .i64 g, .int .i64 pg, .int .i64 ps, .string fo] rfl rfl 26 _ HZ7.out infoFt rfl (by simp [Value.oneCell']) ?_))
  (try simp only [Exit.inBlock, Exit.then])
  refine bodyPost_ret (v := .tuple #[.agg #[.int .i64 h, .int .i64 sm, .int .i64 pr, .int .i64 (mn - 2), .int .i64 mp, .int .i64 g, .int .i64 pg, .int .i64 ps, .string fo], .int .i64 12]) (results_cell_tmp (p := 4) (u := 5) Tryz.results31 _ _ zb 26 _ (0, 0) _ rfl (setRow_heap _ _ _ _ _ _ HZ7.out) Tryz.underlying26 rfl infoFt) rfl ?_
  rw [HZB.out]
  first | exact ⟨_, _, _, _, _, _, _, _, _, rfl, below_setRow HB7.out (Nat.le_refl _)⟩ | exact ⟨⟨_, _, _, _, _, _, _, _, _, rfl⟩, below_setRow HB7.out (Nat.le_refl _)⟩
set_option maxRecDepth 100000 in
set_option maxHeartbeats 4000000 in
theorem crypt1M_ok (m : Nat) (h sm pr mn mp ms pg ps : Int) (fo : ByteArray) (w : World) (hA : RowKit.Hid (bits .andNot .i64 h 1024 = h)) (hf : FeatG h sm pr mn mp ms pg ps fo m w) (hn1 : 1 ≤ mn) (hn2 : mn ≤ 255) (hm1 : 0 ≤ ms) (hm2 : ms ≤ 1048576) (hc : ¬ mn - 2 < 1) (hd : ms < 36) : Calls Tryz.prog 31 #[.iface 29 (pt m), .int .i64 1] w fun e w' => ∃ (x0 x1 x2 x3 x4 x5 x6 x7 : Int) (x8 : ByteArray), e = .returned (.tuple #[.agg #[.int .i64 x0, .int .i64 x1, .int .i64 x2, .int .i64 x3, .int .i64 x4, .int .i64 x5, .int .i64 x6, .int .i64 x7, .string x8], .int .i64 12]) ∧ Below w.heap.size w w' := by
  have H := Lib.hid (fun wx (hb : Below w.heap.size w wx) => hf.below hb)
  clear hf
  have HC := Lib.hid (fun wx => Tryz.strings_Contains_one fo 46 wx)
  go_enter Tryz.func31, Tryz.ntmps31
  go_wp2_with fail
  have HZ := Lib.hid (Blk.new w 26 #[.int .i64 0, .int .i64 0, .int .i64 0, .int .i64 0, .int .i64 0, .int .i64 0, .int .i64 0, .int .i64 0, .string ⟨#[]⟩])
  have HB := Lib.hid ((Below.refl w.heap.size w).alloc (Nat.le_refl _) (.cells #[.int .i64 0, .int .i64 0, .int .i64 0, .int .i64 0, .int .i64 0, .int .i64 0, .int .i64 0, .int .i64 0, .string ⟨#[]⟩] 26))
  generalize (w.alloc (.cells #[.int .i64 0, .int .i64 0, .int .i64 0, .int .i64 0, .int .i64 0, .int .i64 0, .int .i64 0, .int .i64 0, .string ⟨#[]⟩] 26)) = w1 at *
  generalize hzb : w.heap.size = zb at *
  have HZB := Lib.hid hzb
  clear hzb
  refine (featuresG_ok h sm pr mn mp ms pg ps fo m w1 hA.out (H.out _ HB.out)).mono ?_
  rintro e w2 ⟨rfl, hb⟩
  have HZ2 := Lib.hid (HZ.out.below hb HZ.out.lt)
  have HB2 := Lib.hid (HB.out.trans (hb.mono (Nat.le_of_lt HZ.out.lt)))
  clear hb HZ HB
  go_wp2_with fail
  have hs2 := Nat.le_of_lt HZ2.out.lt
  have hfl := Lib.hid (show zb < w2.heap.size from HZ2.out.lt)
  have HF3 := Lib.hid (Blk.new w2 26 #[.int .i64 h, .int .i64 sm, .int .i64 pr, .int .i64 mn, .int .i64 mp, .int .i64 ms, .int .i64 pg, .int .i64 ps, .string fo])
  have HB3 := Lib.hid (HB2.out.alloc hs2 (.cells #[.int .i64 h, .int .i64 sm, .int .i64 pr, .int .i64 mn, .int .i64 mp, .int .i64 ms, .int .i64 pg, .int .i64 ps, .string fo] 26))
  have HZ3 := Lib.hid (HZ2.out.old (.cells #[.int .i64 h, .int .i64 sm, .int .i64 pr, .int .i64 mn, .int .i64 mp, .int .i64 ms, .int .i64 pg, .int .i64 ps, .string fo] 26))
  clear HZ2 HB2 hs2
  generalize (w2.alloc (.cells #[.int .i64 h, .int .i64 sm, .int .i64 pr, .int .i64 mn, .int .i64 mp, .int .i64 ms, .int .i64 pg, .int .i64 ps, .string fo] 26)) = w3 at *
  generalize w2.heap.size = fb at *
  refine ((H.out _ HB3.out).call).mono ?_
  rintro e w4 ⟨rfl, hb⟩
  have HF4 := Lib.hid (HF3.out.below hb HF3.out.lt)
  have HZ4 := Lib.hid (HZ3.out.below hb HZ3.out.lt)
  have HB4 := Lib.hid (HB3.out.trans (hb.mono (Nat.le_of_lt HZ3.out.lt)))
  clear hb HF3 HZ3 HB3
  go_wp2_with fail
  have hs4 := Nat.le_of_lt HZ4.out.lt
  have hll := Lib.hid (show fb < w4.heap.size from HF4.out.lt)
  have HL5 := Lib.hid (Blk.new w4 26 #[.int .i64 h, .int .i64 sm, .int .i64 pr, .int .i64 mn, .int .i64 mp, .int .i64 ms, .int .i64 pg, .int .i64 ps, .string fo])
  have HB5 := Lib.hid (HB4.out.alloc hs4 (.cells #[.int .i64 h, .int .i64 sm, .int .i64 pr, .int .i64 mn, .int .i64 mp, .int .i64 ms, .int .i64 pg, .int .i64 ps, .string fo] 26))
  have HZ5 := Lib.hid (HZ4.out.old (.cells #[.int .i64 h, .int .i64 sm, .int .i64 pr, .int .i64 mn, .int .i64 mp, .int .i64 ms, .int .i64 pg, .int .i64 ps, .string fo] 26))
  have HF5 := Lib.hid (HF4.out.old (.cells #[.int .i64 h, .int .i64 sm, .int .i64 pr, .int .i64 mn, .int .i64 mp, .int .i64 ms, .int .i64 pg, .int .i64 ps, .string fo] 26))
  clear HZ4 HB4 HF4 hs4
  generalize (w4.alloc (.cells #[.int .i64 h, .int .i64 sm, .int .i64 pr, .int .i64 mn, .int .i64 mp, .int .i64 ms, .int .i64 pg, .int .i64 ps, .string fo] 26)) = w5 at *
  generalize w4.heap.size = lb at *
  refine (greatestC_ok lb 1048576 (by decide) (by decide) (clP ms) w5 (fun wx hx n hn => holdsC_ok n lb ms wx (by omega) ((hx.cell (World.block_lt_of_cell? _ _ (HL5.out.cell 5))).trans (HL5.out.cell 5)))).mono ?_
  rintro e w6 ⟨g, rfl, hgr, hb⟩
  have HF6 := Lib.hid (HF5.out.below hb HF5.out.lt)
  have HL6 := Lib.hid (HL5.out.below hb HL5.out.lt)
  have HZ6 := Lib.hid (HZ5.out.below hb HZ5.out.lt)
  have HB6 := Lib.hid (HB5.out.trans (hb.mono (Nat.le_of_lt HZ5.out.lt)))
  have hgn := hgr.neg (by decide) (clP_mono ms)
  rw [clP_zero ms] at hgn
  have hg1 := hgr.1
  have hg2 := hgr.2.1
  have hzl : zb ≤ fb := Nat.le_of_lt hfl.out
  clear hb hgr HF5 HL5 HZ5 HB5 H
  have c0 := HF6.out.cell 0
  have c3 := HF6.out.cell 3
  have c5 := HF6.out.cell 5
  have c8 := HF6.out.cell 8
  simp at c0 c3 c5 c8
  have f0 := HF6.out.frozen 0
  have f3 := HF6.out.frozen 3
  have f5 := HF6.out.frozen 5
  have f8 := HF6.out.frozen 8
  have e1 : ¬ mn - 2 < 1 := by omega
  have e1d : decide (mn - 2 < 1) = false := decide_eq_false e1
  have e2 : g < 0 := hgn.2 (decide_eq_false (by omega))
  have e2d : decide (g < 0) = true := decide_eq_true e2
  clear hgn
  go_upto_region 12 with (fail)
  have HF7 := Lib.hid (show Blk _ fb 26 #[.int .i64 h, .int .i64 sm, .int .i64 pr, .int .i64 (mn - 2), .int .i64 mp, .int .i64 g, .int .i64 pg, .int .i64 ps, .string fo] from (HF6.out.set 5 (.int .i64 g)).set 3 (.int .i64 (mn - 2)))
  have K := ((Kp.refl [fb] w6).setCell ⟨fb, 5, none⟩ (.int .i64 g) (Or.inl (by simp))).setCell ⟨fb, 3, none⟩ (.int .i64 (mn - 2)) (Or.inl (by simp))
  have HL7 := Lib.hid (K.blk HL6.out (by have := hll.out; simp; omega))
  have HZ7 := Lib.hid (K.blk HZ6.out (by have := hfl.out; simp; omega))
  have HB7 := Lib.hid ((HB6.out.setCell (p := ⟨fb, 5, none⟩) hzl (.int .i64 g)).setCell (p := ⟨fb, 3, none⟩) hzl (.int .i64 (mn - 2)))
  clear K HF6 HL6 HZ6 HB6 c0 c3 c5 c8 f0 f3 f5 f8
  generalize ((w6.setCell ⟨fb, 5, none⟩ (.int .i64 g)).setCell ⟨fb, 3, none⟩ (.int .i64 (mn - 2))) = w7 at *
  have c0 := HF7.out.cell 0
  have c3 := HF7.out.cell 3
  have c5 := HF7.out.cell 5
  have l0 := HL7.out.cell 0
  have l8 := HL7.out.cell 8
  simp at c0 c3 c5 l0 l8
  go_wp2_with fail
  refine (HC.out _).mono ?_
  rintro e w8 ⟨rfl, rfl⟩
  go_wp2_with (first | (refine wpList_load_row rfl 26 _ rfl fb rfl 26 #[.int .i64 h, .int .i64 sm, .int .i64 pr, .int .i64 (mn - 2), .int .i64 mp, .int .i64 g, .int .i64 pg, .int .i64 ps, .string fo] (0, 0) _ HF7.out Tryz.underlying26 rfl infoFt ?_) | (refine wpList_store_row rfl 26 _ _ rfl zb #[.int .i64 h, .int .i64 sm, .int .i64 pr, .int .i64 (mn - 2), .int .i64 mp, .int .i64 g, .int .i64 pg, .int .i64 ps, .string fo] rfl rfl 26 _ HZ7.out infoFt rfl (by simp [Value.oneCell']) ?_))
  (try simp only [Exit.inBlock, Exit.then])
  refine bodyPost_ret (v := .tuple #[.agg #[.int .i64 h, .int .i64 sm, .int .i64 pr, .int .i64 (mn - 2), .int .i64 mp, .int .i64 g, .int .i64 pg, .int .i64 ps, .string fo], .int .i64 12]) (results_cell_tmp (p := 4) (u := 5) Tryz.results31 _ _ zb 26 _ (0, 0) _ rfl (setRow_heap _ _ _ _ _ _ HZ7.out) Tryz.underlying26 rfl infoFt) rfl ?_
  rw [HZB.out]
  first | exact ⟨_, _, _, _, _, _, _, _, _, rfl, below_setRow HB7.out (Nat.le_refl _)⟩ | exact ⟨⟨_, _, _, _, _, _, _, _, _, rfl⟩, below_setRow HB7.out (Nat.le_refl _)⟩
set_option maxRecDepth 100000 in
set_option maxHeartbeats 4000000 in
theorem crypt1D_ok (m : Nat) (h sm pr mn mp ms pg ps : Int) (fo : ByteArray) (w : World) (hA : RowKit.Hid (bits .andNot .i64 h 1024 = h)) (hf : FeatG h sm pr mn mp ms pg ps fo m w) (hn1 : 1 ≤ mn) (hn2 : mn ≤ 255) (hm1 : 0 ≤ ms) (hm2 : ms ≤ 1048576) (hc : ¬ mn - 2 < 1) (hd : ¬ ms < 36) (hdot : decide (0 ≤ Lib.indexByte fo.data.toList 46) = true) : Calls Tryz.prog 31 #[.iface 29 (pt m), .int .i64 1] w fun e w' => ∃ (x0 x1 x2 x3 x4 x5 x6 x7 : Int) (x8 : ByteArray), e = .returned (.tuple #[.agg #[.int .i64 x0, .int .i64 x1, .int .i64 x2, .int .i64 x3, .int .i64 x4, .int .i64 x5, .int .i64 x6, .int .i64 x7, .string x8], .int .i64 12]) ∧ Below w.heap.size w w' := by
  have H := Lib.hid (fun wx (hb : Below w.heap.size w wx) => hf.below hb)
  clear hf
  have HC := Lib.hid (fun wx => Tryz.strings_Contains_one fo 46 wx)
  go_enter Tryz.func31, Tryz.ntmps31
  go_wp2_with fail
  have HZ := Lib.hid (Blk.new w 26 #[.int .i64 0, .int .i64 0, .int .i64 0, .int .i64 0, .int .i64 0, .int .i64 0, .int .i64 0, .int .i64 0, .string ⟨#[]⟩])
  have HB := Lib.hid ((Below.refl w.heap.size w).alloc (Nat.le_refl _) (.cells #[.int .i64 0, .int .i64 0, .int .i64 0, .int .i64 0, .int .i64 0, .int .i64 0, .int .i64 0, .int .i64 0, .string ⟨#[]⟩] 26))
  generalize (w.alloc (.cells #[.int .i64 0, .int .i64 0, .int .i64 0, .int .i64 0, .int .i64 0, .int .i64 0, .int .i64 0, .int .i64 0, .string ⟨#[]⟩] 26)) = w1 at *
  generalize hzb : w.heap.size = zb at *
  have HZB := Lib.hid hzb
  clear hzb
  refine (featuresG_ok h sm pr mn mp ms pg ps fo m w1 hA.out (H.out _ HB.out)).mono ?_
  rintro e w2 ⟨rfl, hb⟩
  have HZ2 := Lib.hid (HZ.out.below hb HZ.out.lt)
  have HB2 := Lib.hid (HB.out.trans (hb.mono (Nat.le_of_lt HZ.out.lt)))
  clear hb HZ HB
  go_wp2_with fail
  have hs2 := Nat.le_of_lt HZ2.out.lt
  have hfl := Lib.hid (show zb < w2.heap.size from HZ2.out.lt)
  have HF3 := Lib.hid (Blk.new w2 26 #[.int .i64 h, .int .i64 sm, .int .i64 pr, .int .i64 mn, .int .i64 mp, .int .i64 ms, .int .i64 pg, .int .i64 ps, .string fo])
  have HB3 := Lib.hid (HB2.out.alloc hs2 (.cells #[.int .i64 h, .int .i64 sm, .int .i64 pr, .int .i64 mn, .int .i64 mp, .int .i64 ms, .int .i64 pg, .int .i64 ps, .string fo] 26))
  have HZ3 := Lib.hid (HZ2.out.old (.cells #[.int .i64 h, .int .i64 sm, .int .i64 pr, .int .i64 mn, .int .i64 mp, .int .i64 ms, .int .i64 pg, .int .i64 ps, .string fo] 26))
  clear HZ2 HB2 hs2
  generalize (w2.alloc (.cells #[.int .i64 h, .int .i64 sm, .int .i64 pr, .int .i64 mn, .int .i64 mp, .int .i64 ms, .int .i64 pg, .int .i64 ps, .string fo] 26)) = w3 at *
  generalize w2.heap.size = fb at *
  refine ((H.out _ HB3.out).call).mono ?_
  rintro e w4 ⟨rfl, hb⟩
  have HF4 := Lib.hid (HF3.out.below hb HF3.out.lt)
  have HZ4 := Lib.hid (HZ3.out.below hb HZ3.out.lt)
  have HB4 := Lib.hid (HB3.out.trans (hb.mono (Nat.le_of_lt HZ3.out.lt)))
  clear hb HF3 HZ3 HB3
  go_wp2_with fail
  have hs4 := Nat.le_of_lt HZ4.out.lt
  have hll := Lib.hid (show fb < w4.heap.size from HF4.out.lt)
  have HL5 := Lib.hid (Blk.new w4 26 #[.int .i64 h, .int .i64 sm, .int .i64 pr, .int .i64 mn, .int .i64 mp, .int .i64 ms, .int .i64 pg, .int .i64 ps, .string fo])
  have HB5 := Lib.hid (HB4.out.alloc hs4 (.cells #[.int .i64 h, .int .i64 sm, .int .i64 pr, .int .i64 mn, .int .i64 mp, .int .i64 ms, .int .i64 pg, .int .i64 ps, .string fo] 26))
  have HZ5 := Lib.hid (HZ4.out.old (.cells #[.int .i64 h, .int .i64 sm, .int .i64 pr, .int .i64 mn, .int .i64 mp, .int .i64 ms, .int .i64 pg, .int .i64 ps, .string fo] 26))
  have HF5 := Lib.hid (HF4.out.old (.cells #[.int .i64 h, .int .i64 sm, .int .i64 pr, .int .i64 mn, .int .i64 mp, .int .i64 ms, .int .i64 pg, .int .i64 ps, .string fo] 26))
  clear HZ4 HB4 HF4 hs4
  generalize (w4.alloc (.cells #[.int .i64 h, .int .i64 sm, .int .i64 pr, .int .i64 mn, .int .i64 mp, .int .i64 ms, .int .i64 pg, .int .i64 ps, .string fo] 26)) = w5 at *
  generalize w4.heap.size = lb at *
  refine (greatestC_ok lb 1048576 (by decide) (by decide) (clP ms) w5 (fun wx hx n hn => holdsC_ok n lb ms wx (by omega) ((hx.cell (World.block_lt_of_cell? _ _ (HL5.out.cell 5))).trans (HL5.out.cell 5)))).mono ?_
  rintro e w6 ⟨g, rfl, hgr, hb⟩
  have HF6 := Lib.hid (HF5.out.below hb HF5.out.lt)
  have HL6 := Lib.hid (HL5.out.below hb HL5.out.lt)
  have HZ6 := Lib.hid (HZ5.out.below hb HZ5.out.lt)
  have HB6 := Lib.hid (HB5.out.trans (hb.mono (Nat.le_of_lt HZ5.out.lt)))
  have hgn := hgr.neg (by decide) (clP_mono ms)
  rw [clP_zero ms] at hgn
  have hg1 := hgr.1
  have hg2 := hgr.2.1
  have hzl : zb ≤ fb := Nat.le_of_lt hfl.out
  clear hb hgr HF5 HL5 HZ5 HB5 H
  have c0 := HF6.out.cell 0
  have c3 := HF6.out.cell 3
  have c5 := HF6.out.cell 5
  have c8 := HF6.out.cell 8
  simp at c0 c3 c5 c8
  have f0 := HF6.out.frozen 0
  have f3 := HF6.out.frozen 3
  have f5 := HF6.out.frozen 5
  have f8 := HF6.out.frozen 8
  have e1 : ¬ mn - 2 < 1 := by omega
  have e1d : decide (mn - 2 < 1) = false := decide_eq_false e1
  have e2 : ¬ g < 0 := fun hg => absurd (hgn.1 hg) (by rw [decide_eq_true (by omega)]; simp)
  have e2d : decide (g < 0) = false := decide_eq_false e2
  clear hgn
  rw [hdot] at HC
  clear hdot
  go_upto_region 12 with (fail)
  have HF7 := Lib.hid (show Blk _ fb 26 #[.int .i64 h, .int .i64 sm, .int .i64 pr, .int .i64 (mn - 2), .int .i64 mp, .int .i64 g, .int .i64 pg, .int .i64 ps, .string fo] from (HF6.out.set 5 (.int .i64 g)).set 3 (.int .i64 (mn - 2)))
  have K := ((Kp.refl [fb] w6).setCell ⟨fb, 5, none⟩ (.int .i64 g) (Or.inl (by simp))).setCell ⟨fb, 3, none⟩ (.int .i64 (mn - 2)) (Or.inl (by simp))
  have HL7 := Lib.hid (K.blk HL6.out (by have := hll.out; simp; omega))
  have HZ7 := Lib.hid (K.blk HZ6.out (by have := hfl.out; simp; omega))
  have HB7 := Lib.hid ((HB6.out.setCell (p := ⟨fb, 5, none⟩) hzl (.int .i64 g)).setCell (p := ⟨fb, 3, none⟩) hzl (.int .i64 (mn - 2)))
  clear K HF6 HL6 HZ6 HB6 c0 c3 c5 c8 f0 f3 f5 f8
  generalize ((w6.setCell ⟨fb, 5, none⟩ (.int .i64 g)).setCell ⟨fb, 3, none⟩ (.int .i64 (mn - 2))) = w7 at *
  have c0 := HF7.out.cell 0
  have c3 := HF7.out.cell 3
  have c5 := HF7.out.cell 5
  have l0 := HL7.out.cell 0
  have l8 := HL7.out.cell 8
  simp at c0 c3 c5 l0 l8
  go_wp2_with fail
  refine (HC.out _).mono ?_
  rintro e w8 ⟨rfl, rfl⟩
  go_wp2_with (first | (refine wpList_load_row rfl 26 _ rfl fb rfl 26 #[.int .i64 h, .int .i64 sm, .int .i64 pr, .int .i64 (mn - 2), .int .i64 mp, .int .i64 g, .int .i64 pg, .int .i64 ps, .string fo] (0, 0) _ HF7.out Tryz.underlying26 rfl infoFt ?_) | (refine wpList_store_row rfl 26 _ _ rfl zb #[.int .i64 h, .int .i64 sm, .int .i64 pr, .int .i64 (mn - 2), .int .i64 mp, .int .i64 g, .int .i64 pg, .int .i64 ps, .string fo] rfl rfl 26 _ HZ7.out infoFt rfl (by simp [Value.oneCell']) ?_))
  (try simp only [Exit.inBlock, Exit.then])
  refine bodyPost_ret (v := .tuple #[.agg #[.int .i64 h, .int .i64 sm, .int .i64 pr, .int .i64 (mn - 2), .int .i64 mp, .int .i64 g, .int .i64 pg, .int .i64 ps, .string fo], .int .i64 12]) (results_cell_tmp (p := 4) (u := 5) Tryz.results31 _ _ zb 26 _ (0, 0) _ rfl (setRow_heap _ _ _ _ _ _ HZ7.out) Tryz.underlying26 rfl infoFt) rfl ?_
  rw [HZB.out]
  first | exact ⟨_, _, _, _, _, _, _, _, _, rfl, below_setRow HB7.out (Nat.le_refl _)⟩ | exact ⟨⟨_, _, _, _, _, _, _, _, _, rfl⟩, below_setRow HB7.out (Nat.le_refl _)⟩
set_option maxRecDepth 100000 in
set_option maxHeartbeats 4000000 in
theorem crypt1O_ok (m : Nat) (h sm pr mn mp ms pg ps : Int) (fo : ByteArray) (w : World) (hA : RowKit.Hid (bits .andNot .i64 h 1024 = h)) (hf : FeatG h sm pr mn mp ms pg ps fo m w) (hn1 : 1 ≤ mn) (hn2 : mn ≤ 255) (hm1 : 0 ≤ ms) (hm2 : ms ≤ 1048576) (hc : ¬ mn - 2 < 1) (hd : ¬ ms < 36) (hdot : decide (0 ≤ Lib.indexByte fo.data.toList 46) = false) : Calls Tryz.prog 31 #[.iface 29 (pt m), .int .i64 1] w fun e w' => ∃ h1 ms1 : Int, ∃ fo1 : ByteArray, e = .returned (.tuple #[.agg #[.int .i64 h1, .int .i64 0, .int .i64 pr, .int .i64 (mn - 2), .int .i64 mp, .int .i64 ms1, .int .i64 pg, .int .i64 1, .string fo1], .int .i64 0]) ∧ Below w.heap.size w w' := by
  have H := Lib.hid (fun wx (hb : Below w.heap.size w wx) => hf.below hb)
  clear hf
  have HC := Lib.hid (fun wx => Tryz.strings_Contains_one fo 46 wx)
  go_enter Tryz.func31, Tryz.ntmps31
  go_wp2_with fail
  have HZ := Lib.hid (Blk.new w 26 #[.int .i64 0, .int .i64 0, .int .i64 0, .int .i64 0, .int .i64 0, .int .i64 0, .int .i64 0, .int .i64 0, .string ⟨#[]⟩])
  have HB := Lib.hid ((Below.refl w.heap.size w).alloc (Nat.le_refl _) (.cells #[.int .i64 0, .int .i64 0, .int .i64 0, .int .i64 0, .int .i64 0, .int .i64 0, .int .i64 0, .int .i64 0, .string ⟨#[]⟩] 26))
  generalize (w.alloc (.cells #[.int .i64 0, .int .i64 0, .int .i64 0, .int .i64 0, .int .i64 0, .int .i64 0, .int .i64 0, .int .i64 0, .string ⟨#[]⟩] 26)) = w1 at *
  generalize hzb : w.heap.size = zb at *
  have HZB := Lib.hid hzb
  clear hzb
  refine (featuresG_ok h sm pr mn mp ms pg ps fo m w1 hA.out (H.out _ HB.out)).mono ?_
  rintro e w2 ⟨rfl, hb⟩
  have HZ2 := Lib.hid (HZ.out.below hb HZ.out.lt)
  have HB2 := Lib.hid (HB.out.trans (hb.mono (Nat.le_of_lt HZ.out.lt)))
  clear hb HZ HB
  go_wp2_with fail
  have hs2 := Nat.le_of_lt HZ2.out.lt
  have hfl := Lib.hid (show zb < w2.heap.size from HZ2.out.lt)
  have HF3 := Lib.hid (Blk.new w2 26 #[.int .i64 h, .int .i64 sm, .int .i64 pr, .int .i64 mn, .int .i64 mp, .int .i64 ms, .int .i64 pg, .int .i64 ps, .string fo])
  have HB3 := Lib.hid (HB2.out.alloc hs2 (.cells #[.int .i64 h, .int .i64 sm, .int .i64 pr, .int .i64 mn, .int .i64 mp, .int .i64 ms, .int .i64 pg, .int .i64 ps, .string fo] 26))
  have HZ3 := Lib.hid (HZ2.out.old (.cells #[.int .i64 h, .int .i64 sm, .int .i64 pr, .int .i64 mn, .int .i64 mp, .int .i64 ms, .int .i64 pg, .int .i64 ps, .string fo] 26))
  clear HZ2 HB2 hs2
  generalize (w2.alloc (.cells #[.int .i64 h, .int .i64 sm, .int .i64 pr, .int .i64 mn, .int .i64 mp, .int .i64 ms, .int .i64 pg, .int .i64 ps, .string fo] 26)) = w3 at *
  generalize w2.heap.size = fb at *
  refine ((H.out _ HB3.out).call).mono ?_
  rintro e w4 ⟨rfl, hb⟩
  have HF4 := Lib.hid (HF3.out.below hb HF3.out.lt)
  have HZ4 := Lib.hid (HZ3.out.below hb HZ3.out.lt)
  have HB4 := Lib.hid (HB3.out.trans (hb.mono (Nat.le_of_lt HZ3.out.lt)))
  clear hb HF3 HZ3 HB3
  go_wp2_with fail
  have hs4 := Nat.le_of_lt HZ4.out.lt
  have hll := Lib.hid (show fb < w4.heap.size from HF4.out.lt)
  have HL5 := Lib.hid (Blk.new w4 26 #[.int .i64 h, .int .i64 sm, .int .i64 pr, .int .i64 mn, .int .i64 mp, .int .i64 ms, .int .i64 pg, .int .i64 ps, .string fo])
  have HB5 := Lib.hid (HB4.out.alloc hs4 (.cells #[.int .i64 h, .int .i64 sm, .int .i64 pr, .int .i64 mn, .int .i64 mp, .int .i64 ms, .int .i64 pg, .int .i64 ps, .string fo] 26))
  have HZ5 := Lib.hid (HZ4.out.old (.cells #[.int .i64 h, .int .i64 sm, .int .i64 pr, .int .i64 mn, .int .i64 mp, .int .i64 ms, .int .i64 pg, .int .i64 ps, .string fo] 26))
  have HF5 := Lib.hid (HF4.out.old (.cells #[.int .i64 h, .int .i64 sm, .int .i64 pr, .int .i64 mn, .int .i64 mp, .int .i64 ms, .int .i64 pg, .int .i64 ps, .string fo] 26))
  clear HZ4 HB4 HF4 hs4
  generalize (w4.alloc (.cells #[.int .i64 h, .int .i64 sm, .int .i64 pr, .int .i64 mn, .int .i64 mp, .int .i64 ms, .int .i64 pg, .int .i64 ps, .string fo] 26)) = w5 at *
  generalize w4.heap.size = lb at *
  refine (greatestC_ok lb 1048576 (by decide) (by decide) (clP ms) w5 (fun wx hx n hn => holdsC_ok n lb ms wx (by omega) ((hx.cell (World.block_lt_of_cell? _ _ (HL5.out.cell 5))).trans (HL5.out.cell 5)))).mono ?_
  rintro e w6 ⟨g, rfl, hgr, hb⟩
  have HF6 := Lib.hid (HF5.out.below hb HF5.out.lt)
  have HL6 := Lib.hid (HL5.out.below hb HL5.out.lt)
  have HZ6 := Lib.hid (HZ5.out.below hb HZ5.out.lt)
  have HB6 := Lib.hid (HB5.out.trans (hb.mono (Nat.le_of_lt HZ5.out.lt)))
  have hgn := hgr.neg (by decide) (clP_mono ms)
  rw [clP_zero ms] at hgn
  have hg1 := hgr.1
  have hg2 := hgr.2.1
  have hzl : zb ≤ fb := Nat.le_of_lt hfl.out
  clear hb hgr HF5 HL5 HZ5 HB5 H
  have c0 := HF6.out.cell 0
  have c3 := HF6.out.cell 3
  have c5 := HF6.out.cell 5
  have c8 := HF6.out.cell 8
  simp at c0 c3 c5 c8
  have f0 := HF6.out.frozen 0
  have f3 := HF6.out.frozen 3
  have f5 := HF6.out.frozen 5
  have f8 := HF6.out.frozen 8
  have e1 : ¬ mn - 2 < 1 := by omega
  have e1d : decide (mn - 2 < 1) = false := decide_eq_false e1
  have e2 : ¬ g < 0 := fun hg => absurd (hgn.1 hg) (by rw [decide_eq_true (by omega)]; simp)
  have e2d : decide (g < 0) = false := decide_eq_false e2
  clear hgn
  rw [hdot] at HC
  clear hdot
  go_upto_region 12 with (fail)
  have HF7 := Lib.hid (show Blk _ fb 26 #[.int .i64 h, .int .i64 sm, .int .i64 pr, .int .i64 (mn - 2), .int .i64 mp, .int .i64 g, .int .i64 pg, .int .i64 ps, .string fo] from (HF6.out.set 5 (.int .i64 g)).set 3 (.int .i64 (mn - 2)))
  have K := ((Kp.refl [fb] w6).setCell ⟨fb, 5, none⟩ (.int .i64 g) (Or.inl (by simp))).setCell ⟨fb, 3, none⟩ (.int .i64 (mn - 2)) (Or.inl (by simp))
  have HL7 := Lib.hid (K.blk HL6.out (by have := hll.out; simp; omega))
  have HZ7 := Lib.hid (K.blk HZ6.out (by have := hfl.out; simp; omega))
  have HB7 := Lib.hid ((HB6.out.setCell (p := ⟨fb, 5, none⟩) hzl (.int .i64 g)).setCell (p := ⟨fb, 3, none⟩) hzl (.int .i64 (mn - 2)))
  clear K HF6 HL6 HZ6 HB6 c0 c3 c5 c8 f0 f3 f5 f8
  generalize ((w6.setCell ⟨fb, 5, none⟩ (.int .i64 g)).setCell ⟨fb, 3, none⟩ (.int .i64 (mn - 2))) = w7 at *
  have c0 := HF7.out.cell 0
  have c3 := HF7.out.cell 3
  have c5 := HF7.out.cell 5
  have l0 := HL7.out.cell 0
  have l8 := HL7.out.cell 8
  simp at c0 c3 c5 l0 l8
  go_wp2_with fail
  refine (HC.out _).mono ?_
  rintro e w8 ⟨rfl, rfl⟩
  obtain ⟨h3, ha⟩ : ∃ h3, bits .andNot .i64 h 128 = h3 := ⟨_, rfl⟩
  have c1 := HF7.out.cell 1
  have c7 := HF7.out.cell 7
  simp at c1 c7
  have f0 := HF7.out.frozen 0
  have f1 := HF7.out.frozen 1
  have f7 := HF7.out.frozen 7
  go_upto_region 17 with (fail)
  have HF9 := Lib.hid (show Blk _ fb 26 #[.int .i64 h3, .int .i64 0, .int .i64 pr, .int .i64 (mn - 2), .int .i64 mp, .int .i64 g, .int .i64 pg, .int .i64 1, .string fo] from ((HF7.out.set 1 (.int .i64 0)).set 7 (.int .i64 1)).set 0 (.int .i64 h3))
  have K := (((Kp.refl [fb] w8).setCell ⟨fb, 1, none⟩ (.int .i64 0) (Or.inl (by simp))).setCell ⟨fb, 7, none⟩ (.int .i64 1) (Or.inl (by simp))).setCell ⟨fb, 0, none⟩ (.int .i64 h3) (Or.inl (by simp))
  have HZ9 := Lib.hid (K.blk HZ7.out (by have := hfl.out; simp; omega))
  have HB9 := Lib.hid (((HB7.out.setCell (p := ⟨fb, 1, none⟩) hzl (.int .i64 0)).setCell (p := ⟨fb, 7, none⟩) hzl (.int .i64 1)).setCell (p := ⟨fb, 0, none⟩) hzl (.int .i64 h3))
  clear K HF7 HL7 HZ7 HB7 c0 c1 c3 c5 c7 f0 f1 f7 l0 l8 ha
  generalize (((w8.setCell ⟨fb, 1, none⟩ (.int .i64 0)).setCell ⟨fb, 7, none⟩ (.int .i64 1)).setCell ⟨fb, 0, none⟩ (.int .i64 h3)) = w9 at *
  go_wp2_with (first | (refine wpList_load_row rfl 26 _ rfl fb rfl 26 #[.int .i64 h3, .int .i64 0, .int .i64 pr, .int .i64 (mn - 2), .int .i64 mp, .int .i64 g, .int .i64 pg, .int .i64 1, .string fo] (0, 0) _ HF9.out Tryz.underlying26 rfl infoFt ?_) | (refine wpList_store_row rfl 26 _ _ rfl zb #[.int .i64 h3, .int .i64 0, .int .i64 pr, .int .i64 (mn - 2), .int .i64 mp, .int .i64 g, .int .i64 pg, .int .i64 1, .string fo] rfl rfl 26 _ HZ9.out infoFt rfl (by simp [Value.oneCell']) ?_))
  (try simp only [Exit.inBlock, Exit.then])
  refine bodyPost_ret (v := .tuple #[.agg #[.int .i64 h3, .int .i64 0, .int .i64 pr, .int .i64 (mn - 2), .int .i64 mp, .int .i64 g, .int .i64 pg, .int .i64 1, .string fo], .int .i64 0]) (results_cell_tmp (p := 4) (u := 5) Tryz.results31 _ _ zb 26 _ (0, 0) _ rfl (setRow_heap _ _ _ _ _ _ HZ9.out) Tryz.underlying26 rfl infoFt) rfl ?_
  rw [HZB.out]
  first | exact ⟨_, _, _, rfl, below_setRow HB9.out (Nat.le_refl _)⟩ | exact ⟨⟨_, _, _, rfl⟩, below_setRow HB9.out (Nat.le_refl _)⟩
set_option maxRecDepth 100000 in
set_option maxHeartbeats 4000000 in
theorem crypt3N_ok (m : Nat) (h sm pr mn mp ms pg ps : Int) (fo : ByteArray) (w : World) (hA : RowKit.Hid (bits .andNot .i64 h 1024 = h)) (hf : FeatG h sm pr mn mp ms pg ps fo m w) (hn1 : 1 ≤ mn) (hn2 : mn ≤ 255) (hm1 : 0 ≤ ms) (hm2 : ms ≤ 1048576) (hc : mn - 4 < 1) : Calls Tryz.prog 31 #[.iface 29 (pt m), .int .i64 3] w fun e w' => ∃ (x0 x1 x2 x3 x4 x5 x6 x7 : Int) (x8 : ByteArray), e = .returned (.tuple #[.agg #[.int .i64 x0, .int .i64 x1, .int .i64 x2, .int .i64 x3, .int .i64 x4, .int .i64 x5, .int .i64 x6, .int .i64 x7, .string x8], .int .i64 12]) ∧ Below w.heap.size w w' := by
  have H := Lib.hid (fun wx (hb : Below w.heap.size w wx) => hf.below hb)
  clear hf
  have HC := Lib.hid (fun wx => Tryz.strings_Contains_one fo 46 wx)
  go_enter Tryz.func31, Tryz.ntmps31
  go_wp2_with fail
  have HZ := Lib.hid (Blk.new w 26 #[.int .i64 0, .int .i64 0, .int .i64 0, .int .i64 0, .int .i64 0, .int .i64 0, .int .i64 0, .int .i64 0, .string ⟨#[]⟩])
  have HB := Lib.hid ((Below.refl w.heap.size w).alloc (Nat.le_refl _) (.cells #[.int .i64 0, .int .i64 0, .int .i64 0, .int .i64 0, .int .i64 0, .int .i64 0, .int .i64 0, .int .i64 0, .string ⟨#[]⟩] 26))
  generalize (w.alloc (.cells #[.int .i64 0, .int .i64 0, .int .i64 0, .int .i64 0, .int .i64 0, .int .i64 0, .int .i64 0, .int .i64 0, .string ⟨#[]⟩] 26)) = w1 at *
  generalize hzb : w.heap.size = zb at *
  have HZB := Lib.hid hzb
  clear hzb
  refine (featuresG_ok h sm pr mn mp ms pg ps fo m w1 hA.out (H.out _ HB.out)).mono ?_
  rintro e w2 ⟨rfl, hb⟩
  have HZ2 := Lib.hid (HZ.out.below hb HZ.out.lt)
  have HB2 := Lib.hid (HB.out.trans (hb.mono (Nat.le_of_lt HZ.out.lt)))
  clear hb HZ HB
  go_wp2_with fail
  have hs2 := Nat.le_of_lt HZ2.out.lt
  have hfl := Lib.hid (show zb < w2.heap.size from HZ2.out.lt)
  have HF3 := Lib.hid (Blk.new w2 26 #[.int .i64 h, .int .i64 sm, .int .i64 pr, .int .i64 mn, .int .i64 mp, .int .i64 ms, .int .i64 pg, .int .i64 ps, .string fo])
  have HB3 := Lib.hid (HB2.out.alloc hs2 (.cells #[.int .i64 h, .int .i64 sm, .int .i64 pr, .int .i64 mn, .int .i64 mp, .int .i64 ms, .int .i64 pg, .int .i64 ps, .string fo] 26))
  have HZ3 := Lib.hid (HZ2.out.old (.cells #[.int .i64 h, .int .i64 sm, .int .i64 pr, .int .i64 mn, .int .i64 mp, .int .i64 ms, .int .i64 pg, .int .i64 ps, .string fo] 26))
  clear HZ2 HB2 hs2
  generalize (w2.alloc (.cells #[.int .i64 h, .int .i64 sm, .int .i64 pr, .int .i64 mn, .int .i64 mp, .int .i64 ms, .int .i64 pg, .int .i64 ps, .string fo] 26)) = w3 at *
  generalize w2.heap.size = fb at *
  refine ((H.out _ HB3.out).call).mono ?_
  rintro e w4 ⟨rfl, hb⟩
  have HF4 := Lib.hid (HF3.out.below hb HF3.out.lt)
  have HZ4 := Lib.hid (HZ3.out.below hb HZ3.out.lt)
  have HB4 := Lib.hid (HB3.out.trans (hb.mono (Nat.le_of_lt HZ3.out.lt)))
  clear hb HF3 HZ3 HB3
  go_wp2_with fail
  have hs4 := Nat.le_of_lt HZ4.out.lt
  have hll := Lib.hid (show fb < w4.heap.size from HF4.out.lt)
  have HL5 := Lib.hid (Blk.new w4 26 #[.int .i64 h, .int .i64 sm, .int .i64 pr, .int .i64 mn, .int .i64 mp, .int .i64 ms, .int .i64 pg, .int .i64 ps, .string fo])
  have HB5 := Lib.hid (HB4.out.alloc hs4 (.cells #[.int .i64 h, .int .i64 sm, .int .i64 pr, .int .i64 mn, .int .i64 mp, .int .i64 ms, .int .i64 pg, .int .i64 ps, .string fo] 26))
  have HZ5 := Lib.hid (HZ4.out.old (.cells #[.int .i64 h, .int .i64 sm, .int .i64 pr, .int .i64 mn, .int .i64 mp, .int .i64 ms, .int .i64 pg, .int .i64 ps, .string fo] 26))
  have HF5 := Lib.hid (HF4.out.old (.cells #[.int .i64 h, .int .i64 sm, .int .i64 pr, .int .i64 mn, .int .i64 mp, .int .i64 ms, .int .i64 pg, .int .i64 ps, .string fo] 26))
  clear HZ4 HB4 HF4 hs4
  generalize (w4.alloc (.cells #[.int .i64 h, .int .i64 sm, .int .i64 pr, .int .i64 mn, .int .i64 mp, .int .i64 ms, .int .i64 pg, .int .i64 ps, .string fo] 26)) = w5 at *
  generalize w4.heap.size = lb at *
  refine (greatestC_ok lb 1048576 (by decide) (by decide) (clP ms) w5 (fun wx hx n hn => holdsC_ok n lb ms wx (by omega) ((hx.cell (World.block_lt_of_cell? _ _ (HL5.out.cell 5))).trans (HL5.out.cell 5)))).mono ?_
  rintro e w6 ⟨g, rfl, hgr, hb⟩
  have HF6 := Lib.hid (HF5.out.below hb HF5.out.lt)
  have HL6 := Lib.hid (HL5.out.below hb HL5.out.lt)
  have HZ6 := Lib.hid (HZ5.out.below hb HZ5.out.lt)
  have HB6 := Lib.hid (HB5.out.trans (hb.mono (Nat.le_of_lt HZ5.out.lt)))
  have hgn := hgr.neg (by decide) (clP_mono ms)
  rw [clP_zero ms] at hgn
  have hg1 := hgr.1
  have hg2 := hgr.2.1
  have hzl : zb ≤ fb := Nat.le_of_lt hfl.out
  clear hb hgr HF5 HL5 HZ5 HB5 H
  have c0 := HF6.out.cell 0
  have c3 := HF6.out.cell 3
  have c5 := HF6.out.cell 5
  have c8 := HF6.out.cell 8
  simp at c0 c3 c5 c8
  have f0 := HF6.out.frozen 0
  have f3 := HF6.out.frozen 3
  have f5 := HF6.out.frozen 5
  have f8 := HF6.out.frozen 8
  have e1d : decide (mn - 4 < 1) = true := decide_eq_true hc
  clear hgn
  go_upto_region 12 with (fail)
  have HF7 := Lib.hid (show Blk _ fb 26 #[.int .i64 h, .int .i64 sm, .int .i64 pr, .int .i64 (mn - 4), .int .i64 mp, .int .i64 g, .int .i64 pg, .int .i64 ps, .string fo] from (HF6.out.set 5 (.int .i64 g)).set 3 (.int .i64 (mn - 4)))
  have K := ((Kp.refl [fb] w6).setCell ⟨fb, 5, none⟩ (.int .i64 g) (Or.inl (by simp))).setCell ⟨fb, 3, none⟩ (.int .i64 (mn - 4)) (Or.inl (by simp))
  have HL7 := Lib.hid (K.blk HL6.out (by have := hll.out; simp; omega))
  have HZ7 := Lib.hid (K.blk HZ6.out (by have := hfl.out; simp; omega))
  have HB7 := Lib.hid ((HB6.out.setCell (p := ⟨fb, 5, none⟩) hzl (.int .i64 g)).setCell (p := ⟨fb, 3, none⟩) hzl (.int .i64 (mn - 4)))
  clear K HF6 HL6 HZ6 HB6 c0 c3 c5 c8 f0 f3 f5 f8
  generalize ((w6.setCell ⟨fb, 5, none⟩ (.int .i64 g)).setCell ⟨fb, 3, none⟩ (.int .i64 (mn - 4))) = w7 at *
  have c0 := HF7.out.cell 0
  have c3 := HF7.out.cell 3
  have c5 := HF7.out.cell 5
  have l0 := HL7.out.cell 0
  have l8 := HL7.out.cell 8
  simp at c0 c3 c5 l0 l8
  go_wp2_with fail
  refine (HC.out _).mono ?_
  rintro e w8 ⟨rfl, rfl⟩
  go_wp2_with (first | (refine wpList_load_row rfl 26 _ rfl fb rfl 26 #[.int .i64 h, .int .i64 sm, .int .i64 pr, .int .i64 (mn - 4), .int .i64 mp, .int .i64 g, .int .i64 pg, .int .i64 ps, .string fo] (0, 0) _ HF7.out Tryz.underlying26 rfl infoFt ?_) | (refine wpList_store_row rfl 26 _ _ rfl zb #[.int .i64 h, .int .i64 sm, .int .i64 pr, .int .i64 (mn - 4), .int .i64 mp, .int .i64 g, .int .i64 pg, .int .i64 ps, .string fo] rfl rfl 26 _ HZ7.out infoFt rfl (by simp [Value.oneCell']) ?_))
  (try simp only [Exit.inBlock, Exit.then])
  refine bodyPost_ret (v := .tuple #[.agg #[.int .i64 h, .int .i64 sm, .int .i64 pr, .int .i64 (mn - 4), .int .i64 mp, .int .i64 g, .int .i64 pg, .int .i64 ps, .string fo], .int .i64 12]) (results_cell_tmp (p := 4) (u := 5) Tryz.results31 _ _ zb 26 _ (0, 0) _ rfl (setRow_heap _ _ _ _ _ _ HZ7.out) Tryz.underlying26 rfl infoFt) rfl ?_
  rw [HZB.out]
  first | exact ⟨_, _, _, _, _, _, _, _, _, rfl, below_setRow HB7.out (Nat.le_refl _)⟩ | exact ⟨⟨_, _, _, _, _, _, _, _, _, rfl⟩, below_setRow HB7.out (Nat.le_refl _)⟩
set_option maxRecDepth 100000 in
set_option maxHeartbeats 4000000 in
theorem crypt3M_ok (m : Nat) (h sm pr mn mp ms pg ps : Int) (fo : ByteArray) (w : World) (hA : RowKit.Hid (bits .andNot .i64 h 1024 = h)) (hf : FeatG h sm pr mn mp ms pg ps fo m w) (hn1 : 1 ≤ mn) (hn2 : mn ≤ 255) (hm1 : 0 ≤ ms) (hm2 : ms ≤ 1048576) (hc : ¬ mn - 4 < 1) (hd : ms < 36) : Calls Tryz.prog 31 #[.iface 29 (pt m), .int .i64 3] w fun e w' => ∃ (x0 x1 x2 x3 x4 x5 x6 x7 : Int) (x8 : ByteArray), e = .returned (.tuple #[.agg #[.int .i64 x0, .int .i64 x1, .int .i64 x2, .int .i64 x3, .int .i64 x4, .int .i64 x5, .int .i64 x6, .int .i64 x7, .string x8], .int .i64 12]) ∧ Below w.heap.size w w' := by
  have H := Lib.hid (fun wx (hb : Below w.heap.size w wx) => hf.below hb)
  clear hf
  have HC := Lib.hid (fun wx => Tryz.strings_Contains_one fo 46 wx)
  go_enter Tryz.func31, Tryz.ntmps31
  go_wp2_with fail
  have HZ := Lib.hid (Blk.new w 26 #[.int .i64 0, .int .i64 0, .int .i64 0, .int .i64 0, .int .i64 0, .int .i64 0, .int .i64 0, .int .i64 0, .string ⟨#[]⟩])
  have HB := Lib.hid ((Below.refl w.heap.size w).alloc (Nat.le_refl _) (.cells #[.int .i64 0, .int .i64 0, .int .i64 0, .int .i64 0, .int .i64 0, .int .i64 0, .int .i64 0, .int .i64 0, .string ⟨#[]⟩] 26))
  generalize (w.alloc (.cells #[.int .i64 0, .int .i64 0, .int .i64 0, .int .i64 0, .int .i64 0, .int .i64 0, .int .i64 0, .int .i64 0, .string ⟨#[]⟩] 26)) = w1 at *
  generalize hzb : w.heap.size = zb at *
  have HZB := Lib.hid hzb
  clear hzb
  refine (featuresG_ok h sm pr mn mp ms pg ps fo m w1 hA.out (H.out _ HB.out)).mono ?_
  rintro e w2 ⟨rfl, hb⟩
  have HZ2 := Lib.hid (HZ.out.below hb HZ.out.lt)
  have HB2 := Lib.hid (HB.out.trans (hb.mono (Nat.le_of_lt HZ.out.lt)))
  clear hb HZ HB
  go_wp2_with fail
  have hs2 := Nat.le_of_lt HZ2.out.lt
  have hfl := Lib.hid (show zb < w2.heap.size from HZ2.out.lt)
  have HF3 := Lib.hid (Blk.new w2 26 #[.int .i64 h, .int .i64 sm, .int .i64 pr, .int .i64 mn, .int .i64 mp, .int .i64 ms, .int .i64 pg, .int .i64 ps, .string fo])
  have HB3 := Lib.hid (HB2.out.alloc hs2 (.cells #[.int .i64 h, .int .i64 sm, .int .i64 pr, .int .i64 mn, .int .i64 mp, .int .i64 ms, .int .i64 pg, .int .i64 ps, .string fo] 26))
  have HZ3 := Lib.hid (HZ2.out.old (.cells #[.int .i64 h, .int .i64 sm, .int .i64 pr, .int .i64 mn, .int .i64 mp, .int .i64 ms, .int .i64 pg, .int .i64 ps, .string fo] 26))
  clear HZ2 HB2 hs2
  generalize (w2.alloc (.cells #[.int .i64 h, .int .i64 sm, .int .i64 pr, .int .i64 mn, .int .i64 mp, .int .i64 ms, .int .i64 pg, .int .i64 ps, .string fo] 26)) = w3 at *
  generalize w2.heap.size = fb at *
  refine ((H.out _ HB3.out).call).mono ?_
  rintro e w4 ⟨rfl, hb⟩
  have HF4 := Lib.hid (HF3.out.below hb HF3.out.lt)
  have HZ4 := Lib.hid (HZ3.out.below hb HZ3.out.lt)
  have HB4 := Lib.hid (HB3.out.trans (hb.mono (Nat.le_of_lt HZ3.out.lt)))
  clear hb HF3 HZ3 HB3
  go_wp2_with fail
  have hs4 := Nat.le_of_lt HZ4.out.lt
  have hll := Lib.hid (show fb < w4.heap.size from HF4.out.lt)
  have HL5 := Lib.hid (Blk.new w4 26 #[.int .i64 h, .int .i64 sm, .int .i64 pr, .int .i64 mn, .int .i64 mp, .int .i64 ms, .int .i64 pg, .int .i64 ps, .string fo])
  have HB5 := Lib.hid (HB4.out.alloc hs4 (.cells #[.int .i64 h, .int .i64 sm, .int .i64 pr, .int .i64 mn, .int .i64 mp, .int .i64 ms, .int .i64 pg, .int .i64 ps, .string fo] 26))
  have HZ5 := Lib.hid (HZ4.out.old (.cells #[.int .i64 h, .int .i64 sm, .int .i64 pr, .int .i64 mn, .int .i64 mp, .int .i64 ms, .int .i64 pg, .int .i64 ps, .string fo] 26))
  have HF5 := Lib.hid (HF4.out.old (.cells #[.int .i64 h, .int .i64 sm, .int .i64 pr, .int .i64 mn, .int .i64 mp, .int .i64 ms, .int .i64 pg, .int .i64 ps, .string fo] 26))
  clear HZ4 HB4 HF4 hs4
  generalize (w4.alloc (.cells #[.int .i64 h, .int .i64 sm, .int .i64 pr, .int .i64 mn, .int .i64 mp, .int .i64 ms, .int .i64 pg, .int .i64 ps, .string fo] 26)) = w5 at *
  generalize w4.heap.size = lb at *
  refine (greatestC_ok lb 1048576 (by decide) (by decide) (clP ms) w5 (fun wx hx n hn => holdsC_ok n lb ms wx (by omega) ((hx.cell (World.block_lt_of_cell? _ _ (HL5.out.cell 5))).trans (HL5.out.cell 5)))).mono ?_
  rintro e w6 ⟨g, rfl, hgr, hb⟩
  have HF6 := Lib.hid (HF5.out.below hb HF5.out.lt)
  have HL6 := Lib.hid (HL5.out.below hb HL5.out.lt)
  have HZ6 := Lib.hid (HZ5.out.below hb HZ5.out.lt)
  have HB6 := Lib.hid (HB5.out.trans (hb.mono (Nat.le_of_lt HZ5.out.lt)))
  have hgn := hgr.neg (by decide) (clP_mono ms)
  rw [clP_zero ms] at hgn
  have hg1 := hgr.1
  have hg2 := hgr.2.1
  have hzl : zb ≤ fb := Nat.le_of_lt hfl.out
  clear hb hgr HF5 HL5 HZ5 HB5 H
  have c0 := HF6.out.cell 0
  have c3 := HF6.out.cell 3
  have c5 := HF6.out.cell 5
  have c8 := HF6.out.cell 8
  simp at c0 c3 c5 c8
  have f0 := HF6.out.frozen 0
  have f3 := HF6.out.frozen 3
  have f5 := HF6.out.frozen 5
  have f8 := HF6.out.frozen 8
  have e1 : ¬ mn - 4 < 1 := by omega
  have e1d : decide (mn - 4 < 1) = false := decide_eq_false e1
  have e2 : g < 0 := hgn.2 (decide_eq_false (by omega))
  have e2d : decide (g < 0) = true := decide_eq_true e2
  clear hgn
  go_upto_region 12 with (fail)
  have HF7 := Lib.hid (show Blk _ fb 26 #[.int .i64 h, .int .i64 sm, .int .i64 pr, .int .i64 (mn - 4), .int .i64 mp, .int .i64 g, .int .i64 pg, .int .i64 ps, .string fo] from (HF6.out.set 5 (.int .i64 g)).set 3 (.int .i64 (mn - 4)))
  have K := ((Kp.refl [fb] w6).setCell ⟨fb, 5, none⟩ (.int .i64 g) (Or.inl (by simp))).setCell ⟨fb, 3, none⟩ (.int .i64 (mn - 4)) (Or.inl (by simp))
  have HL7 := Lib.hid (K.blk HL6.out (by have := hll.out; simp; omega))
  have HZ7 := Lib.hid (K.blk HZ6.out (by have := hfl.out; simp; omega))
  have HB7 := Lib.hid ((HB6.out.setCell (p := ⟨fb, 5, none⟩) hzl (.int .i64 g)).setCell (p := ⟨fb, 3, none⟩) hzl (.int .i64 (mn - 4)))
  clear K HF6 HL6 HZ6 HB6 c0 c3 c5 c8 f0 f3 f5 f8
  generalize ((w6.setCell ⟨fb, 5, none⟩ (.int .i64 g)).setCell ⟨fb, 3, none⟩ (.int .i64 (mn - 4))) = w7 at *
  have c0 := HF7.out.cell 0
  have c3 := HF7.out.cell 3
  have c5 := HF7.out.cell 5
  have l0 := HL7.out.cell 0
  have l8 := HL7.out.cell 8
  simp at c0 c3 c5 l0 l8
  go_wp2_with fail
  refine (HC.out _).mono ?_
  rintro e w8 ⟨rfl, rfl⟩
  go_wp2_with (first | (refine wpList_load_row rfl 26 _ rfl fb rfl 26 #[.int .i64 h, .int .i64 sm, .int .i64 pr, .int .i64 (mn - 4), .int .i64 mp, .int .i64 g, .int .i64 pg, .int .i64 ps, .string fo] (0, 0) _ HF7.out Tryz.underlying26 rfl infoFt ?_) | (refine wpList_store_row rfl 26 _ _ rfl zb #[.int .i64 h, .int .i64 sm, .int .i64 pr, .int .i64 (mn - 4), .int .i64 mp, .int .i64 g, .int .i64 pg, .int .i64 ps, .string fo] rfl rfl 26 _ HZ7.out infoFt rfl (by simp [Value.oneCell']) ?_))
  (try simp only [Exit.inBlock, Exit.then])
  refine bodyPost_ret (v := .tuple #[.agg #[.int .i64 h, .int .i64 sm, .int .i64 pr, .int .i64 (mn - 4), .int .i64 mp, .int .i64 g, .int .i64 pg, .int .i64 ps, .string fo], .int .i64 12]) (results_cell_tmp (p := 4) (u := 5) Tryz.results31 _ _ zb 26 _ (0, 0) _ rfl (setRow_heap _ _ _ _ _ _ HZ7.out) Tryz.underlying26 rfl infoFt) rfl ?_
  rw [HZB.out]
  first | exact ⟨_, _, _, _, _, _, _, _, _, rfl, below_setRow HB7.out (Nat.le_refl _)⟩ | exact ⟨⟨_, _, _, _, _, _, _, _, _, rfl⟩, below_setRow HB7.out (Nat.le_refl _)⟩
set_option maxRecDepth 100000 in
set_option maxHeartbeats 4000000 in
theorem crypt3D_ok (m : Nat) (h sm pr mn mp ms pg ps : Int) (fo : ByteArray) (w : World) (hA : RowKit.Hid (bits .andNot .i64 h 1024 = h)) (hf : FeatG h sm pr mn mp ms pg ps fo m w) (hn1 : 1 ≤ mn) (hn2 : mn ≤ 255) (hm1 : 0 ≤ ms) (hm2 : ms ≤ 1048576) (hc : ¬ mn - 4 < 1) (hd : ¬ ms < 36) (hdot : decide (0 ≤ Lib.indexByte fo.data.toList 46) = true) : Calls Tryz.prog 31 #[.iface 29 (pt m), .int .i64 3] w fun e w' => ∃ (x0 x1 x2 x3 x4 x5 x6 x7 : Int) (x8 : ByteArray), e = .returned (.tuple #[.agg #[.int .i64 x0, .int .i64 x1, .int .i64 x2, .int .i64 x3, .int .i64 x4, .int .i64 x5, .int .i64 x6, .int .i64 x7, .string x8], .int .i64 12]) ∧ Below w.heap.size w w' := by
  have H := Lib.hid (fun wx (hb : Below w.heap.size w wx) => hf.below hb)
  clear hf
  have HC := Lib.hid (fun wx => Tryz.strings_Contains_one fo 46 wx)
  go_enter Tryz.func31, Tryz.ntmps31
  go_wp2_with fail
  have HZ := Lib.hid (Blk.new w 26 #[.int .i64 0, .int .i64 0, .int .i64 0, .int .i64 0, .int .i64 0, .int .i64 0, .int .i64 0, .int .i64 0, .string ⟨#[]⟩])
  have HB := Lib.hid ((Below.refl w.heap.size w).alloc (Nat.le_refl _) (.cells #[.int .i64 0, .int .i64 0, .int .i64 0, .int .i64 0, .int .i64 0, .int .i64 0, .int .i64 0, .int .i64 0, .string ⟨#[]⟩] 26))
  generalize (w.alloc (.cells #[.int .i64 0, .int .i64 0, .int .i64 0, .int .i64 0, .int .i64 0, .int .i64 0, .int .i64 0, .int .i64 0, .string ⟨#[]⟩] 26)) = w1 at *
  generalize hzb : w.heap.size = zb at *
  have HZB := Lib.hid hzb
  clear hzb
  refine (featuresG_ok h sm pr mn mp ms pg ps fo m w1 hA.out (H.out _ HB.out)).mono ?_
  rintro e w2 ⟨rfl, hb⟩
  have HZ2 := Lib.hid (HZ.out.below hb HZ.out.lt)
  have HB2 := Lib.hid (HB.out.trans (hb.mono (Nat.le_of_lt HZ.out.lt)))
  clear hb HZ HB
  go_wp2_with fail
  have hs2 := Nat.le_of_lt HZ2.out.lt
  have hfl := Lib.hid (show zb < w2.heap.size from HZ2.out.lt)
  have HF3 := Lib.hid (Blk.new w2 26 #[.int .i64 h, .int .i64 sm, .int .i64 pr, .int .i64 mn, .int .i64 mp, .int .i64 ms, .int .i64 pg, .int .i64 ps, .string fo])
  have HB3 := Lib.hid (HB2.out.alloc hs2 (.cells #[.int .i64 h, .int .i64 sm, .int .i64 pr, .int .i64 mn, .int .i64 mp, .int .i64 ms, .int .i64 pg, .int .i64 ps, .string fo] 26))
  have HZ3 := Lib.hid (HZ2.out.old (.cells #[.int .i64 h, .int .i64 sm, .int .i64 pr, .int .i64 mn, .int .i64 mp, .int .i64 ms, .int .i64 pg, .int .i64 ps, .string fo] 26))
  clear HZ2 HB2 hs2
  generalize (w2.alloc (.cells #[.int .i64 h, .int .i64 sm, .int .i64 pr, .int .i64 mn, .int .i64 mp, .int .i64 ms, .int .i64 pg, .int .i64 ps, .string fo] 26)) = w3 at *
  generalize w2.heap.size = fb at *
  refine ((H.out _ HB3.out).call).mono ?_
  rintro e w4 ⟨rfl, hb⟩
  have HF4 := Lib.hid (HF3.out.below hb HF3.out.lt)
  have HZ4 := Lib.hid (HZ3.out.below hb HZ3.out.lt)
  have HB4 := Lib.hid (HB3.out.trans (hb.mono (Nat.le_of_lt HZ3.out.lt)))
  clear hb HF3 HZ3 HB3
  go_wp2_with fail
  have hs4 := Nat.le_of_lt HZ4.out.lt
  have hll := Lib.hid (show fb < w4.heap.size from HF4.out.lt)
  have HL5 := Lib.hid (Blk.new w4 26 #[.int .i64 h, .int .i64 sm, .int .i64 pr, .int .i64 mn, .int .i64 mp, .int .i64 ms, .int .i64 pg, .int .i64 ps, .string fo])
  have HB5 := Lib.hid (HB4.out.alloc hs4 (.cells #[.int .i64 h, .int .i64 sm, .int .i64 pr, .int .i64 mn, .int .i64 mp, .int .i64 ms, .int .i64 pg, .int .i64 ps, .string fo] 26))
  have HZ5 := Lib.hid (HZ4.out.old (.cells #[.int .i64 h, .int .i64 sm, .int .i64 pr, .int .i64 mn, .int .i64 mp, .int .i64 ms, .int .i64 pg, .int .i64 ps, .string fo] 26))
  have HF5 := Lib.hid (HF4.out.old (.cells #[.int .i64 h, .int .i64 sm, .int .i64 pr, .int .i64 mn, .int .i64 mp, .int .i64 ms, .int .i64 pg, .int .i64 ps, .string fo] 26))
  clear HZ4 HB4 HF4 hs4
  generalize (w4.alloc (.cells #[.int .i64 h, .int .i64 sm, .int .i64 pr, .int .i64 mn, .int .i64 mp, .int .i64 ms, .int .i64 pg, .int .i64 ps, .string fo] 26)) = w5 at *
  generalize w4.heap.size = lb at *
  refine (greatestC_ok lb 1048576 (by decide) (by decide) (clP ms) w5 (fun wx hx n hn => holdsC_ok n lb ms wx (by omega) ((hx.cell (World.block_lt_of_cell? _ _ (HL5.out.cell 5))).trans (HL5.out.cell 5)))).mono ?_
  rintro e w6 ⟨g, rfl, hgr, hb⟩
  have HF6 := Lib.hid (HF5.out.below hb HF5.out.lt)
  have HL6 := Lib.hid (HL5.out.below hb HL5.out.lt)
  have HZ6 := Lib.hid (HZ5.out.below hb HZ5.out.lt)
  have HB6 := Lib.hid (HB5.out.trans (hb.mono (Nat.le_of_lt HZ5.out.lt)))
  have hgn := hgr.neg (by decide) (clP_mono ms)
  rw [clP_zero ms] at hgn
  have hg1 := hgr.1
  have hg2 := hgr.2.1
  have hzl : zb ≤ fb := Nat.le_of_lt hfl.out
  clear hb hgr HF5 HL5 HZ5 HB5 H
  have c0 := HF6.out.cell 0
  have c3 := HF6.out.cell 3
  have c5 := HF6.out.cell 5
  have c8 := HF6.out.cell 8
  simp at c0 c3 c5 c8
  have f0 := HF6.out.frozen 0
  have f3 := HF6.out.frozen 3
  have f5 := HF6.out.frozen 5
  have f8 := HF6.out.frozen 8
  have e1 : ¬ mn - 4 < 1 := by omega
  have e1d : decide (mn - 4 < 1) = false := decide_eq_false e1
  have e2 : ¬ g < 0 := fun hg => absurd (hgn.1 hg) (by rw [decide_eq_true (by omega)]; simp)
  have e2d : decide (g < 0) = false := decide_eq_false e2
  clear hgn
  rw [hdot] at HC
  clear hdot
  go_upto_region 12 with (fail)
  have HF7 := Lib.hid (show Blk _ fb 26 #[.int .i64 h, .int .i64 sm, .int .i64 pr, .int .i64 (mn - 4), .int .i64 mp, .int .i64 g, .int .i64 pg, .int .i64 ps, .string fo] from (HF6.out.set 5 (.int .i64 g)).set 3 (.int .i64 (mn - 4)))
  have K := ((Kp.refl [fb] w6).setCell ⟨fb, 5, none⟩ (.int .i64 g) (Or.inl (by simp))).setCell ⟨fb, 3, none⟩ (.int .i64 (mn - 4)) (Or.inl (by simp))
  have HL7 := Lib.hid (K.blk HL6.out (by have := hll.out; simp; omega))
  have HZ7 := Lib.hid (K.blk HZ6.out (by have := hfl.out; simp; omega))
  have HB7 := Lib.hid ((HB6.out.setCell (p := ⟨fb, 5, none⟩) hzl (.int .i64 g)).setCell (p := ⟨fb, 3, none⟩) hzl (.int .i64 (mn - 4)))
  clear K HF6 HL6 HZ6 HB6 c0 c3 c5 c8 f0 f3 f5 f8
  generalize ((w6.setCell ⟨fb, 5, none⟩ (.int .i64 g)).setCell ⟨fb, 3, none⟩ (.int .i64 (mn - 4))) = w7 at *
  have c0 := HF7.out.cell 0
  have c3 := HF7.out.cell 3
  have c5 := HF7.out.cell 5
  have l0 := HL7.out.cell 0
  have l8 := HL7.out.cell 8
  simp at c0 c3 c5 l0 l8
  go_wp2_with fail
  refine (HC.out _).mono ?_
  rintro e w8 ⟨rfl, rfl⟩
  go_wp2_with (first | (refine wpList_load_row rfl 26 _ rfl fb rfl 26 #[.int .i64 h, .int .i64 sm, .int .i64 pr, .int .i64 (mn - 4), .int .i64 mp, .int .i64 g, .int .i64 pg, .int .i64 ps, .string fo] (0, 0) _ HF7.out Tryz.underlying26 rfl infoFt ?_) | (refine wpList_store_row rfl 26 _ _ rfl zb #[.int .i64 h, .int .i64 sm, .int .i64 pr, .int .i64 (mn - 4), .int .i64 mp, .int .i64 g, .int .i64 pg, .int .i64 ps, .string fo] rfl rfl 26 _ HZ7.out infoFt rfl (by simp [Value.oneCell']) ?_))
  (try simp only [Exit.inBlock, Exit.then])
  refine bodyPost_ret (v := .tuple #[.agg #[.int .i64 h, .int .i64 sm, .int .i64 pr, .int .i64 (mn - 4), .int .i64 mp, .int .i64 g, .int .i64 pg, .int .i64 ps, .string fo], .int .i64 12]) (results_cell_tmp (p := 4) (u := 5) Tryz.results31 _ _ zb 26 _ (0, 0) _ rfl (setRow_heap _ _ _ _ _ _ HZ7.out) Tryz.underlying26 rfl infoFt) rfl ?_
  rw [HZB.out]
  first | exact ⟨_, _, _, _, _, _, _, _, _, rfl, below_setRow HB7.out (Nat.le_refl _)⟩ | exact ⟨⟨_, _, _, _, _, _, _, _, _, rfl⟩, below_setRow HB7.out (Nat.le_refl _)⟩
set_option maxRecDepth 100000 in
set_option maxHeartbeats 4000000 in
theorem crypt3C_ok (m : Nat) (h sm pr mn mp ms pg ps : Int) (fo : ByteArray) (w : World) (hA : RowKit.Hid (bits .andNot .i64 h 1024 = h)) (hf : FeatG h sm pr mn mp ms pg ps fo m w) (hn1 : 1 ≤ mn) (hn2 : mn ≤ 255) (hm1 : 0 ≤ ms) (hm2 : ms ≤ 1048576) (hc : ¬ mn - 4 < 1) (hd : ¬ ms < 36) (hdot : decide (0 ≤ Lib.indexByte fo.data.toList 46) = false) (hcs : RowKit.Hid (bits .and .i64 h 2 = 0)) : Calls Tryz.prog 31 #[.iface 29 (pt m), .int .i64 3] w fun e w' => ∃ (x0 x1 x2 x3 x4 x5 x6 x7 : Int) (x8 : ByteArray), e = .returned (.tuple #[.agg #[.int .i64 x0, .int .i64 x1, .int .i64 x2, .int .i64 x3, .int .i64 x4, .int .i64 x5, .int .i64 x6, .int .i64 x7, .string x8], .int .i64 12]) ∧ Below w.heap.size w w' := by
  have H := Lib.hid (fun wx (hb : Below w.heap.size w wx) => hf.below hb)
  clear hf
  have HC := Lib.hid (fun wx => Tryz.strings_Contains_one fo 46 wx)
  go_enter Tryz.func31, Tryz.ntmps31
  go_wp2_with fail
  have HZ := Lib.hid (Blk.new w 26 #[.int .i64 0, .int .i64 0, .int .i64 0, .int .i64 0, .int .i64 0, .int .i64 0, .int .i64 0, .int .i64 0, .string ⟨#[]⟩])
  have HB := Lib.hid ((Below.refl w.heap.size w).alloc (Nat.le_refl _) (.cells #[.int .i64 0, .int .i64 0, .int .i64 0, .int .i64 0, .int .i64 0, .int .i64 0, .int .i64 0, .int .i64 0, .string ⟨#[]⟩] 26))
  generalize (w.alloc (.cells #[.int .i64 0, .int .i64 0, .int .i64 0, .int .i64 0, .int .i64 0, .int .i64 0, .int .i64 0, .int .i64 0, .string ⟨#[]⟩] 26)) = w1 at *
  generalize hzb : w.heap.size = zb at *
  have HZB := Lib.hid hzb
  clear hzb
  refine (featuresG_ok h sm pr mn mp ms pg ps fo m w1 hA.out (H.out _ HB.out)).mono ?_
  rintro e w2 ⟨rfl, hb⟩
  have HZ2 := Lib.hid (HZ.out.below hb HZ.out.lt)
  have HB2 := Lib.hid (HB.out.trans (hb.mono (Nat.le_of_lt HZ.out.lt)))
  clear hb HZ HB
  go_wp2_with fail
  have hs2 := Nat.le_of_lt HZ2.out.lt
  have hfl := Lib.hid (show zb < w2.heap.size from HZ2.out.lt)
  have HF3 := Lib.hid (Blk.new w2 26 #[.int .i64 h, .int .i64 sm, .int .i64 pr, .int .i64 mn, .int .i64 mp, .int .i64 ms, .int .i64 pg, .int .i64 ps, .string fo])
  have HB3 := Lib.hid (HB2.out.alloc hs2 (.cells #[.int .i64 h, .int .i64 sm, .int .i64 pr, .int .i64 mn, .int .i64 mp, .int .i64 ms, .int .i64 pg, .int .i64 ps, .string fo] 26))
  have HZ3 := Lib.hid (HZ2.out.old (.cells #[.int .i64 h, .int .i64 sm, .int .i64 pr, .int .i64 mn, .int .i64 mp, .int .i64 ms, .int .i64 pg, .int .i64 ps, .string fo] 26))
  clear HZ2 HB2 hs2
  generalize (w2.alloc (.cells #[.int .i64 h, .int .i64 sm, .int .i64 pr, .int .i64 mn, .int .i64 mp, .int .i64 ms, .int .i64 pg, .int .i64 ps, .string fo] 26)) = w3 at *
  generalize w2.heap.size = fb at *
  refine ((H.out _ HB3.out).call).mono ?_
  rintro e w4 ⟨rfl, hb⟩
  have HF4 := Lib.hid (HF3.out.below hb HF3.out.lt)
  have HZ4 := Lib.hid (HZ3.out.below hb HZ3.out.lt)
  have HB4 := Lib.hid (HB3.out.trans (hb.mono (Nat.le_of_lt HZ3.out.lt)))
  clear hb HF3 HZ3 HB3
  go_wp2_with fail
  have hs4 := Nat.le_of_lt HZ4.out.lt
  have hll := Lib.hid (show fb < w4.heap.size from HF4.out.lt)
  have HL5 := Lib.hid (Blk.new w4 26 #[.int .i64 h, .int .i64 sm, .int .i64 pr, .int .i64 mn, .int .i64 mp, .int .i64 ms, .int .i64 pg, .int .i64 ps, .string fo])
  have HB5 := Lib.hid (HB4.out.alloc hs4 (.cells #[.int .i64 h, .int .i64 sm, .int .i64 pr, .int .i64 mn, .int .i64 mp, .int .i64 ms, .int .i64 pg, .int .i64 ps, .string fo] 26))
  have HZ5 := Lib.hid (HZ4.out.old (.cells #[.int .i64 h, .int .i64 sm, .int .i64 pr, .int .i64 mn, .int .i64 mp, .int .i64 ms, .int .i64 pg, .int .i64 ps, .string fo] 26))
  have HF5 := Lib.hid (HF4.out.old (.cells #[.int .i64 h, .int .i64 sm, .int .i64 pr, .int .i64 mn, .int .i64 mp, .int .i64 ms, .int .i64 pg, .int .i64 ps, .string fo] 26))
  clear HZ4 HB4 HF4 hs4
  generalize (w4.alloc (.cells #[.int .i64 h, .int .i64 sm, .int .i64 pr, .int .i64 mn, .int .i64 mp, .int .i64 ms, .int .i64 pg, .int .i64 ps, .string fo] 26)) = w5 at *
  generalize w4.heap.size = lb at *
  refine (greatestC_ok lb 1048576 (by decide) (by decide) (clP ms) w5 (fun wx hx n hn => holdsC_ok n lb ms wx (by omega) ((hx.cell (World.block_lt_of_cell? _ _ (HL5.out.cell 5))).trans (HL5.out.cell 5)))).mono ?_
  rintro e w6 ⟨g, rfl, hgr, hb⟩
  have HF6 := Lib.hid (HF5.out.below hb HF5.out.lt)
  have HL6 := Lib.hid (HL5.out.below hb HL5.out.lt)
  have HZ6 := Lib.hid (HZ5.out.below hb HZ5.out.lt)
  have HB6 := Lib.hid (HB5.out.trans (hb.mono (Nat.le_of_lt HZ5.out.lt)))
  have hgn := hgr.neg (by decide) (clP_mono ms)
  rw [clP_zero ms] at hgn
  have hg1 := hgr.1
  have hg2 := hgr.2.1
  have hzl : zb ≤ fb := Nat.le_of_lt hfl.out
  clear hb hgr HF5 HL5 HZ5 HB5 H
  have c0 := HF6.out.cell 0
  have c3 := HF6.out.cell 3
  have c5 := HF6.out.cell 5
  have c8 := HF6.out.cell 8
  simp at c0 c3 c5 c8
  have f0 := HF6.out.frozen 0
  have f3 := HF6.out.frozen 3
  have f5 := HF6.out.frozen 5
  have f8 := HF6.out.frozen 8
  have e1 : ¬ mn - 4 < 1 := by omega
  have e1d : decide (mn - 4 < 1) = false := decide_eq_false e1
  have e2 : ¬ g < 0 := fun hg => absurd (hgn.1 hg) (by rw [decide_eq_true (by omega)]; simp)
  have e2d : decide (g < 0) = false := decide_eq_false e2
  clear hgn
  rw [hdot] at HC
  clear hdot
  go_upto_region 12 with (fail)
  have HF7 := Lib.hid (show Blk _ fb 26 #[.int .i64 h, .int .i64 sm, .int .i64 pr, .int .i64 (mn - 4), .int .i64 mp, .int .i64 g, .int .i64 pg, .int .i64 ps, .string fo] from (HF6.out.set 5 (.int .i64 g)).set 3 (.int .i64 (mn - 4)))
  have K := ((Kp.refl [fb] w6).setCell ⟨fb, 5, none⟩ (.int .i64 g) (Or.inl (by simp))).setCell ⟨fb, 3, none⟩ (.int .i64 (mn - 4)) (Or.inl (by simp))
  have HL7 := Lib.hid (K.blk HL6.out (by have := hll.out; simp; omega))
  have HZ7 := Lib.hid (K.blk HZ6.out (by have := hfl.out; simp; omega))
  have HB7 := Lib.hid ((HB6.out.setCell (p := ⟨fb, 5, none⟩) hzl (.int .i64 g)).setCell (p := ⟨fb, 3, none⟩) hzl (.int .i64 (mn - 4)))
  clear K HF6 HL6 HZ6 HB6 c0 c3 c5 c8 f0 f3 f5 f8
  generalize ((w6.setCell ⟨fb, 5, none⟩ (.int .i64 g)).setCell ⟨fb, 3, none⟩ (.int .i64 (mn - 4))) = w7 at *
  have c0 := HF7.out.cell 0
  have c3 := HF7.out.cell 3
  have c5 := HF7.out.cell 5
  have l0 := HL7.out.cell 0
  have l8 := HL7.out.cell 8
  simp at c0 c3 c5 l0 l8
  go_wp2_with fail
  refine (HC.out _).mono ?_
  rintro e w8 ⟨rfl, rfl⟩
  have hcs1 := hcs.out
  go_wp2_with (first | (refine wpList_load_row rfl 26 _ rfl fb rfl 26 #[.int .i64 h, .int .i64 sm, .int .i64 pr, .int .i64 (mn - 4), .int .i64 mp, .int .i64 g, .int .i64 pg, .int .i64 ps, .string fo] (0, 0) _ HF7.out Tryz.underlying26 rfl infoFt ?_) | (refine wpList_store_row rfl 26 _ _ rfl zb #[.int .i64 h, .int .i64 sm, .int .i64 pr, .int .i64 (mn - 4), .int .i64 mp, .int .i64 g, .int .i64 pg, .int .i64 ps, .string fo] rfl rfl 26 _ HZ7.out infoFt rfl (by simp [Value.oneCell']) ?_))
  (try simp only [Exit.inBlock, Exit.then])
  refine bodyPost_ret (v := .tuple #[.agg #[.int .i64 h, .int .i64 sm, .int .i64 pr, .int .i64 (mn - 4), .int .i64 mp, .int .i64 g, .int .i64 pg, .int .i64 ps, .string fo], .int .i64 12]) (results_cell_tmp (p := 4) (u := 5) Tryz.results31 _ _ zb 26 _ (0, 0) _ rfl (setRow_heap _ _ _ _ _ _ HZ7.out) Tryz.underlying26 rfl infoFt) rfl ?_
  rw [HZB.out]
  first | exact ⟨_, _, _, _, _, _, _, _, _, rfl, below_setRow HB7.out (Nat.le_refl _)⟩ | exact ⟨⟨_, _, _, _, _, _, _, _, _, rfl⟩, below_setRow HB7.out (Nat.le_refl _)⟩
set_option maxRecDepth 100000 in
set_option maxHeartbeats 4000000 in
theorem crypt3O_ok (m : Nat) (h sm pr mn mp ms pg ps : Int) (fo : ByteArray) (w : World) (hA : RowKit.Hid (bits .andNot .i64 h 1024 = h)) (hf : FeatG h sm pr mn mp ms pg ps fo m w) (hn1 : 1 ≤ mn) (hn2 : mn ≤ 255) (hm1 : 0 ≤ ms) (hm2 : ms ≤ 1048576) (hc : ¬ mn - 4 < 1) (hd : ¬ ms < 36) (hdot : decide (0 ≤ Lib.indexByte fo.data.toList 46) = false) (hcs : RowKit.Hid (bits .and .i64 h 2 = 2)) : Calls Tryz.prog 31 #[.iface 29 (pt m), .int .i64 3] w fun e w' => ∃ h1 ms1 : Int, ∃ fo1 : ByteArray, e = .returned (.tuple #[.agg #[.int .i64 h1, .int .i64 0, .int .i64 pr, .int .i64 (mn - 4), .int .i64 mp, .int .i64 ms1, .int .i64 pg, .int .i64 1, .string fo1], .int .i64 0]) ∧ Below w.heap.size w w' := by
  have H := Lib.hid (fun wx (hb : Below w.heap.size w wx) => hf.below hb)
  clear hf
  have HC := Lib.hid (fun wx => Tryz.strings_Contains_one fo 46 wx)
  go_enter Tryz.func31, Tryz.ntmps31
  go_wp2_with fail
  have HZ := Lib.hid (Blk.new w 26 #[.int .i64 0, .int .i64 0, .int .i64 0, .int .i64 0, .int .i64 0, .int .i64 0, .int .i64 0, .int .i64 0, .string ⟨#[]⟩])
  have HB := Lib.hid ((Below.refl w.heap.size w).alloc (Nat.le_refl _) (.cells #[.int .i64 0, .int .i64 0, .int .i64 0, .int .i64 0, .int .i64 0, .int .i64 0, .int .i64 0, .int .i64 0, .string ⟨#[]⟩] 26))
  generalize (w.alloc (.cells #[.int .i64 0, .int .i64 0, .int .i64 0, .int .i64 0, .int .i64 0, .int .i64 0, .int .i64 0, .int .i64 0, .string ⟨#[]⟩] 26)) = w1 at *
  generalize hzb : w.heap.size = zb at *
  have HZB := Lib.hid hzb
  clear hzb
  refine (featuresG_ok h sm pr mn mp ms pg ps fo m w1 hA.out (H.out _ HB.out)).mono ?_
  rintro e w2 ⟨rfl, hb⟩
  have HZ2 := Lib.hid (HZ.out.below hb HZ.out.lt)
  have HB2 := Lib.hid (HB.out.trans (hb.mono (Nat.le_of_lt HZ.out.lt)))
  clear hb HZ HB
  go_wp2_with fail
  have hs2 := Nat.le_of_lt HZ2.out.lt
  have hfl := Lib.hid (show zb < w2.heap.size from HZ2.out.lt)
  have HF3 := Lib.hid (Blk.new w2 26 #[.int .i64 h, .int .i64 sm, .int .i64 pr, .int .i64 mn, .int .i64 mp, .int .i64 ms, .int .i64 pg, .int .i64 ps, .string fo])
  have HB3 := Lib.hid (HB2.out.alloc hs2 (.cells #[.int .i64 h, .int .i64 sm, .int .i64 pr, .int .i64 mn, .int .i64 mp, .int .i64 ms, .int .i64 pg, .int .i64 ps, .string fo] 26))
  have HZ3 := Lib.hid (HZ2.out.old (.cells #[.int .i64 h, .int .i64 sm, .int .i64 pr, .int .i64 mn, .int .i64 mp, .int .i64 ms, .int .i64 pg, .int .i64 ps, .string fo] 26))
  clear HZ2 HB2 hs2
  generalize (w2.alloc (.cells #[.int .i64 h, .int .i64 sm, .int .i64 pr, .int .i64 mn, .int .i64 mp, .int .i64 ms, .int .i64 pg, .int .i64 ps, .string fo] 26)) = w3 at *
  generalize w2.heap.size = fb at *
  refine ((H.out _ HB3.out).call).mono ?_
  rintro e w4 ⟨rfl, hb⟩
  have HF4 := Lib.hid (HF3.out.below hb HF3.out.lt)
  have HZ4 := Lib.hid (HZ3.out.below hb HZ3.out.lt)
  have HB4 := Lib.hid (HB3.out.trans (hb.mono (Nat.le_of_lt HZ3.out.lt)))
  clear hb HF3 HZ3 HB3
  go_wp2_with fail
  have hs4 := Nat.le_of_lt HZ4.out.lt
  have hll := Lib.hid (show fb < w4.heap.size from HF4.out.lt)
  have HL5 := Lib.hid (Blk.new w4 26 #[.int .i64 h, .int .i64 sm, .int .i64 pr, .int .i64 mn, .int .i64 mp, .int .i64 ms, .int .i64 pg, .int .i64 ps, .string fo])
  have HB5 := Lib.hid (HB4.out.alloc hs4 (.cells #[.int .i64 h, .int .i64 sm, .int .i64 pr, .int .i64 mn, .int .i64 mp, .int .i64 ms, .int .i64 pg, .int .i64 ps, .string fo] 26))
  have HZ5 := Lib.hid (HZ4.out.old (.cells #[.int .i64 h, .int .i64 sm, .int .i64 pr, .int .i64 mn, .int .i64 mp, .int .i64 ms, .int .i64 pg, .int .i64 ps, .string fo] 26))
  have HF5 := Lib.hid (HF4.out.old (.cells #[.int .i64 h, .int .i64 sm, .int .i64 pr, .int .i64 mn, .int .i64 mp, .int .i64 ms, .int .i64 pg, .int .i64 ps, .string fo] 26))
  clear HZ4 HB4 HF4 hs4
  generalize (w4.alloc (.cells #[.int .i64 h, .int .i64 sm, .int .i64 pr, .int .i64 mn, .int .i64 mp, .int .i64 ms, .int .i64 pg, .int .i64 ps, .string fo] 26)) = w5 at *
  generalize w4.heap.size = lb at *
  refine (greatestC_ok lb 1048576 (by decide) (by decide) (clP ms) w5 (fun wx hx n hn => holdsC_ok n lb ms wx (by omega) ((hx.cell (World.block_lt_of_cell? _ _ (HL5.out.cell 5))).trans (HL5.out.cell 5)))).mono ?_
  rintro e w6 ⟨g, rfl, hgr, hb⟩
  have HF6 := Lib.hid (HF5.out.below hb HF5.out.lt)
  have HL6 := Lib.hid (HL5.out.below hb HL5.out.lt)
  have HZ6 := Lib.hid (HZ5.out.below hb HZ5.out.lt)
  have HB6 := Lib.hid (HB5.out.trans (hb.mono (Nat.le_of_lt HZ5.out.lt)))
  have hgn := hgr.neg (by decide) (clP_mono ms)
  rw [clP_zero ms] at hgn
  have hg1 := hgr.1
  have hg2 := hgr.2.1
  have hzl : zb ≤ fb := Nat.le_of_lt hfl.out
  clear hb hgr HF5 HL5 HZ5 HB5 H
  have c0 := HF6.out.cell 0
  have c3 := HF6.out.cell 3
  have c5 := HF6.out.cell 5
  have c8 := HF6.out.cell 8
  simp at c0 c3 c5 c8
  have f0 := HF6.out.frozen 0
  have f3 := HF6.out.frozen 3
  have f5 := HF6.out.frozen 5
  have f8 := HF6.out.frozen 8
  have e1 : ¬ mn - 4 < 1 := by omega
  have e1d : decide (mn - 4 < 1) = false := decide_eq_false e1
  have e2 : ¬ g < 0 := fun hg => absurd (hgn.1 hg) (by rw [decide_eq_true (by omega)]; simp)
  have e2d : decide (g < 0) = false := decide_eq_false e2
  clear hgn
  rw [hdot] at HC
  clear hdot
  go_upto_region 12 with (fail)
  have HF7 := Lib.hid (show Blk _ fb 26 #[.int .i64 h, .int .i64 sm, .int .i64 pr, .int .i64 (mn - 4), .int .i64 mp, .int .i64 g, .int .i64 pg, .int .i64 ps, .string fo] from (HF6.out.set 5 (.int .i64 g)).set 3 (.int .i64 (mn - 4)))
  have K := ((Kp.refl [fb] w6).setCell ⟨fb, 5, none⟩ (.int .i64 g) (Or.inl (by simp))).setCell ⟨fb, 3, none⟩ (.int .i64 (mn - 4)) (Or.inl (by simp))
  have HL7 := Lib.hid (K.blk HL6.out (by have := hll.out; simp; omega))
  have HZ7 := Lib.hid (K.blk HZ6.out (by have := hfl.out; simp; omega))
  have HB7 := Lib.hid ((HB6.out.setCell (p := ⟨fb, 5, none⟩) hzl (.int .i64 g)).setCell (p := ⟨fb, 3, none⟩) hzl (.int .i64 (mn - 4)))
  clear K HF6 HL6 HZ6 HB6 c0 c3 c5 c8 f0 f3 f5 f8
  generalize ((w6.setCell ⟨fb, 5, none⟩ (.int .i64 g)).setCell ⟨fb, 3, none⟩ (.int .i64 (mn - 4))) = w7 at *
  have c0 := HF7.out.cell 0
  have c3 := HF7.out.cell 3
  have c5 := HF7.out.cell 5
  have l0 := HL7.out.cell 0
  have l8 := HL7.out.cell 8
  simp at c0 c3 c5 l0 l8
  go_wp2_with fail
  refine (HC.out _).mono ?_
  rintro e w8 ⟨rfl, rfl⟩
  have hcs1 := hcs.out
  obtain ⟨h3, ha⟩ : ∃ h3, bits .andNot .i64 h 128 = h3 := ⟨_, rfl⟩
  have c1 := HF7.out.cell 1
  have c7 := HF7.out.cell 7
  simp at c1 c7
  have f0 := HF7.out.frozen 0
  have f1 := HF7.out.frozen 1
  have f7 := HF7.out.frozen 7
  go_upto_region 17 with (fail)
  have HF9 := Lib.hid (show Blk _ fb 26 #[.int .i64 h3, .int .i64 0, .int .i64 pr, .int .i64 (mn - 4), .int .i64 mp, .int .i64 g, .int .i64 pg, .int .i64 1, .string fo] from ((HF7.out.set 1 (.int .i64 0)).set 7 (.int .i64 1)).set 0 (.int .i64 h3))
  have K := (((Kp.refl [fb] w8).setCell ⟨fb, 1, none⟩ (.int .i64 0) (Or.inl (by simp))).setCell ⟨fb, 7, none⟩ (.int .i64 1) (Or.inl (by simp))).setCell ⟨fb, 0, none⟩ (.int .i64 h3) (Or.inl (by simp))
  have HZ9 := Lib.hid (K.blk HZ7.out (by have := hfl.out; simp; omega))
  have HB9 := Lib.hid (((HB7.out.setCell (p := ⟨fb, 1, none⟩) hzl (.int .i64 0)).setCell (p := ⟨fb, 7, none⟩) hzl (.int .i64 1)).setCell (p := ⟨fb, 0, none⟩) hzl (.int .i64 h3))
  clear K HF7 HL7 HZ7 HB7 c0 c1 c3 c5 c7 f0 f1 f7 l0 l8 ha
  generalize (((w8.setCell ⟨fb, 1, none⟩ (.int .i64 0)).setCell ⟨fb, 7, none⟩ (.int .i64 1)).setCell ⟨fb, 0, none⟩ (.int .i64 h3)) = w9 at *
  go_wp2_with (first | (refine wpList_load_row rfl 26 _ rfl fb rfl 26 #[.int .i64 h3, .int .i64 0, .int .i64 pr, .int .i64 (mn - 4), .int .i64 mp, .int .i64 g, .int .i64 pg, .int .i64 1, .string fo] (0, 0) _ HF9.out Tryz.underlying26 rfl infoFt ?_) | (refine wpList_store_row rfl 26 _ _ rfl zb #[.int .i64 h3, .int .i64 0, .int .i64 pr, .int .i64 (mn - 4), .int .i64 mp, .int .i64 g, .int .i64 pg, .int .i64 1, .string fo] rfl rfl 26 _ HZ9.out infoFt rfl (by simp [Value.oneCell']) ?_))
  (try simp only [Exit.inBlock, Exit.then])
  refine bodyPost_ret (v := .tuple #[.agg #[.int .i64 h3, .int .i64 0, .int .i64 pr, .int .i64 (mn - 4), .int .i64 mp, .int .i64 g, .int .i64 pg, .int .i64 1, .string fo], .int .i64 0]) (results_cell_tmp (p := 4) (u := 5) Tryz.results31 _ _ zb 26 _ (0, 0) _ rfl (setRow_heap _ _ _ _ _ _ HZ9.out) Tryz.underlying26 rfl infoFt) rfl ?_
  rw [HZB.out]
  first | exact ⟨_, _, _, rfl, below_setRow HB9.out (Nat.le_refl _)⟩ | exact ⟨⟨_, _, _, rfl⟩, below_setRow HB9.out (Nat.le_refl _)⟩
set_option maxRecDepth 100000 in
set_option maxHeartbeats 4000000 in
theorem crypt2N_ok (m : Nat) (h sm pr mn mp ms pg ps : Int) (fo : ByteArray) (w : World) (hA : RowKit.Hid (bits .andNot .i64 h 1024 = h)) (hf : FeatG h sm pr mn mp ms pg ps fo m w) (hn1 : 1 ≤ mn) (hn2 : mn ≤ 255) (hm1 : 0 ≤ ms) (hm2 : ms ≤ 1048576) (hc : mn * 5 / 8 - 16 < 1) : Calls Tryz.prog 31 #[.iface 29 (pt m), .int .i64 2] w fun e w' => ∃ (x0 x1 x2 x3 x4 x5 x6 x7 : Int) (x8 : ByteArray), e = .returned (.tuple #[.agg #[.int .i64 x0, .int .i64 x1, .int .i64 x2, .int .i64 x3, .int .i64 x4, .int .i64 x5, .int .i64 x6, .int .i64 x7, .string x8], .int .i64 12]) ∧ Below w.heap.size w w' := by
  have H := Lib.hid (fun wx (hb : Below w.heap.size w wx) => hf.below hb)
  clear hf
  have HC := Lib.hid (fun wx => Tryz.strings_Contains_one fo 46 wx)
  go_enter Tryz.func31, Tryz.ntmps31
  go_wp2_with fail
  have HZ := Lib.hid (Blk.new w 26 #[.int .i64 0, .int .i64 0, .int .i64 0, .int .i64 0, .int .i64 0, .int .i64 0, .int .i64 0, .int .i64 0, .string ⟨#[]⟩])
  have HB := Lib.hid ((Below.refl w.heap.size w).alloc (Nat.le_refl _) (.cells #[.int .i64 0, .int .i64 0, .int .i64 0, .int .i64 0, .int .i64 0, .int .i64 0, .int .i64 0, .int .i64 0, .string ⟨#[]⟩] 26))
  generalize (w.alloc (.cells #[.int .i64 0, .int .i64 0, .int .i64 0, .int .i64 0, .int .i64 0, .int .i64 0, .int .i64 0, .int .i64 0, .string ⟨#[]⟩] 26)) = w1 at *
  generalize hzb : w.heap.size = zb at *
  have HZB := Lib.hid hzb
  clear hzb
  refine (featuresG_ok h sm pr mn mp ms pg ps fo m w1 hA.out (H.out _ HB.out)).mono ?_
  rintro e w2 ⟨rfl, hb⟩
  have HZ2 := Lib.hid (HZ.out.below hb HZ.out.lt)
  have HB2 := Lib.hid (HB.out.trans (hb.mono (Nat.le_of_lt HZ.out.lt)))
  clear hb HZ HB
  go_wp2_with fail
  have hs2 := Nat.le_of_lt HZ2.out.lt
  have hfl := Lib.hid (show zb < w2.heap.size from HZ2.out.lt)
  have HF3 := Lib.hid (Blk.new w2 26 #[.int .i64 h, .int .i64 sm, .int .i64 pr, .int .i64 mn, .int .i64 mp, .int .i64 ms, .int .i64 pg, .int .i64 ps, .string fo])
  have HB3 := Lib.hid (HB2.out.alloc hs2 (.cells #[.int .i64 h, .int .i64 sm, .int .i64 pr, .int .i64 mn, .int .i64 mp, .int .i64 ms, .int .i64 pg, .int .i64 ps, .string fo] 26))
  have HZ3 := Lib.hid (HZ2.out.old (.cells #[.int .i64 h, .int .i64 sm, .int .i64 pr, .int .i64 mn, .int .i64 mp, .int .i64 ms, .int .i64 pg, .int .i64 ps, .string fo] 26))
  clear HZ2 HB2 hs2
  generalize (w2.alloc (.cells #[.int .i64 h, .int .i64 sm, .int .i64 pr, .int .i64 mn, .int .i64 mp, .int .i64 ms, .int .i64 pg, .int .i64 ps, .string fo] 26)) = w3 at *
  generalize w2.heap.size = fb at *
  refine ((H.out _ HB3.out).call).mono ?_
  rintro e w4 ⟨rfl, hb⟩
  have HF4 := Lib.hid (HF3.out.below hb HF3.out.lt)
  have HZ4 := Lib.hid (HZ3.out.below hb HZ3.out.lt)
  have HB4 := Lib.hid (HB3.out.trans (hb.mono (Nat.le_of_lt HZ3.out.lt)))
  clear hb HF3 HZ3 HB3
  go_wp2_with fail
  have hs4 := Nat.le_of_lt HZ4.out.lt
  have hll := Lib.hid (show fb < w4.heap.size from HF4.out.lt)
  have HL5 := Lib.hid (Blk.new w4 26 #[.int .i64 h, .int .i64 sm, .int .i64 pr, .int .i64 mn, .int .i64 mp, .int .i64 ms, .int .i64 pg, .int .i64 ps, .string fo])
  have HB5 := Lib.hid (HB4.out.alloc hs4 (.cells #[.int .i64 h, .int .i64 sm, .int .i64 pr, .int .i64 mn, .int .i64 mp, .int .i64 ms, .int .i64 pg, .int .i64 ps, .string fo] 26))
  have HZ5 := Lib.hid (HZ4.out.old (.cells #[.int .i64 h, .int .i64 sm, .int .i64 pr, .int .i64 mn, .int .i64 mp, .int .i64 ms, .int .i64 pg, .int .i64 ps, .string fo] 26))
  have HF5 := Lib.hid (HF4.out.old (.cells #[.int .i64 h, .int .i64 sm, .int .i64 pr, .int .i64 mn, .int .i64 mp, .int .i64 ms, .int .i64 pg, .int .i64 ps, .string fo] 26))
  clear HZ4 HB4 HF4 hs4
  generalize (w4.alloc (.cells #[.int .i64 h, .int .i64 sm, .int .i64 pr, .int .i64 mn, .int .i64 mp, .int .i64 ms, .int .i64 pg, .int .i64 ps, .string fo] 26)) = w5 at *
  generalize w4.heap.size = lb at *
  refine (greatestC_ok lb 1048576 (by decide) (by decide) (clP ms) w5 (fun wx hx n hn => holdsC_ok n lb ms wx (by omega) ((hx.cell (World.block_lt_of_cell? _ _ (HL5.out.cell 5))).trans (HL5.out.cell 5)))).mono ?_
  rintro e w6 ⟨g, rfl, hgr, hb⟩
  have HF6 := Lib.hid (HF5.out.below hb HF5.out.lt)
  have HL6 := Lib.hid (HL5.out.below hb HL5.out.lt)
  have HZ6 := Lib.hid (HZ5.out.below hb HZ5.out.lt)
  have HB6 := Lib.hid (HB5.out.trans (hb.mono (Nat.le_of_lt HZ5.out.lt)))
  have hgn := hgr.neg (by decide) (clP_mono ms)
  rw [clP_zero ms] at hgn
  have hg1 := hgr.1
  have hg2 := hgr.2.1
  have hzl : zb ≤ fb := Nat.le_of_lt hfl.out
  clear hb hgr HF5 HL5 HZ5 HB5 H
  have c0 := HF6.out.cell 0
  have c3 := HF6.out.cell 3
  have c5 := HF6.out.cell 5
  have c8 := HF6.out.cell 8
  simp at c0 c3 c5 c8
  have f0 := HF6.out.frozen 0
  have f3 := HF6.out.frozen 3
  have f5 := HF6.out.frozen 5
  have f8 := HF6.out.frozen 8
  clear hgn HC
  go_upto_region 5 with (fail)
  have HF6' := Lib.hid (show Blk _ fb 26 #[.int .i64 h, .int .i64 sm, .int .i64 pr, .int .i64 mn, .int .i64 mp, .int .i64 g, .int .i64 pg, .int .i64 ps, .string fo] from HF6.out.set 5 (.int .i64 g))
  have K := (Kp.refl [fb] w6).setCell ⟨fb, 5, none⟩ (.int .i64 g) (Or.inl (by simp))
  have HL6' := Lib.hid (K.blk HL6.out (by have := hll.out; simp; omega))
  have HZ6' := Lib.hid (K.blk HZ6.out (by have := hfl.out; simp; omega))
  have HB6' := Lib.hid (HB6.out.setCell (p := ⟨fb, 5, none⟩) hzl (.int .i64 g))
  clear K HF6 HL6 HZ6 HB6 c0 c3 c5 c8 f0 f3 f5 f8
  generalize (w6.setCell ⟨fb, 5, none⟩ (.int .i64 g)) = w66 at *
  go_wp2_with fail
  refine (greatestN_ok lb 255 (by decide) (by decide) (nmP mn) w66 (fun wx hx n hn => holdsN_ok n lb mn wx (by omega) ((hx.cell (World.block_lt_of_cell? _ _ (HL6'.out.cell 3))).trans (HL6'.out.cell 3)))).mono ?_
  rintro e w67 ⟨gn, rfl, hgrn, hb⟩
  have hnm := gr_name mn gn hn1 hn2 hgrn
  have hgn1 := hgrn.1
  have hgn2 := hgrn.2.1
  have HF8 := Lib.hid (HF6'.out.below hb HF6'.out.lt)
  have HL8 := Lib.hid (HL6'.out.below hb HL6'.out.lt)
  have HZ8 := Lib.hid (HZ6'.out.below hb HZ6'.out.lt)
  have HB8 := Lib.hid (HB6'.out.trans (hb.mono (Nat.le_of_lt HZ6'.out.lt)))
  clear hb hgrn HF6' HL6' HZ6' HB6'
  have c0 := HF8.out.cell 0
  have c3 := HF8.out.cell 3
  have c8 := HF8.out.cell 8
  simp at c0 c3 c8
  have f0 := HF8.out.frozen 0
  have f3 := HF8.out.frozen 3
  have f8 := HF8.out.frozen 8
  obtain ⟨h2, ho⟩ : ∃ h2, bits .or .i64 h 2 = h2 := ⟨_, rfl⟩
  go_upto_region 12 with (fail)
  have HF7 := Lib.hid (show Blk _ fb 26 #[.int .i64 h2, .int .i64 sm, .int .i64 pr, .int .i64 gn, .int .i64 mp, .int .i64 g, .int .i64 pg, .int .i64 ps, .string ⟨#[]⟩] from ((HF8.out.set 3 (.int .i64 gn)).set 0 (.int .i64 h2)).set 8 (.string ⟨#[]⟩))
  have K := (((Kp.refl [fb] w67).setCell ⟨fb, 3, none⟩ (.int .i64 gn) (Or.inl (by simp))).setCell ⟨fb, 0, none⟩ (.int .i64 h2) (Or.inl (by simp))).setCell ⟨fb, 8, none⟩ (.string ⟨#[]⟩) (Or.inl (by simp))
  have HL7 := Lib.hid (K.blk HL8.out (by have := hll.out; simp; omega))
  have HZ7 := Lib.hid (K.blk HZ8.out (by have := hfl.out; simp; omega))
  have HB7 := Lib.hid (((HB8.out.setCell (p := ⟨fb, 3, none⟩) hzl (.int .i64 gn)).setCell (p := ⟨fb, 0, none⟩) hzl (.int .i64 h2)).setCell (p := ⟨fb, 8, none⟩) hzl (.string ⟨#[]⟩))
  clear K HF8 HL8 HZ8 HB8 c0 c3 c8 f0 f3 f8 ho
  generalize (((w67.setCell ⟨fb, 3, none⟩ (.int .i64 gn)).setCell ⟨fb, 0, none⟩ (.int .i64 h2)).setCell ⟨fb, 8, none⟩ (.string ⟨#[]⟩)) = w7 at *
  have c0 := HF7.out.cell 0
  have c3 := HF7.out.cell 3
  have c5 := HF7.out.cell 5
  have l0 := HL7.out.cell 0
  have l8 := HL7.out.cell 8
  simp at c0 c3 c5 l0 l8
  have e1 : gn < 1 := hnm.1.2 (by omega)
  have e1d : decide (gn < 1) = true := decide_eq_true e1
  clear hnm
  go_wp2_with (first | (refine wpList_load_row rfl 26 _ rfl fb rfl 26 #[.int .i64 h2, .int .i64 sm, .int .i64 pr, .int .i64 gn, .int .i64 mp, .int .i64 g, .int .i64 pg, .int .i64 ps, .string ⟨#[]⟩] (0, 0) _ HF7.out Tryz.underlying26 rfl infoFt ?_) | (refine wpList_store_row rfl 26 _ _ rfl zb #[.int .i64 h2, .int .i64 sm, .int .i64 pr, .int .i64 gn, .int .i64 mp, .int .i64 g, .int .i64 pg, .int .i64 ps, .string ⟨#[]⟩] rfl rfl 26 _ HZ7.out infoFt rfl (by simp [Value.oneCell']) ?_))
  (try simp only [Exit.inBlock, Exit.then])
  refine bodyPost_ret (v := .tuple #[.agg #[.int .i64 h2, .int .i64 sm, .int .i64 pr, .int .i64 gn, .int .i64 mp, .int .i64 g, .int .i64 pg, .int .i64 ps, .string ⟨#[]⟩], .int .i64 12]) (results_cell_tmp (p := 4) (u := 5) Tryz.results31 _ _ zb 26 _ (0, 0) _ rfl (setRow_heap _ _ _ _ _ _ HZ7.out) Tryz.underlying26 rfl infoFt) rfl ?_
  rw [HZB.out]
  first | exact ⟨_, _, _, _, _, _, _, _, _, rfl, below_setRow HB7.out (Nat.le_refl _)⟩ | exact ⟨⟨_, _, _, _, _, _, _, _, _, rfl⟩, below_setRow HB7.out (Nat.le_refl _)⟩
set_option maxRecDepth 100000 in
set_option maxHeartbeats 4000000 in
theorem crypt2M_ok (m : Nat) (h sm pr mn mp ms pg ps : Int) (fo : ByteArray) (w : World) (hA : RowKit.Hid (bits .andNot .i64 h 1024 = h)) (hf : FeatG h sm pr mn mp ms pg ps fo m w) (hn1 : 1 ≤ mn) (hn2 : mn ≤ 255) (hm1 : 0 ≤ ms) (hm2 : ms ≤ 1048576) (hc : ¬ mn * 5 / 8 - 16 < 1) (hd : ms < 36) : Calls Tryz.prog 31 #[.iface 29 (pt m), .int .i64 2] w fun e w' => ∃ (x0 x1 x2 x3 x4 x5 x6 x7 : Int) (x8 : ByteArray), e = .returned (.tuple #[.agg #[.int .i64 x0, .int .i64 x1, .int .i64 x2, .int .i64 x3, .int .i64 x4, .int .i64 x5, .int .i64 x6, .int .i64 x7, .string x8], .int .i64 12]) ∧ Below w.heap.size w w' := by
  have H := Lib.hid (fun wx (hb : Below w.heap.size w wx) => hf.below hb)
  clear hf
  have HC := Lib.hid (fun wx => Tryz.strings_Contains_one fo 46 wx)
  go_enter Tryz.func31, Tryz.ntmps31
  go_wp2_with fail
  have HZ := Lib.hid (Blk.new w 26 #[.int .i64 0, .int .i64 0, .int .i64 0, .int .i64 0, .int .i64 0, .int .i64 0, .int .i64 0, .int .i64 0, .string ⟨#[]⟩])
  have HB := Lib.hid ((Below.refl w.heap.size w).alloc (Nat.le_refl _) (.cells #[.int .i64 0, .int .i64 0, .int .i64 0, .int .i64 0, .int .i64 0, .int .i64 0, .int .i64 0, .int .i64 0, .string ⟨#[]⟩] 26))
  generalize (w.alloc (.cells #[.int .i64 0, .int .i64 0, .int .i64 0, .int .i64 0, .int .i64 0, .int .i64 0, .int .i64 0, .int .i64 0, .string ⟨#[]⟩] 26)) = w1 at *
  generalize hzb : w.heap.size = zb at *
  have HZB := Lib.hid hzb
  clear hzb
  refine (featuresG_ok h sm pr mn mp ms pg ps fo m w1 hA.out (H.out _ HB.out)).mono ?_
  rintro e w2 ⟨rfl, hb⟩
  have HZ2 := Lib.hid (HZ.out.below hb HZ.out.lt)
  have HB2 := Lib.hid (HB.out.trans (hb.mono (Nat.le_of_lt HZ.out.lt)))
  clear hb HZ HB
  go_wp2_with fail
  have hs2 := Nat.le_of_lt HZ2.out.lt
  have hfl := Lib.hid (show zb < w2.heap.size from HZ2.out.lt)
  have HF3 := Lib.hid (Blk.new w2 26 #[.int .i64 h, .int .i64 sm, .int .i64 pr, .int .i64 mn, .int .i64 mp, .int .i64 ms, .int .i64 pg, .int .i64 ps, .string fo])
  have HB3 := Lib.hid (HB2.out.alloc hs2 (.cells #[.int .i64 h, .int .i64 sm, .int .i64 pr, .int .i64 mn, .int .i64 mp, .int .i64 ms, .int .i64 pg, .int .i64 ps, .string fo] 26))
  have HZ3 := Lib.hid (HZ2.out.old (.cells #[.int .i64 h, .int .i64 sm, .int .i64 pr, .int .i64 mn, .int .i64 mp, .int .i64 ms, .int .i64 pg, .int .i64 ps, .string fo] 26))
  clear HZ2 HB2 hs2
  generalize (w2.alloc (.cells #[.int .i64 h, .int .i64 sm, .int .i64 pr, .int .i64 mn, .int .i64 mp, .int .i64 ms, .int .i64 pg, .int .i64 ps, .string fo] 26)) = w3 at *
  generalize w2.heap.size = fb at *
  refine ((H.out _ HB3.out).call).mono ?_
  rintro e w4 ⟨rfl, hb⟩
  have HF4 := Lib.hid (HF3.out.below hb HF3.out.lt)
  have HZ4 := Lib.hid (HZ3.out.below hb HZ3.out.lt)
  have HB4 := Lib.hid (HB3.out.trans (hb.mono (Nat.le_of_lt HZ3.out.lt)))
  clear hb HF3 HZ3 HB3
  go_wp2_with fail
  have hs4 := Nat.le_of_lt HZ4.out.lt
  have hll := Lib.hid (show fb < w4.heap.size from HF4.out.lt)
  have HL5 := Lib.hid (Blk.new w4 26 #[.int .i64 h, .int .i64 sm, .int .i64 pr, .int .i64 mn, .int .i64 mp, .int .i64 ms, .int .i64 pg, .int .i64 ps, .string fo])
  have HB5 := Lib.hid (HB4.out.alloc hs4 (.cells #[.int .i64 h, .int .i64 sm, .int .i64 pr, .int .i64 mn, .int .i64 mp, .int .i64 ms, .int .i64 pg, .int .i64 ps, .string fo] 26))
  have HZ5 := Lib.hid (HZ4.out.old (.cells #[.int .i64 h, .int .i64 sm, .int .i64 pr, .int .i64 mn, .int .i64 mp, .int .i64 ms, .int .i64 pg, .int .i64 ps, .string fo] 26))
  have HF5 := Lib.hid (HF4.out.old (.cells #[.int .i64 h, .int .i64 sm, .int .i64 pr, .int .i64 mn, .int .i64 mp, .int .i64 ms, .int .i64 pg, .int .i64 ps, .string fo] 26))
  clear HZ4 HB4 HF4 hs4
  generalize (w4.alloc (.cells #[.int .i64 h, .int .i64 sm, .int .i64 pr, .int .i64 mn, .int .i64 mp, .int .i64 ms, .int .i64 pg, .int .i64 ps, .string fo] 26)) = w5 at *
  generalize w4.heap.size = lb at *
  refine (greatestC_ok lb 1048576 (by decide) (by decide) (clP ms) w5 (fun wx hx n hn => holdsC_ok n lb ms wx (by omega) ((hx.cell (World.block_lt_of_cell? _ _ (HL5.out.cell 5))).trans (HL5.out.cell 5)))).mono ?_
  rintro e w6 ⟨g, rfl, hgr, hb⟩
  have HF6 := Lib.hid (HF5.out.below hb HF5.out.lt)
  have HL6 := Lib.hid (HL5.out.below hb HL5.out.lt)
  have HZ6 := Lib.hid (HZ5.out.below hb HZ5.out.lt)
  have HB6 := Lib.hid (HB5.out.trans (hb.mono (Nat.le_of_lt HZ5.out.lt)))
  have hgn := hgr.neg (by decide) (clP_mono ms)
  rw [clP_zero ms] at hgn
  have hg1 := hgr.1
  have hg2 := hgr.2.1
  have hzl : zb ≤ fb := Nat.le_of_lt hfl.out
  clear hb hgr HF5 HL5 HZ5 HB5 H
  have c0 := HF6.out.cell 0
  have c3 := HF6.out.cell 3
  have c5 := HF6.out.cell 5
  have c8 := HF6.out.cell 8
  simp at c0 c3 c5 c8
  have f0 := HF6.out.frozen 0
  have f3 := HF6.out.frozen 3
  have f5 := HF6.out.frozen 5
  have f8 := HF6.out.frozen 8
  clear HC
  have e2 : g < 0 := hgn.2 (decide_eq_false (by omega))
  have e2d : decide (g < 0) = true := decide_eq_true e2
  clear hgn
  go_upto_region 5 with (fail)
  have HF6' := Lib.hid (show Blk _ fb 26 #[.int .i64 h, .int .i64 sm, .int .i64 pr, .int .i64 mn, .int .i64 mp, .int .i64 g, .int .i64 pg, .int .i64 ps, .string fo] from HF6.out.set 5 (.int .i64 g))
  have K := (Kp.refl [fb] w6).setCell ⟨fb, 5, none⟩ (.int .i64 g) (Or.inl (by simp))
  have HL6' := Lib.hid (K.blk HL6.out (by have := hll.out; simp; omega))
  have HZ6' := Lib.hid (K.blk HZ6.out (by have := hfl.out; simp; omega))
  have HB6' := Lib.hid (HB6.out.setCell (p := ⟨fb, 5, none⟩) hzl (.int .i64 g))
  clear K HF6 HL6 HZ6 HB6 c0 c3 c5 c8 f0 f3 f5 f8
  generalize (w6.setCell ⟨fb, 5, none⟩ (.int .i64 g)) = w66 at *
  go_wp2_with fail
  refine (greatestN_ok lb 255 (by decide) (by decide) (nmP mn) w66 (fun wx hx n hn => holdsN_ok n lb mn wx (by omega) ((hx.cell (World.block_lt_of_cell? _ _ (HL6'.out.cell 3))).trans (HL6'.out.cell 3)))).mono ?_
  rintro e w67 ⟨gn, rfl, hgrn, hb⟩
  have hnm := gr_name mn gn hn1 hn2 hgrn
  have hgn1 := hgrn.1
  have hgn2 := hgrn.2.1
  have HF8 := Lib.hid (HF6'.out.below hb HF6'.out.lt)
  have HL8 := Lib.hid (HL6'.out.below hb HL6'.out.lt)
  have HZ8 := Lib.hid (HZ6'.out.below hb HZ6'.out.lt)
  have HB8 := Lib.hid (HB6'.out.trans (hb.mono (Nat.le_of_lt HZ6'.out.lt)))
  clear hb hgrn HF6' HL6' HZ6' HB6'
  have c0 := HF8.out.cell 0
  have c3 := HF8.out.cell 3
  have c8 := HF8.out.cell 8
  simp at c0 c3 c8
  have f0 := HF8.out.frozen 0
  have f3 := HF8.out.frozen 3
  have f8 := HF8.out.frozen 8
  obtain ⟨h2, ho⟩ : ∃ h2, bits .or .i64 h 2 = h2 := ⟨_, rfl⟩
  go_upto_region 12 with (fail)
  have HF7 := Lib.hid (show Blk _ fb 26 #[.int .i64 h2, .int .i64 sm, .int .i64 pr, .int .i64 gn, .int .i64 mp, .int .i64 g, .int .i64 pg, .int .i64 ps, .string ⟨#[]⟩] from ((HF8.out.set 3 (.int .i64 gn)).set 0 (.int .i64 h2)).set 8 (.string ⟨#[]⟩))
  have K := (((Kp.refl [fb] w67).setCell ⟨fb, 3, none⟩ (.int .i64 gn) (Or.inl (by simp))).setCell ⟨fb, 0, none⟩ (.int .i64 h2) (Or.inl (by simp))).setCell ⟨fb, 8, none⟩ (.string ⟨#[]⟩) (Or.inl (by simp))
  have HL7 := Lib.hid (K.blk HL8.out (by have := hll.out; simp; omega))
  have HZ7 := Lib.hid (K.blk HZ8.out (by have := hfl.out; simp; omega))
  have HB7 := Lib.hid (((HB8.out.setCell (p := ⟨fb, 3, none⟩) hzl (.int .i64 gn)).setCell (p := ⟨fb, 0, none⟩) hzl (.int .i64 h2)).setCell (p := ⟨fb, 8, none⟩) hzl (.string ⟨#[]⟩))
  clear K HF8 HL8 HZ8 HB8 c0 c3 c8 f0 f3 f8 ho
  generalize (((w67.setCell ⟨fb, 3, none⟩ (.int .i64 gn)).setCell ⟨fb, 0, none⟩ (.int .i64 h2)).setCell ⟨fb, 8, none⟩ (.string ⟨#[]⟩)) = w7 at *
  have c0 := HF7.out.cell 0
  have c3 := HF7.out.cell 3
  have c5 := HF7.out.cell 5
  have l0 := HL7.out.cell 0
  have l8 := HL7.out.cell 8
  simp at c0 c3 c5 l0 l8
  have e1 : ¬ gn < 1 := fun hx => by have := hnm.1.1 hx; omega
  have e1d : decide (gn < 1) = false := decide_eq_false e1
  clear hnm
  go_wp2_with (first | (refine wpList_load_row rfl 26 _ rfl fb rfl 26 #[.int .i64 h2, .int .i64 sm, .int .i64 pr, .int .i64 gn, .int .i64 mp, .int .i64 g, .int .i64 pg, .int .i64 ps, .string ⟨#[]⟩] (0, 0) _ HF7.out Tryz.underlying26 rfl infoFt ?_) | (refine wpList_store_row rfl 26 _ _ rfl zb #[.int .i64 h2, .int .i64 sm, .int .i64 pr, .int .i64 gn, .int .i64 mp, .int .i64 g, .int .i64 pg, .int .i64 ps, .string ⟨#[]⟩] rfl rfl 26 _ HZ7.out infoFt rfl (by simp [Value.oneCell']) ?_))
  (try simp only [Exit.inBlock, Exit.then])
  refine bodyPost_ret (v := .tuple #[.agg #[.int .i64 h2, .int .i64 sm, .int .i64 pr, .int .i64 gn, .int .i64 mp, .int .i64 g, .int .i64 pg, .int .i64 ps, .string ⟨#[]⟩], .int .i64 12]) (results_cell_tmp (p := 4) (u := 5) Tryz.results31 _ _ zb 26 _ (0, 0) _ rfl (setRow_heap _ _ _ _ _ _ HZ7.out) Tryz.underlying26 rfl infoFt) rfl ?_
  rw [HZB.out]
  first | exact ⟨_, _, _, _, _, _, _, _, _, rfl, below_setRow HB7.out (Nat.le_refl _)⟩ | exact ⟨⟨_, _, _, _, _, _, _, _, _, rfl⟩, below_setRow HB7.out (Nat.le_refl _)⟩
set_option maxRecDepth 100000 in
set_option maxHeartbeats 4000000 in
theorem crypt2O_ok (m : Nat) (h sm pr mn mp ms pg ps : Int) (fo : ByteArray) (w : World) (hA : RowKit.Hid (bits .andNot .i64 h 1024 = h)) (hf : FeatG h sm pr mn mp ms pg ps fo m w) (hn1 : 1 ≤ mn) (hn2 : mn ≤ 255) (hm1 : 0 ≤ ms) (hm2 : ms ≤ 1048576) (hc : ¬ mn * 5 / 8 - 16 < 1) (hd : ¬ ms < 36) : Calls Tryz.prog 31 #[.iface 29 (pt m), .int .i64 2] w fun e w' => ∃ h1 ms1 : Int, ∃ fo1 : ByteArray, e = .returned (.tuple #[.agg #[.int .i64 h1, .int .i64 0, .int .i64 pr, .int .i64 (mn * 5 / 8 - 16), .int .i64 mp, .int .i64 ms1, .int .i64 pg, .int .i64 1, .string fo1], .int .i64 0]) ∧ Below w.heap.size w w' := by
  have H := Lib.hid (fun wx (hb : Below w.heap.size w wx) => hf.below hb)
  clear hf
  have HC := Lib.hid (fun wx => Tryz.strings_Contains_one fo 46 wx)
  go_enter Tryz.func31, Tryz.ntmps31
  go_wp2_with fail
  have HZ := Lib.hid (Blk.new w 26 #[.int .i64 0, .int .i64 0, .int .i64 0, .int .i64 0, .int .i64 0, .int .i64 0, .int .i64 0, .int .i64 0, .string ⟨#[]⟩])
  have HB := Lib.hid ((Below.refl w.heap.size w).alloc (Nat.le_refl _) (.cells #[.int .i64 0, .int .i64 0, .int .i64 0, .int .i64 0, .int .i64 0, .int .i64 0, .int .i64 0, .int .i64 0, .string ⟨#[]⟩] 26))
  generalize (w.alloc (.cells #[.int .i64 0, .int .i64 0, .int .i64 0, .int .i64 0, .int .i64 0, .int .i64 0, .int .i64 0, .int .i64 0, .string ⟨#[]⟩] 26)) = w1 at *
  generalize hzb : w.heap.size = zb at *
  have HZB := Lib.hid hzb
  clear hzb
  refine (featuresG_ok h sm pr mn mp ms pg ps fo m w1 hA.out (H.out _ HB.out)).mono ?_
  rintro e w2 ⟨rfl, hb⟩
  have HZ2 := Lib.hid (HZ.out.below hb HZ.out.lt)
  have HB2 := Lib.hid (HB.out.trans (hb.mono (Nat.le_of_lt HZ.out.lt)))
  clear hb HZ HB
  go_wp2_with fail
  have hs2 := Nat.le_of_lt HZ2.out.lt
  have hfl := Lib.hid (show zb < w2.heap.size from HZ2.out.lt)
  have HF3 := Lib.hid (Blk.new w2 26 #[.int .i64 h, .int .i64 sm, .int .i64 pr, .int .i64 mn, .int .i64 mp, .int .i64 ms, .int .i64 pg, .int .i64 ps, .string fo])
  have HB3 := Lib.hid (HB2.out.alloc hs2 (.cells #[.int .i64 h, .int .i64 sm, .int .i64 pr, .int .i64 mn, .int .i64 mp, .int .i64 ms, .int .i64 pg, .int .i64 ps, .string fo] 26))
  have HZ3 := Lib.hid (HZ2.out.old (.cells #[.int .i64 h, .int .i64 sm, .int .i64 pr, .int .i64 mn, .int .i64 mp, .int .i64 ms, .int .i64 pg, .int .i64 ps, .string fo] 26))
  clear HZ2 HB2 hs2
  generalize (w2.alloc (.cells #[.int .i64 h, .int .i64 sm, .int .i64 pr, .int .i64 mn, .int .i64 mp, .int .i64 ms, .int .i64 pg, .int .i64 ps, .string fo] 26)) = w3 at *
  generalize w2.heap.size = fb at *
  refine ((H.out _ HB3.out).call).mono ?_
  rintro e w4 ⟨rfl, hb⟩
  have HF4 := Lib.hid (HF3.out.below hb HF3.out.lt)
  have HZ4 := Lib.hid (HZ3.out.below hb HZ3.out.lt)
  have HB4 := Lib.hid (HB3.out.trans (hb.mono (Nat.le_of_lt HZ3.out.lt)))
  clear hb HF3 HZ3 HB3
  go_wp2_with fail
  have hs4 := Nat.le_of_lt HZ4.out.lt
  have hll := Lib.hid (show fb < w4.heap.size from HF4.out.lt)
  have HL5 := Lib.hid (Blk.new w4 26 #[.int .i64 h, .int .i64 sm, .int .i64 pr, .int .i64 mn, .int .i64 mp, .int .i64 ms, .int .i64 pg, .int .i64 ps, .string fo])
  have HB5 := Lib.hid (HB4.out.alloc hs4 (.cells #[.int .i64 h, .int .i64 sm, .int .i64 pr, .int .i64 mn, .int .i64 mp, .int .i64 ms, .int .i64 pg, .int .i64 ps, .string fo] 26))
  have HZ5 := Lib.hid (HZ4.out.old (.cells #[.int .i64 h, .int .i64 sm, .int .i64 pr, .int .i64 mn, .int .i64 mp, .int .i64 ms, .int .i64 pg, .int .i64 ps, .string fo] 26))
  have HF5 := Lib.hid (HF4.out.old (.cells #[.int .i64 h, .int .i64 sm, .int .i64 pr, .int .i64 mn, .int .i64 mp, .int .i64 ms, .int .i64 pg, .int .i64 ps, .string fo] 26))
  clear HZ4 HB4 HF4 hs4
  generalize (w4.alloc (.cells #[.int .i64 h, .int .i64 sm, .int .i64 pr, .int .i64 mn, .int .i64 mp, .int .i64 ms, .int .i64 pg, .int .i64 ps, .string fo] 26)) = w5 at *
  generalize w4.heap.size = lb at *
  refine (greatestC_ok lb 1048576 (by decide) (by decide) (clP ms) w5 (fun wx hx n hn => holdsC_ok n lb ms wx (by omega) ((hx.cell (World.block_lt_of_cell? _ _ (HL5.out.cell 5))).trans (HL5.out.cell 5)))).mono ?_
  rintro e w6 ⟨g, rfl, hgr, hb⟩
  have HF6 := Lib.hid (HF5.out.below hb HF5.out.lt)
  have HL6 := Lib.hid (HL5.out.below hb HL5.out.lt)
  have HZ6 := Lib.hid (HZ5.out.below hb HZ5.out.lt)
  have HB6 := Lib.hid (HB5.out.trans (hb.mono (Nat.le_of_lt HZ5.out.lt)))
  have hgn := hgr.neg (by decide) (clP_mono ms)
  rw [clP_zero ms] at hgn
  have hg1 := hgr.1
  have hg2 := hgr.2.1
  have hzl : zb ≤ fb := Nat.le_of_lt hfl.out
  clear hb hgr HF5 HL5 HZ5 HB5 H
  have c0 := HF6.out.cell 0
  have c3 := HF6.out.cell 3
  have c5 := HF6.out.cell 5
  have c8 := HF6.out.cell 8
  simp at c0 c3 c5 c8
  have f0 := HF6.out.frozen 0
  have f3 := HF6.out.frozen 3
  have f5 := HF6.out.frozen 5
  have f8 := HF6.out.frozen 8
  clear HC
  have e2 : ¬ g < 0 := fun hg => absurd (hgn.1 hg) (by rw [decide_eq_true (by omega)]; simp)
  have e2d : decide (g < 0) = false := decide_eq_false e2
  clear hgn
  go_upto_region 5 with (fail)
  have HF6' := Lib.hid (show Blk _ fb 26 #[.int .i64 h, .int .i64 sm, .int .i64 pr, .int .i64 mn, .int .i64 mp, .int .i64 g, .int .i64 pg, .int .i64 ps, .string fo] from HF6.out.set 5 (.int .i64 g))
  have K := (Kp.refl [fb] w6).setCell ⟨fb, 5, none⟩ (.int .i64 g) (Or.inl (by simp))
  have HL6' := Lib.hid (K.blk HL6.out (by have := hll.out; simp; omega))
  have HZ6' := Lib.hid (K.blk HZ6.out (by have := hfl.out; simp; omega))
  have HB6' := Lib.hid (HB6.out.setCell (p := ⟨fb, 5, none⟩) hzl (.int .i64 g))
  clear K HF6 HL6 HZ6 HB6 c0 c3 c5 c8 f0 f3 f5 f8
  generalize (w6.setCell ⟨fb, 5, none⟩ (.int .i64 g)) = w66 at *
  go_wp2_with fail
  refine (greatestN_ok lb 255 (by decide) (by decide) (nmP mn) w66 (fun wx hx n hn => holdsN_ok n lb mn wx (by omega) ((hx.cell (World.block_lt_of_cell? _ _ (HL6'.out.cell 3))).trans (HL6'.out.cell 3)))).mono ?_
  rintro e w67 ⟨gn, rfl, hgrn, hb⟩
  have hnm := gr_name mn gn hn1 hn2 hgrn
  have hgn1 := hgrn.1
  have hgn2 := hgrn.2.1
  have HF8 := Lib.hid (HF6'.out.below hb HF6'.out.lt)
  have HL8 := Lib.hid (HL6'.out.below hb HL6'.out.lt)
  have HZ8 := Lib.hid (HZ6'.out.below hb HZ6'.out.lt)
  have HB8 := Lib.hid (HB6'.out.trans (hb.mono (Nat.le_of_lt HZ6'.out.lt)))
  clear hb hgrn HF6' HL6' HZ6' HB6'
  have c0 := HF8.out.cell 0
  have c3 := HF8.out.cell 3
  have c8 := HF8.out.cell 8
  simp at c0 c3 c8
  have f0 := HF8.out.frozen 0
  have f3 := HF8.out.frozen 3
  have f8 := HF8.out.frozen 8
  obtain ⟨h2, ho⟩ : ∃ h2, bits .or .i64 h 2 = h2 := ⟨_, rfl⟩
  go_upto_region 12 with (fail)
  have HF7 := Lib.hid (show Blk _ fb 26 #[.int .i64 h2, .int .i64 sm, .int .i64 pr, .int .i64 gn, .int .i64 mp, .int .i64 g, .int .i64 pg, .int .i64 ps, .string ⟨#[]⟩] from ((HF8.out.set 3 (.int .i64 gn)).set 0 (.int .i64 h2)).set 8 (.string ⟨#[]⟩))
  have K := (((Kp.refl [fb] w67).setCell ⟨fb, 3, none⟩ (.int .i64 gn) (Or.inl (by simp))).setCell ⟨fb, 0, none⟩ (.int .i64 h2) (Or.inl (by simp))).setCell ⟨fb, 8, none⟩ (.string ⟨#[]⟩) (Or.inl (by simp))
  have HL7 := Lib.hid (K.blk HL8.out (by have := hll.out; simp; omega))
  have HZ7 := Lib.hid (K.blk HZ8.out (by have := hfl.out; simp; omega))
  have HB7 := Lib.hid (((HB8.out.setCell (p := ⟨fb, 3, none⟩) hzl (.int .i64 gn)).setCell (p := ⟨fb, 0, none⟩) hzl (.int .i64 h2)).setCell (p := ⟨fb, 8, none⟩) hzl (.string ⟨#[]⟩))
  clear K HF8 HL8 HZ8 HB8 c0 c3 c8 f0 f3 f8 ho
  generalize (((w67.setCell ⟨fb, 3, none⟩ (.int .i64 gn)).setCell ⟨fb, 0, none⟩ (.int .i64 h2)).setCell ⟨fb, 8, none⟩ (.string ⟨#[]⟩)) = w7 at *
  have c0 := HF7.out.cell 0
  have c3 := HF7.out.cell 3
  have c5 := HF7.out.cell 5
  have l0 := HL7.out.cell 0
  have l8 := HL7.out.cell 8
  simp at c0 c3 c5 l0 l8
  have e1 : ¬ gn < 1 := fun hx => by have := hnm.1.1 hx; omega
  have e1d : decide (gn < 1) = false := decide_eq_false e1
  have HEQ := Lib.hid (hnm.2 (by omega))
  clear hnm
  obtain ⟨h3, ha⟩ : ∃ h3, bits .andNot .i64 h2 128 = h3 := ⟨_, rfl⟩
  have c1 := HF7.out.cell 1
  have c7 := HF7.out.cell 7
  simp at c1 c7
  have f0 := HF7.out.frozen 0
  have f1 := HF7.out.frozen 1
  have f7 := HF7.out.frozen 7
  go_upto_region 17 with (fail)
  have HF9 := Lib.hid (show Blk _ fb 26 #[.int .i64 h3, .int .i64 0, .int .i64 pr, .int .i64 gn, .int .i64 mp, .int .i64 g, .int .i64 pg, .int .i64 1, .string ⟨#[]⟩] from ((HF7.out.set 1 (.int .i64 0)).set 7 (.int .i64 1)).set 0 (.int .i64 h3))
  have K := (((Kp.refl [fb] w7).setCell ⟨fb, 1, none⟩ (.int .i64 0) (Or.inl (by simp))).setCell ⟨fb, 7, none⟩ (.int .i64 1) (Or.inl (by simp))).setCell ⟨fb, 0, none⟩ (.int .i64 h3) (Or.inl (by simp))
  have HZ9 := Lib.hid (K.blk HZ7.out (by have := hfl.out; simp; omega))
  have HB9 := Lib.hid (((HB7.out.setCell (p := ⟨fb, 1, none⟩) hzl (.int .i64 0)).setCell (p := ⟨fb, 7, none⟩) hzl (.int .i64 1)).setCell (p := ⟨fb, 0, none⟩) hzl (.int .i64 h3))
  clear K HF7 HL7 HZ7 HB7 c0 c1 c3 c5 c7 f0 f1 f7 l0 l8 ha
  generalize (((w7.setCell ⟨fb, 1, none⟩ (.int .i64 0)).setCell ⟨fb, 7, none⟩ (.int .i64 1)).setCell ⟨fb, 0, none⟩ (.int .i64 h3)) = w9 at *
  go_wp2_with (first | (refine wpList_load_row rfl 26 _ rfl fb rfl 26 #[.int .i64 h3, .int .i64 0, .int .i64 pr, .int .i64 gn, .int .i64 mp, .int .i64 g, .int .i64 pg, .int .i64 1, .string ⟨#[]⟩] (0, 0) _ HF9.out Tryz.underlying26 rfl infoFt ?_) | (refine wpList_store_row rfl 26 _ _ rfl zb #[.int .i64 h3, .int .i64 0, .int .i64 pr, .int .i64 gn, .int .i64 mp, .int .i64 g, .int .i64 pg, .int .i64 1, .string ⟨#[]⟩] rfl rfl 26 _ HZ9.out infoFt rfl (by simp [Value.oneCell']) ?_))
  (try simp only [Exit.inBlock, Exit.then])
  refine bodyPost_ret (v := .tuple #[.agg #[.int .i64 h3, .int .i64 0, .int .i64 pr, .int .i64 gn, .int .i64 mp, .int .i64 g, .int .i64 pg, .int .i64 1, .string ⟨#[]⟩], .int .i64 0]) (results_cell_tmp (p := 4) (u := 5) Tryz.results31 _ _ zb 26 _ (0, 0) _ rfl (setRow_heap _ _ _ _ _ _ HZ9.out) Tryz.underlying26 rfl infoFt) rfl ?_
  rw [HZB.out]
  first | exact ⟨h3, g, ⟨#[]⟩, by rw [HEQ.out], below_setRow HB9.out (Nat.le_refl _)⟩ | exact ⟨⟨h3, g, ⟨#[]⟩, by rw [HEQ.out]⟩, below_setRow HB9.out (Nat.le_refl _)⟩
end Go.Proofs.YtoomhlbebifklaaGreatDoor
