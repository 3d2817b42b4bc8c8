import Derived.Test.YtoomhlbebifklaaGreatDoorXb
import Derived.Test.YtoomhlbebifklaaGreatDoorXc
import Derived.Test.YtoomhlbebifklaaGreatDoorAc
set_option linter.unusedVariables false
set_option linter.unusedSimpArgs false
namespace Go.Proofs.YtoomhlbebifklaaGreatDoor
open Go.RowKit
theorem tenG_below {b3 eb fb b : Nat} {h2 pr mn mp g pg : Int} {fo : ByteArray} {w wx wy : World} (h : Below b3 w wx ∧ Blk wx eb 9 #[.string ⟨#[46, 119, 122]⟩] ∧ wx.cell? ⟨b3, 0, none⟩ = some (.int .i64 (b : Int)) ∧ wx.cell? ⟨fb, 0, none⟩ = some (.int .i64 h2) ∧ wx.cell? ⟨fb, 1, none⟩ = some (.int .i64 0) ∧ wx.cell? ⟨fb, 2, none⟩ = some (.int .i64 pr) ∧ wx.cell? ⟨fb, 3, none⟩ = some (.int .i64 (mn - 3)) ∧ wx.cell? ⟨fb, 4, none⟩ = some (.int .i64 mp) ∧ wx.cell? ⟨fb, 5, none⟩ = some (.int .i64 g) ∧ wx.cell? ⟨fb, 6, none⟩ = some (.int .i64 pg) ∧ wx.cell? ⟨fb, 7, none⟩ = some (.int .i64 1) ∧ wx.cell? ⟨fb, 8, none⟩ = some (.string fo)) (hb : Below wx.heap.size wx wy) :
    Below b3 w wy ∧ Blk wy eb 9 #[.string ⟨#[46, 119, 122]⟩] ∧ wy.cell? ⟨b3, 0, none⟩ = some (.int .i64 (b : Int)) ∧ wy.cell? ⟨fb, 0, none⟩ = some (.int .i64 h2) ∧ wy.cell? ⟨fb, 1, none⟩ = some (.int .i64 0) ∧ wy.cell? ⟨fb, 2, none⟩ = some (.int .i64 pr) ∧ wy.cell? ⟨fb, 3, none⟩ = some (.int .i64 (mn - 3)) ∧ wy.cell? ⟨fb, 4, none⟩ = some (.int .i64 mp) ∧ wy.cell? ⟨fb, 5, none⟩ = some (.int .i64 g) ∧ wy.cell? ⟨fb, 6, none⟩ = some (.int .i64 pg) ∧ wy.cell? ⟨fb, 7, none⟩ = some (.int .i64 1) ∧ wy.cell? ⟨fb, 8, none⟩ = some (.string fo) := by
  have key : ∀ p v, wx.cell? p = some v → wy.cell? p = some v := fun p v hc => (hb.cell (World.block_lt_of_cell? _ _ hc)).trans hc
  obtain ⟨h1, h2, h3, h4, h5, h6, h7, h8, h9, h10, h11, h12⟩ := h
  exact ⟨h1.trans (hb.mono (Nat.le_of_lt (World.block_lt_of_cell? _ _ h3))), h2.below hb h2.lt, key _ _ h3, key _ _ h4, key _ _ h5, key _ _ h6, key _ _ h7, key _ _ h8, key _ _ h9, key _ _ h10, key _ _ h11, key _ _ h12⟩
set_option maxRecDepth 100000 in
set_option maxHeartbeats 4000000 in
theorem squeezeR_ok (m : Nat) (n : Int) (w : World) (hn : n < 16 ∨ 16384 < n) : Calls Tryz.prog 17 #[.iface 29 (pt m), .int .i64 n] w fun e w' => e = .returned (.tuple #[.nilIface, .int .i64 7]) ∧ Below w.heap.size w w' := by
  by_cases h1 : n < 16
  · have d1 : decide (n < 16) = true := decide_eq_true h1
    clear hn
    go_enter Tryz.func17, Tryz.ntmps17
    go_wp2_with fail
    go_ret2
    exact ⟨rfl, by go_grown⟩
  · have d1 : decide (n < 16) = false := decide_eq_false h1
    have h2 : n > 16384 := by omega
    have d2 : decide (n > 16384) = true := decide_eq_true h2
    clear hn
    go_enter Tryz.func17, Tryz.ntmps17
    go_wp2_with fail
    go_ret2
    exact ⟨rfl, by go_grown⟩
set_option maxRecDepth 100000 in
set_option maxHeartbeats 4000000 in
theorem squeezeN_ok (m b : Nat) (h sm pr mn mp ms pg ps : Int) (fo : ByteArray) (w : World) (hA : RowKit.Hid (bits .andNot .i64 h 1024 = h)) (hf : FeatG h sm pr mn mp ms pg ps fo m w) (hb1 : 16 ≤ b) (hb2 : b ≤ 16384) (hn1 : 1 ≤ mn) (hn2 : mn ≤ 255) (hm1 : 0 ≤ ms) (hm2 : ms ≤ 1048576) (hc : mn < 4) : Calls Tryz.prog 17 #[.iface 29 (pt m), .int .i64 (b : Int)] w fun e w' => e = .returned (.tuple #[.nilIface, .int .i64 12]) ∧ Below w.heap.size w w' := by
  have H := Lib.hid (fun wx (hb : Below w.heap.size w wx) => hf.below hb)
  clear hf
  have r1 : ¬ (b : Int) < 16 := by omega
  have r2 : ¬ (b : Int) > 16384 := by omega
  have d1 : decide ((b : Int) < 16) = false := decide_eq_false r1
  have d2 : decide ((b : Int) > 16384) = false := decide_eq_false r2
  go_enter Tryz.func17, Tryz.ntmps17
  go_wp2_with fail
  have H3 := Lib.hid (Blk.new w 3 #[.int .i64 (b : Int)])
  have HB := Lib.hid ((Below.refl w.heap.size w).alloc (Nat.le_refl _) (.cells #[.int .i64 (b : Int)] 3))
  generalize (w.alloc (.cells #[.int .i64 (b : Int)] 3)) = w1 at *
  generalize hb3 : w.heap.size = b3 at *
  have HB3 := Lib.hid hb3
  clear hb3
  refine (featuresG_ok h sm pr mn mp ms pg ps fo m w1 hA.out (H.out _ HB.out)).mono ?_
  rintro e w2 ⟨rfl, hb⟩
  have HB2 := Lib.hid (HB.out.trans (hb.mono (Nat.le_of_lt H3.out.lt)))
  have H32 := Lib.hid (H3.out.below hb H3.out.lt)
  clear hb HB H3
  go_wp2_with fail
  have hbs2 := Nat.le_of_lt H32.out.lt
  have HBa := HB2.out.alloc hbs2 (.cells #[.int .i64 h, .int .i64 sm, .int .i64 pr, .int .i64 (mn - 3), .int .i64 mp, .int .i64 ms, .int .i64 pg, .int .i64 ps, .string fo] 26)
  have HB3' := Lib.hid (HBa.alloc (Nat.le_trans hbs2 (by simp)) (.cells #[.int .i64 ms] 3))
  have HF := Lib.hid ((Blk.new w2 26 #[.int .i64 h, .int .i64 sm, .int .i64 pr, .int .i64 (mn - 3), .int .i64 mp, .int .i64 ms, .int .i64 pg, .int .i64 ps, .string fo]).old (.cells #[.int .i64 ms] 3))
  have HI := Lib.hid (show Blk _ (w2.heap.size + 1) _ _ from Blk.newAt (w := w2.alloc (.cells #[.int .i64 h, .int .i64 sm, .int .i64 pr, .int .i64 (mn - 3), .int .i64 mp, .int .i64 ms, .int .i64 pg, .int .i64 ps, .string fo] 26)) (t := 3) (cs := #[.int .i64 ms]) (by simp))
  have H33 := Lib.hid ((H32.out.old (.cells #[.int .i64 h, .int .i64 sm, .int .i64 pr, .int .i64 (mn - 3), .int .i64 mp, .int .i64 ms, .int .i64 pg, .int .i64 ps, .string fo] 26)).old (.cells #[.int .i64 ms] 3))
  have hfl := Lib.hid (show b3 < w2.heap.size from H32.out.lt)
  clear HBa H32 HB2 hbs2
  generalize ((w2.alloc (.cells #[.int .i64 h, .int .i64 sm, .int .i64 pr, .int .i64 (mn - 3), .int .i64 mp, .int .i64 ms, .int .i64 pg, .int .i64 ps, .string fo] 26)).alloc (.cells #[.int .i64 ms] 3)) = w3 at *
  generalize w2.heap.size + 1 = ib at *
  generalize w2.heap.size = fb at *
  refine (greatestS_ok b3 ib 1048576 (by decide) (by decide) (sqP b ms) w3 (fun wx hx n hn => holdsS_ok n b b3 ib ms wx (by omega) hb1 hb2 ((hx.cell (World.block_lt_of_cell? _ _ (H33.out.cell 0))).trans (H33.out.cell 0)) ((hx.cell (World.block_lt_of_cell? _ _ (HI.out.cell 0))).trans (HI.out.cell 0)))).mono ?_
  rintro e w4 ⟨g, rfl, hgr, hb⟩
  have HB4 := Lib.hid (HB3'.out.trans (hb.mono (Nat.le_of_lt H33.out.lt)))
  have hF := HF.out.below hb HF.out.lt
  have H34 := Lib.hid (H33.out.below hb H33.out.lt)
  have HF4 := Lib.hid hF
  have hgn := hgr.neg (by decide) (sqP_mono b ms)
  rw [sqP_zero b ms hb1] at hgn
  have hg1 := hgr.1
  have hg2 := hgr.2.1
  clear hgr
  have c0 := hF.cell 0
  have c1 := hF.cell 1
  have c3 := hF.cell 3
  have c5 := hF.cell 5
  have c7 := hF.cell 7
  have c8 := hF.cell 8
  simp at c0 c1 c3 c5 c7 c8
  have f0 := hF.frozen 0
  have f1 := hF.frozen 1
  have f5 := hF.frozen 5
  have f7 := hF.frozen 7
  obtain ⟨h2, ha⟩ : ∃ h2, bits .andNot .i64 h 128 = h2 := ⟨_, rfl⟩
  have HC := Lib.hid (fun wx => Tryz.strings_Contains_one fo 46 wx)
  have hfb : b3 ≤ fb := Nat.le_of_lt hfl.out
  clear hb hF HF H33 HB3' HI
  have e1 : mn - 3 < 1 := by omega
  have e2 : decide (mn - 3 < 1) = true := decide_eq_true e1
  clear hgn HC
  go_wp2_with fail
  go_ret2
  rw [HB3.out]
  exact ⟨rfl, HB4.out.setCell (p := ⟨fb, 5, none⟩) hfb (.int .i64 g)⟩
set_option maxRecDepth 100000 in
set_option maxHeartbeats 4000000 in
theorem squeezeM_ok (m b : Nat) (h sm pr mn mp ms pg ps : Int) (fo : ByteArray) (w : World) (hA : RowKit.Hid (bits .andNot .i64 h 1024 = h)) (hf : FeatG h sm pr mn mp ms pg ps fo m w) (hb1 : 16 ≤ b) (hb2 : b ≤ 16384) (hn1 : 1 ≤ mn) (hn2 : mn ≤ 255) (hm1 : 0 ≤ ms) (hm2 : ms ≤ 1048576) (hc : ¬ mn < 4) (hd : ms < 16) : Calls Tryz.prog 17 #[.iface 29 (pt m), .int .i64 (b : Int)] w fun e w' => e = .returned (.tuple #[.nilIface, .int .i64 12]) ∧ Below w.heap.size w w' := by
  have H := Lib.hid (fun wx (hb : Below w.heap.size w wx) => hf.below hb)
  clear hf
  have r1 : ¬ (b : Int) < 16 := by omega
  have r2 : ¬ (b : Int) > 16384 := by omega
  have d1 : decide ((b : Int) < 16) = false := decide_eq_false r1
  have d2 : decide ((b : Int) > 16384) = false := decide_eq_false r2
  go_enter Tryz.func17, Tryz.ntmps17
  go_wp2_with fail
  have H3 := Lib.hid (Blk.new w 3 #[.int .i64 (b : Int)])
  have HB := Lib.hid ((Below.refl w.heap.size w).alloc (Nat.le_refl _) (.cells #[.int .i64 (b : Int)] 3))
  generalize (w.alloc (.cells #[.int .i64 (b : Int)] 3)) = w1 at *
  generalize hb3 : w.heap.size = b3 at *
  have HB3 := Lib.hid hb3
  clear hb3
  refine (featuresG_ok h sm pr mn mp ms pg ps fo m w1 hA.out (H.out _ HB.out)).mono ?_
  rintro e w2 ⟨rfl, hb⟩
  have HB2 := Lib.hid (HB.out.trans (hb.mono (Nat.le_of_lt H3.out.lt)))
  have H32 := Lib.hid (H3.out.below hb H3.out.lt)
  clear hb HB H3
  go_wp2_with fail
  have hbs2 := Nat.le_of_lt H32.out.lt
  have HBa := HB2.out.alloc hbs2 (.cells #[.int .i64 h, .int .i64 sm, .int .i64 pr, .int .i64 (mn - 3), .int .i64 mp, .int .i64 ms, .int .i64 pg, .int .i64 ps, .string fo] 26)
  have HB3' := Lib.hid (HBa.alloc (Nat.le_trans hbs2 (by simp)) (.cells #[.int .i64 ms] 3))
  have HF := Lib.hid ((Blk.new w2 26 #[.int .i64 h, .int .i64 sm, .int .i64 pr, .int .i64 (mn - 3), .int .i64 mp, .int .i64 ms, .int .i64 pg, .int .i64 ps, .string fo]).old (.cells #[.int .i64 ms] 3))
  have HI := Lib.hid (show Blk _ (w2.heap.size + 1) _ _ from Blk.newAt (w := w2.alloc (.cells #[.int .i64 h, .int .i64 sm, .int .i64 pr, .int .i64 (mn - 3), .int .i64 mp, .int .i64 ms, .int .i64 pg, .int .i64 ps, .string fo] 26)) (t := 3) (cs := #[.int .i64 ms]) (by simp))
  have H33 := Lib.hid ((H32.out.old (.cells #[.int .i64 h, .int .i64 sm, .int .i64 pr, .int .i64 (mn - 3), .int .i64 mp, .int .i64 ms, .int .i64 pg, .int .i64 ps, .string fo] 26)).old (.cells #[.int .i64 ms] 3))
  have hfl := Lib.hid (show b3 < w2.heap.size from H32.out.lt)
  clear HBa H32 HB2 hbs2
  generalize ((w2.alloc (.cells #[.int .i64 h, .int .i64 sm, .int .i64 pr, .int .i64 (mn - 3), .int .i64 mp, .int .i64 ms, .int .i64 pg, .int .i64 ps, .string fo] 26)).alloc (.cells #[.int .i64 ms] 3)) = w3 at *
  generalize w2.heap.size + 1 = ib at *
  generalize w2.heap.size = fb at *
  refine (greatestS_ok b3 ib 1048576 (by decide) (by decide) (sqP b ms) w3 (fun wx hx n hn => holdsS_ok n b b3 ib ms wx (by omega) hb1 hb2 ((hx.cell (World.block_lt_of_cell? _ _ (H33.out.cell 0))).trans (H33.out.cell 0)) ((hx.cell (World.block_lt_of_cell? _ _ (HI.out.cell 0))).trans (HI.out.cell 0)))).mono ?_
  rintro e w4 ⟨g, rfl, hgr, hb⟩
  have HB4 := Lib.hid (HB3'.out.trans (hb.mono (Nat.le_of_lt H33.out.lt)))
  have hF := HF.out.below hb HF.out.lt
  have H34 := Lib.hid (H33.out.below hb H33.out.lt)
  have HF4 := Lib.hid hF
  have hgn := hgr.neg (by decide) (sqP_mono b ms)
  rw [sqP_zero b ms hb1] at hgn
  have hg1 := hgr.1
  have hg2 := hgr.2.1
  clear hgr
  have c0 := hF.cell 0
  have c1 := hF.cell 1
  have c3 := hF.cell 3
  have c5 := hF.cell 5
  have c7 := hF.cell 7
  have c8 := hF.cell 8
  simp at c0 c1 c3 c5 c7 c8
  have f0 := hF.frozen 0
  have f1 := hF.frozen 1
  have f5 := hF.frozen 5
  have f7 := hF.frozen 7
  obtain ⟨h2, ha⟩ : ∃ h2, bits .andNot .i64 h 128 = h2 := ⟨_, rfl⟩
  have HC := Lib.hid (fun wx => Tryz.strings_Contains_one fo 46 wx)
  have hfb : b3 ≤ fb := Nat.le_of_lt hfl.out
  clear hb hF HF H33 HB3' HI
  have e1 : ¬ mn - 3 < 1 := by omega
  have e2 : decide (mn - 3 < 1) = false := decide_eq_false e1
  have e3 : g < 0 := hgn.2 (decide_eq_false (by omega))
  have e4 : decide (g < 0) = true := decide_eq_true e3
  clear hgn HC
  go_wp2_with fail
  go_ret2
  rw [HB3.out]
  exact ⟨rfl, HB4.out.setCell (p := ⟨fb, 5, none⟩) hfb (.int .i64 g)⟩
set_option maxRecDepth 100000 in
set_option maxHeartbeats 4000000 in
theorem squeezeD_ok (m b : Nat) (h sm pr mn mp ms pg ps : Int) (fo : ByteArray) (w : World) (hA : RowKit.Hid (bits .andNot .i64 h 1024 = h)) (hf : FeatG h sm pr mn mp ms pg ps fo m w) (hb1 : 16 ≤ b) (hb2 : b ≤ 16384) (hn1 : 1 ≤ mn) (hn2 : mn ≤ 255) (hm1 : 0 ≤ ms) (hm2 : ms ≤ 1048576) (hc : ¬ mn < 4) (hd : ¬ ms < 16) (hdot : decide (0 ≤ Lib.indexByte fo.data.toList 46) = true) : Calls Tryz.prog 17 #[.iface 29 (pt m), .int .i64 (b : Int)] w fun e w' => e = .returned (.tuple #[.nilIface, .int .i64 12]) ∧ Below w.heap.size w w' := by
  have H := Lib.hid (fun wx (hb : Below w.heap.size w wx) => hf.below hb)
  clear hf
  have r1 : ¬ (b : Int) < 16 := by omega
  have r2 : ¬ (b : Int) > 16384 := by omega
  have d1 : decide ((b : Int) < 16) = false := decide_eq_false r1
  have d2 : decide ((b : Int) > 16384) = false := decide_eq_false r2
  go_enter Tryz.func17, Tryz.ntmps17
  go_wp2_with fail
  have H3 := Lib.hid (Blk.new w 3 #[.int .i64 (b : Int)])
  have HB := Lib.hid ((Below.refl w.heap.size w).alloc (Nat.le_refl _) (.cells #[.int .i64 (b : Int)] 3))
  generalize (w.alloc (.cells #[.int .i64 (b : Int)] 3)) = w1 at *
  generalize hb3 : w.heap.size = b3 at *
  have HB3 := Lib.hid hb3
  clear hb3
  refine (featuresG_ok h sm pr mn mp ms pg ps fo m w1 hA.out (H.out _ HB.out)).mono ?_
  rintro e w2 ⟨rfl, hb⟩
  have HB2 := Lib.hid (HB.out.trans (hb.mono (Nat.le_of_lt H3.out.lt)))
  have H32 := Lib.hid (H3.out.below hb H3.out.lt)
  clear hb HB H3
  go_wp2_with fail
  have hbs2 := Nat.le_of_lt H32.out.lt
  have HBa := HB2.out.alloc hbs2 (.cells #[.int .i64 h, .int .i64 sm, .int .i64 pr, .int .i64 (mn - 3), .int .i64 mp, .int .i64 ms, .int .i64 pg, .int .i64 ps, .string fo] 26)
  have HB3' := Lib.hid (HBa.alloc (Nat.le_trans hbs2 (by simp)) (.cells #[.int .i64 ms] 3))
  have HF := Lib.hid ((Blk.new w2 26 #[.int .i64 h, .int .i64 sm, .int .i64 pr, .int .i64 (mn - 3), .int .i64 mp, .int .i64 ms, .int .i64 pg, .int .i64 ps, .string fo]).old (.cells #[.int .i64 ms] 3))
  have HI := Lib.hid (show Blk _ (w2.heap.size + 1) _ _ from Blk.newAt (w := w2.alloc (.cells #[.int .i64 h, .int .i64 sm, .int .i64 pr, .int .i64 (mn - 3), .int .i64 mp, .int .i64 ms, .int .i64 pg, .int .i64 ps, .string fo] 26)) (t := 3) (cs := #[.int .i64 ms]) (by simp))
  have H33 := Lib.hid ((H32.out.old (.cells #[.int .i64 h, .int .i64 sm, .int .i64 pr, .int .i64 (mn - 3), .int .i64 mp, .int .i64 ms, .int .i64 pg, .int .i64 ps, .string fo] 26)).old (.cells #[.int .i64 ms] 3))
  have hfl := Lib.hid (show b3 < w2.heap.size from H32.out.lt)
  clear HBa H32 HB2 hbs2
  generalize ((w2.alloc (.cells #[.int .i64 h, .int .i64 sm, .int .i64 pr, .int .i64 (mn - 3), .int .i64 mp, .int .i64 ms, .int .i64 pg, .int .i64 ps, .string fo] 26)).alloc (.cells #[.int .i64 ms] 3)) = w3 at *
  generalize w2.heap.size + 1 = ib at *
  generalize w2.heap.size = fb at *
  refine (greatestS_ok b3 ib 1048576 (by decide) (by decide) (sqP b ms) w3 (fun wx hx n hn => holdsS_ok n b b3 ib ms wx (by omega) hb1 hb2 ((hx.cell (World.block_lt_of_cell? _ _ (H33.out.cell 0))).trans (H33.out.cell 0)) ((hx.cell (World.block_lt_of_cell? _ _ (HI.out.cell 0))).trans (HI.out.cell 0)))).mono ?_
  rintro e w4 ⟨g, rfl, hgr, hb⟩
  have HB4 := Lib.hid (HB3'.out.trans (hb.mono (Nat.le_of_lt H33.out.lt)))
  have hF := HF.out.below hb HF.out.lt
  have H34 := Lib.hid (H33.out.below hb H33.out.lt)
  have HF4 := Lib.hid hF
  have hgn := hgr.neg (by decide) (sqP_mono b ms)
  rw [sqP_zero b ms hb1] at hgn
  have hg1 := hgr.1
  have hg2 := hgr.2.1
  clear hgr
  have c0 := hF.cell 0
  have c1 := hF.cell 1
  have c3 := hF.cell 3
  have c5 := hF.cell 5
  have c7 := hF.cell 7
  have c8 := hF.cell 8
  simp at c0 c1 c3 c5 c7 c8
  have f0 := hF.frozen 0
  have f1 := hF.frozen 1
  have f5 := hF.frozen 5
  have f7 := hF.frozen 7
  obtain ⟨h2, ha⟩ : ∃ h2, bits .andNot .i64 h 128 = h2 := ⟨_, rfl⟩
  have HC := Lib.hid (fun wx => Tryz.strings_Contains_one fo 46 wx)
  have hfb : b3 ≤ fb := Nat.le_of_lt hfl.out
  clear hb hF HF H33 HB3' HI
  have e1 : ¬ mn - 3 < 1 := by omega
  have e2 : decide (mn - 3 < 1) = false := decide_eq_false e1
  have e3 : ¬ g < 0 := fun hg => absurd (hgn.1 hg) (by rw [decide_eq_true (by omega)]; simp)
  have e4 : decide (g < 0) = false := decide_eq_false e3
  clear hgn
  rw [hdot] at HC
  clear hdot
  go_wp2_with fail
  refine (HC.out _).mono ?_
  rintro e w5 ⟨rfl, rfl⟩
  go_wp2_with fail
  go_ret2
  rw [HB3.out]
  exact ⟨rfl, HB4.out.setCell (p := ⟨fb, 5, none⟩) hfb (.int .i64 g)⟩
set_option maxRecDepth 100000 in
set_option maxHeartbeats 4000000 in
theorem squeezeO_ok (m b : Nat) (h sm pr mn mp ms pg ps : Int) (fo : ByteArray) (w : World) (hA : RowKit.Hid (bits .andNot .i64 h 1024 = h)) (hf : FeatG h sm pr mn mp ms pg ps fo m w) (hb1 : 16 ≤ b) (hb2 : b ≤ 16384) (hn1 : 1 ≤ mn) (hn2 : mn ≤ 255) (hm1 : 0 ≤ ms) (hm2 : ms ≤ 1048576) (hc : ¬ mn < 4) (hd : ¬ ms < 16) (hdot : decide (0 ≤ Lib.indexByte fo.data.toList 46) = false) : Calls Tryz.prog 17 #[.iface 29 (pt m), .int .i64 (b : Int)] w fun e w' => ∃ sb, e = .returned (.tuple #[.iface 106 (pt sb), .int .i64 0]) ∧ Below w.heap.size w w' := by
  have H := Lib.hid (fun wx (hb : Below w.heap.size w wx) => hf.below hb)
  clear hf
  have r1 : ¬ (b : Int) < 16 := by omega
  have r2 : ¬ (b : Int) > 16384 := by omega
  have d1 : decide ((b : Int) < 16) = false := decide_eq_false r1
  have d2 : decide ((b : Int) > 16384) = false := decide_eq_false r2
  go_enter Tryz.func17, Tryz.ntmps17
  go_wp2_with fail
  have H3 := Lib.hid (Blk.new w 3 #[.int .i64 (b : Int)])
  have HB := Lib.hid ((Below.refl w.heap.size w).alloc (Nat.le_refl _) (.cells #[.int .i64 (b : Int)] 3))
  generalize (w.alloc (.cells #[.int .i64 (b : Int)] 3)) = w1 at *
  generalize hb3 : w.heap.size = b3 at *
  have HB3 := Lib.hid hb3
  clear hb3
  refine (featuresG_ok h sm pr mn mp ms pg ps fo m w1 hA.out (H.out _ HB.out)).mono ?_
  rintro e w2 ⟨rfl, hb⟩
  have HB2 := Lib.hid (HB.out.trans (hb.mono (Nat.le_of_lt H3.out.lt)))
  have H32 := Lib.hid (H3.out.below hb H3.out.lt)
  clear hb HB H3
  go_wp2_with fail
  have hbs2 := Nat.le_of_lt H32.out.lt
  have HBa := HB2.out.alloc hbs2 (.cells #[.int .i64 h, .int .i64 sm, .int .i64 pr, .int .i64 (mn - 3), .int .i64 mp, .int .i64 ms, .int .i64 pg, .int .i64 ps, .string fo] 26)
  have HB3' := Lib.hid (HBa.alloc (Nat.le_trans hbs2 (by simp)) (.cells #[.int .i64 ms] 3))
  have HF := Lib.hid ((Blk.new w2 26 #[.int .i64 h, .int .i64 sm, .int .i64 pr, .int .i64 (mn - 3), .int .i64 mp, .int .i64 ms, .int .i64 pg, .int .i64 ps, .string fo]).old (.cells #[.int .i64 ms] 3))
  have HI := Lib.hid (show Blk _ (w2.heap.size + 1) _ _ from Blk.newAt (w := w2.alloc (.cells #[.int .i64 h, .int .i64 sm, .int .i64 pr, .int .i64 (mn - 3), .int .i64 mp, .int .i64 ms, .int .i64 pg, .int .i64 ps, .string fo] 26)) (t := 3) (cs := #[.int .i64 ms]) (by simp))
  have H33 := Lib.hid ((H32.out.old (.cells #[.int .i64 h, .int .i64 sm, .int .i64 pr, .int .i64 (mn - 3), .int .i64 mp, .int .i64 ms, .int .i64 pg, .int .i64 ps, .string fo] 26)).old (.cells #[.int .i64 ms] 3))
  have hfl := Lib.hid (show b3 < w2.heap.size from H32.out.lt)
  clear HBa H32 HB2 hbs2
  generalize ((w2.alloc (.cells #[.int .i64 h, .int .i64 sm, .int .i64 pr, .int .i64 (mn - 3), .int .i64 mp, .int .i64 ms, .int .i64 pg, .int .i64 ps, .string fo] 26)).alloc (.cells #[.int .i64 ms] 3)) = w3 at *
  generalize w2.heap.size + 1 = ib at *
  generalize w2.heap.size = fb at *
  refine (greatestS_ok b3 ib 1048576 (by decide) (by decide) (sqP b ms) w3 (fun wx hx n hn => holdsS_ok n b b3 ib ms wx (by omega) hb1 hb2 ((hx.cell (World.block_lt_of_cell? _ _ (H33.out.cell 0))).trans (H33.out.cell 0)) ((hx.cell (World.block_lt_of_cell? _ _ (HI.out.cell 0))).trans (HI.out.cell 0)))).mono ?_
  rintro e w4 ⟨g, rfl, hgr, hb⟩
  have HB4 := Lib.hid (HB3'.out.trans (hb.mono (Nat.le_of_lt H33.out.lt)))
  have hF := HF.out.below hb HF.out.lt
  have H34 := Lib.hid (H33.out.below hb H33.out.lt)
  have HF4 := Lib.hid hF
  have hgn := hgr.neg (by decide) (sqP_mono b ms)
  rw [sqP_zero b ms hb1] at hgn
  have hg1 := hgr.1
  have hg2 := hgr.2.1
  clear hgr
  have c0 := hF.cell 0
  have c1 := hF.cell 1
  have c3 := hF.cell 3
  have c5 := hF.cell 5
  have c7 := hF.cell 7
  have c8 := hF.cell 8
  simp at c0 c1 c3 c5 c7 c8
  have f0 := hF.frozen 0
  have f1 := hF.frozen 1
  have f5 := hF.frozen 5
  have f7 := hF.frozen 7
  obtain ⟨h2, ha⟩ : ∃ h2, bits .andNot .i64 h 128 = h2 := ⟨_, rfl⟩
  have HC := Lib.hid (fun wx => Tryz.strings_Contains_one fo 46 wx)
  have hfb : b3 ≤ fb := Nat.le_of_lt hfl.out
  clear hb hF HF H33 HB3' HI
  have e1 : ¬ mn - 3 < 1 := by omega
  have e2 : decide (mn - 3 < 1) = false := decide_eq_false e1
  have e3 : ¬ g < 0 := fun hg => absurd (hgn.1 hg) (by rw [decide_eq_true (by omega)]; simp)
  have e4 : decide (g < 0) = false := decide_eq_false e3
  clear hgn
  rw [hdot] at HC
  clear hdot
  go_wp2_with fail
  refine (HC.out _).mono ?_
  rintro e w5 ⟨rfl, rfl⟩
  go_upto_region 13 with (fail)
  have HF6 := Lib.hid (show Blk _ fb 26 #[.int .i64 h2, .int .i64 0, .int .i64 pr, .int .i64 (mn - 3), .int .i64 mp, .int .i64 g, .int .i64 pg, .int .i64 1, .string fo] from (((HF4.out.set 5 (.int .i64 g)).set 1 (.int .i64 0)).set 7 (.int .i64 1)).set 0 (.int .i64 h2))
  have K := ((((Kp.refl [fb] w4).setCell ⟨fb, 5, none⟩ (.int .i64 g) (Or.inl (by simp))).setCell ⟨fb, 1, none⟩ (.int .i64 0) (Or.inl (by simp))).setCell ⟨fb, 7, none⟩ (.int .i64 1) (Or.inl (by simp))).setCell ⟨fb, 0, none⟩ (.int .i64 h2) (Or.inl (by simp))
  have H36 := Lib.hid (K.blk H34.out (by have := hfl.out; simp; omega))
  have HB6 := Lib.hid ((((HB4.out.setCell (p := ⟨fb, 5, none⟩) hfb (.int .i64 g)).setCell (p := ⟨fb, 1, none⟩) hfb (.int .i64 0)).setCell (p := ⟨fb, 7, none⟩) hfb (.int .i64 1)).setCell (p := ⟨fb, 0, none⟩) hfb (.int .i64 h2))
  clear K H34 HB4 HF4 c0 c1 c3 c5 c7 c8 f0 f1 f5 f7 ha HC
  generalize ((((w4.setCell ⟨fb, 5, none⟩ (.int .i64 g)).setCell ⟨fb, 1, none⟩ (.int .i64 0)).setCell ⟨fb, 7, none⟩ (.int .i64 1)).setCell ⟨fb, 0, none⟩ (.int .i64 h2)) = w6 at *
  go_wp2_with fail
  refine (suffixed_ok ⟨#[46, 119, 122]⟩ w6).mono ?_
  rintro e w7 ⟨rfl, hE, hb7⟩
  have hF7 := HF6.out.below hb7 HF6.out.lt
  have h37 := H36.out.below hb7 H36.out.lt
  have hB7 := HB6.out.trans (hb7.mono (Nat.le_of_lt H36.out.lt))
  generalize w6.heap.size = eb at *
  have HS := Lib.hid (show Below b3 w w7 ∧ Blk w7 eb 9 #[.string ⟨#[46, 119, 122]⟩] ∧ w7.cell? ⟨b3, 0, none⟩ = some (.int .i64 (b : Int)) ∧ w7.cell? ⟨fb, 0, none⟩ = some (.int .i64 h2) ∧ w7.cell? ⟨fb, 1, none⟩ = some (.int .i64 0) ∧ w7.cell? ⟨fb, 2, none⟩ = some (.int .i64 pr) ∧ w7.cell? ⟨fb, 3, none⟩ = some (.int .i64 (mn - 3)) ∧ w7.cell? ⟨fb, 4, none⟩ = some (.int .i64 mp) ∧ w7.cell? ⟨fb, 5, none⟩ = some (.int .i64 g) ∧ w7.cell? ⟨fb, 6, none⟩ = some (.int .i64 pg) ∧ w7.cell? ⟨fb, 7, none⟩ = some (.int .i64 1) ∧ w7.cell? ⟨fb, 8, none⟩ = some (.string fo) from ⟨hB7, hE, h37.cell 0, hF7.cell 0, hF7.cell 1, hF7.cell 2, hF7.cell 3, hF7.cell 4, hF7.cell 5, hF7.cell 6, hF7.cell 7, hF7.cell 8⟩)
  clear hE hb7 hF7 h37 hB7 HF6 H36 HB6
  go_upto_region 14 with (fail)
  go_region_held3 (fun wx => Below b3 w wx ∧ Blk wx eb 9 #[.string ⟨#[46, 119, 122]⟩] ∧ wx.cell? ⟨b3, 0, none⟩ = some (.int .i64 (b : Int)) ∧ wx.cell? ⟨fb, 0, none⟩ = some (.int .i64 h2) ∧ wx.cell? ⟨fb, 1, none⟩ = some (.int .i64 0) ∧ wx.cell? ⟨fb, 2, none⟩ = some (.int .i64 pr) ∧ wx.cell? ⟨fb, 3, none⟩ = some (.int .i64 (mn - 3)) ∧ wx.cell? ⟨fb, 4, none⟩ = some (.int .i64 mp) ∧ wx.cell? ⟨fb, 5, none⟩ = some (.int .i64 g) ∧ wx.cell? ⟨fb, 6, none⟩ = some (.int .i64 pg) ∧ wx.cell? ⟨fb, 7, none⟩ = some (.int .i64 1) ∧ wx.cell? ⟨fb, 8, none⟩ = some (.string fo))
    (first | assumption | exact tenG_below HS.out ((Below.refl _ _).drew) | exact tenG_below (by assumption) hb8 | exact tenG_below (by assumption) ((Below.refl _ _).alloc (Nat.le_refl _) _))
    ((go_at_call 35; have hbw := And.left (by assumption); refine (renameG_ok m _ _ _ _ _ _ _ _ _ _ _ _ _ _ _ _ _ _ _ _ _ _ _ (H.out _ hbw)).mono ?_; rintro e w8 ⟨rb, tb, rfl, hR, hT, htl, hb8⟩))
  all_goals
    have h7 := HS.out
    have h8 := tenG_below (tenG_below h7 ((Below.refl _ _).drew)) hb8
    have hs8 : b3 ≤ w8.heap.size := Nat.le_of_lt (World.block_lt_of_cell? _ _ h8.2.2.1)
    have HB8 := Lib.hid h8.1
    clear h7 h8 hb8 hR hT
    go_wp2_with fail
    go_ret2
    refine ⟨_, rfl, ?_⟩
    rw [HB3.out]
    exact HB8.out.alloc hs8 _
end Go.Proofs.YtoomhlbebifklaaGreatDoor
