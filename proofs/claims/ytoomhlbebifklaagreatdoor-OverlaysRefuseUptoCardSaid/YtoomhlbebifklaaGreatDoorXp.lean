import Derived.Test.YtoomhlbebifklaaGreatDoorXh
import Derived.Test.YtoomhlbebifklaaGreatDoorXb
set_option linter.unusedVariables false
set_option linter.unusedSimpArgs false
namespace Go.Proofs.YtoomhlbebifklaaGreatDoor
open Go.RowKit
set_option maxRecDepth 100000 in
set_option maxHeartbeats 4000000 in
/-- what is no path is no overlay. -/
theorem subP_ok (m : Nat) (dir : ByteArray) (w : World) (g : Gl w) (hs : dir.size ≤ 1048576) (hp : pathB dir = false) : Calls Tryz.prog 10 #[.iface 29 (pt m), .string dir] w fun e w' => e = .returned (.tuple #[.nilIface, .int .i64 1]) ∧ Below w.heap.size w w' := by
  have HK0 := fun wx (hb : Below w.heap.size w wx) => check_any dir wx (g.below hb) hs
  rw [hp] at HK0
  have HK := Lib.hid HK0
  clear HK0 g hp
  go_enter Tryz.func10, Tryz.ntmps10
  go_wp2_with fail
  have HB := Lib.hid ((Below.refl w.heap.size w).alloc (Nat.le_refl _) (.cells #[.string dir] 9))
  generalize (w.alloc (.cells #[.string dir] 9)) = w1 at *
  refine (HK.out _ HB.out).mono ?_
  rintro e w2 ⟨rfl, hb⟩
  have HB2 := Lib.hid (HB.out.trans (hb.mono HB.out.size))
  clear hb
  go_wp2_with fail
  go_ret2
  exact ⟨rfl, HB2.out⟩
set_option maxRecDepth 100000 in
set_option maxHeartbeats 4000000 in
theorem subR_ok (m : Nat) (dir : ByteArray) (h sm pr mn mp ms pg ps : Int) (fo : ByteArray) (w : World) (g : Gl w) (hA : RowKit.Hid (bits .andNot .i64 h 1024 = h)) (hf : FeatG h sm pr mn mp ms pg ps fo m w) (hs : dir.size ≤ 1048576) (hp : pathB dir = true) (he : dir.toList.isEmpty = true) (hr : mp < mn) : Calls Tryz.prog 10 #[.iface 29 (pt m), .string dir] w fun e w' => e = .returned (.tuple #[.nilIface, .int .i64 7]) ∧ Below w.heap.size w w' := by
  have e1 : decide (mp < mn) = true := decide_eq_true hr
  have HK0 := fun wx (hb : Below w.heap.size w wx) => check_any dir wx (g.below hb) hs
  rw [hp] at HK0
  have HK := Lib.hid HK0
  have H := Lib.hid (fun wx (hb : Below w.heap.size w wx) => hf.below hb)
  clear HK0 g hp hf
  go_enter Tryz.func10, Tryz.ntmps10
  go_wp2_with fail
  have HD := Lib.hid (Blk.new w 9 #[.string dir])
  have HB := Lib.hid ((Below.refl w.heap.size w).alloc (Nat.le_refl _) (.cells #[.string dir] 9))
  generalize (w.alloc (.cells #[.string dir] 9)) = w1 at *
  generalize hdb : w.heap.size = db at *
  have HDB := Lib.hid hdb
  clear hdb
  refine (HK.out _ HB.out).mono ?_
  rintro e w2 ⟨rfl, hb⟩
  have HD2 := Lib.hid (HD.out.below hb HD.out.lt)
  have HB2 := Lib.hid (HB.out.trans (hb.mono (Nat.le_of_lt HD.out.lt)))
  clear hb HD HB
  go_wp2_with fail
  refine (featuresG_ok h sm pr mn mp ms pg ps fo m w2 hA.out (H.out _ HB2.out)).mono ?_
  rintro e w3 ⟨rfl, hb⟩
  have HD3 := Lib.hid (HD2.out.below hb HD2.out.lt)
  have HB3 := Lib.hid (HB2.out.trans (hb.mono (Nat.le_of_lt HD2.out.lt)))
  clear hb HD2 HB2 HK H
  go_wp2_with fail
  refine (straight_ok m _ _ _ _ _ _ _ _ _ w3).mono ?_
  rintro e w4 ⟨rfl, hb⟩
  have HD4 := Lib.hid (HD3.out.below hb HD3.out.lt)
  have HB4 := Lib.hid (HB3.out.trans (hb.mono (Nat.le_of_lt HD3.out.lt)))
  have hdl := Lib.hid (Nat.le_of_lt HD4.out.lt)
  have d0 : w4.cell? ⟨db, 0, none⟩ = some (.string dir) := HD4.out.cell 0
  clear hb HD3 HB3
  go_upto_region 7 with (fail)
  have HOX := Lib.hid (show Blk (w4.alloc (.cells #[.iface 29 (pt m), .int .i64 h, .int .i64 sm, .int .i64 pr, .int .i64 mn, .int .i64 mp, .int .i64 ms, .int .i64 pg, .int .i64 ps, .string fo, fn0 55, fn0 55] 79)) w4.heap.size 79 #[.iface 29 (pt m), .int .i64 h, .int .i64 sm, .int .i64 pr, .int .i64 mn, .int .i64 mp, .int .i64 ms, .int .i64 pg, .int .i64 ps, .string fo, fn0 55, fn0 55] from Blk.new _ _ _)
  have HBX := Lib.hid (HB4.out.alloc hdl.out (.cells #[.iface 29 (pt m), .int .i64 h, .int .i64 sm, .int .i64 pr, .int .i64 mn, .int .i64 mp, .int .i64 ms, .int .i64 pg, .int .i64 ps, .string fo, fn0 55, fn0 55] 79))
  have HSX := Lib.hid (show w4.heap.size ≤ (w4.alloc (.cells #[.iface 29 (pt m), .int .i64 h, .int .i64 sm, .int .i64 pr, .int .i64 mn, .int .i64 mp, .int .i64 ms, .int .i64 pg, .int .i64 ps, .string fo, fn0 55, fn0 55] 79)).heap.size by simp)
  have d5 := (HD4.out.old (.cells #[.iface 29 (pt m), .int .i64 h, .int .i64 sm, .int .i64 pr, .int .i64 mn, .int .i64 mp, .int .i64 ms, .int .i64 pg, .int .i64 ps, .string fo, fn0 55, fn0 55] 79)).cell 0
  have d5 : (w4.alloc (.cells #[.iface 29 (pt m), .int .i64 h, .int .i64 sm, .int .i64 pr, .int .i64 mn, .int .i64 mp, .int .i64 ms, .int .i64 pg, .int .i64 ps, .string fo, fn0 55, fn0 55] 79)).cell? ⟨db, 0, none⟩ = some (.string dir) := d5
  clear d0 HD4 HB4
  generalize (w4.alloc (.cells #[.iface 29 (pt m), .int .i64 h, .int .i64 sm, .int .i64 pr, .int .i64 mn, .int .i64 mp, .int .i64 ms, .int .i64 pg, .int .i64 ps, .string fo, fn0 55, fn0 55] 79)) = w5 at *
  generalize w4.heap.size = ob at *
  have o0 : w5.cell? ⟨ob, 0, none⟩ = some (.iface 29 (pt m)) := HOX.out.cell 0
  have o1 : w5.cell? ⟨ob, 1, none⟩ = some (.int .i64 h) := HOX.out.cell 1
  have o2 : w5.cell? ⟨ob, 2, none⟩ = some (.int .i64 sm) := HOX.out.cell 2
  have o3 : w5.cell? ⟨ob, 3, none⟩ = some (.int .i64 pr) := HOX.out.cell 3
  have o4 : w5.cell? ⟨ob, 4, none⟩ = some (.int .i64 mn) := HOX.out.cell 4
  have o5 : w5.cell? ⟨ob, 5, none⟩ = some (.int .i64 mp) := HOX.out.cell 5
  have o6 : w5.cell? ⟨ob, 6, none⟩ = some (.int .i64 ms) := HOX.out.cell 6
  have o7 : w5.cell? ⟨ob, 7, none⟩ = some (.int .i64 pg) := HOX.out.cell 7
  have o8 : w5.cell? ⟨ob, 8, none⟩ = some (.int .i64 ps) := HOX.out.cell 8
  have o9 : w5.cell? ⟨ob, 9, none⟩ = some (.string fo) := HOX.out.cell 9
  have o10 : w5.cell? ⟨ob, 10, none⟩ = some (fn0 55) := HOX.out.cell 10
  have o11 : w5.cell? ⟨ob, 11, none⟩ = some (fn0 55) := HOX.out.cell 11
  go_wp2_with fail
  go_ret2
  exact ⟨rfl, by rw [HDB.out]; exact HBX.out⟩
set_option maxRecDepth 100000 in
set_option maxHeartbeats 4000000 in
theorem subO_ok (m : Nat) (dir : ByteArray) (h sm pr mn mp ms pg ps : Int) (fo : ByteArray) (w : World) (g : Gl w) (hA : RowKit.Hid (bits .andNot .i64 h 1024 = h)) (hf : FeatG h sm pr mn mp ms pg ps fo m w) (hs : dir.size ≤ 1048576) (hp : pathB dir = true) (he : dir.toList.isEmpty = true) (hr : ¬ mp < mn) : Calls Tryz.prog 10 #[.iface 29 (pt m), .string dir] w fun e w' => ∃ sb, e = .returned (.tuple #[.iface 82 (pt sb), .int .i64 0]) ∧ Below w.heap.size w w' := by
  have e1 : decide (mp < mn) = false := decide_eq_false hr
  have HK0 := fun wx (hb : Below w.heap.size w wx) => check_any dir wx (g.below hb) hs
  rw [hp] at HK0
  have HK := Lib.hid HK0
  have H := Lib.hid (fun wx (hb : Below w.heap.size w wx) => hf.below hb)
  clear HK0 g hp hf
  go_enter Tryz.func10, Tryz.ntmps10
  go_wp2_with fail
  have HD := Lib.hid (Blk.new w 9 #[.string dir])
  have HB := Lib.hid ((Below.refl w.heap.size w).alloc (Nat.le_refl _) (.cells #[.string dir] 9))
  generalize (w.alloc (.cells #[.string dir] 9)) = w1 at *
  generalize hdb : w.heap.size = db at *
  have HDB := Lib.hid hdb
  clear hdb
  refine (HK.out _ HB.out).mono ?_
  rintro e w2 ⟨rfl, hb⟩
  have HD2 := Lib.hid (HD.out.below hb HD.out.lt)
  have HB2 := Lib.hid (HB.out.trans (hb.mono (Nat.le_of_lt HD.out.lt)))
  clear hb HD HB
  go_wp2_with fail
  refine (featuresG_ok h sm pr mn mp ms pg ps fo m w2 hA.out (H.out _ HB2.out)).mono ?_
  rintro e w3 ⟨rfl, hb⟩
  have HD3 := Lib.hid (HD2.out.below hb HD2.out.lt)
  have HB3 := Lib.hid (HB2.out.trans (hb.mono (Nat.le_of_lt HD2.out.lt)))
  clear hb HD2 HB2 HK H
  go_wp2_with fail
  refine (straight_ok m _ _ _ _ _ _ _ _ _ w3).mono ?_
  rintro e w4 ⟨rfl, hb⟩
  have HD4 := Lib.hid (HD3.out.below hb HD3.out.lt)
  have HB4 := Lib.hid (HB3.out.trans (hb.mono (Nat.le_of_lt HD3.out.lt)))
  have hdl := Lib.hid (Nat.le_of_lt HD4.out.lt)
  have d0 : w4.cell? ⟨db, 0, none⟩ = some (.string dir) := HD4.out.cell 0
  clear hb HD3 HB3
  go_upto_region 7 with (fail)
  have HOX := Lib.hid (show Blk (w4.alloc (.cells #[.iface 29 (pt m), .int .i64 h, .int .i64 sm, .int .i64 pr, .int .i64 mn, .int .i64 mp, .int .i64 ms, .int .i64 pg, .int .i64 ps, .string fo, fn0 55, fn0 55] 79)) w4.heap.size 79 #[.iface 29 (pt m), .int .i64 h, .int .i64 sm, .int .i64 pr, .int .i64 mn, .int .i64 mp, .int .i64 ms, .int .i64 pg, .int .i64 ps, .string fo, fn0 55, fn0 55] from Blk.new _ _ _)
  have HBX := Lib.hid (HB4.out.alloc hdl.out (.cells #[.iface 29 (pt m), .int .i64 h, .int .i64 sm, .int .i64 pr, .int .i64 mn, .int .i64 mp, .int .i64 ms, .int .i64 pg, .int .i64 ps, .string fo, fn0 55, fn0 55] 79))
  have HSX := Lib.hid (show w4.heap.size ≤ (w4.alloc (.cells #[.iface 29 (pt m), .int .i64 h, .int .i64 sm, .int .i64 pr, .int .i64 mn, .int .i64 mp, .int .i64 ms, .int .i64 pg, .int .i64 ps, .string fo, fn0 55, fn0 55] 79)).heap.size by simp)
  have d5 := (HD4.out.old (.cells #[.iface 29 (pt m), .int .i64 h, .int .i64 sm, .int .i64 pr, .int .i64 mn, .int .i64 mp, .int .i64 ms, .int .i64 pg, .int .i64 ps, .string fo, fn0 55, fn0 55] 79)).cell 0
  have d5 : (w4.alloc (.cells #[.iface 29 (pt m), .int .i64 h, .int .i64 sm, .int .i64 pr, .int .i64 mn, .int .i64 mp, .int .i64 ms, .int .i64 pg, .int .i64 ps, .string fo, fn0 55, fn0 55] 79)).cell? ⟨db, 0, none⟩ = some (.string dir) := d5
  clear d0 HD4 HB4
  generalize (w4.alloc (.cells #[.iface 29 (pt m), .int .i64 h, .int .i64 sm, .int .i64 pr, .int .i64 mn, .int .i64 mp, .int .i64 ms, .int .i64 pg, .int .i64 ps, .string fo, fn0 55, fn0 55] 79)) = w5 at *
  generalize w4.heap.size = ob at *
  have o0 : w5.cell? ⟨ob, 0, none⟩ = some (.iface 29 (pt m)) := HOX.out.cell 0
  have o1 : w5.cell? ⟨ob, 1, none⟩ = some (.int .i64 h) := HOX.out.cell 1
  have o2 : w5.cell? ⟨ob, 2, none⟩ = some (.int .i64 sm) := HOX.out.cell 2
  have o3 : w5.cell? ⟨ob, 3, none⟩ = some (.int .i64 pr) := HOX.out.cell 3
  have o4 : w5.cell? ⟨ob, 4, none⟩ = some (.int .i64 mn) := HOX.out.cell 4
  have o5 : w5.cell? ⟨ob, 5, none⟩ = some (.int .i64 mp) := HOX.out.cell 5
  have o6 : w5.cell? ⟨ob, 6, none⟩ = some (.int .i64 ms) := HOX.out.cell 6
  have o7 : w5.cell? ⟨ob, 7, none⟩ = some (.int .i64 pg) := HOX.out.cell 7
  have o8 : w5.cell? ⟨ob, 8, none⟩ = some (.int .i64 ps) := HOX.out.cell 8
  have o9 : w5.cell? ⟨ob, 9, none⟩ = some (.string fo) := HOX.out.cell 9
  have o10 : w5.cell? ⟨ob, 10, none⟩ = some (fn0 55) := HOX.out.cell 10
  have o11 : w5.cell? ⟨ob, 11, none⟩ = some (fn0 55) := HOX.out.cell 11
  go_wp2_with fail
  go_ret2
  exact ⟨_, rfl, by rw [HDB.out]; exact HBX.out.alloc (Nat.le_trans hdl.out HSX.out) _⟩
set_option maxRecDepth 100000 in
set_option maxHeartbeats 4000000 in
theorem subRd_ok (m : Nat) (dir : ByteArray) (h sm pr mn mp ms pg ps : Int) (fo : ByteArray) (w : World) (g : Gl w) (hA : RowKit.Hid (bits .andNot .i64 h 1024 = h)) (hf : FeatG h sm pr mn mp ms pg ps fo m w) (hs : dir.size ≤ 1048576) (hp : pathB dir = true) (he : dir.toList.isEmpty = false) (hp1 : 1 ≤ mp) (hp2 : mp ≤ 1024) (hr : mp - ((dir.size : Int) + 1) < mn) : Calls Tryz.prog 10 #[.iface 29 (pt m), .string dir] w fun e w' => e = .returned (.tuple #[.nilIface, .int .i64 7]) ∧ Below w.heap.size w w' := by
  have hl1 : (dir.size : Int) + 1 ≤ 2000000 := by omega
  obtain ⟨mq, hmq⟩ : ∃ mq : Int, mp - ((dir.size : Int) + 1) = mq := ⟨_, rfl⟩
  have hmq1 : -2000000 ≤ mq := by omega
  have hmq2 : mq ≤ 1024 := by omega
  have e1 : decide (mq < mn) = true := decide_eq_true (by omega)
  have HK0 := fun wx (hb : Below w.heap.size w wx) => check_any dir wx (g.below hb) hs
  rw [hp] at HK0
  have HK := Lib.hid HK0
  have H := Lib.hid (fun wx (hb : Below w.heap.size w wx) => hf.below hb)
  clear HK0 g hp hf
  go_enter Tryz.func10, Tryz.ntmps10
  go_wp2_with fail
  have HD := Lib.hid (Blk.new w 9 #[.string dir])
  have HB := Lib.hid ((Below.refl w.heap.size w).alloc (Nat.le_refl _) (.cells #[.string dir] 9))
  generalize (w.alloc (.cells #[.string dir] 9)) = w1 at *
  generalize hdb : w.heap.size = db at *
  have HDB := Lib.hid hdb
  clear hdb
  refine (HK.out _ HB.out).mono ?_
  rintro e w2 ⟨rfl, hb⟩
  have HD2 := Lib.hid (HD.out.below hb HD.out.lt)
  have HB2 := Lib.hid (HB.out.trans (hb.mono (Nat.le_of_lt HD.out.lt)))
  clear hb HD HB
  go_wp2_with fail
  refine (featuresG_ok h sm pr mn mp ms pg ps fo m w2 hA.out (H.out _ HB2.out)).mono ?_
  rintro e w3 ⟨rfl, hb⟩
  have HD3 := Lib.hid (HD2.out.below hb HD2.out.lt)
  have HB3 := Lib.hid (HB2.out.trans (hb.mono (Nat.le_of_lt HD2.out.lt)))
  clear hb HD2 HB2 HK H
  go_wp2_with fail
  refine (straight_ok m _ _ _ _ _ _ _ _ _ w3).mono ?_
  rintro e w4 ⟨rfl, hb⟩
  have HD4 := Lib.hid (HD3.out.below hb HD3.out.lt)
  have HB4 := Lib.hid (HB3.out.trans (hb.mono (Nat.le_of_lt HD3.out.lt)))
  have hdl := Lib.hid (Nat.le_of_lt HD4.out.lt)
  have d0 : w4.cell? ⟨db, 0, none⟩ = some (.string dir) := HD4.out.cell 0
  clear hb HD3 HB3
  go_upto_region 7 with (fail)
  have hzz := Lib.hid (Nat.le_of_lt (Nat.lt_of_lt_of_le HD4.out.lt (Nat.le_refl _)))
  have HOX := Lib.hid (show Blk (w4.alloc (.cells #[.iface 29 (pt m), .int .i64 h, .int .i64 sm, .int .i64 pr, .int .i64 mn, .int .i64 mp, .int .i64 ms, .int .i64 pg, .int .i64 ps, .string fo, fn0 55, fn0 55] 79)) w4.heap.size 79 #[.iface 29 (pt m), .int .i64 h, .int .i64 sm, .int .i64 pr, .int .i64 mn, .int .i64 mp, .int .i64 ms, .int .i64 pg, .int .i64 ps, .string fo, fn0 55, fn0 55] from Blk.new _ _ _)
  have HBX := Lib.hid (HB4.out.alloc hdl.out (.cells #[.iface 29 (pt m), .int .i64 h, .int .i64 sm, .int .i64 pr, .int .i64 mn, .int .i64 mp, .int .i64 ms, .int .i64 pg, .int .i64 ps, .string fo, fn0 55, fn0 55] 79))
  have HSX := Lib.hid (show w4.heap.size ≤ (w4.alloc (.cells #[.iface 29 (pt m), .int .i64 h, .int .i64 sm, .int .i64 pr, .int .i64 mn, .int .i64 mp, .int .i64 ms, .int .i64 pg, .int .i64 ps, .string fo, fn0 55, fn0 55] 79)).heap.size by simp)
  have d5 := (HD4.out.old (.cells #[.iface 29 (pt m), .int .i64 h, .int .i64 sm, .int .i64 pr, .int .i64 mn, .int .i64 mp, .int .i64 ms, .int .i64 pg, .int .i64 ps, .string fo, fn0 55, fn0 55] 79)).cell 0
  have d5 : (w4.alloc (.cells #[.iface 29 (pt m), .int .i64 h, .int .i64 sm, .int .i64 pr, .int .i64 mn, .int .i64 mp, .int .i64 ms, .int .i64 pg, .int .i64 ps, .string fo, fn0 55, fn0 55] 79)).cell? ⟨db, 0, none⟩ = some (.string dir) := d5
  have HDX := Lib.hid (HD4.out.old (.cells #[.iface 29 (pt m), .int .i64 h, .int .i64 sm, .int .i64 pr, .int .i64 mn, .int .i64 mp, .int .i64 ms, .int .i64 pg, .int .i64 ps, .string fo, fn0 55, fn0 55] 79))
  have hne := Lib.hid (show db < w4.heap.size from HD4.out.lt)
  clear d0 HD4 HB4
  generalize (w4.alloc (.cells #[.iface 29 (pt m), .int .i64 h, .int .i64 sm, .int .i64 pr, .int .i64 mn, .int .i64 mp, .int .i64 ms, .int .i64 pg, .int .i64 ps, .string fo, fn0 55, fn0 55] 79)) = w5 at *
  generalize w4.heap.size = ob at *
  have hob : db ≤ ob := hzz.out
  have o5 : w5.cell? ⟨ob, 5, none⟩ = some (.int .i64 mp) := HOX.out.cell 5
  have z5 := HOX.out.frozen 5
  have z10 := HOX.out.frozen 10
  have z11 := HOX.out.frozen 11
  have o10 : w5.cell? ⟨ob, 10, none⟩ = some (fn0 55) := HOX.out.cell 10
  have o11 : w5.cell? ⟨ob, 11, none⟩ = some (fn0 55) := HOX.out.cell 11
  go_upto_region 11 with (fail)
  have HOY := Lib.hid (show Blk _ ob 79 #[.iface 29 (pt m), .int .i64 h, .int .i64 sm, .int .i64 pr, .int .i64 mn, .int .i64 mq, .int .i64 ms, .int .i64 pg, .int .i64 ps, .string fo, .func (.func 28) #[] #[pt db], .func (.func 29) #[] #[pt db]] from ((HOX.out.set 5 (.int .i64 mq)).set 10 (.func (.func 28) #[] #[pt db])).set 11 (.func (.func 29) #[] #[pt db]))
  have K := (((Kp.refl [ob] w5).setCell ⟨ob, 5, none⟩ (.int .i64 mq) (Or.inl (by simp))).setCell ⟨ob, 10, none⟩ (.func (.func 28) #[] #[pt db]) (Or.inl (by simp))).setCell ⟨ob, 11, none⟩ (.func (.func 29) #[] #[pt db]) (Or.inl (by simp))
  have d6 : (((w5.setCell ⟨ob, 5, none⟩ (.int .i64 mq)).setCell ⟨ob, 10, none⟩ (.func (.func 28) #[] #[pt db])).setCell ⟨ob, 11, none⟩ (.func (.func 29) #[] #[pt db])).cell? ⟨db, 0, none⟩ = some (.string dir) := (K.blk HDX.out (by have := hne.out; simp; omega)).cell 0
  have HBY := Lib.hid (((HBX.out.setCell (p := ⟨ob, 5, none⟩) hob (.int .i64 mq)).setCell (p := ⟨ob, 10, none⟩) hob (.func (.func 28) #[] #[pt db])).setCell (p := ⟨ob, 11, none⟩) hob (.func (.func 29) #[] #[pt db]))
  have HSY := Lib.hid (show ob ≤ (((w5.setCell ⟨ob, 5, none⟩ (.int .i64 mq)).setCell ⟨ob, 10, none⟩ (.func (.func 28) #[] #[pt db])).setCell ⟨ob, 11, none⟩ (.func (.func 29) #[] #[pt db])).heap.size from Nat.le_trans HSX.out K.size)
  clear K o5 o10 o11 z5 z10 z11 HBX HOX HSX d5 HDX
  generalize (((w5.setCell ⟨ob, 5, none⟩ (.int .i64 mq)).setCell ⟨ob, 10, none⟩ (.func (.func 28) #[] #[pt db])).setCell ⟨ob, 11, none⟩ (.func (.func 29) #[] #[pt db])) = w6 at *
  have HBX := HBY
  have HOX := HOY
  have HSX := HSY
  clear HBY HOY HSY hmq hl1
  have o0 : w6.cell? ⟨ob, 0, none⟩ = some (.iface 29 (pt m)) := HOX.out.cell 0
  have o1 : w6.cell? ⟨ob, 1, none⟩ = some (.int .i64 h) := HOX.out.cell 1
  have o2 : w6.cell? ⟨ob, 2, none⟩ = some (.int .i64 sm) := HOX.out.cell 2
  have o3 : w6.cell? ⟨ob, 3, none⟩ = some (.int .i64 pr) := HOX.out.cell 3
  have o4 : w6.cell? ⟨ob, 4, none⟩ = some (.int .i64 mn) := HOX.out.cell 4
  have o5 : w6.cell? ⟨ob, 5, none⟩ = some (.int .i64 mq) := HOX.out.cell 5
  have o6 : w6.cell? ⟨ob, 6, none⟩ = some (.int .i64 ms) := HOX.out.cell 6
  have o7 : w6.cell? ⟨ob, 7, none⟩ = some (.int .i64 pg) := HOX.out.cell 7
  have o8 : w6.cell? ⟨ob, 8, none⟩ = some (.int .i64 ps) := HOX.out.cell 8
  have o9 : w6.cell? ⟨ob, 9, none⟩ = some (.string fo) := HOX.out.cell 9
  have o10 : w6.cell? ⟨ob, 10, none⟩ = some (.func (.func 28) #[] #[pt db]) := HOX.out.cell 10
  have o11 : w6.cell? ⟨ob, 11, none⟩ = some (.func (.func 29) #[] #[pt db]) := HOX.out.cell 11
  go_wp2_with fail
  go_ret2
  exact ⟨rfl, by rw [HDB.out]; exact HBX.out⟩
set_option maxRecDepth 100000 in
set_option maxHeartbeats 4000000 in
theorem subOd_ok (m : Nat) (dir : ByteArray) (h sm pr mn mp ms pg ps : Int) (fo : ByteArray) (w : World) (g : Gl w) (hA : RowKit.Hid (bits .andNot .i64 h 1024 = h)) (hf : FeatG h sm pr mn mp ms pg ps fo m w) (hs : dir.size ≤ 1048576) (hp : pathB dir = true) (he : dir.toList.isEmpty = false) (hp1 : 1 ≤ mp) (hp2 : mp ≤ 1024) (hr : ¬ mp - ((dir.size : Int) + 1) < mn) : Calls Tryz.prog 10 #[.iface 29 (pt m), .string dir] w fun e w' => ∃ sb, e = .returned (.tuple #[.iface 82 (pt sb), .int .i64 0]) ∧ Below w.heap.size w w' := by
  have hl1 : (dir.size : Int) + 1 ≤ 2000000 := by omega
  obtain ⟨mq, hmq⟩ : ∃ mq : Int, mp - ((dir.size : Int) + 1) = mq := ⟨_, rfl⟩
  have hmq1 : -2000000 ≤ mq := by omega
  have hmq2 : mq ≤ 1024 := by omega
  have e1 : decide (mq < mn) = false := decide_eq_false (by omega)
  have HK0 := fun wx (hb : Below w.heap.size w wx) => check_any dir wx (g.below hb) hs
  rw [hp] at HK0
  have HK := Lib.hid HK0
  have H := Lib.hid (fun wx (hb : Below w.heap.size w wx) => hf.below hb)
  clear HK0 g hp hf
  go_enter Tryz.func10, Tryz.ntmps10
  go_wp2_with fail
  have HD := Lib.hid (Blk.new w 9 #[.string dir])
  have HB := Lib.hid ((Below.refl w.heap.size w).alloc (Nat.le_refl _) (.cells #[.string dir] 9))
  generalize (w.alloc (.cells #[.string dir] 9)) = w1 at *
  generalize hdb : w.heap.size = db at *
  have HDB := Lib.hid hdb
  clear hdb
  refine (HK.out _ HB.out).mono ?_
  rintro e w2 ⟨rfl, hb⟩
  have HD2 := Lib.hid (HD.out.below hb HD.out.lt)
  have HB2 := Lib.hid (HB.out.trans (hb.mono (Nat.le_of_lt HD.out.lt)))
  clear hb HD HB
  go_wp2_with fail
  refine (featuresG_ok h sm pr mn mp ms pg ps fo m w2 hA.out (H.out _ HB2.out)).mono ?_
  rintro e w3 ⟨rfl, hb⟩
  have HD3 := Lib.hid (HD2.out.below hb HD2.out.lt)
  have HB3 := Lib.hid (HB2.out.trans (hb.mono (Nat.le_of_lt HD2.out.lt)))
  clear hb HD2 HB2 HK H
  go_wp2_with fail
  refine (straight_ok m _ _ _ _ _ _ _ _ _ w3).mono ?_
  rintro e w4 ⟨rfl, hb⟩
  have HD4 := Lib.hid (HD3.out.below hb HD3.out.lt)
  have HB4 := Lib.hid (HB3.out.trans (hb.mono (Nat.le_of_lt HD3.out.lt)))
  have hdl := Lib.hid (Nat.le_of_lt HD4.out.lt)
  have d0 : w4.cell? ⟨db, 0, none⟩ = some (.string dir) := HD4.out.cell 0
  clear hb HD3 HB3
  go_upto_region 7 with (fail)
  have hzz := Lib.hid (Nat.le_of_lt (Nat.lt_of_lt_of_le HD4.out.lt (Nat.le_refl _)))
  have HOX := Lib.hid (show Blk (w4.alloc (.cells #[.iface 29 (pt m), .int .i64 h, .int .i64 sm, .int .i64 pr, .int .i64 mn, .int .i64 mp, .int .i64 ms, .int .i64 pg, .int .i64 ps, .string fo, fn0 55, fn0 55] 79)) w4.heap.size 79 #[.iface 29 (pt m), .int .i64 h, .int .i64 sm, .int .i64 pr, .int .i64 mn, .int .i64 mp, .int .i64 ms, .int .i64 pg, .int .i64 ps, .string fo, fn0 55, fn0 55] from Blk.new _ _ _)
  have HBX := Lib.hid (HB4.out.alloc hdl.out (.cells #[.iface 29 (pt m), .int .i64 h, .int .i64 sm, .int .i64 pr, .int .i64 mn, .int .i64 mp, .int .i64 ms, .int .i64 pg, .int .i64 ps, .string fo, fn0 55, fn0 55] 79))
  have HSX := Lib.hid (show w4.heap.size ≤ (w4.alloc (.cells #[.iface 29 (pt m), .int .i64 h, .int .i64 sm, .int .i64 pr, .int .i64 mn, .int .i64 mp, .int .i64 ms, .int .i64 pg, .int .i64 ps, .string fo, fn0 55, fn0 55] 79)).heap.size by simp)
  have d5 := (HD4.out.old (.cells #[.iface 29 (pt m), .int .i64 h, .int .i64 sm, .int .i64 pr, .int .i64 mn, .int .i64 mp, .int .i64 ms, .int .i64 pg, .int .i64 ps, .string fo, fn0 55, fn0 55] 79)).cell 0
  have d5 : (w4.alloc (.cells #[.iface 29 (pt m), .int .i64 h, .int .i64 sm, .int .i64 pr, .int .i64 mn, .int .i64 mp, .int .i64 ms, .int .i64 pg, .int .i64 ps, .string fo, fn0 55, fn0 55] 79)).cell? ⟨db, 0, none⟩ = some (.string dir) := d5
  have HDX := Lib.hid (HD4.out.old (.cells #[.iface 29 (pt m), .int .i64 h, .int .i64 sm, .int .i64 pr, .int .i64 mn, .int .i64 mp, .int .i64 ms, .int .i64 pg, .int .i64 ps, .string fo, fn0 55, fn0 55] 79))
  have hne := Lib.hid (show db < w4.heap.size from HD4.out.lt)
  clear d0 HD4 HB4
  generalize (w4.alloc (.cells #[.iface 29 (pt m), .int .i64 h, .int .i64 sm, .int .i64 pr, .int .i64 mn, .int .i64 mp, .int .i64 ms, .int .i64 pg, .int .i64 ps, .string fo, fn0 55, fn0 55] 79)) = w5 at *
  generalize w4.heap.size = ob at *
  have hob : db ≤ ob := hzz.out
  have o5 : w5.cell? ⟨ob, 5, none⟩ = some (.int .i64 mp) := HOX.out.cell 5
  have z5 := HOX.out.frozen 5
  have z10 := HOX.out.frozen 10
  have z11 := HOX.out.frozen 11
  have o10 : w5.cell? ⟨ob, 10, none⟩ = some (fn0 55) := HOX.out.cell 10
  have o11 : w5.cell? ⟨ob, 11, none⟩ = some (fn0 55) := HOX.out.cell 11
  go_upto_region 11 with (fail)
  have HOY := Lib.hid (show Blk _ ob 79 #[.iface 29 (pt m), .int .i64 h, .int .i64 sm, .int .i64 pr, .int .i64 mn, .int .i64 mq, .int .i64 ms, .int .i64 pg, .int .i64 ps, .string fo, .func (.func 28) #[] #[pt db], .func (.func 29) #[] #[pt db]] from ((HOX.out.set 5 (.int .i64 mq)).set 10 (.func (.func 28) #[] #[pt db])).set 11 (.func (.func 29) #[] #[pt db]))
  have K := (((Kp.refl [ob] w5).setCell ⟨ob, 5, none⟩ (.int .i64 mq) (Or.inl (by simp))).setCell ⟨ob, 10, none⟩ (.func (.func 28) #[] #[pt db]) (Or.inl (by simp))).setCell ⟨ob, 11, none⟩ (.func (.func 29) #[] #[pt db]) (Or.inl (by simp))
  have d6 : (((w5.setCell ⟨ob, 5, none⟩ (.int .i64 mq)).setCell ⟨ob, 10, none⟩ (.func (.func 28) #[] #[pt db])).setCell ⟨ob, 11, none⟩ (.func (.func 29) #[] #[pt db])).cell? ⟨db, 0, none⟩ = some (.string dir) := (K.blk HDX.out (by have := hne.out; simp; omega)).cell 0
  have HBY := Lib.hid (((HBX.out.setCell (p := ⟨ob, 5, none⟩) hob (.int .i64 mq)).setCell (p := ⟨ob, 10, none⟩) hob (.func (.func 28) #[] #[pt db])).setCell (p := ⟨ob, 11, none⟩) hob (.func (.func 29) #[] #[pt db]))
  have HSY := Lib.hid (show ob ≤ (((w5.setCell ⟨ob, 5, none⟩ (.int .i64 mq)).setCell ⟨ob, 10, none⟩ (.func (.func 28) #[] #[pt db])).setCell ⟨ob, 11, none⟩ (.func (.func 29) #[] #[pt db])).heap.size from Nat.le_trans HSX.out K.size)
  clear K o5 o10 o11 z5 z10 z11 HBX HOX HSX d5 HDX
  generalize (((w5.setCell ⟨ob, 5, none⟩ (.int .i64 mq)).setCell ⟨ob, 10, none⟩ (.func (.func 28) #[] #[pt db])).setCell ⟨ob, 11, none⟩ (.func (.func 29) #[] #[pt db])) = w6 at *
  have HBX := HBY
  have HOX := HOY
  have HSX := HSY
  clear HBY HOY HSY hmq hl1
  have o0 : w6.cell? ⟨ob, 0, none⟩ = some (.iface 29 (pt m)) := HOX.out.cell 0
  have o1 : w6.cell? ⟨ob, 1, none⟩ = some (.int .i64 h) := HOX.out.cell 1
  have o2 : w6.cell? ⟨ob, 2, none⟩ = some (.int .i64 sm) := HOX.out.cell 2
  have o3 : w6.cell? ⟨ob, 3, none⟩ = some (.int .i64 pr) := HOX.out.cell 3
  have o4 : w6.cell? ⟨ob, 4, none⟩ = some (.int .i64 mn) := HOX.out.cell 4
  have o5 : w6.cell? ⟨ob, 5, none⟩ = some (.int .i64 mq) := HOX.out.cell 5
  have o6 : w6.cell? ⟨ob, 6, none⟩ = some (.int .i64 ms) := HOX.out.cell 6
  have o7 : w6.cell? ⟨ob, 7, none⟩ = some (.int .i64 pg) := HOX.out.cell 7
  have o8 : w6.cell? ⟨ob, 8, none⟩ = some (.int .i64 ps) := HOX.out.cell 8
  have o9 : w6.cell? ⟨ob, 9, none⟩ = some (.string fo) := HOX.out.cell 9
  have o10 : w6.cell? ⟨ob, 10, none⟩ = some (.func (.func 28) #[] #[pt db]) := HOX.out.cell 10
  have o11 : w6.cell? ⟨ob, 11, none⟩ = some (.func (.func 29) #[] #[pt db]) := HOX.out.cell 11
  go_wp2_with fail
  go_ret2
  exact ⟨_, rfl, by rw [HDB.out]; exact HBX.out.alloc (Nat.le_trans hdl.out HSX.out) _⟩
end Go.Proofs.YtoomhlbebifklaaGreatDoor
