import Derived.Test.YtoomhlbebifklaaGreatDoorXb
import Derived.Test.YtoomhlbebifklaaGreatDoorAc
set_option linter.unusedVariables false
set_option linter.unusedSimpArgs false
namespace Go.Proofs.YtoomhlbebifklaaGreatDoor
open Go.RowKit
set_option maxRecDepth 100000 in
set_option maxHeartbeats 4000000 in
theorem chunksR_ok (m : Nat) (n : Int) (w : World) (hn : n < 1 ∨ 1048576 < n) : Calls Tryz.prog 18 #[.iface 29 (pt m), .int .i64 n] w fun e w' => e = .returned (.tuple #[.nilIface, .int .i64 7]) ∧ Below w.heap.size w w' := by
  by_cases h1 : n < 1
  · have d1 : decide (n < 1) = true := decide_eq_true h1
    clear hn
    go_enter Tryz.func18, Tryz.ntmps18
    go_wp2_with fail
    go_ret2
    exact ⟨rfl, by go_grown⟩
  · have d1 : decide (n < 1) = false := decide_eq_false h1
    have h2 : n > 1048576 := by omega
    have d2 : decide (n > 1048576) = true := decide_eq_true h2
    clear hn
    go_enter Tryz.func18, Tryz.ntmps18
    go_wp2_with fail
    go_ret2
    exact ⟨rfl, by go_grown⟩
set_option maxRecDepth 100000 in
set_option maxHeartbeats 4000000 in
theorem chunksN_ok (m : Nat) (n : Int) (h sm pr mn mp ms pg ps : Int) (fo : ByteArray) (w : World) (hA : RowKit.Hid (bits .andNot .i64 h 1024 = h)) (hf : FeatG h sm pr mn mp ms pg ps fo m w) (hb1 : 1 ≤ n) (hb2 : n ≤ 1048576) (hn1 : 1 ≤ mn) (hn2 : mn ≤ 255) (hm1 : 0 ≤ ms) (hm2 : ms ≤ 1048576) (hc : mn < 28) : Calls Tryz.prog 18 #[.iface 29 (pt m), .int .i64 n] w fun e w' => e = .returned (.tuple #[.nilIface, .int .i64 12]) ∧ Below w.heap.size w w' := by
  have H := Lib.hid (fun wx (hb : Below w.heap.size w wx) => hf.below hb)
  clear hf
  have r1 : ¬ n < 1 := by omega
  have r2 : ¬ n > 1048576 := by omega
  have d1 : decide (n < 1) = false := decide_eq_false r1
  have d2 : decide (n > 1048576) = false := decide_eq_false r2
  have HC := Lib.hid (fun wx => Tryz.strings_Contains_one fo 46 wx)
  have e1 : mn - 27 < 1 := by omega
  have e1d : decide (mn - 27 < 1) = true := decide_eq_true e1
  clear HC
  go_enter Tryz.func18, Tryz.ntmps18
  go_wp2_with fail
  refine (featuresG_ok h sm pr mn mp ms pg ps fo m w hA.out (H.out _ (Below.refl _ _))).mono ?_
  rintro e w2 ⟨rfl, hb⟩
  have HB2 := Lib.hid hb
  have hsz := hb.size
  clear hb
  go_wp2_with fail
  go_ret2
  exact ⟨rfl, HB2.out.alloc hsz _⟩
set_option maxRecDepth 100000 in
set_option maxHeartbeats 4000000 in
theorem chunksM_ok (m : Nat) (n : Int) (h sm pr mn mp ms pg ps : Int) (fo : ByteArray) (w : World) (hA : RowKit.Hid (bits .andNot .i64 h 1024 = h)) (hf : FeatG h sm pr mn mp ms pg ps fo m w) (hb1 : 1 ≤ n) (hb2 : n ≤ 1048576) (hn1 : 1 ≤ mn) (hn2 : mn ≤ 255) (hm1 : 0 ≤ ms) (hm2 : ms ≤ 1048576) (hc : ¬ mn < 28) (hd : ms < 120) : Calls Tryz.prog 18 #[.iface 29 (pt m), .int .i64 n] w fun e w' => e = .returned (.tuple #[.nilIface, .int .i64 12]) ∧ Below w.heap.size w w' := by
  have H := Lib.hid (fun wx (hb : Below w.heap.size w wx) => hf.below hb)
  clear hf
  have r1 : ¬ n < 1 := by omega
  have r2 : ¬ n > 1048576 := by omega
  have d1 : decide (n < 1) = false := decide_eq_false r1
  have d2 : decide (n > 1048576) = false := decide_eq_false r2
  have HC := Lib.hid (fun wx => Tryz.strings_Contains_one fo 46 wx)
  have e1 : ¬ mn - 27 < 1 := by omega
  have e1d : decide (mn - 27 < 1) = false := decide_eq_false e1
  have e2 : ms < 120 := by omega
  have e2d : decide (ms < 120) = true := decide_eq_true e2
  clear HC
  go_enter Tryz.func18, Tryz.ntmps18
  go_wp2_with fail
  refine (featuresG_ok h sm pr mn mp ms pg ps fo m w hA.out (H.out _ (Below.refl _ _))).mono ?_
  rintro e w2 ⟨rfl, hb⟩
  have HB2 := Lib.hid hb
  have hsz := hb.size
  clear hb
  go_wp2_with fail
  go_ret2
  exact ⟨rfl, HB2.out.alloc hsz _⟩
set_option maxRecDepth 100000 in
set_option maxHeartbeats 4000000 in
theorem chunksS_ok (m : Nat) (n : Int) (h sm pr mn mp ms pg ps : Int) (fo : ByteArray) (w : World) (hA : RowKit.Hid (bits .andNot .i64 h 1024 = h)) (hf : FeatG h sm pr mn mp ms pg ps fo m w) (hb1 : 1 ≤ n) (hb2 : n ≤ 1048576) (hn1 : 1 ≤ mn) (hn2 : mn ≤ 255) (hm1 : 0 ≤ ms) (hm2 : ms ≤ 1048576) (hc : ¬ mn < 28) (hd : ¬ ms < 120) (hs : ms < n) : Calls Tryz.prog 18 #[.iface 29 (pt m), .int .i64 n] w fun e w' => e = .returned (.tuple #[.nilIface, .int .i64 12]) ∧ Below w.heap.size w w' := by
  have H := Lib.hid (fun wx (hb : Below w.heap.size w wx) => hf.below hb)
  clear hf
  have r1 : ¬ n < 1 := by omega
  have r2 : ¬ n > 1048576 := by omega
  have d1 : decide (n < 1) = false := decide_eq_false r1
  have d2 : decide (n > 1048576) = false := decide_eq_false r2
  have HC := Lib.hid (fun wx => Tryz.strings_Contains_one fo 46 wx)
  have e1 : ¬ mn - 27 < 1 := by omega
  have e1d : decide (mn - 27 < 1) = false := decide_eq_false e1
  have e2 : ¬ ms < 120 := by omega
  have e2d : decide (ms < 120) = false := decide_eq_false e2
  have e3 : ms < n := by omega
  have e3d : decide (ms < n) = true := decide_eq_true e3
  clear HC
  go_enter Tryz.func18, Tryz.ntmps18
  go_wp2_with fail
  refine (featuresG_ok h sm pr mn mp ms pg ps fo m w hA.out (H.out _ (Below.refl _ _))).mono ?_
  rintro e w2 ⟨rfl, hb⟩
  have HB2 := Lib.hid hb
  have hsz := hb.size
  clear hb
  go_wp2_with fail
  go_ret2
  exact ⟨rfl, HB2.out.alloc hsz _⟩
set_option maxRecDepth 100000 in
set_option maxHeartbeats 4000000 in
theorem chunksD_ok (m : Nat) (n : Int) (h sm pr mn mp ms pg ps : Int) (fo : ByteArray) (w : World) (hA : RowKit.Hid (bits .andNot .i64 h 1024 = h)) (hf : FeatG h sm pr mn mp ms pg ps fo m w) (hb1 : 1 ≤ n) (hb2 : n ≤ 1048576) (hn1 : 1 ≤ mn) (hn2 : mn ≤ 255) (hm1 : 0 ≤ ms) (hm2 : ms ≤ 1048576) (hc : ¬ mn < 28) (hd : ¬ ms < 120) (hs : ¬ ms < n) (hdot : decide (0 ≤ Lib.indexByte fo.data.toList 46) = true) : Calls Tryz.prog 18 #[.iface 29 (pt m), .int .i64 n] w fun e w' => e = .returned (.tuple #[.nilIface, .int .i64 12]) ∧ Below w.heap.size w w' := by
  have H := Lib.hid (fun wx (hb : Below w.heap.size w wx) => hf.below hb)
  clear hf
  have r1 : ¬ n < 1 := by omega
  have r2 : ¬ n > 1048576 := by omega
  have d1 : decide (n < 1) = false := decide_eq_false r1
  have d2 : decide (n > 1048576) = false := decide_eq_false r2
  have HC := Lib.hid (fun wx => Tryz.strings_Contains_one fo 46 wx)
  have e1 : ¬ mn - 27 < 1 := by omega
  have e1d : decide (mn - 27 < 1) = false := decide_eq_false e1
  have e2 : ¬ ms < 120 := by omega
  have e2d : decide (ms < 120) = false := decide_eq_false e2
  have e3 : ¬ ms < n := by omega
  have e3d : decide (ms < n) = false := decide_eq_false e3
  rw [hdot] at HC
  clear hdot
  go_enter Tryz.func18, Tryz.ntmps18
  go_wp2_with fail
  refine (featuresG_ok h sm pr mn mp ms pg ps fo m w hA.out (H.out _ (Below.refl _ _))).mono ?_
  rintro e w2 ⟨rfl, hb⟩
  have HB2 := Lib.hid hb
  have hsz := hb.size
  clear hb
  go_wp2_with fail
  refine (HC.out _).mono ?_
  rintro e w5 ⟨rfl, rfl⟩
  go_wp2_with fail
  go_ret2
  exact ⟨rfl, HB2.out.alloc hsz _⟩
set_option maxRecDepth 100000 in
set_option maxHeartbeats 4000000 in
theorem chunksO_ok (m : Nat) (n : Int) (h sm pr mn mp ms pg ps : Int) (fo : ByteArray) (w : World) (hA : RowKit.Hid (bits .andNot .i64 h 1024 = h)) (hf : FeatG h sm pr mn mp ms pg ps fo m w) (hb1 : 1 ≤ n) (hb2 : n ≤ 1048576) (hn1 : 1 ≤ mn) (hn2 : mn ≤ 255) (hm1 : 0 ≤ ms) (hm2 : ms ≤ 1048576) (hc : ¬ mn < 28) (hd : ¬ ms < 120) (hs : ¬ ms < n) (hdot : decide (0 ≤ Lib.indexByte fo.data.toList 46) = false) : Calls Tryz.prog 18 #[.iface 29 (pt m), .int .i64 n] w fun e w' => ∃ cb, e = .returned (.tuple #[.iface 109 (pt cb), .int .i64 0]) ∧ Below w.heap.size w w' := by
  have H := Lib.hid (fun wx (hb : Below w.heap.size w wx) => hf.below hb)
  clear hf
  have r1 : ¬ n < 1 := by omega
  have r2 : ¬ n > 1048576 := by omega
  have d1 : decide (n < 1) = false := decide_eq_false r1
  have d2 : decide (n > 1048576) = false := decide_eq_false r2
  have HC := Lib.hid (fun wx => Tryz.strings_Contains_one fo 46 wx)
  have e1 : ¬ mn - 27 < 1 := by omega
  have e1d : decide (mn - 27 < 1) = false := decide_eq_false e1
  have e2 : ¬ ms < 120 := by omega
  have e2d : decide (ms < 120) = false := decide_eq_false e2
  have e3 : ¬ ms < n := by omega
  have e3d : decide (ms < n) = false := decide_eq_false e3
  rw [hdot] at HC
  clear hdot
  obtain ⟨h2, ha⟩ : ∃ h2, bits .andNot .i64 h 2272 = h2 := ⟨_, rfl⟩
  obtain ⟨mx, hmx⟩ : ∃ mx : Int, min 1048576 (1000000 * n) = mx := ⟨_, rfl⟩
  go_enter Tryz.func18, Tryz.ntmps18
  go_wp2_with fail
  refine (featuresG_ok h sm pr mn mp ms pg ps fo m w hA.out (H.out _ (Below.refl _ _))).mono ?_
  rintro e w2 ⟨rfl, hb⟩
  have HB2 := Lib.hid hb
  have hsz := hb.size
  clear hb
  go_wp2_with fail
  refine (HC.out _).mono ?_
  rintro e w5 ⟨rfl, rfl⟩
  go_upto_region 12 with (fail)
  have HB6 := Lib.hid (HB2.out.alloc hsz (.cells #[.int .i64 h2, .int .i64 16, .int .i64 pr, .int .i64 (mn - 27), .int .i64 mp, .int .i64 mx, .int .i64 pg, .int .i64 1, .string fo] 26))
  have HF6 := Lib.hid (Blk.new w2 26 #[.int .i64 h2, .int .i64 16, .int .i64 pr, .int .i64 (mn - 27), .int .i64 mp, .int .i64 mx, .int .i64 pg, .int .i64 1, .string fo])
  have hfl := Lib.hid (show w.heap.size ≤ w2.heap.size from hsz)
  clear hmx ha HB2
  generalize (w2.alloc (.cells #[.int .i64 h2, .int .i64 16, .int .i64 pr, .int .i64 (mn - 27), .int .i64 mp, .int .i64 mx, .int .i64 pg, .int .i64 1, .string fo] 26)) = w6 at *
  generalize w2.heap.size = fb at *
  go_wp2_with fail
  refine (suffixed_ok ⟨#[46, 119, 105]⟩ w6).mono ?_
  rintro e w7 ⟨rfl, hE, hb7⟩
  have HB7 := Lib.hid (HB6.out.trans (hb7.mono HB6.out.size))
  have hF7 := HF6.out.below hb7 HF6.out.lt
  have c0 : w7.cell? ⟨fb, 0, none⟩ = some (.int .i64 h2) := hF7.cell 0
  have c1 : w7.cell? ⟨fb, 1, none⟩ = some (.int .i64 16) := hF7.cell 1
  have c2 : w7.cell? ⟨fb, 2, none⟩ = some (.int .i64 pr) := hF7.cell 2
  have c3 : w7.cell? ⟨fb, 3, none⟩ = some (.int .i64 (mn - 27)) := hF7.cell 3
  have c4 : w7.cell? ⟨fb, 4, none⟩ = some (.int .i64 mp) := hF7.cell 4
  have c5 : w7.cell? ⟨fb, 5, none⟩ = some (.int .i64 mx) := hF7.cell 5
  have c6 : w7.cell? ⟨fb, 6, none⟩ = some (.int .i64 pg) := hF7.cell 6
  have c7 : w7.cell? ⟨fb, 7, none⟩ = some (.int .i64 1) := hF7.cell 7
  have c8 : w7.cell? ⟨fb, 8, none⟩ = some (.string fo) := hF7.cell 8
  clear hE hb7 hF7 HF6 HB6
  go_wp2_with fail
  refine (renameG_ok m _ _ _ _ _ _ _ _ _ _ _ _ _ _ _ _ _ _ _ _ _ _ _ (H.out _ HB7.out)).mono ?_
  rintro e w8 ⟨rb, tb, rfl, hR, hT, htl, hb8⟩
  have HB8 := Lib.hid (HB7.out.trans (hb8.mono HB7.out.size))
  clear hR hT hb8 HB7 c0 c1 c2 c3 c4 c5 c6 c7 c8
  go_wp2_with fail
  go_ret2
  exact ⟨_, rfl, HB8.out.alloc HB8.out.size _⟩
end Go.Proofs.YtoomhlbebifklaaGreatDoor
