/-
  wrap.Keep: a keeper of the kinds 2 and 1 over a store.
-/
import Derived.Test.YtfcnmdmbkoekcaaGreatDoorYk
import Derived.Test.YtfcnmdmbkoekcaaGreatDoorYm
import Derived.Maps.OwnOps
set_option linter.unusedVariables false
set_option linter.unusedSimpArgs false
namespace Go.Proofs.YtfcnmdmbkoekcaaGreatDoor
open Go.RowKit Go.Proofs.Kl
set_option maxRecDepth 100000 in
set_option maxHeartbeats 4000000 in
theorem valuesInts_ok (a : Option Addr) (n c : Nat) (w : World) : Calls Tryz.prog 27 #[.slice a n c] w fun e w' => e = .returned (.func (.func 56) #[] #[pt w.heap.size]) ∧ w' = w.alloc (.cells #[.slice a n c] 36) := by
  go_enter Tryz.func27, Tryz.ntmps27
  go_wp2_with fail
  go_ret
  exact ⟨rfl, rfl⟩
/-- the features of the keeper on the way. -/
abbrev fK (s : Int) : Array Value := #[.int .i64 3071, .int .i64 s, .int .i64 1, .int .i64 255, .int .i64 1024, .int .i64 100000, .int .i64 3, .int .i64 1, .string ⟨#[]⟩]
def sK : Nat → Int
  | 0 => 0
  | 1 => 4
  | _ => 6
set_option maxRecDepth 100000 in
set_option maxHeartbeats 8000000 in
theorem keep_ok (m g0 cp : Nat) (w : World) (h : FeatM m w) (hn : KN w) (hcp : 2 ≤ cp) (h0 : w.cell? ⟨g0, 0, none⟩ = some (.int .i64 2)) (h1 : w.cell? ⟨g0, 1, none⟩ = some (.int .i64 1)) :
    Calls Tryz.prog 8 #[.iface 23 (pt m), sl g0 2 cp] w fun e w' => ∃ kb gb cap mb ub, e = .returned (.tuple #[pt kb, .int .i64 0]) ∧ KpM m kb gb cap mb ub w' ∧ w'.ownsMap Tryz.prog 9 RH mb 0 (.map []) ∧ w.heap.size ≤ kb ∧ gb < kb ∧ Below w.heap.size w w' := by
  have HF := Lib.hid (features_ok m w h)
  have HM := Lib.hid h
  have HN := Lib.hid hn
  have H0 := Lib.hid h0
  have H1 := Lib.hid h1
  have hg0 := World.block_lt_of_cell? _ _ h0
  clear h hn h0 h1
  go_enter Tryz.func8, Tryz.ntmps8
  go_wp2_with fail
  refine HF.out.mono ?_
  rintro e w1 ⟨rfl, hb1⟩
  have HB1 := Lib.hid hb1
  clear hb1 HF
  go_upto_region 7 with (fail)
  have HB2 := Lib.hid (HB1.out.alloc HB1.out.size (.cells (fK 0) 28))
  have HF2 := Lib.hid (Blk.new w1 28 (fK 0))
  have HFL0 := Lib.hid HB1.out.size
  generalize hfb : w1.heap.size = fb at *
  have HFL := Lib.hid (show w.heap.size ≤ fb from HFL0.out)
  clear HFL0 hfb
  generalize (w1.alloc (.cells (fK 0) 28)) = w2 at *
  clear HB1
  go_wp2_with fail
  go_loopw [21] (fun x wr => ∃ k : Nat, x = .int .i64 (k : Int) ∧ k ≤ 2 ∧ Blk wr fb 28 (fK (sK k)) ∧ Below w.heap.size w wr) (fun x _ => 2 - (intOf x).toNat)
  case atStart => exact ⟨0, rfl, by omega, HF2.out, HB2.out⟩
  case round =>
    obtain ⟨k, rfl, hk, hfb, hbw⟩ := hrel
    have HFB := Lib.hid hfb
    have HBW := Lib.hid hbw
    clear hfb hbw HF2 HB2
    rcases (show k = 0 ∨ k = 1 ∨ k = 2 by omega) with rfl | rfl | rfl
    · have e0 := (HBW.out.cell (p := ⟨g0, 0, none⟩) hg0).trans H0.out
      have e1 := (HBW.out.cell (p := ⟨g0, 1, none⟩) hg0).trans H1.out
      have f1 := HFB.out.cell 1
      have z1 := HFB.out.frozen 1
      simp [sK] at f1
      have ho : bits .or .i64 0 4 = 4 := by decide
      go_wp2_with fail
      refine (name2_ok wr (HN.out.below HBW.out)).mono ?_
      rintro e w2 ⟨s, rfl, rfl⟩
      go_wp2_with fail
      refine (contains0_ok _ _ _ _).mono ?_
      rintro e w2 ⟨rfl, rfl⟩
      go_wp2_with fail
      go_still_tail 6, (by kernel_rfl)
      change wpList _ _ _ _ _ w2.drew
      go_wp2_with fail
      go_roundw
      case rel => exact ⟨1, by go_num, by omega, HFB.out.drw.set 1 (.int .i64 4), (below_drw HBW.out).setCell (p := ⟨fb, 1, none⟩) HFL.out _⟩
      case measure => simp [intOf]
    · have e0 := (HBW.out.cell (p := ⟨g0, 0, none⟩) hg0).trans H0.out
      have e1 := (HBW.out.cell (p := ⟨g0, 1, none⟩) hg0).trans H1.out
      have f1 := HFB.out.cell 1
      have z1 := HFB.out.frozen 1
      simp [sK] at f1
      have ho : bits .or .i64 4 2 = 6 := by decide
      go_wp2_with fail
      refine (name1_ok wr (HN.out.below HBW.out)).mono ?_
      rintro e w2 ⟨s, rfl, rfl⟩
      go_wp2_with fail
      refine (contains1_ok g0 cp _ e0).mono ?_
      rintro e w2 ⟨rfl, rfl⟩
      go_wp2_with fail
      go_still_tail 6, (by kernel_rfl)
      change wpList _ _ _ _ _ w2.drew
      go_wp2_with fail
      go_roundw
      case rel => exact ⟨2, by go_num, by omega, HFB.out.drw.set 1 (.int .i64 6), (below_drw HBW.out).setCell (p := ⟨fb, 1, none⟩) HFL.out _⟩
      case measure => simp [intOf]
    · have c0 := HFB.out.cell 0
      have c1 := HFB.out.cell 1
      have c2 := HFB.out.cell 2
      have c3 := HFB.out.cell 3
      have c4 := HFB.out.cell 4
      have c5 := HFB.out.cell 5
      have c6 := HFB.out.cell 6
      have c7 := HFB.out.cell 7
      have c8 := HFB.out.cell 8
      simp [sK] at c0 c1 c2 c3 c4 c5 c6 c7 c8
      have e0 := (HBW.out.cell (p := ⟨g0, 0, none⟩) hg0).trans H0.out
      have e1 := (HBW.out.cell (p := ⟨g0, 1, none⟩) hg0).trans H1.out
      have E0 := Lib.hid e0
      have E1 := Lib.hid e1
      have hgr : g0 < wr.heap.size := World.block_lt_of_cell? _ _ e0
      have hmm := @run_makeMap Tryz.prog
      clear e0 e1
      go_wp2_with fail
      refine (straight_ok m 3071 6 1 255 1024 100000 3 1 ⟨#[]⟩ wr).mono ?_
      rintro e w3 ⟨rfl, hb3⟩
      have HB3 := Lib.hid (HBW.out.trans (hb3.mono HBW.out.size))
      have E0' := Lib.hid ((hb3.cell (p := ⟨g0, 0, none⟩) hgr).trans E0.out)
      have E1' := Lib.hid ((hb3.cell (p := ⟨g0, 1, none⟩) hgr).trans E1.out)
      clear hb3 c0 c1 c2 c3 c4 c5 c6 c7 c8
      go_wp2_with fail
      refine (valuesInts_ok _ _ _ w3).mono ?_
      rintro e w4 ⟨rfl, hw4⟩
      have hg3 : g0 < w3.heap.size := World.block_lt_of_cell? _ _ E0'.out
      have CS := Lib.hid (show Calls Tryz.prog 26 #[.func (.func 56) #[] #[.pointer (some ⟨w3.heap.size, 0, none⟩)]] w4 _ from
        sorted_two w3.heap.size g0 cp w4 (by rw [hw4]; simp) (by rw [hw4]; simp; omega) (by rw [hw4]; exact (Blk.new w3 36 #[sl g0 2 cp]).cell 0)
          (by rw [hw4]; exact (cell_old2 (p := ⟨g0, 0, none⟩) hg3).trans E0'.out) (by rw [hw4]; exact (cell_old2 (p := ⟨g0, 1, none⟩) hg3).trans E1'.out))
      have HB4 := Lib.hid (show Below w.heap.size w w4 from by rw [hw4]; exact HB3.out.alloc HB3.out.size _)
      clear hw4
      go_wp2_with fail
      refine CS.out.mono ?_
      rintro e w5 ⟨gb, c, rfl, k1, k2, hb5⟩
      have HB5 := Lib.hid (HB4.out.trans (hb5.mono HB4.out.size))
      have K1 := Lib.hid k1
      have K2 := Lib.hid k2
      have hgb := World.block_lt_of_cell? _ _ k1
      clear k1 k2 hb5 CS
      go_wp2_with fail
      go_ret2
      have h5 := HB5.out.size
      have b6 := HB5.out.alloc h5 (.map #[] 0)
      have b7 := b6.alloc b6.size (.map #[] 0)
      have s6 : (w5.alloc (.map #[] 0)).heap.size = w5.heap.size + 1 := by simp
      have s7 : ((w5.alloc (.map #[] 0)).alloc (.map #[] 0)).heap.size = w5.heap.size + 2 := by simp
      have b8 := b7.alloc b7.size (.cells (kpC m gb c w5.heap.size (w5.heap.size + 1)) 93)
      refine ⟨w5.heap.size + 2, gb, c, w5.heap.size, w5.heap.size + 1, rfl, ⟨Blk.newAt s7.symm, ?_, ?_, ?_⟩, ?_, by omega, by omega, b8⟩
      · exact (cell_old2 (p := ⟨gb, 0, none⟩) (by simp; omega)).trans ((cell_old2 (p := ⟨gb, 0, none⟩) (by simp; omega)).trans ((cell_old2 (p := ⟨gb, 0, none⟩) hgb).trans K1.out))
      · exact (cell_old2 (p := ⟨gb, 1, none⟩) (by simp; omega)).trans ((cell_old2 (p := ⟨gb, 1, none⟩) (by simp; omega)).trans ((cell_old2 (p := ⟨gb, 1, none⟩) hgb).trans K2.out))
      · exact HM.out.below b8
      · exact ((World.ownsMap_made w5 Tryz.prog 9 RH).alloc _).alloc _
end Go.Proofs.YtfcnmdmbkoekcaaGreatDoor
