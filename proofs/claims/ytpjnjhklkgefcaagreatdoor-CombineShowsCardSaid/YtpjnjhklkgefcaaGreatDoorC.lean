import Derived.Test.YtpjnjhklkgefcaaGreatDoorA
import Derived.Test.YtpjnjhklkgefcaaGreatDoorM
import Derived.Maps.OwnOps
import Derived.Deep.CutRange
set_option linter.unusedVariables false
set_option linter.unusedSimpArgs false
namespace Go.Proofs.YtpjnjhklkgefcaaGreatDoor
open Go.RowKit
abbrev wideF : Array Value := #[.int .i64 3071, .int .i64 16, .int .i64 1, .int .i64 255, .int .i64 1024, .int .i64 100000, .int .i64 3, .int .i64 1, .string ⟨#[]⟩]
set_option maxRecDepth 100000 in
set_option maxHeartbeats 1000000 in
theorem wide_ok (w : World) : Calls Tryz.prog 21 #[] w fun e w' => e = .returned (.agg wideF) ∧ Below w.heap.size w w' := by
  go_enter Tryz.func21, Tryz.ntmps21
  go_wp2
  go_returns
  exact ⟨rfl, by go_grown⟩
set_option maxRecDepth 100000 in
set_option maxHeartbeats 1000000 in
theorem newClock_ok (w : World) : Calls Tryz.prog 9 #[.int .i64 5] w fun e w' => e = .returned (.pointer (some ⟨w.heap.size, 0, none⟩)) ∧ Below w.heap.size w w' := by
  go_enter Tryz.func9, Tryz.ntmps9
  go_wp2
  go_ret
  exact ⟨rfl, by go_grown⟩
set_option maxRecDepth 100000 in
set_option maxHeartbeats 1000000 in
theorem forbidForm_nil (w : World) : Calls Tryz.prog 79 #[.string ⟨#[]⟩] w fun e w' => e = .returned (.bool true) ∧ w = w' := by
  go_enter Tryz.func79, Tryz.ntmps79
  go_wp2
  go_rounds 1
  go_ret
  exact ⟨rfl, rfl⟩
set_option maxRecDepth 100000 in
set_option maxHeartbeats 1000000 in
theorem checkFeatures_ok (w : World) : Calls Tryz.prog 32 #[.agg wideF] w fun e w' => e = .returned (.int .i64 0) ∧ Below w.heap.size w w' := by
  go_enter Tryz.func32, Tryz.ntmps32
  go_wp2_with (first | (go_at_call 79; refine (forbidForm_nil _).mono ?_; rintro e w' ⟨rfl, rfl⟩) | go_in)
  go_rounds 6
  go_ret
  exact ⟨rfl, by go_grown⟩
end Go.Proofs.YtpjnjhklkgefcaaGreatDoor

set_option linter.unusedVariables false
set_option linter.unusedSimpArgs false
namespace Go.Proofs.YtpjnjhklkgefcaaGreatDoor
open Go.RowKit Go.Maps
/-- a store in memory, before its plan. -/
structure MemB (B : Nat) (f : Ft) (c : Nat) (q : Mm) (w : World) : Prop where
  hm : Blk w q.m 95 (mCells f q (.slice none 0 0) 0 0)
  hr : Blk w q.r 90 (nodeC ⟨#[]⟩ true (.pointer none) (.map (some q.km)) ⟨#[]⟩ 0 (.slice none 0 0) ⟨#[]⟩)
  hk : w.heap[q.km]? = some (.map #[] 0)
  hca : Blk w q.ca 3 (Array.replicate 14 (.int .i64 0))
  hc : q.c = c
  lom : B ≤ q.m
  lor : B ≤ q.r
  lok : B ≤ q.km
  loc : B ≤ q.ca
set_option maxRecDepth 100000 in
set_option maxHeartbeats 1000000 in
theorem cloneFault_nil (w : World) : Calls Tryz.prog 83 #[.slice none 0 0] w fun e w' => e = .returned (.slice none 0 0) ∧ w' = w := by
  go_enter Tryz.func83, Tryz.ntmps83
  have hn := fun w => Lib.run_eql_slice_nil (P := Tryz.prog) w 85 _ none 0 0 0 0 Tryz.underlying85
  go_wp2_with fail
  go_ret
  exact ⟨rfl, rfl⟩
set_option maxRecDepth 100000 in
set_option maxHeartbeats 1000000 in
theorem plan_ok {B : Nat} {f : Ft} {c : Nat} {q : Mm} (w : World) (hq : MemB B f c q w) (hB : B ≤ w.heap.size) (g1 : 5 < B) (g2 : 11 < B) :
    Calls Tryz.prog 33 #[pt q.m, .slice none 0 0] w fun e w' => e = .returned (.int .i64 0) ∧ MemE B f ⟨q.m, q.c, q.r, q.km, q.ca, w.heap.size, q.vm, q.nm⟩ w' ∧ Kp [q.m] w w' := by
  have m15 := hq.hm.cell 15
  have f15 := hq.hm.frozen 15
  have m14 := hq.hm.cell 14
  have f14 := hq.hm.frozen 14
  simp at m14 m15
  have hmr := hq.hr.ne hq.hm (by decide)
  have hmc := hq.hca.ne hq.hm (by decide)
  have hmk := map_ne hq.hm hq.hk
  have hcl := hq.hca.lt
  have hml := hq.hm.lt
  have HQ := Lib.hid hq
  clear hq
  have hn := fun w => Lib.run_eql_slice_nil (P := Tryz.prog) w 85 _ none 0 0 0 0 Tryz.underlying85
  have hmk1 : ∀ x : World, (Instr.makeSlice 22 (.int .i64 14) (.int .i64 14)).run Tryz.prog x = .ok (.slice (some ⟨x.heap.size, 0, none⟩) 14 14) (x.alloc (.cells (Array.replicate 14 (.int .i64 0)) 3)) := fun _ => by kernel_rfl
  go_enter Tryz.func33, Tryz.ntmps33
  go_wp2_with fail
  go_rounds 1
  go_ret
  have iz : IntRow 14 (Array.replicate 14 (.int .i64 0)) := fun i hi => ⟨0, by simp [hi]⟩
  have K1 : Kp [q.m] w (w.setCell ⟨q.m, 15, none⟩ (.slice none 0 0)) := (Kp.refl _ w).setCell _ _ (Or.inl (by simp))
  have K2 : ∀ w1 : World, Kp [q.m] w1 (w1.setCell ⟨q.m, 14, none⟩ (sl w.heap.size 14 14)) := fun w1 => (Kp.refl _ w1).setCell _ _ (Or.inl (by simp))
  have K : Kp [q.m] w (((w.setCell ⟨q.m, 15, none⟩ (.slice none 0 0)).setCell ⟨q.m, 14, none⟩ (sl w.heap.size 14 14)).alloc (.cells (Array.replicate 14 (.int .i64 0)) 3)) := (K1.trans (K2 _)).alloc _
  have hM := ((HQ.out.hm.set 15 (.slice none 0 0)).set 14 (sl w.heap.size 14 14)).old (.cells (Array.replicate 14 (.int .i64 0)) 3)
  have hs : ((w.setCell ⟨q.m, 15, none⟩ (.slice none 0 0)).setCell ⟨q.m, 14, none⟩ (sl w.heap.size 14 14)).heap.size = w.heap.size := by simp [World.setCell]
  exact ⟨rfl, ⟨hM, K.blk HQ.out.hr (by simp [hmr]), blockOf_kp HQ.out.hk K (by simp [hmk.symm]), ⟨_, K.blk HQ.out.hca (by simp [hmc]), iz⟩, ⟨Array.replicate 14 (.int .i64 0), Blk.newAt hs.symm, iz⟩, by simp; omega, HQ.out.lom, HQ.out.lor, HQ.out.lok, HQ.out.loc, hB, g1, g2⟩, K⟩
end Go.Proofs.YtpjnjhklkgefcaaGreatDoor

set_option linter.unusedVariables false
set_option linter.unusedSimpArgs false
namespace Go.Proofs.YtpjnjhklkgefcaaGreatDoor
open Go.RowKit Go.Maps
theorem mk_q {P : Mm → Prop} (m c r km ca vm nm : Nat) (h : P ⟨m, c, r, km, ca, 0, vm, nm⟩) : ∃ q, P q := ⟨_, h⟩
set_option maxRecDepth 100000 in
set_option maxHeartbeats 20000000 in
theorem new_ok (f : Ft) (c : Nat) (w : World) (g1 : 5 < w.heap.size) (g2 : 11 < w.heap.size) (HC : ∀ w, Calls Tryz.prog 32 #[.agg f.cells] w fun e w' => e = .returned (.int .i64 0) ∧ Below w.heap.size w w') :
    Calls Tryz.prog 7 #[.agg f.cells, .pointer (some ⟨c, 0, none⟩), .slice none 0 0] w fun e w' => ∃ q, e = .returned (.tuple #[pt q.m, .int .i64 0]) ∧ q.c = c ∧ MemE w.heap.size f q w' ∧ Below w.heap.size w w' := by
  have HC := Lib.hid HC
  go_enter Tryz.func7, Tryz.ntmps7
  go_wp2_with (go_at_call 32; refine (HC.out _).mono ?_; rintro e w1 ⟨rfl, hb⟩)
  have hc0 : ∀ i, w1.cell? ⟨w.heap.size, i, none⟩ = f.cells[i]? := (Blk.below (Blk.new w 33 f.cells) hb (by simp)).cell
  have hb0 : Below w.heap.size w w1 := ((Below.refl w.heap.size w).alloc (Nat.le_refl _) _).trans (hb.mono (by simp))
  have hz : w.heap.size < w1.heap.size := by have := hb.size; simp at this; omega
  clear hb
  go_upto_region 6 with (fail)
  have hmk : ∀ x : World, (Instr.makeSlice 22 (.int .i64 14) (.int .i64 14)).run Tryz.prog x = .ok (.slice (some ⟨x.heap.size, 0, none⟩) 14 14) (x.alloc (.cells (Array.replicate 14 (.int .i64 0)) 3)) := fun _ => by kernel_rfl
  have hmm := @run_makeMap Tryz.prog
  go_cut [9] from 18 to 27 (fun s wx => ∃ q, s = pt q.m ∧ MemB w.heap.size f c q wx ∧ Below w.heap.size w wx)
  case first =>
    have HB := Lib.hid hb0
    clear hb0
    go_region_held3 (fun w' => ∀ p : Addr, p.block < w1.heap.size → w'.cell? p = w1.cell? p) (first | (intro p hp; simp only [drw_cell]; (repeat' (first | (with_reducible rfl) | assumption | (with_reducible refine (cell_old2 ?_).trans ?_) | (simp only [World.heap_alloc_size]; omega))); done))  (fail)
    all_goals
      go_wp2_with fail
      go_meet
      apply mk_q
      refine ⟨rfl, ⟨?_, ?_, ?_, ?_, rfl, ?_, ?_, ?_, ?_⟩, ?_⟩
      · (repeat' (first | (with_reducible refine Blk.drw ?_) | (refine Blk.newAt ?_; (first | (with_reducible rfl) | (simp only [World.heap_alloc_size, World.size_drew', Array.length_toList]; done))) | refine Blk.old ?_ _))
      · (repeat' (first | (with_reducible refine Blk.drw ?_) | (refine Blk.newAt ?_; (first | (with_reducible rfl) | (simp only [World.heap_alloc_size, World.size_drew', Array.length_toList]; done))) | refine Blk.old ?_ _))
      · (repeat' (first | (with_reducible refine objDrw ?_) | (refine objAt ?_; (first | (with_reducible rfl) | (simp only [World.heap_alloc_size, World.size_drew', Array.length_toList]; done))) | refine objOld ?_ _))
      · (repeat' (first | (with_reducible refine Blk.drw ?_) | (refine Blk.newAt ?_; (first | (with_reducible rfl) | (simp only [World.heap_alloc_size, World.size_drew', Array.length_toList]; done))) | refine Blk.old ?_ _))
      · ((try dsimp only); (try simp only [Array.length_toList]); omega)
      · ((try dsimp only); (try simp only [Array.length_toList]); omega)
      · ((try dsimp only); (try simp only [Array.length_toList]); omega)
      · ((try dsimp only); (try simp only [Array.length_toList]); omega)
      · (repeat (first | exact HB.out | with_reducible refine Below.drew ?_ | (with_reducible refine Below.alloc ?_ ?_ _; rotate_left; (first | omega | (simp only [World.heap_alloc_size, World.size_drew']; omega)))))
  case rest =>
    obtain ⟨q, rfl, hm, hb⟩ := hcut
    have HM := Lib.hid hm
    have HB := Lib.hid hb
    clear hm hb hc0 hb0 hz
    go_wp2_with fail
    refine (plan_ok wc HM.out HB.out.size g1 g2).mono ?_
    rintro e w2 ⟨rfl, hE, hK⟩
    have HE := Lib.hid hE
    have HK := Lib.hid hK
    clear hE hK
    go_wp2_with fail
    go_ret2
    exact ⟨⟨q.m, q.c, q.r, q.km, q.ca, wc.heap.size, q.vm, q.nm⟩, rfl, HM.out.hc, HE.out, HB.out.trans (HK.out.below HB.out.size (by simp [HM.out.lom]))⟩
end Go.Proofs.YtpjnjhklkgefcaaGreatDoor
