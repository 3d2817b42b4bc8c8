import Derived.Test.YtobiacdeoeogaaaGreatDoorQ
import Derived.Maps.OwnOps
import Derived.Deep.CutRange
set_option linter.unusedVariables false
set_option linter.unusedSimpArgs false
namespace Go.Proofs.YtobiacdeoeogaaaGreatDoor
open Go.RowKit Go.Maps
theorem mk_q {P : Mm → Prop} (m c r km ca vm nm : Nat) (h : P ⟨m, c, r, km, ca, 0, vm, nm⟩) : ∃ q, P q := ⟨_, h⟩
set_option maxRecDepth 100000 in
set_option maxHeartbeats 20000000 in
theorem new_ok (f : Ft) (c : Nat) (w : World) (g1 : 2 < w.heap.size) (g2 : 10 < w.heap.size) (HC : ∀ w, Calls Tryz.prog 52 #[.agg f.cells] w fun e w' => e = .returned (.int .i64 0) ∧ Below w.heap.size w w') :
    Calls Tryz.prog 26 #[.agg f.cells, .pointer (some ⟨c, 0, none⟩), .slice none 0 0] w fun e w' => ∃ q, e = .returned (.tuple #[pt q.m, .int .i64 0]) ∧ q.c = c ∧ MemE w.heap.size f q w' ∧ Below w.heap.size w w' := by
  have HC := Lib.hid HC
  go_enter Tryz.func26, Tryz.ntmps26
  go_wp2_with (go_at_call 52; refine (HC.out _).mono ?_; rintro e w1 ⟨rfl, hb⟩)
  have hc0 : ∀ i, w1.cell? ⟨w.heap.size, i, none⟩ = f.cells[i]? := (Blk.below (Blk.new w 63 f.cells) hb (by simp)).cell
  have hb0 : Below w.heap.size w w1 := ((Below.refl w.heap.size w).alloc (Nat.le_refl _) _).trans (hb.mono (by simp))
  have hz : w.heap.size < w1.heap.size := by have := hb.size; simp at this; omega
  clear hb
  go_upto_region 6 with (fail)
  have hmk : ∀ x : World, (Instr.makeSlice 80 (.int .i64 14) (.int .i64 14)).run Tryz.prog x = .ok (.slice (some ⟨x.heap.size, 0, none⟩) 14 14) (x.alloc (.cells (Array.replicate 14 (.int .i64 0)) 3)) := fun _ => by kernel_rfl
  have hmm := @run_makeMap Tryz.prog
  go_cut [9] from 18 to 27 (fun s wx => ∃ q, s = pt q.m ∧ MemB w.heap.size f c q wx ∧ Below w.heap.size w wx)
  case first =>
    have HB := Lib.hid hb0
    clear hb0
    go_region_held3 (fun w' => ∀ p : Addr, p.block < w1.heap.size → w'.cell? p = w1.cell? p) (first | (intro p hp; simp only [drw_cell]; (repeat' (first | (with_reducible rfl) | assumption | (with_reducible refine (cell_old2 ?_).trans ?_) | (simp only [World.heap_alloc_size]; omega))); done))  (fail)
    all_goals
      go_wp2_with fail
      go_meet
      apply mk_q
      refine ⟨rfl, ⟨?_, ?_, ?_, ?_, rfl, ?_, ?_, ?_, ?_⟩, ?_⟩
      · (repeat' (first | (with_reducible refine Blk.drw ?_) | (refine Blk.newAt ?_; (first | (with_reducible rfl) | (simp only [World.heap_alloc_size, World.size_drew', Array.length_toList]; done))) | refine Blk.old ?_ _))
      · (repeat' (first | (with_reducible refine Blk.drw ?_) | (refine Blk.newAt ?_; (first | (with_reducible rfl) | (simp only [World.heap_alloc_size, World.size_drew', Array.length_toList]; done))) | refine Blk.old ?_ _))
      · (repeat' (first | (with_reducible refine objDrw ?_) | (refine objAt ?_; (first | (with_reducible rfl) | (simp only [World.heap_alloc_size, World.size_drew', Array.length_toList]; done))) | refine objOld ?_ _))
      · (repeat' (first | (with_reducible refine Blk.drw ?_) | (refine Blk.newAt ?_; (first | (with_reducible rfl) | (simp only [World.heap_alloc_size, World.size_drew', Array.length_toList]; done))) | refine Blk.old ?_ _))
      · ((try dsimp only); (try simp only [Array.length_toList]); omega)
      · ((try dsimp only); (try simp only [Array.length_toList]); omega)
      · ((try dsimp only); (try simp only [Array.length_toList]); omega)
      · ((try dsimp only); (try simp only [Array.length_toList]); omega)
      · (repeat (first | exact HB.out | with_reducible refine Below.drew ?_ | (with_reducible refine Below.alloc ?_ ?_ _; rotate_left; (first | omega | (simp only [World.heap_alloc_size, World.size_drew']; omega)))))
  case rest =>
    obtain ⟨q, rfl, hm, hb⟩ := hcut
    have HM := Lib.hid hm
    have HB := Lib.hid hb
    clear hm hb hc0 hb0 hz
    go_wp2_with fail
    refine (plan_ok wc HM.out HB.out.size g1 g2).mono ?_
    rintro e w2 ⟨rfl, hE, hK⟩
    have HE := Lib.hid hE
    have HK := Lib.hid hK
    clear hE hK
    go_wp2_with fail
    go_ret2
    exact ⟨⟨q.m, q.c, q.r, q.km, q.ca, wc.heap.size, q.vm, q.nm⟩, rfl, HM.out.hc, HE.out, HB.out.trans (HK.out.below HB.out.size (by simp [HM.out.lom]))⟩
end Go.Proofs.YtobiacdeoeogaaaGreatDoor
