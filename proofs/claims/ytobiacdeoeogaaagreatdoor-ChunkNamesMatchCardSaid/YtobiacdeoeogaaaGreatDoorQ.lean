import Derived.Test.YtobiacdeoeogaaaGreatDoorE
import Derived.Maps.OwnOps
set_option linter.unusedVariables false
set_option linter.unusedSimpArgs false
namespace Go.Proofs.YtobiacdeoeogaaaGreatDoor
open Go.RowKit Go.Maps
/-- a store in memory, before its plan. -/
structure MemB (B : Nat) (f : Ft) (c : Nat) (q : Mm) (w : World) : Prop where
  hm : Blk w q.m 115 (mCells f q (.slice none 0 0) 0 0)
  hr : Blk w q.r 110 (nodeC ⟨#[]⟩ true (.pointer none) (.map (some q.km)) ⟨#[]⟩ 0 (.slice none 0 0) ⟨#[]⟩)
  hk : w.heap[q.km]? = some (.map #[] 0)
  hca : Blk w q.ca 3 (Array.replicate 14 (.int .i64 0))
  hc : q.c = c
  lom : B ≤ q.m
  lor : B ≤ q.r
  lok : B ≤ q.km
  loc : B ≤ q.ca
set_option maxRecDepth 100000 in
set_option maxHeartbeats 1000000 in
theorem cloneFault_nil (w : World) : Calls Tryz.prog 82 #[.slice none 0 0] w fun e w' => e = .returned (.slice none 0 0) ∧ w' = w := by
  go_enter Tryz.func82, Tryz.ntmps82
  have hn := fun w => Lib.run_eql_slice_nil (P := Tryz.prog) w 105 _ none 0 0 0 0 Tryz.underlying105
  go_wp2_with fail
  go_ret
  exact ⟨rfl, rfl⟩
set_option maxRecDepth 100000 in
set_option maxHeartbeats 1000000 in
theorem plan_ok {B : Nat} {f : Ft} {c : Nat} {q : Mm} (w : World) (hq : MemB B f c q w) (hB : B ≤ w.heap.size) (g1 : 2 < B) (g2 : 10 < B) :
    Calls Tryz.prog 53 #[pt q.m, .slice none 0 0] w fun e w' => e = .returned (.int .i64 0) ∧ MemE B f ⟨q.m, q.c, q.r, q.km, q.ca, w.heap.size, q.vm, q.nm⟩ w' ∧ Kp [q.m] w w' := by
  have m15 := hq.hm.cell 15
  have f15 := hq.hm.frozen 15
  have m14 := hq.hm.cell 14
  have f14 := hq.hm.frozen 14
  simp at m14 m15
  have hmr := hq.hr.ne hq.hm (by decide)
  have hmc := hq.hca.ne hq.hm (by decide)
  have hmk := map_ne hq.hm hq.hk
  have hcl := hq.hca.lt
  have hml := hq.hm.lt
  have HQ := Lib.hid hq
  clear hq
  have hn := fun w => Lib.run_eql_slice_nil (P := Tryz.prog) w 105 _ none 0 0 0 0 Tryz.underlying105
  have hmk1 : ∀ x : World, (Instr.makeSlice 80 (.int .i64 14) (.int .i64 14)).run Tryz.prog x = .ok (.slice (some ⟨x.heap.size, 0, none⟩) 14 14) (x.alloc (.cells (Array.replicate 14 (.int .i64 0)) 3)) := fun _ => by kernel_rfl
  go_enter Tryz.func53, Tryz.ntmps53
  go_wp2_with fail
  go_rounds 1
  go_ret
  have iz : IntRow 14 (Array.replicate 14 (.int .i64 0)) := fun i hi => ⟨0, by simp [hi]⟩
  have K1 : Kp [q.m] w (w.setCell ⟨q.m, 15, none⟩ (.slice none 0 0)) := (Kp.refl _ w).setCell _ _ (Or.inl (by simp))
  have K2 : ∀ w1 : World, Kp [q.m] w1 (w1.setCell ⟨q.m, 14, none⟩ (sl w.heap.size 14 14)) := fun w1 => (Kp.refl _ w1).setCell _ _ (Or.inl (by simp))
  have K : Kp [q.m] w (((w.setCell ⟨q.m, 15, none⟩ (.slice none 0 0)).setCell ⟨q.m, 14, none⟩ (sl w.heap.size 14 14)).alloc (.cells (Array.replicate 14 (.int .i64 0)) 3)) := (K1.trans (K2 _)).alloc _
  have hM := ((HQ.out.hm.set 15 (.slice none 0 0)).set 14 (sl w.heap.size 14 14)).old (.cells (Array.replicate 14 (.int .i64 0)) 3)
  have hs : ((w.setCell ⟨q.m, 15, none⟩ (.slice none 0 0)).setCell ⟨q.m, 14, none⟩ (sl w.heap.size 14 14)).heap.size = w.heap.size := by simp [World.setCell]
  exact ⟨rfl, ⟨hM, K.blk HQ.out.hr (by simp [hmr]), blockOf_kp HQ.out.hk K (by simp [hmk.symm]), ⟨_, K.blk HQ.out.hca (by simp [hmc]), iz⟩, ⟨Array.replicate 14 (.int .i64 0), Blk.newAt hs.symm, iz⟩, by simp; omega, HQ.out.lom, HQ.out.lor, HQ.out.lok, HQ.out.loc, hB, g1, g2⟩, K⟩
end Go.Proofs.YtobiacdeoeogaaaGreatDoor
