import Derived.Test.YtobiacdeoeogaaaGreatDoorH
set_option linter.unusedVariables false
set_option linter.unusedSimpArgs false
namespace Go.Proofs.YtobiacdeoeogaaaGreatDoor
open Go.RowKit
set_option maxRecDepth 100000 in
set_option maxHeartbeats 1000000 in
theorem call_e {B : Nat} {q : Mm} (k : Nat) (hk : k < 14) (w : World) (hq : MemE B wideT q w) : Calls Tryz.prog 174 #[pt q.m, .int .i64 k] w fun e w' => e = .returned (.pointer none) ∧ MemE B wideT q w' ∧ Kp [q.ca, q.si] w w' := by
  obtain ⟨X, hX, iX⟩ := hq.hca
  obtain ⟨Y, hY, iY⟩ := hq.hsi
  obtain ⟨x, hx⟩ := iX k hk
  obtain ⟨y, hy⟩ := iY k hk
  have hi0 : (0 : Int) ≤ (k : Int) := by omega
  have hi1 : (k : Int) < 14 := by omega
  have m13 := hq.hm.cell 13
  have m14 := hq.hm.cell 14
  have m15 := hq.hm.cell 15
  simp at m13 m14 m15
  have cx := (hX.cell k).trans hx
  have cy := (hY.cell k).trans hy
  have fx := hX.frozen k
  have fy := hY.frozen k
  have nm1 : q.m ≠ q.ca := hq.hm.ne hX (by decide)
  have nm2 : q.m ≠ q.si := hq.hm.ne hY (by decide)
  have nr1 : q.r ≠ q.ca := hq.hr.ne hX (by decide)
  have nr2 : q.r ≠ q.si := hq.hr.ne hY (by decide)
  have nk1 : q.ca ≠ q.km := map_ne hX hq.hk
  have nk2 : q.si ≠ q.km := map_ne hY hq.hk
  have ne := hq.ne
  have HQ := Lib.hid hq
  have HX := Lib.hid hX
  have HY := Lib.hid hY
  have IX := Lib.hid iX
  have IY := Lib.hid iY
  clear hq hX hY iX iY hx hy
  go_enter Tryz.func174, Tryz.ntmps174
  go_wp2_with fail
  go_rounds 1
  go_ret
  have K1 : Kp [q.ca, q.si] w (w.setCell ⟨q.ca, k, none⟩ (.int .i64 (wrap64 (x + 1)))) := (Kp.refl _ w).setCell _ _ (Or.inl (by simp))
  have K2 : ∀ w1 : World, Kp [q.si] w1 (w1.setCell ⟨q.si, k, none⟩ (.int .i64 (wrap64 (y + 1)))) := fun w1 => (Kp.refl _ w1).setCell _ _ (Or.inl (by simp))
  have K1' : Kp [q.ca] w (w.setCell ⟨q.ca, k, none⟩ (.int .i64 (wrap64 (x + 1)))) := (Kp.refl _ w).setCell _ _ (Or.inl (by simp))
  have K := K1.trans ((K2 _).mono (by simp))
  refine ⟨rfl, ⟨K.blk HQ.out.hm (by simp [nm1, nm2]), K.blk HQ.out.hr (by simp [nr1, nr2]), blockOf_kp HQ.out.hk K (by simp [nk1.symm, nk2.symm]), ⟨_, (K2 _).blk (HX.out.set k _) (by simp [ne]), IX.out.set k _⟩, ⟨_, (K1'.blk HY.out (by simp [ne.symm])).set k _, IY.out.set k _⟩, ne, HQ.out.lom, HQ.out.lor, HQ.out.lok, HQ.out.loc, HQ.out.los, HQ.out.gl1, HQ.out.gl2⟩, K⟩
set_option maxRecDepth 100000 in
set_option maxHeartbeats 1000000 in
theorem truncate_one (t : Int) (w : World) : Calls Tryz.prog 196 #[.int .i64 7, .int .i64 1] w fun e w' => e = .returned (.int .i64 7) ∧ w' = w := by
  go_enter Tryz.func196, Tryz.ntmps196
  go_wp2
  go_ret
  exact ⟨rfl, rfl⟩
set_option maxRecDepth 100000 in
set_option maxHeartbeats 1000000 in
theorem timeOf_e {B : Nat} {q : Mm} (w : World) (hq : MemE B wideT q w) : Calls Tryz.prog 183 #[pt q.m, .int .i64 7] w fun e w' => e = .returned (.int .i64 7) ∧ w' = w := by
  have m2 := hq.hm.cell 2
  simp at m2
  have HQ := Lib.hid hq
  clear hq
  go_enter Tryz.func183, Tryz.ntmps183
  go_wp2_with fail
  refine (has_ok q.m 4 _ w HQ.out.hm rfl).mono ?_
  rintro e w2 ⟨rfl, rfl⟩
  have e1 : (bits .and .i64 3071 4 != 0) = true := by decide
  rw [e1]
  clear e1
  go_wp2_with fail
  refine (truncate_one 7 _).mono ?_
  rintro e w2 ⟨rfl, rfl⟩
  go_wp2_with fail
  go_ret
  exact ⟨rfl, rfl⟩
set_option maxRecDepth 100000 in
set_option maxHeartbeats 1000000 in
theorem last_ok (s : ByteArray) (w : World) (h : Nm s) : Calls Tryz.prog 193 #[.string s] w fun e w' => e = .returned (.string s) ∧ w' = w := by
  have hhi := h.hi
  have HL := Lib.hid (Tryz.strings_LastIndexByte s 47 (by omega))
  rw [h.last] at HL
  clear h
  go_enter Tryz.func193, Tryz.ntmps193
  go_wp2_with fail
  refine (HL.out _).mono ?_
  rintro e w2 ⟨rfl, rfl⟩
  go_wp2_with fail
  go_ret
  exact ⟨rfl, rfl⟩
end Go.Proofs.YtobiacdeoeogaaaGreatDoor
