import Derived.Test.YtpjnjhklkgefcaaGreatDoorI
set_option linter.unusedVariables false
set_option linter.unusedSimpArgs false
namespace Go.Proofs.YtpjnjhklkgefcaaGreatDoor
open Go.RowKit
set_option maxRecDepth 100000 in
set_option maxHeartbeats 1000000 in
theorem grow_e {B : Nat} {q : Mm} {made : Int} (s : ByteArray) (w : World) (g : Gl w) (h : Nm s) (hq : MemM B wideT q made w) : Calls Tryz.prog 147 #[pt q.m, .string s] w fun e w' => e = .returned (pt q.r) ∧ Below w.heap.size w w' := by
  have HW := Lib.hid (way_one q.m q.r _ s w g h hq.hm rfl)
  have HP := Lib.hid (fun w1 (hb : Below w.heap.size w w1) => storeParts_ok s w1 (g.below hb) h)
  clear g hq h
  go_enter Tryz.func147, Tryz.ntmps147
  go_wp2_with fail
  refine HW.out.mono ?_
  rintro e w1 ⟨rfl, hb1⟩
  go_wp2_with fail
  refine (HP.out _ hb1).mono ?_
  rintro e w3 ⟨b, rfl, _, _, hb3⟩
  have hbb := hb1.trans (hb3.mono hb1.size)
  clear hb1 hb3
  go_wp2_with fail
  go_rounds 1
  go_ret
  exact ⟨rfl, hbb⟩
/-- the world behind an entry that is laid into an empty map. -/
def mapped (km : Nat) (s : ByteArray) (v : Value) (w : World) : World := { w with heap := w.heap.setIfInBounds km (.map #[{ key := .string s, val := v, born := 0 }] 1) }
theorem mapped_kp (km : Nat) (s : ByteArray) (v : Value) (w : World) : Kp [km] w (mapped km s v w) :=
  ⟨rfl, rfl, rfl, by simp [mapped], fun i hi hn => by
    have : km ≠ i := fun e => hn (by simp [e])
    simp [mapped, Array.getElem?_setIfInBounds, this]⟩
theorem run_up {km : Nat} {w : World} (s : ByteArray) (v : Value) (h : w.heap[km]? = some (.map #[] 0)) :
    (Instr.mapUpdate 88 (.map (some km)) (.string s) v).run Tryz.prog w = .ok () (mapped km s v w) := by
  have hc : ∀ b, (Instr.checkKey b 10000 9 (.string s)).run Tryz.prog w = .ok () w := fun b => MapKept.run_checkKey (k := .string s) Tryz.underlying9 (by simp [MapKept.IsKey]) b 9999
  have hf : Instr.findNow .string (.string s) ([] : List MapEntry) 0 = some none := rfl
  simp [Instr.mapUpdate, run_underlying Tryz.underlying88, MapKept.run_getObj_map h, hc, MapKept.run_findKey Tryz.underlying9 hf, MapKept.run_setObj_map _ h, Result.andThen, mapped]
set_option maxRecDepth 100000 in
set_option maxHeartbeats 1000000 in
theorem add_e {B : Nat} {q : Mm} {made : Int} (n : Nat) (s id : ByteArray) (w : World) (hq : MemM B wideT q made w) (hn : Blk w n 90 (nodeC s false (.pointer none) (.map none) ⟨#[]⟩ 0 (.slice none 0 0) id)) (hnr : n ≠ q.r) :
    Calls Tryz.prog 146 #[pt q.m, pt q.r, pt n] w fun e w' => e = .returned (pt n) ∧ Blk w' n 90 (nodeC s false (pt q.r) (.map none) ⟨#[]⟩ 0 (.slice none 0 0) id) ∧ Blk w' q.m 95 (mCells wideT q (sl q.si 14 14) 1 made) ∧ Kp [n, q.km, q.m] w w' := by
  have nf := hn.frozen 2
  have n1 := hn.cell 1
  have n0 := hn.cell 0
  have n2 := hn.cell 2
  have r3 := hq.hr.cell 3
  have m3 := hq.hm.cell 11
  have mf := hq.hm.frozen 11
  simp at n0 n1 n2 r3 m3
  have nm : n ≠ q.m := hn.ne hq.hm (by decide)
  have nk : n ≠ q.km := map_ne hn hq.hk
  have rk : q.r ≠ q.km := map_ne hq.hr hq.hk
  have mk : q.m ≠ q.km := map_ne hq.hm hq.hk
  have rm : q.r ≠ q.m := hq.hr.ne hq.hm (by decide)
  have HQ := Lib.hid hq
  have HN := Lib.hid hn
  clear hq hn
  go_enter Tryz.func146, Tryz.ntmps146
  go_upto_region 4 with (fail)
  have K1 : Kp [n] w (w.setCell ⟨n, 2, none⟩ (pt q.r)) := (Kp.refl _ w).setCell _ _ (Or.inl (by simp))
  have N1 := Lib.hid (HN.out.set 2 (pt q.r))
  have M1 := Lib.hid (K1.blk HQ.out.hm (by simp [nm.symm]))
  have R1 := Lib.hid (K1.blk HQ.out.hr (by simp [hnr.symm]))
  have E1 := Lib.hid (blockOf_kp HQ.out.hk K1 (by simp [nk.symm]))
  have HK1 := Lib.hid K1
  clear K1 nf n0 n1 n2 r3 m3 mf
  generalize w.setCell ⟨n, 2, none⟩ (pt q.r) = w1 at *
  have n0 : w1.cell? ⟨n, 0, none⟩ = some (.string s) := N1.out.cell 0
  have r3 : w1.cell? ⟨q.r, 3, none⟩ = some (.map (some q.km)) := R1.out.cell 3
  refine wp_region_still_tail 11 (by kernel_rfl) (by kernel_rfl) ?_
  simp only [List.take_succ_cons, List.take_zero, List.drop_succ_cons, List.drop_zero]
  iterate 9 ((with_reducible refine wpStill_step (fun K hK => ?_)); go_simp; (with_reducible refine hK _ ?_); clear hK K)
  (with_reducible refine wpStill_step (fun K hK => ?_)); go_simp; refine ⟨_, by refine (key_ok q.m _ s _ M1.out.drw rfl).mono ?_; rintro e w' ⟨rfl, rfl⟩; exact ⟨rfl, rfl⟩, hK _ ?_⟩; clear hK K
  iterate 1 ((with_reducible refine wpStill_step (fun K hK => ?_)); go_simp; (with_reducible refine hK _ ?_); clear hK K)
  (with_reducible refine wpStill_nil ?_)
  change wpList _ _ _ _ _ w1.drew
  have hup := run_up (w := w1.drew) s (pt n) E1.out
  have U := mapped_kp q.km s (pt n) w1.drew
  have N2 := Lib.hid (U.blk N1.out.drw (by simp [nk]))
  have M2 := Lib.hid (U.blk M1.out.drw (by simp [mk]))
  have HU := Lib.hid U
  clear U
  generalize hw2 : mapped q.km s (pt n) w1.drew = w2 at *
  clear hw2 r3 n0
  have m3 : w2.cell? ⟨q.m, 11, none⟩ = some (.int .i64 0) := M2.out.cell 11
  have mf := M2.out.frozen 11
  go_wp2_with fail
  go_ret
  have K2 : Kp [n, q.km, q.m] w w2 := (HK1.out.mono (by simp)).trans (Kp.trans (Kp.of_below ((Below.refl w1.heap.size w1).drew)) (HU.out.mono (by simp)))
  have K3 : Kp [q.m] w2 (w2.setCell ⟨q.m, 11, none⟩ (.int .i64 1)) := (Kp.refl _ w2).setCell _ _ (Or.inl (by simp))
  refine ⟨rfl, K3.blk N2.out (by simp [nm]), ?_, K2.trans (K3.mono (by simp))⟩
  exact M2.out.set 11 (.int .i64 1)
end Go.Proofs.YtpjnjhklkgefcaaGreatDoor

set_option linter.unusedVariables false
set_option linter.unusedSimpArgs false
namespace Go.Proofs.YtpjnjhklkgefcaaGreatDoor
open Go.RowKit
set_option maxRecDepth 100000 in
set_option maxHeartbeats 1000000 in
theorem cloneMeta_nil (w : World) : Calls Tryz.prog 118 #[.slice none 0 0] w fun e w' => e = .returned (.slice none 0 0) ∧ w' = w := by
  go_enter Tryz.func118, Tryz.ntmps118
  have hn := fun w => Lib.run_eql_slice_nil (P := Tryz.prog) w 51 _ none 0 0 0 0 Tryz.underlying51
  go_wp2_with fail
  go_ret
  exact ⟨rfl, rfl⟩
/-- a file in an otherwise empty store. -/
structure MemF (B : Nat) (q : Mm) (n : Nat) (s data id : ByteArray) (w : World) : Prop where
  hm : Blk w q.m 95 (mCells wideT q (sl q.si 14 14) 1 1)
  hr : Blk w q.r 90 (nodeC ⟨#[]⟩ true (.pointer none) (.map (some q.km)) ⟨#[]⟩ 0 (.slice none 0 0) ⟨#[]⟩)
  hn : Blk w n 90 (nodeC s false (pt q.r) (.map none) data 7 (.slice none 0 0) id)
set_option maxRecDepth 100000 in
set_option maxHeartbeats 4000000 in
theorem setFile_e {B : Nat} {q : Mm} (s data : ByteArray) (w : World) (g : Gl w) (h : Nm s) (hq : MemE B wideT q w) :
    Calls Tryz.prog 108 #[pt q.m, .string s, .string data, .int .i64 7, .slice none 0 0] w fun e w' => ∃ n id, e = .returned (pt n) ∧ MemF B q n s data id w' ∧ w.heap.size ≤ n ∧ Kp [q.km, q.m] w w' := by
  have HF := Lib.hid (find_e s w g h hq)
  have HQ := Lib.hid hq
  have GG := Lib.hid g
  have HS := Lib.hid h
  clear hq g h
  go_enter Tryz.func108, Tryz.ntmps108
  go_wp2_with fail
  refine HF.out.mono ?_
  rintro e w0 ⟨rfl, hb0⟩
  have HQ0 := Lib.hid (HQ.out.below hb0)
  have m12 : w0.cell? ⟨q.m, 12, none⟩ = some (.int .i64 0) := HQ0.out.hm.cell 12
  have mf := HQ0.out.hm.frozen 12
  have HB0 := Lib.hid hb0
  clear hb0
  go_upto_region 4 with (fail)
  have K1 : Kp [q.m] w0 (w0.setCell ⟨q.m, 12, none⟩ (.int .i64 1)) := (Kp.refl _ w0).setCell _ _ (Or.inl (by simp))
  have hq1 : MemM B wideT q 1 (w0.setCell ⟨q.m, 12, none⟩ (.int .i64 1)) := by
    have hq0 := HQ0.out
    obtain ⟨X, hX, iX⟩ := hq0.hca
    obtain ⟨Y, hY, iY⟩ := hq0.hsi
    exact ⟨hq0.hm.set 12 (.int .i64 1), K1.blk hq0.hr (by simp [hq0.hr.ne hq0.hm (by decide)]), blockOf_kp hq0.hk K1 (by simp [(map_ne hq0.hm hq0.hk).symm]), ⟨X, K1.blk hX (by simp [hX.ne hq0.hm (by decide)]), iX⟩, ⟨Y, K1.blk hY (by simp [hY.ne hq0.hm (by decide)]), iY⟩, hq0.ne, hq0.lom, hq0.lor, hq0.lok, hq0.loc, hq0.los, hq0.gl1, hq0.gl2⟩
  have g1 : Gl (w0.setCell ⟨q.m, 12, none⟩ (.int .i64 1)) := by
    have := hq1.lom
    have := hq1.gl1
    have := hq1.gl2
    exact (GG.out.below HB0.out).kp ((Kp.refl [q.m] w0).setCell _ _ (Or.inl (by simp))) (by simp only [List.mem_singleton]; omega) (by simp only [List.mem_singleton]; omega)
  have HK1 := Lib.hid K1
  clear K1 m12 mf
  generalize w0.setCell ⟨q.m, 12, none⟩ (.int .i64 1) = w1 at *
  have HQ1 := Lib.hid (fun wx (hb : Below w1.heap.size w1 wx) => hq1.below hb)
  have HG1 := Lib.hid (fun wx (hb : Below w1.heap.size w1 wx) => grow_e s wx (g1.below hb) HS.out (hq1.below hb))
  have hlt := hq1.hm.lt
  have hrl := hq1.hr.lt
  have HI := Lib.hid (fun w => Tryz.strconv_Itoa_small 1 (by omega) w)
  have m12 : w1.cell? ⟨q.m, 12, none⟩ = some (.int .i64 1) := hq1.hm.cell 12
  clear g1 hq1
  go_region_held3 (fun wx => wx.cell? ⟨q.m, 12, none⟩ = some (.int .i64 1))
    (first
      | assumption
      | exact (hb3.cell (p := ⟨q.m, 12, none⟩) (by simpa using hlt)).trans (by assumption)
      | exact hM.cell 12
      | exact (cell_old2 (World.block_lt_of_cell? _ _ (by assumption))).trans (by assumption))
    (first
      | (go_at_call 147; refine (HG1.out _ ((Below.refl _ _).drew)).mono ?_; rintro e w3 ⟨rfl, hb3⟩)
      | (go_at_call 148; refine (last_ok s _ HS.out).mono ?_; rintro e w4 ⟨rfl, rfl⟩)
      | (go_at_call 149; refine (HI.out _).mono ?_; rintro e w4 ⟨rfl, rfl⟩)
      | (go_at_call 146; have hbl := Below.trans (Below.drew (Below.refl w1.heap.size w1)) hb3; refine (add_e _ s _ _ (HQ1.out _ (hbl.alloc hbl.size _)) (Blk.newAt rfl) ?_).mono ?_; (have := hbl.size; omega); rintro e w5 ⟨rfl, hN, hM, hK⟩))
  all_goals
    have hbl := Below.trans (Below.drew (Below.refl w1.heap.size w1)) hb3
    have hs1 : w.heap.size ≤ w1.heap.size := Nat.le_trans HB0.out.size HK1.out.size
    have hs4 : w1.heap.size ≤ w4.heap.size := hbl.size
    have KA : Kp [q.km, q.m] w w4 := ((Kp.of_below HB0.out).trans (HK1.out.mono (by simp))).trans (Kp.of_below hbl)
    have KB : Kp [q.km, q.m] w w5 := (KA.alloc _).trans_new hK (by omega)
    have hR := Lib.hid (hK.blk ((HQ1.out _ (hbl.alloc hs4 _)).hr) (by
      have r1 := (HQ1.out _ (hbl.alloc hs4 (.cells #[] 0))).hr
      simp only [List.mem_cons, List.not_mem_nil, or_false, not_or]
      exact ⟨by omega, map_ne r1 (HQ1.out _ (hbl.alloc hs4 _)).hk, r1.ne (HQ1.out _ (hbl.alloc hs4 _)).hm (by decide)⟩))
    have hne : w4.heap.size ≠ q.r := by omega
    have hnm : w4.heap.size ≠ q.m := by omega
    have HKB := Lib.hid KB
    have hlo : w.heap.size ≤ w4.heap.size := by omega
    have HM := Lib.hid hM
    have HN := Lib.hid hN
    clear hbl hs1 hs4 KA KB hK hb3 hM hN HQ1 HG1 hlt hrl m12
    generalize w4.heap.size = n at *
    have nf4 := HN.out.frozen 4
    have nf5 := HN.out.frozen 5
    have nf6 := HN.out.frozen 6
    have n4 := HN.out.cell 4
    have n5 := HN.out.cell 5
    have n6 := HN.out.cell 6
    simp at n4 n5 n6
    go_upto_region 7 with (fail)
    have K6 : Kp [n] w5 (((w5.setCell ⟨n, 4, none⟩ (.string data)).setCell ⟨n, 5, none⟩ (.int .i64 7)).setCell ⟨n, 6, none⟩ (.slice none 0 0)) := (((Kp.refl _ w5).setCell _ _ (Or.inl (by simp))).setCell _ _ (Or.inl (by simp))).setCell _ _ (Or.inl (by simp))
    have N6 := Lib.hid (((HN.out.set 4 (.string data)).set 5 (.int .i64 7)).set 6 (.slice none 0 0))
    have M6 := Lib.hid (K6.blk HM.out (by simp [hnm.symm]))
    have R6 := Lib.hid (K6.blk hR.out (by simp [hne.symm]))
    have HK6 := Lib.hid K6
    clear K6 nf4 nf5 nf6 n4 n5 n6 HM HN hR
    generalize (((w5.setCell ⟨n, 4, none⟩ (.string data)).setCell ⟨n, 5, none⟩ (.int .i64 7)).setCell ⟨n, 6, none⟩ (.slice none 0 0)) = w6 at *
    go_wp2_with fail
    refine (has_ok q.m 256 _ w6 M6.out rfl).mono ?_
    rintro e w6 ⟨rfl, rfl⟩
    have e1 : (bits .and .i64 3071 256 != 0) = true := by decide
    rw [e1]
    clear e1
    go_wp2_with fail
    refine (cloneMeta_nil _).mono ?_
    rintro e w7 ⟨rfl, rfl⟩
    have n6 : w7.cell? ⟨n, 6, none⟩ = some (.slice none 0 0) := N6.out.cell 6
    have nf6 := N6.out.frozen 6
    go_wp2_with fail
    go_ret
    have K7 : Kp [n] w7 (w7.setCell ⟨n, 6, none⟩ (.slice none 0 0)) := (Kp.refl _ w7).setCell _ _ (Or.inl (by simp))
    refine ⟨n, ⟨(Lib.decDigits 1).toArray⟩, rfl, ⟨K7.blk M6.out (by simp [hnm.symm]), K7.blk R6.out (by simp [hne.symm]), ?_⟩, hlo, ?_⟩
    · exact N6.out.set 6 (.slice none 0 0)
    · exact (HKB.out.trans_new (HK6.out.mono (by simp)) hlo).trans_new (K7.mono (by simp)) hlo
end Go.Proofs.YtpjnjhklkgefcaaGreatDoor
