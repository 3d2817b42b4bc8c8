import Derived.Test.YtpjnjhklkgefcaaGreatDoorO
import Derived.Laws.Tables
import Derived.Deep.CutRange
set_option linter.unusedVariables false
set_option linter.unusedSimpArgs false
namespace Go.Proofs.YtpjnjhklkgefcaaGreatDoor
open Go.RowKit
theorem run_index_arr {P : Program} {t e : TypeId} {n : Nat} {cs : Array Value} {i : Int} {v : Value} (h : P.underlying t = some (.array n e)) (hs : ∀ w, (sizeOf e).run P w = .ok 1 w) (ha : ∀ w, (isAgg e).run P w = .ok false w) (h0 : 0 ≤ i) (h1 : i < n) (hv : cs[i.toNat]? = some v) (w : World) :
    (Instr.index t (.agg cs) (.int .i64 i)).run P w = .ok v w := by
  simp [Instr.index, run_underlying h, asIntOf, h0, h1, hs, ha, Result.andThen, go_sem, hv]
theorem size34 (w : World) : (sizeOf 198).run Tryz.prog w = .ok 1 w := by kernel_rfl
theorem agg34 (w : World) : (isAgg 198).run Tryz.prog w = .ok false w := by kernel_rfl
set_option maxRecDepth 100000 in
set_option maxHeartbeats 40000000 in
theorem piece_ok (eb p : Nat) (E : Array Value) (w : World) (ht : ∀ i, i < 64 → ∃ v : Int, w.cell? ⟨11, i, none⟩ = some (.int .u32 v)) (hE : Blk w eb 304 E) (uE : URow 8 E) (hp : BytesAt w p 64) (hne : p ≠ eb) (hge : 11 ≠ eb) :
    Calls Tryz.prog 375 #[pt eb, .pointer (some ⟨p, 0, none⟩)] w fun e w' => e = .returned (.tuple #[]) ∧ WO 8 w 304 eb w' := by
  have HT := Lib.hid ht
  have HE := Lib.hid hE
  have UE := Lib.hid uE
  have HP := Lib.hid hp
  clear ht hE uE hp
  go_enter Tryz.func375, Tryz.ntmps375
  go_wp2_with fail
  have hlt := HE.out.lt
  refine (wordsOf_ok p w.heap.size (Array.replicate 64 (.int .u32 0)) _ (HP.out.kp (Kp.alloc (Kp.refl [] w) _) (by simp)) (Blk.new _ _ _) (URow.zero 64) ?_).mono ?_
  · obtain ⟨v, hv⟩ := HP.out 0 (by omega)
    have := World.block_lt_of_cell? _ _ hv
    simp at this
    omega
  rintro e w1 ⟨rfl, hwo⟩
  have KE : Kp [] w (w.alloc (.cells (Array.replicate 64 (.int .u32 0)) 405)) := Kp.alloc (Kp.refl [] w) _
  have K1 : Kp [w.heap.size] w w1 := (KE.mono (by simp)).trans hwo.kp
  have T1 := Lib.hid (fun (wx : World) (k : Kp [w.heap.size] w wx) (i : Nat) (hi : i < 64) => (show ∃ v : Int, wx.cell? ⟨11, i, none⟩ = some (.int .u32 v) from by
    obtain ⟨v, hv⟩ := HT.out i hi
    have hl := World.block_lt_of_cell? _ _ hv
    exact ⟨v, (World.cell?_of_block (w := w) (a := ⟨11, i, none⟩) (k.block _ hl (by simp only [List.mem_singleton]; simp only at hl; omega))).trans hv⟩))
  have H1 := Lib.hid (show WO 64 w1 405 w.heap.size w1 from ⟨hwo.row, Kp.refl _ _⟩)
  have HK1 := Lib.hid K1
  clear hwo KE K1
  go_wp2_with fail
  go_loopw [6] (fun i wr => ∃ k : Nat, 16 ≤ k ∧ k ≤ 64 ∧ i = .int .i64 k ∧ WO 64 w1 405 w.heap.size wr) (fun i _ => 64 - (intOf i).toNat)
  case atStart => exact ⟨16, by omega, by omega, rfl, H1.out⟩
  case round =>
    clear H1
    obtain ⟨k, hk16, hk, rfl, hwo⟩ := hrel
    have HW := Lib.hid hwo
    clear hwo
    by_cases hlt : k < 64
    · have hd : decide ((k : Int) < 64) = true := decide_eq_true (by omega)
      obtain ⟨X, hX, iX⟩ := HW.out.row
      obtain ⟨x0, c0⟩ := iX.2 (k - 16) (by omega)
      obtain ⟨x1, c1⟩ := iX.2 (k - 15) (by omega)
      obtain ⟨x2, c2⟩ := iX.2 (k - 7) (by omega)
      obtain ⟨x3, c3⟩ := iX.2 (k - 2) (by omega)
      obtain ⟨y, cy⟩ := iX.2 k (by omega)
      have d0 := (hX.cell (k - 16)).trans c0
      have d1 := (hX.cell (k - 15)).trans c1
      have d2 := (hX.cell (k - 7)).trans c2
      have d3 := (hX.cell (k - 2)).trans c3
      have dy := (hX.cell k).trans cy
      have fb := hX.frozen k
      clear hX iX cy c0 c1 c2 c3
      obtain ⟨f7, F7⟩ := turn7
      obtain ⟨f18, F18⟩ := turn18
      obtain ⟨f17, F17⟩ := turn17
      obtain ⟨f19, F19⟩ := turn19
      have G7 := Lib.hid F7
      have G18 := Lib.hid F18
      have G17 := Lib.hid F17
      have G19 := Lib.hid F19
      clear F7 F18 F17 F19
      have i0 : (0 : Int) ≤ (k : Int) := by omega
      have i1 : (k : Int) < 64 := by omega
      have w0 : IntKind.i64.wrap ((k : Int) - 16) = (k : Int) - 16 := IntWalk.i64_in _ (by omega)
      have w15 : IntKind.i64.wrap ((k : Int) - 15) = (k : Int) - 15 := IntWalk.i64_in _ (by omega)
      have w2e : IntKind.i64.wrap ((k : Int) - 2) = (k : Int) - 2 := IntWalk.i64_in _ (by omega)
      have w7 : IntKind.i64.wrap ((k : Int) - 7) = (k : Int) - 7 := IntWalk.i64_in _ (by omega)
      have y0 : (16 : Int) ≤ (k : Int) := by omega
      have y15 : (15 : Int) ≤ (k : Int) := by omega
      have y2 : (2 : Int) ≤ (k : Int) := by omega
      have y7 : (7 : Int) ≤ (k : Int) := by omega
      have z0 : (0 : Int) ≤ (k : Int) - 16 := by omega
      have z15 : (0 : Int) ≤ (k : Int) - 15 := by omega
      have z2 : (0 : Int) ≤ (k : Int) - 2 := by omega
      have z7 : (0 : Int) ≤ (k : Int) - 7 := by omega
      have l0 : (k : Int) - 16 < 64 := by omega
      have l15 : (k : Int) - 15 < 64 := by omega
      have l2 : (k : Int) - 2 < 64 := by omega
      have l7 : (k : Int) - 7 < 64 := by omega
      have t0 : ((k : Int) - 16).toNat = k - 16 := by omega
      have t15 : ((k : Int) - 15).toNat = k - 15 := by omega
      have t2 : ((k : Int) - 2).toNat = k - 2 := by omega
      have t7 : ((k : Int) - 7).toNat = k - 7 := by omega
      go_wp2_with fail
      go_quiet (fail)
      go_wp2_with fail
      have HW2 := Lib.hid (show WO 64 w1 405 w.heap.size (wr.drewN nq) from ⟨HW.out.row, HW.out.kp.drewN nq⟩)
      have e0 : (wr.drewN nq).cell? ⟨w.heap.size, k - 16, none⟩ = some (.int .u32 x0) := d0
      have e2 : (wr.drewN nq).cell? ⟨w.heap.size, k - 7, none⟩ = some (.int .u32 x2) := d2
      have ey : (wr.drewN nq).cell? ⟨w.heap.size, k, none⟩ = some (.int .u32 y) := dy
      have ef : (wr.drewN nq).frozen? ⟨w.heap.size, k, none⟩ = false := fb
      clear d0 d1 d2 d3 dy fb
      generalize wr.drewN nq = w2 at *
      refine wp_region_still_tail 33 (by kernel_rfl) (by kernel_rfl) ?_
      simp only [List.take_succ_cons, List.take_zero, List.drop_succ_cons, List.drop_zero]
      iterate 7 ((with_reducible refine wpStill_step (fun K hK => ?_)); go_simp; (with_reducible refine hK _ ?_); clear hK K)
      (with_reducible refine wpStill_step (fun K hK => ?_)); go_simp; refine ⟨_, by refine (G7.out _ _).mono ?_; rintro e w' ⟨rfl, rfl⟩; exact ⟨rfl, rfl⟩, hK _ ?_⟩; clear hK K
      iterate 2 ((with_reducible refine wpStill_step (fun K hK => ?_)); go_simp; (with_reducible refine hK _ ?_); clear hK K)
      (with_reducible refine wpStill_step (fun K hK => ?_)); go_simp; refine ⟨_, by refine (G18.out _ _).mono ?_; rintro e w' ⟨rfl, rfl⟩; exact ⟨rfl, rfl⟩, hK _ ?_⟩; clear hK K
      iterate 12 ((with_reducible refine wpStill_step (fun K hK => ?_)); go_simp; (with_reducible refine hK _ ?_); clear hK K)
      (with_reducible refine wpStill_step (fun K hK => ?_)); go_simp; refine ⟨_, by refine (G17.out _ _).mono ?_; rintro e w' ⟨rfl, rfl⟩; exact ⟨rfl, rfl⟩, hK _ ?_⟩; clear hK K
      iterate 2 ((with_reducible refine wpStill_step (fun K hK => ?_)); go_simp; (with_reducible refine hK _ ?_); clear hK K)
      (with_reducible refine wpStill_step (fun K hK => ?_)); go_simp; refine ⟨_, by refine (G19.out _ _).mono ?_; rintro e w' ⟨rfl, rfl⟩; exact ⟨rfl, rfl⟩, hK _ ?_⟩; clear hK K
      iterate 6 ((with_reducible refine wpStill_step (fun K hK => ?_)); go_simp; (with_reducible refine hK _ ?_); clear hK K)
      (with_reducible refine wpStill_nil ?_)
      change wpList _ _ _ _ _ w2.drew
      clear w0 w15 w7 t0 t15 t2 t7 z0 z15 z2 z7 l0 l15 l2 l7
      go_wp2_with fail
      go_roundw
      case rel => exact ⟨k + 1, by omega, by omega, by go_num, (HW2.out.set k _).drew⟩
      case measure => simp [intOf]; omega
    · have hd : decide ((k : Int) < 64) = false := decide_eq_false (by omega)
      obtain ⟨X, hX, iX⟩ := HW.out.row
      have KW : Kp [w.heap.size] w wr := HK1.out.trans HW.out.kp
      have HE2 := Lib.hid (KW.blk HE.out (by simp; omega))
      have HKW := Lib.hid KW
      have HX := Lib.hid hX
      have IX := Lib.hid iX
      have hew := HE2.out.lt
      have hxw := hX.lt
      clear HW KW hX iX HK1
      have info233 : ∀ F : Array Value, F.size = 8 → (Tryz.prog.info? 302).map (·.size) = some F.size := fun F hF => by rw [hF]; kernel_rfl
      have info303 : ∀ F : Array Value, F.size = 64 → (Tryz.prog.info? 405).map (·.size) = some F.size := fun F hF => by rw [hF]; kernel_rfl
      have HZ := Lib.hid (Blk.new wr 302 #[.int .u32 0, .int .u32 0, .int .u32 0, .int .u32 0, .int .u32 0, .int .u32 0, .int .u32 0, .int .u32 0])
      have KR : Kp [w.heap.size] wr ((wr.alloc (.cells #[.int .u32 0, .int .u32 0, .int .u32 0, .int .u32 0, .int .u32 0, .int .u32 0, .int .u32 0, .int .u32 0] 302)).setRow wr.heap.size E) :=
        Kp.trans_new (n := wr.heap.size) ((Kp.refl _ wr).alloc _) ⟨rfl, rfl, rfl, by simp [World.setRow], fun i hi hn => setRow_other _ _ _ _ (fun e => hn (by simp [e]))⟩ (Nat.le_refl _)
      have KR0 : Kp [] wr ((wr.alloc (.cells #[.int .u32 0, .int .u32 0, .int .u32 0, .int .u32 0, .int .u32 0, .int .u32 0, .int .u32 0, .int .u32 0] 302)).setRow wr.heap.size E) :=
        Kp.trans_new (n := wr.heap.size) ((Kp.refl _ wr).alloc _) ⟨rfl, rfl, rfl, by simp [World.setRow], fun i hi hn => setRow_other _ _ _ _ (fun e => hn (by simp [e]))⟩ (Nat.le_refl _)
      have HV3 := Lib.hid (show Blk ((wr.alloc (.cells #[.int .u32 0, .int .u32 0, .int .u32 0, .int .u32 0, .int .u32 0, .int .u32 0, .int .u32 0, .int .u32 0] 302)).setRow wr.heap.size E) wr.heap.size 302 E from setRow_heap _ _ _ _ _ _ HZ.out)
      have HX3 := Lib.hid (KR0.blk HX.out (by simp))
      have HE3 := Lib.hid (KR0.blk HE2.out (by simp))
      have HK3 := Lib.hid (HKW.out.trans KR)
      clear KR KR0
      go_wp2_with (first | (refine wpList_load_row rfl 302 _ rfl eb rfl _ E (0, 0) _ HE2.out Tryz.underlying302 rfl (info233 _ UE.out.1) ?_) | (refine wpList_store_row rfl 302 _ _ rfl wr.heap.size E rfl rfl 302 _ HZ.out (info233 _ UE.out.1) (by rw [UE.out.1]; rfl) UE.out.all ?_) | (refine wpList_load_row rfl 405 _ rfl w.heap.size rfl _ X (0, 0) _ HX3.out Tryz.underlying405 rfl (info303 _ IX.out.1) ?_))
      clear HX HE2 HKW HX3 HZ
      have hs3 : wr.heap.size < ((wr.alloc (.cells #[.int .u32 0, .int .u32 0, .int .u32 0, .int .u32 0, .int .u32 0, .int .u32 0, .int .u32 0, .int .u32 0] 302)).setRow wr.heap.size E).heap.size := HV3.out.lt
      generalize ((wr.alloc (.cells #[.int .u32 0, .int .u32 0, .int .u32 0, .int .u32 0, .int .u32 0, .int .u32 0, .int .u32 0, .int .u32 0] 302)).setRow wr.heap.size E) = w3 at *
      generalize wr.heap.size = vb at *
      have HTX := Lib.hid (fun (wx : World) (kx : Kp [vb] w3 wx) (i : Nat) (hi : i < 64) => (show ∃ v : Int, wx.cell? ⟨11, i, none⟩ = some (.int .u32 v) from by
        obtain ⟨v, hv⟩ := T1.out w3 HK3.out i hi
        have hl := World.block_lt_of_cell? _ _ hv
        obtain ⟨v0, hv0⟩ := HT.out i hi
        have hl0 := World.block_lt_of_cell? _ _ hv0
        exact ⟨v, (World.cell?_of_block (w := w3) (a := ⟨11, i, none⟩) (kx.block _ hl (by simp only [List.mem_singleton]; simp only at hl0; omega))).trans hv⟩))
      have H3 := Lib.hid (show WO 8 w3 302 vb w3 from ⟨⟨E, HV3.out, UE.out⟩, Kp.refl _ _⟩)
      clear T1 HT HV3
      obtain ⟨ft, FT⟩ := turn_any
      have GT := Lib.hid FT
      clear FT hd hlt
      go_loopw [76] (fun i wr => ∃ j : Nat, j ≤ 64 ∧ i = .int .i64 j ∧ WO 8 w3 302 vb wr) (fun i _ => 64 - (intOf i).toNat)
      case atStart => exact ⟨0, by omega, rfl, H3.out⟩
      case round =>
        clear H3
        obtain ⟨j, hj, rfl, hwo⟩ := hrel
        have HW := Lib.hid hwo
        clear hwo
        by_cases hlt : j < 64
        · have hd : decide ((j : Int) < 64) = true := decide_eq_true (by omega)
          have j0 : (0 : Int) ≤ (j : Int) := by omega
          have j1 : (j : Int) < 64 := by omega
          obtain ⟨V, hV, iV⟩ := HW.out.row
          obtain ⟨xi, hxi⟩ := IX.out.2 j hlt
          have hix := fun w => run_index_arr (P := Tryz.prog) (i := (j : Int)) Tryz.underlying405 size34 agg34 j0 (by omega) hxi w
          obtain ⟨v0, c0⟩ := iV.2 0 (by omega)
          obtain ⟨v1, c1⟩ := iV.2 1 (by omega)
          obtain ⟨v2, c2⟩ := iV.2 2 (by omega)
          obtain ⟨v3, c3⟩ := iV.2 3 (by omega)
          obtain ⟨v4, c4⟩ := iV.2 4 (by omega)
          obtain ⟨v5, c5⟩ := iV.2 5 (by omega)
          obtain ⟨v6, c6⟩ := iV.2 6 (by omega)
          obtain ⟨v7, c7⟩ := iV.2 7 (by omega)
          have d0 := (hV.cell 0).trans c0
          have d1 := (hV.cell 1).trans c1
          have d2 := (hV.cell 2).trans c2
          have d3 := (hV.cell 3).trans c3
          have d4 := (hV.cell 4).trans c4
          have d5 := (hV.cell 5).trans c5
          have d6 := (hV.cell 6).trans c6
          have d7 := (hV.cell 7).trans c7
          obtain ⟨tv, ht⟩ := HTX.out wr HW.out.kp j hlt
          have HVV := Lib.hid hV
          have IV := Lib.hid iV
          clear hV iV c0 c1 c2 c3 c4 c5 c6 c7 hxi
          go_wp2_with fail
          go_quiet (fail)
          go_wp2_with fail
          have e3 : (wr.drewN nq).cell? ⟨vb, 3, none⟩ = some (.int .u32 v3) := d3
          have et : (wr.drewN nq).cell? ⟨11, j, none⟩ = some (.int .u32 tv) := ht
          have HV4 := Lib.hid (show Blk (wr.drewN nq) vb 302 V from HVV.out)
          have HK4 := Lib.hid (HW.out.kp.drewN nq)
          clear d0 d1 d2 d3 d4 d5 d6 d7 ht HVV HW
          generalize wr.drewN nq = w4 at *
          go_quiet ((go_at_call 378; exact Calls.quiet_of_same (GT.out _ (by decide) _ _)))
          go_wp2_with fail
          have e3' : (w4.drewN nq).cell? ⟨vb, 3, none⟩ = some (.int .u32 v3) := e3
          have HV5 := Lib.hid (show Blk (w4.drewN nq) vb 302 V from HV4.out)
          have HK5 := Lib.hid (HK4.out.drewN nq)
          clear e3 et HV4 HK4
          generalize w4.drewN nq = w5 at *
          have info8 : ∀ a0 a1 a2 a3 a4 a5 a6 a7 : Value, (Tryz.prog.info? 302).map (·.size) = some (#[a0, a1, a2, a3, a4, a5, a6, a7] : Array Value).size := fun _ _ _ _ _ _ _ _ => by kernel_rfl
          have hsz : V.size = 8 := IV.out.1
          have HSZ := Lib.hid hsz
          clear hsz
          iterate 2 (refine (GT.out _ (by decide) _ _).mono ?_; rintro e w' ⟨rfl, rfl⟩; go_wp2_with fail)
          refine (GT.out _ (by decide) _ _).mono ?_
          rintro e w' ⟨rfl, rfl⟩
          have H5 := Lib.hid (show WO 8 w3 302 vb _ from ⟨⟨V, HV5.out, IV.out⟩, HK5.out⟩)
          have z0 := HV5.out.frozen 0
          have z1 := HV5.out.frozen 1
          have z2 := HV5.out.frozen 2
          have z3 := HV5.out.frozen 3
          have z4 := HV5.out.frozen 4
          have z5 := HV5.out.frozen 5
          have z6 := HV5.out.frozen 6
          have z7 := HV5.out.frozen 7
          obtain ⟨q0, hq0⟩ := IV.out.2 0 (by omega)
          have y0 := (HV5.out.cell 0).trans hq0
          obtain ⟨q1, hq1⟩ := IV.out.2 1 (by omega)
          have y1 := (HV5.out.cell 1).trans hq1
          obtain ⟨q2, hq2⟩ := IV.out.2 2 (by omega)
          have y2 := (HV5.out.cell 2).trans hq2
          obtain ⟨q4, hq4⟩ := IV.out.2 4 (by omega)
          have y4 := (HV5.out.cell 4).trans hq4
          obtain ⟨q5, hq5⟩ := IV.out.2 5 (by omega)
          have y5 := (HV5.out.cell 5).trans hq5
          obtain ⟨q6, hq6⟩ := IV.out.2 6 (by omega)
          have y6 := (HV5.out.cell 6).trans hq6
          obtain ⟨q7, hq7⟩ := IV.out.2 7 (by omega)
          have y7 := (HV5.out.cell 7).trans hq7
          clear hq0 hq1 hq2 hq4 hq5 hq6 hq7
          go_wp2_with fail
          go_roundw
          case rel => exact ⟨j + 1, by omega, by go_num, (((((((H5.out.set 0 _).set 1 _).set 2 _).set 3 _).set 4 _).set 5 _).set 6 _).set 7 _⟩
          case measure => simp [intOf]; omega
        · have hd : decide ((j : Int) < 64) = false := decide_eq_false (by omega)
          obtain ⟨V, hV, iV⟩ := HW.out.row
          have HVV := Lib.hid hV
          have IV := Lib.hid iV
          have HE4 := Lib.hid (HW.out.kp.blk HE3.out (by simp; omega))
          have KK : Kp [w.heap.size, vb] w wr := (HK3.out.mono (by simp)).trans (HW.out.kp.mono (by simp))
          have HKK := Lib.hid KK
          have hvl := hV.lt
          clear hV iV KK HW
          go_wp2_with (first | (refine wpList_load_row rfl 302 _ rfl vb rfl _ V (0, 0) _ HVV.out Tryz.underlying302 rfl (info233 _ IV.out.1) ?_))
          have H4 := Lib.hid (show WO 8 w 304 eb wr ∨ True from Or.inr trivial)
          have hEw := Lib.hid (show WO 8 wr 304 eb wr from ⟨⟨E, HE4.out, UE.out⟩, Kp.refl _ _⟩)
          clear H4 HE4 hd hlt GT HTX HVV
          go_loopw [161] (fun i wx => ∃ l : Nat, l ≤ 8 ∧ i = .int .i64 l ∧ WO 8 wr 304 eb wx) (fun i _ => 8 - (intOf i).toNat)
          case atStart => exact ⟨0, by omega, rfl, hEw.out⟩
          case round =>
            clear hEw
            obtain ⟨l, hl, rfl, hwo⟩ := hrel
            have HW := Lib.hid hwo
            clear hwo
            by_cases hlt : l < 8
            · have hd : decide ((l : Int) < 8) = true := decide_eq_true (by omega)
              have l0 : (0 : Int) ≤ (l : Int) := by omega
              have l1 : (l : Int) < 8 := by omega
              obtain ⟨Y, hY, iY⟩ := HW.out.row
              obtain ⟨vl, hvl⟩ := IV.out.2 l hlt
              have hix := fun w => run_index_arr (P := Tryz.prog) (i := (l : Int)) Tryz.underlying302 size34 agg34 l0 (by omega) hvl w
              obtain ⟨y, cy⟩ := iY.2 l hlt
              have dy := (hY.cell l).trans cy
              have fy := hY.frozen l
              clear hY iY cy hvl
              go_wp2_with fail
              refine wp_region_still_tail 11 (by kernel_rfl) (by kernel_rfl) ?_
              simp only [List.take_succ_cons, List.take_zero, List.drop_succ_cons, List.drop_zero]
              iterate 11 ((with_reducible refine wpStill_step (fun K hK => ?_)); go_simp; (with_reducible refine hK _ ?_); clear hK K)
              (with_reducible refine wpStill_nil ?_)
              change wpList _ _ _ _ _ wr.drew
              go_wp2_with fail
              go_roundw
              case rel => exact ⟨l + 1, by omega, by go_num, (HW.out.set l _).drew⟩
              case measure => simp [intOf]; omega
            · have hd : decide ((l : Int) < 8) = false := decide_eq_false (by omega)
              have hne1 : eb ∉ [w.heap.size, vb] := by simp; omega
              go_wp2_with fail
              go_end0
              refine ⟨rfl, HW.out.row, ?_⟩
              have K3 := HKK.out
              have K4 := HW.out.kp
              exact ⟨K4.os.trans K3.os, K4.tape.trans K3.tape, K4.output.trans K3.output, Nat.le_trans K3.size K4.size, fun i hi hn => (K4.block i (Nat.lt_of_lt_of_le hi K3.size) hn).trans (K3.block i hi (by simp only [List.mem_cons, List.not_mem_nil, or_false, not_or]; omega))⟩
end Go.Proofs.YtpjnjhklkgefcaaGreatDoor
