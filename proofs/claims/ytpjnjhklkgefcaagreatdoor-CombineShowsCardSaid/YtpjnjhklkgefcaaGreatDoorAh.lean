import Derived.Test.YtpjnjhklkgefcaaGreatDoorAg
import Derived.Maps.OwnOps
set_option linter.unusedVariables false
set_option linter.unusedSimpArgs false
namespace Go.Proofs.YtpjnjhklkgefcaaGreatDoor
open Go.RowKit
theorem step_lookup {P : Program} {w : World} {ops : Array Oper} {o : Oper} {a : Act} {K : Act → World → Prop} {Q : Exit → Act → World → Prop} {E : Prop} (hgd : o.guard = none) (m k : Operand) (t : TypeId)
    (ho : o.op = .lookup t m k false) (x y v : Value) (hm : a.eval m = x) (hk : a.eval k = y) (hr : (Instr.lookup t x y false).run P w = .ok v w) (h : K (a.put o.dst v) w) :
    if Region.wanted o (yielded ops a.tmps) = true then Oper.wp P o a w K Q else E := by
  have hw : Region.wanted o (yielded ops a.tmps) = true := by simp [Region.wanted, hgd]
  rw [if_pos hw]
  unfold Oper.wp execOp
  simp only [ho, hm, hk, Sem.run_bind, Sem.run_pure, Result.andThen_ok, hr]
  exact h
theorem step_mapUpdate {P : Program} {w w' : World} {ops : Array Oper} {o : Oper} {a : Act} {K : Act → World → Prop} {Q : Exit → Act → World → Prop} {E : Prop} (hgd : o.guard = none) (m k z : Operand) (t : TypeId)
    (ho : o.op = .mapUpdate t m k z) (x y v : Value) (hm : a.eval m = x) (hk : a.eval k = y) (hz : a.eval z = v) (hr : (Instr.mapUpdate t x y v).run P w = .ok () w') (h : K (a.put o.dst undef) w') :
    if Region.wanted o (yielded ops a.tmps) = true then Oper.wp P o a w K Q else E := by
  have hw : Region.wanted o (yielded ops a.tmps) = true := by simp [Region.wanted, hgd]
  rw [if_pos hw]
  unfold Oper.wp execOp
  simp only [ho, hm, hk, hz, Sem.run_bind, Sem.run_pure, Result.andThen_ok, hr]
  exact h
theorem infoI : (Tryz.prog.info? 3).map (fun i => (i.zero, i.size, i.bytes)) = some (some (.int .i64 0), 1, 8) := by kernel_rfl
theorem zeroInts (w : World) : (zeroValue 22).run Tryz.prog w = .ok (.slice none 0 0) w := by kernel_rfl
/-- no places in an empty map. -/
theorem look_places {km : Nat} {s : ByteArray} {w : World} (h : w.heap[km]? = some (.map #[] 0)) : (Instr.lookup 383 (.map (some km)) (.string s) false).run Tryz.prog w = .ok (.slice none 0 0) w :=
  run_lookup_str w _ _ _ km 0 #[] s _ Tryz.underlying383 Tryz.underlying9 zeroInts h rfl
theorem run_place {km : Nat} {w : World} (s : ByteArray) (v : Value) (h : w.heap[km]? = some (.map #[] 0)) :
    (Instr.mapUpdate 383 (.map (some km)) (.string s) v).run Tryz.prog w = .ok () (mapped km s v w) := by
  have hc : ∀ b, (Instr.checkKey b 10000 9 (.string s)).run Tryz.prog w = .ok () w := fun b => MapKept.run_checkKey (k := .string s) Tryz.underlying9 (by simp [MapKept.IsKey]) b 9999
  have hf : Instr.findNow .string (.string s) ([] : List MapEntry) 0 = some none := rfl
  simp [Instr.mapUpdate, run_underlying Tryz.underlying383, MapKept.run_getObj_map h, hc, MapKept.run_findKey Tryz.underlying9 hf, MapKept.run_setObj_map _ h, Result.andThen, mapped]
set_option maxRecDepth 100000 in
set_option maxHeartbeats 4000000 in
theorem longest_short (sb at' : Nat) (b : ByteArray) (pv ov : Value) (r : Int) (w : World) (hS : Blk w sb 385 (szC b pv ov r)) (h1 : at' ≤ b.size) (h2 : b.size < at' + 4) (h3 : b.size ≤ 1048576) :
    Calls Tryz.prog 338 #[pt sb, .int .i64 at'] w fun e w' => e = .returned (.tuple #[.int .i64 0, .int .i64 0]) ∧ Below w.heap.size w w' := by
  have c0 := hS.cell 0
  simp at c0
  clear hS
  obtain ⟨c, hc⟩ : ∃ c : Nat, c + at' = b.size := ⟨b.size - at', by omega⟩
  have hmin : min (131 : Int) ((b.size : Int) - (at' : Int)) = (c : Int) := by omega
  have hc4 : decide ((c : Int) < 4) = true := decide_eq_true (by omega)
  have hc5 : (c : Int) < 4 := by omega
  go_enter Tryz.func338, Tryz.ntmps338
  go_wp2_with fail
  go_ret2
  exact ⟨rfl, Below.refl _ _⟩
set_option maxRecDepth 100000 in
set_option maxHeartbeats 4000000 in
theorem longest_first (sb km : Nat) (b : ByteArray) (ov : Value) (r : Int) (w : World) (hS : Blk w sb 385 (szC b (.map (some km)) ov r)) (hk : w.heap[km]? = some (.map #[] 0)) (h2 : 4 ≤ b.size) (h3 : b.size ≤ 131) :
    Calls Tryz.prog 338 #[pt sb, .int .i64 0] w fun e w' => e = .returned (.tuple #[.int .i64 0, .int .i64 0]) ∧ Below w.heap.size w w' := by
  have c0 := hS.cell 0
  have c1 := hS.cell 1
  simp at c0 c1
  clear hS
  have hmin : min (131 : Int) ((b.size : Int)) = (b.size : Int) := by omega
  have hc4 : decide ((b.size : Int) < 4) = false := decide_eq_false (by omega)
  have hc5 : ¬ (b.size : Int) < 4 := by omega
  have hl : ∀ n s, (Instr.lookup 383 (.map (some km)) (.string s) false).run Tryz.prog (w.drewN n) = .ok (.slice none 0 0) (w.drewN n) := fun n s => look_places (w := w.drewN n) hk
  have hc6 : (4 : Int) ≤ (b.size : Int) := by omega
  have hc7 : 4 ≤ b.size := h2
  go_enter Tryz.func338, Tryz.ntmps338
  go_wp2_with fail
  go_quiet (fail)
  go_wp2_with fail
  go_rounds 1
  go_ret2
  exact ⟨rfl, ((Kp.refl [] w).drewN _).below (Nat.le_refl _) (by simp)⟩
set_option maxRecDepth 100000 in
set_option maxHeartbeats 8000000 in
theorem squeezeBlock4_ok (b : ByteArray) (w : World) (hb : b.size = 4) : Calls Tryz.prog 334 #[.string b] w fun e w' => (∃ s : ByteArray, e = .returned (.string s)) ∧ Below w.heap.size w w' := by
  have HBS := Lib.hid hb
  have hmm := @run_makeMap Tryz.prog
  go_enter Tryz.func334, Tryz.ntmps334
  go_wp2_with fail
  clear hmm
  have HB0 := (Below.refl w.heap.size w).alloc (Nat.le_refl _) (.map #[] 0)
  have HB := Lib.hid (HB0.alloc HB0.size (.cells #[.string b, .map (some w.heap.size), .slice none 0 0, .int .i64 0] 385))
  have HS := Lib.hid (show Blk _ (w.heap.size + 1) _ _ from Blk.newAt (w := w.alloc (.map #[] 0)) (t := 385) (cs := #[.string b, .map (some w.heap.size), .slice none 0 0, .int .i64 0]) (by simp))
  have HK := Lib.hid ((heap_alloc_old (w.alloc (.map #[] 0)) (.cells #[.string b, .map (some w.heap.size), .slice none 0 0, .int .i64 0] 385) (by simp)).trans (heap_alloc_new w (.map #[] 0)))
  clear HB0
  generalize ((w.alloc (.map #[] 0)).alloc (.cells #[.string b, .map (some w.heap.size), .slice none 0 0, .int .i64 0] 385)) = w1 at *
  generalize hsb : w.heap.size + 1 = sb at *
  generalize hkm : w.heap.size = km at *
  have HKM := Lib.hid hkm
  have hks : km < sb := by omega
  clear hsb hkm
  refine wp_loop_rounds 5 ?_
  rw [rounds_succ]
  go_wp2_with fail
  refine (longest_first sb km b _ 0 w1 HS.out HK.out (by omega) (by omega)).mono ?_
  rintro e w2 ⟨rfl, hb2⟩
  have HS2 := Lib.hid (HS.out.below hb2 HS.out.lt)
  have HK2 := Lib.hid ((hb2.block km (lt_of_blk HK.out)).trans HK.out)
  have HB2 := Lib.hid (HB.out.trans (hb2.mono (Nat.le_of_lt (lt_of_blk HK.out))))
  clear hb2 HS HK HB
  have c1 : w2.cell? ⟨sb, 1, none⟩ = some (.map (some km)) := HS2.out.cell 1
  have hlk : ∀ s, (Instr.lookup 383 (.map (some km)) (.string s) false).run Tryz.prog w2.drew = .ok (.slice none 0 0) w2.drew := fun s => look_places (w := w2.drew) HK2.out
  go_wp2_with fail
  refine wp_loop_rounds 2 ?_
  rw [rounds_succ]
  go_upto_region 16 with (fail)
  obtain ⟨i0, hi0, hi1, hi2, hi3⟩ := info_parts infoI
  have hlt2 := HS2.out.lt
  have hl2 : ∀ s, (Instr.lookup 383 (.map (some km)) (.string s) false).run Tryz.prog (w2.alloc (.cells #[.int .i64 0] 3)).drew = .ok (.slice none 0 0) (w2.alloc (.cells #[.int .i64 0] 3)).drew := fun s => look_places (w := (w2.alloc (.cells #[.int .i64 0] 3)).drew) ((heap_alloc_old w2 _ (lt_of_blk HK2.out)).trans HK2.out)
  go_region_law (first | (refine step_lookup (by rfl) _ _ 383 (by rfl) (.map (some km)) _ _ (by rfl) (by rfl) (hlk _) ?_) | (refine step_lookup (by rfl) _ _ 383 (by rfl) (.map (some km)) _ _ (by rfl) (by rfl) (hl2 _) ?_) | (refine step_append_lies _ (by rfl) _ _ 22 (by rfl) w2.heap.size 3 i0 (.int .i64 0) 1 8 Tryz.underlying22 hi0 hi1 hi2 hi3 rfl (by decide) _ _ _ (by rfl) (World.ownsRow_nil _ _ _ _) ⟨w2.heap.size, 0, none⟩ 1 1 [.int .i64 0] (by rfl) (by rfl) (World.news_of_block (cs := #[.int .i64 0]) (t := 3) (fr := (0, 0)) (heap_alloc_new w2.drew _)) (by simp [Value.oneCell']) (by decide) (by decide) (by decide) ?_ _ rfl ?_; simp; intro g3 cap3 w3 hown hgrow hat hltg; have hb3 := (((Below.refl w2.heap.size w2).drew.alloc (Nat.le_refl _) (.cells #[.int .i64 0] 3)).grown hgrow (by simp) (by intro k hk; simp [Value.ownBlock] at hk)); have c1w := (hb3.cell (p := ⟨sb, 1, none⟩) hlt2).trans c1; have hup := fun s v => run_place (w := w3) (km := km) s v ((hb3.block km (lt_of_blk HK2.out)).trans HK2.out)))
  all_goals
    have hk4 := mapped_kp km (b.extract 0 4) (.slice (some ⟨g3, 0, none⟩) 1 cap3) w3
    have HX := Lib.hid (hk4.blk (HS2.out.below hb3 HS2.out.lt) (by simp; omega))
    have HY := Lib.hid ((HB2.out.trans (hb3.mono (Nat.le_of_lt (lt_of_blk HK2.out)))).trans (hk4.below (Nat.le_trans (Nat.le_of_lt (lt_of_blk HK2.out)) hb3.size) (by simp)))
    have hkw := Lib.hid (show km ≤ (mapped km (b.extract 0 4) (.slice (some ⟨g3, 0, none⟩) 1 cap3) w3).heap.size from Nat.le_trans (Nat.le_of_lt (lt_of_blk HK2.out)) (Nat.le_trans hb3.size hk4.size))
    clear hk4 hown hgrow hat hltg hb3 c1w hup hlt2 hl2 hlk c1 HS2 HK2 HB2
    generalize mapped km (b.extract 0 4) (.slice (some ⟨g3, 0, none⟩) 1 cap3) w3 = w4 at *
    go_wp2_with fail
    rw [rounds_succ]
    go_wp2_with fail
    rw [rounds_succ]
    go_wp2_with fail
    refine (longest_short sb 1 b _ _ _ w4 HX.out (by omega) (by omega) (by omega)).mono ?_
    rintro e w5 ⟨rfl, hbx⟩
    have HX' := Lib.hid (HX.out.below hbx HX.out.lt)
    have HY' := Lib.hid (HY.out.trans (hbx.mono hkw.out))
    have hkw' := Lib.hid (Nat.le_trans hkw.out hbx.size)
    clear hbx HX HY hkw
    have HX := HX'
    have HY := HY'
    have hkw := hkw'
    clear HX' HY' hkw'
    go_wp2_with fail
    refine wp_loop_rounds 2 ?_
    rw [rounds_succ]
    go_wp2_with fail
    rw [rounds_succ]
    go_wp2_with fail
    rw [rounds_succ]
    go_wp2_with fail
    refine (longest_short sb 2 b _ _ _ w5 HX.out (by omega) (by omega) (by omega)).mono ?_
    rintro e w6 ⟨rfl, hbx⟩
    have HX' := Lib.hid (HX.out.below hbx HX.out.lt)
    have HY' := Lib.hid (HY.out.trans (hbx.mono hkw.out))
    have hkw' := Lib.hid (Nat.le_trans hkw.out hbx.size)
    clear hbx HX HY hkw
    have HX := HX'
    have HY := HY'
    have hkw := hkw'
    clear HX' HY' hkw'
    go_wp2_with fail
    refine wp_loop_rounds 2 ?_
    rw [rounds_succ]
    go_wp2_with fail
    rw [rounds_succ]
    go_wp2_with fail
    rw [rounds_succ]
    go_wp2_with fail
    refine (longest_short sb 3 b _ _ _ w6 HX.out (by omega) (by omega) (by omega)).mono ?_
    rintro e w7 ⟨rfl, hbx⟩
    have HX' := Lib.hid (HX.out.below hbx HX.out.lt)
    have HY' := Lib.hid (HY.out.trans (hbx.mono hkw.out))
    have hkw' := Lib.hid (Nat.le_trans hkw.out hbx.size)
    clear hbx HX HY hkw
    have HX := HX'
    have HY := HY'
    have hkw := hkw'
    clear HX' HY' hkw'
    go_wp2_with fail
    refine wp_loop_rounds 2 ?_
    rw [rounds_succ]
    go_wp2_with fail
    rw [rounds_succ]
    go_wp2_with fail
    rw [rounds_succ]
    go_wp2_with fail
    refine (flush_ok (B := km) (n0 := 0) (r0 := 0) (sb := sb) (pv := .map (some km)) (b := b) 4 w7 (by omega) (by omega) (by omega) (by omega) hkw.out (Nat.le_of_lt hks) ⟨⟨_, [], HX.out, World.ownsRow_nil _ _ _ _⟩⟩).mono ?_
    rintro e w8 ⟨rfl, ⟨n8, _, hZ⟩, hb8⟩
    obtain ⟨ov, l, hS8, hO8⟩ := hZ.h
    have c2 := hS8.cell 2
    simp at c2
    have hcv := own_conv hO8
    have HY8 := Lib.hid (HY.out.trans hb8)
    clear hZ hS8 hO8 hb8 HX HY hkw
    go_wp2_with fail
    go_ret
    rw [HKM.out]
    exact ⟨⟨_, rfl⟩, HY8.out⟩
end Go.Proofs.YtpjnjhklkgefcaaGreatDoor
