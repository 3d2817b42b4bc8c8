import Derived.Test.YtobiacdeoeogaaaGreatDoorI
set_option linter.unusedVariables false
set_option linter.unusedSimpArgs false
namespace Go.Proofs.YtobiacdeoeogaaaGreatDoor
open Go.RowKit
set_option maxRecDepth 100000 in
set_option maxHeartbeats 1000000 in
theorem grow_e {B : Nat} {q : Mm} {made : Int} (s : ByteArray) (w : World) (g : Gl w) (h : Nm s) (hq : MemM B wideT q made w) : Calls Tryz.prog 192 #[pt q.m, .string s] w fun e w' => e = .returned (pt q.r) ∧ Below w.heap.size w w' := by
  have HW := Lib.hid (way_one q.m q.r _ s w g h hq.hm rfl)
  have HP := Lib.hid (fun w1 (hb : Below w.heap.size w w1) => storeParts_ok s w1 (g.below hb) h)
  clear g hq h
  go_enter Tryz.func192, Tryz.ntmps192
  go_wp2_with fail
  refine HW.out.mono ?_
  rintro e w1 ⟨rfl, hb1⟩
  go_wp2_with fail
  refine (HP.out _ hb1).mono ?_
  rintro e w3 ⟨b, rfl, _, _, hb3⟩
  have hbb := hb1.trans (hb3.mono hb1.size)
  clear hb1 hb3
  go_wp2_with fail
  go_rounds 1
  go_ret
  exact ⟨rfl, hbb⟩
/-- the world behind an entry that is laid into an empty map. -/
def mapped (km : Nat) (s : ByteArray) (v : Value) (w : World) : World := { w with heap := w.heap.setIfInBounds km (.map #[{ key := .string s, val := v, born := 0 }] 1) }
theorem mapped_kp (km : Nat) (s : ByteArray) (v : Value) (w : World) : Kp [km] w (mapped km s v w) :=
  ⟨rfl, rfl, rfl, by simp [mapped], fun i hi hn => by
    have : km ≠ i := fun e => hn (by simp [e])
    simp [mapped, Array.getElem?_setIfInBounds, this]⟩
theorem run_up {km : Nat} {w : World} (s : ByteArray) (v : Value) (h : w.heap[km]? = some (.map #[] 0)) :
    (Instr.mapUpdate 108 (.map (some km)) (.string s) v).run Tryz.prog w = .ok () (mapped km s v w) := by
  have hc : ∀ b, (Instr.checkKey b 10000 9 (.string s)).run Tryz.prog w = .ok () w := fun b => MapKept.run_checkKey (k := .string s) Tryz.underlying9 (by simp [MapKept.IsKey]) b 9999
  have hf : Instr.findNow .string (.string s) ([] : List MapEntry) 0 = some none := rfl
  simp [Instr.mapUpdate, run_underlying Tryz.underlying108, MapKept.run_getObj_map h, hc, MapKept.run_findKey Tryz.underlying9 hf, MapKept.run_setObj_map _ h, Result.andThen, mapped]
set_option maxRecDepth 100000 in
set_option maxHeartbeats 1000000 in
theorem add_e {B : Nat} {q : Mm} {made : Int} (n : Nat) (s id : ByteArray) (w : World) (hq : MemM B wideT q made w) (hn : Blk w n 110 (nodeC s false (.pointer none) (.map none) ⟨#[]⟩ 0 (.slice none 0 0) id)) (hnr : n ≠ q.r) :
    Calls Tryz.prog 191 #[pt q.m, pt q.r, pt n] w fun e w' => e = .returned (pt n) ∧ Blk w' n 110 (nodeC s false (pt q.r) (.map none) ⟨#[]⟩ 0 (.slice none 0 0) id) ∧ Blk w' q.m 115 (mCells wideT q (sl q.si 14 14) 1 made) ∧ Kp [n, q.km, q.m] w w' := by
  have nf := hn.frozen 2
  have n1 := hn.cell 1
  have n0 := hn.cell 0
  have n2 := hn.cell 2
  have r3 := hq.hr.cell 3
  have m3 := hq.hm.cell 11
  have mf := hq.hm.frozen 11
  simp at n0 n1 n2 r3 m3
  have nm : n ≠ q.m := hn.ne hq.hm (by decide)
  have nk : n ≠ q.km := map_ne hn hq.hk
  have rk : q.r ≠ q.km := map_ne hq.hr hq.hk
  have mk : q.m ≠ q.km := map_ne hq.hm hq.hk
  have rm : q.r ≠ q.m := hq.hr.ne hq.hm (by decide)
  have HQ := Lib.hid hq
  have HN := Lib.hid hn
  clear hq hn
  go_enter Tryz.func191, Tryz.ntmps191
  go_upto_region 4 with (fail)
  have K1 : Kp [n] w (w.setCell ⟨n, 2, none⟩ (pt q.r)) := (Kp.refl _ w).setCell _ _ (Or.inl (by simp))
  have N1 := Lib.hid (HN.out.set 2 (pt q.r))
  have M1 := Lib.hid (K1.blk HQ.out.hm (by simp [nm.symm]))
  have R1 := Lib.hid (K1.blk HQ.out.hr (by simp [hnr.symm]))
  have E1 := Lib.hid (blockOf_kp HQ.out.hk K1 (by simp [nk.symm]))
  have HK1 := Lib.hid K1
  clear K1 nf n0 n1 n2 r3 m3 mf
  generalize w.setCell ⟨n, 2, none⟩ (pt q.r) = w1 at *
  have n0 : w1.cell? ⟨n, 0, none⟩ = some (.string s) := N1.out.cell 0
  have r3 : w1.cell? ⟨q.r, 3, none⟩ = some (.map (some q.km)) := R1.out.cell 3
  refine wp_region_still_tail 11 (by kernel_rfl) (by kernel_rfl) ?_
  simp only [List.take_succ_cons, List.take_zero, List.drop_succ_cons, List.drop_zero]
  iterate 9 ((with_reducible refine wpStill_step (fun K hK => ?_)); go_simp; (with_reducible refine hK _ ?_); clear hK K)
  (with_reducible refine wpStill_step (fun K hK => ?_)); go_simp; refine ⟨_, by refine (key_ok q.m _ s _ M1.out.drw rfl).mono ?_; rintro e w' ⟨rfl, rfl⟩; exact ⟨rfl, rfl⟩, hK _ ?_⟩; clear hK K
  iterate 1 ((with_reducible refine wpStill_step (fun K hK => ?_)); go_simp; (with_reducible refine hK _ ?_); clear hK K)
  (with_reducible refine wpStill_nil ?_)
  change wpList _ _ _ _ _ w1.drew
  have hup := run_up (w := w1.drew) s (pt n) E1.out
  have U := mapped_kp q.km s (pt n) w1.drew
  have N2 := Lib.hid (U.blk N1.out.drw (by simp [nk]))
  have M2 := Lib.hid (U.blk M1.out.drw (by simp [mk]))
  have HU := Lib.hid U
  clear U
  generalize hw2 : mapped q.km s (pt n) w1.drew = w2 at *
  clear hw2 r3 n0
  have m3 : w2.cell? ⟨q.m, 11, none⟩ = some (.int .i64 0) := M2.out.cell 11
  have mf := M2.out.frozen 11
  go_wp2_with fail
  go_ret
  have K2 : Kp [n, q.km, q.m] w w2 := (HK1.out.mono (by simp)).trans (Kp.trans (Kp.of_below ((Below.refl w1.heap.size w1).drew)) (HU.out.mono (by simp)))
  have K3 : Kp [q.m] w2 (w2.setCell ⟨q.m, 11, none⟩ (.int .i64 1)) := (Kp.refl _ w2).setCell _ _ (Or.inl (by simp))
  refine ⟨rfl, K3.blk N2.out (by simp [nm]), ?_, K2.trans (K3.mono (by simp))⟩
  exact M2.out.set 11 (.int .i64 1)
end Go.Proofs.YtobiacdeoeogaaaGreatDoor
