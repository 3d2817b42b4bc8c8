import Derived.Test.YtpjnjhklkgefcaaGreatDoorAl
import Derived.Test.YtpjnjhklkgefcaaGreatDoorAj
import Derived.Deep.CutRange
set_option linter.unusedVariables false
set_option linter.unusedSimpArgs false
namespace Go.Proofs.YtpjnjhklkgefcaaGreatDoor
open Go.RowKit
theorem seven_keep {w : World} {b : Nat} {p : Addr} {v0 v1 v2 v3 v4 v5 v6 : Value} (h : p.block ≠ b) :
    (((((((w.setCell ⟨b, 0, none⟩ v0).setCell ⟨b, 1, none⟩ v1).setCell ⟨b, 2, none⟩ v2).setCell ⟨b, 3, none⟩ v3).setCell ⟨b, 4, none⟩ v4).setCell ⟨b, 5, none⟩ v5).setCell ⟨b, 6, none⟩ v6).cell? p = w.cell? p := by
  have k : ∀ i, (⟨b, i, none⟩ : Addr) ≠ p := fun i e => h (by rw [← e])
  rw [World.cell?_setCell_other _ _ _ _ (k 6), World.cell?_setCell_other _ _ _ _ (k 5), World.cell?_setCell_other _ _ _ _ (k 4), World.cell?_setCell_other _ _ _ _ (k 3), World.cell?_setCell_other _ _ _ _ (k 2), World.cell?_setCell_other _ _ _ _ (k 1), World.cell?_setCell_other _ _ _ _ (k 0)]
set_option maxRecDepth 100000 in
set_option maxHeartbeats 8000000 in
theorem squeezePut_ok {B : Nat} {q : Mm} {sb rb tb eb gg : Nat} (w : World) (g : Gl w) (hq : MemE B wideT q w) (h : SqM q.m sb rb tb eb gg w) (h4 : 4 ≤ gg) (ns : sb ∉ [q.km, q.m, q.ca, q.si]) (nr : rb ∉ [q.km, q.m, q.ca, q.si]) (nt : tb ∉ [q.km, q.m, q.ca, q.si]) (ne : eb ∉ [q.km, q.m, q.ca, q.si]) :
    Calls Tryz.prog 321 #[pt sb, .string tA, .string ⟨#[116, 101, 120, 116]⟩, .int .i64 7, .slice none 0 0] w fun e w' => ∃ id, e = .returned (.tuple #[.agg #[.string tA, .bool false, .int .i64 4, .int .i64 7, .slice none 0 0, .slice none 0 0, .string id], .int .i64 0]) ∧ Kp [q.km, q.m, q.ca, q.si] w w' := by
  have HL := Lib.hid (fun wx (hb : Below w.heap.size w wx) => lowerNew_ok wx (g.below hb) (h.below hb))
  have HQ := Lib.hid (fun wx (hb : Below w.heap.size w wx) => MemM.below hq hb)
  have HS := Lib.hid (fun wx (hb : Below w.heap.size w wx) => SqM.below h hb)
  have GG := Lib.hid (fun wx (hb : Below w.heap.size w wx) => g.below hb)
  have HM0 := Lib.hid (show q.m < w.heap.size ∧ q.km < w.heap.size ∧ q.ca < w.heap.size ∧ q.si < w.heap.size from ⟨hq.hm.lt, lt_of_blk hq.hk, (by obtain ⟨X, hX, _⟩ := hq.hca; exact hX.lt), (by obtain ⟨X, hX, _⟩ := hq.hsi; exact hX.lt)⟩)
  clear hq g h
  go_enter Tryz.func321, Tryz.ntmps321
  go_wp2_with fail
  have HR := Lib.hid (Blk.new w 53 infoZ)
  have HB := Lib.hid ((Below.refl w.heap.size w).alloc (Nat.le_refl _) (.cells infoZ 53))
  generalize (w.alloc (.cells infoZ 53)) = w1 at *
  generalize hrr : w.heap.size = rr at *
  have HW := Lib.hid hrr
  clear hrr
  refine (HL.out _ HB.out).mono ?_
  rintro e w2 ⟨rfl, hb2⟩
  have hb := HB.out.trans (hb2.mono (Nat.le_of_lt HR.out.lt))
  have HB2 := Lib.hid hb
  have HR2 := Lib.hid (HR.out.below hb2 HR.out.lt)
  have c6 := (HS.out _ hb).hs.cell 6
  have c15 := (HS.out _ hb).hs.cell 15
  have c0 := (HS.out _ hb).hs.cell 0
  simp at c6 c15 c0
  have hg : ¬ (gg : Int) < 4 := by omega
  have hgd : decide ((gg : Int) < 4) = false := decide_eq_false hg
  clear hb hb2 HB HR HL
  go_wp2_with fail
  refine (squeezeText_ok w2).mono ?_
  rintro e w3 ⟨s, rfl, hsz, hb3⟩
  have HB3 := Lib.hid (HB2.out.trans (hb3.mono (Nat.le_of_lt HR2.out.lt)))
  have HR3 := Lib.hid (HR2.out.below hb3 HR2.out.lt)
  clear c6 c15 c0 hg hgd hb3 HB2 HR2
  go_upto_region 9 with (fail)
  have hml := (HQ.out _ HB3.out).hm.lt
  have hq3 := HQ.out _ HB3.out
  have hsl := (HS.out _ HB3.out).hs.lt
  have hlt3 : q.m < w3.heap.size ∧ q.km < w3.heap.size ∧ q.ca < w3.heap.size ∧ q.si < w3.heap.size := ⟨hq3.hm.lt, lt_of_blk hq3.hk, (by obtain ⟨X, hX, _⟩ := hq3.hca; exact hX.lt), (by obtain ⟨X, hX, _⟩ := hq3.hsi; exact hX.lt)⟩
  have hs1000 : s.size ≤ 100000 := by omega
  have HP := Lib.hid (fun wx (hb : Below w3.heap.size w3 wx) => memPut_ok (q := q) tAwz s wx ((GG.out _ HB3.out).below hb) nm_awz hs1000 (hq3.below hb))
  have HT := Lib.hid (fun wx (hk : Kp [q.km, q.m, q.ca, q.si] w3 wx) n sv id hsv => told_ok n sv id hsv wx ((GG.out _ HB3.out).kp hk (by have := hq3.gl1; have := hq3.lom; have := hq3.lok; have := hq3.loc; have := hq3.los; simp; omega) (by have := hq3.gl2; have := hq3.lom; have := hq3.lok; have := hq3.loc; have := hq3.los; simp; omega)) ((HS.out _ HB3.out).kp hk ns nr nt ne))
  have c0 : w3.cell? ⟨sb, 0, none⟩ = some (.iface 29 (pt q.m)) := (HS.out _ HB3.out).hs.cell 0
  have C0 := Lib.hid c0
  have HD3 := Lib.hid ((Kp.refl [q.km, q.m, q.ca, q.si] w3).drew)
  have HA3 := Lib.hid (((Kp.refl [q.km, q.m, q.ca, q.si] w3).alloc (.cells infoZ 53)).drew)
  have BD3 := Lib.hid ((Below.refl w3.heap.size w3).drew)
  have BA3 := Lib.hid (((Below.refl w3.heap.size w3).alloc (Nat.le_refl _) (.cells infoZ 53)).drew)
  have HL3 := Lib.hid hlt3
  clear hq3 hml hlt3 hs1000
  go_cut [13, 15] from 53 to 73 (fun s13 s15 wx => s13 = .int .i64 0 ∧ ∃ xb sv id, s15 = pt xb ∧ (∃ p a c, sv = .slice p a c) ∧ Blk wx xb 53 (infoC tA s.size 7 sv (.slice none 0 0) id) ∧ Kp [q.km, q.m, q.ca, q.si] w3 wx ∧ w3.heap.size ≤ xb)
  case first =>
    go_region_held3 (fun wx => wx.cell? ⟨sb, 0, none⟩ = some (.iface 29 (pt q.m)))
      (first | with_reducible assumption | with_reducible exact (cell_old2 (World.block_lt_of_cell? _ _ (by with_reducible assumption))).trans (by with_reducible assumption) | with_reducible exact (seven_keep (Nat.ne_of_lt hsb4)).trans c5 | exact (cell_old2 (World.block_lt_of_cell? _ _ C0.out)).trans C0.out | exact C0.out)
      (first
        | (go_at_call 22; (with_reducible refine (HP.out w3.drew BD3.out).mono ?_); rintro e w4 ⟨p, m, c, id, rfl, hk4⟩; have hk := HD3.out.trans hk4; have c4 : w4.cell? ⟨sb, 0, none⟩ = some (.iface 29 (pt q.m)) := (World.cell?_of_block (w := w3) (hk.block sb (World.block_lt_of_cell? _ _ C0.out) ns)).trans C0.out)
        | (go_at_call 22; (with_reducible refine (HP.out (w3.alloc _).drew BA3.out).mono ?_); rintro e w4 ⟨p, m, c, id, rfl, hk4⟩; have hk := HA3.out.trans hk4; have c4 : w4.cell? ⟨sb, 0, none⟩ = some (.iface 29 (pt q.m)) := (World.cell?_of_block (w := w3) (hk.block sb (World.block_lt_of_cell? _ _ C0.out) ns)).trans C0.out; have HZ4 := hk4.blk (Blk.drw (Blk.new w3 53 infoZ)) (by have := HL3.out; simp; omega))
        | (go_at_call 286; (with_reducible refine (HT.out w4 hk _ _ _ ⟨_, _, _, rfl⟩).mono ?_); rintro e w5 ⟨rfl, hb5⟩; have c5 : w5.cell? ⟨sb, 0, none⟩ = some (.iface 29 (pt q.m)) := (hb5.cell (World.block_lt_of_cell? _ _ c4)).trans c4; (try (have HZ := HZ4.below hb5 HZ4.lt; have hsb4 : sb < w3.heap.size := hsl; have z0 := HZ.cell 0; have z1 := HZ.cell 1; have z2 := HZ.cell 2; have z3 := HZ.cell 3; have z4 := HZ.cell 4; have z5 := HZ.cell 5; have z6 := HZ.cell 6; have y0 := HZ.frozen 0; have y1 := HZ.frozen 1; have y2 := HZ.frozen 2; have y3 := HZ.frozen 3; have y4 := HZ.frozen 4; have y5 := HZ.frozen 5; have y6 := HZ.frozen 6; simp at z0 z1 z2 z3 z4 z5 z6; replace HZ := Lib.hid HZ)))
        | (go_at_call 286; (with_reducible refine (HT.out (w4.alloc _) (hk.alloc _) _ _ _ ⟨_, _, _, rfl⟩).mono ?_); rintro e w5 ⟨rfl, hb5⟩; have hsb4 : sb < w4.heap.size := World.block_lt_of_cell? _ _ c4; have hbA : Below w4.heap.size w4 w5 := ((Below.refl w4.heap.size w4).alloc (Nat.le_refl _) _).trans (hb5.mono (by simp)); have c5 : w5.cell? ⟨sb, 0, none⟩ = some (.iface 29 (pt q.m)) := (hbA.cell (World.block_lt_of_cell? _ _ c4)).trans c4; have HZ := (Blk.new w4 53 infoZ).below hb5 (by simp); have z0 := HZ.cell 0; have z1 := HZ.cell 1; have z2 := HZ.cell 2; have z3 := HZ.cell 3; have z4 := HZ.cell 4; have z5 := HZ.cell 5; have z6 := HZ.cell 6; have y0 := HZ.frozen 0; have y1 := HZ.frozen 1; have y2 := HZ.frozen 2; have y3 := HZ.frozen 3; have y4 := HZ.frozen 4; have y5 := HZ.frozen 5; have y6 := HZ.frozen 6; simp at z0 z1 z2 z3 z4 z5 z6; replace HZ := Lib.hid HZ))
    all_goals
      have HK := Lib.hid hk
      have HB5 := Lib.hid hb5
      clear HP HT c4 c5 hk4 hk hb5
      first
        | (have HA := Lib.hid hbA; have hbs := hbA.size; clear hbA z0 z1 z2 z3 z4 z5 z6 y0 y1 y2 y3 y4 y5 y6; go_wp2_with fail; go_meet; exact ⟨rfl, _, _, _, rfl, ⟨_, _, _, rfl⟩, HZ.out.info, (HK.out.trans (Kp.of_below HA.out)).info (Or.inr HK.out.size), HK.out.size⟩)
        | (clear z0 z1 z2 z3 z4 z5 z6 y0 y1 y2 y3 y4 y5 y6; go_wp2_with fail; go_meet; exact ⟨rfl, _, _, _, rfl, ⟨_, _, _, rfl⟩, HZ.out.info, (HK.out.trans (Kp.of_below HB5.out)).info (Or.inr (Nat.le_refl _)), Nat.le_refl _⟩)
        | (go_wp2_with fail; go_meet; exact ⟨rfl, _, _, _, rfl, ⟨_, _, _, rfl⟩, Blk.new _ _ _, (HK.out.trans (Kp.of_below HB5.out)).alloc _, Nat.le_trans HK.out.size HB5.out.size⟩)
  case rest =>
    obtain ⟨rfl, xb, sv, id, rfl, ⟨p, a, c, rfl⟩, hX, hK, hle⟩ := hcut
    have HX := Lib.hid hX
    have hrl := HR3.out.lt
    have hrx : rr ≠ xb := by omega
    have hrk : rr ∉ [q.km, q.m, q.ca, q.si] := by have := HM0.out; simp; omega
    have HR := Lib.hid (hK.blk HR3.out hrk)
    have HK := Lib.hid hK
    have x2 := hX.cell 2
    have x4 := hX.cell 4
    have f2 := hX.frozen 2
    have f4 := hX.frozen 4
    simp at x2 x4
    clear HP HT HD3 HA3 BD3 BA3 C0 c0 hX hK
    go_upto_region 13 with (fail)
    have HX2 := Lib.hid (show Blk _ xb 53 #[.string tA, .bool false, .int .i64 4, .int .i64 7, .slice none 0 0, .slice none 0 0, .string id] from (HX.out.set 2 (.int .i64 4)).set 4 (.slice none 0 0))
    have hK2 := ((Kp.refl [xb] wc).setCell ⟨xb, 2, none⟩ (.int .i64 4) (Or.inl (by simp))).setCell ⟨xb, 4, none⟩ (.slice none 0 0) (Or.inl (by simp))
    have HR2 := Lib.hid (hK2.blk HR.out (by simp; omega))
    have HK2 := Lib.hid ((HK.out.setCell ⟨xb, 2, none⟩ (.int .i64 4) (Or.inr hle)).setCell ⟨xb, 4, none⟩ (.slice none 0 0) (Or.inr hle))
    clear x2 x4 f2 f4 HX HR HK hK2
    generalize ((wc.setCell ⟨xb, 2, none⟩ (.int .i64 4)).setCell ⟨xb, 4, none⟩ (.slice none 0 0)) = w6 at *
    have hX6 := HX2.out
    have r0 := hX6.cell 0
    have r1 := hX6.cell 1
    have r2 := hX6.cell 2
    have r3 := hX6.cell 3
    have r4 := hX6.cell 4
    have r5 := hX6.cell 5
    have r6 := hX6.cell 6
    simp at r0 r1 r2 r3 r4 r5 r6
    have hR6 := HR2.out
    have q0 := hR6.frozen 0
    have q1 := hR6.frozen 1
    have q2 := hR6.frozen 2
    have q3 := hR6.frozen 3
    have q4 := hR6.frozen 4
    have q5 := hR6.frozen 5
    have q6 := hR6.frozen 6
    have s0 := hR6.cell 0
    have s1 := hR6.cell 1
    have s2 := hR6.cell 2
    have s3 := hR6.cell 3
    have s4 := hR6.cell 4
    have s5 := hR6.cell 5
    have s6 := hR6.cell 6
    simp at s0 s1 s2 s3 s4 s5 s6
    clear hX6 hR6
    go_wp2_with fail
    refine bodyPost_ret (v := .tuple #[.agg #[.string tA, .bool false, .int .i64 4, .int .i64 7, .slice none 0 0, .slice none 0 0, .string id], .int .i64 0]) (results_cell_tmp (p := 10) (u := 11) Tryz.results321 _ _ rr 53 _ (0, 0) _ rfl HR2.out.info Tryz.underlying53 rfl infoInfo) rfl ⟨_, rfl, ?_⟩
    have HB3' := HB3.out
    rw [← HW.out] at HB3'
    exact ((Kp.of_below HB3').trans HK2.out).info (Or.inr (Nat.le_of_eq HW.out))
end Go.Proofs.YtpjnjhklkgefcaaGreatDoor
