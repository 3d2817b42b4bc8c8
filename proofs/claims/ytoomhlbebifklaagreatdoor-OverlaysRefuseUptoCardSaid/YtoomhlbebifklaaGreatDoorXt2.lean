/-
  The law OverlaysRefuse, its walk for one kind of key (see the hypotheses on k).
-/
import Derived.Test.YtoomhlbebifklaaGreatDoorXw
set_option linter.unusedVariables false
set_option linter.unusedSimpArgs false
namespace Go.Proofs.YtoomhlbebifklaaGreatDoor
open Go.RowKit
set_option maxRecDepth 100000 in
set_option maxHeartbeats 16000000 in
theorem law_k2 (n size block k : Int) (dir a b c : ByteArray) (w : World) (g : Gl w) (hp : P10 w) (hd : dir.size ≤ 1048576) (hn1 : -9223372036854775808 ≤ n) (hn2 : n ≤ 9223372036854775807) (hkk : k = 2) :
    Calls Tryz.prog 3 #[.int .i64 n, .int .i64 size, .int .i64 block, .int .i64 k, .string dir, .agg (kC a b c)] w fun e w' => e = .returned (.bool true) ∧ Below w.heap.size w w' := by
  have G := Lib.hid (fun wx (hb : Below w.heap.size w wx) => g.below hb)
  have PP := Lib.hid (fun wx (hb : Below w.heap.size w wx) => hp.below hb)
  have hdl : (dir.size : Int) + 1 ≤ 2000000 := by omega
  have HKK := Lib.hid hkk
  clear g hp hkk
  go_enter Tryz.func3, Tryz.ntmps3
  go_wp2_with fail
  have HK := Lib.hid (Blk.new w 23 (kC a b c))
  have HB := Lib.hid ((Below.refl w.heap.size w).alloc (Nat.le_refl _) (.cells (kC a b c) 23))
  generalize (w.alloc (.cells (kC a b c) 23)) = w1 at *
  generalize hkb : w.heap.size = kb at *
  have HKB := Lib.hid hkb
  clear hkb
  refine (wraps_ok w1 (G.out _ HB.out)).mono ?_
  rintro e w2 ⟨rfl, hb⟩
  have HK2 := Lib.hid (HK.out.below hb HK.out.lt)
  have HB2 := Lib.hid (HB.out.trans (hb.mono (Nat.le_of_lt HK.out.lt)))
  clear hb HK HB
  go_wp2_with fail
  refine (featuresOf_ok n w2 hn1 hn2).mono ?_
  rintro e w3 ⟨m0, pr, pg, rfl, hok, hpr1, hpr2, hpg1, hpg2, hb⟩
  have HK3 := Lib.hid (HK2.out.below hb HK2.out.lt)
  have HB3 := Lib.hid (HB2.out.trans (hb.mono (Nat.le_of_lt HK2.out.lt)))
  have HOK := Lib.hid hok
  clear hb HK2 HB2 hok
  go_upto_region 4 with (fail)
  have HL := Lib.hid (show L0 kb w3.heap.size a b c (lrow m0 pr 255 1024 100000 pg ⟨#[]⟩) w (w3.alloc (.cells (lrow m0 pr 255 1024 100000 pg ⟨#[]⟩) 26)) from ⟨HB3.out.alloc (Nat.le_of_lt HK3.out.lt) _, HK3.out.old _, Blk.new _ _ _, HK3.out.lt⟩)
  clear HK3 HB3
  generalize (w3.alloc (.cells (lrow m0 pr 255 1024 100000 pg ⟨#[]⟩) 26)) = w4 at *
  generalize w3.heap.size = fb at *
  obtain ⟨u1, hu1⟩ : ∃ u : Int, IntKind.u64.wrap (n) = u := ⟨_, rfl⟩
  have hu1a : 0 ≤ u1 := by rw [← hu1, IntKind.wrap_u64]; omega
  obtain ⟨x, hx⟩ : ∃ x : Int, u1 % 255 = x := ⟨_, rfl⟩
  have hxt : u1.tmod 255 = x := by rw [Int.tmod_eq_emod_of_nonneg hu1a]; exact hx
  have hx1 : 0 ≤ x := by omega
  have hx2 : x ≤ 254 := by omega
  have f3 := HL.out.hf.frozen 3
  have c3 : w4.cell? ⟨fb, 3, none⟩ = some (.int .i64 255) := HL.out.hf.cell 3
  go_upto_region 5 with (fail)
  have HL5 := Lib.hid (show L0 kb fb a b c (lrow m0 pr (1 + x) 1024 100000 pg ⟨#[]⟩) w (w4.setCell ⟨fb, 3, none⟩ (.int .i64 (1 + x))) from HL.out.set 3 (.int .i64 (1 + x)))
  clear HL hx f3 c3 hu1 hu1a hxt
  generalize (w4.setCell ⟨fb, 3, none⟩ (.int .i64 (1 + x))) = w5 at *
  generalize hmn : 1 + x = mn at *
  have hmn1 : 1 ≤ mn := by omega
  have hmn2 : mn ≤ 255 := by omega
  clear hmn hx1 hx2
  obtain ⟨u2, hu2⟩ : ∃ u : Int, IntKind.u64.wrap (n / 8) = u := ⟨_, rfl⟩
  have hu2a : 0 ≤ u2 := by rw [← hu2, IntKind.wrap_u64]; omega
  obtain ⟨y, hy⟩ : ∃ y : Int, u2 % 1024 = y := ⟨_, rfl⟩
  have hyt : u2.tmod 1024 = y := by rw [Int.tmod_eq_emod_of_nonneg hu2a]; exact hy
  have hy1 : 0 ≤ y := by omega
  have hy2 : y ≤ 1023 := by omega
  have f4 := HL5.out.hf.frozen 4
  have c3 : w5.cell? ⟨fb, 3, none⟩ = some (.int .i64 mn) := HL5.out.hf.cell 3
  have c4 : w5.cell? ⟨fb, 4, none⟩ = some (.int .i64 1024) := HL5.out.hf.cell 4
  go_upto_region 6 with (fail)
  have HL6 := Lib.hid (show L0 kb fb a b c (lrow m0 pr mn (max mn (1 + y)) 100000 pg ⟨#[]⟩) w (w5.setCell ⟨fb, 4, none⟩ (.int .i64 (max mn (1 + y)))) from HL5.out.set 4 (.int .i64 (max mn (1 + y))))
  have hmp1 : mn ≤ max mn (1 + y) := by omega
  have hmp2 : max mn (1 + y) ≤ 1024 := by omega
  clear HL5 hy f4 c3 c4 hy1 hy2 hu2 hu2a hyt
  generalize (w5.setCell ⟨fb, 4, none⟩ (.int .i64 (max mn (1 + y)))) = w6 at *
  generalize max mn (1 + y) = mp at *
  obtain ⟨u3, hu3⟩ : ∃ u : Int, IntKind.u64.wrap (n / 4) = u := ⟨_, rfl⟩
  have hu3a : 0 ≤ u3 := by rw [← hu3, IntKind.wrap_u64]; omega
  obtain ⟨ms, hz⟩ : ∃ ms : Int, u3 % 300 = ms := ⟨_, rfl⟩
  have hzt : u3.tmod 300 = ms := by rw [Int.tmod_eq_emod_of_nonneg hu3a]; exact hz
  have hms1 : 0 ≤ ms := by omega
  have hms2 : ms ≤ 300 := by omega
  have f5 := HL6.out.hf.frozen 5
  have f7 := HL6.out.hf.frozen 7
  have c5 : w6.cell? ⟨fb, 5, none⟩ = some (.int .i64 100000) := HL6.out.hf.cell 5
  have c7 : w6.cell? ⟨fb, 7, none⟩ = some (.int .i64 1) := HL6.out.hf.cell 7
  go_upto_region 8 with (fail)
  have HL7 := Lib.hid (show L0 kb fb a b c (lrow m0 pr mn mp ms pg ⟨#[]⟩) w ((w6.setCell ⟨fb, 5, none⟩ (.int .i64 ms)).setCell ⟨fb, 7, none⟩ (.int .i64 1)) from (HL6.out.set 5 (.int .i64 ms)).set 7 (.int .i64 1))
  clear HL6 hz f5 f7 c5 c7 hu3 hu3a hzt
  generalize ((w6.setCell ⟨fb, 5, none⟩ (.int .i64 ms)).setCell ⟨fb, 7, none⟩ (.int .i64 1)) = w7 at *
  have HLF := Lib.hid (fun fo => (⟨HOK.out, hpr1, hpr2, hmn1, hmn2, hmp1, hmp2, hms1, hms2, hpg1, hpg2⟩ : LF m0 pr mn mp ms pg fo))
  have q20 := i64_and1 (n / 1048576)
  go_upto_if 53 with (fail)
  clear q20
  generalize (n / 1048576 % 2 == 1) = q at *
  go_cut [54] from 54 to 54 (fun s wx => ∃ fo, (fo = ⟨#[]⟩ ∨ fo = ⟨#[46]⟩) ∧ L0 kb fb a b c (lrow m0 pr mn mp ms pg fo) w wx)
  case first =>
    have f8 := HL7.out.hf.frozen 8
    have c8 : w7.cell? ⟨fb, 8, none⟩ = some (.string ⟨#[]⟩) := HL7.out.hf.cell 8
    cases q
    · go_wp2_with fail
      go_meet
      exact ⟨⟨#[]⟩, Or.inl rfl, HL7.out⟩
    · go_wp2_with fail
      go_meet
      exact ⟨⟨#[46]⟩, Or.inr rfl, HL7.out.set 8 (.string ⟨#[46]⟩)⟩
  case rest =>
  obtain ⟨fo, hfo, hl⟩ := hcut
  have HL := Lib.hid hl
  have HFO := Lib.hid hfo
  clear hl hfo HL7
  have HW := Lib.hid (show Below kb w wc ∧ wc.cell? ⟨fb, 0, none⟩ = some (.int .i64 (m0 : Int)) ∧ wc.cell? ⟨fb, 1, none⟩ = some (.int .i64 16) ∧ wc.cell? ⟨fb, 2, none⟩ = some (.int .i64 pr) ∧ wc.cell? ⟨fb, 3, none⟩ = some (.int .i64 mn) ∧ wc.cell? ⟨fb, 4, none⟩ = some (.int .i64 mp) ∧ wc.cell? ⟨fb, 5, none⟩ = some (.int .i64 ms) ∧ wc.cell? ⟨fb, 6, none⟩ = some (.int .i64 pg) ∧ wc.cell? ⟨fb, 7, none⟩ = some (.int .i64 1) ∧ wc.cell? ⟨fb, 8, none⟩ = some (.string fo) from ⟨HL.out.hb, HL.out.hf.cell 0, HL.out.hf.cell 1, HL.out.hf.cell 2, HL.out.hf.cell 3, HL.out.hf.cell 4, HL.out.hf.cell 5, HL.out.hf.cell 6, HL.out.hf.cell 7, HL.out.hf.cell 8⟩)
  have HKL := Lib.hid (show kb ≤ wc.heap.size from Nat.le_of_lt HL.out.hk.lt)
  have HCF := Lib.hid (fun wx => checkFeaturesG_ok m0 pr mn mp ms pg fo wx HOK.out hpr1 hpr2 hmn1 hmn2 hmp1 hmp2 hms1 (by omega) hpg1 hpg2 (by rcases HFO.out with rfl | rfl; exact forbidForm_nil; exact forbidForm_dot))
  go_upto_region 10 with (fail)
  go_region_held3 (fun wx => Below kb w wx ∧ wx.cell? ⟨fb, 0, none⟩ = some (.int .i64 (m0 : Int)) ∧ wx.cell? ⟨fb, 1, none⟩ = some (.int .i64 16) ∧ wx.cell? ⟨fb, 2, none⟩ = some (.int .i64 pr) ∧ wx.cell? ⟨fb, 3, none⟩ = some (.int .i64 mn) ∧ wx.cell? ⟨fb, 4, none⟩ = some (.int .i64 mp) ∧ wx.cell? ⟨fb, 5, none⟩ = some (.int .i64 ms) ∧ wx.cell? ⟨fb, 6, none⟩ = some (.int .i64 pg) ∧ wx.cell? ⟨fb, 7, none⟩ = some (.int .i64 1) ∧ wx.cell? ⟨fb, 8, none⟩ = some (.string fo))
    (first | assumption | exact nine_below HW.out HKL.out (Cha.below_drew (Below.refl _ _)) | exact nine_below (by assumption) HKL.out hbk | exact nine_below (by assumption) (Nat.le_trans HKL.out hbk.size) hbn | exact nine_below (by assumption) (by first | exact HKL.out | exact Nat.le_trans HKL.out hbk.size) hbk)
    (first | (go_at_call 7; refine (newClock0_ok _).mono ?_; rintro e wk ⟨rfl, hbk⟩) | (go_at_call 6; have hbw := And.left (by assumption); refine (new_ok ⟨m0, 16, pr, mn, mp, ms, pg, 1, fo⟩ _ _ (G.out _ hbw).lts.1 (G.out _ hbw).lts.2 HCF.out).mono ?_; rintro e wn ⟨q, rfl, hqc, hE, hbn⟩))
  all_goals
    have HLM := Lib.hid (show LM kb fb a b c m0 pr mn mp ms pg fo q.m w wn from ⟨by first | exact (HL.out.drew.below hbk).below hbn | exact (HL.out.below hbk).below hbn, hE.featG⟩)
    clear hE hqc hbk hbn HW HL HCF HKL
    generalize q.m = m at *
    have HL := Lib.hid (HLF.out fo)
    clear HLF
    obtain ⟨c0, c3, c4, c5, c8⟩ := HLM.out.cells
    go_wp2_with fail
    refine (Tryz.strings_Contains_one fo 46 _).mono ?_
    rintro e w8 ⟨rfl, rfl⟩
    have HMV0 : ∃ mv, mostV dir mp = mv := ⟨_, rfl⟩
    obtain ⟨mv, hmv⟩ := HMV0
    obtain ⟨em, hem⟩ : ∃ em, dir.toList.isEmpty = em := ⟨_, rfl⟩
    have hmv1 : em = true → mv = mp := fun h => by rw [← hmv]; unfold mostV; rw [hem, if_pos h]
    have hmv2 : em = false → mv = mp - ((dir.size : Int) + 1) := fun h => by rw [← hmv]; unfold mostV; rw [hem, if_neg (by rw [h]; decide)]
    have HMV := Lib.hid hmv
    have HM1 := Lib.hid hmv1
    have HM2 := Lib.hid hmv2
    have hdx := Lib.hid hd
    clear hmv hmv1 hmv2
    generalize hdt : decide (0 ≤ Lib.indexByte fo.data.toList 46) = dot at *
    have HDT := Lib.hid hdt
    clear hdt
    go_wp2_with fail
    refine (namesOf_ok dir w8 (G.out _ HLM.out.l.hb) hdx.out).mono ?_
    rintro e w9 ⟨v0, rfl, hb⟩
    have HLM9 := Lib.hid (HLM.out.below hb)
    clear hb HLM c0 c3 c4 c5 c8
    obtain ⟨c0, c3, c4, c5, c8⟩ := HLM9.out.cells
    generalize hpb : pathB dir = pv at *
    have HPB := Lib.hid hpb
    clear hpb
    go_upto_if 74 with (fail)
    clear hem
    generalize hne : (!em) = ne at *
    have HNE := Lib.hid hne
    clear hne
    go_cut [19] from 75 to 79 (fun s wx => s = .int .i64 mv ∧ wx = w9)
    case first =>
      cases ne
      · have HE := Lib.hid (HM1.out (by simpa using HNE.out))
        clear HM1 HM2 HNE
        go_wp2_with fail
        go_meet
        exact ⟨by rw [HE.out], rfl⟩
      · have HE := Lib.hid (HM2.out (by simpa using HNE.out))
        clear HM1 HM2 HNE
        go_wp2_with fail
        go_meet
        exact ⟨by rw [HE.out], rfl⟩
    case rest =>
    obtain ⟨rfl, rfl⟩ := hcut
    have HLM := HLM9
    clear HLM9 HM1 HM2
    go_wp2_with fail
    refine (subAll HL.out m dir hdx.out _ (G.out _ HLM.out.l.hb) HLM.out.hm).mono ?_
    rintro e w10 ⟨v, x, rfl, hov, hxe, hb⟩
    have HOV := Lib.hid hov
    have HLM10 := Lib.hid (HLM.out.below hb)
    clear hb HLM hov c0 c3 c4 c5 c8
    have HLM := HLM10
    clear HLM10
    obtain ⟨c0, c3, c4, c5, c8⟩ := HLM.out.cells
    have hfl := HLM.out.fbl
    obtain ⟨lt, hlt⟩ : ∃ lt, decide (mv < mn) = lt := ⟨_, rfl⟩
    obtain ⟨y1, hy1⟩ : ∃ y : Int, (if (!pv) = true then (1 : Int) else 0) = y := ⟨_, rfl⟩
    obtain ⟨y2, hy2⟩ : ∃ y : Int, (if lt = true then (7 : Int) else 0) = y := ⟨_, rfl⟩
    have hfw : (if y1 ≠ 0 then y1 else y2) = x := by
      rw [hxe]
      unfold wantS
      rw [HPB.out, HMV.out, ← hy1, ← hy2, ← hlt]
      cases pv
      · simp
      · by_cases h : mv < mn
        · simp [h]
        · simp [h]
    have G1 := Lib.hid (fun w => when_law (!pv) 1 y1 w hy1)
    have G2 := Lib.hid (fun w => when_law lt 7 y2 w hy2)
    have GF := Lib.hid (fun w => first2_law y1 y2 x w hfw)
    have GD := Lib.hid (fun w => first2_drw y1 y2 x w hfw)
    clear hy1 hy2 hfw hxe
    go_upto_region 19 with (fail)
    go_cut [21] from 87 to 96 (fun s wx => s = .int .i64 x ∧ LM kb fb a b c m0 pr mn mp ms pg fo m w wx)
    case first =>
      go_region_held3 (fun wx => fb < wx.heap.size ∧ wx.cell? ⟨fb, 3, none⟩ = some (.int .i64 mn))
        (first | assumption | exact ⟨hfl, c3⟩ | exact ⟨Nat.lt_of_lt_of_le hfl (by simp), (cell_old2 hfl).trans c3⟩)
        (first | (go_at_call 12; (first | refine (G1.out _).mono ?_ | refine (G2.out _).mono ?_); rintro e wy ⟨rfl, rfl⟩) | (go_at_call 11; (first | refine (GF.out _).mono ?_ | refine (GD.out _).mono ?_); rintro e wz ⟨rfl, rfl⟩))
      all_goals
        go_wp2_with fail
        go_meet
        refine ⟨rfl, ?_⟩
        (repeat' (first | exact HLM.out | with_reducible refine LM.alloc ?_ _ | with_reducible refine LM.drew ?_))
    case rest =>
    obtain ⟨rfl, hl⟩ := hcut
    have HLM11 := Lib.hid hl
    clear hl HLM hlt G1 G2 GF GD c0 c3 c4 c5 c8 hfl
    have HLM := HLM11
    clear HLM11
    go_upto_region 20 with (fail)
    go_cut [106] from 97 to 106 (fun s wx => s = .bool false ∧ wx = wc)
    case first =>
      rcases HOV.out with ⟨rfl, hx0⟩ | ⟨t0, b0, rfl, rfl⟩
      · have hx1 : (x == 0) = false := by simpa using hx0
        have hx2 : (x != 0) = true := by simpa using hx0
        clear hx0
        go_wp2_with fail
        go_meet
        exact ⟨rfl, rfl⟩
      · go_wp2_with fail
        go_meet
        exact ⟨rfl, rfl⟩
    case rest =>
    obtain ⟨rfl, rfl⟩ := hcut
    clear HOV
    go_upto_region 22 with (fail)
    obtain ⟨k0, k1, k2⟩ := HLM.out.keys
    go_wp2_with fail
    refine (cryptAll HL.out m a b c k _ (G.out _ HLM.out.l.hb) (PP.out _ HLM.out.l.hb) HLM.out.hm).mono ?_
    rintro e w12 ⟨v2, x2, rfl, hov, hxe, hb⟩
    have HOV2 := Lib.hid hov
    have HXE := Lib.hid hxe
    have HLM12 := Lib.hid (HLM.out.below hb)
    clear hb HLM hov hxe k0 k1 k2
    obtain ⟨k0, k1, k2⟩ := HLM12.out.keys
    obtain ⟨z1, hz1⟩ : ∃ z : Int, (if a.size ≠ 32 ∨ b.size ≠ 32 ∨ c.size ≠ 16 then (6 : Int) else 0) = z := ⟨_, rfl⟩
    obtain ⟨r, hr⟩ : ∃ r, (decide (1 ≤ k) && decide (k ≤ 3)) = r := ⟨_, rfl⟩
    obtain ⟨z2, hz2⟩ : ∃ z : Int, (if (!r) = true then (5 : Int) else 0) = z := ⟨_, rfl⟩
    obtain ⟨x3, hx3⟩ : ∃ x, kindE a b c k = x := ⟨_, rfl⟩
    have hfw : (if z1 ≠ 0 then z1 else z2) = x3 := by
      rw [← hx3]
      unfold kindE
      rw [← hz1, ← hz2, ← hr]
      by_cases h : a.size ≠ 32 ∨ b.size ≠ 32 ∨ c.size ≠ 16
      · rw [if_pos h, if_pos h]; rfl
      · rw [if_neg h, if_neg h, if_neg (by simp)]
        by_cases h2 : k < 1 ∨ k > 3
        · rw [if_pos h2, if_pos (by rcases h2 with h2 | h2; · rw [decide_eq_false (by omega)]; rfl
                                    · rw [decide_eq_false (show ¬ k ≤ 3 by omega)]; simp)]
        · rw [if_neg h2, if_neg (by rw [decide_eq_true (by omega), decide_eq_true (by omega)]; simp)]
    have HKE0 := fun w => keysError_ok a b c w
    rw [hz1] at HKE0
    have HKE := Lib.hid HKE0
    have HWI0 := fun w => within_ok k 1 3 w
    rw [hr] at HWI0
    have HWI := Lib.hid HWI0
    have G2 := Lib.hid (fun w => when_law (!r) 5 z2 w hz2)
    have GF := Lib.hid (fun w => first2_law z1 z2 x3 w hfw)
    have HX3 := Lib.hid hx3
    clear hz1 hr hz2 hx3 hfw HKE0 HWI0
    go_wp2_with fail
    refine (HKE.out _).mono ?_
    rintro e w13 ⟨rfl, hb⟩
    have HLM13 := Lib.hid (HLM12.out.below hb)
    have HOV3 := Lib.hid (HOV2.out.below hb)
    clear hb HLM12 k0 k1 k2
    go_wp2_with fail
    refine (HWI.out _).mono ?_
    rintro e w14 ⟨rfl, rfl⟩
    go_wp2_with fail
    refine (G2.out _).mono ?_
    rintro e w15 ⟨rfl, rfl⟩
    go_wp2_with fail
    refine (GF.out _).mono ?_
    rintro e w16 ⟨rfl, rfl⟩
    have HLM := Lib.hid (HLM13.out.alloc (.cells #[.int .i64 z1, .int .i64 z2] 30))
    have HOV4 := Lib.hid (HOV3.out.alloc (.cells #[.int .i64 z1, .int .i64 z2] 30))
    clear HLM13 HKE HWI G2 GF HOV2 HOV3
    generalize (World.alloc w15 (.cells #[.int .i64 z1, .int .i64 z2] 30)) = w17 at *
    obtain ⟨c0, c3, c4, c5, c8⟩ := HLM.out.cells
    go_upto_region 25 with (fail)
    go_upto_region 25 with (fail)
    have hk2 := HKK.out
    clear HKK
    subst hk2
    have hm5 : 0 ≤ mn * 5 := by omega
    have hk2 : (2 : Int) = 2 := rfl
    go_upto_region 30 with (fail)
    obtain ⟨nk, hnk0⟩ : ∃ z : Int, mn * 5 / 8 - 16 = z := ⟨_, rfl⟩
    have hnk : nameK 2 mn = nk := by rw [← hnk0]; unfold nameK; rfl
    rw [hnk0]
    have hnk1 : -100 ≤ nk := by omega
    have hnk2 : nk ≤ 300 := by omega
    clear hnk0
    rw [hnk] at HOV4
    have HNK := Lib.hid hnk
    clear hnk
    obtain ⟨hb, hbx⟩ : ∃ hb, decide (m0 &&& 2 = 0) = hb := ⟨_, rfl⟩
    have HBT := hb_bit HOK.out.lt hb hbx
    rw [hbx] at HXE
    rw [show dotB fo = dot from HDT.out] at HXE
    clear hbx
    have SL0 := Lib.hid (fun w => sealedLength0_ok w)
    go_cut [21] from 139 to 167 (fun s wx => s = .int .i64 x2 ∧ LM kb fb a b c m0 pr mn mp ms pg fo m w wx ∧ OvC v2 x2 pr nk mp pg wx)
    case first =>
      by_cases g1 : nk < 1
      · skip
        have d1 : decide (nk < 1) = true := decide_eq_true g1
        have hcv : condC 2 mn ms dot hb = true := by unfold condC; rw [HNK.out]; rw [d1]; rfl
        have hfw : (if x3 ≠ 0 then x3 else 12) = x2 := by rw [HXE.out]; unfold wantC; rw [HX3.out, hcv]; rfl
        have CW := Lib.hid (fun w => when_law true 12 12 w rfl)
        have GF := Lib.hid (fun w => first2_law x3 12 x2 w hfw)
        have GD := Lib.hid (fun w => first2_drw x3 12 x2 w hfw)
        clear hcv hfw
        refine wp_region_still_tail 27 (by kernel_rfl) (by kernel_rfl) ?_
        simp only [List.take_succ_cons, List.take_zero, List.drop_succ_cons, List.drop_zero]
        iterate 4 ((with_reducible refine wpStill_step (fun K hK => ?_)); go_simp; (with_reducible refine hK _ ?_); clear hK K)
        iterate 4 ((with_reducible refine still_skip (by kernel_rfl) ?_); simp only [Act.put, List.setIfInBounds_toArray, List.set_cons_zero, List.set_cons_succ])
        iterate 2 ((with_reducible refine wpStill_step (fun K hK => ?_)); go_simp; (with_reducible refine hK _ ?_); clear hK K)
        iterate 5 ((with_reducible refine still_skip (by kernel_rfl) ?_); simp only [Act.put, List.setIfInBounds_toArray, List.set_cons_zero, List.set_cons_succ])
        iterate 2 ((with_reducible refine wpStill_step (fun K hK => ?_)); go_simp; (with_reducible refine hK _ ?_); clear hK K)
        iterate 8 ((with_reducible refine still_skip (by kernel_rfl) ?_); simp only [Act.put, List.setIfInBounds_toArray, List.set_cons_zero, List.set_cons_succ])
        iterate 1 ((with_reducible refine wpStill_step (fun K hK => ?_)); go_simp; (with_reducible refine hK _ ?_); clear hK K)
        ((with_reducible refine wpStill_step (fun K hK => ?_)); go_simp; refine ⟨_, by refine (CW.out _).mono ?_; rintro e w' ⟨rfl, rfl⟩; exact ⟨rfl, rfl⟩, hK _ ?_⟩; clear hK K)
        (with_reducible refine wpStill_nil ?_)
        change wpList _ _ _ _ _ w17.drew
        go_wp2_with fail
        first | refine (GF.out _).mono ?_ | refine (GD.out _).mono ?_
        rintro e wz ⟨rfl, rfl⟩
        go_wp2_with fail
        go_meet
        refine ⟨rfl, ?_, ?_⟩
        · (repeat' (first | exact HLM.out | with_reducible refine LM.alloc ?_ _ | with_reducible refine LM.drew ?_))
        · (repeat' (first | exact HOV4.out | with_reducible refine OvC.alloc ?_ _ | with_reducible refine OvC.drew ?_))
      by_cases g2 : ms < 36
      · skip
        have d1 : decide (nk < 1) = false := decide_eq_false g1
        have d2 : decide (ms < 36) = true := decide_eq_true g2
        have hcv : condC 2 mn ms dot hb = true := by unfold condC; rw [HNK.out]; rw [d2]; simp
        have hfw : (if x3 ≠ 0 then x3 else 12) = x2 := by rw [HXE.out]; unfold wantC; rw [HX3.out, hcv]; rfl
        have CW := Lib.hid (fun w => when_law true 12 12 w rfl)
        have GF := Lib.hid (fun w => first2_law x3 12 x2 w hfw)
        have GD := Lib.hid (fun w => first2_drw x3 12 x2 w hfw)
        clear hcv hfw
        refine wp_region_still_tail 27 (by kernel_rfl) (by kernel_rfl) ?_
        simp only [List.take_succ_cons, List.take_zero, List.drop_succ_cons, List.drop_zero]
        iterate 4 ((with_reducible refine wpStill_step (fun K hK => ?_)); go_simp; (with_reducible refine hK _ ?_); clear hK K)
        iterate 2 ((with_reducible refine still_want (by kernel_rfl) (fun K hK => ?_)); go_simp; (with_reducible refine hK _ ?_); clear hK K)
        ((with_reducible refine still_want (by kernel_rfl) (fun K hK => ?_)); go_simp; refine ⟨_, by refine (SL0.out _).mono ?_; rintro e w' ⟨rfl, rfl⟩; exact ⟨rfl, rfl⟩, hK _ ?_⟩; clear hK K)
        iterate 1 ((with_reducible refine still_want (by kernel_rfl) (fun K hK => ?_)); go_simp; (with_reducible refine hK _ ?_); clear hK K)
        iterate 2 ((with_reducible refine wpStill_step (fun K hK => ?_)); go_simp; (with_reducible refine hK _ ?_); clear hK K)
        iterate 5 ((with_reducible refine still_skip (by kernel_rfl) ?_); simp only [Act.put, List.setIfInBounds_toArray, List.set_cons_zero, List.set_cons_succ])
        iterate 2 ((with_reducible refine wpStill_step (fun K hK => ?_)); go_simp; (with_reducible refine hK _ ?_); clear hK K)
        iterate 8 ((with_reducible refine still_skip (by kernel_rfl) ?_); simp only [Act.put, List.setIfInBounds_toArray, List.set_cons_zero, List.set_cons_succ])
        iterate 1 ((with_reducible refine wpStill_step (fun K hK => ?_)); go_simp; (with_reducible refine hK _ ?_); clear hK K)
        ((with_reducible refine wpStill_step (fun K hK => ?_)); go_simp; refine ⟨_, by refine (CW.out _).mono ?_; rintro e w' ⟨rfl, rfl⟩; exact ⟨rfl, rfl⟩, hK _ ?_⟩; clear hK K)
        (with_reducible refine wpStill_nil ?_)
        change wpList _ _ _ _ _ w17.drew
        go_wp2_with fail
        first | refine (GF.out _).mono ?_ | refine (GD.out _).mono ?_
        rintro e wz ⟨rfl, rfl⟩
        go_wp2_with fail
        go_meet
        refine ⟨rfl, ?_, ?_⟩
        · (repeat' (first | exact HLM.out | with_reducible refine LM.alloc ?_ _ | with_reducible refine LM.drew ?_))
        · (repeat' (first | exact HOV4.out | with_reducible refine OvC.alloc ?_ _ | with_reducible refine OvC.drew ?_))
      have d1 : decide (nk < 1) = false := decide_eq_false g1
      have d2 : decide (ms < 36) = false := decide_eq_false g2
      have hcv : condC 2 mn ms dot hb = false := by unfold condC; rw [HNK.out]; rw [d1, d2]; simp [hk2]
      have hfw : (if x3 ≠ 0 then x3 else 0) = x2 := by rw [HXE.out]; unfold wantC; rw [HX3.out, hcv]; simp
      have CW := Lib.hid (fun w => when_law false 12 0 w rfl)
      have GF := Lib.hid (fun w => first2_law x3 0 x2 w hfw)
      have GD := Lib.hid (fun w => first2_drw x3 0 x2 w hfw)
      clear hcv hfw
      refine wp_region_still_tail 27 (by kernel_rfl) (by kernel_rfl) ?_
      simp only [List.take_succ_cons, List.take_zero, List.drop_succ_cons, List.drop_zero]
      iterate 4 ((with_reducible refine wpStill_step (fun K hK => ?_)); go_simp; (with_reducible refine hK _ ?_); clear hK K)
      iterate 2 ((with_reducible refine still_want (by kernel_rfl) (fun K hK => ?_)); go_simp; (with_reducible refine hK _ ?_); clear hK K)
      ((with_reducible refine still_want (by kernel_rfl) (fun K hK => ?_)); go_simp; refine ⟨_, by refine (SL0.out _).mono ?_; rintro e w' ⟨rfl, rfl⟩; exact ⟨rfl, rfl⟩, hK _ ?_⟩; clear hK K)
      iterate 1 ((with_reducible refine still_want (by kernel_rfl) (fun K hK => ?_)); go_simp; (with_reducible refine hK _ ?_); clear hK K)
      iterate 2 ((with_reducible refine wpStill_step (fun K hK => ?_)); go_simp; (with_reducible refine hK _ ?_); clear hK K)
      iterate 3 ((with_reducible refine still_want (by kernel_rfl) (fun K hK => ?_)); go_simp; (with_reducible refine hK _ ?_); clear hK K)
      iterate 1 ((with_reducible refine still_skip (by kernel_rfl) ?_); simp only [Act.put, List.setIfInBounds_toArray, List.set_cons_zero, List.set_cons_succ])
      iterate 1 ((with_reducible refine still_want (by kernel_rfl) (fun K hK => ?_)); go_simp; (with_reducible refine hK _ ?_); clear hK K)
      iterate 2 ((with_reducible refine wpStill_step (fun K hK => ?_)); go_simp; (with_reducible refine hK _ ?_); clear hK K)
      iterate 3 ((with_reducible refine still_want (by kernel_rfl) (fun K hK => ?_)); go_simp; (with_reducible refine hK _ ?_); clear hK K)
      iterate 4 ((with_reducible refine still_skip (by kernel_rfl) ?_); simp only [Act.put, List.setIfInBounds_toArray, List.set_cons_zero, List.set_cons_succ])
      iterate 1 ((with_reducible refine still_want (by kernel_rfl) (fun K hK => ?_)); go_simp; (with_reducible refine hK _ ?_); clear hK K)
      iterate 1 ((with_reducible refine wpStill_step (fun K hK => ?_)); go_simp; (with_reducible refine hK _ ?_); clear hK K)
      ((with_reducible refine wpStill_step (fun K hK => ?_)); go_simp; refine ⟨_, by refine (CW.out _).mono ?_; rintro e w' ⟨rfl, rfl⟩; exact ⟨rfl, rfl⟩, hK _ ?_⟩; clear hK K)
      (with_reducible refine wpStill_nil ?_)
      change wpList _ _ _ _ _ w17.drew
      go_wp2_with fail
      first | refine (GF.out _).mono ?_ | refine (GD.out _).mono ?_
      rintro e wz ⟨rfl, rfl⟩
      go_wp2_with fail
      go_meet
      refine ⟨rfl, ?_, ?_⟩
      · (repeat' (first | exact HLM.out | with_reducible refine LM.alloc ?_ _ | with_reducible refine LM.drew ?_))
      · (repeat' (first | exact HOV4.out | with_reducible refine OvC.alloc ?_ _ | with_reducible refine OvC.drew ?_))
    case rest =>
    obtain ⟨rfl, hl, hov⟩ := hcut
    have HLM5 := Lib.hid hl
    have HOV5 := Lib.hid hov
    clear hl hov HLM HOV4 c0 c3 c4 c5 c8 HNK HXE HX3 HBT SL0
    have HLM := HLM5
    clear HLM5
    go_upto_region 31 with (fail)
    go_cut [188] from 168 to 188 (fun s wx => s = .bool false ∧ LM kb fb a b c m0 pr mn mp ms pg fo m w wx)
    case first =>
      rcases HOV5.out with ⟨rfl, hx0⟩ | ⟨cb, h1, ms1, fo1, rfl, rfl, hF⟩
      · have hx1 : (x2 == 0) = false := by simpa using hx0
        have hx2 : (x2 != 0) = true := by simpa using hx0
        clear hx0
        go_wp2_with fail
        go_meet
        exact ⟨rfl, HLM.out⟩
      · have HCF := Lib.hid hF
        clear hF
        have hf3 := fun w => field3G h1 0 pr nk mp ms1 pg 1 fo1 w
        go_wp2_with fail
        refine (crFeatures_ok cb _ _ _ _ _ _ _ _ HCF.out).mono ?_
        rintro e wf ⟨rfl, hb⟩
        have HLMf := Lib.hid (HLM.out.below hb)
        clear hb
        go_wp2_with fail
        go_meet
        exact ⟨rfl, HLMf.out⟩
    case rest =>
    obtain ⟨rfl, hl⟩ := hcut
    have HLM6 := Lib.hid hl
    clear hl HLM HOV5
    have HLM := HLM6
    clear HLM6
    go_wp2_with fail
    refine (squeezeAll HL.out m block _ HLM.out.hm).mono ?_
    rintro e w22 ⟨v4, x4, rfl, hov, hxe, hb⟩
    have HOV6 := Lib.hid hov
    have HXE := Lib.hid hxe
    have HLM7 := Lib.hid (HLM.out.below hb)
    clear hb hov hxe HLM
    have HLM := HLM7
    clear HLM7
    rw [show dotB fo = dot from HDT.out] at HXE
    obtain ⟨c0, c3, c4, c5, c8⟩ := HLM.out.cells
    obtain ⟨r4, hr4⟩ : ∃ r, (decide (16 ≤ block) && decide (block ≤ 16384)) = r := ⟨_, rfl⟩
    obtain ⟨y4, hy4⟩ : ∃ z : Int, (if (!r4) = true then (7 : Int) else 0) = z := ⟨_, rfl⟩
    have HWI0 := fun w => within_ok block 16 16384 w
    rw [hr4] at HWI0
    have HWI := Lib.hid HWI0
    have G1 := Lib.hid (fun w => when_law (!r4) 7 y4 w hy4)
    have HQ4 := Lib.hid (show ∀ z : Int, (if block < 16 ∨ 16384 < block then (7 : Int) else z) = (if y4 ≠ 0 then y4 else z) from fun z => by
      rw [← hy4, ← hr4]
      by_cases h : block < 16 ∨ 16384 < block
      · rw [if_pos h]
        rcases h with h | h
        · rw [decide_eq_false (show ¬ 16 ≤ block by omega)]; rfl
        · rw [decide_eq_false (show ¬ block ≤ 16384 by omega)]; simp
      · rw [if_neg h, decide_eq_true (show 16 ≤ block by omega), decide_eq_true (show block ≤ 16384 by omega)]; rfl)
    clear hr4 hy4 HWI0
    go_upto_region 34 with (fail)
    go_cut [21] from 196 to 213 (fun s wx => s = .int .i64 x4 ∧ LM kb fb a b c m0 pr mn mp ms pg fo m w wx)
    case first =>
      by_cases g1 : mn < 4
      · skip
        have d1 : decide (mn < 4) = true := decide_eq_true g1
        have hfw : (if y4 ≠ 0 then y4 else 12) = x4 := by rw [HXE.out]; unfold wantQ; rw [HQ4.out]; rw [if_pos (Or.inl g1)]
        have CW := Lib.hid (fun w => when_law true 12 12 w rfl)
        have GF := Lib.hid (fun w => first2_law y4 12 x4 w hfw)
        have GD := Lib.hid (fun w => first2_drw y4 12 x4 w hfw)
        clear hfw
        refine wp_region_still_tail 16 (by kernel_rfl) (by kernel_rfl) ?_
        simp only [List.take_succ_cons, List.take_zero, List.drop_succ_cons, List.drop_zero]
        iterate 1 ((with_reducible refine wpStill_step (fun K hK => ?_)); go_simp; (with_reducible refine hK _ ?_); clear hK K)
        ((with_reducible refine wpStill_step (fun K hK => ?_)); go_simp; refine ⟨_, by refine (HWI.out _).mono ?_; rintro e w' ⟨rfl, rfl⟩; exact ⟨rfl, rfl⟩, hK _ ?_⟩; clear hK K)
        iterate 1 ((with_reducible refine wpStill_step (fun K hK => ?_)); go_simp; (with_reducible refine hK _ ?_); clear hK K)
        ((with_reducible refine wpStill_step (fun K hK => ?_)); go_simp; refine ⟨_, by refine (G1.out _).mono ?_; rintro e w' ⟨rfl, rfl⟩; exact ⟨rfl, rfl⟩, hK _ ?_⟩; clear hK K)
        iterate 4 ((with_reducible refine wpStill_step (fun K hK => ?_)); go_simp; (with_reducible refine hK _ ?_); clear hK K)
        iterate 3 ((with_reducible refine still_skip (by kernel_rfl) ?_); simp only [Act.put, List.setIfInBounds_toArray, List.set_cons_zero, List.set_cons_succ])
        iterate 2 ((with_reducible refine wpStill_step (fun K hK => ?_)); go_simp; (with_reducible refine hK _ ?_); clear hK K)
        iterate 1 ((with_reducible refine still_skip (by kernel_rfl) ?_); simp only [Act.put, List.setIfInBounds_toArray, List.set_cons_zero, List.set_cons_succ])
        iterate 1 ((with_reducible refine wpStill_step (fun K hK => ?_)); go_simp; (with_reducible refine hK _ ?_); clear hK K)
        ((with_reducible refine wpStill_step (fun K hK => ?_)); go_simp; refine ⟨_, by refine (CW.out _).mono ?_; rintro e w' ⟨rfl, rfl⟩; exact ⟨rfl, rfl⟩, hK _ ?_⟩; clear hK K)
        (with_reducible refine wpStill_nil ?_)
        change wpList _ _ _ _ _ w22.drew
        go_wp2_with fail
        first | refine (GF.out _).mono ?_ | refine (GD.out _).mono ?_
        rintro e wz ⟨rfl, rfl⟩
        go_wp2_with fail
        go_meet
        refine ⟨rfl, ?_⟩
        (repeat' (first | exact HLM.out | with_reducible refine LM.alloc ?_ _ | with_reducible refine LM.drew ?_))
      by_cases g2 : ms < 16
      · skip
        have d1 : decide (mn < 4) = false := decide_eq_false g1
        have d2 : decide (ms < 16) = true := decide_eq_true g2
        have hfw : (if y4 ≠ 0 then y4 else 12) = x4 := by rw [HXE.out]; unfold wantQ; rw [HQ4.out]; rw [if_pos (Or.inr (Or.inl g2))]
        have CW := Lib.hid (fun w => when_law true 12 12 w rfl)
        have GF := Lib.hid (fun w => first2_law y4 12 x4 w hfw)
        have GD := Lib.hid (fun w => first2_drw y4 12 x4 w hfw)
        clear hfw
        refine wp_region_still_tail 16 (by kernel_rfl) (by kernel_rfl) ?_
        simp only [List.take_succ_cons, List.take_zero, List.drop_succ_cons, List.drop_zero]
        iterate 1 ((with_reducible refine wpStill_step (fun K hK => ?_)); go_simp; (with_reducible refine hK _ ?_); clear hK K)
        ((with_reducible refine wpStill_step (fun K hK => ?_)); go_simp; refine ⟨_, by refine (HWI.out _).mono ?_; rintro e w' ⟨rfl, rfl⟩; exact ⟨rfl, rfl⟩, hK _ ?_⟩; clear hK K)
        iterate 1 ((with_reducible refine wpStill_step (fun K hK => ?_)); go_simp; (with_reducible refine hK _ ?_); clear hK K)
        ((with_reducible refine wpStill_step (fun K hK => ?_)); go_simp; refine ⟨_, by refine (G1.out _).mono ?_; rintro e w' ⟨rfl, rfl⟩; exact ⟨rfl, rfl⟩, hK _ ?_⟩; clear hK K)
        iterate 4 ((with_reducible refine wpStill_step (fun K hK => ?_)); go_simp; (with_reducible refine hK _ ?_); clear hK K)
        iterate 3 ((with_reducible refine still_want (by kernel_rfl) (fun K hK => ?_)); go_simp; (with_reducible refine hK _ ?_); clear hK K)
        iterate 2 ((with_reducible refine wpStill_step (fun K hK => ?_)); go_simp; (with_reducible refine hK _ ?_); clear hK K)
        iterate 1 ((with_reducible refine still_skip (by kernel_rfl) ?_); simp only [Act.put, List.setIfInBounds_toArray, List.set_cons_zero, List.set_cons_succ])
        iterate 1 ((with_reducible refine wpStill_step (fun K hK => ?_)); go_simp; (with_reducible refine hK _ ?_); clear hK K)
        ((with_reducible refine wpStill_step (fun K hK => ?_)); go_simp; refine ⟨_, by refine (CW.out _).mono ?_; rintro e w' ⟨rfl, rfl⟩; exact ⟨rfl, rfl⟩, hK _ ?_⟩; clear hK K)
        (with_reducible refine wpStill_nil ?_)
        change wpList _ _ _ _ _ w22.drew
        go_wp2_with fail
        first | refine (GF.out _).mono ?_ | refine (GD.out _).mono ?_
        rintro e wz ⟨rfl, rfl⟩
        go_wp2_with fail
        go_meet
        refine ⟨rfl, ?_⟩
        (repeat' (first | exact HLM.out | with_reducible refine LM.alloc ?_ _ | with_reducible refine LM.drew ?_))
      cases dot
      · skip
        have d1 : decide (mn < 4) = false := decide_eq_false g1
        have d2 : decide (ms < 16) = false := decide_eq_false g2
        have hfw : (if y4 ≠ 0 then y4 else 0) = x4 := by rw [HXE.out]; unfold wantQ; rw [HQ4.out]; rw [if_neg (show ¬ (mn < 4 ∨ ms < 16 ∨ false = true) from by rintro (h | h | h); exact g1 h; exact g2 h; cases h)]
        have CW := Lib.hid (fun w => when_law false 12 0 w rfl)
        have GF := Lib.hid (fun w => first2_law y4 0 x4 w hfw)
        have GD := Lib.hid (fun w => first2_drw y4 0 x4 w hfw)
        clear hfw
        refine wp_region_still_tail 16 (by kernel_rfl) (by kernel_rfl) ?_
        simp only [List.take_succ_cons, List.take_zero, List.drop_succ_cons, List.drop_zero]
        iterate 1 ((with_reducible refine wpStill_step (fun K hK => ?_)); go_simp; (with_reducible refine hK _ ?_); clear hK K)
        ((with_reducible refine wpStill_step (fun K hK => ?_)); go_simp; refine ⟨_, by refine (HWI.out _).mono ?_; rintro e w' ⟨rfl, rfl⟩; exact ⟨rfl, rfl⟩, hK _ ?_⟩; clear hK K)
        iterate 1 ((with_reducible refine wpStill_step (fun K hK => ?_)); go_simp; (with_reducible refine hK _ ?_); clear hK K)
        ((with_reducible refine wpStill_step (fun K hK => ?_)); go_simp; refine ⟨_, by refine (G1.out _).mono ?_; rintro e w' ⟨rfl, rfl⟩; exact ⟨rfl, rfl⟩, hK _ ?_⟩; clear hK K)
        iterate 4 ((with_reducible refine wpStill_step (fun K hK => ?_)); go_simp; (with_reducible refine hK _ ?_); clear hK K)
        iterate 3 ((with_reducible refine still_want (by kernel_rfl) (fun K hK => ?_)); go_simp; (with_reducible refine hK _ ?_); clear hK K)
        iterate 2 ((with_reducible refine wpStill_step (fun K hK => ?_)); go_simp; (with_reducible refine hK _ ?_); clear hK K)
        iterate 1 ((with_reducible refine still_want (by kernel_rfl) (fun K hK => ?_)); go_simp; (with_reducible refine hK _ ?_); clear hK K)
        iterate 1 ((with_reducible refine wpStill_step (fun K hK => ?_)); go_simp; (with_reducible refine hK _ ?_); clear hK K)
        ((with_reducible refine wpStill_step (fun K hK => ?_)); go_simp; refine ⟨_, by refine (CW.out _).mono ?_; rintro e w' ⟨rfl, rfl⟩; exact ⟨rfl, rfl⟩, hK _ ?_⟩; clear hK K)
        (with_reducible refine wpStill_nil ?_)
        change wpList _ _ _ _ _ w22.drew
        go_wp2_with fail
        first | refine (GF.out _).mono ?_ | refine (GD.out _).mono ?_
        rintro e wz ⟨rfl, rfl⟩
        go_wp2_with fail
        go_meet
        refine ⟨rfl, ?_⟩
        (repeat' (first | exact HLM.out | with_reducible refine LM.alloc ?_ _ | with_reducible refine LM.drew ?_))
      · skip
        have d1 : decide (mn < 4) = false := decide_eq_false g1
        have d2 : decide (ms < 16) = false := decide_eq_false g2
        have hfw : (if y4 ≠ 0 then y4 else 12) = x4 := by rw [HXE.out]; unfold wantQ; rw [HQ4.out]; rw [if_pos (Or.inr (Or.inr rfl))]
        have CW := Lib.hid (fun w => when_law true 12 12 w rfl)
        have GF := Lib.hid (fun w => first2_law y4 12 x4 w hfw)
        have GD := Lib.hid (fun w => first2_drw y4 12 x4 w hfw)
        clear hfw
        refine wp_region_still_tail 16 (by kernel_rfl) (by kernel_rfl) ?_
        simp only [List.take_succ_cons, List.take_zero, List.drop_succ_cons, List.drop_zero]
        iterate 1 ((with_reducible refine wpStill_step (fun K hK => ?_)); go_simp; (with_reducible refine hK _ ?_); clear hK K)
        ((with_reducible refine wpStill_step (fun K hK => ?_)); go_simp; refine ⟨_, by refine (HWI.out _).mono ?_; rintro e w' ⟨rfl, rfl⟩; exact ⟨rfl, rfl⟩, hK _ ?_⟩; clear hK K)
        iterate 1 ((with_reducible refine wpStill_step (fun K hK => ?_)); go_simp; (with_reducible refine hK _ ?_); clear hK K)
        ((with_reducible refine wpStill_step (fun K hK => ?_)); go_simp; refine ⟨_, by refine (G1.out _).mono ?_; rintro e w' ⟨rfl, rfl⟩; exact ⟨rfl, rfl⟩, hK _ ?_⟩; clear hK K)
        iterate 4 ((with_reducible refine wpStill_step (fun K hK => ?_)); go_simp; (with_reducible refine hK _ ?_); clear hK K)
        iterate 3 ((with_reducible refine still_want (by kernel_rfl) (fun K hK => ?_)); go_simp; (with_reducible refine hK _ ?_); clear hK K)
        iterate 2 ((with_reducible refine wpStill_step (fun K hK => ?_)); go_simp; (with_reducible refine hK _ ?_); clear hK K)
        iterate 1 ((with_reducible refine still_want (by kernel_rfl) (fun K hK => ?_)); go_simp; (with_reducible refine hK _ ?_); clear hK K)
        iterate 1 ((with_reducible refine wpStill_step (fun K hK => ?_)); go_simp; (with_reducible refine hK _ ?_); clear hK K)
        ((with_reducible refine wpStill_step (fun K hK => ?_)); go_simp; refine ⟨_, by refine (CW.out _).mono ?_; rintro e w' ⟨rfl, rfl⟩; exact ⟨rfl, rfl⟩, hK _ ?_⟩; clear hK K)
        (with_reducible refine wpStill_nil ?_)
        change wpList _ _ _ _ _ w22.drew
        go_wp2_with fail
        first | refine (GF.out _).mono ?_ | refine (GD.out _).mono ?_
        rintro e wz ⟨rfl, rfl⟩
        go_wp2_with fail
        go_meet
        refine ⟨rfl, ?_⟩
        (repeat' (first | exact HLM.out | with_reducible refine LM.alloc ?_ _ | with_reducible refine LM.drew ?_))
    case rest =>
    obtain ⟨rfl, hl⟩ := hcut
    have HLM8 := Lib.hid hl
    clear hl HLM c0 c3 c4 c5 c8 HXE HQ4 G1 HWI
    have HLM := HLM8
    clear HLM8
    go_upto_region 35 with (fail)
    go_cut [223] from 214 to 223 (fun s wx => s = .bool false ∧ wx = wc)
    case first =>
      rcases HOV6.out with ⟨rfl, hx0⟩ | ⟨t0, b0, rfl, rfl⟩
      · have hx1 : (x4 == 0) = false := by simpa using hx0
        have hx2 : (x4 != 0) = true := by simpa using hx0
        clear hx0
        go_wp2_with fail
        go_meet
        exact ⟨rfl, rfl⟩
      · go_wp2_with fail
        go_meet
        exact ⟨rfl, rfl⟩
    case rest =>
    obtain ⟨rfl, rfl⟩ := hcut
    clear HOV6
    go_wp2_with fail
    refine (chunksAll HL.out m size _ HLM.out.hm).mono ?_
    rintro e w32 ⟨v5, x5, rfl, hov, hxe, hb⟩
    have HOV7 := Lib.hid hov
    have HXE := Lib.hid hxe
    have HLM7 := Lib.hid (HLM.out.below hb)
    clear hb hov hxe HLM
    have HLM := HLM7
    clear HLM7
    rw [show dotB fo = dot from HDT.out] at HXE
    obtain ⟨c0, c3, c4, c5, c8⟩ := HLM.out.cells
    obtain ⟨r5, hr5⟩ : ∃ r, (decide (1 ≤ size) && decide (size ≤ 1048576)) = r := ⟨_, rfl⟩
    obtain ⟨y5, hy5⟩ : ∃ z : Int, (if (!r5) = true then (7 : Int) else 0) = z := ⟨_, rfl⟩
    have HWI0 := fun w => within_ok size 1 1048576 w
    rw [hr5] at HWI0
    have HWI := Lib.hid HWI0
    have G1 := Lib.hid (fun w => when_law (!r5) 7 y5 w hy5)
    have HQ5 := Lib.hid (show ∀ z : Int, (if size < 1 ∨ 1048576 < size then (7 : Int) else z) = (if y5 ≠ 0 then y5 else z) from fun z => by
      rw [← hy5, ← hr5]
      by_cases h : size < 1 ∨ 1048576 < size
      · rw [if_pos h]
        rcases h with h | h
        · rw [decide_eq_false (show ¬ 1 ≤ size by omega)]; rfl
        · rw [decide_eq_false (show ¬ size ≤ 1048576 by omega)]; simp
      · rw [if_neg h, decide_eq_true (show 1 ≤ size by omega), decide_eq_true (show size ≤ 1048576 by omega)]; rfl)
    clear hr5 hy5 HWI0
    go_upto_region 38 with (fail)
    go_cut [21] from 231 to 254 (fun s wx => s = .int .i64 x5 ∧ LM kb fb a b c m0 pr mn mp ms pg fo m w wx)
    case first =>
      by_cases g1 : mn < 28
      · skip
        have d1 : decide (mn < 28) = true := decide_eq_true g1
        have hfw : (if y5 ≠ 0 then y5 else 12) = x5 := by rw [HXE.out]; unfold wantH; rw [HQ5.out]; rw [if_pos (Or.inl g1)]
        have CW := Lib.hid (fun w => when_law true 12 12 w rfl)
        have GF := Lib.hid (fun w => first2_law y5 12 x5 w hfw)
        have GD := Lib.hid (fun w => first2_drw y5 12 x5 w hfw)
        clear hfw
        refine wp_region_still_tail 22 (by kernel_rfl) (by kernel_rfl) ?_
        simp only [List.take_succ_cons, List.take_zero, List.drop_succ_cons, List.drop_zero]
        iterate 1 ((with_reducible refine wpStill_step (fun K hK => ?_)); go_simp; (with_reducible refine hK _ ?_); clear hK K)
        ((with_reducible refine wpStill_step (fun K hK => ?_)); go_simp; refine ⟨_, by refine (HWI.out _).mono ?_; rintro e w' ⟨rfl, rfl⟩; exact ⟨rfl, rfl⟩, hK _ ?_⟩; clear hK K)
        iterate 1 ((with_reducible refine wpStill_step (fun K hK => ?_)); go_simp; (with_reducible refine hK _ ?_); clear hK K)
        ((with_reducible refine wpStill_step (fun K hK => ?_)); go_simp; refine ⟨_, by refine (G1.out _).mono ?_; rintro e w' ⟨rfl, rfl⟩; exact ⟨rfl, rfl⟩, hK _ ?_⟩; clear hK K)
        iterate 4 ((with_reducible refine wpStill_step (fun K hK => ?_)); go_simp; (with_reducible refine hK _ ?_); clear hK K)
        iterate 3 ((with_reducible refine still_skip (by kernel_rfl) ?_); simp only [Act.put, List.setIfInBounds_toArray, List.set_cons_zero, List.set_cons_succ])
        iterate 2 ((with_reducible refine wpStill_step (fun K hK => ?_)); go_simp; (with_reducible refine hK _ ?_); clear hK K)
        iterate 4 ((with_reducible refine still_skip (by kernel_rfl) ?_); simp only [Act.put, List.setIfInBounds_toArray, List.set_cons_zero, List.set_cons_succ])
        iterate 2 ((with_reducible refine wpStill_step (fun K hK => ?_)); go_simp; (with_reducible refine hK _ ?_); clear hK K)
        iterate 1 ((with_reducible refine still_skip (by kernel_rfl) ?_); simp only [Act.put, List.setIfInBounds_toArray, List.set_cons_zero, List.set_cons_succ])
        iterate 1 ((with_reducible refine wpStill_step (fun K hK => ?_)); go_simp; (with_reducible refine hK _ ?_); clear hK K)
        ((with_reducible refine wpStill_step (fun K hK => ?_)); go_simp; refine ⟨_, by refine (CW.out _).mono ?_; rintro e w' ⟨rfl, rfl⟩; exact ⟨rfl, rfl⟩, hK _ ?_⟩; clear hK K)
        (with_reducible refine wpStill_nil ?_)
        change wpList _ _ _ _ _ w32.drew
        go_wp2_with fail
        first | refine (GF.out _).mono ?_ | refine (GD.out _).mono ?_
        rintro e wz ⟨rfl, rfl⟩
        go_wp2_with fail
        go_meet
        refine ⟨rfl, ?_⟩
        (repeat' (first | exact HLM.out | with_reducible refine LM.alloc ?_ _ | with_reducible refine LM.drew ?_))
      by_cases g2 : ms < 120
      · skip
        have d1 : decide (mn < 28) = false := decide_eq_false g1
        have d2 : decide (ms < 120) = true := decide_eq_true g2
        have hfw : (if y5 ≠ 0 then y5 else 12) = x5 := by rw [HXE.out]; unfold wantH; rw [HQ5.out]; rw [if_pos (Or.inr (Or.inl g2))]
        have CW := Lib.hid (fun w => when_law true 12 12 w rfl)
        have GF := Lib.hid (fun w => first2_law y5 12 x5 w hfw)
        have GD := Lib.hid (fun w => first2_drw y5 12 x5 w hfw)
        clear hfw
        refine wp_region_still_tail 22 (by kernel_rfl) (by kernel_rfl) ?_
        simp only [List.take_succ_cons, List.take_zero, List.drop_succ_cons, List.drop_zero]
        iterate 1 ((with_reducible refine wpStill_step (fun K hK => ?_)); go_simp; (with_reducible refine hK _ ?_); clear hK K)
        ((with_reducible refine wpStill_step (fun K hK => ?_)); go_simp; refine ⟨_, by refine (HWI.out _).mono ?_; rintro e w' ⟨rfl, rfl⟩; exact ⟨rfl, rfl⟩, hK _ ?_⟩; clear hK K)
        iterate 1 ((with_reducible refine wpStill_step (fun K hK => ?_)); go_simp; (with_reducible refine hK _ ?_); clear hK K)
        ((with_reducible refine wpStill_step (fun K hK => ?_)); go_simp; refine ⟨_, by refine (G1.out _).mono ?_; rintro e w' ⟨rfl, rfl⟩; exact ⟨rfl, rfl⟩, hK _ ?_⟩; clear hK K)
        iterate 4 ((with_reducible refine wpStill_step (fun K hK => ?_)); go_simp; (with_reducible refine hK _ ?_); clear hK K)
        iterate 3 ((with_reducible refine still_want (by kernel_rfl) (fun K hK => ?_)); go_simp; (with_reducible refine hK _ ?_); clear hK K)
        iterate 2 ((with_reducible refine wpStill_step (fun K hK => ?_)); go_simp; (with_reducible refine hK _ ?_); clear hK K)
        iterate 4 ((with_reducible refine still_skip (by kernel_rfl) ?_); simp only [Act.put, List.setIfInBounds_toArray, List.set_cons_zero, List.set_cons_succ])
        iterate 2 ((with_reducible refine wpStill_step (fun K hK => ?_)); go_simp; (with_reducible refine hK _ ?_); clear hK K)
        iterate 1 ((with_reducible refine still_skip (by kernel_rfl) ?_); simp only [Act.put, List.setIfInBounds_toArray, List.set_cons_zero, List.set_cons_succ])
        iterate 1 ((with_reducible refine wpStill_step (fun K hK => ?_)); go_simp; (with_reducible refine hK _ ?_); clear hK K)
        ((with_reducible refine wpStill_step (fun K hK => ?_)); go_simp; refine ⟨_, by refine (CW.out _).mono ?_; rintro e w' ⟨rfl, rfl⟩; exact ⟨rfl, rfl⟩, hK _ ?_⟩; clear hK K)
        (with_reducible refine wpStill_nil ?_)
        change wpList _ _ _ _ _ w32.drew
        go_wp2_with fail
        first | refine (GF.out _).mono ?_ | refine (GD.out _).mono ?_
        rintro e wz ⟨rfl, rfl⟩
        go_wp2_with fail
        go_meet
        refine ⟨rfl, ?_⟩
        (repeat' (first | exact HLM.out | with_reducible refine LM.alloc ?_ _ | with_reducible refine LM.drew ?_))
      by_cases g3 : ms < size
      · skip
        have d1 : decide (mn < 28) = false := decide_eq_false g1
        have d2 : decide (ms < 120) = false := decide_eq_false g2
        have d3 : decide (ms < size) = true := decide_eq_true g3
        have hfw : (if y5 ≠ 0 then y5 else 12) = x5 := by rw [HXE.out]; unfold wantH; rw [HQ5.out]; rw [if_pos (Or.inr (Or.inr (Or.inl g3)))]
        have CW := Lib.hid (fun w => when_law true 12 12 w rfl)
        have GF := Lib.hid (fun w => first2_law y5 12 x5 w hfw)
        have GD := Lib.hid (fun w => first2_drw y5 12 x5 w hfw)
        clear hfw
        refine wp_region_still_tail 22 (by kernel_rfl) (by kernel_rfl) ?_
        simp only [List.take_succ_cons, List.take_zero, List.drop_succ_cons, List.drop_zero]
        iterate 1 ((with_reducible refine wpStill_step (fun K hK => ?_)); go_simp; (with_reducible refine hK _ ?_); clear hK K)
        ((with_reducible refine wpStill_step (fun K hK => ?_)); go_simp; refine ⟨_, by refine (HWI.out _).mono ?_; rintro e w' ⟨rfl, rfl⟩; exact ⟨rfl, rfl⟩, hK _ ?_⟩; clear hK K)
        iterate 1 ((with_reducible refine wpStill_step (fun K hK => ?_)); go_simp; (with_reducible refine hK _ ?_); clear hK K)
        ((with_reducible refine wpStill_step (fun K hK => ?_)); go_simp; refine ⟨_, by refine (G1.out _).mono ?_; rintro e w' ⟨rfl, rfl⟩; exact ⟨rfl, rfl⟩, hK _ ?_⟩; clear hK K)
        iterate 4 ((with_reducible refine wpStill_step (fun K hK => ?_)); go_simp; (with_reducible refine hK _ ?_); clear hK K)
        iterate 3 ((with_reducible refine still_want (by kernel_rfl) (fun K hK => ?_)); go_simp; (with_reducible refine hK _ ?_); clear hK K)
        iterate 2 ((with_reducible refine wpStill_step (fun K hK => ?_)); go_simp; (with_reducible refine hK _ ?_); clear hK K)
        iterate 4 ((with_reducible refine still_want (by kernel_rfl) (fun K hK => ?_)); go_simp; (with_reducible refine hK _ ?_); clear hK K)
        iterate 2 ((with_reducible refine wpStill_step (fun K hK => ?_)); go_simp; (with_reducible refine hK _ ?_); clear hK K)
        iterate 1 ((with_reducible refine still_skip (by kernel_rfl) ?_); simp only [Act.put, List.setIfInBounds_toArray, List.set_cons_zero, List.set_cons_succ])
        iterate 1 ((with_reducible refine wpStill_step (fun K hK => ?_)); go_simp; (with_reducible refine hK _ ?_); clear hK K)
        ((with_reducible refine wpStill_step (fun K hK => ?_)); go_simp; refine ⟨_, by refine (CW.out _).mono ?_; rintro e w' ⟨rfl, rfl⟩; exact ⟨rfl, rfl⟩, hK _ ?_⟩; clear hK K)
        (with_reducible refine wpStill_nil ?_)
        change wpList _ _ _ _ _ w32.drew
        go_wp2_with fail
        first | refine (GF.out _).mono ?_ | refine (GD.out _).mono ?_
        rintro e wz ⟨rfl, rfl⟩
        go_wp2_with fail
        go_meet
        refine ⟨rfl, ?_⟩
        (repeat' (first | exact HLM.out | with_reducible refine LM.alloc ?_ _ | with_reducible refine LM.drew ?_))
      cases dot
      · skip
        have d1 : decide (mn < 28) = false := decide_eq_false g1
        have d2 : decide (ms < 120) = false := decide_eq_false g2
        have d3 : decide (ms < size) = false := decide_eq_false g3
        have hfw : (if y5 ≠ 0 then y5 else 0) = x5 := by rw [HXE.out]; unfold wantH; rw [HQ5.out]; rw [if_neg (show ¬ (mn < 28 ∨ ms < 120 ∨ ms < size ∨ false = true) from by rintro (h | h | h | h); exact g1 h; exact g2 h; exact g3 h; cases h)]
        have CW := Lib.hid (fun w => when_law false 12 0 w rfl)
        have GF := Lib.hid (fun w => first2_law y5 0 x5 w hfw)
        have GD := Lib.hid (fun w => first2_drw y5 0 x5 w hfw)
        clear hfw
        refine wp_region_still_tail 22 (by kernel_rfl) (by kernel_rfl) ?_
        simp only [List.take_succ_cons, List.take_zero, List.drop_succ_cons, List.drop_zero]
        iterate 1 ((with_reducible refine wpStill_step (fun K hK => ?_)); go_simp; (with_reducible refine hK _ ?_); clear hK K)
        ((with_reducible refine wpStill_step (fun K hK => ?_)); go_simp; refine ⟨_, by refine (HWI.out _).mono ?_; rintro e w' ⟨rfl, rfl⟩; exact ⟨rfl, rfl⟩, hK _ ?_⟩; clear hK K)
        iterate 1 ((with_reducible refine wpStill_step (fun K hK => ?_)); go_simp; (with_reducible refine hK _ ?_); clear hK K)
        ((with_reducible refine wpStill_step (fun K hK => ?_)); go_simp; refine ⟨_, by refine (G1.out _).mono ?_; rintro e w' ⟨rfl, rfl⟩; exact ⟨rfl, rfl⟩, hK _ ?_⟩; clear hK K)
        iterate 4 ((with_reducible refine wpStill_step (fun K hK => ?_)); go_simp; (with_reducible refine hK _ ?_); clear hK K)
        iterate 3 ((with_reducible refine still_want (by kernel_rfl) (fun K hK => ?_)); go_simp; (with_reducible refine hK _ ?_); clear hK K)
        iterate 2 ((with_reducible refine wpStill_step (fun K hK => ?_)); go_simp; (with_reducible refine hK _ ?_); clear hK K)
        iterate 4 ((with_reducible refine still_want (by kernel_rfl) (fun K hK => ?_)); go_simp; (with_reducible refine hK _ ?_); clear hK K)
        iterate 2 ((with_reducible refine wpStill_step (fun K hK => ?_)); go_simp; (with_reducible refine hK _ ?_); clear hK K)
        iterate 1 ((with_reducible refine still_want (by kernel_rfl) (fun K hK => ?_)); go_simp; (with_reducible refine hK _ ?_); clear hK K)
        iterate 1 ((with_reducible refine wpStill_step (fun K hK => ?_)); go_simp; (with_reducible refine hK _ ?_); clear hK K)
        ((with_reducible refine wpStill_step (fun K hK => ?_)); go_simp; refine ⟨_, by refine (CW.out _).mono ?_; rintro e w' ⟨rfl, rfl⟩; exact ⟨rfl, rfl⟩, hK _ ?_⟩; clear hK K)
        (with_reducible refine wpStill_nil ?_)
        change wpList _ _ _ _ _ w32.drew
        go_wp2_with fail
        first | refine (GF.out _).mono ?_ | refine (GD.out _).mono ?_
        rintro e wz ⟨rfl, rfl⟩
        go_wp2_with fail
        go_meet
        refine ⟨rfl, ?_⟩
        (repeat' (first | exact HLM.out | with_reducible refine LM.alloc ?_ _ | with_reducible refine LM.drew ?_))
      · skip
        have d1 : decide (mn < 28) = false := decide_eq_false g1
        have d2 : decide (ms < 120) = false := decide_eq_false g2
        have d3 : decide (ms < size) = false := decide_eq_false g3
        have hfw : (if y5 ≠ 0 then y5 else 12) = x5 := by rw [HXE.out]; unfold wantH; rw [HQ5.out]; rw [if_pos (Or.inr (Or.inr (Or.inr rfl)))]
        have CW := Lib.hid (fun w => when_law true 12 12 w rfl)
        have GF := Lib.hid (fun w => first2_law y5 12 x5 w hfw)
        have GD := Lib.hid (fun w => first2_drw y5 12 x5 w hfw)
        clear hfw
        refine wp_region_still_tail 22 (by kernel_rfl) (by kernel_rfl) ?_
        simp only [List.take_succ_cons, List.take_zero, List.drop_succ_cons, List.drop_zero]
        iterate 1 ((with_reducible refine wpStill_step (fun K hK => ?_)); go_simp; (with_reducible refine hK _ ?_); clear hK K)
        ((with_reducible refine wpStill_step (fun K hK => ?_)); go_simp; refine ⟨_, by refine (HWI.out _).mono ?_; rintro e w' ⟨rfl, rfl⟩; exact ⟨rfl, rfl⟩, hK _ ?_⟩; clear hK K)
        iterate 1 ((with_reducible refine wpStill_step (fun K hK => ?_)); go_simp; (with_reducible refine hK _ ?_); clear hK K)
        ((with_reducible refine wpStill_step (fun K hK => ?_)); go_simp; refine ⟨_, by refine (G1.out _).mono ?_; rintro e w' ⟨rfl, rfl⟩; exact ⟨rfl, rfl⟩, hK _ ?_⟩; clear hK K)
        iterate 4 ((with_reducible refine wpStill_step (fun K hK => ?_)); go_simp; (with_reducible refine hK _ ?_); clear hK K)
        iterate 3 ((with_reducible refine still_want (by kernel_rfl) (fun K hK => ?_)); go_simp; (with_reducible refine hK _ ?_); clear hK K)
        iterate 2 ((with_reducible refine wpStill_step (fun K hK => ?_)); go_simp; (with_reducible refine hK _ ?_); clear hK K)
        iterate 4 ((with_reducible refine still_want (by kernel_rfl) (fun K hK => ?_)); go_simp; (with_reducible refine hK _ ?_); clear hK K)
        iterate 2 ((with_reducible refine wpStill_step (fun K hK => ?_)); go_simp; (with_reducible refine hK _ ?_); clear hK K)
        iterate 1 ((with_reducible refine still_want (by kernel_rfl) (fun K hK => ?_)); go_simp; (with_reducible refine hK _ ?_); clear hK K)
        iterate 1 ((with_reducible refine wpStill_step (fun K hK => ?_)); go_simp; (with_reducible refine hK _ ?_); clear hK K)
        ((with_reducible refine wpStill_step (fun K hK => ?_)); go_simp; refine ⟨_, by refine (CW.out _).mono ?_; rintro e w' ⟨rfl, rfl⟩; exact ⟨rfl, rfl⟩, hK _ ?_⟩; clear hK K)
        (with_reducible refine wpStill_nil ?_)
        change wpList _ _ _ _ _ w32.drew
        go_wp2_with fail
        first | refine (GF.out _).mono ?_ | refine (GD.out _).mono ?_
        rintro e wz ⟨rfl, rfl⟩
        go_wp2_with fail
        go_meet
        refine ⟨rfl, ?_⟩
        (repeat' (first | exact HLM.out | with_reducible refine LM.alloc ?_ _ | with_reducible refine LM.drew ?_))
    case rest =>
    obtain ⟨rfl, hl⟩ := hcut
    have HLM8 := Lib.hid hl
    clear hl HLM c0 c3 c4 c5 c8 HXE HQ5 G1 HWI
    rcases HOV7.out with ⟨rfl, hx0⟩ | ⟨t0, b0, rfl, rfl⟩
    · have hx1 : (x5 == 0) = false := by simpa using hx0
      have hx2 : (x5 != 0) = true := by simpa using hx0
      clear hx0
      go_wp2_with fail
      go_ret
      exact ⟨rfl, by rw [HKB.out]; exact HLM8.out.l.hb⟩
    · go_wp2_with fail
      go_ret
      exact ⟨rfl, by rw [HKB.out]; exact HLM8.out.l.hb⟩
end Go.Proofs.YtoomhlbebifklaaGreatDoor
