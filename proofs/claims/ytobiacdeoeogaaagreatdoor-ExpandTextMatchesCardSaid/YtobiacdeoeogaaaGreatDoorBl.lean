import Derived.Test.YtobiacdeoeogaaaGreatDoorBk
set_option linter.unusedVariables false
set_option linter.unusedSimpArgs false
namespace Go.Proofs.YtobiacdeoeogaaaGreatDoor
open Go.RowKit Go.Maps
theorem sqE_none {bl : List UInt8} {f a r d : Nat} (h : a < bl.length) (hb : best bl a = (0, d)) : sqE bl (f + 1) a r = sqE bl f (a + 1) r := by
  have e : sqE bl (f + 1) a r = if a < bl.length then (if (best bl a).1 = 0 then sqE bl f (a + 1) r else lits ((bl.drop r).take (a - r)) ++ (copyB (best bl a).1 (best bl a).2 ++ sqE bl f (a + (best bl a).1) (a + (best bl a).1))) else lits (bl.drop r) := rfl
  rw [e, if_pos h, hb, if_pos rfl]
theorem sqE_some {bl : List UInt8} {f a r n d : Nat} (h : a < bl.length) (hb : best bl a = (n + 1, d)) : sqE bl (f + 1) a r = lits ((bl.drop r).take (a - r)) ++ (copyB (n + 1) d ++ sqE bl f (a + (n + 1)) (a + (n + 1))) := by
  have e : sqE bl (f + 1) a r = if a < bl.length then (if (best bl a).1 = 0 then sqE bl f (a + 1) r else lits ((bl.drop r).take (a - r)) ++ (copyB (best bl a).1 (best bl a).2 ++ sqE bl f (a + (best bl a).1) (a + (best bl a).1))) else lits (bl.drop r) := rfl
  rw [e, if_pos h, hb, if_neg (by simp)]
theorem sqE_end {bl : List UInt8} {f a r : Nat} (h : bl.length ≤ a) : sqE bl f a r = lits (bl.drop r) := by
  cases f with
  | zero => rfl
  | succ f =>
    have e : sqE bl (f + 1) a r = if a < bl.length then (if (best bl a).1 = 0 then sqE bl f (a + 1) r else lits ((bl.drop r).take (a - r)) ++ (copyB (best bl a).1 (best bl a).2 ++ sqE bl f (a + (best bl a).1) (a + (best bl a).1))) else lits (bl.drop r) := rfl
    rw [e, if_neg (by omega)]
theorem byteCells_app (l m : List UInt8) : Lib.byteCells (l ++ m) = Lib.byteCells l ++ Lib.byteCells m := by simp [Lib.byteCells]
theorem copy_cells (n d : Nat) (h1 : n ≤ 131) (h2 : 1 ≤ d) (h3 : d ≤ 16384) : Lib.byteCells (copyB n d) = [.int .u8 ((n : Int) + 124), .int .u8 (((d : Int) - 1) / 256), .int .u8 (((d : Int) - 1) % 256)] := by
  have e0 : ((UInt8.ofNat (n + 124)).toNat : Int) = (n : Int) + 124 := by rw [UInt8.toNat_ofNat']; omega
  have e1 : ((UInt8.ofNat ((d - 1) / 256)).toNat : Int) = ((d : Int) - 1) / 256 := by rw [UInt8.toNat_ofNat']; omega
  have e2 : ((UInt8.ofNat ((d - 1) % 256)).toNat : Int) = ((d : Int) - 1) % 256 := by rw [UInt8.toNat_ofNat']; omega
  unfold copyB Lib.byteCells
  simp only [List.map_cons, List.map_nil]
  rw [e0, e1, e2]
set_option maxRecDepth 100000 in
set_option maxHeartbeats 8000000 in
theorem squeezeBlock_ok (b : ByteArray) (w : World) (hb : b.size ≤ 16384) : Calls Tryz.prog 22 #[.string b] w fun e w' => e = .returned (.string ⟨(sqB b.data.toList).toArray⟩) ∧ Below w.heap.size w w' := by
  have hs : b.size = b.data.toList.length := Lib.size_eq b
  have HSZ := Lib.hid hs
  clear hs
  obtain ⟨i0, hi0, hi1, hi2, hi3⟩ := info_parts infoI
  obtain ⟨j0, hj0, hj1, hj2, hj3⟩ := info_parts info5
  have hmm := @run_makeMap Tryz.prog
  go_enter Tryz.func22, Tryz.ntmps22
  go_wp2_with fail
  clear hmm
  have HB0 := (Below.refl w.heap.size w).alloc (Nat.le_refl _) (.map #[] 0)
  have hQ : SqS w.heap.size (w.heap.size + 1) b w ((w.alloc (.map #[] 0)).alloc (.cells #[.string b, .map (some w.heap.size), .slice none 0 0, .int .i64 0] 98)) 0 0 0 [] :=
    ⟨⟨_, show Blk _ (w.heap.size + 1) _ _ from Blk.newAt (w := w.alloc (.map #[] 0)) (t := 98) (cs := #[.string b, .map (some w.heap.size), .slice none 0 0, .int .i64 0]) (by simp), World.ownsRow_nil _ _ _ _⟩,
      (PM.made w b.data.toList).grown (grown_kp ((Kp.refl [] _).alloc _)), HB0.alloc HB0.size _, Nat.lt_succ_self _⟩
  have HQ := Lib.hid hQ
  clear HB0 hQ
  generalize ((w.alloc (.map #[] 0)).alloc (.cells #[.string b, .map (some w.heap.size), .slice none 0 0, .int .i64 0] 98)) = w1 at *
  generalize hsb : w.heap.size + 1 = sb at *
  generalize hkm : w.heap.size = km at *
  have HKM := Lib.hid hkm
  clear hsb hkm
  go_loopg [4, 5, 6, 7, 8, 9] b.size (fun gk x _ _ _ _ _ wr => ∃ a r n : Nat, ∃ l, x = .int .i64 (a : Int) ∧ r ≤ a ∧ a ≤ b.size ∧ b.size ≤ a + gk ∧ n ≤ 3 * r ∧ SqS km sb b w wr a r n l ∧ l ++ sqE b.data.toList gk a r = sqB b.data.toList)
  case atStart => exact ⟨0, 0, 0, [], rfl, Nat.le_refl _, Nat.zero_le _, by omega, by omega, HQ.out, by rw [HSZ.out]; rfl⟩
  case round =>
    clear HQ
    obtain ⟨a, r, n, l, rfl, hra, hab, hgk, hnr, hq, hll⟩ := hrel
    have HQ := Lib.hid hq
    have HLL := Lib.hid hll
    clear hq hll
    by_cases hlt : a < b.size
    · have hd : decide ((a : Int) < (b.size : Int)) = true := decide_eq_true (by omega)
      obtain ⟨g0, rfl⟩ : ∃ g, gk = g + 1 := ⟨gk - 1, by omega⟩
      go_wp2_with fail
      refine (HQ.out.longest hlt hb).mono ?_
      rintro e w2 ⟨rfl, hq2⟩
      have HQ2 := Lib.hid hq2
      clear hq2 HQ
      obtain ⟨bn, bd, hbst⟩ : ∃ bn bd, best b.data.toList a = (bn, bd) := ⟨_, _, rfl⟩
      rw [hbst]
      have HBST := Lib.hid hbst
      clear hbst
      dsimp only
      cases bn with
      | zero =>
        go_wp2_with fail
        go_loopg [4, 9] 1 (fun gk2 x _ wx => ∃ c : Nat, x = .int .i64 (c : Int) ∧ c ≤ a + 1 ∧ a + 1 ≤ c + gk2 ∧ SqS km sb b w wx c r n (l))
        case atStart => exact ⟨a, rfl, by omega, Nat.le_refl _, HQ2.out⟩
        case round =>
          clear HQ2
          obtain ⟨c, rfl, hc1, hc2, hq⟩ := hrel
          have HQ := Lib.hid hq
          by_cases hcn : c < a + 1
          · have hd2 : decide ((c : Int) < (a : Int) + 1) = true := decide_eq_true (by omega)
            by_cases h4 : c + 4 ≤ b.size
            · have hd4 : decide ((c : Int) + 4 ≤ (b.size : Int)) = true := decide_eq_true (by omega)
              have hd4' : (c : Int) + 4 ≤ (b.size : Int) := by omega
              have hw4 : ((c : Int) + 4).toNat = c + 4 := by omega
              obtain ⟨⟨v, hl⟩, hsa⟩ := hq.note h4 hb
              obtain ⟨ov, hS, hO⟩ := hq.h
              have hPM := hq.pm
              have hBl := hq.bl
              have hks := hq.lt
              have c1 := hS.cell 1
              have hlt2 := hS.lt
              simp at c1
              have HL := Lib.hid hl
              have HS := Lib.hid hS
              have HO := Lib.hid hO
              have HPM := Lib.hid hPM
              have HBL := Lib.hid hBl
              have HSA := Lib.hid hsa
              obtain ⟨ln, hln⟩ : ∃ ln, (zsL (plac b.data.toList c (b.extract c (c + 4)).data.toList)).length = ln := ⟨_, rfl⟩
              have hlb : ln ≤ c := by rw [← hln, zsL_len]; exact plac_len _ _ _
              have hrw := hl.owns.1
              rw [hln] at hrw
              have HRW := Lib.hid hrw
              have HLN := Lib.hid hln
              clear hq hl hS hO hPM hBl hsa HQ hrw hln
              go_upto_region 16 with (fail)
              have hlk : (Instr.lookup 96 (.map (some km)) (.string (b.extract c (c + 4))) false).run Tryz.prog wr.drew = .ok v wr.drew := HL.out.look _ rfl
              have hl2 : (Instr.lookup 96 (.map (some km)) (.string (b.extract c (c + 4))) false).run Tryz.prog (wr.alloc (.cells #[.int .i64 (c : Int)] 3)).drew = .ok v (wr.alloc (.cells #[.int .i64 (c : Int)] 3)).drew := HL.out.look _ (heap_alloc_old wr _ HPM.out.lt.1)
              go_region_law (first | (refine step_lookup (by rfl) _ _ 96 (by rfl) (.map (some km)) _ _ (by rfl) (by rfl) hlk ?_) | (refine step_lookup (by rfl) _ _ 96 (by rfl) (.map (some km)) _ _ (by rfl) (by rfl) hl2 ?_) | (refine step_append_lies _ (by rfl) _ _ 80 (by rfl) (km + 1) 3 i0 (.int .i64 0) 1 8 Tryz.underlying80 hi0 hi1 hi2 hi3 rfl (by decide) _ _ _ (by rfl) ((HRW.out.drew').alloc _) ⟨wr.heap.size, 0, none⟩ 1 1 [.int .i64 (c : Int)] (by rfl) (by rfl) (World.news_of_block (cs := #[.int .i64 (c : Int)]) (t := 3) (fr := (0, 0)) (heap_alloc_new wr.drew _)) (by simp [Value.oneCell']) (by decide) (by unfold maxLen; omega) (by omega) ?_ _ rfl ?_; (have := HPM.out.lt.1; simp; omega); intro g3 cap3 w3 hown hgrow hat hltg; have HX := Lib.hid (put_step HPM.out HL.out HSA.out (by omega) HS.out HO.out HBL.out (grown_kp (((Kp.refl [] wr).drew).alloc _)) hgrow hown (by rw [HLN.out]) hat (by simp)); have c1w := HX.out.1.cell 1; simp at c1w; obtain ⟨w4, hup, hx4⟩ := HX.out.2; have HX4 := Lib.hid hx4; clear hx4 HX hown hgrow hat hltg))
              all_goals
                clear hlk hl2 c1 c1w hup hlt2 HL HS HO HPM HBL HSA HRW HLN
                go_wp2_with fail
                go_roundg (gk - 1)
                case measure => omega
                case rel => exact ⟨c + 1, by go_num, by omega, by omega, ⟨⟨ov, HX4.out.2.1, HX4.out.2.2.1⟩, HX4.out.1, HX4.out.2.2.2, hks⟩⟩
            · have hd4 : decide ((c : Int) + 4 ≤ (b.size : Int)) = false := decide_eq_false (by omega)
              clear hq
              go_wp2_with fail
              go_roundg (gk - 1)
              case measure => omega
              case rel => exact ⟨c + 1, by go_num, by omega, by omega, HQ.out.skip (by omega)⟩
          · have hd2 : decide ((c : Int) < (a : Int) + 1) = false := decide_eq_false (by omega)
            have hca : c = a + 1 := by omega
            clear hq
            go_wp2_with fail
            go_roundg g0
            case measure => omega
            case rel => exact ⟨c, r, n, l, rfl, by omega, by omega, by omega, by omega, HQ.out, by subst hca; rw [← HLL.out, sqE_none (by rw [← HSZ.out]; exact hlt) HBST.out]⟩
      | succ bn =>
        have hdb : decide (((bn + 1 : Nat) : Int) > 0) = true := decide_eq_true (by omega)
        go_wp2_with fail
        refine (HQ2.out.flush a hra hab hb hnr).mono ?_
        rintro e w3 ⟨rfl, n3, hn3, hq3⟩
        have hbo : 4 ≤ bn + 1 ∧ bn + 1 ≤ 131 ∧ a + (bn + 1) ≤ b.size ∧ 1 ≤ bd ∧ bd ≤ a := by
          rcases best_or b.data.toList a (by rw [← HSZ.out]; exact hlt) with h0 | ⟨n', d', h0, h1, h2, h3, h4, h5, _⟩
          · rw [HBST.out] at h0; cases h0
          · rw [HBST.out] at h0
            obtain ⟨rfl, rfl⟩ := Prod.mk.inj h0
            rw [← HSZ.out] at h3
            exact ⟨h1, h2, h3, h4, h5⟩
        obtain ⟨ov, hS, hO⟩ := hq3.h
        have hks := hq3.lt
        have hk3 := hq3.pm.lt.1
        have c2 := hS.cell 2
        have f2 := hS.frozen 2
        simp at c2
        have HS := Lib.hid hS
        have HO := Lib.hid hO
        have HPM := Lib.hid hq3.pm
        have HBL := Lib.hid hq3.bl
        clear HQ2 hq3 hS hO
        go_wp2_with (at_builtin; refine wpList_append_lies _ rfl _ _ 32 rfl km 5 j0 (.int .u8 0) 1 1 Tryz.underlying32 hj0 hj1 hj2 hj3 rfl (by decide) _ _ _ rfl (HO.out.alloc _) _ 3 3 [.int .u8 ((bn : Int) + 1 + 124), .int .u8 (((bd : Int) - 1) / 256), .int .u8 (((bd : Int) - 1) % 256)] (by rfl) (by rfl) (World.news_of_block (cs := #[.int .u8 ((bn : Int) + 1 + 124), .int .u8 (((bd : Int) - 1) / 256), .int .u8 (((bd : Int) - 1) % 256)]) (t := 5) (fr := (0, 0)) (heap_alloc_new _ _)) (by simp [Value.oneCell']) (by decide) (by unfold maxLen; omega) (by omega) ?c5 _ rfl ?_)
        case c5 => exact Nat.le_trans (Nat.le_of_lt hk3) (by simp)
        intro g2 cap2 w4 hown hgrow hat hltg
        obtain ⟨l4, hl4⟩ : ∃ l4, l4 = l ++ lits (slB b r a) ++ copyB (bn + 1) bd := ⟨_, rfl⟩
        have HL4 := Lib.hid hl4
        have HG := Lib.hid (step_Z (B := km) (l' := l4) (Nat.le_trans (Nat.le_of_lt hk3) (by simp)) (Nat.le_of_lt hks) (HS.out.old _) (HO.out.alloc _) (HBL.out.alloc (Nat.le_of_lt hk3) _) (by
          rw [hl4, byteCells_app, copy_cells (bn + 1) bd hbo.2.1 hbo.2.2.2.1 (by omega)]
          have e0 : (((bn + 1 : Nat) : Int) + 124) = (bn : Int) + 1 + 124 := by omega
          rw [e0]
          exact hown) hgrow)
        have HP4 := Lib.hid (HPM.out.ku ((((Ku.refl sb w3).trans (Ku.kp ((Kp.refl [sb] w3).alloc _))).grown (HO.out.alloc _) hgrow).trans (Ku.kp ((Kp.refl [sb] w4).setCell ⟨sb, 2, none⟩ (.slice (some ⟨g2, 0, none⟩) (n3 + 3) cap2) (Or.inl (by simp))))) (by omega) ⟨_, _, _, HS.out, by decide⟩)
        have d2 := HG.out.1.cell 2
        have f2 := HG.out.1.frozen 2
        simp at d2
        clear hown hgrow hat hltg HS HO HPM HBL c2 hl4
        go_upto_region 10 with (fail)
        clear d2 f2
        generalize (w4.setCell ⟨sb, 2, none⟩ _) = w5 at *
        have d3 := HG.out.2.1.cell 3
        have f3 := HG.out.2.1.frozen 3
        simp at d3
        go_wp2_with fail
        have e3 : (a : Int) + ((bn : Int) + 1) = ((a + (bn + 1) : Nat) : Int) := by omega
        have hq5 : SqS km sb b w (w5.setCell ⟨sb, 3, none⟩ (.int .i64 ((a : Int) + ((bn : Int) + 1)))) a (a + (bn + 1)) (n3 + 3) l4 := by
          rw [e3]
          have k : Kp [sb] w5 (w5.setCell ⟨sb, 3, none⟩ (.int .i64 ((a + (bn + 1) : Nat) : Int))) := (Kp.refl _ w5).setCell _ _ (Or.inl (by simp))
          exact ⟨⟨_, HG.out.2.1.set 3 _, own_kp HG.out.2.2.1 k (fun x hx => by simpa using own_ne HG.out.2.2.1 HG.out.2.1 (by decide) x hx)⟩, HP4.out.ku (Ku.kp k) (by omega) ⟨_, _, _, HG.out.2.1, by decide⟩, HG.out.2.2.2.setCell (p := ⟨sb, 3, none⟩) (Nat.le_of_lt hks) _, hks⟩
        have HQ2 := Lib.hid hq5
        clear HG HP4 d3 f3 e3 hq5
        generalize (w5.setCell ⟨sb, 3, none⟩ _) = w6 at *
        have hn4 : n3 + 3 ≤ 3 * (a + (bn + 1)) := by omega
        generalize n3 + 3 = n4 at *
        obtain ⟨hb0, hb1, hb2, hb3, hb4⟩ := hbo
        go_loopg [4, 9] (bn + 1) (fun gk2 x _ wx => ∃ c : Nat, x = .int .i64 (c : Int) ∧ c ≤ a + (bn + 1) ∧ a + (bn + 1) ≤ c + gk2 ∧ SqS km sb b w wx c (a + (bn + 1)) n4 (l4))
        case atStart => exact ⟨a, rfl, by omega, Nat.le_refl _, HQ2.out⟩
        case round =>
          clear HQ2
          obtain ⟨c, rfl, hc1, hc2, hq⟩ := hrel
          have HQ := Lib.hid hq
          by_cases hcn : c < a + (bn + 1)
          · have hd2 : decide ((c : Int) < (a : Int) + ((bn : Int) + 1)) = true := decide_eq_true (by omega)
            by_cases h4 : c + 4 ≤ b.size
            · have hd4 : decide ((c : Int) + 4 ≤ (b.size : Int)) = true := decide_eq_true (by omega)
              have hd4' : (c : Int) + 4 ≤ (b.size : Int) := by omega
              have hw4 : ((c : Int) + 4).toNat = c + 4 := by omega
              obtain ⟨⟨v, hl⟩, hsa⟩ := hq.note h4 hb
              obtain ⟨ov, hS, hO⟩ := hq.h
              have hPM := hq.pm
              have hBl := hq.bl
              have hks := hq.lt
              have c1 := hS.cell 1
              have hlt2 := hS.lt
              simp at c1
              have HL := Lib.hid hl
              have HS := Lib.hid hS
              have HO := Lib.hid hO
              have HPM := Lib.hid hPM
              have HBL := Lib.hid hBl
              have HSA := Lib.hid hsa
              obtain ⟨ln, hln⟩ : ∃ ln, (zsL (plac b.data.toList c (b.extract c (c + 4)).data.toList)).length = ln := ⟨_, rfl⟩
              have hlb : ln ≤ c := by rw [← hln, zsL_len]; exact plac_len _ _ _
              have hrw := hl.owns.1
              rw [hln] at hrw
              have HRW := Lib.hid hrw
              have HLN := Lib.hid hln
              clear hq hl hS hO hPM hBl hsa HQ hrw hln
              go_upto_region 16 with (fail)
              have hlk : (Instr.lookup 96 (.map (some km)) (.string (b.extract c (c + 4))) false).run Tryz.prog wr.drew = .ok v wr.drew := HL.out.look _ rfl
              have hl2 : (Instr.lookup 96 (.map (some km)) (.string (b.extract c (c + 4))) false).run Tryz.prog (wr.alloc (.cells #[.int .i64 (c : Int)] 3)).drew = .ok v (wr.alloc (.cells #[.int .i64 (c : Int)] 3)).drew := HL.out.look _ (heap_alloc_old wr _ HPM.out.lt.1)
              go_region_law (first | (refine step_lookup (by rfl) _ _ 96 (by rfl) (.map (some km)) _ _ (by rfl) (by rfl) hlk ?_) | (refine step_lookup (by rfl) _ _ 96 (by rfl) (.map (some km)) _ _ (by rfl) (by rfl) hl2 ?_) | (refine step_append_lies _ (by rfl) _ _ 80 (by rfl) (km + 1) 3 i0 (.int .i64 0) 1 8 Tryz.underlying80 hi0 hi1 hi2 hi3 rfl (by decide) _ _ _ (by rfl) ((HRW.out.drew').alloc _) ⟨wr.heap.size, 0, none⟩ 1 1 [.int .i64 (c : Int)] (by rfl) (by rfl) (World.news_of_block (cs := #[.int .i64 (c : Int)]) (t := 3) (fr := (0, 0)) (heap_alloc_new wr.drew _)) (by simp [Value.oneCell']) (by decide) (by unfold maxLen; omega) (by omega) ?_ _ rfl ?_; (have := HPM.out.lt.1; simp; omega); intro g3 cap3 w3 hown hgrow hat hltg; have HX := Lib.hid (put_step HPM.out HL.out HSA.out (by omega) HS.out HO.out HBL.out (grown_kp (((Kp.refl [] wr).drew).alloc _)) hgrow hown (by rw [HLN.out]) hat (by simp)); have c1w := HX.out.1.cell 1; simp at c1w; obtain ⟨w4, hup, hx4⟩ := HX.out.2; have HX4 := Lib.hid hx4; clear hx4 HX hown hgrow hat hltg))
              all_goals
                clear hlk hl2 c1 c1w hup hlt2 HL HS HO HPM HBL HSA HRW HLN
                go_wp2_with fail
                go_roundg (gk - 1)
                case measure => omega
                case rel => exact ⟨c + 1, by go_num, by omega, by omega, ⟨⟨ov, HX4.out.2.1, HX4.out.2.2.1⟩, HX4.out.1, HX4.out.2.2.2, hks⟩⟩
            · have hd4 : decide ((c : Int) + 4 ≤ (b.size : Int)) = false := decide_eq_false (by omega)
              clear hq
              go_wp2_with fail
              go_roundg (gk - 1)
              case measure => omega
              case rel => exact ⟨c + 1, by go_num, by omega, by omega, HQ.out.skip (by omega)⟩
          · have hd2 : decide ((c : Int) < (a : Int) + ((bn : Int) + 1)) = false := decide_eq_false (by omega)
            have hca : c = a + (bn + 1) := by omega
            clear hq
            go_wp2_with fail
            go_roundg g0
            case measure => omega
            case rel => exact ⟨c, (a + (bn + 1)), n4, l4, rfl, by omega, by omega, by omega, by omega, HQ.out, by subst hca; rw [← HLL.out, HL4.out, sqE_some (by rw [← HSZ.out]; exact hlt) HBST.out]; simp only [List.append_assoc]; rfl⟩
    · have hd : decide ((a : Int) < (b.size : Int)) = false := decide_eq_false (by omega)
      have hab : a = b.size := by omega
      go_wp2_with fail
      refine (HQ.out.flush b.size (by omega) (Nat.le_refl _) hb hnr).mono ?_
      rintro e w2 ⟨rfl, n2, _, hq2⟩
      obtain ⟨ov, hS, hO⟩ := hq2.h
      have c2 := hS.cell 2
      simp at c2
      have hcv := own_conv hO
      have HBL := Lib.hid hq2.bl
      have hres : l ++ lits (slB b r b.size) = sqB b.data.toList := by
        rw [← HLL.out, sqE_end (by rw [← HSZ.out]; omega)]
        unfold slB
        rw [List.take_of_length_le (by simp)]
      rw [hres] at hcv
      clear hS hO hq2 HQ hres
      go_wp2_with fail
      go_ret
      rw [HKM.out]
      exact ⟨rfl, HBL.out⟩
end Go.Proofs.YtobiacdeoeogaaaGreatDoor
