import Derived.Test.YtobiacdeoeogaaaGreatDoorCc
set_option linter.unusedVariables false
set_option linter.unusedSimpArgs false
namespace Go.Proofs.YtobiacdeoeogaaaGreatDoor
open Go.RowKit
theorem copy_cellsC (n d : Nat) (h1 : n ≤ 131) (h2 : 1 ≤ d) (h3 : d ≤ 16384) : (#[.int .u8 ((n : Int) + 124), .int .u8 (((d : Int) - 1) / 256), .int .u8 (((d : Int) - 1) % 256)] : Array Value).toList = Lib.byteCells (copyB n d) := by
  have e0 : ((UInt8.ofNat (n + 124)).toNat : Int) = (n : Int) + 124 := by rw [UInt8.toNat_ofNat']; omega
  have e1 : ((UInt8.ofNat ((d - 1) / 256)).toNat : Int) = ((d : Int) - 1) / 256 := by rw [UInt8.toNat_ofNat']; omega
  have e2 : ((UInt8.ofNat ((d - 1) % 256)).toNat : Int) = ((d : Int) - 1) % 256 := by rw [UInt8.toNat_ofNat']; omega
  simp only [copyB, Lib.byteCells, List.map_cons, List.map_nil, e0, e1, e2]
theorem conv3 (n d : Nat) (h1 : n ≤ 131) (h2 : 1 ≤ d) (h3 : d ≤ 16384) (w : World) : (convert 32 9 (.slice (some ⟨w.heap.size, 0, none⟩) 3 3)).run Tryz.prog (w.alloc (.cells #[.int .u8 ((n : Int) + 124), .int .u8 (((d : Int) - 1) / 256), .int .u8 (((d : Int) - 1) % 256)] 5)) = .ok (.string ⟨(copyB n d).toArray⟩) (w.alloc (.cells #[.int .u8 ((n : Int) + 124), .int .u8 (((d : Int) - 1) / 256), .int .u8 (((d : Int) - 1) % 256)] 5)) :=
  conv_block (l := copyB n d) (heap_alloc_new w _) (copy_cellsC n d h1 h2 h3)
theorem index_dif (b : ByteArray) (a n d : Nat) (h : a + n < b.size) (hd : d ≤ a) (w : World) : (Instr.index 9 (.string b) (.int .i64 ((a : Int) + (n : Int) - (d : Int)))).run Tryz.prog w = .ok (.int .u8 ((b.data.toList.getD (a - d + n) 0).toNat : Int)) w := by
  have := index_at b (a - d + n) _ (getD_at (by omega)) w
  rwa [show ((a - d + n : Nat) : Int) = (a : Int) + (n : Int) - (d : Int) by omega] at this
theorem take_runC {L : List UInt8} {r a : Nat} (hr : r ≤ a) (ha : a < L.length) : (L.drop r).take (a + 1 - r) = (L.drop r).take (a - r) ++ [L.getD a 0] := by
  rw [show a + 1 - r = (a - r) + 1 by omega, List.take_add_one, List.getElem?_drop, show r + (a - r) = a by omega, List.getElem?_eq_getElem ha, List.getD_eq_getElem?_getD, List.getElem?_eq_getElem ha]
  rfl
set_option maxRecDepth 100000 in
set_option maxHeartbeats 16000000 in
theorem refSqueezed_ok (b : ByteArray) (w : World) (hb : b.size ≤ 16384) : Calls Tryz.prog 35 #[.string b] w fun e w' => e = .returned (.string ⟨(sqB b.data.toList).toArray⟩) ∧ Below w.heap.size w w' := by
  obtain ⟨L, hL⟩ : ∃ L, b.data.toList = L := ⟨_, rfl⟩
  have hLl : b.size = L.length := by rw [← hL]; exact Lib.size_eq b
  rw [hL]
  have HL := Lib.hid hL
  have HLL := Lib.hid hLl
  clear hL hLl
  go_enter Tryz.func35, Tryz.ntmps35
  go_wp2_with fail
  have HB1 := Lib.hid (((Below.refl w.heap.size w).alloc (Nat.le_refl _) (.cells #[.string ⟨#[]⟩] 9)).alloc (by simp) (.cells #[.string ⟨#[]⟩] 9))
  have HO1 := Lib.hid ((Blk.new w 9 #[.string ⟨#[]⟩]).old (.cells #[.string ⟨#[]⟩] 9))
  have HR1 := Lib.hid (show Blk ((w.alloc (.cells #[.string ⟨#[]⟩] 9)).alloc (.cells #[.string ⟨#[]⟩] 9)) (w.heap.size + 1) 9 #[.string ⟨#[]⟩] from Blk.newAt (by simp))
  generalize ((w.alloc (.cells #[.string ⟨#[]⟩] 9)).alloc (.cells #[.string ⟨#[]⟩] 9)) = w1 at *
  generalize hrb : w.heap.size + 1 = rb at *
  generalize hob : w.heap.size = ob at *
  have hne : rb ≠ ob := by omega
  have hne2 : ob ≠ rb := by omega
  have hlo : ob ≤ rb := by omega
  have HW := Lib.hid hob
  clear hrb hob
  go_loopg [6] b.size (fun gk s6 wr => ∃ a r0 f : Nat, ∃ x y : ByteArray, s6 = .int .i64 (a : Int) ∧ r0 ≤ a ∧ a + gk = b.size ∧ Blk wr rb 9 #[.string x] ∧ Blk wr ob 9 #[.string y] ∧ x.data.toList = (L.drop r0).take (a - r0) ∧ y.data.toList ++ sqE L f a r0 = sqB L ∧ L.length ≤ a + f ∧ y.size + 2 * x.size ≤ 4 * a ∧ Below ob w wr)
  case atStart => exact ⟨0, 0, L.length, ⟨#[]⟩, ⟨#[]⟩, rfl, Nat.le_refl _, by omega, HR1.out, HO1.out, by simp, rfl, by omega, by decide, HB1.out⟩
  case round =>
    clear HB1 HO1 HR1
    obtain ⟨a, r0, f, x, y, rfl, hr0, hag, hX, hY, hx, hy, hf, hsz, hB⟩ := hrel
    have HX := Lib.hid hX
    have HY := Lib.hid hY
    have HXL := Lib.hid hx
    have HYL := Lib.hid hy
    have HB := Lib.hid hB
    have hbs := hB.size
    have hxz : x.size ≤ a := by rw [Lib.size_eq, hx, List.length_take]; omega
    clear hX hY hx hy hB
    obtain ⟨wo, hwo⟩ : ∃ wo, wo = wr := ⟨_, rfl⟩
    subst hwo
    by_cases hlt : a < b.size
    · have hda : decide ((a : Int) < (b.size : Int)) = true := decide_eq_true (by omega)
      have hda2 : decide (a < b.size) = true := decide_eq_true hlt
      have halt : a < L.length := by rw [← HLL.out]; exact hlt
      obtain ⟨lim, hlim⟩ : ∃ lim, limOf L a = lim := ⟨_, rfl⟩
      have hlim2 : lim = min 131 (b.size - a) := by rw [← hlim, HLL.out]; rfl
      have hl1 : lim ≤ 131 := by omega
      have hl2 : a + lim ≤ b.size := by omega
      have HLIM := Lib.hid hlim
      have HLIM2 := Lib.hid hlim2
      clear hlim hlim2
      obtain ⟨g0, rfl⟩ : ∃ g, gk = g + 1 := ⟨gk - 1, by omega⟩
      go_wp2_with fail
      go_loopg [7, 8, 9] a (fun g2 s7 s8 s9 wx => ∃ lo fa d : Nat, s7 = .int .i64 (lo : Int) ∧ s8 = .int .i64 (fa : Int) ∧ s9 = .int .i64 (d : Int) ∧ 1 ≤ d ∧ d + g2 = a + 1 ∧ bestOf L a lim (List.range g2).reverse (lo, fa) = bestOf L a lim (List.range a).reverse (0, 0) ∧ lo ≤ lim ∧ fa ≤ a ∧ Kp [] wo wx)
      case atStart => exact ⟨0, 0, 1, rfl, rfl, rfl, Nat.le_refl _, by omega, rfl, by omega, by omega, Kp.refl _ _⟩
      case round =>
        obtain ⟨lo, fa, d, rfl, rfl, rfl, hd1, hdg, hbe, hlol, hfa, hK⟩ := hrel
        have HBE := Lib.hid hbe
        have HK := Lib.hid hK
        clear hbe hK
        by_cases hg2 : 0 < gk
        · obtain ⟨g2, rfl⟩ : ∃ g, gk = g + 1 := ⟨gk - 1, by omega⟩
          have hdd : decide ((d : Int) ≤ (a : Int)) = true := decide_eq_true (by omega)
          have hdd2 : decide (d ≤ a) = true := decide_eq_true (by omega)
          obtain ⟨wp, hwp⟩ : ∃ wp, wp = wr := ⟨_, rfl⟩
          subst hwp
          go_wp2_with fail
          go_loopg [10] lim (fun g3 s10 wy => ∃ n : Nat, s10 = .int .i64 (n : Int) ∧ n + g3 = lim ∧ (∀ m, m < n → L.getD (g2 + m) 0 = L.getD (a + m) 0) ∧ Kp [] wo wy)
          case atStart => exact ⟨0, rfl, by omega, fun m hm => absurd hm (Nat.not_lt_zero _), HK.out⟩
          case round =>
            clear HK
            obtain ⟨n, rfl, hng, he, hK2⟩ := hrel
            have HE := Lib.hid he
            have HK2 := Lib.hid hK2
            clear he hK2
            by_cases hnl : n < lim
            · obtain ⟨g3, rfl⟩ : ∃ g, gk = g + 1 := ⟨gk - 1, by omega⟩
              have hd131 : decide ((n : Int) < 131) = true := decide_eq_true (by omega)
              have hds : decide ((a : Int) + (n : Int) < (b.size : Int)) = true := decide_eq_true (by omega)
              have hds2 : decide (a + n < b.size) = true := decide_eq_true (by omega)
              have hix1 := fun w => index_sum b a n (by omega) w
              have hix2 := fun w => index_dif b a n d (by omega) (by omega) w
              rw [HL.out] at hix1 hix2
              rw [show a - d = g2 by omega] at hix2
              obtain ⟨u, hu⟩ : ∃ u, L.getD (a + n) 0 = u := ⟨_, rfl⟩
              obtain ⟨v, hv⟩ : ∃ v, L.getD (g2 + n) 0 = v := ⟨_, rfl⟩
              rw [hu] at hix1
              rw [hv] at hix2
              have HU := Lib.hid hu
              have HV := Lib.hid hv
              clear hu hv
              cases hc : ((u.toNat : Int) == (v.toNat : Int))
              · have HML := Lib.hid (show ml L g2 a lim = n from ml_at L g2 a lim n (by omega) HE.out (Or.inr (by rw [HU.out, HV.out]; rintro rfl; simp at hc)))
                go_wp2_with fail
                go_quiet (fail)
                by_cases hgt : lo < n
                · have hdg : decide ((n : Int) > (lo : Int)) = true := decide_eq_true (by omega)
                  have hdg2 : (lo : Int) < (n : Int) := by omega
                  go_wp2_with fail
                  go_roundg g2
                  case measure => omega
                  case rel =>
                    refine ⟨n, d, d + 1, rfl, rfl, by go_num, by omega, by omega, ?_, by omega, by omega, HK2.out.drewN nq⟩
                    have h1 := HBE.out
                    rw [range_rev, bestOf_step, HML.out, if_pos (by exact hgt), show a - g2 = d by omega] at h1
                    exact h1
                · have hdg : decide ((n : Int) > (lo : Int)) = false := decide_eq_false (by omega)
                  have hdg2 : ¬ (lo : Int) < (n : Int) := by omega
                  go_wp2_with fail
                  go_roundg g2
                  case measure => omega
                  case rel =>
                    refine ⟨lo, fa, d + 1, rfl, rfl, by go_num, by omega, by omega, ?_, by omega, by omega, HK2.out.drewN nq⟩
                    have h1 := HBE.out
                    rw [range_rev, bestOf_step, HML.out, if_neg (by exact hgt)] at h1
                    exact h1
              · have HEQ := Lib.hid (show v = u from UInt8.toNat_inj.1 (by have := beq_iff_eq.1 hc; omega))
                go_wp2_with fail
                go_quiet (fail)
                go_wp2_with fail
                go_roundg g3
                case measure => omega
                case rel =>
                  refine ⟨n + 1, by go_num, by omega, fun m hm => ?_, HK2.out.drewN nq⟩
                  by_cases hmn : m = n
                  · rw [hmn, HU.out, HV.out]; exact HEQ.out
                  · exact HE.out m (by omega)
            · have HML := Lib.hid (show ml L g2 a lim = n from ml_at L g2 a lim n (by omega) HE.out (Or.inl (by omega)))
              obtain rfl : gk = 0 := by omega
              by_cases h131 : n < 131
              · have hd131 : decide ((n : Int) < 131) = true := decide_eq_true (by omega)
                have hds : decide ((a : Int) + (n : Int) < (b.size : Int)) = false := decide_eq_false (by have := HLIM2.out; omega)
                have hds2 : decide (a + n < b.size) = false := decide_eq_false (by have := HLIM2.out; omega)
                go_wp2_with fail
                go_quiet (fail)
                by_cases hgt : lo < n
                · have hdg : decide ((n : Int) > (lo : Int)) = true := decide_eq_true (by omega)
                  have hdg2 : (lo : Int) < (n : Int) := by omega
                  go_wp2_with fail
                  go_roundg g2
                  case measure => omega
                  case rel =>
                    refine ⟨n, d, d + 1, rfl, rfl, by go_num, by omega, by omega, ?_, by omega, by omega, HK2.out.drewN nq⟩
                    have h1 := HBE.out
                    rw [range_rev, bestOf_step, HML.out, if_pos (by exact hgt), show a - g2 = d by omega] at h1
                    exact h1
                · have hdg : decide ((n : Int) > (lo : Int)) = false := decide_eq_false (by omega)
                  have hdg2 : ¬ (lo : Int) < (n : Int) := by omega
                  go_wp2_with fail
                  go_roundg g2
                  case measure => omega
                  case rel =>
                    refine ⟨lo, fa, d + 1, rfl, rfl, by go_num, by omega, by omega, ?_, by omega, by omega, HK2.out.drewN nq⟩
                    have h1 := HBE.out
                    rw [range_rev, bestOf_step, HML.out, if_neg (by exact hgt)] at h1
                    exact h1
              · have hd131 : decide ((n : Int) < 131) = false := decide_eq_false (by omega)
                go_wp2_with fail
                go_quiet (fail)
                by_cases hgt : lo < n
                · have hdg : decide ((n : Int) > (lo : Int)) = true := decide_eq_true (by omega)
                  have hdg2 : (lo : Int) < (n : Int) := by omega
                  go_wp2_with fail
                  go_roundg g2
                  case measure => omega
                  case rel =>
                    refine ⟨n, d, d + 1, rfl, rfl, by go_num, by omega, by omega, ?_, by omega, by omega, HK2.out.drewN nq⟩
                    have h1 := HBE.out
                    rw [range_rev, bestOf_step, HML.out, if_pos (by exact hgt), show a - g2 = d by omega] at h1
                    exact h1
                · have hdg : decide ((n : Int) > (lo : Int)) = false := decide_eq_false (by omega)
                  have hdg2 : ¬ (lo : Int) < (n : Int) := by omega
                  go_wp2_with fail
                  go_roundg g2
                  case measure => omega
                  case rel =>
                    refine ⟨lo, fa, d + 1, rfl, rfl, by go_num, by omega, by omega, ?_, by omega, by omega, HK2.out.drewN nq⟩
                    have h1 := HBE.out
                    rw [range_rev, bestOf_step, HML.out, if_neg (by exact hgt)] at h1
                    exact h1
        · have hdd : decide ((d : Int) ≤ (a : Int)) = false := decide_eq_false (by omega)
          have hdd2 : decide (d ≤ a) = false := decide_eq_false (by omega)
          obtain rfl : gk = 0 := by omega
          have hbe2 : bestOf L a lim (List.range a).reverse (0, 0) = (lo, fa) := HBE.out.symm
          have hall := best_all L a halt
          rw [HLIM.out, hbe2] at hall
          have HALL := Lib.hid hall
          have HBA := Lib.hid (best_or L a halt)
          clear hbe2 hall
          have HX2 := Lib.hid (HK.out.blk HX.out (by simp))
          have HY2 := Lib.hid (HK.out.blk HY.out (by simp))
          have HB2 := Lib.hid (HB.out.trans (HK.out.below (by rw [← HW.out]; exact hbs) (by simp)))
          have hbs2 := HB2.out.size
          clear HX HY HB HK HBE hbs
          have cx := HX2.out.cell 0
          have fx := HX2.out.frozen 0
          have cy := HY2.out.cell 0
          simp at cx cy
          obtain ⟨f1, rfl⟩ : ∃ f1, f = f1 + 1 := ⟨f - 1, by omega⟩
          have h4a : (lo < 4 ∧ best L a = (0, 0)) ∨ (4 ≤ lo ∧ best L a = (lo, fa)) := HALL.out
          clear HALL
          rcases h4a with ⟨h4, hbz⟩ | ⟨h4, hbz⟩
          · have hd4 : decide ((lo : Int) < 4) = true := decide_eq_true (by omega)
            have HYN := Lib.hid (show y.data.toList ++ sqE L f1 (a + 1) r0 = sqB L from by rw [← HYL.out, sqE_lit L f1 a r0 halt hbz])
            obtain ⟨pc, hpc⟩ : ∃ pc, b.extract a (a + 1) = pc := ⟨_, rfl⟩
            have hpl : pc.data.toList = [L.getD a 0] := by
              rw [← hpc, ex_listC, HL.out, show a + 1 - a = 1 by omega, List.drop_eq_getElem_cons halt, List.getD_eq_getElem?_getD, List.getElem?_eq_getElem halt]
              rfl
            have hpz : pc.size = 1 := by rw [Lib.size_eq, hpl]; rfl
            have HPL := Lib.hid hpl
            have HPZ := Lib.hid hpz
            have q1 : IntKind.i64.wrap ((a : Int) + 1) = (a : Int) + 1 := IntWalk.i64_in _ (by omega)
            have q2 : (a : Int) + 1 ≤ (b.size : Int) := by omega
            have q3 : (0 : Int) ≤ (a : Int) + 1 := by omega
            have q4 : (a : Int) ≤ (a : Int) + 1 := by omega
            have q5 : ((a : Int) + 1).toNat = a + 1 := by omega
            have b1 : x.size + pc.size ≤ maxLen := by unfold maxLen; omega
            have c1 : ¬ maxLen < x.size + pc.size := by unfold maxLen; omega
            have d1 : x.size + pc.size ≤ 9223372036854775807 := by omega
            have e1 : ¬ 9223372036854775807 < x.size + pc.size := by omega
            clear hpl hpz hbz
            go_upto_region 15 with (fail)
            go_region
            have HX3 := Lib.hid ((HX2.out.set 0 (.string (x ++ pc))).drw)
            have k1 : Kp [rb] wr (wr.setCell ⟨rb, 0, none⟩ (.string (x ++ pc))).drew := ((Kp.refl [rb] wr).setCell ⟨rb, 0, none⟩ (.string (x ++ pc)) (Or.inl (by simp))).drew
            have HY3 := Lib.hid (k1.blk HY2.out (by simpa using hne2))
            have HB3 := Lib.hid (HB2.out.trans (k1.below (by rw [← HW.out]; exact hbs2) (by simpa using hlo)))
            clear k1 HX2 HY2 HB2 cx fx cy q1 q2 q3 q4 q5 b1 c1 d1 e1
            go_wp2_with fail
            go_roundg g0
            case measure => omega
            case rel =>
              refine ⟨a + 1, r0, f1, x ++ pc, y, by go_num, by omega, by omega, HX3.out, HY3.out, ?_, HYN.out, by omega, ?_, HB3.out⟩
              · rw [take_runC hr0 halt, ← HXL.out, ← HPL.out]
                simp
              · rw [ByteArray.size_append, HPZ.out]; omega
          · have hd4 : decide ((lo : Int) < 4) = false := decide_eq_false (by omega)
            have hbo := HBA.out
            rw [hbz] at hbo
            have hbo2 : a + lo ≤ L.length ∧ 1 ≤ fa ∧ fa ≤ a := by
              rcases hbo with hbo | ⟨n, d', hbo, _, _, h5, h6, h7, _⟩
              · have : lo = 0 := congrArg Prod.fst hbo
                omega
              · obtain ⟨rfl, rfl⟩ := Prod.mk.inj hbo
                exact ⟨h5, h6, h7⟩
            have hrun : (L.drop r0).take (a - r0) = x.data.toList := HXL.out.symm
            have HYN := Lib.hid (show y.data.toList ++ (lits x.data.toList ++ (copyB lo fa ++ sqE L f1 (a + lo) (a + lo))) = sqB L from by rw [← HYL.out, sqE_copy L f1 a r0 lo fa halt hbz (by omega), hrun])
            have hlitz := lits_len _ x.data.toList (Nat.le_refl _)
            have hlsz : a + lo ≤ b.size := by rw [HLL.out]; exact hbo2.1
            have hfa1 : 1 ≤ fa := hbo2.2.1
            clear hbz hbo hrun HBA
            go_wp2_with fail
            refine (flushC_ok rb ob x y _ HX2.out HY2.out hne (by omega) (by omega)).mono ?_
            rintro e w2 ⟨rfl, hr2, ⟨o', ho2, hol⟩, hk2⟩
            have HR3 := Lib.hid hr2
            have HO3 := Lib.hid ho2
            have HOL := Lib.hid hol
            have HB3 := Lib.hid (HB2.out.trans (hk2.below (by rw [← HW.out]; exact hbs2) (by simp; omega)))
            have hoz : o'.size ≤ y.size + 2 * x.size := by
              rw [Lib.size_eq o', hol, List.length_append, ← Lib.size_eq]
              rw [← Lib.size_eq] at hlitz
              omega
            have co := ho2.cell 0
            have fo := ho2.frozen 0
            have hlto := ho2.lt
            simp at co
            clear hr2 ho2 hol hk2 HX2 HY2 HB2 cx fx cy hlitz hbs2
            have hcv := conv3 lo fa (by omega) hfa1 (by omega) w2
            obtain ⟨cb, hcb⟩ : ∃ cb : ByteArray, (⟨(copyB lo fa).toArray⟩ : ByteArray) = cb := ⟨_, rfl⟩
            rw [hcb] at hcv
            have hcl : cb.data.toList = copyB lo fa := by rw [← hcb]
            have hcz : cb.size = 3 := by rw [Lib.size_eq, hcl]; rfl
            have HCL := Lib.hid hcl
            have HCZ := Lib.hid hcz
            have hfa2 : fa ≤ 16384 := by omega
            have hlo131 : lo ≤ 131 := by omega
            clear hcb hcl
            go_wp2_with fail
            have hbs3 := HB3.out.size
            have HO4 := Lib.hid ((HO3.out.set 0 (.string (o' ++ cb))).old (.cells #[.int .u8 ((lo : Int) + 124), .int .u8 (((fa : Int) - 1) / 256), .int .u8 (((fa : Int) - 1) % 256)] 5))
            have k1 := ((Kp.refl [ob] w2).setCell ⟨ob, 0, none⟩ (.string (o' ++ cb)) (Or.inl (by simp))).alloc (.cells #[.int .u8 ((lo : Int) + 124), .int .u8 (((fa : Int) - 1) / 256), .int .u8 (((fa : Int) - 1) % 256)] 5)
            have HR4 := Lib.hid (k1.blk HR3.out (by simpa using hne))
            have HB4 := Lib.hid (HB3.out.trans (k1.below (by rw [← HW.out]; exact hbs3) (by simp)))
            go_roundg (g0 + 1 - lo)
            case measure => omega
            case rel =>
              refine ⟨a + lo, a + lo, f1, ⟨#[]⟩, o' ++ cb, by go_num, Nat.le_refl _, by omega, HR4.out, HO4.out, ?_, ?_, by omega, ?_, HB4.out⟩
              · rw [Nat.sub_self]; rfl
              · rw [← HYN.out]
                have : (o' ++ cb).data.toList = o'.data.toList ++ cb.data.toList := by simp
                rw [this, HOL.out, HCL.out]
                simp only [List.append_assoc]
              · rw [ByteArray.size_append, HCZ.out]
                show _ + 2 * 0 ≤ _
                omega
    · have hda : decide ((a : Int) < (b.size : Int)) = false := decide_eq_false (by omega)
      have hda2 : decide (a < b.size) = false := decide_eq_false hlt
      have hend : y.data.toList ++ lits x.data.toList = sqB L := by
        have h1 := HYL.out
        rw [sqEC_end L f a r0 (by rw [← HLL.out]; omega)] at h1
        rw [← h1, HXL.out, List.take_of_length_le (by rw [List.length_drop, ← HLL.out]; omega)]
      have HEND := Lib.hid hend
      clear hend
      go_wp2_with fail
      refine (flushC_ok rb ob x y _ HX.out HY.out hne (by omega) (by omega)).mono ?_
      rintro e w2 ⟨rfl, hr2, ⟨o', ho2, hol⟩, hk2⟩
      have HB3 := Lib.hid (HB.out.trans (hk2.below (by rw [← HW.out]; exact hbs) (by simp; omega)))
      have co := ho2.cell 0
      simp at co
      have hfin : o' = ⟨(sqB L).toArray⟩ := ba_extC (by rw [hol, HEND.out])
      have HF := Lib.hid hfin
      clear hfin hol ho2 hr2 hk2
      go_wp2_with fail
      go_ret
      exact ⟨by rw [← HF.out]; rfl, by rw [HW.out]; exact HB3.out⟩
end Go.Proofs.YtobiacdeoeogaaaGreatDoor
