import Derived.Test.YtnjmcppljbkhnaaYha
set_option linter.unusedVariables false
set_option linter.unusedSimpArgs false
namespace Go.Proofs.Ytnjmcppljbkhnaa
open Go.RowKit
set_option maxRecDepth 100000 in
set_option maxHeartbeats 2000000 in
theorem reduced57 (a : List Nat) (va : Value) (w : World) (ha : Rd w va a) (hla : a.length ≤ 100) (hda : ∀ d ∈ a, d < 256) :
    Calls Try.prog 57 #[va] w fun e w' => ∃ (v : Value) (L : List Nat), e = .returned v ∧ Rd w' v L ∧ (∀ d ∈ L, d < 256) ∧ valD L = valD a % P130 ∧ L.length ≤ 17 ∧ Below w.heap.size w w' := by
  obtain ⟨i0, hi0, hi1, hi2, hi3⟩ := info_parts info3d
  go_enter Try.func57, Try.ntmps57
  go_wp2_with fail
  go_loopw [0] (fun av wr => ∃ L : List Nat, Rd wr av L ∧ Hid (L.length ≤ 100 ∧ (∀ d ∈ L, d < 256) ∧ valD L % P130 = valD a % P130) ∧ Below w.heap.size w wr) (fun av wr => numAt wr av)
  case atStart => exact ⟨a, ha, Lib.hid ⟨hla, hda, rfl⟩, Below.refl _ _⟩
  case round =>
    obtain ⟨L, hr, HL, hb⟩ := hrel
    have HM := Lib.hid hr.num
    obtain ⟨p, cap, rfl, hc⟩ := hr
    have HC := Lib.hid hc
    have HB := Lib.hid hb
    clear hc hb ha
    generalize wr = wo at *
    go_wp2_with fail
    go_loopw [3, 15] (fun lv iv wq => ∃ i : Nat, i ≤ L.length ∧ iv = .int .i64 i ∧ wq.ownsRow wo.heap.size 3 1 lv (min i 17) (digV (lowL L i)) ∧ Below wo.heap.size wo wq) (fun _ iv _ => L.length - (intOf iv).toNat)
    case atStart => exact ⟨0, by omega, rfl, World.ownsRow_nil _ _ _ _, Below.refl _ _⟩
    case round =>
      obtain ⟨i, hi, rfl, hown, hbl⟩ := hrel
      have HO := Lib.hid hown
      have HBL := Lib.hid hbl
      clear hown hbl
      have hL1 : L.length ≤ 100 := HL.out.1
      by_cases hlt : i < L.length
      · have hd : decide ((i : Int) < (L.length : Int)) = true := decide_eq_true (by omega)
        obtain ⟨g, rfl, hg, hcl⟩ := HC.out i hlt
        have hclA : wr.cell? ⟨g, i, none⟩ = some (.int .i64 (L.getD i 0 : Nat)) := by rw [← hcl]; exact HBL.out.cell hg
        clear hcl
        have HK1 := Lib.hid (show i + 1 ≤ L.length from hlt)
        have xd := getD_lt L HL.out.2.1 i
        by_cases h16 : i < 16
        · have hd1 : decide ((i : Int) < 16) = true := decide_eq_true (by omega)
          have HLE := Lib.hid (show lowD L i = L.getD i 0 from by unfold lowD; first | rw [if_pos h16] | rw [if_neg h16, if_pos (show i = 16 by omega)])
          generalize hxx : L.getD i 0 = x at *
          have hmn : min i 17 = i := by omega
          have hmn1 : min (i + 1) 17 = i + 1 := by omega
          rw [hmn] at HO
          go_wp2_with (at_builtin; refine wpList_append_own _ rfl _ _ 89 rfl wo.heap.size 3 i0 (.int .i64 0) 1 8 underlying89d hi0 hi1 hi2 hi3 rfl (by decide) _ _ _ rfl (HO.out.alloc _) ⟨wr.heap.size, 0, none⟩ 1 1 [.int .i64 (x : Nat)] rfl rfl ?c1 ?c2 ?c3 ?c4 ?c5 ?_)
          case c1 =>
            intro j u hj
            match j, hj with
            | 0, hj => simp at hj; subst hj; simp [Addr.add]
          case c2 => intro u hu; simp at hu; subst hu; rfl
          case c3 => unfold maxLen; omega
          case c4 => omega
          case c5 => have := HBL.out.size; simp; omega
          intro v' w1 hown' hgrow _
          have HBN := Lib.hid (show Below wo.heap.size wo w1 from ((HBL.out).alloc HBL.out.size _).grown hgrow (by have := HBL.out.size; simp; omega) (by
            intro q hq
            obtain ⟨_, h2⟩ := HO.out
            rcases h2 with ⟨rfl, _⟩ | ⟨g, cap, cur, rfl, hbg, _⟩
            · simp [Value.ownBlock] at hq
            · simp [Value.ownBlock] at hq
              omega))
          have HON := Lib.hid (show w1.ownsRow wo.heap.size 3 1 v' (min (i + 1) 17) (digV (lowL L (i + 1))) from by
            rw [lowL_succ L i (by omega), hmn1, HLE.out]
            unfold digV at *
            rw [List.map_append]
            exact hown')
          clear hown' hgrow HO HBL hmn hmn1
          go_wp2_with fail
          go_roundw
          case rel => exact ⟨i + 1, HK1.out, by go_num, HON.out, HBN.out⟩
          case measure => simp [intOf]; omega
        · have hd1 : decide ((i : Int) < 16) = false := decide_eq_false (by omega)
          by_cases h17 : ¬ 16 < i
          · have hd2 : decide ((i : Int) = 16) = true := decide_eq_true (by omega)
            have HLE := Lib.hid (show lowD L i = L.getD i 0 % 4 from by unfold lowD; first | rw [if_pos h16] | rw [if_neg h16, if_pos (show i = 16 by omega)])
            generalize hxx : L.getD i 0 = x at *
            have hmn : min i 17 = i := by omega
            have hmn1 : min (i + 1) 17 = i + 1 := by omega
            rw [hmn] at HO
            have hand : bits .and .i64 (x : Int) 3 = ((x % 4 : Nat) : Int) := by
              have h := i64_and_nat x 3 (by omega) (by omega)
              rw [Nat.and_two_pow_sub_one_eq_mod _ 2] at h
              simpa using h
            go_wp2_with (at_builtin; refine wpList_append_own _ rfl _ _ 89 rfl wo.heap.size 3 i0 (.int .i64 0) 1 8 underlying89d hi0 hi1 hi2 hi3 rfl (by decide) _ _ _ rfl (HO.out.alloc _) ⟨wr.heap.size, 0, none⟩ 1 1 [.int .i64 (x % 4 : Nat)] rfl rfl ?c1 ?c2 ?c3 ?c4 ?c5 ?_)
            case c1 =>
              intro j u hj
              match j, hj with
              | 0, hj => simp at hj; subst hj; simp [Addr.add]
            case c2 => intro u hu; simp at hu; subst hu; rfl
            case c3 => unfold maxLen; omega
            case c4 => omega
            case c5 => have := HBL.out.size; simp; omega
            intro v' w1 hown' hgrow _
            have HBN := Lib.hid (show Below wo.heap.size wo w1 from ((HBL.out).alloc HBL.out.size _).grown hgrow (by have := HBL.out.size; simp; omega) (by
              intro q hq
              obtain ⟨_, h2⟩ := HO.out
              rcases h2 with ⟨rfl, _⟩ | ⟨g, cap, cur, rfl, hbg, _⟩
              · simp [Value.ownBlock] at hq
              · simp [Value.ownBlock] at hq
                omega))
            have HON := Lib.hid (show w1.ownsRow wo.heap.size 3 1 v' (min (i + 1) 17) (digV (lowL L (i + 1))) from by
              rw [lowL_succ L i (by omega), hmn1, HLE.out]
              unfold digV at *
              rw [List.map_append]
              exact hown')
            clear hown' hgrow HO HBL hmn hmn1
            go_wp2_with fail
            go_roundw
            case rel => exact ⟨i + 1, HK1.out, by go_num, HON.out, HBN.out⟩
            case measure => simp [intOf]; omega
          · have hd2 : decide ((i : Int) = 16) = false := decide_eq_false (by omega)
            go_wp2_with fail
            go_roundw
            case rel => exact ⟨i + 1, HK1.out, by go_num, by rw [lowL_stay L i (by omega), show min (i + 1) 17 = min i 17 by omega]; exact HO.out, HBL.out⟩
            case measure => simp [intOf]; omega
      · have hd : decide ((i : Int) < (L.length : Int)) = false := decide_eq_false (by omega)
        obtain rfl : i = L.length := by omega
        have HLO := Lib.hid (Rd.own' HO.out (lowL_len L L.length))
        clear HO
        generalize wr = wl at *
        go_wp2_with fail
        go_loopw [4, 7] (fun hv iv wq => ∃ i : Nat, 16 ≤ i ∧ i ≤ max 16 L.length ∧ iv = .int .i64 i ∧ wq.ownsRow wl.heap.size 3 1 hv (i - 16) (digV (highL L (i - 16))) ∧ Below wl.heap.size wl wq) (fun _ iv _ => L.length - (intOf iv).toNat)
        case atStart => exact ⟨16, by omega, by omega, rfl, World.ownsRow_nil _ _ _ _, Below.refl _ _⟩
        case round =>
          obtain ⟨i, hi16, hi, rfl, hown, hbl⟩ := hrel
          have HO2 := Lib.hid hown
          have HB2 := Lib.hid hbl
          clear hown hbl
          by_cases hlt : i < L.length
          · have hdd : decide ((i : Int) < (L.length : Int)) = true := decide_eq_true (by omega)
            obtain ⟨g, rfl, hg, hcl⟩ := HC.out i hlt
            have hclA : wr.cell? ⟨g, i, none⟩ = some (.int .i64 (L.getD i 0 : Nat)) := by
              rw [← hcl]; exact (HB2.out.cell (p := ⟨g, i, none⟩) (Nat.lt_of_lt_of_le hg HBL.out.size)).trans (HBL.out.cell hg)
            clear hcl
            have HK1 := Lib.hid (show i + 1 ≤ L.length from hlt)
            have hxd := getD_lt L HL.out.2.1 i
            have hyd := getD_lt L HL.out.2.1 (i + 1)
            have HE := Lib.hid (show highD L (i - 16) = L.getD i 0 / 4 + L.getD (i + 1) 0 % 4 * 64 from by unfold highD; rw [show 16 + (i - 16) = i by omega])
            by_cases hnx : i + 1 < L.length
            · have hdn : decide ((i : Int) + 1 < (L.length : Int)) = true := decide_eq_true (by omega)
              obtain ⟨g', hgg, hg', hcl2⟩ := HC.out (i + 1) hnx
              cases hgg
              have hclB : wr.cell? ⟨g, i + 1, none⟩ = some (.int .i64 (L.getD (i + 1) 0 : Nat)) := by
                rw [← hcl2]; exact (HB2.out.cell (p := ⟨g, i + 1, none⟩) (Nat.lt_of_lt_of_le hg HBL.out.size)).trans (HBL.out.cell hg)
              clear hcl2
              generalize hxx : L.getD i 0 = x at *
              generalize hyy : L.getD (i + 1) 0 = y at *
              have hand : bits .and .i64 ((y : Int) * 64) 255 = (y : Int) * 64 % 256 := by
                have h := i64_and_nat (y * 64) 255 (by omega) (by omega)
                rw [Nat.and_two_pow_sub_one_eq_mod _ 8] at h
                simpa using h
              have hor : bits .or .i64 ((x : Int) / 4) ((y : Int) * 64 % 256) = ((x / 4 + y % 4 * 64 : Nat) : Int) := by
                have h := i64_or_nat (x / 4) (y * 64 % 256) (by omega) (by omega)
                rw [or_high x y hxd hyd] at h
                simpa using h
              go_wp2_with (at_builtin; refine wpList_append_own _ rfl _ _ 89 rfl wl.heap.size 3 i0 (.int .i64 0) 1 8 underlying89d hi0 hi1 hi2 hi3 rfl (by decide) _ _ _ rfl (HO2.out.alloc _) ⟨wr.heap.size, 0, none⟩ 1 1 [.int .i64 (x / 4 + y % 4 * 64 : Nat)] rfl rfl ?c1 ?c2 ?c3 ?c4 ?c5 ?_)
              case c1 =>
                intro j u hj
                match j, hj with
                | 0, hj => simp at hj; subst hj; simp [Addr.add]
              case c2 => intro u hu; simp at hu; subst hu; rfl
              case c3 => unfold maxLen; omega
              case c4 => omega
              case c5 => have := HB2.out.size; simp; omega
              intro v' w1 hown' hgrow _
              have HBN := Lib.hid (show Below wl.heap.size wl w1 from ((HB2.out).alloc HB2.out.size _).grown hgrow (by have := HB2.out.size; simp; omega) (by
                intro q hq
                obtain ⟨_, h2⟩ := HO2.out
                rcases h2 with ⟨rfl, _⟩ | ⟨g, cap, cur, rfl, hbg, _⟩
                · simp [Value.ownBlock] at hq
                · simp [Value.ownBlock] at hq
                  omega))
              have HON := Lib.hid (show w1.ownsRow wl.heap.size 3 1 v' (i + 1 - 16) (digV (highL L (i + 1 - 16))) from by
                rw [show i + 1 - 16 = i - 16 + 1 by omega, highL_succ, HE.out]
                unfold digV at *
                rw [List.map_append]
                exact hown')
              clear hown' hgrow HO2 HB2
              go_wp2_with fail
              go_roundw
              case rel => exact ⟨i + 1, by omega, by omega, by go_num, HON.out, HBN.out⟩
              case measure => simp [intOf]; omega
            · have hdn : decide ((i : Int) + 1 < (L.length : Int)) = false := decide_eq_false (by omega)
              rw [getD_none L (i + 1) hnx] at HE
              generalize hxx : L.getD i 0 = x at *
              have hand : bits .and .i64 0 255 = 0 := by decide
              have hor : bits .or .i64 ((x : Int) / 4) 0 = ((x / 4 : Nat) : Int) := by
                have h := i64_or_nat (x / 4) 0 (by omega) (by omega)
                rw [Nat.or_zero] at h
                simpa using h
              go_wp2_with (at_builtin; refine wpList_append_own _ rfl _ _ 89 rfl wl.heap.size 3 i0 (.int .i64 0) 1 8 underlying89d hi0 hi1 hi2 hi3 rfl (by decide) _ _ _ rfl (HO2.out.alloc _) ⟨wr.heap.size, 0, none⟩ 1 1 [.int .i64 (x / 4 : Nat)] rfl rfl ?c1 ?c2 ?c3 ?c4 ?c5 ?_)
              case c1 =>
                intro j u hj
                match j, hj with
                | 0, hj => simp at hj; subst hj; simp [Addr.add]
              case c2 => intro u hu; simp at hu; subst hu; rfl
              case c3 => unfold maxLen; omega
              case c4 => omega
              case c5 => have := HB2.out.size; simp; omega
              intro v' w1 hown' hgrow _
              have HBN := Lib.hid (show Below wl.heap.size wl w1 from ((HB2.out).alloc HB2.out.size _).grown hgrow (by have := HB2.out.size; simp; omega) (by
                intro q hq
                obtain ⟨_, h2⟩ := HO2.out
                rcases h2 with ⟨rfl, _⟩ | ⟨g, cap, cur, rfl, hbg, _⟩
                · simp [Value.ownBlock] at hq
                · simp [Value.ownBlock] at hq
                  omega))
              have HON := Lib.hid (show w1.ownsRow wl.heap.size 3 1 v' (i + 1 - 16) (digV (highL L (i + 1 - 16))) from by
                rw [show i + 1 - 16 = i - 16 + 1 by omega, highL_succ, HE.out]
                unfold digV at *
                rw [List.map_append]
                exact hown')
              clear hown' hgrow HO2 HB2
              go_wp2_with fail
              go_roundw
              case rel => exact ⟨i + 1, by omega, by omega, by go_num, HON.out, HBN.out⟩
              case measure => simp [intOf]; omega
          · have hdd : decide ((i : Int) < (L.length : Int)) = false := decide_eq_false (by omega)
            have ei : i - 16 = L.length - 16 := by omega
            rw [ei] at HO2
            have HHI := Rd.own' HO2.out (highL_len L (L.length - 16))
            have HLO2 := Lib.hid (HLO.out.below HB2.out)
            have HBH := Lib.hid (show Below wo.heap.size wo wr from HBL.out.trans (HB2.out.mono HBL.out.size))
            clear HO2 HLO HBL HB2
            have HRED := Lib.hid (red_parts L HL.out.2.1)
            have HLt := Lib.hid (lowL_lt L HL.out.2.1)
            have HLD := Lib.hid (lowL_dig L HL.out.2.1 L.length)
            have HHD := Lib.hid (highL_dig L HL.out.2.1 (L.length - 16))
            have hLl : (lowL L L.length).length ≤ 17 := by rw [lowL_len]; omega
            have hHl : (highL L (L.length - 16)).length ≤ 84 := by rw [highL_len]; omega
            clear ei
            generalize lowL L L.length = LO at *
            generalize highL L (L.length - 16) = H at *
            obtain ⟨ph, ch, rfl, hch⟩ := HHI
            have HCH := Lib.hid hch
            clear hch
            go_wp2_with fail
            go_loop [9, 66] (fun sv iv => ∃ k : Nat, k ≤ H.length ∧ iv = .int .i64 k ∧ sv = .bool (anyD (fun k => H.getD k 0) k)) (fun _ iv => H.length - (intOf iv).toNat)
            case atStart => exact ⟨0, by omega, rfl, rfl⟩
            case round =>
              obtain ⟨k, hk, rfl, rfl⟩ := hrel
              by_cases hkl : k < H.length
              · have hdk : decide ((k : Int) < (H.length : Int)) = true := decide_eq_true (by omega)
                obtain ⟨g, rfl, hg, hcl⟩ := HCH.out k hkl
                have HS := Lib.hid (anyD_succ (fun k => H.getD k 0) k)
                have HK1 := Lib.hid (show k + 1 ≤ H.length from hkl)
                generalize anyD (fun k => H.getD k 0) k = b at *
                generalize H.getD k 0 = x at *
                cases b
                · by_cases hx0 : 0 < x
                  · have hd0 : decide ((0 : Int) < (x : Int)) = true := decide_eq_true (by omega)
                    have hd1 : decide ((x : Int) > 0) = true := decide_eq_true (by omega)
                    go_wp2_with fail
                    go_round
                    case rel => exact ⟨k + 1, HK1.out, by go_num, by rw [HS.out]; simp [hx0]⟩
                    case measure => simp [intOf]; omega
                  · have hd0 : decide ((0 : Int) < (x : Int)) = false := decide_eq_false (by omega)
                    have hd1 : decide ((x : Int) > 0) = false := decide_eq_false (by omega)
                    go_wp2_with fail
                    go_round
                    case rel => exact ⟨k + 1, HK1.out, by go_num, by rw [HS.out]; simp [hx0]⟩
                    case measure => simp [intOf]; omega
                · go_wp2_with fail
                  go_round
                  case rel => exact ⟨k + 1, HK1.out, by go_num, by rw [HS.out]; simp⟩
                  case measure => simp [intOf]; omega
              · have hdk : decide ((k : Int) < (H.length : Int)) = false := decide_eq_false (by omega)
                obtain rfl : k = H.length := by omega
                have HBV := Lib.hid (show anyD (fun k => H.getD k 0) H.length = decide (0 < valD H) from by unfold anyD; rw [← valD_getD H H.length (Nat.le_refl _)])
                generalize anyD (fun k => H.getD k 0) H.length = b at *
                have HB0 := Lib.hid ((Below.refl wr.heap.size wr).alloc (Nat.le_refl _) (.cells #[Value.int IntKind.i64 5] 3))
                have HBW := Lib.hid (show Below w.heap.size w wr from HB.out.trans (HBH.out.mono HB.out.size))
                have HRH := Lib.hid (show Rd wr (.slice ph H.length ch) H from ⟨ph, ch, rfl, HCH.out⟩)
                clear HCH HBH HB HC
                cases b
                · have hz : valD H = 0 := by
                    have h := HBV.out.symm
                    simp at h
                    exact h
                  go_wp2_with fail
                  refine (plus59 LO [5] _ _ _ (HLO2.out.below HB0.out) (rd_five _) (by omega) (by decide) HLD.out five_dig).mono ?_
                  rintro e w2 ⟨v2, Q, rfl, hQo, hQd, hQv, hQl, hQb⟩
                  rw [valD_five] at hQv
                  have hQl' : Q.length ≤ 18 := by simp at hQl; omega
                  have HLAST := Lib.hid (red_last (valD LO) Q hQd hQl' hQv HLt.out)
                  have HV := Lib.hid (show valD LO % P130 = valD a % P130 from by rw [← HL.out.2.2, HRED.out, hz, Nat.mul_zero, Nat.add_zero])
                  have HB2 := Lib.hid (show Below wr.heap.size wr w2 from HB0.out.trans (hQb.mono (by simp)))
                  have HRL := Lib.hid (HLO2.out.below HB2.out)
                  have HQd := Lib.hid hQd
                  clear hQd hQv hQl hQb HBV hz HB0 HRED
                  by_cases hc : 16 < Q.length
                  · obtain ⟨g, cap2, rfl, hg0, hcp, hir⟩ := own_open hQo rfl (by omega)
                    have hd1 : decide ((16 : Int) < (Q.length : Int)) = true := decide_eq_true (by omega)
                    have hd2 : decide ((Q.length : Int) > 16) = true := decide_eq_true (by omega)
                    have c16 : w2.cell? ⟨g, 16, none⟩ = some (.int .i64 (Q.getD 16 0 : Nat)) := (hir.2 16 hc).1
                    have f16 : w2.frozen? ⟨g, 16, none⟩ = false := (hir.2 16 hc).2
                    have HIR := Lib.hid hir
                    have x16 := getD_lt Q HQd.out 16
                    clear hir hQo
                    by_cases h4 : 4 ≤ Q.getD 16 0
                    · have HFin := Lib.hid (HLAST.out.2 h4)
                      generalize hx : Q.getD 16 0 = x at *
                      have hd3 : decide ((4 : Int) ≤ (x : Int)) = true := decide_eq_true (by omega)
                      have hand : bits .and .i64 (x : Int) 3 = (((x % 4 : Nat) : Nat) : Int) := by
                        have h := i64_and_nat x 3 (by omega) (by omega)
                        rw [Nat.and_two_pow_sub_one_eq_mod _ 2] at h
                        simpa using h
                      have HSET := Lib.hid ((HIR.out.set 16 (x % 4) hc).less (show 17 ≤ Q.length from hc))
                      have HBS := Lib.hid (show Below w.heap.size w (w2.setCell ⟨g, 16, none⟩ (.int .i64 ((x % 4 : Nat) : Int))) from (HBW.out.trans (HB2.out.mono HBW.out.size)).setCell (show w.heap.size ≤ g from Nat.le_trans HBW.out.size (by simp at hg0; omega)) _)
                      have hc17 : (17 : Int) ≤ (cap2 : Int) := by omega
                      clear HLAST
                      go_wp2_with fail
                      go_ret
                      refine ⟨_, (List.range 17).map (upd (fun k => Q.getD k 0) 16 (x % 4)), rfl, Rd.ofIR (by simpa using HSET.out), ?_, ?_, by simp, by simpa using HBS.out⟩
                      · intro d hd
                        simp only [List.mem_map, List.mem_range] at hd
                        obtain ⟨k, _, rfl⟩ := hd
                        exact upd_lt _ _ _ (getD_lt Q HQd.out) (by omega) k
                      · rw [valD_map, HFin.out, HV.out]
                    · have HFin := Lib.hid (HLAST.out.1 (fun h => h4 h.2))
                      generalize hx : Q.getD 16 0 = x at *
                      have hd3 : decide ((4 : Int) ≤ (x : Int)) = false := decide_eq_false (by omega)
                      clear HLAST
                      go_wp2_with fail
                      go_ret
                      exact ⟨_, LO, rfl, HRL.out, HLD.out, by rw [← HFin.out, HV.out], hLl, HBW.out.trans (HB2.out.mono HBW.out.size)⟩
                  · have hd1 : decide ((16 : Int) < (Q.length : Int)) = false := decide_eq_false (by omega)
                    have hd2 : decide ((Q.length : Int) > 16) = false := decide_eq_false (by omega)
                    obtain ⟨pq, cq, rfl, _⟩ := Rd.own' hQo rfl
                    have HFin := Lib.hid (HLAST.out.1 (fun h => hc h.1))
                    clear HLAST hQo
                    go_wp2_with fail
                    go_ret
                    exact ⟨_, LO, rfl, HRL.out, HLD.out, by rw [← HFin.out, HV.out], hLl, HBW.out.trans (HB2.out.mono HBW.out.size)⟩
                · have HPOS := Lib.hid (show 0 < valD H from of_decide_eq_true HBV.out.symm)
                  clear HBV
                  go_wp2_with fail
                  refine (product58 H [5] _ _ _ (HRH.out.below HB0.out) (rd_five _) (by omega) (by decide) HHD.out five_dig).mono ?_
                  rintro e w2 ⟨v2, P, rfl, hP, hPd, hPv, hPl, hPb⟩
                  rw [valD_five] at hPv
                  have hPl' : P.length ≤ 86 := by simp at hPl; omega
                  have HRP := Lib.hid hP
                  have HPd := Lib.hid hPd
                  have HPv := Lib.hid hPv
                  have HB2 := Lib.hid (show Below wr.heap.size wr w2 from HB0.out.trans (hPb.mono (by simp)))
                  clear hP hPd hPv hPl hPb HB0
                  go_wp2_with fail
                  refine (plus59 LO P _ _ _ (HLO2.out.below HB2.out) HRP.out (by omega) (by omega) HLD.out HPd.out).mono ?_
                  rintro e w3 ⟨v3, Q, rfl, hQo, hQd, hQv, hQl, hQb⟩
                  have HRQ := Lib.hid (Rd.own' hQo rfl)
                  have HQ := Lib.hid (show Q.length ≤ 100 ∧ (∀ d ∈ Q, d < 256) ∧ valD Q % P130 = valD a % P130 from ⟨by omega, hQd, by rw [hQv, HPv.out, red_mod _ _ _ HRED.out, HL.out.2.2]⟩)
                  have HLESS := Lib.hid (show numAt w3 v3 < numAt wo (.slice p L.length cap) from by
                    rw [HRQ.out.num, HM.out, hQv, HPv.out, HRED.out]
                    have := HPOS.out
                    omega)
                  have HB3 := Lib.hid (show Below w.heap.size w w3 from HBW.out.trans ((HB2.out.trans (hQb.mono HB2.out.size)).mono HBW.out.size))
                  clear hQo hQd hQv hQl hQb HB2 HBW
                  go_wp2_with fail
                  go_roundw
                  case rel => exact ⟨Q, HRQ.out, HQ, HB3.out⟩
                  case measure => exact HLESS.out
end Go.Proofs.Ytnjmcppljbkhnaa
