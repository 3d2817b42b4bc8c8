import Derived.Test.YtnjmcppljbkhnaaZg
set_option linter.unusedVariables false
set_option linter.unusedSimpArgs false
namespace Go.Proofs.Ytnjmcppljbkhnaa
open Go.RowKit
set_option maxRecDepth 100000 in
set_option maxHeartbeats 16000000 in
theorem law7_in (secret noise : ByteArray) (n m p : Nat) (ap : Option Addr) (cp : Nat) (xs : List Int) (w : World) (hnz : noise.size ≤ maxLen) (h1 : secret.size ≤ 1024) (hn : n = p + 1) (hnm : n ≤ m) (hm : m ≤ 255) (hx : PRow w ap xs) (hxs : xs.length ≤ maxLen) :
    Calls Try.prog 7 #[.string secret, .string noise, .int .i64 n, .int .i64 m, .slice ap xs.length cp] w fun e w' => e = .returned (.bool true) ∧ Below w.heap.size w w' := by
  obtain ⟨i0, hi0, hi1, hi2, hi3⟩ := info_parts info46s
  have HX := Lib.hid hx
  unfold maxLen at hnz hxs
  have q1 : (n : Int) - 1 = (p : Int) := by omega
  have hsp : secret.size * p ≤ 1024 * 254 := Nat.mul_le_mul h1 (by omega)
  have q2 : (secret.size : Int) * (p : Int) = ((secret.size * p : Nat) : Int) := by simp
  have d2 : decide ((secret.size : Int) ≤ 1024) = true := decide_eq_true (by omega)
  have d1 : decide ((1024 : Int) < (secret.size : Int)) = false := decide_eq_false (by omega)
  have HN := Lib.hid hn
  have HE := Lib.hid (fun w h N => shares30_empty secret N n m w h)
  have HF := Lib.hid (fun w N h0 hne hz => shares30_form secret N n m p w h0 h1 hn hnm hm hne hz)
  have HO := Lib.hid (fun w N h0 hz => shares30_ok secret N n m p w h0 h1 hn hnm hm hz)
  have HR := Lib.hid (fun w N hz => sharesOf32 secret N n m p w h1 hn hnm hm hz)
  have HZ := Lib.hid (show secret.size = 0 → secret.size * p = 0 from fun h => by rw [h, Nat.zero_mul])
  clear hn hx
  generalize secret.size * p = r at *
  go_enter Try.func7, Try.ntmps7
  go_wp2_with fail
  refine (within_t m 1 255 _ (by omega)).mono ?_
  rintro e w' ⟨rfl, rfl⟩
  go_wp2_with fail
  refine (within_t n 1 m _ (by omega)).mono ?_
  rintro e w' ⟨rfl, rfl⟩
  go_wp2_with fail
  go_loop [1] (fun v => ∃ N : ByteArray, v = .string N ∧ N.size ≤ 9223372036854775807) (fun v => r - (strOf v).size)
  case atStart => exact ⟨noise, rfl, by omega⟩
  case round =>
    obtain ⟨N, rfl, hN⟩ := hrel
    by_cases hc : 0 < N.size ∧ N.size < r
    · obtain ⟨hc1, hc2⟩ := hc
      have k1 : decide ((0 : Int) < (N.size : Int)) = true := decide_eq_true (by omega)
      have k2 : decide (N.size < r) = true := decide_eq_true hc2
      have k3 : N.size + N.size ≤ 9223372036854775807 := by omega
      have HS := Lib.hid (show (N ++ N).size = N.size + N.size from ByteArray.size_append)
      go_wp2_with fail
      go_round
      case rel => exact ⟨N ++ N, rfl, by rw [HS.out]; omega⟩
      case measure =>
        show r - (N ++ N).size < r - N.size
        rw [HS.out]; omega
    · have HC := Lib.hid (show N.size = 0 ∨ r ≤ N.size from by omega)
      by_cases hbig : r < N.size
      · have k0 : 0 < N.size := by omega
        have k1 : decide ((0 : Int) < (N.size : Int)) = true := decide_eq_true (by omega)
        have k2 : decide (N.size < r) = false := decide_eq_false (by omega)
        have k3 : decide (r < N.size) = true := decide_eq_true hbig
        have k4 : r ≤ N.size := by omega
        have k5 : (r : Int) ≤ (N.size : Int) := by omega
        have HM := Lib.hid (show (N.extract 0 r).size = r ∨ (N.extract 0 r).size = 0 ∧ 0 < r from Or.inl (by simp; omega))
        have hM2 : (N.extract 0 r).size ≤ 9223372036854775807 := by simp; omega
        clear hc
        generalize hNE : N.extract 0 r = M at *
        by_cases hz : secret.size = 0
        · skip
          have e := empty_no secret hz
          have C30 := Lib.hid (fun w => HE.out w hz M)
          clear hz
          go_wp2_with fail
          refine (C30.out _).mono ?_
          rintro e w' ⟨rfl, rfl⟩
          go_wp2_with fail
          refine (when17' true 21 _ _ rfl).mono ?_
          rintro e w' ⟨rfl, rfl⟩
          go_wp2_with fail
          refine (when17' false 8 _ _ rfl).mono ?_
          rintro e w' ⟨rfl, rfl⟩
          go_wp2_with fail
          refine (within_t m 1 255 _ (by omega)).mono ?_
          rintro e w' ⟨rfl, rfl⟩
          go_wp2_with fail
          refine (within_t n 1 m _ (by omega)).mono ?_
          rintro e w' ⟨rfl, rfl⟩
          go_wp2_with fail
          refine (when17' false 7 _ _ rfl).mono ?_
          rintro e w' ⟨rfl, rfl⟩
          go_wp2_with fail
          refine (first3 _ _ _ _ _).mono ?_
          rintro e w' ⟨rfl, rfl⟩
          rw [show firstI [whenI true 21, whenI false 8, whenI false 7] = 21 from rfl]
          go_wp2_with fail
          refine (seals13 _).mono ?_
          rintro e w5 ⟨rfl, b5⟩
          have HB5 := Lib.hid (((Below.refl w.heap.size w).alloc (Nat.le_refl _) _).trans (b5.mono (by simp)))
          clear b5
          go_wp2_with fail
          refine (seals13 _).mono ?_
          rintro e w6 ⟨rfl, b6⟩
          have HB6 := Lib.hid (below_step HB5.out (Nat.le_refl _) b6)
          clear b6
          go_wp2_with fail
          go_ret
          exact ⟨rfl, HB6.out⟩
        · have e := empty_of secret (by omega)
          have hz1 : 0 < secret.size := by omega
          clear hz
          by_cases hne : M.size = r
          · skip
            have C30 := Lib.hid (fun w => HO.out w M (by omega) hne)
            have q3 : ((M.size : Int) != (r : Int)) = false := by simp only [bne_eq_false_iff_eq]; omega
            have HRF := Lib.hid (fun w => HR.out w M hne)
            clear hne
            go_wp2_with fail
            refine (C30.out _).mono ?_
            rintro e w1 ⟨v1, rfl, hv1⟩
            obtain ⟨g1, c1, rfl, hc1, hcm1, hg1, hs1, hb1⟩ := hv1
            have HS1 := Lib.hid hs1
            have HB1 := Lib.hid hb1
            clear hs1 hb1
            go_wp2_with fail
            refine (when17' false 21 _ _ rfl).mono ?_
            rintro e w' ⟨rfl, rfl⟩
            go_wp2_with fail
            refine (when17' false 8 _ _ rfl).mono ?_
            rintro e w' ⟨rfl, rfl⟩
            go_wp2_with fail
            refine (within_t m 1 255 _ (by omega)).mono ?_
            rintro e w' ⟨rfl, rfl⟩
            go_wp2_with fail
            refine (within_t n 1 m _ (by omega)).mono ?_
            rintro e w' ⟨rfl, rfl⟩
            go_wp2_with fail
            refine (when17' false 7 _ _ rfl).mono ?_
            rintro e w' ⟨rfl, rfl⟩
            go_wp2_with fail
            refine (first3 _ _ _ _ _).mono ?_
            rintro e w' ⟨rfl, rfl⟩
            rw [show firstI [whenI false 21, whenI false 8, whenI false 7] = 0 from rfl]
            go_wp2_with fail
            refine (seals13 _).mono ?_
            rintro e w5 ⟨rfl, b5⟩
            have HB5 := Lib.hid (show Below w1.heap.size w1 w5 from ((Below.refl w1.heap.size w1).alloc (Nat.le_refl _) _).trans (b5.mono (by simp)))
            clear b5
            by_cases h40 : 40 < secret.size
            · have k40 : decide ((40 : Int) < (secret.size : Int)) = true := decide_eq_true (by omega)
              go_wp2_with fail
              go_ret
              exact ⟨rfl, below_step HB1.out (Nat.le_refl _) HB5.out⟩
            · have k40 : decide ((40 : Int) < (secret.size : Int)) = false := decide_eq_false (by omega)
              go_wp2_with fail
              refine (HRF.out _).mono ?_
              rintro e w6 ⟨v2, rfl, hv2⟩
              obtain ⟨g2, c2, rfl, hc2, hcm2, hg2, hs2, hb2⟩ := hv2
              have HS2 := Lib.hid hs2
              have HB6 := Lib.hid (below_step HB5.out (Nat.le_refl _) hb2)
              have HS1b := Lib.hid (HS1.out.at' HB6.out)
              clear hs2 hb2 HRF
              go_wp2_with fail
              refine (equal31 (some ⟨g1, 0, none⟩) (some ⟨g2, 0, none⟩) c1 c2 m _ _ _ HS1b.out HS2.out (by unfold maxLen; omega)).mono ?_
              rintro e w7 ⟨rfl, hb7⟩
              have HB7 := Lib.hid (below_step HB6.out (Nat.le_refl _) hb7)
              have HS7 := Lib.hid (HS1.out.at' HB7.out)
              have HBW := Lib.hid (below_step HB1.out (Nat.le_refl _) HB7.out)
              clear hb7 HS1b HS2 HB6 HS1 HB1 HB5 HB7 C30 HE HF HO HR HZ q2 q3 d1 d2 HM HC e
              go_wp2_with fail
              go_loopw [15, 136] (fun sv kv wq => ∃ (k : Nat) (L : List Nat), k ≤ xs.length ∧ kv = .int .i64 k ∧ wq.ownsRow w7.heap.size 46 2 sv L.length (lsC (shD secret M n) L) ∧ Hid (L.Nodup ∧ ∀ x ∈ L, 1 ≤ x ∧ x ≤ m) ∧ Below w7.heap.size w7 wq) (fun _ kv _ => xs.length - (intOf kv).toNat)
              case atStart => exact ⟨0, [], by omega, rfl, World.ownsRow_nil _ _ _ _, Lib.hid ⟨List.nodup_nil, by simp⟩, Below.refl _ _⟩
              case round =>
                obtain ⟨k, L, hk, rfl, hown, HL, hb⟩ := hrel
                have HO2 := Lib.hid hown
                have HB := Lib.hid hb
                clear hown hb
                have hL255 : L.length ≤ 256 := nodup_len 256 L HL.out.1 (fun x hx => by have := HL.out.2 x hx; omega)
                obtain ⟨a, ca, rfl, hca, hcam, hsr⟩ := own_list HO2.out
                have HSR := Lib.hid hsr
                clear hsr
                by_cases hlt : k < xs.length
                · have hd : decide (k < xs.length) = true := decide_eq_true hlt
                  obtain ⟨bx, ox, rfl, hbx, hcx⟩ := HX.out k hlt
                  have hcxr : wr.cell? ⟨bx, ox + k, none⟩ = some (.int .i64 (xs.getD k 0)) := by
                    rw [← hcx]; exact (HB.out.cell (p := ⟨bx, ox + k, none⟩) (Nat.lt_of_lt_of_le hbx HBW.out.size)).trans (HBW.out.cell hbx)
                  obtain ⟨t, i, ht, ht1, ht2, hti, him⟩ := tmod_idx (xs.getD k 0) m (by omega)
                  clear hcx
                  generalize xs.getD k 0 = z at *
                  obtain ⟨b1, o1, e1, hb1', f0, f1⟩ := (HS7.out.below HB.out) i him
                  cases e1
                  obtain ⟨x, hx⟩ : ∃ x, x = i + 1 := ⟨_, rfl⟩
                  simp only [Nat.zero_add] at f0 f1
                  rw [← hx] at f0 f1
                  have HXI := Lib.hid hx
                  have hk1 : (k : Int) < (xs.length : Int) := by omega
                  have him1 : (i : Int) < (m : Int) := by omega
                  have hm0 : (0 : Int) < (m : Int) := by omega
                  have hm1 : (m : Int) ≠ 0 := by omega
                  have ht0 : 0 ≤ t + (m : Int) := by omega
                  have HX12 := Lib.hid (show 1 ≤ x ∧ x ≤ m from by omega)
                  clear hx
                  have HMB := Lib.hid (memB_list (shD secret M n) L x)
                  have HC33 := Lib.hid (fun w hx => contains33 a ca L.length (lX L) (lD (shD secret M n) L) (x : Int) (shD secret M n x) w hx (by unfold maxLen; omega))
                  have HSN := Lib.hid (lsC_snoc (shD secret M n) L x)
                  generalize shD secret M n x = dd at *
                  have hnew := Blk.new wr 46 #[.int .i64 (x : Nat), .string dd]
                  have HNEW := Lib.hid hnew
                  clear hnew
                  go_wp2_with fail
                  refine (HC33.out _ (HSR.out.at' ((Below.refl _ _).alloc (Nat.le_refl _) _))).mono ?_
                  rintro e w8 ⟨rfl, hb8⟩
                  rw [HMB.out]
                  have b0 : w8.cell? ⟨wr.heap.size, 0, none⟩ = some (.int .i64 (x : Nat)) := (hb8.cell (p := ⟨wr.heap.size, 0, none⟩) (by simp)).trans (HNEW.out.cell 0)
                  have b1 : w8.cell? ⟨wr.heap.size, 1, none⟩ = some (.string dd) := (hb8.cell (p := ⟨wr.heap.size, 1, none⟩) (by simp)).trans (HNEW.out.cell 1)
                  have HBr := Lib.hid (show Below wr.heap.size wr w8 from ((Below.refl wr.heap.size wr).alloc (Nat.le_refl _) _).trans (hb8.mono (by simp)))
                  have HB8 := Lib.hid (show Below w7.heap.size w7 w8 from HB.out.trans (HBr.out.mono HB.out.size))
                  have HO8 := Lib.hid (own_below HO2.out HBr.out)
                  clear hb8 HSR HO2 HBr HC33 HMB HNEW
                  have HK1 := Lib.hid (show k + 1 ≤ xs.length from hlt)
                  by_cases hmem : x ∈ L
                  · rw [decide_eq_true hmem]
                    clear hmem
                    go_wp2_with fail
                    go_roundw
                    case rel => exact ⟨k + 1, L, HK1.out, by go_num, HO8.out, HL, HB8.out⟩
                    case measure => simp [intOf]; omega
                  · rw [decide_eq_false hmem]
                    have HL2 := Lib.hid (show (L ++ [x]).Nodup ∧ ∀ y ∈ L ++ [x], 1 ≤ y ∧ y ≤ m from ⟨nodup_snoc L x HL.out.1 hmem, fun y hy => by
                      rcases List.mem_append.1 hy with h | h
                      · exact HL.out.2 y h
                      · simp at h; subst h; exact HX12.out⟩)
                    clear hmem
                    go_wp2_with (at_builtin; refine wpList_append_own _ rfl _ _ 43 rfl w7.heap.size 46 i0 (.agg #[.int .i64 0, .string ⟨#[]⟩]) 2 24 Try.underlying43 hi0 hi1 hi2 hi3 rfl (by decide) _ _ _ rfl (HO8.out.alloc _) ⟨w8.heap.size, 0, none⟩ 1 1 [.int .i64 (x : Nat), .string dd] rfl rfl ?c1 ?c2 ?c3 ?c4 ?c5 ?_)
                    case c1 =>
                      intro j u hj
                      match j, hj with
                      | 0, hj => simp at hj; subst hj; simp [Addr.add]
                      | 1, hj => simp at hj; subst hj; simp [Addr.add]
                    case c2 =>
                      intro u hu
                      simp at hu
                      rcases hu with rfl | rfl <;> rfl
                    case c3 => unfold maxLen; omega
                    case c4 => omega
                    case c5 => have := HB8.out.size; simp; omega
                    intro v' w9 hown' hgrow _
                    have HBN := Lib.hid (show Below w7.heap.size w7 w9 from ((HB8.out).alloc HB8.out.size _).grown hgrow (by have := HB8.out.size; simp; omega) (by
                      intro q hq
                      obtain ⟨_, h2⟩ := HO8.out
                      rcases h2 with ⟨hv0, _⟩ | ⟨g, cap, cur, hv0, hbg, _⟩
                      · rw [hv0] at hq; simp [Value.ownBlock] at hq
                      · rw [hv0] at hq
                        simp [Value.ownBlock] at hq
                        omega))
                    have HON := Lib.hid (show w9.ownsRow w7.heap.size 46 2 v' (L ++ [x]).length (lsC (shD secret M n) (L ++ [x])) from by
                      rw [HSN.out, List.length_append]
                      exact hown')
                    clear hown' hgrow HO8 HB8
                    go_wp2_with fail
                    go_roundw
                    case rel => exact ⟨k + 1, L ++ [x], HK1.out, by go_num, HON.out, HL2, HBN.out⟩
                    case measure => simp [intOf]; omega
                · have hd : decide (k < xs.length) = false := decide_eq_false hlt
                  have hL255b : L.length ≤ 255 := by
                    have h := nodup_len 255 (L.map (· - 1)) (by
                      rw [List.Nodup, List.pairwise_map]
                      refine (List.pairwise_iff_forall_sublist.2 ?_)
                      intro a b hab hne
                      have ha := HL.out.2 a (hab.subset (by simp))
                      have hb := HL.out.2 b (hab.subset (by simp))
                      have hnd : a ≠ b := (List.pairwise_iff_forall_sublist.1 HL.out.1) hab
                      exact hnd (by omega)) (fun y hy => by
                      obtain ⟨q, hq, rfl⟩ := List.mem_map.1 hy
                      have := HL.out.2 q hq
                      omega)
                    simpa using h
                  have HBF := Lib.hid (below_step HBW.out (Nat.le_refl _) HB.out)
                  have hds : ∀ i, (lD (shD secret M n) L i).size ≤ maxLen := fun i => by unfold lD; rw [shD_size]; unfold maxLen; omega
                  have hLL : ∀ y ∈ L, 1 ≤ y ∧ y ≤ 255 := fun y hy => by have := HL.out.2 y hy; omega
                  by_cases h12 : 12 < L.length
                  · have k12 : decide ((12 : Int) < (L.length : Int)) = true := decide_eq_true (by omega)
                    obtain ⟨ba, oa, rfl, _, _, _⟩ := HSR.out 0 (by omega)
                    have hca12 : (12 : Int) ≤ (ca : Int) := by omega
                    have C26 := Lib.hid (fun w hx => secret26 (some ⟨ba, oa, none⟩) ca 12 (lX L) (lD (shD secret M n) L) n w hx hds (by omega) hcam)
                    have HSL := Lib.hid (HSR.out.less (show 12 ≤ L.length by omega))
                    have HBACK := Lib.hid (fun w e w' h => back_list secret M n (by have := HN.out; omega) (by omega) L hLL HL.out.1 12 (by omega) (by omega) hz1 h1 w e w' h)
                    clear hds hLL HSR hL255b HO2 HS7
                    go_wp2_with fail
                    refine (C26.out _ HSL.out).mono ?_
                    intro e w9 hp
                    obtain ⟨p1, p2, p3⟩ := HBACK.out _ _ _ hp
                    have HP3 := Lib.hid (below_step HBF.out (Nat.le_refl _) p3)
                    clear hp p3
                    by_cases hq : 12 < n
                    · obtain rfl := p1 hq
                      have kq : decide ((12 : Int) < (n : Int)) = true := decide_eq_true (by omega)
                      have emp : ByteArray.empty.toList.isEmpty = true := empty_no _ rfl
                      clear p1 p2
                      go_wp2_with fail
                      go_ret
                      exact ⟨rfl, HP3.out⟩
                    · obtain rfl := p2 (by omega)
                      have kq : decide ((12 : Int) < (n : Int)) = false := decide_eq_false (by omega)
                      clear p1 p2
                      go_wp2_with fail
                      go_ret
                      exact ⟨rfl, HP3.out⟩
                  · have k12 : decide ((12 : Int) < (L.length : Int)) = false := decide_eq_false (by omega)
                    have C26 := Lib.hid (fun w hx => secret26 a ca L.length (lX L) (lD (shD secret M n) L) n w hx hds hca hcam)
                    have HSL := Lib.hid HSR.out
                    have HBACK := Lib.hid (fun w e w' h => back_list secret M n (by have := HN.out; omega) (by omega) L hLL HL.out.1 L.length (Nat.le_refl _) hL255b hz1 h1 w e w' h)
                    clear hds hLL HSR HO2 HS7
                    go_wp2_with fail
                    refine (C26.out _ HSL.out).mono ?_
                    intro e w9 hp
                    obtain ⟨p1, p2, p3⟩ := HBACK.out _ _ _ hp
                    have HP3 := Lib.hid (below_step HBF.out (Nat.le_refl _) p3)
                    clear hp p3
                    by_cases hq : L.length < n
                    · obtain rfl := p1 hq
                      have kq : decide (L.length < n) = true := decide_eq_true hq
                      have emp : ByteArray.empty.toList.isEmpty = true := empty_no _ rfl
                      clear p1 p2
                      go_wp2_with fail
                      go_ret
                      exact ⟨rfl, HP3.out⟩
                    · obtain rfl := p2 (by omega)
                      have kq : decide (L.length < n) = false := decide_eq_false hq
                      clear p1 p2
                      go_wp2_with fail
                      go_ret
                      exact ⟨rfl, HP3.out⟩
          · skip
            have hM0 : M.size ≠ r := hne
            have C30 := Lib.hid (fun w => HF.out w M (by omega) hne (by unfold maxLen; omega))
            have q3 : ((M.size : Int) != (r : Int)) = true := by simp only [bne_iff_ne, ne_eq]; omega
            clear hne hM0
            go_wp2_with fail
            refine (C30.out _).mono ?_
            rintro e w' ⟨rfl, rfl⟩
            go_wp2_with fail
            refine (when17' false 21 _ _ rfl).mono ?_
            rintro e w' ⟨rfl, rfl⟩
            go_wp2_with fail
            refine (when17' false 8 _ _ rfl).mono ?_
            rintro e w' ⟨rfl, rfl⟩
            go_wp2_with fail
            refine (within_t m 1 255 _ (by omega)).mono ?_
            rintro e w' ⟨rfl, rfl⟩
            go_wp2_with fail
            refine (within_t n 1 m _ (by omega)).mono ?_
            rintro e w' ⟨rfl, rfl⟩
            go_wp2_with fail
            refine (when17' false 7 _ _ rfl).mono ?_
            rintro e w' ⟨rfl, rfl⟩
            go_wp2_with fail
            refine (first3 _ _ _ _ _).mono ?_
            rintro e w' ⟨rfl, rfl⟩
            rw [show firstI [whenI false 21, whenI false 8, whenI false 7] = 0 from rfl]
            go_wp2_with fail
            refine (seals13 _).mono ?_
            rintro e w5 ⟨rfl, b5⟩
            have HB5 := Lib.hid (((Below.refl w.heap.size w).alloc (Nat.le_refl _) _).trans (b5.mono (by simp)))
            clear b5
            go_wp2_with fail
            refine (seals13 _).mono ?_
            rintro e w6 ⟨rfl, b6⟩
            have HB6 := Lib.hid (below_step HB5.out (Nat.le_refl _) b6)
            clear b6
            go_wp2_with fail
            go_ret
            exact ⟨rfl, HB6.out⟩
      · have k3 : decide (r < N.size) = false := decide_eq_false hbig
        have HM := Lib.hid (show N.size = r ∨ N.size = 0 ∧ 0 < r from by have := HC.out; omega)
        by_cases k0 : 0 < N.size
        · have k1 : decide ((0 : Int) < (N.size : Int)) = true := decide_eq_true (by omega)
          have k2 : decide (N.size < r) = false := decide_eq_false (by omega)
          clear hc
          obtain ⟨M, hNE⟩ : ∃ M : ByteArray, N = M := ⟨N, rfl⟩
          subst hNE
          by_cases hz : secret.size = 0
          · skip
            have e := empty_no secret hz
            have C30 := Lib.hid (fun w => HE.out w hz N)
            clear hz
            go_wp2_with fail
            refine (C30.out _).mono ?_
            rintro e w' ⟨rfl, rfl⟩
            go_wp2_with fail
            refine (when17' true 21 _ _ rfl).mono ?_
            rintro e w' ⟨rfl, rfl⟩
            go_wp2_with fail
            refine (when17' false 8 _ _ rfl).mono ?_
            rintro e w' ⟨rfl, rfl⟩
            go_wp2_with fail
            refine (within_t m 1 255 _ (by omega)).mono ?_
            rintro e w' ⟨rfl, rfl⟩
            go_wp2_with fail
            refine (within_t n 1 m _ (by omega)).mono ?_
            rintro e w' ⟨rfl, rfl⟩
            go_wp2_with fail
            refine (when17' false 7 _ _ rfl).mono ?_
            rintro e w' ⟨rfl, rfl⟩
            go_wp2_with fail
            refine (first3 _ _ _ _ _).mono ?_
            rintro e w' ⟨rfl, rfl⟩
            rw [show firstI [whenI true 21, whenI false 8, whenI false 7] = 21 from rfl]
            go_wp2_with fail
            refine (seals13 _).mono ?_
            rintro e w5 ⟨rfl, b5⟩
            have HB5 := Lib.hid (((Below.refl w.heap.size w).alloc (Nat.le_refl _) _).trans (b5.mono (by simp)))
            clear b5
            go_wp2_with fail
            refine (seals13 _).mono ?_
            rintro e w6 ⟨rfl, b6⟩
            have HB6 := Lib.hid (below_step HB5.out (Nat.le_refl _) b6)
            clear b6
            go_wp2_with fail
            go_ret
            exact ⟨rfl, HB6.out⟩
          · have e := empty_of secret (by omega)
            have hz1 : 0 < secret.size := by omega
            clear hz
            by_cases hne : N.size = r
            · skip
              have C30 := Lib.hid (fun w => HO.out w N (by omega) hne)
              have q3 : ((N.size : Int) != (r : Int)) = false := by simp only [bne_eq_false_iff_eq]; omega
              have HRF := Lib.hid (fun w => HR.out w N hne)
              clear hne
              go_wp2_with fail
              refine (C30.out _).mono ?_
              rintro e w1 ⟨v1, rfl, hv1⟩
              obtain ⟨g1, c1, rfl, hc1, hcm1, hg1, hs1, hb1⟩ := hv1
              have HS1 := Lib.hid hs1
              have HB1 := Lib.hid hb1
              clear hs1 hb1
              go_wp2_with fail
              refine (when17' false 21 _ _ rfl).mono ?_
              rintro e w' ⟨rfl, rfl⟩
              go_wp2_with fail
              refine (when17' false 8 _ _ rfl).mono ?_
              rintro e w' ⟨rfl, rfl⟩
              go_wp2_with fail
              refine (within_t m 1 255 _ (by omega)).mono ?_
              rintro e w' ⟨rfl, rfl⟩
              go_wp2_with fail
              refine (within_t n 1 m _ (by omega)).mono ?_
              rintro e w' ⟨rfl, rfl⟩
              go_wp2_with fail
              refine (when17' false 7 _ _ rfl).mono ?_
              rintro e w' ⟨rfl, rfl⟩
              go_wp2_with fail
              refine (first3 _ _ _ _ _).mono ?_
              rintro e w' ⟨rfl, rfl⟩
              rw [show firstI [whenI false 21, whenI false 8, whenI false 7] = 0 from rfl]
              go_wp2_with fail
              refine (seals13 _).mono ?_
              rintro e w5 ⟨rfl, b5⟩
              have HB5 := Lib.hid (show Below w1.heap.size w1 w5 from ((Below.refl w1.heap.size w1).alloc (Nat.le_refl _) _).trans (b5.mono (by simp)))
              clear b5
              by_cases h40 : 40 < secret.size
              · have k40 : decide ((40 : Int) < (secret.size : Int)) = true := decide_eq_true (by omega)
                go_wp2_with fail
                go_ret
                exact ⟨rfl, below_step HB1.out (Nat.le_refl _) HB5.out⟩
              · have k40 : decide ((40 : Int) < (secret.size : Int)) = false := decide_eq_false (by omega)
                go_wp2_with fail
                refine (HRF.out _).mono ?_
                rintro e w6 ⟨v2, rfl, hv2⟩
                obtain ⟨g2, c2, rfl, hc2, hcm2, hg2, hs2, hb2⟩ := hv2
                have HS2 := Lib.hid hs2
                have HB6 := Lib.hid (below_step HB5.out (Nat.le_refl _) hb2)
                have HS1b := Lib.hid (HS1.out.at' HB6.out)
                clear hs2 hb2 HRF
                go_wp2_with fail
                refine (equal31 (some ⟨g1, 0, none⟩) (some ⟨g2, 0, none⟩) c1 c2 m _ _ _ HS1b.out HS2.out (by unfold maxLen; omega)).mono ?_
                rintro e w7 ⟨rfl, hb7⟩
                have HB7 := Lib.hid (below_step HB6.out (Nat.le_refl _) hb7)
                have HS7 := Lib.hid (HS1.out.at' HB7.out)
                have HBW := Lib.hid (below_step HB1.out (Nat.le_refl _) HB7.out)
                clear hb7 HS1b HS2 HB6 HS1 HB1 HB5 HB7 C30 HE HF HO HR HZ q2 q3 d1 d2 HM HC e
                go_wp2_with fail
                go_loopw [15, 136] (fun sv kv wq => ∃ (k : Nat) (L : List Nat), k ≤ xs.length ∧ kv = .int .i64 k ∧ wq.ownsRow w7.heap.size 46 2 sv L.length (lsC (shD secret N n) L) ∧ Hid (L.Nodup ∧ ∀ x ∈ L, 1 ≤ x ∧ x ≤ m) ∧ Below w7.heap.size w7 wq) (fun _ kv _ => xs.length - (intOf kv).toNat)
                case atStart => exact ⟨0, [], by omega, rfl, World.ownsRow_nil _ _ _ _, Lib.hid ⟨List.nodup_nil, by simp⟩, Below.refl _ _⟩
                case round =>
                  obtain ⟨k, L, hk, rfl, hown, HL, hb⟩ := hrel
                  have HO2 := Lib.hid hown
                  have HB := Lib.hid hb
                  clear hown hb
                  have hL255 : L.length ≤ 256 := nodup_len 256 L HL.out.1 (fun x hx => by have := HL.out.2 x hx; omega)
                  obtain ⟨a, ca, rfl, hca, hcam, hsr⟩ := own_list HO2.out
                  have HSR := Lib.hid hsr
                  clear hsr
                  by_cases hlt : k < xs.length
                  · have hd : decide (k < xs.length) = true := decide_eq_true hlt
                    obtain ⟨bx, ox, rfl, hbx, hcx⟩ := HX.out k hlt
                    have hcxr : wr.cell? ⟨bx, ox + k, none⟩ = some (.int .i64 (xs.getD k 0)) := by
                      rw [← hcx]; exact (HB.out.cell (p := ⟨bx, ox + k, none⟩) (Nat.lt_of_lt_of_le hbx HBW.out.size)).trans (HBW.out.cell hbx)
                    obtain ⟨t, i, ht, ht1, ht2, hti, him⟩ := tmod_idx (xs.getD k 0) m (by omega)
                    clear hcx
                    generalize xs.getD k 0 = z at *
                    obtain ⟨b1, o1, e1, hb1', f0, f1⟩ := (HS7.out.below HB.out) i him
                    cases e1
                    obtain ⟨x, hx⟩ : ∃ x, x = i + 1 := ⟨_, rfl⟩
                    simp only [Nat.zero_add] at f0 f1
                    rw [← hx] at f0 f1
                    have HXI := Lib.hid hx
                    have hk1 : (k : Int) < (xs.length : Int) := by omega
                    have him1 : (i : Int) < (m : Int) := by omega
                    have hm0 : (0 : Int) < (m : Int) := by omega
                    have hm1 : (m : Int) ≠ 0 := by omega
                    have ht0 : 0 ≤ t + (m : Int) := by omega
                    have HX12 := Lib.hid (show 1 ≤ x ∧ x ≤ m from by omega)
                    clear hx
                    have HMB := Lib.hid (memB_list (shD secret N n) L x)
                    have HC33 := Lib.hid (fun w hx => contains33 a ca L.length (lX L) (lD (shD secret N n) L) (x : Int) (shD secret N n x) w hx (by unfold maxLen; omega))
                    have HSN := Lib.hid (lsC_snoc (shD secret N n) L x)
                    generalize shD secret N n x = dd at *
                    have hnew := Blk.new wr 46 #[.int .i64 (x : Nat), .string dd]
                    have HNEW := Lib.hid hnew
                    clear hnew
                    go_wp2_with fail
                    refine (HC33.out _ (HSR.out.at' ((Below.refl _ _).alloc (Nat.le_refl _) _))).mono ?_
                    rintro e w8 ⟨rfl, hb8⟩
                    rw [HMB.out]
                    have b0 : w8.cell? ⟨wr.heap.size, 0, none⟩ = some (.int .i64 (x : Nat)) := (hb8.cell (p := ⟨wr.heap.size, 0, none⟩) (by simp)).trans (HNEW.out.cell 0)
                    have b1 : w8.cell? ⟨wr.heap.size, 1, none⟩ = some (.string dd) := (hb8.cell (p := ⟨wr.heap.size, 1, none⟩) (by simp)).trans (HNEW.out.cell 1)
                    have HBr := Lib.hid (show Below wr.heap.size wr w8 from ((Below.refl wr.heap.size wr).alloc (Nat.le_refl _) _).trans (hb8.mono (by simp)))
                    have HB8 := Lib.hid (show Below w7.heap.size w7 w8 from HB.out.trans (HBr.out.mono HB.out.size))
                    have HO8 := Lib.hid (own_below HO2.out HBr.out)
                    clear hb8 HSR HO2 HBr HC33 HMB HNEW
                    have HK1 := Lib.hid (show k + 1 ≤ xs.length from hlt)
                    by_cases hmem : x ∈ L
                    · rw [decide_eq_true hmem]
                      clear hmem
                      go_wp2_with fail
                      go_roundw
                      case rel => exact ⟨k + 1, L, HK1.out, by go_num, HO8.out, HL, HB8.out⟩
                      case measure => simp [intOf]; omega
                    · rw [decide_eq_false hmem]
                      have HL2 := Lib.hid (show (L ++ [x]).Nodup ∧ ∀ y ∈ L ++ [x], 1 ≤ y ∧ y ≤ m from ⟨nodup_snoc L x HL.out.1 hmem, fun y hy => by
                        rcases List.mem_append.1 hy with h | h
                        · exact HL.out.2 y h
                        · simp at h; subst h; exact HX12.out⟩)
                      clear hmem
                      go_wp2_with (at_builtin; refine wpList_append_own _ rfl _ _ 43 rfl w7.heap.size 46 i0 (.agg #[.int .i64 0, .string ⟨#[]⟩]) 2 24 Try.underlying43 hi0 hi1 hi2 hi3 rfl (by decide) _ _ _ rfl (HO8.out.alloc _) ⟨w8.heap.size, 0, none⟩ 1 1 [.int .i64 (x : Nat), .string dd] rfl rfl ?c1 ?c2 ?c3 ?c4 ?c5 ?_)
                      case c1 =>
                        intro j u hj
                        match j, hj with
                        | 0, hj => simp at hj; subst hj; simp [Addr.add]
                        | 1, hj => simp at hj; subst hj; simp [Addr.add]
                      case c2 =>
                        intro u hu
                        simp at hu
                        rcases hu with rfl | rfl <;> rfl
                      case c3 => unfold maxLen; omega
                      case c4 => omega
                      case c5 => have := HB8.out.size; simp; omega
                      intro v' w9 hown' hgrow _
                      have HBN := Lib.hid (show Below w7.heap.size w7 w9 from ((HB8.out).alloc HB8.out.size _).grown hgrow (by have := HB8.out.size; simp; omega) (by
                        intro q hq
                        obtain ⟨_, h2⟩ := HO8.out
                        rcases h2 with ⟨hv0, _⟩ | ⟨g, cap, cur, hv0, hbg, _⟩
                        · rw [hv0] at hq; simp [Value.ownBlock] at hq
                        · rw [hv0] at hq
                          simp [Value.ownBlock] at hq
                          omega))
                      have HON := Lib.hid (show w9.ownsRow w7.heap.size 46 2 v' (L ++ [x]).length (lsC (shD secret N n) (L ++ [x])) from by
                        rw [HSN.out, List.length_append]
                        exact hown')
                      clear hown' hgrow HO8 HB8
                      go_wp2_with fail
                      go_roundw
                      case rel => exact ⟨k + 1, L ++ [x], HK1.out, by go_num, HON.out, HL2, HBN.out⟩
                      case measure => simp [intOf]; omega
                  · have hd : decide (k < xs.length) = false := decide_eq_false hlt
                    have hL255b : L.length ≤ 255 := by
                      have h := nodup_len 255 (L.map (· - 1)) (by
                        rw [List.Nodup, List.pairwise_map]
                        refine (List.pairwise_iff_forall_sublist.2 ?_)
                        intro a b hab hne
                        have ha := HL.out.2 a (hab.subset (by simp))
                        have hb := HL.out.2 b (hab.subset (by simp))
                        have hnd : a ≠ b := (List.pairwise_iff_forall_sublist.1 HL.out.1) hab
                        exact hnd (by omega)) (fun y hy => by
                        obtain ⟨q, hq, rfl⟩ := List.mem_map.1 hy
                        have := HL.out.2 q hq
                        omega)
                      simpa using h
                    have HBF := Lib.hid (below_step HBW.out (Nat.le_refl _) HB.out)
                    have hds : ∀ i, (lD (shD secret N n) L i).size ≤ maxLen := fun i => by unfold lD; rw [shD_size]; unfold maxLen; omega
                    have hLL : ∀ y ∈ L, 1 ≤ y ∧ y ≤ 255 := fun y hy => by have := HL.out.2 y hy; omega
                    by_cases h12 : 12 < L.length
                    · have k12 : decide ((12 : Int) < (L.length : Int)) = true := decide_eq_true (by omega)
                      obtain ⟨ba, oa, rfl, _, _, _⟩ := HSR.out 0 (by omega)
                      have hca12 : (12 : Int) ≤ (ca : Int) := by omega
                      have C26 := Lib.hid (fun w hx => secret26 (some ⟨ba, oa, none⟩) ca 12 (lX L) (lD (shD secret N n) L) n w hx hds (by omega) hcam)
                      have HSL := Lib.hid (HSR.out.less (show 12 ≤ L.length by omega))
                      have HBACK := Lib.hid (fun w e w' h => back_list secret N n (by have := HN.out; omega) (by omega) L hLL HL.out.1 12 (by omega) (by omega) hz1 h1 w e w' h)
                      clear hds hLL HSR hL255b HO2 HS7
                      go_wp2_with fail
                      refine (C26.out _ HSL.out).mono ?_
                      intro e w9 hp
                      obtain ⟨p1, p2, p3⟩ := HBACK.out _ _ _ hp
                      have HP3 := Lib.hid (below_step HBF.out (Nat.le_refl _) p3)
                      clear hp p3
                      by_cases hq : 12 < n
                      · obtain rfl := p1 hq
                        have kq : decide ((12 : Int) < (n : Int)) = true := decide_eq_true (by omega)
                        have emp : ByteArray.empty.toList.isEmpty = true := empty_no _ rfl
                        clear p1 p2
                        go_wp2_with fail
                        go_ret
                        exact ⟨rfl, HP3.out⟩
                      · obtain rfl := p2 (by omega)
                        have kq : decide ((12 : Int) < (n : Int)) = false := decide_eq_false (by omega)
                        clear p1 p2
                        go_wp2_with fail
                        go_ret
                        exact ⟨rfl, HP3.out⟩
                    · have k12 : decide ((12 : Int) < (L.length : Int)) = false := decide_eq_false (by omega)
                      have C26 := Lib.hid (fun w hx => secret26 a ca L.length (lX L) (lD (shD secret N n) L) n w hx hds hca hcam)
                      have HSL := Lib.hid HSR.out
                      have HBACK := Lib.hid (fun w e w' h => back_list secret N n (by have := HN.out; omega) (by omega) L hLL HL.out.1 L.length (Nat.le_refl _) hL255b hz1 h1 w e w' h)
                      clear hds hLL HSR HO2 HS7
                      go_wp2_with fail
                      refine (C26.out _ HSL.out).mono ?_
                      intro e w9 hp
                      obtain ⟨p1, p2, p3⟩ := HBACK.out _ _ _ hp
                      have HP3 := Lib.hid (below_step HBF.out (Nat.le_refl _) p3)
                      clear hp p3
                      by_cases hq : L.length < n
                      · obtain rfl := p1 hq
                        have kq : decide (L.length < n) = true := decide_eq_true hq
                        have emp : ByteArray.empty.toList.isEmpty = true := empty_no _ rfl
                        clear p1 p2
                        go_wp2_with fail
                        go_ret
                        exact ⟨rfl, HP3.out⟩
                      · obtain rfl := p2 (by omega)
                        have kq : decide (L.length < n) = false := decide_eq_false hq
                        clear p1 p2
                        go_wp2_with fail
                        go_ret
                        exact ⟨rfl, HP3.out⟩
            · skip
              have hM0 : N.size ≠ r := hne
              have C30 := Lib.hid (fun w => HF.out w N (by omega) hne (by unfold maxLen; omega))
              have q3 : ((N.size : Int) != (r : Int)) = true := by simp only [bne_iff_ne, ne_eq]; omega
              clear hne hM0
              go_wp2_with fail
              refine (C30.out _).mono ?_
              rintro e w' ⟨rfl, rfl⟩
              go_wp2_with fail
              refine (when17' false 21 _ _ rfl).mono ?_
              rintro e w' ⟨rfl, rfl⟩
              go_wp2_with fail
              refine (when17' false 8 _ _ rfl).mono ?_
              rintro e w' ⟨rfl, rfl⟩
              go_wp2_with fail
              refine (within_t m 1 255 _ (by omega)).mono ?_
              rintro e w' ⟨rfl, rfl⟩
              go_wp2_with fail
              refine (within_t n 1 m _ (by omega)).mono ?_
              rintro e w' ⟨rfl, rfl⟩
              go_wp2_with fail
              refine (when17' false 7 _ _ rfl).mono ?_
              rintro e w' ⟨rfl, rfl⟩
              go_wp2_with fail
              refine (first3 _ _ _ _ _).mono ?_
              rintro e w' ⟨rfl, rfl⟩
              rw [show firstI [whenI false 21, whenI false 8, whenI false 7] = 0 from rfl]
              go_wp2_with fail
              refine (seals13 _).mono ?_
              rintro e w5 ⟨rfl, b5⟩
              have HB5 := Lib.hid (((Below.refl w.heap.size w).alloc (Nat.le_refl _) _).trans (b5.mono (by simp)))
              clear b5
              go_wp2_with fail
              refine (seals13 _).mono ?_
              rintro e w6 ⟨rfl, b6⟩
              have HB6 := Lib.hid (below_step HB5.out (Nat.le_refl _) b6)
              clear b6
              go_wp2_with fail
              go_ret
              exact ⟨rfl, HB6.out⟩
        · have k1 : decide ((0 : Int) < (N.size : Int)) = false := decide_eq_false (by omega)
          clear hc
          by_cases hz : secret.size = 0
          · skip
            have e := empty_no secret hz
            have C30 := Lib.hid (fun w => HE.out w hz N)
            clear hz
            go_wp2_with fail
            refine (C30.out _).mono ?_
            rintro e w' ⟨rfl, rfl⟩
            go_wp2_with fail
            refine (when17' true 21 _ _ rfl).mono ?_
            rintro e w' ⟨rfl, rfl⟩
            go_wp2_with fail
            refine (when17' false 8 _ _ rfl).mono ?_
            rintro e w' ⟨rfl, rfl⟩
            go_wp2_with fail
            refine (within_t m 1 255 _ (by omega)).mono ?_
            rintro e w' ⟨rfl, rfl⟩
            go_wp2_with fail
            refine (within_t n 1 m _ (by omega)).mono ?_
            rintro e w' ⟨rfl, rfl⟩
            go_wp2_with fail
            refine (when17' false 7 _ _ rfl).mono ?_
            rintro e w' ⟨rfl, rfl⟩
            go_wp2_with fail
            refine (first3 _ _ _ _ _).mono ?_
            rintro e w' ⟨rfl, rfl⟩
            rw [show firstI [whenI true 21, whenI false 8, whenI false 7] = 21 from rfl]
            go_wp2_with fail
            refine (seals13 _).mono ?_
            rintro e w5 ⟨rfl, b5⟩
            have HB5 := Lib.hid (((Below.refl w.heap.size w).alloc (Nat.le_refl _) _).trans (b5.mono (by simp)))
            clear b5
            go_wp2_with fail
            refine (seals13 _).mono ?_
            rintro e w6 ⟨rfl, b6⟩
            have HB6 := Lib.hid (below_step HB5.out (Nat.le_refl _) b6)
            clear b6
            go_wp2_with fail
            go_ret
            exact ⟨rfl, HB6.out⟩
          · have e := empty_of secret (by omega)
            have hz1 : 0 < secret.size := by omega
            clear hz
            by_cases hne : N.size = r
            · skip
              have C30 := Lib.hid (fun w => HO.out w N (by omega) hne)
              have q3 : ((N.size : Int) != (r : Int)) = false := by simp only [bne_eq_false_iff_eq]; omega
              have HRF := Lib.hid (fun w => HR.out w N hne)
              clear hne
              go_wp2_with fail
              refine (C30.out _).mono ?_
              rintro e w1 ⟨v1, rfl, hv1⟩
              obtain ⟨g1, c1, rfl, hc1, hcm1, hg1, hs1, hb1⟩ := hv1
              have HS1 := Lib.hid hs1
              have HB1 := Lib.hid hb1
              clear hs1 hb1
              go_wp2_with fail
              refine (when17' false 21 _ _ rfl).mono ?_
              rintro e w' ⟨rfl, rfl⟩
              go_wp2_with fail
              refine (when17' false 8 _ _ rfl).mono ?_
              rintro e w' ⟨rfl, rfl⟩
              go_wp2_with fail
              refine (within_t m 1 255 _ (by omega)).mono ?_
              rintro e w' ⟨rfl, rfl⟩
              go_wp2_with fail
              refine (within_t n 1 m _ (by omega)).mono ?_
              rintro e w' ⟨rfl, rfl⟩
              go_wp2_with fail
              refine (when17' false 7 _ _ rfl).mono ?_
              rintro e w' ⟨rfl, rfl⟩
              go_wp2_with fail
              refine (first3 _ _ _ _ _).mono ?_
              rintro e w' ⟨rfl, rfl⟩
              rw [show firstI [whenI false 21, whenI false 8, whenI false 7] = 0 from rfl]
              go_wp2_with fail
              refine (seals13 _).mono ?_
              rintro e w5 ⟨rfl, b5⟩
              have HB5 := Lib.hid (show Below w1.heap.size w1 w5 from ((Below.refl w1.heap.size w1).alloc (Nat.le_refl _) _).trans (b5.mono (by simp)))
              clear b5
              by_cases h40 : 40 < secret.size
              · have k40 : decide ((40 : Int) < (secret.size : Int)) = true := decide_eq_true (by omega)
                go_wp2_with fail
                go_ret
                exact ⟨rfl, below_step HB1.out (Nat.le_refl _) HB5.out⟩
              · have k40 : decide ((40 : Int) < (secret.size : Int)) = false := decide_eq_false (by omega)
                go_wp2_with fail
                refine (HRF.out _).mono ?_
                rintro e w6 ⟨v2, rfl, hv2⟩
                obtain ⟨g2, c2, rfl, hc2, hcm2, hg2, hs2, hb2⟩ := hv2
                have HS2 := Lib.hid hs2
                have HB6 := Lib.hid (below_step HB5.out (Nat.le_refl _) hb2)
                have HS1b := Lib.hid (HS1.out.at' HB6.out)
                clear hs2 hb2 HRF
                go_wp2_with fail
                refine (equal31 (some ⟨g1, 0, none⟩) (some ⟨g2, 0, none⟩) c1 c2 m _ _ _ HS1b.out HS2.out (by unfold maxLen; omega)).mono ?_
                rintro e w7 ⟨rfl, hb7⟩
                have HB7 := Lib.hid (below_step HB6.out (Nat.le_refl _) hb7)
                have HS7 := Lib.hid (HS1.out.at' HB7.out)
                have HBW := Lib.hid (below_step HB1.out (Nat.le_refl _) HB7.out)
                clear hb7 HS1b HS2 HB6 HS1 HB1 HB5 HB7 C30 HE HF HO HR HZ q2 q3 d1 d2 HM HC e
                go_wp2_with fail
                go_loopw [15, 136] (fun sv kv wq => ∃ (k : Nat) (L : List Nat), k ≤ xs.length ∧ kv = .int .i64 k ∧ wq.ownsRow w7.heap.size 46 2 sv L.length (lsC (shD secret N n) L) ∧ Hid (L.Nodup ∧ ∀ x ∈ L, 1 ≤ x ∧ x ≤ m) ∧ Below w7.heap.size w7 wq) (fun _ kv _ => xs.length - (intOf kv).toNat)
                case atStart => exact ⟨0, [], by omega, rfl, World.ownsRow_nil _ _ _ _, Lib.hid ⟨List.nodup_nil, by simp⟩, Below.refl _ _⟩
                case round =>
                  obtain ⟨k, L, hk, rfl, hown, HL, hb⟩ := hrel
                  have HO2 := Lib.hid hown
                  have HB := Lib.hid hb
                  clear hown hb
                  have hL255 : L.length ≤ 256 := nodup_len 256 L HL.out.1 (fun x hx => by have := HL.out.2 x hx; omega)
                  obtain ⟨a, ca, rfl, hca, hcam, hsr⟩ := own_list HO2.out
                  have HSR := Lib.hid hsr
                  clear hsr
                  by_cases hlt : k < xs.length
                  · have hd : decide (k < xs.length) = true := decide_eq_true hlt
                    obtain ⟨bx, ox, rfl, hbx, hcx⟩ := HX.out k hlt
                    have hcxr : wr.cell? ⟨bx, ox + k, none⟩ = some (.int .i64 (xs.getD k 0)) := by
                      rw [← hcx]; exact (HB.out.cell (p := ⟨bx, ox + k, none⟩) (Nat.lt_of_lt_of_le hbx HBW.out.size)).trans (HBW.out.cell hbx)
                    obtain ⟨t, i, ht, ht1, ht2, hti, him⟩ := tmod_idx (xs.getD k 0) m (by omega)
                    clear hcx
                    generalize xs.getD k 0 = z at *
                    obtain ⟨b1, o1, e1, hb1', f0, f1⟩ := (HS7.out.below HB.out) i him
                    cases e1
                    obtain ⟨x, hx⟩ : ∃ x, x = i + 1 := ⟨_, rfl⟩
                    simp only [Nat.zero_add] at f0 f1
                    rw [← hx] at f0 f1
                    have HXI := Lib.hid hx
                    have hk1 : (k : Int) < (xs.length : Int) := by omega
                    have him1 : (i : Int) < (m : Int) := by omega
                    have hm0 : (0 : Int) < (m : Int) := by omega
                    have hm1 : (m : Int) ≠ 0 := by omega
                    have ht0 : 0 ≤ t + (m : Int) := by omega
                    have HX12 := Lib.hid (show 1 ≤ x ∧ x ≤ m from by omega)
                    clear hx
                    have HMB := Lib.hid (memB_list (shD secret N n) L x)
                    have HC33 := Lib.hid (fun w hx => contains33 a ca L.length (lX L) (lD (shD secret N n) L) (x : Int) (shD secret N n x) w hx (by unfold maxLen; omega))
                    have HSN := Lib.hid (lsC_snoc (shD secret N n) L x)
                    generalize shD secret N n x = dd at *
                    have hnew := Blk.new wr 46 #[.int .i64 (x : Nat), .string dd]
                    have HNEW := Lib.hid hnew
                    clear hnew
                    go_wp2_with fail
                    refine (HC33.out _ (HSR.out.at' ((Below.refl _ _).alloc (Nat.le_refl _) _))).mono ?_
                    rintro e w8 ⟨rfl, hb8⟩
                    rw [HMB.out]
                    have b0 : w8.cell? ⟨wr.heap.size, 0, none⟩ = some (.int .i64 (x : Nat)) := (hb8.cell (p := ⟨wr.heap.size, 0, none⟩) (by simp)).trans (HNEW.out.cell 0)
                    have b1 : w8.cell? ⟨wr.heap.size, 1, none⟩ = some (.string dd) := (hb8.cell (p := ⟨wr.heap.size, 1, none⟩) (by simp)).trans (HNEW.out.cell 1)
                    have HBr := Lib.hid (show Below wr.heap.size wr w8 from ((Below.refl wr.heap.size wr).alloc (Nat.le_refl _) _).trans (hb8.mono (by simp)))
                    have HB8 := Lib.hid (show Below w7.heap.size w7 w8 from HB.out.trans (HBr.out.mono HB.out.size))
                    have HO8 := Lib.hid (own_below HO2.out HBr.out)
                    clear hb8 HSR HO2 HBr HC33 HMB HNEW
                    have HK1 := Lib.hid (show k + 1 ≤ xs.length from hlt)
                    by_cases hmem : x ∈ L
                    · rw [decide_eq_true hmem]
                      clear hmem
                      go_wp2_with fail
                      go_roundw
                      case rel => exact ⟨k + 1, L, HK1.out, by go_num, HO8.out, HL, HB8.out⟩
                      case measure => simp [intOf]; omega
                    · rw [decide_eq_false hmem]
                      have HL2 := Lib.hid (show (L ++ [x]).Nodup ∧ ∀ y ∈ L ++ [x], 1 ≤ y ∧ y ≤ m from ⟨nodup_snoc L x HL.out.1 hmem, fun y hy => by
                        rcases List.mem_append.1 hy with h | h
                        · exact HL.out.2 y h
                        · simp at h; subst h; exact HX12.out⟩)
                      clear hmem
                      go_wp2_with (at_builtin; refine wpList_append_own _ rfl _ _ 43 rfl w7.heap.size 46 i0 (.agg #[.int .i64 0, .string ⟨#[]⟩]) 2 24 Try.underlying43 hi0 hi1 hi2 hi3 rfl (by decide) _ _ _ rfl (HO8.out.alloc _) ⟨w8.heap.size, 0, none⟩ 1 1 [.int .i64 (x : Nat), .string dd] rfl rfl ?c1 ?c2 ?c3 ?c4 ?c5 ?_)
                      case c1 =>
                        intro j u hj
                        match j, hj with
                        | 0, hj => simp at hj; subst hj; simp [Addr.add]
                        | 1, hj => simp at hj; subst hj; simp [Addr.add]
                      case c2 =>
                        intro u hu
                        simp at hu
                        rcases hu with rfl | rfl <;> rfl
                      case c3 => unfold maxLen; omega
                      case c4 => omega
                      case c5 => have := HB8.out.size; simp; omega
                      intro v' w9 hown' hgrow _
                      have HBN := Lib.hid (show Below w7.heap.size w7 w9 from ((HB8.out).alloc HB8.out.size _).grown hgrow (by have := HB8.out.size; simp; omega) (by
                        intro q hq
                        obtain ⟨_, h2⟩ := HO8.out
                        rcases h2 with ⟨hv0, _⟩ | ⟨g, cap, cur, hv0, hbg, _⟩
                        · rw [hv0] at hq; simp [Value.ownBlock] at hq
                        · rw [hv0] at hq
                          simp [Value.ownBlock] at hq
                          omega))
                      have HON := Lib.hid (show w9.ownsRow w7.heap.size 46 2 v' (L ++ [x]).length (lsC (shD secret N n) (L ++ [x])) from by
                        rw [HSN.out, List.length_append]
                        exact hown')
                      clear hown' hgrow HO8 HB8
                      go_wp2_with fail
                      go_roundw
                      case rel => exact ⟨k + 1, L ++ [x], HK1.out, by go_num, HON.out, HL2, HBN.out⟩
                      case measure => simp [intOf]; omega
                  · have hd : decide (k < xs.length) = false := decide_eq_false hlt
                    have hL255b : L.length ≤ 255 := by
                      have h := nodup_len 255 (L.map (· - 1)) (by
                        rw [List.Nodup, List.pairwise_map]
                        refine (List.pairwise_iff_forall_sublist.2 ?_)
                        intro a b hab hne
                        have ha := HL.out.2 a (hab.subset (by simp))
                        have hb := HL.out.2 b (hab.subset (by simp))
                        have hnd : a ≠ b := (List.pairwise_iff_forall_sublist.1 HL.out.1) hab
                        exact hnd (by omega)) (fun y hy => by
                        obtain ⟨q, hq, rfl⟩ := List.mem_map.1 hy
                        have := HL.out.2 q hq
                        omega)
                      simpa using h
                    have HBF := Lib.hid (below_step HBW.out (Nat.le_refl _) HB.out)
                    have hds : ∀ i, (lD (shD secret N n) L i).size ≤ maxLen := fun i => by unfold lD; rw [shD_size]; unfold maxLen; omega
                    have hLL : ∀ y ∈ L, 1 ≤ y ∧ y ≤ 255 := fun y hy => by have := HL.out.2 y hy; omega
                    by_cases h12 : 12 < L.length
                    · have k12 : decide ((12 : Int) < (L.length : Int)) = true := decide_eq_true (by omega)
                      obtain ⟨ba, oa, rfl, _, _, _⟩ := HSR.out 0 (by omega)
                      have hca12 : (12 : Int) ≤ (ca : Int) := by omega
                      have C26 := Lib.hid (fun w hx => secret26 (some ⟨ba, oa, none⟩) ca 12 (lX L) (lD (shD secret N n) L) n w hx hds (by omega) hcam)
                      have HSL := Lib.hid (HSR.out.less (show 12 ≤ L.length by omega))
                      have HBACK := Lib.hid (fun w e w' h => back_list secret N n (by have := HN.out; omega) (by omega) L hLL HL.out.1 12 (by omega) (by omega) hz1 h1 w e w' h)
                      clear hds hLL HSR hL255b HO2 HS7
                      go_wp2_with fail
                      refine (C26.out _ HSL.out).mono ?_
                      intro e w9 hp
                      obtain ⟨p1, p2, p3⟩ := HBACK.out _ _ _ hp
                      have HP3 := Lib.hid (below_step HBF.out (Nat.le_refl _) p3)
                      clear hp p3
                      by_cases hq : 12 < n
                      · obtain rfl := p1 hq
                        have kq : decide ((12 : Int) < (n : Int)) = true := decide_eq_true (by omega)
                        have emp : ByteArray.empty.toList.isEmpty = true := empty_no _ rfl
                        clear p1 p2
                        go_wp2_with fail
                        go_ret
                        exact ⟨rfl, HP3.out⟩
                      · obtain rfl := p2 (by omega)
                        have kq : decide ((12 : Int) < (n : Int)) = false := decide_eq_false (by omega)
                        clear p1 p2
                        go_wp2_with fail
                        go_ret
                        exact ⟨rfl, HP3.out⟩
                    · have k12 : decide ((12 : Int) < (L.length : Int)) = false := decide_eq_false (by omega)
                      have C26 := Lib.hid (fun w hx => secret26 a ca L.length (lX L) (lD (shD secret N n) L) n w hx hds hca hcam)
                      have HSL := Lib.hid HSR.out
                      have HBACK := Lib.hid (fun w e w' h => back_list secret N n (by have := HN.out; omega) (by omega) L hLL HL.out.1 L.length (Nat.le_refl _) hL255b hz1 h1 w e w' h)
                      clear hds hLL HSR HO2 HS7
                      go_wp2_with fail
                      refine (C26.out _ HSL.out).mono ?_
                      intro e w9 hp
                      obtain ⟨p1, p2, p3⟩ := HBACK.out _ _ _ hp
                      have HP3 := Lib.hid (below_step HBF.out (Nat.le_refl _) p3)
                      clear hp p3
                      by_cases hq : L.length < n
                      · obtain rfl := p1 hq
                        have kq : decide (L.length < n) = true := decide_eq_true hq
                        have emp : ByteArray.empty.toList.isEmpty = true := empty_no _ rfl
                        clear p1 p2
                        go_wp2_with fail
                        go_ret
                        exact ⟨rfl, HP3.out⟩
                      · obtain rfl := p2 (by omega)
                        have kq : decide (L.length < n) = false := decide_eq_false hq
                        clear p1 p2
                        go_wp2_with fail
                        go_ret
                        exact ⟨rfl, HP3.out⟩
            · skip
              have hM0 : N.size ≠ r := hne
              have C30 := Lib.hid (fun w => HF.out w N (by omega) hne (by unfold maxLen; omega))
              have q3 : ((N.size : Int) != (r : Int)) = true := by simp only [bne_iff_ne, ne_eq]; omega
              clear hne hM0
              go_wp2_with fail
              refine (C30.out _).mono ?_
              rintro e w' ⟨rfl, rfl⟩
              go_wp2_with fail
              refine (when17' false 21 _ _ rfl).mono ?_
              rintro e w' ⟨rfl, rfl⟩
              go_wp2_with fail
              refine (when17' false 8 _ _ rfl).mono ?_
              rintro e w' ⟨rfl, rfl⟩
              go_wp2_with fail
              refine (within_t m 1 255 _ (by omega)).mono ?_
              rintro e w' ⟨rfl, rfl⟩
              go_wp2_with fail
              refine (within_t n 1 m _ (by omega)).mono ?_
              rintro e w' ⟨rfl, rfl⟩
              go_wp2_with fail
              refine (when17' false 7 _ _ rfl).mono ?_
              rintro e w' ⟨rfl, rfl⟩
              go_wp2_with fail
              refine (first3 _ _ _ _ _).mono ?_
              rintro e w' ⟨rfl, rfl⟩
              rw [show firstI [whenI false 21, whenI false 8, whenI false 7] = 0 from rfl]
              go_wp2_with fail
              refine (seals13 _).mono ?_
              rintro e w5 ⟨rfl, b5⟩
              have HB5 := Lib.hid (((Below.refl w.heap.size w).alloc (Nat.le_refl _) _).trans (b5.mono (by simp)))
              clear b5
              go_wp2_with fail
              refine (seals13 _).mono ?_
              rintro e w6 ⟨rfl, b6⟩
              have HB6 := Lib.hid (below_step HB5.out (Nat.le_refl _) b6)
              clear b6
              go_wp2_with fail
              go_ret
              exact ⟨rfl, HB6.out⟩
end Go.Proofs.Ytnjmcppljbkhnaa
