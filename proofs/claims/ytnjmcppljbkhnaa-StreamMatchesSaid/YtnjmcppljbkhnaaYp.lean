import Derived.Test.YtnjmcppljbkhnaaYn
set_option linter.unusedVariables false
set_option linter.unusedSimpArgs false
namespace Go.Proofs.Ytnjmcppljbkhnaa
open Go.RowKit
set_option maxRecDepth 100000 in
set_option maxHeartbeats 4000000 in
theorem law5 (key nonce text : ByteArray) (c : Int) (w : World) (hk : key.size ≤ maxLen) (hn : nonce.size ≤ maxLen) (ht : text.size ≤ maxLen) (hlo : -9223372036854775808 ≤ c) (hhi : c ≤ 9223372036854775807) :
    Calls Try.prog 5 #[.string key, .string nonce, .int .i64 c, .string text] w fun e w' => e = .returned (.bool true) ∧ Below w.heap.size w w' := by
  have CS := Lib.hid (fun w => stream22 key nonce text c w hk hn ht)
  have CT := Lib.hid (fun w => tag23 key text w hk ht)
  have CK := Lib.hid (fun w => keyError16 key nonce w hk hn)
  have CB := Lib.hid (fun w => brief18 text w ht)
  have HF := Lib.hid (sE_first key nonce c text)
  have HT := Lib.hid (tE_first key text)
  have HSE := Lib.hid (show sE key nonce c text = 0 → key.size = 32 ∧ nonce.size = 12 ∧ 0 ≤ c ∧ c ≤ 4294967295 ∧ text.size ≤ 1048576 from by
    unfold sE
    intro h
    split at h
    · exact absurd h (by decide)
    · split at h
      · exact absurd h (by decide)
      · split at h
        · exact absurd h (by decide)
        · omega)
  have HTE := Lib.hid (show tE key text = 0 → key.size = 32 from by
    unfold tE
    intro h
    split at h
    · exact absurd h (by decide)
    · omega)
  unfold maxLen at ht
  clear hk hn
  unfold StrPost at CS
  unfold TagPost at CT
  generalize hE : sE key nonce c text = E at *
  generalize hE2 : tE key text = E2 at *
  clear hE hE2
  generalize hkk : kE key nonce = k at *
  clear hkk
  go_enter Try.func5, Try.ntmps5
  go_wp2_with fail
  refine (CS.out _).mono ?_
  rintro e w1 ⟨S, rfl, hs1, hs2, b1⟩
  have HS1 := Lib.hid hs1
  have HS2 := Lib.hid hs2
  have HB1 := Lib.hid b1
  clear hs1 hs2 b1
  go_wp2_with fail
  refine (CK.out _).mono ?_
  rintro e w' ⟨rfl, rfl⟩
  go_wp2_with fail
  refine (within10 c 0 4294967295 _).mono ?_
  rintro e w' ⟨rfl, rfl⟩
  generalize hr1 : (decide (0 ≤ c) && decide (c ≤ 4294967295)) = r1
  have HR1 := Lib.hid hr1
  clear hr1
  go_wp2_with fail
  refine (when17' (!r1) 7 _ _ rfl).mono ?_
  rintro e w' ⟨rfl, rfl⟩
  go_wp2_with fail
  generalize hr2 : decide ((1048576 : Int) < (text.size : Int)) = r2
  have HR2 := Lib.hid hr2
  clear hr2
  refine (when17' r2 8 _ _ rfl).mono ?_
  rintro e w' ⟨rfl, rfl⟩
  by_cases hrange : (0 ≤ c ∧ c ≤ 4294967295) ∧ text.size ≤ 1048576
  · obtain ⟨⟨c0, c1⟩, c2⟩ := hrange
    go_wp2_with fail
    generalize hr3 : decide ((4294967296 : Int) < c + ((text.size : Int) + 63) / 64) = r3
    have HR3 := Lib.hid hr3
    clear hr3
    refine (when17' r3 7 _ _ rfl).mono ?_
    rintro e w' ⟨rfl, rfl⟩
    have HFE := Lib.hid (HF.out r1 r2 r3 HR1.out HR2.out (fun _ => HR3.out))
    clear c0 c1 c2
    go_wp2_with fail
    refine (first4 _ _ _ _ _ _).mono ?_
    rintro e w2 ⟨rfl, b2⟩
    rw [HFE.out]
    have HB2 := Lib.hid (show Below w.heap.size w w2 from below_step HB1.out (Nat.le_refl _) (((Below.refl w1.heap.size w1).alloc (Nat.le_refl _) _).trans (b2.mono (by simp))))
    clear b2 HFE
    go_wp2_with fail
    refine (CT.out _).mono ?_
    rintro e w3 ⟨T, rfl, ht1, ht2, b3⟩
    have HT1 := Lib.hid ht1
    have HT2 := Lib.hid ht2
    have HB3 := Lib.hid (below_step HB2.out (Nat.le_refl _) b3)
    clear ht1 ht2 b3
    go_wp2_with fail
    generalize hu1 : ((key.size : Int) != 32) = u1
    have HU1 := Lib.hid hu1
    clear hu1
    refine (when17' u1 6 _ _ rfl).mono ?_
    rintro e w' ⟨rfl, rfl⟩
    go_wp2_with fail
    generalize hu2 : decide ((2097152 : Int) < (text.size : Int)) = u2
    have HU2 := Lib.hid hu2
    clear hu2
    refine (when17' u2 8 _ _ rfl).mono ?_
    rintro e w' ⟨rfl, rfl⟩
    have HTF := Lib.hid (HT.out u1 u2 HU1.out HU2.out)
    go_wp2_with fail
    refine (first2 _ _ _ _).mono ?_
    rintro e w4 ⟨rfl, b4⟩
    rw [HTF.out]
    have HB4 := Lib.hid (show Below w.heap.size w w4 from below_step HB3.out (Nat.le_refl _) (((Below.refl w3.heap.size w3).alloc (Nat.le_refl _) _).trans (b4.mono (by simp))))
    clear b4 HTF
    go_wp2_with fail
    refine (seals13 _).mono ?_
    rintro e w5 ⟨rfl, b5⟩
    have HB5 := Lib.hid (below_step HB4.out (Nat.le_refl _) b5)
    clear b5
    by_cases hE2 : E2 = 0
    · skip
      subst hE2
      have HKs := Lib.hid (HTE.out rfl)
      have HTT := Lib.hid (HT2.out rfl)
      by_cases hE : E = 0
      · skip
        subst hE
        have HSS0 := HS2.out rfl
        obtain ⟨_, hns, hc0, hc1, htt⟩ := HSE.out rfl
        have HNs := Lib.hid hns
        clear hns
        obtain ⟨n, rfl⟩ : ∃ n : Nat, c = n := ⟨c.toNat, by omega⟩
        have HSS := Lib.hid (show S = strmS key nonce n text from HSS0)
        clear HSS0
        by_cases hbr : text.size ≤ 10000
        · skip
          go_wp2_with fail
          refine (CB.out _).mono ?_
          rintro e w' ⟨rfl, rfl⟩
          rw [decide_eq_true hbr]
          go_wp2_with fail
          refine (tagOf24 key text _ HKs.out (by omega)).mono ?_
          rintro e w6 ⟨rfl, b6⟩
          rw [← HTT.out]
          have HB6 := Lib.hid (below_step HB5.out (Nat.le_refl _) b6)
          clear b6
          go_wp2_with fail
          refine (streamed25 key nonce text n _ HKs.out HNs.out (by omega) (by omega)).mono ?_
          rintro e w7 ⟨rfl, b7⟩
          rw [← HSS.out]
          have HB7 := Lib.hid (below_step HB6.out (Nat.le_refl _) b7)
          clear b7
          go_wp2_with fail
          go_ret
          exact ⟨rfl, HB7.out⟩
        · skip
          go_wp2_with fail
          refine (CB.out _).mono ?_
          rintro e w' ⟨rfl, rfl⟩
          rw [decide_eq_false hbr]
          go_wp2_with fail
          go_ret
          exact ⟨rfl, HB5.out⟩
      · skip
        have e1 : (E == 0) = false := by simpa using hE
        have e2 : (E != 0) = true := by simpa using hE
        obtain rfl := HS1.out hE
        have emp : ByteArray.empty.toList.isEmpty = true := empty_no _ rfl
        clear hE
        by_cases hbr : text.size ≤ 10000
        · skip
          go_wp2_with fail
          refine (CB.out _).mono ?_
          rintro e w' ⟨rfl, rfl⟩
          rw [decide_eq_true hbr]
          go_wp2_with fail
          refine (tagOf24 key text _ HKs.out (by omega)).mono ?_
          rintro e w6 ⟨rfl, b6⟩
          rw [← HTT.out]
          have HB6 := Lib.hid (below_step HB5.out (Nat.le_refl _) b6)
          clear b6
          go_wp2_with fail
          go_ret
          exact ⟨rfl, HB6.out⟩
        · skip
          go_wp2_with fail
          refine (CB.out _).mono ?_
          rintro e w' ⟨rfl, rfl⟩
          rw [decide_eq_false hbr]
          go_wp2_with fail
          go_ret
          exact ⟨rfl, HB5.out⟩
    · skip
      have f1 : (E2 == 0) = false := by simpa using hE2
      have f2 : (E2 != 0) = true := by simpa using hE2
      obtain rfl := HT1.out hE2
      have emp2 : ByteArray.empty.toList.isEmpty = true := empty_no _ rfl
      clear hE2
      by_cases hE : E = 0
      · skip
        subst hE
        have HSS0 := HS2.out rfl
        obtain ⟨_, hns, hc0, hc1, htt⟩ := HSE.out rfl
        have HNs := Lib.hid hns
        clear hns
        obtain ⟨n, rfl⟩ : ∃ n : Nat, c = n := ⟨c.toNat, by omega⟩
        have HSS := Lib.hid (show S = strmS key nonce n text from HSS0)
        clear HSS0
        by_cases hbr : text.size ≤ 10000
        · skip
          have HKs := Lib.hid (HSE.out rfl).1
          have HB6 := HB5
          go_wp2_with fail
          refine (CB.out _).mono ?_
          rintro e w' ⟨rfl, rfl⟩
          rw [decide_eq_true hbr]
          go_wp2_with fail
          refine (streamed25 key nonce text n _ HKs.out HNs.out (by omega) (by omega)).mono ?_
          rintro e w7 ⟨rfl, b7⟩
          rw [← HSS.out]
          have HB7 := Lib.hid (below_step HB6.out (Nat.le_refl _) b7)
          clear b7
          go_wp2_with fail
          go_ret
          exact ⟨rfl, HB7.out⟩
        · skip
          go_wp2_with fail
          refine (CB.out _).mono ?_
          rintro e w' ⟨rfl, rfl⟩
          rw [decide_eq_false hbr]
          go_wp2_with fail
          go_ret
          exact ⟨rfl, HB5.out⟩
      · skip
        have e1 : (E == 0) = false := by simpa using hE
        have e2 : (E != 0) = true := by simpa using hE
        obtain rfl := HS1.out hE
        have emp : ByteArray.empty.toList.isEmpty = true := empty_no _ rfl
        clear hE
        by_cases hbr : text.size ≤ 10000
        · skip
          go_wp2_with fail
          refine (CB.out _).mono ?_
          rintro e w' ⟨rfl, rfl⟩
          rw [decide_eq_true hbr]
          go_wp2_with fail
          go_ret
          exact ⟨rfl, HB5.out⟩
        · skip
          go_wp2_with fail
          refine (CB.out _).mono ?_
          rintro e w' ⟨rfl, rfl⟩
          rw [decide_eq_false hbr]
          go_wp2_with fail
          go_ret
          exact ⟨rfl, HB5.out⟩
  · go_wp2_with fail
    refine (when17' _ 7 _ _ rfl).mono ?_
    rintro e w' ⟨rfl, rfl⟩
    have HFE := fun r3 => HF.out r1 r2 r3 HR1.out HR2.out (fun h => absurd h hrange)
    replace HFE := Lib.hid HFE
    go_wp2_with fail
    refine (first4 _ _ _ _ _ _).mono ?_
    rintro e w2 ⟨rfl, b2⟩
    rw [HFE.out]
    have HB2 := Lib.hid (show Below w.heap.size w w2 from below_step HB1.out (Nat.le_refl _) (((Below.refl w1.heap.size w1).alloc (Nat.le_refl _) _).trans (b2.mono (by simp))))
    clear b2 HFE
    go_wp2_with fail
    refine (CT.out _).mono ?_
    rintro e w3 ⟨T, rfl, ht1, ht2, b3⟩
    have HT1 := Lib.hid ht1
    have HT2 := Lib.hid ht2
    have HB3 := Lib.hid (below_step HB2.out (Nat.le_refl _) b3)
    clear ht1 ht2 b3
    go_wp2_with fail
    generalize hu1 : ((key.size : Int) != 32) = u1
    have HU1 := Lib.hid hu1
    clear hu1
    refine (when17' u1 6 _ _ rfl).mono ?_
    rintro e w' ⟨rfl, rfl⟩
    go_wp2_with fail
    generalize hu2 : decide ((2097152 : Int) < (text.size : Int)) = u2
    have HU2 := Lib.hid hu2
    clear hu2
    refine (when17' u2 8 _ _ rfl).mono ?_
    rintro e w' ⟨rfl, rfl⟩
    have HTF := Lib.hid (HT.out u1 u2 HU1.out HU2.out)
    go_wp2_with fail
    refine (first2 _ _ _ _).mono ?_
    rintro e w4 ⟨rfl, b4⟩
    rw [HTF.out]
    have HB4 := Lib.hid (show Below w.heap.size w w4 from below_step HB3.out (Nat.le_refl _) (((Below.refl w3.heap.size w3).alloc (Nat.le_refl _) _).trans (b4.mono (by simp))))
    clear b4 HTF
    go_wp2_with fail
    refine (seals13 _).mono ?_
    rintro e w5 ⟨rfl, b5⟩
    have HB5 := Lib.hid (below_step HB4.out (Nat.le_refl _) b5)
    clear b5
    by_cases hE2 : E2 = 0
    · skip
      subst hE2
      have HKs := Lib.hid (HTE.out rfl)
      have HTT := Lib.hid (HT2.out rfl)
      by_cases hE : E = 0
      · skip
        subst hE
        have HSS0 := HS2.out rfl
        obtain ⟨_, hns, hc0, hc1, htt⟩ := HSE.out rfl
        have HNs := Lib.hid hns
        clear hns
        obtain ⟨n, rfl⟩ : ∃ n : Nat, c = n := ⟨c.toNat, by omega⟩
        have HSS := Lib.hid (show S = strmS key nonce n text from HSS0)
        clear HSS0
        by_cases hbr : text.size ≤ 10000
        · skip
          go_wp2_with fail
          refine (CB.out _).mono ?_
          rintro e w' ⟨rfl, rfl⟩
          rw [decide_eq_true hbr]
          go_wp2_with fail
          refine (tagOf24 key text _ HKs.out (by omega)).mono ?_
          rintro e w6 ⟨rfl, b6⟩
          rw [← HTT.out]
          have HB6 := Lib.hid (below_step HB5.out (Nat.le_refl _) b6)
          clear b6
          go_wp2_with fail
          refine (streamed25 key nonce text n _ HKs.out HNs.out (by omega) (by omega)).mono ?_
          rintro e w7 ⟨rfl, b7⟩
          rw [← HSS.out]
          have HB7 := Lib.hid (below_step HB6.out (Nat.le_refl _) b7)
          clear b7
          go_wp2_with fail
          go_ret
          exact ⟨rfl, HB7.out⟩
        · skip
          go_wp2_with fail
          refine (CB.out _).mono ?_
          rintro e w' ⟨rfl, rfl⟩
          rw [decide_eq_false hbr]
          go_wp2_with fail
          go_ret
          exact ⟨rfl, HB5.out⟩
      · skip
        have e1 : (E == 0) = false := by simpa using hE
        have e2 : (E != 0) = true := by simpa using hE
        obtain rfl := HS1.out hE
        have emp : ByteArray.empty.toList.isEmpty = true := empty_no _ rfl
        clear hE
        by_cases hbr : text.size ≤ 10000
        · skip
          go_wp2_with fail
          refine (CB.out _).mono ?_
          rintro e w' ⟨rfl, rfl⟩
          rw [decide_eq_true hbr]
          go_wp2_with fail
          refine (tagOf24 key text _ HKs.out (by omega)).mono ?_
          rintro e w6 ⟨rfl, b6⟩
          rw [← HTT.out]
          have HB6 := Lib.hid (below_step HB5.out (Nat.le_refl _) b6)
          clear b6
          go_wp2_with fail
          go_ret
          exact ⟨rfl, HB6.out⟩
        · skip
          go_wp2_with fail
          refine (CB.out _).mono ?_
          rintro e w' ⟨rfl, rfl⟩
          rw [decide_eq_false hbr]
          go_wp2_with fail
          go_ret
          exact ⟨rfl, HB5.out⟩
    · skip
      have f1 : (E2 == 0) = false := by simpa using hE2
      have f2 : (E2 != 0) = true := by simpa using hE2
      obtain rfl := HT1.out hE2
      have emp2 : ByteArray.empty.toList.isEmpty = true := empty_no _ rfl
      clear hE2
      by_cases hE : E = 0
      · skip
        subst hE
        have HSS0 := HS2.out rfl
        obtain ⟨_, hns, hc0, hc1, htt⟩ := HSE.out rfl
        have HNs := Lib.hid hns
        clear hns
        obtain ⟨n, rfl⟩ : ∃ n : Nat, c = n := ⟨c.toNat, by omega⟩
        have HSS := Lib.hid (show S = strmS key nonce n text from HSS0)
        clear HSS0
        by_cases hbr : text.size ≤ 10000
        · skip
          have HKs := Lib.hid (HSE.out rfl).1
          have HB6 := HB5
          go_wp2_with fail
          refine (CB.out _).mono ?_
          rintro e w' ⟨rfl, rfl⟩
          rw [decide_eq_true hbr]
          go_wp2_with fail
          refine (streamed25 key nonce text n _ HKs.out HNs.out (by omega) (by omega)).mono ?_
          rintro e w7 ⟨rfl, b7⟩
          rw [← HSS.out]
          have HB7 := Lib.hid (below_step HB6.out (Nat.le_refl _) b7)
          clear b7
          go_wp2_with fail
          go_ret
          exact ⟨rfl, HB7.out⟩
        · skip
          go_wp2_with fail
          refine (CB.out _).mono ?_
          rintro e w' ⟨rfl, rfl⟩
          rw [decide_eq_false hbr]
          go_wp2_with fail
          go_ret
          exact ⟨rfl, HB5.out⟩
      · skip
        have e1 : (E == 0) = false := by simpa using hE
        have e2 : (E != 0) = true := by simpa using hE
        obtain rfl := HS1.out hE
        have emp : ByteArray.empty.toList.isEmpty = true := empty_no _ rfl
        clear hE
        by_cases hbr : text.size ≤ 10000
        · skip
          go_wp2_with fail
          refine (CB.out _).mono ?_
          rintro e w' ⟨rfl, rfl⟩
          rw [decide_eq_true hbr]
          go_wp2_with fail
          go_ret
          exact ⟨rfl, HB5.out⟩
        · skip
          go_wp2_with fail
          refine (CB.out _).mono ?_
          rintro e w' ⟨rfl, rfl⟩
          rw [decide_eq_false hbr]
          go_wp2_with fail
          go_ret
          exact ⟨rfl, HB5.out⟩
end Go.Proofs.Ytnjmcppljbkhnaa
