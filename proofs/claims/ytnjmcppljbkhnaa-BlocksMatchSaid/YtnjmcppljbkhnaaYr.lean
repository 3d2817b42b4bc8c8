import Derived.Test.YtnjmcppljbkhnaaYq
set_option linter.unusedVariables false
set_option linter.unusedSimpArgs false
namespace Go.Proofs.Ytnjmcppljbkhnaa
open Go.RowKit
set_option maxRecDepth 100000 in
set_option maxHeartbeats 4000000 in
theorem law4 (key nonce extra text : ByteArray) (w : World) (hk : key.size ≤ maxLen) (hn : nonce.size ≤ maxLen) (he : extra.size ≤ maxLen) (ht : text.size ≤ maxLen) :
    Calls Try.prog 4 #[.string key, .string nonce, .string extra, .string text] w fun e w' => e = .returned (.bool true) ∧ Below w.heap.size w w' := by
  have CS := Lib.hid (fun w => sealBlock14 key nonce extra text w hk hn he ht)
  have CK := Lib.hid (fun w => keyError16 key nonce w hk hn)
  have CB1 := Lib.hid (fun w => brief18 extra w he)
  have CB2 := Lib.hid (fun w => brief18 text w ht)
  have HF := Lib.hid (bE_first key nonce extra text)
  have HSE := Lib.hid (show bE key nonce extra text = 0 → key.size = 32 ∧ nonce.size = 12 from by
    unfold bE
    intro h
    split at h
    · exact absurd h (by decide)
    · omega)
  unfold maxLen at he ht
  clear hk hn
  unfold BlkPost at CS
  generalize hE : bE key nonce extra text = E at *
  clear hE
  generalize hkk : kE key nonce = k at *
  clear hkk
  by_cases h1 : 1048576 < extra.size
  · skip
    have g1 : decide ((1048576 : Int) < (extra.size : Int)) = true := decide_eq_true (by omega)
    have HFE := Lib.hid (HF.out true (by apply decide_eq_true; omega))
    go_enter Try.func4, Try.ntmps4
    go_wp2_with fail
    refine (CS.out _).mono ?_
    rintro e w1 ⟨S, rfl, hs1, hs2, b1⟩
    have HS1 := Lib.hid hs1
    have HS2 := Lib.hid hs2
    have HB1 := Lib.hid b1
    clear hs1 hs2 b1
    go_wp2_with fail
    refine (CK.out _).mono ?_
    rintro e w' ⟨rfl, rfl⟩
    go_wp2_with fail
    refine (when17' true 8 _ _ rfl).mono ?_
    rintro e w' ⟨rfl, rfl⟩
    go_wp2_with fail
    refine (first2 _ _ _ _).mono ?_
    rintro e w2 ⟨rfl, b2⟩
    rw [HFE.out]
    have HB2 := Lib.hid (show Below w.heap.size w w2 from below_step HB1.out (Nat.le_refl _) (((Below.refl w1.heap.size w1).alloc (Nat.le_refl _) _).trans (b2.mono (by simp))))
    clear b2 HFE
    by_cases hE : E = 0
    · skip
      subst hE
      have hS := HS2.out rfl
      by_cases hb1 : extra.size ≤ 10000
      · by_cases hb2 : text.size ≤ 10000
        · have HK := Lib.hid (HSE.out rfl).1
          have HN := Lib.hid (HSE.out rfl).2
          have C20 := Lib.hid (fun w => openBlock20_ok key nonce extra text w HK.out HN.out (by omega) (by omega))
          have C21 := Lib.hid (fun w => sealedBlock21 key nonce extra text w HK.out HN.out (by omega) (by omega))
          rw [← hS] at C20 C21
          clear hS HS2
          go_wp2_with fail
          refine (CB1.out _).mono ?_
          rintro e w' ⟨rfl, rfl⟩
          rw [decide_eq_true hb1]
          go_wp2_with fail
          refine (CB2.out _).mono ?_
          rintro e w' ⟨rfl, rfl⟩
          rw [decide_eq_true hb2]
          go_wp2_with fail
          refine (C20.out _).mono ?_
          rintro e w3 ⟨rfl, b3⟩
          have HB3 := Lib.hid (below_step HB2.out (Nat.le_refl _) b3)
          clear b3
          go_wp2_with fail
          refine (seals13 _).mono ?_
          rintro e w4 ⟨rfl, b5⟩
          have HB4 := Lib.hid (below_step HB3.out (Nat.le_refl _) b5)
          clear b5
          go_wp2_with fail
          refine (C21.out _).mono ?_
          rintro e w5 ⟨rfl, b5⟩
          have HB5 := Lib.hid (below_step HB4.out (Nat.le_refl _) b5)
          clear b5
          go_wp2_with fail
          refine (outcome19_ok S S 0 true _ (by simp)).mono ?_
          rintro e w' ⟨rfl, rfl⟩
          go_wp2_with fail
          go_ret
          exact ⟨rfl, HB5.out⟩
        · clear hS HS2
          go_wp2_with fail
          refine (CB1.out _).mono ?_
          rintro e w' ⟨rfl, rfl⟩
          rw [decide_eq_true hb1]
          go_wp2_with fail
          refine (CB2.out _).mono ?_
          rintro e w' ⟨rfl, rfl⟩
          rw [decide_eq_false hb2]
          go_wp2_with fail
          refine (seals13 _).mono ?_
          rintro e w5 ⟨rfl, b5⟩
          have HB5 := Lib.hid (below_step HB2.out (Nat.le_refl _) b5)
          clear b5
          go_wp2_with fail
          refine (outcome19_ok S S 0 true _ (by simp)).mono ?_
          rintro e w' ⟨rfl, rfl⟩
          go_wp2_with fail
          go_ret
          exact ⟨rfl, HB5.out⟩
      · clear hS HS2
        go_wp2_with fail
        refine (CB1.out _).mono ?_
        rintro e w' ⟨rfl, rfl⟩
        rw [decide_eq_false hb1]
        go_wp2_with fail
        refine (seals13 _).mono ?_
        rintro e w5 ⟨rfl, b5⟩
        have HB5 := Lib.hid (below_step HB2.out (Nat.le_refl _) b5)
        clear b5
        go_wp2_with fail
        refine (outcome19_ok S S 0 true _ (by simp)).mono ?_
        rintro e w' ⟨rfl, rfl⟩
        go_wp2_with fail
        go_ret
        exact ⟨rfl, HB5.out⟩
    · skip
      have e1 : (E == 0) = false := by simpa using hE
      have e2 : (E != 0) = true := by simpa using hE
      obtain rfl := HS1.out hE
      go_wp2_with fail
      refine (seals13 _).mono ?_
      rintro e w5 ⟨rfl, b5⟩
      have HB5 := Lib.hid (below_step HB2.out (Nat.le_refl _) b5)
      clear b5
      go_wp2_with fail
      refine (outcome19_err ByteArray.empty ByteArray.empty E E true _ hE (by rw [empty_no _ rfl]; simp)).mono ?_
      rintro e w' ⟨rfl, rfl⟩
      go_wp2_with fail
      go_ret
      exact ⟨rfl, HB5.out⟩
  · by_cases h2 : 1048576 < text.size
    · skip
      have g1 : decide ((1048576 : Int) < (extra.size : Int)) = false := decide_eq_false (by omega)
      have g2 : decide ((1048576 : Int) < (text.size : Int)) = true := decide_eq_true (by omega)
      have HFE := Lib.hid (HF.out true (by apply decide_eq_true; omega))
      go_enter Try.func4, Try.ntmps4
      go_wp2_with fail
      refine (CS.out _).mono ?_
      rintro e w1 ⟨S, rfl, hs1, hs2, b1⟩
      have HS1 := Lib.hid hs1
      have HS2 := Lib.hid hs2
      have HB1 := Lib.hid b1
      clear hs1 hs2 b1
      go_wp2_with fail
      refine (CK.out _).mono ?_
      rintro e w' ⟨rfl, rfl⟩
      go_wp2_with fail
      refine (when17' true 8 _ _ rfl).mono ?_
      rintro e w' ⟨rfl, rfl⟩
      go_wp2_with fail
      refine (first2 _ _ _ _).mono ?_
      rintro e w2 ⟨rfl, b2⟩
      rw [HFE.out]
      have HB2 := Lib.hid (show Below w.heap.size w w2 from below_step HB1.out (Nat.le_refl _) (((Below.refl w1.heap.size w1).alloc (Nat.le_refl _) _).trans (b2.mono (by simp))))
      clear b2 HFE
      by_cases hE : E = 0
      · skip
        subst hE
        have hS := HS2.out rfl
        by_cases hb1 : extra.size ≤ 10000
        · by_cases hb2 : text.size ≤ 10000
          · have HK := Lib.hid (HSE.out rfl).1
            have HN := Lib.hid (HSE.out rfl).2
            have C20 := Lib.hid (fun w => openBlock20_ok key nonce extra text w HK.out HN.out (by omega) (by omega))
            have C21 := Lib.hid (fun w => sealedBlock21 key nonce extra text w HK.out HN.out (by omega) (by omega))
            rw [← hS] at C20 C21
            clear hS HS2
            go_wp2_with fail
            refine (CB1.out _).mono ?_
            rintro e w' ⟨rfl, rfl⟩
            rw [decide_eq_true hb1]
            go_wp2_with fail
            refine (CB2.out _).mono ?_
            rintro e w' ⟨rfl, rfl⟩
            rw [decide_eq_true hb2]
            go_wp2_with fail
            refine (C20.out _).mono ?_
            rintro e w3 ⟨rfl, b3⟩
            have HB3 := Lib.hid (below_step HB2.out (Nat.le_refl _) b3)
            clear b3
            go_wp2_with fail
            refine (seals13 _).mono ?_
            rintro e w4 ⟨rfl, b5⟩
            have HB4 := Lib.hid (below_step HB3.out (Nat.le_refl _) b5)
            clear b5
            go_wp2_with fail
            refine (C21.out _).mono ?_
            rintro e w5 ⟨rfl, b5⟩
            have HB5 := Lib.hid (below_step HB4.out (Nat.le_refl _) b5)
            clear b5
            go_wp2_with fail
            refine (outcome19_ok S S 0 true _ (by simp)).mono ?_
            rintro e w' ⟨rfl, rfl⟩
            go_wp2_with fail
            go_ret
            exact ⟨rfl, HB5.out⟩
          · clear hS HS2
            go_wp2_with fail
            refine (CB1.out _).mono ?_
            rintro e w' ⟨rfl, rfl⟩
            rw [decide_eq_true hb1]
            go_wp2_with fail
            refine (CB2.out _).mono ?_
            rintro e w' ⟨rfl, rfl⟩
            rw [decide_eq_false hb2]
            go_wp2_with fail
            refine (seals13 _).mono ?_
            rintro e w5 ⟨rfl, b5⟩
            have HB5 := Lib.hid (below_step HB2.out (Nat.le_refl _) b5)
            clear b5
            go_wp2_with fail
            refine (outcome19_ok S S 0 true _ (by simp)).mono ?_
            rintro e w' ⟨rfl, rfl⟩
            go_wp2_with fail
            go_ret
            exact ⟨rfl, HB5.out⟩
        · clear hS HS2
          go_wp2_with fail
          refine (CB1.out _).mono ?_
          rintro e w' ⟨rfl, rfl⟩
          rw [decide_eq_false hb1]
          go_wp2_with fail
          refine (seals13 _).mono ?_
          rintro e w5 ⟨rfl, b5⟩
          have HB5 := Lib.hid (below_step HB2.out (Nat.le_refl _) b5)
          clear b5
          go_wp2_with fail
          refine (outcome19_ok S S 0 true _ (by simp)).mono ?_
          rintro e w' ⟨rfl, rfl⟩
          go_wp2_with fail
          go_ret
          exact ⟨rfl, HB5.out⟩
      · skip
        have e1 : (E == 0) = false := by simpa using hE
        have e2 : (E != 0) = true := by simpa using hE
        obtain rfl := HS1.out hE
        go_wp2_with fail
        refine (seals13 _).mono ?_
        rintro e w5 ⟨rfl, b5⟩
        have HB5 := Lib.hid (below_step HB2.out (Nat.le_refl _) b5)
        clear b5
        go_wp2_with fail
        refine (outcome19_err ByteArray.empty ByteArray.empty E E true _ hE (by rw [empty_no _ rfl]; simp)).mono ?_
        rintro e w' ⟨rfl, rfl⟩
        go_wp2_with fail
        go_ret
        exact ⟨rfl, HB5.out⟩
    · skip
      have g1 : decide ((1048576 : Int) < (extra.size : Int)) = false := decide_eq_false (by omega)
      have g2 : decide ((1048576 : Int) < (text.size : Int)) = false := decide_eq_false (by omega)
      have HFE := Lib.hid (HF.out false (by apply decide_eq_false; omega))
      go_enter Try.func4, Try.ntmps4
      go_wp2_with fail
      refine (CS.out _).mono ?_
      rintro e w1 ⟨S, rfl, hs1, hs2, b1⟩
      have HS1 := Lib.hid hs1
      have HS2 := Lib.hid hs2
      have HB1 := Lib.hid b1
      clear hs1 hs2 b1
      go_wp2_with fail
      refine (CK.out _).mono ?_
      rintro e w' ⟨rfl, rfl⟩
      go_wp2_with fail
      refine (when17' false 8 _ _ rfl).mono ?_
      rintro e w' ⟨rfl, rfl⟩
      go_wp2_with fail
      refine (first2 _ _ _ _).mono ?_
      rintro e w2 ⟨rfl, b2⟩
      rw [HFE.out]
      have HB2 := Lib.hid (show Below w.heap.size w w2 from below_step HB1.out (Nat.le_refl _) (((Below.refl w1.heap.size w1).alloc (Nat.le_refl _) _).trans (b2.mono (by simp))))
      clear b2 HFE
      by_cases hE : E = 0
      · skip
        subst hE
        have hS := HS2.out rfl
        by_cases hb1 : extra.size ≤ 10000
        · by_cases hb2 : text.size ≤ 10000
          · have HK := Lib.hid (HSE.out rfl).1
            have HN := Lib.hid (HSE.out rfl).2
            have C20 := Lib.hid (fun w => openBlock20_ok key nonce extra text w HK.out HN.out (by omega) (by omega))
            have C21 := Lib.hid (fun w => sealedBlock21 key nonce extra text w HK.out HN.out (by omega) (by omega))
            rw [← hS] at C20 C21
            clear hS HS2
            go_wp2_with fail
            refine (CB1.out _).mono ?_
            rintro e w' ⟨rfl, rfl⟩
            rw [decide_eq_true hb1]
            go_wp2_with fail
            refine (CB2.out _).mono ?_
            rintro e w' ⟨rfl, rfl⟩
            rw [decide_eq_true hb2]
            go_wp2_with fail
            refine (C20.out _).mono ?_
            rintro e w3 ⟨rfl, b3⟩
            have HB3 := Lib.hid (below_step HB2.out (Nat.le_refl _) b3)
            clear b3
            go_wp2_with fail
            refine (seals13 _).mono ?_
            rintro e w4 ⟨rfl, b5⟩
            have HB4 := Lib.hid (below_step HB3.out (Nat.le_refl _) b5)
            clear b5
            go_wp2_with fail
            refine (C21.out _).mono ?_
            rintro e w5 ⟨rfl, b5⟩
            have HB5 := Lib.hid (below_step HB4.out (Nat.le_refl _) b5)
            clear b5
            go_wp2_with fail
            refine (outcome19_ok S S 0 true _ (by simp)).mono ?_
            rintro e w' ⟨rfl, rfl⟩
            go_wp2_with fail
            go_ret
            exact ⟨rfl, HB5.out⟩
          · clear hS HS2
            go_wp2_with fail
            refine (CB1.out _).mono ?_
            rintro e w' ⟨rfl, rfl⟩
            rw [decide_eq_true hb1]
            go_wp2_with fail
            refine (CB2.out _).mono ?_
            rintro e w' ⟨rfl, rfl⟩
            rw [decide_eq_false hb2]
            go_wp2_with fail
            refine (seals13 _).mono ?_
            rintro e w5 ⟨rfl, b5⟩
            have HB5 := Lib.hid (below_step HB2.out (Nat.le_refl _) b5)
            clear b5
            go_wp2_with fail
            refine (outcome19_ok S S 0 true _ (by simp)).mono ?_
            rintro e w' ⟨rfl, rfl⟩
            go_wp2_with fail
            go_ret
            exact ⟨rfl, HB5.out⟩
        · clear hS HS2
          go_wp2_with fail
          refine (CB1.out _).mono ?_
          rintro e w' ⟨rfl, rfl⟩
          rw [decide_eq_false hb1]
          go_wp2_with fail
          refine (seals13 _).mono ?_
          rintro e w5 ⟨rfl, b5⟩
          have HB5 := Lib.hid (below_step HB2.out (Nat.le_refl _) b5)
          clear b5
          go_wp2_with fail
          refine (outcome19_ok S S 0 true _ (by simp)).mono ?_
          rintro e w' ⟨rfl, rfl⟩
          go_wp2_with fail
          go_ret
          exact ⟨rfl, HB5.out⟩
      · skip
        have e1 : (E == 0) = false := by simpa using hE
        have e2 : (E != 0) = true := by simpa using hE
        obtain rfl := HS1.out hE
        go_wp2_with fail
        refine (seals13 _).mono ?_
        rintro e w5 ⟨rfl, b5⟩
        have HB5 := Lib.hid (below_step HB2.out (Nat.le_refl _) b5)
        clear b5
        go_wp2_with fail
        refine (outcome19_err ByteArray.empty ByteArray.empty E E true _ hE (by rw [empty_no _ rfl]; simp)).mono ?_
        rintro e w' ⟨rfl, rfl⟩
        go_wp2_with fail
        go_ret
        exact ⟨rfl, HB5.out⟩
end Go.Proofs.Ytnjmcppljbkhnaa
