import Derived.Test.YtnjmcppljbkhnaaYq
set_option linter.unusedVariables false
set_option linter.unusedSimpArgs false
namespace Go.Proofs.Ytnjmcppljbkhnaa
open Go.RowKit
set_option maxRecDepth 100000 in
set_option maxHeartbeats 4000000 in
theorem law4 (key nonce extra text : ByteArray) (w : World) (hk : key.size ≤ maxLen) (hn : nonce.size ≤ maxLen) (he : extra.size ≤ maxLen) (ht : text.size ≤ maxLen) :
    Calls Try.prog 4 #[.string key, .string nonce, .string extra, .string text] w fun e w' => e = .returned (.bool true) ∧ Below w.heap.size w w' := by
  have CS := Lib.hid (fun w => sealBlock14 key nonce extra text w hk hn he ht)
  have CK := Lib.hid (fun w => keyError16 key nonce w hk hn)
  have CB1 := Lib.hid (fun w => brief18 extra w he)
  have CB2 := Lib.hid (fun w => brief18 text w ht)
  have HF := Lib.hid (bE_first key nonce extra text)
  have HSE := Lib.hid (show bE key nonce extra text = 0 → key.size = 32 ∧ nonce.size = 12 from by
    unfold bE
    intro h
    split at h
    · exact absurd h (by decide)
    · omega)
  unfold maxLen at he ht
  clear hk hn
  unfold BlkPost at CS
  generalize hE : bE key nonce extra text = E at *
  clear hE
  generalize hkk : kE key nonce = k at *
  clear hkk
  by_cases h1 : 1048576 < extra.size
  · skip
    have g1 : decide ((1048576 : Int) < (extra.size : Int)) = true := decide_eq_true (by omega)
    have HFE := Lib.hid (HF.out true (by apply decide_eq_true; omega))
    go_enter Try.func4, Try.ntmps4
    go_wp2_with fail
    refine (CS.out _).mono ?_
    rintro e w1 ⟨S, rfl, hs1, hs2, b1⟩
    have HS1 := Lib.hid hs1
    have HS2 := Lib.hid hs2
    have HB1 := Lib.hid b1
    clear hs1 hs2 b1
    go_wp2_with fail
    refine (CK.out _).mono ?_
    rintro e w' ⟨rfl, rfl⟩
    go_wp2_with fail
    refine (when17' true 8 _ _ rfl).mono ?_
    rintro e w' ⟨rfl, rfl⟩
    go_wp2_with fail
    refine (first2 _ _ _ _).mono ?_
    rintro e w2 ⟨rfl, b2⟩
    rw [HFE.out]
    have HB2 := Lib.hid (show Below w.heap.size w w2 from below_step HB1.out (Nat.le_refl _) (((Below.refl w1.heap.size w1).alloc (Nat.le_refl _) _).trans (b2.mono (by simp))))
    clear b2 HFE
    by_cases hE : E = 0
    · skip
      subst hE
      have hS := HS2.out rfl
      by_cases hb1 : extra.size ≤ 10000
      · by_cases hb2 : text.size ≤ 10000
        · have HK := Lib.hid (HSE.out rfl).1
          have HN := Lib.hid (HSE.out rfl).2
          have C20 := Lib.hid (fun w => openBlock20_ok key nonce extra text w HK.out HN.out (by omega) (by omega))
          have C21 := Lib.hid (fun w => sealedBlock21 key nonce extra text w HK.out HN.out (by omega) (by omega))
          rw [← hS] at C20 C21
          clear hS HS2
          go_wp2_with fail
          refine (CB1.out _).mono ?_
          rintro e w' ⟨rfl, rfl⟩
          rw [decide_eq_true hb1]
          go_wp2_with fail
          refine (CB2.out _).mono ?_
          rintro e w' ⟨rfl, rfl⟩
          rw [decide_eq_true hb2]
          go_wp2_with fail
          refine (C20.out _).mono ?_
          rintro e w3 ⟨rfl, b3⟩
          have HB3 := Lib.hid (below_step HB2.out (Nat.le_refl _) b3)
          clear b3
          go_wp2_with fail
          refine (seals13 _).mono ?_
          rintro e w4 ⟨rfl, b5⟩
          have HB4 := Lib.hid (below_step HB3.out (Nat.le_refl _) b5)
          clear b5
          go_wp2_with fail
          refine (C21.out _).mono ?_
          rintro e w5 ⟨rfl, b5⟩
          have HB5 := Lib.hid (below_step HB4.out (Nat.le_refl _) b5)
          clear b5
          go_wp2_with fail
          refine (outcome19_ok S S 0 true _ (by simp)).mono ?_
          rintro e w' ⟨rfl, rfl⟩
          go_wp2_with fail
          go_ret
          exact ⟨rfl, HB5.out⟩
        · clear hS HS2
          go_wp2_with fail
          refine (CB1.out _).mono ?_
          rintro e w' ⟨rfl, rfl⟩
          rw [decide_eq_true hb1]
          go_wp2_with fail
          refine (CB2.out _).mono ?_
          rintro e w' ⟨rfl, rfl⟩
          rw [decide_eq_false hb2]
          go_wp2_with fail
          refine (seals13 _).mono ?_
          rintro e w5 ⟨rfl, b5⟩
          have HB5 := Lib.hid (below_step HB2.out (Nat.le_refl _) b5)
          clear b5
          go_wp2_with fail
          refine (outcome19_ok S S 0 true _ (by simp)).mono ?_
          rintro e w' ⟨rfl, rfl⟩
          go_wp2_with fail
          go_ret
          exact ⟨rfl, HB5.out⟩
      · clear hS HS2
        go_wp2_with fail
        refine (CB1.out _).mono ?_
        rintro e w' ⟨rfl, rfl⟩
        rw [decide_eq_false hb1]
        go_wp2_with fail
        refine (seals13 _).mono ?_
        rintro e w5 ⟨rfl, b5⟩
        have HB5 := Lib.hid (below_step HB2.out (Nat.le_refl _) b5)
        clear b5
        go_wp2_with fail
        refine (outcome19_ok S S 0 true _ (by simp)).mono ?_
        rintro e w' ⟨rfl, rfl⟩
        go_wp2_with fail
        go_ret
        exact ⟨rfl, HB5.out⟩
    · skip
      have e1 : (E == 0) = false := by simpa using hE
      have e2 : (E != 0) = true := by simpa using hE
      obtain rfl := HS1.out hE
      go_wp2_with fail
      refine (seals13 _).mono ?_
      rintro e w5 ⟨rfl, b5⟩
      have HB5 := Lib.hid (below_step HB2.out (Nat.le_refl _) b5)
      clear b5
      go_wp2_with fail
      refine (outcome19_err ByteArray.empty ByteArray.empty E E true _ hE (by rw [empty_no _ rfl]; simp)).mono ?_
      rintro e w' ⟨rfl, rfl⟩
      go_wp2_with fail
      go_ret
      exact ⟨rfl, HB5.out⟩
  · by_cases h2 : 1048576 < text.size
    · skip
      have g1 : decide ((1048576 : Int) < (extra.size : Int)) = false := decide_eq_false (by omega)
      have g2 : decide ((1048576 : Int) < (text.size : Int)) = true := decide_eq_true (by omega)
      have HFE := Lib.hid (HF.out true (by apply decide_eq_true; omega))
      go_enter Try.func4, Try.ntmps4
      go_wp2_with fail
      refine (CS.out _).mono ?_
      rintro e w1 ⟨S, rfl, hs1, hs2, b1⟩
      have HS1 := Lib.hid hs1
      have HS2 := Lib.hid hs2
      have HB1 := Lib.hid b1
      clear hs1 hs2 b1
      go_wp2_with fail
      refine (CK.out _).mono ?_
      rintro e w' ⟨rfl, rfl⟩
      go_wp2_with fail
      refine (when17' true 8 _ _ rfl).mono ?_
      rintro e w' ⟨rfl, rfl⟩
      go_wp2_with fail
      refine (first2 _ _ _ _).mono ?_
      rintro e w2 ⟨rfl, b2⟩
      rw [HFE.out]
      have HB2 := Lib.hid (show Below w.heap.size w w2 from below_step HB1.out (Nat.le_refl _) (((Below.refl w1.heap.size w1).alloc (Nat.le_refl _) _).trans (b2.mono (by simp))))
      clear b2 HFE
      by_cases hE : E = 0
      · skip
        subst hE
        have hS := HS2.out rfl
        by_cases hb1 : extra.size ≤ 10000
        · by_cases hb2 : text.size ≤ 10000
          · have HK := Lib.hid (HSE.out rfl).1
            have HN := Lib.hid (HSE.out rfl).2
            have C20 := Lib.hid (fun w => openBlock20_ok key nonce extra text w HK.out HN.out (by omega) (by omega))
            have C21 := Lib.hid (fun w => sealedBlock21 key nonce extra text w HK.out HN.out (by omega) (by omega))
            rw [← hS] at C20 C21
            clear hS HS2
            go_wp2_with fail
            refine (CB1.out _).mono ?_
            rintro e w' ⟨rfl, rfl⟩
            rw [decide_eq_true hb1]
            go_wp2_with fail
            refine (CB2.out _).mono ?_
            rintro e w' ⟨rfl, rfl⟩
            rw [decide_eq_true hb2]
            go_wp2_with fail
            refine (C20.out _).mono ?_
            rintro e w3 ⟨rfl, b3⟩
            have HB3 := Lib.hid (below_step HB2.out (Nat.le_refl _) b3)
            clear b3
            go_wp2_with fail
            refine (seals13 _).mono ?_
            rintro e w4 ⟨rfl, b5⟩
            have HB4 := Lib.hid (below_step HB3.out (Nat.le_refl _) b5)
            clear b5
            go_wp2_with fail
            refine (C21.out _).mono ?_
            rintro e w5 ⟨rfl, b5⟩
            have HB5 := Lib.hid (below_step HB4.out (Nat.le_refl _) b5)
            clear b5
            go_wp2_with fail
            refine (outcome19_ok S S 0 true _ (by simp)).mono ?_
            rintro e w' ⟨rfl, rfl⟩
            go_wp2_with fail
            go_ret
            exact ⟨rfl, HB5.out⟩
          · clear hS HS2
            go_wp2_with fail
            refine (CB1.out _).mono ?_
            rintro e w' ⟨rfl, rfl⟩
            rw [decide_eq_true hb1]
            go_wp2_with fail
            refine (CB2.out _).mono ?_
            rintro e w' ⟨rfl, rfl⟩
            rw [decide_eq_false hb2]
            go_wp2_with fail
            refine (seals13 _).mono ?_
            rintro e w5 ⟨rfl, b5⟩
            have HB5 := Lib.hid (below_step HB2.out (Nat.le_refl _) b5)
            clear b5
            go_wp2_with fail
            refine (outcome19_ok S S 0 true _ (by simp)).mono ?_
            rintro e w' ⟨rfl, rfl⟩
            go_wp2_with fail
            go_ret
            exact ⟨rfl, HB5.out⟩
        · clear hS HS2
          go_wp2_with fail
          refine (CB1.out _).mono ?_
          rintro e w' ⟨rfl, rfl⟩
          rw [decide_eq_false hb1]
          go_wp2_with fail
          refine (seals13 _).mono ?_
          rintro e w5 ⟨rfl, b5⟩
          have HB5 := Lib.hid (below_step HB2.out (Nat.le_refl _) b5)
          clear b5
          go_wp2_with fail
          refine (outcome19_ok S S 0 true _ (by simp)).mono ?_
          rintro e w' ⟨rfl, rfl⟩
          go_wp2_with fail
          go_ret
          exact ⟨rfl, HB5.out⟩
      · skip
        have e1 : (E == 0) = false := by simpa using hE
        have e2 : (E != 0) = true := by simpa using hE
        obtain rfl := HS1.out hE
        go_wp2_with fail
        refine (seals13 _).mono ?_
        rintro e w5 ⟨rfl, b5⟩
        have HB5 := Lib.hid (below_step HB2.out (Nat.le_refl _) b5)
        clear b5
        go_wp2_with fail
        refine (outcome19_err ByteArray.empty ByteArray.empty E E true _ hE (by rw [empty_no _ rfl]; simp)).mono ?_
        rintro e w' ⟨rfl, rfl⟩
        go_wp2_with fail
        go_ret
        exact ⟨rfl, HB5.out⟩
    · skip
      have g1 : decide ((1048576 : Int) < (extra.size : Int)) = false := decide_eq_false (by omega)
      have g2 : decide ((1048576 : Int) < (text.size : Int)) = false := decide_eq_false (by omega)
      have HFE := Lib.hid (HF.out false (by apply decide_eq_false; omega))
      go_enter Try.func4, Try.ntmps4
      go_wp2_with fail
      refine (CS.out _).mono ?_
      rintro e w1 ⟨S, rfl, hs1, hs2, b1⟩
      have HS1 := Lib.hid hs1
      have HS2 := Lib.hid hs2
      have HB1 := Lib.hid b1
      clear hs1 hs2 b1
      go_wp2_with fail
      refine (CK.out _).mono ?_
      rintro e w' ⟨rfl, rfl⟩
      go_wp2_with fail
      refine (when17' false 8 _ _ rfl).mono ?_
      rintro e w' ⟨rfl, rfl⟩
      go_wp2_with fail
      refine (first2 _ _ _ _).mono ?_
      rintro e w2 ⟨rfl, b2⟩
      rw [HFE.out]
      have HB2 := Lib.hid (show Below w.heap.size w w2 from below_step HB1.out (Nat.le_refl _) (((Below.refl w1.heap.size w1).alloc (Nat.le_refl _) _).trans (b2.mono (by simp))))
      clear b2 HFE
      by_cases hE : E = 0
      · skip
        subst hE
        have hS := HS2.out rfl
        by_cases hb1 : extra.size ≤ 10000
        · by_cases hb2 : text.size ≤ 10000
          · have HK := Lib.hid (HSE.out rfl).1
            have HN := Lib.hid (HSE.out rfl).2
            have C20 := Lib.hid (fun w => openBlock20_ok key nonce extra text w HK.out HN.out (by omega) (by omega))
            have C21 := Lib.hid (fun w => sealedBlock21 key nonce extra text w HK.out HN.out (by omega) (by omega))
            rw [← hS] at C20 C21
            clear hS HS2
            go_wp2_with fail
            refine (CB1.out _).mono ?_
            rintro e w' ⟨rfl, rfl⟩
            rw [decide_eq_true hb1]
            go_wp2_with fail
            refine (CB2.out _).mono ?_
            rintro e w' ⟨rfl, rfl⟩
            rw [decide_eq_true hb2]
            go_wp2_with fail
            refine (C20.out _).mono ?_
            rintro e w3 ⟨rfl, b3⟩
            have HB3 := Lib.hid (below_step HB2.out (Nat.le_refl _) b3)
            clear b3
            go_wp2_with fail
            refine (seals13 _).mono ?_
            rintro e w4 ⟨rfl, b5⟩
            have HB4 := Lib.hid (below_step HB3.out (Nat.le_refl _) b5)
            clear b5
            go_wp2_with fail
            refine (C21.out _).mono ?_
            rintro e w5 ⟨rfl, b5⟩
            have HB5 := Lib.hid (below_step HB4.out (Nat.le_refl _) b5)
            clear b5
            go_wp2_with fail
            refine (outcome19_ok S S 0 true _ (by simp)).mono ?_
            rintro e w' ⟨rfl, rfl⟩
            go_wp2_with fail
            go_ret
            exact ⟨rfl, HB5.out⟩
          · clear hS HS2
            go_wp2_with fail
            refine (CB1.out _).mono ?_
            rintro e w' ⟨rfl, rfl⟩
            rw [decide_eq_true hb1]
            go_wp2_with fail
            refine (CB2.out _).mono ?_
            rintro e w' ⟨rfl, rfl⟩
            rw [decide_eq_false hb2]
            go_wp2_with fail
            refine (seals13 _).mono ?_
            rintro e w5 ⟨rfl, b5⟩
            have HB5 := Lib.hid (below_step HB2.out (Nat.le_refl _) b5)
            clear b5
            go_wp2_with fail
            refine (outcome19_ok S S 0 true _ (by simp)).mono ?_
            rintro e w' ⟨rfl, rfl⟩
            go_wp2_with fail
            go_ret
            exact ⟨rfl, HB5.out⟩
        · clear hS HS2
          go_wp2_with fail
          refine (CB1.out _).mono ?_
          rintro e w' ⟨rfl, rfl⟩
          rw [decide_eq_false hb1]
          go_wp2_with fail
          refine (seals13 _).mono ?_
          rintro e w5 ⟨rfl, b5⟩
          have HB5 := Lib.hid (below_step HB2.out (Nat.le_refl _) b5)
          clear b5
          go_wp2_with fail
          refine (outcome19_ok S S 0 true _ (by simp)).mono ?_
          rintro e w' ⟨rfl, rfl⟩
          go_wp2_with fail
          go_ret
          exact ⟨rfl, HB5.out⟩
      · skip
        have e1 : (E == 0) = false := by simpa using hE
        have e2 : (E != 0) = true := by simpa using hE
        obtain rfl := HS1.out hE
        go_wp2_with fail
        refine (seals13 _).mono ?_
        rintro e w5 ⟨rfl, b5⟩
        have HB5 := Lib.hid (below_step HB2.out (Nat.le_refl _) b5)
        clear b5
        go_wp2_with fail
        refine (outcome19_err ByteArray.empty ByteArray.empty E E true _ hE (by rw [empty_no _ rfl]; simp)).mono ?_
        rintro e w' ⟨rfl, rfl⟩
        go_wp2_with fail
        go_ret
        exact ⟨rfl, HB5.out⟩
end Go.Proofs.Ytnjmcppljbkhnaa

set_option linter.unusedVariables false
set_option linter.unusedSimpArgs false
namespace Go.Proofs.Ytnjmcppljbkhnaa
open Go.RowKit
/-- the k bytes of a number, the highest first. -/
def beF (k v : Nat) : Nat → Nat := fun i => v / 256 ^ (k - 1 - i) % 256
def beS (k v : Nat) : ByteArray := strB k (beF k v)
theorem beS_size (k v : Nat) : (beS k v).size = k := strB_size _ _
/-- the cells after t bytes. -/
def beC (k v t : Nat) : Nat → Nat := fun i => if k - t ≤ i then beF k v i else 0
theorem beC_step (k v t d : Nat) (ht : t < k) (h : d = v / 256 ^ t % 256) : upd (beC k v t) (k - 1 - t) d = beC k v (t + 1) := by
  subst h
  funext i
  unfold upd beC beF
  by_cases e : i = k - 1 - t
  · subst e
    rw [if_pos rfl, if_pos (by omega), show k - 1 - (k - 1 - t) = t by omega]
  · rw [if_neg e]
    by_cases e2 : k - t ≤ i
    · rw [if_pos e2, if_pos (by omega)]
    · rw [if_neg e2, if_neg (by omega)]
set_option maxRecDepth 100000 in
set_option maxHeartbeats 1000000 in
theorem number110 (v k : Nat) (w : World) (hv : v < 4611686018427387904) (hk : k ≤ 100) :
    Calls Try.prog 110 #[.int .i64 v, .int .i64 k] w fun e w' => e = .returned (.string (beS k v)) ∧ Below w.heap.size w w' := by
  have hmk := run_madeB w k (by omega)
  have HW0 := Lib.hid (show WS w k (beC k v 0) (madeB w k) from ⟨madeB_below w _, (madeB_row w _).congr (fun i hi => by unfold beC; rw [if_neg (by omega)])⟩)
  generalize madeB w k = w0 at *
  go_enter Try.func110, Try.ntmps110
  go_wp2_with fail
  clear hmk
  go_loopw [0, 6] (fun nv iv wq => ∃ t q : Nat, t ≤ k ∧ iv = .int .i64 ((k : Int) - 1 - t) ∧ nv = .int .i64 q ∧ Hid (q = v / 256 ^ t) ∧ WS w k (beC k v t) wq) (fun _ iv _ => ((intOf iv) + 1).toNat)
  case atStart => exact ⟨0, v, by omega, by simp, rfl, Lib.hid (by simp), HW0.out⟩
  case round =>
    clear HW0
    obtain ⟨t, q, ht, rfl, rfl, HQ, hws⟩ := hrel
    have HWS := Lib.hid hws
    clear hws
    by_cases hlt : t < k
    · obtain ⟨j, hj⟩ : ∃ j : Nat, j = k - 1 - t := ⟨_, rfl⟩
      have ej : (k : Int) - 1 - (t : Int) = (j : Int) := by omega
      rw [ej]
      have hjk : j < k := by omega
      have hj1 : (j : Int) < (k : Int) := by omega
      have hd : decide ((0 : Int) ≤ (j : Int)) = true := decide_eq_true (by omega)
      have z0 := (HWS.out.2.2 j hjk).1
      have z1 := (HWS.out.2.2 j hjk).2
      have HST := Lib.hid (show WS w k (beC k v (t + 1)) _ from by
        rw [← beC_step k v t (q % 256) hlt (by rw [HQ.out]), ← hj]
        exact HWS.out.store j (q % 256) hjk)
      have hq : q < 4611686018427387904 := by rw [HQ.out]; exact Nat.lt_of_le_of_lt (Nat.div_le_self _ _) hv
      have HQ1 := Lib.hid (show q / 256 = v / 256 ^ (t + 1) from by rw [HQ.out, Nat.div_div_eq_div_mul, Nat.pow_succ])
      have HJ := Lib.hid (show ((j : Int) - 1) = (k : Int) - 1 - ((t + 1 : Nat) : Int) from by omega)
      have HK1 := Lib.hid (show t + 1 ≤ k from hlt)
      have hw8 : IntKind.u8.wrap (q : Int) = ((q % 256 : Nat) : Int) := by rw [IntKind.wrap_u8]; omega
      clear ej hj HWS
      go_wp2_with fail
      go_roundw
      case rel => exact ⟨t + 1, q / 256, HK1.out, by rw [HJ.out], by go_num, HQ1, by simpa using HST.out⟩
      case measure => simp [intOf] <;> omega
    · obtain rfl : t = k := by omega
      have ej : (t : Int) - 1 - (t : Int) = -1 := by omega
      rw [ej]
      have hcv := fun cap => conv_BR HWS.out.2 cap
      have e : strB t (beC t v t) = beS t v := strB_congr (fun i hi => by unfold beC; rw [if_pos (by omega)])
      rw [e] at hcv
      clear e ej
      go_wp2_with fail
      go_ret
      exact ⟨rfl, HWS.out.1⟩
theorem conv_be (w : World) (x : Nat) (t : TypeId) (hx : x < 4294967296) : (convert 88 9 (.slice (some ⟨w.heap.size, 0, none⟩) 4 4)).run Try.prog (w.alloc (.cells #[.int .u8 ((x : Int) / 16777216), .int .u8 ((x : Int) / 65536 % 256), .int .u8 ((x : Int) / 256 % 256), .int .u8 ((x : Int) % 256)] t)) = .ok (.string (beS 4 x)) (w.alloc (.cells #[.int .u8 ((x : Int) / 16777216), .int .u8 ((x : Int) / 65536 % 256), .int .u8 ((x : Int) / 256 % 256), .int .u8 ((x : Int) % 256)] t)) := by
  have h := conv_row (f := beF 4 x) (n := 4) (Blk.new w t (row8 4 (beF 4 x))) 0 4 (by omega) 4
  have e : row8 4 (beF 4 x) = #[.int .u8 ((x : Int) / 16777216), .int .u8 ((x : Int) / 65536 % 256), .int .u8 ((x : Int) / 256 % 256), .int .u8 ((x : Int) % 256)] := by
    simp [row8, List.range, List.range.loop, beF]
    omega
  rw [e] at h
  have e0 : (fun i => beF 4 x (0 + i)) = beF 4 x := by funext i; rw [Nat.zero_add]
  rw [e0] at h
  exact h
set_option maxRecDepth 100000 in
set_option maxHeartbeats 1000000 in
theorem four94 (x : Nat) (w : World) (hx : x < 4294967296) : Calls Try.prog 94 #[.int .u32 x] w fun e w' => e = .returned (.string (beS 4 x)) ∧ Below w.heap.size w w' := by
  have hcv := fun t => conv_be w x t hx
  go_enter Try.func94, Try.ntmps94
  go_wp2_with fail
  go_ret
  exact ⟨rfl, (Below.refl _ _).alloc (Nat.le_refl _) _⟩
theorem beS_join (n : Nat) (h : n < 18446744073709551616) : beS 4 (n / 4294967296) ++ beS 4 (n % 4294967296) = beS 8 n := by
  unfold beS
  have e : strB 4 (beF 4 (n / 4294967296)) = strB 4 (beF 8 n) := strB_congr fun i hi => by
    unfold beF
    have : i = 0 ∨ i = 1 ∨ i = 2 ∨ i = 3 := by omega
    rcases this with rfl | rfl | rfl | rfl <;> simp only [Nat.reduceSub, Nat.reducePow] <;> omega
  rw [e]
  exact strB_join 4 4 (beF 8 n) (beF 4 (n % 4294967296)) (fun j hj => by
    unfold beF
    have : j = 0 ∨ j = 1 ∨ j = 2 ∨ j = 3 := by omega
    rcases this with rfl | rfl | rfl | rfl <;> simp only [Nat.reduceSub, Nat.reducePow, Nat.reduceAdd] <;> omega)
set_option maxRecDepth 100000 in
set_option maxHeartbeats 1000000 in
theorem eight71 (n : Nat) (w : World) (hn : n ≤ 140737488355328) :
    Calls Try.prog 71 #[.int .i64 n] w fun e w' => e = .returned (.string (beS 8 n)) ∧ Below w.heap.size w w' := by
  have HT := Lib.hid (beS_join n (by omega))
  have HC1 := Lib.hid (fun w => show Calls Try.prog 94 #[.int .u32 ((n : Int) / 4294967296)] w fun e w' => e = .returned (.string (beS 4 (n / 4294967296))) ∧ Below w.heap.size w w' from by
    rw [show (n : Int) / 4294967296 = ((n / 4294967296 : Nat) : Int) by omega]
    exact four94 (n / 4294967296) w (by omega))
  have HC2 := Lib.hid (fun w => show Calls Try.prog 94 #[.int .u32 ((n : Int) % 4294967296)] w fun e w' => e = .returned (.string (beS 4 (n % 4294967296))) ∧ Below w.heap.size w w' from by
    rw [show (n : Int) % 4294967296 = ((n % 4294967296 : Nat) : Int) by omega]
    exact four94 (n % 4294967296) w (Nat.mod_lt _ (by decide)))
  have hl1 : (beS 4 (n / 4294967296)).size ≤ 4 := by rw [beS_size]; omega
  have hl2 : (beS 4 (n % 4294967296)).size ≤ 4 := by rw [beS_size]; omega
  generalize beS 4 (n / 4294967296) = A at *
  generalize beS 4 (n % 4294967296) = B at *
  go_enter Try.func71, Try.ntmps71
  go_wp2_with fail
  refine (HC1.out _).mono ?_
  rintro e w1 ⟨rfl, b1⟩
  have HB1 := Lib.hid b1
  clear b1
  go_wp2_with fail
  refine (HC2.out _).mono ?_
  rintro e w2 ⟨rfl, b2⟩
  have HB2 := Lib.hid (below_step HB1.out (Nat.le_refl _) b2)
  clear b2
  go_wp2_with fail
  go_ret
  exact ⟨by rw [← HT.out]; rfl, HB2.out⟩
/-- the word at a place, its highest byte first. -/
def wbe (s : ByteArray) (i : Nat) : Nat := at8 s i * 16777216 + at8 s (i + 1) * 65536 + at8 s (i + 2) * 256 + at8 s (i + 3)
theorem wbe_lt (s : ByteArray) (i : Nat) : wbe s i < 4294967296 := by
  have a := at8_lt s i
  have b := at8_lt s (i + 1)
  have c := at8_lt s (i + 2)
  have d := at8_lt s (i + 3)
  unfold wbe; omega
end Go.Proofs.Ytnjmcppljbkhnaa
