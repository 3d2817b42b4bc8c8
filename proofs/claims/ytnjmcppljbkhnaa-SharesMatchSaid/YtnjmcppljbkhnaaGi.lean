import Derived.Test.YtnjmcppljbkhnaaGh
set_option linter.unusedVariables false
set_option linter.unusedSimpArgs false
namespace Go.Proofs.Ytnjmcppljbkhnaa
open Go.RowKit

set_option maxRecDepth 100000 in
set_option maxHeartbeats 4000000 in
theorem secret26_same (a : Option Addr) (n : Nat) (X : Nat → Int) (D : Nat → ByteArray) (w : World) (hx : SRowI w w.heap.size a n X D) (hs : ∀ i, (D i).size ≤ maxLen) (hn : n ≤ 255) (h0 : 0 < n) (hcm : n ≤ maxLen) :
    Calls Try.prog 26 #[.slice a n n, .int .i64 n] w (SPost X D n n w) := by
  have HX := Lib.hid hx
  have HSZ := Lib.hid hs
  have HBE := Lib.hid (show baseE (n : Int) n = 0 from by unfold baseE; rw [if_neg (by omega), if_neg (by omega), if_neg (by omega)])
  have hz : Try.zeroCells94 = Array.replicate 256 (.bool false) := by kernel_rfl
  have HSN := Lib.hid (show Seen (w.alloc (.cells Try.zeroCells94 94)) w.heap.size (seenF X 0) from by rw [hz]; exact Seen_new w 94 X)
  clear hz
  have HB0 := Lib.hid ((Below.refl w.heap.size w).alloc (Nat.le_refl _) (.cells Try.zeroCells94 94))
  have k1 : decide ((n : Int) < 1) = false := decide_eq_false (by omega)
  have k2 : decide ((255 : Int) < (n : Int)) = false := decide_eq_false (by omega)
  have k3 : decide (n < n) = false := decide_eq_false (by omega)
  have k4 : decide ((255 : Int) < (n : Int)) = false := decide_eq_false (by omega)
  unfold maxLen at hcm
  clear hx hs
  obtain ⟨b0, off0, rfl, hbB0, d0, d1⟩ := HX.out 0 (by omega)
  clear d0 d1
  go_enter Try.func26, Try.ntmps26
  go_wp2_with fail
  generalize w.alloc (.cells Try.zeroCells94 94) = w0 at *
  go_loopw [29] (fun iv wr => ∃ k : Nat, k ≤ n ∧ iv = .int .i64 k ∧ Below w.heap.size w wr ∧ Seen wr w.heap.size (seenF X k) ∧ Hid (scanE X D 0 k = 0)) (fun iv _ => n - (intOf iv).toNat)
  case atStart => exact ⟨0, by omega, rfl, HB0.out, HSN.out, rfl⟩
  case round =>
    clear HSN HB0
    obtain ⟨k, hk, rfl, hb, hse, HSC⟩ := hrel
    have HB := Lib.hid hb
    have HSE := Lib.hid hse
    clear hb hse
    by_cases hlt : k < n
    · have hd : decide ((k : Int) < (n : Int)) = true := decide_eq_true (by omega)
      have hd2 : decide (k < n) = true := decide_eq_true (by omega)
      obtain ⟨b', off', e', hbB', c0, c1⟩ := (HX.out.below HB.out) k hlt
      cases e'
      obtain ⟨b', off', e', hbB'', d0, d1⟩ := (HX.out.below HB.out) 0 (by omega)
      cases e'
      rw [Nat.zero_mul, Nat.add_zero] at d0 d1
      have hlz : (0 : Int) < (n : Int) := by omega
      have hbl : b0 < wr.heap.size := by have := HB.out.size; omega
      have HBA := Lib.hid (below_step HB.out (Nat.le_refl _) ((Below.refl wr.heap.size wr).alloc (Nat.le_refl _) (.cells #[.int .i64 (X k), .string (D k)] 46)))
      have HSA := Lib.hid (HSE.out.below ((Below.refl wr.heap.size wr).alloc (Nat.le_refl _) (.cells #[.int .i64 (X k), .string (D k)] 46)) HSE.out.1)
      have HST := Lib.hid (fun e (he : eltE X D k = e) (hne : e ≠ 0) => show scanE X D (baseE (n : Int) n) n = e from by rw [HBE.out]; exact scanE_stop X D k n e hlt HSC.out he hne)
      have s1 := HSZ.out k
      have s0 := HSZ.out 0
      unfold maxLen at s1 s0
      by_cases hx1 : 1 ≤ X k
      · by_cases hx2 : X k ≤ 255
        · obtain ⟨x, hx⟩ : ∃ x : Nat, X k = (x : Int) := ⟨(X k).toNat, by omega⟩
          have HTW := Lib.hid (seenF_twice X k x hx)
          have HSX := Lib.hid (fun y => seenF_succ X k x y hx)
          have HEL := Lib.hid (show eltE X D k = if twiceB X k = true then 4 else if (D k).size = 0 ∨ 1024 < (D k).size ∨ (D k).size ≠ (D 0).size then 6 else 0 from by unfold eltE; rw [if_neg (by omega)])
          rw [hx] at hx1 hx2 c0 HBA HSA
          have f0 := (HSA.out.2 x (by omega)).1
          have z0 := (HSA.out.2 x (by omega)).2
          have HXX := Lib.hid hx
          clear hx
          by_cases htw : twiceB X k = true
          · have HE := Lib.hid (HST.out 4 (by rw [HEL.out, if_pos htw]) (by decide))
            rw [HTW.out, htw] at f0
            clear htw
            go_wp2_with fail
            go_ret2
            exact ⟨Or.inl ⟨by rw [HE.out]; decide, by rw [HE.out]; rfl⟩, HBA.out⟩
          · have htf : twiceB X k = false := by simpa using htw
            rw [HTW.out, htf] at f0
            clear htf
            by_cases ha : (D k).size = 0
            · have HE := Lib.hid (HST.out 6 (by rw [HEL.out, if_neg htw, if_pos (Or.inl ha)]) (by decide))
              have hemp : (D k).toList.isEmpty = true := empty_no _ ha
              clear htw ha
              go_wp2_with fail
              go_quiet (fail)
              go_wp2_with fail
              go_ret2
              exact ⟨Or.inl ⟨by rw [HE.out]; decide, by rw [HE.out]; rfl⟩, below_drewN HBA.out _⟩
            · have hemp : (D k).toList.isEmpty = false := empty_of _ (by omega)
              by_cases hb2 : 1024 < (D k).size
              · have HE := Lib.hid (HST.out 6 (by rw [HEL.out, if_neg htw, if_pos (Or.inr (Or.inl hb2))]) (by decide))
                have g1 : decide ((1024 : Int) < ((D k).size : Int)) = true := decide_eq_true (by omega)
                clear htw ha
                go_wp2_with fail
                go_quiet (fail)
                go_wp2_with fail
                go_ret2
                exact ⟨Or.inl ⟨by rw [HE.out]; decide, by rw [HE.out]; rfl⟩, below_drewN HBA.out _⟩
              · have g1 : decide ((1024 : Int) < ((D k).size : Int)) = false := decide_eq_false (by omega)
                by_cases hc2 : (D k).size = (D 0).size
                · have HEO := Lib.hid (show eltE X D k = 0 from by rw [HEL.out, if_neg htw, if_neg (by omega)])
                  have g2 : (((D k).size : Int) == ((D 0).size : Int)) = true := by rw [hc2]; simp
                  have g3 : (((D k).size : Int) != ((D 0).size : Int)) = false := by rw [hc2]; simp
                  clear htw ha hc2 hb2
                  go_wp2_with fail
                  go_quiet (fail)
                  go_wp2_with fail
                  go_roundw
                  case rel => exact ⟨k + 1, by omega, by go_num, (below_drewN HBA.out _).setCell (Nat.le_refl _) _, (HSA.out.drewN _).set x (by omega) HSX.out, scanE_next X D k HSC.out HEO.out⟩
                  case measure => simp [intOf]; omega
                · have HE := Lib.hid (HST.out 6 (by rw [HEL.out, if_neg htw, if_pos (Or.inr (Or.inr hc2))]) (by decide))
                  have g2 : (((D k).size : Int) == ((D 0).size : Int)) = false := by simp; omega
                  have g3 : (((D k).size : Int) != ((D 0).size : Int)) = true := by simp; omega
                  clear htw ha hc2 hb2
                  go_wp2_with fail
                  go_quiet (fail)
                  go_wp2_with fail
                  go_ret2
                  exact ⟨Or.inl ⟨by rw [HE.out]; decide, by rw [HE.out]; rfl⟩, below_drewN HBA.out _⟩
        · have HE := Lib.hid (HST.out 7 (by unfold eltE; rw [if_pos (by omega)]) (by decide))
          go_wp2_with fail
          go_ret2
          exact ⟨Or.inl ⟨by rw [HE.out]; decide, by rw [HE.out]; rfl⟩, HBA.out⟩
      · have HE := Lib.hid (HST.out 7 (by unfold eltE; rw [if_pos (by omega)]) (by decide))
        go_wp2_with fail
        go_ret2
        exact ⟨Or.inl ⟨by rw [HE.out]; decide, by rw [HE.out]; rfl⟩, HBA.out⟩
    · have hd : decide ((k : Int) < (n : Int)) = false := decide_eq_false (by omega)
      have hd2 : decide (k < n) = false := decide_eq_false (by omega)
      have HZ := Lib.hid (show scanE X D 0 n = 0 from by
        have h := HSC.out
        rw [show k = n by omega] at h
        exact h)
      clear HSE HSC
      obtain ⟨hf1, hf2, hf3, hf4⟩ := shares_fit X D n HZ.out
      have HXN := Lib.hid (HX.out.nat hf1)
      have HDD := Lib.hid hf2
      have HII := Lib.hid hf3
      have HMM := Lib.hid (hf4 (by omega))
      have HXX := Lib.hid (fun i (hi : i < n) => show X i = ((xN X i : Nat) : Int) from by have := hf1 i hi; unfold xN; omega)
      clear hf1 hf2 hf3 hf4
      have HC := Lib.hid (fun (at' : Nat) (w : World) (hx : SRow w w.heap.size (some ⟨b0, off0, none⟩) n (xN X) D) (ha : at' < 256) => valueAt61 (some ⟨b0, off0, none⟩) n n (D 0).size (xN X) D at' w hx (xN_lt X) ha hn h0 (by have := HMM.out; omega) (fun i hi => HDD.out i (by omega)))
      go_wp2_with fail
      go_loopw [76] (fun tv wr => ∃ t : Nat, t ≤ n - n ∧ tv = .int .i64 t ∧ Below w.heap.size w wr ∧ Hid (∀ i, n ≤ i → i < n + t → vS (xN X) D n (xN X i) (D 0).size = D i)) (fun tv _ => n - n - (intOf tv).toNat)
      case atStart => exact ⟨0, by omega, rfl, HB.out, fun i h1 h2 => by omega⟩
      case round =>
        clear HB
        obtain ⟨t, ht, rfl, hb, HG⟩ := hrel
        have HBW := Lib.hid hb
        clear hb
        by_cases hlt2 : t < n - n
        · exfalso; omega
        · have hd : decide ((t : Int) < ((n - n : Nat) : Int)) = false := decide_eq_false (by omega)
          have hd2 : decide (t < n - n) = false := decide_eq_false hlt2
          have HGD := Lib.hid (show Good (xN X) D n n (D 0).size from fun j hj i h1 h2 => (good_at X D n n i (HDD.out i h2)).1 (HG.out i h1 (by omega)) j hj)
          have HXL := Lib.hid (HXN.out)
          have hn1 : (n : Int) ≤ (n : Int) := by omega
          have hn2 : (0 : Int) ≤ (n : Int) := by omega
          have hn3 : n ≤ n := by omega
          go_wp2_with fail
          refine (HC.out 0 _ (HXL.out.at' HBW.out) (by decide)).mono ?_
          rintro e w' ⟨rfl, hbb⟩
          have HBF := Lib.hid (below_step HBW.out (Nat.le_refl _) hbb)
          clear hbb
          generalize hVV : vS (xN X) D n 0 (D 0).size = VV at *
          have HVV := Lib.hid hVV
          clear hVV
          go_wp2_with fail
          go_ret2
          exact ⟨Or.inr (Or.inl ⟨by rw [HBE.out]; exact HZ.out, by simpa using HGD.out, by rw [← HVV.out]; rfl⟩), HBF.out⟩

theorem secret26 (a : Option Addr) (ca len : Nat) (X : Nat → Int) (D : Nat → ByteArray) (n : Int) (w : World) (hx : SRowI w w.heap.size a len X D) (hs : ∀ i, (D i).size ≤ maxLen) (hca : len ≤ ca) (hcm : ca ≤ maxLen) :
    Calls Try.prog 26 #[.slice a len ca, .int .i64 n] w (SPost X D n len w) := by
  by_cases hb : baseE n len = 0
  · have h1 : 1 ≤ n ∧ n ≤ 255 ∧ n ≤ (len : Int) ∧ len ≤ 255 := by
      unfold baseE at hb
      split at hb
      · cases hb
      · split at hb
        · cases hb
        · split at hb
          · cases hb
          · refine ⟨?_, ?_, ?_, ?_⟩ <;> omega
    obtain ⟨q, rfl⟩ : ∃ q : Nat, n = (q : Int) := ⟨n.toNat, by omega⟩
    by_cases hcn : q < ca
    · exact secret26_main a ca len q X D w hx hs (by omega) (by omega) (by omega) (by omega) hca hcn hcm
    · obtain rfl : ca = q := by omega
      obtain rfl : len = ca := by omega
      exact secret26_same a len X D w hx hs (by omega) (by omega) hcm
  · exact secret26_base a ca len X D n w (Nat.le_trans hca hcm) hb
end Go.Proofs.Ytnjmcppljbkhnaa
