import Derived.Test.YtdfloglicjocbaaMh
set_option linter.unusedVariables false
set_option linter.unusedSimpArgs false
namespace Go.Proofs.Ytdfloglicjocbaa
open Go.RowKit

theorem row_lit2 (w : World) (o : Obj) (xs : List Int) (t : TypeId) : Row ((w.alloc o).alloc (.cells (xs.map (Value.int .i64)).toArray t)) (w.heap.size + 2) (some ⟨w.heap.size + 1, 0, none⟩) xs := by
  have h := Row.lit (w.alloc o) xs t
  have e : (w.alloc o).heap.size = w.heap.size + 1 := by simp
  rwa [e] at h
theorem eqB_step {w w4 : World} (h : Below w.heap.size w w4) : EqB true w (.returned (.bool true)) w4 := ⟨rfl, h⟩

set_option maxHeartbeats 4000000 in
set_option maxRecDepth 100000 in
theorem parts_a_R (size part : Int) (a : Option Addr) (cap n : Nat) (xs : List (Int × Int)) (w : World) (hx : PRow w w.heap.size a xs) (hn : xs.length = n) (lx : xs.length ≤ maxLen) (hs : ¬ (0 ≤ size ∧ size ≤ 1048576)) (hl : xs.length ≤ 2000) :
    Calls Try.prog 10 #[.int .i64 size, .int .i64 part, .slice a n cap] w (EqB true w) := by
  have hw1 := within_no _ _ _ hs
  unfold maxLen at lx
  have HM := Lib.hid (fun W (_ : PRow W W.heap.size a xs) => missing45_range size (.slice a n cap) W (by omega))
  have HF := Lib.hid (show wantL size 7 xs = 7 from wantL_ne _ _ _ (by omega))
  have H42 := Lib.hid (fun W => parts42_bad size part W (by unfold rngOk; omega))
  have HX := Lib.hid hx
  have HNL := Lib.hid hn
  have hwt : whenI true 7 = 7 := rfl
  have hwf : whenI false 7 = 0 := rfl
  have hwt8 : whenI true 8 = 8 := rfl
  have hwf8 : whenI false 8 = 0 := rfl
  have hfi : firstI [7, 0] = 7 := rfl
  have hln : n ≤ 9223372036854775807 := by omega
  have hl1 : ¬ (2000 : Int) < (n : Int) := by omega
  have hl2 : whenI (decide ((2000 : Int) < (n : Int))) 8 = 0 := by rw [decide_eq_false hl1]; rfl
  have hs1 : size < 0 ∨ 1048576 < size := by omega
  have HS1 := Lib.hid hs1
  clear hx hn lx hl hs hs1
  go_enter Try.func10, Try.ntmps10
  go_wp2_with fail
  refine (H42.out _).mono ?_
  rintro e w1 ⟨rfl, rfl⟩
  go_wp2_with (first | (go_at_call 17; refine (within17 _ _ _ _).mono ?_; rintro e w' ⟨rfl, rfl⟩) | (go_at_call 16; refine (when16 _ _ _).mono ?_; rintro e w' ⟨rfl, rfl⟩) | fail)
  refine (hauls14 _).mono ?_
  rintro e w4 ⟨rfl, hb4⟩
  have HB4 := Lib.hid hb4
  clear hb4
  have HX4 := Lib.hid (HX.out.step HB4.out)
  go_wp2_with fail
  refine (HM.out _ HX4.out).mono ?_
  rintro e w5 ⟨rfl, hb5⟩
  have HB5 := Lib.hid (below_step HB4.out (Nat.le_refl _) hb5)
  have HX5 := Lib.hid (HX4.out.step hb5)
  clear hb5
  go_wp2_with (first | (go_at_call 17; refine (within17 _ _ _ _).mono ?_; rintro e w' ⟨rfl, rfl⟩) | (go_at_call 16; refine (when16 _ _ _).mono ?_; rintro e w' ⟨rfl, rfl⟩) | fail)
  refine (first15 _ _ [7, 0] _ (w5.heap.size + 1) (Row.lit _ _ _) (by simp [maxLen])).mono ?_
  rintro e w' ⟨rfl, rfl⟩
  have HBl := Lib.hid ((Below.refl w5.heap.size w5).alloc (Nat.le_refl _) (.cells #[.int .i64 7, .int .i64 0] 24))
  have HB6 := Lib.hid (below_step HB5.out (Nat.le_refl _) HBl.out)
  have HX6 := Lib.hid (HX5.out.step HBl.out)
  clear HBl
  go_wp2_with fail
  generalize w5.alloc (.cells #[.int .i64 7, .int .i64 0] 24) = w6 at *
  go_loopw [9, 90] (fun sv kv wr => ∃ (k : Nat) (W : Int), k ≤ n ∧ kv = .int .i64 k ∧ sv = .int .i64 W ∧ Hid (W = wantL size 7 (xs.take k)) ∧ Below w6.heap.size w6 wr) (fun _ kv _ => n - (intOf kv).toNat)
  case atStart => exact ⟨0, 7, by omega, rfl, rfl, by show _ = _; simp [wantL], Below.refl _ _⟩
  case round =>
    obtain ⟨k, W, hk, rfl, rfl, HW, hbel⟩ := hrel
    have HBel := Lib.hid hbel
    have hsz := hbel.size
    clear hbel
    by_cases hlt : k < n
    · have hlx : k < xs.length := by rw [HNL.out]; exact hlt
      obtain ⟨b, off, rfl, hbB, c0, c1⟩ := (HX6.out.below HBel.out) k hlx
      have hbl : b < wr.heap.size := by omega
      have hk1 : (k : Int) < (n : Int) := by omega
      have HN1 := Lib.hid (wantL_take size 7 xs k hlx)
      have HBA := Lib.hid (HBel.out.alloc hsz (.cells #[.int .i64 (xs.getD k (0, 0)).1, .int .i64 (xs.getD k (0, 0)).2] 40))
      clear hlx
      by_cases hbad : badI size (xs.getD k (0, 0))
      · have HY := Lib.hid (badB_yes _ _ hbad)
        have HN2 := Lib.hid (show wantL size 7 (xs.take (k + 1)) = firstI [W, 7] by rw [HN1.out, HY.out, HW.out]; rfl)
        unfold badI at hbad
        generalize (xs.getD k (0, 0)).1 = X at *
        generalize (xs.getD k (0, 0)).2 = Y at *
        obtain ⟨r, hr⟩ : ∃ r, firstI [W, 7] = r := ⟨_, rfl⟩
        rw [hr] at HN2
        by_cases hX : X < 0
        · clear hbad
          go_wp2_with (go_at_call 16; refine (when16 _ _ _).mono ?_; rintro e w' ⟨rfl, rfl⟩)
          refine (first15 _ _ [W, 7] _ (wr.heap.size + 2) (row_lit2 _ _ _ _) (by simp [maxLen])).mono ?_
          rintro e w' ⟨rfl, rfl⟩
          have HBB := Lib.hid (HBA.out.alloc (by simp; omega) (.cells #[.int .i64 W, .int .i64 7] 24))
          go_wp2_with fail
          go_roundw
          case rel => exact ⟨k + 1, r, by omega, by go_num, rfl, HN2.out.symm, HBB.out⟩
          case measure => simp [intOf]; omega
        · have hX0 : 0 ≤ X := by omega
          by_cases hY : Y < X
          · clear hbad
            go_wp2_with (go_at_call 16; refine (when16 _ _ _).mono ?_; rintro e w' ⟨rfl, rfl⟩)
            refine (first15 _ _ [W, 7] _ (wr.heap.size + 2) (row_lit2 _ _ _ _) (by simp [maxLen])).mono ?_
            rintro e w' ⟨rfl, rfl⟩
            have HBB := Lib.hid (HBA.out.alloc (by simp; omega) (.cells #[.int .i64 W, .int .i64 7] 24))
            go_wp2_with fail
            go_roundw
            case rel => exact ⟨k + 1, r, by omega, by go_num, rfl, HN2.out.symm, HBB.out⟩
            case measure => simp [intOf]; omega
          · have hS : size < Y := by omega
            have hXY : X ≤ Y := by omega
            clear hbad
            go_wp2_with (go_at_call 16; refine (when16 _ _ _).mono ?_; rintro e w' ⟨rfl, rfl⟩)
            refine (first15 _ _ [W, 7] _ (wr.heap.size + 2) (row_lit2 _ _ _ _) (by simp [maxLen])).mono ?_
            rintro e w' ⟨rfl, rfl⟩
            have HBB := Lib.hid (HBA.out.alloc (by simp; omega) (.cells #[.int .i64 W, .int .i64 7] 24))
            go_wp2_with fail
            go_roundw
            case rel => exact ⟨k + 1, r, by omega, by go_num, rfl, HN2.out.symm, HBB.out⟩
            case measure => simp [intOf]; omega
      · have HY := Lib.hid (badB_no _ _ hbad)
        have HN2 := Lib.hid (show wantL size 7 (xs.take (k + 1)) = firstI [W, 0] by rw [HN1.out, HY.out, HW.out]; rfl)
        unfold badI at hbad
        generalize (xs.getD k (0, 0)).1 = X at *
        generalize (xs.getD k (0, 0)).2 = Y at *
        obtain ⟨r, hr⟩ : ∃ r, firstI [W, 0] = r := ⟨_, rfl⟩
        rw [hr] at HN2
        obtain ⟨g1, g2, g3⟩ : ¬ X < 0 ∧ ¬ Y < X ∧ ¬ size < Y := by omega
        clear hbad
        go_wp2_with (go_at_call 16; refine (when16 _ _ _).mono ?_; rintro e w' ⟨rfl, rfl⟩)
        refine (first15 _ _ [W, 0] _ (wr.heap.size + 2) (row_lit2 _ _ _ _) (by simp [maxLen])).mono ?_
        rintro e w' ⟨rfl, rfl⟩
        have HBB := Lib.hid (HBA.out.alloc (by simp; omega) (.cells #[.int .i64 W, .int .i64 0] 24))
        go_wp2_with fail
        go_roundw
        case rel => exact ⟨k + 1, r, by omega, by go_num, rfl, HN2.out.symm, HBB.out⟩
        case measure => simp [intOf]; omega
    · obtain rfl : k = n := by omega
      have hd : ¬ (k : Int) < (k : Int) := by omega
      have hW : W = 7 := by rw [HW.out, List.take_of_length_le (by rw [HNL.out]; exact Nat.le_refl _)]; exact HF.out
      subst hW
      have HBW := Lib.hid (below_step HB6.out (Nat.le_refl _) HBel.out)
      go_wp2_with fail
      go_ret
      exact ⟨rfl, HBW.out⟩

set_option maxHeartbeats 4000000 in
set_option maxRecDepth 100000 in
theorem parts_a_RL (size part : Int) (a : Option Addr) (cap n : Nat) (xs : List (Int × Int)) (w : World) (hx : PRow w w.heap.size a xs) (hn : xs.length = n) (lx : xs.length ≤ maxLen) (hs : ¬ (0 ≤ size ∧ size ≤ 1048576)) (hl : 2000 < xs.length) :
    Calls Try.prog 10 #[.int .i64 size, .int .i64 part, .slice a n cap] w (EqB true w) := by
  have hw1 := within_no _ _ _ hs
  unfold maxLen at lx
  have HM := Lib.hid (fun W (_ : PRow W W.heap.size a xs) => missing45_range size (.slice a n cap) W (by omega))
  have HF := Lib.hid (show wantL size 7 xs = 7 from wantL_ne _ _ _ (by omega))
  have H42 := Lib.hid (fun W => parts42_bad size part W (by unfold rngOk; omega))
  have HX := Lib.hid hx
  have HNL := Lib.hid hn
  have hwt : whenI true 7 = 7 := rfl
  have hwf : whenI false 7 = 0 := rfl
  have hwt8 : whenI true 8 = 8 := rfl
  have hwf8 : whenI false 8 = 0 := rfl
  have hfi : firstI [7, 8] = 7 := rfl
  have hln : n ≤ 9223372036854775807 := by omega
  have hl1 : (2000 : Int) < (n : Int) := by omega
  have hl2 : whenI (decide ((2000 : Int) < (n : Int))) 8 = 8 := by rw [decide_eq_true hl1]; rfl
  have hs1 : size < 0 ∨ 1048576 < size := by omega
  have HS1 := Lib.hid hs1
  clear hx hn lx hl hs hs1
  go_enter Try.func10, Try.ntmps10
  go_wp2_with fail
  refine (H42.out _).mono ?_
  rintro e w1 ⟨rfl, rfl⟩
  go_wp2_with (first | (go_at_call 17; refine (within17 _ _ _ _).mono ?_; rintro e w' ⟨rfl, rfl⟩) | (go_at_call 16; refine (when16 _ _ _).mono ?_; rintro e w' ⟨rfl, rfl⟩) | fail)
  refine (hauls14 _).mono ?_
  rintro e w4 ⟨rfl, hb4⟩
  have HB4 := Lib.hid hb4
  clear hb4
  have HX4 := Lib.hid (HX.out.step HB4.out)
  go_wp2_with fail
  refine (HM.out _ HX4.out).mono ?_
  rintro e w5 ⟨rfl, hb5⟩
  have HB5 := Lib.hid (below_step HB4.out (Nat.le_refl _) hb5)
  have HX5 := Lib.hid (HX4.out.step hb5)
  clear hb5
  go_wp2_with (first | (go_at_call 17; refine (within17 _ _ _ _).mono ?_; rintro e w' ⟨rfl, rfl⟩) | (go_at_call 16; refine (when16 _ _ _).mono ?_; rintro e w' ⟨rfl, rfl⟩) | fail)
  refine (first15 _ _ [7, 8] _ (w5.heap.size + 1) (Row.lit _ _ _) (by simp [maxLen])).mono ?_
  rintro e w' ⟨rfl, rfl⟩
  have HBl := Lib.hid ((Below.refl w5.heap.size w5).alloc (Nat.le_refl _) (.cells #[.int .i64 7, .int .i64 8] 24))
  have HB6 := Lib.hid (below_step HB5.out (Nat.le_refl _) HBl.out)
  have HX6 := Lib.hid (HX5.out.step HBl.out)
  clear HBl
  go_wp2_with fail
  generalize w5.alloc (.cells #[.int .i64 7, .int .i64 8] 24) = w6 at *
  go_loopw [9, 90] (fun sv kv wr => ∃ (k : Nat) (W : Int), k ≤ n ∧ kv = .int .i64 k ∧ sv = .int .i64 W ∧ Hid (W = wantL size 7 (xs.take k)) ∧ Below w6.heap.size w6 wr) (fun _ kv _ => n - (intOf kv).toNat)
  case atStart => exact ⟨0, 7, by omega, rfl, rfl, by show _ = _; simp [wantL], Below.refl _ _⟩
  case round =>
    obtain ⟨k, W, hk, rfl, rfl, HW, hbel⟩ := hrel
    have HBel := Lib.hid hbel
    have hsz := hbel.size
    clear hbel
    by_cases hlt : k < n
    · have hlx : k < xs.length := by rw [HNL.out]; exact hlt
      obtain ⟨b, off, rfl, hbB, c0, c1⟩ := (HX6.out.below HBel.out) k hlx
      have hbl : b < wr.heap.size := by omega
      have hk1 : (k : Int) < (n : Int) := by omega
      have HN1 := Lib.hid (wantL_take size 7 xs k hlx)
      have HBA := Lib.hid (HBel.out.alloc hsz (.cells #[.int .i64 (xs.getD k (0, 0)).1, .int .i64 (xs.getD k (0, 0)).2] 40))
      clear hlx
      by_cases hbad : badI size (xs.getD k (0, 0))
      · have HY := Lib.hid (badB_yes _ _ hbad)
        have HN2 := Lib.hid (show wantL size 7 (xs.take (k + 1)) = firstI [W, 7] by rw [HN1.out, HY.out, HW.out]; rfl)
        unfold badI at hbad
        generalize (xs.getD k (0, 0)).1 = X at *
        generalize (xs.getD k (0, 0)).2 = Y at *
        obtain ⟨r, hr⟩ : ∃ r, firstI [W, 7] = r := ⟨_, rfl⟩
        rw [hr] at HN2
        by_cases hX : X < 0
        · clear hbad
          go_wp2_with (go_at_call 16; refine (when16 _ _ _).mono ?_; rintro e w' ⟨rfl, rfl⟩)
          refine (first15 _ _ [W, 7] _ (wr.heap.size + 2) (row_lit2 _ _ _ _) (by simp [maxLen])).mono ?_
          rintro e w' ⟨rfl, rfl⟩
          have HBB := Lib.hid (HBA.out.alloc (by simp; omega) (.cells #[.int .i64 W, .int .i64 7] 24))
          go_wp2_with fail
          go_roundw
          case rel => exact ⟨k + 1, r, by omega, by go_num, rfl, HN2.out.symm, HBB.out⟩
          case measure => simp [intOf]; omega
        · have hX0 : 0 ≤ X := by omega
          by_cases hY : Y < X
          · clear hbad
            go_wp2_with (go_at_call 16; refine (when16 _ _ _).mono ?_; rintro e w' ⟨rfl, rfl⟩)
            refine (first15 _ _ [W, 7] _ (wr.heap.size + 2) (row_lit2 _ _ _ _) (by simp [maxLen])).mono ?_
            rintro e w' ⟨rfl, rfl⟩
            have HBB := Lib.hid (HBA.out.alloc (by simp; omega) (.cells #[.int .i64 W, .int .i64 7] 24))
            go_wp2_with fail
            go_roundw
            case rel => exact ⟨k + 1, r, by omega, by go_num, rfl, HN2.out.symm, HBB.out⟩
            case measure => simp [intOf]; omega
          · have hS : size < Y := by omega
            have hXY : X ≤ Y := by omega
            clear hbad
            go_wp2_with (go_at_call 16; refine (when16 _ _ _).mono ?_; rintro e w' ⟨rfl, rfl⟩)
            refine (first15 _ _ [W, 7] _ (wr.heap.size + 2) (row_lit2 _ _ _ _) (by simp [maxLen])).mono ?_
            rintro e w' ⟨rfl, rfl⟩
            have HBB := Lib.hid (HBA.out.alloc (by simp; omega) (.cells #[.int .i64 W, .int .i64 7] 24))
            go_wp2_with fail
            go_roundw
            case rel => exact ⟨k + 1, r, by omega, by go_num, rfl, HN2.out.symm, HBB.out⟩
            case measure => simp [intOf]; omega
      · have HY := Lib.hid (badB_no _ _ hbad)
        have HN2 := Lib.hid (show wantL size 7 (xs.take (k + 1)) = firstI [W, 0] by rw [HN1.out, HY.out, HW.out]; rfl)
        unfold badI at hbad
        generalize (xs.getD k (0, 0)).1 = X at *
        generalize (xs.getD k (0, 0)).2 = Y at *
        obtain ⟨r, hr⟩ : ∃ r, firstI [W, 0] = r := ⟨_, rfl⟩
        rw [hr] at HN2
        obtain ⟨g1, g2, g3⟩ : ¬ X < 0 ∧ ¬ Y < X ∧ ¬ size < Y := by omega
        clear hbad
        go_wp2_with (go_at_call 16; refine (when16 _ _ _).mono ?_; rintro e w' ⟨rfl, rfl⟩)
        refine (first15 _ _ [W, 0] _ (wr.heap.size + 2) (row_lit2 _ _ _ _) (by simp [maxLen])).mono ?_
        rintro e w' ⟨rfl, rfl⟩
        have HBB := Lib.hid (HBA.out.alloc (by simp; omega) (.cells #[.int .i64 W, .int .i64 0] 24))
        go_wp2_with fail
        go_roundw
        case rel => exact ⟨k + 1, r, by omega, by go_num, rfl, HN2.out.symm, HBB.out⟩
        case measure => simp [intOf]; omega
    · obtain rfl : k = n := by omega
      have hd : ¬ (k : Int) < (k : Int) := by omega
      have hW : W = 7 := by rw [HW.out, List.take_of_length_le (by rw [HNL.out]; exact Nat.le_refl _)]; exact HF.out
      subst hW
      have HBW := Lib.hid (below_step HB6.out (Nat.le_refl _) HBel.out)
      go_wp2_with fail
      go_ret
      exact ⟨rfl, HBW.out⟩

set_option maxHeartbeats 4000000 in
set_option maxRecDepth 100000 in
theorem parts_b_L (size part : Int) (a : Option Addr) (cap n : Nat) (xs : List (Int × Int)) (w : World) (hx : PRow w w.heap.size a xs) (hn : xs.length = n) (lx : xs.length ≤ maxLen) (hs : 0 ≤ size ∧ size ≤ 1048576) (hp : ¬ (1 ≤ part ∧ part ≤ 1048576)) (hl : 2000 < xs.length) :
    Calls Try.prog 10 #[.int .i64 size, .int .i64 part, .slice a n cap] w (EqB true w) := by
  have hw1 := within_yes _ _ _ hs
  have hw2 := within_no _ _ _ hp
  unfold maxLen at lx
  have HM := Lib.hid (fun W (_ : PRow W W.heap.size a xs) => missing45_long size a n cap W hs.1 hs.2 (by omega) (by unfold maxLen; omega))
  have HF := Lib.hid (show wantL size 8 xs = 8 from wantL_ne _ _ _ (by omega))
  have H42 := Lib.hid (fun W => parts42_bad size part W (by unfold rngOk; omega))
  have HX := Lib.hid hx
  have HNL := Lib.hid hn
  have hwt : whenI true 7 = 7 := rfl
  have hwf : whenI false 7 = 0 := rfl
  have hwt8 : whenI true 8 = 8 := rfl
  have hwf8 : whenI false 8 = 0 := rfl
  have hfi : firstI [0, 8] = 8 := rfl
  have hln : n ≤ 9223372036854775807 := by omega
  have hl1 : (2000 : Int) < (n : Int) := by omega
  have hl2 : whenI (decide ((2000 : Int) < (n : Int))) 8 = 8 := by rw [decide_eq_true hl1]; rfl
  obtain ⟨hs0, hs1⟩ := hs
  clear hx hn lx hl hp
  go_enter Try.func10, Try.ntmps10
  go_wp2_with fail
  refine (H42.out _).mono ?_
  rintro e w1 ⟨rfl, rfl⟩
  go_wp2_with (first | (go_at_call 17; refine (within17 _ _ _ _).mono ?_; rintro e w' ⟨rfl, rfl⟩) | (go_at_call 16; refine (when16 _ _ _).mono ?_; rintro e w' ⟨rfl, rfl⟩) | fail)
  refine (hauls14 _).mono ?_
  rintro e w4 ⟨rfl, hb4⟩
  have HB4 := Lib.hid hb4
  clear hb4
  have HX4 := Lib.hid (HX.out.step HB4.out)
  go_wp2_with fail
  refine (HM.out _ HX4.out).mono ?_
  rintro e w5 ⟨rfl, hb5⟩
  have HB5 := Lib.hid (below_step HB4.out (Nat.le_refl _) hb5)
  have HX5 := Lib.hid (HX4.out.step hb5)
  clear hb5
  go_wp2_with (first | (go_at_call 17; refine (within17 _ _ _ _).mono ?_; rintro e w' ⟨rfl, rfl⟩) | (go_at_call 16; refine (when16 _ _ _).mono ?_; rintro e w' ⟨rfl, rfl⟩) | fail)
  refine (first15 _ _ [0, 8] _ (w5.heap.size + 1) (Row.lit _ _ _) (by simp [maxLen])).mono ?_
  rintro e w' ⟨rfl, rfl⟩
  have HBl := Lib.hid ((Below.refl w5.heap.size w5).alloc (Nat.le_refl _) (.cells #[.int .i64 0, .int .i64 8] 24))
  have HB6 := Lib.hid (below_step HB5.out (Nat.le_refl _) HBl.out)
  have HX6 := Lib.hid (HX5.out.step HBl.out)
  clear HBl
  go_wp2_with fail
  generalize w5.alloc (.cells #[.int .i64 0, .int .i64 8] 24) = w6 at *
  go_loopw [9, 90] (fun sv kv wr => ∃ (k : Nat) (W : Int), k ≤ n ∧ kv = .int .i64 k ∧ sv = .int .i64 W ∧ Hid (W = wantL size 8 (xs.take k)) ∧ Below w6.heap.size w6 wr) (fun _ kv _ => n - (intOf kv).toNat)
  case atStart => exact ⟨0, 8, by omega, rfl, rfl, by show _ = _; simp [wantL], Below.refl _ _⟩
  case round =>
    obtain ⟨k, W, hk, rfl, rfl, HW, hbel⟩ := hrel
    have HBel := Lib.hid hbel
    have hsz := hbel.size
    clear hbel
    by_cases hlt : k < n
    · have hlx : k < xs.length := by rw [HNL.out]; exact hlt
      obtain ⟨b, off, rfl, hbB, c0, c1⟩ := (HX6.out.below HBel.out) k hlx
      have hbl : b < wr.heap.size := by omega
      have hk1 : (k : Int) < (n : Int) := by omega
      have HN1 := Lib.hid (wantL_take size 8 xs k hlx)
      have HBA := Lib.hid (HBel.out.alloc hsz (.cells #[.int .i64 (xs.getD k (0, 0)).1, .int .i64 (xs.getD k (0, 0)).2] 40))
      clear hlx
      by_cases hbad : badI size (xs.getD k (0, 0))
      · have HY := Lib.hid (badB_yes _ _ hbad)
        have HN2 := Lib.hid (show wantL size 8 (xs.take (k + 1)) = firstI [W, 7] by rw [HN1.out, HY.out, HW.out]; rfl)
        unfold badI at hbad
        generalize (xs.getD k (0, 0)).1 = X at *
        generalize (xs.getD k (0, 0)).2 = Y at *
        obtain ⟨r, hr⟩ : ∃ r, firstI [W, 7] = r := ⟨_, rfl⟩
        rw [hr] at HN2
        by_cases hX : X < 0
        · clear hbad
          go_wp2_with (go_at_call 16; refine (when16 _ _ _).mono ?_; rintro e w' ⟨rfl, rfl⟩)
          refine (first15 _ _ [W, 7] _ (wr.heap.size + 2) (row_lit2 _ _ _ _) (by simp [maxLen])).mono ?_
          rintro e w' ⟨rfl, rfl⟩
          have HBB := Lib.hid (HBA.out.alloc (by simp; omega) (.cells #[.int .i64 W, .int .i64 7] 24))
          go_wp2_with fail
          go_roundw
          case rel => exact ⟨k + 1, r, by omega, by go_num, rfl, HN2.out.symm, HBB.out⟩
          case measure => simp [intOf]; omega
        · have hX0 : 0 ≤ X := by omega
          by_cases hY : Y < X
          · clear hbad
            go_wp2_with (go_at_call 16; refine (when16 _ _ _).mono ?_; rintro e w' ⟨rfl, rfl⟩)
            refine (first15 _ _ [W, 7] _ (wr.heap.size + 2) (row_lit2 _ _ _ _) (by simp [maxLen])).mono ?_
            rintro e w' ⟨rfl, rfl⟩
            have HBB := Lib.hid (HBA.out.alloc (by simp; omega) (.cells #[.int .i64 W, .int .i64 7] 24))
            go_wp2_with fail
            go_roundw
            case rel => exact ⟨k + 1, r, by omega, by go_num, rfl, HN2.out.symm, HBB.out⟩
            case measure => simp [intOf]; omega
          · have hS : size < Y := by omega
            have hXY : X ≤ Y := by omega
            clear hbad
            go_wp2_with (go_at_call 16; refine (when16 _ _ _).mono ?_; rintro e w' ⟨rfl, rfl⟩)
            refine (first15 _ _ [W, 7] _ (wr.heap.size + 2) (row_lit2 _ _ _ _) (by simp [maxLen])).mono ?_
            rintro e w' ⟨rfl, rfl⟩
            have HBB := Lib.hid (HBA.out.alloc (by simp; omega) (.cells #[.int .i64 W, .int .i64 7] 24))
            go_wp2_with fail
            go_roundw
            case rel => exact ⟨k + 1, r, by omega, by go_num, rfl, HN2.out.symm, HBB.out⟩
            case measure => simp [intOf]; omega
      · have HY := Lib.hid (badB_no _ _ hbad)
        have HN2 := Lib.hid (show wantL size 8 (xs.take (k + 1)) = firstI [W, 0] by rw [HN1.out, HY.out, HW.out]; rfl)
        unfold badI at hbad
        generalize (xs.getD k (0, 0)).1 = X at *
        generalize (xs.getD k (0, 0)).2 = Y at *
        obtain ⟨r, hr⟩ : ∃ r, firstI [W, 0] = r := ⟨_, rfl⟩
        rw [hr] at HN2
        obtain ⟨g1, g2, g3⟩ : ¬ X < 0 ∧ ¬ Y < X ∧ ¬ size < Y := by omega
        clear hbad
        go_wp2_with (go_at_call 16; refine (when16 _ _ _).mono ?_; rintro e w' ⟨rfl, rfl⟩)
        refine (first15 _ _ [W, 0] _ (wr.heap.size + 2) (row_lit2 _ _ _ _) (by simp [maxLen])).mono ?_
        rintro e w' ⟨rfl, rfl⟩
        have HBB := Lib.hid (HBA.out.alloc (by simp; omega) (.cells #[.int .i64 W, .int .i64 0] 24))
        go_wp2_with fail
        go_roundw
        case rel => exact ⟨k + 1, r, by omega, by go_num, rfl, HN2.out.symm, HBB.out⟩
        case measure => simp [intOf]; omega
    · obtain rfl : k = n := by omega
      have hd : ¬ (k : Int) < (k : Int) := by omega
      have hW : W = 8 := by rw [HW.out, List.take_of_length_le (by rw [HNL.out]; exact Nat.le_refl _)]; exact HF.out
      subst hW
      have HBW := Lib.hid (below_step HB6.out (Nat.le_refl _) HBel.out)
      go_wp2_with fail
      go_ret
      exact ⟨rfl, HBW.out⟩

set_option maxHeartbeats 4000000 in
set_option maxRecDepth 100000 in
theorem parts_b_B (size part : Int) (a : Option Addr) (cap n : Nat) (xs : List (Int × Int)) (w : World) (hx : PRow w w.heap.size a xs) (hn : xs.length = n) (lx : xs.length ≤ maxLen) (hs : 0 ≤ size ∧ size ≤ 1048576) (hp : ¬ (1 ≤ part ∧ part ≤ 1048576)) (hl : xs.length ≤ 2000) (hbd : ∃ i, i < xs.length ∧ badI size (xs.getD i (0, 0))) :
    Calls Try.prog 10 #[.int .i64 size, .int .i64 part, .slice a n cap] w (EqB true w) := by
  have hw1 := within_yes _ _ _ hs
  have hw2 := within_no _ _ _ hp
  unfold maxLen at lx
  have HM := Lib.hid (fun W (hxw : PRow W W.heap.size a xs) => (hn ▸ missing45_bad size a cap xs W hxw hs.1 hs.2 hl hbd : Calls Try.prog 45 #[.int .i64 size, .slice a n cap] W _))
  have HF := Lib.hid (show wantL size 0 xs = 7 from wantL_bad _ _ hbd)
  have H42 := Lib.hid (fun W => parts42_bad size part W (by unfold rngOk; omega))
  have HX := Lib.hid hx
  have HNL := Lib.hid hn
  have hwt : whenI true 7 = 7 := rfl
  have hwf : whenI false 7 = 0 := rfl
  have hwt8 : whenI true 8 = 8 := rfl
  have hwf8 : whenI false 8 = 0 := rfl
  have hfi : firstI [0, 0] = 0 := rfl
  have hln : n ≤ 9223372036854775807 := by omega
  have hl1 : ¬ (2000 : Int) < (n : Int) := by omega
  have hl2 : whenI (decide ((2000 : Int) < (n : Int))) 8 = 0 := by rw [decide_eq_false hl1]; rfl
  obtain ⟨hs0, hs1⟩ := hs
  clear hx hn lx hl hp hbd
  go_enter Try.func10, Try.ntmps10
  go_wp2_with fail
  refine (H42.out _).mono ?_
  rintro e w1 ⟨rfl, rfl⟩
  go_wp2_with (first | (go_at_call 17; refine (within17 _ _ _ _).mono ?_; rintro e w' ⟨rfl, rfl⟩) | (go_at_call 16; refine (when16 _ _ _).mono ?_; rintro e w' ⟨rfl, rfl⟩) | fail)
  refine (hauls14 _).mono ?_
  rintro e w4 ⟨rfl, hb4⟩
  have HB4 := Lib.hid hb4
  clear hb4
  have HX4 := Lib.hid (HX.out.step HB4.out)
  go_wp2_with fail
  refine (HM.out _ HX4.out).mono ?_
  rintro e w5 ⟨rfl, hb5⟩
  have HB5 := Lib.hid (below_step HB4.out (Nat.le_refl _) hb5)
  have HX5 := Lib.hid (HX4.out.step hb5)
  clear hb5
  go_wp2_with (first | (go_at_call 17; refine (within17 _ _ _ _).mono ?_; rintro e w' ⟨rfl, rfl⟩) | (go_at_call 16; refine (when16 _ _ _).mono ?_; rintro e w' ⟨rfl, rfl⟩) | fail)
  refine (first15 _ _ [0, 0] _ (w5.heap.size + 1) (Row.lit _ _ _) (by simp [maxLen])).mono ?_
  rintro e w' ⟨rfl, rfl⟩
  have HBl := Lib.hid ((Below.refl w5.heap.size w5).alloc (Nat.le_refl _) (.cells #[.int .i64 0, .int .i64 0] 24))
  have HB6 := Lib.hid (below_step HB5.out (Nat.le_refl _) HBl.out)
  have HX6 := Lib.hid (HX5.out.step HBl.out)
  clear HBl
  go_wp2_with fail
  generalize w5.alloc (.cells #[.int .i64 0, .int .i64 0] 24) = w6 at *
  go_loopw [9, 90] (fun sv kv wr => ∃ (k : Nat) (W : Int), k ≤ n ∧ kv = .int .i64 k ∧ sv = .int .i64 W ∧ Hid (W = wantL size 0 (xs.take k)) ∧ Below w6.heap.size w6 wr) (fun _ kv _ => n - (intOf kv).toNat)
  case atStart => exact ⟨0, 0, by omega, rfl, rfl, by show _ = _; simp [wantL], Below.refl _ _⟩
  case round =>
    obtain ⟨k, W, hk, rfl, rfl, HW, hbel⟩ := hrel
    have HBel := Lib.hid hbel
    have hsz := hbel.size
    clear hbel
    by_cases hlt : k < n
    · have hlx : k < xs.length := by rw [HNL.out]; exact hlt
      obtain ⟨b, off, rfl, hbB, c0, c1⟩ := (HX6.out.below HBel.out) k hlx
      have hbl : b < wr.heap.size := by omega
      have hk1 : (k : Int) < (n : Int) := by omega
      have HN1 := Lib.hid (wantL_take size 0 xs k hlx)
      have HBA := Lib.hid (HBel.out.alloc hsz (.cells #[.int .i64 (xs.getD k (0, 0)).1, .int .i64 (xs.getD k (0, 0)).2] 40))
      clear hlx
      by_cases hbad : badI size (xs.getD k (0, 0))
      · have HY := Lib.hid (badB_yes _ _ hbad)
        have HN2 := Lib.hid (show wantL size 0 (xs.take (k + 1)) = firstI [W, 7] by rw [HN1.out, HY.out, HW.out]; rfl)
        unfold badI at hbad
        generalize (xs.getD k (0, 0)).1 = X at *
        generalize (xs.getD k (0, 0)).2 = Y at *
        obtain ⟨r, hr⟩ : ∃ r, firstI [W, 7] = r := ⟨_, rfl⟩
        rw [hr] at HN2
        by_cases hX : X < 0
        · clear hbad
          go_wp2_with (go_at_call 16; refine (when16 _ _ _).mono ?_; rintro e w' ⟨rfl, rfl⟩)
          refine (first15 _ _ [W, 7] _ (wr.heap.size + 2) (row_lit2 _ _ _ _) (by simp [maxLen])).mono ?_
          rintro e w' ⟨rfl, rfl⟩
          have HBB := Lib.hid (HBA.out.alloc (by simp; omega) (.cells #[.int .i64 W, .int .i64 7] 24))
          go_wp2_with fail
          go_roundw
          case rel => exact ⟨k + 1, r, by omega, by go_num, rfl, HN2.out.symm, HBB.out⟩
          case measure => simp [intOf]; omega
        · have hX0 : 0 ≤ X := by omega
          by_cases hY : Y < X
          · clear hbad
            go_wp2_with (go_at_call 16; refine (when16 _ _ _).mono ?_; rintro e w' ⟨rfl, rfl⟩)
            refine (first15 _ _ [W, 7] _ (wr.heap.size + 2) (row_lit2 _ _ _ _) (by simp [maxLen])).mono ?_
            rintro e w' ⟨rfl, rfl⟩
            have HBB := Lib.hid (HBA.out.alloc (by simp; omega) (.cells #[.int .i64 W, .int .i64 7] 24))
            go_wp2_with fail
            go_roundw
            case rel => exact ⟨k + 1, r, by omega, by go_num, rfl, HN2.out.symm, HBB.out⟩
            case measure => simp [intOf]; omega
          · have hS : size < Y := by omega
            have hXY : X ≤ Y := by omega
            clear hbad
            go_wp2_with (go_at_call 16; refine (when16 _ _ _).mono ?_; rintro e w' ⟨rfl, rfl⟩)
            refine (first15 _ _ [W, 7] _ (wr.heap.size + 2) (row_lit2 _ _ _ _) (by simp [maxLen])).mono ?_
            rintro e w' ⟨rfl, rfl⟩
            have HBB := Lib.hid (HBA.out.alloc (by simp; omega) (.cells #[.int .i64 W, .int .i64 7] 24))
            go_wp2_with fail
            go_roundw
            case rel => exact ⟨k + 1, r, by omega, by go_num, rfl, HN2.out.symm, HBB.out⟩
            case measure => simp [intOf]; omega
      · have HY := Lib.hid (badB_no _ _ hbad)
        have HN2 := Lib.hid (show wantL size 0 (xs.take (k + 1)) = firstI [W, 0] by rw [HN1.out, HY.out, HW.out]; rfl)
        unfold badI at hbad
        generalize (xs.getD k (0, 0)).1 = X at *
        generalize (xs.getD k (0, 0)).2 = Y at *
        obtain ⟨r, hr⟩ : ∃ r, firstI [W, 0] = r := ⟨_, rfl⟩
        rw [hr] at HN2
        obtain ⟨g1, g2, g3⟩ : ¬ X < 0 ∧ ¬ Y < X ∧ ¬ size < Y := by omega
        clear hbad
        go_wp2_with (go_at_call 16; refine (when16 _ _ _).mono ?_; rintro e w' ⟨rfl, rfl⟩)
        refine (first15 _ _ [W, 0] _ (wr.heap.size + 2) (row_lit2 _ _ _ _) (by simp [maxLen])).mono ?_
        rintro e w' ⟨rfl, rfl⟩
        have HBB := Lib.hid (HBA.out.alloc (by simp; omega) (.cells #[.int .i64 W, .int .i64 0] 24))
        go_wp2_with fail
        go_roundw
        case rel => exact ⟨k + 1, r, by omega, by go_num, rfl, HN2.out.symm, HBB.out⟩
        case measure => simp [intOf]; omega
    · obtain rfl : k = n := by omega
      have hd : ¬ (k : Int) < (k : Int) := by omega
      have hW : W = 7 := by rw [HW.out, List.take_of_length_le (by rw [HNL.out]; exact Nat.le_refl _)]; exact HF.out
      subst hW
      have HBW := Lib.hid (below_step HB6.out (Nat.le_refl _) HBel.out)
      go_wp2_with fail
      go_ret
      exact ⟨rfl, HBW.out⟩

set_option maxHeartbeats 4000000 in
set_option maxRecDepth 100000 in
theorem parts_b_G (size part : Int) (a : Option Addr) (cap n : Nat) (xs : List (Int × Int)) (w : World) (hx : PRow w w.heap.size a xs) (hn : xs.length = n) (lx : xs.length ≤ maxLen) (hs : 0 ≤ size ∧ size ≤ 1048576) (hp : ¬ (1 ≤ part ∧ part ≤ 1048576)) (hl : xs.length ≤ 2000) (hgd : ∀ i, i < xs.length → ¬ badI size (xs.getD i (0, 0))) :
    Calls Try.prog 10 #[.int .i64 size, .int .i64 part, .slice a n cap] w (EqB true w) := by
  have hw1 := within_yes _ _ _ hs
  have hw2 := within_no _ _ _ hp
  unfold maxLen at lx
  obtain ⟨sz, rfl⟩ : ∃ sz : Nat, size = sz := ⟨size.toNat, by omega⟩
  obtain ⟨ns, hxe, hns⟩ := natP sz xs hgd
  have hnl : ns.length = n := by rw [← hn, hxe]; simp
  have HM := Lib.hid (fun W (hxw : PRow W W.heap.size a xs) => (hnl ▸ missing45_ok sz a cap ns W (hxe ▸ hxw) (by omega) (by omega) hns : Calls Try.prog 45 #[.int .i64 (sz : Int), .slice a n cap] W (MissPost ((rest (covers ns) sz).map castP) W)))
  have HRS := Lib.hid (fun W (hxw : PRow W W.heap.size a xs) (h3 : sz ≤ 3000) => (hnl ▸ rest46 sz a cap ns W (hxe ▸ hxw) h3 (by omega) : Calls Try.prog 46 #[.int .i64 (sz : Int), .slice a n cap] W (RestPost ((rest (covers ns) sz).map castP) W)))
  have HLL := Lib.hid (show ((rest (covers ns) sz).map castP).length ≤ 1048576 by rw [castP_len]; have := rest_len (covers ns) sz; omega)
  have HF := Lib.hid (show wantL (sz : Int) 0 xs = 0 from wantL_good _ _ hgd)
  have H42 := Lib.hid (fun W => parts42_bad (sz : Int) part W (by unfold rngOk; omega))
  have HX := Lib.hid hx
  have HNL := Lib.hid hn
  have HNS := Lib.hid hnl
  have HXE := Lib.hid hxe
  have hwt : whenI true 7 = 7 := rfl
  have hwf : whenI false 7 = 0 := rfl
  have hwt8 : whenI true 8 = 8 := rfl
  have hwf8 : whenI false 8 = 0 := rfl
  have hfi : firstI [0, 0] = 0 := rfl
  have hln : n ≤ 9223372036854775807 := by omega
  have hl1 : ¬ (2000 : Int) < (n : Int) := by omega
  have hl2 : whenI (decide ((2000 : Int) < (n : Int))) 8 = 0 := by rw [decide_eq_false hl1]; rfl
  obtain ⟨hs0, hs1⟩ := hs
  clear hx hn lx hl hp hgd hns hnl hxe
  go_enter Try.func10, Try.ntmps10
  go_wp2_with fail
  refine (H42.out _).mono ?_
  rintro e w1 ⟨rfl, rfl⟩
  go_wp2_with (first | (go_at_call 17; refine (within17 _ _ _ _).mono ?_; rintro e w' ⟨rfl, rfl⟩) | (go_at_call 16; refine (when16 _ _ _).mono ?_; rintro e w' ⟨rfl, rfl⟩) | fail)
  refine (hauls14 _).mono ?_
  rintro e w4 ⟨rfl, hb4⟩
  have HB4 := Lib.hid hb4
  clear hb4
  have HX4 := Lib.hid (HX.out.step HB4.out)
  go_wp2_with fail
  refine (HM.out _ HX4.out).mono ?_
  rintro e w5 ⟨ma, mc, rfl, hmr, hb5⟩
  have HMR := Lib.hid hmr
  clear hmr
  generalize (rest (covers ns) sz).map castP = ML at *
  have hml := HLL.out
  have HB5 := Lib.hid (below_step HB4.out (Nat.le_refl _) hb5)
  have HX5 := Lib.hid (HX4.out.step hb5)
  clear hb5
  go_wp2_with (first | (go_at_call 17; refine (within17 _ _ _ _).mono ?_; rintro e w' ⟨rfl, rfl⟩) | (go_at_call 16; refine (when16 _ _ _).mono ?_; rintro e w' ⟨rfl, rfl⟩) | fail)
  refine (first15 _ _ [0, 0] _ (w5.heap.size + 1) (Row.lit _ _ _) (by simp [maxLen])).mono ?_
  rintro e w' ⟨rfl, rfl⟩
  have HBl := Lib.hid ((Below.refl w5.heap.size w5).alloc (Nat.le_refl _) (.cells #[.int .i64 0, .int .i64 0] 24))
  have HB6 := Lib.hid (below_step HB5.out (Nat.le_refl _) HBl.out)
  have HX6 := Lib.hid (HX5.out.step HBl.out)
  have HMR6 := Lib.hid (HMR.out.step HBl.out)
  clear HBl
  go_wp2_with fail
  generalize w5.alloc (.cells #[.int .i64 0, .int .i64 0] 24) = w6 at *
  go_loopw [9, 90] (fun sv kv wr => ∃ (k : Nat) (W : Int), k ≤ n ∧ kv = .int .i64 k ∧ sv = .int .i64 W ∧ Hid (W = wantL (sz : Int) 0 (xs.take k)) ∧ Below w6.heap.size w6 wr) (fun _ kv _ => n - (intOf kv).toNat)
  case atStart => exact ⟨0, 0, by omega, rfl, rfl, by show _ = _; simp [wantL], Below.refl _ _⟩
  case round =>
    obtain ⟨k, W, hk, rfl, rfl, HW, hbel⟩ := hrel
    have HBel := Lib.hid hbel
    have hsz := hbel.size
    clear hbel
    by_cases hlt : k < n
    · have hlx : k < xs.length := by rw [HNL.out]; exact hlt
      obtain ⟨b, off, rfl, hbB, c0, c1⟩ := (HX6.out.below HBel.out) k hlx
      have hbl : b < wr.heap.size := by omega
      have hk1 : (k : Int) < (n : Int) := by omega
      have HN1 := Lib.hid (wantL_take (sz : Int) 0 xs k hlx)
      have HBA := Lib.hid (HBel.out.alloc hsz (.cells #[.int .i64 (xs.getD k (0, 0)).1, .int .i64 (xs.getD k (0, 0)).2] 40))
      clear hlx
      by_cases hbad : badI (sz : Int) (xs.getD k (0, 0))
      · have HY := Lib.hid (badB_yes _ _ hbad)
        have HN2 := Lib.hid (show wantL (sz : Int) 0 (xs.take (k + 1)) = firstI [W, 7] by rw [HN1.out, HY.out, HW.out]; rfl)
        unfold badI at hbad
        generalize (xs.getD k (0, 0)).1 = X at *
        generalize (xs.getD k (0, 0)).2 = Y at *
        obtain ⟨r, hr⟩ : ∃ r, firstI [W, 7] = r := ⟨_, rfl⟩
        rw [hr] at HN2
        by_cases hX : X < 0
        · clear hbad
          go_wp2_with (go_at_call 16; refine (when16 _ _ _).mono ?_; rintro e w' ⟨rfl, rfl⟩)
          refine (first15 _ _ [W, 7] _ (wr.heap.size + 2) (row_lit2 _ _ _ _) (by simp [maxLen])).mono ?_
          rintro e w' ⟨rfl, rfl⟩
          have HBB := Lib.hid (HBA.out.alloc (by simp; omega) (.cells #[.int .i64 W, .int .i64 7] 24))
          go_wp2_with fail
          go_roundw
          case rel => exact ⟨k + 1, r, by omega, by go_num, rfl, HN2.out.symm, HBB.out⟩
          case measure => simp [intOf]; omega
        · have hX0 : 0 ≤ X := by omega
          by_cases hY : Y < X
          · clear hbad
            go_wp2_with (go_at_call 16; refine (when16 _ _ _).mono ?_; rintro e w' ⟨rfl, rfl⟩)
            refine (first15 _ _ [W, 7] _ (wr.heap.size + 2) (row_lit2 _ _ _ _) (by simp [maxLen])).mono ?_
            rintro e w' ⟨rfl, rfl⟩
            have HBB := Lib.hid (HBA.out.alloc (by simp; omega) (.cells #[.int .i64 W, .int .i64 7] 24))
            go_wp2_with fail
            go_roundw
            case rel => exact ⟨k + 1, r, by omega, by go_num, rfl, HN2.out.symm, HBB.out⟩
            case measure => simp [intOf]; omega
          · have hS : (sz : Int) < Y := by omega
            have hXY : X ≤ Y := by omega
            clear hbad
            go_wp2_with (go_at_call 16; refine (when16 _ _ _).mono ?_; rintro e w' ⟨rfl, rfl⟩)
            refine (first15 _ _ [W, 7] _ (wr.heap.size + 2) (row_lit2 _ _ _ _) (by simp [maxLen])).mono ?_
            rintro e w' ⟨rfl, rfl⟩
            have HBB := Lib.hid (HBA.out.alloc (by simp; omega) (.cells #[.int .i64 W, .int .i64 7] 24))
            go_wp2_with fail
            go_roundw
            case rel => exact ⟨k + 1, r, by omega, by go_num, rfl, HN2.out.symm, HBB.out⟩
            case measure => simp [intOf]; omega
      · have HY := Lib.hid (badB_no _ _ hbad)
        have HN2 := Lib.hid (show wantL (sz : Int) 0 (xs.take (k + 1)) = firstI [W, 0] by rw [HN1.out, HY.out, HW.out]; rfl)
        unfold badI at hbad
        generalize (xs.getD k (0, 0)).1 = X at *
        generalize (xs.getD k (0, 0)).2 = Y at *
        obtain ⟨r, hr⟩ : ∃ r, firstI [W, 0] = r := ⟨_, rfl⟩
        rw [hr] at HN2
        obtain ⟨g1, g2, g3⟩ : ¬ X < 0 ∧ ¬ Y < X ∧ ¬ (sz : Int) < Y := by omega
        clear hbad
        go_wp2_with (go_at_call 16; refine (when16 _ _ _).mono ?_; rintro e w' ⟨rfl, rfl⟩)
        refine (first15 _ _ [W, 0] _ (wr.heap.size + 2) (row_lit2 _ _ _ _) (by simp [maxLen])).mono ?_
        rintro e w' ⟨rfl, rfl⟩
        have HBB := Lib.hid (HBA.out.alloc (by simp; omega) (.cells #[.int .i64 W, .int .i64 0] 24))
        go_wp2_with fail
        go_roundw
        case rel => exact ⟨k + 1, r, by omega, by go_num, rfl, HN2.out.symm, HBB.out⟩
        case measure => simp [intOf]; omega
    · obtain rfl : k = n := by omega
      have hd : ¬ (k : Int) < (k : Int) := by omega
      have hW : W = 0 := by rw [HW.out, List.take_of_length_le (by rw [HNL.out]; exact Nat.le_refl _)]; exact HF.out
      subst hW
      have HBW := Lib.hid (below_step HB6.out (Nat.le_refl _) HBel.out)
      have HX7 := Lib.hid (HX6.out.step HBel.out)
      have HM7 := Lib.hid (HMR6.out.step HBel.out)
      by_cases h3 : (3000 : Int) < (sz : Int)
      · go_wp2_with fail
        go_ret
        exact ⟨rfl, HBW.out⟩
      · have h3' : sz ≤ 3000 := by omega
        go_wp2_with fail
        refine (HRS.out _ HX7.out h3').mono ?_
        rintro e w8 ⟨ra, rc, rfl, hrr, hb8⟩
        have HE2 := Lib.hid (equal43 ma ra mc rc ML ML w8 (HM7.out.step hb8) hrr (by unfold maxLen; omega) (by unfold maxLen; omega))
        have HB8 := Lib.hid (below_step HBW.out (Nat.le_refl _) hb8)
        clear hrr hb8
        go_wp2_with fail
        refine HE2.out.mono ?_
        rintro e w9 ⟨rfl, hb9⟩
        have HB9 := Lib.hid (below_step HB8.out (Nat.le_refl _) hb9)
        have hdt : decide (ML = ML) = true := by simp
        clear hb9
        go_wp2_with fail
        go_ret
        exact ⟨by simp, HB9.out⟩

set_option maxHeartbeats 4000000 in
set_option maxRecDepth 100000 in
theorem parts_c_L (size part : Int) (a : Option Addr) (cap n : Nat) (xs : List (Int × Int)) (w : World) (hx : PRow w w.heap.size a xs) (hn : xs.length = n) (lx : xs.length ≤ maxLen) (hs : 0 ≤ size ∧ size ≤ 1048576) (hp : 1 ≤ part ∧ part ≤ 1048576) (hq : 1000 < (size + part - 1) / part) (hl : 2000 < xs.length) :
    Calls Try.prog 10 #[.int .i64 size, .int .i64 part, .slice a n cap] w (EqB true w) := by
  have hw1 := within_yes _ _ _ hs
  have hw2 := within_yes _ _ _ hp
  unfold maxLen at lx
  have HM := Lib.hid (fun W (_ : PRow W W.heap.size a xs) => missing45_long size a n cap W hs.1 hs.2 (by omega) (by unfold maxLen; omega))
  have HF := Lib.hid (show wantL size 8 xs = 8 from wantL_ne _ _ _ (by omega))
  have H42 := Lib.hid (fun W => parts42_large size part W ⟨hs.1, hs.2, hp.1, hp.2⟩ hq)
  have hqb := quo_bd size part ⟨hs.1, hs.2, hp.1, hp.2⟩
  have HX := Lib.hid hx
  have HNL := Lib.hid hn
  have hwt : whenI true 7 = 7 := rfl
  have hwf : whenI false 7 = 0 := rfl
  have hwt8 : whenI true 8 = 8 := rfl
  have hwf8 : whenI false 8 = 0 := rfl
  have hfi : firstI [0, 8] = 8 := rfl
  have hln : n ≤ 9223372036854775807 := by omega
  have hl1 : (2000 : Int) < (n : Int) := by omega
  have hl2 : whenI (decide ((2000 : Int) < (n : Int))) 8 = 8 := by rw [decide_eq_true hl1]; rfl
  obtain ⟨hs0, hs1⟩ := hs
  obtain ⟨hp0, hp1⟩ := hp
  clear hx hn lx hl
  go_enter Try.func10, Try.ntmps10
  go_wp2_with fail
  refine (H42.out _).mono ?_
  rintro e w1 ⟨rfl, rfl⟩
  go_wp2_with (first | (go_at_call 17; refine (within17 _ _ _ _).mono ?_; rintro e w' ⟨rfl, rfl⟩) | (go_at_call 16; refine (when16 _ _ _).mono ?_; rintro e w' ⟨rfl, rfl⟩) | fail)
  refine (hauls14 _).mono ?_
  rintro e w4 ⟨rfl, hb4⟩
  have HB4 := Lib.hid hb4
  clear hb4
  have HX4 := Lib.hid (HX.out.step HB4.out)
  go_wp2_with fail
  refine (HM.out _ HX4.out).mono ?_
  rintro e w5 ⟨rfl, hb5⟩
  have HB5 := Lib.hid (below_step HB4.out (Nat.le_refl _) hb5)
  have HX5 := Lib.hid (HX4.out.step hb5)
  clear hb5
  go_wp2_with (first | (go_at_call 17; refine (within17 _ _ _ _).mono ?_; rintro e w' ⟨rfl, rfl⟩) | (go_at_call 16; refine (when16 _ _ _).mono ?_; rintro e w' ⟨rfl, rfl⟩) | fail)
  refine (first15 _ _ [0, 8] _ (w5.heap.size + 1) (Row.lit _ _ _) (by simp [maxLen])).mono ?_
  rintro e w' ⟨rfl, rfl⟩
  have HBl := Lib.hid ((Below.refl w5.heap.size w5).alloc (Nat.le_refl _) (.cells #[.int .i64 0, .int .i64 8] 24))
  have HB6 := Lib.hid (below_step HB5.out (Nat.le_refl _) HBl.out)
  have HX6 := Lib.hid (HX5.out.step HBl.out)
  clear HBl
  go_wp2_with fail
  generalize w5.alloc (.cells #[.int .i64 0, .int .i64 8] 24) = w6 at *
  go_loopw [9, 90] (fun sv kv wr => ∃ (k : Nat) (W : Int), k ≤ n ∧ kv = .int .i64 k ∧ sv = .int .i64 W ∧ Hid (W = wantL size 8 (xs.take k)) ∧ Below w6.heap.size w6 wr) (fun _ kv _ => n - (intOf kv).toNat)
  case atStart => exact ⟨0, 8, by omega, rfl, rfl, by show _ = _; simp [wantL], Below.refl _ _⟩
  case round =>
    obtain ⟨k, W, hk, rfl, rfl, HW, hbel⟩ := hrel
    have HBel := Lib.hid hbel
    have hsz := hbel.size
    clear hbel
    by_cases hlt : k < n
    · have hlx : k < xs.length := by rw [HNL.out]; exact hlt
      obtain ⟨b, off, rfl, hbB, c0, c1⟩ := (HX6.out.below HBel.out) k hlx
      have hbl : b < wr.heap.size := by omega
      have hk1 : (k : Int) < (n : Int) := by omega
      have HN1 := Lib.hid (wantL_take size 8 xs k hlx)
      have HBA := Lib.hid (HBel.out.alloc hsz (.cells #[.int .i64 (xs.getD k (0, 0)).1, .int .i64 (xs.getD k (0, 0)).2] 40))
      clear hlx
      by_cases hbad : badI size (xs.getD k (0, 0))
      · have HY := Lib.hid (badB_yes _ _ hbad)
        have HN2 := Lib.hid (show wantL size 8 (xs.take (k + 1)) = firstI [W, 7] by rw [HN1.out, HY.out, HW.out]; rfl)
        unfold badI at hbad
        generalize (xs.getD k (0, 0)).1 = X at *
        generalize (xs.getD k (0, 0)).2 = Y at *
        obtain ⟨r, hr⟩ : ∃ r, firstI [W, 7] = r := ⟨_, rfl⟩
        rw [hr] at HN2
        by_cases hX : X < 0
        · clear hbad
          go_wp2_with (go_at_call 16; refine (when16 _ _ _).mono ?_; rintro e w' ⟨rfl, rfl⟩)
          refine (first15 _ _ [W, 7] _ (wr.heap.size + 2) (row_lit2 _ _ _ _) (by simp [maxLen])).mono ?_
          rintro e w' ⟨rfl, rfl⟩
          have HBB := Lib.hid (HBA.out.alloc (by simp; omega) (.cells #[.int .i64 W, .int .i64 7] 24))
          go_wp2_with fail
          go_roundw
          case rel => exact ⟨k + 1, r, by omega, by go_num, rfl, HN2.out.symm, HBB.out⟩
          case measure => simp [intOf]; omega
        · have hX0 : 0 ≤ X := by omega
          by_cases hY : Y < X
          · clear hbad
            go_wp2_with (go_at_call 16; refine (when16 _ _ _).mono ?_; rintro e w' ⟨rfl, rfl⟩)
            refine (first15 _ _ [W, 7] _ (wr.heap.size + 2) (row_lit2 _ _ _ _) (by simp [maxLen])).mono ?_
            rintro e w' ⟨rfl, rfl⟩
            have HBB := Lib.hid (HBA.out.alloc (by simp; omega) (.cells #[.int .i64 W, .int .i64 7] 24))
            go_wp2_with fail
            go_roundw
            case rel => exact ⟨k + 1, r, by omega, by go_num, rfl, HN2.out.symm, HBB.out⟩
            case measure => simp [intOf]; omega
          · have hS : size < Y := by omega
            have hXY : X ≤ Y := by omega
            clear hbad
            go_wp2_with (go_at_call 16; refine (when16 _ _ _).mono ?_; rintro e w' ⟨rfl, rfl⟩)
            refine (first15 _ _ [W, 7] _ (wr.heap.size + 2) (row_lit2 _ _ _ _) (by simp [maxLen])).mono ?_
            rintro e w' ⟨rfl, rfl⟩
            have HBB := Lib.hid (HBA.out.alloc (by simp; omega) (.cells #[.int .i64 W, .int .i64 7] 24))
            go_wp2_with fail
            go_roundw
            case rel => exact ⟨k + 1, r, by omega, by go_num, rfl, HN2.out.symm, HBB.out⟩
            case measure => simp [intOf]; omega
      · have HY := Lib.hid (badB_no _ _ hbad)
        have HN2 := Lib.hid (show wantL size 8 (xs.take (k + 1)) = firstI [W, 0] by rw [HN1.out, HY.out, HW.out]; rfl)
        unfold badI at hbad
        generalize (xs.getD k (0, 0)).1 = X at *
        generalize (xs.getD k (0, 0)).2 = Y at *
        obtain ⟨r, hr⟩ : ∃ r, firstI [W, 0] = r := ⟨_, rfl⟩
        rw [hr] at HN2
        obtain ⟨g1, g2, g3⟩ : ¬ X < 0 ∧ ¬ Y < X ∧ ¬ size < Y := by omega
        clear hbad
        go_wp2_with (go_at_call 16; refine (when16 _ _ _).mono ?_; rintro e w' ⟨rfl, rfl⟩)
        refine (first15 _ _ [W, 0] _ (wr.heap.size + 2) (row_lit2 _ _ _ _) (by simp [maxLen])).mono ?_
        rintro e w' ⟨rfl, rfl⟩
        have HBB := Lib.hid (HBA.out.alloc (by simp; omega) (.cells #[.int .i64 W, .int .i64 0] 24))
        go_wp2_with fail
        go_roundw
        case rel => exact ⟨k + 1, r, by omega, by go_num, rfl, HN2.out.symm, HBB.out⟩
        case measure => simp [intOf]; omega
    · obtain rfl : k = n := by omega
      have hd : ¬ (k : Int) < (k : Int) := by omega
      have hW : W = 8 := by rw [HW.out, List.take_of_length_le (by rw [HNL.out]; exact Nat.le_refl _)]; exact HF.out
      subst hW
      have HBW := Lib.hid (below_step HB6.out (Nat.le_refl _) HBel.out)
      go_wp2_with fail
      go_ret
      exact ⟨rfl, HBW.out⟩

set_option maxHeartbeats 4000000 in
set_option maxRecDepth 100000 in
theorem parts_c_B (size part : Int) (a : Option Addr) (cap n : Nat) (xs : List (Int × Int)) (w : World) (hx : PRow w w.heap.size a xs) (hn : xs.length = n) (lx : xs.length ≤ maxLen) (hs : 0 ≤ size ∧ size ≤ 1048576) (hp : 1 ≤ part ∧ part ≤ 1048576) (hq : 1000 < (size + part - 1) / part) (hl : xs.length ≤ 2000) (hbd : ∃ i, i < xs.length ∧ badI size (xs.getD i (0, 0))) :
    Calls Try.prog 10 #[.int .i64 size, .int .i64 part, .slice a n cap] w (EqB true w) := by
  have hw1 := within_yes _ _ _ hs
  have hw2 := within_yes _ _ _ hp
  unfold maxLen at lx
  have HM := Lib.hid (fun W (hxw : PRow W W.heap.size a xs) => (hn ▸ missing45_bad size a cap xs W hxw hs.1 hs.2 hl hbd : Calls Try.prog 45 #[.int .i64 size, .slice a n cap] W _))
  have HF := Lib.hid (show wantL size 0 xs = 7 from wantL_bad _ _ hbd)
  have H42 := Lib.hid (fun W => parts42_large size part W ⟨hs.1, hs.2, hp.1, hp.2⟩ hq)
  have hqb := quo_bd size part ⟨hs.1, hs.2, hp.1, hp.2⟩
  have HX := Lib.hid hx
  have HNL := Lib.hid hn
  have hwt : whenI true 7 = 7 := rfl
  have hwf : whenI false 7 = 0 := rfl
  have hwt8 : whenI true 8 = 8 := rfl
  have hwf8 : whenI false 8 = 0 := rfl
  have hfi : firstI [0, 0] = 0 := rfl
  have hln : n ≤ 9223372036854775807 := by omega
  have hl1 : ¬ (2000 : Int) < (n : Int) := by omega
  have hl2 : whenI (decide ((2000 : Int) < (n : Int))) 8 = 0 := by rw [decide_eq_false hl1]; rfl
  obtain ⟨hs0, hs1⟩ := hs
  obtain ⟨hp0, hp1⟩ := hp
  clear hx hn lx hl hbd
  go_enter Try.func10, Try.ntmps10
  go_wp2_with fail
  refine (H42.out _).mono ?_
  rintro e w1 ⟨rfl, rfl⟩
  go_wp2_with (first | (go_at_call 17; refine (within17 _ _ _ _).mono ?_; rintro e w' ⟨rfl, rfl⟩) | (go_at_call 16; refine (when16 _ _ _).mono ?_; rintro e w' ⟨rfl, rfl⟩) | fail)
  refine (hauls14 _).mono ?_
  rintro e w4 ⟨rfl, hb4⟩
  have HB4 := Lib.hid hb4
  clear hb4
  have HX4 := Lib.hid (HX.out.step HB4.out)
  go_wp2_with fail
  refine (HM.out _ HX4.out).mono ?_
  rintro e w5 ⟨rfl, hb5⟩
  have HB5 := Lib.hid (below_step HB4.out (Nat.le_refl _) hb5)
  have HX5 := Lib.hid (HX4.out.step hb5)
  clear hb5
  go_wp2_with (first | (go_at_call 17; refine (within17 _ _ _ _).mono ?_; rintro e w' ⟨rfl, rfl⟩) | (go_at_call 16; refine (when16 _ _ _).mono ?_; rintro e w' ⟨rfl, rfl⟩) | fail)
  refine (first15 _ _ [0, 0] _ (w5.heap.size + 1) (Row.lit _ _ _) (by simp [maxLen])).mono ?_
  rintro e w' ⟨rfl, rfl⟩
  have HBl := Lib.hid ((Below.refl w5.heap.size w5).alloc (Nat.le_refl _) (.cells #[.int .i64 0, .int .i64 0] 24))
  have HB6 := Lib.hid (below_step HB5.out (Nat.le_refl _) HBl.out)
  have HX6 := Lib.hid (HX5.out.step HBl.out)
  clear HBl
  go_wp2_with fail
  generalize w5.alloc (.cells #[.int .i64 0, .int .i64 0] 24) = w6 at *
  go_loopw [9, 90] (fun sv kv wr => ∃ (k : Nat) (W : Int), k ≤ n ∧ kv = .int .i64 k ∧ sv = .int .i64 W ∧ Hid (W = wantL size 0 (xs.take k)) ∧ Below w6.heap.size w6 wr) (fun _ kv _ => n - (intOf kv).toNat)
  case atStart => exact ⟨0, 0, by omega, rfl, rfl, by show _ = _; simp [wantL], Below.refl _ _⟩
  case round =>
    obtain ⟨k, W, hk, rfl, rfl, HW, hbel⟩ := hrel
    have HBel := Lib.hid hbel
    have hsz := hbel.size
    clear hbel
    by_cases hlt : k < n
    · have hlx : k < xs.length := by rw [HNL.out]; exact hlt
      obtain ⟨b, off, rfl, hbB, c0, c1⟩ := (HX6.out.below HBel.out) k hlx
      have hbl : b < wr.heap.size := by omega
      have hk1 : (k : Int) < (n : Int) := by omega
      have HN1 := Lib.hid (wantL_take size 0 xs k hlx)
      have HBA := Lib.hid (HBel.out.alloc hsz (.cells #[.int .i64 (xs.getD k (0, 0)).1, .int .i64 (xs.getD k (0, 0)).2] 40))
      clear hlx
      by_cases hbad : badI size (xs.getD k (0, 0))
      · have HY := Lib.hid (badB_yes _ _ hbad)
        have HN2 := Lib.hid (show wantL size 0 (xs.take (k + 1)) = firstI [W, 7] by rw [HN1.out, HY.out, HW.out]; rfl)
        unfold badI at hbad
        generalize (xs.getD k (0, 0)).1 = X at *
        generalize (xs.getD k (0, 0)).2 = Y at *
        obtain ⟨r, hr⟩ : ∃ r, firstI [W, 7] = r := ⟨_, rfl⟩
        rw [hr] at HN2
        by_cases hX : X < 0
        · clear hbad
          go_wp2_with (go_at_call 16; refine (when16 _ _ _).mono ?_; rintro e w' ⟨rfl, rfl⟩)
          refine (first15 _ _ [W, 7] _ (wr.heap.size + 2) (row_lit2 _ _ _ _) (by simp [maxLen])).mono ?_
          rintro e w' ⟨rfl, rfl⟩
          have HBB := Lib.hid (HBA.out.alloc (by simp; omega) (.cells #[.int .i64 W, .int .i64 7] 24))
          go_wp2_with fail
          go_roundw
          case rel => exact ⟨k + 1, r, by omega, by go_num, rfl, HN2.out.symm, HBB.out⟩
          case measure => simp [intOf]; omega
        · have hX0 : 0 ≤ X := by omega
          by_cases hY : Y < X
          · clear hbad
            go_wp2_with (go_at_call 16; refine (when16 _ _ _).mono ?_; rintro e w' ⟨rfl, rfl⟩)
            refine (first15 _ _ [W, 7] _ (wr.heap.size + 2) (row_lit2 _ _ _ _) (by simp [maxLen])).mono ?_
            rintro e w' ⟨rfl, rfl⟩
            have HBB := Lib.hid (HBA.out.alloc (by simp; omega) (.cells #[.int .i64 W, .int .i64 7] 24))
            go_wp2_with fail
            go_roundw
            case rel => exact ⟨k + 1, r, by omega, by go_num, rfl, HN2.out.symm, HBB.out⟩
            case measure => simp [intOf]; omega
          · have hS : size < Y := by omega
            have hXY : X ≤ Y := by omega
            clear hbad
            go_wp2_with (go_at_call 16; refine (when16 _ _ _).mono ?_; rintro e w' ⟨rfl, rfl⟩)
            refine (first15 _ _ [W, 7] _ (wr.heap.size + 2) (row_lit2 _ _ _ _) (by simp [maxLen])).mono ?_
            rintro e w' ⟨rfl, rfl⟩
            have HBB := Lib.hid (HBA.out.alloc (by simp; omega) (.cells #[.int .i64 W, .int .i64 7] 24))
            go_wp2_with fail
            go_roundw
            case rel => exact ⟨k + 1, r, by omega, by go_num, rfl, HN2.out.symm, HBB.out⟩
            case measure => simp [intOf]; omega
      · have HY := Lib.hid (badB_no _ _ hbad)
        have HN2 := Lib.hid (show wantL size 0 (xs.take (k + 1)) = firstI [W, 0] by rw [HN1.out, HY.out, HW.out]; rfl)
        unfold badI at hbad
        generalize (xs.getD k (0, 0)).1 = X at *
        generalize (xs.getD k (0, 0)).2 = Y at *
        obtain ⟨r, hr⟩ : ∃ r, firstI [W, 0] = r := ⟨_, rfl⟩
        rw [hr] at HN2
        obtain ⟨g1, g2, g3⟩ : ¬ X < 0 ∧ ¬ Y < X ∧ ¬ size < Y := by omega
        clear hbad
        go_wp2_with (go_at_call 16; refine (when16 _ _ _).mono ?_; rintro e w' ⟨rfl, rfl⟩)
        refine (first15 _ _ [W, 0] _ (wr.heap.size + 2) (row_lit2 _ _ _ _) (by simp [maxLen])).mono ?_
        rintro e w' ⟨rfl, rfl⟩
        have HBB := Lib.hid (HBA.out.alloc (by simp; omega) (.cells #[.int .i64 W, .int .i64 0] 24))
        go_wp2_with fail
        go_roundw
        case rel => exact ⟨k + 1, r, by omega, by go_num, rfl, HN2.out.symm, HBB.out⟩
        case measure => simp [intOf]; omega
    · obtain rfl : k = n := by omega
      have hd : ¬ (k : Int) < (k : Int) := by omega
      have hW : W = 7 := by rw [HW.out, List.take_of_length_le (by rw [HNL.out]; exact Nat.le_refl _)]; exact HF.out
      subst hW
      have HBW := Lib.hid (below_step HB6.out (Nat.le_refl _) HBel.out)
      go_wp2_with fail
      go_ret
      exact ⟨rfl, HBW.out⟩

set_option maxHeartbeats 4000000 in
set_option maxRecDepth 100000 in
theorem parts_c_G (size part : Int) (a : Option Addr) (cap n : Nat) (xs : List (Int × Int)) (w : World) (hx : PRow w w.heap.size a xs) (hn : xs.length = n) (lx : xs.length ≤ maxLen) (hs : 0 ≤ size ∧ size ≤ 1048576) (hp : 1 ≤ part ∧ part ≤ 1048576) (hq : 1000 < (size + part - 1) / part) (hl : xs.length ≤ 2000) (hgd : ∀ i, i < xs.length → ¬ badI size (xs.getD i (0, 0))) :
    Calls Try.prog 10 #[.int .i64 size, .int .i64 part, .slice a n cap] w (EqB true w) := by
  have hw1 := within_yes _ _ _ hs
  have hw2 := within_yes _ _ _ hp
  unfold maxLen at lx
  obtain ⟨sz, rfl⟩ : ∃ sz : Nat, size = sz := ⟨size.toNat, by omega⟩
  obtain ⟨ns, hxe, hns⟩ := natP sz xs hgd
  have hnl : ns.length = n := by rw [← hn, hxe]; simp
  have HM := Lib.hid (fun W (hxw : PRow W W.heap.size a xs) => (hnl ▸ missing45_ok sz a cap ns W (hxe ▸ hxw) (by omega) (by omega) hns : Calls Try.prog 45 #[.int .i64 (sz : Int), .slice a n cap] W (MissPost ((rest (covers ns) sz).map castP) W)))
  have HRS := Lib.hid (fun W (hxw : PRow W W.heap.size a xs) (h3 : sz ≤ 3000) => (hnl ▸ rest46 sz a cap ns W (hxe ▸ hxw) h3 (by omega) : Calls Try.prog 46 #[.int .i64 (sz : Int), .slice a n cap] W (RestPost ((rest (covers ns) sz).map castP) W)))
  have HLL := Lib.hid (show ((rest (covers ns) sz).map castP).length ≤ 1048576 by rw [castP_len]; have := rest_len (covers ns) sz; omega)
  have HF := Lib.hid (show wantL (sz : Int) 0 xs = 0 from wantL_good _ _ hgd)
  have H42 := Lib.hid (fun W => parts42_large (sz : Int) part W ⟨hs.1, hs.2, hp.1, hp.2⟩ hq)
  have hqb := quo_bd (sz : Int) part ⟨hs.1, hs.2, hp.1, hp.2⟩
  have HX := Lib.hid hx
  have HNL := Lib.hid hn
  have HNS := Lib.hid hnl
  have HXE := Lib.hid hxe
  have hwt : whenI true 7 = 7 := rfl
  have hwf : whenI false 7 = 0 := rfl
  have hwt8 : whenI true 8 = 8 := rfl
  have hwf8 : whenI false 8 = 0 := rfl
  have hfi : firstI [0, 0] = 0 := rfl
  have hln : n ≤ 9223372036854775807 := by omega
  have hl1 : ¬ (2000 : Int) < (n : Int) := by omega
  have hl2 : whenI (decide ((2000 : Int) < (n : Int))) 8 = 0 := by rw [decide_eq_false hl1]; rfl
  obtain ⟨hs0, hs1⟩ := hs
  obtain ⟨hp0, hp1⟩ := hp
  clear hx hn lx hl hgd hns hnl hxe
  go_enter Try.func10, Try.ntmps10
  go_wp2_with fail
  refine (H42.out _).mono ?_
  rintro e w1 ⟨rfl, rfl⟩
  go_wp2_with (first | (go_at_call 17; refine (within17 _ _ _ _).mono ?_; rintro e w' ⟨rfl, rfl⟩) | (go_at_call 16; refine (when16 _ _ _).mono ?_; rintro e w' ⟨rfl, rfl⟩) | fail)
  refine (hauls14 _).mono ?_
  rintro e w4 ⟨rfl, hb4⟩
  have HB4 := Lib.hid hb4
  clear hb4
  have HX4 := Lib.hid (HX.out.step HB4.out)
  go_wp2_with fail
  refine (HM.out _ HX4.out).mono ?_
  rintro e w5 ⟨ma, mc, rfl, hmr, hb5⟩
  have HMR := Lib.hid hmr
  clear hmr
  generalize (rest (covers ns) sz).map castP = ML at *
  have hml := HLL.out
  have HB5 := Lib.hid (below_step HB4.out (Nat.le_refl _) hb5)
  have HX5 := Lib.hid (HX4.out.step hb5)
  clear hb5
  go_wp2_with (first | (go_at_call 17; refine (within17 _ _ _ _).mono ?_; rintro e w' ⟨rfl, rfl⟩) | (go_at_call 16; refine (when16 _ _ _).mono ?_; rintro e w' ⟨rfl, rfl⟩) | fail)
  refine (first15 _ _ [0, 0] _ (w5.heap.size + 1) (Row.lit _ _ _) (by simp [maxLen])).mono ?_
  rintro e w' ⟨rfl, rfl⟩
  have HBl := Lib.hid ((Below.refl w5.heap.size w5).alloc (Nat.le_refl _) (.cells #[.int .i64 0, .int .i64 0] 24))
  have HB6 := Lib.hid (below_step HB5.out (Nat.le_refl _) HBl.out)
  have HX6 := Lib.hid (HX5.out.step HBl.out)
  have HMR6 := Lib.hid (HMR.out.step HBl.out)
  clear HBl
  go_wp2_with fail
  generalize w5.alloc (.cells #[.int .i64 0, .int .i64 0] 24) = w6 at *
  go_loopw [9, 90] (fun sv kv wr => ∃ (k : Nat) (W : Int), k ≤ n ∧ kv = .int .i64 k ∧ sv = .int .i64 W ∧ Hid (W = wantL (sz : Int) 0 (xs.take k)) ∧ Below w6.heap.size w6 wr) (fun _ kv _ => n - (intOf kv).toNat)
  case atStart => exact ⟨0, 0, by omega, rfl, rfl, by show _ = _; simp [wantL], Below.refl _ _⟩
  case round =>
    obtain ⟨k, W, hk, rfl, rfl, HW, hbel⟩ := hrel
    have HBel := Lib.hid hbel
    have hsz := hbel.size
    clear hbel
    by_cases hlt : k < n
    · have hlx : k < xs.length := by rw [HNL.out]; exact hlt
      obtain ⟨b, off, rfl, hbB, c0, c1⟩ := (HX6.out.below HBel.out) k hlx
      have hbl : b < wr.heap.size := by omega
      have hk1 : (k : Int) < (n : Int) := by omega
      have HN1 := Lib.hid (wantL_take (sz : Int) 0 xs k hlx)
      have HBA := Lib.hid (HBel.out.alloc hsz (.cells #[.int .i64 (xs.getD k (0, 0)).1, .int .i64 (xs.getD k (0, 0)).2] 40))
      clear hlx
      by_cases hbad : badI (sz : Int) (xs.getD k (0, 0))
      · have HY := Lib.hid (badB_yes _ _ hbad)
        have HN2 := Lib.hid (show wantL (sz : Int) 0 (xs.take (k + 1)) = firstI [W, 7] by rw [HN1.out, HY.out, HW.out]; rfl)
        unfold badI at hbad
        generalize (xs.getD k (0, 0)).1 = X at *
        generalize (xs.getD k (0, 0)).2 = Y at *
        obtain ⟨r, hr⟩ : ∃ r, firstI [W, 7] = r := ⟨_, rfl⟩
        rw [hr] at HN2
        by_cases hX : X < 0
        · clear hbad
          go_wp2_with (go_at_call 16; refine (when16 _ _ _).mono ?_; rintro e w' ⟨rfl, rfl⟩)
          refine (first15 _ _ [W, 7] _ (wr.heap.size + 2) (row_lit2 _ _ _ _) (by simp [maxLen])).mono ?_
          rintro e w' ⟨rfl, rfl⟩
          have HBB := Lib.hid (HBA.out.alloc (by simp; omega) (.cells #[.int .i64 W, .int .i64 7] 24))
          go_wp2_with fail
          go_roundw
          case rel => exact ⟨k + 1, r, by omega, by go_num, rfl, HN2.out.symm, HBB.out⟩
          case measure => simp [intOf]; omega
        · have hX0 : 0 ≤ X := by omega
          by_cases hY : Y < X
          · clear hbad
            go_wp2_with (go_at_call 16; refine (when16 _ _ _).mono ?_; rintro e w' ⟨rfl, rfl⟩)
            refine (first15 _ _ [W, 7] _ (wr.heap.size + 2) (row_lit2 _ _ _ _) (by simp [maxLen])).mono ?_
            rintro e w' ⟨rfl, rfl⟩
            have HBB := Lib.hid (HBA.out.alloc (by simp; omega) (.cells #[.int .i64 W, .int .i64 7] 24))
            go_wp2_with fail
            go_roundw
            case rel => exact ⟨k + 1, r, by omega, by go_num, rfl, HN2.out.symm, HBB.out⟩
            case measure => simp [intOf]; omega
          · have hS : (sz : Int) < Y := by omega
            have hXY : X ≤ Y := by omega
            clear hbad
            go_wp2_with (go_at_call 16; refine (when16 _ _ _).mono ?_; rintro e w' ⟨rfl, rfl⟩)
            refine (first15 _ _ [W, 7] _ (wr.heap.size + 2) (row_lit2 _ _ _ _) (by simp [maxLen])).mono ?_
            rintro e w' ⟨rfl, rfl⟩
            have HBB := Lib.hid (HBA.out.alloc (by simp; omega) (.cells #[.int .i64 W, .int .i64 7] 24))
            go_wp2_with fail
            go_roundw
            case rel => exact ⟨k + 1, r, by omega, by go_num, rfl, HN2.out.symm, HBB.out⟩
            case measure => simp [intOf]; omega
      · have HY := Lib.hid (badB_no _ _ hbad)
        have HN2 := Lib.hid (show wantL (sz : Int) 0 (xs.take (k + 1)) = firstI [W, 0] by rw [HN1.out, HY.out, HW.out]; rfl)
        unfold badI at hbad
        generalize (xs.getD k (0, 0)).1 = X at *
        generalize (xs.getD k (0, 0)).2 = Y at *
        obtain ⟨r, hr⟩ : ∃ r, firstI [W, 0] = r := ⟨_, rfl⟩
        rw [hr] at HN2
        obtain ⟨g1, g2, g3⟩ : ¬ X < 0 ∧ ¬ Y < X ∧ ¬ (sz : Int) < Y := by omega
        clear hbad
        go_wp2_with (go_at_call 16; refine (when16 _ _ _).mono ?_; rintro e w' ⟨rfl, rfl⟩)
        refine (first15 _ _ [W, 0] _ (wr.heap.size + 2) (row_lit2 _ _ _ _) (by simp [maxLen])).mono ?_
        rintro e w' ⟨rfl, rfl⟩
        have HBB := Lib.hid (HBA.out.alloc (by simp; omega) (.cells #[.int .i64 W, .int .i64 0] 24))
        go_wp2_with fail
        go_roundw
        case rel => exact ⟨k + 1, r, by omega, by go_num, rfl, HN2.out.symm, HBB.out⟩
        case measure => simp [intOf]; omega
    · obtain rfl : k = n := by omega
      have hd : ¬ (k : Int) < (k : Int) := by omega
      have hW : W = 0 := by rw [HW.out, List.take_of_length_le (by rw [HNL.out]; exact Nat.le_refl _)]; exact HF.out
      subst hW
      have HBW := Lib.hid (below_step HB6.out (Nat.le_refl _) HBel.out)
      have HX7 := Lib.hid (HX6.out.step HBel.out)
      have HM7 := Lib.hid (HMR6.out.step HBel.out)
      by_cases h3 : (3000 : Int) < (sz : Int)
      · go_wp2_with fail
        go_ret
        exact ⟨rfl, HBW.out⟩
      · have h3' : sz ≤ 3000 := by omega
        go_wp2_with fail
        refine (HRS.out _ HX7.out h3').mono ?_
        rintro e w8 ⟨ra, rc, rfl, hrr, hb8⟩
        have HE2 := Lib.hid (equal43 ma ra mc rc ML ML w8 (HM7.out.step hb8) hrr (by unfold maxLen; omega) (by unfold maxLen; omega))
        have HB8 := Lib.hid (below_step HBW.out (Nat.le_refl _) hb8)
        clear hrr hb8
        go_wp2_with fail
        refine HE2.out.mono ?_
        rintro e w9 ⟨rfl, hb9⟩
        have HB9 := Lib.hid (below_step HB8.out (Nat.le_refl _) hb9)
        have hdt : decide (ML = ML) = true := by simp
        clear hb9
        go_wp2_with fail
        go_ret
        exact ⟨by simp, HB9.out⟩

set_option maxHeartbeats 4000000 in
set_option maxRecDepth 100000 in
theorem parts_d_L (size part : Int) (a : Option Addr) (cap n : Nat) (xs : List (Int × Int)) (w : World) (hx : PRow w w.heap.size a xs) (hn : xs.length = n) (lx : xs.length ≤ maxLen) (hs : 0 ≤ size ∧ size ≤ 1048576) (hp : 1 ≤ part ∧ part ≤ 1048576) (hq : (size + part - 1) / part ≤ 1000) (hl : 2000 < xs.length) :
    Calls Try.prog 10 #[.int .i64 size, .int .i64 part, .slice a n cap] w (EqB true w) := by
  have hw1 := within_yes _ _ _ hs
  have hw2 := within_yes _ _ _ hp
  unfold maxLen at lx
  have HM := Lib.hid (fun W (_ : PRow W W.heap.size a xs) => missing45_long size a n cap W hs.1 hs.2 (by omega) (by unfold maxLen; omega))
  have HF := Lib.hid (show wantL size 8 xs = 8 from wantL_ne _ _ _ (by omega))
  have H42 := Lib.hid (fun W => parts42_ok size part W ⟨hs.1, hs.2, hp.1, hp.2⟩ hq)
  have hqb := quo_bd size part ⟨hs.1, hs.2, hp.1, hp.2⟩
  have H44 := Lib.hid (fun W => pieces44 size part W hs.1 hs.2 hp.1 hp.2)
  have HX := Lib.hid hx
  have HNL := Lib.hid hn
  have hwt : whenI true 7 = 7 := rfl
  have hwf : whenI false 7 = 0 := rfl
  have hwt8 : whenI true 8 = 8 := rfl
  have hwf8 : whenI false 8 = 0 := rfl
  have hfi : firstI [0, 8] = 8 := rfl
  have hln : n ≤ 9223372036854775807 := by omega
  have hl1 : (2000 : Int) < (n : Int) := by omega
  have hl2 : whenI (decide ((2000 : Int) < (n : Int))) 8 = 8 := by rw [decide_eq_true hl1]; rfl
  obtain ⟨hs0, hs1⟩ := hs
  obtain ⟨hp0, hp1⟩ := hp
  clear hx hn lx hl
  go_enter Try.func10, Try.ntmps10
  go_wp2_with fail
  refine (H42.out _).mono ?_
  rintro e w1 ⟨N, pa, pc, hN, hN2, rfl, hpr, hb1⟩
  have HN := Lib.hid hN
  have HPR := Lib.hid hpr
  have HB1 := Lib.hid hb1
  have hplen : (partL size part N).length = N := partL_len _ _ _
  rw [hplen]
  have HPL := Lib.hid hplen
  clear hN hpr hb1 hplen
  go_wp2_with (first | (go_at_call 17; refine (within17 _ _ _ _).mono ?_; rintro e w' ⟨rfl, rfl⟩) | (go_at_call 16; refine (when16 _ _ _).mono ?_; rintro e w' ⟨rfl, rfl⟩) | fail)
  refine (hauls14 _).mono ?_
  rintro e w2 ⟨rfl, hb2⟩
  have HPR2 := Lib.hid (HPR.out.step hb2)
  have HB2 := Lib.hid (below_step HB1.out (Nat.le_refl _) hb2)
  clear hb2 HPR HB1
  go_wp2_with fail
  refine (H44.out _).mono ?_
  rintro e w3 ⟨M, v, hM, hM2, rfl, hown, hb3⟩
  obtain rfl : M = N := partN_one _ _ _ _ hM HN.out
  obtain ⟨qa, qc, rfl, hqr⟩ := PRow.of_own hown (partL_len _ _ _)
  rw [HPL.out]
  have HE := Lib.hid (HPL.out ▸ equal43 pa qa pc qc (partL size part M) (partL size part M) w3 (HPR2.out.step hb3) hqr (by rw [HPL.out]; unfold maxLen; omega) (by rw [HPL.out]; unfold maxLen; omega) : Calls Try.prog 43 #[.slice pa M pc, .slice qa M qc] w3 _)
  have HB3 := Lib.hid (below_step HB2.out (Nat.le_refl _) hb3)
  clear hM hown hqr hb3
  go_wp2_with fail
  refine HE.out.mono ?_
  rintro e w4 ⟨rfl, hb4⟩
  have HB4 := Lib.hid (below_step HB3.out (Nat.le_refl _) hb4)
  have hdt : decide (partL size part M = partL size part M) = true := by simp
  clear hb4
  have HX4 := Lib.hid (HX.out.step HB4.out)
  go_wp2_with fail
  refine (HM.out _ HX4.out).mono ?_
  rintro e w5 ⟨rfl, hb5⟩
  have HB5 := Lib.hid (below_step HB4.out (Nat.le_refl _) hb5)
  have HX5 := Lib.hid (HX4.out.step hb5)
  clear hb5
  go_wp2_with (first | (go_at_call 17; refine (within17 _ _ _ _).mono ?_; rintro e w' ⟨rfl, rfl⟩) | (go_at_call 16; refine (when16 _ _ _).mono ?_; rintro e w' ⟨rfl, rfl⟩) | fail)
  refine (first15 _ _ [0, 8] _ (w5.heap.size + 1) (Row.lit _ _ _) (by simp [maxLen])).mono ?_
  rintro e w' ⟨rfl, rfl⟩
  have HBl := Lib.hid ((Below.refl w5.heap.size w5).alloc (Nat.le_refl _) (.cells #[.int .i64 0, .int .i64 8] 24))
  have HB6 := Lib.hid (below_step HB5.out (Nat.le_refl _) HBl.out)
  have HX6 := Lib.hid (HX5.out.step HBl.out)
  clear HBl
  go_wp2_with fail
  generalize w5.alloc (.cells #[.int .i64 0, .int .i64 8] 24) = w6 at *
  go_loopw [9, 90] (fun sv kv wr => ∃ (k : Nat) (W : Int), k ≤ n ∧ kv = .int .i64 k ∧ sv = .int .i64 W ∧ Hid (W = wantL size 8 (xs.take k)) ∧ Below w6.heap.size w6 wr) (fun _ kv _ => n - (intOf kv).toNat)
  case atStart => exact ⟨0, 8, by omega, rfl, rfl, by show _ = _; simp [wantL], Below.refl _ _⟩
  case round =>
    obtain ⟨k, W, hk, rfl, rfl, HW, hbel⟩ := hrel
    have HBel := Lib.hid hbel
    have hsz := hbel.size
    clear hbel
    by_cases hlt : k < n
    · have hlx : k < xs.length := by rw [HNL.out]; exact hlt
      obtain ⟨b, off, rfl, hbB, c0, c1⟩ := (HX6.out.below HBel.out) k hlx
      have hbl : b < wr.heap.size := by omega
      have hk1 : (k : Int) < (n : Int) := by omega
      have HN1 := Lib.hid (wantL_take size 8 xs k hlx)
      have HBA := Lib.hid (HBel.out.alloc hsz (.cells #[.int .i64 (xs.getD k (0, 0)).1, .int .i64 (xs.getD k (0, 0)).2] 40))
      clear hlx
      by_cases hbad : badI size (xs.getD k (0, 0))
      · have HY := Lib.hid (badB_yes _ _ hbad)
        have HN2 := Lib.hid (show wantL size 8 (xs.take (k + 1)) = firstI [W, 7] by rw [HN1.out, HY.out, HW.out]; rfl)
        unfold badI at hbad
        generalize (xs.getD k (0, 0)).1 = X at *
        generalize (xs.getD k (0, 0)).2 = Y at *
        obtain ⟨r, hr⟩ : ∃ r, firstI [W, 7] = r := ⟨_, rfl⟩
        rw [hr] at HN2
        by_cases hX : X < 0
        · clear hbad
          go_wp2_with (go_at_call 16; refine (when16 _ _ _).mono ?_; rintro e w' ⟨rfl, rfl⟩)
          refine (first15 _ _ [W, 7] _ (wr.heap.size + 2) (row_lit2 _ _ _ _) (by simp [maxLen])).mono ?_
          rintro e w' ⟨rfl, rfl⟩
          have HBB := Lib.hid (HBA.out.alloc (by simp; omega) (.cells #[.int .i64 W, .int .i64 7] 24))
          go_wp2_with fail
          go_roundw
          case rel => exact ⟨k + 1, r, by omega, by go_num, rfl, HN2.out.symm, HBB.out⟩
          case measure => simp [intOf]; omega
        · have hX0 : 0 ≤ X := by omega
          by_cases hY : Y < X
          · clear hbad
            go_wp2_with (go_at_call 16; refine (when16 _ _ _).mono ?_; rintro e w' ⟨rfl, rfl⟩)
            refine (first15 _ _ [W, 7] _ (wr.heap.size + 2) (row_lit2 _ _ _ _) (by simp [maxLen])).mono ?_
            rintro e w' ⟨rfl, rfl⟩
            have HBB := Lib.hid (HBA.out.alloc (by simp; omega) (.cells #[.int .i64 W, .int .i64 7] 24))
            go_wp2_with fail
            go_roundw
            case rel => exact ⟨k + 1, r, by omega, by go_num, rfl, HN2.out.symm, HBB.out⟩
            case measure => simp [intOf]; omega
          · have hS : size < Y := by omega
            have hXY : X ≤ Y := by omega
            clear hbad
            go_wp2_with (go_at_call 16; refine (when16 _ _ _).mono ?_; rintro e w' ⟨rfl, rfl⟩)
            refine (first15 _ _ [W, 7] _ (wr.heap.size + 2) (row_lit2 _ _ _ _) (by simp [maxLen])).mono ?_
            rintro e w' ⟨rfl, rfl⟩
            have HBB := Lib.hid (HBA.out.alloc (by simp; omega) (.cells #[.int .i64 W, .int .i64 7] 24))
            go_wp2_with fail
            go_roundw
            case rel => exact ⟨k + 1, r, by omega, by go_num, rfl, HN2.out.symm, HBB.out⟩
            case measure => simp [intOf]; omega
      · have HY := Lib.hid (badB_no _ _ hbad)
        have HN2 := Lib.hid (show wantL size 8 (xs.take (k + 1)) = firstI [W, 0] by rw [HN1.out, HY.out, HW.out]; rfl)
        unfold badI at hbad
        generalize (xs.getD k (0, 0)).1 = X at *
        generalize (xs.getD k (0, 0)).2 = Y at *
        obtain ⟨r, hr⟩ : ∃ r, firstI [W, 0] = r := ⟨_, rfl⟩
        rw [hr] at HN2
        obtain ⟨g1, g2, g3⟩ : ¬ X < 0 ∧ ¬ Y < X ∧ ¬ size < Y := by omega
        clear hbad
        go_wp2_with (go_at_call 16; refine (when16 _ _ _).mono ?_; rintro e w' ⟨rfl, rfl⟩)
        refine (first15 _ _ [W, 0] _ (wr.heap.size + 2) (row_lit2 _ _ _ _) (by simp [maxLen])).mono ?_
        rintro e w' ⟨rfl, rfl⟩
        have HBB := Lib.hid (HBA.out.alloc (by simp; omega) (.cells #[.int .i64 W, .int .i64 0] 24))
        go_wp2_with fail
        go_roundw
        case rel => exact ⟨k + 1, r, by omega, by go_num, rfl, HN2.out.symm, HBB.out⟩
        case measure => simp [intOf]; omega
    · obtain rfl : k = n := by omega
      have hd : ¬ (k : Int) < (k : Int) := by omega
      have hW : W = 8 := by rw [HW.out, List.take_of_length_le (by rw [HNL.out]; exact Nat.le_refl _)]; exact HF.out
      subst hW
      have HBW := Lib.hid (below_step HB6.out (Nat.le_refl _) HBel.out)
      go_wp2_with fail
      go_ret
      exact ⟨rfl, HBW.out⟩

set_option maxHeartbeats 4000000 in
set_option maxRecDepth 100000 in
theorem parts_d_B (size part : Int) (a : Option Addr) (cap n : Nat) (xs : List (Int × Int)) (w : World) (hx : PRow w w.heap.size a xs) (hn : xs.length = n) (lx : xs.length ≤ maxLen) (hs : 0 ≤ size ∧ size ≤ 1048576) (hp : 1 ≤ part ∧ part ≤ 1048576) (hq : (size + part - 1) / part ≤ 1000) (hl : xs.length ≤ 2000) (hbd : ∃ i, i < xs.length ∧ badI size (xs.getD i (0, 0))) :
    Calls Try.prog 10 #[.int .i64 size, .int .i64 part, .slice a n cap] w (EqB true w) := by
  have hw1 := within_yes _ _ _ hs
  have hw2 := within_yes _ _ _ hp
  unfold maxLen at lx
  have HM := Lib.hid (fun W (hxw : PRow W W.heap.size a xs) => (hn ▸ missing45_bad size a cap xs W hxw hs.1 hs.2 hl hbd : Calls Try.prog 45 #[.int .i64 size, .slice a n cap] W _))
  have HF := Lib.hid (show wantL size 0 xs = 7 from wantL_bad _ _ hbd)
  have H42 := Lib.hid (fun W => parts42_ok size part W ⟨hs.1, hs.2, hp.1, hp.2⟩ hq)
  have hqb := quo_bd size part ⟨hs.1, hs.2, hp.1, hp.2⟩
  have H44 := Lib.hid (fun W => pieces44 size part W hs.1 hs.2 hp.1 hp.2)
  have HX := Lib.hid hx
  have HNL := Lib.hid hn
  have hwt : whenI true 7 = 7 := rfl
  have hwf : whenI false 7 = 0 := rfl
  have hwt8 : whenI true 8 = 8 := rfl
  have hwf8 : whenI false 8 = 0 := rfl
  have hfi : firstI [0, 0] = 0 := rfl
  have hln : n ≤ 9223372036854775807 := by omega
  have hl1 : ¬ (2000 : Int) < (n : Int) := by omega
  have hl2 : whenI (decide ((2000 : Int) < (n : Int))) 8 = 0 := by rw [decide_eq_false hl1]; rfl
  obtain ⟨hs0, hs1⟩ := hs
  obtain ⟨hp0, hp1⟩ := hp
  clear hx hn lx hl hbd
  go_enter Try.func10, Try.ntmps10
  go_wp2_with fail
  refine (H42.out _).mono ?_
  rintro e w1 ⟨N, pa, pc, hN, hN2, rfl, hpr, hb1⟩
  have HN := Lib.hid hN
  have HPR := Lib.hid hpr
  have HB1 := Lib.hid hb1
  have hplen : (partL size part N).length = N := partL_len _ _ _
  rw [hplen]
  have HPL := Lib.hid hplen
  clear hN hpr hb1 hplen
  go_wp2_with (first | (go_at_call 17; refine (within17 _ _ _ _).mono ?_; rintro e w' ⟨rfl, rfl⟩) | (go_at_call 16; refine (when16 _ _ _).mono ?_; rintro e w' ⟨rfl, rfl⟩) | fail)
  refine (hauls14 _).mono ?_
  rintro e w2 ⟨rfl, hb2⟩
  have HPR2 := Lib.hid (HPR.out.step hb2)
  have HB2 := Lib.hid (below_step HB1.out (Nat.le_refl _) hb2)
  clear hb2 HPR HB1
  go_wp2_with fail
  refine (H44.out _).mono ?_
  rintro e w3 ⟨M, v, hM, hM2, rfl, hown, hb3⟩
  obtain rfl : M = N := partN_one _ _ _ _ hM HN.out
  obtain ⟨qa, qc, rfl, hqr⟩ := PRow.of_own hown (partL_len _ _ _)
  rw [HPL.out]
  have HE := Lib.hid (HPL.out ▸ equal43 pa qa pc qc (partL size part M) (partL size part M) w3 (HPR2.out.step hb3) hqr (by rw [HPL.out]; unfold maxLen; omega) (by rw [HPL.out]; unfold maxLen; omega) : Calls Try.prog 43 #[.slice pa M pc, .slice qa M qc] w3 _)
  have HB3 := Lib.hid (below_step HB2.out (Nat.le_refl _) hb3)
  clear hM hown hqr hb3
  go_wp2_with fail
  refine HE.out.mono ?_
  rintro e w4 ⟨rfl, hb4⟩
  have HB4 := Lib.hid (below_step HB3.out (Nat.le_refl _) hb4)
  have hdt : decide (partL size part M = partL size part M) = true := by simp
  clear hb4
  have HX4 := Lib.hid (HX.out.step HB4.out)
  go_wp2_with fail
  refine (HM.out _ HX4.out).mono ?_
  rintro e w5 ⟨rfl, hb5⟩
  have HB5 := Lib.hid (below_step HB4.out (Nat.le_refl _) hb5)
  have HX5 := Lib.hid (HX4.out.step hb5)
  clear hb5
  go_wp2_with (first | (go_at_call 17; refine (within17 _ _ _ _).mono ?_; rintro e w' ⟨rfl, rfl⟩) | (go_at_call 16; refine (when16 _ _ _).mono ?_; rintro e w' ⟨rfl, rfl⟩) | fail)
  refine (first15 _ _ [0, 0] _ (w5.heap.size + 1) (Row.lit _ _ _) (by simp [maxLen])).mono ?_
  rintro e w' ⟨rfl, rfl⟩
  have HBl := Lib.hid ((Below.refl w5.heap.size w5).alloc (Nat.le_refl _) (.cells #[.int .i64 0, .int .i64 0] 24))
  have HB6 := Lib.hid (below_step HB5.out (Nat.le_refl _) HBl.out)
  have HX6 := Lib.hid (HX5.out.step HBl.out)
  clear HBl
  go_wp2_with fail
  generalize w5.alloc (.cells #[.int .i64 0, .int .i64 0] 24) = w6 at *
  go_loopw [9, 90] (fun sv kv wr => ∃ (k : Nat) (W : Int), k ≤ n ∧ kv = .int .i64 k ∧ sv = .int .i64 W ∧ Hid (W = wantL size 0 (xs.take k)) ∧ Below w6.heap.size w6 wr) (fun _ kv _ => n - (intOf kv).toNat)
  case atStart => exact ⟨0, 0, by omega, rfl, rfl, by show _ = _; simp [wantL], Below.refl _ _⟩
  case round =>
    obtain ⟨k, W, hk, rfl, rfl, HW, hbel⟩ := hrel
    have HBel := Lib.hid hbel
    have hsz := hbel.size
    clear hbel
    by_cases hlt : k < n
    · have hlx : k < xs.length := by rw [HNL.out]; exact hlt
      obtain ⟨b, off, rfl, hbB, c0, c1⟩ := (HX6.out.below HBel.out) k hlx
      have hbl : b < wr.heap.size := by omega
      have hk1 : (k : Int) < (n : Int) := by omega
      have HN1 := Lib.hid (wantL_take size 0 xs k hlx)
      have HBA := Lib.hid (HBel.out.alloc hsz (.cells #[.int .i64 (xs.getD k (0, 0)).1, .int .i64 (xs.getD k (0, 0)).2] 40))
      clear hlx
      by_cases hbad : badI size (xs.getD k (0, 0))
      · have HY := Lib.hid (badB_yes _ _ hbad)
        have HN2 := Lib.hid (show wantL size 0 (xs.take (k + 1)) = firstI [W, 7] by rw [HN1.out, HY.out, HW.out]; rfl)
        unfold badI at hbad
        generalize (xs.getD k (0, 0)).1 = X at *
        generalize (xs.getD k (0, 0)).2 = Y at *
        obtain ⟨r, hr⟩ : ∃ r, firstI [W, 7] = r := ⟨_, rfl⟩
        rw [hr] at HN2
        by_cases hX : X < 0
        · clear hbad
          go_wp2_with (go_at_call 16; refine (when16 _ _ _).mono ?_; rintro e w' ⟨rfl, rfl⟩)
          refine (first15 _ _ [W, 7] _ (wr.heap.size + 2) (row_lit2 _ _ _ _) (by simp [maxLen])).mono ?_
          rintro e w' ⟨rfl, rfl⟩
          have HBB := Lib.hid (HBA.out.alloc (by simp; omega) (.cells #[.int .i64 W, .int .i64 7] 24))
          go_wp2_with fail
          go_roundw
          case rel => exact ⟨k + 1, r, by omega, by go_num, rfl, HN2.out.symm, HBB.out⟩
          case measure => simp [intOf]; omega
        · have hX0 : 0 ≤ X := by omega
          by_cases hY : Y < X
          · clear hbad
            go_wp2_with (go_at_call 16; refine (when16 _ _ _).mono ?_; rintro e w' ⟨rfl, rfl⟩)
            refine (first15 _ _ [W, 7] _ (wr.heap.size + 2) (row_lit2 _ _ _ _) (by simp [maxLen])).mono ?_
            rintro e w' ⟨rfl, rfl⟩
            have HBB := Lib.hid (HBA.out.alloc (by simp; omega) (.cells #[.int .i64 W, .int .i64 7] 24))
            go_wp2_with fail
            go_roundw
            case rel => exact ⟨k + 1, r, by omega, by go_num, rfl, HN2.out.symm, HBB.out⟩
            case measure => simp [intOf]; omega
          · have hS : size < Y := by omega
            have hXY : X ≤ Y := by omega
            clear hbad
            go_wp2_with (go_at_call 16; refine (when16 _ _ _).mono ?_; rintro e w' ⟨rfl, rfl⟩)
            refine (first15 _ _ [W, 7] _ (wr.heap.size + 2) (row_lit2 _ _ _ _) (by simp [maxLen])).mono ?_
            rintro e w' ⟨rfl, rfl⟩
            have HBB := Lib.hid (HBA.out.alloc (by simp; omega) (.cells #[.int .i64 W, .int .i64 7] 24))
            go_wp2_with fail
            go_roundw
            case rel => exact ⟨k + 1, r, by omega, by go_num, rfl, HN2.out.symm, HBB.out⟩
            case measure => simp [intOf]; omega
      · have HY := Lib.hid (badB_no _ _ hbad)
        have HN2 := Lib.hid (show wantL size 0 (xs.take (k + 1)) = firstI [W, 0] by rw [HN1.out, HY.out, HW.out]; rfl)
        unfold badI at hbad
        generalize (xs.getD k (0, 0)).1 = X at *
        generalize (xs.getD k (0, 0)).2 = Y at *
        obtain ⟨r, hr⟩ : ∃ r, firstI [W, 0] = r := ⟨_, rfl⟩
        rw [hr] at HN2
        obtain ⟨g1, g2, g3⟩ : ¬ X < 0 ∧ ¬ Y < X ∧ ¬ size < Y := by omega
        clear hbad
        go_wp2_with (go_at_call 16; refine (when16 _ _ _).mono ?_; rintro e w' ⟨rfl, rfl⟩)
        refine (first15 _ _ [W, 0] _ (wr.heap.size + 2) (row_lit2 _ _ _ _) (by simp [maxLen])).mono ?_
        rintro e w' ⟨rfl, rfl⟩
        have HBB := Lib.hid (HBA.out.alloc (by simp; omega) (.cells #[.int .i64 W, .int .i64 0] 24))
        go_wp2_with fail
        go_roundw
        case rel => exact ⟨k + 1, r, by omega, by go_num, rfl, HN2.out.symm, HBB.out⟩
        case measure => simp [intOf]; omega
    · obtain rfl : k = n := by omega
      have hd : ¬ (k : Int) < (k : Int) := by omega
      have hW : W = 7 := by rw [HW.out, List.take_of_length_le (by rw [HNL.out]; exact Nat.le_refl _)]; exact HF.out
      subst hW
      have HBW := Lib.hid (below_step HB6.out (Nat.le_refl _) HBel.out)
      go_wp2_with fail
      go_ret
      exact ⟨rfl, HBW.out⟩

set_option maxHeartbeats 4000000 in
set_option maxRecDepth 100000 in
theorem parts_d_G (size part : Int) (a : Option Addr) (cap n : Nat) (xs : List (Int × Int)) (w : World) (hx : PRow w w.heap.size a xs) (hn : xs.length = n) (lx : xs.length ≤ maxLen) (hs : 0 ≤ size ∧ size ≤ 1048576) (hp : 1 ≤ part ∧ part ≤ 1048576) (hq : (size + part - 1) / part ≤ 1000) (hl : xs.length ≤ 2000) (hgd : ∀ i, i < xs.length → ¬ badI size (xs.getD i (0, 0))) :
    Calls Try.prog 10 #[.int .i64 size, .int .i64 part, .slice a n cap] w (EqB true w) := by
  have hw1 := within_yes _ _ _ hs
  have hw2 := within_yes _ _ _ hp
  unfold maxLen at lx
  obtain ⟨sz, rfl⟩ : ∃ sz : Nat, size = sz := ⟨size.toNat, by omega⟩
  obtain ⟨ns, hxe, hns⟩ := natP sz xs hgd
  have hnl : ns.length = n := by rw [← hn, hxe]; simp
  have HM := Lib.hid (fun W (hxw : PRow W W.heap.size a xs) => (hnl ▸ missing45_ok sz a cap ns W (hxe ▸ hxw) (by omega) (by omega) hns : Calls Try.prog 45 #[.int .i64 (sz : Int), .slice a n cap] W (MissPost ((rest (covers ns) sz).map castP) W)))
  have HRS := Lib.hid (fun W (hxw : PRow W W.heap.size a xs) (h3 : sz ≤ 3000) => (hnl ▸ rest46 sz a cap ns W (hxe ▸ hxw) h3 (by omega) : Calls Try.prog 46 #[.int .i64 (sz : Int), .slice a n cap] W (RestPost ((rest (covers ns) sz).map castP) W)))
  have HLL := Lib.hid (show ((rest (covers ns) sz).map castP).length ≤ 1048576 by rw [castP_len]; have := rest_len (covers ns) sz; omega)
  have HF := Lib.hid (show wantL (sz : Int) 0 xs = 0 from wantL_good _ _ hgd)
  have H42 := Lib.hid (fun W => parts42_ok (sz : Int) part W ⟨hs.1, hs.2, hp.1, hp.2⟩ hq)
  have hqb := quo_bd (sz : Int) part ⟨hs.1, hs.2, hp.1, hp.2⟩
  have H44 := Lib.hid (fun W => pieces44 (sz : Int) part W hs.1 hs.2 hp.1 hp.2)
  have HX := Lib.hid hx
  have HNL := Lib.hid hn
  have HNS := Lib.hid hnl
  have HXE := Lib.hid hxe
  have hwt : whenI true 7 = 7 := rfl
  have hwf : whenI false 7 = 0 := rfl
  have hwt8 : whenI true 8 = 8 := rfl
  have hwf8 : whenI false 8 = 0 := rfl
  have hfi : firstI [0, 0] = 0 := rfl
  have hln : n ≤ 9223372036854775807 := by omega
  have hl1 : ¬ (2000 : Int) < (n : Int) := by omega
  have hl2 : whenI (decide ((2000 : Int) < (n : Int))) 8 = 0 := by rw [decide_eq_false hl1]; rfl
  obtain ⟨hs0, hs1⟩ := hs
  obtain ⟨hp0, hp1⟩ := hp
  clear hx hn lx hl hgd hns hnl hxe
  go_enter Try.func10, Try.ntmps10
  go_wp2_with fail
  refine (H42.out _).mono ?_
  rintro e w1 ⟨N, pa, pc, hN, hN2, rfl, hpr, hb1⟩
  have HN := Lib.hid hN
  have HPR := Lib.hid hpr
  have HB1 := Lib.hid hb1
  have hplen : (partL (sz : Int) part N).length = N := partL_len _ _ _
  rw [hplen]
  have HPL := Lib.hid hplen
  clear hN hpr hb1 hplen
  go_wp2_with (first | (go_at_call 17; refine (within17 _ _ _ _).mono ?_; rintro e w' ⟨rfl, rfl⟩) | (go_at_call 16; refine (when16 _ _ _).mono ?_; rintro e w' ⟨rfl, rfl⟩) | fail)
  refine (hauls14 _).mono ?_
  rintro e w2 ⟨rfl, hb2⟩
  have HPR2 := Lib.hid (HPR.out.step hb2)
  have HB2 := Lib.hid (below_step HB1.out (Nat.le_refl _) hb2)
  clear hb2 HPR HB1
  go_wp2_with fail
  refine (H44.out _).mono ?_
  rintro e w3 ⟨M, v, hM, hM2, rfl, hown, hb3⟩
  obtain rfl : M = N := partN_one _ _ _ _ hM HN.out
  obtain ⟨qa, qc, rfl, hqr⟩ := PRow.of_own hown (partL_len _ _ _)
  rw [HPL.out]
  have HE := Lib.hid (HPL.out ▸ equal43 pa qa pc qc (partL (sz : Int) part M) (partL (sz : Int) part M) w3 (HPR2.out.step hb3) hqr (by rw [HPL.out]; unfold maxLen; omega) (by rw [HPL.out]; unfold maxLen; omega) : Calls Try.prog 43 #[.slice pa M pc, .slice qa M qc] w3 _)
  have HB3 := Lib.hid (below_step HB2.out (Nat.le_refl _) hb3)
  clear hM hown hqr hb3
  go_wp2_with fail
  refine HE.out.mono ?_
  rintro e w4 ⟨rfl, hb4⟩
  have HB4 := Lib.hid (below_step HB3.out (Nat.le_refl _) hb4)
  have hdt : decide (partL (sz : Int) part M = partL (sz : Int) part M) = true := by simp
  clear hb4
  have HX4 := Lib.hid (HX.out.step HB4.out)
  go_wp2_with fail
  refine (HM.out _ HX4.out).mono ?_
  rintro e w5 ⟨ma, mc, rfl, hmr, hb5⟩
  have HMR := Lib.hid hmr
  clear hmr
  generalize (rest (covers ns) sz).map castP = ML at *
  have hml := HLL.out
  have HB5 := Lib.hid (below_step HB4.out (Nat.le_refl _) hb5)
  have HX5 := Lib.hid (HX4.out.step hb5)
  clear hb5
  go_wp2_with (first | (go_at_call 17; refine (within17 _ _ _ _).mono ?_; rintro e w' ⟨rfl, rfl⟩) | (go_at_call 16; refine (when16 _ _ _).mono ?_; rintro e w' ⟨rfl, rfl⟩) | fail)
  refine (first15 _ _ [0, 0] _ (w5.heap.size + 1) (Row.lit _ _ _) (by simp [maxLen])).mono ?_
  rintro e w' ⟨rfl, rfl⟩
  have HBl := Lib.hid ((Below.refl w5.heap.size w5).alloc (Nat.le_refl _) (.cells #[.int .i64 0, .int .i64 0] 24))
  have HB6 := Lib.hid (below_step HB5.out (Nat.le_refl _) HBl.out)
  have HX6 := Lib.hid (HX5.out.step HBl.out)
  have HMR6 := Lib.hid (HMR.out.step HBl.out)
  clear HBl
  go_wp2_with fail
  generalize w5.alloc (.cells #[.int .i64 0, .int .i64 0] 24) = w6 at *
  go_loopw [9, 90] (fun sv kv wr => ∃ (k : Nat) (W : Int), k ≤ n ∧ kv = .int .i64 k ∧ sv = .int .i64 W ∧ Hid (W = wantL (sz : Int) 0 (xs.take k)) ∧ Below w6.heap.size w6 wr) (fun _ kv _ => n - (intOf kv).toNat)
  case atStart => exact ⟨0, 0, by omega, rfl, rfl, by show _ = _; simp [wantL], Below.refl _ _⟩
  case round =>
    obtain ⟨k, W, hk, rfl, rfl, HW, hbel⟩ := hrel
    have HBel := Lib.hid hbel
    have hsz := hbel.size
    clear hbel
    by_cases hlt : k < n
    · have hlx : k < xs.length := by rw [HNL.out]; exact hlt
      obtain ⟨b, off, rfl, hbB, c0, c1⟩ := (HX6.out.below HBel.out) k hlx
      have hbl : b < wr.heap.size := by omega
      have hk1 : (k : Int) < (n : Int) := by omega
      have HN1 := Lib.hid (wantL_take (sz : Int) 0 xs k hlx)
      have HBA := Lib.hid (HBel.out.alloc hsz (.cells #[.int .i64 (xs.getD k (0, 0)).1, .int .i64 (xs.getD k (0, 0)).2] 40))
      clear hlx
      by_cases hbad : badI (sz : Int) (xs.getD k (0, 0))
      · have HY := Lib.hid (badB_yes _ _ hbad)
        have HN2 := Lib.hid (show wantL (sz : Int) 0 (xs.take (k + 1)) = firstI [W, 7] by rw [HN1.out, HY.out, HW.out]; rfl)
        unfold badI at hbad
        generalize (xs.getD k (0, 0)).1 = X at *
        generalize (xs.getD k (0, 0)).2 = Y at *
        obtain ⟨r, hr⟩ : ∃ r, firstI [W, 7] = r := ⟨_, rfl⟩
        rw [hr] at HN2
        by_cases hX : X < 0
        · clear hbad
          go_wp2_with (go_at_call 16; refine (when16 _ _ _).mono ?_; rintro e w' ⟨rfl, rfl⟩)
          refine (first15 _ _ [W, 7] _ (wr.heap.size + 2) (row_lit2 _ _ _ _) (by simp [maxLen])).mono ?_
          rintro e w' ⟨rfl, rfl⟩
          have HBB := Lib.hid (HBA.out.alloc (by simp; omega) (.cells #[.int .i64 W, .int .i64 7] 24))
          go_wp2_with fail
          go_roundw
          case rel => exact ⟨k + 1, r, by omega, by go_num, rfl, HN2.out.symm, HBB.out⟩
          case measure => simp [intOf]; omega
        · have hX0 : 0 ≤ X := by omega
          by_cases hY : Y < X
          · clear hbad
            go_wp2_with (go_at_call 16; refine (when16 _ _ _).mono ?_; rintro e w' ⟨rfl, rfl⟩)
            refine (first15 _ _ [W, 7] _ (wr.heap.size + 2) (row_lit2 _ _ _ _) (by simp [maxLen])).mono ?_
            rintro e w' ⟨rfl, rfl⟩
            have HBB := Lib.hid (HBA.out.alloc (by simp; omega) (.cells #[.int .i64 W, .int .i64 7] 24))
            go_wp2_with fail
            go_roundw
            case rel => exact ⟨k + 1, r, by omega, by go_num, rfl, HN2.out.symm, HBB.out⟩
            case measure => simp [intOf]; omega
          · have hS : (sz : Int) < Y := by omega
            have hXY : X ≤ Y := by omega
            clear hbad
            go_wp2_with (go_at_call 16; refine (when16 _ _ _).mono ?_; rintro e w' ⟨rfl, rfl⟩)
            refine (first15 _ _ [W, 7] _ (wr.heap.size + 2) (row_lit2 _ _ _ _) (by simp [maxLen])).mono ?_
            rintro e w' ⟨rfl, rfl⟩
            have HBB := Lib.hid (HBA.out.alloc (by simp; omega) (.cells #[.int .i64 W, .int .i64 7] 24))
            go_wp2_with fail
            go_roundw
            case rel => exact ⟨k + 1, r, by omega, by go_num, rfl, HN2.out.symm, HBB.out⟩
            case measure => simp [intOf]; omega
      · have HY := Lib.hid (badB_no _ _ hbad)
        have HN2 := Lib.hid (show wantL (sz : Int) 0 (xs.take (k + 1)) = firstI [W, 0] by rw [HN1.out, HY.out, HW.out]; rfl)
        unfold badI at hbad
        generalize (xs.getD k (0, 0)).1 = X at *
        generalize (xs.getD k (0, 0)).2 = Y at *
        obtain ⟨r, hr⟩ : ∃ r, firstI [W, 0] = r := ⟨_, rfl⟩
        rw [hr] at HN2
        obtain ⟨g1, g2, g3⟩ : ¬ X < 0 ∧ ¬ Y < X ∧ ¬ (sz : Int) < Y := by omega
        clear hbad
        go_wp2_with (go_at_call 16; refine (when16 _ _ _).mono ?_; rintro e w' ⟨rfl, rfl⟩)
        refine (first15 _ _ [W, 0] _ (wr.heap.size + 2) (row_lit2 _ _ _ _) (by simp [maxLen])).mono ?_
        rintro e w' ⟨rfl, rfl⟩
        have HBB := Lib.hid (HBA.out.alloc (by simp; omega) (.cells #[.int .i64 W, .int .i64 0] 24))
        go_wp2_with fail
        go_roundw
        case rel => exact ⟨k + 1, r, by omega, by go_num, rfl, HN2.out.symm, HBB.out⟩
        case measure => simp [intOf]; omega
    · obtain rfl : k = n := by omega
      have hd : ¬ (k : Int) < (k : Int) := by omega
      have hW : W = 0 := by rw [HW.out, List.take_of_length_le (by rw [HNL.out]; exact Nat.le_refl _)]; exact HF.out
      subst hW
      have HBW := Lib.hid (below_step HB6.out (Nat.le_refl _) HBel.out)
      have HX7 := Lib.hid (HX6.out.step HBel.out)
      have HM7 := Lib.hid (HMR6.out.step HBel.out)
      by_cases h3 : (3000 : Int) < (sz : Int)
      · go_wp2_with fail
        go_ret
        exact ⟨rfl, HBW.out⟩
      · have h3' : sz ≤ 3000 := by omega
        go_wp2_with fail
        refine (HRS.out _ HX7.out h3').mono ?_
        rintro e w8 ⟨ra, rc, rfl, hrr, hb8⟩
        have HE2 := Lib.hid (equal43 ma ra mc rc ML ML w8 (HM7.out.step hb8) hrr (by unfold maxLen; omega) (by unfold maxLen; omega))
        have HB8 := Lib.hid (below_step HBW.out (Nat.le_refl _) hb8)
        clear hrr hb8
        go_wp2_with fail
        refine HE2.out.mono ?_
        rintro e w9 ⟨rfl, hb9⟩
        have HB9 := Lib.hid (below_step HB8.out (Nat.le_refl _) hb9)
        have hdt : decide (ML = ML) = true := by simp
        clear hb9
        go_wp2_with fail
        go_ret
        exact ⟨by simp, HB9.out⟩

end Go.Proofs.Ytdfloglicjocbaa
