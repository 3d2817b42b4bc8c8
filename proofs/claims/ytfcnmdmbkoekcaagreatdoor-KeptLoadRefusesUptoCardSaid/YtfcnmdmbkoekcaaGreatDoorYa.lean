/-
  The order of trees: names.Compare with its weight, wherryref2.Before; the first of several errors.
-/
import Derived.Test.YtfcnmdmbkoekcaaGreatDoorAa
import Derived.Test.YtfcnmdmbkoekcaaGreatDoorKb
import Derived.BigQuiet
set_option linter.unusedVariables false
set_option linter.unusedSimpArgs false
namespace Go.Proofs.YtfcnmdmbkoekcaaGreatDoor
open Go.RowKit Go.Proofs.Kl
theorem wt_47 {c : UInt8} (h : ((c.toNat : Int) == 47) = true) : wt c = -1 := by
  have e : c = 47 := UInt8.toNat_inj.1 (by have := beq_iff_eq.1 h; show c.toNat = 47; omega)
  rw [e]; rfl
theorem wt_no {c : UInt8} (h : ((c.toNat : Int) == 47) = false) : wt c = (c.toNat : Int) := by
  unfold wt
  rw [if_neg]
  rintro rfl
  simp at h
theorem drewN_add (w : World) (a b : Nat) : (w.drewN a).drewN b = w.drewN (a + b) := by simp [World.drewN, Nat.add_assoc]
set_option maxRecDepth 100000 in
set_option maxHeartbeats 4000000 in
theorem weight_ok (c : UInt8) (w : World) : Calls Tryz.prog 66 #[.int .u8 (c.toNat : Int)] w fun e w' => e = .returned (.int .i64 (wt c)) ∧ w' = w := by
  have hlt := c.toNat_lt
  cases h : ((c.toNat : Int) == 47)
  · rw [wt_no h]
    go_enter Tryz.func66, Tryz.ntmps66
    go_wp2_with fail
    go_ret
    exact ⟨rfl, rfl⟩
  · rw [wt_47 h]
    go_enter Tryz.func66, Tryz.ntmps66
    go_wp2_with fail
    go_ret
    exact ⟨rfl, rfl⟩
set_option maxRecDepth 100000 in
set_option maxHeartbeats 4000000 in
theorem before_ok (a b : ByteArray) (w : World) (ha : a.size ≤ 9000000000000000000) (hb : b.size ≤ 9000000000000000000) : Calls Tryz.prog 13 #[.string a, .string b] w fun e w' => e = .returned (.bool (decide (cmpL a.data.toList b.data.toList < 0))) ∧ ∃ q, w' = w.drewN q := by
  have HA := Lib.hid (fun (k : Nat) (c : UInt8) (h : a.data.toList[k]? = some c) (w : World) => index_at a k c h w)
  have HB := Lib.hid (fun (k : Nat) (c : UInt8) (h : b.data.toList[k]? = some c) (w : World) => index_at b k c h w)
  have la := Lib.hid (Lib.size_eq a)
  have lb := Lib.hid (Lib.size_eq b)
  obtain ⟨r, hr⟩ : ∃ r, decide (cmpL a.data.toList b.data.toList < 0) = r := ⟨_, rfl⟩
  rw [hr]
  have HR := Lib.hid hr
  clear hr
  go_enter Tryz.func13, Tryz.ntmps13
  go_wp2_with fail
  go_loopw [5] (fun x wr => ∃ i q : Nat, x = .int .i64 (i : Int) ∧ i ≤ a.size ∧ i ≤ b.size ∧ cmpL (a.data.toList.drop i) (b.data.toList.drop i) = cmpL a.data.toList b.data.toList ∧ wr = w.drewN q) (fun x _ => a.size - (intOf x).toNat)
  case atStart => exact ⟨0, 0, rfl, Nat.zero_le _, Nat.zero_le _, rfl, rfl⟩
  case round =>
    obtain ⟨i, q, rfl, hia, hib, hcm, rfl⟩ := hrel
    have HCM := Lib.hid hcm
    clear hcm
    by_cases hla : i < a.size
    · have hd : decide ((i : Int) < (a.size : Int)) = true := decide_eq_true (by omega)
      by_cases hlb : i < b.size
      · have hd2 : decide ((i : Int) < (b.size : Int)) = true := decide_eq_true (by omega)
        have l1 : i < a.data.toList.length := by rw [← la.out]; exact hla
        have l2 : i < b.data.toList.length := by rw [← lb.out]; exact hlb
        obtain ⟨c, hc⟩ : ∃ c, a.data.toList[i] = c := ⟨_, rfl⟩
        obtain ⟨d, hd'⟩ : ∃ d, b.data.toList[i] = d := ⟨_, rfl⟩
        have ix1 := HA.out i c (by rw [List.getElem?_eq_getElem l1, hc])
        have ix2 := HB.out i d (by rw [List.getElem?_eq_getElem l2, hd'])
        have STEP := Lib.hid (show cmpL a.data.toList b.data.toList = if wt c < wt d then -1 else if wt d < wt c then 1 else cmpL (a.data.toList.drop (i + 1)) (b.data.toList.drop (i + 1)) from by
          rw [← HCM.out, cmpL_drop l1 l2, hc, hd'])
        clear hc hd' l1 l2
        have hcl := c.toNat_lt
        have hdl := d.toNat_lt
        cases h1 : ((c.toNat : Int) == 47) <;> cases h2 : ((d.toNat : Int) == 47)
        · have W1 := Lib.hid (wt_no h1)
          have W2 := Lib.hid (wt_no h2)
          cases h3 : ((c.toNat : Int) != (d.toNat : Int))
          · have HE := Lib.hid (show (c.toNat : Int) = (d.toNat : Int) by simpa using h3)
            go_wp2_with fail
            go_quiet (fail)
            go_wp2_with fail
            go_roundw
            case rel => exact ⟨i + 1, q + nq, by go_num, hla, hlb, by rw [STEP.out, W1.out, W2.out, HE.out, if_neg (Int.lt_irrefl _), if_neg (Int.lt_irrefl _)], by first | rfl | exact drewN_add _ _ _⟩
            case measure => simp [intOf]; omega
          · have HE := Lib.hid (show ¬ (c.toNat : Int) = (d.toNat : Int) by simpa using h3)
            go_wp2_with fail
            go_quiet (fail)
            go_wp2_with fail
            go_ret
            refine ⟨?_, _, by first | rfl | exact drewN_add _ _ _⟩
            rw [← HR.out, STEP.out, W1.out, W2.out]
            have he := HE.out
            by_cases g : c.toNat < d.toNat
            · rw [if_pos (by omega), decide_eq_true g]; rfl
            · rw [if_neg (by omega), if_pos (by omega), decide_eq_false g]; rfl
        · have W1 := Lib.hid (wt_no h1)
          have W2 := Lib.hid (wt_47 h2)
          have h3 : ((c.toNat : Int) != -1) = true := by simp <;> omega
          have h4 : decide ((c.toNat : Int) < -1) = false := decide_eq_false (by omega)
          have h5 : ¬ ((c.toNat : Int) < -1) := by omega
          have h6 : ¬ ((c.toNat : Int) = -1) := by omega
          go_wp2_with fail
          go_quiet (fail)
          go_wp2_with fail
          go_ret
          refine ⟨?_, _, by first | rfl | exact drewN_add _ _ _⟩
          rw [← HR.out, STEP.out, W1.out, W2.out, if_neg (by omega), if_pos (by omega)]; rfl
        · have W1 := Lib.hid (wt_47 h1)
          have W2 := Lib.hid (wt_no h2)
          have h3 : ((-1 : Int) != (d.toNat : Int)) = true := by simp <;> omega
          have h4 : decide ((-1 : Int) < (d.toNat : Int)) = true := decide_eq_true (by omega)
          have h5 : (-1 : Int) < (d.toNat : Int) := by omega
          have h6 : ¬ ((-1 : Int) = (d.toNat : Int)) := by omega
          go_wp2_with fail
          go_quiet (fail)
          go_wp2_with fail
          go_ret
          refine ⟨?_, _, by first | rfl | exact drewN_add _ _ _⟩
          rw [← HR.out, STEP.out, W1.out, W2.out, if_pos (by omega)]; rfl
        · have W1 := Lib.hid (wt_47 h1)
          have W2 := Lib.hid (wt_47 h2)
          go_wp2_with fail
          go_quiet (fail)
          go_wp2_with fail
          go_roundw
          case rel => exact ⟨i + 1, q + nq, by go_num, hla, hlb, by rw [STEP.out, W1.out, W2.out, if_neg (Int.lt_irrefl _), if_neg (Int.lt_irrefl _)], by first | rfl | exact drewN_add _ _ _⟩
          case measure => simp [intOf]; omega
      · have hd2 : decide ((i : Int) < (b.size : Int)) = false := decide_eq_false (by omega)
        have HX := Lib.hid (show cmpL a.data.toList b.data.toList = if a.data.toList.length < b.data.toList.length then -1 else if b.data.toList.length < a.data.toList.length then 1 else 0 from by
          rw [← HCM.out]; exact cmpL_end (by rw [← lb.out]; omega) (by rw [← la.out]; exact hia) (by rw [← lb.out]; exact hib))
        go_wp2_with fail
        go_ret
        refine ⟨?_, q, rfl⟩
        rw [← HR.out, HX.out, ← la.out, ← lb.out, if_neg (by omega), if_pos (by omega)]
        rw [decide_eq_false (show ¬ a.size < b.size by omega)]; rfl
    · have hd : decide ((i : Int) < (a.size : Int)) = false := decide_eq_false (by omega)
      have HX := Lib.hid (show cmpL a.data.toList b.data.toList = if a.data.toList.length < b.data.toList.length then -1 else if b.data.toList.length < a.data.toList.length then 1 else 0 from by
        rw [← HCM.out]; exact cmpL_end (by rw [← la.out]; omega) (by rw [← la.out]; exact hia) (by rw [← lb.out]; exact hib))
      go_wp2_with fail
      go_ret
      refine ⟨?_, q, rfl⟩
      rw [← HR.out, HX.out, ← la.out, ← lb.out]
      by_cases g : a.size < b.size
      · rw [if_pos g, decide_eq_true g]; rfl
      · rw [if_neg g, if_neg (by omega), decide_eq_false g]; rfl
set_option maxRecDepth 100000 in
set_option maxHeartbeats 4000000 in
theorem compare_ok (a b : ByteArray) (w : World) (ha : a.size ≤ 9000000000000000000) (hb : b.size ≤ 9000000000000000000) : Calls Tryz.prog 36 #[.string a, .string b] w fun e w' => e = .returned (.int .i64 (cmpL a.data.toList b.data.toList)) ∧ ∃ q, w' = w.drewN q := by
  have HA := Lib.hid (fun (k : Nat) (c : UInt8) (h : a.data.toList[k]? = some c) (w : World) => index_at a k c h w)
  have HB := Lib.hid (fun (k : Nat) (c : UInt8) (h : b.data.toList[k]? = some c) (w : World) => index_at b k c h w)
  have la := Lib.hid (Lib.size_eq a)
  have lb := Lib.hid (Lib.size_eq b)
  obtain ⟨r, hr⟩ : ∃ r, cmpL a.data.toList b.data.toList = r := ⟨_, rfl⟩
  rw [hr]
  have HR := Lib.hid hr
  clear hr
  go_enter Tryz.func36, Tryz.ntmps36
  go_wp2_with fail
  go_loopw [6] (fun x wr => ∃ i q : Nat, x = .int .i64 (i : Int) ∧ i ≤ a.size ∧ i ≤ b.size ∧ cmpL (a.data.toList.drop i) (b.data.toList.drop i) = r ∧ wr = w.drewN q) (fun x _ => a.size - (intOf x).toNat)
  case atStart => exact ⟨0, 0, rfl, Nat.zero_le _, Nat.zero_le _, HR.out, rfl⟩
  case round =>
    obtain ⟨i, q, rfl, hia, hib, hcm, hwr⟩ := hrel
    have HW := Lib.hid hwr
    clear hwr
    have HCM := Lib.hid hcm
    clear hcm
    by_cases hla : i < a.size
    · have hd : decide ((i : Int) < (a.size : Int)) = true := decide_eq_true (by omega)
      by_cases hlb : i < b.size
      · have hd2 : decide ((i : Int) < (b.size : Int)) = true := decide_eq_true (by omega)
        have l1 : i < a.data.toList.length := by rw [← la.out]; exact hla
        have l2 : i < b.data.toList.length := by rw [← lb.out]; exact hlb
        obtain ⟨c, hc⟩ : ∃ c, a.data.toList[i] = c := ⟨_, rfl⟩
        obtain ⟨d, hd'⟩ : ∃ d, b.data.toList[i] = d := ⟨_, rfl⟩
        have ix1 := HA.out i c (by rw [List.getElem?_eq_getElem l1, hc])
        have ix2 := HB.out i d (by rw [List.getElem?_eq_getElem l2, hd'])
        have STEP := Lib.hid (show r = if wt c < wt d then -1 else if wt d < wt c then 1 else cmpL (a.data.toList.drop (i + 1)) (b.data.toList.drop (i + 1)) from by
          rw [← HCM.out, cmpL_drop l1 l2, hc, hd'])
        clear hc hd' l1 l2
        have CC0 := fun w => weight_ok c w
        have CD0 := fun w => weight_ok d w
        generalize wt c = x at *
        generalize wt d = y at *
        have CC := Lib.hid CC0
        have CD := Lib.hid CD0
        clear CC0 CD0
        by_cases h1 : x < y
        · have d1 : decide (x < y) = true := decide_eq_true h1
          go_wp2_with fail
          go_quiet ((go_at_call 66; first | exact Calls.quiet_of_same (CC.out _) | exact Calls.quiet_of_same (CD.out _)))
          go_wp2_with fail
          go_ret
          refine ⟨?_, _, by rw [HW.out]; first | rfl | exact drewN_add _ _ _⟩
          rw [STEP.out, if_pos h1]; rfl
        · have d1 : decide (x < y) = false := decide_eq_false h1
          by_cases h2 : y < x
          · have d2 : decide (x > y) = true := decide_eq_true h2
            have d3 : decide (y < x) = true := decide_eq_true h2
            go_wp2_with fail
            go_quiet ((go_at_call 66; first | exact Calls.quiet_of_same (CC.out _) | exact Calls.quiet_of_same (CD.out _)))
            go_wp2_with fail
            go_ret
            refine ⟨?_, _, by rw [HW.out]; first | rfl | exact drewN_add _ _ _⟩
            rw [STEP.out, if_neg (by omega), if_pos (by omega)]; rfl
          · have d2 : decide (x > y) = false := decide_eq_false h2
            have d3 : decide (y < x) = false := decide_eq_false h2
            go_wp2_with fail
            go_quiet ((go_at_call 66; first | exact Calls.quiet_of_same (CC.out _) | exact Calls.quiet_of_same (CD.out _)))
            go_wp2_with fail
            go_roundw
            case rel => exact ⟨i + 1, q + nq, by go_num, hla, hlb, by rw [STEP.out, if_neg (by omega), if_neg (by omega)], by rw [HW.out]; first | rfl | exact drewN_add _ _ _⟩
            case measure => simp [intOf]; omega
      · have hd2 : decide ((i : Int) < (b.size : Int)) = false := decide_eq_false (by omega)
        have e1 : decide ((a.size : Int) < (b.size : Int)) = false := decide_eq_false (by omega)
        have e2 : decide ((a.size : Int) > (b.size : Int)) = true := decide_eq_true (by omega)
        have e3 : decide ((b.size : Int) < (a.size : Int)) = true := decide_eq_true (by omega)
        have HX := Lib.hid (show r = if a.data.toList.length < b.data.toList.length then -1 else if b.data.toList.length < a.data.toList.length then 1 else 0 from by
          rw [← HCM.out]; exact cmpL_end (by rw [← lb.out]; omega) (by rw [← la.out]; exact hia) (by rw [← lb.out]; exact hib))
        go_wp2_with fail
        go_ret
        refine ⟨?_, q, HW.out⟩
        rw [HX.out, ← la.out, ← lb.out, if_neg (by omega), if_pos (by omega)]; rfl
    · have hd : decide ((i : Int) < (a.size : Int)) = false := decide_eq_false (by omega)
      have HX := Lib.hid (show r = if a.data.toList.length < b.data.toList.length then -1 else if b.data.toList.length < a.data.toList.length then 1 else 0 from by
        rw [← HCM.out]; exact cmpL_end (by rw [← la.out]; omega) (by rw [← la.out]; exact hia) (by rw [← lb.out]; exact hib))
      by_cases g : a.size < b.size
      · have e1 : decide ((a.size : Int) < (b.size : Int)) = true := decide_eq_true (by omega)
        go_wp2_with fail
        go_ret
        refine ⟨?_, q, HW.out⟩
        rw [HX.out, ← la.out, ← lb.out, if_pos g]; rfl
      · have e1 : decide ((a.size : Int) < (b.size : Int)) = false := decide_eq_false (by omega)
        have e2 : decide ((a.size : Int) > (b.size : Int)) = false := decide_eq_false (by omega)
        have e3 : decide ((b.size : Int) < (a.size : Int)) = false := decide_eq_false (by omega)
        go_wp2_with fail
        go_ret
        refine ⟨?_, q, HW.out⟩
        rw [HX.out, ← la.out, ← lb.out, if_neg g, if_neg (by omega)]; rfl
/-- the first error that is one. -/
def firstL : List Int → Int
  | [] => 0
  | x :: l => if x ≠ 0 then x else firstL l
set_option maxRecDepth 100000 in
set_option maxHeartbeats 4000000 in
theorem first_ok (g n : Nat) (l : List Int) (w : World) (hn : l.length = n) (hn2 : n ≤ 1000000) (h : ∀ (i : Nat) (v : Int), l[i]? = some v → w.cell? ⟨g, i, none⟩ = some (.int .i64 v)) : Calls Tryz.prog 11 #[sl g n n] w fun e w' => e = .returned (.int .i64 (firstL l)) ∧ w' = w := by
  have HC := Lib.hid h
  have HN := Lib.hid hn
  clear h hn
  obtain ⟨r, hr⟩ : ∃ r, firstL l = r := ⟨_, rfl⟩
  rw [hr]
  have HR := Lib.hid hr
  clear hr
  go_enter Tryz.func11, Tryz.ntmps11
  go_wp2_with fail
  go_loopw [7] (fun x wr => ∃ i : Nat, x = .int .i64 (i : Int) ∧ i ≤ n ∧ firstL (l.drop i) = r ∧ wr = w) (fun x _ => n - (intOf x).toNat)
  case atStart => exact ⟨0, rfl, Nat.zero_le _, HR.out, rfl⟩
  case round =>
    obtain ⟨i, rfl, hi, hf, rfl⟩ := hrel
    have HF := Lib.hid hf
    clear hf
    by_cases hlt : i < n
    · have hd : decide ((i : Int) < (n : Int)) = true := decide_eq_true (by omega)
      have hl : i < l.length := by rw [HN.out]; exact hlt
      obtain ⟨v, hv⟩ : ∃ v, l[i]? = some v := ⟨_, List.getElem?_eq_getElem hl⟩
      have hc := HC.out i v hv
      have HS := Lib.hid (show r = if v ≠ 0 then v else firstL (l.drop (i + 1)) from by
        rw [← HF.out, List.drop_eq_getElem_cons hl, (List.getElem?_eq_some_iff.1 hv).2]; rfl)
      clear hl hv
      cases h0 : (v != 0)
      · have hz := Lib.hid (show ¬ v ≠ 0 by simpa using h0)
        go_wp2_with fail
        go_roundw
        case rel => exact ⟨i + 1, by go_num, hlt, by rw [HS.out, if_neg hz.out], by first | trivial | rfl⟩
        case measure => simp [intOf]; omega
      · have hz := Lib.hid (show v ≠ 0 by simpa using h0)
        go_wp2_with fail
        go_ret
        exact ⟨by rw [HS.out, if_pos hz.out]; rfl, rfl⟩
    · have hd : decide ((i : Int) < (n : Int)) = false := decide_eq_false (by omega)
      go_wp2_with fail
      go_ret
      have : r = 0 := by rw [← HF.out, List.drop_eq_nil_of_le (by rw [HN.out]; omega)]; rfl
      exact ⟨by rw [this]; rfl, rfl⟩
end Go.Proofs.YtfcnmdmbkoekcaaGreatDoor
