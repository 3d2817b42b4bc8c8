import Derived.Test.YtobiacdeoeogaaaGreatDoorAa
set_option linter.unusedVariables false
set_option linter.unusedSimpArgs false
namespace Go.Proofs.YtobiacdeoeogaaaGreatDoor
open Go.RowKit
/-- a byte stands in a text. -/
def hasB (s : ByteArray) (c : UInt8) : Bool := s.data.toList.contains c
/-- a text is a name. -/
def nameB (s : ByteArray) : Bool := !s.toList.isEmpty && (decide (s.size ≤ 255) && (!hasB s 0 && (!hasB s 47 && (!(s.toList == [46]) && !(s.toList == [46, 46])))))
/-- a small hexadecimal digit. -/
def hexB (b : UInt8) : Bool := (decide (48 ≤ b.toNat) && decide (b.toNat ≤ 57)) || (decide (97 ≤ b.toNat) && decide (b.toNat ≤ 102))
/-- a text is a digest. -/
def digB (s : ByteArray) : Bool := s.data.toList.all hexB && decide (s.size = 16)
theorem tk_snoc {l : List UInt8} {i : Nat} {b : UInt8} (h : l[i]? = some b) : l.take (i + 1) = l.take i ++ [b] := by
  have hi := (List.getElem?_eq_some_iff.1 h).1
  rw [List.take_succ_eq_append_getElem hi]
  rw [(List.getElem?_eq_some_iff.1 h).2]
set_option maxRecDepth 100000 in
set_option maxHeartbeats 4000000 in
theorem hasByte_ok (s : ByteArray) (c : UInt8) (w : World) (hs : s.size ≤ 9000000000000000000) : Calls Tryz.prog 43 #[.string s, .int .u8 (c.toNat : Int)] w fun e w' => e = .returned (.bool (hasB s c)) ∧ w' = w := by
  have HIX := Lib.hid (fun (k : Nat) (b : UInt8) (h : s.data.toList[k]? = some b) => index_at s k b h w)
  go_enter Tryz.func43, Tryz.ntmps43
  go_wp2_with fail
  go_loopw [8] (fun x wr => ∃ i : Nat, x = .int .i64 (i : Int) ∧ i ≤ s.size ∧ (s.data.toList.take i).contains c = false ∧ wr = w) (fun x _ => s.size - (intOf x).toNat)
  case atStart => exact ⟨0, rfl, Nat.zero_le _, by simp, rfl⟩
  case round =>
    obtain ⟨i, rfl, hi, hno, rfl⟩ := hrel
    have HNO := Lib.hid hno
    clear hno
    by_cases hlt : i < s.size
    · have hd : decide ((i : Int) < (s.size : Int)) = true := decide_eq_true (by omega)
      have hl : i < s.data.toList.length := by rw [← Lib.size_eq]; exact hlt
      obtain ⟨b, hb⟩ : ∃ b, s.data.toList[i]? = some b := ⟨_, List.getElem?_eq_getElem hl⟩
      have hix := HIX.out i b hb
      have HBB := Lib.hid hb
      clear hb hl
      cases hc : ((b.toNat : Int) == (c.toNat : Int))
      · have hne : b ≠ c := by rintro rfl; simp at hc
        have HNE := Lib.hid hne
        clear hne
        go_wp2_with fail
        go_roundw
        case rel =>
          refine ⟨i + 1, by go_num, hlt, ?_, by first | trivial | rfl⟩
          rw [tk_snoc HBB.out]
          have h1 := HNO.out
          have h2 := HNE.out
          simp at h1 ⊢
          exact ⟨h1, fun e => h2 e.symm⟩
        case measure => simp [intOf]; omega
      · have he : b = c := UInt8.toNat_inj.1 (by have := beq_iff_eq.1 hc; omega)
        have HE := Lib.hid he
        clear he
        go_wp2_with fail
        go_ret
        have : hasB s c = true := by
          unfold hasB
          rw [List.contains_iff_mem, ← HE.out]
          exact List.mem_of_getElem? HBB.out
        exact ⟨by rw [this]; rfl, rfl⟩
    · have hd : decide ((i : Int) < (s.size : Int)) = false := decide_eq_false (by omega)
      go_wp2_with fail
      go_ret
      have : hasB s c = false := by
        have h1 := HNO.out
        rw [List.take_of_length_le (by rw [← Lib.size_eq]; omega)] at h1
        exact h1
      exact ⟨by rw [this]; rfl, rfl⟩
set_option maxRecDepth 100000 in
set_option maxHeartbeats 4000000 in
theorem refIsName_ok (s : ByteArray) (w : World) : Calls Tryz.prog 16 #[.string s] w fun e w' => e = .returned (.bool (nameB s)) ∧ w' = w := by
  cases h1 : s.toList.isEmpty
  · by_cases h2 : s.size ≤ 255
    · have hd2 : decide ((s.size : Int) ≤ 255) = true := decide_eq_true (by omega)
      have hd2' : (s.size : Int) ≤ 255 := by omega
      cases h3 : hasB s 0
      · cases h4 : hasB s 47
        · cases h5 : (s.toList == [46])
          · cases h6 : (s.toList == [46, 46])
            · go_enter Tryz.func16, Tryz.ntmps16
              go_wp2_with (first | (refine (hasByte_ok s 0 w (by omega)).mono ?_; rintro e w1 ⟨rfl, rfl⟩; rw [h3]) | (refine (hasByte_ok s 47 _ (by omega)).mono ?_; rintro e w1 ⟨rfl, rfl⟩; rw [h4]))
              go_ret
              exact ⟨by unfold nameB; rw [h1, h3, h4, h5, h6, decide_eq_true h2]; rfl, rfl⟩
            · go_enter Tryz.func16, Tryz.ntmps16
              go_wp2_with (first | (refine (hasByte_ok s 0 w (by omega)).mono ?_; rintro e w1 ⟨rfl, rfl⟩; rw [h3]) | (refine (hasByte_ok s 47 _ (by omega)).mono ?_; rintro e w1 ⟨rfl, rfl⟩; rw [h4]))
              go_ret
              exact ⟨by unfold nameB; rw [h1, h3, h4, h5, h6, decide_eq_true h2]; rfl, rfl⟩
          · go_enter Tryz.func16, Tryz.ntmps16
            go_wp2_with (first | (refine (hasByte_ok s 0 w (by omega)).mono ?_; rintro e w1 ⟨rfl, rfl⟩; rw [h3]) | (refine (hasByte_ok s 47 _ (by omega)).mono ?_; rintro e w1 ⟨rfl, rfl⟩; rw [h4]))
            go_ret
            exact ⟨by unfold nameB; rw [h1, h3, h4, h5, decide_eq_true h2]; rfl, rfl⟩
        · go_enter Tryz.func16, Tryz.ntmps16
          go_wp2_with (first | (refine (hasByte_ok s 0 w (by omega)).mono ?_; rintro e w1 ⟨rfl, rfl⟩; rw [h3]) | (refine (hasByte_ok s 47 _ (by omega)).mono ?_; rintro e w1 ⟨rfl, rfl⟩; rw [h4]))
          go_ret
          exact ⟨by unfold nameB; rw [h1, h3, h4, decide_eq_true h2]; rfl, rfl⟩
      · go_enter Tryz.func16, Tryz.ntmps16
        go_wp2_with (refine (hasByte_ok s 0 w (by omega)).mono ?_; rintro e w1 ⟨rfl, rfl⟩; rw [h3])
        go_ret
        exact ⟨by unfold nameB; rw [h1, h3, decide_eq_true h2]; rfl, rfl⟩
    · have hd2 : decide ((s.size : Int) ≤ 255) = false := decide_eq_false (by omega)
      have hd2' : ¬ (s.size : Int) ≤ 255 := by omega
      go_enter Tryz.func16, Tryz.ntmps16
      go_wp2_with fail
      go_ret
      exact ⟨by unfold nameB; rw [h1, decide_eq_false h2]; rfl, rfl⟩
  · go_enter Tryz.func16, Tryz.ntmps16
    go_wp2_with fail
    go_ret
    exact ⟨by unfold nameB; rw [h1]; rfl, rfl⟩
end Go.Proofs.YtobiacdeoeogaaaGreatDoor

set_option linter.unusedVariables false
set_option linter.unusedSimpArgs false
namespace Go.Proofs.YtobiacdeoeogaaaGreatDoor
open Go.RowKit
theorem hdig_of {b : UInt8} (h : hexB b = true) : ∃ k, k < 16 ∧ hdig k = b := by
  unfold hexB at h
  rw [Bool.or_eq_true, Bool.and_eq_true, Bool.and_eq_true, decide_eq_true_iff, decide_eq_true_iff, decide_eq_true_iff, decide_eq_true_iff] at h
  rcases h with h | h
  · refine ⟨b.toNat - 48, by omega, ?_⟩
    apply UInt8.toNat_inj.1
    unfold hdig
    rw [if_pos (by omega), UInt8.toNat_ofNat']
    omega
  · refine ⟨b.toNat - 87, by omega, ?_⟩
    apply UInt8.toNat_inj.1
    unfold hdig
    rw [if_neg (by omega), UInt8.toNat_ofNat']
    omega
theorem hexB_hdig : ∀ k : Fin 16, hexB (hdig k) = true := by decide
set_option maxRecDepth 100000 in
set_option maxHeartbeats 4000000 in
theorem hexValue_ok (b : UInt8) (w : World) : Calls Tryz.prog 44 #[.int .u8 (b.toNat : Int)] w fun e w' => ∃ v : Int, e = .returned (.int .i64 v) ∧ decide (v < 0) = !hexB b ∧ w' = w := by
  have HIX := Lib.hid (fun (k : Nat) (h : k < 16) => hexIxI k h w)
  go_enter Tryz.func44, Tryz.ntmps44
  go_wp2_with fail
  go_loopw [4] (fun x wr => ∃ i : Nat, x = .int .i64 (i : Int) ∧ i ≤ 16 ∧ (∀ k, k < i → hdig k ≠ b) ∧ wr = w) (fun x _ => 16 - (intOf x).toNat)
  case atStart => exact ⟨0, rfl, by omega, fun k hk => absurd hk (Nat.not_lt_zero _), rfl⟩
  case round =>
    obtain ⟨i, rfl, hi, hno, rfl⟩ := hrel
    have HNO := Lib.hid hno
    clear hno
    by_cases hlt : i < 16
    · have hd : decide ((i : Int) < 16) = true := decide_eq_true (by omega)
      have hix := HIX.out i hlt
      cases hc : (((hdig i).toNat : Int) == (b.toNat : Int))
      · have HNE := Lib.hid (show hdig i ≠ b by rintro rfl; simp at hc)
        go_wp2_with fail
        go_roundw
        case rel =>
          refine ⟨i + 1, by go_num, hlt, ?_, by first | trivial | rfl⟩
          intro k hk
          by_cases hki : k = i
          · rw [hki]; exact HNE.out
          · exact HNO.out k (by omega)
        case measure => simp [intOf]; omega
      · have HE := Lib.hid (show hdig i = b from UInt8.toNat_inj.1 (by have := beq_iff_eq.1 hc; omega))
        go_wp2_with fail
        go_ret
        refine ⟨(i : Int), rfl, ?_, rfl⟩
        have h1 : hexB b = true := by rw [← HE.out]; exact hexB_hdig ⟨i, hlt⟩
        rw [h1]
        exact decide_eq_false (by omega)
    · have hd : decide ((i : Int) < 16) = false := decide_eq_false (by omega)
      go_wp2_with fail
      go_ret
      refine ⟨-1, rfl, ?_, rfl⟩
      have h1 : hexB b = false := by
        cases h : hexB b
        · rfl
        · obtain ⟨k, hk, e⟩ := hdig_of h
          exact absurd e (HNO.out k (by omega))
      rw [h1]
      rfl
theorem all_snoc {p : UInt8 → Bool} {l : List UInt8} {i : Nat} {b : UInt8} (h : l[i]? = some b) (ha : (l.take i).all p = true) (hb : p b = true) : (l.take (i + 1)).all p = true := by
  rw [tk_snoc h, List.all_append, ha]; simp [hb]
theorem all_not {p : UInt8 → Bool} {l : List UInt8} {i : Nat} {b : UInt8} (h : l[i]? = some b) (hb : p b = false) : l.all p = false := by
  cases he : l.all p
  · rfl
  · have := List.all_eq_true.1 he b (List.mem_of_getElem? h)
    rw [hb] at this
    cases this
set_option maxRecDepth 100000 in
set_option maxHeartbeats 4000000 in
theorem isHex_ok (s : ByteArray) (n : Int) (w : World) (hs : s.size ≤ 9000000000000000000) : Calls Tryz.prog 17 #[.string s, .int .i64 n] w fun e w' => e = .returned (.bool (s.data.toList.all hexB && ((s.size : Int) == n))) ∧ w' = w := by
  have HIX := Lib.hid (fun (k : Nat) (b : UInt8) (h : s.data.toList[k]? = some b) => index_at s k b h w)
  go_enter Tryz.func17, Tryz.ntmps17
  go_wp2_with fail
  go_loopw [8] (fun x wr => ∃ i : Nat, x = .int .i64 (i : Int) ∧ i ≤ s.size ∧ (s.data.toList.take i).all hexB = true ∧ wr = w) (fun x _ => s.size - (intOf x).toNat)
  case atStart => exact ⟨0, rfl, Nat.zero_le _, rfl, rfl⟩
  case round =>
    obtain ⟨i, rfl, hi, hno, rfl⟩ := hrel
    have HNO := Lib.hid hno
    clear hno
    by_cases hlt : i < s.size
    · have hd : decide ((i : Int) < (s.size : Int)) = true := decide_eq_true (by omega)
      have hl : i < s.data.toList.length := by rw [← Lib.size_eq]; exact hlt
      obtain ⟨b, hb⟩ : ∃ b, s.data.toList[i]? = some b := ⟨_, List.getElem?_eq_getElem hl⟩
      have hix := HIX.out i b hb
      have HBB := Lib.hid hb
      clear hb hl
      cases hc : hexB b
      · go_wp2_with fail
        refine (hexValue_ok b _).mono ?_
        rintro e w1 ⟨v, rfl, hv, rfl⟩
        rw [hc] at hv
        have hv1 : decide (v < 0) = true := hv
        have hv2 : v < 0 := of_decide_eq_true hv1
        clear hv
        go_wp2_with fail
        go_ret
        exact ⟨by rw [all_not HBB.out hc]; rfl, rfl⟩
      · go_wp2_with fail
        refine (hexValue_ok b _).mono ?_
        rintro e w1 ⟨v, rfl, hv, rfl⟩
        rw [hc] at hv
        have hv1 : decide (v < 0) = false := hv
        have hv2 : ¬ v < 0 := of_decide_eq_false hv1
        clear hv
        go_wp2_with fail
        go_roundw
        case rel => exact ⟨i + 1, by go_num, hlt, all_snoc HBB.out HNO.out hc, by first | trivial | rfl⟩
        case measure => simp [intOf]; omega
    · have hd : decide ((i : Int) < (s.size : Int)) = false := decide_eq_false (by omega)
      go_wp2_with fail
      go_ret
      have : s.data.toList.all hexB = true := by
        have h1 := HNO.out
        rw [List.take_of_length_le (by rw [← Lib.size_eq]; omega)] at h1
        exact h1
      exact ⟨by rw [this]; rfl, rfl⟩
set_option maxRecDepth 100000 in
set_option maxHeartbeats 4000000 in
theorem isDigest_ok (s : ByteArray) (w : World) (hs : s.size ≤ 9000000000000000000) : Calls Tryz.prog 41 #[.string s] w fun e w' => e = .returned (.bool (s.data.toList.all hexB && ((s.size : Int) == 16))) ∧ w' = w := by
  have HIX := Lib.hid (fun (k : Nat) (b : UInt8) (h : s.data.toList[k]? = some b) => index_at s k b h w)
  go_enter Tryz.func41, Tryz.ntmps41
  go_wp2_with fail
  go_loopw [7] (fun x wr => ∃ i : Nat, x = .int .i64 (i : Int) ∧ i ≤ s.size ∧ (s.data.toList.take i).all hexB = true ∧ wr = w) (fun x _ => s.size - (intOf x).toNat)
  case atStart => exact ⟨0, rfl, Nat.zero_le _, rfl, rfl⟩
  case round =>
    obtain ⟨i, rfl, hi, hno, rfl⟩ := hrel
    have HNO := Lib.hid hno
    clear hno
    by_cases hlt : i < s.size
    · have hd : decide ((i : Int) < (s.size : Int)) = true := decide_eq_true (by omega)
      have hl : i < s.data.toList.length := by rw [← Lib.size_eq]; exact hlt
      obtain ⟨b, hb⟩ : ∃ b, s.data.toList[i]? = some b := ⟨_, List.getElem?_eq_getElem hl⟩
      have hix := HIX.out i b hb
      have HBB := Lib.hid hb
      clear hb hl
      have hB : ∀ x, hexB b = x → hexB b = x := fun _ h => h
      have HD := Lib.hid (show hexB b = ((decide ((48 : Int) ≤ (b.toNat : Int)) && decide ((b.toNat : Int) ≤ 57)) || (decide ((97 : Int) ≤ (b.toNat : Int)) && decide ((b.toNat : Int) ≤ 102))) by
        unfold hexB
        rw [show decide (48 ≤ b.toNat) = decide ((48 : Int) ≤ (b.toNat : Int)) from by congr 1; simp; omega, show decide (b.toNat ≤ 57) = decide ((b.toNat : Int) ≤ 57) from by congr 1; simp; omega, show decide (97 ≤ b.toNat) = decide ((97 : Int) ≤ (b.toNat : Int)) from by congr 1; simp; omega, show decide (b.toNat ≤ 102) = decide ((b.toNat : Int) ≤ 102) from by congr 1; simp; omega])
      cases h1 : decide ((48 : Int) ≤ (b.toNat : Int)) <;> cases h2 : decide ((b.toNat : Int) ≤ 57) <;> cases h3 : decide ((97 : Int) ≤ (b.toNat : Int)) <;> cases h4 : decide ((b.toNat : Int) ≤ 102) <;>
      · have hx := HD.out
        rw [h1, h2, h3, h4] at hx
        have HX := Lib.hid hx
        clear hx
        go_wp2_with fail
        first
          | (go_ret; exact ⟨by rw [all_not HBB.out HX.out]; rfl, rfl⟩)
          | (go_roundw
             case rel => exact ⟨i + 1, by go_num, hlt, all_snoc HBB.out HNO.out HX.out, by first | trivial | rfl⟩
             case measure => simp [intOf]; omega)
    · have hd : decide ((i : Int) < (s.size : Int)) = false := decide_eq_false (by omega)
      go_wp2_with fail
      go_ret
      have : s.data.toList.all hexB = true := by
        have h1 := HNO.out
        rw [List.take_of_length_le (by rw [← Lib.size_eq]; omega)] at h1
        exact h1
      exact ⟨by rw [this]; rfl, rfl⟩
set_option maxRecDepth 100000 in
set_option maxHeartbeats 4000000 in
theorem within_ok (n lo hi : Int) (w : World) : Calls Tryz.prog 9 #[.int .i64 n, .int .i64 lo, .int .i64 hi] w fun e w' => e = .returned (.bool (decide (lo ≤ n) && decide (n ≤ hi))) ∧ w' = w := by
  cases h1 : decide (lo ≤ n) <;> cases h2 : decide (n ≤ hi) <;>
  · go_enter Tryz.func9, Tryz.ntmps9
    go_wp2_with fail
    go_ret
    exact ⟨rfl, rfl⟩
set_option maxRecDepth 100000 in
set_option maxHeartbeats 4000000 in
theorem when_ok (b : Bool) (n : Int) (w : World) : Calls Tryz.prog 8 #[.bool b, .int .i64 n] w fun e w' => e = .returned (.int .i64 (if b then n else 0)) ∧ w' = w := by
  cases b <;>
  · go_enter Tryz.func8, Tryz.ntmps8
    go_wp2_with fail
    go_ret
    exact ⟨rfl, rfl⟩
end Go.Proofs.YtobiacdeoeogaaaGreatDoor

set_option linter.unusedVariables false
set_option linter.unusedSimpArgs false
namespace Go.Proofs.YtobiacdeoeogaaaGreatDoor
open Go.RowKit
def nmL (l : List UInt8) : Bool := nameB ⟨l.toArray⟩
def dgL (l : List UInt8) : Bool := digB ⟨l.toArray⟩
set_option maxRecDepth 100000 in
set_option maxHeartbeats 4000000 in
theorem first3_ok (g : Nat) (a b c : Int) (w : World) (h : Blk w g 22 #[.int .i64 a, .int .i64 b, .int .i64 c]) : Calls Tryz.prog 7 #[sl g 3 3] w fun e w' => e = .returned (.int .i64 (if a ≠ 0 then a else if b ≠ 0 then b else c)) ∧ w' = w := by
  obtain ⟨v, hv⟩ : ∃ v, (if a ≠ 0 then a else if b ≠ 0 then b else c) = v := ⟨_, rfl⟩
  rw [hv]
  have HV := Lib.hid hv
  clear hv
  have c0 := h.cell 0
  have c1 := h.cell 1
  have c2 := h.cell 2
  simp at c0 c1 c2
  cases ha : (a != 0)
  · cases hb : (b != 0)
    · cases hc : (c != 0)
      · go_enter Tryz.func7, Tryz.ntmps7
        go_wp2_with fail
        go_rounds 4
        go_ret
        have ea : a = 0 := by simpa using ha
        have eb : b = 0 := by simpa using hb
        have ec : c = 0 := by simpa using hc
        have hx : (0 : Int) = v := by rw [← HV.out]; simp [ea, eb, ec]
        exact ⟨by rw [← hx]; rfl, rfl⟩
      · go_enter Tryz.func7, Tryz.ntmps7
        go_wp2_with fail
        go_rounds 4
        go_ret
        have ea : a = 0 := by simpa using ha
        have eb : b = 0 := by simpa using hb
        have hx : (c : Int) = v := by rw [← HV.out]; simp [ea, eb]
        exact ⟨by rw [← hx]; rfl, rfl⟩
    · go_enter Tryz.func7, Tryz.ntmps7
      go_wp2_with fail
      go_rounds 4
      go_ret
      have ea : a = 0 := by simpa using ha
      have eb : b ≠ 0 := by simpa using hb
      have hx : (b : Int) = v := by rw [← HV.out]; simp [ea, eb]
      exact ⟨by rw [← hx]; rfl, rfl⟩
  · go_enter Tryz.func7, Tryz.ntmps7
    go_wp2_with fail
    go_rounds 4
    go_ret
    have ea : a ≠ 0 := by simpa using ha
    have hx : a = v := by rw [← HV.out]; simp [ea]
    exact ⟨by rw [← hx]; rfl, rfl⟩
end Go.Proofs.YtobiacdeoeogaaaGreatDoor
