import Derived.Test.YtpjnjhklkgefcaaGreatDoorAu
import Derived.Test.YtpjnjhklkgefcaaGreatDoorAa
set_option linter.unusedVariables false
set_option linter.unusedSimpArgs false
namespace Go.Proofs.YtpjnjhklkgefcaaGreatDoor
open Go.RowKit
/-- a byte stands in a text. -/
def hasB (s : ByteArray) (c : UInt8) : Bool := s.data.toList.contains c
/-- a text is a name. -/
def nameB (s : ByteArray) : Bool := !s.toList.isEmpty && (decide (s.size ≤ 255) && (!hasB s 0 && (!hasB s 47 && (!(s.toList == [46]) && !(s.toList == [46, 46])))))
theorem tk_snoc {l : List UInt8} {i : Nat} {b : UInt8} (h : l[i]? = some b) : l.take (i + 1) = l.take i ++ [b] := by
  have hi := (List.getElem?_eq_some_iff.1 h).1
  rw [List.take_succ_eq_append_getElem hi]
  rw [(List.getElem?_eq_some_iff.1 h).2]
set_option maxRecDepth 100000 in
set_option maxHeartbeats 4000000 in
theorem hasByte_ok (s : ByteArray) (c : UInt8) (w : World) (hs : s.size ≤ 9000000000000000000) : Calls Tryz.prog 37 #[.string s, .int .u8 (c.toNat : Int)] w fun e w' => e = .returned (.bool (hasB s c)) ∧ w' = w := by
  have HIX := Lib.hid (fun (k : Nat) (b : UInt8) (h : s.data.toList[k]? = some b) => index_at s k b h w)
  go_enter Tryz.func37, Tryz.ntmps37
  go_wp2_with fail
  go_loopw [8] (fun x wr => ∃ i : Nat, x = .int .i64 (i : Int) ∧ i ≤ s.size ∧ (s.data.toList.take i).contains c = false ∧ wr = w) (fun x _ => s.size - (intOf x).toNat)
  case atStart => exact ⟨0, rfl, Nat.zero_le _, by simp, rfl⟩
  case round =>
    obtain ⟨i, rfl, hi, hno, rfl⟩ := hrel
    have HNO := Lib.hid hno
    clear hno
    by_cases hlt : i < s.size
    · have hd : decide ((i : Int) < (s.size : Int)) = true := decide_eq_true (by omega)
      have hl : i < s.data.toList.length := by rw [← Lib.size_eq]; exact hlt
      obtain ⟨b, hb⟩ : ∃ b, s.data.toList[i]? = some b := ⟨_, List.getElem?_eq_getElem hl⟩
      have hix := HIX.out i b hb
      have HBB := Lib.hid hb
      clear hb hl
      cases hc : ((b.toNat : Int) == (c.toNat : Int))
      · have hne : b ≠ c := by rintro rfl; simp at hc
        have HNE := Lib.hid hne
        clear hne
        go_wp2_with fail
        go_roundw
        case rel =>
          refine ⟨i + 1, by go_num, hlt, ?_, by first | trivial | rfl⟩
          rw [tk_snoc HBB.out]
          have h1 := HNO.out
          have h2 := HNE.out
          simp at h1 ⊢
          exact ⟨h1, fun e => h2 e.symm⟩
        case measure => simp [intOf]; omega
      · have he : b = c := UInt8.toNat_inj.1 (by have := beq_iff_eq.1 hc; omega)
        have HE := Lib.hid he
        clear he
        go_wp2_with fail
        go_ret
        have : hasB s c = true := by
          unfold hasB
          rw [List.contains_iff_mem, ← HE.out]
          exact List.mem_of_getElem? HBB.out
        exact ⟨by rw [this]; rfl, rfl⟩
    · have hd : decide ((i : Int) < (s.size : Int)) = false := decide_eq_false (by omega)
      go_wp2_with fail
      go_ret
      have : hasB s c = false := by
        have h1 := HNO.out
        rw [List.take_of_length_le (by rw [← Lib.size_eq]; omega)] at h1
        exact h1
      exact ⟨by rw [this]; rfl, rfl⟩
set_option maxRecDepth 100000 in
set_option maxHeartbeats 4000000 in
theorem refIsName_ok (s : ByteArray) (w : World) : Calls Tryz.prog 14 #[.string s] w fun e w' => e = .returned (.bool (nameB s)) ∧ w' = w := by
  cases h1 : s.toList.isEmpty
  · by_cases h2 : s.size ≤ 255
    · have hd2 : decide ((s.size : Int) ≤ 255) = true := decide_eq_true (by omega)
      have hd2' : (s.size : Int) ≤ 255 := by omega
      cases h3 : hasB s 0
      · cases h4 : hasB s 47
        · cases h5 : (s.toList == [46])
          · cases h6 : (s.toList == [46, 46])
            · go_enter Tryz.func14, Tryz.ntmps14
              go_wp2_with (first | (refine (hasByte_ok s 0 w (by omega)).mono ?_; rintro e w1 ⟨rfl, rfl⟩; rw [h3]) | (refine (hasByte_ok s 47 _ (by omega)).mono ?_; rintro e w1 ⟨rfl, rfl⟩; rw [h4]))
              go_ret
              exact ⟨by unfold nameB; rw [h1, h3, h4, h5, h6, decide_eq_true h2]; rfl, rfl⟩
            · go_enter Tryz.func14, Tryz.ntmps14
              go_wp2_with (first | (refine (hasByte_ok s 0 w (by omega)).mono ?_; rintro e w1 ⟨rfl, rfl⟩; rw [h3]) | (refine (hasByte_ok s 47 _ (by omega)).mono ?_; rintro e w1 ⟨rfl, rfl⟩; rw [h4]))
              go_ret
              exact ⟨by unfold nameB; rw [h1, h3, h4, h5, h6, decide_eq_true h2]; rfl, rfl⟩
          · go_enter Tryz.func14, Tryz.ntmps14
            go_wp2_with (first | (refine (hasByte_ok s 0 w (by omega)).mono ?_; rintro e w1 ⟨rfl, rfl⟩; rw [h3]) | (refine (hasByte_ok s 47 _ (by omega)).mono ?_; rintro e w1 ⟨rfl, rfl⟩; rw [h4]))
            go_ret
            exact ⟨by unfold nameB; rw [h1, h3, h4, h5, decide_eq_true h2]; rfl, rfl⟩
        · go_enter Tryz.func14, Tryz.ntmps14
          go_wp2_with (first | (refine (hasByte_ok s 0 w (by omega)).mono ?_; rintro e w1 ⟨rfl, rfl⟩; rw [h3]) | (refine (hasByte_ok s 47 _ (by omega)).mono ?_; rintro e w1 ⟨rfl, rfl⟩; rw [h4]))
          go_ret
          exact ⟨by unfold nameB; rw [h1, h3, h4, decide_eq_true h2]; rfl, rfl⟩
      · go_enter Tryz.func14, Tryz.ntmps14
        go_wp2_with (refine (hasByte_ok s 0 w (by omega)).mono ?_; rintro e w1 ⟨rfl, rfl⟩; rw [h3])
        go_ret
        exact ⟨by unfold nameB; rw [h1, h3, decide_eq_true h2]; rfl, rfl⟩
    · have hd2 : decide ((s.size : Int) ≤ 255) = false := decide_eq_false (by omega)
      have hd2' : ¬ (s.size : Int) ≤ 255 := by omega
      go_enter Tryz.func14, Tryz.ntmps14
      go_wp2_with fail
      go_ret
      exact ⟨by unfold nameB; rw [h1, decide_eq_false h2]; rfl, rfl⟩
  · go_enter Tryz.func14, Tryz.ntmps14
    go_wp2_with fail
    go_ret
    exact ⟨by unfold nameB; rw [h1]; rfl, rfl⟩
end Go.Proofs.YtpjnjhklkgefcaaGreatDoor

set_option linter.unusedVariables false
set_option linter.unusedSimpArgs false
namespace Go.Proofs.YtpjnjhklkgefcaaGreatDoor
open Go.RowKit
set_option maxRecDepth 100000 in
set_option maxHeartbeats 4000000 in
theorem within_ok (n lo hi : Int) (w : World) : Calls Tryz.prog 24 #[.int .i64 n, .int .i64 lo, .int .i64 hi] w fun e w' => e = .returned (.bool (decide (lo ≤ n) && decide (n ≤ hi))) ∧ w' = w := by
  cases h1 : decide (lo ≤ n) <;> cases h2 : decide (n ≤ hi) <;>
  · go_enter Tryz.func24, Tryz.ntmps24
    go_wp2_with fail
    go_ret
    exact ⟨rfl, rfl⟩
set_option maxRecDepth 100000 in
set_option maxHeartbeats 4000000 in
theorem when_ok (b : Bool) (n : Int) (w : World) : Calls Tryz.prog 6 #[.bool b, .int .i64 n] w fun e w' => e = .returned (.int .i64 (if b then n else 0)) ∧ w' = w := by
  cases b <;>
  · go_enter Tryz.func6, Tryz.ntmps6
    go_wp2_with fail
    go_ret
    exact ⟨rfl, rfl⟩
set_option maxRecDepth 100000 in
set_option maxHeartbeats 4000000 in
theorem first3_ok (g : Nat) (a b c : Int) (w : World) (h : Blk w g 26 #[.int .i64 a, .int .i64 b, .int .i64 c]) : Calls Tryz.prog 13 #[sl g 3 3] w fun e w' => e = .returned (.int .i64 (if a ≠ 0 then a else if b ≠ 0 then b else c)) ∧ w' = w := by
  obtain ⟨v, hv⟩ : ∃ v, (if a ≠ 0 then a else if b ≠ 0 then b else c) = v := ⟨_, rfl⟩
  rw [hv]
  have HV := Lib.hid hv
  clear hv
  have c0 := h.cell 0
  have c1 := h.cell 1
  have c2 := h.cell 2
  simp at c0 c1 c2
  cases ha : (a != 0)
  · cases hb : (b != 0)
    · cases hc : (c != 0)
      · go_enter Tryz.func13, Tryz.ntmps13
        go_wp2_with fail
        go_rounds 4
        go_ret
        have ea : a = 0 := by simpa using ha
        have eb : b = 0 := by simpa using hb
        have ec : c = 0 := by simpa using hc
        have hx : (0 : Int) = v := by rw [← HV.out]; simp [ea, eb, ec]
        exact ⟨by rw [← hx]; rfl, rfl⟩
      · go_enter Tryz.func13, Tryz.ntmps13
        go_wp2_with fail
        go_rounds 4
        go_ret
        have ea : a = 0 := by simpa using ha
        have eb : b = 0 := by simpa using hb
        have hx : (c : Int) = v := by rw [← HV.out]; simp [ea, eb]
        exact ⟨by rw [← hx]; rfl, rfl⟩
    · go_enter Tryz.func13, Tryz.ntmps13
      go_wp2_with fail
      go_rounds 4
      go_ret
      have ea : a = 0 := by simpa using ha
      have eb : b ≠ 0 := by simpa using hb
      have hx : (b : Int) = v := by rw [← HV.out]; simp [ea, eb]
      exact ⟨by rw [← hx]; rfl, rfl⟩
  · go_enter Tryz.func13, Tryz.ntmps13
    go_wp2_with fail
    go_rounds 4
    go_ret
    have ea : a ≠ 0 := by simpa using ha
    have hx : a = v := by rw [← HV.out]; simp [ea]
    exact ⟨by rw [← hx]; rfl, rfl⟩
set_option maxRecDepth 100000 in
set_option maxHeartbeats 4000000 in
theorem first2_ok (g : Nat) (a b : Int) (w : World) (h : Blk w g 26 #[.int .i64 a, .int .i64 b]) : Calls Tryz.prog 13 #[sl g 2 2] w fun e w' => e = .returned (.int .i64 (if a ≠ 0 then a else b)) ∧ w' = w := by
  obtain ⟨v, hv⟩ : ∃ v, (if a ≠ 0 then a else b) = v := ⟨_, rfl⟩
  rw [hv]
  have HV := Lib.hid hv
  clear hv
  have c0 := h.cell 0
  have c1 := h.cell 1
  simp at c0 c1
  cases ha : (a != 0)
  · cases hb : (b != 0)
    · go_enter Tryz.func13, Tryz.ntmps13
      go_wp2_with fail
      go_rounds 3
      go_ret
      have ea : a = 0 := by simpa using ha
      have eb : b = 0 := by simpa using hb
      have hx : (0 : Int) = v := by rw [← HV.out]; simp [ea, eb]
      exact ⟨by rw [← hx]; rfl, rfl⟩
    · go_enter Tryz.func13, Tryz.ntmps13
      go_wp2_with fail
      go_rounds 3
      go_ret
      have ea : a = 0 := by simpa using ha
      have hx : (b : Int) = v := by rw [← HV.out]; simp [ea]
      exact ⟨by rw [← hx]; rfl, rfl⟩
  · go_enter Tryz.func13, Tryz.ntmps13
    go_wp2_with fail
    go_rounds 3
    go_ret
    have ea : a ≠ 0 := by simpa using ha
    have hx : a = v := by rw [← HV.out]; simp [ea]
    exact ⟨by rw [← hx]; rfl, rfl⟩
theorem containsAny_zl (s : ByteArray) : Lib.containsAny s.data.toList zl = (hasB s 0 || hasB s 47) := by
  unfold hasB
  generalize s.data.toList = l
  cases h : Lib.containsAny l zl
  · have hn : ∀ b ∈ l, zl.contains b = false := by
      intro b hb
      cases hc : zl.contains b
      · rfl
      · exfalso
        obtain ⟨i, hi, he⟩ := List.mem_iff_getElem.1 hb
        -- the first hit
        have : ∀ n, n ≤ l.length → Lib.NoAny l zl n := by
          intro n
          induction n with
          | zero => intro _; exact Lib.NoAny.zero _ _
          | succ n ih =>
            intro hn
            have h1 := ih (by omega)
            have hx : l[n]? = some (l[n]'(by omega)) := List.getElem?_eq_getElem (by omega)
            cases hcn : zl.contains (l[n]'(by omega))
            · exact h1.succ hx hcn
            · have h2 := Lib.indexAny_hit h1 hx hcn
              unfold Lib.containsAny at h
              rw [h2] at h
              exact absurd h (by simp)
        have h3 := this l.length (Nat.le_refl _) i b hi (by rw [List.getElem?_eq_getElem hi, he])
        rw [hc] at h3
        cases h3
    have h0 : l.contains 0 = false := by
      cases e : l.contains 0
      · rfl
      · exact absurd (hn 0 (by simpa using e)) (by decide)
    have h4 : l.contains 47 = false := by
      cases e : l.contains 47
      · rfl
      · exact absurd (hn 47 (by simpa using e)) (by decide)
    rw [h0, h4]; rfl
  · cases h0 : l.contains 0 <;> cases h4 : l.contains 47
    · exfalso
      have hall : Lib.NoAny l zl l.length := by
        intro j b hj hb
        have hm := List.mem_of_getElem? hb
        have e0 : b ≠ 0 := by rintro rfl; simp at h0; exact h0 hm
        have e4 : b ≠ 47 := by rintro rfl; simp at h4; exact h4 hm
        simp [e0, e4]
      unfold Lib.containsAny at h
      rw [Lib.indexAny_none hall] at h
      exact absurd h (by decide)
    · rfl
    · rfl
    · rfl
set_option maxRecDepth 100000 in
set_option maxHeartbeats 4000000 in
theorem isName_any (s : ByteArray) (w : World) : Calls Tryz.prog 88 #[.string s] w fun e w' => e = .returned (.bool (nameB s)) ∧ Below w.heap.size w w' := by
  cases h1 : s.toList.isEmpty
  · by_cases h2 : s.size ≤ 255
    · have hd2 : decide ((s.size : Int) ≤ 255) = true := decide_eq_true (by omega)
      have hd2' : (s.size : Int) ≤ 255 := by omega
      cases h5 : (s.toList == [46])
      · cases h6 : (s.toList == [46, 46])
        · obtain ⟨c, hc⟩ : ∃ c, Lib.containsAny s.data.toList zl = c := ⟨_, rfl⟩
          have HC := Lib.hid (fun w => containsAny_any s (by omega) w)
          rw [hc] at HC
          have HN := Lib.hid (show nameB s = !c by
            rw [containsAny_zl] at hc
            unfold nameB
            rw [h1, h5, h6, decide_eq_true h2, ← hc]
            cases hasB s 0 <;> cases hasB s 47 <;> rfl)
          clear hc
          go_enter Tryz.func88, Tryz.ntmps88
          go_wp2_with fail
          refine (HC.out _).mono ?_
          rintro e w1 ⟨rfl, hb⟩
          go_wp2_with fail
          go_ret
          exact ⟨by rw [HN.out]; rfl, hb⟩
        · go_enter Tryz.func88, Tryz.ntmps88
          go_wp2_with fail
          go_ret
          exact ⟨by unfold nameB; rw [h1, h5, h6]; simp, Below.refl _ _⟩
      · go_enter Tryz.func88, Tryz.ntmps88
        go_wp2_with fail
        go_ret
        exact ⟨by unfold nameB; rw [h1, h5]; simp, Below.refl _ _⟩
    · have hd2 : decide ((s.size : Int) ≤ 255) = false := decide_eq_false (by omega)
      have hd2' : ¬ (s.size : Int) ≤ 255 := by omega
      go_enter Tryz.func88, Tryz.ntmps88
      go_wp2_with fail
      go_ret
      exact ⟨by unfold nameB; rw [h1, decide_eq_false h2]; rfl, Below.refl _ _⟩
  · go_enter Tryz.func88, Tryz.ntmps88
    go_wp2_with fail
    go_ret
    exact ⟨by unfold nameB; rw [h1]; rfl, Below.refl _ _⟩
end Go.Proofs.YtpjnjhklkgefcaaGreatDoor
