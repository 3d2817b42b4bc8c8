import Derived.Test.YtobiacdeoeogaaaGreatDoorAu
import Derived.Test.YtobiacdeoeogaaaGreatDoorAt
set_option linter.unusedVariables false
set_option linter.unusedSimpArgs false
namespace Go.Proofs.YtobiacdeoeogaaaGreatDoor
open Go.RowKit
theorem containsAny_zl (s : ByteArray) : Lib.containsAny s.data.toList zl = (hasB s 0 || hasB s 47) := by
  unfold hasB
  generalize s.data.toList = l
  cases h : Lib.containsAny l zl
  · have hn : ∀ b ∈ l, zl.contains b = false := by
      intro b hb
      cases hc : zl.contains b
      · rfl
      · exfalso
        obtain ⟨i, hi, he⟩ := List.mem_iff_getElem.1 hb
        -- the first hit
        have : ∀ n, n ≤ l.length → Lib.NoAny l zl n := by
          intro n
          induction n with
          | zero => intro _; exact Lib.NoAny.zero _ _
          | succ n ih =>
            intro hn
            have h1 := ih (by omega)
            have hx : l[n]? = some (l[n]'(by omega)) := List.getElem?_eq_getElem (by omega)
            cases hcn : zl.contains (l[n]'(by omega))
            · exact h1.succ hx hcn
            · have h2 := Lib.indexAny_hit h1 hx hcn
              unfold Lib.containsAny at h
              rw [h2] at h
              exact absurd h (by simp)
        have h3 := this l.length (Nat.le_refl _) i b hi (by rw [List.getElem?_eq_getElem hi, he])
        rw [hc] at h3
        cases h3
    have h0 : l.contains 0 = false := by
      cases e : l.contains 0
      · rfl
      · exact absurd (hn 0 (by simpa using e)) (by decide)
    have h4 : l.contains 47 = false := by
      cases e : l.contains 47
      · rfl
      · exact absurd (hn 47 (by simpa using e)) (by decide)
    rw [h0, h4]; rfl
  · cases h0 : l.contains 0 <;> cases h4 : l.contains 47
    · exfalso
      have hall : Lib.NoAny l zl l.length := by
        intro j b hj hb
        have hm := List.mem_of_getElem? hb
        have e0 : b ≠ 0 := by rintro rfl; simp at h0; exact h0 hm
        have e4 : b ≠ 47 := by rintro rfl; simp at h4; exact h4 hm
        simp [e0, e4]
      unfold Lib.containsAny at h
      rw [Lib.indexAny_none hall] at h
      exact absurd h (by decide)
    · rfl
    · rfl
    · rfl
set_option maxRecDepth 100000 in
set_option maxHeartbeats 4000000 in
theorem isName_any (s : ByteArray) (w : World) : Calls Tryz.prog 65 #[.string s] w fun e w' => e = .returned (.bool (nameB s)) ∧ Below w.heap.size w w' := by
  cases h1 : s.toList.isEmpty
  · by_cases h2 : s.size ≤ 255
    · have hd2 : decide ((s.size : Int) ≤ 255) = true := decide_eq_true (by omega)
      have hd2' : (s.size : Int) ≤ 255 := by omega
      cases h5 : (s.toList == [46])
      · cases h6 : (s.toList == [46, 46])
        · obtain ⟨c, hc⟩ : ∃ c, Lib.containsAny s.data.toList zl = c := ⟨_, rfl⟩
          have HC := Lib.hid (fun w => containsAny_any s (by omega) w)
          rw [hc] at HC
          have HN := Lib.hid (show nameB s = !c by
            rw [containsAny_zl] at hc
            unfold nameB
            rw [h1, h5, h6, decide_eq_true h2, ← hc]
            cases hasB s 0 <;> cases hasB s 47 <;> rfl)
          clear hc
          go_enter Tryz.func65, Tryz.ntmps65
          go_wp2_with fail
          refine (HC.out _).mono ?_
          rintro e w1 ⟨rfl, hb⟩
          go_wp2_with fail
          go_ret
          exact ⟨by rw [HN.out]; rfl, hb⟩
        · go_enter Tryz.func65, Tryz.ntmps65
          go_wp2_with fail
          go_ret
          exact ⟨by unfold nameB; rw [h1, h5, h6]; simp, Below.refl _ _⟩
      · go_enter Tryz.func65, Tryz.ntmps65
        go_wp2_with fail
        go_ret
        exact ⟨by unfold nameB; rw [h1, h5]; simp, Below.refl _ _⟩
    · have hd2 : decide ((s.size : Int) ≤ 255) = false := decide_eq_false (by omega)
      have hd2' : ¬ (s.size : Int) ≤ 255 := by omega
      go_enter Tryz.func65, Tryz.ntmps65
      go_wp2_with fail
      go_ret
      exact ⟨by unfold nameB; rw [h1, decide_eq_false h2]; rfl, Below.refl _ _⟩
  · go_enter Tryz.func65, Tryz.ntmps65
    go_wp2_with fail
    go_ret
    exact ⟨by unfold nameB; rw [h1]; rfl, Below.refl _ _⟩
theorem indexByte_no {s : ByteArray} (h : hasB s 47 = false) : Lib.indexByte s.data.toList 47 = -1 := by
  have h1 := Lib.contains_iff_indexByte s.data.toList 47
  unfold hasB at h
  rw [h] at h1
  have h2 := of_decide_eq_false h1.symm
  have h3 := Lib.indexByte_ge s.data.toList 47
  omega
theorem count_no {s : ByteArray} (h : hasB s 47 = false) : Lib.countB s ⟨#[47]⟩ = 0 :=
  Lib.countB_miss s _ ((Lib.index_one s.data.toList 47).trans (indexByte_no h))
/-- the split of a text without a slash is the text. -/
theorem split_any (s : ByteArray) (w : World) (g : Gl w) (hs : s.size ≤ 1024) (h : hasB s 47 = false) : Calls Tryz.prog 64 #[.string s, .string ⟨#[47]⟩] w fun e w' => e = .returned (.slice (some ⟨w.heap.size, 0, none⟩) 1 1) ∧ w' = w.alloc (.cells #[.string s] 9) := by
  obtain ⟨m, hm⟩ := g.max
  refine (Tryz.strings_Split s ⟨#[47]⟩ m w (by omega) hm (by decide)).mono fun e w' ⟨he, hw⟩ => ?_
  rw [count_no h] at he hw
  exact ⟨he, hw⟩
theorem nameB_big {s : ByteArray} (h : ¬ s.size ≤ 255) : nameB s = false := by
  unfold nameB
  rw [decide_eq_false h]
  simp
set_option maxRecDepth 100000 in
set_option maxHeartbeats 4000000 in
theorem check_one (s : ByteArray) (w : World) (g : Gl w) (hne : s.toList.isEmpty = false) (h : hasB s 47 = false) : Calls Tryz.prog 40 #[.string s] w fun e w' => e = .returned (.int .i64 (if nameB s then 0 else 1)) ∧ Below w.heap.size w w' := by
  by_cases hs : s.size ≤ 1024
  · have hd : ¬ (1024 : Int) < (s.size : Int) := by omega
    have hd' : decide ((1024 : Int) < (s.size : Int)) = false := decide_eq_false hd
    have HS := Lib.hid (split_any s w g hs h)
    have HN := Lib.hid (fun w => isName_any s w)
    clear h g
    cases hn : nameB s
    · rw [hn] at HN
      go_enter Tryz.func40, Tryz.ntmps40
      go_wp2_with fail
      refine HS.out.mono ?_
      rintro e w1 ⟨rfl, rfl⟩
      go_wp2_with fail
      refine wp_loop_rounds 2 ?_
      rw [rounds_succ]
      go_wp2_with fail
      refine (HN.out _).mono ?_
      rintro e w1 ⟨rfl, hb⟩
      go_wp2_with fail
      go_ret
      exact ⟨rfl, ((Below.refl w.heap.size w).alloc (Nat.le_refl _) _).trans (hb.mono (by simp))⟩
    · rw [hn] at HN
      go_enter Tryz.func40, Tryz.ntmps40
      go_wp2_with fail
      refine HS.out.mono ?_
      rintro e w1 ⟨rfl, rfl⟩
      go_wp2_with fail
      refine wp_loop_rounds 2 ?_
      rw [rounds_succ]
      go_wp2_with fail
      refine (HN.out _).mono ?_
      rintro e w1 ⟨rfl, hb⟩
      go_wp2_with fail
      rw [rounds_succ]
      go_wp2_with fail
      go_ret
      exact ⟨rfl, ((Below.refl w.heap.size w).alloc (Nat.le_refl _) _).trans (hb.mono (by simp))⟩
  · have hd : (1024 : Int) < (s.size : Int) := by omega
    have hd' : decide ((1024 : Int) < (s.size : Int)) = true := decide_eq_true hd
    rw [nameB_big (by omega)]
    go_enter Tryz.func40, Tryz.ntmps40
    go_wp2_with fail
    go_ret
    exact ⟨rfl, Below.refl _ _⟩
set_option maxRecDepth 100000 in
set_option maxHeartbeats 4000000 in
theorem oneName_ok (s : ByteArray) (w : World) : Calls Tryz.prog 39 #[.string s] w fun e w' => e = .returned (.bool (!s.toList.isEmpty && !hasB s 47)) ∧ w' = w := by
  have HC := Lib.hid (fun w => Tryz.strings_Contains_one s 47 w)
  have hc : decide (0 ≤ Lib.indexByte s.data.toList 47) = hasB s 47 := (Lib.contains_iff_indexByte s.data.toList 47).symm
  rw [hc] at HC
  clear hc
  cases h1 : s.toList.isEmpty
  · go_enter Tryz.func39, Tryz.ntmps39
    go_wp2_with fail
    refine (HC.out _).mono ?_
    rintro e w1 ⟨rfl, rfl⟩
    go_wp2_with fail
    go_ret
    exact ⟨rfl, rfl⟩
  · go_enter Tryz.func39, Tryz.ntmps39
    go_wp2_with fail
    go_ret
    exact ⟨rfl, rfl⟩
end Go.Proofs.YtobiacdeoeogaaaGreatDoor
