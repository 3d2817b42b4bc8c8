import Derived.Test.YtoomhlbebifklaaGreatDoorXm
import Derived.Test.YtoomhlbebifklaaGreatDoorXl
import Derived.Test.YtoomhlbebifklaaGreatDoorAl
set_option linter.unusedVariables false
set_option linter.unusedSimpArgs false
namespace Go.Proofs.YtoomhlbebifklaaGreatDoor
open Go.RowKit
theorem two_keep {kb : Nat} {b : ByteArray} {w wx wy : World} (h : Below kb w wx ∧ wx.cell? ⟨kb, 1, none⟩ = some (.string b)) (hk : kb < wx.heap.size) (hb : Below wx.heap.size wx wy) : Below kb w wy ∧ wy.cell? ⟨kb, 1, none⟩ = some (.string b) :=
  ⟨h.1.trans (hb.mono (Nat.le_of_lt hk)), (hb.cell (p := ⟨kb, 1, none⟩) hk).trans h.2⟩
set_option maxRecDepth 100000 in
set_option maxHeartbeats 4000000 in
theorem sealName1_ok (a b c : ByteArray) (w : World) : Calls Tryz.prog 58 #[.agg (kC a b c), .int .i64 1, .string ⟨#[97]⟩] w fun e w' => ∃ t : ByteArray, e = .returned (.string t) ∧ t.size ≤ 255 ∧ Below w.heap.size w w' := by
  have hs : (⟨#[97]⟩ ++ ⟨#[46, 119]⟩ : ByteArray) = ⟨#[97, 46, 119]⟩ := by decide
  go_enter Tryz.func58, Tryz.ntmps58
  go_wp2_with fail
  go_ret
  exact ⟨_, rfl, by decide, by go_grown⟩
set_option maxRecDepth 100000 in
set_option maxHeartbeats 4000000 in
theorem sealName3_ok (a b c : ByteArray) (w : World) (hp : P10 w) (hc : c.size = 16) : Calls Tryz.prog 58 #[.agg (kC a b c), .int .i64 3, .string ⟨#[97]⟩] w fun e w' => ∃ t : ByteArray, e = .returned (.string t) ∧ t.size ≤ 255 ∧ Below w.heap.size w w' := by
  have HP := Lib.hid (fun wx (hb : Below w.heap.size w wx) => hp.below hb)
  clear hp
  have HT := Lib.hid (fun w => turns_ok a b c ⟨#[97]⟩ w hc (by decide))
  clear hc
  go_enter Tryz.func58, Tryz.ntmps58
  go_wp2_with fail
  have HB := Lib.hid ((Below.refl w.heap.size w).alloc (Nat.le_refl _) (.cells (kC a b c) 23))
  generalize (w.alloc (.cells (kC a b c) 23)) = w1 at *
  refine (HT.out _).mono ?_
  rintro e w2 ⟨n, rfl, hn, hb⟩
  have HB2 := Lib.hid (HB.out.trans (hb.mono HB.out.size))
  clear hb HB
  go_wp2_with fail
  refine (itoa_w n (by omega) w2 (HP.out _ HB2.out)).mono ?_
  rintro e w3 ⟨rfl, hb⟩
  have HB3 := Lib.hid (HB2.out.trans (hb.mono HB2.out.size))
  have hsz := (decS_size n (by omega)).2
  clear hb HB2
  generalize decS n = ds at *
  have hs1 : (ds ++ ⟨#[46]⟩).size ≤ 7 := by rw [ByteArray.size_append]; show ds.size + 1 ≤ 7; omega
  have hs2 : ds.size + 1 ≤ 7 := by omega
  generalize hd1 : ds ++ ⟨#[46]⟩ = d1 at *
  go_wp2_with fail
  refine (turned_ok n w3 hn).mono ?_
  rintro e w4 ⟨t, rfl, ht, hb⟩
  have HB4 := Lib.hid (HB3.out.trans (hb.mono HB3.out.size))
  have hs3 : d1.size + t.size ≤ 8 := by omega
  clear hb HB3
  have HS := Lib.hid (show (d1 ++ t).size ≤ 255 by rw [ByteArray.size_append]; omega)
  generalize hd2 : d1 ++ t = d2 at *
  go_wp2_with fail
  go_ret
  exact ⟨_, rfl, HS.out, HB4.out⟩
set_option maxRecDepth 100000 in
set_option maxHeartbeats 4000000 in
theorem sealName2_ok (a b c : ByteArray) (w : World) (g : Gl w) (hb0 : b.size = 32) (hc : c.size = 16) : Calls Tryz.prog 58 #[.agg (kC a b c), .int .i64 2, .string ⟨#[97]⟩] w fun e w' => ∃ t : ByteArray, e = .returned (.string t) ∧ t.size ≤ 255 ∧ Below w.heap.size w w' := by
  have HT := Lib.hid (fun wx (hb : Below w.heap.size w wx) => nameTag_ok a b c ⟨#[97]⟩ wx (g.below hb) hb0 hc (by decide))
  have HST := Lib.hid (fun (n : ByteArray) (hn : n.size = 12) w => Cha.stream53 b n ⟨#[97]⟩ 0 w hb0 hn (by decide) (by decide))
  clear hc g hb0
  go_enter Tryz.func58, Tryz.ntmps58
  go_wp2_with fail
  have HK := Lib.hid (Blk.new w 23 (kC a b c))
  have HB := Lib.hid ((Below.refl w.heap.size w).alloc (Nat.le_refl _) (.cells (kC a b c) 23))
  generalize (w.alloc (.cells (kC a b c) 23)) = w1 at *
  generalize hkb : w.heap.size = kb at *
  have HKB := Lib.hid hkb
  clear hkb
  refine (HT.out _ HB.out).mono ?_
  rintro e w2 ⟨t, rfl, ht, hb⟩
  have hk1 : w2.cell? ⟨kb, 1, none⟩ = some (.string b) := (HK.out.below hb HK.out.lt).cell 1
  have HKL := Lib.hid (show kb < w2.heap.size from (HK.out.below hb HK.out.lt).lt)
  have HB2 := Lib.hid (HB.out.trans (hb.mono (Nat.le_of_lt HK.out.lt)))
  clear hb HB HK
  have h12 : 12 ≤ t.size := by omega
  have h12i : (12 : Int) ≤ (t.size : Int) := by omega
  have HTS := Lib.hid ht
  obtain ⟨sm, hsm⟩ : ∃ sm, Cha.strmS b (t.extract 0 12) 0 ⟨#[97]⟩ = sm := ⟨_, rfl⟩
  have hs1 : sm.size = 1 := by rw [← hsm]; exact Cha.strB_size _ _
  have HN0 : ∀ w, Calls Tryz.prog 85 #[.string b, .string (t.extract 0 12), .int .u32 0, .string ⟨#[97]⟩] w fun e w' => e = .returned (.string sm) ∧ Below w.heap.size w w' := fun w => by
    rw [← hsm]
    exact HST.out (t.extract 0 12) (by simp; omega) w
  have HN := Lib.hid HN0
  have HE := Lib.hid (fun w => encode32_ok (t ++ sm) w (by rw [ByteArray.size_append]; omega))
  clear HN0 hsm HST
  have a1 : t.size + sm.size ≤ 9223372036854775807 := by omega
  have a2 : ¬ 9223372036854775807 < t.size + sm.size := by omega
  have a3 : t.size + sm.size ≤ maxLen := by unfold maxLen; omega
  have a4 : ¬ maxLen < t.size + sm.size := by unfold maxLen; omega
  clear ht hs1
  go_upto_region 6 with (fail)
  go_region_held3 (fun wx => Below kb w wx ∧ wx.cell? ⟨kb, 1, none⟩ = some (.string b))
    (first | assumption | exact two_keep ⟨HB2.out, hk1⟩ HKL.out ((Below.refl _ _).drew) | exact two_keep (by assumption) (by first | exact HKL.out | exact Nat.lt_of_lt_of_le HKL.out (by first | exact hb8.size)) hb8 | exact two_keep (by assumption) (Nat.lt_of_lt_of_le HKL.out hb8.size) hb9)
    (first | (go_at_call 85; refine (HN.out _).mono ?_; rintro e w8 ⟨rfl, hb8⟩) | (go_at_call 84; refine (HE.out _).mono ?_; rintro e w9 ⟨u, rfl, hu, hb9⟩))
  all_goals
    have HB8 := Lib.hid ((Cha.below_drew HB2.out).trans (hb8.mono (Nat.le_of_lt HKL.out)))
    have HB9 := Lib.hid (HB8.out.trans (hb9.mono (Nat.le_trans (Nat.le_of_lt HKL.out) hb8.size)))
    clear hb8 hb9
    go_wp2_with fail
    go_ret
    exact ⟨_, rfl, by omega, by rw [HKB.out]; exact HB9.out⟩
set_option maxRecDepth 100000 in
set_option maxHeartbeats 4000000 in
theorem sealIsName_ok (w : World) (g : Gl w) : Calls Tryz.prog 57 #[.string ⟨#[97]⟩] w fun e w' => e = .returned (.bool true) ∧ Below w.heap.size w w' := by
  have HC := Lib.hid (fun wx => Tryz.strings_Contains_one ⟨#[97]⟩ 47 wx)
  have e1 : decide (0 ≤ Lib.indexByte (⟨#[97]⟩ : ByteArray).data.toList 47) = false := by decide
  rw [e1] at HC
  have HK := Lib.hid (check_ok ⟨#[97]⟩ w g nm_a)
  clear e1 g
  go_enter Tryz.func57, Tryz.ntmps57
  go_wp2_with fail
  refine (HC.out _).mono ?_
  rintro e w1 ⟨rfl, rfl⟩
  go_wp2_with fail
  refine HK.out.mono ?_
  rintro e w2 ⟨rfl, hb⟩
  go_wp2_with fail
  go_ret
  exact ⟨rfl, hb⟩
/-- the error of keys and of a kind. -/
def kindE (a b c : ByteArray) (k : Int) : Int := if a.size ≠ 32 ∨ b.size ≠ 32 ∨ c.size ≠ 16 then 6 else if k < 1 ∨ k > 3 then 5 else 0
set_option maxRecDepth 100000 in
set_option maxHeartbeats 4000000 in
theorem checkKind_ok (a b c : ByteArray) (k : Int) (w : World) : Calls Tryz.prog 56 #[.agg (kC a b c), .int .i64 k] w fun e w' => e = .returned (.int .i64 (kindE a b c k)) ∧ Below w.heap.size w w' := by
  obtain ⟨v, hv⟩ : ∃ v : Int, kindE a b c k = v := ⟨_, rfl⟩
  rw [hv]
  have HK0 := fun w => checkKeys_ok a b c w
  by_cases hk : a.size ≠ 32 ∨ b.size ≠ 32 ∨ c.size ≠ 16
  · have h6 : v = 6 := by rw [← hv]; unfold kindE; rw [if_pos hk]
    subst h6
    rw [if_pos hk] at HK0
    have HK := Lib.hid HK0
    clear HK0 hv hk
    go_enter Tryz.func56, Tryz.ntmps56
    go_wp2_with fail
    have HB := Lib.hid ((Below.refl w.heap.size w).alloc (Nat.le_refl _) (.cells (kC a b c) 23))
    generalize (w.alloc (.cells (kC a b c) 23)) = w1 at *
    refine (HK.out _).mono ?_
    rintro e w2 ⟨rfl, hb⟩
    have HB2 := Lib.hid (HB.out.trans (hb.mono HB.out.size))
    clear hb
    go_wp2_with fail
    go_ret
    exact ⟨rfl, HB2.out⟩
  · rw [if_neg hk] at HK0
    have HK := Lib.hid HK0
    have hv2 : (if k < 1 ∨ k > 3 then (5 : Int) else 0) = v := by rw [← hv]; unfold kindE; rw [if_neg hk]
    have HV := Lib.hid hv2
    clear HK0 hv hk hv2
    cases h1 : decide (k < 1)
    · have g1 := of_decide_eq_false h1
      cases h2 : decide (k > 3)
      · have g2 := of_decide_eq_false h2
        go_enter Tryz.func56, Tryz.ntmps56
        go_wp2_with fail
        have HB := Lib.hid ((Below.refl w.heap.size w).alloc (Nat.le_refl _) (.cells (kC a b c) 23))
        generalize (w.alloc (.cells (kC a b c) 23)) = w1 at *
        refine (HK.out _).mono ?_
        rintro e w2 ⟨rfl, hb⟩
        have HB2 := Lib.hid (HB.out.trans (hb.mono HB.out.size))
        clear hb
        go_wp2_with fail
        go_ret
        exact ⟨by rw [← HV.out, if_neg (by omega)]; rfl, HB2.out⟩
      · have g2 := of_decide_eq_true h2
        go_enter Tryz.func56, Tryz.ntmps56
        go_wp2_with fail
        have HB := Lib.hid ((Below.refl w.heap.size w).alloc (Nat.le_refl _) (.cells (kC a b c) 23))
        generalize (w.alloc (.cells (kC a b c) 23)) = w1 at *
        refine (HK.out _).mono ?_
        rintro e w2 ⟨rfl, hb⟩
        have HB2 := Lib.hid (HB.out.trans (hb.mono HB.out.size))
        clear hb
        go_wp2_with fail
        go_ret
        exact ⟨by rw [← HV.out, if_pos (by omega)]; rfl, HB2.out⟩
    · have g1 := of_decide_eq_true h1
      go_enter Tryz.func56, Tryz.ntmps56
      go_wp2_with fail
      have HB := Lib.hid ((Below.refl w.heap.size w).alloc (Nat.le_refl _) (.cells (kC a b c) 23))
      generalize (w.alloc (.cells (kC a b c) 23)) = w1 at *
      refine (HK.out _).mono ?_
      rintro e w2 ⟨rfl, hb⟩
      have HB2 := Lib.hid (HB.out.trans (hb.mono HB.out.size))
      clear hb
      go_wp2_with fail
      go_ret
      exact ⟨by rw [← HV.out, if_pos (by omega)]; rfl, HB2.out⟩
set_option maxRecDepth 100000 in
set_option maxHeartbeats 4000000 in
theorem SealName_bad (a b c : ByteArray) (k v : Int) (w : World) (hk : kindE a b c k = v) (hv : v ≠ 0) : Calls Tryz.prog 30 #[.agg (kC a b c), .int .i64 k, .string ⟨#[97]⟩] w fun e w' => e = .returned (.tuple #[.string ⟨#[]⟩, .int .i64 v]) ∧ Below w.heap.size w w' := by
  have HK0 := fun w => checkKind_ok a b c k w
  rw [hk] at HK0
  have HK := Lib.hid HK0
  have hv1 : (v != 0) = true := by simpa using hv
  clear HK0 hk hv
  go_enter Tryz.func30, Tryz.ntmps30
  go_wp2_with fail
  have HB := Lib.hid ((Below.refl w.heap.size w).alloc (Nat.le_refl _) (.cells (kC a b c) 23))
  generalize (w.alloc (.cells (kC a b c) 23)) = w1 at *
  refine (HK.out _).mono ?_
  rintro e w2 ⟨rfl, hb⟩
  have HB2 := Lib.hid (HB.out.trans (hb.mono HB.out.size))
  clear hb
  go_wp2_with fail
  go_ret2
  exact ⟨rfl, HB2.out⟩
set_option maxRecDepth 100000 in
set_option maxHeartbeats 4000000 in
theorem SealName_good (a b c : ByteArray) (k : Int) (w : World) (g : Gl w) (hk : kindE a b c k = 0)
    (HS : ∀ wx, Below w.heap.size w wx → Calls Tryz.prog 58 #[.agg (kC a b c), .int .i64 k, .string ⟨#[97]⟩] wx fun e w' => ∃ t : ByteArray, e = .returned (.string t) ∧ t.size ≤ 255 ∧ Below wx.heap.size wx w') :
    Calls Tryz.prog 30 #[.agg (kC a b c), .int .i64 k, .string ⟨#[97]⟩] w fun e w' => ∃ t : ByteArray, e = .returned (.tuple #[.string t, .int .i64 0]) ∧ Below w.heap.size w w' := by
  have HK0 := fun w => checkKind_ok a b c k w
  rw [hk] at HK0
  have HK := Lib.hid HK0
  have HI := Lib.hid (fun wx (hb : Below w.heap.size w wx) => sealIsName_ok wx (g.below hb))
  have HS := Lib.hid HS
  clear HK0 hk g
  go_enter Tryz.func30, Tryz.ntmps30
  go_wp2_with fail
  have HKY := Lib.hid (Blk.new w 23 (kC a b c))
  have HB := Lib.hid ((Below.refl w.heap.size w).alloc (Nat.le_refl _) (.cells (kC a b c) 23))
  generalize (w.alloc (.cells (kC a b c) 23)) = w1 at *
  generalize hkb : w.heap.size = kb at *
  have HKB := Lib.hid hkb
  clear hkb
  refine (HK.out _).mono ?_
  rintro e w2 ⟨rfl, hb⟩
  have HKY2 := Lib.hid (HKY.out.below hb HKY.out.lt)
  have HB2 := Lib.hid (HB.out.trans (hb.mono (Nat.le_of_lt HKY.out.lt)))
  clear hb HB HKY
  go_wp2_with fail
  refine (HI.out _ HB2.out).mono ?_
  rintro e w3 ⟨rfl, hb⟩
  have hK3 := HKY2.out.below hb HKY2.out.lt
  have k0 : w3.cell? ⟨kb, 0, none⟩ = some (.string a) := hK3.cell 0
  have k1 : w3.cell? ⟨kb, 1, none⟩ = some (.string b) := hK3.cell 1
  have k2 : w3.cell? ⟨kb, 2, none⟩ = some (.string c) := hK3.cell 2
  have HB3 := Lib.hid (HB2.out.trans (hb.mono (Nat.le_of_lt HKY2.out.lt)))
  have hz3 := Lib.hid (Nat.le_of_lt hK3.lt)
  clear hb HB2 HKY2 hK3
  go_wp2_with fail
  refine (HS.out _ HB3.out).mono ?_
  rintro e w4 ⟨t, rfl, ht, hb⟩
  have HB4 := Lib.hid (HB3.out.trans (hb.mono hz3.out))
  have ht1 : ¬ (t.size : Int) > 255 := by omega
  have ht2 : decide ((t.size : Int) > 255) = false := decide_eq_false ht1
  clear hb HB3 k0 k1 k2
  go_wp2_with fail
  go_ret2
  exact ⟨_, rfl, by rw [HKB.out]; exact HB4.out⟩
end Go.Proofs.YtoomhlbebifklaaGreatDoor
