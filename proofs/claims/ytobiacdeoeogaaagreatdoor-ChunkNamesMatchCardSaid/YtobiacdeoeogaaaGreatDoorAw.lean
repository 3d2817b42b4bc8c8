import Derived.Test.YtobiacdeoeogaaaGreatDoorAv
set_option linter.unusedVariables false
set_option linter.unusedSimpArgs false
namespace Go.Proofs.YtobiacdeoeogaaaGreatDoor
open Go.RowKit
/-- the table of powers of ten is as laid. -/
def P10 (w : World) : Prop := Lib.TabIs Tryz.prog w "internal/strconv.uint64pow10" .u64 Lib.pow10Tab
theorem P10.below {w w' : World} (h : P10 w) (hb : Below w.heap.size w w') : P10 w' := by
  have hg : Tryz.prog.globalNamed "internal/strconv.uint64pow10" = some 3 := by kernel_rfl
  unfold P10 Lib.TabIs World.var? at h ⊢
  rw [hg] at h ⊢
  simp only [Option.bind_some] at h ⊢
  have hlt : 3 < w.heap.size := by
    rcases Nat.lt_or_ge 3 w.heap.size with h' | h'
    · exact h'
    · rw [Array.getElem?_eq_none h'] at h; cases h
  rw [hb.block _ hlt]
  exact h
theorem below_grow' (w : World) (k : Nat) (os : Array Obj) : Below w.heap.size w (Sort.grow (w.drewN k) os) :=
  (((Kp.refl [] w).drewN k).below (Nat.le_refl _) (by simp)).trans ⟨rfl, rfl, rfl, by simp [Sort.grow], fun i hi => by
    have h1 : i < (w.drewN k).heap.size := Nat.lt_of_lt_of_le hi (((Kp.refl [] w).drewN k).size)
    simp [Sort.grow, Array.getElem?_append, h1]; omega⟩
/-- the digits of a number. -/
abbrev decS (n : Nat) : ByteArray := ⟨(Lib.decDigits n).toArray⟩
theorem itoa_w (n : Nat) (hn : n ≤ 999999) (w : World) (hp : P10 w) : Calls Tryz.prog 45 #[.int .i64 (n : Int)] w fun e w' => e = .returned (.string (decS n)) ∧ Below w.heap.size w w' := by
  refine (Tryz.strconv_Itoa (n : Int) (by omega) (by omega) w hp).mono ?_
  rintro e w' ⟨rfl, k, os, rfl⟩
  refine ⟨?_, below_grow' w k os⟩
  have : Lib.itoa (n : Int) = Lib.decDigits n := by unfold Lib.itoa; rw [if_neg (by omega)]; rfl
  rw [this]
theorem decS_size (n : Nat) (hn : n ≤ 999999) : 1 ≤ (decS n).size ∧ (decS n).size ≤ 6 := by
  have h1 : (decS n).size = (Lib.decDigits n).length := by simp [ByteArray.size]
  rw [h1, Lib.decDigits_length]
  refine ⟨Lib.nDigits_pos n, ?_⟩
  by_cases h2 : n < 10
  · rw [Lib.nDigits_small h2]; omega
  rw [Lib.nDigits_big h2]
  by_cases h3 : n / 10 < 10
  · rw [Lib.nDigits_small h3]; omega
  rw [Lib.nDigits_big h3]
  by_cases h4 : n / 10 / 10 < 10
  · rw [Lib.nDigits_small h4]; omega
  rw [Lib.nDigits_big h4]
  by_cases h5 : n / 10 / 10 / 10 < 10
  · rw [Lib.nDigits_small h5]; omega
  rw [Lib.nDigits_big h5]
  by_cases h6 : n / 10 / 10 / 10 / 10 < 10
  · rw [Lib.nDigits_small h6]; omega
  rw [Lib.nDigits_big h6, Lib.nDigits_small (by omega)]; omega
/-- the name of a chunk. -/
def chunkS (name digest : ByteArray) (n : Nat) : ByteArray := ⟨(chunkL name.data.toList digest.data.toList n).toArray⟩
theorem six_of (n : Nat) (hn : n ≤ 999999) : List.replicate (6 - (decS n).size) 48 ++ (decS n).data.toList = six n := by
  have h1 : (decS n).size = (Lib.decDigits n).length := by simp [ByteArray.size]
  rw [h1]
  exact pad6_eq n hn
theorem rep_zero (k : Nat) : Lib.repeatL (⟨#[48]⟩ : ByteArray).data.toList k = List.replicate k 48 := by
  have := Lib.repeatL_replicate 48 1 k
  rw [Nat.mul_one] at this
  exact this
set_option maxRecDepth 100000 in
set_option maxHeartbeats 4000000 in
theorem chunkName_ok (name digest : ByteArray) (n : Nat) (hn : n ≤ 999999) (h1 : name.size ≤ 1000) (h2 : digest.size ≤ 16) (w : World) (hp : P10 w) : Calls Tryz.prog 42 #[.string name, .string digest, .int .i64 (n : Int)] w fun e w' => e = .returned (.string (chunkS name digest n)) ∧ Below w.heap.size w w' := by
  obtain ⟨d1, d2⟩ := decS_size n hn
  have HR := Lib.hid (fun w => Tryz.strings_Repeat ⟨#[48]⟩ (6 - (decS n).size) w (by omega) (by show 1 * _ ≤ _; omega))
  rw [rep_zero] at HR
  have H6 := Lib.hid (six_of n hn)
  have HI := Lib.hid (itoa_w n hn w hp)
  have hz : (6 : Int) - ((decS n).size : Int) = ((6 - (decS n).size : Nat) : Int) := by omega
  have hzs : (⟨(List.replicate (6 - (decS n).size) 48).toArray⟩ : ByteArray).size = 6 - (decS n).size := by simp [ByteArray.size]
  have HZ := Lib.hid (show (⟨(List.replicate (6 - (decS n).size) 48).toArray⟩ : ByteArray).data.toList = List.replicate (6 - (decS n).size) 48 by simp)
  clear hp
  generalize decS n = ds at *
  generalize hk : 6 - ds.size = k at *
  have hk6 : k ≤ 5 := by omega
  generalize (⟨(List.replicate k 48).toArray⟩ : ByteArray) = zz at *
  have s1 : name.size + 4 ≤ 1004 := by omega
  have s2 : (name ++ ⟨#[46, 119, 99, 46]⟩).size + digest.size ≤ 1020 := by rw [ByteArray.size_append]; show name.size + 4 + _ ≤ _; omega
  have s3 : (name ++ ⟨#[46, 119, 99, 46]⟩ ++ digest).size + 1 ≤ 1021 := by rw [ByteArray.size_append, ByteArray.size_append]; show name.size + 4 + _ + _ ≤ _; omega
  have s4 : (name ++ ⟨#[46, 119, 99, 46]⟩ ++ digest ++ ⟨#[46]⟩).size + zz.size ≤ 1027 := by rw [ByteArray.size_append, ByteArray.size_append, ByteArray.size_append]; show name.size + 4 + _ + 1 + _ ≤ _; omega
  have s5 : (name ++ ⟨#[46, 119, 99, 46]⟩ ++ digest ++ ⟨#[46]⟩ ++ zz).size + ds.size ≤ 1033 := by rw [ByteArray.size_append, ByteArray.size_append, ByteArray.size_append, ByteArray.size_append]; show name.size + 4 + _ + 1 + _ + _ ≤ _; omega
  go_enter Tryz.func42, Tryz.ntmps42
  go_wp2_with fail
  refine HI.out.mono ?_
  rintro e w1 ⟨rfl, hb⟩
  go_wp2_with fail
  refine (HR.out _).mono ?_
  rintro e w2 ⟨rfl, hb2⟩
  go_wp2_with fail
  go_ret
  have he : name ++ ⟨#[46, 119, 99, 46]⟩ ++ digest ++ ⟨#[46]⟩ ++ zz ++ ds = chunkS name digest n := bytes_eq (by
    unfold chunkS chunkL
    rw [← H6.out, ← HZ.out]
    simp [ByteArray.data_append])
  exact ⟨by rw [← he]; rfl, hb.trans (hb2.mono hb.size)⟩
theorem chunkS_size (name digest : ByteArray) (n : Nat) : (chunkS name digest n).size = name.size + 4 + digest.size + 7 := by
  have h1 : ∀ l : List UInt8, (⟨l.toArray⟩ : ByteArray).size = l.length := fun l => by simp [ByteArray.size]
  have h6 : (six n).length = 6 := rfl
  unfold chunkS
  rw [h1]
  unfold chunkL
  rw [List.length_append, List.length_append, List.length_append, List.length_append, h6, ← Lib.size_eq, ← Lib.size_eq]
  show name.size + 4 + digest.size + 1 + 6 = _
  omega
/-- how ChunkName ends. -/
def ckN (name digest : ByteArray) (number : Int) : ByteArray × Int :=
  if nameB name = false then (⟨#[]⟩, 2)
  else if (digest.data.toList.all hexB && ((digest.size : Int) == 16)) = false then (⟨#[]⟩, 6)
  else if number < 0 ∨ 999999 < number then (⟨#[]⟩, 7)
  else if 255 < (chunkS name digest number.toNat).size then (⟨#[]⟩, 8)
  else (chunkS name digest number.toNat, 0)
set_option maxRecDepth 100000 in
set_option maxHeartbeats 4000000 in
theorem ChunkName_ok (name digest : ByteArray) (number : Int) (hds : digest.size ≤ 9000000000000000000) (w : World) (g : Gl w) (hp : P10 w) : Calls Tryz.prog 15 #[.string name, .string digest, .int .i64 number] w fun e w' => e = .returned (.tuple #[.string (ckN name digest number).1, .int .i64 (ckN name digest number).2]) ∧ Below w.heap.size w w' := by
  have HO := Lib.hid (fun w => oneName_ok name w)
  have HD := Lib.hid (fun w => isDigest_ok digest w hds)
  cases h1 : name.toList.isEmpty
  · cases h2 : hasB name 47
    · have HC := Lib.hid (check_one name w g h1 h2)
      rw [h1, h2] at HO
      cases h3 : nameB name
      · rw [h3] at HC
        have hr : ckN name digest number = (⟨#[]⟩, 2) := by unfold ckN; rw [if_pos h3]
        rw [hr]
        go_enter Tryz.func15, Tryz.ntmps15
        go_wp2_with fail
        refine (HO.out _).mono ?_
        rintro e w1 ⟨rfl, rfl⟩
        go_wp2_with fail
        refine HC.out.mono ?_
        rintro e w2 ⟨rfl, hb⟩
        go_wp2_with fail
        go_ret2
        exact ⟨rfl, hb⟩
      · rw [h3] at HC
        cases h4 : (digest.data.toList.all hexB && ((digest.size : Int) == 16))
        · rw [h4] at HD
          have hr : ckN name digest number = (⟨#[]⟩, 6) := by unfold ckN; rw [if_neg (by rw [h3]; simp), if_pos h4]
          rw [hr]
          go_enter Tryz.func15, Tryz.ntmps15
          go_wp2_with fail
          refine (HO.out _).mono ?_
          rintro e w1 ⟨rfl, rfl⟩
          go_wp2_with fail
          refine HC.out.mono ?_
          rintro e w2 ⟨rfl, hb⟩
          go_wp2_with fail
          refine (HD.out _).mono ?_
          rintro e w3 ⟨rfl, rfl⟩
          go_wp2_with fail
          go_ret2
          exact ⟨rfl, hb⟩
        · have hd16 : digest.size ≤ 16 := by
            have := (Bool.and_eq_true _ _ ▸ h4 : _ ∧ _).2
            have := beq_iff_eq.1 this
            omega
          have hns : name.size ≤ 255 := by
            rcases Nat.lt_or_ge 255 name.size with h | h
            · rw [nameB_big (by omega)] at h3; cases h3
            · exact h
          rw [h4] at HD
          by_cases h5 : number < 0 ∨ 999999 < number
          · have hr : ckN name digest number = (⟨#[]⟩, 7) := by unfold ckN; rw [if_neg (by rw [h3]; simp), if_neg (by rw [h4]; simp), if_pos h5]
            rw [hr]
            cases h6 : decide (number < 0)
            · have h7 : decide (999999 < number) = true := decide_eq_true (by have := of_decide_eq_false h6; omega)
              have h7' : 999999 < number := of_decide_eq_true h7
              have h6' : ¬ number < 0 := of_decide_eq_false h6
              clear h5
              go_enter Tryz.func15, Tryz.ntmps15
              go_wp2_with fail
              refine (HO.out _).mono ?_
              rintro e w1 ⟨rfl, rfl⟩
              go_wp2_with fail
              refine HC.out.mono ?_
              rintro e w2 ⟨rfl, hb⟩
              go_wp2_with fail
              refine (HD.out _).mono ?_
              rintro e w3 ⟨rfl, rfl⟩
              go_wp2_with fail
              go_ret2
              exact ⟨rfl, hb⟩
            · have h6' : number < 0 := of_decide_eq_true h6
              clear h5
              go_enter Tryz.func15, Tryz.ntmps15
              go_wp2_with fail
              refine (HO.out _).mono ?_
              rintro e w1 ⟨rfl, rfl⟩
              go_wp2_with fail
              refine HC.out.mono ?_
              rintro e w2 ⟨rfl, hb⟩
              go_wp2_with fail
              refine (HD.out _).mono ?_
              rintro e w3 ⟨rfl, rfl⟩
              go_wp2_with fail
              go_ret2
              exact ⟨rfl, hb⟩
          · obtain ⟨n, rfl⟩ : ∃ n : Nat, number = (n : Int) := ⟨number.toNat, by omega⟩
            have hn : n ≤ 999999 := by omega
            have h6 : decide ((n : Int) < 0) = false := decide_eq_false (by omega)
            have h7 : decide ((999999 : Int) < (n : Int)) = false := decide_eq_false (by omega)
            have h6' : ¬ (n : Int) < 0 := by omega
            have h7' : ¬ (999999 : Int) < (n : Int) := by omega
            have HK := Lib.hid (fun wx (hb : Below w.heap.size w wx) => chunkName_ok name digest n hn (by omega) hd16 wx (hp.below hb))
            have hsz := chunkS_size name digest n
            by_cases h8 : 255 < (chunkS name digest n).size
            · have hr : ckN name digest (n : Int) = (⟨#[]⟩, 8) := by unfold ckN; rw [if_neg (by rw [h3]; simp), if_neg (by rw [h4]; simp), if_neg h5, Int.toNat_natCast, if_pos h8]
              rw [hr]
              generalize chunkS name digest n = cs at *
              have h9 : decide ((255 : Int) < (cs.size : Int)) = true := decide_eq_true (by omega)
              have h9' : (255 : Int) < (cs.size : Int) := by omega
              clear h5 hsz
              go_enter Tryz.func15, Tryz.ntmps15
              go_wp2_with fail
              refine (HO.out _).mono ?_
              rintro e w1 ⟨rfl, rfl⟩
              go_wp2_with fail
              refine HC.out.mono ?_
              rintro e w2 ⟨rfl, hb⟩
              go_wp2_with fail
              refine (HD.out _).mono ?_
              rintro e w3 ⟨rfl, rfl⟩
              go_wp2_with fail
              refine (HK.out _ hb).mono ?_
              rintro e w4 ⟨rfl, hb4⟩
              go_wp2_with fail
              go_ret2
              exact ⟨rfl, hb.trans (hb4.mono hb.size)⟩
            · have hr : ckN name digest (n : Int) = (chunkS name digest n, 0) := by unfold ckN; rw [if_neg (by rw [h3]; simp), if_neg (by rw [h4]; simp), if_neg h5, Int.toNat_natCast, if_neg h8]
              rw [hr]
              generalize chunkS name digest n = cs at *
              have h9 : decide ((255 : Int) < (cs.size : Int)) = false := decide_eq_false (by omega)
              have h9' : ¬ (255 : Int) < (cs.size : Int) := by omega
              clear h5 hsz
              go_enter Tryz.func15, Tryz.ntmps15
              go_wp2_with fail
              refine (HO.out _).mono ?_
              rintro e w1 ⟨rfl, rfl⟩
              go_wp2_with fail
              refine HC.out.mono ?_
              rintro e w2 ⟨rfl, hb⟩
              go_wp2_with fail
              refine (HD.out _).mono ?_
              rintro e w3 ⟨rfl, rfl⟩
              go_wp2_with fail
              refine (HK.out _ hb).mono ?_
              rintro e w4 ⟨rfl, hb4⟩
              go_wp2_with fail
              go_ret2
              exact ⟨rfl, hb.trans (hb4.mono hb.size)⟩
    · rw [h1, h2] at HO
      have hr : ckN name digest number = (⟨#[]⟩, 2) := by
        unfold ckN
        rw [if_pos (by unfold nameB; rw [h2]; simp)]
      rw [hr]
      go_enter Tryz.func15, Tryz.ntmps15
      go_wp2_with fail
      refine (HO.out _).mono ?_
      rintro e w1 ⟨rfl, rfl⟩
      go_wp2_with fail
      go_ret2
      exact ⟨rfl, Below.refl _ _⟩
  · rw [h1] at HO
    have hr : ckN name digest number = (⟨#[]⟩, 2) := by
      unfold ckN
      rw [if_pos (by unfold nameB; rw [h1]; rfl)]
    rw [hr]
    go_enter Tryz.func15, Tryz.ntmps15
    go_wp2_with fail
    refine (HO.out _).mono ?_
    rintro e w1 ⟨rfl, rfl⟩
    go_wp2_with fail
    go_ret2
    exact ⟨rfl, Below.refl _ _⟩
end Go.Proofs.YtobiacdeoeogaaaGreatDoor
