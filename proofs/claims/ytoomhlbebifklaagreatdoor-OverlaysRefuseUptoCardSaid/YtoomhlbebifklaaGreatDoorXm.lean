import Derived.Test.YtoomhlbebifklaaGreatDoorXk
import Derived.Test.YtoomhlbebifklaaGreatDoorVd
set_option linter.unusedVariables false
set_option linter.unusedSimpArgs false
namespace Go.Proofs.YtoomhlbebifklaaGreatDoor
open Go.RowKit
set_option maxRecDepth 100000 in
set_option maxHeartbeats 4000000 in
theorem turned1_ok (n tb : Nat) (w : World) (hn : n ≤ 255) (hc : w.cell? ⟨tb, 0, none⟩ = some (.int .i64 (n : Int))) : Calls Tryz.prog 110 #[.int .u8 97, .int .u8 97, .int .i64 26, pt tb] w fun e w' => ∃ b : Nat, e = .returned (.int .u8 (b : Int)) ∧ b < 256 ∧ w' = w := by
  obtain ⟨r, hr⟩ : ∃ r : Nat, r = (n % 26 + 26) % 26 := ⟨_, rfl⟩
  have h1 : ((n : Int) % 26 + 26) % 26 = (r : Int) := by omega
  have h2 : r < 26 := by omega
  have h3 : (r : Int) % 256 = (r : Int) := by omega
  clear hr
  go_enter Tryz.func110, Tryz.ntmps110
  go_wp2_with fail
  go_ret
  exact ⟨97 + r, by go_num, by omega, rfl⟩
set_option maxRecDepth 100000 in
set_option maxHeartbeats 4000000 in
theorem turned_ok (n : Nat) (w : World) (hn : n ≤ 255) : Calls Tryz.prog 88 #[.string ⟨#[97]⟩, .int .i64 (n : Int)] w fun e w' => ∃ t : ByteArray, e = .returned (.string t) ∧ t.size = 1 ∧ Below w.heap.size w w' := by
  go_enter Tryz.func88, Tryz.ntmps88
  go_upto_region 1 with (fail)
  have HC := Lib.hid (Blk.new w 3 #[.int .i64 (n : Int)])
  have HB := Lib.hid ((Below.refl w.heap.size w).alloc (Nat.le_refl _) (.cells #[.int .i64 (n : Int)] 3))
  generalize (w.alloc (.cells #[.int .i64 (n : Int)] 3)) = w1 at *
  generalize htb : w.heap.size = tb at *
  have HTB := Lib.hid htb
  clear htb
  have hcv := Cha.run_bytesOf w1 ⟨#[97]⟩
  have HB0 := Lib.hid (Cha.bytesOf_below w1 ⟨#[97]⟩)
  have HR0 := Lib.hid (Cha.bytesOf_row w1 ⟨#[97]⟩)
  have hs1 : (⟨#[97]⟩ : ByteArray).size = 1 := rfl
  rw [hs1] at hcv HR0
  generalize Cha.bytesOf w1 ⟨#[97]⟩ = w2 at *
  generalize grownCap w1 1 0 5 = cap at *
  have tbc := (HB0.out.cell (p := ⟨tb, 0, none⟩) HC.out.lt).trans (HC.out.cell 0)
  have C := Lib.hid (turned1_ok n tb w2 hn tbc)
  have c0 : w2.cell? ⟨w1.heap.size, 0, none⟩ = some (.int .u8 97) := (HR0.out.2 0 (by decide)).1
  have z0 : w2.frozen? ⟨w1.heap.size, 0, none⟩ = false := (HR0.out.2 0 (by decide)).2
  have HBx := Lib.hid (HB.out.trans (HB0.out.mono (Nat.le_of_lt HC.out.lt)))
  have htl := Lib.hid (show tb ≤ w1.heap.size from Nat.le_of_lt HC.out.lt)
  clear HB HB0 HC tbc hs1
  generalize w1.heap.size = g at *
  go_wp2_with fail
  refine wp_loop_rounds 2 ?_
  rw [rounds_succ]
  go_wp2_with fail
  refine C.out.mono ?_
  rintro e w3 ⟨b, rfl, hb, rfl⟩
  clear hcv
  go_wp2_with fail
  have HR1 := Lib.hid (HR0.out.set 0 b (by decide))
  have HB1 := Lib.hid (HBx.out.setCell (p := ⟨g, 0, none⟩) htl.out (.int .u8 (b : Int)))
  clear HR0 HBx c0 z0 C
  generalize (w3.setCell ⟨g, 0, none⟩ (.int .u8 (b : Int))) = w4 at *
  have hcv := Cha.conv_BR HR1.out cap
  generalize hst : Cha.strB 1 (Cha.upd (Cha.at8 ⟨#[97]⟩) 0 b) = st at *
  have HST := Lib.hid (show st.size = 1 by rw [← hst]; exact Cha.strB_size _ _)
  clear hst
  rw [rounds_succ]
  go_wp2_with fail
  go_ret
  exact ⟨_, rfl, HST.out, by rw [HTB.out]; exact HB1.out⟩
set_option maxRecDepth 100000 in
set_option maxHeartbeats 4000000 in
theorem turns_ok (a b c s : ByteArray) (w : World) (hc : c.size = 16) (hs : s.size ≤ 255) : Calls Tryz.prog 86 #[.agg (kC a b c), .string s] w fun e w' => ∃ n : Nat, e = .returned (.int .i64 (n : Int)) ∧ n ≤ 255 ∧ Below w.heap.size w w' := by
  have HX1 := Lib.hid (fun (k : Nat) (b : UInt8) (h : s.data.toList[k]? = some b) w => index_at s k b h w)
  have HX2 := Lib.hid (fun (k : Nat) (b : UInt8) (h : c.data.toList[k]? = some b) w => index_at c k b h w)
  have HL1 := Lib.hid (Lib.size_eq s)
  have HL2 := Lib.hid (Lib.size_eq c)
  have hc0 : (c.size : Int) = 16 := by omega
  have HC := Lib.hid hc
  clear hc
  go_enter Tryz.func86, Tryz.ntmps86
  go_upto_region 3 with (fail)
  have HB := Lib.hid (((Below.refl w.heap.size w).alloc (Nat.le_refl _) (.cells (kC a b c) 23)).alloc (by simp) (.cells #[.string s, .string c] 9))
  have HK := Lib.hid (show Blk ((w.alloc (.cells (kC a b c) 23)).alloc (.cells #[.string s, .string c] 9)) (w.heap.size + 1) 9 #[.string s, .string c] from Blk.newAt (by simp))
  generalize ((w.alloc (.cells (kC a b c) 23)).alloc (.cells #[.string s, .string c] 9)) = w1 at *
  generalize w.heap.size + 1 = kb at *
  have k0 : w1.cell? ⟨kb, 0, none⟩ = some (.string s) := HK.out.cell 0
  have k1 : w1.cell? ⟨kb, 1, none⟩ = some (.string c) := HK.out.cell 1
  refine wp_loop_rounds 3 ?_
  rw [rounds_succ]
  go_wp2_with fail
  go_loopw [5, 20] (fun t x wr => ∃ i v : Nat, x = .int .i64 (i : Int) ∧ t = .int .i64 (v : Int) ∧ i ≤ s.size ∧ v ≤ 255 * i ∧ wr = w1) (fun _ x _ => s.size - (intOf x).toNat)
  case atStart => exact ⟨0, 0, rfl, rfl, Nat.zero_le _, by omega, rfl⟩
  case round =>
    obtain ⟨i, v, rfl, rfl, hi, hv, rfl⟩ := hrel
    by_cases hlt : i < s.size
    · have hd : decide ((i : Int) < (s.size : Int)) = true := decide_eq_true (by omega)
      obtain ⟨y, hy⟩ : ∃ y, s.data.toList[i]? = some y := ⟨_, List.getElem?_eq_getElem (by rw [← HL1.out]; exact hlt)⟩
      have hix := HX1.out i y hy
      have hyl := y.toNat_lt
      clear hy
      generalize y.toNat = z at *
      go_wp2_with fail
      go_roundw
      case rel => exact ⟨i + 1, v + z, by go_num, by go_num, by omega, by omega, by first | trivial | rfl⟩
      case measure => simp [intOf]; omega
    · have hd : decide ((i : Int) < (s.size : Int)) = false := decide_eq_false (by omega)
      have hv2 : v ≤ 65025 := by omega
      clear hv
      go_wp2_with fail
      rw [rounds_succ]
      go_wp2_with fail
      go_loopw [5, 20] (fun t x wx => ∃ j u : Nat, x = .int .i64 (j : Int) ∧ t = .int .i64 (u : Int) ∧ j ≤ 16 ∧ u ≤ 65025 + 255 * j ∧ wx = wr) (fun _ x _ => 16 - (intOf x).toNat)
      case atStart => exact ⟨0, v, rfl, rfl, Nat.zero_le _, by omega, rfl⟩
      case round =>
        obtain ⟨j, u, rfl, rfl, hj, hu, rfl⟩ := hrel
        by_cases hlt2 : j < 16
        · have hd2 : decide ((j : Int) < 16) = true := decide_eq_true (by omega)
          obtain ⟨y, hy⟩ : ∃ y, c.data.toList[j]? = some y := ⟨_, List.getElem?_eq_getElem (by rw [← HL2.out, HC.out]; exact hlt2)⟩
          have hix := HX2.out j y hy
          have hyl := y.toNat_lt
          clear hy
          generalize y.toNat = z at *
          go_wp2_with fail
          go_roundw
          case rel => exact ⟨j + 1, u + z, by go_num, by go_num, by omega, by omega, by first | trivial | rfl⟩
          case measure => simp [intOf]; omega
        · have hd2 : decide ((j : Int) < 16) = false := decide_eq_false (by omega)
          obtain ⟨n, hn⟩ : ∃ n : Nat, (u : Int) % 256 = (n : Int) := ⟨u % 256, by omega⟩
          have hnl : n ≤ 255 := by omega
          go_wp2_with fail
          rw [rounds_succ]
          go_wp2_with fail
          go_ret
          exact ⟨n, by rw [← hn]; rfl, hnl, HB.out⟩
set_option maxRecDepth 100000 in
set_option maxHeartbeats 4000000 in
theorem checkKeys_ok (a b c : ByteArray) (w : World) : Calls Tryz.prog 82 #[.agg (kC a b c)] w fun e w' => e = .returned (.int .i64 (if a.size ≠ 32 ∨ b.size ≠ 32 ∨ c.size ≠ 16 then 6 else 0)) ∧ Below w.heap.size w w' := by
  obtain ⟨v, hv⟩ : ∃ v : Int, (if a.size ≠ 32 ∨ b.size ≠ 32 ∨ c.size ≠ 16 then (6 : Int) else 0) = v := ⟨_, rfl⟩
  rw [hv]
  have HV := Lib.hid hv
  clear hv
  cases h1 : ((a.size : Int) != 32)
  · cases h2 : ((b.size : Int) != 32)
    · cases h3 : ((c.size : Int) != 16)
      · go_enter Tryz.func82, Tryz.ntmps82
        go_wp2_with fail
        go_ret
        exact ⟨by rw [← HV.out, if_neg (by simp at h1 h2 h3; omega)]; rfl, by go_grown⟩
      · go_enter Tryz.func82, Tryz.ntmps82
        go_wp2_with fail
        go_ret
        exact ⟨by rw [← HV.out, if_pos (by simp at h3; omega)]; rfl, by go_grown⟩
    · go_enter Tryz.func82, Tryz.ntmps82
      go_wp2_with fail
      go_ret
      exact ⟨by rw [← HV.out, if_pos (by simp at h2; omega)]; rfl, by go_grown⟩
  · go_enter Tryz.func82, Tryz.ntmps82
    go_wp2_with fail
    go_ret
    exact ⟨by rw [← HV.out, if_pos (by simp at h1; omega)]; rfl, by go_grown⟩
set_option maxRecDepth 100000 in
set_option maxHeartbeats 4000000 in
theorem keysError_ok (a b c : ByteArray) (w : World) : Calls Tryz.prog 14 #[.agg (kC a b c)] w fun e w' => e = .returned (.int .i64 (if a.size ≠ 32 ∨ b.size ≠ 32 ∨ c.size ≠ 16 then 6 else 0)) ∧ Below w.heap.size w w' := by
  obtain ⟨v, hv⟩ : ∃ v : Int, (if a.size ≠ 32 ∨ b.size ≠ 32 ∨ c.size ≠ 16 then (6 : Int) else 0) = v := ⟨_, rfl⟩
  rw [hv]
  have HV := Lib.hid hv
  clear hv
  cases h1 : ((a.size : Int) != 32)
  · cases h2 : ((b.size : Int) != 32)
    · cases h3 : ((c.size : Int) != 16)
      · go_enter Tryz.func14, Tryz.ntmps14
        go_wp2_with fail
        go_ret
        exact ⟨by rw [← HV.out, if_neg (by simp at h1 h2 h3; omega)]; rfl, by go_grown⟩
      · go_enter Tryz.func14, Tryz.ntmps14
        go_wp2_with fail
        go_ret
        exact ⟨by rw [← HV.out, if_pos (by simp at h3; omega)]; rfl, by go_grown⟩
    · go_enter Tryz.func14, Tryz.ntmps14
      go_wp2_with fail
      go_ret
      exact ⟨by rw [← HV.out, if_pos (by simp at h2; omega)]; rfl, by go_grown⟩
  · go_enter Tryz.func14, Tryz.ntmps14
    go_wp2_with fail
    go_ret
    exact ⟨by rw [← HV.out, if_pos (by simp at h1; omega)]; rfl, by go_grown⟩
end Go.Proofs.YtoomhlbebifklaaGreatDoor
