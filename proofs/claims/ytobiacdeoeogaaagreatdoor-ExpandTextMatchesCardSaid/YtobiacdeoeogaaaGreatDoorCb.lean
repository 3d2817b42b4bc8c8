import Derived.Test.YtobiacdeoeogaaaGreatDoorBf
import Derived.Test.YtobiacdeoeogaaaGreatDoorBx
import Derived.Laws.AppendOwn
set_option linter.unusedVariables false
set_option linter.unusedSimpArgs false
namespace Go.Proofs.YtobiacdeoeogaaaGreatDoor
open Go.RowKit
set_option maxRecDepth 100000 in
set_option maxHeartbeats 4000000 in
theorem four_ok (x : Int) (w : World) : Calls Tryz.prog 36 #[.int .u32 x] w fun e w' => e = .returned (.string ⟨(wordB x).toArray⟩) ∧ Below w.heap.size w w' := by
  have h1 := byteI_eq (x / 16777216)
  have h2 := byteI_eq (x / 65536)
  have h3 := byteI_eq (x / 256)
  have h4 := byteI_eq x
  have HV := Lib.hid (show wordB x = [byteI (x / 16777216), byteI (x / 65536), byteI (x / 256), byteI x] from rfl)
  generalize byteI (x / 16777216) = b1 at *
  generalize byteI (x / 65536) = b2 at *
  generalize byteI (x / 256) = b3 at *
  generalize byteI x = b4 at *
  have hcv := conv4 b1 b2 b3 b4 w
  go_enter Tryz.func36, Tryz.ntmps36
  go_wp2_with fail
  clear hcv
  go_ret
  exact ⟨by rw [HV.out]; rfl, (Below.refl w.heap.size w).alloc (Nat.le_refl _) (.cells #[.int .u8 (b1.toNat : Int), .int .u8 (b2.toNat : Int), .int .u8 (b3.toNat : Int), .int .u8 (b4.toNat : Int)] 5)⟩
theorem uor_shift (a b k : Nat) (h : b < 2 ^ k) : (a * 2 ^ k) ||| b = a * 2 ^ k + b := by
  have := Nat.shiftLeft_add_eq_or_of_lt h a
  rw [Nat.shiftLeft_eq] at this
  exact this.symm
theorem ufour_y1 {x0 x1 y1 : Nat} (h : x0 * 16777216 + x1 * 65536 = y1) : (x0 * 256 + x1) * 65536 = y1 := by rw [← h, Nat.add_mul, Nat.mul_assoc]
theorem ufour_y2 {x0 x1 x2 y1 y2 : Nat} (h : x0 * 16777216 + x1 * 65536 = y1) (h2 : y1 + x2 * 256 = y2) : ((x0 * 256 + x1) * 256 + x2) * 256 = y2 := by rw [← h2, ← h, Nat.add_mul, Nat.add_mul, Nat.add_mul, Nat.mul_assoc, Nat.mul_assoc, Nat.mul_assoc]
theorem ufour_y3 {x0 x1 x2 x3 y1 y2 r : Nat} (h : x0 * 16777216 + x1 * 65536 = y1) (h2 : y1 + x2 * 256 = y2) (hr : x0 * 16777216 + x1 * 65536 + x2 * 256 + x3 = r) : y2 + x3 = r := by rw [← hr, ← h2, ← h]
theorem uor4_1 (x y : Nat) (hx : x < 256) (hy : y < 256) : bits .or .u32 ((x : Int) * 16777216) ((y : Int) * 65536) = ((x * 16777216 + y * 65536 : Nat) : Int) := by
  have := u32_or_nat (x * 16777216) (y * 65536) (by omega) (by omega)
  rw [uor_shift x (y * 65536) 24 (by omega)] at this
  rw [← this]
  congr 1 <;> omega
theorem uor4_2 (x y : Nat) (hx : x < 65536) (hy : y < 256) : bits .or .u32 ((x * 65536 : Nat) : Int) ((y : Int) * 256) = ((x * 65536 + y * 256 : Nat) : Int) := by
  have := u32_or_nat (x * 65536) (y * 256) (by omega) (by omega)
  rw [uor_shift x (y * 256) 16 (by omega)] at this
  rw [← this]
  congr 1
theorem uor4_3 (x y : Nat) (hx : x < 16777216) (hy : y < 256) : bits .or .u32 ((x * 256 : Nat) : Int) (y : Int) = ((x * 256 + y : Nat) : Int) := by
  have := u32_or_nat (x * 256) y (by omega) (by omega)
  rwa [uor_shift x y 8 (by omega)] at this
set_option maxRecDepth 100000 in
set_option maxHeartbeats 4000000 in
theorem wordAt_ok (t : ByteArray) (k : Nat) (w : World) (h4 : k + 4 ≤ t.size) (hz : t.size ≤ 1000000000) : Calls Tryz.prog 37 #[.string t, .int .i64 (k : Int)] w fun e w' => e = .returned (.int .u32 ((w4 t.data.toList k : Nat) : Int)) ∧ ∃ q, w' = w.drewN q := by
  have i0 := index_at t k _ (getD_at (by omega))
  have i1 := index_at t (k + 1) _ (getD_at (by omega))
  have i2 := index_at t (k + 2) _ (getD_at (by omega))
  have i3 := index_at t (k + 3) _ (getD_at (by omega))
  obtain ⟨r, hr⟩ : ∃ r, w4 t.data.toList k = r := ⟨_, rfl⟩
  unfold w4 at hr
  have hr' : w4 t.data.toList k = r := hr
  rw [hr']
  clear hr'
  have b0 := (t.data.toList.getD k 0).toNat_lt
  have b1 := (t.data.toList.getD (k + 1) 0).toNat_lt
  have b2 := (t.data.toList.getD (k + 2) 0).toNat_lt
  have b3 := (t.data.toList.getD (k + 3) 0).toNat_lt
  generalize (t.data.toList.getD k 0).toNat = x0 at *
  generalize (t.data.toList.getD (k + 1) 0).toNat = x1 at *
  generalize (t.data.toList.getD (k + 2) 0).toNat = x2 at *
  generalize (t.data.toList.getD (k + 3) 0).toNat = x3 at *
  have o1 := uor4_1 x0 x1 (by omega) (by omega)
  generalize hy1 : x0 * 16777216 + x1 * 65536 = y1 at o1
  have o2 := uor4_2 (x0 * 256 + x1) x2 (by omega) (by omega)
  rw [ufour_y1 hy1] at o2
  generalize hy2 : y1 + x2 * 256 = y2 at o2
  have o3 := uor4_3 ((x0 * 256 + x1) * 256 + x2) x3 (by omega) (by omega)
  rw [ufour_y2 hy1 hy2] at o3
  rw [ufour_y3 hy1 hy2 hr] at o3
  clear hr hy1 hy2
  have i0' : ∀ w : World, (Instr.index 9 (.string t) (.int .i64 (k : Int))).run Tryz.prog w = .ok (.int .u8 (x0 : Int)) w := i0
  have i1' : ∀ w : World, (Instr.index 9 (.string t) (.int .i64 ((k : Int) + 1))).run Tryz.prog w = .ok (.int .u8 (x1 : Int)) w := i1
  have i2' : ∀ w : World, (Instr.index 9 (.string t) (.int .i64 ((k : Int) + 2))).run Tryz.prog w = .ok (.int .u8 (x2 : Int)) w := i2
  have i3' : ∀ w : World, (Instr.index 9 (.string t) (.int .i64 ((k : Int) + 3))).run Tryz.prog w = .ok (.int .u8 (x3 : Int)) w := i3
  clear i0 i1 i2 i3
  have hk : (k : Int) ≤ 1000000000 := by omega
  have q1 : IntKind.i64.wrap ((k : Int) + 1) = (k : Int) + 1 := IntWalk.i64_in _ (by omega)
  have q2 : IntKind.i64.wrap ((k : Int) + 2) = (k : Int) + 2 := IntWalk.i64_in _ (by omega)
  have q3 : IntKind.i64.wrap ((k : Int) + 3) = (k : Int) + 3 := IntWalk.i64_in _ (by omega)
  go_enter Tryz.func37, Tryz.ntmps37
  go_wp2_with fail
  go_quiet (fail)
  go_wp2_with fail
  go_ret
  exact ⟨rfl, _, rfl⟩
set_option maxRecDepth 100000 in
set_option maxHeartbeats 4000000 in
theorem refCrc_ok (t : ByteArray) (w : World) (hz : t.size ≤ 1000000000) : Calls Tryz.prog 13 #[.string t] w fun e w' => e = .returned (.int .u32 ((crcOf t.data.toList : Nat) : Int)) ∧ w' = w := by
  have HZ := Lib.hid (crcL_lt t.data.toList (show 4294967295 < 4294967296 by decide))
  obtain ⟨E, hE⟩ : ∃ E, crcL 4294967295 t.data.toList = E := ⟨_, rfl⟩
  have HE := Lib.hid hE
  clear hE
  go_enter Tryz.func13, Tryz.ntmps13
  go_wp2_with fail
  go_loopg [3, 8] t.size (fun gk v i wr => ∃ k x : Nat, v = .int .u32 (x : Int) ∧ i = .int .i64 (k : Int) ∧ k + gk = t.size ∧ x < 4294967296 ∧ crcL x (t.data.toList.drop k) = E ∧ wr = w)
  case atStart => exact ⟨0, 4294967295, rfl, rfl, by omega, by decide, HE.out, rfl⟩
  case round =>
    obtain ⟨k, x, rfl, rfl, hk, hx, hC, rfl⟩ := hrel
    have HC := Lib.hid hC
    clear hC
    by_cases hlt : k < t.size
    · have hd : decide (k < t.size) = true := decide_eq_true hlt
      have hd' : decide ((k : Int) < (t.size : Int)) = true := decide_eq_true (by omega)
      have hix := index_at t k _ (getD_at hlt)
      have hdr : t.data.toList.drop k = t.data.toList.getD k 0 :: t.data.toList.drop (k + 1) := by
        have hl : k < t.data.toList.length := by rw [← Lib.size_eq]; exact hlt
        rw [List.drop_eq_getElem_cons hl, List.getD_eq_getElem?_getD, List.getElem?_eq_getElem hl]
        rfl
      have HD := Lib.hid hdr
      clear hdr
      have hb := (t.data.toList.getD k 0).toNat_lt
      generalize t.data.toList.getD k 0 = c at *
      obtain ⟨b, hbc⟩ : ∃ b, c.toNat = b := ⟨_, rfl⟩
      rw [hbc] at hix hb
      have HBC := Lib.hid hbc
      clear hbc
      have hxb := u32_xor_nat x b hx (by omega)
      have HX := Lib.hid (Nat.xor_lt_two_pow (n := 32) hx (show b < 2 ^ 32 by omega))
      have HE2 := Lib.hid (show crcN 8 (x ^^^ b) = crcB x b from rfl)
      generalize x ^^^ b = v0 at *
      obtain ⟨g0, rfl⟩ : ∃ g, gk = g + 1 := ⟨gk - 1, by omega⟩
      go_wp2_with fail
      clear hxb hix
      go_loopg [3, 17] 8 (fun g2 v j wx => ∃ i y : Nat, v = .int .u32 (y : Int) ∧ j = .int .i64 (i : Int) ∧ i + g2 = 8 ∧ y < 4294967296 ∧ crcN g2 y = crcB x b ∧ wx = wr)
      case atStart => exact ⟨0, v0, rfl, rfl, by omega, HX.out, HE2.out, rfl⟩
      case round =>
        clear HX HE2
        obtain ⟨i, y, rfl, rfl, hi, hy, hC2, rfl⟩ := hrel
        have HC2 := Lib.hid hC2
        clear hC2
        by_cases hl8 : i < 8
        · have hd8 : decide ((i : Int) < 8) = true := decide_eq_true (by omega)
          have ha := and1 y hy
          obtain ⟨g3, rfl⟩ : ∃ g, gk = g + 1 := ⟨gk - 1, by omega⟩
          have HS := Lib.hid (show crcN g3 (crcStep y) = crcB x b from HC2.out)
          have HL := Lib.hid (crcStep_lt hy)
          obtain ⟨u, hu0⟩ : ∃ u, u = y / 2 := ⟨_, rfl⟩
          have h2 : (y : Int) / 2 = (u : Int) := by omega
          have hux := u32_xor_nat u 3988292384 (by omega) (by decide)
          have e8 : ((3988292384 : Nat) : Int) = 3988292384 := rfl
          rw [e8] at hux
          by_cases hm : y % 2 = 1
          · have HV := Lib.hid (show crcStep y = u ^^^ 3988292384 from by unfold crcStep; rw [if_pos hm, hu0])
            rw [hm] at ha
            clear hu0 hm
            generalize u ^^^ 3988292384 = z at *
            go_wp2_with fail
            go_roundg g3
            case measure => omega
            case rel => exact ⟨i + 1, crcStep y, by rw [HV.out], by go_num, by omega, HL.out, HS.out, rfl⟩
          · have HV := Lib.hid (show crcStep y = u from by unfold crcStep; rw [if_neg hm, hu0])
            have hm0 : y % 2 = 0 := by omega
            rw [hm0] at ha
            clear hu0 hm hm0 hux
            go_wp2_with fail
            go_roundg g3
            case measure => omega
            case rel => exact ⟨i + 1, crcStep y, by rw [HV.out], by go_num, by omega, HL.out, HS.out, rfl⟩
        · have hd8 : decide ((i : Int) < 8) = false := decide_eq_false (by omega)
          obtain rfl : gk = 0 := by omega
          have HY := Lib.hid (show y = crcB x b from HC2.out)
          go_wp2_with fail
          go_roundg g0
          case measure => omega
          case rel =>
            refine ⟨k + 1, y, rfl, by go_num, by omega, hy, ?_, rfl⟩
            have := HC.out
            rw [HD.out] at this
            rw [HY.out, ← HBC.out]
            exact this
    · have hd : decide (k < t.size) = false := decide_eq_false hlt
      have hd' : decide ((k : Int) < (t.size : Int)) = false := decide_eq_false (by omega)
      have hxE : x = E := by
        have := HC.out
        rw [List.drop_eq_nil_of_le (by rw [← Lib.size_eq]; omega)] at this
        exact this
      have HXE := Lib.hid hxE
      clear hxE
      have hsg : IntKind.u32.signed = false := rfl
      have hxx : bits .xor .u32 IntKind.u32.max (x : Int) = ((4294967295 ^^^ x : Nat) : Int) := u32_xor_nat 4294967295 x (by decide) hx
      have HF := Lib.hid (show 4294967295 ^^^ x = crcOf t.data.toList from by unfold crcOf; rw [HE.out, HXE.out])
      generalize 4294967295 ^^^ x = y at *
      go_wp2_with fail
      go_ret
      exact ⟨by rw [HF.out]; rfl, rfl⟩
end Go.Proofs.YtobiacdeoeogaaaGreatDoor

set_option linter.unusedVariables false
set_option linter.unusedSimpArgs false
namespace Go.Proofs.YtobiacdeoeogaaaGreatDoor
open Go.RowKit
theorem info9 : (Tryz.prog.info? 9).map (fun i => (i.zero, i.size, i.bytes)) = some (some (.string ⟨#[]⟩), 1, 16) := by kernel_rfl
theorem ex_listC (t : ByteArray) (a b : Nat) : (t.extract a b).data.toList = (t.data.toList.drop a).take (b - a) := by
  simp [List.extract_eq_take_drop]
theorem nil_of_sizeC {tx : ByteArray} (hz : tx.size = 0) : tx.data.toList = [] := by
  cases e : tx.data.toList with
  | nil => rfl
  | cons a b => have := Lib.size_eq tx; rw [e, List.length_cons] at this; omega
theorem ba_extC {a b : ByteArray} (h : a.data.toList = b.data.toList) : a = b := by
  cases a; cases b; simp at h; rw [h]
theorem own_sliceC {w : World} {base e size n : Nat} {v : Value} {xs : List Value} (h : w.ownsRow base e size v n xs) : ∃ p c, v = .slice p n c := by
  rcases h.2 with ⟨rfl, rfl⟩ | ⟨g, cap, cur, rfl, _⟩
  · exact ⟨_, _, rfl⟩
  · exact ⟨_, _, rfl⟩
/-- a text as a value. -/
def strV (c : List UInt8) : Value := .string ⟨c.toArray⟩
set_option maxRecDepth 100000 in
set_option maxHeartbeats 8000000 in
theorem blocks_ok (n : Nat) (t : ByteArray) (w : World) (hn1 : 16 ≤ n) (hn2 : n ≤ 16384) (hz : t.size ≤ 16777216) : Calls Tryz.prog 34 #[.string t, .int .i64 (n : Int)] w fun e w' => ∃ v : Value, e = .returned v ∧ w'.ownsRow w.heap.size 9 1 v (chunksOf n t.data.toList).length ((chunksOf n t.data.toList).map strV) ∧ Below w.heap.size w w' := by
  obtain ⟨i0, hi0, hi1, hi2, hi3⟩ := info_parts info9
  obtain ⟨CS, hCS⟩ : ∃ CS, chunksOf n t.data.toList = CS := ⟨_, rfl⟩
  rw [hCS]
  have HCS := Lib.hid hCS
  clear hCS
  go_enter Tryz.func34, Tryz.ntmps34
  go_wp2_with fail
  go_loopg [0, 5] t.size (fun gk x v wr => ∃ rest : ByteArray, ∃ l : List (List UInt8), x = .string rest ∧ wr.ownsRow w.heap.size 9 1 v l.length (l.map strV) ∧ Below w.heap.size w wr ∧ l ++ chunksOf n rest.data.toList = CS ∧ l.length + rest.size ≤ t.size ∧ rest.size ≤ gk)
  case atStart => exact ⟨t, [], rfl, World.ownsRow_nil _ _ _ _, Below.refl _ _, HCS.out, by simp, Nat.le_refl _⟩
  case round =>
    obtain ⟨rest, l, rfl, hO, hB, he, hll, hgk⟩ := hrel
    have HO := Lib.hid hO
    have HB := Lib.hid hB
    have HE := Lib.hid he
    have hbs := hB.size
    clear hO hB he
    by_cases hz0 : rest.size = 0
    · have hd : decide ((rest.size : Int) > 0) = false := decide_eq_false (by omega)
      have hd2 : decide (0 < rest.size) = false := decide_eq_false (by omega)
      have e1 := HE.out
      rw [nil_of_sizeC hz0, chunksOf_nil, List.append_nil] at e1
      obtain ⟨p, cp, rfl⟩ := own_sliceC HO.out
      have HE1 := Lib.hid e1
      clear e1
      go_wp2_with fail
      go_ret
      have e2 := HE1.out
      subst e2
      exact ⟨_, rfl, HO.out, HB.out⟩
    · have hd : decide ((rest.size : Int) > 0) = true := decide_eq_true (by omega)
      have hd2 : decide (0 < rest.size) = true := decide_eq_true (by omega)
      obtain ⟨m, hm⟩ : ∃ m : Nat, m = min n rest.size := ⟨_, rfl⟩
      have hmin : min (n : Int) (rest.size : Int) = (m : Int) := by omega
      have hmin2 : (if rest.size < n then (rest.size : Int) else (n : Int)) = (m : Int) := by split <;> omega
      have hm1 : 1 ≤ m := by omega
      have hm2 : m ≤ rest.size := by omega
      have hm2' : (m : Int) ≤ (rest.size : Int) := by omega
      have hm3 : m ≤ n := by omega
      obtain ⟨pc, hpc⟩ : ∃ pc, rest.extract 0 m = pc := ⟨_, rfl⟩
      obtain ⟨rs, hrs⟩ : ∃ rs, rest.extract m rest.size = rs := ⟨_, rfl⟩
      have hpz : pc.size = m := by rw [← hpc]; simp; omega
      have hrz : rs.size + m = rest.size := by rw [← hrs]; simp; omega
      have hch : chunksOf n rest.data.toList = pc.data.toList :: chunksOf n rs.data.toList := by
        have hl : rest.size = rest.data.toList.length := Lib.size_eq rest
        rw [chunksOf_cons (fun e => hz0 (by rw [hl, e]; rfl)) (by omega), ← hpc, ← hrs, ex_listC, ex_listC]
        have e1 : (rest.data.toList.drop 0).take (m - 0) = rest.data.toList.take n := by
          rw [List.drop_zero, Nat.sub_zero]
          rcases Nat.lt_or_ge rest.size n with h | h
          · rw [List.take_of_length_le (by omega), List.take_of_length_le (by omega)]
          · rw [show m = n by omega]
        have e2 : (rest.data.toList.drop m).take (rest.size - m) = rest.data.toList.drop n := by
          rw [List.take_of_length_le (by rw [List.length_drop]; omega)]
          rcases Nat.lt_or_ge rest.size n with h | h
          · rw [List.drop_eq_nil_of_le (by omega), List.drop_eq_nil_of_le (by omega)]
          · rw [show m = n by omega]
        rw [e1, e2]
      have HCH := Lib.hid hch
      have HPZ := Lib.hid hpz
      have hll2 : l.length ≤ 16777216 := by omega
      clear hch hm
      go_wp2_with (at_builtin; refine wpList_append_lies _ rfl _ _ 87 rfl w.heap.size 9 i0 (.string ⟨#[]⟩) 1 16 Tryz.underlying87 hi0 hi1 hi2 hi3 rfl (by decide) _ _ _ rfl (HO.out.alloc _) _ 1 1 [.string pc] (by rfl) (by rfl) (World.news_of_block (cs := #[.string pc]) (t := 9) (fr := (0, 0)) (heap_alloc_new _ _)) (by simp [Value.oneCell']) (by decide) (by unfold maxLen; omega) (by omega) ?c5 _ rfl ?_)
      case c5 => exact Nat.le_trans hbs (by simp)
      intro g2 cap2 w4 hown hgrow hat hltg
      have HB4 := Lib.hid (own_grown (HB.out.alloc hbs _) (HO.out.alloc _) hgrow (Nat.le_trans hbs (by simp)))
      have HO4 := Lib.hid (show w4.ownsRow w.heap.size 9 1 (.slice (some ⟨g2, 0, none⟩) (l.length + 1) cap2) (l ++ [pc.data.toList]).length ((l ++ [pc.data.toList]).map strV) from by
        rw [List.length_append, List.map_append]; exact hown)
      clear hown hgrow hat hltg HO HB
      go_wp2_with fail
      go_roundg (gk - 1)
      case measure => omega
      case rel => exact ⟨rs, l ++ [pc.data.toList], rfl, HO4.out, HB4.out, by rw [← HE.out, HCH.out, List.append_assoc]; rfl, by rw [List.length_append, List.length_singleton]; have := HPZ.out; omega, by omega⟩
end Go.Proofs.YtobiacdeoeogaaaGreatDoor
