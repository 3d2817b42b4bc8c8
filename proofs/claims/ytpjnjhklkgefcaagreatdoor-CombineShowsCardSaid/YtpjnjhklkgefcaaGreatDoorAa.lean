import Derived.Test.YtpjnjhklkgefcaaGreatDoorY
import Derived.BigQuiet
set_option linter.unusedVariables false
set_option linter.unusedSimpArgs false
namespace Go.Proofs.YtpjnjhklkgefcaaGreatDoor
open Go.RowKit
theorem hexL_even : ∀ (l : List UInt8) (j : Nat), (hexL l)[2 * j]? = (l[j]?).map (fun b => hdig (b.toNat / 16))
  | [], j => by simp [hexL]
  | b :: l, 0 => by simp [hexL]
  | b :: l, j + 1 => by
    rw [show 2 * (j + 1) = 2 * j + 2 by omega]
    simp [hexL, hexL_even l j]
theorem hexL_odd : ∀ (l : List UInt8) (j : Nat), (hexL l)[2 * j + 1]? = (l[j]?).map (fun b => hdig (b.toNat % 16))
  | [], j => by simp [hexL]
  | b :: l, 0 => by simp [hexL]
  | b :: l, j + 1 => by
    rw [show 2 * (j + 1) + 1 = (2 * j + 1) + 2 by omega]
    simp [hexL, hexL_odd l j]
theorem i64_or_nat (a b : Nat) (ha : a < 9223372036854775808) (hb : b < 9223372036854775808) : bits .or .i64 (a : Int) (b : Int) = ((a ||| b : Nat) : Int) := by
  have hx : a ||| b < 2 ^ 63 := Nat.or_lt_two_pow ha hb
  show IntKind.i64.wrap ((BitVec.ofInt 64 (a : Int) ||| BitVec.ofInt 64 (b : Int)).toNat : Nat) = _
  rw [BitVec.toNat_or, BitVec.ofInt_natCast, BitVec.ofInt_natCast, BitVec.toNat_ofNat, BitVec.toNat_ofNat, Nat.mod_eq_of_lt (by omega), Nat.mod_eq_of_lt (by omega)]
  exact IntWalk.i64_in _ (by omega)
theorem or_nib (x y : Nat) (hy : y < 16) : (x * 16) ||| y = x * 16 + y := by
  have := Nat.shiftLeft_add_eq_or_of_lt (show y < 2 ^ 4 by omega) x
  rw [Nat.shiftLeft_eq, show (2 : Nat) ^ 4 = 16 from rfl] at this
  exact this.symm
theorem index_at (tx : ByteArray) (k : Nat) (b : UInt8) (h : tx.data.toList[k]? = some b) (w : World) : (Instr.index 9 (.string tx) (.int .i64 (k : Int))).run Tryz.prog w = .ok (.int .u8 (b.toNat : Int)) w := by
  have hl := (List.getElem?_eq_some_iff.1 h).1
  have hk : k < tx.size := by rw [Lib.size_eq]; exact hl
  rw [run_index_string w 9 tx .i64 (k : Int) Tryz.underlying9]
  have h2 := (List.getElem?_eq_some_iff.1 h).2
  simp [hk]
  rw [← h2]
  rfl
set_option maxRecDepth 100000 in
set_option maxHeartbeats 4000000 in
theorem decode_ok (l : List UInt8) (w : World) (hl : l.length ≤ 1048576) : Calls Tryz.prog 336 #[.int .i64 16, .string ⟨(hexL l).toArray⟩] w fun e w' => e = .returned (.tuple #[.string ⟨l.toArray⟩, .int .i64 0, .int .i64 0]) ∧ Below w.heap.size w w' := by
  obtain ⟨i0, hi0, hi1, hi2, hi3⟩ := info_parts info5
  obtain ⟨tx, htx⟩ : ∃ tx : ByteArray, tx = ⟨(hexL l).toArray⟩ := ⟨_, rfl⟩
  have hsz : tx.size = 2 * l.length := by rw [htx]; simp [ByteArray.size, hexL_length]
  have HE := Lib.hid (show ∀ j b, l[j]? = some b → tx.data.toList[2 * j]? = some (hdig (b.toNat / 16)) from fun j b h => by rw [htx]; simp [hexL_even, h])
  have HO := Lib.hid (show ∀ j b, l[j]? = some b → tx.data.toList[2 * j + 1]? = some (hdig (b.toNat % 16)) from fun j b h => by rw [htx]; simp [hexL_odd, h])
  rw [← htx]
  clear htx
  have hgt : ¬ (tx.size : Int) > 2097152 := by omega
  have hgd : decide ((tx.size : Int) > 2097152) = false := decide_eq_false hgt
  have HSZ := Lib.hid hsz
  clear hsz
  go_enter Tryz.func336, Tryz.ntmps336
  go_wp2_with fail
  refine (baseBits_ok w).mono ?_
  rintro e w1 ⟨rfl, rfl⟩
  go_wp2_with fail
  refine (values_ok w1).mono ?_
  rintro e w2 ⟨rfl, ⟨cs, hV, hD⟩, hB⟩
  have HV := Lib.hid hV
  have HB := Lib.hid hB
  have HD := Lib.hid (fun d hd => (hV.cell (hdig d).toNat).trans (hD.at_ d hd))
  have hsz2 := hB.size
  clear hV hB hD
  go_wp2_with fail
  go_loopw [9, 10, 11, 25] (fun v b m k wr => ∃ i j, k = .int .i64 (i : Nat) ∧ i ≤ 2 * l.length ∧ wr.ownsRow w2.heap.size 5 1 v j (Lib.byteCells (l.take j)) ∧ Below w2.heap.size w2 wr ∧ ((i = 2 * j ∧ b = .int .i64 0 ∧ m = .int .i64 0) ∨ (i = 2 * j + 1 ∧ ∃ x : UInt8, l[j]? = some x ∧ b = .int .i64 ((x.toNat / 16 : Nat) : Int) ∧ m = .int .i64 4))) (fun v b m k _ => 2 * l.length - (intOf k).toNat)
  case atStart => exact ⟨0, 0, rfl, Nat.zero_le _, World.ownsRow_nil _ _ _ _, Below.refl _ _, Or.inl ⟨rfl, rfl, rfl⟩⟩
  case round =>
    obtain ⟨i, j, rfl, hi, hO, hB, hcase⟩ := hrel
    have HOW := Lib.hid hO
    have HBW := Lib.hid hB
    have hbs := hB.size
    clear hO hB
    by_cases hlt : i < 2 * l.length
    · have hd : decide ((i : Int) < (tx.size : Int)) = true := decide_eq_true (by have := HSZ.out; omega)
      have hd' : decide (i < tx.size) = true := decide_eq_true (by have := HSZ.out; omega)
      rcases hcase with ⟨hij, rfl, rfl⟩ | ⟨hij, x, hx, rfl, rfl⟩
      · obtain ⟨b, hb⟩ : ∃ b, l[j]? = some b := ⟨l[j]'(by omega), List.getElem?_eq_getElem (by omega)⟩
        have hix := index_at tx i (hdig (b.toNat / 16)) (by rw [hij]; exact HE.out j b hb)
        have hbl := b.toNat_lt
        have cd := (HBW.out.cell (World.block_lt_of_cell? _ _ (HD.out (b.toNat / 16) (by omega)))).trans (HD.out (b.toNat / 16) (by omega))
        have hcl := hdig_lt ⟨b.toNat / 16, by omega⟩
        have HIJ := Lib.hid hij
        have HBB := Lib.hid hb
        simp only at hcl
        obtain ⟨y, hy⟩ : ∃ y, b.toNat / 16 = y := ⟨_, rfl⟩
        have HY := Lib.hid hy
        rw [hy] at hix cd hcl
        have hor : bits .or .i64 0 (y : Int) = (y : Int) := by
          have := i64_or_nat 0 y (by omega) (by omega)
          simpa using this
        have hy0 : decide ((y : Int) < 0) = false := decide_eq_false (by omega)
        generalize (hdig y).toNat = c at *
        have hcl2 : (c : Int) < 256 := by omega
        clear hij hb hy hbl
        go_wp2_with fail
        go_quiet (fail)
        have HOD := Lib.hid (own_kp HOW.out ((Kp.refl [] wr).drewN nq) (fun _ _ => by simp))
        have HBD := Lib.hid (HBW.out.trans (((Kp.refl [] wr).drewN nq).below hbs (by simp)))
        clear HOW HBW cd
        generalize wr.drewN nq = wd at *
        go_wp2_with fail
        go_roundw
        case rel => exact ⟨i + 1, j, by go_num, by omega, HOD.out, HBD.out, Or.inr ⟨by rw [HIJ.out], b, HBB.out, by rw [HY.out], rfl⟩⟩
        case measure => simp [intOf]; omega
      · have hix := index_at tx i (hdig (x.toNat % 16)) (by rw [hij]; exact HO.out j x hx)
        have hbl := x.toNat_lt
        have cd := (HBW.out.cell (World.block_lt_of_cell? _ _ (HD.out (x.toNat % 16) (by omega)))).trans (HD.out (x.toNat % 16) (by omega))
        have hcl := hdig_lt ⟨x.toNat % 16, by omega⟩
        have HIJ := Lib.hid hij
        have HBB := Lib.hid hx
        have hjl : j < l.length := (List.getElem?_eq_some_iff.1 hx).1
        have HTK := Lib.hid (show l.take (j + 1) = l.take j ++ [x] from by
          rw [List.take_succ_eq_append_getElem hjl]
          rw [(List.getElem?_eq_some_iff.1 hx).2])
        simp only at hcl
        have hbx : x.toNat = x.toNat / 16 * 16 + x.toNat % 16 := by omega
        obtain ⟨z, hz⟩ : ∃ z, x.toNat / 16 = z := ⟨_, rfl⟩
        obtain ⟨y, hy⟩ : ∃ y, x.toNat % 16 = y := ⟨_, rfl⟩
        have hy16 : y < 16 := by omega
        rw [hy] at hix cd hcl
        rw [hz, hy] at hbx
        rw [hz]
        have hz16 : z < 16 := by omega
        have hor : bits .or .i64 ((z : Int) * 16) (y : Int) = (x.toNat : Int) := by
          have := i64_or_nat (z * 16) y (by omega) (by omega)
          rw [or_nib z y hy16, ← hbx] at this
          simpa using this
        have hand : bits .and .i64 (x.toNat : Int) 0 = 0 := by simp [bits]; rfl
        have hy0 : decide ((y : Int) < 0) = false := decide_eq_false (by omega)
        have hx256 : (x.toNat : Int) % 256 = (x.toNat : Int) := by omega
        generalize (hdig y).toNat = c at *
        have hcl2 : (c : Int) < 256 := by omega
        clear hij hx hy hz hbx
        go_wp2_with fail
        go_quiet (fail)
        have HOD := Lib.hid (own_kp HOW.out ((Kp.refl [] wr).drewN nq) (fun _ _ => by simp))
        have HBD := Lib.hid (HBW.out.trans (((Kp.refl [] wr).drewN nq).below hbs (by simp)))
        have hbs2 := HBD.out.size
        clear HOW HBW cd
        generalize wr.drewN nq = wd at *
        go_wp2_with (at_builtin; refine wpList_append_lies _ rfl _ _ 117 rfl w2.heap.size 5 i0 (.int .u8 0) 1 1 Tryz.underlying117 hi0 hi1 hi2 hi3 rfl (by decide) _ _ _ rfl (HOD.out.alloc _) _ 1 1 [.int .u8 (x.toNat : Int)] (by rfl) (by rfl) (World.news_of_block (cs := #[.int .u8 (x.toNat : Int)]) (t := 5) (fr := (0, 0)) (heap_alloc_new _ _)) (by simp [Value.oneCell']) (by decide) (by unfold maxLen; omega) (by omega) ?c5 _ rfl ?_)
        case c5 => exact Nat.le_trans HBD.out.size (by simp)
        intro g2 cap2 w3 hown hgrow hat hltg
        have HB2 := Lib.hid (own_grown (HBD.out.alloc HBD.out.size _) (HOD.out.alloc _) hgrow (Nat.le_trans HBD.out.size (by simp)))
        have HO2 := Lib.hid (show w3.ownsRow w2.heap.size 5 1 (.slice (some ⟨g2, 0, none⟩) (j + 1) cap2) (j + 1) (Lib.byteCells (l.take (j + 1))) from by
          have e : Lib.byteCells (l.take (j + 1)) = Lib.byteCells (l.take j) ++ [.int .u8 (x.toNat : Int)] := by rw [HTK.out]; simp [Lib.byteCells]
          rw [e]; exact hown)
        clear HOD HBD hown hgrow hat hltg
        go_wp2_with fail
        go_roundw
        case rel => exact ⟨i + 1, j + 1, by go_num, by omega, HO2.out, HB2.out, Or.inl ⟨by have := HIJ.out; omega, rfl, rfl⟩⟩
        case measure => simp [intOf]; omega
    · have hd : decide ((i : Int) < (tx.size : Int)) = false := decide_eq_false (by have := HSZ.out; omega)
      have hd' : decide (i < tx.size) = false := decide_eq_false (by have := HSZ.out; omega)
      rcases hcase with ⟨hij, rfl, rfl⟩ | ⟨hij, x, hx, rfl, rfl⟩
      · have hj : j = l.length := by omega
        have HJ := Lib.hid hj
        have hcv := own_conv HOW.out
        have hjs : ¬ (j : Int) > 1048576 := by omega
        have hjd : decide ((j : Int) > 1048576) = false := decide_eq_false hjs
        obtain ⟨pp, cc, rfl⟩ : ∃ pp cc, u9 = .slice pp j cc := by
          rcases HOW.out.2 with ⟨rfl, rfl⟩ | ⟨g', cap', cur, h, _⟩
          · exact ⟨none, 0, rfl⟩
          · exact ⟨_, _, h⟩
        clear hij hj
        go_wp2_with fail
        go_ret3
        have e : l.take j = l := by rw [HJ.out]; exact List.take_length
        exact ⟨by rw [show l.toArray = (l.take j).toArray from by rw [e]]; rfl, HB.out.trans (HBW.out.mono hsz2)⟩
      · exfalso
        have := (List.getElem?_eq_some_iff.1 hx).1
        omega
end Go.Proofs.YtpjnjhklkgefcaaGreatDoor

set_option linter.unusedVariables false
set_option linter.unusedSimpArgs false
namespace Go.Proofs.YtpjnjhklkgefcaaGreatDoor
open Go.RowKit
/-- the CRC of bytes. -/
def crcOf (l : List UInt8) : Nat := 4294967295 ^^^ crcL 4294967295 l
set_option maxRecDepth 100000 in
set_option maxHeartbeats 4000000 in
theorem fourBytes_ok (x : Int) (w : World) : Calls Tryz.prog 335 #[.int .i64 x] w fun e w' => e = .returned (.string ⟨(wordB x).toArray⟩) ∧ Below w.heap.size w w' := by
  have h1 := byteI_eq (x / 16777216)
  have h2 := byteI_eq (x / 65536)
  have h3 := byteI_eq (x / 256)
  have h4 := byteI_eq x
  have HV := Lib.hid (show wordB x = [byteI (x / 16777216), byteI (x / 65536), byteI (x / 256), byteI x] from rfl)
  generalize byteI (x / 16777216) = b1 at *
  generalize byteI (x / 65536) = b2 at *
  generalize byteI (x / 256) = b3 at *
  generalize byteI x = b4 at *
  have hcv := conv4 b1 b2 b3 b4 w
  go_enter Tryz.func335, Tryz.ntmps335
  go_wp2_with fail
  clear hcv
  go_ret
  exact ⟨by rw [HV.out]; rfl, (Below.refl w.heap.size w).alloc (Nat.le_refl _) (.cells #[.int .u8 (b1.toNat : Int), .int .u8 (b2.toNat : Int), .int .u8 (b3.toNat : Int), .int .u8 (b4.toNat : Int)] 5)⟩
set_option maxRecDepth 100000 in
set_option maxHeartbeats 4000000 in
theorem crcBytes_ok (t : ByteArray) (w : World) (ht : t.size < 1024) : Calls Tryz.prog 331 #[.string t] w fun e w' => e = .returned (.string ⟨(wordB ((crcOf t.data.toList : Nat) : Int)).toArray⟩) ∧ Below w.heap.size w w' := by
  have hl : (wordB ((crcOf t.data.toList : Nat) : Int)).length = 4 := rfl
  have C := of1_ok t w ht
  rw [show (4294967295 ^^^ crcL 4294967295 t.data.toList) = crcOf t.data.toList from rfl] at C
  generalize wordB ((crcOf t.data.toList : Nat) : Int) = l4 at *
  have HC := Lib.hid C
  clear C
  go_enter Tryz.func331, Tryz.ntmps331
  go_wp2_with fail
  refine (HC.out).mono ?_
  rintro e w1 ⟨rfl, hb⟩
  have HB := Lib.hid hb
  have hsz := hb.size
  clear hb HC
  go_wp2_with fail
  refine (decode_ok l4 w1 (by omega)).mono ?_
  rintro e w2 ⟨rfl, hb⟩
  have HB2 := Lib.hid (HB.out.trans (hb.mono hsz))
  clear hb
  go_wp2_with fail
  go_ret
  exact ⟨rfl, HB2.out⟩
end Go.Proofs.YtpjnjhklkgefcaaGreatDoor
