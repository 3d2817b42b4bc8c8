import Derived.Test.YtobiacdeoeogaaaGreatDoorZ
set_option linter.unusedVariables false
set_option linter.unusedSimpArgs false
namespace Go.Proofs.YtobiacdeoeogaaaGreatDoor
open Go.RowKit
/-- the CRC of bytes. -/
def crcOf (l : List UInt8) : Nat := 4294967295 ^^^ crcL 4294967295 l
set_option maxRecDepth 100000 in
set_option maxHeartbeats 4000000 in
theorem fourBytes_ok (x : Int) (w : World) : Calls Tryz.prog 23 #[.int .i64 x] w fun e w' => e = .returned (.string ⟨(wordB x).toArray⟩) ∧ Below w.heap.size w w' := by
  have h1 := byteI_eq (x / 16777216)
  have h2 := byteI_eq (x / 65536)
  have h3 := byteI_eq (x / 256)
  have h4 := byteI_eq x
  have HV := Lib.hid (show wordB x = [byteI (x / 16777216), byteI (x / 65536), byteI (x / 256), byteI x] from rfl)
  generalize byteI (x / 16777216) = b1 at *
  generalize byteI (x / 65536) = b2 at *
  generalize byteI (x / 256) = b3 at *
  generalize byteI x = b4 at *
  have hcv := conv4 b1 b2 b3 b4 w
  go_enter Tryz.func23, Tryz.ntmps23
  go_wp2_with fail
  clear hcv
  go_ret
  exact ⟨by rw [HV.out]; rfl, (Below.refl w.heap.size w).alloc (Nat.le_refl _) (.cells #[.int .u8 (b1.toNat : Int), .int .u8 (b2.toNat : Int), .int .u8 (b3.toNat : Int), .int .u8 (b4.toNat : Int)] 5)⟩
set_option maxRecDepth 100000 in
set_option maxHeartbeats 4000000 in
theorem crcBytes_ok (t : ByteArray) (w : World) (ht : t.size < 1024) : Calls Tryz.prog 25 #[.string t] w fun e w' => e = .returned (.string ⟨(wordB ((crcOf t.data.toList : Nat) : Int)).toArray⟩) ∧ Below w.heap.size w w' := by
  have hl : (wordB ((crcOf t.data.toList : Nat) : Int)).length = 4 := rfl
  have C := of1_ok t w ht
  rw [show (4294967295 ^^^ crcL 4294967295 t.data.toList) = crcOf t.data.toList from rfl] at C
  generalize wordB ((crcOf t.data.toList : Nat) : Int) = l4 at *
  have HC := Lib.hid C
  clear C
  go_enter Tryz.func25, Tryz.ntmps25
  go_wp2_with fail
  refine (HC.out).mono ?_
  rintro e w1 ⟨rfl, hb⟩
  have HB := Lib.hid hb
  have hsz := hb.size
  clear hb HC
  go_wp2_with fail
  refine (decode_ok l4 w1 (by omega)).mono ?_
  rintro e w2 ⟨rfl, hb⟩
  have HB2 := Lib.hid (HB.out.trans (hb.mono hsz))
  clear hb
  go_wp2_with fail
  go_ret
  exact ⟨rfl, HB2.out⟩
end Go.Proofs.YtobiacdeoeogaaaGreatDoor
