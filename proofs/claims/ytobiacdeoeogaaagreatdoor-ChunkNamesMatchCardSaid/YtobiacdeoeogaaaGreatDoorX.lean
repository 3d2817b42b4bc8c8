import Derived.Test.YtobiacdeoeogaaaGreatDoorW
set_option linter.unusedVariables false
set_option linter.unusedSimpArgs false
namespace Go.Proofs.YtobiacdeoeogaaaGreatDoor
open Go.RowKit
theorem run_load_one {α : Type} (a : Addr) (k : Value → Sem α) (v : Value) (w : World) (h : w.cell? a = some v) : (Sem.load .plain a k).run Tryz.prog w = (k v).run Tryz.prog w := by
  simp [Sem.run, h]
theorem method_w0 (pm : Nat) (w : World) : (method 413 176 (pt pm) "wherryman/sums.write").run Tryz.prog w = (Sem.load .plain ⟨pm, 0, none⟩ (fun v => Sem.pure ((239 : Nat), v))).run Tryz.prog w := by kernel_rfl
theorem method_plain (pm : Nat) (v : Value) (w : World) (h : w.cell? ⟨pm, 0, none⟩ = some v) : (method 413 176 (pt pm) "wherryman/sums.write").run Tryz.prog w = .ok (239, v) w :=
  (method_w0 pm w).trans (run_load_one _ _ _ _ h)
set_option maxRecDepth 100000 in
set_option maxHeartbeats 4000000 in
theorem known_ok (k : Nat) (h1 : 1 ≤ k) (h5 : k ≤ 5) (w : World) : Calls Tryz.prog 72 #[.int .i64 (k : Int)] w fun e w' => e = .returned (.bool true) ∧ w' = w := by
  have d1 : decide ((k : Int) ≥ 1) = true := decide_eq_true (by omega)
  have d5 : decide ((k : Int) ≤ 5) = true := decide_eq_true (by omega)
  go_enter Tryz.func72, Tryz.ntmps72
  go_wp2_with fail
  go_ret
  exact ⟨rfl, rfl⟩
set_option maxRecDepth 100000 in
set_option maxHeartbeats 4000000 in
theorem newMaker1_ok (w : World) : Calls Tryz.prog 73 #[.int .i64 1] w fun e w' => e = .returned (.iface 168 (pt w.heap.size)) ∧ Blk w' w.heap.size 170 #[.int .u32 4294967295] ∧ Below w.heap.size w w' := by
  go_enter Tryz.func73, Tryz.ntmps73
  go_wp2_with fail
  go_ret
  exact ⟨rfl, Blk.new _ _ _, (Below.refl _ _).alloc (Nat.le_refl _) _⟩
set_option maxRecDepth 100000 in
set_option maxHeartbeats 4000000 in
theorem newMaker4_ok (w : World) : Calls Tryz.prog 73 #[.int .i64 4] w fun e w' => ∃ pm st eb, e = .returned (.iface 176 (pt pm)) ∧ Blk w' pm 178 #[pt st] ∧ w.heap.size ≤ pm ∧ SS w.heap.size st eb w' ∧ Below w.heap.size w w' := by
  go_enter Tryz.func73, Tryz.ntmps73
  go_wp2_with fail
  refine (newStream_ok w).mono ?_
  rintro e w1 ⟨st, eb, rfl, hS, hb⟩
  have HS := Lib.hid hS
  have HB := Lib.hid hb
  have hsz := hb.size
  clear hS hb
  go_wp2_with fail
  go_ret
  exact ⟨_, _, _, rfl, Blk.new _ _ _, hsz, HS.out.below ((Below.refl _ _).alloc (Nat.le_refl _) _), HB.out.alloc hsz _⟩
set_option maxRecDepth 100000 in
set_option maxHeartbeats 4000000 in
theorem plainSum_ok {B st eb : Nat} (pm : Nat) (w : World) (hB : B ≤ w.heap.size) (hg : 10 < w.heap.size) (ht : TabW w) (hs : SS B st eb w) (hc : w.cell? ⟨pm, 0, none⟩ = some (pt st)) :
    Calls Tryz.prog 244 #[pt pm] w fun e w' => ∃ s : ByteArray, e = .returned (.string s) ∧ Below w.heap.size w w' := by
  have HS := Lib.hid hs
  have HT := Lib.hid ht
  clear hs ht
  go_enter Tryz.func244, Tryz.ntmps244
  go_wp2_with fail
  refine (sum_ok w hB hg HT.out HS.out).mono ?_
  rintro e w1 ⟨s, rfl, h32, hb⟩
  have HB := Lib.hid hb
  have hsz := hb.size
  clear hb
  go_wp2_with fail
  refine (hexed_ok s w1 (by omega)).mono ?_
  rintro e w2 ⟨rfl, hb2⟩
  have HB2 := Lib.hid (HB.out.trans (hb2.mono hsz))
  clear hb2
  go_wp2_with fail
  go_ret
  exact ⟨_, rfl, HB2.out⟩
set_option maxRecDepth 100000 in
set_option maxHeartbeats 4000000 in
theorem of1_ok (t : ByteArray) (w : World) (ht : t.size < 1024) : Calls Tryz.prog 50 #[.int .i64 1, .string t] w fun e w' => e = .returned (.tuple #[.string ⟨(hexL (wordB ((4294967295 ^^^ crcL 4294967295 t.data.toList : Nat) : Int))).toArray⟩, .int .i64 0]) ∧ Below w.heap.size w w' := by
  have hgt : ¬ (t.size : Int) > 1048576 := by omega
  have hgd : decide ((t.size : Int) > 1048576) = false := decide_eq_false hgt
  go_enter Tryz.func50, Tryz.ntmps50
  go_wp2_with fail
  refine (known_ok 1 (by omega) (by omega) w).mono ?_
  rintro e w1 ⟨rfl, rfl⟩
  go_wp2_with fail
  refine (newMaker1_ok w1).mono ?_
  rintro e w2 ⟨rfl, hM, hb⟩
  have hlt := hM.lt
  have HM := Lib.hid hM
  have HB := Lib.hid hb
  clear hM hb
  go_wp2_with fail
  refine (crcWrite_ok w1.heap.size 4294967295 t w2 (by decide) ht HM.out).mono ?_
  rintro e w3 ⟨rfl, hM3, hk3⟩
  have c3 := hM3.cell 0
  have HB3 := Lib.hid (HB.out.trans (hk3.below HB.out.size (by simp)))
  have hsz3 := HB3.out.size
  clear hM3 hk3 HM HB
  have hx := crcL_lt t.data.toList (show 4294967295 < 4294967296 by decide)
  obtain ⟨x, hX⟩ : ∃ x, crcL 4294967295 t.data.toList = x := ⟨_, rfl⟩
  rw [hX] at hx c3
  have HX := Lib.hid hX
  clear hX
  go_wp2_with fail
  refine (crcSum_ok w1.heap.size x w3 hx c3).mono ?_
  rintro e w4 ⟨rfl, hb4⟩
  have HB4 := Lib.hid (HB3.out.trans (hb4.mono hsz3))
  clear hb4
  go_wp2_with fail
  go_ret2
  exact ⟨by rw [HX.out]; rfl, HB4.out⟩
set_option maxRecDepth 100000 in
set_option maxHeartbeats 4000000 in
theorem of4_ok (t : ByteArray) (w : World) (ht : t.size ≤ 1048576) (hg : 10 < w.heap.size) (hT : TabW w) : Calls Tryz.prog 50 #[.int .i64 4, .string t] w fun e w' => ∃ s : ByteArray, e = .returned (.tuple #[.string s, .int .i64 0]) ∧ Below w.heap.size w w' := by
  have hgt : ¬ (t.size : Int) > 1048576 := by omega
  have hgd : decide ((t.size : Int) > 1048576) = false := decide_eq_false hgt
  have HT := Lib.hid hT
  clear hT
  go_enter Tryz.func50, Tryz.ntmps50
  go_wp2_with fail
  refine (known_ok 4 (by omega) (by omega) w).mono ?_
  rintro e w1 ⟨rfl, rfl⟩
  go_wp2_with fail
  refine (newMaker4_ok w1).mono ?_
  rintro e w2 ⟨pm, st, eb, rfl, hM, hpm, hS, hb⟩
  have hlt := hM.lt
  have HM := Lib.hid hM
  have HB := Lib.hid hb
  have HS := Lib.hid hS
  have HT2 := Lib.hid (HT.out.below hb hg)
  have hsz := hb.size
  have c0 := hM.cell 0
  simp at c0
  have MP := method_plain pm (pt st) w2 c0
  clear hM hb hS
  go_wp2_with fail
  refine (write_ok t w2 hsz hg HT2.out HS.out (by omega)).mono ?_
  rintro e w3 ⟨rfl, hS3, hb3, hk3⟩
  have c3 := (hk3.h _ _ _ HM.out (by decide) (by decide) (by decide)).cell 0
  simp at c3
  have HB3 := Lib.hid (HB.out.trans hb3)
  have HS3 := Lib.hid hS3
  have HT3 := Lib.hid (HT2.out.below hb3 hg)
  have hsz3 := HB3.out.size
  clear hS3 hb3 hk3 HM HB HS HT HT2 MP
  go_wp2_with fail
  refine (plainSum_ok pm w3 hsz3 (by omega) HT3.out HS3.out c3).mono ?_
  rintro e w4 ⟨s, rfl, hb4⟩
  have HB4 := Lib.hid (HB3.out.trans (hb4.mono hsz3))
  clear hb4
  go_wp2_with fail
  go_ret2
  exact ⟨_, rfl, HB4.out⟩
end Go.Proofs.YtobiacdeoeogaaaGreatDoor
