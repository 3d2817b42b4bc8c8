import Derived.Test.YtpjnjhklkgefcaaGreatDoorU
set_option linter.unusedVariables false
set_option linter.unusedSimpArgs false
namespace Go.Proofs.YtpjnjhklkgefcaaGreatDoor
open Go.RowKit
/-- a step of a CRC. -/
def crcStep (v : Nat) : Nat := if v % 2 = 1 then (v / 2) ^^^ 3988292384 else v / 2
def crcN : Nat → Nat → Nat
  | 0, v => v
  | k + 1, v => crcN k (crcStep v)
theorem crcStep_lt {v : Nat} (h : v < 4294967296) : crcStep v < 4294967296 := by
  unfold crcStep; split
  · exact Nat.xor_lt_two_pow (n := 32) (by omega) (by decide)
  · omega
theorem crcN_lt : ∀ k {v : Nat}, v < 4294967296 → crcN k v < 4294967296
  | 0, _, h => h
  | k + 1, _, h => crcN_lt k (crcStep_lt h)
def crcB (s b : Nat) : Nat := crcN 8 (s ^^^ b)
theorem crcB_lt {s b : Nat} (h : s < 4294967296) (hb : b < 256) : crcB s b < 4294967296 :=
  crcN_lt 8 (Nat.xor_lt_two_pow (n := 32) h (by omega))
def crcL (s : Nat) (l : List UInt8) : Nat := l.foldl (fun v b => crcB v b.toNat) s
theorem crcL_lt : ∀ (l : List UInt8) {s : Nat}, s < 4294967296 → crcL s l < 4294967296
  | [], _, h => h
  | b :: l, _, h => crcL_lt l (crcB_lt h b.toNat_lt)
theorem crcL_snoc (s : Nat) (l : List UInt8) (b : UInt8) : crcL s (l ++ [b]) = crcB (crcL s l) b.toNat := by simp [crcL]
theorem and1 (v : Nat) (h : v < 4294967296) : bits .and .u32 (v : Int) 1 = ((v % 2 : Nat) : Int) := by
  rw [show (1 : Int) = ((1 : Nat) : Int) from rfl, u32_and_nat v 1 h (by decide), show (1 : Nat) = 2 ^ 1 - 1 from rfl, Nat.and_two_pow_sub_one_eq_mod]
set_option maxRecDepth 100000 in
set_option maxHeartbeats 4000000 in
theorem crcByte_ok (s b : Nat) (hs : s < 4294967296) (hb : b < 256) (w : World) : Calls Tryz.prog 348 #[.int .u32 (s : Int), .int .u8 (b : Int)] w fun e w' => e = .returned (.int .u32 (crcB s b : Nat)) ∧ w' = w := by
  have hx := u32_xor_nat s b hs (by omega)
  have HX := Lib.hid (Nat.xor_lt_two_pow (n := 32) hs (show b < 2 ^ 32 by omega))
  go_enter Tryz.func348, Tryz.ntmps348
  go_wp2_with fail
  have HE := Lib.hid (show crcN (8 - 0) (s ^^^ b) = crcB s b from rfl)
  generalize s ^^^ b = v0 at *
  clear hx
  go_loopw [0, 10] (fun v k wr => ∃ i, ∃ x : Nat, v = .int .u32 (x : Int) ∧ k = .int .i64 (i : Nat) ∧ i ≤ 8 ∧ x < 4294967296 ∧ crcN (8 - i) x = crcB s b ∧ wr = w) (fun v k _ => 8 - (intOf k).toNat)
  case atStart => exact ⟨0, v0, rfl, rfl, Nat.zero_le _, HX.out, HE.out, rfl⟩
  case round =>
    clear HE HX
    obtain ⟨i, x, rfl, rfl, hi, hx, hC, rfl⟩ := hrel
    have HC := Lib.hid hC
    clear hC
    by_cases hlt : i < 8
    · have hd : decide ((i : Int) < 8) = true := decide_eq_true (by omega)
      have ha := and1 x hx
      have HS := Lib.hid (show crcN (8 - (i + 1)) (crcStep x) = crcB s b from by
        have e : 8 - i = (8 - (i + 1)) + 1 := by omega
        rw [← HC.out, e]; rfl)
      have HL := Lib.hid (crcStep_lt hx)
      obtain ⟨y, hy0⟩ : ∃ y, y = x / 2 := ⟨_, rfl⟩
      have h2 : (x : Int) / 2 = (y : Int) := by omega
      have hy := u32_xor_nat y 3988292384 (by omega) (by decide)
      have e8 : ((3988292384 : Nat) : Int) = 3988292384 := rfl
      rw [e8] at hy
      by_cases hm : x % 2 = 1
      · have HV := Lib.hid (show crcStep x = y ^^^ 3988292384 from by unfold crcStep; rw [if_pos hm, hy0])
        rw [hm] at ha
        clear hy0 hm
        generalize y ^^^ 3988292384 = z at *
        go_wp2_with fail
        go_roundw
        case rel => exact ⟨i + 1, crcStep x, by rw [HV.out], by go_num, by omega, HL.out, HS.out, trivial⟩
        case measure => simp [intOf]; omega
      · have HV := Lib.hid (show crcStep x = y from by unfold crcStep; rw [if_neg hm, hy0])
        have hm0 : x % 2 = 0 := by omega
        rw [hm0] at ha
        clear hy0 hm hm0 hy
        go_wp2_with fail
        go_roundw
        case rel => exact ⟨i + 1, crcStep x, by rw [HV.out], by go_num, by omega, HL.out, HS.out, trivial⟩
        case measure => simp [intOf]; omega
    · have hd : decide ((i : Int) < 8) = false := decide_eq_false (by omega)
      have h8 := Lib.hid (show i = 8 by omega)
      go_wp2_with fail
      go_ret
      have h0 : x = crcB s b := by have := HC.out; rw [h8.out] at this; exact this
      exact ⟨by rw [h0]; rfl, rfl⟩
end Go.Proofs.YtpjnjhklkgefcaaGreatDoor

set_option linter.unusedVariables false
set_option linter.unusedSimpArgs false
namespace Go.Proofs.YtpjnjhklkgefcaaGreatDoor
open Go.RowKit
def byteI (x : Int) : UInt8 := UInt8.ofNat (x % 256).toNat
theorem byteI_eq (x : Int) : x % 256 = ((byteI x).toNat : Int) := by
  have : (x % 256).toNat < 256 := by omega
  simp [byteI, UInt8.toNat_ofNat', Nat.mod_eq_of_lt this]
  omega
/-- the four bytes of a word. -/
def wordB (x : Int) : List UInt8 := [byteI (x / 16777216), byteI (x / 65536), byteI (x / 256), byteI x]
/-- a fresh row of bytes, as a text. -/
theorem conv_block {w : World} {g cap : Nat} {l : List UInt8} {cs : Array Value} {fr : Nat × Nat} (h : w.heap[g]? = some (.cells cs 5 fr)) (hc : cs.toList = Lib.byteCells l) : (convert 117 9 (.slice (some ⟨g, 0, none⟩) l.length cap)).run Tryz.prog w = .ok (.string ⟨l.toArray⟩) w := by
  refine run_convert_bytes_back (P := Tryz.prog) w 117 9 5 ⟨g, 0, none⟩ cap l Tryz.underlying117 Tryz.underlying5 Tryz.underlying9 (fun j hj => ?_)
  have e : (⟨g, 0, none⟩ : Addr).add j = ⟨g, j, none⟩ := by unfold Addr.add; split <;> simp_all
  rw [e, cell_of_row w g j cs _ _ h, ← Array.getElem?_toList, hc]
  simp [Lib.byteCells, hj]
theorem conv4 (b1 b2 b3 b4 : UInt8) (w : World) : (convert 117 9 (.slice (some ⟨w.heap.size, 0, none⟩) 4 4)).run Tryz.prog (w.alloc (.cells #[.int .u8 (b1.toNat : Int), .int .u8 (b2.toNat : Int), .int .u8 (b3.toNat : Int), .int .u8 (b4.toNat : Int)] 5)) = .ok (.string ⟨#[b1, b2, b3, b4]⟩) (w.alloc (.cells #[.int .u8 (b1.toNat : Int), .int .u8 (b2.toNat : Int), .int .u8 (b3.toNat : Int), .int .u8 (b4.toNat : Int)] 5)) :=
  conv_block (l := [b1, b2, b3, b4]) (heap_alloc_new w _) (by simp [Lib.byteCells])
set_option maxRecDepth 100000 in
set_option maxHeartbeats 4000000 in
theorem wordText_ok (x : Int) (w : World) : Calls Tryz.prog 347 #[.int .u32 x] w fun e w' => e = .returned (.string ⟨(hexL (wordB x)).toArray⟩) ∧ Below w.heap.size w w' := by
  have h1 := byteI_eq (x / 16777216)
  have h2 := byteI_eq (x / 65536)
  have h3 := byteI_eq (x / 256)
  have h4 := byteI_eq x
  have HV := Lib.hid (show wordB x = [byteI (x / 16777216), byteI (x / 65536), byteI (x / 256), byteI x] from rfl)
  generalize byteI (x / 16777216) = b1 at *
  generalize byteI (x / 65536) = b2 at *
  generalize byteI (x / 256) = b3 at *
  generalize byteI x = b4 at *
  have hcv := conv4 b1 b2 b3 b4 w
  go_enter Tryz.func347, Tryz.ntmps347
  go_wp2_with fail
  clear hcv
  have HB := Lib.hid ((Below.refl w.heap.size w).alloc (Nat.le_refl _) (.cells #[.int .u8 (b1.toNat : Int), .int .u8 (b2.toNat : Int), .int .u8 (b3.toNat : Int), .int .u8 (b4.toNat : Int)] 5))
  have hsz := HB.out.size
  generalize (w.alloc _) = w1 at *
  refine (hexed_ok ⟨#[b1, b2, b3, b4]⟩ w1 (by show 4 ≤ _; omega)).mono ?_
  rintro e w2 ⟨rfl, hb⟩
  have HB2 := Lib.hid (HB.out.trans (hb.mono hsz))
  clear hb HB
  go_wp2_with fail
  go_ret
  exact ⟨by rw [HV.out]; rfl, HB2.out⟩
set_option maxRecDepth 100000 in
set_option maxHeartbeats 4000000 in
theorem crcSum_ok (mb x : Nat) (w : World) (hx : x < 4294967296) (hc : w.cell? ⟨mb, 0, none⟩ = some (.int .u32 (x : Int))) : Calls Tryz.prog 345 #[pt mb] w fun e w' => e = .returned (.string ⟨(hexL (wordB ((4294967295 ^^^ x : Nat) : Int))).toArray⟩) ∧ Below w.heap.size w w' := by
  have hsg : IntKind.u32.signed = false := rfl
  have hxx : bits .xor .u32 IntKind.u32.max (x : Int) = ((4294967295 ^^^ x : Nat) : Int) := u32_xor_nat 4294967295 x (by decide) hx
  generalize 4294967295 ^^^ x = y at *
  go_enter Tryz.func345, Tryz.ntmps345
  go_wp2_with fail
  refine (wordText_ok _ _).mono ?_
  rintro e w1 ⟨rfl, hb⟩
  go_wp2_with fail
  go_ret
  exact ⟨rfl, hb⟩
set_option maxRecDepth 100000 in
set_option maxHeartbeats 4000000 in
theorem crcWrite_ok (mb s : Nat) (t : ByteArray) (w : World) (hs : s < 4294967296) (ht : t.size < 1024) (hM : Blk w mb 265 #[.int .u32 (s : Int)]) : Calls Tryz.prog 346 #[pt mb, .string t] w fun e w' => e = .returned (.tuple #[]) ∧ Blk w' mb 265 #[.int .u32 (crcL s t.data.toList : Nat)] ∧ Kp [mb] w w' := by
  have HM := Lib.hid hM
  clear hM
  have hd : decide (t.size < 1024) = true := decide_eq_true ht
  have hd' : (t.size : Int) < 1024 := by omega
  go_enter Tryz.func346, Tryz.ntmps346
  go_wp2_with fail
  clear hd hd'
  go_loopw [12] (fun k wr => ∃ i, k = .int .i64 (i : Nat) ∧ i ≤ t.size ∧ Blk wr mb 265 #[.int .u32 (crcL s (t.data.toList.take i) : Nat)] ∧ Kp [mb] w wr) (fun k _ => t.size - (intOf k).toNat)
  case atStart => exact ⟨0, rfl, Nat.zero_le _, HM.out, Kp.refl _ _⟩
  case round =>
    clear HM
    obtain ⟨i, rfl, hi, hM, hK⟩ := hrel
    have HM := Lib.hid hM
    have HK := Lib.hid hK
    by_cases hlt : i < t.size
    · have hd : decide (i < t.size) = true := decide_eq_true hlt
      have hd' : decide ((i : Int) < (t.size : Int)) = true := decide_eq_true (by omega)
      have c0 := hM.cell 0
      have f0 := hM.frozen 0
      simp at c0
      have HT := Lib.hid (show crcL s (t.data.toList.take (i + 1)) = crcB (crcL s (t.data.toList.take i)) t[i].toNat from by rw [take_snoc t i hlt, crcL_snoc])
      have HL := Lib.hid (crcL_lt (t.data.toList.take i) hs)
      have hb := t[i].toNat_lt
      have hix : ∀ w, (Instr.index 9 (.string t) (.int .i64 (i : Int))).run Tryz.prog w = .ok (.int .u8 (t[i].toNat : Int)) w := fun w => by
        rw [run_index_string w 9 t .i64 (i : Int) Tryz.underlying9]
        simp [hlt]
      generalize t[i].toNat = b at *
      generalize crcL s (t.data.toList.take i) = v at *
      have C := Lib.hid (crcByte_ok v b HL.out (by omega) wr.drew)
      clear hM hK
      go_wp2_with fail
      refine wp_region_still_tail 11 (by kernel_rfl) (by kernel_rfl) ?_
      simp only [List.take_succ_cons, List.take_zero, List.drop_succ_cons, List.drop_zero]
      iterate 8 ((with_reducible refine wpStill_step (fun K hK => ?_)); go_simp; (with_reducible refine hK _ ?_); clear hK K)
      (with_reducible refine wpStill_step (fun K hK => ?_))
      go_simp
      refine ⟨_, by refine (C.out).mono ?_; rintro e w' ⟨rfl, rfl⟩; exact ⟨rfl, rfl⟩, hK _ ?_⟩
      clear hK K
      iterate 2 ((with_reducible refine wpStill_step (fun K hK => ?_)); go_simp; (with_reducible refine hK _ ?_); clear hK K)
      (with_reducible refine wpStill_nil ?_)
      change wpList _ _ _ _ _ wr.drew
      have f1 : wr.drew.frozen? ⟨mb, 0, none⟩ = false := f0
      have c1 : wr.drew.cell? ⟨mb, 0, none⟩ = some (Value.int IntKind.u32 ↑v) := c0
      go_wp2_with fail
      go_roundw
      case rel => exact ⟨i + 1, by go_num, by omega, by rw [HT.out]; exact HM.out.drw.set 0 _, (HK.out.drew).setCell _ _ (Or.inl (by simp))⟩
      case measure => simp [intOf]; omega
    · have hd : decide (i < t.size) = false := decide_eq_false hlt
      have hd' : decide ((i : Int) < (t.size : Int)) = false := decide_eq_false (by omega)
      go_wp2_with fail
      (try simp only [Exit.inBlock, Exit.then]); refine bodyPost_ret (results_none rfl _ _ _) rfl ?_
      have e : t.data.toList.take i = t.data.toList := List.take_of_length_le (by have := Lib.size_eq t; omega)
      rw [e] at hM
      exact ⟨rfl, hM, hK⟩
end Go.Proofs.YtpjnjhklkgefcaaGreatDoor

set_option linter.unusedVariables false
set_option linter.unusedSimpArgs false
namespace Go.Proofs.YtpjnjhklkgefcaaGreatDoor
open Go.RowKit
theorem run_load_one {α : Type} (a : Addr) (k : Value → Sem α) (v : Value) (w : World) (h : w.cell? a = some v) : (Sem.load .plain a k).run Tryz.prog w = (k v).run Tryz.prog w := by
  simp [Sem.run, h]
theorem method_w0 (pm : Nat) (w : World) : (method 513 271 (pt pm) "wherryman/sums.write").run Tryz.prog w = (Sem.load .plain ⟨pm, 0, none⟩ (fun v => Sem.pure ((355 : Nat), v))).run Tryz.prog w := by kernel_rfl
theorem method_plain (pm : Nat) (v : Value) (w : World) (h : w.cell? ⟨pm, 0, none⟩ = some v) : (method 513 271 (pt pm) "wherryman/sums.write").run Tryz.prog w = .ok (355, v) w :=
  (method_w0 pm w).trans (run_load_one _ _ _ _ h)
set_option maxRecDepth 100000 in
set_option maxHeartbeats 4000000 in
theorem known_ok (k : Nat) (h1 : 1 ≤ k) (h5 : k ≤ 5) (w : World) : Calls Tryz.prog 154 #[.int .i64 (k : Int)] w fun e w' => e = .returned (.bool true) ∧ w' = w := by
  have d1 : decide ((k : Int) ≥ 1) = true := decide_eq_true (by omega)
  have d5 : decide ((k : Int) ≤ 5) = true := decide_eq_true (by omega)
  go_enter Tryz.func154, Tryz.ntmps154
  go_wp2_with fail
  go_ret
  exact ⟨rfl, rfl⟩
set_option maxRecDepth 100000 in
set_option maxHeartbeats 4000000 in
theorem newMaker1_ok (w : World) : Calls Tryz.prog 155 #[.int .i64 1] w fun e w' => e = .returned (.iface 263 (pt w.heap.size)) ∧ Blk w' w.heap.size 265 #[.int .u32 4294967295] ∧ Below w.heap.size w w' := by
  go_enter Tryz.func155, Tryz.ntmps155
  go_wp2_with fail
  go_ret
  exact ⟨rfl, Blk.new _ _ _, (Below.refl _ _).alloc (Nat.le_refl _) _⟩
set_option maxRecDepth 100000 in
set_option maxHeartbeats 4000000 in
theorem newMaker4_ok (w : World) : Calls Tryz.prog 155 #[.int .i64 4] w fun e w' => ∃ pm st eb, e = .returned (.iface 271 (pt pm)) ∧ Blk w' pm 273 #[pt st] ∧ w.heap.size ≤ pm ∧ SS w.heap.size st eb w' ∧ Below w.heap.size w w' := by
  go_enter Tryz.func155, Tryz.ntmps155
  go_wp2_with fail
  refine (newStream_ok w).mono ?_
  rintro e w1 ⟨st, eb, rfl, hS, hb⟩
  have HS := Lib.hid hS
  have HB := Lib.hid hb
  have hsz := hb.size
  clear hS hb
  go_wp2_with fail
  go_ret
  exact ⟨_, _, _, rfl, Blk.new _ _ _, hsz, HS.out.below ((Below.refl _ _).alloc (Nat.le_refl _) _), HB.out.alloc hsz _⟩
set_option maxRecDepth 100000 in
set_option maxHeartbeats 4000000 in
theorem plainSum_ok {B st eb : Nat} (pm : Nat) (w : World) (hB : B ≤ w.heap.size) (hg : 11 < w.heap.size) (ht : TabW w) (hs : SS B st eb w) (hc : w.cell? ⟨pm, 0, none⟩ = some (pt st)) :
    Calls Tryz.prog 360 #[pt pm] w fun e w' => ∃ s : ByteArray, e = .returned (.string s) ∧ Below w.heap.size w w' := by
  have HS := Lib.hid hs
  have HT := Lib.hid ht
  clear hs ht
  go_enter Tryz.func360, Tryz.ntmps360
  go_wp2_with fail
  refine (sum_ok w hB hg HT.out HS.out).mono ?_
  rintro e w1 ⟨s, rfl, h32, hb⟩
  have HB := Lib.hid hb
  have hsz := hb.size
  clear hb
  go_wp2_with fail
  refine (hexed_ok s w1 (by omega)).mono ?_
  rintro e w2 ⟨rfl, hb2⟩
  have HB2 := Lib.hid (HB.out.trans (hb2.mono hsz))
  clear hb2
  go_wp2_with fail
  go_ret
  exact ⟨_, rfl, HB2.out⟩
set_option maxRecDepth 100000 in
set_option maxHeartbeats 4000000 in
theorem of1_ok (t : ByteArray) (w : World) (ht : t.size < 1024) : Calls Tryz.prog 119 #[.int .i64 1, .string t] w fun e w' => e = .returned (.tuple #[.string ⟨(hexL (wordB ((4294967295 ^^^ crcL 4294967295 t.data.toList : Nat) : Int))).toArray⟩, .int .i64 0]) ∧ Below w.heap.size w w' := by
  have hgt : ¬ (t.size : Int) > 1048576 := by omega
  have hgd : decide ((t.size : Int) > 1048576) = false := decide_eq_false hgt
  go_enter Tryz.func119, Tryz.ntmps119
  go_wp2_with fail
  refine (known_ok 1 (by omega) (by omega) w).mono ?_
  rintro e w1 ⟨rfl, rfl⟩
  go_wp2_with fail
  refine (newMaker1_ok w1).mono ?_
  rintro e w2 ⟨rfl, hM, hb⟩
  have hlt := hM.lt
  have HM := Lib.hid hM
  have HB := Lib.hid hb
  clear hM hb
  go_wp2_with fail
  refine (crcWrite_ok w1.heap.size 4294967295 t w2 (by decide) ht HM.out).mono ?_
  rintro e w3 ⟨rfl, hM3, hk3⟩
  have c3 := hM3.cell 0
  have HB3 := Lib.hid (HB.out.trans (hk3.below HB.out.size (by simp)))
  have hsz3 := HB3.out.size
  clear hM3 hk3 HM HB
  have hx := crcL_lt t.data.toList (show 4294967295 < 4294967296 by decide)
  obtain ⟨x, hX⟩ : ∃ x, crcL 4294967295 t.data.toList = x := ⟨_, rfl⟩
  rw [hX] at hx c3
  have HX := Lib.hid hX
  clear hX
  go_wp2_with fail
  refine (crcSum_ok w1.heap.size x w3 hx c3).mono ?_
  rintro e w4 ⟨rfl, hb4⟩
  have HB4 := Lib.hid (HB3.out.trans (hb4.mono hsz3))
  clear hb4
  go_wp2_with fail
  go_ret2
  exact ⟨by rw [HX.out]; rfl, HB4.out⟩
set_option maxRecDepth 100000 in
set_option maxHeartbeats 4000000 in
theorem of4_ok (t : ByteArray) (w : World) (ht : t.size ≤ 1048576) (hg : 11 < w.heap.size) (hT : TabW w) : Calls Tryz.prog 119 #[.int .i64 4, .string t] w fun e w' => ∃ s : ByteArray, e = .returned (.tuple #[.string s, .int .i64 0]) ∧ Below w.heap.size w w' := by
  have hgt : ¬ (t.size : Int) > 1048576 := by omega
  have hgd : decide ((t.size : Int) > 1048576) = false := decide_eq_false hgt
  have HT := Lib.hid hT
  clear hT
  go_enter Tryz.func119, Tryz.ntmps119
  go_wp2_with fail
  refine (known_ok 4 (by omega) (by omega) w).mono ?_
  rintro e w1 ⟨rfl, rfl⟩
  go_wp2_with fail
  refine (newMaker4_ok w1).mono ?_
  rintro e w2 ⟨pm, st, eb, rfl, hM, hpm, hS, hb⟩
  have hlt := hM.lt
  have HM := Lib.hid hM
  have HB := Lib.hid hb
  have HS := Lib.hid hS
  have HT2 := Lib.hid (HT.out.below hb hg)
  have hsz := hb.size
  have c0 := hM.cell 0
  simp at c0
  have MP := method_plain pm (pt st) w2 c0
  clear hM hb hS
  go_wp2_with fail
  refine (write_ok t w2 hsz hg HT2.out HS.out (by omega)).mono ?_
  rintro e w3 ⟨rfl, hS3, hb3, hk3⟩
  have c3 := (hk3.h _ _ _ HM.out (by decide) (by decide) (by decide)).cell 0
  simp at c3
  have HB3 := Lib.hid (HB.out.trans hb3)
  have HS3 := Lib.hid hS3
  have HT3 := Lib.hid (HT2.out.below hb3 hg)
  have hsz3 := HB3.out.size
  clear hS3 hb3 hk3 HM HB HS HT HT2 MP
  go_wp2_with fail
  refine (plainSum_ok pm w3 hsz3 (by omega) HT3.out HS3.out c3).mono ?_
  rintro e w4 ⟨s, rfl, hb4⟩
  have HB4 := Lib.hid (HB3.out.trans (hb4.mono hsz3))
  clear hb4
  go_wp2_with fail
  go_ret2
  exact ⟨_, rfl, HB4.out⟩
end Go.Proofs.YtpjnjhklkgefcaaGreatDoor

set_option linter.unusedVariables false
set_option linter.unusedSimpArgs false
namespace Go.Proofs.YtpjnjhklkgefcaaGreatDoor
open Go.RowKit
set_option maxRecDepth 100000 in
set_option maxHeartbeats 4000000 in
theorem baseBits_ok (w : World) : Calls Tryz.prog 340 #[.int .i64 16] w fun e w' => e = .returned (.int .i64 4) ∧ w' = w := by
  go_enter Tryz.func340, Tryz.ntmps340
  go_wp2_with fail
  go_ret
  exact ⟨rfl, rfl⟩
set_option maxRecDepth 100000 in
set_option maxHeartbeats 4000000 in
theorem baseDigits_ok (w : World) : Calls Tryz.prog 343 #[.int .i64 16] w fun e w' => e = .returned (.string ⟨#[48, 49, 50, 51, 52, 53, 54, 55, 56, 57, 97, 98, 99, 100, 101, 102]⟩) ∧ w' = w := by
  go_enter Tryz.func343, Tryz.ntmps343
  go_wp2_with fail
  go_ret
  exact ⟨rfl, rfl⟩
theorem hexIxI (n : Nat) (h : n < 16) (w : World) : (Instr.index 9 (.string ⟨#[48, 49, 50, 51, 52, 53, 54, 55, 56, 57, 97, 98, 99, 100, 101, 102]⟩) (.int .i64 (n : Int))).run Tryz.prog w = .ok (.int .u8 ((hdig n).toNat : Int)) w := by
  have : n = 0 ∨ n = 1 ∨ n = 2 ∨ n = 3 ∨ n = 4 ∨ n = 5 ∨ n = 6 ∨ n = 7 ∨ n = 8 ∨ n = 9 ∨ n = 10 ∨ n = 11 ∨ n = 12 ∨ n = 13 ∨ n = 14 ∨ n = 15 := by omega
  rcases this with rfl | rfl | rfl | rfl | rfl | rfl | rfl | rfl | rfl | rfl | rfl | rfl | rfl | rfl | rfl | rfl
  all_goals (refine (?_ : _ = _); kernel_rfl)
theorem hdig_ne : ∀ d k : Fin 16, d ≠ k → (hdig d).toNat ≠ (hdig k).toNat := by decide
theorem hdig_low : ∀ d k : Fin 16, 97 ≤ (hdig k).toNat → (hdig d).toNat ≠ (hdig k).toNat - 32 := by decide
theorem hdig_lt : ∀ k : Fin 16, (hdig k).toNat < 103 := by decide
/-- a table in which the first k digits of 16 stand. -/
structure DigT (k : Nat) (cs : Array Value) : Prop where
  size : cs.size = 256
  at_ : ∀ d, d < k → cs[(hdig d).toNat]? = some (.int .i64 (d : Nat))
theorem DigT.step {k : Nat} {cs : Array Value} (h : DigT k cs) (hk : k < 16) : DigT (k + 1) (cs.setIfInBounds (hdig k).toNat (.int .i64 (k : Nat))) := by
  have hl := hdig_lt ⟨k, hk⟩
  simp only at hl
  have hs := h.size
  refine ⟨by simp [h.size], fun d hd => ?_⟩
  by_cases e : d = k
  · subst e
    rw [Array.getElem?_setIfInBounds_self_of_lt (by omega)]
  · have hne := hdig_ne ⟨k, hk⟩ ⟨d, by omega⟩ (by intro hh; exact e (Fin.mk.inj hh).symm)
    simp only at hne
    rw [Array.getElem?_setIfInBounds_ne hne]
    exact h.at_ d (by omega)
theorem DigT.low {k n : Nat} {cs : Array Value} (h : DigT n cs) (hn : n ≤ 16) (hk : k < 16) (h97 : 97 ≤ (hdig k).toNat) (u : Value) : DigT n (cs.setIfInBounds ((hdig k).toNat - 32) u) := by
  refine ⟨by simp [h.size], fun d hd => ?_⟩
  have hne := hdig_low ⟨d, by omega⟩ ⟨k, hk⟩ h97
  simp only at hne
  rw [Array.getElem?_setIfInBounds_ne (fun e => hne e.symm)]
  exact h.at_ d hd
theorem get_some {cs : Array Value} {n i : Nat} (h : cs.size = n) (hi : i < n) : ∃ u, cs[i]? = some u := ⟨cs[i]'(by omega), Array.getElem?_eq_getElem (by omega)⟩
set_option maxRecDepth 100000 in
set_option maxHeartbeats 4000000 in
theorem values_ok (w : World) : Calls Tryz.prog 341 #[.int .i64 16] w fun e w' => e = .returned (pt w.heap.size) ∧ (∃ cs, Blk w' w.heap.size 390 cs ∧ DigT 16 cs) ∧ Below w.heap.size w w' := by
  go_enter Tryz.func341, Tryz.ntmps341
  have hz : (Tryz.zeroCells390 : Array Value).size = 256 := by kernel_rfl
  have HZ := Lib.hid (Blk.new w 390 Tryz.zeroCells390)
  have HSZ := Lib.hid hz
  have HB := Lib.hid ((Below.refl w.heap.size w).alloc (Nat.le_refl _) (.cells Tryz.zeroCells390 390))
  clear hz
  go_wp2_with fail
  generalize (w.alloc (.cells Tryz.zeroCells390 390)) = w1 at *
  generalize hvb : w.heap.size = vb at *
  have HVB := Lib.hid hvb
  clear hvb
  go_loopw [8] (fun k wr => ∃ i, ∃ cs, k = .int .i64 (i : Nat) ∧ i ≤ 256 ∧ Blk wr vb 390 cs ∧ cs.size = 256 ∧ Below vb w wr) (fun k _ => 256 - (intOf k).toNat)
  case atStart => exact ⟨0, _, rfl, Nat.zero_le _, HZ.out, HSZ.out, HB.out⟩
  case round =>
    clear HZ HSZ HB
    obtain ⟨i, cs, rfl, hi, hV, hs, hB⟩ := hrel
    have HV := Lib.hid hV
    have HB := Lib.hid hB
    have HS := Lib.hid hs
    by_cases hlt : i < 256
    · have hd : decide ((i : Int) < 256) = true := decide_eq_true (by omega)
      have hd2 : (i : Int) < 256 := by omega
      obtain ⟨u, hu⟩ := get_some hs hlt
      have cv := (hV.cell i).trans hu
      have fv := hV.frozen i
      clear hV hB hs hu
      go_wp2_with fail
      go_roundw
      case rel => exact ⟨i + 1, _, by go_num, by omega, HV.out.set i _, by simp [HS.out], HB.out.setCell (p := ⟨vb, i, none⟩) (Nat.le_refl _) _⟩
      case measure => simp [intOf]; omega
    · have hd : decide ((i : Int) < 256) = false := decide_eq_false (by omega)
      clear hV hB hs
      go_wp2_with fail
      refine (baseDigits_ok _).mono ?_
      rintro e w2 ⟨rfl, rfl⟩
      go_wp2_with fail
      go_loopw [18] (fun k wr => ∃ i, ∃ cs, k = .int .i64 (i : Nat) ∧ i ≤ 16 ∧ Blk wr vb 390 cs ∧ DigT i cs ∧ Below vb w wr) (fun k _ => 16 - (intOf k).toNat)
      case atStart => exact ⟨0, cs, rfl, Nat.zero_le _, HV.out, ⟨HS.out, fun d h => by omega⟩, HB.out⟩
      case round =>
        clear HV HB HS
        obtain ⟨i, cs, rfl, hi, hV, hD, hB⟩ := hrel
        have HV := Lib.hid hV
        have HB := Lib.hid hB
        have HD := Lib.hid hD
        by_cases hlt : i < 16
        · have hd : decide ((i : Int) < 16) = true := decide_eq_true (by omega)
          have hix := hexIxI i hlt
          have hl := hdig_lt ⟨i, hlt⟩
          have HST := Lib.hid (hD.step hlt)
          have HLO := Lib.hid (fun h97 u => (hD.step hlt).low (by omega) hlt h97 u)
          obtain ⟨u, hu⟩ := get_some hD.size (show (hdig i).toNat < 256 by simp only at hl; omega)
          have cv := (hV.cell (hdig i).toNat).trans hu
          have fv := hV.frozen (hdig i).toNat
          simp only at hl
          generalize hc : (hdig i).toNat = c at *
          have HC := Lib.hid hc
          have hc2 : (c : Int) < 256 := by omega
          clear hV hB hD hu hc
          by_cases h97 : 97 ≤ c
          · have h97' : decide ((97 : Int) ≤ (c : Int)) = true := decide_eq_true (by omega)
            obtain ⟨x, hx⟩ : ∃ x, x + 32 = c := ⟨c - 32, by omega⟩
            have HX := Lib.hid hx
            have hx2 : (c : Int) - 97 + 65 = (x : Int) := by omega
            have hx3 : (x : Int) < 256 := by omega
            obtain ⟨u2, hu2⟩ := get_some HST.out.size (show x < 256 by omega)
            have cv2 := ((HV.out.set c (.int .i64 (i : Nat))).cell x).trans hu2
            have fv2 := (HV.out.set c (.int .i64 (i : Nat))).frozen x
            clear hx hu2
            go_wp2_with fail
            go_roundw
            case rel => exact ⟨i + 1, _, by go_num, by omega, (HV.out.set c _).set x _, by rw [show x = c - 32 by have := HX.out; omega]; exact HLO.out h97 _, (HB.out.setCell (p := ⟨vb, c, none⟩) (Nat.le_refl _) _).setCell (p := ⟨vb, x, none⟩) (Nat.le_refl _) _⟩
            case measure => simp [intOf]; omega
          · have h97' : decide ((97 : Int) ≤ (c : Int)) = false := decide_eq_false (by omega)
            go_wp2_with fail
            go_roundw
            case rel => exact ⟨i + 1, _, by go_num, by omega, HV.out.set c _, HST.out, HB.out.setCell (p := ⟨vb, c, none⟩) (Nat.le_refl _) _⟩
            case measure => simp [intOf]; omega
        · have hd : decide ((i : Int) < 16) = false := decide_eq_false (by omega)
          have h16 := Lib.hid (show i = 16 by omega)
          clear hV hB hD
          go_wp2_with fail
          go_ret
          obtain rfl := HVB.out
          exact ⟨rfl, ⟨cs, HV.out, by have := HD.out; rw [h16.out] at this; exact this⟩, HB.out⟩
end Go.Proofs.YtpjnjhklkgefcaaGreatDoor
