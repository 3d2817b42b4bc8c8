import Derived.Test.YtobiacdeoeogaaaGreatDoorV
set_option linter.unusedVariables false
set_option linter.unusedSimpArgs false
namespace Go.Proofs.YtobiacdeoeogaaaGreatDoor
open Go.RowKit
def byteI (x : Int) : UInt8 := UInt8.ofNat (x % 256).toNat
theorem byteI_eq (x : Int) : x % 256 = ((byteI x).toNat : Int) := by
  have : (x % 256).toNat < 256 := by omega
  simp [byteI, UInt8.toNat_ofNat', Nat.mod_eq_of_lt this]
  omega
/-- the four bytes of a word. -/
def wordB (x : Int) : List UInt8 := [byteI (x / 16777216), byteI (x / 65536), byteI (x / 256), byteI x]
/-- a fresh row of bytes, as a text. -/
theorem conv_block {w : World} {g cap : Nat} {l : List UInt8} {cs : Array Value} {fr : Nat × Nat} (h : w.heap[g]? = some (.cells cs 5 fr)) (hc : cs.toList = Lib.byteCells l) : (convert 32 9 (.slice (some ⟨g, 0, none⟩) l.length cap)).run Tryz.prog w = .ok (.string ⟨l.toArray⟩) w := by
  refine run_convert_bytes_back (P := Tryz.prog) w 32 9 5 ⟨g, 0, none⟩ cap l Tryz.underlying32 Tryz.underlying5 Tryz.underlying9 (fun j hj => ?_)
  have e : (⟨g, 0, none⟩ : Addr).add j = ⟨g, j, none⟩ := by unfold Addr.add; split <;> simp_all
  rw [e, cell_of_row w g j cs _ _ h, ← Array.getElem?_toList, hc]
  simp [Lib.byteCells, hj]
theorem conv4 (b1 b2 b3 b4 : UInt8) (w : World) : (convert 32 9 (.slice (some ⟨w.heap.size, 0, none⟩) 4 4)).run Tryz.prog (w.alloc (.cells #[.int .u8 (b1.toNat : Int), .int .u8 (b2.toNat : Int), .int .u8 (b3.toNat : Int), .int .u8 (b4.toNat : Int)] 5)) = .ok (.string ⟨#[b1, b2, b3, b4]⟩) (w.alloc (.cells #[.int .u8 (b1.toNat : Int), .int .u8 (b2.toNat : Int), .int .u8 (b3.toNat : Int), .int .u8 (b4.toNat : Int)] 5)) :=
  conv_block (l := [b1, b2, b3, b4]) (heap_alloc_new w _) (by simp [Lib.byteCells])
set_option maxRecDepth 100000 in
set_option maxHeartbeats 4000000 in
theorem wordText_ok (x : Int) (w : World) : Calls Tryz.prog 231 #[.int .u32 x] w fun e w' => e = .returned (.string ⟨(hexL (wordB x)).toArray⟩) ∧ Below w.heap.size w w' := by
  have h1 := byteI_eq (x / 16777216)
  have h2 := byteI_eq (x / 65536)
  have h3 := byteI_eq (x / 256)
  have h4 := byteI_eq x
  have HV := Lib.hid (show wordB x = [byteI (x / 16777216), byteI (x / 65536), byteI (x / 256), byteI x] from rfl)
  generalize byteI (x / 16777216) = b1 at *
  generalize byteI (x / 65536) = b2 at *
  generalize byteI (x / 256) = b3 at *
  generalize byteI x = b4 at *
  have hcv := conv4 b1 b2 b3 b4 w
  go_enter Tryz.func231, Tryz.ntmps231
  go_wp2_with fail
  clear hcv
  have HB := Lib.hid ((Below.refl w.heap.size w).alloc (Nat.le_refl _) (.cells #[.int .u8 (b1.toNat : Int), .int .u8 (b2.toNat : Int), .int .u8 (b3.toNat : Int), .int .u8 (b4.toNat : Int)] 5))
  have hsz := HB.out.size
  generalize (w.alloc _) = w1 at *
  refine (hexed_ok ⟨#[b1, b2, b3, b4]⟩ w1 (by show 4 ≤ _; omega)).mono ?_
  rintro e w2 ⟨rfl, hb⟩
  have HB2 := Lib.hid (HB.out.trans (hb.mono hsz))
  clear hb HB
  go_wp2_with fail
  go_ret
  exact ⟨by rw [HV.out]; rfl, HB2.out⟩
set_option maxRecDepth 100000 in
set_option maxHeartbeats 4000000 in
theorem crcSum_ok (mb x : Nat) (w : World) (hx : x < 4294967296) (hc : w.cell? ⟨mb, 0, none⟩ = some (.int .u32 (x : Int))) : Calls Tryz.prog 229 #[pt mb] w fun e w' => e = .returned (.string ⟨(hexL (wordB ((4294967295 ^^^ x : Nat) : Int))).toArray⟩) ∧ Below w.heap.size w w' := by
  have hsg : IntKind.u32.signed = false := rfl
  have hxx : bits .xor .u32 IntKind.u32.max (x : Int) = ((4294967295 ^^^ x : Nat) : Int) := u32_xor_nat 4294967295 x (by decide) hx
  generalize 4294967295 ^^^ x = y at *
  go_enter Tryz.func229, Tryz.ntmps229
  go_wp2_with fail
  refine (wordText_ok _ _).mono ?_
  rintro e w1 ⟨rfl, hb⟩
  go_wp2_with fail
  go_ret
  exact ⟨rfl, hb⟩
set_option maxRecDepth 100000 in
set_option maxHeartbeats 4000000 in
theorem crcWrite_ok (mb s : Nat) (t : ByteArray) (w : World) (hs : s < 4294967296) (ht : t.size < 1024) (hM : Blk w mb 170 #[.int .u32 (s : Int)]) : Calls Tryz.prog 230 #[pt mb, .string t] w fun e w' => e = .returned (.tuple #[]) ∧ Blk w' mb 170 #[.int .u32 (crcL s t.data.toList : Nat)] ∧ Kp [mb] w w' := by
  have HM := Lib.hid hM
  clear hM
  have hd : decide (t.size < 1024) = true := decide_eq_true ht
  have hd' : (t.size : Int) < 1024 := by omega
  go_enter Tryz.func230, Tryz.ntmps230
  go_wp2_with fail
  clear hd hd'
  go_loopw [12] (fun k wr => ∃ i, k = .int .i64 (i : Nat) ∧ i ≤ t.size ∧ Blk wr mb 170 #[.int .u32 (crcL s (t.data.toList.take i) : Nat)] ∧ Kp [mb] w wr) (fun k _ => t.size - (intOf k).toNat)
  case atStart => exact ⟨0, rfl, Nat.zero_le _, HM.out, Kp.refl _ _⟩
  case round =>
    clear HM
    obtain ⟨i, rfl, hi, hM, hK⟩ := hrel
    have HM := Lib.hid hM
    have HK := Lib.hid hK
    by_cases hlt : i < t.size
    · have hd : decide (i < t.size) = true := decide_eq_true hlt
      have hd' : decide ((i : Int) < (t.size : Int)) = true := decide_eq_true (by omega)
      have c0 := hM.cell 0
      have f0 := hM.frozen 0
      simp at c0
      have HT := Lib.hid (show crcL s (t.data.toList.take (i + 1)) = crcB (crcL s (t.data.toList.take i)) t[i].toNat from by rw [take_snoc t i hlt, crcL_snoc])
      have HL := Lib.hid (crcL_lt (t.data.toList.take i) hs)
      have hb := t[i].toNat_lt
      have hix : ∀ w, (Instr.index 9 (.string t) (.int .i64 (i : Int))).run Tryz.prog w = .ok (.int .u8 (t[i].toNat : Int)) w := fun w => by
        rw [run_index_string w 9 t .i64 (i : Int) Tryz.underlying9]
        simp [hlt]
      generalize t[i].toNat = b at *
      generalize crcL s (t.data.toList.take i) = v at *
      have C := Lib.hid (crcByte_ok v b HL.out (by omega) wr.drew)
      clear hM hK
      go_wp2_with fail
      refine wp_region_still_tail 11 (by kernel_rfl) (by kernel_rfl) ?_
      simp only [List.take_succ_cons, List.take_zero, List.drop_succ_cons, List.drop_zero]
      iterate 8 ((with_reducible refine wpStill_step (fun K hK => ?_)); go_simp; (with_reducible refine hK _ ?_); clear hK K)
      (with_reducible refine wpStill_step (fun K hK => ?_))
      go_simp
      refine ⟨_, by refine (C.out).mono ?_; rintro e w' ⟨rfl, rfl⟩; exact ⟨rfl, rfl⟩, hK _ ?_⟩
      clear hK K
      iterate 2 ((with_reducible refine wpStill_step (fun K hK => ?_)); go_simp; (with_reducible refine hK _ ?_); clear hK K)
      (with_reducible refine wpStill_nil ?_)
      change wpList _ _ _ _ _ wr.drew
      have f1 : wr.drew.frozen? ⟨mb, 0, none⟩ = false := f0
      have c1 : wr.drew.cell? ⟨mb, 0, none⟩ = some (Value.int IntKind.u32 ↑v) := c0
      go_wp2_with fail
      go_roundw
      case rel => exact ⟨i + 1, by go_num, by omega, by rw [HT.out]; exact HM.out.drw.set 0 _, (HK.out.drew).setCell _ _ (Or.inl (by simp))⟩
      case measure => simp [intOf]; omega
    · have hd : decide (i < t.size) = false := decide_eq_false hlt
      have hd' : decide ((i : Int) < (t.size : Int)) = false := decide_eq_false (by omega)
      go_wp2_with fail
      (try simp only [Exit.inBlock, Exit.then]); refine bodyPost_ret (results_none rfl _ _ _) rfl ?_
      have e : t.data.toList.take i = t.data.toList := List.take_of_length_le (by have := Lib.size_eq t; omega)
      rw [e] at hM
      exact ⟨rfl, hM, hK⟩
end Go.Proofs.YtobiacdeoeogaaaGreatDoor
