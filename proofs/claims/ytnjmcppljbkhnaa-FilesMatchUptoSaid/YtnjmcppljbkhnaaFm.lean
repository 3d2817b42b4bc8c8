import Derived.Test.YtnjmcppljbkhnaaFk
set_option linter.unusedVariables false
set_option linter.unusedSimpArgs false
namespace Go.Proofs.Ytnjmcppljbkhnaa
open Go.RowKit
theorem only_thenB {w w1 w2 : World} {g : Nat} (h : w.grownBy w1 (some g)) (hb : Below w.heap.size w1 w2) : w.grownBy w2 (some g) :=
  ⟨hb.os.trans h.os, hb.tape.trans h.tape, hb.output.trans h.output, Nat.le_trans h.size hb.size, fun k hk hg => (hb.block k hk).trans (h.block k hk hg)⟩
theorem wrN_size (c head base : ByteArray) (part : Nat) (R : ByteArray) (k : Nat) : (wrN c head base part R k).size ≤ base.size + 1040 * k := by
  induction k with
  | zero => simp [wrN]
  | succ k ih =>
    rw [wrN, ByteArray.size_append, partB_size]
    have : (R.extract (1024 * k) (1024 * k + 1024)).size ≤ 1024 := by simp; omega
    omega
theorem nil_append (b : ByteArray) : (⟨#[]⟩ : ByteArray) ++ b = b := ByteArray.empty_append
set_option maxRecDepth 100000 in
set_option maxHeartbeats 4000000 in
theorem write40 (g : Nat) (c n t head : ByteArray) (told : Bool) (rest : ByteArray) (part rec : Nat) (text : ByteArray) (w : World) (B0 R : ByteArray) (m : Nat) (h : SL w g c n t head told false rest part rec) (hc : c.size = 32) (hh : head.size = 20) (hp : part ≤ 1000000000) (hr : rest.size ≤ 1024) (hle : rec + text.size ≤ 1048576) (hB0 : (if told = true then ByteArray.empty else head) = B0) (hR : rest ++ text = R) (hm : (R.size - 1) / 1024 = m) :
    Calls Try.prog 40 #[.pointer (some ⟨g, 0, none⟩), .string text] w fun e w' => e = .returned (.tuple #[.string (wrN c head B0 part R m), .int .i64 0]) ∧ SL w' g c n t head true false (R.extract (1024 * m) R.size) (part + m) (rec + text.size) ∧ w.grownBy w' (some g) := by
  have HSL := Lib.hid h
  have c5 : w.cell? ⟨g, 5, none⟩ = some (.bool false) := Blk.cell h 5
  have c8 : w.cell? ⟨g, 8, none⟩ = some (.int .i64 (rec : Nat)) := Blk.cell h 8
  have f8 : w.frozen? ⟨g, 8, none⟩ = false := Blk.frozen h 8
  have HCBG := Lib.hid (fun W hW => begin74 w g c n t head told false rest part (rec + text.size) W hW)
  have d1 : ¬ ((1048576 : Int) - (rec : Nat) < (text.size : Nat)) := by omega
  have d2 : (text.size : Int) ≤ 1048576 - (rec : Nat) := by omega
  have C75 := Lib.hid (fun i T W (hi : i ≤ 1099511627776) (hT : T.size ≤ 100000) => sealPart75 c n t head T i false W hc hh hi hT)
  clear h hc
  have hmb : m ≤ 2000 := by rw [← hR, ByteArray.size_append] at hm; omega
  have hB0s : (if told = true then ByteArray.empty else head).size ≤ 20 := by
    cases told
    · show head.size ≤ 20; omega
    · show (0 : Nat) ≤ 20; omega
  rw [hB0] at HCBG hB0s
  clear hB0
  have hgw : g < w.heap.size := Blk.lt HSL.out
  have HSL0 := Lib.hid (show SL (w.setCell ⟨g, 8, none⟩ (.int .i64 ((rec : Nat) + (text.size : Nat) : Int))) g c n t head told false rest part (rec + text.size) from Blk.set HSL.out 8 (.int .i64 ((rec : Nat) + (text.size : Nat) : Int)))
  have HO0 := Lib.hid (only_set (only_refl w g) 8 (.int .i64 ((rec : Nat) + (text.size : Nat) : Int)))
  have HWR := Lib.hid (fun (W : World) (a s : ByteArray) (h : BS w.heap.size w.heap.size a W) (hl : a.size + s.size ≤ 140737488355328) (hW : w.heap.size ≤ W.heap.size) => BS.write h hl hW)
  go_enter Try.func40, Try.ntmps40
  go_wp2_with fail
  have hsz : (w.setCell ⟨g, 8, none⟩ (.int .i64 ((rec : Nat) + (text.size : Nat) : Int))).heap.size = w.heap.size := by simp
  have HBS0 := Lib.hid (BS.new (w.setCell ⟨g, 8, none⟩ (.int .i64 ((rec : Nat) + (text.size : Nat) : Int))) w.heap.size (by omega))
  rw [hsz] at HBS0
  have HSLa := Lib.hid (Blk.below HSL0.out ((Below.refl w.heap.size _).alloc (by omega) (.cells #[.pointer none, .slice none 0 0] 103)) hgw)
  have HOa := Lib.hid (only_trans HO0.out (grow_below ((Below.refl _ (w.setCell ⟨g, 8, none⟩ (.int .i64 ((rec : Nat) + (text.size : Nat) : Int)))).alloc (Nat.le_refl _) (.cells #[.pointer none, .slice none 0 0] 103)) g))
  refine (HCBG.out _ HSLa.out).mono ?_
  rintro e w1 ⟨rfl, hsl1, hgr1⟩
  have HSL1 := Lib.hid hsl1
  have HO1 := Lib.hid (only_trans HOa.out hgr1)
  have HBS1 := Lib.hid (HBS0.out.only hgr1 hgw)
  clear hsl1 hgr1 c5 c8 f8
  go_wp2_with fail
  refine (HWR.out _ ⟨#[]⟩ B0 HBS1.out (by show 0 + B0.size ≤ _; omega) (by have := HO1.out.size; omega)).mono ?_
  rintro e w2 ⟨rfl, hbs2, hbl2⟩
  have HBS2 := Lib.hid (show BS w.heap.size w.heap.size B0 w2 from by rw [nil_append] at hbs2; exact hbs2)
  clear hbs2
  have HSL2 := Lib.hid (Blk.below HSL1.out hbl2 hgw)
  have HO2 := Lib.hid (only_thenB HO1.out hbl2)
  have c6 : w2.cell? ⟨g, 6, none⟩ = some (.string rest) := Blk.cell HSL2.out 6
  have f6 : w2.frozen? ⟨g, 6, none⟩ = false := Blk.frozen HSL2.out 6
  clear hbl2
  have hrs : rest.size + text.size ≤ 2000000 := by omega
  have ha1 : rest.size + text.size ≤ 9223372036854775807 := by omega
  have ha2 : ¬ maxLen < rest.size + text.size := by unfold maxLen; omega
  have ha3 : ¬ 9223372036854775807 < rest.size + text.size := by omega
  have ha4 : rest.size + text.size ≤ maxLen := by unfold maxLen; omega
  have HSL3 := Lib.hid (show SL (w2.setCell ⟨g, 6, none⟩ (.string (rest ++ text))) g c n t head true false (rest ++ text) part (rec + text.size) from Blk.set HSL2.out 6 (.string (rest ++ text)))
  have HO3 := Lib.hid (only_set HO2.out 6 (.string (rest ++ text)))
  have HBS3 := Lib.hid (HBS2.out.store hgw 6 (.string (rest ++ text)))
  have HRE := Lib.hid (show (rest ++ text).extract (1024 * 0) (rest ++ text).size = rest ++ text from by rw [Nat.mul_zero]; apply ByteArray.ext; simp [-ByteArray.size_append])
  have HBb := Lib.hid (wrN_size c head B0 part (rest ++ text))
  clear HSL2 HO2 HBS2 HSL1 HO1 HBS1 HSLa HOa HSL0 HO0 HCBG HBS0 HSL
  have hRs : (rest ++ text).size ≤ 2000000 := by rw [ByteArray.size_append]; exact hrs
  rw [hR] at HSL3 HO3 HBS3 HRE HBb hRs
  go_wp2_with fail
  generalize w2.setCell ⟨g, 6, none⟩ (.string R) = w3 at *
  clear hR
  clear c6 f6 ha1 ha2 ha3 ha4 hrs
  go_loopg [] m (fun gk wr => ∃ k, k ≤ m ∧ gk = m - k ∧ w.grownBy wr (some g) ∧ SL wr g c n t head true false (R.extract (1024 * k) R.size) (part + k) (rec + text.size) ∧ BS w.heap.size w.heap.size (wrN c head B0 part R k) wr)
  case atStart => exact ⟨0, by omega, by omega, HO3.out, by rw [HRE.out]; exact HSL3.out, HBS3.out⟩
  case round =>
    obtain ⟨k, hk, hgk, hO, hS, hB⟩ := hrel
    have HO := Lib.hid hO
    have HS := Lib.hid hS
    have HB := Lib.hid hB
    clear hO hS hB
    have c0 : wr.cell? ⟨g, 0, none⟩ = some (.string c) := Blk.cell HS.out 0
    have c1 : wr.cell? ⟨g, 1, none⟩ = some (.string n) := Blk.cell HS.out 1
    have c2 : wr.cell? ⟨g, 2, none⟩ = some (.string t) := Blk.cell HS.out 2
    have c3 : wr.cell? ⟨g, 3, none⟩ = some (.string head) := Blk.cell HS.out 3
    have c6 : wr.cell? ⟨g, 6, none⟩ = some (.string (R.extract (1024 * k) R.size)) := Blk.cell HS.out 6
    have c7 : wr.cell? ⟨g, 7, none⟩ = some (.int .i64 (part + k : Nat)) := Blk.cell HS.out 7
    have hTs : (R.extract (1024 * k) R.size).size = R.size - 1024 * k := by simp
    have hT3 : (R.extract (1024 * k) R.size).extract 1024 (R.extract (1024 * k) R.size).size = R.extract (1024 * (k + 1)) R.size := by
      rw [hTs]
      apply ByteArray.ext
      simp only [ByteArray.data_extract, Array.extract_extract]
      congr 1
      omega
    have hT0 : k < m → (R.extract (1024 * k) R.size).extract 0 1024 = R.extract (1024 * k) (1024 * k + 1024) := by
      intro h
      apply ByteArray.ext
      simp only [ByteArray.data_extract, Array.extract_extract]
      congr 1
      omega
    have hlast : ¬ k < m → R.extract (1024 * k) R.size = R.extract (1024 * m) R.size := by
      intro h
      have : k = m := by omega
      rw [this]
    have HT3 := Lib.hid hT3
    have HT0 := Lib.hid hT0
    have HLT := Lib.hid hlast
    clear hT3 hT0 hlast
    generalize hTe : R.extract (1024 * k) R.size = T at *
    have hTb : T.size ≤ 2000000 := by omega
    have HTs := Lib.hid hTs
    clear hTs hTe
    by_cases hlt : k < m
    · have hbig : ((1024 : Int)) < (T.size : Nat) := by have := HTs.out; omega
      have hT1 : (1024 : Int) ≤ (T.size : Nat) := by omega
      have hT2 : 1024 ≤ T.size := by omega
      have hT4 : T.size ≤ 9223372036854775807 := by omega
      have HLE := Lib.hid (show (T.extract 0 1024).size ≤ 1024 from by simp; omega)
      go_wp2_with fail
      go_still_tail 17, (by kernel_rfl)
      change wpList _ _ _ _ _ wr.drew
      go_wp2_with fail
      have HC := Lib.hid (show Calls Try.prog 75 #[.agg #[.string c, .string n, .string t], .string head, .int .i64 ((part : Int) + (k : Int)), .bool false, .string (T.extract 0 1024)] wr.drew fun e w' => e = .returned (.string (partB c head (part + k) false (T.extract 0 1024))) ∧ Below wr.drew.heap.size wr.drew w' from by
        have h := C75.out (part + k) (T.extract 0 1024) wr.drew (by omega) (by have := HLE.out; omega)
        rw [Int.natCast_add] at h
        exact h)
      refine HC.out.mono ?_
      rintro e w4 ⟨rfl, hb4⟩
      have HB4 := Lib.hid (show Below wr.heap.size wr w4 from (Below.refl wr.heap.size wr).drew.trans hb4)
      clear hb4 HC c0 c1 c2 c3 c6 c7
      have HPS := Lib.hid (show (partB c head (part + k) false (T.extract 0 1024)).size ≤ 1040 from by rw [partB_size]; have := HLE.out; omega)
      go_wp2_with fail
      refine (HWR.out w4 (wrN c head B0 part R k) (partB c head (part + k) false (T.extract 0 1024)) (HB.out.below HB4.out) (by have := HBb.out k; have := HPS.out; omega) (by have := HO.out.size; have := HB4.out.size; omega)).mono ?_
      rintro e w5 ⟨rfl, hbs5, hb5⟩
      have HB5 := Lib.hid (show BS w.heap.size w.heap.size (wrN c head B0 part R (k + 1)) w5 from by rw [HT0.out hlt] at hbs5; exact hbs5)
      have HS5 := Lib.hid (Blk.below (Blk.below HS.out HB4.out (Blk.lt HS.out)) hb5 hgw)
      have HO5 := Lib.hid (only_thenB (only_thenB HO.out (show Below w.heap.size wr w4 from HB4.out.mono HO.out.size)) hb5)
      clear hbs5 hb5
      have c6 : w5.cell? ⟨g, 6, none⟩ = some (.string T) := Blk.cell HS5.out 6
      have f6 : w5.frozen? ⟨g, 6, none⟩ = false := Blk.frozen HS5.out 6
      have HS6 := Lib.hid (show SL (w5.setCell ⟨g, 6, none⟩ (.string (T.extract 1024 T.size))) g c n t head true false (T.extract 1024 T.size) (part + k) (rec + text.size) from Blk.set HS5.out 6 (.string (T.extract 1024 T.size)))
      have HO6 := Lib.hid (only_set HO5.out 6 (.string (T.extract 1024 T.size)))
      have HB6 := Lib.hid (HB5.out.store hgw 6 (.string (T.extract 1024 T.size)))
      have c7 : (w5.setCell ⟨g, 6, none⟩ (.string (T.extract 1024 T.size))).cell? ⟨g, 7, none⟩ = some (.int .i64 (part + k : Nat)) := Blk.cell HS6.out 7
      have f7 : (w5.setCell ⟨g, 6, none⟩ (.string (T.extract 1024 T.size))).frozen? ⟨g, 7, none⟩ = false := Blk.frozen HS6.out 7
      have HS7 := Lib.hid (show SL ((w5.setCell ⟨g, 6, none⟩ (.string (T.extract 1024 T.size))).setCell ⟨g, 7, none⟩ (.int .i64 ((part + k + 1 : Nat) : Int))) g c n t head true false (T.extract 1024 T.size) (part + k + 1) (rec + text.size) from Blk.set HS6.out 7 (.int .i64 ((part + k + 1 : Nat) : Int)))
      have HO7 := Lib.hid (only_set HO6.out 7 (.int .i64 ((part + k + 1 : Nat) : Int)))
      have HB7 := Lib.hid (HB6.out.store hgw 7 (.int .i64 ((part + k + 1 : Nat) : Int)))
      go_wp2_with fail
      go_roundg (m - (k + 1))
      case measure => omega
      case rel =>
        refine ⟨k + 1, by omega, rfl, ?_, ?_, ?_⟩
        · first | exact HO7.out | (rw [show (((part : Int) + (k : Int)) + 1) = ((part + k + 1 : Nat) : Int) from by omega]; exact HO7.out)
        · first | (rw [← HT3.out]; exact HS7.out) | (rw [← HT3.out]; rw [show (((part : Int) + (k : Int)) + 1) = ((part + k + 1 : Nat) : Int) from by omega]; exact HS7.out)
        · first | exact HB7.out | (rw [show (((part : Int) + (k : Int)) + 1) = ((part + k + 1 : Nat) : Int) from by omega]; exact HB7.out)
    · have hsm : ¬ ((1024 : Int)) < (T.size : Nat) := by have := HTs.out; omega
      go_wp2_with fail
      have HLL := Lib.hid (show Lib.IsBuilder 103 5 w.heap.size w.heap.size (Lib.byteCells (wrN c head B0 part R k).data.toList) wr from HB.out)
      have hkm : k = m := by omega
      refine (Try.Builder_String_any w.heap.size w.heap.size _ wr HLL.out HO.out.size).mono ?_
      rintro e w5 ⟨rfl, hb5⟩
      go_wp2_with fail
      go_ret2
      obtain rfl := hkm
      exact ⟨rfl, by rw [← HLT.out (by omega)]; exact Blk.below HS.out hb5 hgw, only_thenB HO.out hb5⟩
end Go.Proofs.Ytnjmcppljbkhnaa

set_option linter.unusedVariables false
set_option linter.unusedSimpArgs false
namespace Go.Proofs.Ytnjmcppljbkhnaa
open Go.RowKit
set_option maxRecDepth 100000 in
set_option maxHeartbeats 1000000 in
theorem newSealer39_keys (c n t nonce : ByteArray) (w : World) (hc : c.size ≤ maxLen) (hn : n.size ≤ maxLen) (ht : t.size ≤ maxLen) (hE : kyE c n t ≠ 0) :
    Calls Try.prog 39 #[.agg #[.string c, .string n, .string t], .string nonce] w fun e w' => e = .returned (.tuple #[.pointer none, .int .i64 (kyE c n t)]) ∧ Below w.heap.size w w' := by
  have HC := Lib.hid (fun w => checkKeys72 c n t w hc hn ht)
  generalize kyE c n t = E at *
  have d1 : (E == (0 : Int)) = false := by simp; exact hE
  have d2 : (E != (0 : Int)) = true := by simp; exact hE
  have HNEW := Lib.hid (Blk.new w 60 #[.string c, .string n, .string t])
  have HB0 := Lib.hid ((Below.refl w.heap.size w).alloc (Nat.le_refl _) (.cells #[Value.string c, Value.string n, Value.string t] 60))
  clear hc hn ht
  go_enter Try.func39, Try.ntmps39
  go_wp2_with fail
  refine (HC.out _).mono ?_
  rintro e w1 ⟨rfl, hb1⟩
  have HB1 := Lib.hid (show Below w.heap.size w w1 from HB0.out.trans (hb1.mono (by simp)))
  clear hb1 HNEW HB0
  go_wp2_with fail
  go_ret2
  exact ⟨rfl, HB1.out⟩
set_option maxRecDepth 100000 in
set_option maxHeartbeats 1000000 in
theorem newSealer39_form (c n t nonce : ByteArray) (w : World) (hc : c.size ≤ maxLen) (hn : n.size ≤ maxLen) (ht : t.size ≤ maxLen) (hE : kyE c n t = 0) (hnn : nonce.size ≠ 12) :
    Calls Try.prog 39 #[.agg #[.string c, .string n, .string t], .string nonce] w fun e w' => e = .returned (.tuple #[.pointer none, .int .i64 6]) ∧ Below w.heap.size w w' := by
  have HC := Lib.hid (fun w => checkKeys72 c n t w hc hn ht)
  rw [hE] at HC
  have d1 : ((nonce.size : Int) != 12) = true := by simp; omega
  have HNEW := Lib.hid (Blk.new w 60 #[.string c, .string n, .string t])
  have HB0 := Lib.hid ((Below.refl w.heap.size w).alloc (Nat.le_refl _) (.cells #[Value.string c, Value.string n, Value.string t] 60))
  clear hc hn ht hE
  go_enter Try.func39, Try.ntmps39
  go_wp2_with fail
  refine (HC.out _).mono ?_
  rintro e w1 ⟨rfl, hb1⟩
  have HB1 := Lib.hid (show Below w.heap.size w w1 from HB0.out.trans (hb1.mono (by simp)))
  clear hb1 HNEW HB0
  go_wp2_with fail
  go_ret2
  exact ⟨rfl, HB1.out⟩
end Go.Proofs.Ytnjmcppljbkhnaa
