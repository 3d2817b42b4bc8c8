import Derived.Test.YtpjnjhklkgefcaaGreatDoorAi
set_option linter.unusedVariables false
set_option linter.unusedSimpArgs false
namespace Go.Proofs.YtpjnjhklkgefcaaGreatDoor
open Go.RowKit
theorem BW.row {R b : Nat} {l : List UInt8} {w : World} (h : BW R b l w) (h0 : l ≠ []) : ∃ a g cap cur, Blk w b 120 #[a, .slice (some ⟨g, 0, none⟩) l.length cap] ∧ R ≤ g ∧ w.heap[g]? = some (.cells cur 5 (0, 0)) ∧ l.length ≤ cap ∧ l.length ≤ cur.size ∧ (∀ (j : Nat) (x : UInt8), l[j]? = some x → cur[j]? = some (.int .u8 (x.toNat : Int))) := by
  obtain ⟨a, v, hB, ha, ⟨hl, hO⟩⟩ := h.h
  rcases hO with ⟨_, hz⟩ | ⟨g, cap, cur, rfl, hg0, hg, hc, _, hcs, ht⟩
  · exact absurd (List.length_eq_zero_iff.1 hz) h0
  · refine ⟨a, g, cap, cur, hB, hg0, hg, hc, by omega, fun j x hx => ?_⟩
    have hj : j < l.length := (List.getElem?_eq_some_iff.1 hx).1
    have h1 : (cur.toList.take (l.length * 1))[j]? = some (.int .u8 (x.toNat : Int)) := by rw [ht]; simp [Lib.byteCells, hx]
    rw [List.getElem?_take, if_pos (by omega)] at h1
    simpa using h1
/-- a builder is as it was where another one is written. -/
theorem BW.far {R R' b b' : Nat} {l : List UInt8} {w w' : World} (h : BW R b l w) (hb : b ≠ b') (hR : w.heap.size ≤ R') (hB' : ∃ cs, Blk w b' 120 cs) (k : Kr R' b' w w') : BW R b l w' := by
  obtain ⟨cs, hB'⟩ := hB'
  have hlt : b < w.heap.size := by obtain ⟨a, v, hB, _⟩ := h.h; exact hB.lt
  refine h.kr (by omega) hb (fun a v hB g hg => ?_) k
  obtain ⟨a', v', hB2, _, hO⟩ := h.h
  have e : #[a, v] = #[a', v'] := by
    unfold Blk at hB hB2
    rw [hB] at hB2
    injection hB2 with h1
    injection h1
  injection e with e
  injection e with e1 e2
  injection e2 with e3 _
  subst e3
  have hne := own_ne hO hB' (by decide) g hg
  refine ⟨?_, hne⟩
  rcases hO.2 with ⟨rfl, _⟩ | ⟨g', cap, cur, rfl, _, hgg, _⟩
  · cases hg
  · obtain rfl : g' = g := Option.some.inj hg
    have := lt_of_blk hgg
    omega
theorem BW.below {R b : Nat} {l : List UInt8} {w w' : World} (h : BW R b l w) (k : Below w.heap.size w w') : BW R b l w' := by
  obtain ⟨a, v, hB, ha, hO⟩ := h.h
  exact ⟨a, v, hB.below k hB.lt, ha, own_below hO k⟩
theorem fourBytes_w (x : Int) (w : World) : Calls Tryz.prog 335 #[.int .i64 x] w fun e w' => ∃ f : ByteArray, e = .returned (.string f) ∧ f.size = 4 ∧ Below w.heap.size w w' := by
  refine (fourBytes_ok x w).mono ?_
  rintro e w' ⟨rfl, hb⟩
  exact ⟨_, rfl, rfl, hb⟩
theorem crcBytes_w (t : ByteArray) (w : World) (ht : t.size < 1024) : Calls Tryz.prog 331 #[.string t] w fun e w' => ∃ f : ByteArray, e = .returned (.string f) ∧ f.size = 4 ∧ Below w.heap.size w w' := by
  refine (crcBytes_ok t w ht).mono ?_
  rintro e w' ⟨rfl, hb⟩
  exact ⟨_, rfl, rfl, hb⟩
set_option maxRecDepth 100000 in
set_option maxHeartbeats 8000000 in
theorem squeezeText_ok (w : World) : Calls Tryz.prog 329 #[.int .i64 64, .string ⟨#[116, 101, 120, 116]⟩] w fun e w' => ∃ s : ByteArray, e = .returned (.tuple #[.string s, .int .i64 0]) ∧ s.size ≤ 1000 ∧ Below w.heap.size w w' := by
  go_enter Tryz.func329, Tryz.ntmps329
  go_wp2_with fail
  have HB0 := (Below.refl w.heap.size w).alloc (Nat.le_refl _) (.cells #[.pointer none, .slice none 0 0] 120)
  have HB := Lib.hid (HB0.alloc HB0.size (.cells #[.pointer none, .slice none 0 0] 120))
  have h1 : Blk ((w.alloc (.cells #[.pointer none, .slice none 0 0] 120)).alloc (.cells #[.pointer none, .slice none 0 0] 120)) w.heap.size 120 #[.pointer none, .slice none 0 0] := (Blk.new w _ _).old _
  have h2 : Blk ((w.alloc (.cells #[.pointer none, .slice none 0 0] 120)).alloc (.cells #[.pointer none, .slice none 0 0] 120)) (w.heap.size + 1) 120 #[.pointer none, .slice none 0 0] := Blk.newAt (by simp)
  have H1 := Lib.hid (show BW (w.heap.size + 2) w.heap.size [] _ from ⟨_, _, h1, Or.inl rfl, World.ownsRow_nil _ _ _ _⟩)
  have H2 := Lib.hid h2
  have HSZ := Lib.hid (show ((w.alloc (.cells #[.pointer none, .slice none 0 0] 120)).alloc (.cells #[.pointer none, .slice none 0 0] 120)).heap.size = w.heap.size + 2 by simp)
  clear h1 h2 HB0
  generalize ((w.alloc (.cells #[.pointer none, .slice none 0 0] 120)).alloc (.cells #[.pointer none, .slice none 0 0] 120)) = w1 at *
  generalize hb2 : w.heap.size + 1 = b2 at *
  generalize hR1 : w.heap.size + 2 = R1 at *
  generalize hb1 : w.heap.size = b1 at *
  have HN := Lib.hid (show b1 + 1 = b2 ∧ b1 + 2 = R1 from ⟨by omega, by omega⟩)
  have HW := Lib.hid hb1
  clear hb2 hR1 hb1
  refine (writeString_ok (R := R1) (b := b1) (l := []) ⟨#[87, 72, 83, 81]⟩ w1 (by have := HSZ.out; omega) H1.out (by decide) (by have := HN.out; omega)).mono ?_
  rintro e w2 ⟨rfl, hW2, hk2⟩
  have H12 := Lib.hid (show BW R1 b1 [87, 72, 83, 81] w2 from hW2)
  have H22 := Lib.hid (show Blk w2 b2 120 #[.pointer none, .slice none 0 0] from (hk2.block b2 (by have := HN.out; omega) (by have := HN.out; omega)).trans H2.out)
  have HB2 := Lib.hid (HB.out.trans (hk2.below (by have := HN.out; omega) (Nat.le_refl _)))
  have hsz2 := hk2.size
  have HS2 := Lib.hid (show R1 ≤ w2.heap.size by have := HSZ.out; omega)
  clear hW2 hk2 hsz2 H1 H2 HSZ HB
  have hm : min (64 : Int) 4 = 4 := by decide
  have he1 : (⟨#[116, 101, 120, 116]⟩ : ByteArray).extract 0 4 = ⟨#[116, 101, 120, 116]⟩ := by decide
  have he2 : (⟨#[116, 101, 120, 116]⟩ : ByteArray).extract 4 4 = ⟨#[]⟩ := by decide
  go_wp2_with fail
  refine wp_loop_rounds 2 ?_
  rw [rounds_succ]
  go_wp2_with fail
  refine (squeezeBlock4_ok ⟨#[116, 101, 120, 116]⟩ w2 (by decide)).mono ?_
  rintro e w3 ⟨⟨s, rfl⟩, hb3⟩
  have H13 := Lib.hid (H12.out.below hb3)
  have H23 := Lib.hid (H22.out.below hb3 H22.out.lt)
  have hb13 := Nat.le_trans (show b1 ≤ R1 by have := HN.out; omega) HS2.out
  have HB3 := Lib.hid (HB2.out.trans (hb3.mono hb13))
  have HS3 := Lib.hid (Nat.le_trans HS2.out hb3.size)
  clear hb3 H12 H22 HB2 HS2 hb13 hm he1 he2
  by_cases hs4 : 4 ≤ s.size
  · have hd : decide ((4 : Int) ≤ (s.size : Int)) = true := decide_eq_true (by omega)
    have hd2 : (4 : Int) ≤ (s.size : Int) := by omega
    go_wp2_with fail
    refine (writeString_ok (R := R1) (b := b1) (l := [87, 72, 83, 81]) ⟨#[116, 101, 120, 116]⟩ w3 HS3.out H13.out (by first | decide | (simp; omega)) (by have := HN.out; omega)).mono ?_
    rintro e w4 ⟨rfl, hW, hk⟩
    obtain ⟨l1, hl1, hll⟩ : ∃ l1 : List UInt8, [87, 72, 83, 81] ++ (⟨#[116, 101, 120, 116]⟩ : ByteArray).data.toList = l1 ∧ l1.length ≤ 8 := ⟨_, rfl, by simp; done⟩
    rw [hl1] at hW
    have hne1 : l1 ≠ [] := by rw [← hl1]; simp
    have H14 := Lib.hid hW
    have H24 := Lib.hid (show Blk w4 b2 120 #[.pointer none, .slice none 0 0] from (hk.block b2 (by have := HN.out; omega) (by have := HN.out; omega)).trans H23.out)
    have HB4 := Lib.hid (HB3.out.trans (hk.below (by have := HN.out; omega) (Nat.le_refl _)))
    have HS4 := Lib.hid (Nat.le_trans HS3.out hk.size)
    clear hW hk H13 H23 HB3 HS3 hl1 hd hd2
    go_wp2_with fail
    refine (fourBytes_w _ w4).mono ?_
    rintro e w5 ⟨f1, rfl, hf1, hb5⟩
    have H15 := Lib.hid (H14.out.below hb5)
    have H25 := Lib.hid (H24.out.below hb5 H24.out.lt)
    have hb14 : b1 ≤ w4.heap.size := Nat.le_trans (show b1 ≤ R1 by have := HN.out; omega) HS4.out
    have HB5 := Lib.hid (HB4.out.trans (hb5.mono hb14))
    have HS5 := Lib.hid (Nat.le_trans HS4.out hb5.size)
    clear hb5 H14 H24 HB4 HS4 hb14
    go_wp2_with fail
    refine (writeString_ok (R := w5.heap.size) (b := b2) (l := []) f1 w5 (Nat.le_refl _) ⟨_, _, H25.out, Or.inl rfl, World.ownsRow_nil _ _ _ _⟩ (by simp; omega) H25.out.lt).mono ?_
    rintro e w6 ⟨rfl, hW, hk⟩
    obtain ⟨a1, g1, cap1, cur1, hB1, hg10, hg1, hc1, hc2, hc3⟩ := H15.out.row hne1
    have hg1l := lt_of_blk hg1
    have hgb : g1 ≠ b2 := (show Blk w5 g1 5 cur1 from hg1).ne H25.out (by decide)
    have hbb : b1 ≠ b2 := by have := HN.out; omega
    have h1l := hB1.lt
    have hb12 : b1 < b2 := by have := HN.out; omega
    have HB16 := Lib.hid (show Blk w6 b1 120 _ from (hk.block b1 h1l hbb).trans hB1)
    have HG16 := Lib.hid ((hk.block g1 hg1l hgb).trans hg1)
    have HC1 := Lib.hid hc3
    have hR15 : b1 ≤ w5.heap.size := Nat.le_of_lt h1l
    have HB6 := Lib.hid (HB5.out.trans (hk.below hR15 (Nat.le_of_lt hb12)))
    have H26 := Lib.hid (show BW w5.heap.size b2 f1.data.toList w6 from hW)
    have HS6 := Lib.hid hk.size
    have HL := Lib.hid (show b1 < w5.heap.size ∧ g1 < w5.heap.size ∧ b2 < w5.heap.size from ⟨h1l, hg1l, H25.out.lt⟩)
    clear hW hk hB1 hg1 hc3 H15 H25 HB5 HS5 h1l hg1l hR15
    go_wp2_with fail
    rw [rounds_succ]
    go_wp2_with fail
    refine (fourBytes_w _ w6).mono ?_
    rintro e w7 ⟨f2, rfl, hf2, hb7⟩
    have hl6 : b1 ≤ w6.heap.size := Nat.le_trans (Nat.le_of_lt HL.out.1) HS6.out
    have HB17 := Lib.hid (HB16.out.below hb7 HB16.out.lt)
    have HG17 := Lib.hid ((hb7.block g1 (lt_of_blk HG16.out)).trans HG16.out)
    have H27 := Lib.hid (H26.out.below hb7)
    have HB7 := Lib.hid (HB6.out.trans (hb7.mono hl6))
    have HS7 := Lib.hid (Nat.le_trans HS6.out hb7.size)
    clear hb7 HB16 HG16 H26 HB6 HS6 hl6
    go_wp2_with fail
    refine (fourBytes_w _ w7).mono ?_
    rintro e w8 ⟨f3, rfl, hf3, hb8⟩
    have hl7 : b1 ≤ w7.heap.size := Nat.le_trans (Nat.le_of_lt HL.out.1) HS7.out
    have HB18 := Lib.hid (HB17.out.below hb8 HB17.out.lt)
    have HG18 := Lib.hid ((hb8.block g1 (lt_of_blk HG17.out)).trans HG17.out)
    have H28 := Lib.hid (H27.out.below hb8)
    have HB8 := Lib.hid (HB7.out.trans (hb8.mono hl7))
    have HS8 := Lib.hid (Nat.le_trans HS7.out hb8.size)
    clear hb8 HB17 HG17 H27 HB7 HS7 hl7
    have hsum : f2.size + f3.size ≤ 1000000 := by omega
    go_wp2_with fail
    refine (writeString_ok (R := w5.heap.size) (b := b2) (l := f1.data.toList) (f2 ++ f3) w8 HS8.out H28.out (by rw [ByteArray.size_append, ← Lib.size_eq]; omega) HL.out.2.2).mono ?_
    rintro e w9 ⟨rfl, hW, hk⟩
    obtain ⟨l2, hl2, hll2⟩ : ∃ l2 : List UInt8, f1.data.toList ++ (f2 ++ f3).data.toList = l2 ∧ l2.length = 12 := ⟨_, rfl, by rw [List.length_append, ← Lib.size_eq, ← Lib.size_eq, ByteArray.size_append]; omega⟩
    rw [hl2] at hW
    have hne2 : l2 ≠ [] := by rintro rfl; simp at hll2
    obtain ⟨a2, g2, cap2, cur2, hB2, hg20, hg2, hd1, hd2, hd3⟩ := hW.row hne2
    have HB19 := Lib.hid (show Blk w9 b1 120 _ from (hk.block b1 HL.out.1 hbb).trans HB18.out)
    have HG19 := Lib.hid ((hk.block g1 HL.out.2.1 hgb).trans HG18.out)
    have HB29 := Lib.hid hB2
    have HG29 := Lib.hid hg2
    have HC2 := Lib.hid hd3
    have HB9 := Lib.hid (HB8.out.trans (hk.below (Nat.le_of_lt HL.out.1) (Nat.le_of_lt hb12)))
    have HS9 := Lib.hid (Nat.le_trans HS8.out hk.size)
    have hg12 : g1 ≠ g2 := by have := HL.out; omega
    have hbg2 : b2 ≠ g2 := hB2.ne (show Blk w9 g2 5 cur2 from hg2) (by decide)
    have hbg1 : b1 ≠ g1 := HB19.out.ne (show Blk w9 g1 5 cur1 from HG19.out) (by decide)
    have hb1g2 : b1 ≠ g2 := HB19.out.ne (show Blk w9 g2 5 cur2 from hg2) (by decide)
    have hb1g1 : b1 ≤ g1 := Nat.le_trans (show b1 ≤ R1 by have := HN.out; omega) hg10
    clear hW hk hB2 hg2 hd3 H28 HB18 HG18 HB8 HS8 hl2 hsum
    go_wp2_with fail
    refine (string_ok b1 g1 cap1 cur1 (0, 0) a1 l1 w9 HB19.out HG19.out hne1 hc1 hc2 (by omega) HC1.out).mono ?_
    rintro e w10 ⟨rfl, _, hk⟩
    have HB20 := Lib.hid (hk.blk HB29.out (by simp; exact fun e => hgb e.symm))
    have HG20 := Lib.hid ((hk.block g2 (lt_of_blk HG29.out) (by simp; exact fun e => hg12 e.symm)).trans HG29.out)
    have HB10 := Lib.hid (HB9.out.trans (hk.below (Nat.le_trans (Nat.le_of_lt HL.out.1) HS9.out) (by simpa using hb1g1)))
    have HS10 := Lib.hid (Nat.le_trans HS9.out hk.size)
    clear hk HB19 HG19 HB29 HG29 HB9 HS9
    go_wp2_with fail
    refine (string_ok b2 g2 cap2 cur2 (0, 0) a2 l2 w10 HB20.out HG20.out hne2 hd1 hd2 (by omega) HC2.out).mono ?_
    rintro e w11 ⟨rfl, ⟨fz, hgz⟩, hk⟩
    have HB21 := Lib.hid (hk.blk HB20.out (by simpa using hbg2))
    have HG21 := Lib.hid hgz
    have hb1g2' : b1 ≤ g2 := Nat.le_trans (Nat.le_of_lt HL.out.1) hg20
    have HB11 := Lib.hid (HB10.out.trans (hk.below (Nat.le_trans (Nat.le_of_lt HL.out.1) HS10.out) (by simpa using hb1g2')))
    have HS11 := Lib.hid (Nat.le_trans HS10.out hk.size)
    have hz1 : (⟨l1.toArray⟩ : ByteArray).size ≤ 8 := by simpa [ByteArray.size] using hll
    have hz2 : (⟨l2.toArray⟩ : ByteArray).size = 12 := by simpa [ByteArray.size] using hll2
    clear hk hgz HB20 HG20 HB10 HS10
    have HSTR := Lib.hid (string_ok b2 g2 cap2 cur2 fz a2 l2 w11 HB21.out HG21.out hne2 hd1 hd2 (by omega) HC2.out)
    generalize (⟨l1.toArray⟩ : ByteArray) = s1 at *
    generalize (⟨l2.toArray⟩ : ByteArray) = s2 at *
    have hsum : s1.size + s2.size ≤ 1000000 := by omega
    go_wp2_with fail
    refine HSTR.out.mono ?_
    rintro e w12 ⟨rfl, _, hk⟩
    have HB12 := Lib.hid (HB11.out.trans (hk.below (Nat.le_trans (Nat.le_of_lt HL.out.1) HS11.out) (by simpa using hb1g2')))
    have HS12 := Lib.hid (Nat.le_trans HS11.out hk.size)
    clear hk HSTR HB11 HS11
    go_wp2_with fail
    refine (crcBytes_w s2 w12 (by omega)).mono ?_
    rintro e w13 ⟨f4, rfl, hf4, hb13⟩
    have HB13 := Lib.hid (HB12.out.trans (hb13.mono (Nat.le_trans (Nat.le_of_lt HL.out.1) HS12.out)))
    clear hb13 HB12
    have hsum2 : (s1 ++ s2).size + f4.size ≤ 1000000 := by rw [ByteArray.size_append]; omega
    go_wp2_with fail
    go_ret2
    refine ⟨_, rfl, ?_, ?_⟩
    · rw [ByteArray.size_append, ByteArray.size_append]; omega
    · rw [HW.out]; exact HB13.out
  · have hd : decide ((4 : Int) ≤ (s.size : Int)) = false := decide_eq_false (by omega)
    have hd2 : ¬ (4 : Int) ≤ (s.size : Int) := by omega
    go_wp2_with fail
    refine (writeString_ok (R := R1) (b := b1) (l := [87, 72, 83, 81]) s w3 HS3.out H13.out (by first | decide | (simp; omega)) (by have := HN.out; omega)).mono ?_
    rintro e w4 ⟨rfl, hW, hk⟩
    obtain ⟨l1, hl1, hll⟩ : ∃ l1 : List UInt8, [87, 72, 83, 81] ++ (s : ByteArray).data.toList = l1 ∧ l1.length ≤ 8 := ⟨_, rfl, by simp; have := Lib.size_eq s; simp at this; omega⟩
    rw [hl1] at hW
    have hne1 : l1 ≠ [] := by rw [← hl1]; simp
    have H14 := Lib.hid hW
    have H24 := Lib.hid (show Blk w4 b2 120 #[.pointer none, .slice none 0 0] from (hk.block b2 (by have := HN.out; omega) (by have := HN.out; omega)).trans H23.out)
    have HB4 := Lib.hid (HB3.out.trans (hk.below (by have := HN.out; omega) (Nat.le_refl _)))
    have HS4 := Lib.hid (Nat.le_trans HS3.out hk.size)
    clear hW hk H13 H23 HB3 HS3 hl1 hd hd2
    go_wp2_with fail
    refine (fourBytes_w _ w4).mono ?_
    rintro e w5 ⟨f1, rfl, hf1, hb5⟩
    have H15 := Lib.hid (H14.out.below hb5)
    have H25 := Lib.hid (H24.out.below hb5 H24.out.lt)
    have hb14 : b1 ≤ w4.heap.size := Nat.le_trans (show b1 ≤ R1 by have := HN.out; omega) HS4.out
    have HB5 := Lib.hid (HB4.out.trans (hb5.mono hb14))
    have HS5 := Lib.hid (Nat.le_trans HS4.out hb5.size)
    clear hb5 H14 H24 HB4 HS4 hb14
    go_wp2_with fail
    refine (writeString_ok (R := w5.heap.size) (b := b2) (l := []) f1 w5 (Nat.le_refl _) ⟨_, _, H25.out, Or.inl rfl, World.ownsRow_nil _ _ _ _⟩ (by simp; omega) H25.out.lt).mono ?_
    rintro e w6 ⟨rfl, hW, hk⟩
    obtain ⟨a1, g1, cap1, cur1, hB1, hg10, hg1, hc1, hc2, hc3⟩ := H15.out.row hne1
    have hg1l := lt_of_blk hg1
    have hgb : g1 ≠ b2 := (show Blk w5 g1 5 cur1 from hg1).ne H25.out (by decide)
    have hbb : b1 ≠ b2 := by have := HN.out; omega
    have h1l := hB1.lt
    have hb12 : b1 < b2 := by have := HN.out; omega
    have HB16 := Lib.hid (show Blk w6 b1 120 _ from (hk.block b1 h1l hbb).trans hB1)
    have HG16 := Lib.hid ((hk.block g1 hg1l hgb).trans hg1)
    have HC1 := Lib.hid hc3
    have hR15 : b1 ≤ w5.heap.size := Nat.le_of_lt h1l
    have HB6 := Lib.hid (HB5.out.trans (hk.below hR15 (Nat.le_of_lt hb12)))
    have H26 := Lib.hid (show BW w5.heap.size b2 f1.data.toList w6 from hW)
    have HS6 := Lib.hid hk.size
    have HL := Lib.hid (show b1 < w5.heap.size ∧ g1 < w5.heap.size ∧ b2 < w5.heap.size from ⟨h1l, hg1l, H25.out.lt⟩)
    clear hW hk hB1 hg1 hc3 H15 H25 HB5 HS5 h1l hg1l hR15
    go_wp2_with fail
    rw [rounds_succ]
    go_wp2_with fail
    refine (fourBytes_w _ w6).mono ?_
    rintro e w7 ⟨f2, rfl, hf2, hb7⟩
    have hl6 : b1 ≤ w6.heap.size := Nat.le_trans (Nat.le_of_lt HL.out.1) HS6.out
    have HB17 := Lib.hid (HB16.out.below hb7 HB16.out.lt)
    have HG17 := Lib.hid ((hb7.block g1 (lt_of_blk HG16.out)).trans HG16.out)
    have H27 := Lib.hid (H26.out.below hb7)
    have HB7 := Lib.hid (HB6.out.trans (hb7.mono hl6))
    have HS7 := Lib.hid (Nat.le_trans HS6.out hb7.size)
    clear hb7 HB16 HG16 H26 HB6 HS6 hl6
    go_wp2_with fail
    refine (fourBytes_w _ w7).mono ?_
    rintro e w8 ⟨f3, rfl, hf3, hb8⟩
    have hl7 : b1 ≤ w7.heap.size := Nat.le_trans (Nat.le_of_lt HL.out.1) HS7.out
    have HB18 := Lib.hid (HB17.out.below hb8 HB17.out.lt)
    have HG18 := Lib.hid ((hb8.block g1 (lt_of_blk HG17.out)).trans HG17.out)
    have H28 := Lib.hid (H27.out.below hb8)
    have HB8 := Lib.hid (HB7.out.trans (hb8.mono hl7))
    have HS8 := Lib.hid (Nat.le_trans HS7.out hb8.size)
    clear hb8 HB17 HG17 H27 HB7 HS7 hl7
    have hsum : f2.size + f3.size ≤ 1000000 := by omega
    go_wp2_with fail
    refine (writeString_ok (R := w5.heap.size) (b := b2) (l := f1.data.toList) (f2 ++ f3) w8 HS8.out H28.out (by rw [ByteArray.size_append, ← Lib.size_eq]; omega) HL.out.2.2).mono ?_
    rintro e w9 ⟨rfl, hW, hk⟩
    obtain ⟨l2, hl2, hll2⟩ : ∃ l2 : List UInt8, f1.data.toList ++ (f2 ++ f3).data.toList = l2 ∧ l2.length = 12 := ⟨_, rfl, by rw [List.length_append, ← Lib.size_eq, ← Lib.size_eq, ByteArray.size_append]; omega⟩
    rw [hl2] at hW
    have hne2 : l2 ≠ [] := by rintro rfl; simp at hll2
    obtain ⟨a2, g2, cap2, cur2, hB2, hg20, hg2, hd1, hd2, hd3⟩ := hW.row hne2
    have HB19 := Lib.hid (show Blk w9 b1 120 _ from (hk.block b1 HL.out.1 hbb).trans HB18.out)
    have HG19 := Lib.hid ((hk.block g1 HL.out.2.1 hgb).trans HG18.out)
    have HB29 := Lib.hid hB2
    have HG29 := Lib.hid hg2
    have HC2 := Lib.hid hd3
    have HB9 := Lib.hid (HB8.out.trans (hk.below (Nat.le_of_lt HL.out.1) (Nat.le_of_lt hb12)))
    have HS9 := Lib.hid (Nat.le_trans HS8.out hk.size)
    have hg12 : g1 ≠ g2 := by have := HL.out; omega
    have hbg2 : b2 ≠ g2 := hB2.ne (show Blk w9 g2 5 cur2 from hg2) (by decide)
    have hbg1 : b1 ≠ g1 := HB19.out.ne (show Blk w9 g1 5 cur1 from HG19.out) (by decide)
    have hb1g2 : b1 ≠ g2 := HB19.out.ne (show Blk w9 g2 5 cur2 from hg2) (by decide)
    have hb1g1 : b1 ≤ g1 := Nat.le_trans (show b1 ≤ R1 by have := HN.out; omega) hg10
    clear hW hk hB2 hg2 hd3 H28 HB18 HG18 HB8 HS8 hl2 hsum
    go_wp2_with fail
    refine (string_ok b1 g1 cap1 cur1 (0, 0) a1 l1 w9 HB19.out HG19.out hne1 hc1 hc2 (by omega) HC1.out).mono ?_
    rintro e w10 ⟨rfl, _, hk⟩
    have HB20 := Lib.hid (hk.blk HB29.out (by simp; exact fun e => hgb e.symm))
    have HG20 := Lib.hid ((hk.block g2 (lt_of_blk HG29.out) (by simp; exact fun e => hg12 e.symm)).trans HG29.out)
    have HB10 := Lib.hid (HB9.out.trans (hk.below (Nat.le_trans (Nat.le_of_lt HL.out.1) HS9.out) (by simpa using hb1g1)))
    have HS10 := Lib.hid (Nat.le_trans HS9.out hk.size)
    clear hk HB19 HG19 HB29 HG29 HB9 HS9
    go_wp2_with fail
    refine (string_ok b2 g2 cap2 cur2 (0, 0) a2 l2 w10 HB20.out HG20.out hne2 hd1 hd2 (by omega) HC2.out).mono ?_
    rintro e w11 ⟨rfl, ⟨fz, hgz⟩, hk⟩
    have HB21 := Lib.hid (hk.blk HB20.out (by simpa using hbg2))
    have HG21 := Lib.hid hgz
    have hb1g2' : b1 ≤ g2 := Nat.le_trans (Nat.le_of_lt HL.out.1) hg20
    have HB11 := Lib.hid (HB10.out.trans (hk.below (Nat.le_trans (Nat.le_of_lt HL.out.1) HS10.out) (by simpa using hb1g2')))
    have HS11 := Lib.hid (Nat.le_trans HS10.out hk.size)
    have hz1 : (⟨l1.toArray⟩ : ByteArray).size ≤ 8 := by simpa [ByteArray.size] using hll
    have hz2 : (⟨l2.toArray⟩ : ByteArray).size = 12 := by simpa [ByteArray.size] using hll2
    clear hk hgz HB20 HG20 HB10 HS10
    have HSTR := Lib.hid (string_ok b2 g2 cap2 cur2 fz a2 l2 w11 HB21.out HG21.out hne2 hd1 hd2 (by omega) HC2.out)
    generalize (⟨l1.toArray⟩ : ByteArray) = s1 at *
    generalize (⟨l2.toArray⟩ : ByteArray) = s2 at *
    have hsum : s1.size + s2.size ≤ 1000000 := by omega
    go_wp2_with fail
    refine HSTR.out.mono ?_
    rintro e w12 ⟨rfl, _, hk⟩
    have HB12 := Lib.hid (HB11.out.trans (hk.below (Nat.le_trans (Nat.le_of_lt HL.out.1) HS11.out) (by simpa using hb1g2')))
    have HS12 := Lib.hid (Nat.le_trans HS11.out hk.size)
    clear hk HSTR HB11 HS11
    go_wp2_with fail
    refine (crcBytes_w s2 w12 (by omega)).mono ?_
    rintro e w13 ⟨f4, rfl, hf4, hb13⟩
    have HB13 := Lib.hid (HB12.out.trans (hb13.mono (Nat.le_trans (Nat.le_of_lt HL.out.1) HS12.out)))
    clear hb13 HB12
    have hsum2 : (s1 ++ s2).size + f4.size ≤ 1000000 := by rw [ByteArray.size_append]; omega
    go_wp2_with fail
    go_ret2
    refine ⟨_, rfl, ?_, ?_⟩
    · rw [ByteArray.size_append, ByteArray.size_append]; omega
    · rw [HW.out]; exact HB13.out
end Go.Proofs.YtpjnjhklkgefcaaGreatDoor
