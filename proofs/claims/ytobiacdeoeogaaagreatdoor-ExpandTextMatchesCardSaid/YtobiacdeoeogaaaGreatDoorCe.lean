import Derived.Test.YtobiacdeoeogaaaGreatDoorCd
set_option linter.unusedVariables false
set_option linter.unusedSimpArgs false
namespace Go.Proofs.YtobiacdeoeogaaaGreatDoor
open Go.RowKit
theorem lt_of_blkC {w : World} {b : Nat} {o : Obj} (h : w.heap[b]? = some o) : b < w.heap.size := (Array.getElem?_eq_some_iff.1 h).1
theorem own_belowC {w w' : World} {base e size n : Nat} {v : Value} {xs : List Value} (h : w.ownsRow base e size v n xs) (k : Below w.heap.size w w') : w'.ownsRow base e size v n xs := by
  obtain ⟨h1, h2⟩ := h
  refine ⟨h1, ?_⟩
  rcases h2 with h2 | ⟨g, cap, cur, rfl, hb', hg, r⟩
  · exact Or.inl h2
  · exact Or.inr ⟨g, cap, cur, rfl, hb', (k.block g (lt_of_blkC hg)).trans hg, r⟩
/-- a cell of a row. -/
theorem own_cellC {w : World} {base e n g cap i : Nat} {xs : List Value} {x : Value} (h : w.ownsRow base e 1 (.slice (some ⟨g, 0, none⟩) n cap) n xs) (hb : xs[i]? = some x) : w.cell? ⟨g, i, none⟩ = some x := by
  obtain ⟨hl, h2⟩ := h
  have hi := (List.getElem?_eq_some_iff.1 hb).1
  rcases h2 with ⟨hv, _⟩ | ⟨g', cap', cur, hv, _, hg, _, _, _, ht⟩
  · cases hv
  · injection hv with h1
    injection h1 with h1
    injection h1 with h1
    subst h1
    rw [cell_of_row w _ i cur _ _ hg]
    have h1 : (cur.toList.take (n * 1))[i]? = some x := by rw [ht]; exact hb
    rw [List.getElem?_take, if_pos (by omega)] at h1
    simpa using h1
theorem bodyOf_consC (c : List UInt8) (cs : List (List UInt8)) : bodyOf (c :: cs) = (enc1 c).1 ++ bodyOf cs := rfl
theorem wordsOf_consC (c : List UInt8) (cs : List (List UInt8)) : wordsOf' (c :: cs) = wordB ((enc1 c).2 : Int) ++ wordsOf' cs := rfl
set_option maxRecDepth 100000 in
set_option maxHeartbeats 16000000 in
theorem refText_ok (n : Nat) (t : ByteArray) (w : World) (hn1 : 16 ≤ n) (hn2 : n ≤ 16384) (hz : t.size ≤ 16777216) : Calls Tryz.prog 12 #[.int .i64 (n : Int), .string t] w fun e w' => e = .returned (.string ⟨(sqT n t.data.toList).toArray⟩) ∧ Below w.heap.size w w' := by
  have HBL := Lib.hid (fun w => blocks_ok n t w hn1 hn2 hz)
  have hcl := chunksOf_len (n := n) (by omega) _ t.data.toList (Nat.le_refl _)
  have hcle : ∀ c ∈ chunksOf n t.data.toList, c.length ≤ n := chunksOf_le _ t.data.toList (Nat.le_refl _)
  rw [← Lib.size_eq] at hcl
  have hcm : (t.size + n - 1) / n ≤ 16777216 := by
    have : (t.size + n - 1) / n ≤ (t.size + n - 1) / 16 := Nat.div_le_div_left hn1 (by omega)
    omega
  obtain ⟨cs, hcs⟩ : ∃ cs, chunksOf n t.data.toList = cs := ⟨_, rfl⟩
  rw [hcs] at hcl hcle HBL
  rw [← hcl] at hcm
  have HCS := Lib.hid hcs
  have HCLE := Lib.hid hcle
  clear hcs hcl hcle
  go_enter Tryz.func12, Tryz.ntmps12
  go_wp2_with fail
  refine (HBL.out _).mono ?_
  rintro e w1 ⟨v, rfl, hO, hB⟩
  obtain ⟨p, cp, rfl⟩ := own_sliceC hO
  have HO := Lib.hid hO
  have HB := Lib.hid hB
  clear hO hB HBL
  go_wp2_with fail
  go_loopg [5, 6, 15] cs.length (fun gk s5 s6 s15 wr => ∃ i : Nat, ∃ O X : ByteArray, s5 = .string O ∧ s6 = .string X ∧ s15 = .int .i64 (i : Int) ∧ i + gk = cs.length ∧ O.data.toList ++ bodyOf (cs.drop i) = [87, 72, 83, 81] ++ bodyOf cs ∧ X.data.toList ++ wordsOf' (cs.drop i) = wordsOf' cs ∧ O.size ≤ 4 + i * 16384 ∧ X.size ≤ 4 * i ∧ wr.ownsRow w.heap.size 9 1 (.slice p cs.length cp) cs.length (cs.map strV) ∧ Below w.heap.size w wr)
  case atStart => exact ⟨0, ⟨#[87, 72, 83, 81]⟩, ⟨#[]⟩, rfl, rfl, rfl, by omega, rfl, rfl, by decide, by decide, HO.out, HB.out⟩
  case round =>
    clear HO HB
    obtain ⟨i, O, X, rfl, rfl, rfl, hig, he1, he2, hz1, hz2, hO, hB⟩ := hrel
    have HE1 := Lib.hid he1
    have HE2 := Lib.hid he2
    have HO := Lib.hid hO
    have HB := Lib.hid hB
    have hbs := hB.size
    clear he1 he2 hO hB
    by_cases hlt : i < cs.length
    · have hd : decide ((i : Int) < (cs.length : Int)) = true := decide_eq_true (by omega)
      have hd2 : decide (i < cs.length) = true := decide_eq_true hlt
      obtain ⟨g, cap, hv⟩ := own_form HO.out (by omega)
      injection hv with hp1 hp2 hp3
      subst hp1
      subst hp3
      clear hp2
      have hdr : cs.drop i = cs[i] :: cs.drop (i + 1) := List.drop_eq_getElem_cons hlt
      have hcl1 : cs[i].length ≤ n := HCLE.out _ (List.getElem_mem hlt)
      have hcell := own_cellC (i := i) (x := strV cs[i]) HO.out (by rw [List.getElem?_map, List.getElem?_eq_getElem hlt]; rfl)
      have HDR := Lib.hid hdr
      clear hdr
      generalize cs[i] = c at *
      obtain ⟨pc, hpc⟩ : ∃ pc : ByteArray, pc.data.toList = c := ⟨⟨c.toArray⟩, rfl⟩
      have hcv : strV c = .string pc := by unfold strV; rw [show (⟨c.toArray⟩ : ByteArray) = pc from ba_extC (by rw [hpc])]
      rw [hcv] at hcell
      have hpz : pc.size = c.length := by rw [Lib.size_eq, hpc]
      have hpz1 : pc.size ≤ 16384 := by omega
      have HPC := Lib.hid hpc
      have HPZ := Lib.hid hpz
      have hgb : (i : Int) < (cs.length : Int) := by omega
      have HSQ := Lib.hid (fun w => refSqueezed_ok pc w hpz1)
      rw [hpc] at HSQ
      obtain ⟨q, hq⟩ : ∃ q : ByteArray, (⟨(sqB c).toArray⟩ : ByteArray) = q := ⟨_, rfl⟩
      rw [hq] at HSQ
      have hql : q.data.toList = sqB c := by rw [← hq]
      have HQL := Lib.hid hql
      clear hpc hpz hql hq hcv
      go_wp2_with fail
      refine (HSQ.out _).mono ?_
      rintro e w2 ⟨rfl, hb2⟩
      have HO2 := Lib.hid (own_belowC HO.out hb2)
      have HB2 := Lib.hid (HB.out.trans (hb2.mono hbs))
      have hbs2 := HB2.out.size
      clear hb2 HO HB hbs HSQ hcell
      by_cases hc : pc.size ≤ q.size
      · have hdc : decide ((q.size : Int) ≥ (pc.size : Int)) = true := decide_eq_true (by omega)
        have hdc2 : decide (pc.size ≤ q.size) = true := decide_eq_true hc
        have hdc3 : (pc.size : Int) ≤ (q.size : Int) := by omega
        have henc : enc1 c = (pc.data.toList, pc.size + 2147483648) := by
          unfold enc1
          rw [if_pos (by rw [← HQL.out, ← Lib.size_eq, ← HPZ.out]; exact hc), HPC.out, HPZ.out]
        have HENC := Lib.hid henc
        clear henc
        go_wp2_with fail
        refine (four_ok _ _).mono ?_
        rintro e w3 ⟨rfl, hb3⟩
        have HO3 := Lib.hid (own_belowC HO2.out hb3)
        have HB3 := Lib.hid (HB2.out.trans (hb3.mono hbs2))
        clear hb3 HO2 HB2 hbs2
        obtain ⟨f, hf⟩ : ∃ f : ByteArray, f.data.toList = wordB ((pc.size : Int) + 2147483648) := ⟨⟨(wordB ((pc.size : Int) + 2147483648)).toArray⟩, rfl⟩
        rw [show (⟨(wordB ((pc.size : Int) + 2147483648)).toArray⟩ : ByteArray) = f from ba_extC (by rw [hf])]
        have hfz : f.size = 4 := by rw [Lib.size_eq, hf]; rfl
        have HF := Lib.hid hf
        have HFZ := Lib.hid hfz
        clear hf
        go_wp2_with fail
        go_roundg (gk - 1)
        case measure => omega
        case rel =>
          refine ⟨i + 1, O ++ pc, X ++ f, rfl, rfl, by go_num, by omega, ?_, ?_, ?_, ?_, HO3.out, HB3.out⟩
          · rw [← HE1.out, HDR.out, bodyOf_consC, HENC.out]; simp
          · rw [← HE2.out, HDR.out, wordsOf_consC, HENC.out]
            have : (X ++ f).data.toList = X.data.toList ++ f.data.toList := by simp
            rw [this, HF.out, List.append_assoc]
            rfl
          · rw [ByteArray.size_append]; omega
          · rw [ByteArray.size_append]; omega
      · have hdc : decide ((q.size : Int) ≥ (pc.size : Int)) = false := decide_eq_false (by omega)
        have hdc2 : decide (pc.size ≤ q.size) = false := decide_eq_false hc
        have hdc3 : ¬ (pc.size : Int) ≤ (q.size : Int) := by omega
        have hqz : q.size ≤ 16384 := by omega
        have henc : enc1 c = (q.data.toList, q.size) := by
          unfold enc1
          rw [if_neg (by rw [← HQL.out, ← Lib.size_eq, ← HPZ.out]; exact hc), ← HQL.out, Lib.size_eq]
        have HENC := Lib.hid henc
        clear henc
        go_wp2_with fail
        refine (four_ok _ _).mono ?_
        rintro e w3 ⟨rfl, hb3⟩
        have HO3 := Lib.hid (own_belowC HO2.out hb3)
        have HB3 := Lib.hid (HB2.out.trans (hb3.mono hbs2))
        clear hb3 HO2 HB2 hbs2
        obtain ⟨f, hf⟩ : ∃ f : ByteArray, f.data.toList = wordB (q.size : Int) := ⟨⟨(wordB (q.size : Int)).toArray⟩, rfl⟩
        rw [show (⟨(wordB (q.size : Int)).toArray⟩ : ByteArray) = f from ba_extC (by rw [hf])]
        have hfz : f.size = 4 := by rw [Lib.size_eq, hf]; rfl
        have HF := Lib.hid hf
        have HFZ := Lib.hid hfz
        clear hf
        go_wp2_with fail
        go_roundg (gk - 1)
        case measure => omega
        case rel =>
          refine ⟨i + 1, O ++ q, X ++ f, rfl, rfl, by go_num, by omega, ?_, ?_, ?_, ?_, HO3.out, HB3.out⟩
          · rw [← HE1.out, HDR.out, bodyOf_consC, HENC.out]; simp
          · rw [← HE2.out, HDR.out, wordsOf_consC, HENC.out]
            have : (X ++ f).data.toList = X.data.toList ++ f.data.toList := by simp
            rw [this, HF.out, List.append_assoc]
          · rw [ByteArray.size_append]; omega
          · rw [ByteArray.size_append]; omega
    · have hd : decide ((i : Int) < (cs.length : Int)) = false := decide_eq_false (by omega)
      have hd2 : decide (i < cs.length) = false := decide_eq_false hlt
      have h1 := HE1.out
      have h2 := HE2.out
      rw [List.drop_eq_nil_of_le (by omega)] at h1 h2
      have HO1 := Lib.hid (show O.data.toList = [87, 72, 83, 81] ++ bodyOf cs by simpa [bodyOf] using h1)
      have HX1 := Lib.hid (show X.data.toList = wordsOf' cs by simpa [wordsOf'] using h2)
      clear h1 h2 HE1 HE2
      go_wp2_with fail
      refine (four_ok _ _).mono ?_
      rintro e w3 ⟨rfl, hb3⟩
      have HB3 := Lib.hid (HB.out.trans (hb3.mono hbs))
      have hbs3 := HB3.out.size
      clear hb3 HB
      obtain ⟨f1, hf1⟩ : ∃ f : ByteArray, f.data.toList = wordB (n : Int) := ⟨⟨(wordB (n : Int)).toArray⟩, rfl⟩
      rw [show (⟨(wordB (n : Int)).toArray⟩ : ByteArray) = f1 from ba_extC (by rw [hf1])]
      have hfz1 : f1.size = 4 := by rw [Lib.size_eq, hf1]; rfl
      have HF1 := Lib.hid hf1
      clear hf1
      go_wp2_with fail
      refine (four_ok _ _).mono ?_
      rintro e w4 ⟨rfl, hb4⟩
      have HB4 := Lib.hid (HB3.out.trans (hb4.mono hbs3))
      have hbs4 := HB4.out.size
      clear hb4 HB3
      obtain ⟨f2, hf2⟩ : ∃ f : ByteArray, f.data.toList = wordB (t.size : Int) := ⟨⟨(wordB (t.size : Int)).toArray⟩, rfl⟩
      rw [show (⟨(wordB (t.size : Int)).toArray⟩ : ByteArray) = f2 from ba_extC (by rw [hf2])]
      have hfz2 : f2.size = 4 := by rw [Lib.size_eq, hf2]; rfl
      have HF2 := Lib.hid hf2
      clear hf2
      have hidx : (X ++ (f1 ++ f2)).data.toList = idxOf n t.data.toList := by
        have : (X ++ (f1 ++ f2)).data.toList = X.data.toList ++ (f1.data.toList ++ f2.data.toList) := by simp
        rw [this, HX1.out, HF1.out, HF2.out]
        unfold idxOf
        rw [HCS.out, ← Lib.size_eq]
      have hixz : (X ++ (f1 ++ f2)).size ≤ 100000000 := by
        rw [ByteArray.size_append, ByteArray.size_append]; omega
      have hixz2 : X.size + (f1.size + f2.size) ≤ 100000000 := by omega
      have HC := Lib.hid (fun w => refCrc_ok (X ++ (f1 ++ f2)) w (by omega))
      have HIDX := Lib.hid hidx
      have hoz : O.size ≤ 300000000000 := by omega
      clear hidx
      go_wp2_with fail
      obtain ⟨ix, hix⟩ : ∃ ix, X ++ (f1 ++ f2) = ix := ⟨_, rfl⟩
      rw [hix] at HC HIDX hixz
      rw [hix]
      clear hix
      refine (HC.out _).mono ?_
      rintro e w5 ⟨rfl, rfl⟩
      have hii : ix.data.toList = idxOf n t.data.toList := HIDX.out
      rw [hii]
      have hclt : crcOf (idxOf n t.data.toList) < 4294967296 := by
        unfold crcOf
        exact Nat.xor_lt_two_pow (n := 32) (by decide) (crcL_lt _ (by decide))
      obtain ⟨cc, hcc⟩ : ∃ cc, crcOf (idxOf n t.data.toList) = cc := ⟨_, rfl⟩
      rw [hcc]
      rw [hcc] at hclt
      have HCC := Lib.hid hcc
      clear hcc hii HC
      have hoix : O.size + ix.size ≤ 400000000000 := by omega
      go_wp2_with fail
      refine (four_ok _ _).mono ?_
      rintro e w6 ⟨rfl, hb6⟩
      have HB6 := Lib.hid (HB4.out.trans (hb6.mono hbs4))
      obtain ⟨f3, hf3⟩ : ∃ f : ByteArray, f.data.toList = wordB (cc : Int) := ⟨⟨(wordB (cc : Int)).toArray⟩, rfl⟩
      rw [show (⟨(wordB (cc : Int)).toArray⟩ : ByteArray) = f3 from ba_extC (by rw [hf3])]
      have hfz3 : f3.size = 4 := by rw [Lib.size_eq, hf3]; rfl
      have HF3 := Lib.hid hf3
      clear hf3 hb6 HB4
      go_wp2_with fail
      go_ret
      have hfin : (O ++ ix ++ f3 : ByteArray) = ⟨(sqT n t.data.toList).toArray⟩ := ba_extC (by
        have : (O ++ ix ++ f3).data.toList = O.data.toList ++ (ix.data.toList ++ f3.data.toList) := by simp
        rw [this, HO1.out, HIDX.out, HF3.out, ← HCC.out]
        show _ = sqT n t.data.toList
        unfold sqT
        rw [HCS.out]
        simp only [List.append_assoc])
      exact ⟨by rw [← hfin]; rfl, HB6.out⟩
end Go.Proofs.YtobiacdeoeogaaaGreatDoor
