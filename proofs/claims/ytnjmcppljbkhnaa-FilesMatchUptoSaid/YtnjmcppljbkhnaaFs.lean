import Derived.Test.YtnjmcppljbkhnaaFp
import Derived.Test.YtnjmcppljbkhnaaFq
set_option linter.unusedVariables false
set_option linter.unusedSimpArgs false
namespace Go.Proofs.Ytnjmcppljbkhnaa
open Go.RowKit
theorem mark_pre (nonce : ByteArray) : Lib.hasPrefix (markS ++ nonce).data.toList [87, 72, 83, 69, 65, 76, 48, 49] = true := by
  have e : (markS ++ nonce).data.toList = [87, 72, 83, 69, 65, 76, 48, 49] ++ nonce.data.toList := by
    rw [ByteArray.data_append, Array.toList_append]; rfl
  rw [e]
  unfold Lib.hasPrefix
  rw [List.isPrefixOf_iff_prefix]
  exact List.prefix_append _ _
/-- the size that a sealed file tells. -/
theorem open12_file (c nonce text : ByteArray) (hnn : nonce.size = 12) (hs : text.size ≤ 1048576) (W : World) : Calls Try.prog 12 #[.int .i64 ((fileB c nonce text).size : Nat)] W fun e w' => e = .returned (.tuple #[.int .i64 (text.size : Nat), .int .i64 0]) ∧ W = w' := by
  have HSL := file_sl c nonce text hnn
  have HB := sl_bd (text.size : Nat) (by omega) (by omega)
  refine (open12 ((fileB c nonce text).size : Nat) W (by omega) (by omega)).mono fun e w' q => ?_
  obtain ⟨k, f, rfl, hr, rfl⟩ := q
  rcases hr with ⟨rfl, h0, h1, h2⟩ | ⟨_, _, h⟩
  · have e1 := (sl_inv _ k h0 h1 h2).1
    have e2 := (sl_inv _ (text.size : Nat) (by omega) (by omega) HSL.symm).1
    rw [e1, ← e2]
    exact ⟨rfl, rfl⟩
  · exact absurd HSL.symm (h (text.size : Nat) (by omega) (by omega))
set_option maxRecDepth 100000 in
set_option maxHeartbeats 1000000 in
theorem open38 (c n t nonce text : ByteArray) (w : World) (hc : c.size = 32) (hn : n.size = 32) (ht : t.size = 16) (hnn : nonce.size = 12) (hs : text.size ≤ 1048576) :
    Calls Try.prog 38 #[.agg #[.string c, .string n, .string t], .string (fileB c nonce text)] w fun e w' => e = .returned (.tuple #[.string text, .int .i64 0]) ∧ Below w.heap.size w w' := by
  have HE : kyE c n t = 0 := if_neg (by omega)
  have HC := Lib.hid (fun w => checkKeys72 c n t w (by unfold maxLen; omega) (by unfold maxLen; omega) (by unfold maxLen; omega))
  rw [HE] at HC
  have hh : (markS ++ nonce).size = 20 := by rw [mark_size]; omega
  have H12 := Lib.hid (open12_file c nonce text hnn hs)
  have H73 := Lib.hid (fun W => openParts73 c n t (markS ++ nonce) text 0 (nparts text) W hc hh (mark_pre nonce) hs (Or.inr (by omega)))
  rw [text_all, ← file_rest c nonce text hnn] at H73
  rw [← file_head c nonce text hnn] at H73
  have hF1 : (fileB c nonce text).size ≤ 2000000 := by rw [file_total c nonce text hnn]; unfold nparts; omega
  have hF2 : 20 ≤ (fileB c nonce text).size := by rw [file_total c nonce text hnn]; omega
  have hF3 : (20 : Int) ≤ ((fileB c nonce text).size : Nat) := by omega
  have HNEW := Lib.hid (Blk.new w 60 #[.string c, .string n, .string t])
  have HB0 := Lib.hid ((Below.refl w.heap.size w).alloc (Nat.le_refl _) (.cells #[Value.string c, Value.string n, Value.string t] 60))
  clear hc hn ht hh HE hnn
  generalize fileB c nonce text = F at *
  go_enter Try.func38, Try.ntmps38
  go_wp2_with fail
  refine (HC.out _).mono ?_
  rintro e w1 ⟨rfl, hb1⟩
  have HB1 := Lib.hid (show Below w.heap.size w w1 from HB0.out.trans (hb1.mono (by simp)))
  have c0 : w1.cell? ⟨w.heap.size, 0, none⟩ = some (.string c) := (hb1.cell (p := ⟨w.heap.size, 0, none⟩) (by simp)).trans (HNEW.out.cell 0)
  have c1 : w1.cell? ⟨w.heap.size, 1, none⟩ = some (.string n) := (hb1.cell (p := ⟨w.heap.size, 1, none⟩) (by simp)).trans (HNEW.out.cell 1)
  have c2 : w1.cell? ⟨w.heap.size, 2, none⟩ = some (.string t) := (hb1.cell (p := ⟨w.heap.size, 2, none⟩) (by simp)).trans (HNEW.out.cell 2)
  clear hb1 HNEW HB0
  go_wp2_with fail
  refine (H12.out _).mono ?_
  rintro e w' ⟨rfl, rfl⟩
  go_wp2_with fail
  refine wp_region_mid 6 #[true, true, true, true, true, true, false, false, false, false, false, false] (by kernel_rfl) (by kernel_rfl) ?_
  simp only [List.take_succ_cons, List.take_zero]
  repeat still_step
  refine wpStill_nil ?_
  change wpAny _ _ _ _ 6 _ _ w1.drew
  refine wpAny_ready (rs := [6]) (by kernel_rfl) (by simp) ?_
  refine AllReady.cons rfl (fun K hK => ?_) AllReady.nil
  go_simp
  refine (H73.out _).mono ?_
  rintro e w2 ⟨rfl, hb2⟩
  dsimp only
  refine hK _ _ ?_
  clear hK K
  simp only [Act.put, List.setIfInBounds_toArray, List.set_cons_zero, List.set_cons_succ]
  refine wpAny_take (i := 7) (v := .tuple #[.string text, .bool true]) rfl (by kernel_rfl) (by kernel_rfl) (by kernel_rfl) (fun _ _ _ h => h) (Or.inl ⟨by rfl, by intro w; go_simp⟩) ?_
  simp only [Act.put, List.setIfInBounds_toArray, List.set_cons_zero, List.set_cons_succ]
  refine wpAny_take (i := 8) (v := .string text) rfl (by kernel_rfl) (by kernel_rfl) (by kernel_rfl) (fun _ _ _ h => h) (Or.inl ⟨by rfl, by intro w; go_simp⟩) ?_
  simp only [Act.put, List.setIfInBounds_toArray, List.set_cons_zero, List.set_cons_succ]
  refine wpAny_take (i := 9) (v := .bool true) rfl (by kernel_rfl) (by kernel_rfl) (by kernel_rfl) (fun _ _ _ h => h) (Or.inl ⟨by rfl, by intro w; go_simp⟩) ?_
  simp only [Act.put, List.setIfInBounds_toArray, List.set_cons_zero, List.set_cons_succ]
  refine wpAny_take (i := 10) (v := .string text) rfl (by kernel_rfl) (by kernel_rfl) (by kernel_rfl) (fun _ _ _ h => h) (Or.inl ⟨by rfl, by intro w; go_simp⟩) ?_
  simp only [Act.put, List.setIfInBounds_toArray, List.set_cons_zero, List.set_cons_succ]
  refine wpAny_take (i := 11) (v := .bool true) rfl (by kernel_rfl) (by kernel_rfl) (by kernel_rfl) (fun _ _ _ h => h) (Or.inl ⟨by rfl, by intro w; go_simp⟩) ?_
  simp only [Act.put, List.setIfInBounds_toArray, List.set_cons_zero, List.set_cons_succ]
  refine wpAny_done (by kernel_rfl) ?_ _
  have HB2 := Lib.hid (show Below w.heap.size w w2 from HB1.out.trans (((Below.refl w1.heap.size w1).drew.trans hb2).mono HB1.out.size))
  clear hb2 c0 c1 c2
  go_wp2_with fail
  go_ret2
  exact ⟨rfl, HB2.out⟩
/-- how many parts are needed, from which on. -/
def ndP (f m : Nat) : Nat := (f + m - 1) / 1024 + 1 - f / 1024
set_option maxRecDepth 100000 in
set_option maxHeartbeats 1000000 in
theorem openPart44 (c n t nonce text : ByteArray) (f most m : Nat) (B : ByteArray) (w : World) (hc : c.size = 32) (hn : n.size = 32) (ht : t.size = 16) (hnn : nonce.size = 12) (hs : text.size ≤ 1048576) (hm : min most (text.size - f) = m) (hf : f ≤ 9223372036854775807) (hmo : most ≤ 9223372036854775807) (hm0 : 0 < m) (hB : pf c (markS ++ nonce) text (nparts text) (f / 1024) (ndP f m) = B) (hBs : (B.size : Int) = ndE (text.size : Nat) (f : Nat) (m : Nat) - ndA (f : Nat)) :
    Calls Try.prog 44 #[.agg #[.string c, .string n, .string t], .string (markS ++ nonce), .string B, .int .i64 (text.size : Nat), .int .i64 (f : Nat), .int .i64 (most : Nat)] w fun e w' => e = .returned (.tuple #[.string (text.extract f (f + m)), .int .i64 0]) ∧ Below w.heap.size w w' := by
  have HE : kyE c n t = 0 := if_neg (by omega)
  have HC := Lib.hid (fun w => checkKeys72 c n t w (by unfold maxLen; omega) (by unfold maxLen; omega) (by unfold maxLen; omega))
  rw [HE] at HC
  have hh : (markS ++ nonce).size = 20 := by rw [mark_size]; omega
  have hfm : f + m ≤ text.size := by omega
  obtain ⟨hnA, hnE, hnp, hnq⟩ := need_bounds text f m hm0 hfm
  have hndM : ndM (text.size : Nat) (f : Nat) (most : Nat) = (m : Nat) := by unfold ndM; omega
  have H42 := Lib.hid (fun W => (needed42 (text.size : Nat) (f : Nat) (most : Nat) W (by omega) (by omega) (by omega) (by omega) (by omega) (by omega)).mono (R' := fun e w' => e = .returned (.tuple #[.int .i64 (ndA (f : Nat)), .int .i64 (B.size : Nat), .int .i64 0]) ∧ W = w') fun e w' q => by
    obtain ⟨h1, h2 | h2⟩ := q
    · rw [hndM] at h2; omega
    · rw [hndM, ← hBs] at h2; exact ⟨h2.2, h1⟩)
  have H73 := Lib.hid (fun W => openParts73 c n t (markS ++ nonce) text (f / 1024) (ndP f m) W hc hh (mark_pre nonce) hs (Or.inr (by unfold ndP; omega)))
  have hadd : f / 1024 + ndP f m = (f + m - 1) / 1024 + 1 := by unfold ndP; omega
  rw [hadd, hB] at H73
  obtain ⟨x, hx⟩ : ∃ x, x = cutAt text 1024 ((f + m - 1) / 1024 + 1) := ⟨_, rfl⟩
  have hcut : cutAt text 1024 (f / 1024) = f / 1024 * 1024 := by unfold cutAt; omega
  have HT := Lib.hid (need_text text f m x hm0 hfm hx)
  have hxs : (text.extract (f / 1024 * 1024) x).size = x - f / 1024 * 1024 := by
    have h : x ≤ text.size := by rw [hx]; exact cutAt_le _ _ _
    simp; omega
  have hxf : f + m ≤ x := by rw [hx]; unfold cutAt; omega
  have hxt : x ≤ text.size := by rw [hx]; exact cutAt_le _ _ _
  have hcase : m = most ∨ x = text.size ∧ m = text.size - f := by
    rcases Nat.lt_or_ge (text.size - f) most with h | h
    · right
      have e : m = text.size - f := by omega
      refine ⟨?_, e⟩
      rw [hx]; unfold cutAt; omega
    · left; omega
  rw [hcut] at HT
  rw [← hx, hcut] at H73
  clear hx hcut hndM hnA hnE hnp hnq hadd hB HE hh
  obtain ⟨A, hA⟩ : ∃ A, A = f / 1024 := ⟨_, rfl⟩
  rw [← hA] at HT H73 hxs
  obtain ⟨d, hd⟩ : ∃ d, d = f - A * 1024 := ⟨_, rfl⟩
  rw [← hd] at HT
  obtain ⟨T, hT⟩ : ∃ T, T = text.extract (A * 1024) x := ⟨_, rfl⟩
  rw [← hT] at HT H73 hxs
  rw [← hxs] at HT
  obtain ⟨S, hS⟩ : ∃ S, S = T.extract d T.size := ⟨_, rfl⟩
  rw [← hS] at HT
  have hSs : S.size = x - f := by rw [hS]; simp; omega
  have hST : T.extract d T.size = S := hS.symm
  have hdi : (f : Int) - (A : Int) * 1024 = (d : Nat) := by omega
  have hAi : (f : Int) / 1024 = (A : Nat) := by omega
  have hmin : min (most : Int) (S.size : Nat) = (m : Nat) := by omega
  have hne : T.toList.isEmpty = false := empty_of T (by omega)
  have hd1 : d ≤ T.size := by omega
  have hd2 : (d : Int) ≤ (T.size : Nat) := by omega
  have hm1 : m ≤ S.size := by omega
  have hm2 : (m : Int) ≤ (S.size : Nat) := by omega
  have hT3 : T.size ≤ 9223372036854775807 := by omega
  have hS3 : S.size ≤ 9223372036854775807 := by omega
  have hA3 : (A : Int) * 1024 ≤ 1048576 := by omega
  have hf3 : (f : Int) ≤ 1048576 := by omega
  have hB3 : (B.size : Int) ≤ 9223372036854775807 := by rw [hBs]; unfold ndE ndA; have := (sl_bd (text.size : Nat) (by omega) (by omega)).2; omega
  have HNEW := Lib.hid (Blk.new w 60 #[.string c, .string n, .string t])
  have HB0 := Lib.hid ((Below.refl w.heap.size w).alloc (Nat.le_refl _) (.cells #[Value.string c, Value.string n, Value.string t] 60))
  clear hc hn ht hnn hS hT hd hA hBs hxs hSs hxf hxt hcase hfm hm
  go_enter Try.func44, Try.ntmps44
  go_wp2_with fail
  refine (HC.out _).mono ?_
  rintro e w1 ⟨rfl, hb1⟩
  have HB1 := Lib.hid (show Below w.heap.size w w1 from HB0.out.trans (hb1.mono (by simp)))
  have c0 : w1.cell? ⟨w.heap.size, 0, none⟩ = some (.string c) := (hb1.cell (p := ⟨w.heap.size, 0, none⟩) (by simp)).trans (HNEW.out.cell 0)
  have c1 : w1.cell? ⟨w.heap.size, 1, none⟩ = some (.string n) := (hb1.cell (p := ⟨w.heap.size, 1, none⟩) (by simp)).trans (HNEW.out.cell 1)
  have c2 : w1.cell? ⟨w.heap.size, 2, none⟩ = some (.string t) := (hb1.cell (p := ⟨w.heap.size, 2, none⟩) (by simp)).trans (HNEW.out.cell 2)
  clear hb1 HNEW HB0
  go_wp2_with fail
  refine (H42.out _).mono ?_
  rintro e w' ⟨rfl, rfl⟩
  go_wp2_with fail
  refine (H73.out _).mono ?_
  rintro e w2 ⟨rfl, hb2⟩
  have HB2 := Lib.hid (show Below w.heap.size w w2 from HB1.out.trans (hb2.mono HB1.out.size))
  clear hb2 c0 c1 c2
  go_wp2_with fail
  go_ret2
  exact ⟨by rw [← HT.out]; rfl, HB2.out⟩
set_option maxRecDepth 100000 in
set_option maxHeartbeats 1000000 in
theorem openPart44_none (c n t nonce text B : ByteArray) (f most : Nat) (w : World) (hc : c.size = 32) (hn : n.size = 32) (ht : t.size = 16) (hnn : nonce.size = 12) (hs : text.size ≤ 1048576) (hf : f ≤ 9223372036854775807) (hmo : most ≤ 9223372036854775807) (hm0 : ndM (text.size : Nat) (f : Nat) (most : Nat) ≤ 0) (hB : B.size = 0) :
    Calls Try.prog 44 #[.agg #[.string c, .string n, .string t], .string (markS ++ nonce), .string B, .int .i64 (text.size : Nat), .int .i64 (f : Nat), .int .i64 (most : Nat)] w fun e w' => e = .returned (.tuple #[.string ⟨#[]⟩, .int .i64 0]) ∧ Below w.heap.size w w' := by
  have HE : kyE c n t = 0 := if_neg (by omega)
  have HC := Lib.hid (fun w => checkKeys72 c n t w (by unfold maxLen; omega) (by unfold maxLen; omega) (by unfold maxLen; omega))
  rw [HE] at HC
  have hh : (markS ++ nonce).size = 20 := by rw [mark_size]; omega
  have H42 := Lib.hid (fun W => (needed42 (text.size : Nat) (f : Nat) (most : Nat) W (by omega) (by omega) (by omega) (by omega) (by omega) (by omega)).mono (R' := fun e w' => e = .returned (.tuple #[.int .i64 0, .int .i64 0, .int .i64 0]) ∧ W = w') fun e w' q => by
    obtain ⟨h1, h2 | h2⟩ := q
    · exact ⟨h2.2, h1⟩
    · omega)
  have H73 := Lib.hid (fun W => openParts73 c n t (markS ++ nonce) text (f / 1024) 0 W hc hh (mark_pre nonce) hs (Or.inl rfl))
  rw [Nat.add_zero, show text.extract (cutAt text 1024 (f / 1024)) (cutAt text 1024 (f / 1024)) = ⟨#[]⟩ from by apply ByteArray.ext; simp] at H73
  rw [show pf c (markS ++ nonce) text (nparts text) (f / 1024) 0 = B from by
    apply ByteArray.ext
    have h : B.data.size = 0 := hB
    rw [Array.eq_empty_of_size_eq_zero h]; rfl] at H73
  obtain ⟨A, hA⟩ : ∃ A, A = f / 1024 := ⟨_, rfl⟩
  have hAi : (f : Int) / 1024 = (A : Nat) := by omega
  rw [← hA] at H73
  have hA3 : (A : Int) ≤ 9223372036854775807 := by omega
  have HNEW := Lib.hid (Blk.new w 60 #[.string c, .string n, .string t])
  have HB0 := Lib.hid ((Below.refl w.heap.size w).alloc (Nat.le_refl _) (.cells #[Value.string c, Value.string n, Value.string t] 60))
  clear hc hn ht hh HE hnn hm0 hA
  have hB0 : ((B.size : Int) != 0) = false := by rw [hB]; rfl
  go_enter Try.func44, Try.ntmps44
  go_wp2_with fail
  refine (HC.out _).mono ?_
  rintro e w1 ⟨rfl, hb1⟩
  have HB1 := Lib.hid (show Below w.heap.size w w1 from HB0.out.trans (hb1.mono (by simp)))
  have c0 : w1.cell? ⟨w.heap.size, 0, none⟩ = some (.string c) := (hb1.cell (p := ⟨w.heap.size, 0, none⟩) (by simp)).trans (HNEW.out.cell 0)
  have c1 : w1.cell? ⟨w.heap.size, 1, none⟩ = some (.string n) := (hb1.cell (p := ⟨w.heap.size, 1, none⟩) (by simp)).trans (HNEW.out.cell 1)
  have c2 : w1.cell? ⟨w.heap.size, 2, none⟩ = some (.string t) := (hb1.cell (p := ⟨w.heap.size, 2, none⟩) (by simp)).trans (HNEW.out.cell 2)
  clear hb1 HNEW HB0
  go_wp2_with fail
  refine (H42.out _).mono ?_
  rintro e w' ⟨rfl, rfl⟩
  go_wp2_with fail
  refine (H73.out _).mono ?_
  rintro e w2 ⟨rfl, hb2⟩
  have HB2 := Lib.hid (show Below w.heap.size w w2 from HB1.out.trans (hb2.mono HB1.out.size))
  clear hb2 c0 c1 c2
  go_wp2_with fail
  go_ret2
  exact ⟨rfl, HB2.out⟩
end Go.Proofs.Ytnjmcppljbkhnaa
