import Derived.Test.YtnjmcppljbkhnaaFpa
import Derived.Test.YtnjmcppljbkhnaaFo2
set_option linter.unusedVariables false
set_option linter.unusedSimpArgs false
namespace Go.Proofs.Ytnjmcppljbkhnaa
open Go.RowKit
/-- what the loop of openParts holds. -/
def OPS (w0 : World) (c n t x : ByteArray) (w : World) : Prop := Below w0.heap.size w0 w ∧ w0.heap.size + 1 ≤ w.heap.size ∧ BS (w0.heap.size + 1) (w0.heap.size + 1) x w ∧ w.cell? ⟨w0.heap.size, 0, none⟩ = some (.string c) ∧ w.cell? ⟨w0.heap.size, 1, none⟩ = some (.string n) ∧ w.cell? ⟨w0.heap.size, 2, none⟩ = some (.string t)
theorem OPS.below {w0 w w' : World} {c n t x : ByteArray} (h : OPS w0 c n t x w) (hb : Below w.heap.size w w') : OPS w0 c n t x w' := by
  obtain ⟨h1, h2, h3, h4, h5, h6⟩ := h
  exact ⟨h1.trans (hb.mono h1.size), Nat.le_trans h2 hb.size, h3.below hb, (hb.cell (p := ⟨w0.heap.size, 0, none⟩) (by show w0.heap.size < w.heap.size; omega)).trans h4, (hb.cell (p := ⟨w0.heap.size, 1, none⟩) (by show w0.heap.size < w.heap.size; omega)).trans h5, (hb.cell (p := ⟨w0.heap.size, 2, none⟩) (by show w0.heap.size < w.heap.size; omega)).trans h6⟩
theorem OPS.write {w0 w w' : World} {c n t x y : ByteArray} (h : OPS w0 c n t x w) (hb : Below (w0.heap.size + 1) w w') (hy : BS (w0.heap.size + 1) (w0.heap.size + 1) y w') : OPS w0 c n t y w' := by
  obtain ⟨h1, h2, h3, h4, h5, h6⟩ := h
  exact ⟨h1.trans (hb.mono (by omega)), Nat.le_trans h2 hb.size, hy, (hb.cell (p := ⟨w0.heap.size, 0, none⟩) (by show w0.heap.size < w0.heap.size + 1; omega)).trans h4, (hb.cell (p := ⟨w0.heap.size, 1, none⟩) (by show w0.heap.size < w0.heap.size + 1; omega)).trans h5, (hb.cell (p := ⟨w0.heap.size, 2, none⟩) (by show w0.heap.size < w0.heap.size + 1; omega)).trans h6⟩
theorem OPS.both {w0 w : World} {c n t x : ByteArray} (h : OPS w0 c n t x w) : OPS w0 c n t x w ∧ w.cell? ⟨w0.heap.size, 0, none⟩ = some (.string c) ∧ w.cell? ⟨w0.heap.size, 1, none⟩ = some (.string n) ∧ w.cell? ⟨w0.heap.size, 2, none⟩ = some (.string t) := ⟨h, h.2.2.2⟩
theorem OPS.new (w0 : World) (c n t : ByteArray) : OPS w0 c n t ⟨#[]⟩ ((w0.alloc (.cells #[.string c, .string n, .string t] 60)).alloc (.cells #[.pointer none, .slice none 0 0] 103)) := by
  have hz : (w0.alloc (.cells #[.string c, .string n, .string t] 60)).heap.size = w0.heap.size + 1 := by simp
  have hb0 := (Below.refl w0.heap.size w0).alloc (Nat.le_refl _) (.cells #[.string c, .string n, .string t] 60)
  have HN := Blk.new w0 60 #[.string c, .string n, .string t]
  have hb1 := (Below.refl (w0.heap.size + 1) (w0.alloc (.cells #[.string c, .string n, .string t] 60))).alloc (by omega) (.cells #[.pointer none, .slice none 0 0] 103)
  have hbs := BS.new (w0.alloc (.cells #[.string c, .string n, .string t] 60)) (w0.heap.size + 1) (by omega)
  rw [hz] at hbs
  have HN2 := Blk.below HN hb1 (by omega)
  exact ⟨hb0.trans (hb1.mono (by omega)), by have := hb1.size; omega, hbs, Blk.cell HN2 0, Blk.cell HN2 1, Blk.cell HN2 2⟩
theorem OPS.bs {w0 w : World} {c n t x : ByteArray} (h : OPS w0 c n t x w) : BS (w0.heap.size + 1) (w0.heap.size + 1) x w := h.2.2.1
theorem OPS.size {w0 w : World} {c n t x : ByteArray} (h : OPS w0 c n t x w) : w0.heap.size + 1 ≤ w.heap.size := h.2.1
theorem ext_more (text : ByteArray) (first k : Nat) : text.extract (cutAt text 1024 first) (cutAt text 1024 (first + k)) ++ blkS text 1024 (first + k) = text.extract (cutAt text 1024 first) (cutAt text 1024 (first + (k + 1))) := by
  unfold blkS cutAt
  apply ByteArray.ext
  simp only [ByteArray.data_extract, ByteArray.data_append]
  rw [Array.extract_append_extract]
  congr 1 <;> omega
theorem parts76 (text : ByteArray) (W : World) (hs : text.size ≤ 1048576) : Calls Try.prog 76 #[.int .i64 (text.size : Nat)] W fun e w' => e = .returned (.int .i64 (nparts text : Nat)) ∧ W = w' := by
  refine (partsOf76 (text.size : Nat) W (by omega) (by omega)).mono fun e w' q => ⟨?_, q.2⟩
  rw [q.1, show max 1 ((((text.size : Nat) : Int) + 1024 - 1) / 1024) = ((nparts text : Nat) : Int) from by unfold nparts; omega]
set_option maxRecDepth 100000 in
set_option maxHeartbeats 400000 in
theorem openParts73 (c n t head text : ByteArray) (first q : Nat) (w : World) (hc : c.size = 32) (hh : head.size = 20) (hpre : Lib.hasPrefix head.data.toList [87, 72, 83, 69, 65, 76, 48, 49] = true) (hs : text.size ≤ 1048576) (hq : q = 0 ∨ first + q ≤ nparts text) :
    Calls Try.prog 73 #[.agg #[.string c, .string n, .string t], .string head, .string (pf c head text (nparts text) first q), .int .i64 text.size, .int .i64 first] w fun e w' => e = .returned (.tuple #[.string (text.extract (cutAt text 1024 first) (cutAt text 1024 (first + q))), .bool true]) ∧ Below w.heap.size w w' := by
  have HC := Lib.hid (fun (i : Nat) (last : Bool) (T : ByteArray) (W : World) (hi : i ≤ 1099511627776) (hT : T.size ≤ 100000) => openPart96 c n t head T i last W hc hh hi hT)
  have d1 : ((head.size : Int) != 20) = false := by simp; omega
  have HPX := Lib.hid (show ∀ W, Calls Try.prog 78 #[.string head, .string ⟨#[87, 72, 83, 69, 65, 76, 48, 49]⟩] W fun e w' => e = .returned (.bool true) ∧ w' = W from fun W => by
    have h := Try.strings_HasPrefix head ⟨#[87, 72, 83, 69, 65, 76, 48, 49]⟩ W
    rw [show (⟨#[87, 72, 83, 69, 65, 76, 48, 49]⟩ : ByteArray).data.toList = [87, 72, 83, 69, 65, 76, 48, 49] from rfl, hpre] at h
    exact h)
  have C76 := Lib.hid (fun W => parts76 text W hs)
  clear hc hpre
  go_enter Try.func73, Try.ntmps73
  go_wp2_with fail
  refine (HPX.out _).mono ?_
  rintro e w1 ⟨rfl, rfl⟩
  go_wp2_with fail
  have HPS0 := Lib.hid (OPS.new w c n t)
  generalize (w.alloc (.cells #[.string c, .string n, .string t] 60)).alloc (.cells #[.pointer none, .slice none 0 0] 103) = w2 at *
  go_loopw [2, 13] (fun bv iv wr => ∃ k : Nat, k ≤ q ∧ bv = .string (pf c head text (nparts text) (first + k) (q - k)) ∧ iv = .int .i64 (first + k : Nat) ∧ OPS w c n t (text.extract (cutAt text 1024 first) (cutAt text 1024 (first + k))) wr) (fun _ iv _ => first + q - (intOf iv).toNat)
  case atStart => exact ⟨0, by omega, rfl, rfl, by rw [show text.extract (cutAt text 1024 first) (cutAt text 1024 (first + 0)) = ⟨#[]⟩ from by apply ByteArray.ext; simp]; exact HPS0.out⟩
  case round =>
    obtain ⟨k, hk, rfl, rfl, hps⟩ := hrel
    have HPS := Lib.hid hps
    clear hps
    by_cases hlt : k < q
    · have hq2 : first + q ≤ nparts text := by omega
      clear hq
      obtain ⟨r, hr⟩ : ∃ r, q - k = r + 1 := ⟨q - k - 1, by omega⟩
      rw [hr]
      obtain ⟨fk, hfk⟩ : ∃ fk, fk = first + k := ⟨_, rfl⟩
      rw [← hfk] at HPS ⊢
      have HTK := Lib.hid (pf_take c head text fk r (by omega))
      have HPL := Lib.hid (prt_le c head text (nparts text) fk)
      have HE0 := Lib.hid (show (pf c head text (nparts text) fk (r + 1)).extract 0 (prt c head text (nparts text) fk).size = prt c head text (nparts text) fk from left_of _ _)
      have HE1 := Lib.hid (show (pf c head text (nparts text) fk (r + 1)).extract (prt c head text (nparts text) fk).size (pf c head text (nparts text) fk (r + 1)).size = pf c head text (nparts text) (fk + 1) r from right_of _ _)
      have HBS := Lib.hid (pf_size c head text (nparts text) fk (r + 1))
      have HPE := Lib.hid (show prt c head text (nparts text) fk = partB c head fk (decide (fk + 1 = nparts text)) (blkS text 1024 fk) from rfl)
      have hnp2 : nparts text ≤ 1100 := by unfold nparts; omega
      have hnp1 : 1 ≤ nparts text := by omega
      have hfk2 : fk ≤ 1100 := by omega
      have hrk : r ≤ 1100 := by omega
      have C96 := Lib.hid (fun W => HC.out fk (decide (fk + 1 = nparts text)) (blkS text 1024 fk) W (by omega) (by have := blk_le text fk; omega))
      rw [← HPE.out] at C96
      have HXN := Lib.hid (ext_more text first k)
      rw [← hfk] at HXN
      have HXB := Lib.hid (show (blkS text 1024 fk).size ≤ 1024 from blk_le text fk)
      have HXS := Lib.hid (show (text.extract (cutAt text 1024 first) (cutAt text 1024 fk)).size ≤ 1048576 from by simp; have := cutAt_le text 1024 fk; omega)
      have hlast : ((fk : Int) == ((nparts text : Nat) : Int) - 1) = decide (fk + 1 = nparts text) := by
        by_cases hx : fk + 1 = nparts text
        · rw [decide_eq_true hx]; simp; omega
        · rw [decide_eq_false hx]; simp; omega
      have HNX := Lib.hid (show pf c head text (nparts text) (fk + 1) r = pf c head text (nparts text) (first + (k + 1)) (q - (k + 1)) from by rw [hfk, show q - (k + 1) = r by omega, Nat.add_assoc])
      rw [HNX.out] at HE1
      clear HNX
      obtain ⟨bn, hbn⟩ : ∃ bn, pf c head text (nparts text) (first + (k + 1)) (q - (k + 1)) = bn := ⟨_, rfl⟩
      rw [hbn] at HE1
      have HBN := Lib.hid hbn
      clear hbn
      generalize pf c head text (nparts text) fk (r + 1) = bl at *
      generalize prt c head text (nparts text) fk = P at *
      generalize blkS text 1024 fk = BK at *
      generalize text.extract (cutAt text 1024 first) (cutAt text 1024 fk) = XK at *
      generalize decide (fk + 1 = nparts text) = LB at *
      have hb16 : 16 ≤ bl.size := by have := HBS.out; omega
      have hbu : bl.size ≤ 2000000 := by have := HBS.out; omega
      have hne : bl.toList.isEmpty = false := empty_of bl (by omega)
      have hpl : P.size ≤ bl.size := by have := HTK.out; omega
      have hpl2 : (P.size : Int) ≤ (bl.size : Nat) := by omega
      have hmin : min (1040 : Int) (bl.size : Nat) = (P.size : Nat) := by have := HTK.out; omega
      have hE0 := HE0.out
      have hE1 := HE1.out
      have HFK := Lib.hid hfk
      have c0 : wr.cell? ⟨w.heap.size, 0, none⟩ = some (.string c) := HPS.out.both.2.1
      have c1 : wr.cell? ⟨w.heap.size, 1, none⟩ = some (.string n) := HPS.out.both.2.2.1
      have c2 : wr.cell? ⟨w.heap.size, 2, none⟩ = some (.string t) := HPS.out.both.2.2.2
      clear HE0 HE1 HTK HPL HBS HPE HC hq2 hfk
      generalize nparts text = np at *
      have hlw : IntKind.i64.wrap ((np : Int) - 1) = (np : Int) - 1 := IntWalk.i64_in _ (by omega)
      go_wp2_with fail
      refine wp_region_mid 11 #[true, true, true, true, true, true, true, true, true, true, true, false, false, false, false, false, false] (by kernel_rfl) (by kernel_rfl) ?_
      simp only [List.take_succ_cons, List.take_zero]
      repeat still_step
      still_call (by refine (C76.out _).mono ?_; rintro e w' ⟨rfl, rfl⟩; exact ⟨rfl, rfl⟩)
      repeat still_step
      refine wpStill_nil ?_
      change wpAny _ _ _ _ 6 _ _ wr.drew
      refine wpAny_ready (rs := [11]) (by kernel_rfl) (by simp) ?_
      refine AllReady.cons rfl (fun K hK => ?_) AllReady.nil
      go_simp
      refine (C96.out _).mono ?_
      rintro e w4 ⟨rfl, hb4⟩
      dsimp only
      refine hK _ _ ?_
      clear hK K
      simp only [Act.put, List.setIfInBounds_toArray, List.set_cons_zero, List.set_cons_succ]
      refine wpAny_take (i := 12) (v := .tuple #[.string BK, .bool true]) rfl (by kernel_rfl) (by kernel_rfl) (by kernel_rfl) (fun _ _ _ h => h) (Or.inl ⟨by rfl, by intro w; go_simp⟩) ?_
      simp only [Act.put, List.setIfInBounds_toArray, List.set_cons_zero, List.set_cons_succ]
      refine wpAny_take (i := 13) (v := .string BK) rfl (by kernel_rfl) (by kernel_rfl) (by kernel_rfl) (fun _ _ _ h => h) (Or.inl ⟨by rfl, by intro w; go_simp⟩) ?_
      simp only [Act.put, List.setIfInBounds_toArray, List.set_cons_zero, List.set_cons_succ]
      refine wpAny_take (i := 14) (v := .bool true) rfl (by kernel_rfl) (by kernel_rfl) (by kernel_rfl) (fun _ _ _ h => h) (Or.inl ⟨by rfl, by intro w; go_simp⟩) ?_
      simp only [Act.put, List.setIfInBounds_toArray, List.set_cons_zero, List.set_cons_succ]
      refine wpAny_take (i := 15) (v := .string BK) rfl (by kernel_rfl) (by kernel_rfl) (by kernel_rfl) (fun _ _ _ h => h) (Or.inl ⟨by rfl, by intro w; go_simp⟩) ?_
      simp only [Act.put, List.setIfInBounds_toArray, List.set_cons_zero, List.set_cons_succ]
      refine wpAny_take (i := 16) (v := .bool true) rfl (by kernel_rfl) (by kernel_rfl) (by kernel_rfl) (fun _ _ _ h => h) (Or.inl ⟨by rfl, by intro w; go_simp⟩) ?_
      simp only [Act.put, List.setIfInBounds_toArray, List.set_cons_zero, List.set_cons_succ]
      refine wpAny_done (by kernel_rfl) ?_ _
      have HPS4 := Lib.hid (HPS.out.below ((Below.refl wr.heap.size wr).drew.trans hb4))
      clear hb4 c0 c1 c2
      go_wp2_with fail
      refine (BS.write (HPS4.out.bs) (by have := HXS.out; have := HXB.out; omega) HPS4.out.size).mono ?_
      rintro e w5 ⟨rfl, hbs5, hb5⟩
      have HPS5 := Lib.hid (HPS4.out.write hb5 hbs5)
      clear hbs5 hb5
      go_wp2_with fail
      go_roundw
      case rel => exact ⟨k + 1, by omega, by rw [HBN.out], by rw [show ((first + (k + 1) : Nat) : Int) = (fk : Int) + 1 by have := HFK.out; omega], by rw [← HXN.out]; exact HPS5.out⟩
      case measure => have := HFK.out; simp [intOf]; omega
    · obtain rfl : k = q := by omega
      rw [Nat.sub_self]
      have hne : (pf c head text (nparts text) (first + k) 0).toList.isEmpty = true := empty_no _ rfl
      generalize pf c head text (nparts text) (first + k) 0 = bl at *
      obtain ⟨XK, hXK⟩ : ∃ XK, text.extract (cutAt text 1024 first) (cutAt text 1024 (first + k)) = XK := ⟨_, rfl⟩
      rw [hXK] at HPS
      have HXK := Lib.hid hXK
      clear hXK
      go_wp2_with fail
      have HLL := Lib.hid (show Lib.IsBuilder 103 5 (w.heap.size + 1) (w.heap.size + 1) (Lib.byteCells XK.data.toList) wr from HPS.out.bs)
      refine (Try.Builder_String_any (w.heap.size + 1) (w.heap.size + 1) _ wr HLL.out HPS.out.size).mono ?_
      rintro e w5 ⟨rfl, hb5⟩
      go_wp2_with fail
      go_ret2
      exact ⟨by rw [HXK.out]; rfl, HPS.out.1.trans (hb5.mono (by have := HPS.out.1.size; omega))⟩
end Go.Proofs.Ytnjmcppljbkhnaa
