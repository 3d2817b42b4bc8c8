import Derived.Test.YtoomhlbebifklaaGreatDoorVa
set_option linter.unusedVariables false
set_option linter.unusedSimpArgs false
namespace Go.Proofs.YtoomhlbebifklaaGreatDoor.Cha
open Go.RowKit

/-- sixteen words in memory. -/
def row32 (f : Nat → Nat) : Array Value := ((List.range 16).map fun i => Value.int .u32 (f i : Nat)).toArray
def upd (f : Nat → Nat) (i v : Nat) : Nat → Nat := fun j => if j = i then v else f j
theorem row32_at (f : Nat → Nat) (i : Nat) (h : i < 16) : (row32 f)[i]? = some (.int .u32 (f i : Nat)) := by
  simp [row32, h]
theorem row32_set (f : Nat → Nat) (i v : Nat) : (row32 f).setIfInBounds i (.int .u32 (v : Nat)) = row32 (upd f i v) := by
  unfold row32
  apply Array.ext'
  simp only [List.setIfInBounds_toArray]
  apply List.ext_getElem (by simp)
  intro j h1 h2
  by_cases h : i = j
  · simp [List.getElem_set, upd, h]
  · have h' : ¬ j = i := fun e => h e.symm
    simp [List.getElem_set, upd, h, h']
theorem row32_size (f : Nat → Nat) : (row32 f).size = 16 := by simp [row32]
def addw (x y : Nat) : Nat := (x + y) % 4294967296
theorem addw_lt (x y : Nat) : addw x y < 4294967296 := Nat.mod_lt _ (by decide)
def stA (f : Nat → Nat) (a b : Nat) : Nat → Nat := upd f a (addw (f a) (f b))
def stX (k : Nat) (f : Nat → Nat) (d a : Nat) : Nat → Nat := upd f d (rotl k (f d ^^^ f a))
def qr (f : Nat → Nat) (a b c d : Nat) : Nat → Nat :=
  stX 7 (stA (stX 8 (stA (stX 12 (stA (stX 16 (stA f a b) d a) c d) b c) a b) d a) c d) b c
def W32 (f : Nat → Nat) : Prop := ∀ i, f i < 4294967296
theorem W32.upd {f : Nat → Nat} (h : W32 f) {i v : Nat} (hv : v < 4294967296) : W32 (upd f i v) := by
  intro j; unfold Cha.upd; split
  · exact hv
  · exact h j
theorem W32.stA {f : Nat → Nat} (h : W32 f) (a b : Nat) : W32 (stA f a b) := h.upd (addw_lt _ _)
theorem W32.stX {f : Nat → Nat} (h : W32 f) (k d a : Nat) : W32 (stX k f d a) := h.upd (rotl_lt _ _ (Nat.xor_lt_two_pow (n := 32) (h d) (h a)))
theorem W32.qr {f : Nat → Nat} (h : W32 f) (a b c d : Nat) : W32 (qr f a b c d) := (((((((h.stA _ _).stX _ _ _).stA _ _).stX _ _ _).stA _ _).stX _ _ _).stA _ _).stX _ _ _
theorem xor_w {x y : Nat} (hx : x < 4294967296) (hy : y < 4294967296) : bits BinOp.xor IntKind.u32 (x : Int) (y : Int) = ((x ^^^ y : Nat) : Int) := u32_xor_nat x y hx hy
theorem add_w (x y : Nat) : IntKind.u32.wrap ((x : Int) + (y : Int)) = ((addw x y : Nat) : Int) := by rw [IntKind.wrap_u32']; unfold addw; omega
theorem add_w' (x y : Nat) : ((x : Int) + (y : Int)) % 4294967296 = ((addw x y : Nat) : Int) := by unfold addw; omega
/-- the world behind a store into the words. -/
theorem after_store {w : World} {g : Nat} {f : Nat → Nat} (h : Blk w g 176 (row32 f)) (i v : Nat) : Blk ((w.setCell ⟨g, i, none⟩ (.int .u32 (v : Nat))).drew) g 176 (row32 (upd f i v)) := by
  rw [← row32_set]; exact h.set i _

set_option maxRecDepth 100000 in
set_option maxHeartbeats 4000000 in
theorem quarter104 (f : Nat → Nat) (a b c d : Nat) (g : Nat) (w : World) (hf : W32 f) (ha : a < 16) (hb : b < 16) (hc : c < 16) (hd : d < 16) (h : Blk w g 176 (row32 f)) :
    Calls Tryz.prog 128 #[.pointer (some ⟨g, 0, none⟩), .int .i64 a, .int .i64 b, .int .i64 c, .int .i64 d] w fun e w' => e = .returned (.tuple #[]) ∧ Blk w' g 176 (row32 (qr f a b c d)) ∧ w.grownBy w' (some g) := by
  have HQ := Lib.hid (show qr f a b c d = stX 7 (stA (stX 8 (stA (stX 12 (stA (stX 16 (stA f a b) d a) c d) b c) a b) d a) c d) b c from rfl)
  have ia : (a : Int) < 16 := by omega
  have ja : 0 ≤ (a : Int) := by omega
  have ib : (b : Int) < 16 := by omega
  have jb : 0 ≤ (b : Int) := by omega
  have ic : (c : Int) < 16 := by omega
  have jc : 0 ≤ (c : Int) := by omega
  have id : (d : Int) < 16 := by omega
  have jd : 0 ≤ (d : Int) := by omega
  have HF := Lib.hid hf
  have HB := Lib.hid h
  have HO := Lib.hid (only_refl w g)
  generalize qr f a b c d = q at *
  clear hf h
  go_enter Tryz.func128, Tryz.ntmps128
  -- step 0
  have c1 := (HB.out.cell a).trans (row32_at _ a ha)
  have c2 := (HB.out.cell b).trans (row32_at _ b hb)
  have z1 := HB.out.frozen a
  have e1 := add_w (f a) (f b)
  have e2 := add_w' (f a) (f b)
  go_wp2
  go_still_tail 13, (by kernel_rfl)
  change wpList _ _ _ _ _ w.drew
  go_wp2
  have HB2 := Lib.hid (show Blk ((w.setCell ⟨g, a, none⟩ (.int .u32 (addw (f a) (f b) : Nat))).drew) g 176 (row32 (stA f a b)) from after_store HB.out a _)
  have HO2 := Lib.hid (only_drew (only_set HO.out a (.int .u32 (addw (f a) (f b) : Nat))))
  have HF2 := Lib.hid (show W32 (stA f a b) from HF.out.stA _ _)
  generalize (w.setCell ⟨g, a, none⟩ (.int .u32 (addw (f a) (f b) : Nat))).drew = w1 at *
  generalize stA f a b = f1 at *
  clear c1 c2 z1 e1 HB HO HF e2
  have HB := HB2
  have HO := HO2
  have HF := HF2
  clear HB2 HO2 HF2
  -- step 1
  have c1 := (HB.out.cell d).trans (row32_at _ d hd)
  have c2 := (HB.out.cell a).trans (row32_at _ a ha)
  have z1 := HB.out.frozen d
  have e1 := xor_w (HF.out d) (HF.out a)
  go_wp2
  refine wp_region_still_tail 16 (by kernel_rfl) (by kernel_rfl) ?_
  simp only [List.take_succ_cons, List.take_zero, List.drop_succ_cons, List.drop_zero]
  iterate 13 still_step
  still_call (by refine (rot111_16 _ _ (Nat.xor_lt_two_pow (n := 32) (HF.out d) (HF.out a))).mono ?_; rintro e w' ⟨rfl, rfl⟩; exact ⟨rfl, rfl⟩)
  iterate 2 still_step
  refine wpStill_nil ?_
  change wpList _ _ _ _ _ w1.drew
  go_wp2
  have HB2 := Lib.hid (show Blk ((w1.setCell ⟨g, d, none⟩ (.int .u32 (rotl 16 (f1 d ^^^ f1 a) : Nat))).drew) g 176 (row32 (stX 16 f1 d a)) from after_store HB.out d _)
  have HO2 := Lib.hid (only_drew (only_set HO.out d (.int .u32 (rotl 16 (f1 d ^^^ f1 a) : Nat))))
  have HF2 := Lib.hid (show W32 (stX 16 f1 d a) from HF.out.stX _ _ _)
  generalize (w1.setCell ⟨g, d, none⟩ (.int .u32 (rotl 16 (f1 d ^^^ f1 a) : Nat))).drew = w2 at *
  generalize stX 16 f1 d a = f2 at *
  clear c1 c2 z1 e1 HB HO HF
  have HB := HB2
  have HO := HO2
  have HF := HF2
  clear HB2 HO2 HF2
  -- step 2
  have c1 := (HB.out.cell c).trans (row32_at _ c hc)
  have c2 := (HB.out.cell d).trans (row32_at _ d hd)
  have z1 := HB.out.frozen c
  have e1 := add_w (f2 c) (f2 d)
  have e2 := add_w' (f2 c) (f2 d)
  go_wp2
  go_still_tail 13, (by kernel_rfl)
  change wpList _ _ _ _ _ w2.drew
  go_wp2
  have HB2 := Lib.hid (show Blk ((w2.setCell ⟨g, c, none⟩ (.int .u32 (addw (f2 c) (f2 d) : Nat))).drew) g 176 (row32 (stA f2 c d)) from after_store HB.out c _)
  have HO2 := Lib.hid (only_drew (only_set HO.out c (.int .u32 (addw (f2 c) (f2 d) : Nat))))
  have HF2 := Lib.hid (show W32 (stA f2 c d) from HF.out.stA _ _)
  generalize (w2.setCell ⟨g, c, none⟩ (.int .u32 (addw (f2 c) (f2 d) : Nat))).drew = w3 at *
  generalize stA f2 c d = f3 at *
  clear c1 c2 z1 e1 HB HO HF e2
  have HB := HB2
  have HO := HO2
  have HF := HF2
  clear HB2 HO2 HF2
  -- step 3
  have c1 := (HB.out.cell b).trans (row32_at _ b hb)
  have c2 := (HB.out.cell c).trans (row32_at _ c hc)
  have z1 := HB.out.frozen b
  have e1 := xor_w (HF.out b) (HF.out c)
  go_wp2
  refine wp_region_still_tail 16 (by kernel_rfl) (by kernel_rfl) ?_
  simp only [List.take_succ_cons, List.take_zero, List.drop_succ_cons, List.drop_zero]
  iterate 13 still_step
  still_call (by refine (rot111_12 _ _ (Nat.xor_lt_two_pow (n := 32) (HF.out b) (HF.out c))).mono ?_; rintro e w' ⟨rfl, rfl⟩; exact ⟨rfl, rfl⟩)
  iterate 2 still_step
  refine wpStill_nil ?_
  change wpList _ _ _ _ _ w3.drew
  go_wp2
  have HB2 := Lib.hid (show Blk ((w3.setCell ⟨g, b, none⟩ (.int .u32 (rotl 12 (f3 b ^^^ f3 c) : Nat))).drew) g 176 (row32 (stX 12 f3 b c)) from after_store HB.out b _)
  have HO2 := Lib.hid (only_drew (only_set HO.out b (.int .u32 (rotl 12 (f3 b ^^^ f3 c) : Nat))))
  have HF2 := Lib.hid (show W32 (stX 12 f3 b c) from HF.out.stX _ _ _)
  generalize (w3.setCell ⟨g, b, none⟩ (.int .u32 (rotl 12 (f3 b ^^^ f3 c) : Nat))).drew = w4 at *
  generalize stX 12 f3 b c = f4 at *
  clear c1 c2 z1 e1 HB HO HF
  have HB := HB2
  have HO := HO2
  have HF := HF2
  clear HB2 HO2 HF2
  -- step 4
  have c1 := (HB.out.cell a).trans (row32_at _ a ha)
  have c2 := (HB.out.cell b).trans (row32_at _ b hb)
  have z1 := HB.out.frozen a
  have e1 := add_w (f4 a) (f4 b)
  have e2 := add_w' (f4 a) (f4 b)
  go_wp2
  go_still_tail 13, (by kernel_rfl)
  change wpList _ _ _ _ _ w4.drew
  go_wp2
  have HB2 := Lib.hid (show Blk ((w4.setCell ⟨g, a, none⟩ (.int .u32 (addw (f4 a) (f4 b) : Nat))).drew) g 176 (row32 (stA f4 a b)) from after_store HB.out a _)
  have HO2 := Lib.hid (only_drew (only_set HO.out a (.int .u32 (addw (f4 a) (f4 b) : Nat))))
  have HF2 := Lib.hid (show W32 (stA f4 a b) from HF.out.stA _ _)
  generalize (w4.setCell ⟨g, a, none⟩ (.int .u32 (addw (f4 a) (f4 b) : Nat))).drew = w5 at *
  generalize stA f4 a b = f5 at *
  clear c1 c2 z1 e1 HB HO HF e2
  have HB := HB2
  have HO := HO2
  have HF := HF2
  clear HB2 HO2 HF2
  -- step 5
  have c1 := (HB.out.cell d).trans (row32_at _ d hd)
  have c2 := (HB.out.cell a).trans (row32_at _ a ha)
  have z1 := HB.out.frozen d
  have e1 := xor_w (HF.out d) (HF.out a)
  go_wp2
  refine wp_region_still_tail 16 (by kernel_rfl) (by kernel_rfl) ?_
  simp only [List.take_succ_cons, List.take_zero, List.drop_succ_cons, List.drop_zero]
  iterate 13 still_step
  still_call (by refine (rot111_8 _ _ (Nat.xor_lt_two_pow (n := 32) (HF.out d) (HF.out a))).mono ?_; rintro e w' ⟨rfl, rfl⟩; exact ⟨rfl, rfl⟩)
  iterate 2 still_step
  refine wpStill_nil ?_
  change wpList _ _ _ _ _ w5.drew
  go_wp2
  have HB2 := Lib.hid (show Blk ((w5.setCell ⟨g, d, none⟩ (.int .u32 (rotl 8 (f5 d ^^^ f5 a) : Nat))).drew) g 176 (row32 (stX 8 f5 d a)) from after_store HB.out d _)
  have HO2 := Lib.hid (only_drew (only_set HO.out d (.int .u32 (rotl 8 (f5 d ^^^ f5 a) : Nat))))
  have HF2 := Lib.hid (show W32 (stX 8 f5 d a) from HF.out.stX _ _ _)
  generalize (w5.setCell ⟨g, d, none⟩ (.int .u32 (rotl 8 (f5 d ^^^ f5 a) : Nat))).drew = w6 at *
  generalize stX 8 f5 d a = f6 at *
  clear c1 c2 z1 e1 HB HO HF
  have HB := HB2
  have HO := HO2
  have HF := HF2
  clear HB2 HO2 HF2
  -- step 6
  have c1 := (HB.out.cell c).trans (row32_at _ c hc)
  have c2 := (HB.out.cell d).trans (row32_at _ d hd)
  have z1 := HB.out.frozen c
  have e1 := add_w (f6 c) (f6 d)
  have e2 := add_w' (f6 c) (f6 d)
  go_wp2
  go_still_tail 13, (by kernel_rfl)
  change wpList _ _ _ _ _ w6.drew
  go_wp2
  have HB2 := Lib.hid (show Blk ((w6.setCell ⟨g, c, none⟩ (.int .u32 (addw (f6 c) (f6 d) : Nat))).drew) g 176 (row32 (stA f6 c d)) from after_store HB.out c _)
  have HO2 := Lib.hid (only_drew (only_set HO.out c (.int .u32 (addw (f6 c) (f6 d) : Nat))))
  have HF2 := Lib.hid (show W32 (stA f6 c d) from HF.out.stA _ _)
  generalize (w6.setCell ⟨g, c, none⟩ (.int .u32 (addw (f6 c) (f6 d) : Nat))).drew = w7 at *
  generalize stA f6 c d = f7 at *
  clear c1 c2 z1 e1 HB HO HF e2
  have HB := HB2
  have HO := HO2
  have HF := HF2
  clear HB2 HO2 HF2
  -- step 7
  have c1 := (HB.out.cell b).trans (row32_at _ b hb)
  have c2 := (HB.out.cell c).trans (row32_at _ c hc)
  have z1 := HB.out.frozen b
  have e1 := xor_w (HF.out b) (HF.out c)
  go_wp2
  refine wp_region_still_tail 16 (by kernel_rfl) (by kernel_rfl) ?_
  simp only [List.take_succ_cons, List.take_zero, List.drop_succ_cons, List.drop_zero]
  iterate 13 still_step
  still_call (by refine (rot111_7 _ _ (Nat.xor_lt_two_pow (n := 32) (HF.out b) (HF.out c))).mono ?_; rintro e w' ⟨rfl, rfl⟩; exact ⟨rfl, rfl⟩)
  iterate 2 still_step
  refine wpStill_nil ?_
  change wpList _ _ _ _ _ w7.drew
  go_wp2
  have HB2 := Lib.hid (show Blk ((w7.setCell ⟨g, b, none⟩ (.int .u32 (rotl 7 (f7 b ^^^ f7 c) : Nat))).drew) g 176 (row32 (stX 7 f7 b c)) from after_store HB.out b _)
  have HO2 := Lib.hid (only_drew (only_set HO.out b (.int .u32 (rotl 7 (f7 b ^^^ f7 c) : Nat))))
  have HF2 := Lib.hid (show W32 (stX 7 f7 b c) from HF.out.stX _ _ _)
  generalize (w7.setCell ⟨g, b, none⟩ (.int .u32 (rotl 7 (f7 b ^^^ f7 c) : Nat))).drew = w8 at *
  generalize stX 7 f7 b c = f8 at *
  clear c1 c2 z1 e1 HB HO HF
  have HB := HB2
  have HO := HO2
  have HF := HF2
  clear HB2 HO2 HF2
  go_end0
  exact ⟨rfl, by rw [HQ.out]; exact HB.out, HO.out⟩

end Go.Proofs.YtoomhlbebifklaaGreatDoor.Cha
