import Derived.Test.YtdfloglicjocbaaSd
import Derived.Deep.RegionHeld3
namespace Go.Proofs.Ytdfloglicjocbaa
open Go.RowKit

theorem row2_more {w : World} {B B' : Nat} {a : Option Addr} {xs : List (Int × Int)} (h : Row2 w B a xs) (hb : B ≤ B') : Row2 w B' a xs := by
  intro i hi
  obtain ⟨b, off, e, hlt, hc⟩ := h i hi
  exact ⟨b, off, e, by omega, hc⟩
theorem row2_drew {w : World} {B : Nat} {a : Option Addr} {xs : List (Int × Int)} (h : Row2 w B a xs) : Row2 w.drew B a xs := h
theorem blk_step {w1 w2 : World} {g : Nat} {t : TypeId} {cs : Array Value} (h : Blk w1 g t cs) (hb : Below w1.heap.size w1 w2) : Blk w2 g t cs := h.below hb h.lt
theorem keep_alloc {w0 w : World} {o : Obj} (h : ∀ p : Addr, p.block < w0.heap.size → w.cell? p = w0.cell? p) (hs : w0.heap.size ≤ w.heap.size) : ∀ p : Addr, p.block < w0.heap.size → (w.alloc o).cell? p = w0.cell? p :=
  fun p hp => (cell_old2 (by omega)).trans (h p hp)

def SpecD (w : World) (e : Ending) (w' : World) : Prop := e = .returned (.bool true) ∧ Below w.heap.size w w'

set_option maxHeartbeats 4000000 in
set_option maxRecDepth 100000 in
theorem specs_all (c p pc sp lt od sd lm f m k j t : Int) (a : Option Addr) (ca : Nat) (xs : List (Int × Int)) (burst : Int) (w : World) (hx : Row2 w w.heap.size a xs) (lx : xs.length ≤ maxLen) :
    Calls Try.prog 8 #[.agg (spC c p pc sp lt od sd lm f m k j t (.slice a xs.length ca) burst)] w (SpecD w) := by
  have C34 := Lib.hid (fun w1 hb h => checkSpec34 c p pc sp lt od sd lm f m k j t a ca xs burst w1 w.heap.size hb h lx)
  have C35 := Lib.hid (fun w1 hb h => specError35 c p pc sp lt od sd lm f m k j t a ca xs burst w1 w.heap.size hb h lx)
  have N1 := Lib.hid (fun v gc w1 hb h => new39_no v gc c p pc sp lt od sd lm f m k j t a ca xs burst w1 w.heap.size hb h lx)
  have N2 := Lib.hid (fun v gc cn w1 hg h => new39_ok v gc cn c p pc sp lt od sd lm f m k j t a ca xs burst w1 hg h lx)
  have HX := Lib.hid hx
  clear hx
  generalize specE c p pc sp lt od sd lm f m k j t xs burst = E at *
  go_enter Try.func8, Try.ntmps8
  go_wp2_with fail
  refine (C34.out _ (by simp) (HX.out.alloc' (Nat.le_refl _) _)).mono ?_
  rintro e w1 ⟨rfl, hb1⟩
  have HK := Lib.hid ((Blk.new w 62 _).below hb1 (by simp))
  have HB1 := Lib.hid (alloc_below hb1)
  have hc := HK.out.cell
  clear hb1 C34
  go_wp2_with fail
  refine (hauls14 _).mono ?_
  rintro e w2 ⟨rfl, hb2⟩
  have HK2 := Lib.hid (blk_step HK.out hb2)
  have HB2 := Lib.hid (below_step HB1.out (Nat.le_refl _) hb2)
  clear hc hb2 HK HB1
  have hc := HK2.out.cell
  go_wp2_with fail
  refine (C35.out _ HB2.out.size (HX.out.below HB2.out)).mono ?_
  rintro e w3 ⟨rfl, hb3⟩
  have HK3 := Lib.hid (blk_step HK2.out hb3)
  have HB3 := Lib.hid (below_step HB2.out (Nat.le_refl _) hb3)
  clear hc hb3 HK2 HB2 C35
  have hEE : (E != E) = false := by simp
  go_wp2_with fail
  refine (wide37 _).mono ?_
  rintro e w4 ⟨rfl, hb4⟩
  have HK4 := Lib.hid (blk_step HK3.out hb4)
  have HB4 := Lib.hid (below_step HB3.out (Nat.le_refl _) hb4)
  clear hb4 HK3 HB3
  go_wp2_with fail
  refine (clock38 _).mono ?_
  rintro e w4' ⟨rfl, hw4⟩
  have hb5 : Below w4.heap.size w4 w4' := by rw [← hw4]; exact (Below.refl _ _).alloc (Nat.le_refl _) _
  have hg4 : w4'.cell? ⟨w4.heap.size, 0, none⟩ = some (.int .i64 0) := by rw [← hw4]; exact (Blk.new w4 117 _).cell 0
  have HG4 := Lib.hid hg4
  have HK5 := Lib.hid (blk_step HK4.out hb5)
  have HB5 := Lib.hid (below_step HB4.out (Nat.le_refl _) hb5)
  clear hb5 hg4 hw4 HK4 HB4
  go_wp2_with fail
  refine (new36 _ _ HG4.out).mono ?_
  rintro e w6 ⟨⟨v, n, rfl⟩, hb6⟩
  have HK6 := Lib.hid (blk_step HK5.out hb6)
  have HB6 := Lib.hid (below_step HB5.out (Nat.le_refl _) hb6)
  clear hb6 HK5 HB5 HG4
  have hc := HK6.out.cell
  have hkl := HK6.out.lt
  have hs6 := HB6.out.size
  go_wp2_with fail
  by_cases hE : E = 0
  · subst hE
    have N3 := Lib.hid (N2.out (.pointer v) w6.heap.size 0 (w6.alloc (.cells #[.int .i64 0] 117)).drew ((Blk.new w6 117 #[.int .i64 0]).cell 0) (row2_drew (row2_more (HX.out.below (HB6.out.alloc hs6 _)) (show w.heap.size ≤ (w6.alloc _).heap.size by simp; omega))) rfl)
    clear N1 N2
    go_region_held3 (fun w' => ∀ q : Addr, q.block < w6.heap.size → w'.cell? q = w6.cell? q) (first | (exact fun q hq => rfl) | (exact fun q hq => (cell_old2 (w := w6) hq)) | (exact fun q hq => (hb7.cell (p := q) (by simp; omega)).trans (cell_old2 (w := w6) hq)))
      (first | (go_at_call 38; refine (clock38 _).mono ?_; rintro e w' ⟨rfl, rfl⟩) | (go_at_call 39; refine N3.out.mono ?_; rintro e w7 ⟨⟨g7, rfl⟩, hb7⟩))
    have HB7 := Lib.hid (HB6.out.trans (((Below.refl w6.heap.size w6).alloc (Nat.le_refl _) (.cells #[.int .i64 0] 117)).drew.trans (hb7.mono (by simp))|>.mono hs6))
    clear hb7 hc N3
    go_wp2_with fail
    go_ret
    exact ⟨rfl, HB7.out⟩
  · have N3 := Lib.hid (N1.out (.pointer v) w6.heap.size (w6.alloc (.cells #[.int .i64 0] 117)).drew (by simp; omega) (row2_drew (HX.out.below (HB6.out.alloc hs6 _))) hE)
    clear N1 N2
    have hne : (E != 0) = true := by simpa using hE
    go_region_held3 (fun w' => ∀ q : Addr, q.block < w6.heap.size → w'.cell? q = w6.cell? q) (first | (exact fun q hq => rfl) | (exact fun q hq => (cell_old2 (w := w6) hq)) | (exact fun q hq => (hb7.cell (p := q) (by simp; omega)).trans (cell_old2 (w := w6) hq)))
      (first | (go_at_call 38; refine (clock38 _).mono ?_; rintro e w' ⟨rfl, rfl⟩) | (go_at_call 39; refine N3.out.mono ?_; rintro e w7 ⟨rfl, hb7⟩))
    have HB7 := Lib.hid (HB6.out.trans (((Below.refl w6.heap.size w6).alloc (Nat.le_refl _) (.cells #[.int .i64 0] 117)).drew.trans (hb7.mono (by simp))|>.mono hs6))
    clear hb7 hc N3 hE
    go_wp2_with fail
    go_ret
    exact ⟨rfl, HB7.out⟩
end Go.Proofs.Ytdfloglicjocbaa
