import Derived.Test.YtdfloglicjocbaaSb
import Derived.Test.YtdfloglicjocbaaSc
import Derived.Test.YtdfloglicjocbaaBd
import Derived.StillTailTactics
namespace Go.Proofs.Ytdfloglicjocbaa
open Go.RowKit

theorem now61 (g : Nat) (n : Int) (w : World) (h : w.cell? ⟨g, 0, none⟩ = some (.int .i64 n)) : Calls Try.prog 61 #[.pointer (some ⟨g, 0, none⟩)] w fun e w' => e = .returned (.int .i64 n) ∧ w' = w := by
  go_enter Try.func61, Try.ntmps61
  go_wp2
  go_ret
  exact ⟨rfl, rfl⟩

theorem Row2.alloc' {w : World} {B : Nat} {a : Option Addr} {xs : List (Int × Int)} (h : Row2 w B a xs) (hB : B ≤ w.heap.size) (o : Obj) : Row2 (w.alloc o) B a xs :=
  h.below ((Below.refl _ _).alloc hB o)

set_option maxHeartbeats 2000000 in
set_option maxRecDepth 100000 in
theorem new39_no (v : Value) (gc : Nat) (c p pc sp lt od sd lm f m k j t : Int) (a : Option Addr) (ca : Nat) (xs : List (Int × Int)) (burst : Int) (w : World) (B : Nat) (hB : B ≤ w.heap.size) (hx : Row2 w B a xs) (lx : xs.length ≤ maxLen)
    (hE : ¬ specE c p pc sp lt od sd lm f m k j t xs burst = 0) :
    Calls Try.prog 39 #[.iface 64 v, .iface 64 v, .pointer (some ⟨gc, 0, none⟩), .agg (spC c p pc sp lt od sd lm f m k j t (.slice a xs.length ca) burst)] w fun e w' => e = .returned (.tuple #[.pointer none, .int .i64 (specE c p pc sp lt od sd lm f m k j t xs burst)]) ∧ Below w.heap.size w w' := by
  have C34 := Lib.hid (checkSpec34 c p pc sp lt od sd lm f m k j t a ca xs burst (w.alloc (.cells (spC c p pc sp lt od sd lm f m k j t (.slice a xs.length ca) burst) 62)) B (by simp; omega) (hx.alloc' hB _) lx)
  generalize specE c p pc sp lt od sd lm f m k j t xs burst = E at *
  have hne : (E != 0) = true := by simpa using hE
  clear hE hx
  go_enter Try.func39, Try.ntmps39
  go_wp2_with fail
  refine C34.out.mono ?_
  rintro e w1 ⟨rfl, hb1⟩
  have HB := Lib.hid (alloc_below hb1)
  clear hb1 C34
  go_wp2_with fail
  go_ret2
  exact ⟨rfl, HB.out⟩

theorem specE_zero {c p pc sp lt od sd lm f m k j t : Int} {xs : List (Int × Int)} {burst : Int} (h : specE c p pc sp lt od sd lm f m k j t xs burst = 0) : ratesE xs = 0 := by
  by_cases hr : ratesE xs = 0
  · exact hr
  · exfalso
    have hb : bucketE xs burst = ratesE xs := by unfold bucketE; rw [if_neg hr]
    revert h
    unfold specE
    rw [hb, if_neg hr]
    repeat (first | exact fun h => hr h | (split <;> first | (intro h; omega) | skip))

set_option maxHeartbeats 2000000 in
set_option maxRecDepth 100000 in
theorem new39_ok (v : Value) (gc : Nat) (cn : Int) (c p pc sp lt od sd lm f m k j t : Int) (a : Option Addr) (ca : Nat) (xs : List (Int × Int)) (burst : Int) (w : World) (hgc : w.cell? ⟨gc, 0, none⟩ = some (.int .i64 cn)) (hx : Row2 w w.heap.size a xs) (lx : xs.length ≤ maxLen)
    (hE : specE c p pc sp lt od sd lm f m k j t xs burst = 0) :
    Calls Try.prog 39 #[.iface 64 v, .iface 64 v, .pointer (some ⟨gc, 0, none⟩), .agg (spC c p pc sp lt od sd lm f m k j t (.slice a xs.length ca) burst)] w fun e w' => (∃ g, e = .returned (.tuple #[.pointer (some g), .int .i64 0])) ∧ Below w.heap.size w w' := by
  obtain ⟨i0, hi, hz0, hz1, hz2⟩ := info_parts rate_info
  have C34 := checkSpec34 c p pc sp lt od sd lm f m k j t a ca xs burst (w.alloc (.cells (spC c p pc sp lt od sd lm f m k j t (.slice a xs.length ca) burst) 62)) w.heap.size (by simp) (hx.alloc' (Nat.le_refl _) _) lx
  rw [hE] at C34
  have HC34 := Lib.hid C34
  have V := valid_of (specE_zero hE)
  have lp : 0 < xs.length := V.pos
  have l24 : xs.length ≤ 24 := V.le
  have HX := Lib.hid hx
  have hgl : gc < w.heap.size := lt_of_cell hgc
  have HGC := Lib.hid hgc
  clear C34 hE hx hgc V
  go_enter Try.func39, Try.ntmps39
  go_wp2_with fail
  refine HC34.out.mono ?_
  rintro e w1 ⟨rfl, hb1⟩
  have hz1w : w.heap.size < w1.heap.size := by have := hb1.size; simp at this; omega
  have HK := Lib.hid (show Blk w1 w.heap.size 62 (spC c p pc sp lt od sd lm f m k j t (.slice a xs.length ca) burst) from (Blk.new w 62 _).below hb1 (by simp))
  have HBB := Lib.hid (alloc_below hb1)
  obtain ⟨b, off, rfl, hbB, hcells⟩ := (HX.out.below HBB.out).cells lp
  have HC := Lib.hid hcells
  have hc13 : w1.cell? ⟨w.heap.size, 13, none⟩ = some (.slice (some ⟨b, off, none⟩) xs.length ca) := HK.out.cell 13
  clear hb1 HC34 hcells
  go_wp2_with (at_builtin; refine wpList_append_own_at _ rfl _ _ 47 rfl w1.heap.size 93 i0 (.agg #[.int .i64 0, .int .i64 0]) 2 16 Try.underlying47 hi hz0 hz1 hz2 rfl (by decide) (.slice none 0 0) 0 [] rfl (World.ownsRow_nil _ _ _ _) ⟨b, off, none⟩ xs.length ca (pairCells xs) rfl ?c1 ?c2 ?c3 ?c4 ?c5 ?c6 ?_)
  case c1 => exact pairCells_len xs
  case c2 => exact HC.out
  case c3 => exact pairCells_one xs
  case c4 => simpa using lx
  case c5 => omega
  case c6 => exact Nat.le_refl _
  intro v' w2 hown hg2 _ _
  have hown' : w2.ownsRow w1.heap.size 93 2 v' xs.length (pairCells xs) := by simpa using hown
  obtain ⟨r, c', hv', hr1, hr2, hrow⟩ := Row2.of_own hown' rfl lp
  have hb2 : Below w1.heap.size w1 w2 := (Below.refl _ _).grown hg2 (Nat.le_refl _) (by simp [Value.ownBlock])
  have HB2 := Lib.hid (below_step HBB.out (Nat.le_refl _) hb2)
  have HK2 := Lib.hid (HK.out.below hb2 hz1w)
  have hs2 := hb2.size
  rw [hv']
  clear hown hown' hg2 hrow hb2 hv' HC HK hc13
  have hc13 : w2.cell? ⟨w.heap.size, 13, none⟩ = some (.slice (some ⟨b, off, none⟩) xs.length ca) := HK2.out.cell 13
  have hf13 := HK2.out.frozen 13
  have HK3 := Lib.hid (HK2.out.set 13 (.slice (some ⟨r, 0, none⟩) xs.length c'))
  have HB3 := Lib.hid (HB2.out.setCell (p := ⟨w.heap.size, 13, none⟩) (Nat.le_refl _) (.slice (some ⟨r, 0, none⟩) xs.length c'))
  clear HK2 HB2
  go_wp2_with fail
  generalize w2.setCell ⟨w.heap.size, 13, none⟩ (.slice (some ⟨r, 0, none⟩) xs.length c') = w3 at *
  have hc3 : ∀ i, w3.cell? ⟨w.heap.size, i, none⟩ = (spC c p pc sp lt od sd lm f m k j t (.slice (some ⟨r, 0, none⟩) xs.length c') burst)[i]? := HK3.out.cell
  have hgc3 : w3.cell? ⟨gc, 0, none⟩ = some (.int .i64 cn) := (HB3.out.cell (p := ⟨gc, 0, none⟩) hgl).trans HGC.out
  refine wp_region_still_tail 7 (by kernel_rfl) (by kernel_rfl) ?_
  simp only [List.take_succ_cons, List.take_zero, List.drop_succ_cons, List.drop_zero]
  iterate 4 still_step
  still_call (now61 gc cn _ hgc3)
  iterate 2 still_step
  refine wpStill_nil ?_
  change wpList _ _ _ _ _ w3.drew
  go_wp2_with fail
  go_ret2
  exact ⟨⟨_, rfl⟩, HB3.out.drew.alloc (by have := HB3.out.size; exact this) _⟩
end Go.Proofs.Ytdfloglicjocbaa
