import Derived.Test.YtdfloglicjocbaaBa
import Derived.Deep.RegionWith
import Derived.StillTailTactics
import Derived.Deep.LoopGhost
namespace Go.Proofs.Ytdfloglicjocbaa
open Go.RowKit

abbrev plC (a : Option Addr) (len ca : Nat) (burst now ml : Int) : Array Value := #[.slice a len ca, .int .i64 burst, .int .i64 now, .int .i64 ml]
def pailH (xs : List (Int × Int)) (burst now ml : Int) : Int := if rAt xs now < 0 then 1000 * burst else ml

set_option maxHeartbeats 400000 in
set_option maxRecDepth 100000 in
theorem holds33 (g : Nat) (a : Option Addr) (ca : Nat) (xs : List (Int × Int)) (burst now ml : Int) (w : World) (B : Nat) (hB : B ≤ w.heap.size) (hg : Blk w g 99 (plC a xs.length ca burst now ml)) (hx : Row2 w B a xs) (lx : xs.length ≤ 24)
    (hb0 : 0 ≤ burst) (hb1 : burst ≤ 1000000000) (hs : 0 ≤ now) (hn : now ≤ 1099611627776) :
    Calls Try.prog 33 #[.pointer (some ⟨g, 0, none⟩)] w fun e w' => e = .returned (.int .i64 (pailH xs burst now ml)) ∧ Below w.heap.size w w' := by
  have hc := hg.cell
  have HG := Lib.hid hg
  have HX := Lib.hid hx
  clear hg hx
  go_enter Try.func33, Try.ntmps33
  go_wp2_with fail
  go_still_tail 8, (by kernel_rfl)
  change wpList _ _ _ _ _ w.drew
  go_wp2_with fail
  refine (refRateAt53 a ca xs now w.drew B hB HX.out lx hs hn).mono ?_
  rintro e w1 ⟨rfl, hb⟩
  have hb1' : Below w.heap.size w w1 := (Below.refl w.heap.size w).drew.trans hb
  have hc1 : ∀ i, w1.cell? ⟨g, i, none⟩ = (plC a xs.length ca burst now ml)[i]? := (HG.out.below hb1' HG.out.lt).cell
  clear hb hc
  have hp : pailH xs burst now ml = if rAt xs now < 0 then 1000 * burst else ml := rfl
  have HP := Lib.hid hp
  clear hp
  by_cases hr : rAt xs now < 0
  · have HP2 := Lib.hid (HP.out.trans (if_pos hr))
    generalize rAt xs now = R at *
    go_wp2_with fail
    go_ret
    exact ⟨ret_int HP2.out.symm, hb1'⟩
  · have HP2 := Lib.hid (HP.out.trans (if_neg hr))
    generalize rAt xs now = R at *
    go_wp2_with fail
    go_ret
    exact ⟨ret_int HP2.out.symm, hb1'⟩

/-- only block g has turned, and there may be more blocks. -/
theorem only_of_below {a w : World} {g : Nat} (h : Below a.heap.size a w) : a.grownBy w (some g) := ⟨h.os, h.tape, h.output, h.size, fun i hi _ => h.block i hi⟩
theorem only_trans {a b c : World} {g : Nat} (h : a.grownBy b (some g)) (k : b.grownBy c (some g)) : a.grownBy c (some g) :=
  ⟨k.os.trans h.os, k.tape.trans h.tape, k.output.trans h.output, Nat.le_trans h.size k.size, fun i hi hn => (k.block i (Nat.lt_of_lt_of_le hi h.size) hn).trans (h.block i hi hn)⟩
theorem Row2.only {w w' : World} {B g : Nat} {a : Option Addr} {xs : List (Int × Int)} (h : Row2 w B a xs) (hB : B ≤ w.heap.size) (hg : w.grownBy w' (some g)) (hne : ∀ x, a = some x → x.block ≠ g) : Row2 w' B a xs := by
  intro j hj
  obtain ⟨b, off, e, hb, c0, c1⟩ := h j hj
  have hbg := hne _ e
  have hblk := hg.block b (by omega) (fun e => hbg (by injection e))
  exact ⟨b, off, e, hb, (World.cell?_of_block hblk).trans c0, (World.cell?_of_block hblk).trans c1⟩

def PassRel (g : Nat) (a : Option Addr) (ca : Nat) (xs : List (Int × Int)) (burst s l : Int) (n : Nat) (w : World) (k : Nat) (wr : World) : Prop :=
  ∃ m : Nat, m + k = n ∧ Blk wr g 99 (plC a xs.length ca burst (s + m) (passF xs (1000 * burst) s l m)) ∧ w.grownBy wr (some g)

set_option maxHeartbeats 1000000 in
set_option maxRecDepth 100000 in
theorem pass56 (g : Nat) (a : Option Addr) (ca : Nat) (xs : List (Int × Int)) (burst s l : Int) (n : Nat) (w : World) (B : Nat) (hB : B ≤ w.heap.size) (hg : Blk w g 99 (plC a xs.length ca burst s l)) (hx : Row2 w B a xs) (v : Valid xs) (hne : ∀ x, a = some x → x.block ≠ g)
    (hb0 : 0 ≤ burst) (hb1 : burst ≤ 1000000000) (hl0 : 0 ≤ l) (hl1 : l ≤ 1000 * burst) (hs : 0 ≤ s) (hn : s + n ≤ 1099611627776) :
    Calls Try.prog 56 #[.pointer (some ⟨g, 0, none⟩), .int .i64 (s + n)] w fun e w' => e = .returned (.tuple #[]) ∧ Blk w' g 99 (plC a xs.length ca burst (s + n) (passF xs (1000 * burst) s l n)) ∧ w.grownBy w' (some g) := by
  have lx := v.le
  have HG := Lib.hid hg
  have HX := Lib.hid hx
  have HNE := Lib.hid hne
  have HV := Lib.hid v
  clear hg hx hne v
  go_enter Try.func56, Try.ntmps56
  go_wp2_with fail
  go_loopg [] n (fun k wr => PassRel g a ca xs burst s l n w k wr)
  case atStart => exact ⟨0, by omega, by simpa [passF] using HG.out, only_refl _ _⟩
  case round =>
    obtain ⟨m, hm, hgm, hom⟩ := hrel
    have hc := hgm.cell
    have hsz := hom.size
    have HGM := Lib.hid hgm
    have HOM := Lib.hid hom
    clear hgm hom
    have pl := passF_le (xs := xs) (s := s) hl1 m
    have pg := passF_ge (xs := xs) (s := s) (M := 1000 * burst) (by omega) hl0 m
    have hps : passF xs (1000 * burst) s l (m + 1) = if rAt xs (s + m) < 0 then 1000 * burst else min (1000 * burst) (passF xs (1000 * burst) s l m + rAt xs (s + m)) := rfl
    have HPS := Lib.hid hps
    clear hps
    generalize hpe : passF xs (1000 * burst) s l m = p at *
    have HPE := Lib.hid hpe
    clear hpe
    by_cases hlt : m < n
    · have hlt' : s + (m : Int) < s + n := by omega
      go_wp2_with fail
      go_still_tail 8, (by kernel_rfl)
      change wpList _ _ _ _ _ wr.drew
      go_wp2_with fail
      refine (refRateAt53 a ca xs (s + m) wr.drew B (Nat.le_trans hB hsz) (HX.out.only hB (only_drew HOM.out) HNE.out) lx (by omega) (by omega)).mono ?_
      rintro e w1 ⟨rfl, hb⟩
      have hb1' : Below wr.heap.size wr w1 := (Below.refl wr.heap.size wr).drew.trans hb
      have hg1 := HGM.out.below hb1' HGM.out.lt
      clear hc
      have hc := hg1.cell
      have hz := hg1.frozen
      have HG1 := Lib.hid hg1
      have HO1 := Lib.hid (only_trans HOM.out (only_of_below (g := g) hb1'))
      clear hg1 hb hb1'
      obtain ⟨rb0, rb1⟩ := HV.out.rBd (s + m)
      by_cases hr : rAt xs (s + m) < 0
      · have HP2 := Lib.hid (HPS.out.trans (if_pos hr))
        generalize rAt xs (s + m) = R at *
        go_wp2_with fail
        go_roundg (gk - 1)
        case measure => omega
        case rel =>
          refine ⟨m + 1, by omega, ?_, only_set (only_set HO1.out _ _) _ _⟩
          rw [HP2.out, show s + ((m + 1 : Nat) : Int) = s + m + 1 from by omega]
          exact (HG1.out.set 3 _).set 2 _
      · have HP2 := Lib.hid (HPS.out.trans (if_neg hr))
        generalize rAt xs (s + m) = R at *
        have hmn : (if p + R < 1000 * burst then p + R else 1000 * burst) = min (1000 * burst) (p + R) := ite_min _ _
        generalize min (1000 * burst) (p + R) = q at *
        go_wp2_with fail
        go_region
        go_wp2_with fail
        go_roundg (gk - 1)
        case measure => omega
        case rel =>
          refine ⟨m + 1, by omega, ?_, only_drew (only_set (only_set HO1.out _ _) _ _)⟩
          rw [HP2.out, show s + ((m + 1 : Nat) : Int) = s + m + 1 from by omega]
          exact (HG1.out.set 3 _).set 2 _
    · obtain rfl : m = n := by omega
      have hlt' : ¬ s + (m : Int) < s + m := by omega
      go_wp2_with fail
      go_end0
      exact ⟨rfl, by rw [HPE.out]; exact HGM.out, HOM.out⟩


theorem passF_one (xs : List (Int × Int)) (M s l : Int) (k : Nat) : passF xs M (s + k) (passF xs M s l k) 1 = passF xs M s l (k + 1) := by
  simp only [passF]
  rw [show s + (k : Int) + ((0 : Nat) : Int) = s + k from by omega]

/-- what the reference's Take answers, and what it leaves. -/
def PTakeRes (g : Nat) (a : Option Addr) (ca : Nat) (xs : List (Int × Int)) (burst l s need : Int) (k0 L : Nat) (w : World) (e : Ending) (w' : World) : Prop :=
  (∃ n, k0 ≤ n ∧ n ≤ k0 + L ∧ need ≤ holdF xs (1000 * burst) s l n ∧ (∀ i, k0 ≤ i → i < n → holdF xs (1000 * burst) s l i < need) ∧ e = .returned (.tuple #[.int .i64 (s + n), .bool true]) ∧
      Blk w' g 99 (plC a xs.length ca burst (s + n) (holdF xs (1000 * burst) s l n - need)) ∧ w.grownBy w' (some g)) ∨
  (e = .returned (.tuple #[.int .i64 0, .bool false]) ∧ w.grownBy w' (some g))

def PTRel (g : Nat) (a : Option Addr) (ca : Nat) (xs : List (Int × Int)) (burst l s need : Int) (k0 L : Nat) (w : World) (gk : Nat) (wr : World) : Prop :=
  ∃ k : Nat, k0 ≤ k ∧ k + gk = k0 + L ∧ Blk wr g 99 (plC a xs.length ca burst (s + k) (passF xs (1000 * burst) s l k)) ∧ w.grownBy wr (some g) ∧ ∀ i, k0 ≤ i → i < k → holdF xs (1000 * burst) s l i < need

set_option maxHeartbeats 1000000 in
set_option maxRecDepth 100000 in
theorem pailTake31 (g : Nat) (a : Option Addr) (ca : Nat) (xs : List (Int × Int)) (burst l s many : Int) (k0 L : Nat) (w : World) (B : Nat) (hB : B ≤ w.heap.size) (hg : Blk w g 99 (plC a xs.length ca burst s l)) (hx : Row2 w B a xs) (v : Valid xs) (hne : ∀ x, a = some x → x.block ≠ g)
    (hb0 : 0 ≤ burst) (hb1 : burst ≤ 1000000000) (hl0 : 0 ≤ l) (hl1 : l ≤ 1000 * burst) (hs : 0 ≤ s) (hn : s + k0 + L ≤ 1099511627776) (hm0 : 0 ≤ many) (hm1 : many ≤ burst) :
    Calls Try.prog 31 #[.pointer (some ⟨g, 0, none⟩), .int .i64 (s + k0), .int .i64 many, .int .i64 (s + k0 + L)] w (PTakeRes g a ca xs burst l s (1000 * many) k0 L w) := by
  have lx := v.le
  have HG := Lib.hid hg
  have HX := Lib.hid hx
  have HNE := Lib.hid hne
  have HV := Lib.hid v
  clear hg hx hne v
  go_enter Try.func31, Try.ntmps31
  go_wp2_with fail
  refine (pass56 g a ca xs burst s l k0 w B hB HG.out HX.out HV.out HNE.out hb0 hb1 hl0 hl1 hs (by omega)).mono ?_
  rintro e w1 ⟨rfl, hg1, ho1⟩
  have HG1 := Lib.hid hg1
  have HO1 := Lib.hid ho1
  clear hg1 ho1
  go_wp2_with fail
  go_loopg [] L (fun gk wr => PTRel g a ca xs burst l s (1000 * many) k0 L w gk wr)
  case atStart => exact ⟨k0, by omega, by omega, HG1.out, HO1.out, fun i h1 h2 => by omega⟩
  case round =>
    obtain ⟨k, hk, hkg, hgk, hok, hbad⟩ := hrel
    have HGK := Lib.hid hgk
    have HOK := Lib.hid hok
    have HBAD := Lib.hid hbad
    clear hgk hok hbad HG1 HO1
    have pl := passF_le (xs := xs) (s := s) hl1 k
    have pg := passF_ge (xs := xs) (s := s) (M := 1000 * burst) (by omega) hl0 k
    have hl := holdF_le (xs := xs) (s := s) hl1 k
    have hg' := holdF_ge (xs := xs) (s := s) (M := 1000 * burst) (by omega) hl0 k
    have hpH : pailH xs burst (s + k) (passF xs (1000 * burst) s l k) = holdF xs (1000 * burst) s l k := rfl
    go_wp2_with fail
    refine (holds33 g a ca xs burst (s + k) (passF xs (1000 * burst) s l k) wr B (Nat.le_trans hB HOK.out.size) HGK.out (HX.out.only hB HOK.out HNE.out) lx hb0 hb1 (by omega) (by omega)).mono ?_
    rw [hpH]
    rintro e w2 ⟨rfl, hb2⟩
    have hg2 := HGK.out.below hb2 HGK.out.lt
    have HO2 := Lib.hid (only_trans HOK.out (only_of_below (g := g) hb2))
    have hc := hg2.cell
    have hz := hg2.frozen
    have HG2 := Lib.hid hg2
    clear hb2 hg2 HGK HOK
    by_cases hlow : holdF xs (1000 * burst) s l k < 1000 * many
    · have HB2 := Lib.hid (show ∀ i, k0 ≤ i → i < k + 1 → holdF xs (1000 * burst) s l i < 1000 * many from fun i i1 i2 => by
        by_cases hik : i < k
        · exact HBAD.out i i1 hik
        · obtain rfl : i = k := by omega
          exact hlow)
      generalize holdF xs (1000 * burst) s l k = p at *
      by_cases hend : k0 + L ≤ k
      · have hge : s + k0 + (L : Int) ≤ s + k := by omega
        go_wp2_with fail
        go_ret2
        exact .inr ⟨rfl, HO2.out⟩
      · have hge : ¬ s + k0 + (L : Int) ≤ s + k := by omega
        go_wp2_with fail
        refine (pass56 g a ca xs burst (s + k) (passF xs (1000 * burst) s l k) 1 w2 B (Nat.le_trans hB HO2.out.size) HG2.out (HX.out.only hB HO2.out HNE.out) HV.out HNE.out hb0 hb1 pg pl (by omega) (by omega)).mono ?_
        rw [passF_one]
        rintro e w3 ⟨rfl, hg3, ho3⟩
        have HG3 := Lib.hid hg3
        have HO3 := Lib.hid (only_trans HO2.out ho3)
        clear hg3 ho3
        go_wp2_with fail
        go_roundg (gk - 1)
        case measure => omega
        case rel => exact ⟨k + 1, by omega, by omega, by simpa [Int.add_assoc] using HG3.out, HO3.out, HB2.out⟩
    · have HD := Lib.hid (show k0 ≤ k ∧ k ≤ k0 + L ∧ 1000 * many ≤ holdF xs (1000 * burst) s l k ∧ (∀ i, k0 ≤ i → i < k → holdF xs (1000 * burst) s l i < 1000 * many) from ⟨hk, by omega, by omega, HBAD.out⟩)
      generalize hhe : holdF xs (1000 * burst) s l k = p at *
      have HHE := Lib.hid hhe
      clear hhe
      go_wp2_with fail
      refine (holds33 g a ca xs burst (s + k) (passF xs (1000 * burst) s l k) w2 B (Nat.le_trans hB HO2.out.size) HG2.out (HX.out.only hB HO2.out HNE.out) lx hb0 hb1 (by omega) (by omega)).mono ?_
      rw [hpH]
      rintro e w3 ⟨rfl, hb3⟩
      have hg3 := HG2.out.below hb3 HG2.out.lt
      have HO3 := Lib.hid (only_trans HO2.out (only_of_below (g := g) hb3))
      clear hc hz
      have hc := hg3.cell
      have hz := hg3.frozen
      have HG3 := Lib.hid hg3
      clear hb3 hg3
      go_wp2_with fail
      go_ret2
      refine .inl ⟨k, HD.out.1, HD.out.2.1, by rw [HHE.out]; exact HD.out.2.2.1, HD.out.2.2.2, rfl, ?_, only_set HO3.out _ _⟩
      rw [HHE.out]
      exact HG3.out.set 3 _

set_option maxHeartbeats 400000 in
theorem newPail29 (a : Option Addr) (ca n : Nat) (burst : Int) (w : World) (hb0 : 0 ≤ burst) (hb1 : burst ≤ 1000000000) :
    Calls Try.prog 29 #[.slice a n ca, .int .i64 burst] w fun e w' => e = .returned (.pointer (some ⟨w.heap.size, 0, none⟩)) ∧ Blk w' w.heap.size 99 (plC a n ca burst 0 (1000 * burst)) ∧ Below w.heap.size w w' := by
  go_enter Try.func29, Try.ntmps29
  go_wp2_with fail
  go_ret
  exact ⟨rfl, Blk.new _ _ _, (Below.refl _ _).alloc (Nat.le_refl _) _⟩

end Go.Proofs.Ytdfloglicjocbaa
