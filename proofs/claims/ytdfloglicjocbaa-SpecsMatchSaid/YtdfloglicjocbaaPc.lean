import Derived.Test.YtdfloglicjocbaaPb
namespace Go.Proofs.Ytdfloglicjocbaa
open Go.RowKit

/-- a slice of pairs of numbers. -/
def Row2 (w : World) (B : Nat) (a : Option Addr) (xs : List (Int × Int)) : Prop :=
  ∀ i, i < xs.length → ∃ b off, a = some ⟨b, off, none⟩ ∧ b < B ∧ w.cell? ⟨b, off + i * 2, none⟩ = some (.int .i64 (xs.getD i (0, 0)).1) ∧ w.cell? ⟨b, off + i * 2 + 1, none⟩ = some (.int .i64 (xs.getD i (0, 0)).2)
theorem Row2.below {w w' : World} {B : Nat} {a : Option Addr} {xs : List (Int × Int)} (h : Row2 w B a xs) (hb : Below B w w') : Row2 w' B a xs := by
  intro i hi
  obtain ⟨b, off, e, hlt, hc, hd⟩ := h i hi
  exact ⟨b, off, e, hlt, (hb.cell (p := ⟨b, off + i * 2, none⟩) hlt).trans hc, (hb.cell (p := ⟨b, off + i * 2 + 1, none⟩) hlt).trans hd⟩

theorem cell_old {w wr : World} {o : Obj} {b i : Nat} (h : Below (w.alloc o).heap.size (w.alloc o) wr) (hb : b < w.heap.size) : wr.cell? ⟨b, i, none⟩ = w.cell? ⟨b, i, none⟩ :=
  (alloc_below h).cell (p := ⟨b, i, none⟩) hb

def PRel (w : World) (o : Obj) (g : Nat) (f m k j t : Int) (N : Nat) (pv lv iv : Value) (wr : World) : Prop :=
  ∃ (n : Nat) (p l lp : Int) (b : Bool), n ≤ N ∧ iv = .int .i64 n ∧ pv = .int .i64 p ∧ lv = .int .i64 l ∧ Blk wr g 91 (pacC f m k j t p lp b) ∧ Below (w.alloc o).heap.size (w.alloc o) wr ∧
    0 ≤ p ∧ p ≤ 3600000 ∧ lp = max l 0 ∧ (b = false → l = -1) ∧ (b = true → 0 ≤ l ∧ l ≤ 1099511627776)

set_option maxHeartbeats 1000000 in
set_option maxRecDepth 100000 in
theorem pacer_ok (f m k j t : Int) (a : Option Addr) (ca : Nat) (xs : List (Int × Int)) (w : World) (h : boB f m k j t = true) (hx : Row2 w w.heap.size a xs) (lx : xs.length ≤ maxLen) :
    Calls Try.prog 4 #[.agg #[.int .i64 f, .int .i64 m, .int .i64 k, .int .i64 j, .int .i64 t], .slice a xs.length ca] w fun e w' => e = .returned (.bool true) ∧ Below w.heap.size w w' := by
  have hE : boE f m k j t = 0 := by simp [boE, h]
  unfold maxLen at lx
  have HX := Lib.hid hx
  have HH := Lib.hid h
  clear h hx
  go_enter Try.func4, Try.ntmps4
  go_wp2_with fail
  refine (newPacer20_ok _ _ _ _ _ _ hE).mono ?_
  rintro e w1 ⟨g, rfl, hB1, hg1, hb1⟩
  have hc := box_cells hb1
  have HB1 := Lib.hid hB1
  clear hB1
  go_wp2_with fail
  refine (refBack13 _ _ _ _ _ _).mono ?_
  rintro e w3 ⟨rfl, hb⟩
  have hB3 := HB1.out.below hb HB1.out.lt
  have hb3 := below_step hb1 (Nat.le_refl _) hb
  clear hb hb1 hc HB1
  have HB3 := Lib.hid hB3
  clear hB3
  go_wp2_with fail
  refine (hauls14 _).mono ?_
  rintro e w4 ⟨rfl, hb⟩
  have hB4 := HB3.out.below hb HB3.out.lt
  have hb4 := below_step hb3 (Nat.le_refl _) hb
  clear hb hb3 HB3
  have hc := box_cells hb4
  have HB4 := Lib.hid hB4
  clear hB4
  go_wp2_with fail
  go_loopw [8, 9, 44] (fun pv lv iv wr => PRel w (.cells #[.int .i64 f, .int .i64 m, .int .i64 k, .int .i64 j, .int .i64 t] 23) g f m k j t xs.length pv lv iv wr) (fun _ _ i _ => xs.length - (intOf i).toNat)
  case atStart =>
    obtain ⟨z1, z2, z3, z4, _⟩ := of_decide_eq_true HH.out
    exact ⟨0, f, -1, 0, false, by omega, rfl, rfl, rfl, HB4.out, hb4, z1, by omega, by omega, fun _ => rfl, fun e => by cases e⟩
  case round =>
    obtain ⟨n, p, l, lp, b, hn, rfl, rfl, rfl, hB, hbel, hp1, hp2, hlp, hb1, hb2⟩ := hrel
    clear hc hb4 HB4
    by_cases hlt : n < xs.length
    · obtain ⟨bx, ox, rfl, hlx, c0, c1⟩ := HX.out n hlt
      have HBel := Lib.hid hbel
      have d0 : wr.cell? ⟨bx, ox + n * 2, none⟩ = some (.int .i64 (xs.getD n (0, 0)).1) := by
        exact (cell_old HBel.out hlx).trans c0
      have d1 : wr.cell? ⟨bx, ox + n * 2 + 1, none⟩ = some (.int .i64 (xs.getD n (0, 0)).2) := by
        exact (cell_old HBel.out hlx).trans c1
      generalize (xs.getD n (0, 0)).1 = x at *
      generalize (xs.getD n (0, 0)).2 = y at *
      have HB := Lib.hid hB
      have HLP := Lib.hid hlp
      have H1 := Lib.hid hb1
      have H2 := Lib.hid hb2
      clear hB hbel hlp hb1 hb2 c0 c1
      go_wp2_with fail
      have hBa : Blk (wr.alloc (.cells #[.int .i64 x, .int .i64 y] 40)) g 91 (pacC f m k j t p lp b) := HB.out.below ((Below.refl _ _).alloc (Nat.le_refl _) _) HB.out.lt
      have hbela := HBel.out.alloc HBel.out.size (.cells #[.int .i64 x, .int .i64 y] 40)
      have hq := Blk.new wr 40 #[.int .i64 x, .int .i64 y]
      have hgq : g ≠ wr.heap.size := fun e => by have := HB.out.lt; omega
      have hq1 := HBel.out.size
      generalize wr.alloc (.cells #[.int .i64 x, .int .i64 y] 40) = wa at *
      generalize wr.heap.size = q at *
      clear HB HBel d0 d1
      refine (pause21 _ _ _ _ _ _ _ _ _ _ hBa).mono ?_
      rintro e w' ⟨rfl, rfl⟩
      obtain ⟨z1, z2, z3, z4, z5, z6, _, _, _, _⟩ := of_decide_eq_true HH.out
      have hqc := hq.cell
      have HB := Lib.hid hBa
      have HBel := Lib.hid hbela
      have HQ := Lib.hid hq
      clear hBa hbela hq
      go_wp2_with fail
      · refine (done22t _ _ _ _ _ _ _ _ _ _ HB.out hp1 (by omega)).mono ?_
        rintro e w5 ⟨rfl, hB5, hg5⟩
        have hbel5 := only_below HBel.out hg5 HBel.out.size hg1
        have hc := box_cells hbel5
        have hmx : (if f < p / 2 then p / 2 else f) = max (p / 2) f := by rw [ite_max]; omega
        have hx1 : 0 ≤ max (p / 2) f ∧ max (p / 2) f ≤ 3600000 := by omega
        generalize max (p / 2) f = X at *
        clear HB HBel HQ hqc hg5
        go_wp2_with fail
        go_roundw
        case rel => exact ⟨n + 1, X, l, lp, b, by omega, by go_num, rfl, rfl, hB5, hbel5, hx1.1, hx1.2, HLP.out, H1.out, H2.out⟩
        case measure => simp [intOf]; omega
      · by_cases hp0 : p = 0
        · subst hp0
          refine (done22f0 _ _ _ _ _ _ _ _ _ HB.out).mono ?_
          rintro e w5 ⟨rfl, hB5, hg5⟩
          have hbel5 := only_below HBel.out hg5 HBel.out.size hg1
          have hc := box_cells hbel5
          have hmx : (if 1 < m then 1 else m) = min 1 m := by rw [ite_min]; omega
          have hx1 : 0 ≤ min 1 m ∧ min 1 m ≤ 3600000 := by omega
          generalize min 1 m = X at *
          clear HB HBel HQ hqc hg5
          go_wp2_with fail
          go_roundw
          case rel => exact ⟨n + 1, X, l, lp, b, by omega, by go_num, rfl, rfl, hB5, hbel5, hx1.1, hx1.2, HLP.out, H1.out, H2.out⟩
          case measure => simp [intOf]; omega
        · have hpb : (p == 0) = false := by simpa using hp0
          obtain ⟨hk1, hk2⟩ := mul_bd p k 3600000 100 hp1 hp2 (by omega) z6
          refine (done22f1 _ _ _ _ _ _ _ _ _ _ HB.out hpb hk1 (by omega)).mono ?_
          rintro e w5 ⟨rfl, hB5, hg5⟩
          have hbel5 := only_below HBel.out hg5 HBel.out.size hg1
          have hc := box_cells hbel5
          have hmx : (if p * k < m then p * k else m) = min (p * k) m := by rw [ite_min]; omega
          have hx1 : 0 ≤ min (p * k) m ∧ min (p * k) m ≤ 3600000 := by omega
          generalize min (p * k) m = X at *
          clear HB HBel HQ hqc hg5
          go_wp2_with fail
          go_roundw
          case rel => exact ⟨n + 1, X, l, lp, b, by omega, by go_num, rfl, rfl, hB5, hbel5, hx1.1, hx1.2, HLP.out, H1.out, H2.out⟩
          case measure => simp [intOf]; omega
      · have hlb : -1 ≤ lp ∧ lp ≤ 1099511627776 := by
          have h1 := HLP.out
          cases b
          · have := H1.out rfl; omega
          · have := H2.out rfl; omega
        by_cases hok : nxOk x lp p b = true
        · refine (next23_ok _ _ _ _ _ _ _ _ _ _ _ HB.out hp1 (by omega) hlb.1 hlb.2 hok).mono ?_
          rintro e w5 ⟨rfl, hB5, hg5⟩
          have hbel5 := only_below HBel.out hg5 HBel.out.size hg1
          have hq5 : Blk w5 q 40 #[.int .i64 x, .int .i64 y] := (hg5.block q HQ.out.lt (fun e => hgq (by injection e with e; exact e.symm))).trans HQ.out
          clear hqc
          have hqc := hq5.cell
          simp only [nxOk, decide_eq_true_eq] at hok
          obtain ⟨o1, o2, o3⟩ := hok
          have hw1 : withinB x 0 1099511627776 = true := by simp only [withinB, decide_eq_true_eq]; omega
          clear HB HBel HQ hg5 hq5
          cases b
          · obtain rfl : l = -1 := H1.out rfl
            simp only [dueI, Bool.false_eq_true, if_false] at *
            have hB6 := Lib.hid hB5
            have hbel6 := Lib.hid hbel5
            clear hB5 hbel5
            go_wp2_with (go_at_call 17; refine (within17 _ _ _ _).mono ?_; rintro e w' ⟨rfl, rfl⟩)
            go_roundw
            case rel => exact ⟨n + 1, p, x, x, true, by omega, by go_num, rfl, rfl, hB6.out, hbel6.out, hp1, hp2, by omega, (fun e => by cases e), fun _ => ⟨o1, o2⟩⟩
            case measure => simp [intOf]; omega
          · obtain ⟨l1, l2⟩ := H2.out rfl
            obtain rfl : lp = l := by have := HLP.out; omega
            have hmx : (if x < lp + p then lp + p else x) = dueI x lp p true := by rw [ite_max]; rfl
            have hd0 : 0 ≤ dueI x lp p true := by simp only [dueI, if_true]; omega
            have hw2 : withinB (dueI x lp p true) 0 1099511627776 = true := by simp only [withinB, decide_eq_true_eq]; omega
            generalize dueI x lp p true = X at *
            have hB6 := Lib.hid hB5
            have hbel6 := Lib.hid hbel5
            clear hB5 hbel5
            go_wp2_with (go_at_call 17; refine (within17 _ _ _ _).mono ?_; rintro e w' ⟨rfl, rfl⟩)
            go_roundw
            case rel => exact ⟨n + 1, p, X, X, true, by omega, by go_num, rfl, rfl, hB6.out, hbel6.out, hp1, hp2, by omega, (fun e => by cases e), fun _ => ⟨hd0, o3⟩⟩
            case measure => simp [intOf]; omega
        · have hok' : nxOk x lp p b = false := by simpa using hok
          refine (next23_no _ _ _ _ _ _ _ _ _ _ _ HB.out hp1 (by omega) hlb.1 hlb.2 hok').mono ?_
          rintro e w5 ⟨rfl, hB5, hg5⟩
          have hbel5 := only_below HBel.out hg5 HBel.out.size hg1
          have hq5 : Blk w5 q 40 #[.int .i64 x, .int .i64 y] := (hg5.block q HQ.out.lt (fun e => hgq (by injection e with e; exact e.symm))).trans HQ.out
          clear hqc
          have hqc := hq5.cell
          simp only [nxOk, decide_eq_true_eq] at hok
          clear HB HBel HQ hg5 hq5
          have hB6 := Lib.hid hB5
          have hbel6 := Lib.hid hbel5
          clear hB5 hbel5 hok'
          cases b
          · obtain rfl : l = -1 := H1.out rfl
            have hw1 : withinB x 0 1099511627776 = false := by
              simp only [withinB, decide_eq_false_iff_not]
              simp only [dueI, Bool.false_eq_true, if_false] at hok
              omega
            clear hok
            go_wp2_with (go_at_call 17; refine (within17 _ _ _ _).mono ?_; rintro e w' ⟨rfl, rfl⟩)
            go_roundw
            case rel => exact ⟨n + 1, p, -1, lp, false, by omega, by go_num, rfl, rfl, hB6.out, hbel6.out, hp1, hp2, HLP.out, (fun _ => rfl), fun e => by cases e⟩
            case measure => simp [intOf]; omega
          · obtain ⟨l1, l2⟩ := H2.out rfl
            have hlp : lp = l := by have := HLP.out; omega
            by_cases hw : withinB x 0 1099511627776 = true
            · have hmx : (if x < l + p then l + p else x) = dueI x l p true := by rw [ite_max]; rfl
              have hw2 : withinB (dueI x l p true) 0 1099511627776 = false := by
                simp only [withinB, decide_eq_false_iff_not]
                simp only [withinB, decide_eq_true_eq] at hw
                rw [hlp] at hok
                omega
              clear hok hlp
              generalize dueI x l p true = X at *
              go_wp2_with (go_at_call 17; refine (within17 _ _ _ _).mono ?_; rintro e w' ⟨rfl, rfl⟩)
              go_roundw
              case rel => exact ⟨n + 1, p, l, lp, true, by omega, by go_num, rfl, rfl, hB6.out, hbel6.out, hp1, hp2, HLP.out, (fun e => by cases e), fun _ => ⟨l1, l2⟩⟩
              case measure => simp [intOf]; omega
            · have hw' : withinB x 0 1099511627776 = false := by simpa using hw
              clear hok hlp hw
              go_wp2_with (go_at_call 17; refine (within17 _ _ _ _).mono ?_; rintro e w' ⟨rfl, rfl⟩)
              go_roundw
              case rel => exact ⟨n + 1, p, l, lp, true, by omega, by go_num, rfl, rfl, hB6.out, hbel6.out, hp1, hp2, HLP.out, (fun e => by cases e), fun _ => ⟨l1, l2⟩⟩
              case measure => simp [intOf]; omega
    · have HB := Lib.hid hB
      have HBel := Lib.hid hbel
      clear hB hbel hlp hb1 hb2
      go_wp2_with (go_at_call 21; refine (pause21 _ _ _ _ _ _ _ _ _ _ HB.out).mono ?_; rintro e w' ⟨rfl, rfl⟩)
      go_ret
      exact ⟨rfl, alloc_below HBel.out⟩

set_option maxHeartbeats 400000 in
set_option maxRecDepth 100000 in
theorem pacer_no (f m k j t : Int) (v : Value) (w : World) (h : ¬ boB f m k j t = true) :
    Calls Try.prog 4 #[.agg #[.int .i64 f, .int .i64 m, .int .i64 k, .int .i64 j, .int .i64 t], v] w fun e w' => e = .returned (.bool true) ∧ Below w.heap.size w w' := by
  have hE : boE f m k j t = 7 := by simp [boE, h]
  clear h
  go_enter Try.func4, Try.ntmps4
  go_wp2_with fail
  refine (newPacer20_no _ _ _ _ _ _ hE).mono ?_
  rintro e w1 ⟨rfl, hb1⟩
  have hc := box_cells hb1
  go_wp2_with fail
  refine (refBack13 _ _ _ _ _ _).mono ?_
  rintro e w3 ⟨rfl, hb⟩
  have hb3 := below_step hb1 (Nat.le_refl _) hb
  clear hb hb1 hc
  go_wp2_with fail
  refine (hauls14 _).mono ?_
  rintro e w4 ⟨rfl, hb⟩
  have hb4 := below_step hb3 (Nat.le_refl _) hb
  clear hb hb3
  go_wp2_with fail
  refine (hauls14 _).mono ?_
  rintro e w5 ⟨rfl, hb⟩
  have hb5 := below_step hb4 (Nat.le_refl _) hb
  clear hb hb4
  go_wp2_with fail
  go_ret
  exact ⟨rfl, alloc_below hb5⟩

theorem pacer_all (f m k j t : Int) (a : Option Addr) (ca : Nat) (xs : List (Int × Int)) (w : World) (hx : Row2 w w.heap.size a xs) (lx : xs.length ≤ maxLen) :
    Calls Try.prog 4 #[.agg #[.int .i64 f, .int .i64 m, .int .i64 k, .int .i64 j, .int .i64 t], .slice a xs.length ca] w fun e w' => e = .returned (.bool true) ∧ Below w.heap.size w w' := by
  by_cases h : boB f m k j t = true
  · exact pacer_ok f m k j t a ca xs w h hx lx
  · exact pacer_no f m k j t _ w h

end Go.Proofs.Ytdfloglicjocbaa
