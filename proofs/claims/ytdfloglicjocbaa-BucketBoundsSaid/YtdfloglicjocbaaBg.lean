import Derived.Test.YtdfloglicjocbaaBf
namespace Go.Proofs.Ytdfloglicjocbaa
open Go.RowKit

/-- both buckets between two takes. -/
structure BM (w : World) (gb gp r c : Nat) (a : Option Addr) (ca : Nat) (xs : List (Int × Int)) (burst : Int) (k : Nat) (s lb lp : Int) (wr : World) : Prop where
  sb : Blk wr gb 97 (bkC (some ⟨r, 0, none⟩) xs.length c (burst * 1000) lb s (neverB xs))
  sp : Blk wr gp 99 (plC a xs.length ca burst s lp)
  row : Row2 wr gb (some ⟨r, 0, none⟩) xs
  bel : Below w.heap.size w wr
  s0 : 0 ≤ s
  s1 : s ≤ 800000 * k
  b0 : 0 ≤ lb
  b1 : lb ≤ burst * 1000
  p0 : 0 ≤ lp
  p1 : lp ≤ 1000 * burst
  eqv : Eqv xs s lb lp

theorem Blk.only {w w' : World} {g h : Nat} {t : TypeId} {cs : Array Value} (hb : Blk w g t cs) (ho : w.grownBy w' (some h)) (hne : g ≠ h) : Blk w' g t cs :=
  (ho.block g hb.lt (fun e => hne (by injection e))).trans hb

theorem same_first {xs : List (Int × Int)} {M s l need : Int} {k0 n m : Nat} (h1 : k0 ≤ n) (h2 : need ≤ holdF xs M s l n) (h3 : ∀ i, k0 ≤ i → i < n → holdF xs M s l i < need)
    (k1 : k0 ≤ m) (k2 : need ≤ holdF xs M s l m) (k3 : ∀ i, k0 ≤ i → i < m → holdF xs M s l i < need) : n = m := by
  rcases Nat.lt_trichotomy n m with h | h | h
  · have := k3 n h1 h; omega
  · exact h
  · have := h3 m k1 h; omega

theorem level32_now (g : Nat) (a : Option Addr) (ca : Nat) (xs : List (Int × Int)) (M l s : Int) (w : World) (B : Nat) (hg : Blk w g 97 (bkC a xs.length ca M l s (neverB xs))) (hx : Row2 w B a xs) (v : Valid xs)
    (hM : 0 ≤ M) (hM1 : M ≤ 1000000000000) (hl0 : 0 ≤ l) (hl1 : l ≤ M) (hs : 0 ≤ s) (hn : s ≤ 1099511627776) :
    Calls Try.prog 32 #[.pointer (some ⟨g, 0, none⟩), .int .i64 s] w fun e w' => e = .returned (.tuple #[.int .i64 (holdF xs M s l 0 / 1000), .int .i64 0]) ∧ w = w' := by
  have := level32_ok g a ca xs M l s 0 w B hg hx v hM hM1 hl0 hl1 hs (by simpa using hn)
  simpa using this
theorem left_facts (xs : List (Int × Int)) (burst s lb lp y : Int) (n : Nat) (v : Valid xs) (he : Eqv xs s lb lp) (hlb : lb ≤ burst * 1000) (h0 : 0 ≤ y) (h1 : y ≤ burst) (hge : 1000 * y ≤ holdF xs (1000 * burst) s lp n) :
    0 ≤ leftF xs (burst * 1000) s lb (y * 1000) n ∧ leftF xs (burst * 1000) s lb (y * 1000) n ≤ burst * 1000 ∧ Eqv xs (s + n) (leftF xs (burst * 1000) s lb (y * 1000) n) (holdF xs (1000 * burst) s lp n - 1000 * y) ∧
    pailH xs burst (s + n) (holdF xs (1000 * burst) s lp n - 1000 * y) = holdF xs (burst * 1000) (s + n) (leftF xs (burst * 1000) s lb (y * 1000) n) 0 := by
  have hM : 1000 * burst = burst * 1000 := by omega
  rw [hM] at hge ⊢
  have hh := he.hold (M := burst * 1000) n
  have hle := holdF_le (xs := xs) (s := s) hlb n
  have hb := v.rBd (s + n)
  have hlf : leftF xs (burst * 1000) s lb (y * 1000) n = if rAt xs (s + n) = -1 then burst * 1000 else holdF xs (burst * 1000) s lb n - y * 1000 := rfl
  have hpf : pailH xs burst (s + n) (holdF xs (burst * 1000) s lp n - 1000 * y) = if rAt xs (s + n) < 0 then 1000 * burst else holdF xs (burst * 1000) s lp n - 1000 * y := rfl
  have hhf : holdF xs (burst * 1000) (s + n) (leftF xs (burst * 1000) s lb (y * 1000) n) 0 = if rAt xs (s + n) < 0 then burst * 1000 else leftF xs (burst * 1000) s lb (y * 1000) n := by simp [holdF, passF]
  rw [hpf, hhf]
  by_cases hr : rAt xs (s + n) = -1
  · rw [if_pos hr] at hlf
    rw [hlf, if_pos (by omega), if_pos (by omega)]
    exact ⟨by omega, by omega, fun h => by omega, by omega⟩
  · rw [if_neg hr] at hlf
    rw [hlf, if_neg (by omega), if_neg (by omega)]
    exact ⟨by omega, by omega, fun _ => by omega, by omega⟩

set_option maxHeartbeats 4000000 in
set_option maxRecDepth 100000 in
theorem bm_ok (a : Option Addr) (ca : Nat) (xs : List (Int × Int)) (burst : Int) (ta : Option Addr) (tc : Nat) (ts : List (Int × Int)) (w : World) (hx : Row2 w w.heap.size a xs) (lx : xs.length ≤ maxLen) (hE : bucketE xs burst = 0) (v : Valid xs) (hb0 : 1 ≤ burst) (hb1' : burst ≤ 1000000000) (ht : Row2 w w.heap.size ta ts) (ht2 : ts.length ≤ 40) :
    Calls Try.prog 6 #[.slice a xs.length ca, .int .i64 burst, .slice ta ts.length tc] w fun e w' => e = .returned (.bool true) ∧ Below w.heap.size w w' := by
  have HX := Lib.hid hx
  have HT := Lib.hid ht
  have HE := Lib.hid hE
  have HV := Lib.hid v
  have HW := Lib.hid ((bucket_want xs burst).trans hE)
  have hM : 1000 * burst = burst * 1000 := by omega
  have HM := Lib.hid hM
  clear hx hE v ht hM
  go_enter Try.func6, Try.ntmps6
  go_wp2_with fail
  refine (newBucket28_ok a ca xs burst w HX.out lx HE.out HV.out hb0 hb1').mono ?_
  rintro e w1 ⟨g, r, c, rfl, hB1, hr1, hr2, hrow1, hb1⟩
  have HB1 := Lib.hid hB1
  have HR1 := Lib.hid hrow1
  clear hB1 hrow1
  go_wp2_with fail
  refine (ratesError25 a ca xs w1 w.heap.size hb1.size (HX.out.below hb1) lx).mono ?_
  rintro e w2 ⟨rfl, hb⟩
  have hb2 := below_step hb1 (Nat.le_refl _) hb
  have HB2 := Lib.hid (HB1.out.below hb HB1.out.lt)
  have HR2 := Lib.hid (HR1.out.below (hb.mono (Nat.le_of_lt HB1.out.lt)))
  clear hb hb1 HB1 HR1
  go_wp2_with (first | (go_at_call 17; refine (within17 _ _ _ _).mono ?_; rintro e w' ⟨rfl, rfl⟩) | (go_at_call 16; refine (when16 _ _ _).mono ?_; rintro e w' ⟨rfl, rfl⟩) | fail)
  refine (first15 _ _ [ratesE xs, whenI (!withinB burst 1 1000000000) 7] _ (w2.heap.size + 1) (Row.lit _ _ _) (by simp [maxLen])).mono ?_
  rw [HW.out]
  rintro e w' ⟨rfl, rfl⟩
  have hba : Below w2.heap.size w2 (w2.alloc (.cells #[.int .i64 (ratesE xs), .int .i64 (whenI (!withinB burst 1 1000000000) 7)] 24)) := (Below.refl _ _).alloc (Nat.le_refl _) _
  have hb3 := below_step hb2 (Nat.le_refl _) hba
  have HB3 := Lib.hid (HB2.out.below hba HB2.out.lt)
  have HR3 := Lib.hid (HR2.out.below (hba.mono (Nat.le_of_lt HB2.out.lt)))
  clear hb2 HB2 HR2 hba
  go_wp2_with fail
  generalize w2.alloc (.cells #[.int .i64 (ratesE xs), .int .i64 (whenI (!withinB burst 1 1000000000) 7)] 24) = w3 at *
  refine (hauls14 _).mono ?_
  rintro e w4 ⟨rfl, hb⟩
  have hb4 := below_step hb3 (Nat.le_refl _) hb
  have HB4 := Lib.hid (HB3.out.below hb HB3.out.lt)
  have HR4 := Lib.hid (HR3.out.below (hb.mono (Nat.le_of_lt HB3.out.lt)))
  clear hb hb3 HB3 HR3
  have hd40 : decide ((40 : Int) < (ts.length : Int)) = false := decide_eq_false (by omega)
  go_wp2_with fail
  refine (newPail29 a ca xs.length burst w4 (by omega) hb1').mono ?_
  rintro e w5 ⟨rfl, hp5, hb⟩
  have HB5 := Lib.hid (below_step hb4 (Nat.le_refl _) hb)
  have hgp : g < w4.heap.size := HB4.out.lt
  have hwp : w.heap.size ≤ w4.heap.size := hb4.size
  have HBK := Lib.hid (HB4.out.below hb HB4.out.lt)
  have HR5 := Lib.hid (HR4.out.below (hb.mono (Nat.le_of_lt hgp)))
  have HP5 := Lib.hid hp5
  generalize w4.heap.size = gp at *
  clear hb hb4 HB4 HR4 hp5
  go_wp2_with fail
  go_loopw [11, 69] (fun sv iv wr => ∃ (k : Nat) (s lb lp : Int), k ≤ ts.length ∧ iv = .int .i64 k ∧ sv = .int .i64 s ∧ BM w g gp r c a ca xs burst k s lb lp wr) (fun _ i _ => ts.length - (intOf i).toNat)
  case atStart => exact ⟨0, 0, burst * 1000, 1000 * burst, by omega, rfl, rfl, HBK.out, HP5.out, HR5.out, HB5.out, by omega, by omega, by omega, by omega, by omega, by omega, fun _ => HM.out.symm⟩
  case round =>
    obtain ⟨k, s, lb, lp, hk, rfl, rfl, hbm⟩ := hrel
    have hs0 := hbm.s0
    have hs1 := hbm.s1
    by_cases hlt : k < ts.length
    · obtain ⟨bt, ot, rfl, hbt, c0, c1⟩ := (HT.out.below hbm.bel) k hlt
      generalize (ts.getD k (0, 0)).1 = x at *
      generalize (ts.getD k (0, 0)).2 = y at *
      have hbl : bt < wr.heap.size := Nat.lt_of_lt_of_le hbt hbm.bel.size
      have HBM := Lib.hid hbm
      clear hbm
      go_wp2_with fail
      go_quiet (fail)
      go_wp2_with fail
      have hba : Below wr.heap.size wr ((wr.alloc (.cells #[.int .i64 x, .int .i64 y] 40)).drewN nq) := below_drewN ((Below.refl _ _).alloc (Nat.le_refl _) _) nq
      have SB := Lib.hid (HBM.out.sb.below hba HBM.out.sb.lt)
      have SP := Lib.hid (HBM.out.sp.below hba HBM.out.sp.lt)
      have ROW := Lib.hid (HBM.out.row.below (hba.mono (Nat.le_of_lt HBM.out.sb.lt)))
      have BEL := Lib.hid (below_step HBM.out.bel (Nat.le_refl _) hba)
      obtain ⟨b0, b1, p0, p1, heqv⟩ : 0 ≤ lb ∧ lb ≤ burst * 1000 ∧ 0 ≤ lp ∧ lp ≤ 1000 * burst ∧ Eqv xs s lb lp := ⟨HBM.out.b0, HBM.out.b1, HBM.out.p0, HBM.out.p1, HBM.out.eqv⟩
      have HEQ := Lib.hid heqv
      clear hba HBM heqv c0 c1 hbl
      generalize (wr.alloc (.cells #[.int .i64 x, .int .i64 y] 40)).drewN nq = wa at *
      by_cases hin : 0 ≤ x ∧ x ≤ 1099511627776 ∧ 0 ≤ y ∧ y ≤ burst
      · obtain ⟨x0, x1, y0, y1⟩ := hin
        have hw1 : withinB x 0 1099511627776 = true := by simp only [withinB, decide_eq_true_eq]; omega
        have hw2 : withinB y 0 burst = true := by simp only [withinB, decide_eq_true_eq]; omega
        obtain ⟨k0, hk0⟩ : ∃ k0 : Nat, s + k0 = max x s := ⟨(max x s - s).toNat, by omega⟩
        have hmax : (if x < s then s else x) = s + k0 := (ite_max x s).trans hk0.symm
        have hk1 : s + k0 ≤ s + 400000 ∨ s + 400000 < x := by omega
        refine (take30 g (some ⟨r, 0, none⟩) c xs (burst * 1000) lb s x y k0 wa g SB.out ROW.out HV.out (by omega) (by omega) b0 b1 hs0 (by omega) x0 x1 y0 (by omega) hk0 (fun z e => by injection e with e; subst e; exact Nat.ne_of_lt hr2)).mono ?_
        clear hk0
        rintro e w6 hT
        have key : Below w.heap.size w w6 ∧ Blk w6 gp 99 (plC a xs.length ca burst s lp) := by
          rcases hT with ⟨n, _, _, _, ho⟩ | ⟨_, _, rfl⟩
          · exact ⟨only_below BEL.out ho BEL.out.size (by omega), SP.out.only ho (by omega)⟩
          · exact ⟨BEL.out, SP.out⟩
        obtain ⟨hbel6, hsp6⟩ := key
        have BEL6 := Lib.hid hbel6
        have SP6 := Lib.hid hsp6
        clear hbel6 hsp6 SP BEL
        by_cases hfar : s + 400000 < x
        · rcases hT with ⟨n, hta, rfl, hB6, ho6⟩ | ⟨hno, rfl, rfl⟩
          · clear hB6 ho6 hta
            go_wp2_with (go_at_call 17; refine (within17 _ _ _ _).mono ?_; rintro e w' ⟨rfl, rfl⟩)
            go_ret
            exact ⟨rfl, BEL6.out⟩
          · clear hno
            go_wp2_with (go_at_call 17; refine (within17 _ _ _ _).mono ?_; rintro e w' ⟨rfl, rfl⟩)
            go_ret
            exact ⟨rfl, BEL6.out⟩
        · have hk2 : s + k0 ≤ s + 400000 := by omega
          clear hk1
          have PT := Lib.hid (pailTake31 gp a ca xs burst lp s y k0 400000 w6 w.heap.size BEL6.out.size SP6.out (HX.out.below BEL6.out) HV.out (fun z e => by
            obtain ⟨b, off, e2, hb, _⟩ := HX.out 0 HV.out.pos
            rw [e2] at e; injection e with e; subst e; exact Nat.ne_of_lt (Nat.lt_of_lt_of_le hb hwp)) (by omega) hb1' p0 p1 hs0 (by omega) y0 y1)
          rcases hT with ⟨n, hta, rfl, hB6, ho6⟩ | ⟨hno, rfl, rfl⟩
          · have HTA := Lib.hid hta
            have HB6 := Lib.hid hB6
            have ROW6 := Lib.hid (ROW.out.only (Nat.le_of_lt SB.out.lt) ho6 (fun z e => by injection e with e; subst e; exact Nat.ne_of_lt hr2))
            clear hta hB6 ho6 SB ROW
            go_wp2_with (go_at_call 17; refine (within17 _ _ _ _).mono ?_; rintro e w' ⟨rfl, rfl⟩)
            refine PT.out.mono ?_
            rintro e w7 (⟨m, m1, m2, m3, m4, rfl, hp7, ho7⟩ | ⟨rfl, ho7⟩)
            · obtain rfl : n = m := by
                refine same_first (xs := xs) (M := 1000 * burst) (s := s) (l := lp) (need := 1000 * y) HTA.out.1 ?_ ?_ m1 m3 m4
                · have := HTA.out.2.2.1
                  rw [HEQ.out.hold n, ← HM.out] at this
                  omega
                · intro i i1 i2
                  have := HTA.out.2.2.2 i i1 i2
                  rw [HEQ.out.hold i, ← HM.out] at this
                  omega
              obtain ⟨f0, f1, f2, f3⟩ := left_facts xs burst s lb lp y n HV.out HEQ.out b1 y0 y1 m3
              have f4 := holdF_le (xs := xs) (s := s) p1 n
              have F2 := Lib.hid f2
              have F3 := Lib.hid f3
              have SB7 := Lib.hid (HB6.out.only ho7 (by omega))
              have ROW7 := Lib.hid (ROW6.out.only (Nat.le_of_lt HB6.out.lt) ho7 (fun z e => by injection e with e; subst e; exact Nat.ne_of_lt (show r < gp by omega)))
              have BEL7 := Lib.hid (only_below BEL6.out ho7 BEL6.out.size hwp)
              have SP7 := Lib.hid hp7
              have hsn : s + (n : Int) ≤ s + 800000 := by omega
              clear f2 f3 ho7 hp7 m4 HB6 ROW6 BEL6 SP6 HTA PT
              generalize leftF xs (burst * 1000) s lb (y * 1000) n = lf at *
              generalize holdF xs (1000 * burst) s lp n = hf at *
              go_wp2_with fail
              refine (level32_now g (some ⟨r, 0, none⟩) c xs (burst * 1000) lf (s + n) w7 g SB7.out ROW7.out HV.out (by omega) (by omega) f0 f1 (by omega) (by omega)).mono ?_
              rintro e w' ⟨rfl, rfl⟩
              rw [← F3.out]
              have ph0 : 0 ≤ pailH xs burst (s + n) (hf - 1000 * y) ∧ pailH xs burst (s + n) (hf - 1000 * y) ≤ 1000 * burst := by
                unfold pailH; split <;> omega
              go_wp2_with fail
              refine (holds33 gp a ca xs burst (s + n) (hf - 1000 * y) w7 w.heap.size BEL7.out.size SP7.out (HX.out.below BEL7.out) HV.out.le (by omega) hb1' (by omega) (by omega)).mono ?_
              rintro e w8 ⟨rfl, hb8⟩
              have SB8 := Lib.hid (SB7.out.below hb8 SB7.out.lt)
              have SP8 := Lib.hid (SP7.out.below hb8 SP7.out.lt)
              have ROW8 := Lib.hid (ROW7.out.below (hb8.mono (Nat.le_of_lt SB7.out.lt)))
              have BEL8 := Lib.hid (below_step BEL7.out (Nat.le_refl _) hb8)
              clear hb8 SB7 SP7 ROW7 BEL7
              generalize pailH xs burst (s + n) (hf - 1000 * y) = V at *
              have HD := Lib.hid (show BM w g gp r c a ca xs burst (k + 1) (s + n) lf (hf - 1000 * y) w8 from ⟨SB8.out, SP8.out, ROW8.out, BEL8.out, by omega, by omega, f0, f1, by omega, by omega, F2.out⟩)
              by_cases hpos : 0 < s + (n : Int)
              · go_wp2_with fail
                refine (level32_early g (some ⟨r, 0, none⟩) c xs (burst * 1000) lf (s + n) (s + n - 1) w8 SB8.out (by omega) (by omega) (by omega)).mono ?_
                rintro e w' ⟨rfl, rfl⟩
                go_wp2_with fail
                go_roundw
                case rel => exact ⟨k + 1, s + n, lf, hf - 1000 * y, by omega, by go_num, rfl, HD.out⟩
                case measure => simp [intOf]; omega
              · go_wp2_with fail
                go_roundw
                case rel => exact ⟨k + 1, s + n, lf, hf - 1000 * y, by omega, by go_num, rfl, HD.out⟩
                case measure => simp [intOf]; omega
            · have HB7 := Lib.hid (only_below BEL6.out ho7 BEL6.out.size hwp)
              clear ho7
              go_wp2_with fail
              go_ret
              exact ⟨rfl, HB7.out⟩
          · have HNO := Lib.hid hno
            clear hno
            go_wp2_with (go_at_call 17; refine (within17 _ _ _ _).mono ?_; rintro e w' ⟨rfl, rfl⟩)
            refine PT.out.mono ?_
            rintro e w7 (⟨m, m1, m2, m3, m4, rfl, hp7, ho7⟩ | ⟨rfl, ho7⟩)
            · exfalso
              have h1 := HNO.out m m1 (by omega)
              rw [HEQ.out.hold m, ← HM.out] at h1
              omega
            · have HB7 := Lib.hid (only_below BEL6.out ho7 BEL6.out.size hwp)
              clear ho7
              go_wp2_with fail
              go_ret
              exact ⟨rfl, HB7.out⟩
      · refine (take30_out g (some ⟨r, 0, none⟩) c xs (burst * 1000) lb s x y wa SB.out (by omega) (by omega) (by omega)).mono ?_
        rintro e w' ⟨rfl, rfl⟩
        have HD := Lib.hid (show BM w g gp r c a ca xs burst (k + 1) s lb lp wa from ⟨SB.out, SP.out, ROW.out, BEL.out, hs0, by omega, b0, b1, p0, p1, HEQ.out⟩)
        clear SB SP ROW BEL HEQ
        cases hw1 : withinB x 0 1099511627776
        · clear hin
          go_wp2_with (go_at_call 17; refine (within17 _ _ _ _).mono ?_; rintro e w' ⟨rfl, rfl⟩)
          go_roundw
          case rel => exact ⟨k + 1, s, lb, lp, by omega, by go_num, rfl, HD.out⟩
          case measure => simp [intOf]; omega
        · have hw2 : withinB y 0 burst = false := by
            simp only [withinB, decide_eq_true_eq] at hw1
            simp only [withinB, decide_eq_false_iff_not]
            omega
          clear hin
          go_wp2_with (go_at_call 17; refine (within17 _ _ _ _).mono ?_; rintro e w' ⟨rfl, rfl⟩)
          go_roundw
          case rel => exact ⟨k + 1, s, lb, lp, by omega, by go_num, rfl, HD.out⟩
          case measure => simp [intOf]; omega
    · have HBel := Lib.hid hbm.bel
      clear hbm
      go_wp2_with fail
      go_ret
      exact ⟨rfl, HBel.out⟩

theorem bm_all (a : Option Addr) (ca : Nat) (xs : List (Int × Int)) (burst : Int) (ta : Option Addr) (tc : Nat) (ts : List (Int × Int)) (w : World) (hx : Row2 w w.heap.size a xs) (lx : xs.length ≤ maxLen) (ht : Row2 w w.heap.size ta ts) (ht2 : ts.length ≤ maxLen) :
    Calls Try.prog 6 #[.slice a xs.length ca, .int .i64 burst, .slice ta ts.length tc] w fun e w' => e = .returned (.bool true) ∧ Below w.heap.size w w' := by
  by_cases hE : bucketE xs burst = 0
  · have hE' := hE
    unfold bucketE at hE'
    by_cases hr : ratesE xs = 0
    · rw [if_pos hr] at hE'
      by_cases hb : 1 ≤ burst ∧ burst ≤ 1000000000
      · by_cases hl : 40 < ts.length
        · exact bm_long a ca xs burst ta ts.length tc w hx lx hE (valid_of hr) hb.1 hb.2 hl ht2
        · exact bm_ok a ca xs burst ta tc ts w hx lx hE (valid_of hr) hb.1 hb.2 ht (by omega)
      · rw [if_neg hb] at hE'; omega
    · rw [if_neg hr] at hE'; omega
  · exact bm_no a ca xs burst _ w hx lx hE

end Go.Proofs.Ytdfloglicjocbaa
