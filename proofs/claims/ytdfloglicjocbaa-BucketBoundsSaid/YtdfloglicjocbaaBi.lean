import Derived.Test.YtdfloglicjocbaaBg
import Derived.Test.YtdfloglicjocbaaBh
import Derived.Deep.RegionHeld3
namespace Go.Proofs.Ytdfloglicjocbaa
open Go.RowKit

structure BB (w : World) (W0 g r c : Nat) (xs : List (Int × Int)) (burst : Int) (k : Nat) (T S : List Int) (s lb : Int) (tv sv : Value) (wr : World) : Prop where
  sb : Blk wr g 97 (bkC (some ⟨r, 0, none⟩) xs.length c (burst * 1000) lb s (neverB xs))
  row : Row2 wr g (some ⟨r, 0, none⟩) xs
  bel : Below w.heap.size w wr
  ot : wr.ownsRow W0 3 1 tv T.length (T.map (Value.int .i64))
  os : wr.ownsRow W0 3 1 sv S.length (S.map (Value.int .i64))
  ne : tv.ownBlock = none ∨ tv.ownBlock ≠ sv.ownBlock
  ne' : sv.ownBlock = none ∨ sv.ownBlock ≠ tv.ownBlock
  w0 : W0 ≤ wr.heap.size
  s0 : 0 ≤ s
  s1 : s ≤ 1099511627776
  b0 : 0 ≤ lb
  b1 : lb ≤ burst * 1000
  ln : T.length ≤ k
  inv : Inv xs burst T S s lb

theorem ownsRow_only {wr w' : World} {base n g : Nat} {v : Value} {l : List Value} (h : wr.ownsRow base 3 1 v n l) (ho : wr.grownBy w' (some g)) (hg : g < base) : w'.ownsRow base 3 1 v n l := by
  refine h.kept ho ?_
  cases e : v.ownBlock with
  | none => exact .inl rfl
  | some b => exact .inr (fun e' => by injection e' with e'; have := (h.lt b e).1; omega)

set_option maxHeartbeats 1000000 in
set_option maxRecDepth 100000 in
theorem bb_no (a : Option Addr) (ca : Nat) (xs : List (Int × Int)) (burst : Int) (tv : Value) (w : World) (hx : Row2 w w.heap.size a xs) (lx : xs.length ≤ maxLen) (hE : ¬ bucketE xs burst = 0) :
    Calls Try.prog 7 #[.slice a xs.length ca, .int .i64 burst, tv] w fun e w' => e = .returned (.bool true) ∧ Below w.heap.size w w' := by
  have HX := Lib.hid hx
  have HE := Lib.hid hE
  have hne : (bucketE xs burst != 0) = true := by simpa using hE
  clear hx hE
  go_enter Try.func7, Try.ntmps7
  go_wp2_with fail
  refine (newBucket28_no a ca xs burst w HX.out lx HE.out).mono ?_
  rintro e w1 ⟨rfl, hb1⟩
  go_wp2_with fail
  refine (hauls14 _).mono ?_
  rintro e w4 ⟨rfl, hb⟩
  have hb4 := below_step hb1 (Nat.le_refl _) hb
  clear hb hb1
  go_wp2_with fail
  refine (hauls14 _).mono ?_
  rintro e w5 ⟨rfl, hb⟩
  have hb5 := below_step hb4 (Nat.le_refl _) hb
  clear hb hb4
  go_wp2_with fail
  go_ret
  exact ⟨rfl, hb5⟩

set_option maxHeartbeats 1000000 in
set_option maxRecDepth 100000 in
theorem bb_long (a : Option Addr) (ca : Nat) (xs : List (Int × Int)) (burst : Int) (ta : Option Addr) (tn tc : Nat) (w : World) (hx : Row2 w w.heap.size a xs) (lx : xs.length ≤ maxLen) (hE : bucketE xs burst = 0) (v : Valid xs) (hb0 : 1 ≤ burst) (hb1' : burst ≤ 1000000000) (ht : 40 < tn) (ht2 : tn ≤ maxLen) :
    Calls Try.prog 7 #[.slice a xs.length ca, .int .i64 burst, .slice ta tn tc] w fun e w' => e = .returned (.bool true) ∧ Below w.heap.size w w' := by
  have HX := Lib.hid hx
  have HE := Lib.hid hE
  have HV := Lib.hid v
  unfold maxLen at ht2
  clear hx hE v
  go_enter Try.func7, Try.ntmps7
  go_wp2_with fail
  refine (newBucket28_ok a ca xs burst w HX.out lx HE.out HV.out hb0 hb1').mono ?_
  rintro e w1 ⟨g, r, c, rfl, _, _, _, _, hb1⟩
  go_wp2_with fail
  refine (hauls14 _).mono ?_
  rintro e w4 ⟨rfl, hb⟩
  have hb4 := below_step hb1 (Nat.le_refl _) hb
  clear hb hb1
  go_wp2_with fail
  refine (hauls14 _).mono ?_
  rintro e w5 ⟨rfl, hb⟩
  have hb5 := below_step hb4 (Nat.le_refl _) hb
  clear hb hb4
  go_wp2_with fail
  go_ret
  exact ⟨rfl, hb5⟩

theorem bm_keep {w wr w' : World} {W0 g r c : Nat} {xs : List (Int × Int)} {burst : Int} {k : Nat} {T S : List Int} {s lb : Int} {tv sv : Value} (h : BB w W0 g r c xs burst k T S s lb tv sv wr) (hb : Below wr.heap.size wr w') :
    BB w W0 g r c xs burst (k + 1) T S s lb tv sv w' := by
  have ho : wr.grownBy w' none := ⟨hb.os, hb.tape, hb.output, hb.size, fun i hi _ => hb.block i hi⟩
  exact ⟨h.sb.below hb h.sb.lt, h.row.below (hb.mono (Nat.le_of_lt h.sb.lt)), below_step h.bel (Nat.le_refl _) hb,
    h.ot.kept ho (by cases e : tv.ownBlock <;> simp), h.os.kept ho (by cases e : sv.ownBlock <;> simp), h.ne, h.ne', Nat.le_trans h.w0 hb.size, h.s0, h.s1, h.b0, h.b1, Nat.le_succ_of_le h.ln, h.inv⟩

theorem leftF_bd (xs : List (Int × Int)) (M s l need : Int) (n : Nat) (hM : 0 ≤ M) (hl : l ≤ M) (h0 : 0 ≤ need) (h : need ≤ holdF xs M s l n) : 0 ≤ leftF xs M s l need n ∧ leftF xs M s l need n ≤ M := by
  have := holdF_le (xs := xs) (s := s) hl n
  unfold leftF; split <;> omega

theorem bb_grow {w wa w6 w7 w8 : World} {W0 g r c : Nat} {xs : List (Int × Int)} {burst : Int} {k : Nat} {T S : List Int} {s lb y : Int} {n : Nat} {tv sv tv' sv' : Value} {o1 o2 : Obj} (h : BB w W0 g r c xs burst (k + 1) T S s lb tv sv wa) (hTk : T.length + 1 ≤ k + 1)
    (hB6 : Blk w6 g 97 (bkC (some ⟨r, 0, none⟩) xs.length c (burst * 1000) (leftF xs (burst * 1000) s lb (y * 1000) n) (s + n) (neverB xs))) (row6 : Row2 w6 g (some ⟨r, 0, none⟩) xs) (bel6 : Below w.heap.size w w6)
    (ot6 : w6.ownsRow W0 3 1 tv T.length (T.map (Value.int .i64))) (os6 : w6.ownsRow W0 3 1 sv S.length (S.map (Value.int .i64))) (hw6 : W0 ≤ w6.heap.size) (hsn : s + n ≤ 1099511627776) (y0 : 0 ≤ y) (y1 : y ≤ burst) (hge : y * 1000 ≤ holdF xs (burst * 1000) s lb n) (_v : Valid xs)
    (ot7 : w7.ownsRow W0 3 1 tv' (T.length + 1) (T.map (Value.int .i64) ++ [.int .i64 (s + n)])) (os7 : w7.ownsRow W0 3 1 sv S.length (S.map (Value.int .i64))) (g7 : (w6.alloc o1).grownBy w7 tv.ownBlock) (at7 : tv'.ownBlock = tv.ownBlock ∨ tv'.ownBlock = some (w6.heap.size + 1))
    (os8 : w8.ownsRow W0 3 1 sv' (S.length + 1) (S.map (Value.int .i64) ++ [.int .i64 y])) (g8 : (w7.alloc o2).grownBy w8 sv.ownBlock) (at8 : sv'.ownBlock = sv.ownBlock ∨ sv'.ownBlock = some (w7.heap.size + 1)) (hW0 : g < W0) (hwW : w.heap.size ≤ W0) :
    BB w W0 g r c xs burst (k + 1) (T ++ [s + n]) (S ++ [y]) (s + n) (leftF xs (burst * 1000) s lb (y * 1000) n) tv' sv' w8 := by
  have hs0 := h.s0
  have b7 : Below W0 w6 w7 := ((Below.refl W0 w6).alloc hw6 o1).grown g7 (by simp; omega) fun q hq => (ot6.lt q hq).1
  have hs7 : w6.heap.size + 1 ≤ w7.heap.size := by simpa using g7.size
  have b8 : Below W0 w7 w8 := ((Below.refl W0 w7).alloc (by omega) o2).grown g8 (by simp; omega) fun q hq => (os7.lt q hq).1
  have hs8 : w7.heap.size + 1 ≤ w8.heap.size := by simpa using g8.size
  have b68 := b7.trans b8
  have hne7 : tv'.ownBlock = none ∨ tv'.ownBlock ≠ sv.ownBlock := by
    rcases at7 with e | e
    · rw [e]; exact h.ne
    · right
      intro e2
      rw [e] at e2
      have := (os6.lt _ e2.symm).2
      omega
  have hne8 : tv'.ownBlock ≠ sv'.ownBlock ∨ (tv'.ownBlock = none ∧ sv'.ownBlock = none) := by
    rcases at8 with e | e
    · rw [e]
      rcases hne7 with e2 | e2
      · rw [e2]
        cases e3 : sv.ownBlock with
        | none => exact .inr ⟨rfl, rfl⟩
        | some q => exact .inl (by simp)
      · exact .inl e2
    · left
      intro e2
      rw [e] at e2
      have := (ot7.lt _ e2).2
      omega
  obtain ⟨l0, l1⟩ := leftF_bd xs (burst * 1000) s lb (y * 1000) n (by omega) h.b1 (by omega) hge
  refine ⟨hB6.below b68 hW0, row6.below (b68.mono (Nat.le_of_lt hW0)), ?_, ?_, ?_, ?_, ?_, by omega, by omega, hsn, l0, l1, by simpa using hTk, h.inv.step hs0 h.b1 y0 y1 hge⟩
  · exact bel6.trans (b68.mono hwW)
  · have := (ot7.alloc o2).kept g8 hne7
    simpa using this
  · simpa using os8
  · rcases hne8 with e | e
    · exact .inr e
    · exact .inl e.1
  · rcases hne8 with e | e
    · exact .inr (fun e2 => e e2.symm)
    · exact .inl e.2

set_option maxHeartbeats 4000000 in
set_option maxRecDepth 100000 in
theorem bb_ok (a : Option Addr) (ca : Nat) (xs : List (Int × Int)) (burst : Int) (ta : Option Addr) (tc : Nat) (ts : List (Int × Int)) (w : World) (hx : Row2 w w.heap.size a xs) (lx : xs.length ≤ maxLen) (hE : bucketE xs burst = 0) (v : Valid xs) (hb0 : 1 ≤ burst) (hb1' : burst ≤ 1000000000) (ht : Row2 w w.heap.size ta ts) (ht2 : ts.length ≤ 40) :
    Calls Try.prog 7 #[.slice a xs.length ca, .int .i64 burst, .slice ta ts.length tc] w fun e w' => e = .returned (.bool true) ∧ Below w.heap.size w w' := by
  have HX := Lib.hid hx
  have HT := Lib.hid ht
  have HE := Lib.hid hE
  have HV := Lib.hid v
  obtain ⟨i0, hi, hz0, hz1, hz2⟩ := info_parts int_info
  clear hx hE v ht
  go_enter Try.func7, Try.ntmps7
  go_wp2_with fail
  refine (newBucket28_ok a ca xs burst w HX.out lx HE.out HV.out hb0 hb1').mono ?_
  rintro e w1 ⟨g, r, c, rfl, hB1, hr1, hr2, hrow1, hb1⟩
  have HB1 := Lib.hid hB1
  have HR1 := Lib.hid hrow1
  clear hB1 hrow1
  go_wp2_with fail
  refine (hauls14 _).mono ?_
  rintro e w4 ⟨rfl, hb⟩
  have hd40 : decide ((40 : Int) < (ts.length : Int)) = false := decide_eq_false (by omega)
  have HB4 := Lib.hid (HB1.out.below hb HB1.out.lt)
  have HR4 := Lib.hid (HR1.out.below (hb.mono (Nat.le_of_lt HB1.out.lt)))
  have HBel4 := Lib.hid (below_step hb1 (Nat.le_refl _) hb)
  clear hb hb1 HB1 HR1
  have hW0 : g < w4.heap.size := HB4.out.lt
  go_wp2_with fail
  go_loopw [9, 10, 42] (fun tv sv iv wr => ∃ (k : Nat) (T S : List Int) (s lb : Int), k ≤ ts.length ∧ iv = .int .i64 k ∧ BB w w4.heap.size g r c xs burst k T S s lb tv sv wr) (fun _ _ i _ => ts.length - (intOf i).toNat)
  case atStart => exact ⟨0, [], [], 0, burst * 1000, by omega, rfl, HB4.out, HR4.out, HBel4.out, World.ownsRow_nil _ _ _ _, World.ownsRow_nil _ _ _ _, .inl rfl, .inl rfl, Nat.le_refl _, by omega, by omega, by omega, by omega, by simp, Inv.nil _ _ _ _⟩
  case round =>
    obtain ⟨k, T, S, s, lb, hk, rfl, hbb⟩ := hrel
    have hs0 := hbb.s0
    have hs1 := hbb.s1
    have hTl := hbb.ln
    by_cases hlt : k < ts.length
    · obtain ⟨bt, ot, rfl, hbt, c0, c1⟩ := (HT.out.below hbb.bel) k hlt
      generalize (ts.getD k (0, 0)).1 = x at *
      generalize (ts.getD k (0, 0)).2 = y at *
      have hbl : bt < wr.heap.size := Nat.lt_of_lt_of_le hbt hbb.bel.size
      have HBB := Lib.hid hbb
      clear hbb
      go_wp2_with fail
      go_quiet (fail)
      go_wp2_with fail
      have hba : Below wr.heap.size wr ((wr.alloc (.cells #[.int .i64 x, .int .i64 y] 40)).drewN nq) := below_drewN ((Below.refl _ _).alloc (Nat.le_refl _) _) nq
      have HK := Lib.hid (bm_keep HBB.out hba)
      clear hba HBB c0 c1 hbl
      generalize (wr.alloc (.cells #[.int .i64 x, .int .i64 y] 40)).drewN nq = wa at *
      by_cases hin : 0 ≤ x ∧ x ≤ 1099511627776 ∧ 0 ≤ y ∧ y ≤ burst
      · obtain ⟨x0, x1, y0, y1⟩ := hin
        obtain ⟨k0, hk0⟩ : ∃ k0 : Nat, s + k0 = max x s := ⟨(max x s - s).toNat, by omega⟩
        refine (take30 g (some ⟨r, 0, none⟩) c xs (burst * 1000) lb s x y k0 wa g HK.out.sb HK.out.row HV.out (by omega) (by omega) HK.out.b0 HK.out.b1 hs0 (by omega) x0 x1 y0 (by omega) hk0 (fun z e => by injection e with e; subst e; exact Nat.ne_of_lt hr2)).mono ?_
        clear hk0
        rintro e w6 (⟨n, hta, rfl, hB6, ho6⟩ | ⟨hno, rfl, rfl⟩)
        · have ot6 := ownsRow_only HK.out.ot ho6 hW0
          have os6 := ownsRow_only HK.out.os ho6 hW0
          have OT6 := Lib.hid ot6
          have OS6 := Lib.hid os6
          have HB6 := Lib.hid hB6
          have ROW6 := Lib.hid (HK.out.row.only (Nat.le_of_lt HK.out.sb.lt) ho6 (fun z e => by injection e with e; subst e; exact Nat.ne_of_lt hr2))
          have BEL6 := Lib.hid (only_below HK.out.bel ho6 HK.out.bel.size (by omega))
          have hw6 : w4.heap.size ≤ w6.heap.size := Nat.le_trans HK.out.w0 ho6.size
          have HTA := Lib.hid hta
          have hsl := HK.out.inv.len
          have HSL := Lib.hid hsl
          have hSl : S.length ≤ 40 := by omega
          have hTl2 : T.length ≤ 40 := by omega
          clear hsl hta hB6 ho6 ot6 os6
          go_wp2_with (at_builtin; refine wpList_append_own_at _ rfl (.tmp 59) (.tmp 61) 26 rfl w4.heap.size 3 i0 (.int .i64 0) 1 8 Try.underlying26 hi hz0 hz1 hz2 rfl (by decide) _ _ _ rfl (OT6.out.alloc _) ⟨w6.heap.size, 0, none⟩ 1 1 [.int .i64 (s + n)] rfl rfl ?c1 ?c2 ?c3 ?c4 ?c5 ?_)
          case c1 => exact cell_one_new _ _ _
          case c2 => simp [Value.oneCell']
          case c3 => unfold maxLen; omega
          case c4 => omega
          case c5 => simp; omega
          intro tv' w7 hown7 hg7 _ hat7
          have OT7 := Lib.hid hown7
          have OS7 := Lib.hid ((OS6.out.alloc (.cells #[.int .i64 (s + n)] 3)).kept hg7 HK.out.ne')
          have G7 := Lib.hid hg7
          have AT7 := Lib.hid hat7
          have hsz7 : w6.heap.size + 1 ≤ w7.heap.size := by simpa using hg7.size
          clear hown7 hg7 hat7
          go_wp2_with (at_builtin; refine wpList_append_own_at _ rfl (.tmp 63) (.tmp 65) 26 rfl w4.heap.size 3 i0 (.int .i64 0) 1 8 Try.underlying26 hi hz0 hz1 hz2 rfl (by decide) _ _ _ rfl (OS7.out.alloc _) ⟨w7.heap.size, 0, none⟩ 1 1 [.int .i64 y] rfl rfl ?c6 ?c7 ?c8 ?c9 ?c10 ?_)
          case c6 => exact cell_one_new _ _ _
          case c7 => simp [Value.oneCell']
          case c8 => unfold maxLen; omega
          case c9 => omega
          case c10 => simp; omega
          intro sv' w8 hown8 hg8 _ hat8
          have HBB8 := Lib.hid (bb_grow HK.out (by omega) HB6.out ROW6.out BEL6.out OT6.out OS6.out hw6 HTA.out.2.1 y0 y1 HTA.out.2.2.1 HV.out OT7.out OS7.out G7.out (by simpa using AT7.out) hown8 hg8 (by simpa using hat8) hW0 HBel4.out.size)
          clear hown8 hg8 hat8 OT6 OS6 OT7 OS7 G7 AT7 HB6 ROW6 BEL6 HK HTA HSL
          go_wp2_with fail
          go_roundw
          case rel => exact ⟨k + 1, T ++ [s + n], S ++ [y], s + n, leftF xs (burst * 1000) s lb (y * 1000) n, by omega, by go_num, HBB8.out⟩
          case measure => simp [intOf]; omega
        · clear hno
          go_wp2_with fail
          go_roundw
          case rel => exact ⟨k + 1, T, S, s, lb, by omega, by go_num, HK.out⟩
          case measure => simp [intOf]; omega
      · refine (take30_out g (some ⟨r, 0, none⟩) c xs (burst * 1000) lb s x y wa HK.out.sb (by omega) (by omega) (by omega)).mono ?_
        rintro e w' ⟨rfl, rfl⟩
        clear hin
        go_wp2_with fail
        go_roundw
        case rel => exact ⟨k + 1, T, S, s, lb, by omega, by go_num, HK.out⟩
        case measure => simp [intOf]; omega
    · have hlen := hbb.inv.len
      obtain ⟨aT, cT, hvT, hrT⟩ := Row.of_own hbb.ot rfl
      obtain ⟨aS, cS, hvS, hrS⟩ := Row.of_own hbb.os rfl
      subst hvT hvS
      have INV := Lib.hid hbb.inv
      have BEL := Lib.hid hbb.bel
      have RT := Lib.hid hrT
      have RS := Lib.hid hrS
      have hT40 : T.length ≤ 40 := by omega
      have HLEN := Lib.hid hlen
      have hlen1 : T.length ≤ S.length := by omega
      have hlen2 : S.length ≤ T.length := by omega
      clear hbb hrT hrS hlen HB4 HR4 HBel4
      obtain ⟨wo, hwo⟩ : ∃ wo : World, wo = wr := ⟨_, rfl⟩
      subst hwo
      go_wp2_with fail
      go_loopw [70] (fun iv wr => ∃ i : Nat, i ≤ T.length ∧ iv = .int .i64 i ∧ Below wo.heap.size wo wr) (fun i _ => T.length - (intOf i).toNat)
      case atStart => exact ⟨0, by omega, rfl, Below.refl _ _⟩
      case round =>
        obtain ⟨i, hi', rfl, hbi⟩ := hrel
        by_cases hiT : i < T.length
        · obtain ⟨bt, ot, rfl, hbt, cT0⟩ := RT.out.at_ (by omega)
          obtain ⟨bs, os, rfl, hbs, cS0⟩ := RS.out.at_ (by omega)
          have CT := Lib.hid cT0
          have CS := Lib.hid cS0
          have HBI := Lib.hid hbi
          clear cT0 cS0 hbi
          obtain ⟨wp, hwp⟩ : ∃ wp : World, wp = wr := ⟨_, rfl⟩
          subst hwp
          go_wp2_with fail
          go_loopw [18, 19] (fun sv kv wr => ∃ k : Nat, i ≤ k ∧ k ≤ T.length ∧ kv = .int .i64 k ∧ sv = .int .i64 (sumTo S i (k - i)) ∧ Below wo.heap.size wo wr) (fun _ k _ => T.length - (intOf k).toNat)
          case atStart => exact ⟨i, by omega, by omega, rfl, by rw [Nat.sub_self]; rfl, HBI.out⟩
          case round =>
            obtain ⟨k, hik, hkT, rfl, rfl, hbk⟩ := hrel
            have HBK := Lib.hid hbk
            have hszk := hbk.size
            clear hbk
            by_cases hkl : k < T.length
            · have hti0 := INV.out.t0 i hiT
              have htk1 := INV.out.t1 k hkl
              have hup := INV.out.up i k hik hkl
              have hold := INV.out.old i k hik hkl
              have hss := INV.out.sz k (by omega)
              have hsb := sumTo_bd S burst INV.out.sz i (k - i) (by omega)
              have hsb2 : burst * ((k - i : Nat) : Int) ≤ 1000000000 * 40 := by
                have h1 : burst * ((k - i : Nat) : Int) ≤ 1000000000 * ((k - i : Nat) : Int) := Int.mul_le_mul_of_nonneg_right hb1' (by omega)
                omega
              have hsucc : sumTo S i (k + 1 - i) = sumTo S i (k - i) + S.getD k 0 := by
                rw [show k + 1 - i = (k - i) + 1 from by omega]
                simp only [sumTo]
                rw [show i + (k - i) = k from by omega]
              have ci : wr.cell? ⟨bt, ot + i, none⟩ = some (.int .i64 (T.getD i 0)) := (HBK.out.cell (p := ⟨bt, ot + i, none⟩) hbt).trans (CT.out i hiT)
              have ck : wr.cell? ⟨bt, ot + k, none⟩ = some (.int .i64 (T.getD k 0)) := (HBK.out.cell (p := ⟨bt, ot + k, none⟩) hbt).trans (CT.out k hkl)
              have cs : wr.cell? ⟨bs, os + k, none⟩ = some (.int .i64 (S.getD k 0)) := (HBK.out.cell (p := ⟨bs, os + k, none⟩) hbs).trans (CS.out k (by omega))
              have cp : ∀ m, m + 1 = k → i ≤ m → wr.cell? ⟨bt, ot + m, none⟩ = some (.int .i64 (T.getD m 0)) ∧ T.getD m 0 ≤ T.getD k 0 := fun m h1 h2 =>
                ⟨(HBK.out.cell (p := ⟨bt, ot + m, none⟩) hbt).trans (CT.out m (by omega)), INV.out.up m k (by omega) hkl⟩
              have CP := Lib.hid cp
              have hsum : sumTo S i (k + 1 - i) = sumTo S i (k + 1 - i) := rfl
              obtain ⟨N, hN⟩ : ∃ N : Nat, T.getD k 0 = T.getD i 0 + N := ⟨(T.getD k 0 - T.getD i 0).toNat, by omega⟩
              have hN2 : (T.getD k 0 - T.getD i 0).toNat = N := by omega
              rw [hN2] at hold
              rw [hN] at ck htk1
              have HN := Lib.hid hN
              have HOLD := Lib.hid hold
              have HSUC := Lib.hid hsucc
              clear cp hsum hN hN2 hold hsucc hup
              generalize T.getD i 0 = ti at *
              generalize S.getD k 0 = sk at *
              generalize sumTo S i (k - i) = sm at *
              have hklS : k < S.length := by omega
              go_wp2_with fail
              have hbtr : bt < wr.heap.size := Nat.lt_of_lt_of_le hbt hszk
              have q1 : (0 : Int) ≤ (i : Int) := Int.natCast_nonneg _
              have q2 : (i : Int) < (T.length : Int) := by omega
              have q3 : (0 : Int) ≤ (k : Int) := Int.natCast_nonneg _
              have q4 : (k : Int) < (T.length : Int) := by omega
              have AL := Lib.hid (allowed26_ok a ca xs burst ti N wr.drew w.heap.size (Nat.le_trans BEL.out.size hszk) (HX.out.below (BEL.out.trans (HBK.out.mono BEL.out.size)).drew) lx HE.out HV.out ⟨by omega, hb1'⟩ hti0 (by omega))
              go_region_held3 (fun w' => w'.cell? ⟨bt, ot + i, none⟩ = some (.int .i64 ti) ∧ w'.cell? ⟨bt, ot + k, none⟩ = some (.int .i64 (ti + N)))
                (first
                  | go_keep
                  | (exact ⟨(hb9.cell (p := ⟨bt, ot + i, none⟩) hbtr).trans ci, (hb9.cell (p := ⟨bt, ot + k, none⟩) hbtr).trans ck⟩))
                (first | (go_at_call 26; refine AL.out.mono ?_; rintro e w9 ⟨r9, hall, rfl, hb9⟩))
              have hb9' : Below wr.heap.size wr w9 := (Below.refl wr.heap.size wr).drew.trans hb9
              have HB9 := Lib.hid (below_step HBK.out (Nat.le_refl _) hb9')
              have hr9 : r9 = -1 ∨ (0 ≤ r9 ∧ sm + sk ≤ r9) := by
                rcases hall with ⟨_, rfl⟩ | ⟨hn, rfl⟩
                · exact .inl rfl
                · right
                  have h1 := HOLD.out hn
                  rw [HSUC.out] at h1
                  have h2 := sumR_bd xs ti N HV.out fun j hj => hn j (by omega)
                  omega
              have ck9 : w9.cell? ⟨bt, ot + k, none⟩ = some (.int .i64 (ti + N)) := (hb9'.cell (p := ⟨bt, ot + k, none⟩) hbtr).trans ck
              have CP9 := Lib.hid (show ∀ m, m + 1 = k → i ≤ m → ∃ tp, w9.cell? ⟨bt, ot + m, none⟩ = some (.int .i64 tp) ∧ tp ≤ ti + N from fun m h1 h2 => by
                obtain ⟨c1, c2⟩ := CP.out m h1 h2
                exact ⟨_, (hb9'.cell (p := ⟨bt, ot + m, none⟩) hbtr).trans c1, by rw [← HN.out]; exact c2⟩)
              clear hall hb9 hb9' ci ck cs CP HOLD HN
              by_cases hki : i = k
              · have e1 : decide ((i : Int) < (k : Int)) = false := decide_eq_false (by omega)
                have e2 : decide (i < k) = false := decide_eq_false (by omega)
                clear CP9 hki
                rcases hr9 with rfl | ⟨z1, z2⟩
                · go_wp2_with fail
                  go_quiet (fail)
                  go_wp2_with fail
                  go_roundw
                  case rel => exact ⟨k + 1, by omega, by omega, by go_num, by rw [HSUC.out], below_drewN HB9.out _⟩
                  case measure => simp [intOf]; omega
                · have e3 : decide (r9 < sm + sk) = false := decide_eq_false (by omega)
                  go_wp2_with fail
                  go_quiet (fail)
                  go_wp2_with fail
                  go_roundw
                  case rel => exact ⟨k + 1, by omega, by omega, by go_num, by rw [HSUC.out], below_drewN HB9.out _⟩
                  case measure => simp [intOf]; omega
              · obtain ⟨m, rfl⟩ : ∃ m : Nat, k = m + 1 := ⟨k - 1, by omega⟩
                obtain ⟨tp, cp9, htp⟩ := CP9.out m rfl (by omega)
                have e1 : decide ((i : Int) < (m : Int) + 1) = true := decide_eq_true (by omega)
                have e2 : decide (i < m + 1) = true := decide_eq_true (by omega)
                have e4 : decide (ti + (N : Int) < tp) = false := decide_eq_false (by omega)
                have hw1 : IntKind.i64.wrap (m : Int) = (m : Int) := IntWalk.i64_in _ (by omega)
                have hmT : m < T.length := by omega
                clear CP9 hki
                rcases hr9 with rfl | ⟨z1, z2⟩
                · go_wp2_with fail
                  go_quiet (fail)
                  go_wp2_with fail
                  go_roundw
                  case rel => exact ⟨m + 1 + 1, by omega, by omega, by go_num, by rw [HSUC.out], below_drewN HB9.out _⟩
                  case measure => simp [intOf]; omega
                · have e3 : decide (r9 < sm + sk) = false := decide_eq_false (by omega)
                  go_wp2_with fail
                  go_quiet (fail)
                  go_wp2_with fail
                  go_roundw
                  case rel => exact ⟨m + 1 + 1, by omega, by omega, by go_num, by rw [HSUC.out], below_drewN HB9.out _⟩
                  case measure => simp [intOf]; omega
            · go_wp2_with fail
              go_roundw
              case rel => exact ⟨i + 1, by omega, by go_num, HBK.out⟩
              case measure => simp [intOf]; omega
        · go_wp2_with fail
          go_ret
          exact ⟨rfl, below_step BEL.out (Nat.le_refl _) hbi⟩

end Go.Proofs.Ytdfloglicjocbaa
