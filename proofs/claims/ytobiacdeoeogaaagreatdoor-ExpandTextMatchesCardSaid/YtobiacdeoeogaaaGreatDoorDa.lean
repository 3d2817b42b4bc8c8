import Derived.Test.YtobiacdeoeogaaaGreatDoorBz
set_option linter.unusedVariables false
set_option linter.unusedSimpArgs false
namespace Go.Proofs.YtobiacdeoeogaaaGreatDoor
open Go.RowKit
/-- what ExpandText answers. -/
structure TPost (T : List UInt8) (w : World) (e : Ending) (w' : World) : Prop where
  h : ∃ x : ByteArray, ∃ c : Int, e = .returned (.tuple #[.string x, .int .i64 c]) ∧ ((c = 0 ∧ ∃ b, Good T b x.data.toList) ∨ (c = 18 ∧ x = ⟨#[]⟩ ∧ NoGood T))
  b : Below w.heap.size w w'
theorem TPost.bad {T : List UInt8} {w w' : World} (h : NoGood T) (b : Below w.heap.size w w') : TPost T w (.returned (.tuple #[.string ⟨#[]⟩, .int .i64 18])) w' := ⟨⟨⟨#[]⟩, 18, rfl, Or.inr ⟨rfl, rfl, h⟩⟩, b⟩
set_option maxRecDepth 100000 in
set_option maxHeartbeats 16000000 in
theorem expandText_ok (t : ByteArray) (w : World) (ht : t.size ≤ 2097152) : Calls Tryz.prog 11 #[.string t] w fun e w' => TPost t.data.toList w e w' := by
  obtain ⟨T, hT⟩ : ∃ T, t.data.toList = T := ⟨_, rfl⟩
  have hTl : t.size = T.length := by rw [← hT]; exact Lib.size_eq t
  rw [hT]
  have HT := Lib.hid hT
  have HTL := Lib.hid hTl
  clear hT hTl
  have hd0 : decide ((t.size : Int) > 2097152) = false := decide_eq_false (by omega)
  have hd0' : ¬ (2097152 : Int) < (t.size : Int) := by omega
  by_cases h12 : t.size < 12
  · have HNG := Lib.hid (show NoGood T from fun b out g => by
      have := (good_parts g).1
      rw [← HTL.out] at this
      omega)
    have RS := Lib.hid (readEnd_short t w h12)
    have TL := Lib.hid (fun w => tailLength_ok 0 1 w (by omega) (by omega) (by omega))
    go_enter Tryz.func11, Tryz.ntmps11
    go_wp2_with fail
    refine RS.out.mono ?_
    rintro e w1 ⟨rfl, rfl⟩
    go_wp2_with fail
    refine (TL.out _).mono ?_
    rintro e w2 ⟨rfl, rfl⟩
    go_wp2_with fail
    go_ret2
    exact TPost.bad HNG.out (Below.refl _ _)
  obtain ⟨b, hb⟩ : ∃ b, w4 T (T.length - 12) = b := ⟨_, rfl⟩
  obtain ⟨z, hz⟩ : ∃ z, w4 T (T.length - 8) = z := ⟨_, rfl⟩
  have lb : b < 4294967296 := by rw [← hb]; exact w4_ltX _ _
  have lz : z < 4294967296 := by rw [← hz]; exact w4_ltX _ _
  have HBB := Lib.hid hb
  have HZZ := Lib.hid hz
  have B0 := Lib.hid (Below.refl w.heap.size w)
  by_cases hrange : 16 ≤ b ∧ b ≤ 16384 ∧ z ≤ 1048576
  case neg =>
    have HNG := Lib.hid (show NoGood T from fun b' out g => by
      have := good_ep HBB.out HZZ.out rfl rfl g
      exact hrange ⟨this.2.2.1, this.2.2.2.1, this.2.2.2.2.1⟩)
    have RE := Lib.hid (fun w => readEnd_ok t w (by omega) ht b z false (by rw [HT.out, HTL.out]; exact hb) (by rw [HT.out, HTL.out]; exact hz) (decide_eq_false hrange).symm)
    obtain ⟨b1, hb1⟩ : ∃ b1, b1 = max b 1 := ⟨_, rfl⟩
    have hmaxN := Lib.hid (show max (b : Int) 1 = (b1 : Int) by omega)
    have hb1b : b1 ≤ 4294967296 := by omega
    have hb11 : 1 ≤ b1 := by omega
    have TL := Lib.hid (fun w => tailLength_ok z b1 w (by omega) hb11 hb1b)
    clear hb hz hrange hb1
    go_enter Tryz.func11, Tryz.ntmps11
    go_wp2_with fail
    refine (RE.out _).mono ?_
    rintro e w1 ⟨rfl, q1, rfl⟩
    have B2 := Lib.hid (below_drewN B0.out q1)
    generalize (w.drewN q1) = w2 at *
    go_wp2_with fail
    rw [hmaxN.out]
    refine (TL.out _).mono ?_
    rintro e w3 ⟨rfl, rfl⟩
    go_wp2_with fail
    go_ret2
    exact TPost.bad HNG.out B2.out
  obtain ⟨hb1, hb2, hz1⟩ := hrange
  have RE := Lib.hid (fun w => readEnd_ok t w (by omega) ht b z true (by rw [HT.out, HTL.out]; exact hb) (by rw [HT.out, HTL.out]; exact hz) (decide_eq_true ⟨hb1, hb2, hz1⟩).symm)
  obtain ⟨m, hm⟩ : ∃ m, (z + b - 1) / b = m := ⟨_, rfl⟩
  have hm1 : m ≤ 70000 := by
    have : (z + b - 1) / b ≤ (z + b - 1) / 16 := Nat.div_le_div_left hb1 (by omega)
    omega
  obtain ⟨nt, hnt⟩ : ∃ nt, 4 * m + 12 = nt := ⟨_, rfl⟩
  have TL := fun w => tailLength_ok z b w (by omega) (by omega) (by omega)
  rw [hm, hnt] at TL
  have GT := Lib.hid TL
  have hmaxN := Lib.hid (show max (b : Int) 1 = (b : Int) by omega)
  have hnt2 : nt ≤ 300000 := by omega
  have HM := Lib.hid hm
  have HNT := Lib.hid hnt
  clear TL hm hnt hb hz
  by_cases hsh : t.size < 4 + nt
  · have d4 : decide ((t.size : Int) < 4 + (nt : Int)) = true := decide_eq_true (by omega)
    have d4' : (t.size : Int) < 4 + (nt : Int) := by omega
    have HNG := Lib.hid (show NoGood T from fun b' out g => by
      have := good_ep HBB.out HZZ.out HM.out rfl g
      have h7 := this.2.2.2.2.2.2.1
      rw [← HTL.out, HNT.out] at h7
      omega)
    go_enter Tryz.func11, Tryz.ntmps11
    go_wp2_with fail
    refine (RE.out _).mono ?_
    rintro e w1 ⟨rfl, q1, rfl⟩
    have B2 := Lib.hid (below_drewN B0.out q1)
    generalize (w.drewN q1) = w2 at *
    go_wp2_with fail
    rw [hmaxN.out]
    refine (GT.out _).mono ?_
    rintro e w3 ⟨rfl, rfl⟩
    go_wp2_with fail
    go_ret2
    exact TPost.bad HNG.out B2.out
  have d4 : decide ((t.size : Int) < 4 + (nt : Int)) = false := decide_eq_false (by omega)
  have d4' : ¬ (t.size : Int) < 4 + (nt : Int) := by omega
  obtain ⟨ix, hix⟩ : ∃ ix : Nat, (t.size : Int) - (nt : Int) = (ix : Int) := ⟨t.size - nt, by omega⟩
  have hix4 : 4 ≤ ix := by omega
  have hixs : ix + nt = t.size := by omega
  have hixT : T.length - (4 * m + 12) = ix := by rw [← HTL.out, HNT.out]; omega
  have hixi : (ix : Int) ≤ (t.size : Int) := by omega
  have hix4i : (4 : Int) ≤ (ix : Int) := by omega
  have hixb : ix ≤ 2097152 := by omega
  obtain ⟨tl, htl⟩ : ∃ tl, t.extract ix t.size = tl := ⟨_, rfl⟩
  obtain ⟨bd, hbd⟩ : ∃ bd, t.extract 4 ix = bd := ⟨_, rfl⟩
  obtain ⟨S, hS⟩ : ∃ S, T.drop ix = S := ⟨_, rfl⟩
  have htll : tl.data.toList = S := by rw [← htl, ex_listC, HT.out, List.take_of_length_le (by rw [List.length_drop, ← HTL.out]; omega), hS]
  have htlz : tl.size = nt := by rw [Lib.size_eq, htll, ← hS, List.length_drop, ← HTL.out]; omega
  have hbdl : bd.data.toList = (T.take ix).drop 4 := by rw [← hbd, ex_listC, HT.out, List.drop_take]
  have hbdz : bd.size ≤ 2097152 := by rw [← hbd]; simp; omega
  have hw1 : w4 S (tl.size - 12) = b := by rw [← hS, w4_dropX, ← HBB.out, ← HTL.out, htlz]; congr 1; have := HNT.out; omega
  have hw2 : w4 S (tl.size - 8) = z := by rw [← hS, w4_dropX, ← HZZ.out, ← HTL.out, htlz]; congr 1; have := HNT.out; omega
  have RT := Lib.hid (fun w => readTail_ok tl b z m t.size w S htll (by rw [htlz]; exact HNT.out.symm) (by omega) hb1 hb2 hz1 HM.out hw1 hw2 (by omega))
  have HSS := Lib.hid hS
  have HTLL := Lib.hid htll
  have HBDL := Lib.hid hbdl
  have HGE := Lib.hid (show ∀ (b' : Nat) (out : List UInt8), Good T b' out → b' = b ∧ out.length = z ∧ (∀ k, k < m → w4 S (4 * k) = (enc1 ((out.drop (k * b)).take b)).2) ∧ (T.take ix).drop 4 = bodyOf (chunksOf b out) ∧ S = idxOf b out ++ wordB ((crcOf (idxOf b out) : Nat) : Int) ∧ 4 + S.length + sumL S m = t.size from fun b' out g => by
    have := good_ep HBB.out HZZ.out HM.out hixT g
    obtain ⟨g1, g2, _, _, _, _, _, g8, g9, g10, g11⟩ := this
    rw [hS] at g10 g11
    exact ⟨g1, g2, fun k hk => by rw [← hS, w4_dropX]; exact g8 k hk, g9, g10, by rw [HTL.out]; exact g11⟩)
  clear hS htll htlz hbdl hw1 hw2 hixT hixs hsh
  go_enter Tryz.func11, Tryz.ntmps11
  go_wp2_with fail
  refine (RE.out _).mono ?_
  rintro e w1 ⟨rfl, q1, rfl⟩
  have B2 := Lib.hid (below_drewN B0.out q1)
  generalize (w.drewN q1) = w2 at *
  go_wp2_with fail
  rw [hmaxN.out]
  refine (GT.out _).mono ?_
  rintro e w3 ⟨rfl, rfl⟩
  clear RE GT B0 hmaxN
  go_wp2_with fail
  refine (RT.out _).mono ?_
  intro e w3 hrt
  have hbs2 := B2.out.size
  rcases hrt with ⟨hbadc, rfl, hb3⟩ | ⟨hcrc, v1, v2, rfl, hO1, hO2, hb3⟩
  · have HNG := Lib.hid (show NoGood T from fun b' out g => by
      obtain ⟨_, _, _, _, g5, _⟩ := HGE.out b' out g
      obtain ⟨k1, k2⟩ := told_sum g5
      rw [k1, k2] at hbadc
      exact hbadc rfl)
    have B3 := Lib.hid (B2.out.trans (hb3.mono hbs2))
    clear hbadc hb3 RT HGE
    go_wp2_with fail
    go_ret2
    exact TPost.bad HNG.out (B3.out.alloc B3.out.size _)
  have B3 := Lib.hid (B2.out.trans (hb3.mono hbs2))
  clear hb3 RT B2 hbs2
  by_cases hsum : 4 + S.length + sumL S m = t.size
  case neg =>
    have HNG := Lib.hid (show NoGood T from fun b' out g => hsum (HGE.out b' out g).2.2.2.2.2)
    rw [decide_eq_false hsum]
    obtain ⟨y1, d1, hy1⟩ := own_sliceC hO1
    obtain ⟨y2, d2, hy2⟩ := own_sliceC hO2
    subst hy1
    subst hy2
    clear hO1 hO2 hcrc hsum HGE
    go_wp2_with fail
    go_ret2
    exact TPost.bad HNG.out (B3.out.alloc B3.out.size _)
  rw [decide_eq_true hsum]
  have HO1 := Lib.hid hO1
  have HO2 := Lib.hid hO2
  obtain ⟨y1, d1, hy1⟩ := own_sliceC hO1
  obtain ⟨y2, d2, hy2⟩ := own_sliceC hO2
  subst hy1
  subst hy2
  clear hO1 hO2 hsum hcrc
  go_upto_region 11 with (fail)
  have HX4 := Lib.hid (Blk.new w3 83 #[.int .i64 (b : Int), .int .i64 (z : Int), .slice y1 m d1, .slice y2 m d2])
  have BA := (Below.refl w3.heap.size w3).alloc (Nat.le_refl _) (.cells #[.int .i64 (b : Int), .int .i64 (z : Int), .slice y1 m d1, .slice y2 m d2] 83)
  have HP1 := Lib.hid (own_belowC HO1.out BA)
  have HP2 := Lib.hid (own_belowC HO2.out BA)
  have B4 := Lib.hid (B3.out.alloc B3.out.size (.cells #[.int .i64 (b : Int), .int .i64 (z : Int), .slice y1 m d1, .slice y2 m d2] 83))
  clear HO1 HO2 B3 BA
  generalize hw4 : (w3.alloc _) = wv at *
  clear hw4
  generalize w3.heap.size = xb at *
  have HE := Lib.hid (fun (wx : World) (hb : Below wv.heap.size wv wx) => expand_ok bd ((T.take ix).drop 4) b z m _ ((m : Int) - 1) (.slice y1 m d1) (.slice y2 m d2) (fun k => w4 S (4 * k)) wx HBDL.out (own_belowC HP1.out hb) (own_belowC HP2.out hb) hb1 hb2 hz1 HM.out rfl hbdz (fun k => w4_ltX _ _))
  have hbs4 := B4.out.size
  have x0 := HX4.out.cell 0
  have x1 := HX4.out.cell 1
  have x2 := HX4.out.cell 2
  have x3 := HX4.out.cell 3
  simp at x0 x1 x2 x3
  have xlt := HX4.out.lt
  have hwm : IntKind.i64.wrap ((m : Int) - 1) = (m : Int) - 1 := IntWalk.i64_in _ (by omega)
  go_region_held3 (fun wx => wx.cell? ⟨xb, 0, none⟩ = some (.int .i64 (b : Int)) ∧ wx.cell? ⟨xb, 1, none⟩ = some (.int .i64 (z : Int)) ∧ wx.cell? ⟨xb, 2, none⟩ = some (.slice y1 m d1) ∧ wx.cell? ⟨xb, 3, none⟩ = some (.slice y2 m d2))
    (first | assumption | exact ⟨x0, x1, x2, x3⟩ | exact ⟨(hb5.cell (p := ⟨xb, 0, none⟩) xlt).trans x0, (hb5.cell (p := ⟨xb, 1, none⟩) xlt).trans x1, (hb5.cell (p := ⟨xb, 2, none⟩) xlt).trans x2, (hb5.cell (p := ⟨xb, 3, none⟩) xlt).trans x3⟩)
    ((go_at_call 33; (with_reducible refine (HE.out wv.drew (Below.refl _ _).drew).mono ?_); rintro e w5 ⟨⟨x, ok, rfl, hxz, hxd⟩, hb5⟩))
  have B5 := Lib.hid (B4.out.trans (((Below.refl wv.heap.size wv).drew.trans hb5).mono hbs4))
  have HGX := Lib.hid (show ∀ (b' : Nat) (out : List UInt8), Good T b' out → b' = b ∧ x.data.toList = out ∧ ok = true ∧ out.length = z from fun b' out g => by
    obtain ⟨g1, g2, g3, g4, _⟩ := HGE.out b' out g
    obtain ⟨e1, e2⟩ := hxd out g2 g3 g4
    exact ⟨g1, e1, e2, g2⟩)
  rename_i hHeld
  clear hHeld hxd hb5 HE HGE B4 hbs4 x0 x1 x2 x3 HX4 HP1 HP2 hwm xlt
  have hbs5 := B5.out.size
  cases ok
  · have HNG := Lib.hid (show NoGood T from fun b' out g => by have := (HGX.out b' out g).2.2.1; cases this)
    go_wp2_with fail
    go_ret2
    exact TPost.bad HNG.out B5.out
  by_cases hbig : 1048576 < x.size
  · have HNG := Lib.hid (show NoGood T from fun b' out g => by
      obtain ⟨_, g2, _, g4⟩ := HGX.out b' out g
      rw [Lib.size_eq, g2, g4] at hbig
      omega)
    have C := Lib.hid (SqueezeText_long (b : Int) x w5 (by omega) (by omega) hbig)
    go_wp2_with fail
    refine C.out.mono ?_
    rintro e w6 ⟨rfl, rfl⟩
    go_wp2_with fail
    go_ret2
    exact TPost.bad HNG.out B5.out
  have C := Lib.hid (SqueezeText_ok b x w5 hb1 hb2 (by omega))
  go_wp2_with fail
  refine C.out.mono ?_
  rintro e w6 ⟨rfl, hb6⟩
  have B6 := Lib.hid (B5.out.trans (hb6.mono hbs5))
  clear hb6 B5 hbs5 C
  obtain ⟨sq, hsq⟩ : ∃ sq : ByteArray, (⟨(sqT b x.data.toList).toArray⟩ : ByteArray) = sq := ⟨_, rfl⟩
  rw [hsq]
  have HSQ := Lib.hid (show sq.data.toList = sqT b x.data.toList by rw [← hsq])
  clear hsq
  by_cases heq : sq = t
  · have HG := Lib.hid (show Good T b x.data.toList from ⟨hb1, hb2, by rw [← Lib.size_eq]; omega, by rw [← HSQ.out, heq, HT.out]⟩)
    subst heq
    go_wp2_with fail
    go_ret2
    exact ⟨⟨x, 0, rfl, Or.inl ⟨rfl, b, HG.out⟩⟩, B6.out⟩
  · have HNG := Lib.hid (show NoGood T from fun b' out g => by
      obtain ⟨g1, g2, _, _⟩ := HGX.out b' out g
      apply heq
      apply ba_extC
      rw [HSQ.out, HT.out, g2, ← g.2.2.2, g1])
    have hsb := str_ne heq
    go_wp2_with fail
    go_ret2
    exact TPost.bad HNG.out B6.out
end Go.Proofs.YtobiacdeoeogaaaGreatDoor
