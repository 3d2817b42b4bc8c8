import Derived.Test.YtobiacdeoeogaaaGreatDoorBw
set_option linter.unusedVariables false
set_option linter.unusedSimpArgs false
namespace Go.Proofs.YtobiacdeoeogaaaGreatDoor
open Go.RowKit
/-- what reading the blocks answers. -/
structure EPost (S : List UInt8) (b z m : Nat) (f : Nat → Nat) (w : World) (e : Ending) (w' : World) : Prop where
  h : ∃ x : ByteArray, ∃ ok : Bool, e = .returned (.tuple #[.string x, .bool ok]) ∧ x.size ≤ 1200000000 ∧ ∀ out : List UInt8, out.length = z → (∀ k, k < m → f k = (enc1 ((out.drop (k * b)).take b)).2) → S = bodyOf (chunksOf b out) → x.data.toList = out ∧ ok = true
  b : Below w.heap.size w w'
theorem EPost.bad {S : List UInt8} {b z m : Nat} {f : Nat → Nat} {w w' : World} (h : ∀ out : List UInt8, out.length = z → (∀ k, k < m → f k = (enc1 ((out.drop (k * b)).take b)).2) → S = bodyOf (chunksOf b out) → False) (hb : Below w.heap.size w w') : EPost S b z m f w (.returned (.tuple #[.string ⟨#[]⟩, .bool false])) w' :=
  ⟨⟨⟨#[]⟩, false, rfl, by decide, fun out h1 h2 h3 => (h out h1 h2 h3).elim⟩, hb⟩
set_option maxRecDepth 100000 in
set_option maxHeartbeats 16000000 in
theorem expand_ok (s : ByteArray) (S : List UInt8) (b z m B : Nat) (la : Int) (v1 v2 : Value) (f : Nat → Nat) (w : World) (hS : s.data.toList = S) (hO1 : w.ownsRow B 3 1 v1 m (lensV f m)) (hO2 : w.ownsRow B 4 1 v2 m (asV f m)) (hb1 : 16 ≤ b) (hb2 : b ≤ 16384) (hz1 : z ≤ 1048576) (hm : (z + b - 1) / b = m) (hla : la = (m : Int) - 1) (hs2 : s.size ≤ 2097152) (hlf : ∀ k, f k < 4294967296) :
    Calls Tryz.prog 33 #[.agg #[.int .i64 (b : Int), .int .i64 (z : Int), v1, v2], .int .i64 0, .int .i64 la, .string s] w fun e w' => EPost S b z m f w e w' := by
  have hm1 : m ≤ 70000 := by
    have : (z + b - 1) / b ≤ (z + b - 1) / 16 := Nat.div_le_div_left hb1 (by omega)
    have h2 : m * 16 ≤ m * b := Nat.mul_le_mul_left m hb1
    have h3 : m * b ≤ z + b - 1 := by rw [← hm]; exact Nat.div_mul_le_self _ _
    omega
  have HS := Lib.hid hS
  have HO1 := Lib.hid hO1
  have HO2 := Lib.hid hO2
  have HM := Lib.hid hm
  have HLA := Lib.hid hla
  have HLF := Lib.hid hlf
  have hla1 : -1 ≤ la := by omega
  have hla2 : la ≤ 100000 := by omega
  obtain ⟨y1, d1, hy1⟩ := own_sliceC hO1
  obtain ⟨y2, d2, hy2⟩ := own_sliceC hO2
  subst hy1
  subst hy2
  clear hS hO1 hO2 hm hla hlf
  go_enter Tryz.func33, Tryz.ntmps33
  go_wp2_with fail
  have HX1 := Lib.hid ((Blk.new w 83 #[.int .i64 (b : Int), .int .i64 (z : Int), .slice y1 m d1, .slice y2 m d2]).old (.cells #[.pointer none, .slice none 0 0] 50))
  have HT1 := Lib.hid (OB.made (w.alloc (.cells #[.int .i64 (b : Int), .int .i64 (z : Int), .slice y1 m d1, .slice y2 m d2] 83)))
  have HB1 := Lib.hid (((Below.refl w.heap.size w).alloc (Nat.le_refl _) (.cells #[.int .i64 (b : Int), .int .i64 (z : Int), .slice y1 m d1, .slice y2 m d2] 83)).alloc (by simp) (.cells #[.pointer none, .slice none 0 0] 50))
  rw [show (w.alloc (.cells #[.int .i64 (b : Int), .int .i64 (z : Int), .slice y1 m d1, .slice y2 m d2] 83)).heap.size = w.heap.size + 1 by simp] at HT1
  generalize (w.alloc _).alloc _ = w1 at *
  generalize hbb : w.heap.size + 1 = bb at *
  generalize hxb : w.heap.size = xb at *
  have hxbb : xb < bb := by omega
  have hxb2 : xb ≤ bb := by omega
  have HXB := Lib.hid hxb
  clear hbb hxb
  go_loopg [3, 11] m (fun gk s3 s11 wr => ∃ i : Nat, ∃ r : ByteArray, ∃ l : List UInt8, s3 = .string r ∧ s11 = .int .i64 (i : Int) ∧ i + gk = m ∧ Ep S b z m f i l r.data.toList ∧ OB bb bb l wr ∧ l.length ≤ i * 16384 ∧ r.size ≤ 2097152 ∧ Blk wr xb 83 #[.int .i64 (b : Int), .int .i64 (z : Int), .slice y1 m d1, .slice y2 m d2] ∧ Below xb w wr)
  case atStart => exact ⟨0, s, [], rfl, rfl, by omega, by rw [HS.out]; exact Ep.start _ _ _ _ _, HT1.out, by simp, hs2, HX1.out, HB1.out⟩
  case round =>
    clear HX1 HT1 HB1
    obtain ⟨i, r, l, rfl, rfl, him, hE, hT, hll, hrz, hX, hB⟩ := hrel
    have HE := Lib.hid hE
    have HT := Lib.hid hT
    have HX := Lib.hid hX
    have HB := Lib.hid hB
    have hbs : bb ≤ wr.heap.size := hT.lt
    have hxlt := hX.lt
    clear hE hT hX hB
    by_cases hlt : i < m
    · have hdi : decide ((i : Int) ≤ la) = true := decide_eq_true (by have := HLA.out; omega)
      have hi1 : i ≤ 70000 := by omega
      have hilt : i * b < z := block_lt hb1 HM.out hlt
      obtain ⟨ib, hib⟩ : ∃ ib, i * b = ib := ⟨_, rfl⟩
      rw [hib] at hilt
      have hmul : (i : Int) * (b : Int) = (ib : Int) := by rw [← hib]; exact (Int.natCast_mul i b).symm
      have HIB := Lib.hid hib
      clear hib
      obtain ⟨rest, hrest⟩ : ∃ rest : Nat, (z : Int) - (ib : Int) = (rest : Int) := ⟨z - ib, by omega⟩
      obtain ⟨sz, hsz⟩ : ∃ sz, sz = min b rest := ⟨_, rfl⟩
      have hszz : sz ≤ 16384 := by omega
      have hmin : min (b : Int) (rest : Int) = (sz : Int) := by omega
      have hmin2 : (if rest < b then (rest : Int) else (b : Int)) = (sz : Int) := by split <;> omega
      have HSZ := Lib.hid (show min b (z - i * b) = sz by rw [HIB.out, hsz]; congr 1; omega)
      have hrest2 : rest ≤ 1048576 := by omega
      obtain ⟨kk, hkk⟩ : ∃ kk, f i % 2147483648 = kk := ⟨_, rfl⟩
      have hk31 : kk < 2147483648 := by omega
      have HK := Lib.hid hkk
      obtain ⟨pl, hpl⟩ : ∃ pl : Bool, decide (2147483648 ≤ f i) = pl := ⟨_, rfl⟩
      have HPL := Lib.hid hpl
      obtain ⟨g1, c1, hv1⟩ := own_form HO1.out (by omega)
      obtain ⟨g2, c2, hv2⟩ := own_form HO2.out (by omega)
      injection hv1 with p1 p2 p3
      injection hv2 with p4 p5 p6
      subst p1
      subst p3
      subst p4
      subst p6
      have hc1 := own_cellC (own_same HO1.out (fun g hg => HB.out.block g (by rw [← HXB.out]; exact (own_lt HO1.out hg).2))) (lensV_at hlt)
      have hc2 := own_cellC (own_same HO2.out (fun g hg => HB.out.block g (by rw [← HXB.out]; exact (own_lt HO2.out hg).2))) (asV_at hlt)
      rw [hkk] at hc1
      rw [hpl] at hc2
      have x0 := HX.out.cell 0
      have x1 := HX.out.cell 1
      have x2 := HX.out.cell 2
      have x3 := HX.out.cell 3
      simp at x0 x1 x2 x3
      have hib2 : (i : Int) < (m : Int) := by omega
      clear hkk hpl hsz p2 p5
      by_cases hsh : r.size < kk
      · have hds : decide ((kk : Int) > (r.size : Int)) = true := decide_eq_true (by omega)
        have hds2 : decide (r.size < kk) = true := decide_eq_true hsh
        have HBAD := Lib.hid (show ∀ out : List UInt8, out.length = z → (∀ k, k < m → f k = (enc1 ((out.drop (k * b)).take b)).2) → S = bodyOf (chunksOf b out) → False from fun out h1 h2 h3 =>
          HE.out.short hb1 hb2 hlt (by rw [HIB.out]; exact hilt) (by rw [HK.out, ← Lib.size_eq]; exact hsh) h1 h2 h3)
        clear HE
        go_wp2_with fail
        go_ret2
        exact EPost.bad HBAD.out (by rw [HXB.out]; exact HB.out)
      · have hds : decide ((kk : Int) > (r.size : Int)) = false := decide_eq_false (by omega)
        have hds2 : decide (r.size < kk) = false := decide_eq_false hsh
        have hkr : (kk : Int) ≤ (r.size : Int) := by omega
        have hkr2 : kk ≤ 2097152 := by omega
        obtain ⟨pc, hpc⟩ : ∃ pc, r.extract 0 kk = pc := ⟨_, rfl⟩
        obtain ⟨rs, hrs⟩ : ∃ rs, r.extract kk r.size = rs := ⟨_, rfl⟩
        have hpcl : pc.data.toList = r.data.toList.take kk := by rw [← hpc, ex_listC, List.drop_zero, Nat.sub_zero]
        have hrsl : rs.data.toList = r.data.toList.drop kk := by rw [← hrs, ex_listC, List.take_of_length_le (by rw [List.length_drop, ← Lib.size_eq]; omega)]
        have hpcz : pc.size = kk := by rw [Lib.size_eq, hpcl, List.length_take, ← Lib.size_eq]; omega
        have hrsz : rs.size ≤ 2097152 := by rw [Lib.size_eq, hrsl, List.length_drop, ← Lib.size_eq]; omega
        have HPCL := Lib.hid hpcl
        have HRSL := Lib.hid hrsl
        have HPCZ := Lib.hid hpcz
        clear hpcl hrsl hpcz
        cases pl
        · have hp31 : f i < 2147483648 := by have := of_decide_eq_false HPL.out; omega
          have HP31 := Lib.hid hp31
          clear hp31
          have XB := Lib.hid (expandBlock_ok pc sz wr hszz (by rw [HPCZ.out]; exact hkr2))
          obtain ⟨ok0, hok0⟩ : ∃ ok0 : Bool, ((kk : Int) == (sz : Int)) = ok0 := ⟨_, rfl⟩
          go_wp2_with fail
          refine XB.out.mono ?_
          rintro e w5 ⟨⟨x, ok, rfl, hxs, hxz, hxd⟩, hb5⟩
          have hb5b := hb5.mono hbs
          have HT5 := Lib.hid (HT.out.below hb5)
          have HX5 := Lib.hid (HX.out.below hb5b hxbb)
          have HB5 := Lib.hid (HB.out.trans (hb5b.mono hxb2))
          have hdec := HE.out.dec hb1 hb2 hlt (by rw [HIB.out]; exact hilt) HP31.out x.data.toList ok (fun o ho hl => by
            rw [HK.out, ← HPCL.out] at ho
            rw [HSZ.out] at hl
            exact hxd o ho hl)
          rw [HK.out, ← HRSL.out] at hdec
          have HDEC := Lib.hid hdec
          have HXS := Lib.hid hxs
          clear hxd hxs hdec hb5 hb5b HT HX HB x0 x1 x2 x3 hc1 hc2 hbs hxlt HE XB hok0
          cases ok
          · have HBAD := Lib.hid (HDEC.out.2 rfl)
            clear HDEC HXS
            go_wp2_with fail
            go_ret2
            exact EPost.bad HBAD.out (by rw [HXB.out]; exact HB5.out)
          · have HE2 := Lib.hid (HDEC.out.1 rfl)
            have hxz2 : x.size ≤ 16384 := by rw [HXS.out rfl]; exact hszz
            clear HDEC HXS
            go_wp2_with fail
            refine (HT5.out.write (Below.refl bb _) x (by omega)).mono ?_
            rintro e w6 ⟨rfl, hT6, hb6⟩
            have HT6 := Lib.hid hT6
            have HX6 := Lib.hid (HX5.out.below hb6 hxbb)
            have HB6 := Lib.hid (HB5.out.trans (hb6.mono hxb2))
            clear hT6 hb6 HT5 HX5 HB5
            go_wp2_with fail
            go_roundg (gk - 1)
            case measure => omega
            case rel => exact ⟨i + 1, rs, l ++ x.data.toList, rfl, by go_num, by omega, HE2.out, HT6.out, by rw [List.length_append, ← Lib.size_eq]; omega, hrsz, HX6.out, HB6.out⟩
        · have hp31 : 2147483648 ≤ f i := of_decide_eq_true HPL.out
          have HP31 := Lib.hid hp31
          clear hp31
          by_cases hkz : kk = sz
          · have hdk : ((kk : Int) == (sz : Int)) = true := by simp [hkz]
            have HE2 := Lib.hid (HE.out.plain hb1 hb2 hlt (by rw [HIB.out]; exact hilt) HP31.out)
            have hk16 : kk ≤ 16384 := by omega
            have hpc16 : pc.size ≤ 16384 := by rw [HPCZ.out]; exact hk16
            clear HE hkz
            go_wp2_with fail
            refine (HT.out.write (Below.refl bb _) pc (by omega)).mono ?_
            rintro e w5 ⟨rfl, hT5, hb5⟩
            have HT5 := Lib.hid hT5
            have HX5 := Lib.hid (HX.out.below hb5 hxbb)
            have HB5 := Lib.hid (HB.out.trans (hb5.mono hxb2))
            clear hT5 hb5 HT HX HB x0 x1 x2 x3 hc1 hc2 hbs hxlt
            go_wp2_with fail
            go_roundg (gk - 1)
            case measure => omega
            case rel =>
              refine ⟨i + 1, rs, l ++ pc.data.toList, rfl, by go_num, by omega, ?_, HT5.out, ?_, hrsz, HX5.out, HB5.out⟩
              · have h1 := HE2.out
                rw [HK.out, ← HPCL.out, ← HRSL.out] at h1
                exact h1
              · rw [List.length_append, ← Lib.size_eq, HPCZ.out]; omega
          · have hdk : ((kk : Int) == (sz : Int)) = false := by simp; omega
            have HBAD := Lib.hid (show ∀ out : List UInt8, out.length = z → (∀ k, k < m → f k = (enc1 ((out.drop (k * b)).take b)).2) → S = bodyOf (chunksOf b out) → False from fun out h1 h2 h3 =>
              HE.out.wrong hb1 hb2 hlt (by rw [HIB.out]; exact hilt) HP31.out (by rw [HK.out, HSZ.out]; exact hkz) h1 h2 h3)
            clear HE
            go_wp2_with fail
            go_ret2
            exact EPost.bad HBAD.out (by rw [HXB.out]; exact HB.out)
    · have hdi : decide ((i : Int) ≤ la) = false := decide_eq_false (by have := HLA.out; omega)
      have hie : i = m := by omega
      have hzm : z ≤ m * b := block_ge hb1 HM.out
      have hE1 := HE.out
      rw [hie] at hE1
      have HDN := Lib.hid (fun (out : List UInt8) (h1 : out.length = z) h2 h3 => hE1.done hzm (out := out) h1 h2 h3)
      have hl30 : l.length ≤ 1146880000 := by omega
      obtain ⟨okr, hokr⟩ : ∃ okr, r.toList.isEmpty = okr := ⟨_, rfl⟩
      have HOKR := Lib.hid hokr
      obtain ⟨x, hx⟩ : ∃ x : ByteArray, x.data.toList = l := ⟨⟨l.toArray⟩, rfl⟩
      have TX := HT.out.text (Below.refl bb wr)
      rw [show (⟨l.toArray⟩ : ByteArray) = x from ba_extC (by rw [hx])] at TX
      have GTX := Lib.hid TX
      have HXL := Lib.hid hx
      clear hie hzm hE1 HE TX hx
      go_wp2_with fail
      refine GTX.out.mono ?_
      rintro e w5 ⟨rfl, hb5⟩
      have HB5 := Lib.hid (HB.out.trans (hb5.mono hxb2))
      clear hb5 HT HX HB GTX hbs hxlt
      go_wp2_with fail
      go_ret2
      refine ⟨⟨x, okr, rfl, by rw [Lib.size_eq, HXL.out]; omega, fun out h1 h2 h3 => ?_⟩, by rw [HXB.out]; exact HB5.out⟩
      obtain ⟨e1, e2⟩ := HDN.out out h1 h2 h3
      refine ⟨by rw [HXL.out]; exact e1, ?_⟩
      rw [← HOKR.out, Lib.toList_data, e2]
      rfl
end Go.Proofs.YtobiacdeoeogaaaGreatDoor
