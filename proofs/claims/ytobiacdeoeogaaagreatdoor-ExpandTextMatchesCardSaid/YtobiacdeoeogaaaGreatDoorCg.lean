import Derived.Test.YtobiacdeoeogaaaGreatDoorCf
import Derived.Test.YtobiacdeoeogaaaGreatDoorBx
set_option linter.unusedVariables false
set_option linter.unusedSimpArgs false
namespace Go.Proofs.YtobiacdeoeogaaaGreatDoor
open Go.RowKit
theorem i64_and31 (a : Nat) (ha : a < 4294967296) : bits .and .i64 (a : Int) 2147483647 = ((a % 2147483648 : Nat) : Int) := by
  have h : (a &&& 2147483647) = a % 2147483648 := by
    rw [show (2147483647 : Nat) = 2 ^ 31 - 1 from rfl, Nat.and_two_pow_sub_one_eq_mod]
  have hx : a &&& 2147483647 < 2 ^ 63 := by rw [h]; omega
  rw [← h, show (2147483647 : Int) = ((2147483647 : Nat) : Int) from rfl]
  show IntKind.i64.wrap ((BitVec.ofInt 64 (a : Int) &&& BitVec.ofInt 64 ((2147483647 : Nat) : Int)).toNat : Nat) = _
  rw [BitVec.toNat_and, BitVec.ofInt_natCast, BitVec.ofInt_natCast, BitVec.toNat_ofNat, BitVec.toNat_ofNat, Nat.mod_eq_of_lt (by omega), Nat.mod_eq_of_lt (by omega)]
  exact IntWalk.i64_in _ (by omega)
theorem str_ne {a b : ByteArray} (h : a ≠ b) : (a.toList == b.toList) = false := by
  rw [Lib.toList_data, Lib.toList_data]
  exact beq_eq_false_iff_ne.2 (fun e => h (ba_extC e))
/-- what reading a squeezed text answers (the document). -/
structure XTPost (T : List UInt8) (w : World) (e : Ending) (w' : World) : Prop where
  h : ∃ x : ByteArray, ∃ is : Bool, e = .returned (.tuple #[.string x, .bool is]) ∧ ((is = true ∧ ∃ b, Good T b x.data.toList) ∨ (is = false ∧ NoGood T))
  b : Below w.heap.size w w'
theorem XTPost.bad {T : List UInt8} {w w' : World} (x : ByteArray) (h : NoGood T) (b : Below w.heap.size w w') : XTPost T w (.returned (.tuple #[.string x, .bool false])) w' := ⟨⟨x, false, rfl, Or.inr ⟨rfl, h⟩⟩, b⟩
theorem below_drewN {B : Nat} {w w' : World} (h : Below B w w') (q : Nat) : Below B w (w'.drewN q) := ⟨h.os, h.tape, h.output, by simpa using h.size, fun i hi => by simpa using h.block i hi⟩
set_option maxRecDepth 100000 in
set_option maxHeartbeats 16000000 in
theorem refExpand_ok (t : ByteArray) (w : World) (ht : t.size ≤ 4000) : Calls Tryz.prog 14 #[.string t] w fun e w' => XTPost t.data.toList w e w' := by
  obtain ⟨T, hT⟩ : ∃ T, t.data.toList = T := ⟨_, rfl⟩
  have hTl : t.size = T.length := by rw [← hT]; exact Lib.size_eq t
  rw [hT]
  have HT := Lib.hid hT
  have HTL := Lib.hid hTl
  clear hT hTl
  by_cases h16 : t.size < 16
  · have hd : decide ((t.size : Int) < 16) = true := decide_eq_true (by omega)
    have hd2 : (t.size : Int) < 16 := by omega
    have HNG := Lib.hid (show NoGood T from fun b out g => by
      have := (good_parts g).1
      rw [← HTL.out] at this
      omega)
    go_enter Tryz.func14, Tryz.ntmps14
    go_wp2_with fail
    go_ret2
    exact XTPost.bad _ HNG.out (Below.refl _ _)
  have hd : decide ((t.size : Int) < 16) = false := decide_eq_false (by omega)
  have hd2 : ¬ (t.size : Int) < 16 := by omega
  obtain ⟨k12, hk12⟩ : ∃ k : Nat, (t.size : Int) - 12 = (k : Int) := ⟨t.size - 12, by omega⟩
  obtain ⟨k8, hk8⟩ : ∃ k : Nat, (t.size : Int) - 8 = (k : Int) := ⟨t.size - 8, by omega⟩
  have HK12 := Lib.hid hk12
  have W1 := fun w => wordAt_ok t k12 w (by omega) (by omega)
  have W2 := fun w => wordAt_ok t k8 w (by omega) (by omega)
  obtain ⟨b, hb⟩ : ∃ b, w4 T (T.length - 12) = b := ⟨_, rfl⟩
  obtain ⟨z, hz⟩ : ∃ z, w4 T (T.length - 8) = z := ⟨_, rfl⟩
  have lb : b < 4294967296 := by rw [← hb]; exact w4_ltX _ _
  have lz : z < 4294967296 := by rw [← hz]; exact w4_ltX _ _
  have e1 : w4 T k12 = b := by rw [← hb, ← HTL.out, show k12 = t.size - 12 by omega]
  have e2 : w4 T k8 = z := by rw [← hz, ← HTL.out, show k8 = t.size - 8 by omega]
  rw [HT.out, e1] at W1
  rw [HT.out, e2] at W2
  have V1 := Lib.hid W1
  have V2 := Lib.hid W2
  clear W1 W2
  have HBB := Lib.hid hb
  have HZZ := Lib.hid hz
  clear e1 e2 hb hz
  have B0 := Lib.hid (Below.refl w.heap.size w)
  by_cases hrange : 16 ≤ b ∧ b ≤ 16384 ∧ z ≤ 1048576
  case neg =>
    have HNG := Lib.hid (show NoGood T from fun b' out g => by
      have := good_ep HBB.out HZZ.out rfl rfl g
      exact hrange ⟨this.2.2.1, this.2.2.2.1, this.2.2.2.2.1⟩)
    go_enter Tryz.func14, Tryz.ntmps14
    go_wp2_with fail
    refine (V1.out _).mono ?_
    rintro e w1 ⟨rfl, q1, rfl⟩
    go_wp2_with fail
    refine (V2.out _).mono ?_
    rintro e w2 ⟨rfl, q2, rfl⟩
    have B2 := Lib.hid (below_drewN (below_drewN B0.out q1) q2)
    generalize ((w.drewN q1).drewN q2) = w2 at *
    by_cases c1 : b < 16
    · have d1 : decide ((b : Int) < 16) = true := decide_eq_true (by omega)
      go_wp2_with fail
      go_ret2
      exact XTPost.bad _ HNG.out B2.out
    · have d1 : decide ((b : Int) < 16) = false := decide_eq_false (by omega)
      by_cases c2 : 16384 < b
      · have d2 : decide ((b : Int) > 16384) = true := decide_eq_true (by omega)
        have d2' : (16384 : Int) < (b : Int) := by omega
        go_wp2_with fail
        go_ret2
        exact XTPost.bad _ HNG.out B2.out
      · have d2 : decide ((b : Int) > 16384) = false := decide_eq_false (by omega)
        have d2' : ¬ (16384 : Int) < (b : Int) := by omega
        have d3 : decide ((z : Int) > 1048576) = true := decide_eq_true (by omega)
        have d3' : (1048576 : Int) < (z : Int) := by omega
        go_wp2_with fail
        go_ret2
        exact XTPost.bad _ HNG.out B2.out
  obtain ⟨hb1, hb2, hz1⟩ := hrange
  have d1 : decide ((b : Int) < 16) = false := decide_eq_false (by omega)
  have d2 : decide ((b : Int) > 16384) = false := decide_eq_false (by omega)
  have d2' : ¬ (16384 : Int) < (b : Int) := by omega
  have d3 : decide ((z : Int) > 1048576) = false := decide_eq_false (by omega)
  have d3' : ¬ (1048576 : Int) < (z : Int) := by omega
  have hne : ((b : Int) == 0) = false := by simp; omega
  have hne2 : ¬ (b : Int) = 0 := by omega
  have hq : ((z : Int) + (b : Int) - 1).tdiv (b : Int) = (((z + b - 1) / b : Nat) : Int) := by
    rw [show (z : Int) + (b : Int) - 1 = ((z + b - 1 : Nat) : Int) by omega]
    rfl
  have hql : (z + b - 1) / b ≤ z + b - 1 := Nat.div_le_self _ _
  obtain ⟨m, hm⟩ : ∃ m, (z + b - 1) / b = m := ⟨_, rfl⟩
  rw [hm] at hq hql
  have HM := Lib.hid hm
  clear hm
  have hm16 : m ≤ 2000000 := by omega
  by_cases hsh : k12 < 4 * m + 4
  · have d4 : decide ((k12 : Int) - 4 * (m : Int) < 4) = true := decide_eq_true (by omega)
    have d4' : (k12 : Int) - 4 * (m : Int) < 4 := by omega
    have HNG := Lib.hid (show NoGood T from fun b' out g => by
      have := good_ep HBB.out HZZ.out HM.out rfl g
      have h7 := this.2.2.2.2.2.2.1
      rw [← HTL.out] at h7
      omega)
    go_enter Tryz.func14, Tryz.ntmps14
    go_wp2_with fail
    refine (V1.out _).mono ?_
    rintro e w1 ⟨rfl, q1, rfl⟩
    go_wp2_with fail
    refine (V2.out _).mono ?_
    rintro e w2 ⟨rfl, q2, rfl⟩
    have B2 := Lib.hid (below_drewN (below_drewN B0.out q1) q2)
    generalize ((w.drewN q1).drewN q2) = w2 at *
    go_wp2_with fail
    go_ret2
    exact XTPost.bad _ HNG.out B2.out
  obtain ⟨ix, hix⟩ : ∃ ix : Nat, (k12 : Int) - 4 * (m : Int) = (ix : Int) := ⟨k12 - 4 * m, by omega⟩
  have hix4 : 4 ≤ ix := by omega
  have hixT : T.length - (4 * m + 12) = ix := by rw [← HTL.out]; omega
  have hm1000 : m ≤ 996 := by omega
  have hix4000 : ix ≤ 4000 := by omega
  have hixe : ix + 4 * m + 12 = t.size := by omega
  have HIXE := Lib.hid hixe
  have d4 : decide ((ix : Int) < 4) = false := decide_eq_false (by omega)
  have d4' : ¬ (ix : Int) < 4 := by omega
  obtain ⟨bd, hbd⟩ : ∃ bd, (T.take ix).drop 4 = bd := ⟨_, rfl⟩
  obtain ⟨f, hf⟩ : ∃ f : Nat → Nat, f = fun k => w4 T (ix + 4 * k) := ⟨_, rfl⟩
  have HGE := Lib.hid (show ∀ (b' : Nat) (out : List UInt8), Good T b' out → b' = b ∧ out.length = z ∧ (∀ k, k < m → f k = (enc1 ((out.drop (k * b)).take b)).2) ∧ bd = bodyOf (chunksOf b out) from fun b' out g => by
    have := good_ep HBB.out HZZ.out HM.out hixT g
    rw [hf]
    exact ⟨this.1, this.2.1, this.2.2.2.2.2.2.2.1, by rw [← hbd]; exact this.2.2.2.2.2.2.2.2.1⟩)
  have HF := Lib.hid hf
  have HBD := Lib.hid hbd
  have hlf : ∀ k, f k < 4294967296 := fun k => by rw [hf]; exact w4_ltX _ _
  have HLF := Lib.hid hlf
  have hzm : z ≤ m * b := block_ge hb1 HM.out
  have HZM := Lib.hid hzm
  clear hf hbd hlf hixT hixe hsh hzm
  go_enter Tryz.func14, Tryz.ntmps14
  go_wp2_with fail
  refine (V1.out _).mono ?_
  rintro e w1 ⟨rfl, q1, rfl⟩
  go_wp2_with fail
  refine (V2.out _).mono ?_
  rintro e w2 ⟨rfl, q2, rfl⟩
  have B2 := Lib.hid (below_drewN (below_drewN B0.out q1) q2)
  generalize ((w.drewN q1).drewN q2) = w2 at *
  clear V1 V2 B0
  go_wp2_with fail
  clear d1 d2 d2' d3 d3' d4 d4' hd hd2 hne hne2 hq hk12 hk8 hix hql lb lz hm16
  go_loopg [7, 9, 55] m (fun gk s7 s9 s55 wr => ∃ i p : Nat, ∃ out : ByteArray, s7 = .int .i64 (p : Int) ∧ s9 = .string out ∧ s55 = .int .i64 (i : Int) ∧ i + gk = m ∧ 4 ≤ p ∧ p ≤ ix ∧ Ep bd b z m f i out.data.toList ((T.take ix).drop p) ∧ out.size ≤ i * 16384 ∧ Below w.heap.size w wr)
  case atStart => exact ⟨0, 4, ⟨#[]⟩, rfl, rfl, rfl, by omega, Nat.le_refl _, by omega, by rw [HBD.out]; exact Ep.start _ _ _ _ _, by decide, B2.out⟩
  case round =>
    clear B2
    obtain ⟨i, p, out, rfl, rfl, rfl, him, hp4, hpx, hE, hoz, hB⟩ := hrel
    have HE := Lib.hid hE
    have HB := Lib.hid hB
    have hbs := hB.size
    have hoz2 : out.size ≤ 16400000 := by omega
    clear hE hB
    by_cases hlt : i < m
    · have hdi : decide ((i : Int) < (m : Int)) = true := decide_eq_true (by omega)
      have hdi2 : decide (i < m) = true := decide_eq_true hlt
      have hilt : i * b < z := block_lt hb1 HM.out hlt
      have HILT := Lib.hid hilt
      clear hilt
      have hi996 : i ≤ 996 := by omega
      obtain ⟨q, hq⟩ : ∃ q : Nat, (ix : Int) + 4 * (i : Int) = (q : Int) := ⟨ix + 4 * i, by omega⟩
      have hqn : q = ix + 4 * i := by omega
      have hq4 : q ≤ 4000 := by have := HIXE.out; omega
      obtain ⟨v, hv⟩ : ∃ v, f i = v := ⟨_, rfl⟩
      have hvq : w4 T q = v := by rw [← hv, HF.out, hqn]
      have lv : v < 4294967296 := by rw [← hv]; exact HLF.out i
      have WQ := fun w => wordAt_ok t q w (by have := HIXE.out; omega) (by omega)
      rw [HT.out, hvq] at WQ
      have VQ := Lib.hid WQ
      clear WQ
      have HV := Lib.hid hv
      clear hvq hv hqn
      have hand := i64_and31 v lv
      obtain ⟨k, hk⟩ : ∃ k, v % 2147483648 = k := ⟨_, rfl⟩
      have hk31 : k < 2147483648 := by omega
      rw [hk] at hand
      have handv : (Value.int .i64 (bits .and .i64 (v : Int) 2147483647)) = Value.int .i64 (k : Int) := by rw [hand]
      clear hand
      have HK := Lib.hid (show f i % 2147483648 = k by rw [HV.out]; exact hk)
      clear hk
      have hrl : ((T.take ix).drop p).length = ix - p := by
        rw [List.length_drop, List.length_take, ← HTL.out]
        have := HIXE.out
        omega
      have HRL := Lib.hid hrl
      clear hrl
      obtain ⟨pl, hpl⟩ : ∃ pl : Bool, decide ((v : Int) ≥ 2147483648) = pl := ⟨_, rfl⟩
      go_wp2_with fail
      refine (VQ.out _).mono ?_
      rintro e w3 ⟨rfl, q3, rfl⟩
      have HB3 := Lib.hid (below_drewN HB.out q3)
      clear HB hbs VQ hq
      generalize wr.drewN q3 = w3 at *
      have hbs3 := HB3.out.size
      go_upto_region 17 with (fail)
      clear handv
      by_cases hpk : ix < p + k
      · have hdp : decide ((p : Int) + (k : Int) > (ix : Int)) = true := decide_eq_true (by omega)
        have hdp2 : decide (ix < p + k) = true := decide_eq_true hpk
        have HNG := Lib.hid (show NoGood T from fun b' o g => by
          obtain ⟨_, g2, g3, g4⟩ := HGE.out b' o g
          exact HE.out.short hb1 hb2 hlt HILT.out (by rw [HRL.out, HK.out]; omega) g2 g3 g4)
        clear HE
        go_wp2_with fail
        go_ret2
        exact XTPost.bad _ HNG.out HB3.out
      · have hdp : decide ((p : Int) + (k : Int) > (ix : Int)) = false := decide_eq_false (by omega)
        have hdp2 : decide (ix < p + k) = false := decide_eq_false hpk
        obtain ⟨pc, hpc⟩ : ∃ pc, t.extract p (p + k) = pc := ⟨_, rfl⟩
        have hpcl : pc.data.toList = ((T.take ix).drop p).take k := by
          rw [← hpc, ex_listC, HT.out, show p + k - p = k by omega, List.drop_take, List.take_take]
          congr 1
          omega
        have hpcz : pc.size = k := by rw [Lib.size_eq, hpcl, List.length_take, HRL.out]; omega
        have HPCL := Lib.hid hpcl
        have HPCZ := Lib.hid hpcz
        have hrd : ((T.take ix).drop p).drop k = (T.take ix).drop (p + k) := by rw [List.drop_drop]
        have HRD := Lib.hid hrd
        have hpk1 : (p : Int) + (k : Int) ≤ (t.size : Int) := by have := HIXE.out; omega
        have hpk2 : (0 : Int) ≤ (p : Int) + (k : Int) := by omega
        have hpk3 : (p : Int) ≤ (p : Int) + (k : Int) := by omega
        have hpk4 : ((p : Int) + (k : Int)).toNat = p + k := by omega
        have hk4000 : k ≤ 4000 := by have := HIXE.out; omega
        have hpcs : pc.size ≤ 4000 := by omega
        clear hpcl hpcz hrd
        by_cases hplain : 2147483648 ≤ v
        · have hpt : pl = true := by rw [← hpl]; exact decide_eq_true (by omega)
          subst hpt
          have HE2 := Lib.hid (HE.out.plain hb1 hb2 hlt HILT.out (by rw [HV.out]; exact hplain))
          clear HE
          have hsum : out.size + pc.size ≤ 100000000 := by omega
          go_wp2_with fail
          go_roundg (gk - 1)
          case measure => omega
          case rel =>
            refine ⟨i + 1, p + k, out ++ pc, by go_num, rfl, by go_num, by omega, by omega, by omega, ?_, by rw [ByteArray.size_append]; omega, HB3.out⟩
            have h1 := HE2.out
            rw [HK.out, HRD.out, ← HPCL.out] at h1
            have : (out ++ pc).data.toList = out.data.toList ++ pc.data.toList := by simp
            rw [this]
            exact h1
        · have hpt : pl = false := by rw [← hpl]; exact decide_eq_false (by omega)
          subst hpt
          go_wp2_with fail
          refine (unsqueezed_ok pc b w3 hb2 (by omega)).mono ?_
          rintro e w4 ⟨⟨x, ok, rfl, hxz, hxd⟩, hb4⟩
          have HB4 := Lib.hid (HB3.out.trans (hb4.mono hbs3))
          have hdec := HE.out.dec hb1 hb2 hlt HILT.out (by rw [HV.out]; omega) x.data.toList ok (fun o ho hl => by
            rw [HK.out, ← HPCL.out] at ho
            exact hxd o ho (by omega))
          rw [HK.out, HRD.out] at hdec
          have HDEC := Lib.hid hdec
          clear hxd hb4 hdec HB3 hbs3 HE
          cases ok
          · have HNG := Lib.hid (show NoGood T from fun b' o g => by
              obtain ⟨_, g2, g3, g4⟩ := HGE.out b' o g
              exact HDEC.out.2 rfl o g2 g3 g4)
            clear HDEC
            go_wp2_with fail
            go_ret2
            exact XTPost.bad _ HNG.out HB4.out
          · have HE2 := Lib.hid (HDEC.out.1 rfl)
            clear HDEC
            have hsum : out.size + x.size ≤ 100000000 := by omega
            go_wp2_with fail
            go_roundg (gk - 1)
            case measure => omega
            case rel =>
              refine ⟨i + 1, p + k, out ++ x, by go_num, rfl, by go_num, by omega, by omega, by omega, ?_, by rw [ByteArray.size_append]; omega, HB4.out⟩
              have : (out ++ x).data.toList = out.data.toList ++ x.data.toList := by simp
              rw [this]
              exact HE2.out
    · have hdi : decide ((i : Int) < (m : Int)) = false := decide_eq_false (by omega)
      have hdi2 : decide (i < m) = false := decide_eq_false hlt
      have hie : i = m := by omega
      have HIE := Lib.hid hie
      clear hie
      have C := Lib.hid (refText_ok b out wr hb1 hb2 (by omega))
      go_wp2_with fail
      refine C.out.mono ?_
      rintro e w4 ⟨rfl, hb4⟩
      have HB4 := Lib.hid (HB.out.trans (hb4.mono hbs))
      clear hb4 HB hbs C
      obtain ⟨sq, hsq⟩ : ∃ sq : ByteArray, (⟨(sqT b out.data.toList).toArray⟩ : ByteArray) = sq := ⟨_, rfl⟩
      rw [hsq]
      have HSQ := Lib.hid (show sq.data.toList = sqT b out.data.toList by rw [← hsq])
      clear hsq
      by_cases heq : sq = t
      · have HG := Lib.hid (show Good T b out.data.toList from sqT_good hb1 hb2 (by rw [← Lib.size_eq]; omega) (by rw [HZZ.out]; exact hz1) (by rw [← HSQ.out, heq, HT.out]))
        subst heq
        go_wp2_with fail
        go_ret2
        exact ⟨⟨out, true, rfl, Or.inl ⟨rfl, b, HG.out⟩⟩, HB4.out⟩
      · have HNG := Lib.hid (show NoGood T from fun b' o g => by
          obtain ⟨g1, g2, g3, g4⟩ := HGE.out b' o g
          have hE := HE.out
          rw [HIE.out] at hE
          have := (hE.done HZM.out g2 g3 g4).1
          apply heq
          apply ba_extC
          rw [HSQ.out, HT.out, this, ← g.2.2.2, g1])
        have hsb := str_ne heq
        go_wp2_with fail
        go_ret2
        exact XTPost.bad _ HNG.out HB4.out
end Go.Proofs.YtobiacdeoeogaaaGreatDoor
