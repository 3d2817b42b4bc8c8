import Derived.Test.YtobiacdeoeogaaaGreatDoorBv
import Derived.Test.YtobiacdeoeogaaaGreatDoorBx
import Derived.Test.YtobiacdeoeogaaaGreatDoorCg
set_option linter.unusedVariables false
set_option linter.unusedSimpArgs false
namespace Go.Proofs.YtobiacdeoeogaaaGreatDoor
open Go.RowKit
theorem info3 : (Tryz.prog.info? 3).map (fun i => (i.zero, i.size, i.bytes)) = some (some (.int .i64 0), 1, 8) := by kernel_rfl
theorem info4 : (Tryz.prog.info? 4).map (fun i => (i.zero, i.size, i.bytes)) = some (some (.bool false), 1, 1) := by kernel_rfl
theorem info83 : (Tryz.prog.info? 83).map (·.size) = some 4 := by kernel_rfl
/-- the lengths, and whether a block stands as it is. -/
def lensV (f : Nat → Nat) (m : Nat) : List Value := (List.range m).map fun i => .int .i64 ((f i % 2147483648 : Nat) : Int)
def asV (f : Nat → Nat) (m : Nat) : List Value := (List.range m).map fun i => .bool (decide (2147483648 ≤ f i))
theorem lensV_next (f : Nat → Nat) (m : Nat) : lensV f (m + 1) = lensV f m ++ [.int .i64 ((f m % 2147483648 : Nat) : Int)] := by simp [lensV, List.range_succ]
theorem asV_next (f : Nat → Nat) (m : Nat) : asV f (m + 1) = asV f m ++ [.bool (decide (2147483648 ≤ f m))] := by simp [asV, List.range_succ]
theorem lensV_at {f : Nat → Nat} {m i : Nat} (h : i < m) : (lensV f m)[i]? = some (.int .i64 ((f i % 2147483648 : Nat) : Int)) := by simp [lensV, h]
theorem asV_at {f : Nat → Nat} {m i : Nat} (h : i < m) : (asV f m)[i]? = some (.bool (decide (2147483648 ≤ f i))) := by simp [asV, h]
theorem own_apart {w w' : World} {B1 B2 e1 e2 n1 n2 : Nat} {v1 v2 : Value} {xs1 xs2 : List Value} (h1 : w.ownsRow B1 e1 1 v1 n1 xs1) (h2 : w.ownsRow B2 e2 1 v2 n2 xs2) (hne : e1 ≠ e2) (hg : w.grownBy w' v2.ownBlock) : w'.ownsRow B1 e1 1 v1 n1 xs1 :=
  own_same h1 (fun g hv => hg.block g (own_lt h1 hv).2 (fun e => by
    obtain ⟨c1, k1⟩ := own_nu h1 hv
    obtain ⟨c2, k2⟩ := own_nu h2 e.symm
    rw [k1] at k2
    injection k2 with k2
    injection k2 with _ k2
    exact hne k2))
theorem own_not {w : World} {B e n b : Nat} {v : Value} {xs : List Value} {t : TypeId} {cs : Array Value} (h : w.ownsRow B e 1 v n xs) (hB : Blk w b t cs) (hte : t ≠ e) : v.ownBlock ≠ some b := fun hv => by
  obtain ⟨c1, k1⟩ := own_nu h hv
  unfold Blk at hB
  rw [k1] at hB
  injection hB with k2
  injection k2 with _ k2
  exact hte k2.symm
/-- what is read behind the blocks. -/
def RTail (S : List UInt8) (b z m whole : Nat) (w : World) (e : Ending) (w' : World) : Prop :=
  (S.drop (S.length - 4) ≠ wordB ((crcOf (S.take (S.length - 4)) : Nat) : Int) ∧ e = .returned (.tuple #[.agg #[.int .i64 0, .int .i64 0, .slice none 0 0, .slice none 0 0], .bool false]) ∧ Below w.heap.size w w') ∨
  (S.drop (S.length - 4) = wordB ((crcOf (S.take (S.length - 4)) : Nat) : Int) ∧ ∃ v1 v2, e = .returned (.tuple #[.agg #[.int .i64 (b : Int), .int .i64 (z : Int), v1, v2], .bool (decide (4 + S.length + sumL S m = whole))]) ∧
    w'.ownsRow w.heap.size 3 1 v1 m (lensV (fun k => w4 S (4 * k)) m) ∧ w'.ownsRow w.heap.size 4 1 v2 m (asV (fun k => w4 S (4 * k)) m) ∧ Below w.heap.size w w')
set_option maxRecDepth 100000 in
set_option maxHeartbeats 16000000 in
theorem readTail_ok (s : ByteArray) (b z m whole : Nat) (w : World) (S : List UInt8) (hS : s.data.toList = S) (hs : s.size = 4 * m + 12) (hs2 : s.size ≤ 300000) (hb1 : 16 ≤ b) (hb2 : b ≤ 16384) (hz1 : z ≤ 1048576) (hm : (z + b - 1) / b = m) (e1 : w4 S (s.size - 12) = b) (e2 : w4 S (s.size - 8) = z) (hw : whole ≤ 1000000000) :
    Calls Tryz.prog 32 #[.string s, .int .i64 (whole : Int)] w fun e w' => RTail S b z m whole w e w' := by
  have hSl : s.size = S.length := by rw [← hS]; exact Lib.size_eq s
  have HS := Lib.hid hS
  have HSL := Lib.hid hSl
  have hm1 : m ≤ 100000 := by omega
  have RE := Lib.hid (fun w => readEnd_ok s w (by omega) (by omega) b z true (by rw [hS]; exact e1) (by rw [hS]; exact e2) (by simp; omega))
  have TL := fun w => tailLength_ok z b w (by omega) (by omega) (by omega)
  have BL := fun w => blocksOf_gen z b w (by omega) (by omega) (by omega)
  rw [hm] at TL BL
  rw [← hs] at TL
  have GT := Lib.hid TL
  have GB := Lib.hid BL
  obtain ⟨k, hk⟩ : ∃ k : Nat, (s.size : Int) - 4 = (k : Int) := ⟨s.size - 4, by omega⟩
  have hkn : k = s.size - 4 := by omega
  have hk4 : k ≤ s.size := by omega
  have hk5 : (k : Int) ≤ (s.size : Int) := by omega
  have hk6 : (0 : Int) ≤ (k : Int) := by omega
  have hk7 : ¬ s.size < k := by omega
  obtain ⟨s1, h1⟩ : ∃ s1, s.extract 0 k = s1 := ⟨_, rfl⟩
  obtain ⟨s2, h2⟩ : ∃ s2, s.extract k s.size = s2 := ⟨_, rfl⟩
  have l1 : s1.data.toList = S.take (S.length - 4) := by rw [← h1, ex_listC, hS, List.drop_zero, Nat.sub_zero, hkn, hSl]
  have l2 : s2.data.toList = S.drop (S.length - 4) := by rw [← h2, ex_listC, hS, hkn, hSl, List.take_of_length_le (by rw [List.length_drop]; omega)]
  have z1 : s1.size ≤ 1048576 := by rw [← h1]; simp; omega
  obtain ⟨cb, hcb⟩ : ∃ cb : ByteArray, (⟨(wordB ((crcOf s1.data.toList : Nat) : Int)).toArray⟩ : ByteArray) = cb := ⟨_, rfl⟩
  have CB := fun w => crcBytesA_ok s1 w z1
  rw [hcb] at CB
  have GC := Lib.hid CB
  have HCB := Lib.hid (show cb.data.toList = wordB ((crcOf (S.take (S.length - 4)) : Nat) : Int) by rw [← hcb, l1])
  have HL2 := Lib.hid l2
  have HM := Lib.hid hs
  have hcbz : cb.size = 4 := by rw [← hcb]; rfl
  clear TL BL CB hcb l1 l2 hS hSl hs hm e1 e2 hkn hcbz
  go_enter Tryz.func32, Tryz.ntmps32
  go_wp2_with fail
  refine (RE.out _).mono ?_
  rintro e w1 ⟨rfl, q1, rfl⟩
  have HR1 := Lib.hid (show Blk ((w.alloc (.cells #[.int .i64 0, .int .i64 0, .slice none 0 0, .slice none 0 0] 83)).drewN q1) w.heap.size 83 #[.int .i64 0, .int .i64 0, .slice none 0 0, .slice none 0 0] from ((Kp.refl [] _).drewN q1).blk (Blk.new w _ _) (by simp))
  have HB1 := Lib.hid (below_drewN ((Below.refl w.heap.size w).alloc (Nat.le_refl _) (.cells #[.int .i64 0, .int .i64 0, .slice none 0 0, .slice none 0 0] 83)) q1)
  generalize (w.alloc _).drewN q1 = w1 at *
  generalize hrb : w.heap.size = rb at *
  have HRB := Lib.hid hrb
  clear hrb RE
  have hbs1 : rb ≤ w1.heap.size := by rw [← HRB.out]; exact HB1.out.size
  have hrw1 := HR1.out.lt
  go_upto_region 3 with (fail)
  by_cases hcr : cb = s2
  · have hne : (cb.toList != s2.toList) = false := by rw [hcr]; simp
    go_region_held3 (fun wx => Below w1.heap.size w1 wx) (first | assumption | exact (Below.refl _ _).drew | exact Below.drew (by assumption) | exact Below.trans (by assumption) (Below.mono hb3 (Below.size (by assumption)))) (first | (go_at_call 31; refine (GT.out _).mono ?_; rintro e w2 ⟨rfl, rfl⟩) | (go_at_call 25; refine (GC.out _).mono ?_; rintro e w3 ⟨rfl, hb3⟩))
    have hh : Below w1.heap.size w1 w3 := by assumption
    have HB3 := Lib.hid (HB1.out.trans (hh.mono hbs1))
    have HR3 := Lib.hid (HR1.out.below hh hrw1)
    have hbs3 : rb ≤ w3.heap.size := by rw [← HRB.out]; exact HB3.out.size
    clear hb3 hh HB1 HR1 hbs1 hne GT GC
    rename_i hHeld
    clear hHeld
    go_wp2_with fail
    refine (GB.out _).mono ?_
    rintro e w4 ⟨rfl, rfl⟩
    have HX4 := Lib.hid (Blk.new w3 83 #[.int .i64 (b : Int), .int .i64 (z : Int), .slice none 0 0, .slice none 0 0])
    have HR4 := Lib.hid (HR3.out.old (.cells #[.int .i64 (b : Int), .int .i64 (z : Int), .slice none 0 0, .slice none 0 0] 83))
    have HB4 := Lib.hid (HB3.out.alloc hbs3 (.cells #[.int .i64 (b : Int), .int .i64 (z : Int), .slice none 0 0, .slice none 0 0] 83))
    have hrx : rb < w3.heap.size := HR3.out.lt
    clear HR3 HB3 hbs3 hrw1
    generalize (w3.alloc _) = wq at *
    generalize w3.heap.size = xb at *
    obtain ⟨f, hf⟩ : ∃ f : Nat → Nat, f = fun k => w4 S (4 * k) := ⟨_, rfl⟩
    have HF := Lib.hid hf
    have hrx2 : xb ≠ rb := by omega
    have hrx3 : rb ≤ xb := by omega
    have HCRC := Lib.hid (show S.drop (S.length - 4) = wordB ((crcOf (S.take (S.length - 4)) : Nat) : Int) by rw [← HL2.out, ← hcr, HCB.out])
    clear hf hcr HCB HL2
    obtain ⟨i3, j0, j1, j2, j3⟩ := info_parts info3
    obtain ⟨i4, p0, p1, p2, p3⟩ := info_parts info4
    go_wp2_with fail
    go_loopg [11, 53] m (fun gk s11 s53 wr => ∃ i tot : Nat, ∃ v1 v2 : Value, s11 = .int .i64 (tot : Int) ∧ s53 = .int .i64 (i : Int) ∧ tot = 4 + s.size + sumL S i ∧ i + gk = m ∧ Blk wr xb 83 #[.int .i64 (b : Int), .int .i64 (z : Int), v1, v2] ∧ wr.ownsRow rb 3 1 v1 i (lensV f i) ∧ wr.ownsRow rb 4 1 v2 i (asV f i) ∧ Blk wr rb 83 #[.int .i64 0, .int .i64 0, .slice none 0 0, .slice none 0 0] ∧ Below rb w wr)
    case atStart => exact ⟨0, 4 + s.size, .slice none 0 0, .slice none 0 0, by first | rfl | go_num | (congr 1; omega), rfl, rfl, by omega, HX4.out, World.ownsRow_nil _ _ _ _, World.ownsRow_nil _ _ _ _, HR4.out, HB4.out⟩
    case round =>
      clear HX4 HR4 HB4
      obtain ⟨i, tot, v1, v2, rfl, rfl, htot, him, hX, hO1, hO2, hR, hB⟩ := hrel
      have htl := sumL_le S i
      have htb : tot ≤ 300000000000000 := by omega
      have HTOT := Lib.hid htot
      have HX := Lib.hid hX
      have HO1 := Lib.hid hO1
      have HO2 := Lib.hid hO2
      have HR := Lib.hid hR
      have HB := Lib.hid hB
      have hbs : rb ≤ wr.heap.size := by rw [← HRB.out]; exact hB.size
      clear hX hO1 hO2 hR hB htot htl
      by_cases hlt : i < m
      · have hdi : decide ((i : Int) < (m : Int)) = true := decide_eq_true (by omega)
        have hdi2 : decide (i < m) = true := decide_eq_true hlt
        have hi1 : i ≤ 100000 := by omega
        obtain ⟨q, hq⟩ : ∃ q : Nat, 4 * (i : Int) = (q : Int) := ⟨4 * i, by omega⟩
        have hqn : q = 4 * i := by omega
        have hqb : q + 12 ≤ s.size := by have := HM.out; omega
        have hqc : (q : Int) ≤ (s.size : Int) := by omega
        obtain ⟨pc, hpc⟩ : ∃ pc, s.extract q s.size = pc := ⟨_, rfl⟩
        have hpl1 : pc.data.toList = S.drop q := by
          rw [← hpc, ex_listC, HS.out, List.take_of_length_le (by rw [List.length_drop, HSL.out]; omega)]
        have hpz : 4 ≤ pc.size := by rw [Lib.size_eq, hpl1, List.length_drop, ← HSL.out]; omega
        obtain ⟨v, hv⟩ : ∃ v, f i = v := ⟨_, rfl⟩
        have lv : v < 4294967296 := by rw [← hv, HF.out]; exact w4_ltX _ _
        have FN := fun w => fourNumber_ok pc w hpz
        rw [hpl1, w4_dropX, Nat.add_zero, hqn, show w4 S (4 * i) = v by rw [← hv, HF.out]] at FN
        have GN := Lib.hid FN
        have HV := Lib.hid hv
        have HVW := Lib.hid (show w4 S (4 * i) = v by rw [← hv, HF.out])
        have hand := i64_and31 v lv
        obtain ⟨kk, hkk⟩ : ∃ kk, v % 2147483648 = kk := ⟨_, rfl⟩
        have hk31 : kk < 2147483648 := by omega
        rw [hkk] at hand
        have handv : (Value.int .i64 (bits .and .i64 (v : Int) 2147483647)) = Value.int .i64 (kk : Int) := by rw [hand]
        have HK := Lib.hid hkk
        obtain ⟨pl, hpl⟩ : ∃ pl : Bool, decide ((v : Int) ≥ 2147483648) = pl := ⟨_, rfl⟩
        have HPL := Lib.hid (show pl = decide (2147483648 ≤ v) by rw [← hpl]; congr 1; simp; omega)
        have HAND := Lib.hid handv
        clear hpl1 hv FN hand handv hkk hqn
        obtain ⟨y1, d1, hy1⟩ := own_sliceC HO1.out
        obtain ⟨y2, d2, hy2⟩ := own_sliceC HO2.out
        subst hy1
        subst hy2
        go_wp2_with fail
        refine (GN.out _).mono ?_
        rintro e wx ⟨rfl, q2, rfl⟩
        have kq := (Kp.refl [] wr).drewN q2
        have HX1 := Lib.hid (kq.blk HX.out (by simp))
        have HR1 := Lib.hid (kq.blk HR.out (by simp))
        have HP1 := Lib.hid (own_kp HO1.out kq (fun _ _ => by simp))
        have HP2 := Lib.hid (own_kp HO2.out kq (fun _ _ => by simp))
        have HB1 := Lib.hid (below_drewN HB.out q2)
        clear HX HR HO1 HO2 HB hbs GN kq
        generalize wr.drewN q2 = wd at *
        have hbs : rb ≤ wd.heap.size := by rw [← HRB.out]; exact HB1.out.size
        have x3 := HX1.out.cell 3
        simp at x3
        go_wp2_with (at_builtin; refine wpList_append_lies _ rfl _ _ 81 rfl rb 4 i4 (.bool false) 1 1 Tryz.underlying81 p0 p1 p2 p3 rfl (by decide) _ _ _ rfl (HP2.out.alloc _) _ 1 1 [.bool pl] (by rfl) (by rfl) (World.news_of_block (cs := #[.bool pl]) (t := 4) (fr := (0, 0)) (heap_alloc_new _ _)) (by simp [Value.oneCell']) (by decide) (by unfold maxLen; omega) (by omega) ?c5 _ rfl ?_)
        case c5 => exact Nat.le_trans hbs (by simp)
        intro g2 cap2 wa hown hgrow hat hltg
        have hown2 : wa.ownsRow rb 4 1 (.slice (some ⟨g2, 0, none⟩) (i + 1) cap2) (i + 1) (asV f (i + 1)) := by
          rw [asV_next, HV.out, ← HPL.out]
          exact hown
        have HXa := Lib.hid (show Blk wa xb 83 _ from (hgrow.block xb (by have := HX1.out.lt; simp; omega) (fun e => own_not HP2.out HX1.out (by decide) e.symm)).trans (HX1.out.old _))
        have HRa := Lib.hid (show Blk wa rb 83 _ from (hgrow.block rb (by have := HR1.out.lt; simp; omega) (fun e => own_not HP2.out HR1.out (by decide) e.symm)).trans (HR1.out.old _))
        have HP1a := Lib.hid (own_apart (HP1.out.alloc _) (HP2.out.alloc _) (by decide) hgrow)
        have HP2a := Lib.hid hown2
        have HBa := Lib.hid (own_grown (HB1.out.alloc hbs _) (HP2.out.alloc _) hgrow (Nat.le_trans hbs (by simp)))
        clear hown hown2 hgrow hat hltg HX1 HR1 HP1 HP2 HB1 hbs x3 hpl
        have x3 := HXa.out.cell 3
        have y3 := HXa.out.frozen 3
        simp at x3
        go_upto_region 12 with (fail)
        have k3 : Kp [xb] wa (wa.setCell ⟨xb, 3, none⟩ (.slice (some ⟨g2, 0, none⟩) (i + 1) cap2)) := (Kp.refl _ wa).setCell _ _ (Or.inl (by simp))
        have HXb := Lib.hid (show Blk (wa.setCell ⟨xb, 3, none⟩ (.slice (some ⟨g2, 0, none⟩) (i + 1) cap2)) xb 83 #[.int .i64 (b : Int), .int .i64 (z : Int), .slice y1 i d1, .slice (some ⟨g2, 0, none⟩) (i + 1) cap2] from HXa.out.set 3 _)
        have HRb := Lib.hid (k3.blk HRa.out (by simpa using fun e => hrx2 e.symm))
        have HP1b := Lib.hid (own_kp HP1a.out k3 (fun x hx => by simp only [List.mem_singleton]; rintro rfl; exact own_not HP1a.out HXa.out (by decide) hx))
        have HP2b := Lib.hid (own_kp HP2a.out k3 (fun x hx => by simp only [List.mem_singleton]; rintro rfl; exact own_not HP2a.out HXa.out (by decide) hx))
        have HBb := Lib.hid (HBa.out.setCell (p := ⟨xb, 3, none⟩) hrx3 (.slice (some ⟨g2, 0, none⟩) (i + 1) cap2))
        clear k3 HXa HRa HP1a HP2a HBa x3 y3
        generalize (wa.setCell ⟨xb, 3, none⟩ (.slice (some ⟨g2, 0, none⟩) (i + 1) cap2)) = wb at *
        have hbs : rb ≤ wb.heap.size := by rw [← HRB.out]; exact HBb.out.size
        have x2 := HXb.out.cell 2
        simp at x2
        have handv := HAND.out
        go_wp2_with (at_builtin; refine wpList_append_lies _ rfl _ _ 80 rfl rb 3 i3 (.int .i64 0) 1 8 Tryz.underlying80 j0 j1 j2 j3 rfl (by decide) _ _ _ rfl (HP1b.out.alloc _) _ 1 1 [.int .i64 (kk : Int)] (by rfl) (by rfl) (World.news_of_block (cs := #[.int .i64 (kk : Int)]) (t := 3) (fr := (0, 0)) (heap_alloc_new _ _)) (by simp [Value.oneCell']) (by decide) (by unfold maxLen; omega) (by omega) ?c6 _ rfl ?_)
        case c6 => exact Nat.le_trans hbs (by simp)
        intro g3 cap3 wc hown hgrow hat hltg
        clear handv HAND
        have hown2 : wc.ownsRow rb 3 1 (.slice (some ⟨g3, 0, none⟩) (i + 1) cap3) (i + 1) (lensV f (i + 1)) := by
          rw [lensV_next, HV.out, HK.out]
          exact hown
        have HXc := Lib.hid (show Blk wc xb 83 _ from (hgrow.block xb (by have := HXb.out.lt; simp; omega) (fun e => own_not HP1b.out HXb.out (by decide) e.symm)).trans (HXb.out.old _))
        have HRc := Lib.hid (show Blk wc rb 83 _ from (hgrow.block rb (by have := HRb.out.lt; simp; omega) (fun e => own_not HP1b.out HRb.out (by decide) e.symm)).trans (HRb.out.old _))
        have HP2c := Lib.hid (own_apart (HP2b.out.alloc _) (HP1b.out.alloc _) (by decide) hgrow)
        have HP1c := Lib.hid hown2
        have HBc := Lib.hid (own_grown (HBb.out.alloc hbs _) (HP1b.out.alloc _) hgrow (Nat.le_trans hbs (by simp)))
        clear hown hown2 hgrow hat hltg HXb HRb HP1b HP2b HBb hbs x2
        have x2 := HXc.out.cell 2
        have y2 := HXc.out.frozen 2
        simp at x2
        go_upto_region 13 with (fail)
        have k3 : Kp [xb] wc (wc.setCell ⟨xb, 2, none⟩ (.slice (some ⟨g3, 0, none⟩) (i + 1) cap3)) := (Kp.refl _ wc).setCell _ _ (Or.inl (by simp))
        have HXd := Lib.hid (show Blk (wc.setCell ⟨xb, 2, none⟩ (.slice (some ⟨g3, 0, none⟩) (i + 1) cap3)) xb 83 #[.int .i64 (b : Int), .int .i64 (z : Int), .slice (some ⟨g3, 0, none⟩) (i + 1) cap3, .slice (some ⟨g2, 0, none⟩) (i + 1) cap2] from HXc.out.set 2 _)
        have HRd := Lib.hid (k3.blk HRc.out (by simpa using fun e => hrx2 e.symm))
        have HP1d := Lib.hid (own_kp HP1c.out k3 (fun x hx => by simp only [List.mem_singleton]; rintro rfl; exact own_not HP1c.out HXc.out (by decide) hx))
        have HP2d := Lib.hid (own_kp HP2c.out k3 (fun x hx => by simp only [List.mem_singleton]; rintro rfl; exact own_not HP2c.out HXc.out (by decide) hx))
        have HBd := Lib.hid (HBc.out.setCell (p := ⟨xb, 2, none⟩) hrx3 (.slice (some ⟨g3, 0, none⟩) (i + 1) cap3))
        clear k3 HXc HRc HP1c HP2c HBc x2 y2
        generalize (wc.setCell ⟨xb, 2, none⟩ (.slice (some ⟨g3, 0, none⟩) (i + 1) cap3)) = we at *
        have x2 := HXd.out.cell 2
        simp at x2
        have hcell : we.cell? ⟨g3, i, none⟩ = some (.int .i64 (kk : Int)) := by
          have := own_cellC (i := i) HP1d.out (lensV_at (Nat.lt_succ_self i))
          rw [HV.out, HK.out] at this
          exact this
        have hib : (i : Int) < ((i + 1 : Nat) : Int) := by omega
        have hib2 : (i : Int) < (i : Int) + 1 := by omega
        go_wp2_with fail
        go_roundg (gk - 1)
        case measure => omega
        case rel => exact ⟨i + 1, tot + kk, _, _, by first | rfl | go_num, by go_num, by show _ = 4 + s.size + (sumL S i + w4 S (4 * i) % 2147483648); rw [HVW.out, HK.out, HTOT.out]; omega, by omega, HXd.out, HP1d.out, HP2d.out, HRd.out, HBd.out⟩
      · have hdi : decide ((i : Int) < (m : Int)) = false := decide_eq_false (by omega)
        have hdi2 : decide (i < m) = false := decide_eq_false hlt
        have him2 : i = m := by omega
        subst him2
        have x0 := HX.out.cell 0
        have x1 := HX.out.cell 1
        have x2 := HX.out.cell 2
        have x3 := HX.out.cell 3
        simp at x0 x1 x2 x3
        have r0 := HR.out.cell 0
        have r1 := HR.out.cell 1
        have r2 := HR.out.cell 2
        have r3 := HR.out.cell 3
        have f0 := HR.out.frozen 0
        have f1 := HR.out.frozen 1
        have f2 := HR.out.frozen 2
        have f3 := HR.out.frozen 3
        simp at r0 r1 r2 r3
        obtain ⟨ok, hok⟩ : ∃ ok : Bool, ((tot : Int) == (whole : Int)) = ok := ⟨_, rfl⟩
        have HOK := Lib.hid (show ok = decide (4 + S.length + sumL S i = whole) by
          rw [← hok, ← HSL.out, ← HTOT.out, Bool.eq_iff_iff, beq_iff_eq, decide_eq_true_iff]
          omega)
        obtain ⟨y1, d1, hy1⟩ := own_sliceC HO1.out
        obtain ⟨y2, d2, hy2⟩ := own_sliceC HO2.out
        subst hy1
        subst hy2
        go_wp2_with fail
        have HR4 := Lib.hid ((((HR.out.set 0 (.int .i64 (b : Int))).set 1 (.int .i64 (z : Int))).set 2 (.slice y1 i d1)).set 3 (.slice y2 i d2))
        have hle := Nat.le_refl rb
        have HB4 := Lib.hid ((((HB.out.setCell (p := ⟨rb, 0, none⟩) hle (.int .i64 (b : Int))).setCell (p := ⟨rb, 1, none⟩) hle (.int .i64 (z : Int))).setCell (p := ⟨rb, 2, none⟩) hle (.slice y1 i d1)).setCell (p := ⟨rb, 3, none⟩) hle (.slice y2 i d2))
        have k4 := ((((Kp.refl [rb] wr).setCell ⟨rb, 0, none⟩ (.int .i64 (b : Int)) (Or.inl (by simp))).setCell ⟨rb, 1, none⟩ (.int .i64 (z : Int)) (Or.inl (by simp))).setCell ⟨rb, 2, none⟩ (.slice y1 i d1) (Or.inl (by simp))).setCell ⟨rb, 3, none⟩ (.slice y2 i d2) (Or.inl (by simp))
        have HP1 := Lib.hid (own_kp HO1.out k4 (fun x hx => by simp only [List.mem_singleton]; rintro rfl; exact own_not HO1.out HR.out (by decide) hx))
        have HP2 := Lib.hid (own_kp HO2.out k4 (fun x hx => by simp only [List.mem_singleton]; rintro rfl; exact own_not HO2.out HR.out (by decide) hx))
        refine bodyPost_ret (v := .tuple #[.agg #[.int .i64 (b : Int), .int .i64 (z : Int), .slice y1 i d1, .slice y2 i d2], .bool ok]) (results_cell_tmp (p := 4) (u := 5) Tryz.results32 _ _ rb 83 _ (0, 0) _ rfl HR4.out Tryz.underlying83 rfl info83) rfl ?_
        have hfe := HF.out
        refine Or.inr ⟨HCRC.out, _, _, by rw [HOK.out], ?_, ?_, by rw [HRB.out]; exact HB4.out⟩
        · rw [HRB.out, ← hfe]; exact HP1.out
        · rw [HRB.out, ← hfe]; exact HP2.out
  · have hne := str_ne hcr
    go_region_held3 (fun wx => Below w1.heap.size w1 wx) (first | assumption | exact (Below.refl _ _).drew | exact Below.drew (by assumption) | exact Below.trans (by assumption) (Below.mono hb3 (Below.size (by assumption)))) (first | (go_at_call 31; refine (GT.out _).mono ?_; rintro e w2 ⟨rfl, rfl⟩) | (go_at_call 25; refine (GC.out _).mono ?_; rintro e w3 ⟨rfl, hb3⟩))
    have hh : Below w1.heap.size w1 w3 := by assumption
    have HB3 := Lib.hid (HB1.out.trans (hh.mono hbs1))
    have HR3 := Lib.hid (HR1.out.below hh hrw1)
    have hbs3 : rb ≤ w3.heap.size := by rw [← HRB.out]; exact HB3.out.size
    clear hb3 hh HB1 HR1 hbs1 hne GT GC
    rename_i hHeld
    clear hHeld
    have r0 := HR3.out.cell 0
    have r1 := HR3.out.cell 1
    have r2 := HR3.out.cell 2
    have r3 := HR3.out.cell 3
    have f0 := HR3.out.frozen 0
    have f1 := HR3.out.frozen 1
    have f2 := HR3.out.frozen 2
    have f3 := HR3.out.frozen 3
    simp at r0 r1 r2 r3
    go_wp2_with fail
    have HR4 := Lib.hid ((((HR3.out.set 0 (.int .i64 0)).set 1 (.int .i64 0)).set 2 (.slice none 0 0)).set 3 (.slice none 0 0))
    have hle := Nat.le_refl rb
    have HB4 := Lib.hid ((((HB3.out.setCell (p := ⟨rb, 0, none⟩) hle (.int .i64 0)).setCell (p := ⟨rb, 1, none⟩) hle (.int .i64 0)).setCell (p := ⟨rb, 2, none⟩) hle (.slice none 0 0)).setCell (p := ⟨rb, 3, none⟩) hle (.slice none 0 0))
    refine bodyPost_ret (v := .tuple #[.agg #[.int .i64 0, .int .i64 0, .slice none 0 0, .slice none 0 0], .bool false]) (results_cell_tmp (p := 4) (u := 5) Tryz.results32 _ _ rb 83 _ (0, 0) _ rfl HR4.out Tryz.underlying83 rfl info83) rfl ?_
    refine Or.inl ⟨fun e => hcr ?_, rfl, by rw [HRB.out]; exact HB4.out⟩
    apply ba_extC
    rw [HCB.out, HL2.out, e]
end Go.Proofs.YtobiacdeoeogaaaGreatDoor
