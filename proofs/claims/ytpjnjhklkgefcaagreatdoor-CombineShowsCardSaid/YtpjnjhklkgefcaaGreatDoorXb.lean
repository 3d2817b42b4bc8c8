import Derived.Test.YtpjnjhklkgefcaaGreatDoorAe
import Derived.Test.YtpjnjhklkgefcaaGreatDoorXa
import Derived.Laws.EntriesVeiled
set_option linter.unusedVariables false
set_option linter.unusedSimpArgs false
namespace Go.Proofs.YtpjnjhklkgefcaaGreatDoor
open Go.RowKit
set_option maxRecDepth 100000 in
set_option maxHeartbeats 4000000 in
theorem memFeaturesG_ok (m : Nat) (h sm pr mn mp ms pg ps : Int) (fb : ByteArray) (v9 v10 v11 v12 v13 v14 v15 v16 v17 v18 v19 : Value) (w : World) (hm : Blk w m 95 #[.int .i64 h, .int .i64 sm, .int .i64 pr, .int .i64 mn, .int .i64 mp, .int .i64 ms, .int .i64 pg, .int .i64 ps, .string fb, v9, v10, v11, v12, v13, v14, v15, v16, v17, v18, v19]) :
    Calls Tryz.prog 216 #[pt m] w fun e w' => e = .returned (.agg #[.int .i64 h, .int .i64 sm, .int .i64 pr, .int .i64 mn, .int .i64 mp, .int .i64 ms, .int .i64 pg, .int .i64 ps, .string fb]) ∧ Below w.heap.size w w' := by
  have c0 := hm.cell 0
  have c1 := hm.cell 1
  have c2 := hm.cell 2
  have c3 := hm.cell 3
  have c4 := hm.cell 4
  have c5 := hm.cell 5
  have c6 := hm.cell 6
  have c7 := hm.cell 7
  have c8 := hm.cell 8
  have hlt := hm.lt
  simp at c0 c1 c2 c3 c4 c5 c6 c7 c8
  clear hm
  go_enter Tryz.func216, Tryz.ntmps216
  go_wp2_with fail
  go_returns
  exact ⟨rfl, by go_grown⟩
/-- the features of a store that stands below B. -/
structure FeatG (h sm pr mn mp ms pg ps : Int) (fb : ByteArray) (m : Nat) (w : World) : Prop where
  h : ∃ v9 v10 v11 v12 v13 v14 v15 v16 v17 v18 v19, Blk w m 95 #[.int .i64 h, .int .i64 sm, .int .i64 pr, .int .i64 mn, .int .i64 mp, .int .i64 ms, .int .i64 pg, .int .i64 ps, .string fb, v9, v10, v11, v12, v13, v14, v15, v16, v17, v18, v19]
theorem FeatG.below {h sm pr mn mp ms pg ps : Int} {fb : ByteArray} {m : Nat} {w w' : World} (hf : FeatG h sm pr mn mp ms pg ps fb m w) (hb : Below w.heap.size w w') : FeatG h sm pr mn mp ms pg ps fb m w' := by
  obtain ⟨v9, v10, v11, v12, v13, v14, v15, v16, v17, v18, v19, hm⟩ := hf.h
  exact ⟨v9, v10, v11, v12, v13, v14, v15, v16, v17, v18, v19, hm.below hb hm.lt⟩
theorem FeatG.call {h sm pr mn mp ms pg ps : Int} {fb : ByteArray} {m : Nat} {w : World} (hf : FeatG h sm pr mn mp ms pg ps fb m w) : Calls Tryz.prog 216 #[pt m] w fun e w' => e = .returned (.agg #[.int .i64 h, .int .i64 sm, .int .i64 pr, .int .i64 mn, .int .i64 mp, .int .i64 ms, .int .i64 pg, .int .i64 ps, .string fb]) ∧ Below w.heap.size w w' := by
  obtain ⟨v9, v10, v11, v12, v13, v14, v15, v16, v17, v18, v19, hm⟩ := hf.h
  exact memFeaturesG_ok m _ _ _ _ _ _ _ _ _ _ _ _ _ _ _ _ _ _ _ _ w hm
theorem MemM.featG {B : Nat} {q : Mm} {made : Int} {w : World} {h sm pr mn mp ms pg ps : Int} {fb : ByteArray} (H : MemM B ⟨h, sm, pr, mn, mp, ms, pg, ps, fb⟩ q made w) : FeatG h sm pr mn mp ms pg ps fb q.m w := ⟨_, _, _, _, _, _, _, _, _, _, _, H.hm⟩
theorem field4G (h sm pr mn mp ms pg ps : Int) (fb : ByteArray) (w : World) : (Instr.field 33 (.agg #[.int .i64 h, .int .i64 sm, .int .i64 pr, .int .i64 mn, .int .i64 mp, .int .i64 ms, .int .i64 pg, .int .i64 ps, .string fb]) 4).run Tryz.prog w = .ok (.int .i64 mp) w := by kernel_rfl
set_option maxRecDepth 100000 in
set_option maxHeartbeats 4000000 in
theorem featuresG_ok (h sm pr mn mp ms pg ps : Int) (fb : ByteArray) (m : Nat) (w : World) (ha : bits .andNot .i64 h 1024 = h) (hf : FeatG h sm pr mn mp ms pg ps fb m w) : Calls Tryz.prog 70 #[.iface 29 (pt m)] w fun e w' => e = .returned (.agg #[.int .i64 h, .int .i64 sm, .int .i64 pr, .int .i64 mn, .int .i64 mp, .int .i64 ms, .int .i64 pg, .int .i64 ps, .string fb]) ∧ Below w.heap.size w w' := by
  have H := Lib.hid (fun wx (hb : Below w.heap.size w wx) => (hf.below hb).call)
  clear hf
  go_enter Tryz.func70, Tryz.ntmps70
  go_wp2_with fail
  have HR := Lib.hid (Blk.new w 33 #[.int .i64 0, .int .i64 0, .int .i64 0, .int .i64 0, .int .i64 0, .int .i64 0, .int .i64 0, .int .i64 0, .string ⟨#[]⟩])
  have HB := Lib.hid ((Below.refl w.heap.size w).alloc (Nat.le_refl _) (.cells #[.int .i64 0, .int .i64 0, .int .i64 0, .int .i64 0, .int .i64 0, .int .i64 0, .int .i64 0, .int .i64 0, .string ⟨#[]⟩] 33))
  generalize (w.alloc (.cells #[.int .i64 0, .int .i64 0, .int .i64 0, .int .i64 0, .int .i64 0, .int .i64 0, .int .i64 0, .int .i64 0, .string ⟨#[]⟩] 33)) = w1 at *
  generalize hrb : w.heap.size = rb at *
  have HRB := Lib.hid hrb
  clear hrb
  refine (H.out _ HB.out).mono ?_
  rintro e w2 ⟨rfl, hb⟩
  have hR := HR.out.below hb HR.out.lt
  have HB2 := Lib.hid (HB.out.trans (hb.mono (Nat.le_of_lt HR.out.lt)))
  have HR2 := Lib.hid hR
  have hlt := hR.lt
  have hne : rb ≠ w2.heap.size := by omega
  clear hb hR HR HB H
  go_wp2_with (refine wpList_store_row rfl 33 _ _ rfl rb #[.int .i64 h, .int .i64 sm, .int .i64 pr, .int .i64 mn, .int .i64 mp, .int .i64 ms, .int .i64 pg, .int .i64 ps, .string fb] rfl rfl 33 _ (HR2.out.old _) infoFt rfl (by simp [Value.oneCell']) ?_)
  (try simp only [Exit.inBlock, Exit.then])
  refine bodyPost_ret (v := .agg #[.int .i64 h, .int .i64 sm, .int .i64 pr, .int .i64 mn, .int .i64 mp, .int .i64 ms, .int .i64 pg, .int .i64 ps, .string fb]) (results_cell_row (p := 2) Tryz.results70 _ _ rb 33 _ (0, 0) _ rfl (setRow_heap _ _ _ _ _ _ (HR2.out.old _)) Tryz.underlying33 rfl infoFt) rfl ⟨rfl, ?_⟩
  have hs := HB2.out.size
  rw [HRB.out] at *
  exact below_setRow (HB2.out.alloc (by omega) _) (Nat.le_refl _)
set_option maxRecDepth 100000 in
set_option maxHeartbeats 4000000 in
theorem renameG_ok (m l1 h1 : Nat) (lc hc : Array Value) (h sm pr mn mp ms pg ps : Int) (fb : ByteArray) (f0 f1 f2 f3 f4 f5 f6 f7 : Int) (f8 : ByteArray) (w : World) (hf : FeatG h sm pr mn mp ms pg ps fb m w) : Calls Tryz.prog 76 #[.iface 29 (pt m), .agg #[.int .i64 f0, .int .i64 f1, .int .i64 f2, .int .i64 f3, .int .i64 f4, .int .i64 f5, .int .i64 f6, .int .i64 f7, .string f8], .func (.func l1) #[] lc, .func (.func h1) #[] hc] w fun e w' => ∃ rb tb, e = .returned (.agg (rnC (.iface 29 (pt m)) f0 f1 f2 f3 f4 f5 f6 f7 f8 (.func (.func 127) #[] #[pt rb, pt tb]) (.func (.func 129) #[pt rb] #[]) (.func (.func l1) #[] lc) (.func (.func h1) #[] hc))) ∧
    Blk w' rb 164 (rnC (.iface 29 (pt m)) f0 f1 f2 f3 f4 f5 f6 f7 f8 (.func (.func 127) #[] #[pt rb, pt tb]) (.func (.func 129) #[pt rb] #[]) (.func (.func l1) #[] lc) (.func (.func h1) #[] hc)) ∧ Blk w' tb 3 #[.int .i64 mp] ∧ w.heap.size ≤ tb ∧ Below w.heap.size w w' := by
  have H := Lib.hid (fun wx (hb : Below w.heap.size w wx) => (hf.below hb).call)
  clear hf
  go_enter Tryz.func76, Tryz.ntmps76
  go_wp2_with fail
  have HB0 := (Below.refl w.heap.size w).alloc (Nat.le_refl _) (.cells #[.int .i64 f0, .int .i64 f1, .int .i64 f2, .int .i64 f3, .int .i64 f4, .int .i64 f5, .int .i64 f6, .int .i64 f7, .string f8] 33)
  have HB := Lib.hid (HB0.alloc HB0.size (.cells #[.nilIface, .int .i64 0, .int .i64 0, .int .i64 0, .int .i64 0, .int .i64 0, .int .i64 0, .int .i64 0, .int .i64 0, .string ⟨#[]⟩, .nilFunc, .nilFunc, .nilFunc, .nilFunc, .nilFunc] 164))
  have HZ := Lib.hid (show Blk _ (w.heap.size + 1) _ _ from Blk.newAt (w := w.alloc (.cells #[.int .i64 f0, .int .i64 f1, .int .i64 f2, .int .i64 f3, .int .i64 f4, .int .i64 f5, .int .i64 f6, .int .i64 f7, .string f8] 33)) (t := 164) (cs := #[.nilIface, .int .i64 0, .int .i64 0, .int .i64 0, .int .i64 0, .int .i64 0, .int .i64 0, .int .i64 0, .int .i64 0, .string ⟨#[]⟩, .nilFunc, .nilFunc, .nilFunc, .nilFunc, .nilFunc]) (by simp))
  have HZL := Lib.hid (show w.heap.size ≤ w.heap.size + 1 by omega)
  clear HB0
  generalize ((w.alloc (.cells #[.int .i64 f0, .int .i64 f1, .int .i64 f2, .int .i64 f3, .int .i64 f4, .int .i64 f5, .int .i64 f6, .int .i64 f7, .string f8] 33)).alloc _) = w1 at *
  generalize hzb : w.heap.size + 1 = zb at *
  clear hzb
  refine (straight_ok m f0 f1 f2 f3 f4 f5 f6 f7 f8 w1).mono ?_
  rintro e w2 ⟨rfl, hb2⟩
  have HZ2 := Lib.hid (HZ.out.below hb2 HZ.out.lt)
  have HB2 := Lib.hid (HB.out.trans (hb2.mono HB.out.size))
  clear hb2 HZ HB
  go_wp2_with fail
  have hs2 := HB2.out.size
  have HN := Lib.hid (Blk.new w2 164 #[.iface 29 (pt m), .int .i64 f0, .int .i64 f1, .int .i64 f2, .int .i64 f3, .int .i64 f4, .int .i64 f5, .int .i64 f6, .int .i64 f7, .string f8, fn0 114, fn0 114, .func (.func l1) #[] lc, .func (.func h1) #[] hc, fn0 126])
  have HB3 := Lib.hid (HB2.out.alloc hs2 (.cells #[.iface 29 (pt m), .int .i64 f0, .int .i64 f1, .int .i64 f2, .int .i64 f3, .int .i64 f4, .int .i64 f5, .int .i64 f6, .int .i64 f7, .string f8, fn0 114, fn0 114, .func (.func l1) #[] lc, .func (.func h1) #[] hc, fn0 126] 164))
  have HZ3 := Lib.hid (HZ2.out.old (.cells #[.iface 29 (pt m), .int .i64 f0, .int .i64 f1, .int .i64 f2, .int .i64 f3, .int .i64 f4, .int .i64 f5, .int .i64 f6, .int .i64 f7, .string f8, fn0 114, fn0 114, .func (.func l1) #[] lc, .func (.func h1) #[] hc, fn0 126] 164))
  have hzl := HZ2.out.lt
  generalize (w2.alloc (.cells #[.iface 29 (pt m), .int .i64 f0, .int .i64 f1, .int .i64 f2, .int .i64 f3, .int .i64 f4, .int .i64 f5, .int .i64 f6, .int .i64 f7, .string f8, fn0 114, fn0 114, .func (.func l1) #[] lc, .func (.func h1) #[] hc, fn0 126] 164)) = w3 at *
  generalize w2.heap.size = rb at *
  clear HZ2 HB2
  refine (H.out _ HB3.out).mono ?_
  rintro e w4 ⟨rfl, hb4⟩
  have HN4 := Lib.hid (HN.out.below hb4 HN.out.lt)
  have HZ4 := Lib.hid (HZ3.out.below hb4 HZ3.out.lt)
  have HB4 := Lib.hid (HB3.out.trans (hb4.mono HB3.out.size))
  clear hb4 HN HZ3 HB3 H
  have hf4 := field4G h sm pr mn mp ms pg ps fb w4
  go_upto_region 3 with (fail)
  have HN5 := Lib.hid (HN4.out.old (.cells #[.int .i64 mp] 3))
  have HZ5 := Lib.hid (HZ4.out.old (.cells #[.int .i64 mp] 3))
  have HB5 := Lib.hid (HB4.out.alloc HB4.out.size (.cells #[.int .i64 mp] 3))
  have HT5 := Lib.hid (Blk.new w4 3 #[.int .i64 mp])
  have htr := Lib.hid HN4.out.lt
  have htz := Lib.hid HZ4.out.lt
  clear hf4 HN4 HZ4 HB4
  generalize (w4.alloc (.cells #[.int .i64 mp] 3)) = w5 at *
  generalize w4.heap.size = tb at *
  have n10 := HN5.out.cell 10
  have n11 := HN5.out.cell 11
  have f10 := HN5.out.frozen 10
  have f11 := HN5.out.frozen 11
  simp at n10 n11
  go_upto_region 5 with (fail)
  have K := ((Kp.refl [rb] w5).setCell ⟨rb, 10, none⟩ (.func (.func 127) #[] #[pt rb, pt tb]) (Or.inl (by simp))).setCell ⟨rb, 11, none⟩ (.func (.func 129) #[pt rb] #[]) (Or.inl (by simp))
  have HN6 := Lib.hid (show Blk _ rb 164 (rnC (.iface 29 (pt m)) f0 f1 f2 f3 f4 f5 f6 f7 f8 (.func (.func 127) #[] #[pt rb, pt tb]) (.func (.func 129) #[pt rb] #[]) (.func (.func l1) #[] lc) (.func (.func h1) #[] hc)) from (HN5.out.set 10 (.func (.func 127) #[] #[pt rb, pt tb])).set 11 (.func (.func 129) #[pt rb] #[]))
  have HZ6 := Lib.hid (K.blk HZ5.out (by simp; omega))
  have HT6 := Lib.hid (K.blk HT5.out (by have := htr.out; simp; omega))
  have HB6 := Lib.hid ((HB5.out.setCell (p := ⟨rb, 10, none⟩) hs2 (.func (.func 127) #[] #[pt rb, pt tb])).setCell (p := ⟨rb, 11, none⟩) hs2 (.func (.func 129) #[pt rb] #[]))
  clear K HN5 HZ5 HT5 HB5 n10 n11 f10 f11
  generalize ((w5.setCell ⟨rb, 10, none⟩ (.func (.func 127) #[] #[pt rb, pt tb])).setCell ⟨rb, 11, none⟩ (.func (.func 129) #[pt rb] #[])) = w6 at *
  go_wp2_with (first | (refine wpList_load_row rfl 164 _ rfl rb rfl 164 (rnC (.iface 29 (pt m)) f0 f1 f2 f3 f4 f5 f6 f7 f8 (.func (.func 127) #[] #[pt rb, pt tb]) (.func (.func 129) #[pt rb] #[]) (.func (.func l1) #[] lc) (.func (.func h1) #[] hc)) (0, 0) _ HN6.out Tryz.underlying164 rfl infoRn ?_) | (refine wpList_store_row rfl 164 _ _ rfl zb (rnC (.iface 29 (pt m)) f0 f1 f2 f3 f4 f5 f6 f7 f8 (.func (.func 127) #[] #[pt rb, pt tb]) (.func (.func 129) #[pt rb] #[]) (.func (.func l1) #[] lc) (.func (.func h1) #[] hc)) rfl rfl 164 _ HZ6.out infoRn rfl (by simp [Value.oneCell']) ?_))
  have hz := HZL.out
  have hr := htr.out
  refine bodyPost_ret (v := .agg (rnC (.iface 29 (pt m)) f0 f1 f2 f3 f4 f5 f6 f7 f8 (.func (.func 127) #[] #[pt rb, pt tb]) (.func (.func 129) #[pt rb] #[]) (.func (.func l1) #[] lc) (.func (.func h1) #[] hc))) (results_cell_row (p := 8) Tryz.results76 _ _ zb 164 _ (0, 0) _ rfl (setRow_heap _ _ _ _ _ _ HZ6.out) Tryz.underlying164 rfl infoRn) rfl ⟨rb, tb, rfl, ?_, ?_, by omega, below_setRow HB6.out hz⟩
  · exact (setRow_other _ _ _ _ (by omega)).trans HN6.out
  · exact (setRow_other _ _ _ _ (by omega)).trans HT6.out
end Go.Proofs.YtpjnjhklkgefcaaGreatDoor
