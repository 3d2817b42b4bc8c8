import Derived.Test.YtpjnjhklkgefcaaGreatDoorAa
import Derived.Test.YtpjnjhklkgefcaaGreatDoorL
set_option linter.unusedVariables false
set_option linter.unusedSimpArgs false
namespace Go.Proofs.YtpjnjhklkgefcaaGreatDoor
open Go.RowKit
theorem MemF.below {B : Nat} {q : Mm} {n : Nat} {s data id : ByteArray} {w w' : World} (h : MemF B q n s data id w) (k : Below w.heap.size w w') : MemF B q n s data id w' :=
  ⟨(Kp.of_below (S := []) k).blk h.hm (by simp), (Kp.of_below (S := []) k).blk h.hr (by simp), (Kp.of_below (S := []) k).blk h.hn (by simp)⟩
theorem MemF.kp {B : Nat} {q : Mm} {n : Nat} {s data id : ByteArray} {S : List Nat} {w w' : World} (h : MemF B q n s data id w) (k : Kp S w w') (h1 : q.m ∉ S) (h2 : q.r ∉ S) (h3 : n ∉ S) : MemF B q n s data id w' :=
  ⟨k.blk h.hm h1, k.blk h.hr h2, k.blk h.hn h3⟩
theorem MemF.two {B : Nat} {q : Mm} {n : Nat} {s data id : ByteArray} {w : World} (h : MemF B q n s data id w) : w.cell? ⟨n, 1, none⟩ = some (.bool false) ∧ MemF B q n s data id w := ⟨h.hn.cell 1, h⟩
set_option maxRecDepth 100000 in
set_option maxHeartbeats 4000000 in
theorem path_ok {B : Nat} {q : Mm} {n : Nat} {s data id : ByteArray} {w : World} (h : MemF B q n s data id w) : Calls Tryz.prog 117 #[pt n] w fun e w' => e = .returned (.string s) ∧ w' = w := by
  have n0 := h.hn.cell 0
  have n2 := h.hn.cell 2
  have r2 := h.hr.cell 2
  simp at n0 n2 r2
  clear h
  go_enter Tryz.func117, Tryz.ntmps117
  go_wp2_with fail
  go_ret
  exact ⟨rfl, rfl⟩
set_option maxRecDepth 100000 in
set_option maxHeartbeats 4000000 in
theorem kinds_ok (w : World) : Calls Tryz.prog 80 #[] w fun e w' => e = .returned (sl w.heap.size 5 5) ∧ Blk w' w.heap.size 3 #[.int .i64 1, .int .i64 2, .int .i64 3, .int .i64 4, .int .i64 5] ∧ Below w.heap.size w w' := by
  go_enter Tryz.func80, Tryz.ntmps80
  go_wp2_with fail
  go_ret
  exact ⟨rfl, Blk.new _ _ _, (Below.refl _ _).alloc (Nat.le_refl _) _⟩
theorem infoInfo : (Tryz.prog.info? 53).map (·.size) = some 7 := by kernel_rfl
theorem infoSum : (Tryz.prog.info? 212).map (fun i => (i.zero, i.size, i.bytes)) = some (some (.agg #[.int .i64 0, .string ⟨#[]⟩]), 2, 24) := by kernel_rfl
theorem bit16 : ∀ i, i < 5 → bits .and .i64 ((16 : Int) / 2 ^ (i + 1)) 1 = (if i = 3 then 1 else 0) := by decide
theorem keep3 {w : World} {n xb i : Nat} {u v4 v5 v6 : Value} (hne : n ≠ xb) (h : w.cell? ⟨n, 4, none⟩ = some v4 ∧ w.cell? ⟨n, 5, none⟩ = some v5 ∧ w.cell? ⟨n, 6, none⟩ = some v6) :
    (w.setCell ⟨xb, i, none⟩ u).cell? ⟨n, 4, none⟩ = some v4 ∧ (w.setCell ⟨xb, i, none⟩ u).cell? ⟨n, 5, none⟩ = some v5 ∧ (w.setCell ⟨xb, i, none⟩ u).cell? ⟨n, 6, none⟩ = some v6 :=
  have k : Kp [xb] w (w.setCell ⟨xb, i, none⟩ u) := (Kp.refl [xb] w).setCell _ _ (Or.inl (by simp))
  have key : ∀ j v, w.cell? ⟨n, j, none⟩ = some v → (w.setCell ⟨xb, i, none⟩ u).cell? ⟨n, j, none⟩ = some v := fun j v hc =>
    (World.cell?_of_block (k.block n (World.block_lt_of_cell? _ _ hc) (by simp [hne]))).trans hc
  ⟨key _ _ h.1, key _ _ h.2.1, key _ _ h.2.2⟩
abbrev infoC (path : ByteArray) (size time : Int) (sums md : Value) (id : ByteArray) : Array Value := #[.string path, .bool false, .int .i64 size, .int .i64 time, sums, md, .string id]
set_option maxRecDepth 100000 in
set_option maxHeartbeats 4000000 in
theorem info_ok {B : Nat} {q : Mm} {n : Nat} {s data id : ByteArray} {w : World} (hd0 : data.size ≤ 1048576) (hg : 11 < w.heap.size) (hT : TabW w) (h : MemF B q n s data id w) :
    Calls Tryz.prog 63 #[pt q.m, pt n] w fun e w' => ∃ p m c, e = .returned (.agg (infoC s data.size 7 (.slice p m c) (.slice none 0 0) id)) ∧ Below w.heap.size w w' := by
  have HF := Lib.hid h
  have HT := Lib.hid hT
  clear h hT
  go_enter Tryz.func63, Tryz.ntmps63
  go_upto_region 1 with (fail)
  have HR := Lib.hid (Blk.new w 53 #[.string ⟨#[]⟩, .bool false, .int .i64 0, .int .i64 0, .slice none 0 0, .slice none 0 0, .string ⟨#[]⟩])
  have HB := Lib.hid ((Below.refl w.heap.size w).alloc (Nat.le_refl _) (.cells #[.string ⟨#[]⟩, .bool false, .int .i64 0, .int .i64 0, .slice none 0 0, .slice none 0 0, .string ⟨#[]⟩] 53))
  have HF1 := Lib.hid (HF.out.below HB.out)
  have HRL := Lib.hid HR.out.lt
  clear HF
  generalize (w.alloc (.cells #[.string ⟨#[]⟩, .bool false, .int .i64 0, .int .i64 0, .slice none 0 0, .slice none 0 0, .string ⟨#[]⟩] 53)) = w1 at *
  generalize hrb : w.heap.size = rb at *
  have HRB := Lib.hid hrb
  clear hrb
  go_cut [5] from 10 to 16 (fun v wx => ∃ xb, v = pt xb ∧ rb < xb ∧ Blk wx xb 53 (infoC s 0 0 (.slice none 0 0) (.slice none 0 0) ⟨#[]⟩) ∧ MemF B q n s data id wx ∧ Blk wx rb 53 #[.string ⟨#[]⟩, .bool false, .int .i64 0, .int .i64 0, .slice none 0 0, .slice none 0 0, .string ⟨#[]⟩] ∧ Below rb w wx)
  case first =>
    go_region_held3 (fun wx => wx.cell? ⟨n, 1, none⟩ = some (.bool false) ∧ MemF B q n s data id wx)
      (first | assumption | exact MemF.two (HF1.out.below ((Below.refl _ _).drew)) | exact MemF.two (HF1.out.below (((Below.refl _ _).alloc (Nat.le_refl _) _).drew)) | exact MemF.two (MemF.below (And.right (by assumption)) ((Below.refl _ _).alloc (Nat.le_refl _) _)))
      ((go_at_call 117; refine (path_ok (And.right (by assumption))).mono ?_; rintro e w2 ⟨rfl, rfl⟩))
    all_goals
      go_wp2_with fail
      go_meet
      have hrs : rb ≤ w1.heap.size := Nat.le_of_lt HRL.out
      have HB2 := Below.drew ((Below.refl w1.heap.size w1).alloc (Nat.le_refl _) (.cells (infoC s 0 0 (.slice none 0 0) (.slice none 0 0) ⟨#[]⟩) 53))
      first
        | exact ⟨_, rfl, HRL.out, Blk.drw (Blk.new w1 _ _), HF1.out.below HB2, HR.out.below HB2 HRL.out, HB.out.trans (HB2.mono hrs)⟩
        | exact ⟨_, rfl, HRL.out, Blk.new w1.drew _ _, HF1.out.below HB2, HR.out.below HB2 HRL.out, HB.out.trans (HB2.mono hrs)⟩
  case rest =>
    obtain ⟨xb, rfl, hx, hX, hF, hR, hB⟩ := hcut
    have HX := Lib.hid hX
    have HF2 := Lib.hid hF
    have HR2 := Lib.hid hR
    have HB2 := Lib.hid hB
    have hbs := hB.size
    have n1 := hF.hn.cell 1
    have n4 := hF.hn.cell 4
    have n5 := hF.hn.cell 5
    have n6 := hF.hn.cell 6
    simp at n1 n4 n5 n6
    clear HF1 HR HB HRL hX hF hR hB
    go_upto_region 4 with (fail)
    have x2 := HX.out.cell 2
    have x3 := HX.out.cell 3
    have x5 := HX.out.cell 5
    have f2 := HX.out.frozen 2
    have f3 := HX.out.frozen 3
    have f5 := HX.out.frozen 5
    simp at x2 x3 x5
    have hne := HF2.out.hn.ne HX.out (by decide)
    have hne2 : xb ≠ n := fun e => hne e.symm
    go_cut [] from 22 to 38 (fun wx => Blk wx xb 53 (infoC s data.size 7 (.slice none 0 0) (.slice none 0 0) ⟨#[]⟩) ∧ MemF B q n s data id wx ∧ Blk wx rb 53 #[.string ⟨#[]⟩, .bool false, .int .i64 0, .int .i64 0, .slice none 0 0, .slice none 0 0, .string ⟨#[]⟩] ∧ Below rb w wx)
    case first =>
      go_region_held3 (fun wx => wx.cell? ⟨n, 4, none⟩ = some (.string data) ∧ wx.cell? ⟨n, 5, none⟩ = some (.int .i64 7) ∧ wx.cell? ⟨n, 6, none⟩ = some (.slice none 0 0)) (first | assumption | exact ⟨n4, n5, n6⟩ | exact keep3 hne (by assumption)) ((go_at_call 118; refine (cloneMeta_nil _).mono ?_; rintro e w2 ⟨rfl, rfl⟩))
      all_goals
        go_wp2_with fail
        go_meet
        have K := ((((Kp.refl [xb] wc).setCell ⟨xb, 2, none⟩ (.int .i64 data.size) (Or.inl (by simp))).setCell ⟨xb, 3, none⟩ (.int .i64 7) (Or.inl (by simp))).setCell ⟨xb, 5, none⟩ (.slice none 0 0) (Or.inl (by simp))).drew
        have hle : rb ≤ xb := Nat.le_of_lt hx
        exact ⟨(((HX.out.set 2 _).set 3 _).set 5 _).drw, HF2.out.kp K (by simpa using HF2.out.hm.ne HX.out (by decide)) (by simpa using HF2.out.hr.ne HX.out (by decide)) (by simpa using hne), K.blk HR2.out (by simp; omega), (((HB2.out.setCell (p := ⟨xb, 2, none⟩) hle _).setCell (p := ⟨xb, 3, none⟩) hle _).setCell (p := ⟨xb, 5, none⟩) hle _).drew⟩
    case rest =>
      obtain ⟨hX, hF, hR, hB⟩ := hcut
      clear HX HF2 HR2 HB2 n1 n4 n5 n6 x2 x3 x5 f2 f3 f5 hbs
      rename_i wy
      have hbs := hB.size
      have HX := Lib.hid hX
      have HF2 := Lib.hid hF
      have HR2 := Lib.hid hR
      have HB2 := Lib.hid hB
      clear hX hF hR hB
      go_wp2_with fail
      refine (kinds_ok _).mono ?_
      rintro e w3 ⟨rfl, hK, hb3⟩
      have hx3 := HX.out.below hb3 HX.out.lt
      have hf3 := HF2.out.below hb3
      have hr3 := HR2.out.below hb3 HR2.out.lt
      have hrs : rb ≤ wc.heap.size := Nat.le_of_lt HR2.out.lt
      have hB3 := HB2.out.trans (hb3.mono hrs)
      have hkx : wc.heap.size ≠ xb := hK.ne hx3 (by decide)
      have hkr : wc.heap.size ≠ rb := hK.ne hr3 (by decide)
      generalize wc.heap.size = kb at *
      have HXX := Lib.hid hx3
      have HFF := Lib.hid hf3
      have HRR := Lib.hid hr3
      have HBB := Lib.hid hB3
      have HKK := Lib.hid hK
      clear HX HF2 HR2 HB2 hx3 hf3 hr3 hB3 hK hb3 hbs hrs
      go_wp2_with fail
      obtain ⟨iS, hS0, hS1, hS2, hS3⟩ := info_parts infoSum
      go_loopw [41] (fun k wr => ∃ i v, k = .int .i64 (i : Nat) ∧ i ≤ 5 ∧ (i ≤ 3 → v = .slice none 0 0) ∧ (∃ p m c, v = .slice p m c) ∧ Blk wr xb 53 (infoC s data.size 7 v (.slice none 0 0) ⟨#[]⟩) ∧ MemF B q n s data id wr ∧ Blk wr rb 53 #[.string ⟨#[]⟩, .bool false, .int .i64 0, .int .i64 0, .slice none 0 0, .slice none 0 0, .string ⟨#[]⟩] ∧ Below rb w wr ∧ Blk wr kb 3 #[.int .i64 1, .int .i64 2, .int .i64 3, .int .i64 4, .int .i64 5]) (fun k _ => 5 - (intOf k).toNat)
      case atStart => exact ⟨0, _, rfl, Nat.zero_le _, fun _ => rfl, ⟨_, _, _, rfl⟩, HXX.out, HFF.out, HRR.out, HBB.out, HKK.out⟩
      case round =>
        clear HXX HFF HRR HBB HKK
        obtain ⟨i, v, rfl, hi5, hv, hvf, hX, hF, hR, hB, hK⟩ := hrel
        have HX := Lib.hid hX
        have HF := Lib.hid hF
        have HR := Lib.hid hR
        have HB := Lib.hid hB
        have HK := Lib.hid hK
        have HV := Lib.hid hv
        have HVF := Lib.hid hvf
        clear hvf
        by_cases hlt : i < 5
        · have hd : decide ((i : Int) < 5) = true := decide_eq_true (by omega)
          have hd2 : (i : Int) < 5 := by omega
          have hk : wr.cell? ⟨kb, i, none⟩ = some (.int .i64 ((i : Int) + 1)) := by
            have := hK.cell i
            have h5 : i = 0 ∨ i = 1 ∨ i = 2 ∨ i = 3 ∨ i = 4 := by omega
            rcases h5 with rfl | rfl | rfl | rfl | rfl <;> simpa using this
          have m1 := hF.hm.cell 1
          simp at m1
          have hbit := bit16 i hlt
          have hk0 : (0 : Int) ≤ (i : Int) + 1 := by omega
          clear hX hF hR hB hK hv
          by_cases h3 : i = 3
          · have HI := Lib.hid h3
            have hi4 : (i : Int) + 1 = 4 := by omega
            rw [if_pos h3] at hbit
            clear h3
            have n4 := HF.out.hn.cell 4
            simp at n4
            obtain rfl := HV.out (by have := HI.out; omega)
            go_wp2_with fail
            refine (of4_ok data wr hd0 (Nat.lt_of_lt_of_le hg (Nat.le_of_lt (Nat.lt_of_lt_of_le HR.out.lt (Nat.le_refl _)))) (HT.out.below HB.out hg)).mono ?_
            rintro e w5 ⟨hs, rfl, hb5⟩
            have hX5 := HX.out.below hb5 HX.out.lt
            have HX5 := Lib.hid hX5
            have HF5 := Lib.hid (HF.out.below hb5)
            have HR5 := Lib.hid (HR.out.below hb5 HR.out.lt)
            have HK5 := Lib.hid (HK.out.below hb5 HK.out.lt)
            have HB5 := Lib.hid (HB.out.trans (hb5.mono (Nat.le_of_lt HR.out.lt)))
            have x4 := hX5.cell 4
            have f4 := hX5.frozen 4
            simp at x4
            clear hX5 hb5 n4 hk m1 hbit HX HF HR HK HB
            go_wp2_with (at_builtin; refine wpList_append_own _ rfl _ _ 50 rfl w5.heap.size 212 iS (.agg #[.int .i64 0, .string ⟨#[]⟩]) 2 24 Tryz.underlying50 hS0 hS1 hS2 hS3 rfl (by decide) _ _ _ rfl (World.ownsRow_nil _ _ _ _) ⟨w5.heap.size, 0, none⟩ 1 1 [.int .i64 4, .string hs] rfl (by rfl) ?c1 (by simp [Value.oneCell']) (by decide) (by decide) ?c5 ?_)
            case c1 => exact World.news_of_block (cs := #[.int .i64 4, .string hs]) (t := 212) (fr := (0, 0)) (heap_alloc_new w5 _)
            case c5 => simp
            intro v' w6 hown hgrow hnil
            have hb6 := ((Below.refl w5.heap.size w5).alloc (Nat.le_refl _) (.cells #[.int .i64 4, .string hs] 212)).grown hgrow (by simp) (by intro k hk; simp [Value.ownBlock] at hk)
            have hX6 := HX5.out.below hb6 HX5.out.lt
            have HX6 := Lib.hid hX6
            have HF6 := Lib.hid (HF5.out.below hb6)
            have HR6 := Lib.hid (HR5.out.below hb6 HR5.out.lt)
            have HK6 := Lib.hid (HK5.out.below hb6 HK5.out.lt)
            have HB6 := Lib.hid (HB5.out.trans (hb6.mono (Nat.le_of_lt HR5.out.lt)))
            have x4 := hX6.cell 4
            have f4 := hX6.frozen 4
            simp at x4
            obtain ⟨g', cap', rfl⟩ := own_form hown (by omega)
            clear hX6 hb6 hown hgrow hnil HX5 HF5 HR5 HK5 HB5
            have hle : rb ≤ xb := Nat.le_of_lt hx
            have K := (Kp.refl [xb] w6).setCell ⟨xb, 4, none⟩ (.slice (some ⟨g', 0, none⟩) 1 cap') (Or.inl (by simp))
            have HKP := Lib.hid K
            clear K
            go_wp2_with fail
            go_roundw
            case rel => exact ⟨i + 1, _, by go_num, by omega, fun h => by have := HI.out; omega, ⟨_, _, _, rfl⟩, HX6.out.set 4 _, HF6.out.kp HKP.out (by simpa using HF6.out.hm.ne HX6.out (by decide)) (by simpa using HF6.out.hr.ne HX6.out (by decide)) (by simpa using hne), HKP.out.blk HR6.out (by simp; omega), HB6.out.setCell (p := ⟨xb, 4, none⟩) hle _, HKP.out.blk HK6.out (by simpa using hkx)⟩
            case measure => simp [intOf]; omega
          · rw [if_neg h3] at hbit
            have HI := Lib.hid h3
            clear h3
            go_wp2_with fail
            go_roundw
            case rel => exact ⟨i + 1, v, by go_num, by omega, fun h => HV.out (by omega), HVF.out, HX.out, HF.out, HR.out, HB.out, HK.out⟩
            case measure => simp [intOf]; omega
        · have hd : decide ((i : Int) < 5) = false := decide_eq_false (by omega)
          obtain ⟨pv, mv, cv, rfl⟩ := HVF.out
          have n7 := hF.hn.cell 7
          have x0 := hX.cell 0
          have x1 := hX.cell 1
          have x2 := hX.cell 2
          have x3 := hX.cell 3
          have x4 := hX.cell 4
          have x5 := hX.cell 5
          have x6 := hX.cell 6
          have xf := hX.frozen 6
          have hlen := hX.lt
          simp at n7 x0 x1 x2 x3 x4 x5 x6
          have hrx : rb ≠ xb := by omega
          have hxr : xb ≠ rb := by omega
          have r0 := hR.cell 0
          have r1 := hR.cell 1
          have r2 := hR.cell 2
          have r3 := hR.cell 3
          have r4 := hR.cell 4
          have r5 := hR.cell 5
          have r6 := hR.cell 6
          simp at r0 r1 r2 r3 r4 r5 r6
          have q0 := hR.frozen 0
          have q1 := hR.frozen 1
          have q2 := hR.frozen 2
          have q3 := hR.frozen 3
          have q4 := hR.frozen 4
          have q5 := hR.frozen 5
          have q6 := hR.frozen 6
          clear hX hF hR hB hK hv
          go_wp2_with fail
          refine (has_ok q.m 512 _ wr HF.out.hm rfl).mono ?_
          rintro e w5 ⟨rfl, rfl⟩
          have e1 : (bits .and .i64 3071 512 != 0) = true := by decide
          rw [e1]
          clear e1
          go_wp2_with fail
          have hle : rb ≤ xb := Nat.le_of_lt hx
          have K1 := (Kp.refl [xb] w5).setCell ⟨xb, 6, none⟩ (.string id) (Or.inl (by simp))
          have R2 := (((((((K1.blk HR.out (by simp; omega)).set 0 (.string s)).set 1 (.bool false)).set 2 (.int .i64 data.size)).set 3 (.int .i64 7)).set 4 (.slice pv mv cv)).set 5 (.slice none 0 0)).set 6 (.string id)
          have B2 := (((((((HB.out.setCell (p := ⟨xb, 6, none⟩) hle (.string id)).setCell (p := ⟨rb, 0, none⟩) (Nat.le_refl _) (.string s)).setCell (p := ⟨rb, 1, none⟩) (Nat.le_refl _) (.bool false)).setCell (p := ⟨rb, 2, none⟩) (Nat.le_refl _) (.int .i64 data.size)).setCell (p := ⟨rb, 3, none⟩) (Nat.le_refl _) (.int .i64 7)).setCell (p := ⟨rb, 4, none⟩) (Nat.le_refl _) (.slice pv mv cv)).setCell (p := ⟨rb, 5, none⟩) (Nat.le_refl _) (.slice none 0 0)).setCell (p := ⟨rb, 6, none⟩) (Nat.le_refl _) (.string id)
          refine bodyPost_ret (v := .agg (infoC s data.size 7 (.slice pv mv cv) (.slice none 0 0) id)) (results_cell_row (p := 4) Tryz.results63 _ _ rb 53 _ (0, 0) _ rfl R2 Tryz.underlying53 rfl infoInfo) rfl ⟨_, _, _, rfl, ?_⟩
          rw [HRB.out]
          exact B2
end Go.Proofs.YtpjnjhklkgefcaaGreatDoor
