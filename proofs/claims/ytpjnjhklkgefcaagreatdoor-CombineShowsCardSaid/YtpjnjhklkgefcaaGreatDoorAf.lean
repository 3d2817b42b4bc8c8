import Derived.Test.YtpjnjhklkgefcaaGreatDoorAe
set_option linter.unusedVariables false
set_option linter.unusedSimpArgs false
namespace Go.Proofs.YtpjnjhklkgefcaaGreatDoor
open Go.RowKit
abbrev dnF (rb tb : Nat) : Value := .func (.func 127) #[] #[pt rb, pt tb]
abbrev upF (rb : Nat) : Value := .func (.func 129) #[pt rb] #[]
/-- an overlay that squeezes. -/
structure SqM (m sb rb tb eb g : Nat) (w : World) : Prop where
  hs : Blk w sb 167 (sqC (.iface 29 (pt m)) 2943 0 1 252 1024 g 3 1 ⟨#[]⟩ (dnF rb tb) (upF rb) (clo 123 eb) (clo 124 eb) 64)
  hr : Blk w rb 164 (rnC (.iface 29 (pt m)) 2943 0 1 252 1024 g 3 1 ⟨#[]⟩ (dnF rb tb) (upF rb) (clo 123 eb) (clo 124 eb))
  ht : Blk w tb 3 #[.int .i64 1024]
  he : Blk w eb 9 #[.string ⟨#[46, 119, 122]⟩]
theorem SqM.kp {m sb rb tb eb g : Nat} {S : List Nat} {w w' : World} (h : SqM m sb rb tb eb g w) (k : Kp S w w') (h1 : sb ∉ S) (h2 : rb ∉ S) (h3 : tb ∉ S) (h4 : eb ∉ S) : SqM m sb rb tb eb g w' :=
  ⟨k.blk h.hs h1, k.blk h.hr h2, k.blk h.ht h3, k.blk h.he h4⟩
theorem SqM.below {m sb rb tb eb g : Nat} {w w' : World} (h : SqM m sb rb tb eb g w) (k : Below w.heap.size w w') : SqM m sb rb tb eb g w' :=
  h.kp (S := []) (Kp.of_below k) (by simp) (by simp) (by simp) (by simp)
theorem ten_below {b3 eb fb g : Nat} {w wx wy : World} (h : Below b3 w wx ∧ Blk wx eb 9 #[.string ⟨#[46, 119, 122]⟩] ∧ wx.cell? ⟨b3, 0, none⟩ = some (.int .i64 64) ∧ wx.cell? ⟨fb, 0, none⟩ = some (.int .i64 2943) ∧ wx.cell? ⟨fb, 1, none⟩ = some (.int .i64 0) ∧ wx.cell? ⟨fb, 2, none⟩ = some (.int .i64 1) ∧ wx.cell? ⟨fb, 3, none⟩ = some (.int .i64 252) ∧ wx.cell? ⟨fb, 4, none⟩ = some (.int .i64 1024) ∧ wx.cell? ⟨fb, 5, none⟩ = some (.int .i64 (g : Int)) ∧ wx.cell? ⟨fb, 6, none⟩ = some (.int .i64 3) ∧ wx.cell? ⟨fb, 7, none⟩ = some (.int .i64 1) ∧ wx.cell? ⟨fb, 8, none⟩ = some (.string ⟨#[]⟩)) (hb : Below wx.heap.size wx wy) :
    Below b3 w wy ∧ Blk wy eb 9 #[.string ⟨#[46, 119, 122]⟩] ∧ wy.cell? ⟨b3, 0, none⟩ = some (.int .i64 64) ∧ wy.cell? ⟨fb, 0, none⟩ = some (.int .i64 2943) ∧ wy.cell? ⟨fb, 1, none⟩ = some (.int .i64 0) ∧ wy.cell? ⟨fb, 2, none⟩ = some (.int .i64 1) ∧ wy.cell? ⟨fb, 3, none⟩ = some (.int .i64 252) ∧ wy.cell? ⟨fb, 4, none⟩ = some (.int .i64 1024) ∧ wy.cell? ⟨fb, 5, none⟩ = some (.int .i64 (g : Int)) ∧ wy.cell? ⟨fb, 6, none⟩ = some (.int .i64 3) ∧ wy.cell? ⟨fb, 7, none⟩ = some (.int .i64 1) ∧ wy.cell? ⟨fb, 8, none⟩ = some (.string ⟨#[]⟩) := by
  have key : ∀ p v, wx.cell? p = some v → wy.cell? p = some v := fun p v hc => (hb.cell (World.block_lt_of_cell? _ _ hc)).trans hc
  obtain ⟨h1, h2, h3, h4, h5, h6, h7, h8, h9, h10, h11, h12⟩ := h
  exact ⟨h1.trans (hb.mono (Nat.le_of_lt (World.block_lt_of_cell? _ _ h3))), h2.below hb h2.lt, key _ _ h3, key _ _ h4, key _ _ h5, key _ _ h6, key _ _ h7, key _ _ h8, key _ _ h9, key _ _ h10, key _ _ h11, key _ _ h12⟩
set_option maxRecDepth 100000 in
set_option maxHeartbeats 4000000 in
theorem squeeze_ok (m : Nat) (w : World) (h : FeatM m w) : Calls Tryz.prog 31 #[.iface 29 (pt m), .int .i64 64] w fun e w' => ∃ sb rb tb eb g, e = .returned (.tuple #[.iface 161 (pt sb), .int .i64 0]) ∧ 4 ≤ g ∧ SqM m sb rb tb eb g w' ∧ w.heap.size ≤ tb ∧ Below w.heap.size w w' := by
  have H := Lib.hid (fun wx (hb : Below w.heap.size w wx) => h.below hb)
  clear h
  go_enter Tryz.func31, Tryz.ntmps31
  go_wp2_with fail
  have H3 := Lib.hid (Blk.new w 3 #[.int .i64 64])
  have HB := Lib.hid ((Below.refl w.heap.size w).alloc (Nat.le_refl _) (.cells #[.int .i64 64] 3))
  generalize (w.alloc (.cells #[.int .i64 64] 3)) = w1 at *
  generalize hb3 : w.heap.size = b3 at *
  have HB3 := Lib.hid hb3
  clear hb3
  refine (features_ok m w1 (H.out _ HB.out)).mono ?_
  rintro e w2 ⟨rfl, hb⟩
  have HB2 := Lib.hid (HB.out.trans (hb.mono (Nat.le_of_lt H3.out.lt)))
  have H32 := Lib.hid (H3.out.below hb H3.out.lt)
  clear hb HB H3
  go_wp2_with fail
  have hbs2 := Nat.le_of_lt H32.out.lt
  have HBa := HB2.out.alloc hbs2 (.cells #[.int .i64 3071, .int .i64 16, .int .i64 1, .int .i64 252, .int .i64 1024, .int .i64 100000, .int .i64 3, .int .i64 1, .string ⟨#[]⟩] 33)
  have HB3' := Lib.hid (HBa.alloc (Nat.le_trans hbs2 (by simp)) (.cells #[.int .i64 100000] 3))
  have HF := Lib.hid ((Blk.new w2 33 #[.int .i64 3071, .int .i64 16, .int .i64 1, .int .i64 252, .int .i64 1024, .int .i64 100000, .int .i64 3, .int .i64 1, .string ⟨#[]⟩]).old (.cells #[.int .i64 100000] 3))
  have HI := Lib.hid (show Blk _ (w2.heap.size + 1) _ _ from Blk.newAt (w := w2.alloc (.cells #[.int .i64 3071, .int .i64 16, .int .i64 1, .int .i64 252, .int .i64 1024, .int .i64 100000, .int .i64 3, .int .i64 1, .string ⟨#[]⟩] 33)) (t := 3) (cs := #[.int .i64 100000]) (by simp))
  have H33 := Lib.hid ((H32.out.old (.cells #[.int .i64 3071, .int .i64 16, .int .i64 1, .int .i64 252, .int .i64 1024, .int .i64 100000, .int .i64 3, .int .i64 1, .string ⟨#[]⟩] 33)).old (.cells #[.int .i64 100000] 3))
  have hfl := Lib.hid (show b3 < w2.heap.size from H32.out.lt)
  clear HBa H32 HB2 hbs2
  generalize ((w2.alloc (.cells #[.int .i64 3071, .int .i64 16, .int .i64 1, .int .i64 252, .int .i64 1024, .int .i64 100000, .int .i64 3, .int .i64 1, .string ⟨#[]⟩] 33)).alloc (.cells #[.int .i64 100000] 3)) = w3 at *
  generalize w2.heap.size + 1 = ib at *
  generalize w2.heap.size = fb at *
  refine (greatest_ok b3 ib w3 (H33.out.cell 0) (HI.out.cell 0)).mono ?_
  rintro e w4 ⟨g, rfl, hg4, hg1, hb⟩
  have HB4 := Lib.hid (HB3'.out.trans (hb.mono (Nat.le_of_lt H33.out.lt)))
  have hF := HF.out.below hb HF.out.lt
  have H34 := Lib.hid (H33.out.below hb H33.out.lt)
  have HF4 := Lib.hid hF
  have c0 := hF.cell 0
  have c1 := hF.cell 1
  have c3 := hF.cell 3
  have c5 := hF.cell 5
  have c7 := hF.cell 7
  have c8 := hF.cell 8
  simp at c0 c1 c3 c5 c7 c8
  have f0 := hF.frozen 0
  have f1 := hF.frozen 1
  have f5 := hF.frozen 5
  have f7 := hF.frozen 7
  have ha : bits .andNot .i64 3071 128 = 2943 := by decide
  have hg0 : ¬ (g : Int) < 0 := by omega
  have HC := Lib.hid (fun wx => Tryz.strings_Contains_one ⟨#[]⟩ 46 wx)
  clear hb hF HF H33 HB3' HI
  go_wp2_with fail
  refine (HC.out _).mono ?_
  rintro e w5 ⟨rfl, rfl⟩
  have e1 : decide (0 ≤ Lib.indexByte (⟨#[]⟩ : ByteArray).data.toList 46) = false := by decide
  rw [e1]
  clear e1
  go_upto_region 13 with (fail)
  have hfb : b3 ≤ fb := Nat.le_of_lt hfl.out
  have HF6 := Lib.hid (show Blk _ fb 33 #[.int .i64 2943, .int .i64 0, .int .i64 1, .int .i64 252, .int .i64 1024, .int .i64 (g : Int), .int .i64 3, .int .i64 1, .string ⟨#[]⟩] from (((HF4.out.set 5 (.int .i64 (g : Int))).set 1 (.int .i64 0)).set 7 (.int .i64 1)).set 0 (.int .i64 2943))
  have K := ((((Kp.refl [fb] w4).setCell ⟨fb, 5, none⟩ (.int .i64 (g : Int)) (Or.inl (by simp))).setCell ⟨fb, 1, none⟩ (.int .i64 0) (Or.inl (by simp))).setCell ⟨fb, 7, none⟩ (.int .i64 1) (Or.inl (by simp))).setCell ⟨fb, 0, none⟩ (.int .i64 2943) (Or.inl (by simp))
  have H36 := Lib.hid (K.blk H34.out (by have := hfl.out; simp; omega))
  have HB6 := Lib.hid ((((HB4.out.setCell (p := ⟨fb, 5, none⟩) hfb (.int .i64 (g : Int))).setCell (p := ⟨fb, 1, none⟩) hfb (.int .i64 0)).setCell (p := ⟨fb, 7, none⟩) hfb (.int .i64 1)).setCell (p := ⟨fb, 0, none⟩) hfb (.int .i64 2943))
  clear K H34 HB4 HF4 c0 c1 c3 c5 c7 c8 f0 f1 f5 f7 ha HC
  generalize ((((w4.setCell ⟨fb, 5, none⟩ (.int .i64 (g : Int))).setCell ⟨fb, 1, none⟩ (.int .i64 0)).setCell ⟨fb, 7, none⟩ (.int .i64 1)).setCell ⟨fb, 0, none⟩ (.int .i64 2943)) = w6 at *
  go_wp2_with fail
  refine (suffixed_ok ⟨#[46, 119, 122]⟩ w6).mono ?_
  rintro e w7 ⟨rfl, hE, hb7⟩
  have hF7 := HF6.out.below hb7 HF6.out.lt
  have h37 := H36.out.below hb7 H36.out.lt
  have hB7 := HB6.out.trans (hb7.mono (Nat.le_of_lt H36.out.lt))
  generalize w6.heap.size = eb at *
  have HS := Lib.hid (show Below b3 w w7 ∧ Blk w7 eb 9 #[.string ⟨#[46, 119, 122]⟩] ∧ w7.cell? ⟨b3, 0, none⟩ = some (.int .i64 64) ∧ w7.cell? ⟨fb, 0, none⟩ = some (.int .i64 2943) ∧ w7.cell? ⟨fb, 1, none⟩ = some (.int .i64 0) ∧ w7.cell? ⟨fb, 2, none⟩ = some (.int .i64 1) ∧ w7.cell? ⟨fb, 3, none⟩ = some (.int .i64 252) ∧ w7.cell? ⟨fb, 4, none⟩ = some (.int .i64 1024) ∧ w7.cell? ⟨fb, 5, none⟩ = some (.int .i64 (g : Int)) ∧ w7.cell? ⟨fb, 6, none⟩ = some (.int .i64 3) ∧ w7.cell? ⟨fb, 7, none⟩ = some (.int .i64 1) ∧ w7.cell? ⟨fb, 8, none⟩ = some (.string ⟨#[]⟩) from ⟨hB7, hE, h37.cell 0, hF7.cell 0, hF7.cell 1, hF7.cell 2, hF7.cell 3, hF7.cell 4, hF7.cell 5, hF7.cell 6, hF7.cell 7, hF7.cell 8⟩)
  clear hE hb7 hF7 h37 hB7 HF6 H36 HB6
  go_upto_region 14 with (fail)
  go_region_held3 (fun wx => Below b3 w wx ∧ Blk wx eb 9 #[.string ⟨#[46, 119, 122]⟩] ∧ wx.cell? ⟨b3, 0, none⟩ = some (.int .i64 64) ∧ wx.cell? ⟨fb, 0, none⟩ = some (.int .i64 2943) ∧ wx.cell? ⟨fb, 1, none⟩ = some (.int .i64 0) ∧ wx.cell? ⟨fb, 2, none⟩ = some (.int .i64 1) ∧ wx.cell? ⟨fb, 3, none⟩ = some (.int .i64 252) ∧ wx.cell? ⟨fb, 4, none⟩ = some (.int .i64 1024) ∧ wx.cell? ⟨fb, 5, none⟩ = some (.int .i64 (g : Int)) ∧ wx.cell? ⟨fb, 6, none⟩ = some (.int .i64 3) ∧ wx.cell? ⟨fb, 7, none⟩ = some (.int .i64 1) ∧ wx.cell? ⟨fb, 8, none⟩ = some (.string ⟨#[]⟩))
    (first | assumption | exact ten_below HS.out ((Below.refl _ _).drew) | exact ten_below (by assumption) hb8 | exact ten_below (by assumption) ((Below.refl _ _).alloc (Nat.le_refl _) _))
    ((go_at_call 76; have hbw := And.left (by assumption); refine (rename_ok m _ _ _ _ _ _ _ _ _ _ _ _ _ _ (H.out _ hbw)).mono ?_; rintro e w8 ⟨rb, tb, rfl, hR, hT, htl, hb8⟩))
  all_goals
    have h7 := HS.out
    have h8 := ten_below (ten_below h7 ((Below.refl _ _).drew)) hb8
    have hs7 : b3 ≤ w7.heap.size := Nat.le_of_lt (World.block_lt_of_cell? _ _ h7.2.2.1)
    have hs8 : b3 ≤ w8.heap.size := Nat.le_of_lt (World.block_lt_of_cell? _ _ h8.2.2.1)
    have htb : b3 ≤ tb := Nat.le_trans hs7 htl
    have HE8 := Lib.hid h8.2.1
    have HB8 := Lib.hid h8.1
    have HR8 := Lib.hid hR
    have HT8 := Lib.hid hT
    clear h7 h8 hb8 hR hT
    go_wp2_with fail
    go_ret2
    refine ⟨_, rb, tb, eb, g, rfl, hg4, ⟨Blk.new _ _ _, HR8.out.old _, HT8.out.old _, HE8.out.old _⟩, ?_, ?_⟩
    · rw [HB3.out]; exact htb
    · rw [HB3.out]; exact HB8.out.alloc hs8 _
end Go.Proofs.YtpjnjhklkgefcaaGreatDoor
