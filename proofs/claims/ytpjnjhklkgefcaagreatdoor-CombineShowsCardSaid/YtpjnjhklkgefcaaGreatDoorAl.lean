import Derived.Test.YtpjnjhklkgefcaaGreatDoorAf
set_option linter.unusedVariables false
set_option linter.unusedSimpArgs false
namespace Go.Proofs.YtpjnjhklkgefcaaGreatDoor
open Go.RowKit
theorem asc_list {l : List UInt8} (h : l.all (fun b => decide (b.toNat < 128)) = true) : ∀ (j : Nat) b, l[j]? = some b → b.toNat < 128 := fun j b hb =>
  of_decide_eq_true (List.all_eq_true.1 h b (List.mem_of_getElem? hb))
abbrev tA : ByteArray := ⟨#[97]⟩
abbrev tAwz : ByteArray := ⟨#[97, 46, 119, 122]⟩
theorem nm_a : Nm tA := ⟨by decide, by decide, asc_list (by decide), by decide, by decide, by decide, by decide, by decide⟩
theorem nm_awz : Nm tAwz := ⟨by decide, by decide, asc_list (by decide), by decide, by decide, by decide, by decide, by decide⟩
set_option maxRecDepth 100000 in
set_option maxHeartbeats 4000000 in
theorem lowPath_ok (rb eb : Nat) (w : World) (g : Gl w) (hR : w.cell? ⟨rb, 12, none⟩ = some (clo 123 eb)) (hE : w.cell? ⟨eb, 0, none⟩ = some (.string ⟨#[46, 119, 122]⟩)) :
    Calls Tryz.prog 128 #[pt rb, .string tA] w fun e w' => e = .returned (.string tAwz) ∧ Below w.heap.size w w' := by
  have HP := Lib.hid (parts_ok tA w g nm_a)
  have HR := Lib.hid (fun wx (hb : Below w.heap.size w wx) => (hb.cell (World.block_lt_of_cell? _ _ hR)).trans hR)
  have HE := Lib.hid (fun wx (hb : Below w.heap.size w wx) => (hb.cell (World.block_lt_of_cell? _ _ hE)).trans hE)
  clear g hR hE
  go_enter Tryz.func128, Tryz.ntmps128
  go_wp2_with fail
  refine HP.out.mono ?_
  rintro e w1 ⟨b, rfl, hlb, hb1, hb⟩
  have HB := Lib.hid hb
  have H1 := Lib.hid hb1
  have c0 : w1.cell? ⟨b, 0, none⟩ = some (.string tA) := hb1.cell 0
  have f0 := hb1.frozen 0
  have r12 := HR.out w1 hb
  have HC := Lib.hid (suffixed1_ok tA ⟨#[46, 119, 122]⟩ eb w1 (HE.out w1 hb) (by decide))
  clear hb hb1
  go_wp2_with fail
  refine wp_loop_rounds 2 ?_
  rw [rounds_succ]
  go_wp2_with fail
  refine HC.out.mono ?_
  rintro e w2 ⟨rfl, rfl⟩
  go_wp2_with fail
  have HS := Lib.hid (show Blk _ b 9 #[.string tAwz] from H1.out.set 0 (.string (tA ++ ⟨#[46, 119, 122]⟩)))
  have HB2 := Lib.hid (HB.out.setCell (p := ⟨b, 0, none⟩) hlb (.string (tA ++ ⟨#[46, 119, 122]⟩)))
  clear c0 f0 r12 HC H1
  generalize (w2.setCell ⟨b, 0, none⟩ (.string (tA ++ ⟨#[46, 119, 122]⟩))) = w3 at *
  rw [rounds_succ]
  go_wp2_with fail
  have HJ := Lib.hid (Tryz.strings_Join b 0 1 [tAwz] ⟨#[47]⟩ w3 (by
    intro j x hx
    match j, hx with
    | 0, hx => simp at hx; subst hx; exact HS.out.cell 0) HS.out.lt (by decide) (by decide) (by decide))
  have ej : (Lib.join ([tAwz].map (·.data.toList)) (⟨#[47]⟩ : ByteArray).data.toList).toArray = #[97, 46, 119, 122] := by decide
  rw [ej] at HJ
  refine HJ.out.mono ?_
  rintro e w4 ⟨rfl, hb4⟩
  go_wp2_with fail
  go_ret
  exact ⟨rfl, HB2.out.trans (hb4.mono HB2.out.size)⟩
set_option maxRecDepth 100000 in
set_option maxHeartbeats 4000000 in
theorem highPath_ok (rb eb : Nat) (w : World) (g : Gl w) (hR : w.cell? ⟨rb, 13, none⟩ = some (clo 124 eb)) (hE : w.cell? ⟨eb, 0, none⟩ = some (.string ⟨#[46, 119, 122]⟩)) :
    Calls Tryz.prog 129 #[pt rb, .string tAwz] w fun e w' => e = .returned (.tuple #[.string tA, .bool true]) ∧ Below w.heap.size w w' := by
  have HP := Lib.hid (parts_ok tAwz w g nm_awz)
  have HR := Lib.hid (fun wx (hb : Below w.heap.size w wx) => (hb.cell (World.block_lt_of_cell? _ _ hR)).trans hR)
  have HE := Lib.hid (fun wx (hb : Below w.heap.size w wx) => (hb.cell (World.block_lt_of_cell? _ _ hE)).trans hE)
  clear g hR hE
  go_enter Tryz.func129, Tryz.ntmps129
  go_wp2_with fail
  refine HP.out.mono ?_
  rintro e w1 ⟨b, rfl, hlb, hb1, hb⟩
  have HB := Lib.hid hb
  have H1 := Lib.hid hb1
  have c0 : w1.cell? ⟨b, 0, none⟩ = some (.string tAwz) := hb1.cell 0
  have f0 := hb1.frozen 0
  have r12 := HR.out w1 hb
  have HC := Lib.hid (suffixed2_ok eb w1 (HE.out w1 hb))
  clear hb hb1
  go_wp2_with fail
  refine wp_loop_rounds 2 ?_
  rw [rounds_succ]
  go_wp2_with fail
  refine HC.out.mono ?_
  rintro e w2 ⟨rfl, rfl⟩
  go_wp2_with fail
  have HS := Lib.hid (show Blk _ b 9 #[.string tA] from H1.out.set 0 (.string ⟨#[97]⟩))
  have HB2 := Lib.hid (HB.out.setCell (p := ⟨b, 0, none⟩) hlb (.string ⟨#[97]⟩))
  clear c0 f0 r12 HC H1
  generalize (w2.setCell ⟨b, 0, none⟩ (.string ⟨#[97]⟩)) = w3 at *
  rw [rounds_succ]
  go_wp2_with fail
  have HJ := Lib.hid (Tryz.strings_Join b 0 1 [tA] ⟨#[47]⟩ w3 (by
    intro j x hx
    match j, hx with
    | 0, hx => simp at hx; subst hx; exact HS.out.cell 0) HS.out.lt (by decide) (by decide) (by decide))
  have ej : (Lib.join ([tA].map (·.data.toList)) (⟨#[47]⟩ : ByteArray).data.toList).toArray = #[97] := by decide
  rw [ej] at HJ
  refine HJ.out.mono ?_
  rintro e w4 ⟨rfl, hb4⟩
  go_wp2_with fail
  go_ret2
  exact ⟨rfl, HB2.out.trans (hb4.mono HB2.out.size)⟩
set_option maxRecDepth 100000 in
set_option maxHeartbeats 4000000 in
theorem rename2_ok (rb tb eb : Nat) (w : World) (g : Gl w) (hR : w.cell? ⟨rb, 12, none⟩ = some (clo 123 eb)) (hE : w.cell? ⟨eb, 0, none⟩ = some (.string ⟨#[46, 119, 122]⟩)) (hT : w.cell? ⟨tb, 0, none⟩ = some (.int .i64 1024)) :
    Calls Tryz.prog 127 #[.string tA, pt rb, pt tb] w fun e w' => e = .returned (.tuple #[.string tAwz, .bool true]) ∧ Below w.heap.size w w' := by
  have HL := Lib.hid (lowPath_ok rb eb w g hR hE)
  have HT := Lib.hid (fun wx (hb : Below w.heap.size w wx) => (hb.cell (World.block_lt_of_cell? _ _ hT)).trans hT)
  have GG := Lib.hid (fun wx (hb : Below w.heap.size w wx) => check_ok tAwz wx (g.below hb) nm_awz)
  clear g hR hE hT
  go_enter Tryz.func127, Tryz.ntmps127
  go_wp2_with fail
  refine HL.out.mono ?_
  rintro e w1 ⟨rfl, hb⟩
  have t0 := HT.out w1 hb
  have HK := Lib.hid (GG.out w1 hb)
  have HB := Lib.hid hb
  clear hb GG HT HL
  go_wp2_with fail
  refine HK.out.mono ?_
  rintro e w2 ⟨rfl, hb2⟩
  go_wp2_with fail
  go_ret2
  exact ⟨rfl, HB.out.trans (hb2.mono HB.out.size)⟩
end Go.Proofs.YtpjnjhklkgefcaaGreatDoor

set_option linter.unusedVariables false
set_option linter.unusedSimpArgs false
namespace Go.Proofs.YtpjnjhklkgefcaaGreatDoor
open Go.RowKit
set_option maxRecDepth 100000 in
set_option maxHeartbeats 4000000 in
theorem wrapIsFile_ok (s : ByteArray) (w : World) (g : Gl w) (h : Nm s) : Calls Tryz.prog 260 #[.string s] w fun e w' => e = .returned (.int .i64 0) ∧ Below w.heap.size w w' := by
  have hd0 := nm_ne h
  have HK := Lib.hid (check_ok s w g h)
  clear h g
  go_enter Tryz.func260, Tryz.ntmps260
  go_wp2_with fail
  refine HK.out.mono ?_
  rintro e w1 ⟨rfl, hb⟩
  go_wp2_with fail
  go_ret
  exact ⟨rfl, hb⟩
set_option maxRecDepth 100000 in
set_option maxHeartbeats 4000000 in
theorem Fits_ok (f : Ft) (s : ByteArray) (w : World) (g : Gl w) (h : Nm s) (h1 : (s.size : Int) ≤ f.mpath) (h2 : (s.size : Int) ≤ f.mname) (h3 : f.forbid = ⟨#[]⟩) : Calls Tryz.prog 265 #[.agg f.cells, .string s] w fun e w' => e = .returned (.bool true) ∧ Below w.heap.size w w' := by
  have HF := Lib.hid (fun wx (hb : Below w.heap.size w wx) => fits_ok f s wx (g.below hb) h h1 h2 h3)
  clear g h h3
  go_enter Tryz.func265, Tryz.ntmps265
  go_wp2_with fail
  have hb := (Below.refl w.heap.size w).alloc (Nat.le_refl _) (.cells f.cells 33)
  refine (HF.out _ hb).mono ?_
  rintro e w1 ⟨rfl, hb1⟩
  go_wp2_with fail
  go_ret
  exact ⟨rfl, hb.trans (hb1.mono hb.size)⟩
theorem SqM.down {m sb rb tb eb gg : Nat} {w : World} (h : SqM m sb rb tb eb gg w) (g : Gl w) : Calls Tryz.prog 127 #[.string tA, pt rb, pt tb] w fun e w' => e = .returned (.tuple #[.string tAwz, .bool true]) ∧ Below w.heap.size w w' :=
  rename2_ok rb tb eb w g (h.hr.cell 12) (h.he.cell 0) (h.ht.cell 0)
set_option maxRecDepth 100000 in
set_option maxHeartbeats 4000000 in
theorem lower_ok {m sb rb tb eb gg : Nat} (w : World) (g : Gl w) (h : SqM m sb rb tb eb gg w) : Calls Tryz.prog 285 #[pt sb, .string tA] w fun e w' => e = .returned (.tuple #[.string tAwz, .int .i64 0]) ∧ Below w.heap.size w w' := by
  have HD := Lib.hid (h.down g)
  have c10 := h.hs.cell 10
  simp at c10
  clear h g
  go_enter Tryz.func285, Tryz.ntmps285
  go_wp2_with fail
  refine HD.out.mono ?_
  rintro e w1 ⟨rfl, hb⟩
  go_wp2_with fail
  go_ret2
  exact ⟨rfl, hb⟩
set_option maxRecDepth 100000 in
set_option maxHeartbeats 4000000 in
theorem overIsNew_ok {m sb rb tb eb gg : Nat} (w : World) (g : Gl w) (h : SqM m sb rb tb eb gg w) : Calls Tryz.prog 288 #[pt sb, .string tA] w fun e w' => e = .returned (.int .i64 0) ∧ Below w.heap.size w w' := by
  have HF := Lib.hid (wrapIsFile_ok tA w g nm_a)
  have HQ := Lib.hid (fun wx (hb : Below w.heap.size w wx) => SqM.below h hb)
  have GG := Lib.hid (fun wx (hb : Below w.heap.size w wx) => g.below hb)
  clear h g
  go_enter Tryz.func288, Tryz.ntmps288
  go_wp2_with fail
  refine HF.out.mono ?_
  rintro e w1 ⟨rfl, hb1⟩
  have HD := Lib.hid ((HQ.out _ hb1).down (GG.out _ hb1))
  have c10 := (HQ.out _ hb1).hs.cell 10
  simp at c10
  have HB1 := Lib.hid hb1
  clear hb1
  go_wp2_with fail
  refine HD.out.mono ?_
  rintro e w2 ⟨rfl, hb2⟩
  have hb := HB1.out.trans (hb2.mono HB1.out.size)
  have HC := Lib.hid (fun wx (hb' : Below w.heap.size w wx) => Fits_ok ⟨2943, 0, 1, 252, 1024, gg, 3, 1, ⟨#[]⟩⟩ tA wx (GG.out _ hb') nm_a (show (1 : Int) ≤ 1024 by decide) (show (1 : Int) ≤ 252 by decide) rfl)
  have hc := (HQ.out _ hb).hs.cell
  have HB2 := Lib.hid hb
  clear hb hb2 c10 HD HB1
  go_wp2_with fail
  refine (HC.out _ HB2.out).mono ?_
  rintro e w3 ⟨rfl, hb3⟩
  clear hc
  go_wp2_with fail
  go_ret
  exact ⟨rfl, HB2.out.trans (hb3.mono HB2.out.size)⟩
set_option maxRecDepth 100000 in
set_option maxHeartbeats 4000000 in
theorem lowerNew_ok {m sb rb tb eb gg : Nat} (w : World) (g : Gl w) (h : SqM m sb rb tb eb gg w) : Calls Tryz.prog 287 #[pt sb, .string tA] w fun e w' => e = .returned (.tuple #[.string tAwz, .int .i64 0]) ∧ Below w.heap.size w w' := by
  have HI := Lib.hid (overIsNew_ok w g h)
  have HL := Lib.hid (fun wx (hb : Below w.heap.size w wx) => lower_ok wx (g.below hb) (h.below hb))
  clear h g
  go_enter Tryz.func287, Tryz.ntmps287
  go_wp2_with fail
  refine HI.out.mono ?_
  rintro e w1 ⟨rfl, hb⟩
  go_wp2_with fail
  refine (HL.out _ hb).mono ?_
  rintro e w2 ⟨rfl, hb2⟩
  go_wp2_with fail
  go_ret2
  exact ⟨rfl, hb.trans (hb2.mono hb.size)⟩
theorem two_below {p q : Addr} {u v : Value} {w w' : World} (h : w.cell? p = some u ∧ w.cell? q = some v) (hb : Below w.heap.size w w') : w'.cell? p = some u ∧ w'.cell? q = some v :=
  ⟨(hb.cell (World.block_lt_of_cell? _ _ h.1)).trans h.1, (hb.cell (World.block_lt_of_cell? _ _ h.2)).trans h.2⟩
set_option maxRecDepth 100000 in
set_option maxHeartbeats 4000000 in
theorem told_ok {m sb rb tb eb gg : Nat} (n : Nat) (sv : Value) (id : ByteArray) (hsv : ∃ p a c, sv = .slice p a c) (w : World) (g : Gl w) (h : SqM m sb rb tb eb gg w) :
    Calls Tryz.prog 286 #[pt sb, .agg (infoC tAwz n 7 sv (.slice none 0 0) id), .int .i64 0] w fun e w' => e = .returned (.tuple #[.agg (infoC tA n 7 sv (.slice none 0 0) id), .int .i64 0]) ∧ Below w.heap.size w w' := by
  obtain ⟨p, a, c, rfl⟩ := hsv
  have HQ := Lib.hid (fun wx (hb : Below w.heap.size w wx) => SqM.below h hb)
  have GG := Lib.hid (fun wx (hb : Below w.heap.size w wx) => g.below hb)
  clear h g
  go_enter Tryz.func286, Tryz.ntmps286
  go_wp2_with fail
  have HB0 := (Below.refl w.heap.size w).alloc (Nat.le_refl _) (.cells (infoC tAwz n 7 (.slice p a c) (.slice none 0 0) id) 53)
  have HB := Lib.hid (HB0.alloc HB0.size (.cells infoZ 53))
  have HX := Lib.hid ((Blk.new w 53 (infoC tAwz n 7 (.slice p a c) (.slice none 0 0) id)).old (.cells infoZ 53))
  have HR := Lib.hid (show Blk _ (w.heap.size + 1) _ _ from Blk.newAt (w := w.alloc (.cells (infoC tAwz n 7 (.slice p a c) (.slice none 0 0) id) 53)) (t := 53) (cs := infoZ) (by simp))
  clear HB0
  generalize ((w.alloc (.cells (infoC tAwz n 7 (.slice p a c) (.slice none 0 0) id) 53)).alloc (.cells infoZ 53)) = w2 at *
  generalize hrr : w.heap.size + 1 = rr at *
  generalize hxb : w.heap.size = xb at *
  have HN := Lib.hid (show xb + 1 = rr by omega)
  have HW := Lib.hid hxb
  clear hrr hxb
  have HS := Lib.hid (show w2.cell? ⟨sb, 11, none⟩ = some (upF rb) ∧ w2.cell? ⟨xb, 0, none⟩ = some (.string tAwz) from ⟨(HQ.out _ HB.out).hs.cell 11, HX.out.cell 0⟩)
  have hlw2 : xb ≤ w2.heap.size := by have := HB.out.size; have := HW.out; omega
  have HP := Lib.hid (fun wx (hb : Below w2.heap.size w2 wx) => (fun hb' => highPath_ok rb eb wx (GG.out _ hb') ((HQ.out _ hb').hr.cell 13) ((HQ.out _ hb').he.cell 0)) (HB.out.trans (hb.mono hlw2)))
  go_region_held3 (fun wx => wx.cell? ⟨sb, 11, none⟩ = some (upF rb) ∧ wx.cell? ⟨xb, 0, none⟩ = some (.string tAwz))
    (first | assumption | exact HS.out | exact two_below HS.out ((Below.refl _ _).drew) | exact two_below (by assumption) hb3)
    ((go_at_call 129; refine (HP.out _ ((Below.refl _ _).drew)).mono ?_; rintro e w3 ⟨rfl, hb3⟩))
  all_goals
    have hb3 := ((Below.refl w2.heap.size w2).drew).trans hb3
    have HX3 := Lib.hid (HX.out.below hb3 HX.out.lt)
    have HR3 := Lib.hid (HR.out.below hb3 HR.out.lt)
    have HB3 := Lib.hid (HB.out.trans (hb3.mono hlw2))
    have f0 := HX3.out.frozen 0
    have x0 := HX3.out.cell 0
    clear hb3 HS HX HR HB HP hlw2
    go_upto_region 7 with (fail)
    have HX4 := Lib.hid (show Blk _ xb 53 (infoC tA n 7 (.slice p a c) (.slice none 0 0) id) from HX3.out.set 0 (.string tA))
    have HR4 := Lib.hid ((Kp.setCell (Kp.refl [xb] w3) ⟨xb, 0, none⟩ (.string tA) (Or.inl (by simp))).blk HR3.out (by have := HN.out; simp; omega))
    have HB4 := Lib.hid (HB3.out.setCell (p := ⟨xb, 0, none⟩) (Nat.le_refl _) (.string tA))
    clear x0 f0 HX3 HR3 HB3
    generalize (w3.setCell ⟨xb, 0, none⟩ (.string tA)) = w4 at *
    have hX4 := HX4.out
    have r0 := hX4.cell 0
    have r1 := hX4.cell 1
    have r2 := hX4.cell 2
    have r3 := hX4.cell 3
    have r4 := hX4.cell 4
    have r5 := hX4.cell 5
    have r6 := hX4.cell 6
    simp at r0 r1 r2 r3 r4 r5 r6
    have hR4 := HR4.out
    have q0 := hR4.frozen 0
    have q1 := hR4.frozen 1
    have q2 := hR4.frozen 2
    have q3 := hR4.frozen 3
    have q4 := hR4.frozen 4
    have q5 := hR4.frozen 5
    have q6 := hR4.frozen 6
    have s0 := hR4.cell 0
    have s1 := hR4.cell 1
    have s2 := hR4.cell 2
    have s3 := hR4.cell 3
    have s4 := hR4.cell 4
    have s5 := hR4.cell 5
    have s6 := hR4.cell 6
    simp at s0 s1 s2 s3 s4 s5 s6
    clear hX4 hR4
    go_wp2_with fail
    refine bodyPost_ret (v := .tuple #[.agg (infoC tA n 7 (.slice p a c) (.slice none 0 0) id), .int .i64 0]) (results_cell_tmp (p := 6) (u := 7) Tryz.results286 _ _ rr 53 _ (0, 0) _ rfl HR4.out.info Tryz.underlying53 rfl infoInfo) rfl ⟨rfl, ?_⟩
    rw [HW.out]
    have hxr : xb ≤ rr := by have := HN.out; omega
    exact ((((((HB4.out.setCell (p := ⟨rr, 0, none⟩) hxr _).setCell (p := ⟨rr, 1, none⟩) hxr _).setCell (p := ⟨rr, 2, none⟩) hxr _).setCell (p := ⟨rr, 3, none⟩) hxr _).setCell (p := ⟨rr, 4, none⟩) hxr _).setCell (p := ⟨rr, 5, none⟩) hxr _).setCell (p := ⟨rr, 6, none⟩) hxr _
end Go.Proofs.YtpjnjhklkgefcaaGreatDoor
