/-
  Keeper.checkKept: the error of an entry behind another one.
-/
import Derived.Test.YtfcnmdmbkoekcaaGreatDoorYa
import Derived.Test.YtfcnmdmbkoekcaaGreatDoorYb
import Derived.Test.YtfcnmdmbkoekcaaGreatDoorYc
import Derived.Test.YtfcnmdmbkoekcaaGreatDoorKd
import Derived.Test.YtfcnmdmbkoekcaaGreatDoorAe
import Derived.Test.YtfcnmdmbkoekcaaGreatDoorXh
set_option linter.unusedVariables false
set_option linter.unusedSimpArgs false
namespace Go.Proofs.YtfcnmdmbkoekcaaGreatDoor
open Go.RowKit Go.Proofs.Kl
/-- a text is the path of a file. -/
def fileB (s : ByteArray) : Bool := !s.toList.isEmpty && pathB s
set_option maxRecDepth 100000 in
set_option maxHeartbeats 4000000 in
theorem isFile_any (s : ByteArray) (w : World) (g : Gl w) (hs : s.size ≤ 1048576) : Calls Tryz.prog 57 #[.string s] w fun e w' => e = .returned (.int .i64 (if fileB s then 0 else 1)) ∧ Below w.heap.size w w' := by
  have C := Lib.hid (check_any s w g hs)
  cases h1 : s.toList.isEmpty
  · have e : fileB s = pathB s := by unfold fileB; rw [h1]; rfl
    rw [e]
    obtain ⟨v, hv⟩ : ∃ v : Int, (if pathB s = true then (0 : Int) else 1) = v := ⟨_, rfl⟩
    have C2 := C.out
    rw [hv] at C2 ⊢
    have C3 := Lib.hid C2
    clear C C2 hv e g
    go_enter Tryz.func57, Tryz.ntmps57
    go_wp2_with fail
    refine C3.out.mono ?_
    rintro e w1 ⟨rfl, hb⟩
    have HB := Lib.hid hb
    clear hb C3
    go_wp2_with fail
    go_ret
    exact ⟨rfl, HB.out⟩
  · have e : fileB s = false := by unfold fileB; rw [h1]; rfl
    rw [e]
    clear C
    go_enter Tryz.func57, Tryz.ntmps57
    go_wp2_with fail
    go_ret
    exact ⟨rfl, Below.refl _ _⟩
abbrev kpC (m gb cap mb ub : Nat) : Array Value := #[.iface 23 (pt m), .int .i64 3071, .int .i64 6, .int .i64 1, .int .i64 255, .int .i64 1024, .int .i64 100000, .int .i64 3, .int .i64 1, .string ⟨#[]⟩, fn0 53, fn0 53, .slice (some ⟨gb, 0, none⟩) 2 cap, .map (some mb), .map (some ub)]
/-- a keeper's memory. -/
structure KpM (m kb gb cap mb ub : Nat) (w : World) : Prop where
  hk : Blk w kb 93 (kpC m gb cap mb ub)
  k1 : w.cell? ⟨gb, 0, none⟩ = some (.int .i64 1)
  k2 : w.cell? ⟨gb, 1, none⟩ = some (.int .i64 2)
  hm : FeatM m w
theorem KpM.below {m kb gb cap mb ub : Nat} {w w' : World} (h : KpM m kb gb cap mb ub w) (hb : Below w.heap.size w w') : KpM m kb gb cap mb ub w' :=
  ⟨h.hk.below hb h.hk.lt, (hb.cell (World.block_lt_of_cell? _ _ h.k1)).trans h.k1, (hb.cell (World.block_lt_of_cell? _ _ h.k2)).trans h.k2, h.hm.below hb⟩
theorem hexAll_eq (s : ByteArray) (n : Nat) : (s.data.toList.all hexB && ((s.size : Int) == ((n : Nat) : Int))) = hexAll s n := by
  unfold hexAll
  congr 1
  cases h : ((s.size : Int) == (n : Int))
  · exact (decide_eq_false (by simp at h; omega)).symm
  · exact (decide_eq_true (by simp at h; omega)).symm
theorem isSum_hex (kind : Int) (n : Nat) (s : ByteArray) (w : World) (hs : s.size ≤ 9000000000000000000) (hk : (Lit.int .i64 kind).wf = true) (hd : dig5.atKey (.int .i64 kind) (.lit (.int .i64 0)) = .lit (.int .i64 (n : Int))) : Calls Tryz.prog 60 #[.int .i64 kind, .string s] w fun e w' => e = .returned (.bool (hexAll s n)) ∧ Below w.heap.size w w' :=
  (isSum_n kind (n : Int) s w hs hk hd).mono fun e w' ⟨he, hb⟩ => ⟨by rw [he, hexAll_eq], hb⟩
theorem kinds_two {l : List (Int × ByteArray)} (h : kindsB l = true) : ∃ t1 t2, l = [(1, t1), (2, t2)] := by
  have h1 : l.map Prod.fst = [1, 2] := of_decide_eq_true h
  match l, h1 with
  | [(a, s), (b, t)], h1 =>
    simp only [List.map_cons, List.map_nil, List.cons.injEq, and_true] at h1
    obtain ⟨rfl, rfl⟩ := h1
    exact ⟨s, t, rfl⟩
theorem below_drewN2 {B : Nat} {w0 w : World} (h : Below B w0 w) (n : Nat) : Below B w0 (w.drewN n) := ⟨h.os, h.tape, h.output, h.size, h.block⟩
theorem below_drw {B : Nat} {w0 w : World} (h : Below B w0 w) : Below B w0 w.drew := ⟨h.os, h.tape, h.output, h.size, h.block⟩
/-- the error of the last part of the check. -/
def chk2 (size time : Int) (l : List (Int × ByteArray)) : Int := if farB size time then 7 else if kindsB l = false then 5 else if formsB l then 0 else 6
set_option maxRecDepth 100000 in
set_option maxHeartbeats 8000000 in
theorem checkKept_ok (x : Ent) (prev : ByteArray) (fs : Bool) (m kb gb cap mb ub : Nat) (w : World) (g : Gl w) (hk : KpM m kb gb cap mb ub w) (hsv : SumVal w x.sv x.sums) (hp : x.path.size ≤ 1048576) (hq : prev.size ≤ 1048576) (ht : ∀ z ∈ x.sums, z.2.size ≤ 1048576) :
    Calls Tryz.prog 28 #[pt kb, valE x, .string prev, .bool fs] w fun e w' => e = .returned (.int .i64 (chk fileB (if fs then none else some prev) x.e)) ∧ Below w.heap.size w w' := by
  obtain ⟨p, sz, tm, sv, l⟩ := x
  show Calls Tryz.prog 28 #[pt kb, .agg #[.string p, .int .i64 sz, .int .i64 tm, sv], .string prev, .bool fs] w fun e w' => e = .returned (.int .i64 (chk fileB (if fs then none else some prev) ⟨p, sz, tm, l⟩)) ∧ Below w.heap.size w w'
  simp only at hsv hp ht
  obtain ⟨a, cp, hsve, hsc⟩ := hsv
  obtain ⟨v, hv⟩ : ∃ v, chk fileB (if fs then none else some prev) ⟨p, sz, tm, l⟩ = v := ⟨_, rfl⟩
  rw [hv]
  have HV := Lib.hid (show (if fileB p = false then 1 else if lateB (if fs then none else some prev) p then 10 else chk2 sz tm l) = v from hv)
  have HK := Lib.hid hk
  have HT := Lib.hid ht
  have HSV := Lib.hid (show SumVal w sv l from ⟨a, cp, hsve, hsc⟩)
  have HSE := Lib.hid hsve
  have CF0 := (fun (wx : World) (hb : Below w.heap.size w wx) => isFile_any p wx (g.below hb) hp)
  have HFC0 : (fileB p = false ∧ (if fileB p = true then (0 : Int) else 1) = 1) ∨ (fileB p = true ∧ (if fileB p = true then (0 : Int) else 1) = 0) := by cases fileB p <;> simp
  generalize (if fileB p = true then (0 : Int) else 1) = F at *
  have CF := Lib.hid CF0
  have HFC := Lib.hid HFC0
  have HSC := Lib.hid hsc
  have EQ := Lib.hid (fun (wx : World) (hb : Below w.heap.size w wx) => eqKinds_ok l sv gb cap wx (SumVal.below (show SumVal w sv l from ⟨a, cp, hsve, hsc⟩) hb) ((hb.cell (World.block_lt_of_cell? _ _ hk.k1)).trans hk.k1) ((hb.cell (World.block_lt_of_cell? _ _ hk.k2)).trans hk.k2))
  clear CF0 HFC0
  have CC := Lib.hid (fun (wx : World) => compare_ok prev p wx (by omega) (by omega))
  have hkl := hk.hk.lt
  clear hv hk hsc ht hsve g
  go_enter Tryz.func28, Tryz.ntmps28
  go_wp2_with fail
  have HB1 := Lib.hid ((Below.refl w.heap.size w).alloc (Nat.le_refl _) (.cells #[.string p, .int .i64 sz, .int .i64 tm, sv] 40))
  have HX1 := Lib.hid (Blk.new w 40 #[.string p, .int .i64 sz, .int .i64 tm, sv])
  obtain ⟨xb, hxb⟩ : ∃ b, w.heap.size = b := ⟨_, rfl⟩
  generalize (w.alloc (.cells #[.string p, .int .i64 sz, .int .i64 tm, sv] 40)) = w1 at *
  rw [hxb] at HX1 ⊢
  have HXB := Lib.hid hxb
  clear hxb
  have x0 := HX1.out.cell 0
  simp at x0
  go_wp2_with fail
  refine (CF.out w1 HB1.out).mono ?_
  rintro e w2 ⟨rfl, hb2⟩
  have HB2 := Lib.hid (HB1.out.trans (hb2.mono HB1.out.size))
  have HX2 := Lib.hid (HX1.out.below hb2 HX1.out.lt)
  clear hb2 x0 HX1 HB1
  rcases HFC.out with ⟨hf, rfl⟩ | ⟨hf, rfl⟩
  · have HF := Lib.hid hf
    clear hf HFC
    go_wp2_with fail
    go_ret
    refine ⟨?_, HB2.out⟩
    rw [← HV.out, HF.out]; rfl
  · have HF0 := Lib.hid hf
    clear hf HFC
    cases fs
    · have x0 := HX2.out.cell 0
      simp at x0
      have HL := Lib.hid (show lateB (some prev) p = decide (0 ≤ cmpL prev.data.toList p.data.toList) from rfl)
      have CC0 := CC.out
      generalize cmpL prev.data.toList p.data.toList = cm at *
      have CC2 := Lib.hid CC0
      clear CC0 CC
      by_cases hcm : 0 ≤ cm
      · have d1 : decide (cm ≥ 0) = true := decide_eq_true hcm
        have d1' : decide (0 ≤ cm) = true := decide_eq_true hcm
        have HL2 := Lib.hid (show lateB (some prev) p = true from by rw [HL.out]; exact d1')
        go_wp2_with fail
        refine (CC2.out _).mono ?_
        rintro e w3 ⟨rfl, q, rfl⟩
        go_wp2_with fail
        go_ret
        refine ⟨?_, below_drewN2 HB2.out _⟩
        rw [← HV.out, HF0.out, if_neg (by decide), if_pos (by exact HL2.out)]; rfl
      · have d1 : decide (cm ≥ 0) = false := decide_eq_false hcm
        have d1' : decide (0 ≤ cm) = false := decide_eq_false hcm
        have HL2 := Lib.hid (show lateB (some prev) p = false from by rw [HL.out]; exact d1')
        have HV2 := Lib.hid (show chk2 sz tm l = v from by rw [← HV.out, HF0.out, if_neg (by decide), if_neg (by rw [show lateB (if false = true then none else some prev) p = false from HL2.out]; decide)])
        go_wp2_with fail
        refine (CC2.out _).mono ?_
        rintro e w3 ⟨rfl, hq⟩
        have HB3 := Lib.hid (show Below w.heap.size w w3 from by obtain ⟨q, rfl⟩ := hq; exact below_drewN2 HB2.out _)
        have HX3 := Lib.hid (show Blk w3 xb 40 #[.string p, .int .i64 sz, .int .i64 tm, sv] from by obtain ⟨q, rfl⟩ := hq; exact HX2.out)
        clear hq x0 HV HL HL2 CC2 HX2
        have y1 := HX3.out.cell 1
        have y2 := HX3.out.cell 2
        simp at y1 y2
        by_cases g1 : sz < 0
        · have hfar : farB sz tm = true := by unfold farB; simp; omega
          have HF := Lib.hid hfar
          clear hfar
          have f1 : decide (sz < 0) = true := decide_eq_true g1
          go_wp2_with fail
          go_ret
          refine ⟨?_, HB3.out⟩
          rw [← HV2.out]; unfold chk2; rw [HF.out]; rfl
        have G0 := Lib.hid g1
        have q0 := g1
        clear g1
        by_cases g1 : 1048576 < sz
        · have hfar : farB sz tm = true := by unfold farB; simp; omega
          have HF := Lib.hid hfar
          clear hfar
          have f1 : decide (sz < 0) = false := decide_eq_false (by omega)
          have f2 : decide (sz > 1048576) = true := decide_eq_true g1
          have f2' : decide (1048576 < sz) = true := decide_eq_true g1
          go_wp2_with fail
          go_ret
          refine ⟨?_, HB3.out⟩
          rw [← HV2.out]; unfold chk2; rw [HF.out]; rfl
        have G1 := Lib.hid g1
        have q1 := g1
        clear g1
        by_cases g1 : tm < 0
        · have hfar : farB sz tm = true := by unfold farB; simp; omega
          have HF := Lib.hid hfar
          clear hfar
          have f1 : decide (sz < 0) = false := decide_eq_false (by omega)
          have f2 : decide (sz > 1048576) = false := decide_eq_false (by omega)
          have f2' : decide (1048576 < sz) = false := decide_eq_false (by omega)
          have f3 : decide (tm < 0) = true := decide_eq_true g1
          go_wp2_with fail
          go_ret
          refine ⟨?_, HB3.out⟩
          rw [← HV2.out]; unfold chk2; rw [HF.out]; rfl
        have G2 := Lib.hid g1
        have q2 := g1
        clear g1
        by_cases g1 : 4611686018427387904 < tm
        · have hfar : farB sz tm = true := by unfold farB; simp; omega
          have HF := Lib.hid hfar
          clear hfar
          have f1 : decide (sz < 0) = false := decide_eq_false (by omega)
          have f2 : decide (sz > 1048576) = false := decide_eq_false (by omega)
          have f2' : decide (1048576 < sz) = false := decide_eq_false (by omega)
          have f3 : decide (tm < 0) = false := decide_eq_false (by omega)
          have f4 : decide (tm > 4611686018427387904) = true := decide_eq_true g1
          have f4' : decide (4611686018427387904 < tm) = true := decide_eq_true g1
          go_wp2_with fail
          go_ret
          refine ⟨?_, HB3.out⟩
          rw [← HV2.out]; unfold chk2; rw [HF.out]; rfl
        have G3 := Lib.hid g1
        have q3 := g1
        clear g1
        have hfar : farB sz tm = false := by unfold farB; simp; omega
        have HF := Lib.hid hfar
        clear hfar
        have f1 : decide (sz < 0) = false := decide_eq_false (by omega)
        have f2 : decide (sz > 1048576) = false := decide_eq_false (by omega)
        have f2' : decide (1048576 < sz) = false := decide_eq_false (by omega)
        have f3 : decide (tm < 0) = false := decide_eq_false (by omega)
        have f4 : decide (tm > 4611686018427387904) = false := decide_eq_false (by omega)
        have f4' : decide (4611686018427387904 < tm) = false := decide_eq_false (by omega)
        have y3 := HX3.out.cell 3
        have k12 := (HB3.out.cell (p := ⟨kb, 12, none⟩) hkl).trans (HK.out.hk.cell 12)
        simp at y3 k12
        clear q0 q1 q2 q3
        go_wp2_with fail
        go_still_tail 6, (by kernel_rfl)
        change wpList _ _ _ _ _ w3.drew
        go_wp2_with fail
        refine (EQ.out _ (below_drw HB3.out)).mono ?_
        rintro e w4 ⟨rfl, hb4⟩
        have HB4 := Lib.hid ((below_drw HB3.out).trans (hb4.mono HB3.out.size))
        have HX4 := Lib.hid (Blk.below (w := w3.drew) (show Blk w3.drew xb 40 #[.string p, .int .i64 sz, .int .i64 tm, sv] from HX3.out) hb4 HX3.out.lt)
        clear hb4 y1 y2 y3 k12 f1 f2 f2' f3 f4 f4'
        cases hkd : kindsB l
        · have HKD := Lib.hid hkd
          clear hkd
          go_wp2_with fail
          go_ret
          refine ⟨?_, HB4.out⟩
          rw [← HV2.out]; unfold chk2; rw [HF.out, HKD.out]; rfl
        · obtain ⟨t1, t2, rfl⟩ := kinds_two hkd
          obtain ⟨b, off, rfl, hbl, d0, d1, d2, d3⟩ := HSC.out (1, t1) (2, t2) rfl
          have HBL := Lib.hid hbl
          have D0 := Lib.hid d0
          have D1 := Lib.hid d1
          have D2 := Lib.hid d2
          have D3 := Lib.hid d3
          have IS1 := Lib.hid (fun w => isSum_hex 1 8 t1 w (by have := HT.out (1, t1) (by simp); simp only at this; omega) (by decide) dig_1)
          have IS2 := Lib.hid (fun w => isSum_hex 2 32 t2 w (by have := HT.out (2, t2) (by simp); simp only at this; omega) (by decide) dig_2)
          have HVT := Lib.hid (show (if (hexAll t1 8 && hexAll t2 32) = true then (0 : Int) else 6) = v from by rw [← HV2.out]; unfold chk2; rw [HF.out, hkd]; rfl)
          obtain rfl := HSE.out
          clear hbl d0 d1 d2 d3 hkd
          have y3 := HX4.out.cell 3
          simp at y3
          go_wp2_with fail
          go_loopw [57] (fun i wr => ∃ k : Nat, i = .int .i64 (k : Int) ∧ k ≤ 2 ∧ (1 ≤ k → hexAll t1 8 = true) ∧ (2 ≤ k → hexAll t2 32 = true) ∧ Below w4.heap.size w4 wr) (fun i _ => 2 - (intOf i).toNat)
          case atStart => exact ⟨0, rfl, by omega, by omega, by omega, Below.refl _ _⟩
          case round =>
            obtain ⟨k, rfl, hk, h1, h2, hbe⟩ := hrel
            have HB := Lib.hid hbe
            have H1 := Lib.hid h1
            have H2 := Lib.hid h2
            have HBW := Lib.hid (HB4.out.trans (hbe.mono HB4.out.size))
            clear hbe h1 h2 y3
            have hb0 := HBL.out
            have c0 := (HBW.out.cell (p := ⟨b, off, none⟩) hb0).trans D0.out
            have c1 := (HBW.out.cell (p := ⟨b, off + 1, none⟩) hb0).trans D1.out
            have c2 := (HBW.out.cell (p := ⟨b, off + 2, none⟩) hb0).trans D2.out
            have c3 := (HBW.out.cell (p := ⟨b, off + 3, none⟩) hb0).trans D3.out
            have hsz := HBW.out.size
            have hbr : b < wr.heap.size := by omega
            rcases (show k = 0 ∨ k = 1 ∨ k = 2 by omega) with rfl | rfl | rfl
            · cases hx : hexAll t1 8
              · go_wp2_with fail
                refine (IS1.out _).mono ?_
                rintro e w5 ⟨rfl, hb5⟩
                rw [hx]
                have HB5 := Lib.hid ((HBW.out.alloc HBW.out.size _).trans (hb5.mono (by simp; omega)))
                have HX := Lib.hid hx
                clear hb5 hx
                go_wp2_with fail
                go_ret
                refine ⟨?_, HB5.out⟩
                rw [← HVT.out, HX.out]; simp
              · go_wp2_with fail
                refine (IS1.out _).mono ?_
                rintro e w5 ⟨rfl, hb5⟩
                rw [hx]
                have HB5 := Lib.hid ((HB.out.alloc HB.out.size _).trans (hb5.mono (by have := HB.out.size; simp; omega)))
                have HX := Lib.hid hx
                clear hb5 hx
                go_wp2_with fail
                go_roundw
                case rel => exact ⟨1, by go_num, by omega, fun _ => by first | exact HX.out | trivial, fun h => by omega, HB5.out⟩
                case measure => simp [intOf]
            · cases hx : hexAll t2 32
              · go_wp2_with fail
                refine (IS2.out _).mono ?_
                rintro e w5 ⟨rfl, hb5⟩
                rw [hx]
                have HB5 := Lib.hid ((HBW.out.alloc HBW.out.size _).trans (hb5.mono (by simp; omega)))
                have HX := Lib.hid hx
                clear hb5 hx
                go_wp2_with fail
                go_ret
                refine ⟨?_, HB5.out⟩
                rw [← HVT.out, HX.out]; simp
              · go_wp2_with fail
                refine (IS2.out _).mono ?_
                rintro e w5 ⟨rfl, hb5⟩
                rw [hx]
                have HB5 := Lib.hid ((HB.out.alloc HB.out.size _).trans (hb5.mono (by have := HB.out.size; simp; omega)))
                have HX := Lib.hid hx
                clear hb5 hx
                go_wp2_with fail
                go_roundw
                case rel => exact ⟨2, by go_num, by omega, fun _ => H1.out (by omega), fun _ => by first | exact HX.out | trivial, HB5.out⟩
                case measure => simp [intOf]
            · go_wp2_with fail
              go_ret
              refine ⟨?_, HBW.out⟩
              rw [← HVT.out, H1.out (by omega), H2.out (by omega)]; rfl
    · have HV2 := Lib.hid (show chk2 sz tm l = v from by rw [← HV.out, HF0.out]; rfl)
      have HB3 := HB2
      have HX3 := HX2
      clear HV HX2
      obtain ⟨w3, hw3⟩ : ∃ w3, w3 = w2 := ⟨_, rfl⟩
      subst hw3
      have y1 := HX3.out.cell 1
      have y2 := HX3.out.cell 2
      simp at y1 y2
      by_cases g1 : sz < 0
      · have hfar : farB sz tm = true := by unfold farB; simp; omega
        have HF := Lib.hid hfar
        clear hfar
        have f1 : decide (sz < 0) = true := decide_eq_true g1
        go_wp2_with fail
        go_ret
        refine ⟨?_, HB3.out⟩
        rw [← HV2.out]; unfold chk2; rw [HF.out]; rfl
      have G0 := Lib.hid g1
      have q0 := g1
      clear g1
      by_cases g1 : 1048576 < sz
      · have hfar : farB sz tm = true := by unfold farB; simp; omega
        have HF := Lib.hid hfar
        clear hfar
        have f1 : decide (sz < 0) = false := decide_eq_false (by omega)
        have f2 : decide (sz > 1048576) = true := decide_eq_true g1
        have f2' : decide (1048576 < sz) = true := decide_eq_true g1
        go_wp2_with fail
        go_ret
        refine ⟨?_, HB3.out⟩
        rw [← HV2.out]; unfold chk2; rw [HF.out]; rfl
      have G1 := Lib.hid g1
      have q1 := g1
      clear g1
      by_cases g1 : tm < 0
      · have hfar : farB sz tm = true := by unfold farB; simp; omega
        have HF := Lib.hid hfar
        clear hfar
        have f1 : decide (sz < 0) = false := decide_eq_false (by omega)
        have f2 : decide (sz > 1048576) = false := decide_eq_false (by omega)
        have f2' : decide (1048576 < sz) = false := decide_eq_false (by omega)
        have f3 : decide (tm < 0) = true := decide_eq_true g1
        go_wp2_with fail
        go_ret
        refine ⟨?_, HB3.out⟩
        rw [← HV2.out]; unfold chk2; rw [HF.out]; rfl
      have G2 := Lib.hid g1
      have q2 := g1
      clear g1
      by_cases g1 : 4611686018427387904 < tm
      · have hfar : farB sz tm = true := by unfold farB; simp; omega
        have HF := Lib.hid hfar
        clear hfar
        have f1 : decide (sz < 0) = false := decide_eq_false (by omega)
        have f2 : decide (sz > 1048576) = false := decide_eq_false (by omega)
        have f2' : decide (1048576 < sz) = false := decide_eq_false (by omega)
        have f3 : decide (tm < 0) = false := decide_eq_false (by omega)
        have f4 : decide (tm > 4611686018427387904) = true := decide_eq_true g1
        have f4' : decide (4611686018427387904 < tm) = true := decide_eq_true g1
        go_wp2_with fail
        go_ret
        refine ⟨?_, HB3.out⟩
        rw [← HV2.out]; unfold chk2; rw [HF.out]; rfl
      have G3 := Lib.hid g1
      have q3 := g1
      clear g1
      have hfar : farB sz tm = false := by unfold farB; simp; omega
      have HF := Lib.hid hfar
      clear hfar
      have f1 : decide (sz < 0) = false := decide_eq_false (by omega)
      have f2 : decide (sz > 1048576) = false := decide_eq_false (by omega)
      have f2' : decide (1048576 < sz) = false := decide_eq_false (by omega)
      have f3 : decide (tm < 0) = false := decide_eq_false (by omega)
      have f4 : decide (tm > 4611686018427387904) = false := decide_eq_false (by omega)
      have f4' : decide (4611686018427387904 < tm) = false := decide_eq_false (by omega)
      have y3 := HX3.out.cell 3
      have k12 := (HB3.out.cell (p := ⟨kb, 12, none⟩) hkl).trans (HK.out.hk.cell 12)
      simp at y3 k12
      clear q0 q1 q2 q3
      go_wp2_with fail
      go_still_tail 6, (by kernel_rfl)
      change wpList _ _ _ _ _ w3.drew
      go_wp2_with fail
      refine (EQ.out _ (below_drw HB3.out)).mono ?_
      rintro e w4 ⟨rfl, hb4⟩
      have HB4 := Lib.hid ((below_drw HB3.out).trans (hb4.mono HB3.out.size))
      have HX4 := Lib.hid (Blk.below (w := w3.drew) (show Blk w3.drew xb 40 #[.string p, .int .i64 sz, .int .i64 tm, sv] from HX3.out) hb4 HX3.out.lt)
      clear hb4 y1 y2 y3 k12 f1 f2 f2' f3 f4 f4'
      cases hkd : kindsB l
      · have HKD := Lib.hid hkd
        clear hkd
        go_wp2_with fail
        go_ret
        refine ⟨?_, HB4.out⟩
        rw [← HV2.out]; unfold chk2; rw [HF.out, HKD.out]; rfl
      · obtain ⟨t1, t2, rfl⟩ := kinds_two hkd
        obtain ⟨b, off, rfl, hbl, d0, d1, d2, d3⟩ := HSC.out (1, t1) (2, t2) rfl
        have HBL := Lib.hid hbl
        have D0 := Lib.hid d0
        have D1 := Lib.hid d1
        have D2 := Lib.hid d2
        have D3 := Lib.hid d3
        have IS1 := Lib.hid (fun w => isSum_hex 1 8 t1 w (by have := HT.out (1, t1) (by simp); simp only at this; omega) (by decide) dig_1)
        have IS2 := Lib.hid (fun w => isSum_hex 2 32 t2 w (by have := HT.out (2, t2) (by simp); simp only at this; omega) (by decide) dig_2)
        have HVT := Lib.hid (show (if (hexAll t1 8 && hexAll t2 32) = true then (0 : Int) else 6) = v from by rw [← HV2.out]; unfold chk2; rw [HF.out, hkd]; rfl)
        obtain rfl := HSE.out
        clear hbl d0 d1 d2 d3 hkd
        have y3 := HX4.out.cell 3
        simp at y3
        go_wp2_with fail
        go_loopw [57] (fun i wr => ∃ k : Nat, i = .int .i64 (k : Int) ∧ k ≤ 2 ∧ (1 ≤ k → hexAll t1 8 = true) ∧ (2 ≤ k → hexAll t2 32 = true) ∧ Below w4.heap.size w4 wr) (fun i _ => 2 - (intOf i).toNat)
        case atStart => exact ⟨0, rfl, by omega, by omega, by omega, Below.refl _ _⟩
        case round =>
          obtain ⟨k, rfl, hk, h1, h2, hbe⟩ := hrel
          have HB := Lib.hid hbe
          have H1 := Lib.hid h1
          have H2 := Lib.hid h2
          have HBW := Lib.hid (HB4.out.trans (hbe.mono HB4.out.size))
          clear hbe h1 h2 y3
          have hb0 := HBL.out
          have c0 := (HBW.out.cell (p := ⟨b, off, none⟩) hb0).trans D0.out
          have c1 := (HBW.out.cell (p := ⟨b, off + 1, none⟩) hb0).trans D1.out
          have c2 := (HBW.out.cell (p := ⟨b, off + 2, none⟩) hb0).trans D2.out
          have c3 := (HBW.out.cell (p := ⟨b, off + 3, none⟩) hb0).trans D3.out
          have hsz := HBW.out.size
          have hbr : b < wr.heap.size := by omega
          rcases (show k = 0 ∨ k = 1 ∨ k = 2 by omega) with rfl | rfl | rfl
          · cases hx : hexAll t1 8
            · go_wp2_with fail
              refine (IS1.out _).mono ?_
              rintro e w5 ⟨rfl, hb5⟩
              rw [hx]
              have HB5 := Lib.hid ((HBW.out.alloc HBW.out.size _).trans (hb5.mono (by simp; omega)))
              have HX := Lib.hid hx
              clear hb5 hx
              go_wp2_with fail
              go_ret
              refine ⟨?_, HB5.out⟩
              rw [← HVT.out, HX.out]; simp
            · go_wp2_with fail
              refine (IS1.out _).mono ?_
              rintro e w5 ⟨rfl, hb5⟩
              rw [hx]
              have HB5 := Lib.hid ((HB.out.alloc HB.out.size _).trans (hb5.mono (by have := HB.out.size; simp; omega)))
              have HX := Lib.hid hx
              clear hb5 hx
              go_wp2_with fail
              go_roundw
              case rel => exact ⟨1, by go_num, by omega, fun _ => by first | exact HX.out | trivial, fun h => by omega, HB5.out⟩
              case measure => simp [intOf]
          · cases hx : hexAll t2 32
            · go_wp2_with fail
              refine (IS2.out _).mono ?_
              rintro e w5 ⟨rfl, hb5⟩
              rw [hx]
              have HB5 := Lib.hid ((HBW.out.alloc HBW.out.size _).trans (hb5.mono (by simp; omega)))
              have HX := Lib.hid hx
              clear hb5 hx
              go_wp2_with fail
              go_ret
              refine ⟨?_, HB5.out⟩
              rw [← HVT.out, HX.out]; simp
            · go_wp2_with fail
              refine (IS2.out _).mono ?_
              rintro e w5 ⟨rfl, hb5⟩
              rw [hx]
              have HB5 := Lib.hid ((HB.out.alloc HB.out.size _).trans (hb5.mono (by have := HB.out.size; simp; omega)))
              have HX := Lib.hid hx
              clear hb5 hx
              go_wp2_with fail
              go_roundw
              case rel => exact ⟨2, by go_num, by omega, fun _ => H1.out (by omega), fun _ => by first | exact HX.out | trivial, HB5.out⟩
              case measure => simp [intOf]
          · go_wp2_with fail
            go_ret
            refine ⟨?_, HBW.out⟩
            rw [← HVT.out, H1.out (by omega), H2.out (by omega)]; rfl
end Go.Proofs.YtfcnmdmbkoekcaaGreatDoor
