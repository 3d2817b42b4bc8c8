/-
  Keeper.Load: the error of a list, or its entries in a new map.
-/
import Derived.Test.YtfcnmdmbkoekcaaGreatDoorYf
import Derived.Test.YtfcnmdmbkoekcaaGreatDoorYi
import Derived.Test.YtfcnmdmbkoekcaaGreatDoorKf
import Derived.Deep.RegionHeld3
import Derived.Deep.CutRange
import Derived.StillTailTactics
set_option linter.unusedVariables false
set_option linter.unusedSimpArgs false
namespace Go.Proofs.YtfcnmdmbkoekcaaGreatDoor
open Go.RowKit Go.Proofs.Kl
/-- the loop of Load under way. -/
structure LdS (w : World) (ls : List Ent) (i : Nat) (wr : World) (D : DataW Value) (vs : List Ent) : Prop where
  own : wr.ownsMap Tryz.prog 9 RH w.heap.size i D
  mp : MapI D vs
  es : vs.map Ent.e = (ls.take i).map Ent.e
  sv : ∀ x ∈ vs, SumVal wr x.sv x.sums ∧ ∃ g c, x.sv = .slice (some ⟨g, 0, none⟩) x.sums.length c ∧ w.heap.size < g
  er : errOf fileB none ((ls.take i).map Ent.e) = 0
  bel : Below w.heap.size w wr
/-- what Load leaves. -/
def LdPost (m kb gb cp ub : Nat) (ls : List Ent) (w : World) (e : Ending) (w' : World) : Prop :=
  (errOf fileB none (ls.map Ent.e) ≠ 0 ∧ e = .returned (.int .i64 (errOf fileB none (ls.map Ent.e))) ∧ Below w.heap.size w w') ∨
  (errOf fileB none (ls.map Ent.e) = 0 ∧ e = .returned (.int .i64 0) ∧ ∃ (mb n : Nat) (D : DataW Value) (vs : List Ent), KpM m kb gb cp mb ub w' ∧ w'.ownsMap Tryz.prog 9 RH mb n D ∧ MapI D vs ∧ vs.map Ent.e = ls.map Ent.e ∧ (∀ x ∈ vs, SumVal w' x.sv x.sums) ∧ Kp [kb] w w')
theorem grownBy_setCell3 (w : World) (p : Addr) (u : Value) : w.grownBy (w.setCell p u) (some p.block) := by
  have h := (Kp.refl [p.block] w).setCell p u (Or.inl (by simp))
  exact ⟨h.os, h.tape, h.output, h.size, fun k hk hne => h.block k hk (by simp; intro e; exact hne (by rw [e]))⟩
theorem featM_grown {m : Nat} {w w' : World} {row : Option Nat} (h : FeatM m w) (hg : w.grownBy w' row) (hne : some m ≠ row) : FeatM m w' := by
  obtain ⟨v9, v10, v11, v12, v13, v14, v15, v16, v17, v18, v19, hm⟩ := h.h
  exact ⟨v9, v10, v11, v12, v13, v14, v15, v16, v17, v18, v19, (hg.block m hm.lt hne).trans hm⟩
theorem grown_drew {w w' : World} {row : Option Nat} (h : w.drew.grownBy w' row) : w.grownBy w' row := ⟨h.os, h.tape, h.output, h.size, h.block⟩
theorem take_map_succ {ls : List Ent} {i : Nat} {x : Ent} (h : ls[i]? = some x) : (ls.take (i + 1)).map Ent.e = (ls.take i).map Ent.e ++ [x.e] := by
  rw [List.take_add_one, h, List.map_append]
  rfl
set_option maxRecDepth 100000 in
set_option maxHeartbeats 8000000 in
theorem load_ok (a : Option Addr) (cap : Nat) (ls : List Ent) (m kb gb cp mb0 ub : Nat) (w : World) (g : Gl w) (hk : KpM m kb gb cp mb0 ub w) (hrow : KRow w a ls) (hp : ∀ x ∈ ls, x.path.size ≤ 1048576) (ht : ∀ x ∈ ls, ∀ z ∈ x.sums, z.2.size ≤ 1048576) (hn : ls.length ≤ 1048576) (hng : kb ≠ gb) (hnm : kb ≠ m) :
    Calls Tryz.prog 9 #[pt kb, .slice a ls.length cap] w (LdPost m kb gb cp ub ls w) := by
  have HK := Lib.hid hk
  have HR := Lib.hid hrow
  have HP := Lib.hid hp
  have HT := Lib.hid ht
  have HNE := Lib.hid (And.intro hng hnm)
  have GG := Lib.hid (fun wx (hb : Below w.heap.size w wx) => g.below hb)
  obtain ⟨n, hnn⟩ : ∃ n, ls.length = n := ⟨_, rfl⟩
  rw [hnn] at hn ⊢
  have HN := Lib.hid hnn
  have hkl := hk.hk.lt
  have hmm := @run_makeMap Tryz.prog
  have KS := Lib.hid (Maps.string_keyed (P := Tryz.prog) Tryz.underlying9)
  have HOWN := Lib.hid (World.ownsMap_made w Tryz.prog 9 RH)
  have HB0 := Lib.hid ((Below.refl w.heap.size w).alloc (Nat.le_refl _) (.map #[] 0))
  clear hk hrow hp ht hnn g hng hnm
  go_enter Tryz.func9, Tryz.ntmps9
  go_wp2_with fail
  go_loopw [12] (fun x wr => ∃ (i : Nat) (D : DataW Value) (vs : List Ent), x = .int .i64 (i : Int) ∧ i ≤ n ∧ LdS w ls i wr D vs) (fun x _ => n - (intOf x).toNat)
  case atStart => exact ⟨0, _, [], rfl, Nat.zero_le _, ⟨HOWN.out, MapI.nil, rfl, fun _ h => (by cases h), rfl, HB0.out⟩⟩
  case round =>
    obtain ⟨i, D, vs, rfl, hi, hS⟩ := hrel
    have HS := Lib.hid hS
    clear hS HOWN HB0
    by_cases hlt : i < n
    · obtain ⟨x, hx⟩ : ∃ x, ls[i]? = some x := ⟨_, List.getElem?_eq_getElem (by rw [HN.out]; exact hlt)⟩
      have hd : decide ((i : Int) < (n : Int)) = true := decide_eq_true (by omega)
      have hd' : decide (i < n) = true := decide_eq_true hlt
      have hlt' : (i : Int) < (n : Int) := by omega
      obtain ⟨b, off, hab, hb, c0, c1, c2, c3, hsx⟩ := (HR.out.below HS.out.bel) i x hx
      subst hab
      have hmem : x ∈ ls := List.mem_of_getElem? hx
      have hpx := HP.out x hmem
      have htx := HT.out x hmem
      have HX := Lib.hid hx
      have HMEM := Lib.hid hmem
      have HSX := Lib.hid hsx
      have HHB := Lib.hid hb
      have hnwi : wr.heap.size + 10 ≤ wr.heap.size + 10 := Nat.le_refl _
      obtain ⟨j, y, hy, hj⟩ : ∃ (j : Nat) (y : Ent), ls[j]? = some y ∧ ((i = 0 ∧ j = 0) ∨ (i = j + 1)) := by
        cases i with
        | zero => exact ⟨0, x, hx, Or.inl ⟨rfl, rfl⟩⟩
        | succ k =>
          have hk : k < ls.length := by rw [HN.out]; omega
          exact ⟨k, ls[k], List.getElem?_eq_getElem hk, Or.inr rfl⟩
      obtain ⟨b', off', hab', _, e0, _⟩ := (HR.out.below HS.out.bel) j y hy
      obtain ⟨rfl, rfl⟩ : b = b' ∧ off = off' := by simpa using hab'
      have hpy := HP.out y (List.mem_of_getElem? hy)
      have HCK := Lib.hid (show errOf fileB none ((ls.take (i + 1)).map Ent.e) = chk fileB (if i = 0 then none else some y.path) x.e from by
        have h1 := errOf_take fileB (ls.map Ent.e) i x.e (by rw [List.getElem?_map, hx]; rfl)
        rw [← List.map_take, ← List.map_take, HS.out.er] at h1
        rw [h1, if_neg (fun h => h rfl)]
        congr 1
        rcases hj with ⟨h0, _⟩ | h0
        · rw [if_pos h0, if_pos h0]
        · rw [if_neg (by omega), if_neg (by omega), List.getElem?_map, show i - 1 = j by omega, hy]
          rfl)
      have CK0 := (fun (wx : World) (hbx : Below wr.heap.size wr wx) (fs : Bool) => checkKept_ok x y.path fs m kb gb cp mb0 ub wx (GG.out wx (HS.out.bel.trans (hbx.mono HS.out.bel.size))) ((HK.out.below HS.out.bel).below hbx) (hsx.below hbx) hpx hpy htx)
      have HJ := Lib.hid hj
      clear hab' hy hpy hx hmem hj hsx hb
      obtain ⟨p, sz, tm, sv, l⟩ := x
      simp only at c0 c1 c2 c3 hpx htx
      obtain ⟨aa, cpp, hsv, _⟩ := HSX.out
      simp only at hsv
      subst hsv
      generalize y.path = prev at *
      have CK := Lib.hid CK0
      have HBA := Lib.hid ((Below.refl wr.heap.size wr).alloc (Nat.le_refl _) (.cells #[.string p, .int .i64 sz, .int .i64 tm, .slice aa l.length cpp] 40))
      have HXA := Lib.hid (Blk.new wr 40 #[.string p, .int .i64 sz, .int .i64 tm, .slice aa l.length cpp])
      have E0 := Lib.hid e0
      clear CK0 e0
      go_upto_region 5 with (fail)
      have hwr1 : wr.heap.size < (wr.alloc (.cells #[.string p, .int .i64 sz, .int .i64 tm, .slice aa l.length cpp] 40)).heap.size := by simp
      have HWR1 := Lib.hid hwr1
      clear hwr1 c0 c1 c2 c3
      generalize (wr.alloc (.cells #[.string p, .int .i64 sz, .int .i64 tm, .slice aa l.length cpp] 40)) = w1 at *
      generalize hxb : wr.heap.size = xb at *
      have HXB := Lib.hid hxb
      clear hxb
      have x0 := HXA.out.cell 0
      have x1 := HXA.out.cell 1
      have x2 := HXA.out.cell 2
      have x3 := HXA.out.cell 3
      simp at x0 x1 x2 x3
      obtain ⟨ck, hck⟩ : ∃ ck, chk fileB (if i = 0 then none else some prev) (Ent.e ⟨p, sz, tm, .slice aa l.length cpp, l⟩) = ck := ⟨_, rfl⟩
      have HCK2 := HCK.out
      rw [hck] at HCK2
      have HCK := Lib.hid HCK2
      clear HCK2
      go_cut [8] from 17 to 28 (fun s wx => s = .int .i64 ck ∧ Below xb wr wx ∧ Blk wx xb 40 #[.string p, .int .i64 sz, .int .i64 tm, .slice aa l.length cpp])
      case first =>
        rcases HJ.out with ⟨hi0, hj0⟩ | hij
        · have CK1 := Lib.hid (show Calls Tryz.prog 28 #[pt kb, .agg #[.string p, .int .i64 sz, .int .i64 tm, .slice aa l.length cpp], .string prev, .bool true] w1.drew fun e w' => e = .returned (.int .i64 ck) ∧ Below w1.drew.heap.size w1.drew w' from by
            have h := CK.out w1.drew (below_drw HBA.out) true
            rw [if_pos hi0] at hck
            rw [← hck]
            exact h)
          have e0 : w1.cell? ⟨b, off, none⟩ = some (.string prev) := by
            have h := (HBA.out.cell (p := ⟨b, off + j * 4, none⟩) (by first | exact HHB.out | (rw [← HXB.out]; exact HHB.out))).trans E0.out
            rw [hj0] at h
            simpa using h
          obtain ⟨zm, hzm⟩ : ∃ zm : Int, zm = -1 := ⟨_, rfl⟩
          have hm : max (IntKind.i64.wrap zm) 0 = 0 := by rw [hzm]; decide
          have hs1 : (i : Int) - 1 = zm := by omega
          clear hzm
          have hz : ((i : Int) == 0) = true := by rw [hi0]; rfl
          have hn0 : 0 < n := by omega
          have hn1 : (0 : Int) < (n : Int) := by omega
          have hn2 : decide (0 < n) = true := decide_eq_true hn0
          have hn3 : ¬ n = 0 := by omega
          have hn4 : (n == 0) = false := by simp; omega
          have hn5 : ¬ n ≤ 0 := by omega
          have hn6 : decide (n ≤ 0) = false := decide_eq_false hn5
          clear hi0 hj0
          go_still_tail 11, (by kernel_rfl)
          change wpList _ _ _ _ _ w1.drew
          go_wp2_with fail
          refine CK1.out.mono ?_
          rintro e w2 ⟨rfl, hb2⟩
          have HB2 := Lib.hid ((below_drw HBA.out).trans (hb2.mono (show xb ≤ w1.drew.heap.size from by rw [← HXB.out]; exact HBA.out.size)))
          have HX2 := Lib.hid (Blk.below (w := w1.drew) (show Blk w1.drew xb 40 #[.string p, .int .i64 sz, .int .i64 tm, .slice aa l.length cpp] from HXA.out) hb2 HXA.out.lt)
          clear hb2 CK1
          go_wp2_with fail
          go_meet
          exact ⟨rfl, HB2.out, HX2.out⟩
        · have CK1 := Lib.hid (show Calls Tryz.prog 28 #[pt kb, .agg #[.string p, .int .i64 sz, .int .i64 tm, .slice aa l.length cpp], .string prev, .bool false] w1.drew fun e w' => e = .returned (.int .i64 ck) ∧ Below w1.drew.heap.size w1.drew w' from by
            have h := CK.out w1.drew (below_drw HBA.out) false
            rw [if_neg (show ¬ i = 0 by omega)] at hck
            rw [← hck]
            exact h)
          have e0 : w1.cell? ⟨b, off + j * 4, none⟩ = some (.string prev) :=
            (HBA.out.cell (p := ⟨b, off + j * 4, none⟩) (by first | exact HHB.out | (rw [← HXB.out]; exact HHB.out))).trans E0.out
          have hw : IntKind.i64.wrap (j : Int) = (j : Int) := by
            have : j < 9223372036854775808 := by omega
            simp [IntKind.wrap, IntKind.bits, IntKind.signed]; omega
          have hm : max (IntKind.i64.wrap (j : Int)) 0 = (j : Int) := by rw [hw]; omega
          have hs1 : (i : Int) - 1 = (j : Int) := by omega
          have hz : ((i : Int) == 0) = false := by simp; omega
          have hjn : j < n := by omega
          have hjn' : (j : Int) < (n : Int) := by omega
          have hjd : decide ((j : Int) < (n : Int)) = true := decide_eq_true hjn'
          have HIJ := Lib.hid hij
          clear hij hw
          go_still_tail 11, (by kernel_rfl)
          change wpList _ _ _ _ _ w1.drew
          go_wp2_with fail
          refine CK1.out.mono ?_
          rintro e w2 ⟨rfl, hb2⟩
          have HB2 := Lib.hid ((below_drw HBA.out).trans (hb2.mono (show xb ≤ w1.drew.heap.size from by rw [← HXB.out]; exact HBA.out.size)))
          have HX2 := Lib.hid (Blk.below (w := w1.drew) (show Blk w1.drew xb 40 #[.string p, .int .i64 sz, .int .i64 tm, .slice aa l.length cpp] from HXA.out) hb2 HXA.out.lt)
          clear hb2 CK1
          go_wp2_with fail
          go_meet
          exact ⟨rfl, HB2.out, HX2.out⟩
      case rest =>
        obtain ⟨rfl, hb1, hx1⟩ := hcut
        have HBC := Lib.hid (show Below wr.heap.size wr wc from by rw [HXB.out]; exact hb1)
        have HXC := Lib.hid hx1
        clear hb1 hx1 x0 x1 x2 x3 HXA HBA HWR1 CK
        generalize hckn : ck = ckn at *
        have HCKN := Lib.hid hck
        clear hck
        by_cases hz : ckn = 0
        · subst hz
          have H2L := Lib.hid (show l.length = 2 from chk_two HCKN.out)
          have CL := Lib.hid (fun (wx : World) (hb : Below wr.heap.size wr wx) => cloneSums_ok l (.slice aa l.length cpp) wx (SumVal.below HSX.out hb) H2L.out)
          have x3 := HXC.out.cell 3
          have f3 := HXC.out.frozen 3
          simp at x3
          go_wp2_with fail
          refine (CL.out _ HBC.out).mono ?_
          rintro e w3 ⟨nv, rfl, hsv3, ⟨g2, c2, hnv, hg2⟩, hb3⟩
          subst hnv
          have HX3 := Lib.hid (HXC.out.below hb3 HXC.out.lt)
          have HB3 := Lib.hid (HBC.out.trans (hb3.mono HBC.out.size))
          have HSV3 := Lib.hid hsv3
          have HG2 := Lib.hid (Nat.lt_of_lt_of_le HXC.out.lt hg2)
          clear x3 f3 hb3 hsv3 hg2 CL
          have x3 := HX3.out.cell 3
          have f3 := HX3.out.frozen 3
          simp at x3
          go_upto_region 9 with (fail)
          have HX4 := Lib.hid (show Blk (w3.setCell ⟨xb, 3, none⟩ (.slice (some ⟨g2, 0, none⟩) 2 c2)) xb 40 #[.string p, .int .i64 sz, .int .i64 tm, .slice (some ⟨g2, 0, none⟩) 2 c2] from HX3.out.set 3 _)
          have HSV4 := Lib.hid (HSV3.out.grown (by rw [H2L.out]) (grownBy_setCell3 w3 ⟨xb, 3, none⟩ (.slice (some ⟨g2, 0, none⟩) 2 c2)) (show some g2 ≠ some xb from by intro e; have h1 := Option.some.inj e; have h2 := HG2.out; omega))
          have HB4 := Lib.hid (HB3.out.setCell (p := ⟨xb, 3, none⟩) (by rw [HXB.out]; exact Nat.le_refl _) (.slice (some ⟨g2, 0, none⟩) 2 c2))
          clear x3 f3 HX3 HSV3 HB3 HXC HBC
          generalize (w3.setCell ⟨xb, 3, none⟩ (.slice (some ⟨g2, 0, none⟩) 2 c2)) = w4 at *
          have x0 := HX4.out.cell 0
          have x1 := HX4.out.cell 1
          have x2 := HX4.out.cell 2
          have x3 := HX4.out.cell 3
          simp at x0 x1 x2 x3
          have HBW4 := Lib.hid (HS.out.bel.trans (HB4.out.mono HS.out.bel.size))
          have HO4 := Lib.hid (HS.out.own.kept (below_grown HB4.out none) (by simp))
          have HKEY := Lib.hid (fun (wx : World) (hb : Below w.heap.size w wx) => keeperKey_ok p m kb gb cp mb0 ub wx (HK.out.below hb))
          obtain ⟨dv, hdv⟩ : ∃ dv, dv = D.put (keyL p) (.held (.agg #[.string p, .int .i64 sz, .int .i64 tm, .slice (some ⟨g2, 0, none⟩) 2 c2])) := ⟨_, rfl⟩
          have HDV := Lib.hid hdv
          clear hdv
          have HU := Lib.hid (fun (wx : World) (ho : wx.ownsMap Tryz.prog 9 RH w.heap.size i D) => (show ∃ w', (Instr.mapUpdate 90 (.map (some w.heap.size)) (.string p) (.agg #[.string p, .int .i64 sz, .int .i64 tm, .slice (some ⟨g2, 0, none⟩) 2 c2])).run Tryz.prog wx = .ok () w' ∧ w'.ownsMap Tryz.prog 9 RH w.heap.size (i + 1) dv ∧ wx.grownBy w' (some w.heap.size) from by
            rw [HDV.out]
            exact ho.update KS.out Tryz.underlying90 (by simp only [maxLen]; omega) (WideMaps.keyOf_string_mk Tryz.underlying9 (by simp only [maxLen]; omega)) (ps := []) rfl))
          have hxl : xb < w4.heap.size := HX4.out.lt
          have HXM := Lib.hid (show some xb ≠ some w.heap.size from by intro e; have h1 := Option.some.inj e; have h2 := HS.out.own.lt; have h3 := HXB.out; omega)
          go_region_held3 (fun wx => wx.cell? ⟨xb, 0, none⟩ = some (.string p) ∧ wx.cell? ⟨xb, 1, none⟩ = some (.int .i64 sz) ∧ wx.cell? ⟨xb, 2, none⟩ = some (.int .i64 tm) ∧ wx.cell? ⟨xb, 3, none⟩ = some (.slice (some ⟨g2, 0, none⟩) 2 c2))
            (first | (refine ⟨?_, ?_, ?_, ?_⟩ <;> with_reducible assumption) | exact ⟨x0, x1, x2, x3⟩ | with_reducible assumption | exact x0 | exact x1 | exact x2 | exact x3)
            (first
              | (go_at_call 30; (with_reducible refine (HKEY.out w4.drew (below_drw HBW4.out)).mono ?_); rintro e w5 ⟨rfl, hb5⟩; have y0 : w5.cell? ⟨xb, 0, none⟩ = some (.string p) := (hb5.cell (p := ⟨xb, 0, none⟩) hxl).trans x0; have y1 : w5.cell? ⟨xb, 1, none⟩ = some (.int .i64 sz) := (hb5.cell (p := ⟨xb, 1, none⟩) hxl).trans x1; have y2 : w5.cell? ⟨xb, 2, none⟩ = some (.int .i64 tm) := (hb5.cell (p := ⟨xb, 2, none⟩) hxl).trans x2; have y3 : w5.cell? ⟨xb, 3, none⟩ = some (.slice (some ⟨g2, 0, none⟩) 2 c2) := (hb5.cell (p := ⟨xb, 3, none⟩) hxl).trans x3; have HG5 := Lib.hid (grown_drew (below_grown hb5 none)); clear hb5; obtain ⟨w6, hrun, ho6, hg6⟩ := HU.out w5 (HO4.out.kept HG5.out (by simp)); have HO6 := Lib.hid ho6; have HG6 := Lib.hid hg6; clear ho6 hg6; have z0 : w6.cell? ⟨xb, 0, none⟩ = some (.string p) := HG6.out.cell y0 HXM.out; have z1 : w6.cell? ⟨xb, 1, none⟩ = some (.int .i64 sz) := HG6.out.cell y1 HXM.out; have z2 : w6.cell? ⟨xb, 2, none⟩ = some (.int .i64 tm) := HG6.out.cell y2 HXM.out; have z3 : w6.cell? ⟨xb, 3, none⟩ = some (.slice (some ⟨g2, 0, none⟩) 2 c2) := HG6.out.cell y3 HXM.out))
          all_goals
            clear HU HKEY y0 y1 y2 y3 z0 z1 z2 z3 x0 x1 x2 x3 hrun
            go_wp2_with fail
            go_roundw
            case rel =>
              have hck0 := HCK.out
              have hx := HX.out
              rw [take_map_succ hx] at hck0
              have hnew := errOf_new fileB _ _ hck0
              have hbx : Below w.heap.size w w6 := (HBW4.out.grown HG5.out HBW4.out.size (fun j hj => by cases hj)).grown HG6.out (by have h1 := HBW4.out.size; have h2 := HG5.out.size; omega) (fun j hj => by cases hj; exact Nat.le_refl _)
              refine ⟨i + 1, dv, vs ++ [⟨p, sz, tm, .slice (some ⟨g2, 0, none⟩) 2 c2, l⟩], by go_num, hlt, ⟨HO6.out, ?_, ?_, ?_, ?_, hbx⟩⟩
              · rw [HDV.out]
                refine HS.out.mp.put ⟨p, sz, tm, .slice (some ⟨g2, 0, none⟩) 2 c2, l⟩ (fun y hy => ?_)
                refine hnew y.e ?_
                rw [← HS.out.es]
                exact List.mem_map.2 ⟨y, hy, rfl⟩
              · rw [List.map_append, HS.out.es, take_map_succ hx]
                rfl
              · intro y hy
                rcases List.mem_append.1 hy with h | h
                · obtain ⟨h1, g, c, h2, h3⟩ := HS.out.sv y h
                  exact ⟨((h1.below HB4.out).grown h2 HG5.out (by simp)).grown h2 HG6.out (by intro e; have := Option.some.inj e; omega), g, c, h2, h3⟩
                · obtain rfl : y = ⟨p, sz, tm, .slice (some ⟨g2, 0, none⟩) 2 c2, l⟩ := by simpa using h
                  have hlo : w.heap.size < g2 := by
                    have h1 := HG2.out
                    have h2 := HS.out.own.lt
                    have h3 := HXB.out
                    omega
                  have he : (Value.slice (some ⟨g2, 0, none⟩) 2 c2) = .slice (some ⟨g2, 0, none⟩) l.length c2 := by rw [H2L.out]
                  exact ⟨(HSV4.out.grown he HG5.out (by simp)).grown he HG6.out (by intro e; have := Option.some.inj e; omega), g2, c2, he, hlo⟩
              · rw [take_map_succ hx]; exact hck0
            case measure => simp [intOf]; omega
        · have hz' : (ckn != 0) = true := by simpa using hz
          have HZ := Lib.hid hz
          clear hz
          go_wp2_with fail
          go_ret
          have h1 := errOf_stop fileB (ls.map Ent.e) (i + 1) (by rw [← List.map_take, HCK.out]; exact HZ.out)
          rw [← List.map_take, HCK.out] at h1
          exact Or.inl ⟨by rw [h1]; exact HZ.out, by rw [h1]; rfl, HS.out.bel.trans (HBC.out.mono HS.out.bel.size)⟩
    · have hd : decide ((i : Int) < (n : Int)) = false := decide_eq_false (by omega)
      have hd' : decide (i < n) = false := decide_eq_false hlt
      have HKr := Lib.hid (HK.out.below HS.out.bel)
      have k13 := HKr.out.hk.cell 13
      have z13 := HKr.out.hk.frozen 13
      simp at k13
      have HIN := Lib.hid (show i = n by omega)
      go_wp2_with fail
      go_ret
      have hg := grownBy_setCell3 wr ⟨kb, 13, none⟩ (.map (some w.heap.size))
      have hin := HIN.out
      have her : errOf fileB none (ls.map Ent.e) = 0 := by
        have h := HS.out.er
        rwa [hin, List.take_of_length_le (by rw [HN.out]; exact Nat.le_refl _)] at h
      refine Or.inr ⟨her, rfl, w.heap.size, i, D, vs, ⟨?_, ?_, ?_, ?_⟩, ?_, HS.out.mp, ?_, ?_, ?_⟩
      · exact HKr.out.hk.set 13 (.map (some w.heap.size))
      · exact hg.cell HKr.out.k1 (by intro e; exact HNE.out.1 (Option.some.inj e).symm)
      · exact hg.cell HKr.out.k2 (by intro e; exact HNE.out.1 (Option.some.inj e).symm)
      · exact featM_grown HKr.out.hm hg (by intro e; exact HNE.out.2 (Option.some.inj e).symm)
      · exact HS.out.own.kept hg (by intro e; have := Option.some.inj e; simp at this; omega)
      · rw [HS.out.es, hin, List.take_of_length_le (by rw [HN.out]; exact Nat.le_refl _)]
      · intro y hy
        obtain ⟨h1, g, c, h2, h3⟩ := HS.out.sv y hy
        exact h1.grown h2 hg (by intro e; have := Option.some.inj e; simp at this; omega)
      · exact (Kp.of_below HS.out.bel).setCell _ _ (Or.inl (by simp))
end Go.Proofs.YtfcnmdmbkoekcaaGreatDoor
