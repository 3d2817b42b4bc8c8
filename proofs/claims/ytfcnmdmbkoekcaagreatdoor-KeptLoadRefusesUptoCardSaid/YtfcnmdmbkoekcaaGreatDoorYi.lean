/-
  Two lists of kept sums that read alike are found alike: slices.Equal of sums, wherrylaw2.sameKept, slices.EqualFunc.
-/
import Derived.Test.YtfcnmdmbkoekcaaGreatDoorYc
import Derived.Test.YtfcnmdmbkoekcaaGreatDoorKd
import Derived.Maps.AppendAt
import Derived.OwnWalk
import Derived.Lib.SliceRun
import Derived.Laws.StructEq
set_option linter.unusedVariables false
set_option linter.unusedSimpArgs false
namespace Go.Proofs.YtfcnmdmbkoekcaaGreatDoor
open Go.RowKit Go.Proofs.Kl
theorem eqSum (a c : Int) (b d : ByteArray) (w : World) : (Op.equalIn 10000 49 (.agg #[.int .i64 a, .string b]) (.agg #[.int .i64 c, .string d])).run Tryz.prog w = .ok (a == c && b.toList == d.toList) w := by
  have u3 := Tryz.underlying3
  have u9 := Tryz.underlying9
  have a3 := Tryz.isAgg3
  have z3 := Tryz.sizeOf3
  have a9 := Tryz.isAgg9
  have z9 := Tryz.sizeOf9
  have hS : Tryz.prog.underlying 49 = some (.struct (Tryz.prog.fieldsOf 49)) := by kernel_rfl
  have hp : Tryz.prog.stoodInHeld 49 = false := by kernel_rfl
  rw [show (10000 : Nat) = 9999 + 1 from rfl, run_equalIn_agg w 9999 49 _ _ hS hp]
  simp only [Program.fieldsOf, Tryz.underlying49]
  go_simp
  by_cases h1 : a = c <;> by_cases h2 : b.toList = d.toList <;> simp [h1, h2]
theorem guardSum : Tryz.prog.eqGuardType Tryz.prog.depth 49 = false := by kernel_rfl
theorem below_drewN' {B : Nat} {w0 w : World} (h : Below B w0 w) (n : Nat) : Below B w0 (w.drewN n) := ⟨h.os, h.tape, h.output, h.size, h.block⟩
set_option maxRecDepth 100000 in
set_option maxHeartbeats 4000000 in
theorem equalSums_ok (l : List (Int × ByteArray)) (sv tv : Value) (w : World) (hs : SumVal w sv l) (ht : SumVal w tv l) (hl : l.length = 2) :
    Calls Tryz.prog 37 #[sv, tv] w fun e w' => e = .returned (.bool true) ∧ Below w.heap.size w w' := by
  obtain ⟨x, y, rfl⟩ : ∃ x y, l = [x, y] := by
    match l, hl with
    | [x, y], _ => exact ⟨x, y, rfl⟩
  obtain ⟨a, cp, rfl, hc⟩ := hs
  obtain ⟨a2, cp2, rfl, hd⟩ := ht
  obtain ⟨b, off, rfl, hb, c0, c1, c2, c3⟩ := hc x y rfl
  obtain ⟨b2, off2, rfl, hb2, d0, d1, d2, d3⟩ := hd x y rfl
  obtain ⟨xk, xt⟩ := x
  obtain ⟨yk, yt⟩ := y
  simp only at c0 c1 c2 c3 d0 d1 d2 d3
  have C0 := Lib.hid c0
  have C1 := Lib.hid c1
  have C2 := Lib.hid c2
  have C3 := Lib.hid c3
  have D0 := Lib.hid d0
  have D1 := Lib.hid d1
  have D2 := Lib.hid d2
  have D3 := Lib.hid d3
  clear hc hd c0 c1 c2 c3 d0 d1 d2 d3 hl
  go_enter Tryz.func37, Tryz.ntmps37
  go_wp2_with fail
  go_loopw [13] (fun iv wr => ∃ k : Nat, k ≤ 2 ∧ iv = .int .i64 k ∧ Below w.heap.size w wr) (fun iv _ => 2 - (intOf iv).toNat)
  case atStart => exact ⟨0, by omega, rfl, Below.refl _ _⟩
  case round =>
    obtain ⟨k, hk, rfl, hbe⟩ := hrel
    have HB := Lib.hid hbe
    clear hbe
    have c0 := (HB.out.cell (p := ⟨b, off, none⟩) hb).trans C0.out
    have c1 := (HB.out.cell (p := ⟨b, off + 1, none⟩) hb).trans C1.out
    have c2 := (HB.out.cell (p := ⟨b, off + 2, none⟩) hb).trans C2.out
    have c3 := (HB.out.cell (p := ⟨b, off + 3, none⟩) hb).trans C3.out
    have d0 := (HB.out.cell (p := ⟨b2, off2, none⟩) hb2).trans D0.out
    have d1 := (HB.out.cell (p := ⟨b2, off2 + 1, none⟩) hb2).trans D1.out
    have d2 := (HB.out.cell (p := ⟨b2, off2 + 2, none⟩) hb2).trans D2.out
    have d3 := (HB.out.cell (p := ⟨b2, off2 + 3, none⟩) hb2).trans D3.out
    have hg := guardSum
    rcases (show k = 0 ∨ k = 1 ∨ k = 2 by omega) with rfl | rfl | rfl
    · have he := eqSum xk xk xt xt
      have hbb : (xk == xk && xt.toList == xt.toList) = true := by simp
      rw [hbb] at he
      clear hbb c2 c3 d2 d3
      go_wp2_with fail
      go_quiet (fail)
      go_wp2_with fail
      go_roundw
      case rel => exact ⟨1, by omega, by go_num, below_drewN' HB.out _⟩
      case measure => simp [intOf]
    · have he := eqSum yk yk yt yt
      have hbb : (yk == yk && yt.toList == yt.toList) = true := by simp
      rw [hbb] at he
      clear hbb c0 c1 d0 d1
      go_wp2_with fail
      go_quiet (fail)
      go_wp2_with fail
      go_roundw
      case rel => exact ⟨2, by omega, by go_num, below_drewN' HB.out _⟩
      case measure => simp [intOf]
    · go_wp2_with fail
      go_ret
      exact ⟨rfl, HB.out⟩
set_option maxRecDepth 100000 in
set_option maxHeartbeats 4000000 in
theorem sameKept_ok (x y : Ent) (w : World) (he : x.e = y.e) (hx : SumVal w x.sv x.sums) (hy : SumVal w y.sv y.sums) (hl : x.sums.length = 2) :
    Calls Tryz.prog 18 #[valE x, valE y] w fun e w' => e = .returned (.bool true) ∧ Below w.heap.size w w' := by
  obtain ⟨p, sz, tm, sv, l⟩ := x
  obtain ⟨p2, sz2, tm2, tv, l2⟩ := y
  unfold Ent.e at he
  simp only [E.mk.injEq] at he
  obtain ⟨rfl, rfl, rfl, rfl⟩ := he
  simp only at hx hy hl
  show Calls Tryz.prog 18 #[.agg #[.string p, .int .i64 sz, .int .i64 tm, sv], .agg #[.string p, .int .i64 sz, .int .i64 tm, tv]] w _
  have CE := Lib.hid (fun (wx : World) (hb : Below w.heap.size w wx) => equalSums_ok l sv tv wx (hx.below hb) (hy.below hb) hl)
  obtain ⟨a, cp, hsv, _⟩ := hx
  obtain ⟨a2, cp2, htv, _⟩ := hy
  subst hsv htv
  clear hl
  have HB := Lib.hid (((Below.refl w.heap.size w).alloc (Nat.le_refl _) (.cells #[.string p, .int .i64 sz, .int .i64 tm, .slice a l.length cp] 40)).alloc (by simp) (.cells #[.string p, .int .i64 sz, .int .i64 tm, .slice a2 l.length cp2] 40))
  go_enter Tryz.func18, Tryz.ntmps18
  go_wp2_with fail
  refine (CE.out _ HB.out).mono ?_
  rintro e w1 ⟨rfl, hb1⟩
  have HB1 := Lib.hid (HB.out.trans (hb1.mono HB.out.size))
  clear hb1 HB CE
  go_wp2_with fail
  go_ret
  exact ⟨rfl, HB1.out⟩
set_option maxRecDepth 100000 in
set_option maxHeartbeats 4000000 in
theorem eqKept_ok (ls ls' : List Ent) (a a' : Option Addr) (c c' : Nat) (w : World) (he : ls.map Ent.e = ls'.map Ent.e) (hx : KRow w a ls) (hy : KRow w a' ls') (h2 : ∀ x ∈ ls, x.sums.length = 2) (hn : ls.length ≤ 1048576) :
    Calls Tryz.prog 17 #[.slice a ls.length c, .slice a' ls'.length c', .func (.func 18) #[] #[]] w fun e w' => e = .returned (.bool true) ∧ Below w.heap.size w w' := by
  have hlen : ls'.length = ls.length := by
    have := congrArg List.length he
    simpa using this.symm
  rw [hlen]
  have HE := Lib.hid he
  have HX := Lib.hid hx
  have HY := Lib.hid hy
  have H2 := Lib.hid h2
  have HLN := Lib.hid hlen
  obtain ⟨n, hnn⟩ : ∃ n, ls.length = n := ⟨_, rfl⟩
  rw [hnn] at hn ⊢
  have HN := Lib.hid hnn
  clear he hx hy h2 hlen hnn
  go_enter Tryz.func17, Tryz.ntmps17
  go_wp2_with fail
  go_loopw [17] (fun iv wr => ∃ k : Nat, k ≤ n ∧ iv = .int .i64 k ∧ Below w.heap.size w wr) (fun iv _ => n - (intOf iv).toNat)
  case atStart => exact ⟨0, by omega, rfl, Below.refl _ _⟩
  case round =>
    obtain ⟨k, hk, rfl, hbe⟩ := hrel
    have HB := Lib.hid hbe
    clear hbe
    by_cases hlt : k < n
    · have hd : decide (k < n) = true := decide_eq_true hlt
      have hk1 : (k : Int) < (n : Int) := by omega
      obtain ⟨x, hx⟩ : ∃ x, ls[k]? = some x := ⟨_, List.getElem?_eq_getElem (by rw [HN.out]; exact hlt)⟩
      obtain ⟨y, hy⟩ : ∃ y, ls'[k]? = some y := ⟨_, List.getElem?_eq_getElem (by rw [HLN.out, HN.out]; exact hlt)⟩
      have hxy : x.e = y.e := by
        have h1 := congrArg (fun l => l[k]?) HE.out
        simp only [List.getElem?_map, hx, hy, Option.map_some] at h1
        exact Option.some.inj h1
      obtain ⟨b1, o1, rfl, hb1, c0, c1, c2, c3, hsx⟩ := (HX.out.below HB.out) k x hx
      obtain ⟨b2, o2, rfl, hb2, d0, d1, d2, d3, hsy⟩ := (HY.out.below HB.out) k y hy
      have CS := Lib.hid (fun (wx : World) (hbx : Below wr.heap.size wr wx) => sameKept_ok x y wx hxy (hsx.below hbx) (hsy.below hbx) (H2.out x (List.mem_of_getElem? hx)))
      obtain ⟨p, sz, tm, sv, l⟩ := x
      obtain ⟨p2, sz2, tm2, tv, l2⟩ := y
      have HBA := Lib.hid (((Below.refl wr.heap.size wr).alloc (Nat.le_refl _) (.cells #[.string p, .int .i64 sz, .int .i64 tm, sv] 40)).alloc (by simp) (.cells #[.string p2, .int .i64 sz2, .int .i64 tm2, tv] 40))
      simp only at c0 c1 c2 c3 d0 d1 d2 d3
      simp only at hsx hsy
      obtain ⟨aa1, cc1, rfl, _⟩ := hsx
      obtain ⟨aa2, cc2, rfl, _⟩ := hsy
      clear hx hy hxy
      go_wp2_with fail
      refine (CS.out _ HBA.out).mono ?_
      rintro e w1 ⟨rfl, hb3⟩
      have HB1 := Lib.hid (HB.out.trans ((HBA.out.trans (hb3.mono HBA.out.size)).mono HB.out.size))
      clear hb3 c0 c1 c2 c3 d0 d1 d2 d3 CS HBA
      go_wp2_with fail
      go_roundw
      case rel => exact ⟨k + 1, by omega, by go_num, HB1.out⟩
      case measure => simp [intOf]; omega
    · have hd : decide (k < n) = false := decide_eq_false hlt
      obtain rfl : k = n := by omega
      go_wp2_with fail
      go_ret
      exact ⟨rfl, HB.out⟩
theorem infoSum : (Tryz.prog.info? 49).map (fun i => (i.zero, i.size, i.bytes)) = some (some (.agg #[.int .i64 0, .string ⟨#[]⟩]), 2, 24) := by kernel_rfl
set_option maxRecDepth 100000 in
set_option maxHeartbeats 4000000 in
theorem cloneSums_ok (l : List (Int × ByteArray)) (sv : Value) (w : World) (hs : SumVal w sv l) (hl : l.length = 2) : Calls Tryz.prog 29 #[sv] w fun e w' => ∃ v, e = .returned v ∧ SumVal w' v l ∧ (∃ g c, v = .slice (some ⟨g, 0, none⟩) 2 c ∧ w.heap.size ≤ g) ∧ Below w.heap.size w w' := by
  obtain ⟨a, cp, rfl, hc⟩ := hs
  obtain ⟨x, y, rfl⟩ : ∃ x y, l = [x, y] := by
    match l, hl with
    | [x, y], _ => exact ⟨x, y, rfl⟩
  obtain ⟨b, off, rfl, hb, c0, c1, c2, c3⟩ := hc x y rfl
  obtain ⟨xk, xt⟩ := x
  obtain ⟨yk, yt⟩ := y
  simp only at c0 c1 c2 c3
  clear hc hl
  obtain ⟨i0, hi, hz0, hz1, hz2⟩ := info_parts infoSum
  have HC := Lib.hid (show ∀ wx : World, Below w.heap.size w wx → ∀ (j : Nat) (u : Value), [Value.int .i64 xk, .string xt, .int .i64 yk, .string yt][j]? = some u → wx.cell? ((⟨b, off, none⟩ : Addr).add j) = some u from by
    intro wx hbe j u hu
    rw [addr_add]
    rcases (show j = 0 ∨ j = 1 ∨ j = 2 ∨ j = 3 ∨ 4 ≤ j by omega) with rfl | rfl | rfl | rfl | hj
    · cases hu; exact (hbe.cell (p := ⟨b, off, none⟩) hb).trans c0
    · cases hu; exact (hbe.cell (p := ⟨b, off + 1, none⟩) hb).trans c1
    · cases hu; exact (hbe.cell (p := ⟨b, off + 2, none⟩) hb).trans c2
    · cases hu; exact (hbe.cell (p := ⟨b, off + 3, none⟩) hb).trans c3
    · rw [List.getElem?_eq_none (by simpa using hj)] at hu; cases hu)
  clear c0 c1 c2 c3
  have hrow := World.ownsRow_made (e := 49) (size := 2) (base := w.heap.size) w #[] 0 (Nat.le_refl _) (by decide) (by simp)
  have HB := Lib.hid ((Below.refl w.heap.size w).alloc (Nat.le_refl _) (.cells #[] 49))
  have q22 : ∀ (w : World) (a : Option Addr) (n c n' c' : Nat), (binOp .eql 38 (.slice a n c) (.slice none n' c')).run Tryz.prog w = .ok (.bool a.isNone) w := fun w a n c n' c' => Lib.run_eql_slice_nil w _ _ a n c n' c' Tryz.underlying38
  go_enter Tryz.func29, Tryz.ntmps29
  go_wp2_with (at_builtin; refine wpList_append_own _ rfl _ _ 38 rfl w.heap.size 49 i0 (.agg #[.int .i64 0, .string ⟨#[]⟩]) 2 24 Tryz.underlying38 hi hz0 hz1 hz2 rfl (by decide) _ _ _ rfl hrow ⟨b, off, none⟩ 2 cp [Value.int .i64 xk, .string xt, .int .i64 yk, .string yt] rfl rfl ?qc2 ?qc3 (by decide) (by decide) (by simp) ?_)
  case qc2 => exact HC.out _ HB.out
  case qc3 => simp [Value.oneCell']
  intro v' w1 hown hgrow hnil
  have HB1 := Lib.hid (HB.out.grown hgrow (by simp) (by intro k hk; simp [Value.ownBlock] at hk; omega))
  have HO := Lib.hid hown
  clear hown hgrow hnil HB HC hrow
  go_wp2
  go_ret
  obtain ⟨_, ⟨_, h0⟩ | ⟨g, c2, cur, rfl, hgb, hgg, _, _, hcs, htk⟩⟩ := HO.out
  · cases h0
  have hcell := HO.out.cells (g := g) rfl
  have hlt : g < w1.heap.size := (Array.getElem?_eq_some_iff.1 hgg).1
  refine ⟨_, rfl, ⟨some ⟨g, 0, none⟩, c2, rfl, ?_⟩, ⟨g, c2, rfl, hgb⟩, HB1.out⟩
  intro x y hxy
  simp only [List.cons.injEq, and_true] at hxy
  obtain ⟨rfl, rfl⟩ := hxy
  refine ⟨g, 0, rfl, hlt, ?_, ?_, ?_, ?_⟩
  · have := hcell 0 _ rfl; rwa [addr_add] at this
  · have := hcell 1 _ rfl; rwa [addr_add] at this
  · have := hcell 2 _ rfl; rwa [addr_add] at this
  · have := hcell 3 _ rfl; rwa [addr_add] at this
end Go.Proofs.YtfcnmdmbkoekcaaGreatDoor
