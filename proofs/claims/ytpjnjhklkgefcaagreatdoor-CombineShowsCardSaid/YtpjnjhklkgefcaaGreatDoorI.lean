import Derived.Test.YtpjnjhklkgefcaaGreatDoorF
import Derived.Deep.CutRange
set_option linter.unusedVariables false
set_option linter.unusedSimpArgs false
namespace Go.Proofs.YtpjnjhklkgefcaaGreatDoor
open Go.RowKit
theorem find_e {B : Nat} {q : Mm} (s : ByteArray) (w : World) (g : Gl w) (h : Nm s) (hq : MemE B wideT q w) : Calls Tryz.prog 62 #[pt q.m, .string s] w fun e w' => e = .returned (.pointer none) ∧ Below w.heap.size w w' :=
  find_one q.m q.r q.km _ _ s _ (Or.inl rfl) w g h hq.hm rfl rfl hq.hr rfl (by
    rcases Nat.lt_or_ge q.km w.heap.size with h1 | h1
    · exact h1
    · have := hq.hk; rw [Array.getElem?_eq_none h1] at this; cases this) (looks_none hq.hk)
theorem way_e {B : Nat} {q : Mm} (s : ByteArray) (w : World) (g : Gl w) (h : Nm s) (hq : MemE B wideT q w) : Calls Tryz.prog 153 #[pt q.m, .string s] w fun e w' => e = .returned (.tuple #[pt q.r, .int .i64 0]) ∧ Below w.heap.size w w' :=
  way_one q.m q.r _ s w g h hq.hm rfl
set_option maxRecDepth 100000 in
set_option maxHeartbeats 1000000 in
theorem has_ok (m : Nat) (bit : Int) (cs : Array Value) (w : World) (hm : Blk w m 95 cs) (h0 : cs[0]? = some (.int .i64 3071)) : Calls Tryz.prog 55 #[pt m, .int .i64 bit] w fun e w' => e = .returned (.bool (bits .and .i64 3071 bit != 0)) ∧ w' = w := by
  have hc : w.cell? ⟨m, 0, none⟩ = some (.int .i64 3071) := (hm.cell 0).trans h0
  clear h0 hm
  go_enter Tryz.func55, Tryz.ntmps55
  go_wp2
  go_ret
  exact ⟨rfl, rfl⟩
set_option maxRecDepth 100000 in
set_option maxHeartbeats 1000000 in
theorem place_e {B : Nat} {q : Mm} (s : ByteArray) (w : World) (g : Gl w) (h : Nm s) (hq : MemE B wideT q w) : Calls Tryz.prog 110 #[pt q.m, .string s] w fun e w' => e = .returned (.int .i64 0) ∧ Below w.heap.size w w' := by
  have HW := Lib.hid (way_e s w g h hq)
  have HF := Lib.hid (fun w1 (hb : Below w.heap.size w w1) => find_e s w1 (g.below hb) h (hq.below hb))
  have HP := Lib.hid (fun w1 (hb : Below w.heap.size w w1) => storeParts_ok s w1 (g.below hb) h)
  have HQ := Lib.hid (fun w1 (hb : Below w.heap.size w w1) => hq.below hb)
  clear g hq h
  go_enter Tryz.func110, Tryz.ntmps110
  go_wp2_with fail
  refine HW.out.mono ?_
  rintro e w1 ⟨rfl, hb1⟩
  have c1 : w1.cell? ⟨q.r, 1, none⟩ = some (.bool true) := (HQ.out w1 hb1).hr.cell 1
  go_wp2_with fail
  refine (HF.out w1 hb1).mono ?_
  rintro e w2 ⟨rfl, hb2⟩
  have hb := hb1.trans (hb2.mono hb1.size)
  have H1 := Lib.hid hb1.size
  clear c1 hb1 hb2
  go_wp2_with fail
  refine (has_ok q.m 1 _ w2 (HQ.out w2 hb).hm rfl).mono ?_
  rintro e w2 ⟨rfl, rfl⟩
  have e1 : (bits .and .i64 3071 1 != 0) = true := by decide
  rw [e1]
  clear e1
  go_wp2_with fail
  refine (HP.out _ hb).mono ?_
  rintro e w3 ⟨b, rfl, _, _, hb3⟩
  have hbb := hb.trans (hb3.mono hb.size)
  clear hb hb3
  go_wp2_with fail
  go_ret
  exact ⟨rfl, hbb⟩
end Go.Proofs.YtpjnjhklkgefcaaGreatDoor

set_option linter.unusedVariables false
set_option linter.unusedSimpArgs false
namespace Go.Proofs.YtpjnjhklkgefcaaGreatDoor
open Go.RowKit
set_option maxRecDepth 100000 in
set_option maxHeartbeats 1000000 in
theorem fresh_e {B : Nat} {q : Mm} (s : ByteArray) (w : World) (g : Gl w) (h : Nm s) (hq : MemE B wideT q w) : Calls Tryz.prog 112 #[pt q.m, .string s] w fun e w' => e = .returned (.int .i64 1) ∧ Below w.heap.size w w' := by
  have HF := Lib.hid (find_e s w g h hq)
  have HW := Lib.hid (fun w1 (hb : Below w.heap.size w w1) => way_e s w1 (g.below hb) h (hq.below hb))
  have HP := Lib.hid (fun w1 (hb : Below w.heap.size w w1) => storeParts_ok s w1 (g.below hb) h)
  clear g hq h
  go_enter Tryz.func112, Tryz.ntmps112
  go_wp2_with fail
  refine HF.out.mono ?_
  rintro e w1 ⟨rfl, hb1⟩
  go_wp2_with fail
  refine (HW.out w1 hb1).mono ?_
  rintro e w2 ⟨rfl, hb2⟩
  have hb := hb1.trans (hb2.mono hb1.size)
  clear hb1 hb2
  go_wp2_with fail
  refine (HP.out _ hb).mono ?_
  rintro e w3 ⟨b, rfl, _, _, hb3⟩
  have hbb := hb.trans (hb3.mono hb.size)
  clear hb hb3
  go_wp2_with fail
  go_ret
  exact ⟨rfl, hbb⟩
set_option maxRecDepth 100000 in
set_option maxHeartbeats 1000000 in
theorem metaForm_nil (w : World) : Calls Tryz.prog 111 #[.slice none 0 0] w fun e w' => e = .returned (.bool true) ∧ w' = w := by
  go_enter Tryz.func111, Tryz.ntmps111
  go_wp2_with fail
  go_rounds 1
  go_ret
  exact ⟨rfl, rfl⟩
set_option maxRecDepth 100000 in
set_option maxHeartbeats 1000000 in
theorem isFile_ok (s : ByteArray) (w : World) (g : Gl w) (h : Nm s) : Calls Tryz.prog 106 #[.string s] w fun e w' => e = .returned (.int .i64 0) ∧ Below w.heap.size w w' := by
  have hd0 := nm_ne h
  have HC := Lib.hid (check_ok s w g h)
  clear g h
  go_enter Tryz.func106, Tryz.ntmps106
  go_wp2_with fail
  refine HC.out.mono ?_
  rintro e w1 ⟨rfl, hb1⟩
  go_wp2_with fail
  go_ret
  exact ⟨rfl, hb1⟩
theorem indexAny_nil : ∀ l : List UInt8, Lib.indexAny l (⟨#[]⟩ : ByteArray).data.toList = -1
  | [] => rfl
  | b :: l => by
    have ih := indexAny_nil l
    unfold Lib.indexAny
    rw [ih]
    rfl
set_option maxRecDepth 100000 in
set_option maxHeartbeats 1000000 in
theorem fits_ok (f : Ft) (s : ByteArray) (w : World) (g : Gl w) (h : Nm s) (h1 : (s.size : Int) ≤ f.mpath) (h2 : (s.size : Int) ≤ f.mname) (h3 : f.forbid = ⟨#[]⟩) : Calls Tryz.prog 107 #[.agg f.cells, .string s] w fun e w' => e = .returned (.bool true) ∧ Below w.heap.size w w' := by
  have hlo := h.lo
  have hhi := h.hi
  have hn1 : ¬ f.mpath < (s.size : Int) := by omega
  have hn2 : ¬ f.mname < (s.size : Int) := by omega
  have HP := Lib.hid (fun w1 (hb : Below w.heap.size w w1) => parts_ok s w1 (g.below hb) h)
  have HA := Lib.hid (fun w => Tryz.strings_ContainsAny_laid s ⟨#[]⟩ w (by omega) (by decide) h.asc (by intro j b hb; simp at hb))
  have e0 : Lib.containsAny s.data.toList (⟨#[]⟩ : ByteArray).data.toList = false := by
    rw [Lib.containsAny, indexAny_nil]; decide
  rw [e0] at HA
  have H3 := Lib.hid h3
  clear g h h3 e0
  go_enter Tryz.func107, Tryz.ntmps107
  go_wp2_with fail
  have hb0 := (Below.refl w.heap.size w).alloc (Nat.le_refl _) (.cells f.cells 33)
  refine (HP.out _ hb0).mono ?_
  rintro e w1 ⟨b, rfl, hlb, hb1, hb2⟩
  have c0 : w1.cell? ⟨b, 0, none⟩ = some (.string s) := hb1.cell 0
  have B0 := (Blk.below (Blk.new w 33 f.cells) hb2 (by simp)).cell
  have c3 := B0 3
  have c8 := B0 8
  simp only [Ft.cells] at c3 c8
  rw [H3.out] at c8
  have HB := Lib.hid (hb0.trans (hb2.mono hb0.size))
  clear B0 hb1 hb2 hb0
  go_wp2_with fail
  refine wp_loop_rounds 2 ?_
  rw [rounds_succ]
  go_wp2_with fail
  refine (HA.out _).mono ?_
  rintro e w2 ⟨rfl, hb3⟩
  go_wp2_with fail
  rw [rounds_succ]
  go_wp2_with fail
  go_ret
  exact ⟨rfl, HB.out.trans (hb3.mono HB.out.size)⟩
set_option maxRecDepth 100000 in
set_option maxHeartbeats 1000000 in
theorem isNew_e {B : Nat} {q : Mm} (s : ByteArray) (w : World) (g : Gl w) (h : Nm s) (hq : MemE B wideT q w) : Calls Tryz.prog 53 #[pt q.m, .string s] w fun e w' => e = .returned (.int .i64 0) ∧ Below w.heap.size w w' := by
  have HI := Lib.hid (isFile_ok s w g h)
  have HT := Lib.hid (fun w1 (hb : Below w.heap.size w w1) => fits_ok wideT s w1 (g.below hb) h (by have := h.hi; simp; omega) (by have := h.hi; simp; omega) rfl)
  have HQ := Lib.hid (fun w1 (hb : Below w.heap.size w w1) => hq.below hb)
  clear g hq h
  go_enter Tryz.func53, Tryz.ntmps53
  go_wp2_with fail
  refine HI.out.mono ?_
  rintro e w1 ⟨rfl, hb1⟩
  have hm := (HQ.out w1 hb1).hm.cell
  go_wp2_with fail
  refine (HT.out w1 hb1).mono ?_
  rintro e w2 ⟨rfl, hb2⟩
  clear hm
  have hb := hb1.trans (hb2.mono hb1.size)
  clear hb1 hb2
  go_wp2_with fail
  go_ret
  exact ⟨rfl, hb⟩
theorem memS {B : Nat} {q : Mm} {w wx : World} (HQ : Hid (∀ w1, Below w.heap.size w w1 → MemE B wideT q w1)) (hB : Below w.heap.size w wx) : Below w.heap.size w wx ∧ wx.cell? ⟨q.m, 11, none⟩ = some (.int .i64 0) := ⟨hB, (HQ.out _ hB).hm.cell 11⟩
set_option maxRecDepth 100000 in
set_option maxHeartbeats 1000000 in
theorem putFault_e {B : Nat} {q : Mm} (s : ByteArray) (n : Nat) (hn : n ≤ 100000) (w : World) (g : Gl w) (h : Nm s) (hq : MemE B wideT q w) : Calls Tryz.prog 56 #[pt q.m, .string s, .int .i64 n, .slice none 0 0] w fun e w' => e = .returned (.int .i64 0) ∧ Below w.heap.size w w' := by
  have HP := Lib.hid (place_e s w g h hq)
  have HF := Lib.hid (fun w1 (hb : Below w.heap.size w w1) => fresh_e s w1 (g.below hb) h (hq.below hb))
  have HQ := Lib.hid (fun w1 (hb : Below w.heap.size w w1) => hq.below hb)
  have hn1 : ¬ (100000 : Int) < (n : Int) := by omega
  clear g hq h
  go_enter Tryz.func56, Tryz.ntmps56
  go_wp2_with fail
  refine HP.out.mono ?_
  rintro e w1 ⟨rfl, hb1⟩
  go_wp2_with fail
  refine (metaForm_nil _).mono ?_
  rintro e w1 ⟨rfl, rfl⟩
  have hm := (HQ.out _ hb1).hm.cell
  have m5 := hm 5
  have m11 := hm 11
  simp at m5 m11
  clear hm
  go_upto_region 8 with (fail)
  clear m5 m11
  have HS := memS HQ hb1
  clear hb1
  go_region_held3 (fun wx => Below w.heap.size w wx ∧ wx.cell? ⟨q.m, 11, none⟩ = some (.int .i64 0)) (first | exact HS | exact memS HQ (Below.drew (And.left (by assumption))) | exact memS HQ (Below.trans (And.left (by assumption)) (Below.mono hb3 (And.left (by assumption : Below w.heap.size w _ ∧ _)).size)) | assumption) ((go_at_call 112; refine (HF.out _ (And.left (by assumption))).mono ?_; rintro e w3 ⟨rfl, hb3⟩))
  all_goals
    have hb := Lib.hid (And.left (by assumption : Below w.heap.size w _ ∧ _))
    go_wp2_with fail
    go_ret
    exact ⟨rfl, hb.out⟩
end Go.Proofs.YtpjnjhklkgefcaaGreatDoor

set_option linter.unusedVariables false
set_option linter.unusedSimpArgs false
namespace Go.Proofs.YtpjnjhklkgefcaaGreatDoor
open Go.RowKit
set_option maxRecDepth 100000 in
set_option maxHeartbeats 1000000 in
theorem call_e {B : Nat} {q : Mm} (k : Nat) (hk : k < 14) (w : World) (hq : MemE B wideT q w) : Calls Tryz.prog 52 #[pt q.m, .int .i64 k] w fun e w' => e = .returned (.pointer none) ∧ MemE B wideT q w' ∧ Kp [q.ca, q.si] w w' := by
  obtain ⟨X, hX, iX⟩ := hq.hca
  obtain ⟨Y, hY, iY⟩ := hq.hsi
  obtain ⟨x, hx⟩ := iX k hk
  obtain ⟨y, hy⟩ := iY k hk
  have hi0 : (0 : Int) ≤ (k : Int) := by omega
  have hi1 : (k : Int) < 14 := by omega
  have m13 := hq.hm.cell 13
  have m14 := hq.hm.cell 14
  have m15 := hq.hm.cell 15
  simp at m13 m14 m15
  have cx := (hX.cell k).trans hx
  have cy := (hY.cell k).trans hy
  have fx := hX.frozen k
  have fy := hY.frozen k
  have nm1 : q.m ≠ q.ca := hq.hm.ne hX (by decide)
  have nm2 : q.m ≠ q.si := hq.hm.ne hY (by decide)
  have nr1 : q.r ≠ q.ca := hq.hr.ne hX (by decide)
  have nr2 : q.r ≠ q.si := hq.hr.ne hY (by decide)
  have nk1 : q.ca ≠ q.km := map_ne hX hq.hk
  have nk2 : q.si ≠ q.km := map_ne hY hq.hk
  have ne := hq.ne
  have HQ := Lib.hid hq
  have HX := Lib.hid hX
  have HY := Lib.hid hY
  have IX := Lib.hid iX
  have IY := Lib.hid iY
  clear hq hX hY iX iY hx hy
  go_enter Tryz.func52, Tryz.ntmps52
  go_wp2_with fail
  go_rounds 1
  go_ret
  have K1 : Kp [q.ca, q.si] w (w.setCell ⟨q.ca, k, none⟩ (.int .i64 (wrap64 (x + 1)))) := (Kp.refl _ w).setCell _ _ (Or.inl (by simp))
  have K2 : ∀ w1 : World, Kp [q.si] w1 (w1.setCell ⟨q.si, k, none⟩ (.int .i64 (wrap64 (y + 1)))) := fun w1 => (Kp.refl _ w1).setCell _ _ (Or.inl (by simp))
  have K1' : Kp [q.ca] w (w.setCell ⟨q.ca, k, none⟩ (.int .i64 (wrap64 (x + 1)))) := (Kp.refl _ w).setCell _ _ (Or.inl (by simp))
  have K := K1.trans ((K2 _).mono (by simp))
  refine ⟨rfl, ⟨K.blk HQ.out.hm (by simp [nm1, nm2]), K.blk HQ.out.hr (by simp [nr1, nr2]), blockOf_kp HQ.out.hk K (by simp [nk1.symm, nk2.symm]), ⟨_, (K2 _).blk (HX.out.set k _) (by simp [ne]), IX.out.set k _⟩, ⟨_, (K1'.blk HY.out (by simp [ne.symm])).set k _, IY.out.set k _⟩, ne, HQ.out.lom, HQ.out.lor, HQ.out.lok, HQ.out.loc, HQ.out.los, HQ.out.gl1, HQ.out.gl2⟩, K⟩
set_option maxRecDepth 100000 in
set_option maxHeartbeats 1000000 in
theorem truncate_one (t : Int) (w : World) : Calls Tryz.prog 152 #[.int .i64 7, .int .i64 1] w fun e w' => e = .returned (.int .i64 7) ∧ w' = w := by
  go_enter Tryz.func152, Tryz.ntmps152
  go_wp2
  go_ret
  exact ⟨rfl, rfl⟩
set_option maxRecDepth 100000 in
set_option maxHeartbeats 1000000 in
theorem timeOf_e {B : Nat} {q : Mm} (w : World) (hq : MemE B wideT q w) : Calls Tryz.prog 109 #[pt q.m, .int .i64 7] w fun e w' => e = .returned (.int .i64 7) ∧ w' = w := by
  have m2 := hq.hm.cell 2
  simp at m2
  have HQ := Lib.hid hq
  clear hq
  go_enter Tryz.func109, Tryz.ntmps109
  go_wp2_with fail
  refine (has_ok q.m 4 _ w HQ.out.hm rfl).mono ?_
  rintro e w2 ⟨rfl, rfl⟩
  have e1 : (bits .and .i64 3071 4 != 0) = true := by decide
  rw [e1]
  clear e1
  go_wp2_with fail
  refine (truncate_one 7 _).mono ?_
  rintro e w2 ⟨rfl, rfl⟩
  go_wp2_with fail
  go_ret
  exact ⟨rfl, rfl⟩
set_option maxRecDepth 100000 in
set_option maxHeartbeats 1000000 in
theorem last_ok (s : ByteArray) (w : World) (h : Nm s) : Calls Tryz.prog 148 #[.string s] w fun e w' => e = .returned (.string s) ∧ w' = w := by
  have hhi := h.hi
  have HL := Lib.hid (Tryz.strings_LastIndexByte s 47 (by omega))
  rw [h.last] at HL
  clear h
  go_enter Tryz.func148, Tryz.ntmps148
  go_wp2_with fail
  refine (HL.out _).mono ?_
  rintro e w2 ⟨rfl, rfl⟩
  go_wp2_with fail
  go_ret
  exact ⟨rfl, rfl⟩
end Go.Proofs.YtpjnjhklkgefcaaGreatDoor
