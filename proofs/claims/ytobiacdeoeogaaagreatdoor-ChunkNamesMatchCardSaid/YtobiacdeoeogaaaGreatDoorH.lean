import Derived.Test.YtobiacdeoeogaaaGreatDoorG
set_option linter.unusedVariables false
set_option linter.unusedSimpArgs false
namespace Go.Proofs.YtobiacdeoeogaaaGreatDoor
open Go.RowKit
set_option maxRecDepth 100000 in
set_option maxHeartbeats 1000000 in
theorem fresh_e {B : Nat} {q : Mm} (s : ByteArray) (w : World) (g : Gl w) (h : Nm s) (hq : MemE B wideT q w) : Calls Tryz.prog 173 #[pt q.m, .string s] w fun e w' => e = .returned (.int .i64 1) ∧ Below w.heap.size w w' := by
  have HF := Lib.hid (find_e s w g h hq)
  have HW := Lib.hid (fun w1 (hb : Below w.heap.size w w1) => way_e s w1 (g.below hb) h (hq.below hb))
  have HP := Lib.hid (fun w1 (hb : Below w.heap.size w w1) => storeParts_ok s w1 (g.below hb) h)
  clear g hq h
  go_enter Tryz.func173, Tryz.ntmps173
  go_wp2_with fail
  refine HF.out.mono ?_
  rintro e w1 ⟨rfl, hb1⟩
  go_wp2_with fail
  refine (HW.out w1 hb1).mono ?_
  rintro e w2 ⟨rfl, hb2⟩
  have hb := hb1.trans (hb2.mono hb1.size)
  clear hb1 hb2
  go_wp2_with fail
  refine (HP.out _ hb).mono ?_
  rintro e w3 ⟨b, rfl, _, _, hb3⟩
  have hbb := hb.trans (hb3.mono hb.size)
  clear hb hb3
  go_wp2_with fail
  go_ret
  exact ⟨rfl, hbb⟩
set_option maxRecDepth 100000 in
set_option maxHeartbeats 1000000 in
theorem metaForm_nil (w : World) : Calls Tryz.prog 185 #[.slice none 0 0] w fun e w' => e = .returned (.bool true) ∧ w' = w := by
  go_enter Tryz.func185, Tryz.ntmps185
  go_wp2_with fail
  go_rounds 1
  go_ret
  exact ⟨rfl, rfl⟩
set_option maxRecDepth 100000 in
set_option maxHeartbeats 1000000 in
theorem isFile_ok (s : ByteArray) (w : World) (g : Gl w) (h : Nm s) : Calls Tryz.prog 179 #[.string s] w fun e w' => e = .returned (.int .i64 0) ∧ Below w.heap.size w w' := by
  have hd0 := nm_ne h
  have HC := Lib.hid (check_ok s w g h)
  clear g h
  go_enter Tryz.func179, Tryz.ntmps179
  go_wp2_with fail
  refine HC.out.mono ?_
  rintro e w1 ⟨rfl, hb1⟩
  go_wp2_with fail
  go_ret
  exact ⟨rfl, hb1⟩
theorem indexAny_nil : ∀ l : List UInt8, Lib.indexAny l (⟨#[]⟩ : ByteArray).data.toList = -1
  | [] => rfl
  | b :: l => by
    have ih := indexAny_nil l
    unfold Lib.indexAny
    rw [ih]
    rfl
set_option maxRecDepth 100000 in
set_option maxHeartbeats 1000000 in
theorem fits_ok (f : Ft) (s : ByteArray) (w : World) (g : Gl w) (h : Nm s) (h1 : (s.size : Int) ≤ f.mpath) (h2 : (s.size : Int) ≤ f.mname) (h3 : f.forbid = ⟨#[]⟩) : Calls Tryz.prog 180 #[.agg f.cells, .string s] w fun e w' => e = .returned (.bool true) ∧ Below w.heap.size w w' := by
  have hlo := h.lo
  have hhi := h.hi
  have hn1 : ¬ f.mpath < (s.size : Int) := by omega
  have hn2 : ¬ f.mname < (s.size : Int) := by omega
  have HP := Lib.hid (fun w1 (hb : Below w.heap.size w w1) => parts_ok s w1 (g.below hb) h)
  have HA := Lib.hid (fun w => Tryz.strings_ContainsAny_laid s ⟨#[]⟩ w (by omega) (by decide) h.asc (by intro j b hb; simp at hb))
  have e0 : Lib.containsAny s.data.toList (⟨#[]⟩ : ByteArray).data.toList = false := by
    rw [Lib.containsAny, indexAny_nil]; decide
  rw [e0] at HA
  have H3 := Lib.hid h3
  clear g h h3 e0
  go_enter Tryz.func180, Tryz.ntmps180
  go_wp2_with fail
  have hb0 := (Below.refl w.heap.size w).alloc (Nat.le_refl _) (.cells f.cells 63)
  refine (HP.out _ hb0).mono ?_
  rintro e w1 ⟨b, rfl, hlb, hb1, hb2⟩
  have c0 : w1.cell? ⟨b, 0, none⟩ = some (.string s) := hb1.cell 0
  have B0 := (Blk.below (Blk.new w 63 f.cells) hb2 (by simp)).cell
  have c3 := B0 3
  have c8 := B0 8
  simp only [Ft.cells] at c3 c8
  rw [H3.out] at c8
  have HB := Lib.hid (hb0.trans (hb2.mono hb0.size))
  clear B0 hb1 hb2 hb0
  go_wp2_with fail
  refine wp_loop_rounds 2 ?_
  rw [rounds_succ]
  go_wp2_with fail
  refine (HA.out _).mono ?_
  rintro e w2 ⟨rfl, hb3⟩
  go_wp2_with fail
  rw [rounds_succ]
  go_wp2_with fail
  go_ret
  exact ⟨rfl, HB.out.trans (hb3.mono HB.out.size)⟩
set_option maxRecDepth 100000 in
set_option maxHeartbeats 1000000 in
theorem isNew_e {B : Nat} {q : Mm} (s : ByteArray) (w : World) (g : Gl w) (h : Nm s) (hq : MemE B wideT q w) : Calls Tryz.prog 175 #[pt q.m, .string s] w fun e w' => e = .returned (.int .i64 0) ∧ Below w.heap.size w w' := by
  have HI := Lib.hid (isFile_ok s w g h)
  have HT := Lib.hid (fun w1 (hb : Below w.heap.size w w1) => fits_ok wideT s w1 (g.below hb) h (by have := h.hi; simp; omega) (by have := h.hi; simp; omega) rfl)
  have HQ := Lib.hid (fun w1 (hb : Below w.heap.size w w1) => hq.below hb)
  clear g hq h
  go_enter Tryz.func175, Tryz.ntmps175
  go_wp2_with fail
  refine HI.out.mono ?_
  rintro e w1 ⟨rfl, hb1⟩
  have hm := (HQ.out w1 hb1).hm.cell
  go_wp2_with fail
  refine (HT.out w1 hb1).mono ?_
  rintro e w2 ⟨rfl, hb2⟩
  clear hm
  have hb := hb1.trans (hb2.mono hb1.size)
  clear hb1 hb2
  go_wp2_with fail
  go_ret
  exact ⟨rfl, hb⟩
theorem memS {B : Nat} {q : Mm} {w wx : World} (HQ : Hid (∀ w1, Below w.heap.size w w1 → MemE B wideT q w1)) (hB : Below w.heap.size w wx) : Below w.heap.size w wx ∧ wx.cell? ⟨q.m, 11, none⟩ = some (.int .i64 0) := ⟨hB, (HQ.out _ hB).hm.cell 11⟩
set_option maxRecDepth 100000 in
set_option maxHeartbeats 1000000 in
theorem putFault_e {B : Nat} {q : Mm} (s : ByteArray) (n : Nat) (hn : n ≤ 100000) (w : World) (g : Gl w) (h : Nm s) (hq : MemE B wideT q w) : Calls Tryz.prog 178 #[pt q.m, .string s, .int .i64 n, .slice none 0 0] w fun e w' => e = .returned (.int .i64 0) ∧ Below w.heap.size w w' := by
  have HP := Lib.hid (place_e s w g h hq)
  have HF := Lib.hid (fun w1 (hb : Below w.heap.size w w1) => fresh_e s w1 (g.below hb) h (hq.below hb))
  have HQ := Lib.hid (fun w1 (hb : Below w.heap.size w w1) => hq.below hb)
  have hn1 : ¬ (100000 : Int) < (n : Int) := by omega
  clear g hq h
  go_enter Tryz.func178, Tryz.ntmps178
  go_wp2_with fail
  refine HP.out.mono ?_
  rintro e w1 ⟨rfl, hb1⟩
  go_wp2_with fail
  refine (metaForm_nil _).mono ?_
  rintro e w1 ⟨rfl, rfl⟩
  have hm := (HQ.out _ hb1).hm.cell
  have m5 := hm 5
  have m11 := hm 11
  simp at m5 m11
  clear hm
  go_upto_region 8 with (fail)
  clear m5 m11
  have HS := memS HQ hb1
  clear hb1
  go_region_held3 (fun wx => Below w.heap.size w wx ∧ wx.cell? ⟨q.m, 11, none⟩ = some (.int .i64 0)) (first | exact HS | exact memS HQ (Below.drew (And.left (by assumption))) | exact memS HQ (Below.trans (And.left (by assumption)) (Below.mono hb3 (And.left (by assumption : Below w.heap.size w _ ∧ _)).size)) | assumption) ((go_at_call 173; refine (HF.out _ (And.left (by assumption))).mono ?_; rintro e w3 ⟨rfl, hb3⟩))
  all_goals
    have hb := Lib.hid (And.left (by assumption : Below w.heap.size w _ ∧ _))
    go_wp2_with fail
    go_ret
    exact ⟨rfl, hb.out⟩
end Go.Proofs.YtobiacdeoeogaaaGreatDoor
