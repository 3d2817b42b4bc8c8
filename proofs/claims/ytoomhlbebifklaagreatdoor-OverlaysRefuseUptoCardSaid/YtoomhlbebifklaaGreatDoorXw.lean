import Derived.Test.YtoomhlbebifklaaGreatDoorXn
import Derived.Test.YtoomhlbebifklaaGreatDoorXf
import Derived.Test.YtoomhlbebifklaaGreatDoorXp
import Derived.Test.YtoomhlbebifklaaGreatDoorXd
import Derived.Test.YtoomhlbebifklaaGreatDoorXe
import Derived.Test.YtoomhlbebifklaaGreatDoorXo
import Derived.Test.YtoomhlbebifklaaGreatDoorXi
import Derived.Test.YtoomhlbebifklaaGreatDoorGs
import Derived.Deep.CutRange
set_option linter.unusedVariables false
set_option linter.unusedSimpArgs false
namespace Go.Proofs.YtoomhlbebifklaaGreatDoor
open Go.RowKit
set_option maxRecDepth 100000 in
set_option maxHeartbeats 4000000 in
/-- keys or a kind that are not right. -/
theorem cryptB_ok (m : Nat) (a b c : ByteArray) (k v : Int) (w : World) (hk : kindE a b c k = v) (hv : v ≠ 0) : Calls Tryz.prog 13 #[.iface 29 (pt m), .agg (kC a b c), .int .i64 k] w fun e w' => e = .returned (.tuple #[.nilIface, .int .i64 v]) ∧ Below w.heap.size w w' := by
  have HS := Lib.hid (fun w => SealName_bad a b c k v w hk hv)
  have hv1 : (v != 0) = true := by simpa using hv
  clear hk hv
  go_enter Tryz.func13, Tryz.ntmps13
  go_wp2_with fail
  have HB := Lib.hid (((Below.refl w.heap.size w).alloc (Nat.le_refl _) (.cells (kC a b c) 23)).alloc (by simp) (.cells #[.int .i64 k] 3))
  generalize ((w.alloc (.cells (kC a b c) 23)).alloc (.cells #[.int .i64 k] 3)) = w1 at *
  refine (HS.out _).mono ?_
  rintro e w2 ⟨rfl, hb⟩
  have HB2 := Lib.hid (HB.out.trans (hb.mono HB.out.size))
  clear hb
  go_wp2_with fail
  go_ret2
  exact ⟨rfl, HB2.out⟩
/-- the boxes of a call of Crypt. -/
structure CrB (a b c : ByteArray) (k : Int) (kb : Nat) (w0 w : World) : Prop where
  hb : Below kb w0 w
  h1 : Blk w kb 23 (kC a b c)
  h2 : Blk w (kb + 1) 3 #[.int .i64 k]
theorem CrB.below {a b c : ByteArray} {k : Int} {kb : Nat} {w0 w w' : World} (h : CrB a b c k kb w0 w) (hb : Below w.heap.size w w') : CrB a b c k kb w0 w' :=
  ⟨h.hb.trans (hb.mono (Nat.le_of_lt h.h1.lt)), h.h1.below hb h.h1.lt, h.h2.below hb h.h2.lt⟩
theorem CrB.old {a b c : ByteArray} {k : Int} {kb : Nat} {w0 w : World} (h : CrB a b c k kb w0 w) (o : Obj) : CrB a b c k kb w0 (w.alloc o) :=
  h.below ((Below.refl _ _).alloc (Nat.le_refl _) o)
theorem CrB.new (a b c : ByteArray) (k : Int) (w : World) : CrB a b c k w.heap.size w ((w.alloc (.cells (kC a b c) 23)).alloc (.cells #[.int .i64 k] 3)) :=
  ⟨((Below.refl w.heap.size w).alloc (Nat.le_refl _) _).alloc (by simp) _, (Blk.new w _ _).old _, Blk.newAt (by simp)⟩
theorem CrB.cells {a b c : ByteArray} {k : Int} {kb : Nat} {w0 w : World} (h : CrB a b c k kb w0 w) : w.cell? ⟨kb, 0, none⟩ = some (.string a) ∧ w.cell? ⟨kb, 1, none⟩ = some (.string b) ∧ w.cell? ⟨kb, 2, none⟩ = some (.string c) ∧ w.cell? ⟨kb + 1, 0, none⟩ = some (.int .i64 k) := ⟨h.h1.cell 0, h.h1.cell 1, h.h1.cell 2, h.h2.cell 0⟩
set_option maxRecDepth 100000 in
set_option maxHeartbeats 4000000 in
/-- a store that cannot bear it. -/
theorem cryptC_ok (m : Nat) (a b c : ByteArray) (k : Int) (w : World)
    (HS : ∀ wx, Below w.heap.size w wx → Calls Tryz.prog 30 #[.agg (kC a b c), .int .i64 k, .string ⟨#[97]⟩] wx fun e w' => ∃ t : ByteArray, e = .returned (.tuple #[.string t, .int .i64 0]) ∧ Below wx.heap.size wx w')
    (HF : ∀ wx, Below w.heap.size w wx → Calls Tryz.prog 31 #[.iface 29 (pt m), .int .i64 k] wx fun e w' => ∃ (x0 x1 x2 x3 x4 x5 x6 x7 : Int) (x8 : ByteArray), e = .returned (.tuple #[.agg #[.int .i64 x0, .int .i64 x1, .int .i64 x2, .int .i64 x3, .int .i64 x4, .int .i64 x5, .int .i64 x6, .int .i64 x7, .string x8], .int .i64 12]) ∧ Below wx.heap.size wx w') :
    Calls Tryz.prog 13 #[.iface 29 (pt m), .agg (kC a b c), .int .i64 k] w fun e w' => e = .returned (.tuple #[.nilIface, .int .i64 12]) ∧ Below w.heap.size w w' := by
  have HS := Lib.hid HS
  have HF := Lib.hid HF
  go_enter Tryz.func13, Tryz.ntmps13
  go_upto_region 3 with (fail)
  have HB := Lib.hid (CrB.new a b c k w)
  generalize ((w.alloc (.cells (kC a b c) 23)).alloc (.cells #[.int .i64 k] 3)) = w1 at *
  obtain ⟨k0, k1, k2, k3⟩ := HB.out.cells
  go_wp2_with fail
  refine (HS.out _ HB.out.hb).mono ?_
  rintro e w2 ⟨t, rfl, hb⟩
  have HB2 := Lib.hid (HB.out.below hb)
  clear hb HB k0 k1 k2 k3
  obtain ⟨k0, k1, k2, k3⟩ := HB2.out.cells
  go_wp2_with fail
  refine (HF.out _ HB2.out.hb).mono ?_
  rintro e w3 ⟨x0, x1, x2, x3, x4, x5, x6, x7, x8, rfl, hb⟩
  have HB3 := Lib.hid (HB2.out.below hb)
  clear hb HB2 k0 k1 k2 k3
  go_wp2_with fail
  go_ret2
  exact ⟨rfl, HB3.out.hb.alloc (Nat.le_of_lt HB3.out.h1.lt) _⟩
/-- the features of a sealed store. -/
def CrF (cb : Nat) (h1 pr nm mp ms1 pg : Int) (fo1 : ByteArray) (w : World) : Prop :=
  w.cell? ⟨cb, 1, none⟩ = some (.int .i64 h1) ∧ w.cell? ⟨cb, 2, none⟩ = some (.int .i64 0) ∧ w.cell? ⟨cb, 3, none⟩ = some (.int .i64 pr) ∧ w.cell? ⟨cb, 4, none⟩ = some (.int .i64 nm) ∧ w.cell? ⟨cb, 5, none⟩ = some (.int .i64 mp) ∧ w.cell? ⟨cb, 6, none⟩ = some (.int .i64 ms1) ∧ w.cell? ⟨cb, 7, none⟩ = some (.int .i64 pg) ∧ w.cell? ⟨cb, 8, none⟩ = some (.int .i64 1) ∧ w.cell? ⟨cb, 9, none⟩ = some (.string fo1)
theorem CrF.below {cb : Nat} {h1 pr nm mp ms1 pg : Int} {fo1 : ByteArray} {w w' : World} (h : CrF cb h1 pr nm mp ms1 pg fo1 w) (hb : Below w.heap.size w w') : CrF cb h1 pr nm mp ms1 pg fo1 w' := by
  have key : ∀ p v, w.cell? p = some v → w'.cell? p = some v := fun p v hc => (hb.cell (World.block_lt_of_cell? _ _ hc)).trans hc
  obtain ⟨a1, a2, a3, a4, a5, a6, a7, a8, a9⟩ := h
  exact ⟨key _ _ a1, key _ _ a2, key _ _ a3, key _ _ a4, key _ _ a5, key _ _ a6, key _ _ a7, key _ _ a8, key _ _ a9⟩
set_option maxRecDepth 100000 in
set_option maxHeartbeats 4000000 in
theorem crFeatures_ok (cb : Nat) (h1 pr nm mp ms1 pg : Int) (fo1 : ByteArray) (w : World) (h : CrF cb h1 pr nm mp ms1 pg fo1 w) : Calls Tryz.prog 213 #[pt cb] w fun e w' => e = .returned (.agg #[.int .i64 h1, .int .i64 0, .int .i64 pr, .int .i64 nm, .int .i64 mp, .int .i64 ms1, .int .i64 pg, .int .i64 1, .string fo1]) ∧ Below w.heap.size w w' := by
  obtain ⟨a1, a2, a3, a4, a5, a6, a7, a8, a9⟩ := h
  have hlt := World.block_lt_of_cell? _ _ a1
  simp only at hlt
  go_enter Tryz.func213, Tryz.ntmps213
  go_wp2_with fail
  go_returns
  exact ⟨rfl, by go_grown⟩
set_option maxRecDepth 100000 in
set_option maxHeartbeats 4000000 in
theorem pathDown_ok (cb : Nat) (mp : Int) (w : World) : Calls Tryz.prog 36 #[pt cb, .int .i64 mp] w fun e w' => e = .returned (.func (.func 66) #[] #[pt w.heap.size, pt (w.heap.size + 1)]) ∧ Below w.heap.size w w' := by
  go_enter Tryz.func36, Tryz.ntmps36
  go_wp2_with fail
  go_ret
  exact ⟨rfl, by go_grown⟩
end Go.Proofs.YtoomhlbebifklaaGreatDoor

set_option linter.unusedVariables false
set_option linter.unusedSimpArgs false
namespace Go.Proofs.YtoomhlbebifklaaGreatDoor
open Go.RowKit
/-- the memory while an overlay that seals is made. -/
structure CR (kb : Nat) (w0 : World) (h sm pr mn mp ms pg ps : Int) (fo : ByteArray) (m cb : Nat) (h1 nm ms1 : Int) (fo1 : ByteArray) (w : World) : Prop where
  hb : Below kb w0 w
  hcb : kb ≤ cb
  hs : cb < w.heap.size
  hf : CrF cb h1 pr nm mp ms1 pg fo1 w
  c10 : ∃ v, w.cell? ⟨cb, 10, none⟩ = some v
  c11 : ∃ v, w.cell? ⟨cb, 11, none⟩ = some v
  c14 : ∃ v, w.cell? ⟨cb, 14, none⟩ = some v
  z10 : w.frozen? ⟨cb, 10, none⟩ = false
  z11 : w.frozen? ⟨cb, 11, none⟩ = false
  z14 : w.frozen? ⟨cb, 14, none⟩ = false
  hm : FeatG h sm pr mn mp ms pg ps fo m w
section
variable {kb : Nat} {w0 : World} {h sm pr mn mp ms pg ps : Int} {fo : ByteArray} {m cb : Nat} {h1 nm ms1 : Int} {fo1 : ByteArray} {w w' : World}
theorem CR.below (H : CR kb w0 h sm pr mn mp ms pg ps fo m cb h1 nm ms1 fo1 w) (hb : Below w.heap.size w w') (hkb : kb ≤ w.heap.size) : CR kb w0 h sm pr mn mp ms pg ps fo m cb h1 nm ms1 fo1 w' := by
  have key : ∀ i, w'.cell? ⟨cb, i, none⟩ = w.cell? ⟨cb, i, none⟩ := fun i => hb.cell (p := ⟨cb, i, none⟩) H.hs
  have kez : ∀ i, w'.frozen? ⟨cb, i, none⟩ = w.frozen? ⟨cb, i, none⟩ := fun i => hb.frozen (p := ⟨cb, i, none⟩) H.hs
  exact ⟨H.hb.trans (hb.mono hkb), H.hcb, Nat.lt_of_lt_of_le H.hs hb.size, H.hf.below hb, by rw [key]; exact H.c10, by rw [key]; exact H.c11, by rw [key]; exact H.c14, by rw [kez]; exact H.z10, by rw [kez]; exact H.z11, by rw [kez]; exact H.z14, H.hm.below hb⟩
theorem CR.kb_le (H : CR kb w0 h sm pr mn mp ms pg ps fo m cb h1 nm ms1 fo1 w) : kb ≤ w.heap.size := Nat.le_trans H.hcb (Nat.le_of_lt H.hs)
theorem CR.drew (H : CR kb w0 h sm pr mn mp ms pg ps fo m cb h1 nm ms1 fo1 w) : CR kb w0 h sm pr mn mp ms pg ps fo m cb h1 nm ms1 fo1 w.drew :=
  H.below (Cha.below_drew (Below.refl _ _)) H.kb_le
theorem CR.set (H : CR kb w0 h sm pr mn mp ms pg ps fo m cb h1 nm ms1 fo1 w) (i : Nat) (v : Value) (hi : i = 10 ∨ i = 11 ∨ i = 14) (hm : m ≠ cb) : CR kb w0 h sm pr mn mp ms pg ps fo m cb h1 nm ms1 fo1 (w.setCell ⟨cb, i, none⟩ v) := by
  have key : ∀ j, j ≠ i → (w.setCell ⟨cb, i, none⟩ v).cell? ⟨cb, j, none⟩ = w.cell? ⟨cb, j, none⟩ := fun j hj => World.cell?_setCell_other _ _ _ _ (by intro hh; injection hh with _ h2 _; exact hj h2.symm)
  have ex : ∀ j, (∃ u, w.cell? ⟨cb, j, none⟩ = some u) → ∃ u, (w.setCell ⟨cb, i, none⟩ v).cell? ⟨cb, j, none⟩ = some u := fun j ⟨u, hu⟩ => by
    by_cases e : j = i
    · subst e
      exact ⟨v, World.cell?_setCell_same' _ _ _ (by rw [hu]; rfl)⟩
    · exact ⟨u, by rw [key j e]; exact hu⟩
  obtain ⟨a1, a2, a3, a4, a5, a6, a7, a8, a9⟩ := H.hf
  have K := (Kp.refl [cb] w).setCell ⟨cb, i, none⟩ v (Or.inl (by simp))
  obtain ⟨v9, v10, v11, v12, v13, v14, v15, v16, v17, v18, v19, hM⟩ := H.hm.h
  refine ⟨H.hb.setCell (p := ⟨cb, i, none⟩) H.hcb v, H.hcb, Nat.lt_of_lt_of_le H.hs K.size, ⟨?_, ?_, ?_, ?_, ?_, ?_, ?_, ?_, ?_⟩, ex _ H.c10, ex _ H.c11, ex _ H.c14, ?_, ?_, ?_, ⟨v9, v10, v11, v12, v13, v14, v15, v16, v17, v18, v19, K.blk hM (by simp; exact hm)⟩⟩
  · rw [key 1 (by omega)]; exact a1
  · rw [key 2 (by omega)]; exact a2
  · rw [key 3 (by omega)]; exact a3
  · rw [key 4 (by omega)]; exact a4
  · rw [key 5 (by omega)]; exact a5
  · rw [key 6 (by omega)]; exact a6
  · rw [key 7 (by omega)]; exact a7
  · rw [key 8 (by omega)]; exact a8
  · rw [key 9 (by omega)]; exact a9
  · rw [World.frozen?_setCell]; exact H.z10
  · rw [World.frozen?_setCell]; exact H.z11
  · rw [World.frozen?_setCell]; exact H.z14
theorem CR.feat (H : CR kb w0 h sm pr mn mp ms pg ps fo m cb h1 nm ms1 fo1 w) : Calls Tryz.prog 176 #[pt m] w fun e w' => e = .returned (.agg #[.int .i64 h, .int .i64 sm, .int .i64 pr, .int .i64 mn, .int .i64 mp, .int .i64 ms, .int .i64 pg, .int .i64 ps, .string fo]) ∧ CR kb w0 h sm pr mn mp ms pg ps fo m cb h1 nm ms1 fo1 w' :=
  (H.hm.call).mono fun e w' ⟨he, hb⟩ => ⟨he, H.below hb H.kb_le⟩
theorem CR.path (x : Int) (H : CR kb w0 h sm pr mn mp ms pg ps fo m cb h1 nm ms1 fo1 w) : Calls Tryz.prog 36 #[pt cb, .int .i64 x] w fun e w' => ∃ g, e = .returned (.func (.func 66) #[] #[pt g, pt (g + 1)]) ∧ CR kb w0 h sm pr mn mp ms pg ps fo m cb h1 nm ms1 fo1 w' :=
  (pathDown_ok cb x w).mono fun e w' ⟨he, hb⟩ => ⟨w.heap.size, he, H.below hb H.kb_le⟩
end
theorem CR.fin {kb : Nat} {w0 : World} {h sm pr mn mp ms pg ps : Int} {fo : ByteArray} {m cb : Nat} {h1 nm ms1 : Int} {fo1 : ByteArray} {w : World} (H : CR kb w0 h sm pr mn mp ms pg ps fo m cb h1 nm ms1 fo1 w) : CrF cb h1 pr nm mp ms1 pg fo1 w ∧ Below kb w0 w := ⟨H.hf, H.hb⟩
theorem CR.drewN {kb : Nat} {w0 : World} {h sm pr mn mp ms pg ps : Int} {fo : ByteArray} {m cb : Nat} {h1 nm ms1 : Int} {fo1 : ByteArray} {w : World} (H : CR kb w0 h sm pr mn mp ms pg ps fo m cb h1 nm ms1 fo1 w) (n : Nat) : CR kb w0 h sm pr mn mp ms pg ps fo m cb h1 nm ms1 fo1 (w.drewN n) :=
  H.below (((Kp.refl [] w).drewN n).below (Nat.le_refl _) (by simp)) H.kb_le
theorem CR.new {kb : Nat} {w0 w8 : World} {h sm pr mn mp ms pg ps : Int} {fo : ByteArray} {m : Nat} (h1 nm ms1 : Int) (fo1 : ByteArray) (hB : Below kb w0 w8) (hk : kb ≤ w8.heap.size) (hm : FeatG h sm pr mn mp ms pg ps fo m w8) (lo dn up lf hf2 fr va vb vc : Value) :
    CR kb w0 h sm pr mn mp ms pg ps fo m w8.heap.size h1 nm ms1 fo1 (w8.alloc (.cells #[lo, .int .i64 h1, .int .i64 0, .int .i64 pr, .int .i64 nm, .int .i64 mp, .int .i64 ms1, .int .i64 pg, .int .i64 1, .string fo1, dn, up, lf, hf2, fr, va, vb, vc] 97)) := by
  have hN := Blk.new w8 97 #[lo, .int .i64 h1, .int .i64 0, .int .i64 pr, .int .i64 nm, .int .i64 mp, .int .i64 ms1, .int .i64 pg, .int .i64 1, .string fo1, dn, up, lf, hf2, fr, va, vb, vc]
  exact ⟨hB.alloc hk _, hk, hN.lt, ⟨hN.cell 1, hN.cell 2, hN.cell 3, hN.cell 4, hN.cell 5, hN.cell 6, hN.cell 7, hN.cell 8, hN.cell 9⟩, ⟨_, hN.cell 10⟩, ⟨_, hN.cell 11⟩, ⟨_, hN.cell 14⟩, hN.frozen 10, hN.frozen 11, hN.frozen 14, hm.below ((Below.refl _ _).alloc (Nat.le_refl _) _)⟩
theorem twelve_below {kb fb : Nat} {a b c : ByteArray} {x0 x1 x2 x3 x4 x5 x6 x7 : Int} {x8 : ByteArray} {w wx wy : World} (h : Below kb w wx ∧ wx.cell? ⟨kb, 0, none⟩ = some (.string a) ∧ wx.cell? ⟨kb, 1, none⟩ = some (.string b) ∧ wx.cell? ⟨kb, 2, none⟩ = some (.string c) ∧ wx.cell? ⟨fb, 0, none⟩ = some (.int .i64 x0) ∧ wx.cell? ⟨fb, 1, none⟩ = some (.int .i64 x1) ∧ wx.cell? ⟨fb, 2, none⟩ = some (.int .i64 x2) ∧ wx.cell? ⟨fb, 3, none⟩ = some (.int .i64 x3) ∧ wx.cell? ⟨fb, 4, none⟩ = some (.int .i64 x4) ∧ wx.cell? ⟨fb, 5, none⟩ = some (.int .i64 x5) ∧ wx.cell? ⟨fb, 6, none⟩ = some (.int .i64 x6) ∧ wx.cell? ⟨fb, 7, none⟩ = some (.int .i64 x7) ∧ wx.cell? ⟨fb, 8, none⟩ = some (.string x8)) (hb : Below wx.heap.size wx wy) :
    Below kb w wy ∧ wy.cell? ⟨kb, 0, none⟩ = some (.string a) ∧ wy.cell? ⟨kb, 1, none⟩ = some (.string b) ∧ wy.cell? ⟨kb, 2, none⟩ = some (.string c) ∧ wy.cell? ⟨fb, 0, none⟩ = some (.int .i64 x0) ∧ wy.cell? ⟨fb, 1, none⟩ = some (.int .i64 x1) ∧ wy.cell? ⟨fb, 2, none⟩ = some (.int .i64 x2) ∧ wy.cell? ⟨fb, 3, none⟩ = some (.int .i64 x3) ∧ wy.cell? ⟨fb, 4, none⟩ = some (.int .i64 x4) ∧ wy.cell? ⟨fb, 5, none⟩ = some (.int .i64 x5) ∧ wy.cell? ⟨fb, 6, none⟩ = some (.int .i64 x6) ∧ wy.cell? ⟨fb, 7, none⟩ = some (.int .i64 x7) ∧ wy.cell? ⟨fb, 8, none⟩ = some (.string x8) := by
  have key : ∀ p v, wx.cell? p = some v → wy.cell? p = some v := fun p v hc => (hb.cell (World.block_lt_of_cell? _ _ hc)).trans hc
  obtain ⟨h0, k0, k1, k2, q0, q1, q2, q3, q4, q5, q6, q7, q8⟩ := h
  exact ⟨h0.trans (hb.mono (Nat.le_of_lt (World.block_lt_of_cell? _ _ k0))), key _ _ k0, key _ _ k1, key _ _ k2, key _ _ q0, key _ _ q1, key _ _ q2, key _ _ q3, key _ _ q4, key _ _ q5, key _ _ q6, key _ _ q7, key _ _ q8⟩
set_option maxRecDepth 100000 in
set_option maxHeartbeats 8000000 in
theorem cryptO_ok (m : Nat) (a b c : ByteArray) (k : Int) (h sm pr mn mp ms pg ps : Int) (fo : ByteArray) (nm : Int) (w : World) (hf : FeatG h sm pr mn mp ms pg ps fo m w)
    (HS : ∀ wx, Below w.heap.size w wx → Calls Tryz.prog 30 #[.agg (kC a b c), .int .i64 k, .string ⟨#[97]⟩] wx fun e w' => ∃ t : ByteArray, e = .returned (.tuple #[.string t, .int .i64 0]) ∧ Below wx.heap.size wx w')
    (HF : ∀ wx, Below w.heap.size w wx → Calls Tryz.prog 31 #[.iface 29 (pt m), .int .i64 k] wx fun e w' => ∃ h1 ms1 : Int, ∃ fo1 : ByteArray, e = .returned (.tuple #[.agg #[.int .i64 h1, .int .i64 0, .int .i64 pr, .int .i64 nm, .int .i64 mp, .int .i64 ms1, .int .i64 pg, .int .i64 1, .string fo1], .int .i64 0]) ∧ Below wx.heap.size wx w') :
    Calls Tryz.prog 13 #[.iface 29 (pt m), .agg (kC a b c), .int .i64 k] w fun e w' => ∃ (cb : Nat) (h1 ms1 : Int) (fo1 : ByteArray), e = .returned (.tuple #[.iface 91 (pt cb), .int .i64 0]) ∧ CrF cb h1 pr nm mp ms1 pg fo1 w' ∧ Below w.heap.size w w' := by
  have HS := Lib.hid HS
  have HF := Lib.hid HF
  have H := Lib.hid (fun wx (hb : Below w.heap.size w wx) => hf.below hb)
  clear hf
  go_enter Tryz.func13, Tryz.ntmps13
  go_upto_region 3 with (fail)
  have HB := Lib.hid (CrB.new a b c k w)
  generalize ((w.alloc (.cells (kC a b c) 23)).alloc (.cells #[.int .i64 k] 3)) = w1 at *
  generalize hkb : w.heap.size = kb at *
  have HKB := Lib.hid hkb
  clear hkb
  obtain ⟨k0, k1, k2, k3⟩ := HB.out.cells
  go_wp2_with fail
  refine (HS.out _ HB.out.hb).mono ?_
  rintro e w2 ⟨t, rfl, hb⟩
  have HB2 := Lib.hid (HB.out.below hb)
  clear hb HB k0 k1 k2 k3
  obtain ⟨k0, k1, k2, k3⟩ := HB2.out.cells
  go_wp2_with fail
  refine (HF.out _ HB2.out.hb).mono ?_
  rintro e w3 ⟨h1, ms1, fo1, rfl, hb⟩
  have HB3 := Lib.hid (HB2.out.below hb)
  clear hb HB2 k0 k1 k2 k3 HS HF
  go_upto_region 11 with (fail)
  have HB4 := Lib.hid (HB3.out.old (.cells #[.int .i64 h1, .int .i64 0, .int .i64 pr, .int .i64 nm, .int .i64 mp, .int .i64 ms1, .int .i64 pg, .int .i64 1, .string fo1] 26))
  have hF4 := Blk.new w3 26 #[.int .i64 h1, .int .i64 0, .int .i64 pr, .int .i64 nm, .int .i64 mp, .int .i64 ms1, .int .i64 pg, .int .i64 1, .string fo1]
  generalize (w3.alloc (.cells #[.int .i64 h1, .int .i64 0, .int .i64 pr, .int .i64 nm, .int .i64 mp, .int .i64 ms1, .int .i64 pg, .int .i64 1, .string fo1] 26)) = w4 at *
  generalize w3.heap.size = fb at *
  have HW := Lib.hid (show Below kb w w4 ∧ w4.cell? ⟨kb, 0, none⟩ = some (.string a) ∧ w4.cell? ⟨kb, 1, none⟩ = some (.string b) ∧ w4.cell? ⟨kb, 2, none⟩ = some (.string c) ∧ w4.cell? ⟨fb, 0, none⟩ = some (.int .i64 h1) ∧ w4.cell? ⟨fb, 1, none⟩ = some (.int .i64 0) ∧ w4.cell? ⟨fb, 2, none⟩ = some (.int .i64 pr) ∧ w4.cell? ⟨fb, 3, none⟩ = some (.int .i64 nm) ∧ w4.cell? ⟨fb, 4, none⟩ = some (.int .i64 mp) ∧ w4.cell? ⟨fb, 5, none⟩ = some (.int .i64 ms1) ∧ w4.cell? ⟨fb, 6, none⟩ = some (.int .i64 pg) ∧ w4.cell? ⟨fb, 7, none⟩ = some (.int .i64 1) ∧ w4.cell? ⟨fb, 8, none⟩ = some (.string fo1) from ⟨HB4.out.hb, HB4.out.cells.1, HB4.out.cells.2.1, HB4.out.cells.2.2.1, hF4.cell 0, hF4.cell 1, hF4.cell 2, hF4.cell 3, hF4.cell 4, hF4.cell 5, hF4.cell 6, hF4.cell 7, hF4.cell 8⟩)
  clear HB3 HB4 hF4
  go_region_held3 (fun wx => Below kb w wx ∧ wx.cell? ⟨kb, 0, none⟩ = some (.string a) ∧ wx.cell? ⟨kb, 1, none⟩ = some (.string b) ∧ wx.cell? ⟨kb, 2, none⟩ = some (.string c) ∧ wx.cell? ⟨fb, 0, none⟩ = some (.int .i64 h1) ∧ wx.cell? ⟨fb, 1, none⟩ = some (.int .i64 0) ∧ wx.cell? ⟨fb, 2, none⟩ = some (.int .i64 pr) ∧ wx.cell? ⟨fb, 3, none⟩ = some (.int .i64 nm) ∧ wx.cell? ⟨fb, 4, none⟩ = some (.int .i64 mp) ∧ wx.cell? ⟨fb, 5, none⟩ = some (.int .i64 ms1) ∧ wx.cell? ⟨fb, 6, none⟩ = some (.int .i64 pg) ∧ wx.cell? ⟨fb, 7, none⟩ = some (.int .i64 1) ∧ wx.cell? ⟨fb, 8, none⟩ = some (.string fo1))
    (first | assumption | exact twelve_below HW.out (Cha.below_drew (Below.refl _ _)) | exact twelve_below (by assumption) hb8 | exact twelve_below (by assumption) ((Below.refl _ _).alloc (Nat.le_refl _) _))
    ((go_at_call 35; have hbw := And.left (by assumption); refine (renameG_ok m _ _ _ _ _ _ _ _ _ _ _ _ _ _ _ _ _ _ _ _ _ _ _ (H.out _ hbw)).mono ?_; rintro e w8 ⟨rb, tb, rfl, hR, hT, htl, hb8⟩))
  all_goals
    have h8 := twelve_below (twelve_below HW.out (Cha.below_drew (Below.refl _ _))) hb8
    have hk8 : kb ≤ w8.heap.size := Nat.le_of_lt (World.block_lt_of_cell? _ _ h8.2.1)
    have HM8 := Lib.hid (H.out _ h8.1)
    have hm8 : m < w8.heap.size := by
      obtain ⟨v9, v10, v11, v12, v13, v14, v15, v16, v17, v18, v19, hM⟩ := HM8.out.h
      exact hM.lt
    have HC := Lib.hid (CR.new h1 nm ms1 fo1 h8.1 hk8 HM8.out (.iface 29 (pt m)) (.func (.func 64) #[] #[pt rb, pt tb]) (.func (.func 37) #[pt rb] #[]) (.func (.func 32) #[] #[pt kb, pt (kb + 1)]) (.func (.func 33) #[] #[pt kb, pt (kb + 1)]) (fn0 63) (.string a) (.string b) (.string c))
    have hne : m ≠ w8.heap.size := by omega
    clear h8 hb8 hR hT htl hk8 HM8 hm8 HW H
    generalize (w8.alloc (.cells #[.iface 29 (pt m), .int .i64 h1, .int .i64 0, .int .i64 pr, .int .i64 nm, .int .i64 mp, .int .i64 ms1, .int .i64 pg, .int .i64 1, .string fo1, .func (.func 64) #[] #[pt rb, pt tb], .func (.func 37) #[pt rb] #[], .func (.func 32) #[] #[pt kb, pt (kb + 1)], .func (.func 33) #[] #[pt kb, pt (kb + 1)], fn0 63, .string a, .string b, .string c] 97)) = w9 at *
    generalize w8.heap.size = cb at *
    obtain ⟨v10, q10⟩ := HC.out.c10
    obtain ⟨v11, q11⟩ := HC.out.c11
    have z10 := HC.out.z10
    have z11 := HC.out.z11
    have hf4 := fun w => field4G h sm pr mn mp ms pg ps fo w
    go_wp2_with fail
    go_region_with (first | (go_at_call 176; (first | refine (CR.feat HC.out.drew).mono ?_ | refine (CR.feat (HC.out.drew.set 11 (.func (.func 37) #[pt cb] #[]) (by decide) hne)).mono ?_); rintro e w10 ⟨rfl, hc10⟩; obtain ⟨u10, y10⟩ := hc10.c10; obtain ⟨u11, y11⟩ := hc10.c11; have x10 := hc10.z10; have x11 := hc10.z11) | (go_at_call 36; (first | refine (CR.path _ hc10).mono ?_ | refine (CR.path _ (hc10.set 11 (.func (.func 37) #[pt cb] #[]) (by decide) hne)).mono ?_); rintro e w11 ⟨g, rfl, hc11⟩; obtain ⟨t10, p10⟩ := hc11.c10; obtain ⟨t11, p11⟩ := hc11.c11; obtain ⟨t14, p14⟩ := hc11.c14; have r10 := hc11.z10; have r11 := hc11.z11; have r14 := hc11.z14))
    all_goals
      go_wp2_with fail
      go_ret2
      refine ⟨cb, h1, ms1, fo1, rfl, ?_⟩
      rw [HKB.out]
      refine CR.fin (h := h) (sm := sm) (mn := mn) (ms := ms) (ps := ps) (fo := fo) (m := m) ?_
      (repeat' (first | assumption | with_reducible refine CR.drew ?_ | with_reducible refine CR.set ?_ _ _ (by decide) hne | with_reducible refine CR.drewN ?_ _))
end Go.Proofs.YtoomhlbebifklaaGreatDoor

set_option linter.unusedVariables false
set_option linter.unusedSimpArgs false
namespace Go.Proofs.YtoomhlbebifklaaGreatDoor
open Go.RowKit
/-- an overlay, or an error. -/
def OvR (v : Value) (e : Int) : Prop := (v = .nilIface ∧ e ≠ 0) ∨ (∃ t b, v = .iface t (pt b) ∧ e = 0)
/-- right features, as the law makes them. -/
structure LF (m0 : Nat) (pr mn mp ms pg : Int) (fo : ByteArray) : Prop where
  ok : HasOK m0
  pr1 : 1 ≤ pr
  pr2 : pr ≤ 1000
  mn1 : 1 ≤ mn
  mn2 : mn ≤ 255
  mp1 : mn ≤ mp
  mp2 : mp ≤ 1024
  ms1 : 0 ≤ ms
  ms2 : ms ≤ 300
  pg1 : 1 ≤ pg
  pg2 : pg ≤ 4
abbrev dotB (fo : ByteArray) : Bool := decide (0 ≤ Lib.indexByte fo.data.toList 46)
abbrev FeatL (m0 : Nat) (pr mn mp ms pg : Int) (fo : ByteArray) (m : Nat) (w : World) : Prop := FeatG (m0 : Int) 16 pr mn mp ms pg 1 fo m w
def mostV (dir : ByteArray) (mp : Int) : Int := if dir.toList.isEmpty then mp else mp - ((dir.size : Int) + 1)
def wantS (dir : ByteArray) (mp mn : Int) : Int := if pathB dir = false then 1 else if mostV dir mp < mn then 7 else 0
section
variable {m0 : Nat} {pr mn mp ms pg : Int} {fo : ByteArray}
theorem subAll (L : LF m0 pr mn mp ms pg fo) (m : Nat) (dir : ByteArray) (hs : dir.size ≤ 1048576) (w : World) (g : Gl w) (hf : FeatL m0 pr mn mp ms pg fo m w) :
    Calls Tryz.prog 10 #[.iface 29 (pt m), .string dir] w fun e w' => ∃ v x, e = .returned (.tuple #[v, .int .i64 x]) ∧ OvR v x ∧ x = wantS dir mp mn ∧ Below w.heap.size w w' := by
  have hA := Lib.hid L.ok.andNot1024
  have h1 := L.mn1
  have h2 := L.mp1
  have h3 := L.mp2
  unfold wantS mostV
  by_cases hp : pathB dir = false
  · rw [if_pos hp]
    exact (subP_ok m dir w g hs hp).mono fun e w' ⟨he, hb⟩ => ⟨_, _, he, Or.inl ⟨rfl, by decide⟩, rfl, hb⟩
  rw [if_neg hp]
  have hp' : pathB dir = true := by simpa using hp
  by_cases he : dir.toList.isEmpty = true
  · rw [if_pos he]
    by_cases hr : mp < mn
    · rw [if_pos hr]
      exact (subR_ok m dir _ _ _ _ _ _ _ _ _ w g hA hf hs hp' he hr).mono fun e w' ⟨he, hb⟩ => ⟨_, _, he, Or.inl ⟨rfl, by decide⟩, rfl, hb⟩
    · rw [if_neg hr]
      exact (subO_ok m dir _ _ _ _ _ _ _ _ _ w g hA hf hs hp' he hr).mono fun e w' ⟨sb, he, hb⟩ => ⟨_, _, he, Or.inr ⟨_, _, rfl, rfl⟩, rfl, hb⟩
  · rw [if_neg he]
    have he' : dir.toList.isEmpty = false := by simpa using he
    by_cases hr : mp - ((dir.size : Int) + 1) < mn
    · rw [if_pos hr]
      exact (subRd_ok m dir _ _ _ _ _ _ _ _ _ w g hA hf hs hp' he' (by omega) h3 hr).mono fun e w' ⟨he, hb⟩ => ⟨_, _, he, Or.inl ⟨rfl, by decide⟩, rfl, hb⟩
    · rw [if_neg hr]
      exact (subOd_ok m dir _ _ _ _ _ _ _ _ _ w g hA hf hs hp' he' (by omega) h3 hr).mono fun e w' ⟨sb, he, hb⟩ => ⟨_, _, he, Or.inr ⟨_, _, rfl, rfl⟩, rfl, hb⟩
def wantQ (n mn ms : Int) (dot : Bool) : Int := if n < 16 ∨ 16384 < n then 7 else if mn < 4 ∨ ms < 16 ∨ dot = true then 12 else 0
theorem squeezeAll (L : LF m0 pr mn mp ms pg fo) (m : Nat) (n : Int) (w : World) (hf : FeatL m0 pr mn mp ms pg fo m w) :
    Calls Tryz.prog 17 #[.iface 29 (pt m), .int .i64 n] w fun e w' => ∃ v x, e = .returned (.tuple #[v, .int .i64 x]) ∧ OvR v x ∧ x = wantQ n mn ms (dotB fo) ∧ Below w.heap.size w w' := by
  have hA := Lib.hid L.ok.andNot1024
  have h1 := L.mn1
  have h2 := L.mn2
  have h3 := L.ms1
  have h4 := L.ms2
  unfold wantQ
  by_cases hn : n < 16 ∨ 16384 < n
  · rw [if_pos hn]
    exact (squeezeR_ok m n w hn).mono fun e w' ⟨he, hb⟩ => ⟨_, _, he, Or.inl ⟨rfl, by decide⟩, rfl, hb⟩
  rw [if_neg hn]
  obtain ⟨b, rfl⟩ : ∃ b : Nat, n = (b : Int) := ⟨n.toNat, by omega⟩
  by_cases c1 : mn < 4
  · rw [if_pos (Or.inl c1)]
    exact (squeezeN_ok m b _ _ _ _ _ _ _ _ _ w hA hf (by omega) (by omega) h1 h2 h3 (by omega) c1).mono fun e w' ⟨he, hb⟩ => ⟨_, _, he, Or.inl ⟨rfl, by decide⟩, rfl, hb⟩
  by_cases c2 : ms < 16
  · rw [if_pos (Or.inr (Or.inl c2))]
    exact (squeezeM_ok m b _ _ _ _ _ _ _ _ _ w hA hf (by omega) (by omega) h1 h2 h3 (by omega) c1 c2).mono fun e w' ⟨he, hb⟩ => ⟨_, _, he, Or.inl ⟨rfl, by decide⟩, rfl, hb⟩
  by_cases c3 : dotB fo = true
  · rw [if_pos (Or.inr (Or.inr c3))]
    exact (squeezeD_ok m b _ _ _ _ _ _ _ _ _ w hA hf (by omega) (by omega) h1 h2 h3 (by omega) c1 c2 c3).mono fun e w' ⟨he, hb⟩ => ⟨_, _, he, Or.inl ⟨rfl, by decide⟩, rfl, hb⟩
  · rw [if_neg (by rintro (h | h | h); exact c1 h; exact c2 h; exact c3 h)]
    exact (squeezeO_ok m b _ _ _ _ _ _ _ _ _ w hA hf (by omega) (by omega) h1 h2 h3 (by omega) c1 c2 (by simpa using c3)).mono fun e w' ⟨sb, he, hb⟩ => ⟨_, _, he, Or.inr ⟨_, _, rfl, rfl⟩, rfl, hb⟩
def wantH (n mn ms : Int) (dot : Bool) : Int := if n < 1 ∨ 1048576 < n then 7 else if mn < 28 ∨ ms < 120 ∨ ms < n ∨ dot = true then 12 else 0
theorem chunksAll (L : LF m0 pr mn mp ms pg fo) (m : Nat) (n : Int) (w : World) (hf : FeatL m0 pr mn mp ms pg fo m w) :
    Calls Tryz.prog 18 #[.iface 29 (pt m), .int .i64 n] w fun e w' => ∃ v x, e = .returned (.tuple #[v, .int .i64 x]) ∧ OvR v x ∧ x = wantH n mn ms (dotB fo) ∧ Below w.heap.size w w' := by
  have hA := Lib.hid L.ok.andNot1024
  have h1 := L.mn1
  have h2 := L.mn2
  have h3 := L.ms1
  have h4 := L.ms2
  unfold wantH
  by_cases hn : n < 1 ∨ 1048576 < n
  · rw [if_pos hn]
    exact (chunksR_ok m n w hn).mono fun e w' ⟨he, hb⟩ => ⟨_, _, he, Or.inl ⟨rfl, by decide⟩, rfl, hb⟩
  rw [if_neg hn]
  by_cases c1 : mn < 28
  · rw [if_pos (Or.inl c1)]
    exact (chunksN_ok m n _ _ _ _ _ _ _ _ _ w hA hf (by omega) (by omega) h1 h2 h3 (by omega) c1).mono fun e w' ⟨he, hb⟩ => ⟨_, _, he, Or.inl ⟨rfl, by decide⟩, rfl, hb⟩
  by_cases c2 : ms < 120
  · rw [if_pos (Or.inr (Or.inl c2))]
    exact (chunksM_ok m n _ _ _ _ _ _ _ _ _ w hA hf (by omega) (by omega) h1 h2 h3 (by omega) c1 c2).mono fun e w' ⟨he, hb⟩ => ⟨_, _, he, Or.inl ⟨rfl, by decide⟩, rfl, hb⟩
  by_cases c4 : ms < n
  · rw [if_pos (Or.inr (Or.inr (Or.inl c4)))]
    exact (chunksS_ok m n _ _ _ _ _ _ _ _ _ w hA hf (by omega) (by omega) h1 h2 h3 (by omega) c1 c2 c4).mono fun e w' ⟨he, hb⟩ => ⟨_, _, he, Or.inl ⟨rfl, by decide⟩, rfl, hb⟩
  by_cases c3 : dotB fo = true
  · rw [if_pos (Or.inr (Or.inr (Or.inr c3)))]
    exact (chunksD_ok m n _ _ _ _ _ _ _ _ _ w hA hf (by omega) (by omega) h1 h2 h3 (by omega) c1 c2 c4 c3).mono fun e w' ⟨he, hb⟩ => ⟨_, _, he, Or.inl ⟨rfl, by decide⟩, rfl, hb⟩
  · rw [if_neg (by rintro (h | h | h | h); exact c1 h; exact c2 h; exact c4 h; exact c3 h)]
    exact (chunksO_ok m n _ _ _ _ _ _ _ _ _ w hA hf (by omega) (by omega) h1 h2 h3 (by omega) c1 c2 c4 (by simpa using c3)).mono fun e w' ⟨sb, he, hb⟩ => ⟨_, _, he, Or.inr ⟨_, _, rfl, rfl⟩, rfl, hb⟩
/-- the greatest name below an overlay that seals. -/
def nameK (k mn : Int) : Int := if k = 2 then mn * 5 / 8 - 16 else if k = 3 then mn - 4 else mn - 2
def condC (k mn ms : Int) (dot hb : Bool) : Bool := decide (nameK k mn < 1) || (decide (ms < 36) || ((decide (k ≠ 2) && dot) || (decide (k = 3) && hb)))
def wantC (a b c : ByteArray) (k mn ms : Int) (dot hb : Bool) : Int := if kindE a b c k ≠ 0 then kindE a b c k else if condC k mn ms dot hb = true then 12 else 0
/-- an overlay that seals, or an error. -/
def OvC (v : Value) (e pr nm mp pg : Int) (w : World) : Prop := (v = .nilIface ∧ e ≠ 0) ∨ (∃ (cb : Nat) (h1 ms1 : Int) (fo1 : ByteArray), v = .iface 91 (pt cb) ∧ e = 0 ∧ CrF cb h1 pr nm mp ms1 pg fo1 w)
theorem kindE_zero {a b c : ByteArray} {k : Int} (h : kindE a b c k = 0) : b.size = 32 ∧ c.size = 16 ∧ (k = 1 ∨ k = 2 ∨ k = 3) := by
  unfold kindE at h
  by_cases h1 : a.size ≠ 32 ∨ b.size ≠ 32 ∨ c.size ≠ 16
  · rw [if_pos h1] at h; cases h
  · rw [if_neg h1] at h
    by_cases h2 : k < 1 ∨ k > 3
    · rw [if_pos h2] at h; cases h
    · exact ⟨by omega, by omega, by omega⟩
theorem hb_bit (h : m0 < 4096) (hb : Bool) (e : decide (m0 &&& 2 = 0) = hb) : RowKit.Hid (bits .and .i64 (m0 : Int) 2 = if hb then 0 else 2) := by
  have h1 := and_test 2 h (by decide)
  rw [show ((2 : Nat) : Int) = 2 from rfl] at h1
  show bits .and .i64 (m0 : Int) 2 = _
  rw [h1, ← e]
  by_cases h0 : m0 &&& 2 = 0
  · simp [h0]
  · have h2 : m0 &&& 2 = 2 := by
      have h3 : m0 &&& 2 ≤ 2 := Nat.and_le_right
      have h4 : m0 &&& 2 ≠ 1 := by
        intro h5
        have := congrArg (fun x => x.testBit 0) h5
        simp [Nat.testBit_and] at this
      omega
    simp [h2]
theorem cryptAll (L : LF m0 pr mn mp ms pg fo) (m : Nat) (a b c : ByteArray) (k : Int) (w : World) (g : Gl w) (hp : P10 w) (hf : FeatL m0 pr mn mp ms pg fo m w) :
    Calls Tryz.prog 13 #[.iface 29 (pt m), .agg (kC a b c), .int .i64 k] w fun e w' => ∃ v x, e = .returned (.tuple #[v, .int .i64 x]) ∧ OvC v x pr (nameK k mn) mp pg w' ∧ x = wantC a b c k mn ms (dotB fo) (decide (m0 &&& 2 = 0)) ∧ Below w.heap.size w w' := by
  have hA := Lib.hid L.ok.andNot1024
  have h1 := L.mn1
  have h2 := L.mn2
  have h3 := L.ms1
  have h4 := L.ms2
  unfold wantC
  by_cases hk : kindE a b c k = 0
  · rw [if_neg (by simpa using hk)]
    obtain ⟨hb, hc, hkk⟩ := kindE_zero hk
    have hbit := hb_bit (m0 := m0) L.ok.lt _ rfl
    have bad : ∀ (HF : ∀ wx, Below w.heap.size w wx → Calls Tryz.prog 31 #[.iface 29 (pt m), .int .i64 k] wx fun e w' => ∃ (x0 x1 x2 x3 x4 x5 x6 x7 : Int) (x8 : ByteArray), e = .returned (.tuple #[.agg #[.int .i64 x0, .int .i64 x1, .int .i64 x2, .int .i64 x3, .int .i64 x4, .int .i64 x5, .int .i64 x6, .int .i64 x7, .string x8], .int .i64 12]) ∧ Below wx.heap.size wx w')
        (HS : ∀ wx, Below w.heap.size w wx → Calls Tryz.prog 30 #[.agg (kC a b c), .int .i64 k, .string ⟨#[97]⟩] wx fun e w' => ∃ t : ByteArray, e = .returned (.tuple #[.string t, .int .i64 0]) ∧ Below wx.heap.size wx w')
        (hcnd : condC k mn ms (dotB fo) (decide (m0 &&& 2 = 0)) = true),
        Calls Tryz.prog 13 #[.iface 29 (pt m), .agg (kC a b c), .int .i64 k] w fun e w' => ∃ v x, e = .returned (.tuple #[v, .int .i64 x]) ∧ OvC v x pr (nameK k mn) mp pg w' ∧ x = (if condC k mn ms (dotB fo) (decide (m0 &&& 2 = 0)) = true then 12 else 0) ∧ Below w.heap.size w w' := by
      intro HF HS hcnd
      rw [if_pos hcnd]
      exact (cryptC_ok m a b c k w HS HF).mono fun e w' ⟨he, hb⟩ => ⟨_, _, he, Or.inl ⟨rfl, by decide⟩, rfl, hb⟩
    have good : ∀ (nm : Int) (HF : ∀ wx, Below w.heap.size w wx → Calls Tryz.prog 31 #[.iface 29 (pt m), .int .i64 k] wx fun e w' => ∃ h1 ms1 : Int, ∃ fo1 : ByteArray, e = .returned (.tuple #[.agg #[.int .i64 h1, .int .i64 0, .int .i64 pr, .int .i64 nm, .int .i64 mp, .int .i64 ms1, .int .i64 pg, .int .i64 1, .string fo1], .int .i64 0]) ∧ Below wx.heap.size wx w')
        (HS : ∀ wx, Below w.heap.size w wx → Calls Tryz.prog 30 #[.agg (kC a b c), .int .i64 k, .string ⟨#[97]⟩] wx fun e w' => ∃ t : ByteArray, e = .returned (.tuple #[.string t, .int .i64 0]) ∧ Below wx.heap.size wx w')
        (hcnd : condC k mn ms (dotB fo) (decide (m0 &&& 2 = 0)) = false) (hnm : nm = nameK k mn),
        Calls Tryz.prog 13 #[.iface 29 (pt m), .agg (kC a b c), .int .i64 k] w fun e w' => ∃ v x, e = .returned (.tuple #[v, .int .i64 x]) ∧ OvC v x pr (nameK k mn) mp pg w' ∧ x = (if condC k mn ms (dotB fo) (decide (m0 &&& 2 = 0)) = true then 12 else 0) ∧ Below w.heap.size w w' := by
      intro nm HF HS hcnd hnm
      subst hnm
      rw [if_neg (by rw [hcnd]; decide)]
      exact (cryptO_ok m a b c k _ _ _ _ _ _ _ _ _ _ w hf HS HF).mono fun e w' ⟨cb, x1, x2, x3, he, hF, hb⟩ => ⟨_, _, he, Or.inr ⟨cb, x1, x2, x3, rfl, rfl, hF⟩, rfl, hb⟩
    rcases hkk with rfl | rfl | rfl
    · have HS : ∀ wx, Below w.heap.size w wx → Calls Tryz.prog 30 #[.agg (kC a b c), .int .i64 1, .string ⟨#[97]⟩] wx fun e w' => ∃ t : ByteArray, e = .returned (.tuple #[.string t, .int .i64 0]) ∧ Below wx.heap.size wx w' := fun wx hx => SealName_good a b c 1 wx (g.below hx) hk (fun wy _ => sealName1_ok a b c wy)
      have hnk : nameK 1 mn = mn - 2 := by unfold nameK; rfl
      by_cases c1 : mn - 2 < 1
      · exact bad (fun wx hx => crypt1N_ok m _ _ _ _ _ _ _ _ _ wx hA (hf.below hx) h1 h2 h3 (by omega) c1) HS (by unfold condC; rw [hnk, decide_eq_true c1]; rfl)
      by_cases c2 : ms < 36
      · exact bad (fun wx hx => crypt1M_ok m _ _ _ _ _ _ _ _ _ wx hA (hf.below hx) h1 h2 h3 (by omega) c1 c2) HS (by unfold condC; rw [decide_eq_true c2]; simp)
      by_cases c3 : dotB fo = true
      · exact bad (fun wx hx => crypt1D_ok m _ _ _ _ _ _ _ _ _ wx hA (hf.below hx) h1 h2 h3 (by omega) c1 c2 c3) HS (by unfold condC; rw [c3]; simp)
      · exact good _ (fun wx hx => crypt1O_ok m _ _ _ _ _ _ _ _ _ wx hA (hf.below hx) h1 h2 h3 (by omega) c1 c2 (by simpa using c3)) HS (by unfold condC; rw [hnk, decide_eq_false c1, decide_eq_false c2, (by simpa using c3 : dotB fo = false)]; simp) hnk.symm
    · have HS : ∀ wx, Below w.heap.size w wx → Calls Tryz.prog 30 #[.agg (kC a b c), .int .i64 2, .string ⟨#[97]⟩] wx fun e w' => ∃ t : ByteArray, e = .returned (.tuple #[.string t, .int .i64 0]) ∧ Below wx.heap.size wx w' := fun wx hx => SealName_good a b c 2 wx (g.below hx) hk (fun wy hy => sealName2_ok a b c wy ((g.below hx).below hy) hb hc)
      have hnk : nameK 2 mn = mn * 5 / 8 - 16 := by unfold nameK; rfl
      by_cases c1 : mn * 5 / 8 - 16 < 1
      · exact bad (fun wx hx => crypt2N_ok m _ _ _ _ _ _ _ _ _ wx hA (hf.below hx) h1 h2 h3 (by omega) c1) HS (by unfold condC; rw [hnk, decide_eq_true c1]; rfl)
      by_cases c2 : ms < 36
      · exact bad (fun wx hx => crypt2M_ok m _ _ _ _ _ _ _ _ _ wx hA (hf.below hx) h1 h2 h3 (by omega) c1 c2) HS (by unfold condC; rw [decide_eq_true c2]; simp)
      · exact good _ (fun wx hx => crypt2O_ok m _ _ _ _ _ _ _ _ _ wx hA (hf.below hx) h1 h2 h3 (by omega) c1 c2) HS (by unfold condC; rw [hnk, decide_eq_false c1, decide_eq_false c2]; simp) hnk.symm
    · have HS : ∀ wx, Below w.heap.size w wx → Calls Tryz.prog 30 #[.agg (kC a b c), .int .i64 3, .string ⟨#[97]⟩] wx fun e w' => ∃ t : ByteArray, e = .returned (.tuple #[.string t, .int .i64 0]) ∧ Below wx.heap.size wx w' := fun wx hx => SealName_good a b c 3 wx (g.below hx) hk (fun wy hy => sealName3_ok a b c wy ((hp.below hx).below hy) hc)
      have hnk : nameK 3 mn = mn - 4 := by unfold nameK; rfl
      by_cases c1 : mn - 4 < 1
      · exact bad (fun wx hx => crypt3N_ok m _ _ _ _ _ _ _ _ _ wx hA (hf.below hx) h1 h2 h3 (by omega) c1) HS (by unfold condC; rw [hnk, decide_eq_true c1]; rfl)
      by_cases c2 : ms < 36
      · exact bad (fun wx hx => crypt3M_ok m _ _ _ _ _ _ _ _ _ wx hA (hf.below hx) h1 h2 h3 (by omega) c1 c2) HS (by unfold condC; rw [decide_eq_true c2]; simp)
      by_cases c3 : dotB fo = true
      · exact bad (fun wx hx => crypt3D_ok m _ _ _ _ _ _ _ _ _ wx hA (hf.below hx) h1 h2 h3 (by omega) c1 c2 c3) HS (by unfold condC; rw [c3]; simp)
      have c3' : dotB fo = false := by simpa using c3
      by_cases c4 : m0 &&& 2 = 0
      · rw [decide_eq_true c4] at hbit
        exact bad (fun wx hx => crypt3C_ok m _ _ _ _ _ _ _ _ _ wx hA (hf.below hx) h1 h2 h3 (by omega) c1 c2 c3' (by simpa using hbit)) HS (by unfold condC; rw [decide_eq_true c4]; simp)
      · rw [decide_eq_false c4] at hbit
        exact good _ (fun wx hx => crypt3O_ok m _ _ _ _ _ _ _ _ _ wx hA (hf.below hx) h1 h2 h3 (by omega) c1 c2 c3' (by simpa using hbit)) HS (by unfold condC; rw [hnk, decide_eq_false c1, decide_eq_false c2, c3', decide_eq_false c4]; simp) hnk.symm
  · rw [if_pos (by simpa using hk)]
    exact (cryptB_ok m a b c k _ w rfl hk).mono fun e w' ⟨he, hb⟩ => ⟨_, _, he, Or.inl ⟨rfl, hk⟩, rfl, hb⟩
end
end Go.Proofs.YtoomhlbebifklaaGreatDoor

set_option linter.unusedVariables false
set_option linter.unusedSimpArgs false
namespace Go.Proofs.YtoomhlbebifklaaGreatDoor
open Go.RowKit
abbrev lrow (m0 : Nat) (pr mn mp ms pg : Int) (fo : ByteArray) : Array Value := #[.int .i64 (m0 : Int), .int .i64 16, .int .i64 pr, .int .i64 mn, .int .i64 mp, .int .i64 ms, .int .i64 pg, .int .i64 1, .string fo]
/-- the memory of the law, ahead of the store. -/
structure L0 (kb fb : Nat) (a b c : ByteArray) (R : Array Value) (w0 w : World) : Prop where
  hb : Below kb w0 w
  hk : Blk w kb 23 (kC a b c)
  hf : Blk w fb 26 R
  lt : kb < fb
section
variable {kb fb : Nat} {a b c : ByteArray} {R : Array Value} {w0 w w' : World}
theorem L0.below (h : L0 kb fb a b c R w0 w) (hb : Below w.heap.size w w') : L0 kb fb a b c R w0 w' :=
  ⟨h.hb.trans (hb.mono (Nat.le_of_lt h.hk.lt)), h.hk.below hb h.hk.lt, h.hf.below hb h.hf.lt, h.lt⟩
theorem L0.set (h : L0 kb fb a b c R w0 w) (i : Nat) (v : Value) : L0 kb fb a b c (R.setIfInBounds i v) w0 (w.setCell ⟨fb, i, none⟩ v) := by
  have K := (Kp.refl [fb] w).setCell ⟨fb, i, none⟩ v (Or.inl (by simp))
  exact ⟨h.hb.setCell (p := ⟨fb, i, none⟩) (Nat.le_of_lt h.lt) v, K.blk h.hk (by have := h.lt; simp; omega), h.hf.set i v, h.lt⟩
theorem L0.drew (h : L0 kb fb a b c R w0 w) : L0 kb fb a b c R w0 w.drew := ⟨Cha.below_drew h.hb, h.hk, h.hf, h.lt⟩
theorem L0.alloc (h : L0 kb fb a b c R w0 w) (o : Obj) : L0 kb fb a b c R w0 (w.alloc o) := h.below ((Below.refl _ _).alloc (Nat.le_refl _) o)
end
theorem nine_below {kb fb : Nat} {x0 x1 x2 x3 x4 x5 x6 x7 : Int} {x8 : ByteArray} {w wx wy : World} (h : Below kb w wx ∧ wx.cell? ⟨fb, 0, none⟩ = some (.int .i64 x0) ∧ wx.cell? ⟨fb, 1, none⟩ = some (.int .i64 x1) ∧ wx.cell? ⟨fb, 2, none⟩ = some (.int .i64 x2) ∧ wx.cell? ⟨fb, 3, none⟩ = some (.int .i64 x3) ∧ wx.cell? ⟨fb, 4, none⟩ = some (.int .i64 x4) ∧ wx.cell? ⟨fb, 5, none⟩ = some (.int .i64 x5) ∧ wx.cell? ⟨fb, 6, none⟩ = some (.int .i64 x6) ∧ wx.cell? ⟨fb, 7, none⟩ = some (.int .i64 x7) ∧ wx.cell? ⟨fb, 8, none⟩ = some (.string x8)) (hk : kb ≤ wx.heap.size) (hb : Below wx.heap.size wx wy) :
    Below kb w wy ∧ wy.cell? ⟨fb, 0, none⟩ = some (.int .i64 x0) ∧ wy.cell? ⟨fb, 1, none⟩ = some (.int .i64 x1) ∧ wy.cell? ⟨fb, 2, none⟩ = some (.int .i64 x2) ∧ wy.cell? ⟨fb, 3, none⟩ = some (.int .i64 x3) ∧ wy.cell? ⟨fb, 4, none⟩ = some (.int .i64 x4) ∧ wy.cell? ⟨fb, 5, none⟩ = some (.int .i64 x5) ∧ wy.cell? ⟨fb, 6, none⟩ = some (.int .i64 x6) ∧ wy.cell? ⟨fb, 7, none⟩ = some (.int .i64 x7) ∧ wy.cell? ⟨fb, 8, none⟩ = some (.string x8) := by
  have key : ∀ p v, wx.cell? p = some v → wy.cell? p = some v := fun p v hc => (hb.cell (World.block_lt_of_cell? _ _ hc)).trans hc
  obtain ⟨h0, q0, q1, q2, q3, q4, q5, q6, q7, q8⟩ := h
  exact ⟨h0.trans (hb.mono hk), key _ _ q0, key _ _ q1, key _ _ q2, key _ _ q3, key _ _ q4, key _ _ q5, key _ _ q6, key _ _ q7, key _ _ q8⟩
theorem Gl.lts {w : World} (g : Gl w) : 0 < w.heap.size ∧ 10 < w.heap.size := by
  obtain ⟨⟨m, hm⟩, ht⟩ := g
  obtain ⟨v, _, hc⟩ := ht 0 (by decide)
  exact ⟨World.block_lt_of_cell? _ _ hm, World.block_lt_of_cell? _ _ hc⟩
/-- the memory of the law, behind the store. -/
structure LM (kb fb : Nat) (a b c : ByteArray) (m0 : Nat) (pr mn mp ms pg : Int) (fo : ByteArray) (m : Nat) (w0 w : World) : Prop where
  l : L0 kb fb a b c (lrow m0 pr mn mp ms pg fo) w0 w
  hm : FeatL m0 pr mn mp ms pg fo m w
section
variable {kb fb : Nat} {a b c : ByteArray} {m0 : Nat} {pr mn mp ms pg : Int} {fo : ByteArray} {m : Nat} {w0 w w' : World}
theorem LM.below (h : LM kb fb a b c m0 pr mn mp ms pg fo m w0 w) (hb : Below w.heap.size w w') : LM kb fb a b c m0 pr mn mp ms pg fo m w0 w' := ⟨h.l.below hb, h.hm.below hb⟩
theorem LM.drew (h : LM kb fb a b c m0 pr mn mp ms pg fo m w0 w) : LM kb fb a b c m0 pr mn mp ms pg fo m w0 w.drew := h.below (Cha.below_drew (Below.refl _ _))
theorem LM.alloc (h : LM kb fb a b c m0 pr mn mp ms pg fo m w0 w) (o : Obj) : LM kb fb a b c m0 pr mn mp ms pg fo m w0 (w.alloc o) := h.below ((Below.refl _ _).alloc (Nat.le_refl _) o)
theorem LM.cells (h : LM kb fb a b c m0 pr mn mp ms pg fo m w0 w) : w.cell? ⟨fb, 0, none⟩ = some (.int .i64 (m0 : Int)) ∧ w.cell? ⟨fb, 3, none⟩ = some (.int .i64 mn) ∧ w.cell? ⟨fb, 4, none⟩ = some (.int .i64 mp) ∧ w.cell? ⟨fb, 5, none⟩ = some (.int .i64 ms) ∧ w.cell? ⟨fb, 8, none⟩ = some (.string fo) := ⟨h.l.hf.cell 0, h.l.hf.cell 3, h.l.hf.cell 4, h.l.hf.cell 5, h.l.hf.cell 8⟩
theorem LM.keys (h : LM kb fb a b c m0 pr mn mp ms pg fo m w0 w) : w.cell? ⟨kb, 0, none⟩ = some (.string a) ∧ w.cell? ⟨kb, 1, none⟩ = some (.string b) ∧ w.cell? ⟨kb, 2, none⟩ = some (.string c) := ⟨h.l.hk.cell 0, h.l.hk.cell 1, h.l.hk.cell 2⟩
theorem LM.fbl (h : LM kb fb a b c m0 pr mn mp ms pg fo m w0 w) : fb < w.heap.size := h.l.hf.lt
end
theorem when_law (b : Bool) (n x : Int) (w : World) (h : (if b = true then n else 0) = x) : Calls Tryz.prog 12 #[.bool b, .int .i64 n] w fun e w' => e = .returned (.int .i64 x) ∧ w' = w := by rw [← h]; exact when_ok b n w
theorem first2_law (x1 x2 v : Int) (w : World) (h : (if x1 ≠ 0 then x1 else x2) = v) : Calls Tryz.prog 11 #[sl w.heap.size 2 2] (w.alloc (.cells #[.int .i64 x1, .int .i64 x2] 30)) fun e w' => e = .returned (.int .i64 v) ∧ w' = w.alloc (.cells #[.int .i64 x1, .int .i64 x2] 30) := by
  rw [← h]
  exact first2_ok w.heap.size x1 x2 _ (Blk.new _ _ _)
theorem first2_drw (x1 x2 v : Int) (w : World) (h : (if x1 ≠ 0 then x1 else x2) = v) : Calls Tryz.prog 11 #[sl w.heap.size 2 2] (w.alloc (.cells #[.int .i64 x1, .int .i64 x2] 30)).drew fun e w' => e = .returned (.int .i64 v) ∧ w' = (w.alloc (.cells #[.int .i64 x1, .int .i64 x2] 30)).drew := by
  rw [← h]
  exact first2_ok w.heap.size x1 x2 _ (Blk.drw (Blk.new _ _ _))
theorem still_skip {P : Program} {ops : Array Oper} {w : World} {Q : Act → Prop} {a : Act} {o : Oper} {rest : List Oper} (hw : Region.wanted o (yielded ops a.tmps) = false) (h : wpStill P ops w Q rest (a.put o.dst undef)) : wpStill P ops w Q (o :: rest) a :=
  wpStill_step fun K hK => by rw [if_neg (by rw [hw]; exact Bool.false_ne_true)]; exact hK _ h
theorem still_want {P : Program} {ops : Array Oper} {w : World} {Q : Act → Prop} {a : Act} {o : Oper} {rest : List Oper} (hw : Region.wanted o (yielded ops a.tmps) = true) (h : ∀ K : Act → Prop, (∀ a, wpStill P ops w Q rest a → K a) → o.still P a w K) : wpStill P ops w Q (o :: rest) a :=
  wpStill_step fun K hK => by rw [if_pos hw]; exact h K hK
theorem OvC.below {v : Value} {e pr nm mp pg : Int} {w w' : World} (h : OvC v e pr nm mp pg w) (hb : Below w.heap.size w w') : OvC v e pr nm mp pg w' := by
  rcases h with h | ⟨cb, h1, ms1, fo1, hv, he, hF⟩
  · exact Or.inl h
  · exact Or.inr ⟨cb, h1, ms1, fo1, hv, he, hF.below hb⟩
theorem OvC.drew {v : Value} {e pr nm mp pg : Int} {w : World} (h : OvC v e pr nm mp pg w) : OvC v e pr nm mp pg w.drew := h.below (Cha.below_drew (Below.refl _ _))
theorem OvC.alloc {v : Value} {e pr nm mp pg : Int} {w : World} (h : OvC v e pr nm mp pg w) (o : Obj) : OvC v e pr nm mp pg (w.alloc o) := h.below ((Below.refl _ _).alloc (Nat.le_refl _) o)
set_option maxRecDepth 100000 in
set_option maxHeartbeats 4000000 in
theorem sealedLength0_ok (w : World) : Calls Tryz.prog 16 #[.int .i64 0] w fun e w' => e = .returned (.int .i64 36) ∧ w' = w := by
  go_enter Tryz.func16, Tryz.ntmps16
  go_wp2_with fail
  go_ret
  exact ⟨rfl, rfl⟩
theorem field3G (h sm pr mn mp ms pg ps : Int) (fb : ByteArray) (w : World) : (Instr.field 26 (.agg #[.int .i64 h, .int .i64 sm, .int .i64 pr, .int .i64 mn, .int .i64 mp, .int .i64 ms, .int .i64 pg, .int .i64 ps, .string fb]) 3).run Tryz.prog w = .ok (.int .i64 mn) w := by kernel_rfl
end Go.Proofs.YtoomhlbebifklaaGreatDoor
