/-
  Stores side by side: the features of several stores together.
-/
import Derived.Test.YtpjnjhklkgefcaaGreatDoorZn
import Derived.Deep.CutRange
import Derived.Shelf.SlicesE.Clone
set_option linter.unusedVariables false
set_option linter.unusedSimpArgs false
namespace Go.Proofs.YtpjnjhklkgefcaaGreatDoor
open Go.RowKit Go.Proofs.Zl
/-- what is asked of features together. -/
structure TogOK (f : Ft) : Prop where
  mname : f.mname = 255
  mpath : f.mpath = 1024
  msize : f.msize = 100000
  forbid : f.forbid = ⟨#[]⟩
  page1 : 1 ≤ f.page
  page2 : f.page ≤ 4
theorem FtOK.tog {f : Ft} (h : FtOK f) : TogOK f := ⟨h.mname, h.mpath, h.msize, h.forbid, h.page1, h.page2⟩
abbrev zFt : Array Value := #[.int .i64 0, .int .i64 0, .int .i64 0, .int .i64 0, .int .i64 0, .int .i64 0, .int .i64 0, .int .i64 0, .string ⟨#[]⟩]
theorem zeroBool (w : World) : (zeroValue 4).run Tryz.prog w = .ok (.bool false) w := by kernel_rfl
set_option maxRecDepth 100000 in
theorem look_byte (km : Nat) (c : Int) (w : World) (h : w.heap[km]? = some (.map #[] 0)) : (Instr.lookup 184 (.map (some km)) (.int .u8 c) false).run Tryz.prog w = .ok (.bool false) w := by
  have hc : ∀ b, (Instr.checkKey b 10000 5 (.int .u8 c)).run Tryz.prog w = .ok () w := fun b => MapKept.run_checkKey (k := .int .u8 c) Tryz.underlying5 (by simp [MapKept.IsKey]) b 9999
  have hf : Instr.findNow (.int .u8) (.int .u8 c) ([] : List MapEntry) 0 = some none := rfl
  simp [Instr.lookup, run_underlying Tryz.underlying184, MapKept.run_getObj_map h, hc, MapKept.run_findKey Tryz.underlying5 hf, zeroBool, Result.andThen]
/-- the features together, as they lie. -/
abbrev tC (h s p pg ps : Int) : Array Value := #[.int .i64 h, .int .i64 s, .int .i64 p, .int .i64 255, .int .i64 1024, .int .i64 100000, .int .i64 pg, .int .i64 ps, .string ⟨#[]⟩]
theorem TogOK.cells {f : Ft} (h : TogOK f) : f.cells = tC f.has f.sums f.prec f.page f.psize := by
  obtain ⟨a, b, c, d, _, _⟩ := h
  unfold Ft.cells
  rw [a, b, c, d]
/-- the loop over the stores. -/
structure TogS (zb ob mb : Nat) (h s p pg ps : Int) (w wr : World) : Prop where
  hz : Blk wr zb 33 zFt
  ho : Blk wr ob 33 (tC h s p pg ps)
  hm : wr.heap[mb]? = some (.map #[] 0)
  hb : Below zb w wr
  p1 : 1 ≤ pg
  p2 : pg ≤ 4
  z1 : zb < ob
  z2 : ob < mb
theorem TogS.below {zb ob mb : Nat} {h s p pg ps : Int} {w wr w' : World} (H : TogS zb ob mb h s p pg ps w wr) (k : Below wr.heap.size wr w') : TogS zb ob mb h s p pg ps w w' :=
  ⟨H.hz.below k H.hz.lt, H.ho.below k H.ho.lt, (k.block mb (lt_of_blk H.hm)).trans H.hm, H.hb.trans (k.mono (Nat.le_of_lt H.hz.lt)), H.p1, H.p2, H.z1, H.z2⟩
theorem TogS.set {zb ob mb : Nat} {h s p pg ps h' s' p' pg' ps' : Int} {w wr w' : World} (H : TogS zb ob mb h s p pg ps w wr) (k : Kp [ob] wr w') (ho : Blk w' ob 33 (tC h' s' p' pg' ps')) (p1 : 1 ≤ pg') (p2 : pg' ≤ 4) : TogS zb ob mb h' s' p' pg' ps' w w' :=
  ⟨k.blk H.hz (by have := H.z1; simp; omega), ho, blockOf_kp H.hm k (by have := H.z2; simp; omega), H.hb.trans (k.below (Nat.le_of_lt H.hz.lt) (by have := H.z1; simp; omega)), p1, p2, H.z1, H.z2⟩
set_option maxRecDepth 100000 in
set_option maxHeartbeats 2000000 in
theorem together_ok (sb cap : Nat) (fs : List (Nat × Ft)) (w : World) (h1 : 1 ≤ fs.length) (h8 : fs.length ≤ 8) (hsb : sb < w.heap.size)
    (hrow : ∀ (i : Nat) x, fs[i]? = some x → w.cell? ⟨sb, i, none⟩ = some (stV x.1)) (hok : ∀ x ∈ fs, TogOK x.2)
    (HF : ∀ x ∈ fs, ∀ wx : World, Below w.heap.size w wx → Calls Tryz.prog 216 #[pt x.1] wx fun e w' => e = .returned (.agg x.2.cells) ∧ Below wx.heap.size wx w')
    (HG : ∀ x ∈ fs, ∀ wx : World, Below w.heap.size w wx → Calls Tryz.prog 70 #[stV x.1] wx fun e w' => e = .returned (.agg x.2.cells) ∧ Below wx.heap.size wx w') :
    Calls Tryz.prog 43 #[.slice (some ⟨sb, 0, none⟩) fs.length cap] w fun e w' => ∃ h s p pg : Int, e = .returned (.agg (tC h s p pg 1)) ∧ 1 ≤ pg ∧ pg ≤ 4 ∧ Below w.heap.size w w' := by
  obtain ⟨n, hN⟩ : ∃ n, fs.length = n := ⟨_, rfl⟩
  have HN := Lib.hid hN
  have HR := Lib.hid (show ∀ (wx : World), Below w.heap.size w wx → ∀ (i : Nat) x, fs[i]? = some x → wx.cell? ⟨sb, i, none⟩ = some (stV x.1) from fun wx hb i x hx => (hb.cell (p := ⟨sb, i, none⟩) hsb).trans (hrow i x hx))
  have HO := Lib.hid hok
  have HFF := Lib.hid HF
  have h00 := hrow 0 _ (List.getElem?_eq_getElem (show 0 < fs.length by omega))
  have hG0 := HG _ (List.getElem_mem (show 0 < fs.length by omega))
  have hO0 := hok _ (List.getElem_mem (show 0 < fs.length by omega))
  generalize fs[0] = x0 at *
  obtain ⟨m0, f0⟩ := x0
  simp only at h00 hG0 hO0
  rw [hO0.cells] at hG0
  have HG0 := Lib.hid hG0
  have HO0 := Lib.hid hO0
  rw [hN] at h1 h8 ⊢
  have hn1 : (0 : Int) < (n : Int) := by omega
  clear hrow hok HF HG hG0 hO0 hN
  go_enter Tryz.func43, Tryz.ntmps43
  go_wp2_with fail
  have HZ := Lib.hid (Blk.new w 33 zFt)
  have HB := Lib.hid ((Below.refl w.heap.size w).alloc (Nat.le_refl _) (.cells zFt 33))
  generalize (w.alloc (.cells zFt 33)) = w1 at *
  generalize hzb : w.heap.size = zb at *
  have HZB := Lib.hid hzb
  clear hzb
  refine (HG0.out _ HB.out).mono ?_
  rintro e w2 ⟨rfl, hb2⟩
  have HZ2 := Lib.hid (HZ.out.below hb2 HZ.out.lt)
  have HB2 := Lib.hid (HB.out.trans (hb2.mono (Nat.le_of_lt HZ.out.lt)))
  clear hb2 HZ HB
  have hmm := @run_makeMap Tryz.prog
  go_upto_region 3 with (fail)
  have hs2 := Nat.le_of_lt HZ2.out.lt
  have HS := Lib.hid (show TogS zb w2.heap.size (w2.heap.size + 1) f0.has f0.sums f0.prec f0.page f0.psize w ((w2.alloc (.cells (tC f0.has f0.sums f0.prec f0.page f0.psize) 33)).alloc (.map #[] 0)) from
    ⟨(HZ2.out.old _).old _, (Blk.new w2 _ _).old _, objAt (by simp), (HB2.out.alloc hs2 _).alloc (Nat.le_trans hs2 (by simp)) _, HO0.out.page1, HO0.out.page2, HZ2.out.lt, Nat.lt_succ_self _⟩)
  clear HZ2 HB2 hs2 hmm
  generalize ((w2.alloc (.cells (tC f0.has f0.sums f0.prec f0.page f0.psize) 33)).alloc (.map #[] 0)) = w3 at *
  generalize w2.heap.size + 1 = mb at *
  generalize w2.heap.size = ob at *
  clear HG0 HO0 h00
  go_wp2_with fail
  go_loopw [17] (fun x wr => ∃ (i : Nat) (h s p pg ps : Int), x = .int .i64 (i : Int) ∧ i ≤ n ∧ TogS zb ob mb h s p pg ps w wr) (fun x _ => n - (intOf x).toNat)
  case atStart => exact ⟨0, _, _, _, _, _, rfl, Nat.zero_le _, HS.out⟩
  case round =>
    clear HS
    obtain ⟨i, h, s, p, pg, ps, rfl, hi, hS⟩ := hrel
    have HS := Lib.hid hS
    clear hS
    by_cases hlt : i < n
    · have hd : decide ((i : Int) < (n : Int)) = true := decide_eq_true (by omega)
      have hil : i < fs.length := by rw [HN.out]; exact hlt
      have hg := List.getElem?_eq_getElem hil
      have hbw : Below zb w wr := HS.out.hb
      have hc := HR.out wr hbw i _ hg
      have hOi := HO.out _ (List.getElem_mem hil)
      have hFi := HFF.out _ (List.getElem_mem hil) wr hbw
      generalize fs[i] = x at *
      obtain ⟨m, f⟩ := x
      simp only at hc hOi hFi
      rw [hOi.cells] at hFi
      have HFI := Lib.hid hFi
      have HP1 := Lib.hid hOi.page1
      have HP2 := Lib.hid hOi.page2
      clear hg hbw hOi hFi hil
      generalize f.has = h2 at *
      generalize f.sums = s2 at *
      generalize f.prec = p2 at *
      generalize f.page = pg2 at *
      generalize f.psize = ps2 at *
      go_wp2_with fail
      refine HFI.out.mono ?_
      rintro e w5 ⟨rfl, hb5⟩
      have HS5 := Lib.hid (HS.out.below hb5)
      clear hb5 hc HS
      go_upto_region 7 with (fail)
      have HT7 := Lib.hid (Blk.new w5 33 (tC h2 s2 p2 pg2 ps2))
      have HS7 := Lib.hid (HS5.out.below ((Below.refl _ _).alloc (Nat.le_refl _) (.cells (tC h2 s2 p2 pg2 ps2) 33)))
      have hto : w5.heap.size ≠ ob := by have := HS5.out.ho.lt; omega
      clear HS5
      generalize (w5.alloc (.cells (tC h2 s2 p2 pg2 ps2) 33)) = w7 at *
      generalize w5.heap.size = tb at *
      have a0 : w7.cell? ⟨ob, 0, none⟩ = some (.int .i64 h) := HS7.out.ho.cell 0
      have a1 : w7.cell? ⟨ob, 1, none⟩ = some (.int .i64 s) := HS7.out.ho.cell 1
      have a2 : w7.cell? ⟨ob, 2, none⟩ = some (.int .i64 p) := HS7.out.ho.cell 2
      have g0 := HS7.out.ho.frozen 0
      have g1 := HS7.out.ho.frozen 1
      have g2 := HS7.out.ho.frozen 2
      have b0 : w7.cell? ⟨tb, 0, none⟩ = some (.int .i64 h2) := HT7.out.cell 0
      have b1 : w7.cell? ⟨tb, 1, none⟩ = some (.int .i64 s2) := HT7.out.cell 1
      have b2 : w7.cell? ⟨tb, 2, none⟩ = some (.int .i64 p2) := HT7.out.cell 2
      obtain ⟨h3, hh3⟩ : ∃ x, bits .and .i64 h h2 = x := ⟨_, rfl⟩
      obtain ⟨s3, hs3⟩ : ∃ x, bits .and .i64 s s2 = x := ⟨_, rfl⟩
      obtain ⟨p3, hp3⟩ : ∃ x, max p p2 = x := ⟨_, rfl⟩
      have hto2 : ob ≠ tb := fun e => hto e.symm
      go_upto_region 10 with (fail)
      have K3 := (((Kp.refl [ob] w7).setCell ⟨ob, 0, none⟩ (.int .i64 h3) (Or.inl (by simp))).setCell ⟨ob, 1, none⟩ (.int .i64 s3) (Or.inl (by simp))).setCell ⟨ob, 2, none⟩ (.int .i64 p3) (Or.inl (by simp))
      have HS8 := Lib.hid (HS7.out.set K3 (show Blk _ ob 33 (tC h3 s3 p3 pg ps) from ((HS7.out.ho.set 0 (.int .i64 h3)).set 1 (.int .i64 s3)).set 2 (.int .i64 p3)) HS7.out.p1 HS7.out.p2)
      have HT8 := Lib.hid (K3.blk HT7.out (by simpa using hto))
      clear K3 HS7 HT7 a0 a1 a2 g0 g1 g2 b0 b1 b2 hh3 hs3 hp3
      generalize (((w7.setCell ⟨ob, 0, none⟩ (.int .i64 h3)).setCell ⟨ob, 1, none⟩ (.int .i64 s3)).setCell ⟨ob, 2, none⟩ (.int .i64 p3)) = w8 at *
      have a3 : w8.cell? ⟨ob, 3, none⟩ = some (.int .i64 255) := HS8.out.ho.cell 3
      have a4 : w8.cell? ⟨ob, 4, none⟩ = some (.int .i64 1024) := HS8.out.ho.cell 4
      have g3 := HS8.out.ho.frozen 3
      have g4 := HS8.out.ho.frozen 4
      have b3 : w8.cell? ⟨tb, 3, none⟩ = some (.int .i64 255) := HT8.out.cell 3
      have b4 : w8.cell? ⟨tb, 4, none⟩ = some (.int .i64 1024) := HT8.out.cell 4
      go_cut [] from 41 to 52 (fun wx => TogS zb ob mb h3 s3 p3 pg ps w wx ∧ Blk wx tb 33 (tC h2 s2 p2 pg2 ps2))
      case first =>
        go_big_region
        all_goals
          go_wp2_with fail
          go_meet
          have K4 := (((Kp.refl [ob] w8).setCell ⟨ob, 3, none⟩ (.int .i64 255) (Or.inl (by simp))).setCell ⟨ob, 4, none⟩ (.int .i64 1024) (Or.inl (by simp))).drew
          exact ⟨HS8.out.set K4 ((HS8.out.ho.set 3 (.int .i64 255)).set 4 (.int .i64 1024)).drw HS8.out.p1 HS8.out.p2, K4.blk HT8.out (by simpa using hto)⟩
      case rest =>
        obtain ⟨hs9, ht9⟩ := hcut
        have HS9 := Lib.hid hs9
        have HT9 := Lib.hid ht9
        clear HS8 HT8 a3 a4 g3 g4 b3 b4 hs9 ht9
        have a5 : wc.cell? ⟨ob, 5, none⟩ = some (.int .i64 100000) := HS9.out.ho.cell 5
        have a6 : wc.cell? ⟨ob, 6, none⟩ = some (.int .i64 pg) := HS9.out.ho.cell 6
        have g5 := HS9.out.ho.frozen 5
        have g6 := HS9.out.ho.frozen 6
        have b5 : wc.cell? ⟨tb, 5, none⟩ = some (.int .i64 100000) := HT9.out.cell 5
        have b6 : wc.cell? ⟨tb, 6, none⟩ = some (.int .i64 pg2) := HT9.out.cell 6
        obtain ⟨pg3, hpg3⟩ : ∃ x, min pg pg2 = x := ⟨_, rfl⟩
        have hpg3a : 1 ≤ pg3 := by have := HS9.out.p1; have := HP1.out; omega
        have hpg3b : pg3 ≤ 4 := by have := HS9.out.p2; omega
        generalize wc = w9 at *
        go_upto_region 11 with (fail)
        go_cut [] from 53 to 64 (fun wx => TogS zb ob mb h3 s3 p3 pg3 ps w wx ∧ Blk wx tb 33 (tC h2 s2 p2 pg2 ps2))
        case first =>
          go_big_region
          all_goals
            go_wp2_with fail
            go_meet
            have K5 := (((Kp.refl [ob] w9).setCell ⟨ob, 5, none⟩ (.int .i64 100000) (Or.inl (by simp))).setCell ⟨ob, 6, none⟩ (.int .i64 pg3) (Or.inl (by simp))).drew
            exact ⟨HS9.out.set K5 ((HS9.out.ho.set 5 (.int .i64 100000)).set 6 (.int .i64 pg3)).drw hpg3a hpg3b, K5.blk HT9.out (by simpa using hto)⟩
        case rest =>
          obtain ⟨hs10, ht10⟩ := hcut
          have HS10 := Lib.hid hs10
          have b8 : wc.cell? ⟨tb, 8, none⟩ = some (.string ⟨#[]⟩) := ht10.cell 8
          clear HS9 HT9 a5 a6 g5 g6 b5 b6 hs10 ht10 hpg3 hpg3a hpg3b
          go_wp2_with fail
          go_rounds 1
          go_wp2_with fail
          go_roundw
          case rel => exact ⟨i + 1, _, _, _, _, _, by go_num, by omega, HS10.out⟩
          case measure => simp [intOf]; omega
    · have hd : decide ((i : Int) < (n : Int)) = false := decide_eq_false (by omega)
      have c8 : wr.cell? ⟨ob, 8, none⟩ = some (.string ⟨#[]⟩) := HS.out.ho.cell 8
      have f8 := HS.out.ho.frozen 8
      go_upto_region 19 with (fail)
      have HS8 := Lib.hid (HS.out.set ((Kp.refl [ob] wr).setCell ⟨ob, 8, none⟩ (.string ⟨#[]⟩) (Or.inl (by simp))) (show Blk _ ob 33 (tC h s p pg ps) from HS.out.ho.set 8 (.string ⟨#[]⟩)) HS.out.p1 HS.out.p2)
      clear HS c8 f8
      generalize wr.setCell ⟨ob, 8, none⟩ (.string ⟨#[]⟩) = w8 at *
      have hlk := fun (c : Int) => look_byte mb c w8 HS8.out.hm
      go_wp2_with fail
      go_loopw [79] (fun x wr => ∃ c : Nat, x = .int .i64 (c : Int) ∧ c ≤ 256 ∧ wr = w8) (fun x _ => 256 - (intOf x).toNat)
      case atStart => exact ⟨0, rfl, Nat.zero_le _, rfl⟩
      case round =>
        obtain ⟨c, rfl, hc, rfl⟩ := hrel
        by_cases hlt2 : c < 256
        · have hd2 : decide ((c : Int) < 256) = true := decide_eq_true (by omega)
          go_wp2_with fail
          go_roundw
          case rel => exact ⟨c + 1, by go_num, by omega, by trivial⟩
          case measure => simp [intOf]; omega
        · have hd2 : decide ((c : Int) < 256) = false := decide_eq_false (by omega)
          clear hlk
          have c0 := HS8.out.ho.cell 0
          have f0' := HS8.out.ho.frozen 0
          have f7 := HS8.out.ho.frozen 7
          have c7 := HS8.out.ho.cell 7
          simp at c0 c7
          obtain ⟨hx, hhx⟩ : ∃ x, bits .andNot .i64 h 512 = x := ⟨_, rfl⟩
          go_upto_region 27 with (fail)
          have KX := ((Kp.refl [ob] wr).setCell ⟨ob, 0, none⟩ (.int .i64 hx) (Or.inl (by simp))).setCell ⟨ob, 7, none⟩ (.int .i64 1) (Or.inl (by simp))
          have HS9 := Lib.hid (HS8.out.set KX (show Blk _ ob 33 (tC hx s p pg 1) from (HS8.out.ho.set 0 (.int .i64 hx)).set 7 (.int .i64 1)) HS8.out.p1 HS8.out.p2)
          clear KX c0 c7 f0' f7 HS8
          generalize ((wr.setCell ⟨ob, 0, none⟩ (.int .i64 hx)).setCell ⟨ob, 7, none⟩ (.int .i64 1)) = w9 at *
          go_wp2_with (first | (refine wpList_load_row rfl 33 _ rfl ob rfl 33 (tC hx s p pg 1) (0, 0) _ HS9.out.ho Tryz.underlying33 rfl infoFt ?_) | (refine wpList_store_row rfl 33 _ _ rfl zb (tC hx s p pg 1) rfl rfl 33 _ HS9.out.hz infoFt rfl (by simp [Value.oneCell']) ?_))
          (try simp only [Exit.inBlock, Exit.then])
          refine bodyPost_ret (v := .agg (tC hx s p pg 1)) (results_cell_row (p := 2) Tryz.results43 _ _ zb 33 _ (0, 0) _ rfl (setRow_heap _ _ _ _ _ _ HS9.out.hz) Tryz.underlying33 rfl infoFt) rfl ?_
          refine ⟨hx, s, p, pg, rfl, HS9.out.p1, HS9.out.p2, ?_⟩
          rw [HZB.out]
          exact below_setRow HS9.out.hb (Nat.le_refl _)
end Go.Proofs.YtpjnjhklkgefcaaGreatDoor

/-
  Stores side by side: rows of members, and their copies.
-/
set_option linter.unusedVariables false
set_option linter.unusedSimpArgs false
namespace Go.Proofs.YtpjnjhklkgefcaaGreatDoor
open Go.RowKit Go.Shelf
/-- the cells of members. -/
def memF : List (ByteArray × Nat) → List Value
  | [] => []
  | x :: l => .string x.1 :: stV x.2 :: memF l
theorem memF_len : ∀ l, (memF l).length = l.length * 2
  | [] => rfl
  | x :: l => by simp [memF, memF_len l]; omega
theorem memF_at : ∀ (l : List (ByteArray × Nat)) (j : Nat) u, (memF l)[j]? = some u → ∃ x, l[j / 2]? = some x ∧ u = (if j % 2 = 0 then .string x.1 else stV x.2)
  | [], j, u, h => by simp [memF] at h
  | x :: l, 0, u, h => by
    simp [memF] at h
    exact ⟨x, rfl, h.symm⟩
  | x :: l, 1, u, h => by
    simp [memF] at h
    exact ⟨x, rfl, h.symm⟩
  | x :: l, j + 2, u, h => by
    have h' : (memF l)[j]? = some u := by simpa [memF] using h
    obtain ⟨y, hy, hu⟩ := memF_at l j u h'
    refine ⟨y, ?_, ?_⟩
    · rw [show (j + 2) / 2 = j / 2 + 1 by omega, List.getElem?_cons_succ]
      exact hy
    · rw [show (j + 2) % 2 = j % 2 by omega]
      exact hu
theorem memF_app : ∀ l m, memF (l ++ m) = memF l ++ memF m
  | [], _ => rfl
  | x :: l, m => by simp [memF, memF_app l m]
theorem memF_get : ∀ (l : List (ByteArray × Nat)) (i : Nat) x, l[i]? = some x → (memF l)[i * 2]? = some (.string x.1) ∧ (memF l)[i * 2 + 1]? = some (stV x.2)
  | [], i, x, h => by simp at h
  | y :: l, 0, x, h => by
    obtain rfl : y = x := by simpa using h
    exact ⟨rfl, rfl⟩
  | y :: l, i + 1, x, h => by
    have h' : l[i]? = some x := by simpa using h
    obtain ⟨h1, h2⟩ := memF_get l i x h'
    refine ⟨?_, ?_⟩
    · rw [show (i + 1) * 2 = i * 2 + 2 by omega]
      simpa [memF] using h1
    · rw [show (i + 1) * 2 + 1 = i * 2 + 1 + 2 by omega]
      simpa [memF] using h2
theorem memF_one (l : List (ByteArray × Nat)) : ∀ u ∈ memF l, u.oneCell' = true := by
  induction l with
  | nil => intro u h; cases h
  | cons x l ih =>
    intro u h
    simp only [memF, List.mem_cons] at h
    rcases h with rfl | rfl | h
    · rfl
    · rfl
    · exact ih u h
theorem infoMember : (Tryz.prog.info? 41).map (fun i => (i.zero, i.size, i.bytes)) = some (some (.agg #[.string ⟨#[]⟩, .nilIface]), 2, 32) := by kernel_rfl
/-- an owned row of members is a row of members. -/
theorem mrow_of_own {w : World} {base cap n : Nat} {v : Value} {ms : List (ByteArray × Nat)} (h : w.ownsRow base 41 2 v n (memF ms)) (hn : n = ms.length) : ∃ a c, v = .slice a ms.length c ∧ MRow a ms w ∧ (∀ g, a = some g → base ≤ g.block) := by
  subst hn
  have hh := h
  obtain ⟨hl, hv⟩ := h
  rcases hv with ⟨rfl, h0⟩ | ⟨g, c, cur, rfl, hgb, hgg, _⟩
  · obtain rfl : ms = [] := List.eq_nil_of_length_eq_zero h0
    exact ⟨none, 0, rfl, Or.inl rfl, fun g h => by cases h⟩
  · have hcell := hh.cells (g := g) rfl
    have hlt : g < w.heap.size := (Array.getElem?_eq_some_iff.1 hgg).1
    refine ⟨some ⟨g, 0, none⟩, c, rfl, Or.inr ⟨g, rfl, hlt, fun i x hx => ?_⟩, fun g' h => by cases h; exact hgb⟩
    obtain ⟨h1, h2⟩ := memF_get ms i x hx
    have e : ∀ j, (⟨g, 0, none⟩ : Addr).add j = ⟨g, j, none⟩ := fun j => by unfold Addr.add; split <;> simp_all
    exact ⟨by have := hcell _ _ h1; rwa [e] at this, by have := hcell _ _ h2; rwa [e] at this⟩
def cloneM_ren : Go.Shelf.Ren := ⟨fun | 41 => 44 | n => n, fun | 22 => 25 | 23 => 41 | 4 => 4 | n => n, fun | n => n⟩
theorem laysCloneM : Go.Proofs.SlLaysE0.n41 Tryz.prog cloneM_ren := {
  mixed := by kernel_rfl
  f41 := ⟨Tryz.f44.name, by decide, Tryz.func44.trans (congrArg some (by kernel_rfl))⟩
  t4 := Tryz.underlying4
  a4 := Tryz.isAgg4
  z4 := Tryz.sizeOf4
  v4 := Tryz.zeroValue4
  t22 := Tryz.underlying25
  a22 := Tryz.isAgg25
  z22 := Tryz.sizeOf25
  v22 := Tryz.zeroValue25 }
theorem cloneMem_ok (g cap : Nat) (ms : List (ByteArray × Nat)) (w : World) (hr : ∀ (i : Nat) x, ms[i]? = some x → w.cell? ⟨g, i * 2, none⟩ = some (.string x.1) ∧ w.cell? ⟨g, i * 2 + 1, none⟩ = some (stV x.2)) (hn : ms.length ≤ 1000) :
    Calls Tryz.prog 44 #[.slice (some ⟨g, 0, none⟩) ms.length cap] w fun e w' => ∃ a c, e = .returned (.slice a ms.length c) ∧ MRow a ms w' ∧ (∀ g', a = some g' → w.heap.size ≤ g'.block) ∧ Below w.heap.size w w' := by
  obtain ⟨i0, hi, hz0, hz1, hz2⟩ := info_parts infoMember
  refine (AnyE.slices_Clone laysCloneM i0 _ 2 32 hi hz0 hz1 hz2 rfl (by decide) (fun w => Tryz.sizeOf41 w) g 0 ms.length cap (memF ms) w (memF_len ms) (by simp only [maxLen]; omega) (by omega) (fun j u hj => ?_) (memF_one ms)).mono ?_
  · obtain ⟨x, hx, rfl⟩ := memF_at ms j u hj
    obtain ⟨h1, h2⟩ := hr _ _ hx
    rw [Nat.zero_add]
    by_cases e : j % 2 = 0
    · rw [if_pos e]
      rw [show j / 2 * 2 = j by omega] at h1
      exact h1
    · rw [if_neg e]
      rw [show j / 2 * 2 + 1 = j by omega] at h2
      exact h2
  · rintro e w' ⟨v', rfl, hown, _, hb⟩
    obtain ⟨a, c, rfl, hm, hg⟩ := mrow_of_own (cap := cap) hown rfl
    exact ⟨a, c, rfl, hm, hg, hb⟩
end Go.Proofs.YtpjnjhklkgefcaaGreatDoor
