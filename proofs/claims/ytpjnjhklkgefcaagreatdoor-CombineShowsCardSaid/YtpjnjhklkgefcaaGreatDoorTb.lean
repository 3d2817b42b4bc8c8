/-
  Stores side by side: the member of a path; what is told of a file.
-/
import Derived.Test.YtpjnjhklkgefcaaGreatDoorZx
import Derived.Test.YtpjnjhklkgefcaaGreatDoorXi
import Derived.Test.YtpjnjhklkgefcaaGreatDoorXo
set_option linter.unusedVariables false
set_option linter.unusedSimpArgs false
namespace Go.Proofs.YtpjnjhklkgefcaaGreatDoor
open Go.RowKit
theorem results_cell_two {P : Program} {fn : Func} {p u v : Tmp} {ty : TypeId} (h : fn.results = #[.cell p ty, .tmp u, .tmp v]) (tmps : Array Value) (w : World) (g : Nat) (t : TypeId) (cs : Array Value) (fr : Nat × Nat) (d : TypeDesc)
    (hp : tmps.getD p undef = .pointer (some ⟨g, 0, none⟩)) (hg : w.heap[g]? = some (.cells cs t fr))
    (hu : P.underlying ty = some d) (hd : (match d with | .struct _ | .array _ _ => true | _ => false) = true) (hi : (P.info? ty).map (·.size) = some cs.size) :
    (results fn tmps).run P w = .ok (.tuple #[.agg cs, tmps.getD u undef, tmps.getD v undef]) w := by
  have hp' : tmps[p]?.getD undef = .pointer (some ⟨g, 0, none⟩) := by simpa using hp
  simp [results, h, hp', asAddr, run_loadVar_row w g t ty cs fr d hg hu hd hi]
theorem infoM2 : (Tryz.prog.info? 41).map (·.size) = some 2 := by kernel_rfl
theorem cutC : ∀ j, j < 8 → badJ j = false → Lib.cut (pathC j).data.toList [47] = ((nmC j).data.toList, [102], true) :=
  all8 (fun _ => by decide) (fun _ => by decide) (fun _ => by decide) (fun _ => by decide) (fun _ => by decide) (fun h => by cases h) (fun h => by cases h) (fun _ => by decide)
theorem nmC_eqL : ∀ i, i < 8 → ∀ j, j < 8 → ((nmC i).data.toList == (nmC j).data.toList) = (i == j) :=
  all8 (all8 (by decide) (by decide) (by decide) (by decide) (by decide) (by decide) (by decide) (by decide)) (all8 (by decide) (by decide) (by decide) (by decide) (by decide) (by decide) (by decide) (by decide))
    (all8 (by decide) (by decide) (by decide) (by decide) (by decide) (by decide) (by decide) (by decide)) (all8 (by decide) (by decide) (by decide) (by decide) (by decide) (by decide) (by decide) (by decide))
    (all8 (by decide) (by decide) (by decide) (by decide) (by decide) (by decide) (by decide) (by decide)) (all8 (by decide) (by decide) (by decide) (by decide) (by decide) (by decide) (by decide) (by decide))
    (all8 (by decide) (by decide) (by decide) (by decide) (by decide) (by decide) (by decide) (by decide)) (all8 (by decide) (by decide) (by decide) (by decide) (by decide) (by decide) (by decide) (by decide))
theorem nmC_eq (i j : Nat) (hi : i < 8) (hj : j < 8) : ((nmC i).toList == (nmC j).toList) = (i == j) := by
  rw [Lib.toList_data, Lib.toList_data, nmC_eqL i hi j hj]
/-- a combined store, its members as they are: js their names, rs the stores. -/
structure CbOK (cb : Nat) (js : List Nat) (rs : List MR) (w : World) : Prop where
  blk : ∃ ra rc h s p, ∃ pg : Nat, Blk w cb 115 (tC h s p ((pg : Int) + 1) 1 ++ #[.slice ra js.length rc]) ∧ MRow ra (msOf js rs) w ∧ pg ≤ 3 ∧ ∀ g', ra = some g' → g'.block < w.heap.size ∧ ∀ r ∈ rs, g'.block ∉ r.foot
  len : js.length = rs.length
  lt8 : ∀ j ∈ js, j < 8
  good : ∀ j ∈ js, badJ j = false
  dif : js.Pairwise (· ≠ ·)
  le8 : js.length ≤ 8
theorem CbOK.below {cb : Nat} {js : List Nat} {rs : List MR} {w w' : World} (h : CbOK cb js rs w) (k : Below w.heap.size w w') : CbOK cb js rs w' := by
  obtain ⟨ra, rc, hh, s, p, pg, h1, h2, h3, h4⟩ := h.blk
  exact ⟨⟨ra, rc, hh, s, p, pg, h1.below k h1.lt, h2.below k, h3, fun g' hg' => ⟨Nat.lt_of_lt_of_le (h4 g' hg').1 k.size, (h4 g' hg').2⟩⟩, h.len, h.lt8, h.good, h.dif, h.le8⟩
theorem map_set_same {rs : List MR} {i : Nat} {r r' : MR} (hi : rs[i]? = some r) (e : r'.q.m = r.q.m) : rs.map (fun r => r.q.m) = (rs.set i r').map (fun r => r.q.m) := by
  apply List.ext_getElem?
  intro k
  rw [List.getElem?_map, List.getElem?_map]
  by_cases hk : k = i
  · subst hk
    have hlt := (List.getElem?_eq_some_iff.1 hi).1
    rw [List.getElem?_set_self hlt, hi]
    simp [e]
  · rw [List.getElem?_set_ne (fun e' => hk e'.symm)]
/-- a member's store has been written. -/
theorem CbOK.put {cb : Nat} {js : List Nat} {rs : List MR} {i : Nat} {r r' : MR} {w w' : World} (h : CbOK cb js rs w) (hm : MOK w r) (hi : rs[i]? = some r) (k : Kp r.foot w w') (hr' : r'.q.m = r.q.m) (hf : ∀ x ∈ r'.foot, x ∈ r.foot ∨ w.heap.size ≤ x) : CbOK cb js (rs.set i r') w' := by
  obtain ⟨ra, rc, hh, s, p, pg, h1, h2, h3, h4⟩ := h.blk
  refine ⟨⟨ra, rc, hh, s, p, pg, k.blk h1 (hm.off h1 (by decide) (by decide) (by decide)), ?_, h3, fun g' hg' => ⟨Nat.lt_of_lt_of_le (h4 g' hg').1 k.size, fun x hx hb => ?_⟩⟩, by rw [List.length_set]; exact h.len, h.lt8, h.good, h.dif, h.le8⟩
  · rw [← msOf_same (map_set_same hi hr')]
    rcases h2 with h2 | ⟨g, rfl, hg, hc⟩
    · exact Or.inl h2
    · have hn : g ∉ r.foot := (h4 ⟨g, 0, none⟩ rfl).2 r (List.mem_of_getElem? hi)
      have e : ∀ x v, w.cell? ⟨g, x, none⟩ = some v → w'.cell? ⟨g, x, none⟩ = some v := fun x v hx => by
        unfold World.cell? at hx ⊢
        rw [show w'.heap[g]? = w.heap[g]? from k.block g hg hn]
        exact hx
      exact Or.inr ⟨g, rfl, Nat.lt_of_lt_of_le hg k.size, fun i x hx => ⟨e _ _ (hc i x hx).1, e _ _ (hc i x hx).2⟩⟩
  · rcases List.mem_or_eq_of_mem_set hx with hx | rfl
    · exact (h4 g' hg').2 x hx hb
    · rcases hf _ hb with h5 | h5
      · exact (h4 g' hg').2 r (List.mem_of_getElem? hi) h5
      · have := (h4 g' hg').1
        omega
set_option maxRecDepth 100000 in
set_option maxHeartbeats 4000000 in
theorem member_ok (cb : Nat) (js : List Nat) (rs : List MR) (i j : Nat) (r : MR) (w : World) (g : Gl w) (hc : CbOK cb js rs w) (hj : js[i]? = some j) (hr : rs[i]? = some r) :
    Calls Tryz.prog 257 #[pt cb, .string (pathC j)] w fun e w' => e = .returned (.tuple #[.agg #[.string (nmC j), stV r.q.m], .string ⟨#[102]⟩, .int .i64 0]) ∧ Below w.heap.size w w' := by
  obtain ⟨n, hN⟩ : ∃ n, js.length = n := ⟨_, rfl⟩
  obtain ⟨ra, rc, hh, s, p, pg, h1, h2, h3⟩ := hc.blk
  have hj8 : j < 8 := hc.lt8 j (List.mem_of_getElem? hj)
  have hjb : badJ j = false := hc.good j (List.mem_of_getElem? hj)
  have hin : i < n := by rw [← hN]; exact (List.getElem?_eq_some_iff.1 hj).1
  have hn8 : n ≤ 8 := by rw [← hN]; exact hc.le8
  have hgm := msOf_get hj hr
  have HEQ := Lib.hid (show ∀ (k : Nat) x, k ≤ i → (msOf js rs)[k]? = some x → (x.1.toList == (nmC j).toList) = (k == i) from by
    intro k x hk hx
    have hkn : k < js.length := by rw [hN]; omega
    have hjk : js[k]? = some js[k] := List.getElem?_eq_getElem hkn
    have hrk : rs[k]? = some (rs[k]'(by rw [← hc.len]; exact hkn)) := List.getElem?_eq_getElem (by rw [← hc.len]; exact hkn)
    have hm := msOf_get hjk hrk
    rw [hx] at hm
    injection hm with hm
    rw [hm]
    show ((nmC js[k]).toList == (nmC j).toList) = _
    rw [nmC_eq _ _ (hc.lt8 _ (List.getElem_mem hkn)) hj8]
    by_cases e : k = i
    · subst e
      rw [hjk] at hj
      injection hj with hj
      rw [hj]; simp
    · have hlt : k < i := by omega
      have hne := List.pairwise_iff_getElem.1 hc.dif k i hkn (by rw [hN]; exact hin) hlt
      have hij : js[i]'(by rw [hN]; exact hin) = j := (List.getElem?_eq_some_iff.1 hj).2
      rw [hij] at hne
      rw [beq_eq_false_iff_ne.2 hne, beq_eq_false_iff_ne.2 e])
  have HML := Lib.hid (show (msOf js rs).length = n from by rw [msOf_len hc.len, hN])
  have HGM := Lib.hid hgm
  have CCUT := Lib.hid (show ∀ wx : World, Below w.heap.size w wx → Calls Tryz.prog 263 #[.string (pathC j), .string ⟨#[47]⟩] wx fun e w' => e = .returned (.tuple #[.string (nmC j), .string ⟨#[102]⟩, .bool true]) ∧ Below wx.heap.size wx w' from by
    intro wx hb
    obtain ⟨mx, hmx⟩ := (g.below hb).max
    have h := Tryz.strings_Cut (pathC j) ⟨#[47]⟩ mx wx (by have := pathC_size j hj8; omega) hmx
    rw [show (⟨#[47]⟩ : ByteArray).data.toList = [47] from rfl, cutC j hj8 hjb] at h
    refine h.mono ?_
    rintro e w' ⟨rfl, q, rfl⟩
    exact ⟨rfl, below_drwN (Below.refl _ _) _⟩)
  have HBK := Lib.hid h1
  have HMR := Lib.hid (fun (wx : World) (hb : Below w.heap.size w wx) => h2.below hb)
  rw [hN] at HBK
  clear g hc hj hr hgm hN h1 h2
  generalize pathC j = pj at *
  generalize nmC j = nj at *
  generalize r.q.m = m at *
  go_enter Tryz.func257, Tryz.ntmps257
  go_wp2_with fail
  have HRB := Lib.hid (Blk.new w 41 #[.string ⟨#[]⟩, .nilIface])
  have HB1 := Lib.hid ((Below.refl w.heap.size w).alloc (Nat.le_refl _) (.cells #[.string ⟨#[]⟩, .nilIface] 41))
  generalize (w.alloc (.cells #[.string ⟨#[]⟩, .nilIface] 41)) = w1 at *
  generalize hrb : w.heap.size = rb at *
  have HRBE := Lib.hid hrb
  clear hrb
  refine (CCUT.out w1 HB1.out).mono ?_
  rintro e w2 ⟨rfl, hb2⟩
  have HB2 := Lib.hid (HB1.out.trans (hb2.mono (Nat.le_of_lt HRB.out.lt)))
  have HR2 := Lib.hid (HRB.out.below hb2 HRB.out.lt)
  have hbk2 := (HBK.out.below (HRBE.out ▸ HB2.out) HBK.out.lt)
  have x9 : w2.cell? ⟨cb, 9, none⟩ = some (.slice ra n rc) := hbk2.cell 9
  clear hb2 HB1 HRB CCUT hbk2
  go_wp2_with fail
  go_loopw [23] (fun x wr => ∃ k : Nat, x = .int .i64 (k : Int) ∧ k ≤ i ∧ Below w2.heap.size w2 wr) (fun x _ => n - (intOf x).toNat)
  case atStart => exact ⟨0, rfl, Nat.zero_le _, Below.refl _ _⟩
  case round =>
    obtain ⟨k, rfl, hki, hb⟩ := hrel
    have HB := Lib.hid hb
    clear hb
    have hd : decide ((k : Int) < (n : Int)) = true := decide_eq_true (by omega)
    have hwr : Below rb w wr := HB2.out.trans (HB.out.mono (Nat.le_of_lt (Nat.lt_of_lt_of_le (Nat.lt_of_le_of_lt (Nat.le_refl _) HR2.out.lt) (Nat.le_refl _))))
    rcases HMR.out wr hwr with hnil | ⟨gb, rfl, hgl, hcell⟩
    · have h5 := HML.out
      rw [hnil] at h5
      simp at h5
      omega
    · obtain ⟨x, hx⟩ : ∃ x, (msOf js rs)[k]? = some x := ⟨_, List.getElem?_eq_getElem (by rw [HML.out]; omega)⟩
      obtain ⟨c1, c2⟩ := hcell k x hx
      have heq := HEQ.out k x hki hx
      have HX := Lib.hid hx
      have HWR := Lib.hid hwr
      clear hcell hx hwr
      obtain ⟨nx, mx⟩ := x
      simp only at c1 c2 heq
      have HR3 := Lib.hid (HR2.out.below HB.out HR2.out.lt)
      go_upto_region 5 with (fail)
      have HXB := Lib.hid (Blk.new wr 41 #[.string nx, stV mx])
      have HB3 := Lib.hid (HB.out.alloc HB.out.size (.cells #[.string nx, stV mx] 41))
      have HW3 := Lib.hid (HWR.out.alloc (by rw [← HRBE.out]; exact HWR.out.size) (.cells #[.string nx, stV mx] 41))
      have HR4 := Lib.hid (HR3.out.below ((Below.refl _ _).alloc (Nat.le_refl _) (.cells #[.string nx, stV mx] 41)) HR3.out.lt)
      clear c1 c2 HR3
      generalize (wr.alloc (.cells #[.string nx, stV mx] 41)) = w3 at *
      generalize wr.heap.size = xb at *
      have x0 : w3.cell? ⟨xb, 0, none⟩ = some (.string nx) := HXB.out.cell 0
      by_cases hk : k = i
      · subst hk
        have e1 := HX.out.symm.trans HGM.out
        injection e1 with e1
        injection e1 with e1 e2
        subst e1 e2
        have x1 : w3.cell? ⟨xb, 1, none⟩ = some (stV mx) := HXB.out.cell 1
        have t0 := HR4.out.cell 0
        have t1 := HR4.out.cell 1
        simp at t0 t1
        have q0 := HR4.out.frozen 0
        have q1 := HR4.out.frozen 1
        have heq2 : (nx.toList == nx.toList) = true := by simp
        clear heq
        go_wp2_with fail
        have hb5 := ((HR4.out.set 0 (.string nx)).set 1 (stV mx))
        (try simp only [Exit.inBlock, Exit.then])
        refine bodyPost_ret (v := .tuple #[.agg #[.string nx, stV mx], .string ⟨#[102]⟩, .int .i64 0]) (results_cell_two (p := 4) (u := 5) (v := 6) Tryz.results257 _ _ rb 41 _ (0, 0) _ rfl hb5 Tryz.underlying41 rfl infoM2) rfl ⟨rfl, ?_⟩
        rw [HRBE.out]
        exact (HW3.out.setCell (p := ⟨rb, 0, none⟩) (Nat.le_refl _) _).setCell (p := ⟨rb, 1, none⟩) (Nat.le_refl _) _
      · rw [beq_eq_false_iff_ne.2 hk] at heq
        go_wp2_with fail
        go_roundw
        case rel => exact ⟨k + 1, by go_num, by omega, HB3.out⟩
        case measure => simp [intOf]; omega
/-- what is told of a file of a member. -/
theorem trimC : ∀ j, j < 8 → Lib.trimSuffix (pathC j).data.toList [47] = (pathC j).data.toList :=
  all8 (by decide) (by decide) (by decide) (by decide) (by decide) (by decide) (by decide) (by decide)
theorem pathC_add (j : Nat) : nmC j ++ ⟨#[47]⟩ ++ ⟨#[102]⟩ = pathC j := by
  unfold pathC
  rw [ByteArray.append_assoc]
  rfl
set_option maxRecDepth 100000 in
set_option maxHeartbeats 4000000 in
theorem memTold_ok (j : Nat) (hj : j < 8) (m : Nat) (sz tm : Int) (sp : Option Addr) (sn sc : Nat) (id : ByteArray) (w : World) :
    Calls Tryz.prog 239 #[.agg #[.string (nmC j), stV m], .agg #[.string ⟨#[102]⟩, .bool false, .int .i64 sz, .int .i64 tm, (.slice sp sn sc), (.slice none 0 0), .string id], .int .i64 0] w fun e w' => e = .returned (.tuple #[.agg #[.string (pathC j), .bool false, .int .i64 sz, .int .i64 tm, (.slice sp sn sc), (.slice none 0 0), .string id], .int .i64 0]) ∧ Below w.heap.size w w' := by
  have hz := nmC_size j hj
  have hp := pathC_size j hj
  have hadd := pathC_add j
  have CTR := Lib.hid (show ∀ wx : World, Calls Tryz.prog 258 #[.string (nmC j ++ ⟨#[47]⟩ ++ ⟨#[102]⟩), .string ⟨#[47]⟩] wx fun e w' => e = .returned (.string (pathC j)) ∧ w' = wx from by
    intro wx
    rw [hadd]
    have h := Tryz.strings_TrimSuffix (pathC j) ⟨#[47]⟩ wx (by omega)
    rw [show (⟨#[47]⟩ : ByteArray).data.toList = [47] from rfl, trimC j hj] at h
    exact h)
  clear hadd hp
  generalize pathC j = pj at *
  generalize nmC j = nj at *
  have hz1 : nj.size + 1 ≤ 9223372036854775807 := by omega
  have hz2 : (nj ++ ⟨#[47]⟩ : ByteArray).size + 1 ≤ 9223372036854775807 := by rw [ByteArray.size_append]; show nj.size + 1 + 1 ≤ _; omega
  go_enter Tryz.func239, Tryz.ntmps239
  go_upto_region 1 with (fail)
  have HB := Lib.hid ((((Below.refl w.heap.size w).alloc (Nat.le_refl _) (.cells #[.string nj, stV m] 41)).alloc (by simp) (.cells #[.string ⟨#[102]⟩, .bool false, .int .i64 sz, .int .i64 tm, (.slice sp sn sc), (.slice none 0 0), .string id] 53)).alloc (by simp; omega) (.cells #[.string ⟨#[]⟩, .bool false, .int .i64 0, .int .i64 0, .slice none 0 0, .slice none 0 0, .string ⟨#[]⟩] 53))
  have H0 := Lib.hid (((Blk.new w 41 #[.string nj, stV m]).old (.cells #[.string ⟨#[102]⟩, .bool false, .int .i64 sz, .int .i64 tm, (.slice sp sn sc), (.slice none 0 0), .string id] 53)).old (.cells #[.string ⟨#[]⟩, .bool false, .int .i64 0, .int .i64 0, .slice none 0 0, .slice none 0 0, .string ⟨#[]⟩] 53))
  have H1 := Lib.hid ((Blk.newAt (w := w.alloc (.cells #[.string nj, stV m] 41)) (t := 53) (cs := #[.string ⟨#[102]⟩, .bool false, .int .i64 sz, .int .i64 tm, (.slice sp sn sc), (.slice none 0 0), .string id]) (show w.heap.size + 1 = _ from by simp)).old (.cells #[.string ⟨#[]⟩, .bool false, .int .i64 0, .int .i64 0, .slice none 0 0, .slice none 0 0, .string ⟨#[]⟩] 53))
  have H2 := Lib.hid (Blk.newAt (w := (w.alloc (.cells #[.string nj, stV m] 41)).alloc (.cells #[.string ⟨#[102]⟩, .bool false, .int .i64 sz, .int .i64 tm, (.slice sp sn sc), (.slice none 0 0), .string id] 53)) (t := 53) (cs := #[.string ⟨#[]⟩, .bool false, .int .i64 0, .int .i64 0, .slice none 0 0, .slice none 0 0, .string ⟨#[]⟩]) (show w.heap.size + 1 + 1 = _ from by simp))
  generalize (((w.alloc (.cells #[.string nj, stV m] 41)).alloc (.cells #[.string ⟨#[102]⟩, .bool false, .int .i64 sz, .int .i64 tm, (.slice sp sn sc), (.slice none 0 0), .string id] 53)).alloc (.cells #[.string ⟨#[]⟩, .bool false, .int .i64 0, .int .i64 0, .slice none 0 0, .slice none 0 0, .string ⟨#[]⟩] 53)) = w1 at *
  obtain ⟨b1, hb1⟩ : ∃ b, w.heap.size + 1 = b := ⟨_, rfl⟩
  obtain ⟨b2, hb2⟩ : ∃ b, b1 + 1 = b := ⟨_, rfl⟩
  rw [hb1] at H1 H2 ⊢
  rw [hb2] at H2 ⊢
  have hlo1 : w.heap.size ≤ b1 := by omega
  have hlo2 : w.heap.size ≤ b2 := by omega
  have hne : b2 ≠ b1 := by omega
  obtain ⟨b0, hb0⟩ : ∃ b, w.heap.size = b := ⟨_, rfl⟩
  rw [hb0] at H0 HB hlo1 hlo2 ⊢
  have HB0 := Lib.hid hb0
  clear hb0 hb1 hb2
  have x0 : w1.cell? ⟨b0, 0, none⟩ = some (.string nj) := H0.out.cell 0
  have y0 : w1.cell? ⟨b1, 0, none⟩ = some (.string ⟨#[102]⟩) := H1.out.cell 0
  have f0 := H1.out.frozen 0
  go_wp2_with fail
  refine (CTR.out _).mono ?_
  rintro e w2 ⟨rfl, rfl⟩
  go_upto_region 4 with (fail)
  have H1' := Lib.hid (show Blk (w2.setCell ⟨b1, 0, none⟩ (.string pj)) b1 53 #[.string pj, .bool false, .int .i64 sz, .int .i64 tm, (.slice sp sn sc), (.slice none 0 0), .string id] from H1.out.set 0 (.string pj))
  have H2' := Lib.hid (((Kp.refl [b1] w2).setCell ⟨b1, 0, none⟩ (.string pj) (Or.inl (by simp))).blk H2.out (by simpa using hne))
  have HB' := Lib.hid (HB.out.setCell (p := ⟨b1, 0, none⟩) hlo1 (.string pj))
  clear H0 H1 H2 HB x0 y0 f0
  generalize (w2.setCell ⟨b1, 0, none⟩ (.string pj)) = w3 at *
  have r0 := H1'.out.cell 0
  have r1 := H1'.out.cell 1
  have r2 := H1'.out.cell 2
  have r3 := H1'.out.cell 3
  have r4 := H1'.out.cell 4
  have r5 := H1'.out.cell 5
  have r6 := H1'.out.cell 6
  simp at r0 r1 r2 r3 r4 r5 r6
  have t0 := H2'.out.cell 0
  have t1 := H2'.out.cell 1
  have t2 := H2'.out.cell 2
  have t3 := H2'.out.cell 3
  have t4 := H2'.out.cell 4
  have t5 := H2'.out.cell 5
  have t6 := H2'.out.cell 6
  simp at t0 t1 t2 t3 t4 t5 t6
  have q0 := H2'.out.frozen 0
  have q1 := H2'.out.frozen 1
  have q2 := H2'.out.frozen 2
  have q3 := H2'.out.frozen 3
  have q4 := H2'.out.frozen 4
  have q5 := H2'.out.frozen 5
  have q6 := H2'.out.frozen 6
  go_wp2_with fail
  refine bodyPost_ret (v := .tuple #[.agg #[.string pj, .bool false, .int .i64 sz, .int .i64 tm, (.slice sp sn sc), (.slice none 0 0), .string id], .int .i64 0]) (results_cell_tmp (p := 6) (u := 7) Tryz.results239 _ _ b2 53 _ (0, 0) _ rfl H2'.out.info Tryz.underlying53 rfl infoInfo) rfl ⟨rfl, ?_⟩
  rw [HB0.out]
  exact ((((((HB'.out.setCell (p := ⟨b2, 0, none⟩) hlo2 _).setCell (p := ⟨b2, 1, none⟩) hlo2 _).setCell (p := ⟨b2, 2, none⟩) hlo2 _).setCell (p := ⟨b2, 3, none⟩) hlo2 _).setCell (p := ⟨b2, 4, none⟩) hlo2 _).setCell (p := ⟨b2, 5, none⟩) hlo2 _).setCell (p := ⟨b2, 6, none⟩) hlo2 _
end Go.Proofs.YtpjnjhklkgefcaaGreatDoor

/-
  Stores side by side: Put of a path in a member, and of one that is in none.
-/
set_option linter.unusedVariables false
set_option linter.unusedSimpArgs false
namespace Go.Proofs.YtpjnjhklkgefcaaGreatDoor
open Go.RowKit
theorem ascOf {s : ByteArray} (h : (s.data.toList.all fun b => decide (b.toNat < 128)) = true) : AscB s := fun j b hb => by
  have := List.all_eq_true.1 h b (List.mem_of_getElem? hb)
  simpa using this
theorem nmC_asc : ∀ j, j < 8 → AscB (nmC j) :=
  all8 (ascOf (by decide)) (ascOf (by decide)) (ascOf (by decide)) (ascOf (by decide)) (ascOf (by decide)) (ascOf (by decide)) (ascOf (by decide)) (ascOf (by decide))
theorem f_asc : AscB ⟨#[102]⟩ := ascOf (by decide)
theorem f_nm : Nm ⟨#[102]⟩ := ⟨by decide, by decide, f_asc, by decide, by decide, by decide, by decide, by decide⟩
theorem f_key (hv : Int) : KeyIs hv ⟨#[102]⟩ := Or.inr (by decide)
theorem pathC_slash : ∀ j, j < 8 → hasB (pathC j) 47 = true :=
  all8 (by decide) (by decide) (by decide) (by decide) (by decide) (by decide) (by decide) (by decide)
set_option maxRecDepth 100000 in
set_option maxHeartbeats 4000000 in
theorem Fits_any (f : Ft) (s : ByteArray) (w : World) (g : Gl w) (hs : s.size ≤ 1024) (h0 : s.toList.isEmpty = false) (hp : pathB s = true) (h1 : (s.size : Int) ≤ f.mpath) (h2 : ∀ n ∈ splitL s, (n.size : Int) ≤ f.mname ∧ n.size ≤ 1024 ∧ AscB n) (h3 : f.forbid = ⟨#[]⟩) : Calls Tryz.prog 265 #[.agg f.cells, .string s] w fun e w' => e = .returned (.bool true) ∧ Below w.heap.size w w' := by
  have HC := Lib.hid (fun (wx : World) (hb : Below w.heap.size w wx) => fits_any f s wx (g.below hb) hs h0 hp h1 h2 h3)
  clear g h2 h3 hp
  obtain ⟨h, sm, pr, mn, mp, ms, pg, ps, fo⟩ := f
  show Calls Tryz.prog 265 #[.agg #[.int .i64 h, .int .i64 sm, .int .i64 pr, .int .i64 mn, .int .i64 mp, .int .i64 ms, .int .i64 pg, .int .i64 ps, .string fo], .string s] w fun e w' => e = .returned (.bool true) ∧ Below w.heap.size w w'
  replace HC : RowKit.Hid (∀ wx : World, Below w.heap.size w wx → Calls Tryz.prog 107 #[.agg #[.int .i64 h, .int .i64 sm, .int .i64 pr, .int .i64 mn, .int .i64 mp, .int .i64 ms, .int .i64 pg, .int .i64 ps, .string fo], .string s] wx fun e w' => e = .returned (.bool true) ∧ Below wx.heap.size wx w') := HC
  go_enter Tryz.func265, Tryz.ntmps265
  go_wp2_with fail
  have HB := Lib.hid ((Below.refl w.heap.size w).alloc (Nat.le_refl _) (.cells #[.int .i64 h, .int .i64 sm, .int .i64 pr, .int .i64 mn, .int .i64 mp, .int .i64 ms, .int .i64 pg, .int .i64 ps, .string fo] 33))
  refine (HC.out _ HB.out).mono ?_
  rintro e w2 ⟨rfl, hb2⟩
  have HB2 := Lib.hid (HB.out.trans (hb2.mono HB.out.size))
  clear hb2
  go_wp2_with fail
  go_ret
  exact ⟨rfl, HB2.out⟩
/-- the features of a combined store let a path by. -/
theorem fitsC (h s p pg : Int) (path : ByteArray) (w : World) (g : Gl w) (h0 : path.toList.isEmpty = false) (hp : pathB path = true) (h1 : path.size ≤ 1024) (h2 : ∀ n ∈ splitL path, n.size ≤ 255 ∧ AscB n) : Calls Tryz.prog 265 #[.agg (tC h s p pg 1), .string path] w fun e w' => e = .returned (.bool true) ∧ Below w.heap.size w w' :=
  Fits_any ⟨h, s, p, 255, 1024, 100000, pg, 1, ⟨#[]⟩⟩ path w g h1 h0 hp (by show (path.size : Int) ≤ 1024; omega) (fun n hn => ⟨by show (n.size : Int) ≤ 255; have := (h2 n hn).1; omega, by have := (h2 n hn).1; omega, (h2 n hn).2⟩) rfl
set_option maxRecDepth 100000 in
set_option maxHeartbeats 4000000 in
theorem place_ok (cb : Nat) (js : List Nat) (rs : List MR) (path : ByteArray) (one : Bool) (mm : Nat) (nm rest : ByteArray) (w : World) (g : Gl w) (hc : CbOK cb js rs w) (h0 : path.toList.isEmpty = false) (hp : pathB path = true) (h1 : path.size ≤ 1024) (h2 : ∀ n ∈ splitL path, n.size ≤ 255 ∧ AscB n)
    (hone : (!path.toList.isEmpty && !hasB path 47) = one) (HMB : one = false → ∀ wx : World, Below w.heap.size w wx → Calls Tryz.prog 257 #[pt cb, .string path] wx fun e w' => e = .returned (.tuple #[.agg #[.string nm, stV mm], .string rest, .int .i64 0]) ∧ Below wx.heap.size wx w') :
    Calls Tryz.prog 259 #[pt cb, .string path] w fun e w' => e = .returned (.tuple (if one = true then #[.agg #[.string ⟨#[]⟩, .nilIface], .string ⟨#[]⟩, .int .i64 15] else #[.agg #[.string nm, stV mm], .string rest, .int .i64 0])) ∧ Below w.heap.size w w' := by
  obtain ⟨ra, rc, hh, s, p, pg, hb1, _, _⟩ := hc.blk
  generalize js.length = n at *
  have HBK := Lib.hid (fun (wx : World) (hb : Below w.heap.size w wx) => hb1.below hb hb1.lt)
  have CIF := Lib.hid (fun (wx : World) (hb : Below w.heap.size w wx) => wrapFile_any path wx (g.below hb) (by omega) h0 hp)
  have CFI := Lib.hid (fun (wx : World) (hb : Below w.heap.size w wx) => fitsC hh s p ((pg : Int) + 1) path wx (g.below hb) h0 hp h1 h2)
  have CON := Lib.hid (fun w => oneName_ok path w)
  rw [hone] at CON
  have HMM := Lib.hid HMB
  clear g hc h0 hp h1 h2 hone hb1 HMB
  go_enter Tryz.func259, Tryz.ntmps259
  go_wp2_with fail
  have HRB := Lib.hid (Blk.new w 41 #[.string ⟨#[]⟩, .nilIface])
  have HB1 := Lib.hid ((Below.refl w.heap.size w).alloc (Nat.le_refl _) (.cells #[.string ⟨#[]⟩, .nilIface] 41))
  generalize (w.alloc (.cells #[.string ⟨#[]⟩, .nilIface] 41)) = w1 at *
  generalize hrb : w.heap.size = rb at *
  have HRBE := Lib.hid hrb
  clear hrb
  refine (CIF.out w1 HB1.out).mono ?_
  rintro e w2 ⟨rfl, hb2⟩
  have HB2 := Lib.hid (HB1.out.trans (hb2.mono (Nat.le_of_lt HRB.out.lt)))
  have HR2 := Lib.hid (HRB.out.below hb2 HRB.out.lt)
  clear hb2 HB1 HRB CIF
  have hbk := HBK.out w2 HB2.out
  have y0 : w2.cell? ⟨cb, 0, none⟩ = some (.int .i64 hh) := hbk.cell 0
  have y1 : w2.cell? ⟨cb, 1, none⟩ = some (.int .i64 s) := hbk.cell 1
  have y2 : w2.cell? ⟨cb, 2, none⟩ = some (.int .i64 p) := hbk.cell 2
  have y3 : w2.cell? ⟨cb, 3, none⟩ = some (.int .i64 255) := hbk.cell 3
  have y4 : w2.cell? ⟨cb, 4, none⟩ = some (.int .i64 1024) := hbk.cell 4
  have y5 : w2.cell? ⟨cb, 5, none⟩ = some (.int .i64 100000) := hbk.cell 5
  have y6 : w2.cell? ⟨cb, 6, none⟩ = some (.int .i64 ((pg : Int) + 1)) := hbk.cell 6
  have y7 : w2.cell? ⟨cb, 7, none⟩ = some (.int .i64 1) := hbk.cell 7
  have y8 : w2.cell? ⟨cb, 8, none⟩ = some (.string ⟨#[]⟩) := hbk.cell 8
  clear hbk
  go_wp2_with fail
  refine (CFI.out w2 HB2.out).mono ?_
  rintro e w3 ⟨rfl, hb3⟩
  have HB3 := Lib.hid (HB2.out.trans (hb3.mono (Nat.le_of_lt HR2.out.lt)))
  have HR3 := Lib.hid (HR2.out.below hb3 HR2.out.lt)
  clear hb3 HB2 HR2 CFI y0 y1 y2 y3 y4 y5 y6 y7 y8
  cases one
  · go_wp2_with fail
    refine (CON.out _).mono ?_
    rintro e w4 ⟨rfl, rfl⟩
    go_wp2_with fail
    refine (HMM.out (by trivial) _ HB3.out).mono ?_
    rintro e w5 ⟨rfl, hb5⟩
    have HB5 := Lib.hid (HB3.out.trans (hb5.mono (Nat.le_of_lt HR3.out.lt)))
    have HR5 := Lib.hid (HR3.out.below hb5 HR3.out.lt)
    clear hb5 HB3 HR3
    have t0 := HR5.out.cell 0
    have t1 := HR5.out.cell 1
    simp at t0 t1
    have q0 := HR5.out.frozen 0
    have q1 := HR5.out.frozen 1
    go_wp2_with fail
    have hb6 := ((HR5.out.set 0 (.string nm)).set 1 (stV mm))
    refine bodyPost_ret (v := .tuple #[.agg #[.string nm, stV mm], .string rest, .int .i64 0]) (results_cell_two (p := 4) (u := 5) (v := 6) Tryz.results259 _ _ rb 41 _ (0, 0) _ rfl hb6 Tryz.underlying41 rfl infoM2) rfl ⟨rfl, ?_⟩
    rw [HRBE.out]
    exact (HB5.out.setCell (p := ⟨rb, 0, none⟩) (Nat.le_refl _) _).setCell (p := ⟨rb, 1, none⟩) (Nat.le_refl _) _
  · go_wp2_with fail
    refine (CON.out _).mono ?_
    rintro e w4 ⟨rfl, rfl⟩
    have t0 := HR3.out.cell 0
    have t1 := HR3.out.cell 1
    simp at t0 t1
    have q0 := HR3.out.frozen 0
    have q1 := HR3.out.frozen 1
    go_wp2_with fail
    have hb6 := ((HR3.out.set 0 (.string ⟨#[]⟩)).set 1 .nilIface)
    refine bodyPost_ret (v := .tuple #[.agg #[.string ⟨#[]⟩, .nilIface], .string ⟨#[]⟩, .int .i64 15]) ?hres rfl ?hpost
    case hres => exact results_cell_two (p := 4) (u := 5) (v := 6) Tryz.results259 _ _ rb 41 _ (0, 0) _ rfl hb6 Tryz.underlying41 rfl infoM2
    refine ⟨rfl, ?_⟩
    rw [HRBE.out]
    exact (HB3.out.setCell (p := ⟨rb, 0, none⟩) (Nat.le_refl _) _).setCell (p := ⟨rb, 1, none⟩) (Nat.le_refl _) _
/-- a path of a member's file. -/
theorem placeFile_ok (cb : Nat) (js : List Nat) (rs : List MR) (i j : Nat) (r : MR) (w : World) (g : Gl w) (hc : CbOK cb js rs w) (hj : js[i]? = some j) (hr : rs[i]? = some r) :
    Calls Tryz.prog 259 #[pt cb, .string (pathC j)] w fun e w' => e = .returned (.tuple #[.agg #[.string (nmC j), stV r.q.m], .string ⟨#[102]⟩, .int .i64 0]) ∧ Below w.heap.size w w' := by
  have hj8 := hc.lt8 j (List.mem_of_getElem? hj)
  have hjb := hc.good j (List.mem_of_getElem? hj)
  have h := place_ok cb js rs (pathC j) false r.q.m (nmC j) ⟨#[102]⟩ w g hc (pathC_ne j hj8) (pathC_path j hj8 hjb) (by have := pathC_size j hj8; omega) (fun n hn => by
    rw [pathC_parts j hj8 hjb] at hn
    rcases List.mem_cons.1 hn with rfl | hn
    · exact ⟨by have := nmC_size j hj8; omega, nmC_asc j hj8⟩
    · obtain rfl : n = ⟨#[102]⟩ := by simpa using hn
      exact ⟨by decide, f_asc⟩) (by rw [pathC_slash j hj8]; simp) (fun _ wx hb => member_ok cb js rs i j r wx (g.below hb) (hc.below hb) hj hr)
  exact h
abbrev newB : ByteArray := ⟨#[110, 101, 119]⟩
theorem newB_split : splitL newB = [newB] := by decide
theorem newB_path : pathB newB = true := by
  have h : nameB newB = true := by unfold nameB; rw [Lib.toList_data]; decide
  have h1 : newB.toList.isEmpty = false := by rw [Lib.toList_data]; decide
  have hz : newB.size ≤ 1024 := by decide
  unfold pathB
  rw [h1, newB_split]
  simp [h, hz]
theorem placeNew_ok (cb : Nat) (js : List Nat) (rs : List MR) (w : World) (g : Gl w) (hc : CbOK cb js rs w) :
    Calls Tryz.prog 259 #[pt cb, .string newB] w fun e w' => e = .returned (.tuple #[.agg #[.string ⟨#[]⟩, .nilIface], .string ⟨#[]⟩, .int .i64 15]) ∧ Below w.heap.size w w' := by
  have h1 : newB.toList.isEmpty = false := by rw [Lib.toList_data]; decide
  have h := place_ok cb js rs newB true 0 ⟨#[]⟩ ⟨#[]⟩ w g hc h1 newB_path (by decide) (fun n hn => by
    rw [newB_split] at hn
    obtain rfl : n = newB := by simpa using hn
    exact ⟨by decide, ascOf (by decide)⟩) (by rw [h1, show hasB newB 47 = false by decide]; rfl) (fun h => by cases h)
  exact h
set_option maxRecDepth 100000 in
set_option maxHeartbeats 4000000 in
/-- Put of a name that is none's: denied. -/
theorem cPutNew_ok (cb : Nat) (js : List Nat) (rs : List MR) (w : World) (g : Gl w) (hc : CbOK cb js rs w) :
    Calls Tryz.prog 250 #[pt cb, .string newB, .string ⟨#[]⟩, .int .i64 0, .slice none 0 0] w fun e w' => e = .returned (.tuple #[.agg #[.string ⟨#[]⟩, .bool false, .int .i64 0, .int .i64 0, .slice none 0 0, .slice none 0 0, .string ⟨#[]⟩], .int .i64 15]) ∧ Below w.heap.size w w' := by
  have CPL := Lib.hid (fun (wx : World) (hb : Below w.heap.size w wx) => placeNew_ok cb js rs wx (g.below hb) (hc.below hb))
  clear g hc
  go_enter Tryz.func250, Tryz.ntmps250
  go_wp2_with fail
  have HR := Lib.hid (Blk.new w 53 #[.string ⟨#[]⟩, .bool false, .int .i64 0, .int .i64 0, .slice none 0 0, .slice none 0 0, .string ⟨#[]⟩])
  have HB := Lib.hid ((Below.refl w.heap.size w).alloc (Nat.le_refl _) (.cells #[.string ⟨#[]⟩, .bool false, .int .i64 0, .int .i64 0, .slice none 0 0, .slice none 0 0, .string ⟨#[]⟩] 53))
  generalize (w.alloc (.cells #[.string ⟨#[]⟩, .bool false, .int .i64 0, .int .i64 0, .slice none 0 0, .slice none 0 0, .string ⟨#[]⟩] 53)) = w1 at *
  generalize hrb : w.heap.size = rb at *
  have HRBE := Lib.hid hrb
  clear hrb
  refine (CPL.out w1 HB.out).mono ?_
  rintro e w2 ⟨rfl, hb2⟩
  have HB2 := Lib.hid (HB.out.trans (hb2.mono (Nat.le_of_lt HR.out.lt)))
  have HR2 := Lib.hid (HR.out.below hb2 HR.out.lt)
  clear hb2 HB HR CPL
  go_upto_region 3 with (fail)
  have HB3 := Lib.hid (HB2.out.alloc (by rw [← HRBE.out]; exact HB2.out.size) (.cells #[.string ⟨#[]⟩, .nilIface] 41))
  have HR3 := Lib.hid (HR2.out.old (.cells #[.string ⟨#[]⟩, .nilIface] 41))
  clear HB2 HR2
  generalize (w2.alloc (.cells #[.string ⟨#[]⟩, .nilIface] 41)) = w3 at *
  have t0 := HR3.out.cell 0
  have t1 := HR3.out.cell 1
  have t2 := HR3.out.cell 2
  have t3 := HR3.out.cell 3
  have t4 := HR3.out.cell 4
  have t5 := HR3.out.cell 5
  have t6 := HR3.out.cell 6
  simp at t0 t1 t2 t3 t4 t5 t6
  have q0 := HR3.out.frozen 0
  have q1 := HR3.out.frozen 1
  have q2 := HR3.out.frozen 2
  have q3 := HR3.out.frozen 3
  have q4 := HR3.out.frozen 4
  have q5 := HR3.out.frozen 5
  have q6 := HR3.out.frozen 6
  go_wp2_with fail
  refine bodyPost_ret (v := .tuple #[.agg #[.string ⟨#[]⟩, .bool false, .int .i64 0, .int .i64 0, .slice none 0 0, .slice none 0 0, .string ⟨#[]⟩], .int .i64 15]) (results_cell_tmp (p := 10) (u := 11) Tryz.results250 _ _ rb 53 _ (0, 0) _ rfl HR3.out.info Tryz.underlying53 rfl infoInfo) rfl ⟨rfl, ?_⟩
  rw [HRBE.out]
  exact ((((((HB3.out.setCell (p := ⟨rb, 0, none⟩) (Nat.le_refl _) _).setCell (p := ⟨rb, 1, none⟩) (Nat.le_refl _) _).setCell (p := ⟨rb, 2, none⟩) (Nat.le_refl _) _).setCell (p := ⟨rb, 3, none⟩) (Nat.le_refl _) _).setCell (p := ⟨rb, 4, none⟩) (Nat.le_refl _) _).setCell (p := ⟨rb, 5, none⟩) (Nat.le_refl _) _).setCell (p := ⟨rb, 6, none⟩) (Nat.le_refl _) _
theorem cell_kp {S : List Nat} {w w' : World} {p : Addr} {v : Value} (h : w.cell? p = some v) (k : Kp S w w') (hn : p.block ∉ S) : w'.cell? p = some v := by
  have hlt := World.block_lt_of_cell? _ _ h
  unfold World.cell? at h ⊢
  rw [show w'.heap[p.block]? = w.heap[p.block]? from k.block _ hlt hn]
  exact h
set_option maxRecDepth 100000 in
set_option maxHeartbeats 8000000 in
/-- Put of a member's file. -/
theorem cPut_ok (cb : Nat) (js : List Nat) (rs : List MR) (i j : Nat) (r : MR) (d : ByteArray) (t : Int) (w : World) (g : Gl w) (hc : CbOK cb js rs w) (hj : js[i]? = some j) (hr : rs[i]? = some r) (hm : MOK w r) (hL : r.L.length ≤ 90) (hd : d.size ≤ 60000) (h0 : 0 ≤ t) (h1 : t ≤ 9223372036854775807) (hB : r.B ≤ w.heap.size) :
    Calls Tryz.prog 250 #[pt cb, .string (pathC j), .string d, .int .i64 t, .slice none 0 0] w fun e w' => ∃ p m c id', e = .returned (.tuple #[.agg (infoC (pathC j) d.size (tmOf r.f r.clk t) (.slice p m c) (.slice none 0 0) id'), .int .i64 0]) ∧ PutPost r.B r.f r.clk r.q r.L ⟨#[102]⟩ d (tmOf r.f r.clk t) w w' := by
  have hj8 := hc.lt8 j (List.mem_of_getElem? hj)
  have CPL := Lib.hid (fun (wx : World) (hb : Below w.heap.size w wx) => placeFile_ok cb js rs i j r wx (g.below hb) (hc.below hb) hj hr)
  have CPU := Lib.hid (fun (wx : World) (hb : Below w.heap.size w wx) => Put_x ⟨#[102]⟩ d t wx (g.below hb) f_nm hm.ft (f_key _) hL (by omega) h0 h1 hm.ck0 hm.ck1 (Nat.le_trans hB hb.size) (hm.below hb).x)
  have CTO := Lib.hid (fun (sz tm : Int) (sp : Option Addr) (sn sc : Nat) (id : ByteArray) (w : World) => memTold_ok j hj8 r.q.m sz tm sp sn sc id w)
  have HMF := Lib.hid hm.fLt
  have HCL := Lib.hid hm.x.hcl.lt
  clear g hc hj hr hm hj8
  generalize tmOf r.f r.clk t = tm at *
  generalize pathC j = pj at *
  generalize nmC j = nj at *
  obtain ⟨sm, hsm⟩ : ∃ sm, r.q.m = sm := ⟨_, rfl⟩
  rw [hsm] at CPL CTO CPU
  go_enter Tryz.func250, Tryz.ntmps250
  go_wp2_with fail
  have HR := Lib.hid (Blk.new w 53 #[.string ⟨#[]⟩, .bool false, .int .i64 0, .int .i64 0, .slice none 0 0, .slice none 0 0, .string ⟨#[]⟩])
  have HB := Lib.hid ((Below.refl w.heap.size w).alloc (Nat.le_refl _) (.cells #[.string ⟨#[]⟩, .bool false, .int .i64 0, .int .i64 0, .slice none 0 0, .slice none 0 0, .string ⟨#[]⟩] 53))
  generalize (w.alloc (.cells #[.string ⟨#[]⟩, .bool false, .int .i64 0, .int .i64 0, .slice none 0 0, .slice none 0 0, .string ⟨#[]⟩] 53)) = w1 at *
  generalize hrb : w.heap.size = rb at *
  have HRB := Lib.hid hrb
  clear hrb
  refine (CPL.out w1 HB.out).mono ?_
  rintro e w2 ⟨rfl, hb2⟩
  have HB2 := Lib.hid (HB.out.trans (hb2.mono (Nat.le_of_lt HR.out.lt)))
  have HR2 := Lib.hid (HR.out.below hb2 HR.out.lt)
  clear hb2 HB HR CPL
  go_upto_region 4 with (fail)
  have HX3 := Lib.hid (Blk.new w2 41 #[.string nj, stV sm])
  have HB3 := Lib.hid (HB2.out.alloc (by rw [← HRB.out]; exact HB2.out.size) (.cells #[.string nj, stV sm] 41))
  have HR3 := Lib.hid (HR2.out.old (.cells #[.string nj, stV sm] 41))
  have HXL := Lib.hid HB2.out.size
  clear HB2 HR2
  generalize (w2.alloc (.cells #[.string nj, stV sm] 41)) = w3 at *
  generalize w2.heap.size = xb at *
  have hdr : Below rb w w3.drew := HB3.out.drew
  have CP3 := Lib.hid (CPU.out w3.drew hdr)
  have x0 : w3.cell? ⟨xb, 0, none⟩ = some (.string nj) := HX3.out.cell 0
  have x1 : w3.cell? ⟨xb, 1, none⟩ = some (stV sm) := HX3.out.cell 1
  have hxf : xb ∉ Go.Proofs.YtpjnjhklkgefcaaGreatDoor.foot r.q r.L := fun hb => by have h1 := HMF.out _ hb; have h2 := HXL.out; have h3 := HRB.out; omega
  have hrf : rb ∉ Go.Proofs.YtpjnjhklkgefcaaGreatDoor.foot r.q r.L := fun hb => by have h1 := HMF.out _ hb; have h3 := HRB.out; omega
  have HXF := Lib.hid hxf
  have HRF := Lib.hid hrf
  clear hxf hrf hdr CPU
  have HSZ := Lib.hid (show rb < w3.heap.size from HR3.out.lt)
  have HNE := Lib.hid (show xb ∉ [rb] from fun h => (HX3.out.ne HR3.out (by decide)) (by simpa using h))
  have xd0 : w3.drew.cell? ⟨xb, 0, none⟩ = some (.string nj) := x0
  have xd1 : w3.drew.cell? ⟨xb, 1, none⟩ = some (stV sm) := x1
  go_region_held3 (fun wx => wx.cell? ⟨xb, 0, none⟩ = some (.string nj) ∧ wx.cell? ⟨xb, 1, none⟩ = some (stV sm))
    (first | (refine ⟨?_, ?_⟩ <;> with_reducible assumption) | with_reducible assumption | exact ⟨cell_kp z0 (Kp.info (S := [rb]) (Kp.refl _ _) (Or.inl (List.mem_singleton.2 rfl))) HNE.out, cell_kp z1 (Kp.info (S := [rb]) (Kp.refl _ _) (Or.inl (List.mem_singleton.2 rfl))) HNE.out⟩)
    (first
      | (go_at_call 22; (with_reducible refine CP3.out.mono ?_); rintro e w5 ⟨p, m, c, id', rfl, hpp⟩; have HPP := Lib.hid hpp; obtain ⟨n, id, L', hM, hk, hP⟩ := hpp; have y0 : w5.cell? ⟨xb, 0, none⟩ = some (.string nj) := (hk.blk HX3.out.drw HXF.out).cell 0; have y1 : w5.cell? ⟨xb, 1, none⟩ = some (stV sm) := (hk.blk HX3.out.drw HXF.out).cell 1; have HR5 := Lib.hid (hk.blk HR3.out.drw HRF.out); have HX5 := Lib.hid (hk.blk HX3.out.drw HXF.out); clear hM hk hP)
      | (go_at_call 239; (with_reducible refine (CTO.out _ _ _ _ _ _ _).mono ?_); rintro e w6 ⟨rfl, hb6⟩; have HB6 := Lib.hid hb6; have z0 : w6.cell? ⟨xb, 0, none⟩ = some (.string nj) := (HX5.out.below hb6 HX5.out.lt).cell 0; have z1 : w6.cell? ⟨xb, 1, none⟩ = some (stV sm) := (HX5.out.below hb6 HX5.out.lt).cell 1; have HR6 := Lib.hid (HR5.out.below hb6 HR5.out.lt); have t0 := HR6.out.cell 0; have t1 := HR6.out.cell 1; have t2 := HR6.out.cell 2; have t3 := HR6.out.cell 3; have t4 := HR6.out.cell 4; have t5 := HR6.out.cell 5; have t6 := HR6.out.cell 6; simp at t0 t1 t2 t3 t4 t5 t6; have q0 := HR6.out.frozen 0; have q1 := HR6.out.frozen 1; have q2 := HR6.out.frozen 2; have q3 := HR6.out.frozen 3; have q4 := HR6.out.frozen 4; have q5 := HR6.out.frozen 5; have q6 := HR6.out.frozen 6; clear hb6))
  all_goals
    go_wp2_with fail
    obtain ⟨n2, id2, L', hM, hk, hP⟩ := HPP.out
    have hrf2 : rb ∉ Go.Proofs.YtpjnjhklkgefcaaGreatDoor.foot r.q L' := fun hb => by
      rcases hP.foot r.q rb hb with h | h
      · exact HRF.out h
      · have h1 := HSZ.out
        have h2 : w3.drew.heap.size = w3.heap.size := rfl
        omega
    have hM6 := hM.below HB6.out
    have hcl : r.q.c ≠ rb := hM6.hcl.ne HR6.out (by decide)
    have hk6 := ((Kp.of_below (HRB.out ▸ HB3.out.drew) : Kp (Go.Proofs.YtpjnjhklkgefcaaGreatDoor.foot r.q r.L) w w3.drew).trans hk).trans (Kp.of_below HB6.out)
    refine bodyPost_ret (v := .tuple #[.agg (infoC pj d.size tm (.slice p m c) (.slice none 0 0) id'), .int .i64 0]) (results_cell_tmp (p := 10) (u := 11) Tryz.results250 _ _ rb 53 _ (0, 0) _ rfl HR6.out.info Tryz.underlying53 rfl infoInfo) rfl ⟨_, _, _, _, rfl, n2, id2, L', ?_, hk6.info (Or.inr (by rw [HRB.out]; exact Nat.le_refl _)), hP.mono (by have h1 := HSZ.out; have h2 : w3.drew.heap.size = w3.heap.size := rfl; have h3 := HRB.out; omega)⟩
    exact hM6.kp (S := [rb]) (Kp.info (Kp.refl _ _) (Or.inl (by simp))) (fun b hb e => hrf2 (by rw [List.mem_singleton] at e; rw [← e]; exact hb)) (by simpa using hcl)
end Go.Proofs.YtpjnjhklkgefcaaGreatDoor

/-
  Stores side by side: List of the root.
-/
set_option linter.unusedVariables false
set_option linter.unusedSimpArgs false
namespace Go.Proofs.YtpjnjhklkgefcaaGreatDoor
open Go.RowKit Go.Sort
theorem empty_path : pathB ⟨#[]⟩ = true := by
  unfold pathB
  rw [Lib.toList_data]
  decide
theorem flatI_snoc {l : List Nat} {i j : Nat} (h : l[i]? = some j) : (flatK encI 7 (l.take (i + 1)).toArray).toList = (flatK encI 7 (l.take i).toArray).toList ++ encI j := by
  rw [takeN1 h, ← flatI_push]
  simp
/-- what List leaves. -/
def LsPost (S : List Nat) (t n : Nat) (w : World) (e : Ending) (w' : World) : Prop :=
  ∃ (m : Nat) (v : Value), e = .returned (.tuple #[v, .string (if t + m + 1 < n then nmD (S[t + m]?.getD 0) else ⟨#[]⟩), .int .i64 0]) ∧ Below w.heap.size w w' ∧ w'.ownsRow w.heap.size 53 7 v ((S.drop t).take (m + 1)).length (flatK encI 7 ((S.drop t).take (m + 1)).toArray).toList
set_option maxRecDepth 100000 in
set_option maxHeartbeats 4000000 in
theorem cList_ok (cb : Nat) (js : List Nat) (rs : List MR) (t : Nat) (mark : ByteArray) (w : World) (g : Gl w) (hc : CbOK cb js rs w) (hn1 : 1 ≤ js.length) (ht : t ≤ js.length) (hmk : MarkAt (sortC js) t mark) (hmz : mark.size ≤ 1000) :
    Calls Tryz.prog 246 #[pt cb, .string ⟨#[]⟩, .string mark] w (LsPost (sortC js) t js.length w) := by
  obtain ⟨n, hN⟩ : ∃ n, js.length = n := ⟨_, rfl⟩
  obtain ⟨ra, rc, hh, s, p, pg, h1, h2, h3⟩ := hc.blk
  obtain ⟨nx, hnx⟩ : ∃ nx, (if t + pg + 1 < n then nmD ((sortC js)[t + pg]?.getD 0) else (⟨#[]⟩ : ByteArray)) = nx := ⟨_, rfl⟩
  obtain ⟨cnt, hcnt⟩ : ∃ cnt, (((sortC js).drop t).take (pg + 1)).length = cnt := ⟨_, rfl⟩
  obtain ⟨fl, hfl⟩ : ∃ fl, (flatK encI 7 (((sortC js).drop t).take (pg + 1)).toArray).toList = fl := ⟨_, rfl⟩
  have HPG := Lib.hid (show ∀ (gb cap : Nat) (wx : World), HoldsK encI 7 wx gb 0 js.toArray → gb < wx.heap.size → Calls Tryz.prog 256 #[.slice (some ⟨gb, 0, none⟩) js.length cap, .string mark, .int .i64 ((pg : Int) + 1)] wx fun e w' => ∃ v, e = .returned (.tuple #[v, .string nx]) ∧ Kp [gb] wx w' ∧ w'.ownsRow wx.heap.size 53 7 v cnt fl from fun gb cap wx hH hg => by
    have h := page_ok gb cap js mark t pg wx hH hg hc.le8 ht (Nat.le_trans h3.1 (by decide)) hmk hmz
    rw [hcnt, hfl, show (if t + pg + 1 < js.length then nmD ((sortC js)[t + pg]?.getD 0) else (⟨#[]⟩ : ByteArray)) = nx from by rw [hN]; exact hnx] at h
    exact h)
  have HNX := Lib.hid hnx
  have HCNT := Lib.hid hcnt
  have HFL := Lib.hid hfl
  clear hnx hcnt hfl
  have HN := Lib.hid hN
  have h8 := hc.le8
  have HGET := Lib.hid (show ∀ (k : Nat) j, js[k]? = some j → ∃ m, (msOf js rs)[k]? = some (nmD j, m) from by
    intro k j hj
    have hk : k < rs.length := by rw [← hc.len]; exact (List.getElem?_eq_some_iff.1 hj).1
    refine ⟨(rs[k]'hk).q.m, ?_⟩
    rw [nmD_good (hc.good j (List.mem_of_getElem? hj))]
    exact msOf_get hj (List.getElem?_eq_getElem hk))
  have CK0 := check_any ⟨#[]⟩ w g (by decide)
  rw [if_pos empty_path] at CK0
  have CK := Lib.hid CK0
  have HBK := Lib.hid (fun (wx : World) (hb : Below w.heap.size w wx) => h1.below hb h1.lt)
  have HMR := Lib.hid (fun (wx : World) (hb : Below w.heap.size w wx) => h2.below hb)
  rw [hN] at hn1 h8 ht HBK ⊢
  obtain ⟨i0, hi, hz0, hz1, hz2⟩ := info_parts infoI7
  clear g hc h1 h2 hN CK0 hmk
  generalize (sortC js) = S at *
  go_enter Tryz.func246, Tryz.ntmps246
  go_wp2_with fail
  refine CK.out.mono ?_
  rintro e w1 ⟨rfl, hb1⟩
  have HB1 := Lib.hid hb1
  have x9 : w1.cell? ⟨cb, 9, none⟩ = some (.slice ra n rc) := (HBK.out w1 hb1).cell 9
  clear hb1 CK
  go_wp2_with fail
  go_loopw [6, 27] (fun v x wr => ∃ i : Nat, x = .int .i64 (i : Int) ∧ i ≤ n ∧ wr.ownsRow w.heap.size 53 7 v i (flatK encI 7 (js.take i).toArray).toList ∧ Below w.heap.size w wr) (fun _ x _ => n - (intOf x).toNat)
  case atStart => exact ⟨0, rfl, Nat.zero_le _, by simpa [flatK] using World.ownsRow_nil w1 w.heap.size 53 7, HB1.out⟩
  case round =>
    clear x9
    obtain ⟨i, rfl, hin, hrow, hb⟩ := hrel
    have HB := Lib.hid hb
    by_cases hlt : i < n
    · have hd : decide ((i : Int) < (n : Int)) = true := decide_eq_true (by omega)
      obtain ⟨va, vc, hv⟩ := own_slice hrow
      subst hv
      have HROW := Lib.hid hrow
      obtain ⟨j, hj⟩ : ∃ j, js[i]? = some j := ⟨_, List.getElem?_eq_getElem (by rw [HN.out]; exact hlt)⟩
      obtain ⟨m, hm⟩ := HGET.out i j hj
      have HJ := Lib.hid hj
      rcases HMR.out wr hb with hnil | ⟨gb, rfl, hgl, hcell⟩
      · rw [hnil] at hm; simp at hm
      · obtain ⟨c1, c2⟩ := hcell i _ hm
        simp only at c1 c2
        clear hcell hm hj hrow hb
        obtain ⟨nj, hnj⟩ : ∃ nj, nmD j = nj := ⟨_, rfl⟩
        have HNJ := Lib.hid hnj
        rw [hnj] at c1
        clear hnj
        go_upto_region 8 with (fail)
        have HX2 := Lib.hid (Blk.new wr 41 #[.string nj, stV m])
        have HB2 := Lib.hid (HB.out.alloc HB.out.size (.cells #[.string nj, stV m] 41))
        have HR2 := Lib.hid (HROW.out.alloc (.cells #[.string nj, stV m] 41))
        clear c1 c2 HROW
        generalize (wr.alloc (.cells #[.string nj, stV m] 41)) = w2 at *
        generalize wr.heap.size = xb at *
        have x0 : w2.cell? ⟨xb, 0, none⟩ = some (.string nj) := HX2.out.cell 0
        go_wp2_with (first
          | (at_builtin; refine wpList_append_own_at _ rfl _ _ 59 rfl w.heap.size 53 i0 (.agg #[.string ⟨#[]⟩, .bool false, .int .i64 0, .int .i64 0, .slice none 0 0, .slice none 0 0, .string ⟨#[]⟩]) 7 104 Tryz.underlying59 hi hz0 hz1 hz2 rfl (by decide) _ _ _ rfl (HR2.out.alloc _) ⟨w2.heap.size, 0, none⟩ 1 1 [.string nj, .bool true, .int .i64 0, .int .i64 0, .slice none 0 0, .slice none 0 0, .string ⟨#[]⟩] rfl rfl (seven_new w2 _ _ _ _ _ _ _ _) (by simp [Value.oneCell']) (by simp only [maxLen]; omega) (by omega) (by have := HB2.out.size; simp; omega) ?_; intro v' w5 hown5 hgrow hnil hat)
          | go_in)
        have hB4 := HB2.out.alloc HB2.out.size (.cells #[.string nj, .bool true, .int .i64 0, .int .i64 0, .slice none 0 0, .slice none 0 0, .string ⟨#[]⟩] 53)
        have HB5 := Lib.hid (hB4.grown hgrow hB4.size (fun k hk => (HR2.out.lt k hk).1))
        have HOW := Lib.hid hown5
        clear hown5 hgrow hnil hat hB4
        go_wp2_with fail
        go_roundw
        case rel =>
          refine ⟨i + 1, by go_num, by omega, ?_, HB5.out⟩
          rw [flatI_snoc HJ.out]
          have e4 : encI j = [.string nj, .bool true, .int .i64 0, .int .i64 0, .slice none 0 0, .slice none 0 0, .string ⟨#[]⟩] := by rw [← HNJ.out]; rfl
          rw [e4]
          exact HOW.out
        case measure => simp [intOf]; omega
    · obtain rfl : i = n := by omega
      have hd : decide ((i : Int) < (i : Int)) = false := decide_eq_false (by omega)
      rw [List.take_of_length_le (by rw [HN.out]; exact Nat.le_refl _)] at hrow
      rcases hrow.2 with ⟨_, h0⟩ | ⟨gb, cp, cur, rfl, hgb, _⟩
      · omega
      · obtain ⟨hH, hgl, _, _⟩ := holdsI_of_row hrow
        have CPG := Lib.hid (HPG.out gb cp wr hH hgl)
        have HGB := Lib.hid hgb
        have x6 : wr.cell? ⟨cb, 6, none⟩ = some (.int .i64 ((pg : Int) + 1)) := (HBK.out wr hb).cell 6
        clear hrow hH hgl hb HPG
        go_wp2_with (go_at_call 256; refine CPG.out.mono ?_; rintro e w6 ⟨v, rfl, hk6, hown6⟩)
        have HK6 := Lib.hid hk6
        have HO6 := Lib.hid hown6
        clear hk6 hown6 x6
        go_wp2_with fail
        go_ret3
        refine ⟨pg, v, by rw [HNX.out]; rfl, ?_, ?_⟩
        · exact HB.out.trans (HK6.out.below HB.out.size (by simp; exact HGB.out))
        · rw [HCNT.out, HFL.out]
          exact own_mono HO6.out HB.out.size
end Go.Proofs.YtpjnjhklkgefcaaGreatDoor

/-
  Stores side by side: what the law holds while it makes its members.
-/
set_option linter.unusedVariables false
set_option linter.unusedSimpArgs false
namespace Go.Proofs.YtpjnjhklkgefcaaGreatDoor
open Go.RowKit
theorem own_blk {w : World} {base size n g : Nat} {e : TypeId} {v : Value} {xs : List Value} (h : w.ownsRow base e size v n xs) (hg : v.ownBlock = some g) : ∃ cs, Blk w g e cs := by
  rcases h.2 with ⟨rfl, _⟩ | ⟨g', cap, cur, rfl, hb, hgg, _⟩
  · cases hg
  · have : g' = g := by simpa [Value.ownBlock] using hg
    subst this
    exact ⟨cur, hgg⟩
theorem own_cap {w : World} {base size n c : Nat} {e : TypeId} {a : Option Addr} {xs : List Value} (h : w.ownsRow base e size (.slice a n c) n xs) : n ≤ c := by
  rcases h.2 with ⟨h1, h2⟩ | ⟨g', cap, cur, h1, hb, hgg, hn, _⟩
  · omega
  · cases h1; exact hn
theorem row_ne {w : World} {b b' s s' n n' : Nat} {e e' : TypeId} {v v' : Value} {xs xs' : List Value} (h : w.ownsRow b e s v n xs) (h' : w.ownsRow b' e' s' v' n' xs') (ne : e ≠ e') : v.ownBlock = none ∨ v.ownBlock ≠ v'.ownBlock := by
  cases hv : v.ownBlock with
  | none => exact Or.inl rfl
  | some g =>
    refine Or.inr (fun e2 => ?_)
    obtain ⟨cs, hb⟩ := own_blk h hv
    obtain ⟨cs', hb'⟩ := own_blk h' e2.symm
    exact hb.ne hb' ne rfl
theorem mems_row {w w' : World} {rs : List MR} {base size n : Nat} {e : TypeId} {v : Value} {xs : List Value} (h : Mems w rs) (hr : w.ownsRow base e size v n xs) (h1 : e ≠ 95) (h2 : e ≠ 90) (h3 : e ≠ 3) (h4 : e ≠ 98) (k : w.grownBy w' v.ownBlock) : Mems w' rs := by
  refine h.keep (kp_of_grown k) (fun r hr' => ⟨fun x hx hn => ?_, fun hn => ?_⟩)
  · have hg : v.ownBlock = some x := by simpa using hn
    obtain ⟨cs, hb⟩ := own_blk hr hg
    exact (h.ok r hr').off hb h1 h2 h3 hx
  · have hg : v.ownBlock = some r.q.c := by simpa using hn
    obtain ⟨cs, hb⟩ := own_blk hr hg
    exact hb.ne (h.ok r hr').x.hcl h4 rfl
theorem newClock_blk (w : World) : Calls Tryz.prog 9 #[.int .i64 0] w fun e w' => e = .returned (.pointer (some ⟨w.heap.size, 0, none⟩)) ∧ Blk w' w.heap.size 98 #[.int .i64 0] ∧ Below w.heap.size w w' := by
  go_enter Tryz.func9, Tryz.ntmps9
  go_wp2_with fail
  go_ret
  exact ⟨rfl, Blk.new w _ _, (Below.refl _ _).alloc (Nat.le_refl _) _⟩
/-- a new store of the features that the law draws. -/
theorem newStore_ok (m : Nat) (pr pg : Int) (HO : HasOK m) (h1 : 1 ≤ pr) (h2 : pr ≤ 1000) (h3 : 1 ≤ pg) (h4 : pg ≤ 4) (c : Nat) (w : World) (g : Gl w) (hc : Blk w c 98 #[.int .i64 0]) :
    Calls Tryz.prog 7 #[.agg #[.int .i64 (m : Int), .int .i64 16, .int .i64 pr, .int .i64 255, .int .i64 1024, .int .i64 100000, .int .i64 pg, .int .i64 1, .string ⟨#[]⟩], pt c, .slice none 0 0] w fun e w' => ∃ r : MR, e = .returned (.tuple #[pt r.q.m, .int .i64 0]) ∧ MOK w' r ∧ r.L = [] ∧ r.B = w.heap.size ∧ bits .andNot .i64 r.f.has 1024 = r.f.has ∧ Below w.heap.size w w' := by
  obtain ⟨mx, hmx⟩ := g.max
  obtain ⟨tv, _, htv⟩ := g.tab 0 (by decide)
  have h := new_ok ⟨(m : Int), 16, pr, 255, 1024, 100000, pg, 1, ⟨#[]⟩⟩ c w (World.block_lt_of_cell? _ _ hmx) (World.block_lt_of_cell? _ _ htv) (fun w => checkFeaturesG_ok m pr 255 1024 100000 pg ⟨#[]⟩ w HO h1 h2 (by decide) (by decide) (by decide) (by decide) (by decide) (by decide) h3 h4 (fun w => forbidForm_nil w))
  refine h.mono ?_
  rintro e w' ⟨q, rfl, hqc, hq, hb⟩
  refine ⟨⟨w.heap.size, ⟨(m : Int), 16, pr, 255, 1024, 100000, pg, 1, ⟨#[]⟩⟩, 0, q, []⟩, rfl, ⟨MemM.toX hq (by rw [hqc]; exact hc.below hb hc.lt) (by rw [hqc]; exact hc.lt), ⟨rfl, h1, h2, rfl, rfl, rfl, rfl, h3, h4, ?_⟩, Int.le_refl _, by show (0 : Int) ≤ 9223372036854775807; decide, fun x hx => by cases hx⟩, rfl, rfl, HO.andNot1024, hb⟩
  show (bits .and .i64 (m : Int) 1024 != 0) = false
  rw [show (1024 : Int) = ((1024 : Nat) : Int) from rfl, and_test 1024 HO.lt (by decide), HO.ver]
  rfl
/-- the number of a name. -/
def dirJ (d : Int) : Nat := (IntKind.u64.wrap d % 8).toNat
theorem dirJ_lt (d : Int) : dirJ d < 8 := by
  unfold dirJ
  have := IntKind.wrap_u64 d
  omega
theorem dirJ_is (d : Int) : (IntKind.u64.wrap d).tmod 8 = (dirJ d : Int) := by
  have hua : 0 ≤ IntKind.u64.wrap d := by rw [IntKind.wrap_u64]; omega
  rw [Int.tmod_eq_emod_of_nonneg hua]
  unfold dirJ
  omega
/-- what the law holds: names and stores, in rows of their own. -/
structure LmS (w : World) (js : List Nat) (rs : List MR) (vl vn : Value) (wr : World) : Prop where
  mem : Mems wr rs
  emp : ∀ r ∈ rs, r.L = [] ∧ r.B ≤ wr.heap.size ∧ w.heap.size ≤ r.B ∧ bits .andNot .i64 r.f.has 1024 = r.f.has
  rowl : wr.ownsRow w.heap.size 41 2 vl js.length (memF (msOf js rs))
  rown : wr.ownsRow w.heap.size 9 1 vn js.length (js.map fun j => .string (nmC j))
  bel : Below w.heap.size w wr
  len : js.length = rs.length
theorem LmS.nil (w wr : World) (hb : Below w.heap.size w wr) : LmS w [] [] (.slice none 0 0) (.slice none 0 0) wr :=
  ⟨Mems.nil _, fun r h => (by cases h), World.ownsRow_nil _ _ _ _, World.ownsRow_nil _ _ _ _, hb, rfl⟩
/-- a member more: its store has been made. -/
theorem LmS.store {w wr w3 : World} {js : List Nat} {rs : List MR} {vl vn : Value} {r : MR} (h : LmS w js rs vl vn wr) (hb : Below wr.heap.size wr w3) (hr : MOK w3 r) (hL : r.L = []) (hB : wr.heap.size ≤ r.B) (hB2 : r.B ≤ w3.heap.size) (hn : bits .andNot .i64 r.f.has 1024 = r.f.has) :
    Mems w3 (rs ++ [r]) ∧ (∀ x ∈ rs ++ [r], x.L = [] ∧ x.B ≤ w3.heap.size ∧ w.heap.size ≤ x.B ∧ bits .andNot .i64 x.f.has 1024 = x.f.has) := by
  refine ⟨(h.mem.below hb).snoc hr (fun a ha x hx hx2 => ?_), fun x hx => ?_⟩
  · have h1 := (h.mem.ok a ha).fLt x hx
    have h2 := hr.x.lo x hx2
    omega
  · rcases List.mem_append.1 hx with hx | hx
    · obtain ⟨h1, h2, h3, h4⟩ := h.emp x hx
      exact ⟨h1, Nat.le_trans h2 hb.size, h3, h4⟩
    · obtain rfl : x = r := by simpa using hx
      exact ⟨hL, hB2, Nat.le_trans h.bel.size hB, hn⟩
theorem memF_snoc (js : List Nat) (rs : List MR) (j : Nat) (r : MR) (h : js.length = rs.length) : memF (msOf (js ++ [j]) (rs ++ [r])) = memF (msOf js rs) ++ [.string (nmC j), stV r.q.m] := by
  have e : msOf (js ++ [j]) (rs ++ [r]) = msOf js rs ++ [(nmC j, r.q.m)] := by
    unfold msOf
    rw [List.zip_append h]
    simp
  rw [e, memF_app]
  rfl
theorem infoMem2 : (Tryz.prog.info? 41).map (fun i => (i.zero, i.size, i.bytes)) = some (some (.agg #[.string ⟨#[]⟩, .nilIface]), 2, 32) := infoMember
theorem infoStr : (Tryz.prog.info? 9).map (fun i => (i.zero, i.size, i.bytes)) = some (some (.string ⟨#[]⟩), 1, 16) := by kernel_rfl
theorem two_new (w : World) (t : TypeId) (a b : Value) : ∀ j u, [a, b][j]? = some u → (w.alloc (.cells #[a, b] t)).cell? ((⟨w.heap.size, 0, none⟩ : Addr).add j) = some u := by
  intro j u h
  have hadd : (⟨w.heap.size, 0, none⟩ : Addr).add j = ⟨w.heap.size, j, none⟩ := by unfold Addr.add; split <;> simp_all
  rw [hadd, (Blk.new w t #[a, b]).cell j]
  simpa using h
/-- the names' row of the text. -/
abbrev eightN : Array Value := #[.string ⟨#[120]⟩, .string ⟨#[121]⟩, .string ⟨#[88]⟩, .string ⟨#[122, 32, 122]⟩, .string ⟨#[97]⟩, .string ⟨#[46, 46]⟩, .string ⟨#[98, 47, 99]⟩, .string ⟨#[119]⟩]
theorem eightN_at : ∀ j, j < 8 → eightN[j]? = some (.string (nmC j)) :=
  all8 rfl rfl rfl rfl rfl rfl rfl rfl
theorem blk_row {w w' : World} {g base size n : Nat} {t e : TypeId} {cs : Array Value} {v : Value} {xs : List Value} (hb : Blk w g t cs) (hr : w.ownsRow base e size v n xs) (ne : t ≠ e) (k : w.grownBy w' v.ownBlock) : Blk w' g t cs := by
  refine (kp_of_grown k).blk hb (fun hn => ?_)
  have hg : v.ownBlock = some g := by simpa using hn
  obtain ⟨cs', hb'⟩ := own_blk hr hg
  exact hb.ne hb' ne rfl
/-- a row while a store is written. -/
theorem row_kp {w w' : World} {S : List Nat} {base size n : Nat} {e : TypeId} {v : Value} {xs : List Value} (h : w.ownsRow base e size v n xs) (k : Kp S w w') (hS : ∀ g, v.ownBlock = some g → g ∉ S) : w'.ownsRow base e size v n xs :=
  own_same h (fun g hg => k.block g (h.lt g hg).2 (hS g hg))
theorem row_off {w : World} {r : MR} {base size n : Nat} {e : TypeId} {v : Value} {xs : List Value} (hm : MOK w r) (h : w.ownsRow base e size v n xs) (h1 : e ≠ 95) (h2 : e ≠ 90) (h3 : e ≠ 3) : ∀ g, v.ownBlock = some g → g ∉ r.foot := fun g hg => by
  obtain ⟨cs, hb⟩ := own_blk h hg
  exact hm.off hb h1 h2 h3
theorem PutPost.below {B : Nat} {f : Ft} {clk : Int} {q : Mm} {L : List Fl} {s data : ByteArray} {t : Int} {w w' w'' : World} (h : PutPost B f clk q L s data t w w') (k : Below w'.heap.size w' w'') : PutPost B f clk q L s data t w w'' := by
  obtain ⟨n, id, L', h1, h2, h3⟩ := h
  exact ⟨n, id, L', h1.below k, h2.trans (Kp.of_below k), h3⟩
theorem PutPost.ofDrew {B : Nat} {f : Ft} {clk : Int} {q : Mm} {L : List Fl} {s data : ByteArray} {t : Int} {w w' : World} (h : PutPost B f clk q L s data t w.drew w') : PutPost B f clk q L s data t w w' := by
  obtain ⟨n, id, L', h1, h2, h3⟩ := h
  exact ⟨n, id, L', h1, ((Kp.refl _ w).drew).trans h2, h3⟩
/-- what the law holds while it puts files. -/
structure LpS (w : World) (cb : Nat) (js : List Nat) (k : Nat) (vl vn : Value) (i : Nat) (rs : List MR) (wr : World) : Prop where
  mem : Mems wr rs
  emp : ∀ r ∈ rs, r.L.length ≤ i ∧ r.B ≤ wr.heap.size ∧ w.heap.size ≤ r.B
  cbk : CbOK cb js rs wr
  rowl : wr.ownsRow w.heap.size 41 2 vl k (memF (msOf js rs))
  rown : wr.ownsRow w.heap.size 9 1 vn k (js.map fun j => .string (nmC j))
  bel : Below w.heap.size w wr
theorem LpS.below {w wr w' : World} {cb k i : Nat} {js : List Nat} {vl vn : Value} {rs : List MR} (h : LpS w cb js k vl vn i rs wr) (b : Below wr.heap.size wr w') : LpS w cb js k vl vn i rs w' :=
  ⟨h.mem.below b, fun r hr => ⟨(h.emp r hr).1, Nat.le_trans (h.emp r hr).2.1 b.size, (h.emp r hr).2.2⟩, h.cbk.below b, own_belC h.rowl b, own_belC h.rown b, h.bel.trans (b.mono h.bel.size)⟩
/-- a store has been written. -/
theorem LpS.write {w wr w' : World} {cb k i i' ii : Nat} {js : List Nat} {vl vn : Value} {rs : List MR} {r r' : MR} (h : LpS w cb js k vl vn i rs wr) (hi : rs[ii]? = some r) (b : Kp r.foot wr w') (hr : MOK w' r') (hq : r'.q.m = r.q.m) (hB : r'.B = r.B) (hf : ∀ x ∈ r'.foot, x ∈ r.foot ∨ wr.heap.size ≤ x) (hL : r'.L.length ≤ i') (hii : i ≤ i') : LpS w cb js k vl vn i' (rs.set ii r') w' := by
  have hm := h.mem.ok r (List.mem_of_getElem? hi)
  have hlo : ∀ x ∈ r.foot, w.heap.size ≤ x := fun x hx => Nat.le_trans (h.emp r (List.mem_of_getElem? hi)).2.2 (hm.x.lo x hx)
  refine ⟨h.mem.set hi b hr hf, fun x hx => ?_, h.cbk.put hm hi b hq hf, ?_, ?_, h.bel.trans (b.below h.bel.size hlo)⟩
  · rcases List.mem_or_eq_of_mem_set hx with hx | rfl
    · exact ⟨Nat.le_trans (h.emp x hx).1 hii, Nat.le_trans (h.emp x hx).2.1 b.size, (h.emp x hx).2.2⟩
    · have h1 := h.emp r (List.mem_of_getElem? hi)
      exact ⟨hL, by rw [hB]; exact Nat.le_trans h1.2.1 b.size, by rw [hB]; exact h1.2.2⟩
  · rw [← msOf_same (map_set_same hi hq)]
    exact row_kp h.rowl b (row_off hm h.rowl (by decide) (by decide) (by decide))
  · exact row_kp h.rown b (row_off hm h.rown (by decide) (by decide) (by decide))
theorem own_some {w : World} {base s n m c : Nat} {e : TypeId} {a : Option Addr} {xs : List Value} (h : w.ownsRow base e s (.slice a n c) m xs) (hm : 1 ≤ m) : ∃ g, a = some ⟨g, 0, none⟩ := by
  rcases h.2 with ⟨_, h0⟩ | ⟨g, cap, cur, h1, _⟩
  · omega
  · cases h1; exact ⟨g, rfl⟩
theorem putAs_len {N : Nat} {L L' : List Fl} {x : Fl} (h : PutAs N L L' x) : L'.length ≤ L.length + 1 := by
  rcases h with ⟨_, h⟩ | ⟨_, _, h⟩
  · rw [h, putL, List.length_map]; exact Nat.le_succ _
  · rw [h, List.length_append]; exact Nat.le_refl _
theorem nil_cPut (cb : Nat) (w : World) : (nilAhead 513 110 (pt cb) "Put").run Tryz.prog w = .ok (some false) w := by kernel_rfl
end Go.Proofs.YtpjnjhklkgefcaaGreatDoor
