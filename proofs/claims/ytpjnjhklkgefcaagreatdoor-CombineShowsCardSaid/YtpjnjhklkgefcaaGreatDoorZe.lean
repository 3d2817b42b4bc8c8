/-
  A store in memory whose files all lie in its root: what the calls ahead of a Put answer.
-/
import Derived.Test.YtpjnjhklkgefcaaGreatDoorZb
import Derived.Deep.CutRange
import Derived.Test.YtpjnjhklkgefcaaGreatDoorZq
set_option linter.unusedVariables false
set_option linter.unusedSimpArgs false
namespace Go.Proofs.YtpjnjhklkgefcaaGreatDoor
open Go.RowKit Go.Maps
set_option maxRecDepth 100000 in
set_option maxHeartbeats 1000000 in
theorem has_x (m : Nat) (bit hv : Int) (cs : Array Value) (w : World) (hm : Blk w m 95 cs) (h0 : cs[0]? = some (.int .i64 hv)) : Calls Tryz.prog 55 #[pt m, .int .i64 bit] w fun e w' => e = .returned (.bool (bits .and .i64 hv bit != 0)) ∧ w' = w := by
  have hc : w.cell? ⟨m, 0, none⟩ = some (.int .i64 hv) := (hm.cell 0).trans h0
  clear h0 hm
  go_enter Tryz.func55, Tryz.ntmps55
  go_wp2
  go_ret
  exact ⟨rfl, rfl⟩
/-- a name that is its own key in a store. -/
def KeyIs (hv : Int) (s : ByteArray) : Prop := (bits .and .i64 hv 2 != 0) = true ∨ foldS s = s
set_option maxRecDepth 100000 in
set_option maxHeartbeats 1000000 in
theorem key_x (m : Nat) (hv : Int) (cs : Array Value) (s : ByteArray) (w : World) (hm : Blk w m 95 cs) (h0 : cs[0]? = some (.int .i64 hv)) (hs : s.size ≤ 1048576) (hk : KeyIs hv s) : Calls Tryz.prog 116 #[pt m, .string s] w fun e w' => e = .returned (.string s) ∧ Below w.heap.size w w' := by
  have HH := Lib.hid (has_x m 2 hv cs w hm h0)
  have HF := Lib.hid (Fold_ok s w hs)
  cases hb : (bits .and .i64 hv 2 != 0)
  · have hf : foldS s = s := by
      rcases hk with h | h
      · rw [hb] at h; cases h
      · exact h
    rw [hf] at HF
    rw [hb] at HH
    clear hm h0 hk hb hf
    go_enter Tryz.func116, Tryz.ntmps116
    go_wp2_with fail
    refine HH.out.mono ?_
    rintro e w1 ⟨rfl, rfl⟩
    go_wp2_with fail
    refine HF.out.mono ?_
    rintro e w2 ⟨rfl, hb⟩
    go_wp2_with fail
    go_ret
    exact ⟨rfl, hb⟩
  · rw [hb] at HH
    clear hm h0 hk hb HF
    go_enter Tryz.func116, Tryz.ntmps116
    go_wp2_with fail
    refine HH.out.mono ?_
    rintro e w1 ⟨rfl, rfl⟩
    go_wp2_with fail
    go_ret
    exact ⟨rfl, Below.refl _ _⟩
set_option maxRecDepth 100000 in
set_option maxHeartbeats 1000000 in
theorem find_any (m r km : Nat) (hv : Int) (cs rc : Array Value) (s : ByteArray) (v : Value) (hvv : v = .pointer none ∨ ∃ b, v = pt b) (w : World) (g : Gl w) (h : Nm s) (hki : KeyIs hv s) (hm : Blk w m 95 cs) (h0 : cs[0]? = some (.int .i64 hv)) (h10 : cs[10]? = some (pt r))
    (hr : Blk w r 90 rc) (h3 : rc[3]? = some (.map (some km))) (hk : km < w.heap.size) (hl : LooksAt km s v w) : Calls Tryz.prog 62 #[pt m, .string s] w fun e w' => e = .returned v ∧ Below w.heap.size w w' := by
  have HS := Lib.hid (storeParts_ok s w g h)
  have c0 : w.cell? ⟨m, 10, none⟩ = some (pt r) := (hm.cell 10).trans h10
  have HM := Lib.hid hm
  have HR := Lib.hid hr
  have HL := Lib.hid hl
  have H0 := Lib.hid h0
  have H3 := Lib.hid h3
  have HKI := Lib.hid hki
  have HSZ := Lib.hid (show s.size ≤ 1048576 by have := h.hi; omega)
  clear h g hm hr hl h0 h10 h3 hki
  go_enter Tryz.func62, Tryz.ntmps62
  go_wp2_with fail
  refine HS.out.mono ?_
  rintro e w1 ⟨b, rfl, hb0, hb1, hb⟩
  clear c0
  have hM1 := Lib.hid (Blk.below HM.out hb HM.out.lt)
  have hR1 := Lib.hid (Blk.below HR.out hb HR.out.lt)
  have c1 : w1.cell? ⟨b, 0, none⟩ = some (.string s) := hb1.cell 0
  have hlk : ∀ wx : World, Below w1.heap.size w1 wx → LooksAt km s v wx := fun wx hbx x hx => HL.out x (hx.trans ((hbx.block km (Nat.lt_of_lt_of_le hk hb.size)).trans (hb.block km hk)))
  have HLK := Lib.hid hlk
  have HB := Lib.hid hb
  clear hlk hb hb1
  go_wp2_with fail
  refine wp_loop_rounds 2 ?_
  rw [rounds_succ]
  go_upto_region 5 with (fail)
  clear c1
  have c2 : w1.cell? ⟨r, 3, none⟩ = some (.map (some km)) := (hR1.out.cell 3).trans H3.out
  have HK := Lib.hid (fun (wx : World) (hb : Below w1.heap.size w1 wx) => key_x m hv cs s wx (hM1.out.below hb hM1.out.lt) H0.out HSZ.out HKI.out)
  have hrl := hR1.out.lt
  go_cut [5] from 19 to 27 (fun u wx => u = v ∧ Below w1.heap.size w1 wx)
  case first =>
    have HT := Lib.hid (fun (wx : World) (hb : Below w1.heap.size w1 wx) => show Below w1.heap.size w1 wx ∧ wx.cell? ⟨r, 3, none⟩ = some (.map (some km)) ∧ (Instr.lookup 88 (.map (some km)) (.string s) false).run Tryz.prog wx = .ok v wx from
      ⟨hb, (hb.cell (p := ⟨r, 3, none⟩) hrl).trans c2, HLK.out wx hb wx rfl⟩)
    have hstart := HT.out w1 (Below.refl _ _)
    have hl0 := hstart.2.2
    go_region_held3 (fun wx => Below w1.heap.size w1 wx ∧ wx.cell? ⟨r, 3, none⟩ = some (.map (some km)) ∧ (Instr.lookup 88 (.map (some km)) (.string s) false).run Tryz.prog wx = .ok v wx)
      (first | assumption | exact HT.out _ (Below.drew (Below.refl _ _)) | exact HT.out _ (Below.trans (And.left (by assumption)) (Below.mono hb3 (And.left (by assumption : Below w1.heap.size w1 _ ∧ _)).size)))
      ((go_at_call 116; refine (HK.out _ (And.left (by assumption))).mono ?_; rintro e w3 ⟨rfl, hb3⟩))
    all_goals
      have hb := Lib.hid (And.left (by assumption : Below w1.heap.size w1 _ ∧ _))
      go_wp2_with fail
      go_meet
      exact ⟨rfl, hb.out⟩
  case rest =>
    obtain ⟨rfl, hbx⟩ := hcut
    have HBX := Lib.hid (HB.out.trans (hbx.mono HB.out.size))
    clear hbx c2 hrl
    rcases hvv with rfl | ⟨nb, rfl⟩
    · go_wp2_with fail
      go_ret
      exact ⟨rfl, HBX.out⟩
    · go_wp2_with fail
      rw [rounds_succ]
      go_wp2_with fail
      go_ret
      exact ⟨rfl, HBX.out⟩
theorem Fnd.two {L : List Fl} {s : ByteArray} {v : Value} (h : Fnd L s v) : v = .pointer none ∨ ∃ b, v = pt b := by
  rcases h with ⟨x, _, _, rfl⟩ | ⟨_, rfl⟩
  · exact Or.inr ⟨_, rfl⟩
  · exact Or.inl rfl
theorem find_x {B : Nat} {f : Ft} {clk : Int} {q : Mm} {L : List Fl} (s : ByteArray) (v : Value) (w : World) (g : Gl w) (h : Nm s) (hki : KeyIs f.has s) (hv : Fnd L s v) (hq : MemX B f clk q L w) : Calls Tryz.prog 62 #[pt q.m, .string s] w fun e w' => e = .returned v ∧ Below w.heap.size w w' :=
  find_any q.m q.r q.km f.has _ _ s v hv.two w g h hki hq.hm rfl rfl hq.hr rfl (hq.mLt _ (by simp [foot])) (looks_any hq s v (by have := h.hi; simp only [maxLen]; omega) hv)
theorem way_x {B : Nat} {f : Ft} {clk : Int} {q : Mm} {L : List Fl} (s : ByteArray) (w : World) (g : Gl w) (h : Nm s) (hq : MemX B f clk q L w) : Calls Tryz.prog 153 #[pt q.m, .string s] w fun e w' => e = .returned (.tuple #[pt q.r, .int .i64 0]) ∧ Below w.heap.size w w' :=
  way_one q.m q.r _ s w g h hq.hm rfl
end Go.Proofs.YtpjnjhklkgefcaaGreatDoor

set_option linter.unusedVariables false
set_option linter.unusedSimpArgs false
namespace Go.Proofs.YtpjnjhklkgefcaaGreatDoor
open Go.RowKit Go.Maps
set_option maxRecDepth 100000 in
set_option maxHeartbeats 1000000 in
theorem place_x {B : Nat} {f : Ft} {clk : Int} {q : Mm} {L : List Fl} (s : ByteArray) (v : Value) (w : World) (g : Gl w) (h : Nm s) (hki : KeyIs f.has s) (hv : Fnd L s v) (hq : MemX B f clk q L w) : Calls Tryz.prog 110 #[pt q.m, .string s] w fun e w' => e = .returned (.int .i64 0) ∧ Below w.heap.size w w' := by
  have HW := Lib.hid (way_x s w g h hq)
  have HF := Lib.hid (fun w1 (hb : Below w.heap.size w w1) => find_x s v w1 (g.below hb) h hki hv (hq.below hb))
  have HP := Lib.hid (fun w1 (hb : Below w.heap.size w w1) => storeParts_ok s w1 (g.below hb) h)
  have HQ := Lib.hid (fun w1 (hb : Below w.heap.size w w1) => hq.below hb)
  have HV := Lib.hid hv
  have HH := Lib.hid (fun w1 (hb : Below w.heap.size w w1) => has_x q.m 1 f.has _ w1 (hq.below hb).hm rfl)
  have hv2 := hv.two
  clear g hq h hv hki
  go_enter Tryz.func110, Tryz.ntmps110
  go_wp2_with fail
  refine HW.out.mono ?_
  rintro e w1 ⟨rfl, hb1⟩
  have c1 : w1.cell? ⟨q.r, 1, none⟩ = some (.bool true) := (HQ.out w1 hb1).hr.cell 1
  go_wp2_with fail
  refine (HF.out w1 hb1).mono ?_
  rintro e w2 ⟨rfl, hb2⟩
  have hb := hb1.trans (hb2.mono hb1.size)
  clear c1 hb1 hb2
  have HN := Lib.hid (fun (x : Fl) (hx : x ∈ L) => (HQ.out _ hb).hn x hx)
  have HB := Lib.hid hb
  clear hb
  obtain ⟨b1, hb1⟩ : ∃ b1, (bits .and .i64 f.has 1 != 0) = b1 := ⟨_, rfl⟩
  have key : v = .pointer none ∨ ∃ nb, v = pt nb ∧ w2.cell? ⟨nb, 1, none⟩ = some (.bool false) := by
    rcases HV.out with ⟨x, hx, _, he⟩ | ⟨_, he⟩
    · exact Or.inr ⟨_, he, (HN.out x hx).cell 1⟩
    · exact Or.inl he
  clear hv2
  rcases key with rfl | ⟨nb, rfl, n1⟩
  all_goals
    go_wp2_with fail
    refine (HH.out _ HB.out).mono ?_
    rintro e w3 ⟨rfl, rfl⟩
    rw [hb1]
    cases b1
    · go_wp2_with fail
      go_ret
      exact ⟨rfl, HB.out⟩
    · go_wp2_with fail
      refine (HP.out _ HB.out).mono ?_
      rintro e w4 ⟨b, rfl, _, _, hb4⟩
      have hbb := HB.out.trans (hb4.mono HB.out.size)
      go_wp2_with fail
      go_ret
      exact ⟨rfl, hbb⟩
end Go.Proofs.YtpjnjhklkgefcaaGreatDoor

/-
  A store in memory whose files all lie in its root: how many are new, the errors of a Put, the calls' counts, the times.
-/
set_option linter.unusedVariables false
set_option linter.unusedSimpArgs false
namespace Go.Proofs.YtpjnjhklkgefcaaGreatDoor
open Go.RowKit Go.Maps
/-- how many files are new. -/
def newN (v : Value) (k : Nat) : Prop := (v = .pointer none ∧ k = 1) ∨ ((∃ b, v = pt b) ∧ k = 0)
set_option maxRecDepth 100000 in
set_option maxHeartbeats 1000000 in
theorem fresh_x {B : Nat} {f : Ft} {clk : Int} {q : Mm} {L : List Fl} (s : ByteArray) (v : Value) (k : Nat) (hk : newN v k) (w : World) (g : Gl w) (h : Nm s) (hki : KeyIs f.has s) (hv : Fnd L s v) (hq : MemX B f clk q L w) : Calls Tryz.prog 112 #[pt q.m, .string s] w fun e w' => e = .returned (.int .i64 (k : Int)) ∧ Below w.heap.size w w' := by
  have HF := Lib.hid (find_x s v w g h hki hv hq)
  have HW := Lib.hid (fun w1 (hb : Below w.heap.size w w1) => way_x s w1 (g.below hb) h (hq.below hb))
  have HP := Lib.hid (fun w1 (hb : Below w.heap.size w w1) => storeParts_ok s w1 (g.below hb) h)
  clear g hq h hv hki
  rcases hk with ⟨rfl, rfl⟩ | ⟨⟨nb, rfl⟩, rfl⟩
  · go_enter Tryz.func112, Tryz.ntmps112
    go_wp2_with fail
    refine HF.out.mono ?_
    rintro e w1 ⟨rfl, hb1⟩
    go_wp2_with fail
    refine (HW.out w1 hb1).mono ?_
    rintro e w2 ⟨rfl, hb2⟩
    have hb := hb1.trans (hb2.mono hb1.size)
    clear hb1 hb2
    go_wp2_with fail
    refine (HP.out _ hb).mono ?_
    rintro e w3 ⟨b, rfl, _, _, hb3⟩
    have hbb := hb.trans (hb3.mono hb.size)
    clear hb hb3
    go_wp2_with fail
    go_ret
    exact ⟨rfl, hbb⟩
  · go_enter Tryz.func112, Tryz.ntmps112
    go_wp2_with fail
    refine HF.out.mono ?_
    rintro e w1 ⟨rfl, hb1⟩
    go_wp2_with fail
    go_ret
    exact ⟨rfl, hb1⟩
set_option maxRecDepth 100000 in
set_option maxHeartbeats 1000000 in
theorem isNew_x {B : Nat} {f : Ft} {clk : Int} {q : Mm} {L : List Fl} (s : ByteArray) (w : World) (g : Gl w) (h : Nm s) (hf : FtOK f) (hq : MemX B f clk q L w) : Calls Tryz.prog 53 #[pt q.m, .string s] w fun e w' => e = .returned (.int .i64 0) ∧ Below w.heap.size w w' := by
  have HI := Lib.hid (isFile_ok s w g h)
  have HT := Lib.hid (fun w1 (hb : Below w.heap.size w w1) => fits_ok f s w1 (g.below hb) h (by have := h.hi; rw [hf.mpath]; omega) (by have := h.hi; rw [hf.mname]; omega) hf.forbid)
  have HQ := Lib.hid (fun w1 (hb : Below w.heap.size w w1) => hq.below hb)
  clear g hq h hf
  go_enter Tryz.func53, Tryz.ntmps53
  go_wp2_with fail
  refine HI.out.mono ?_
  rintro e w1 ⟨rfl, hb1⟩
  have hm := (HQ.out w1 hb1).hm.cell
  go_wp2_with fail
  refine (HT.out w1 hb1).mono ?_
  rintro e w2 ⟨rfl, hb2⟩
  clear hm
  have hb := hb1.trans (hb2.mono hb1.size)
  clear hb1 hb2
  go_wp2_with fail
  go_ret
  exact ⟨rfl, hb⟩
theorem memXS {B : Nat} {f : Ft} {clk : Int} {q : Mm} {L : List Fl} {w wx : World} (HQ : Hid (∀ w1, Below w.heap.size w w1 → MemX B f clk q L w1)) (hB : Below w.heap.size w wx) : Below w.heap.size w wx ∧ wx.cell? ⟨q.m, 11, none⟩ = some (.int .i64 (L.length : Int)) := ⟨hB, (HQ.out _ hB).hm.cell 11⟩
set_option maxRecDepth 100000 in
set_option maxHeartbeats 1000000 in
theorem putFault_x {B : Nat} {f : Ft} {clk : Int} {q : Mm} {L : List Fl} (s : ByteArray) (v : Value) (n : Nat) (hn : n ≤ 100000) (w : World) (g : Gl w) (h : Nm s) (hf : FtOK f) (hki : KeyIs f.has s) (hv : Fnd L s v) (hL : L.length ≤ 90) (hq : MemX B f clk q L w) : Calls Tryz.prog 56 #[pt q.m, .string s, .int .i64 n, .slice none 0 0] w fun e w' => e = .returned (.int .i64 0) ∧ Below w.heap.size w w' := by
  obtain ⟨k, hk⟩ : ∃ k, newN v k := by
    rcases hv.two with rfl | ⟨b, rfl⟩
    · exact ⟨1, Or.inl ⟨rfl, rfl⟩⟩
    · exact ⟨0, Or.inr ⟨⟨b, rfl⟩, rfl⟩⟩
  have hk1 : k ≤ 1 := by rcases hk with ⟨_, rfl⟩ | ⟨_, rfl⟩ <;> omega
  have HP := Lib.hid (place_x s v w g h hki hv hq)
  have HF := Lib.hid (fun w1 (hb : Below w.heap.size w w1) => fresh_x s v k hk w1 (g.below hb) h hki hv (hq.below hb))
  have HQ := Lib.hid (fun w1 (hb : Below w.heap.size w w1) => hq.below hb)
  have hn1 : ¬ (100000 : Int) < (n : Int) := by omega
  have HM := Lib.hid hf.msize
  obtain ⟨c, hc⟩ : ∃ c : Nat, L.length = c := ⟨_, rfl⟩
  have HC := Lib.hid hc
  rw [hc] at hL
  have hsw : IntKind.i64.wrap ((c : Int) + (k : Int)) = (c : Int) + (k : Int) := IntWalk.i64_in _ (by omega)
  have hsum : decide ((5000 : Int) < (c : Int) + (k : Int)) = false := decide_eq_false (by omega)
  clear g hq h hf hki hv hc hk
  go_enter Tryz.func56, Tryz.ntmps56
  go_wp2_with fail
  refine HP.out.mono ?_
  rintro e w1 ⟨rfl, hb1⟩
  go_wp2_with fail
  refine (metaForm_nil _).mono ?_
  rintro e w1 ⟨rfl, rfl⟩
  have m5 : w1.cell? ⟨q.m, 5, none⟩ = some (.int .i64 100000) := by
    have h5 : w1.cell? ⟨q.m, 5, none⟩ = some (.int .i64 f.msize) := (HQ.out _ hb1).hm.cell 5
    rw [h5, HM.out]
  go_upto_region 8 with (fail)
  clear m5
  have HS := memXS HQ hb1
  rw [HC.out] at HS
  have m11 := HS.2
  clear hb1
  go_region_held3 (fun wx => Below w.heap.size w wx ∧ wx.cell? ⟨q.m, 11, none⟩ = some (.int .i64 (c : Int))) (first | exact HS | exact HC.out ▸ memXS HQ (Below.drew (And.left (by assumption))) | exact HC.out ▸ memXS HQ (Below.trans (And.left (by assumption)) (Below.mono hb3 (And.left (by assumption : Below w.heap.size w _ ∧ _)).size)) | assumption) ((go_at_call 112; refine (HF.out _ (And.left (by assumption))).mono ?_; rintro e w3 ⟨rfl, hb3⟩))
  all_goals
    have hb := Lib.hid (And.left (by assumption : Below w.heap.size w _ ∧ _))
    go_wp2_with fail
    go_ret
    exact ⟨rfl, hb.out⟩
end Go.Proofs.YtpjnjhklkgefcaaGreatDoor

set_option linter.unusedVariables false
set_option linter.unusedSimpArgs false
namespace Go.Proofs.YtpjnjhklkgefcaaGreatDoor
open Go.RowKit Go.Maps
theorem MemC.calls {B : Nat} {f : Ft} {clk : Int} {q : Mm} {L : List Fl} {made : Nat} {w w' : World} (h : MemC B f clk q L made w) (k : Kp [q.ca, q.si] w w') (hX : ∃ X, Blk w' q.ca 3 X ∧ IntRow 14 X) (hY : ∃ X, Blk w' q.si 3 X ∧ IntRow 14 X) : MemC B f clk q L made w' := by
  obtain ⟨X, oX, iX⟩ := h.hca
  obtain ⟨Y, oY, iY⟩ := h.hsi
  obtain ⟨D, hD, hp⟩ := h.hk
  have key : ∀ {g : Nat} {t : TypeId} {cs : Array Value}, Blk w g t cs → t ≠ 3 → Blk w' g t cs := fun hg ht => k.blk hg (by
    simp only [List.mem_cons, List.not_mem_nil, or_false, not_or]
    exact ⟨hg.ne oX ht, hg.ne oY ht⟩)
  exact ⟨key h.hm (by decide), key h.hr (by decide), ⟨D, ownsMap_kp hD k (by
    simp only [List.mem_cons, List.not_mem_nil, or_false, not_or]
    exact ⟨(ownsMap_ne oX hD).symm, (ownsMap_ne oY hD).symm⟩), hp⟩, fun x hx => key (h.hn x hx) (by decide), key h.hcl (by decide), hX, hY, h.ne, h.root, h.apart, h.sized, h.lo, h.clo, h.gl1, h.gl2⟩
set_option maxRecDepth 100000 in
set_option maxHeartbeats 1000000 in
theorem call_x {B : Nat} {f : Ft} {clk : Int} {q : Mm} {L : List Fl} (k : Nat) (hk : k < 14) (w : World) (hq : MemX B f clk q L w) : Calls Tryz.prog 52 #[pt q.m, .int .i64 k] w fun e w' => e = .returned (.pointer none) ∧ MemX B f clk q L w' ∧ Kp [q.ca, q.si] w w' := by
  obtain ⟨X, hX, iX⟩ := hq.hca
  obtain ⟨Y, hY, iY⟩ := hq.hsi
  obtain ⟨x, hx⟩ := iX k hk
  obtain ⟨y, hy⟩ := iY k hk
  have hi0 : (0 : Int) ≤ (k : Int) := by omega
  have hi1 : (k : Int) < 14 := by omega
  have m13 := hq.hm.cell 13
  have m14 := hq.hm.cell 14
  have m15 := hq.hm.cell 15
  simp at m13 m14 m15
  have cx := (hX.cell k).trans hx
  have cy := (hY.cell k).trans hy
  have fx := hX.frozen k
  have fy := hY.frozen k
  have nm1 : q.m ≠ q.ca := hq.hm.ne hX (by decide)
  have nm2 : q.m ≠ q.si := hq.hm.ne hY (by decide)
  have ne := hq.ne
  have HQ := Lib.hid hq
  have HX := Lib.hid hX
  have HY := Lib.hid hY
  have IX := Lib.hid iX
  have IY := Lib.hid iY
  clear hq hX hY iX iY hx hy
  go_enter Tryz.func52, Tryz.ntmps52
  go_wp2_with fail
  go_rounds 1
  go_ret
  have K1 : Kp [q.ca, q.si] w (w.setCell ⟨q.ca, k, none⟩ (.int .i64 (wrap64 (x + 1)))) := (Kp.refl _ w).setCell _ _ (Or.inl (by simp))
  have K2 : ∀ w1 : World, Kp [q.si] w1 (w1.setCell ⟨q.si, k, none⟩ (.int .i64 (wrap64 (y + 1)))) := fun w1 => (Kp.refl _ w1).setCell _ _ (Or.inl (by simp))
  have K1' : Kp [q.ca] w (w.setCell ⟨q.ca, k, none⟩ (.int .i64 (wrap64 (x + 1)))) := (Kp.refl _ w).setCell _ _ (Or.inl (by simp))
  have K := K1.trans ((K2 _).mono (by simp))
  exact ⟨rfl, HQ.out.calls K ⟨_, (K2 _).blk (HX.out.set k _) (by simp [ne]), IX.out.set k _⟩ ⟨_, (K1'.blk HY.out (by simp [ne.symm])).set k _, IY.out.set k _⟩, K⟩
set_option maxRecDepth 100000 in
set_option maxHeartbeats 1000000 in
theorem Truncate_x (t p : Int) (w : World) (h0 : 0 ≤ t) (h1 : t ≤ 9223372036854775807) (h2 : 1 ≤ p) (h3 : p ≤ 1000) : Calls Tryz.prog 152 #[.int .i64 t, .int .i64 p] w fun e w' => e = .returned (.int .i64 (t - t % p)) ∧ w' = w := by
  have e1 : ¬ p < 1 := by omega
  have ep : (p == 0) = false := by simp; omega
  have ep0 : ¬ p = 0 := by omega
  obtain ⟨r, hr⟩ : ∃ r, t % p = r := ⟨_, rfl⟩
  have hm : t.tmod p = r := by rw [Int.tmod_eq_emod_of_nonneg h0, hr]
  have hr0 : 0 ≤ r := by rw [← hr]; exact Int.emod_nonneg _ (by omega)
  have hr1 : r < p := by rw [← hr]; exact Int.emod_lt_of_pos _ (by omega)
  have e2 : ¬ r < 0 := by omega
  have e3 : IntKind.i64.wrap (t - r) = t - r := IntWalk.i64_in _ (by omega)
  have e4 : IntKind.i64.wrap r = r := IntWalk.i64_in _ (by omega)
  rw [hr]
  have HR := Lib.hid hr
  clear hr
  go_enter Tryz.func152, Tryz.ntmps152
  go_wp2
  go_ret
  exact ⟨by first | rfl | (simp [e3]), rfl⟩
set_option maxRecDepth 100000 in
set_option maxHeartbeats 1000000 in
theorem Now_x (c : Nat) (clk : Int) (w : World) (hc : Blk w c 98 #[.int .i64 clk]) : Calls Tryz.prog 151 #[pt c] w fun e w' => e = .returned (.int .i64 clk) ∧ w' = w := by
  have c0 := hc.cell 0
  simp at c0
  clear hc
  go_enter Tryz.func151, Tryz.ntmps151
  go_wp2
  go_ret
  exact ⟨rfl, rfl⟩
/-- the time that a file gets. -/
def tmOf (f : Ft) (clk t : Int) : Int := let u := if (bits .and .i64 f.has 4 != 0) = true then t else clk; u - u % f.prec
set_option maxRecDepth 100000 in
set_option maxHeartbeats 1000000 in
theorem timeOf_x {B : Nat} {f : Ft} {clk : Int} {q : Mm} {L : List Fl} (t : Int) (w : World) (hf : FtOK f) (h0 : 0 ≤ t) (h1 : t ≤ 9223372036854775807) (h2 : 0 ≤ clk) (h3 : clk ≤ 9223372036854775807) (hq : MemX B f clk q L w) : Calls Tryz.prog 109 #[pt q.m, .int .i64 t] w fun e w' => e = .returned (.int .i64 (tmOf f clk t)) ∧ w' = w := by
  have HH := Lib.hid (has_x q.m 4 f.has _ w hq.hm rfl)
  have c1 : w.cell? ⟨q.m, 9, none⟩ = some (pt q.c) := hq.hm.cell 9
  have c2 : w.cell? ⟨q.m, 2, none⟩ = some (.int .i64 f.prec) := hq.hm.cell 2
  have HN := Lib.hid (Now_x q.c clk w hq.hcl)
  have HT := Lib.hid (fun (u : Int) (a : 0 ≤ u) (b : u ≤ 9223372036854775807) => Truncate_x u f.prec w a b hf.prec1 hf.prec2)
  unfold tmOf
  clear hq hf
  have e1 : ¬ t < 0 := by omega
  have e2 : ¬ clk < 0 := by omega
  have m1 : max t 0 = t := by omega
  have m2 : max clk 0 = clk := by omega
  generalize f.prec = p at *
  cases hb : (bits .and .i64 f.has 4 != 0)
  · rw [hb] at HH
    clear hb
    have HTC := Lib.hid (HT.out clk h2 h3)
    clear HT
    simp only [Bool.false_eq_true, if_false]
    go_enter Tryz.func109, Tryz.ntmps109
    go_wp2_with fail
    refine HH.out.mono ?_
    rintro e w1 ⟨rfl, rfl⟩
    go_wp2_with fail
    refine HN.out.mono ?_
    rintro e w1 ⟨rfl, rfl⟩
    go_wp2_with fail
    refine HTC.out.mono ?_
    rintro e w1 ⟨rfl, rfl⟩
    go_wp2_with fail
    go_ret
    exact ⟨rfl, rfl⟩
  · rw [hb] at HH
    clear hb
    have HTC := Lib.hid (HT.out t h0 h1)
    clear HT
    simp only [if_true]
    go_enter Tryz.func109, Tryz.ntmps109
    go_wp2_with fail
    refine HH.out.mono ?_
    rintro e w1 ⟨rfl, rfl⟩
    go_wp2_with fail
    refine HTC.out.mono ?_
    rintro e w1 ⟨rfl, rfl⟩
    go_wp2_with fail
    go_ret
    exact ⟨rfl, rfl⟩
theorem trunc_in (u p : Int) (h0 : 0 ≤ u) (h1 : 1 ≤ p) : 0 ≤ u - u % p ∧ u - u % p ≤ u := by
  have a1 := Int.emod_nonneg u (b := p) (by omega)
  have a2 := Int.emod_add_mul_ediv u p
  have a3 := Int.mul_nonneg (show 0 ≤ p by omega) (Int.ediv_nonneg h0 (show 0 ≤ p by omega))
  omega
theorem tmOf_in {f : Ft} (hf : FtOK f) (clk t : Int) (h0 : 0 ≤ t) (h1 : t ≤ 9223372036854775807) (h2 : 0 ≤ clk) (h3 : clk ≤ 9223372036854775807) : 0 ≤ tmOf f clk t ∧ tmOf f clk t ≤ 9223372036854775807 := by
  have k : ∀ u : Int, 0 ≤ u → u ≤ 9223372036854775807 → 0 ≤ u - u % f.prec ∧ u - u % f.prec ≤ 9223372036854775807 := fun u a b => by
    have := trunc_in u f.prec a hf.prec1
    omega
  unfold tmOf
  split
  · exact k t h0 h1
  · exact k clk h2 h3
end Go.Proofs.YtpjnjhklkgefcaaGreatDoor

/-
  A store in memory whose files all lie in its root: a new file is laid into its map.
-/
set_option linter.unusedVariables false
set_option linter.unusedSimpArgs false
namespace Go.Proofs.YtpjnjhklkgefcaaGreatDoor
open Go.RowKit Go.Maps Go.Proofs.Zl
set_option maxRecDepth 100000 in
/-- the worlds behind an entry that is laid into a map. -/
theorem upd_fun (km : Nat) (s : ByteArray) (v : Value) (hs : s.size ≤ 1048576) : ∃ u : World → World, ∀ (w : World) (n : Nat) (D : DataW Value), w.ownsMap Tryz.prog 9 RV km n D → n ≤ 100 →
    (Instr.mapUpdate 88 (.map (some km)) (.string s) v).run Tryz.prog w = .ok () (u w) ∧ (u w).ownsMap Tryz.prog 9 RV km (n + 1) (D.put (keyT s) (.held v)) ∧ Kp [km] w (u w) := by
  suffices H : ∀ w : World, ∃ w' : World, ∀ (n : Nat) (D : DataW Value), w.ownsMap Tryz.prog 9 RV km n D → n ≤ 100 →
    (Instr.mapUpdate 88 (.map (some km)) (.string s) v).run Tryz.prog w = .ok () w' ∧ w'.ownsMap Tryz.prog 9 RV km (n + 1) (D.put (keyT s) (.held v)) ∧ Kp [km] w w' by
    exact ⟨fun w => Classical.choose (H w), fun w => Classical.choose_spec (H w)⟩
  intro w
  refine ⟨match (Instr.mapUpdate 88 (.map (some km)) (.string s) v).run Tryz.prog w with
    | .ok _ w' => w'
    | _ => w, fun n D h hn => ?_⟩
  obtain ⟨w', hrun, h1, h2⟩ := h.update (Maps.string_keyed (P := Tryz.prog) Tryz.underlying9) (t := 88) (e := 87) Tryz.underlying88 (by simp only [maxLen]; omega) (key := .string s) (val := v) (kl := keyT s) (d := .held v) (ps := []) (WideMaps.keyOf_string_mk Tryz.underlying9 (by simp only [maxLen]; omega)) rfl
  rw [hrun]
  refine ⟨rfl, h1, ⟨h2.os, h2.tape, h2.output, h2.size, fun k hk hn => h2.block k hk (by
    intro e
    injection e with e
    exact hn (by simp [e]))⟩⟩
theorem foot_node {q : Mm} {L : List Fl} {n : Nat} (h : n ∉ foot q L) : n ≠ q.m ∧ n ≠ q.r ∧ n ≠ q.km ∧ n ≠ q.ca ∧ n ≠ q.si ∧ ∀ x ∈ L, n ≠ x.blk := by
  simp only [foot, List.mem_cons, List.mem_map, not_or] at h
  exact ⟨h.1, h.2.1, h.2.2.1, h.2.2.2.1, h.2.2.2.2.1, fun x hx e => h.2.2.2.2.2 ⟨x, hx, e.symm⟩⟩
set_option maxRecDepth 100000 in
set_option maxHeartbeats 1000000 in
theorem grow_x {B : Nat} {f : Ft} {clk : Int} {q : Mm} {L : List Fl} {made : Nat} (s : ByteArray) (w : World) (g : Gl w) (h : Nm s) (hq : MemC B f clk q L made w) : Calls Tryz.prog 147 #[pt q.m, .string s] w fun e w' => e = .returned (pt q.r) ∧ Below w.heap.size w w' := by
  have HW := Lib.hid (way_one q.m q.r _ s w g h hq.hm rfl)
  have HP := Lib.hid (fun w1 (hb : Below w.heap.size w w1) => storeParts_ok s w1 (g.below hb) h)
  clear g hq h
  go_enter Tryz.func147, Tryz.ntmps147
  go_wp2_with fail
  refine HW.out.mono ?_
  rintro e w1 ⟨rfl, hb1⟩
  go_wp2_with fail
  refine (HP.out _ hb1).mono ?_
  rintro e w3 ⟨b, rfl, _, _, hb3⟩
  have hbb := hb1.trans (hb3.mono hb1.size)
  clear hb1 hb3
  go_wp2_with fail
  go_rounds 1
  go_ret
  exact ⟨rfl, hbb⟩
set_option maxRecDepth 100000 in
set_option maxHeartbeats 1000000 in
theorem keep_x {B : Nat} {f : Ft} {clk : Int} {q : Mm} {L : List Fl} {made : Nat} (v : Value) (w : World) (hf : FtOK f) (hq : MemC B f clk q L made w) : Calls Tryz.prog 150 #[pt q.m, v] w fun e w' => e = .returned (.tuple #[]) ∧ w' = w := by
  have HH := Lib.hid (has_x q.m 1024 f.has _ w hq.hm rfl)
  rw [hf.ver] at HH
  clear hq hf
  go_enter Tryz.func150, Tryz.ntmps150
  go_wp2_with fail
  refine HH.out.mono ?_
  rintro e w1 ⟨rfl, rfl⟩
  go_wp2_with fail
  (try simp only [Exit.inBlock, Exit.then])
  refine bodyPost_ret (results_none rfl _ _ _) rfl ⟨rfl, rfl⟩
set_option maxRecDepth 100000 in
set_option maxHeartbeats 4000000 in
theorem add_x {B : Nat} {f : Ft} {clk : Int} {q : Mm} {L : List Fl} {made : Nat} (n : Nat) (s id : ByteArray) (w : World) (h : Nm s) (hki : KeyIs f.has s) (hs : ∀ x ∈ L, x.name ≠ s) (hL : L.length ≤ 90) (hq : MemC B f clk q L made w)
    (hn : Blk w n 90 (nodeC s false (.pointer none) (.map none) ⟨#[]⟩ 0 (.slice none 0 0) id)) (hnf : n ∉ foot q L) (hnB : B ≤ n) :
    Calls Tryz.prog 146 #[pt q.m, pt q.r, pt n] w fun e w' => e = .returned (pt n) ∧ MemC B f clk q (L ++ [⟨s, n, ⟨#[]⟩, 0, id⟩]) made w' ∧ Kp (n :: foot q L) w w' := by
  obtain ⟨nm, nr, nk, nca, nsi, nL⟩ := foot_node hnf
  obtain ⟨D, hD, hP⟩ := hq.hk
  have nf := hn.frozen 2
  have n1 := hn.cell 1
  have n0 := hn.cell 0
  have n2 := hn.cell 2
  have r3 := hq.hr.cell 3
  simp at n0 n1 n2 r3
  have nc : n ≠ q.c := hn.ne hq.hcl (by decide)
  have mk : q.m ≠ q.km := ownsMap_ne hq.hm hD
  have HQ := Lib.hid hq
  have HN := Lib.hid hn
  have HS := Lib.hid hs
  have HP := Lib.hid hP
  have HNL := Lib.hid nL
  have HKI := Lib.hid hki
  have HSZ := Lib.hid (show s.size ≤ 1048576 by have := h.hi; omega)
  clear hq hn hs hD hP nL hki h
  go_enter Tryz.func146, Tryz.ntmps146
  go_upto_region 4 with (fail)
  have K1 : Kp [n] w (w.setCell ⟨n, 2, none⟩ (pt q.r)) := (Kp.refl _ w).setCell _ _ (Or.inl (by simp))
  have N1 := Lib.hid (HN.out.set 2 (pt q.r))
  have Q1 := Lib.hid (HQ.out.kp K1 (fun b hb e => hnf (by rw [List.mem_singleton] at e; rw [← e]; exact hb)) (by simpa using fun e : q.c = n => nc e.symm))
  have HK1 := Lib.hid K1
  clear K1 nf n0 n1 n2 r3
  generalize w.setCell ⟨n, 2, none⟩ (pt q.r) = w1 at *
  obtain ⟨u, hu⟩ := upd_fun q.km s (pt n) HSZ.out
  obtain ⟨D, hD, hP⟩ := Q1.out.hk
  have HP := Lib.hid hP
  have HU := Lib.hid (fun (wx : World) (hb : Below w1.heap.size w1 wx) => (hu wx L.length D (ownsMap_kp hD (Kp.of_below (S := []) hb) (by simp)) (by omega)).2)
  have hup := fun (p : BWd w1) => (hu p.w L.length D (ownsMap_kp hD (Kp.of_below (S := []) p.h) (by simp)) (by omega)).1
  have hr3 := fun (p : BWd w1) => (show p.w.cell? ⟨q.r, 3, none⟩ = some (.map (some q.km)) from (Q1.out.below p.h).hr.cell 3)
  have hn0 := fun (p : BWd w1) => (show p.w.cell? ⟨n, 0, none⟩ = some (.string s) from (N1.out.below p.h N1.out.lt).cell 0)
  clear hu hD hP
  have HK := Lib.hid (fun (p : BWd w1) => key_x q.m f.has _ s p.w (Q1.out.below p.h).hm rfl HSZ.out HKI.out)
  refine wp_region_below_tail 11 (by kernel_rfl) (by kernel_rfl) ?_
  simp only [Nat.reduceAdd, List.take_succ_cons, List.take_zero, List.drop_succ_cons, List.drop_zero]
  iterate 9 (go_big_quiet_step (fail))
  go_big_quiet_step ((go_at_call 116; exact calls_below (HK.out _)))
  iterate 1 (go_big_quiet_step (fail))
  refine wpQuiet_nil ?_
  intro _ hw'
  obtain ⟨p, hw''⟩ := hw'
  subst hw''
  have HUp := Lib.hid (HU.out p.w p.h)
  have hupp := hup p
  have HBp := Lib.hid p.h
  clear hup hr3 hn0 HK HU
  generalize p.w = wp at *
  have Q2 := Lib.hid (Q1.out.below HBp.out)
  have N2 := Lib.hid (N1.out.below HBp.out N1.out.lt)
  obtain ⟨hD2, hK2⟩ := HUp.out
  have MB := Lib.hid (hK2.blk Q2.out.hm (by simp [mk]))
  have NB := Lib.hid (hK2.blk N2.out (by simp [nk]))
  have HD2 := Lib.hid hD2
  have HK2 := Lib.hid hK2
  clear hD2 hK2 HUp
  have m3 : (u wp).cell? ⟨q.m, 11, none⟩ = some (.int .i64 (L.length : Int)) := MB.out.cell 11
  have mf := MB.out.frozen 11
  have hle : IntKind.i64.wrap ((L.length : Int) + 1) = (L.length : Int) + 1 := IntWalk.i64_in _ (by omega)
  generalize u wp = w2 at *
  obtain ⟨c, hc⟩ : ∃ c : Nat, L.length = c := ⟨_, rfl⟩
  rw [hc] at m3 hle
  have HC := Lib.hid hc
  clear hc
  go_wp2_with fail
  go_ret
  have K3 : Kp [q.m] w2 (w2.setCell ⟨q.m, 11, none⟩ (.int .i64 ((c : Int) + 1))) := (Kp.refl _ w2).setCell _ _ (Or.inl (by simp))
  have K23 : Kp [q.km, q.m] wp (w2.setCell ⟨q.m, 11, none⟩ (.int .i64 ((c : Int) + 1))) := (HK2.out.mono (by simp)).trans (K3.mono (by simp))
  have KA : Kp (n :: foot q L) w (w2.setCell ⟨q.m, 11, none⟩ (.int .i64 ((c : Int) + 1))) :=
    ((HK1.out.mono (T := n :: foot q L) (by simp)).trans (Kp.of_below HBp.out)).trans (K23.mono (by simp [foot]))
  obtain ⟨D0, hD0, _⟩ := Q2.out.hk
  have key : ∀ {g : Nat} {t : TypeId} {cs : Array Value}, Blk wp g t cs → t ≠ 95 → Blk (w2.setCell ⟨q.m, 11, none⟩ (.int .i64 ((c : Int) + 1))) g t cs := fun hg ht => K23.blk hg (by
    simp only [List.mem_cons, List.not_mem_nil, or_false, not_or]
    exact ⟨ownsMap_ne hg hD0, hg.ne Q2.out.hm ht⟩)
  obtain ⟨X, hX, iX⟩ := Q2.out.hca
  obtain ⟨Y, hY, iY⟩ := Q2.out.hsi
  have hlen : (L ++ [(⟨s, n, ⟨#[]⟩, 0, id⟩ : Fl)]).length = c + 1 := by rw [List.length_append, HC.out]; rfl
  refine ⟨rfl, ⟨?_, key Q2.out.hr (by decide), ⟨_, ?_, HP.out.put ⟨s, n, ⟨#[]⟩, 0, id⟩ HS.out⟩, ?_, key Q2.out.hcl (by decide), ⟨X, key hX (by decide), iX⟩, ⟨Y, key hY (by decide), iY⟩, Q2.out.ne, ?_, ?_, ?_, ?_, Q2.out.clo, Q2.out.gl1, Q2.out.gl2⟩, KA⟩
  · rw [hlen]
    have h := MB.out.set 11 (.int .i64 ((c : Int) + 1))
    exact h
  · rw [hlen]
    have h := ownsMap_kp HD2.out K3 (by simpa using mk.symm)
    rw [HC.out] at h
    exact h
  · intro x hx
    rcases List.mem_append.1 hx with hx | hx
    · exact key (Q2.out.hn x hx) (by decide)
    · obtain rfl : x = ⟨s, n, ⟨#[]⟩, 0, id⟩ := by simpa using hx
      exact K3.blk NB.out (by simp [nm])
  · intro x hx
    rcases List.mem_append.1 hx with hx | hx
    · exact Q2.out.root x hx
    · obtain rfl : x = ⟨s, n, ⟨#[]⟩, 0, id⟩ := by simpa using hx
      exact nr
  · refine List.pairwise_append.2 ⟨Q2.out.apart, List.pairwise_singleton _ _, fun x hx y hy => ?_⟩
    obtain rfl : y = ⟨s, n, ⟨#[]⟩, 0, id⟩ := by simpa using hy
    exact ⟨(HNL.out x hx).symm, HS.out x hx⟩
  · intro x hx
    rcases List.mem_append.1 hx with hx | hx
    · exact Q2.out.sized x hx
    · obtain rfl : x = ⟨s, n, ⟨#[]⟩, 0, id⟩ := by simpa using hx
      exact Nat.zero_le _
  · intro b hb
    simp only [foot, List.map_append, List.map_cons, List.map_nil, List.mem_cons, List.mem_append, List.not_mem_nil, or_false] at hb
    rcases hb with hb | hb | hb | hb | hb | hb | hb
    · exact hb ▸ Q2.out.lo _ (by simp [foot])
    · exact hb ▸ Q2.out.lo _ (by simp [foot])
    · exact hb ▸ Q2.out.lo _ (by simp [foot])
    · exact hb ▸ Q2.out.lo _ (by simp [foot])
    · exact hb ▸ Q2.out.lo _ (by simp [foot])
    · exact Q2.out.lo b (by simp only [foot, List.mem_cons]; exact Or.inr (Or.inr (Or.inr (Or.inr (Or.inr hb)))))
    · exact hb ▸ hnB
end Go.Proofs.YtpjnjhklkgefcaaGreatDoor
