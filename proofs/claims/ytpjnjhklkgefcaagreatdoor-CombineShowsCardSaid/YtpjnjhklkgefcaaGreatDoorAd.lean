import Derived.Test.YtpjnjhklkgefcaaGreatDoorAb
set_option linter.unusedVariables false
set_option linter.unusedSimpArgs false
namespace Go.Proofs.YtpjnjhklkgefcaaGreatDoor
open Go.RowKit
theorem results_cell_tmp {P : Program} {fn : Func} {p u : Tmp} {ty : TypeId} (h : fn.results = #[.cell p ty, .tmp u]) (tmps : Array Value) (w : World) (g : Nat) (t : TypeId) (cs : Array Value) (fr : Nat × Nat) (d : TypeDesc)
    (hp : tmps.getD p undef = .pointer (some ⟨g, 0, none⟩)) (hg : w.heap[g]? = some (.cells cs t fr))
    (hu : P.underlying ty = some d) (hd : (match d with | .struct _ | .array _ _ => true | _ => false) = true) (hi : (P.info? ty).map (·.size) = some cs.size) :
    (results fn tmps).run P w = .ok (.tuple #[.agg cs, tmps.getD u undef]) w := by
  have hp' : tmps[p]?.getD undef = .pointer (some ⟨g, 0, none⟩) := by simpa using hp
  simp [results, h, hp', asAddr, run_loadVar_row w g t ty cs fr d hg hu hd hi]
theorem Gl.tabW {w : World} (g : Gl w) : TabW w := fun i hi => by
  obtain ⟨v, _, hc⟩ := g.tab i hi
  exact ⟨v, hc⟩
/-- a block of an Info that is stored whole. -/
theorem Blk.info {w : World} {rb : Nat} {a b c d e f g a' b' c' d' e' f' g' : Value} (h : Blk w rb 53 #[a, b, c, d, e, f, g]) :
    Blk (((((((w.setCell ⟨rb, 0, none⟩ a').setCell ⟨rb, 1, none⟩ b').setCell ⟨rb, 2, none⟩ c').setCell ⟨rb, 3, none⟩ d').setCell ⟨rb, 4, none⟩ e').setCell ⟨rb, 5, none⟩ f').setCell ⟨rb, 6, none⟩ g') rb 53 #[a', b', c', d', e', f', g'] := by
  have h7 := ((((((h.set 0 a').set 1 b').set 2 c').set 3 d').set 4 e').set 5 f').set 6 g'
  simpa using h7
theorem Kp.info {S : List Nat} {w0 w : World} {rb : Nat} {a' b' c' d' e' f' g' : Value} (k : Kp S w0 w) (h : rb ∈ S ∨ w0.heap.size ≤ rb) :
    Kp S w0 (((((((w.setCell ⟨rb, 0, none⟩ a').setCell ⟨rb, 1, none⟩ b').setCell ⟨rb, 2, none⟩ c').setCell ⟨rb, 3, none⟩ d').setCell ⟨rb, 4, none⟩ e').setCell ⟨rb, 5, none⟩ f').setCell ⟨rb, 6, none⟩ g') :=
  ((((((k.setCell _ a' h).setCell _ b' h).setCell _ c' h).setCell _ d' h).setCell _ e' h).setCell _ f' h).setCell _ g' h
theorem lt_of_blk {w : World} {b : Nat} {o : Obj} (h : w.heap[b]? = some o) : b < w.heap.size := by
  rcases Nat.lt_or_ge b w.heap.size with h1 | h1
  · exact h1
  · rw [Array.getElem?_eq_none h1] at h; cases h
abbrev infoZ : Array Value := #[.string ⟨#[]⟩, .bool false, .int .i64 0, .int .i64 0, .slice none 0 0, .slice none 0 0, .string ⟨#[]⟩]
set_option maxRecDepth 100000 in
set_option maxHeartbeats 4000000 in
theorem put_ok {B : Nat} {q : Mm} (s data : ByteArray) (w : World) (g : Gl w) (h : Nm s) (hd : data.size ≤ 100000) (hq : MemE B wideT q w) :
    Calls Tryz.prog 54 #[pt q.m, .string s, .string data, .int .i64 7, .slice none 0 0] w fun e w' => ∃ p m c id, e = .returned (.tuple #[.agg (infoC s data.size 7 (.slice p m c) (.slice none 0 0) id), .int .i64 0]) ∧ Kp [q.km, q.m] w w' := by
  have HQ := Lib.hid (fun wx (hb : Below w.heap.size w wx) => MemM.below hq hb)
  have GG := Lib.hid (fun wx (hb : Below w.heap.size w wx) => g.below hb)
  have HM := Lib.hid (show q.m < w.heap.size ∧ q.km < w.heap.size from ⟨hq.hm.lt, lt_of_blk hq.hk⟩)
  clear hq g
  go_enter Tryz.func54, Tryz.ntmps54
  go_wp2_with fail
  have HR := Lib.hid (Blk.new w 53 #[.string ⟨#[]⟩, .bool false, .int .i64 0, .int .i64 0, .slice none 0 0, .slice none 0 0, .string ⟨#[]⟩])
  have HB := Lib.hid ((Below.refl w.heap.size w).alloc (Nat.le_refl _) (.cells #[.string ⟨#[]⟩, .bool false, .int .i64 0, .int .i64 0, .slice none 0 0, .slice none 0 0, .string ⟨#[]⟩] 53))
  generalize (w.alloc (.cells #[.string ⟨#[]⟩, .bool false, .int .i64 0, .int .i64 0, .slice none 0 0, .slice none 0 0, .string ⟨#[]⟩] 53)) = w1 at *
  generalize hrb : w.heap.size = rb at *
  have HRB := Lib.hid hrb
  clear hrb
  refine (putFault_e s data.size hd w1 (GG.out _ HB.out) h (HQ.out _ HB.out)).mono ?_
  rintro e w2 ⟨rfl, hb2⟩
  have HB2 := Lib.hid (HB.out.trans (hb2.mono (Nat.le_of_lt HR.out.lt)))
  have HR2 := Lib.hid (HR.out.below hb2 HR.out.lt)
  clear hb2 HR HB
  go_wp2_with fail
  refine (timeOf_e w2 (HQ.out _ HB2.out)).mono ?_
  rintro e w3 ⟨rfl, rfl⟩
  go_wp2_with fail
  refine (setFile_e s data w3 (GG.out _ HB2.out) h (HQ.out _ HB2.out)).mono ?_
  rintro e w4 ⟨n, id, rfl, hF, hn, hk⟩
  have hqm : q.m ≠ rb := by have := HM.out; omega
  have hqk : q.km ≠ rb := by have := HM.out; omega
  have HR4 := Lib.hid (hk.blk HR2.out (by simp; exact ⟨fun e => hqk e.symm, fun e => hqm e.symm⟩))
  have hk0 : Kp [q.km, q.m] w w4 := (Kp.of_below (HRB.out ▸ HB2.out)).trans hk
  have HK := Lib.hid hk0
  have HF := Lib.hid hF
  have hgl : 11 < w4.heap.size := by
    have h1 := (HQ.out _ HB2.out).gl2
    have h2 := (HQ.out _ HB2.out).lom
    have h3 := (HQ.out _ HB2.out).hm.lt
    have h4 := hk.size
    omega
  have HT := Lib.hid (((GG.out _ HB2.out).kp hk (by
    have h1 := (HQ.out _ HB2.out).gl1
    have h2 := (HQ.out _ HB2.out).lom
    have h3 := (HQ.out _ HB2.out).lok
    simp; omega) (by
    have h1 := (HQ.out _ HB2.out).gl2
    have h2 := (HQ.out _ HB2.out).lom
    have h3 := (HQ.out _ HB2.out).lok
    simp; omega)).tabW)
  clear hF hn hk hk0 HR2
  go_wp2_with fail
  refine (info_ok (by omega) hgl HT.out HF.out).mono ?_
  rintro e w5 ⟨p, m, c, rfl, hb5⟩
  have hR5 := HR4.out.below hb5 HR4.out.lt
  have HR5 := Lib.hid hR5
  have HK5 := Lib.hid (HK.out.trans (Kp.of_below hb5))
  have r0 := hR5.cell 0
  have r1 := hR5.cell 1
  have r2 := hR5.cell 2
  have r3 := hR5.cell 3
  have r4 := hR5.cell 4
  have r5 := hR5.cell 5
  have r6 := hR5.cell 6
  simp at r0 r1 r2 r3 r4 r5 r6
  have q0 := hR5.frozen 0
  have q1 := hR5.frozen 1
  have q2 := hR5.frozen 2
  have q3 := hR5.frozen 3
  have q4 := hR5.frozen 4
  have q5 := hR5.frozen 5
  have q6 := hR5.frozen 6
  clear hb5 hR5
  go_wp2_with fail
  refine bodyPost_ret (v := .tuple #[.agg (infoC s data.size 7 (.slice p m c) (.slice none 0 0) id), .int .i64 0]) (results_cell_tmp (p := 10) (u := 11) Tryz.results54 _ _ rb 53 _ (0, 0) _ rfl HR5.out.info Tryz.underlying53 rfl infoInfo) rfl ⟨_, _, _, _, rfl, HK5.out.info (Or.inr (by rw [HRB.out]; exact Nat.le_refl _))⟩
set_option maxRecDepth 100000 in
set_option maxHeartbeats 4000000 in
theorem memPut_ok {B : Nat} {q : Mm} (s data : ByteArray) (w : World) (g : Gl w) (h : Nm s) (hd : data.size ≤ 100000) (hq : MemE B wideT q w) :
    Calls Tryz.prog 22 #[pt q.m, .string s, .string data, .int .i64 7, .slice none 0 0] w fun e w' => ∃ p m c id, e = .returned (.tuple #[.agg (infoC s data.size 7 (.slice p m c) (.slice none 0 0) id), .int .i64 0]) ∧ Kp [q.km, q.m, q.ca, q.si] w w' := by
  have HQ := Lib.hid (fun wx (hb : Below w.heap.size w wx) => MemM.below hq hb)
  have GG := Lib.hid (fun wx (hb : Below w.heap.size w wx) => g.below hb)
  have hml := hq.hm.lt
  have hkl := lt_of_blk hq.hk
  have hcl : q.ca < w.heap.size := by obtain ⟨X, hX, _⟩ := hq.hca; exact hX.lt
  have hsl : q.si < w.heap.size := by obtain ⟨X, hX, _⟩ := hq.hsi; exact hX.lt
  clear hq g
  go_enter Tryz.func22, Tryz.ntmps22
  go_wp2_with fail
  have HR := Lib.hid (Blk.new w 53 #[.string ⟨#[]⟩, .bool false, .int .i64 0, .int .i64 0, .slice none 0 0, .slice none 0 0, .string ⟨#[]⟩])
  have HB := Lib.hid ((Below.refl w.heap.size w).alloc (Nat.le_refl _) (.cells #[.string ⟨#[]⟩, .bool false, .int .i64 0, .int .i64 0, .slice none 0 0, .slice none 0 0, .string ⟨#[]⟩] 53))
  generalize (w.alloc (.cells #[.string ⟨#[]⟩, .bool false, .int .i64 0, .int .i64 0, .slice none 0 0, .slice none 0 0, .string ⟨#[]⟩] 53)) = w1 at *
  generalize hrb : w.heap.size = rb at *
  have HRB := Lib.hid hrb
  clear hrb
  refine (call_e 3 (by omega) w1 (HQ.out _ HB.out)).mono ?_
  rintro e w2 ⟨rfl, hq2, hk2⟩
  have HK2 := Lib.hid ((Kp.of_below (HRB.out ▸ HB.out) : Kp [q.ca, q.si] w w1).trans hk2)
  have HR2 := Lib.hid (hk2.blk HR.out (by simp; omega))
  have HQ2 := Lib.hid (fun wx (hb : Below w2.heap.size w2 wx) => MemM.below hq2 hb)
  have g2 : Gl w2 := (GG.out _ HB.out).kp hk2 (by
    have h1 := (HQ.out _ HB.out).gl1
    have h2 := (HQ.out _ HB.out).loc
    have h3 := (HQ.out _ HB.out).los
    simp; omega) (by
    have h1 := (HQ.out _ HB.out).gl2
    have h2 := (HQ.out _ HB.out).loc
    have h3 := (HQ.out _ HB.out).los
    simp; omega)
  have GG2 := Lib.hid (fun wx (hb : Below w2.heap.size w2 wx) => g2.below hb)
  clear hk2 hq2 g2 HQ GG HR HB
  go_wp2_with fail
  refine (isNew_e s w2 (GG2.out _ (Below.refl _ _)) h (HQ2.out _ (Below.refl _ _))).mono ?_
  rintro e w3 ⟨rfl, hb3⟩
  have HB3 := Lib.hid hb3
  have HR3 := Lib.hid (HR2.out.below hb3 HR2.out.lt)
  clear hb3 HR2
  go_wp2_with fail
  refine (put_ok s data w3 (GG2.out _ HB3.out) h hd (HQ2.out _ HB3.out)).mono ?_
  rintro e w5 ⟨p, m, c, id, rfl, hk5⟩
  have hR5 := hk5.blk HR3.out (by simp; omega)
  have HR5 := Lib.hid hR5
  have HK5 := Lib.hid (((HK2.out.trans (Kp.of_below HB3.out)).mono (T := [q.km, q.m, q.ca, q.si]) (by simp)).trans (hk5.mono (by simp)))
  have r0 := hR5.cell 0
  have r1 := hR5.cell 1
  have r2 := hR5.cell 2
  have r3 := hR5.cell 3
  have r4 := hR5.cell 4
  have r5 := hR5.cell 5
  have r6 := hR5.cell 6
  simp at r0 r1 r2 r3 r4 r5 r6
  have q0 := hR5.frozen 0
  have q1 := hR5.frozen 1
  have q2 := hR5.frozen 2
  have q3 := hR5.frozen 3
  have q4 := hR5.frozen 4
  have q5 := hR5.frozen 5
  have q6 := hR5.frozen 6
  clear hk5 hR5
  go_wp2_with fail
  refine bodyPost_ret (v := .tuple #[.agg (infoC s data.size 7 (.slice p m c) (.slice none 0 0) id), .int .i64 0]) (results_cell_tmp (p := 10) (u := 11) Tryz.results22 _ _ rb 53 _ (0, 0) _ rfl HR5.out.info Tryz.underlying53 rfl infoInfo) rfl ⟨_, _, _, _, rfl, HK5.out.info (Or.inr (by rw [HRB.out]; exact Nat.le_refl _))⟩
end Go.Proofs.YtpjnjhklkgefcaaGreatDoor
