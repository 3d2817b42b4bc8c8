import Derived.Test.YtpjnjhklkgefcaaGreatDoorM
import Derived.Test.YtpjnjhklkgefcaaGreatDoorShelf
set_option linter.unusedVariables false
set_option linter.unusedSimpArgs false
namespace Go.Proofs.YtpjnjhklkgefcaaGreatDoor
open Go.RowKit
/-- a text that is one name: no slash, no zero, not '.', not '..', of ASCII bytes. -/
structure Nm (s : ByteArray) : Prop where
  lo : 1 ≤ s.size
  hi : s.size ≤ 255
  asc : ∀ (j : Nat) b, s.data.toList[j]? = some b → b.toNat < 128
  bad : Lib.containsAny s.data.toList [0, 47] = false
  cnt : Lib.countB s ⟨#[47]⟩ = 0
  dot : (s.data.toList == [46]) = false
  dot2 : (s.data.toList == [46, 46]) = false
  last : Lib.lastIndexByte s 47 = -1
/-- the package-level variables that the walks read: MaxLen is an integer; the table of SHA-256 is 64 words. -/
structure Gl (w : World) : Prop where
  max : ∃ m, w.cell? ⟨5, 0, none⟩ = some (.int .i64 m)
  tab : ∀ i, i < 64 → ∃ v : Nat, v < 4294967296 ∧ w.cell? ⟨11, i, none⟩ = some (.int .u32 v)
theorem Gl.below {w w' : World} (h : Gl w) (hb : Below w.heap.size w w') : Gl w' := by
  obtain ⟨⟨m, hm⟩, ht⟩ := h
  refine ⟨⟨m, (hb.cell (World.block_lt_of_cell? _ _ hm)).trans hm⟩, fun i hi => ?_⟩
  obtain ⟨v, hv, hc⟩ := ht i hi
  exact ⟨v, hv, (hb.cell (World.block_lt_of_cell? _ _ hc)).trans hc⟩
theorem Gl.kp {S : List Nat} {w w' : World} (h : Gl w) (hb : Kp S w w') (h1 : 5 ∉ S) (h2 : 11 ∉ S) : Gl w' := by
  obtain ⟨⟨m, hm⟩, ht⟩ := h
  have key : ∀ b i v, b ∉ S → w.cell? ⟨b, i, none⟩ = some v → w'.cell? ⟨b, i, none⟩ = some v := fun b i v hn hc =>
    (World.cell?_of_block (w := w) (a := ⟨b, i, none⟩) (hb.block b (World.block_lt_of_cell? _ _ hc) hn)).trans hc
  refine ⟨⟨m, key _ _ _ h1 hm⟩, fun i hi => ?_⟩
  obtain ⟨v, hv, hc⟩ := ht i hi
  exact ⟨v, hv, key _ _ _ h2 hc⟩
theorem low2 : ∀ (j : Nat) b, (⟨#[0, 47]⟩ : ByteArray).data.toList[j]? = some b → b.toNat < 128 := by
  intro j b h
  have h2 : ([0, 47] : List UInt8)[j]? = some b := h
  match j, h2 with
  | 0, h2 => simp at h2; subst h2; decide
  | 1, h2 => simp at h2; subst h2; decide
  | (n + 2), h2 => simp at h2
set_option maxRecDepth 100000 in
set_option maxHeartbeats 1000000 in
theorem isName_ok (s : ByteArray) (w : World) (h : Nm s) : Calls Tryz.prog 88 #[.string s] w fun e w' => e = .returned (.bool true) ∧ Below w.heap.size w w' := by
  have hlo := h.lo
  have hhi := h.hi
  have hd0 : (s.toList.isEmpty) = false := by
    rw [Lib.toList_data]
    cases e : s.data.toList with
    | nil => have := Lib.size_eq s; rw [e, List.length_nil] at this; omega
    | cons _ _ => rfl
  have hd : (s.toList == [46]) = false := by rw [Lib.toList_data]; exact h.dot
  have hd2 : (s.toList == [46, 46]) = false := by rw [Lib.toList_data]; exact h.dot2
  have HC := Lib.hid (fun w => Tryz.strings_ContainsAny_laid s ⟨#[0, 47]⟩ w (by omega) (by decide) h.asc low2)
  have hB := h.bad
  have e0 : (⟨#[0, 47]⟩ : ByteArray).data.toList = [0, 47] := rfl
  rw [e0, hB] at HC
  clear hB e0 h
  go_enter Tryz.func88, Tryz.ntmps88
  go_wp2_with fail
  refine (HC.out _).mono ?_
  rintro e w1 ⟨rfl, hb⟩
  go_wp2_with fail
  go_ret
  exact ⟨rfl, hb⟩
theorem Gl.cellMax {w : World} (h : Gl w) : ∃ m, w.cell? ⟨5, 0, none⟩ = some (.int .i64 m) := h.max
/-- the split of a name is the name. -/
theorem split_one (s : ByteArray) (w : World) (g : Gl w) (h : Nm s) : Calls Tryz.prog 87 #[.string s, .string ⟨#[47]⟩] w fun e w' => e = .returned (.slice (some ⟨w.heap.size, 0, none⟩) 1 1) ∧ w' = w.alloc (.cells #[.string s] 9) := by
  obtain ⟨m, hm⟩ := g.max
  refine (Tryz.strings_Split s ⟨#[47]⟩ m w (by have := h.hi; omega) hm (by decide)).mono fun e w' ⟨he, hw⟩ => ?_
  rw [h.cnt] at he hw
  exact ⟨he, hw⟩
set_option maxRecDepth 100000 in
set_option maxHeartbeats 1000000 in
theorem check_ok (s : ByteArray) (w : World) (g : Gl w) (h : Nm s) : Calls Tryz.prog 39 #[.string s] w fun e w' => e = .returned (.int .i64 0) ∧ Below w.heap.size w w' := by
  have hlo := h.lo
  have hhi := h.hi
  have hd0 : (s.toList.isEmpty) = false := by
    rw [Lib.toList_data]
    cases e : s.data.toList with
    | nil => have := Lib.size_eq s; rw [e, List.length_nil] at this; omega
    | cons _ _ => rfl
  have HS := Lib.hid (split_one s w g h)
  have HN := Lib.hid (fun w => isName_ok s w h)
  clear h g
  go_enter Tryz.func39, Tryz.ntmps39
  go_wp2_with fail
  refine HS.out.mono ?_
  rintro e w1 ⟨rfl, rfl⟩
  go_wp2_with fail
  refine wp_loop_rounds 2 ?_
  rw [rounds_succ]
  go_wp2_with fail
  refine (HN.out _).mono ?_
  rintro e w1 ⟨rfl, hb⟩
  go_wp2_with fail
  rw [rounds_succ]
  go_wp2_with fail
  go_ret
  exact ⟨rfl, ((Below.refl w.heap.size w).alloc (Nat.le_refl _) _).trans (hb.mono (by simp))⟩
set_option maxRecDepth 100000 in
set_option maxHeartbeats 1000000 in
/-- the parts of a name: a new slice of one cell. -/
theorem parts_ok (s : ByteArray) (w : World) (g : Gl w) (h : Nm s) : Calls Tryz.prog 145 #[.string s] w fun e w' => ∃ b, e = .returned (.tuple #[.slice (some ⟨b, 0, none⟩) 1 1, .int .i64 0]) ∧ w.heap.size ≤ b ∧ Blk w' b 9 #[.string s] ∧ Below w.heap.size w w' := by
  have hlo := h.lo
  have hd0 : (s.toList.isEmpty) = false := by
    rw [Lib.toList_data]
    cases e : s.data.toList with
    | nil => have := Lib.size_eq s; rw [e, List.length_nil] at this; omega
    | cons _ _ => rfl
  have HK := Lib.hid (check_ok s w g h)
  have HS := Lib.hid (fun w1 (hb : Below w.heap.size w w1) => split_one s w1 (g.below hb) h)
  clear h g
  go_enter Tryz.func145, Tryz.ntmps145
  go_wp2_with fail
  refine HK.out.mono ?_
  rintro e w1 ⟨rfl, hb⟩
  go_wp2_with (first | (go_at_call 87; refine (HS.out _ hb).mono ?_; rintro e w2 ⟨rfl, rfl⟩) | go_in)
  go_ret2
  exact ⟨_, rfl, hb.size, Blk.new _ _ _, hb.alloc hb.size _⟩
end Go.Proofs.YtpjnjhklkgefcaaGreatDoor

set_option linter.unusedVariables false
set_option linter.unusedSimpArgs false
namespace Go.Proofs.YtpjnjhklkgefcaaGreatDoor
open Go.RowKit
theorem nm_ne {s : ByteArray} (h : Nm s) : s.toList.isEmpty = false := by
  have hlo := h.lo
  rw [Lib.toList_data]
  cases e : s.data.toList with
  | nil => have := Lib.size_eq s; rw [e, List.length_nil] at this; omega
  | cons _ _ => rfl
/-- a lookup in a map of string keys. -/
theorem run_lookup_str {P : Program} (w : World) (t k e : TypeId) (r clock : Nat) (es : Array MapEntry) (s : ByteArray) (z : Value) (hm : P.underlying t = some (.map k e)) (hk : P.underlying k = some .string) (hz : ∀ w, (zeroValue e).run P w = .ok z w)
    (hb : w.heap[r]? = some (.map es clock)) (hf : Instr.findNow .string (.string s) es.toList 0 = some none) :
    (Instr.lookup t (.map (some r)) (.string s) false).run P w = .ok z w := by
  have hc : ∀ b, (Instr.checkKey b 10000 k (.string s)).run P w = .ok () w := fun b => MapKept.run_checkKey (k := .string s) hk (by simp [MapKept.IsKey]) b 9999
  simp [Instr.lookup, run_underlying hm, MapKept.run_getObj_map hb, hc, MapKept.run_findKey hk hf, hz, Result.andThen]
theorem zeroNode (w : World) : (zeroValue 87).run Tryz.prog w = .ok (.pointer none) w := by kernel_rfl
/-- the map in block km has v at the key s. -/
def LooksAt (km : Nat) (s : ByteArray) (v : Value) (w : World) : Prop := ∀ x : World, x.heap[km]? = w.heap[km]? → (Instr.lookup 88 (.map (some km)) (.string s) false).run Tryz.prog x = .ok v x
theorem looks_none {km : Nat} {s : ByteArray} {w : World} (h : w.heap[km]? = some (.map #[] 0)) : LooksAt km s (.pointer none) w := fun x hx =>
  run_lookup_str x _ _ _ km 0 #[] s _ Tryz.underlying88 Tryz.underlying9 zeroNode (hx.trans h) rfl
set_option maxRecDepth 100000 in
set_option maxHeartbeats 1000000 in
theorem key_ok (m : Nat) (cs : Array Value) (s : ByteArray) (w : World) (hm : Blk w m 95 cs) (h0 : cs[0]? = some (.int .i64 3071)) : Calls Tryz.prog 116 #[pt m, .string s] w fun e w' => e = .returned (.string s) ∧ w' = w := by
  have hc : w.cell? ⟨m, 0, none⟩ = some (.int .i64 3071) := (hm.cell 0).trans h0
  clear h0 hm
  go_enter Tryz.func116, Tryz.ntmps116
  go_wp2
  go_ret
  exact ⟨rfl, rfl⟩
set_option maxRecDepth 100000 in
set_option maxHeartbeats 1000000 in
theorem storeParts_ok (s : ByteArray) (w : World) (g : Gl w) (h : Nm s) : Calls Tryz.prog 115 #[.string s] w fun e w' => ∃ b, e = .returned (sl b 1 1) ∧ w.heap.size ≤ b ∧ Blk w' b 9 #[.string s] ∧ Below w.heap.size w w' := by
  have hd0 := nm_ne h
  have HS := Lib.hid (split_one s w g h)
  clear h g
  go_enter Tryz.func115, Tryz.ntmps115
  go_wp2_with fail
  refine HS.out.mono ?_
  rintro e w1 ⟨rfl, rfl⟩
  go_wp2_with fail
  go_ret
  exact ⟨_, rfl, Nat.le_refl _, Blk.new _ _ _, (Below.refl _ _).alloc (Nat.le_refl _) _⟩
set_option maxRecDepth 100000 in
set_option maxHeartbeats 1000000 in
theorem find_one (m r km : Nat) (cs rc : Array Value) (s : ByteArray) (v : Value) (hv : v = .pointer none ∨ ∃ b, v = pt b) (w : World) (g : Gl w) (h : Nm s) (hm : Blk w m 95 cs) (h0 : cs[0]? = some (.int .i64 3071)) (h10 : cs[10]? = some (pt r))
    (hr : Blk w r 90 rc) (h3 : rc[3]? = some (.map (some km))) (hk : km < w.heap.size) (hl : LooksAt km s v w) : Calls Tryz.prog 62 #[pt m, .string s] w fun e w' => e = .returned v ∧ Below w.heap.size w w' := by
  have HS := Lib.hid (storeParts_ok s w g h)
  have c0 : w.cell? ⟨m, 10, none⟩ = some (pt r) := (hm.cell 10).trans h10
  have HM := Lib.hid hm
  have HR := Lib.hid hr
  have HL := Lib.hid hl
  have H0 := Lib.hid h0
  have H3 := Lib.hid h3
  clear h g hm hr hl h0 h10 h3
  go_enter Tryz.func62, Tryz.ntmps62
  go_wp2_with fail
  refine HS.out.mono ?_
  rintro e w1 ⟨b, rfl, hb0, hb1, hb⟩
  clear c0
  have hM1 := Lib.hid (Blk.below HM.out hb HM.out.lt)
  have c1 : w1.cell? ⟨b, 0, none⟩ = some (.string s) := hb1.cell 0
  have c2 : w1.cell? ⟨r, 3, none⟩ = some (.map (some km)) := ((Blk.below HR.out hb HR.out.lt).cell 3).trans H3.out
  have hlk : ∀ n, (Instr.lookup 88 (.map (some km)) (.string s) false).run Tryz.prog (w1.drewN n) = .ok v (w1.drewN n) := fun n => HL.out _ (hb.block km hk)
  go_wp2_with fail
  refine wp_loop_rounds 2 ?_
  rw [rounds_succ]
  go_wp2_with fail
  go_quiet ((go_at_call 116; exact Calls.quiet_of_same (key_ok m cs s _ hM1.out H0.out)))
  clear hlk c1 c2
  rcases hv with rfl | ⟨nb, rfl⟩
  · go_wp2_with fail
    go_ret
    exact ⟨rfl, hb.trans ⟨rfl, rfl, rfl, Nat.le_refl _, fun _ _ => rfl⟩⟩
  · go_wp2_with fail
    rw [rounds_succ]
    go_wp2_with fail
    go_ret
    exact ⟨rfl, hb.trans ⟨rfl, rfl, rfl, Nat.le_refl _, fun _ _ => rfl⟩⟩
set_option maxRecDepth 100000 in
set_option maxHeartbeats 1000000 in
/-- the way to a path of one name: the root. -/
theorem way_one (m r : Nat) (cs : Array Value) (s : ByteArray) (w : World) (g : Gl w) (h : Nm s) (hm : Blk w m 95 cs) (h10 : cs[10]? = some (pt r)) : Calls Tryz.prog 153 #[pt m, .string s] w fun e w' => e = .returned (.tuple #[pt r, .int .i64 0]) ∧ Below w.heap.size w w' := by
  have HS := Lib.hid (storeParts_ok s w g h)
  have c0 : w.cell? ⟨m, 10, none⟩ = some (pt r) := (hm.cell 10).trans h10
  clear h g hm h10
  go_enter Tryz.func153, Tryz.ntmps153
  go_wp2_with fail
  refine HS.out.mono ?_
  rintro e w1 ⟨b, rfl, hb0, hb1, hb⟩
  clear c0 hb1
  go_wp2_with fail
  refine wp_loop_rounds 1 ?_
  rw [rounds_succ]
  go_wp2_with fail
  go_ret2
  exact ⟨rfl, hb⟩
end Go.Proofs.YtpjnjhklkgefcaaGreatDoor
