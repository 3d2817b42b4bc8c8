import Derived.Test.YtobiacdeoeogaaaGreatDoorE
import Derived.Test.YtobiacdeoeogaaaGreatDoorD
set_option linter.unusedVariables false
set_option linter.unusedSimpArgs false
namespace Go.Proofs.YtobiacdeoeogaaaGreatDoor
open Go.RowKit
theorem nm_ne {s : ByteArray} (h : Nm s) : s.toList.isEmpty = false := by
  have hlo := h.lo
  rw [Lib.toList_data]
  cases e : s.data.toList with
  | nil => have := Lib.size_eq s; rw [e, List.length_nil] at this; omega
  | cons _ _ => rfl
/-- a lookup in a map of string keys. -/
theorem run_lookup_str {P : Program} (w : World) (t k e : TypeId) (r clock : Nat) (es : Array MapEntry) (s : ByteArray) (z : Value) (hm : P.underlying t = some (.map k e)) (hk : P.underlying k = some .string) (hz : ∀ w, (zeroValue e).run P w = .ok z w)
    (hb : w.heap[r]? = some (.map es clock)) (hf : Instr.findNow .string (.string s) es.toList 0 = some none) :
    (Instr.lookup t (.map (some r)) (.string s) false).run P w = .ok z w := by
  have hc : ∀ b, (Instr.checkKey b 10000 k (.string s)).run P w = .ok () w := fun b => MapKept.run_checkKey (k := .string s) hk (by simp [MapKept.IsKey]) b 9999
  simp [Instr.lookup, run_underlying hm, MapKept.run_getObj_map hb, hc, MapKept.run_findKey hk hf, hz, Result.andThen]
theorem zeroNode (w : World) : (zeroValue 107).run Tryz.prog w = .ok (.pointer none) w := by kernel_rfl
/-- the map in block km has v at the key s. -/
def LooksAt (km : Nat) (s : ByteArray) (v : Value) (w : World) : Prop := ∀ x : World, x.heap[km]? = w.heap[km]? → (Instr.lookup 108 (.map (some km)) (.string s) false).run Tryz.prog x = .ok v x
theorem looks_none {km : Nat} {s : ByteArray} {w : World} (h : w.heap[km]? = some (.map #[] 0)) : LooksAt km s (.pointer none) w := fun x hx =>
  run_lookup_str x _ _ _ km 0 #[] s _ Tryz.underlying108 Tryz.underlying9 zeroNode (hx.trans h) rfl
set_option maxRecDepth 100000 in
set_option maxHeartbeats 1000000 in
theorem key_ok (m : Nat) (cs : Array Value) (s : ByteArray) (w : World) (hm : Blk w m 115 cs) (h0 : cs[0]? = some (.int .i64 3071)) : Calls Tryz.prog 197 #[pt m, .string s] w fun e w' => e = .returned (.string s) ∧ w' = w := by
  have hc : w.cell? ⟨m, 0, none⟩ = some (.int .i64 3071) := (hm.cell 0).trans h0
  clear h0 hm
  go_enter Tryz.func197, Tryz.ntmps197
  go_wp2
  go_ret
  exact ⟨rfl, rfl⟩
set_option maxRecDepth 100000 in
set_option maxHeartbeats 1000000 in
theorem storeParts_ok (s : ByteArray) (w : World) (g : Gl w) (h : Nm s) : Calls Tryz.prog 188 #[.string s] w fun e w' => ∃ b, e = .returned (sl b 1 1) ∧ w.heap.size ≤ b ∧ Blk w' b 9 #[.string s] ∧ Below w.heap.size w w' := by
  have hd0 := nm_ne h
  have HS := Lib.hid (split_one s w g h)
  clear h g
  go_enter Tryz.func188, Tryz.ntmps188
  go_wp2_with fail
  refine HS.out.mono ?_
  rintro e w1 ⟨rfl, rfl⟩
  go_wp2_with fail
  go_ret
  exact ⟨_, rfl, Nat.le_refl _, Blk.new _ _ _, (Below.refl _ _).alloc (Nat.le_refl _) _⟩
set_option maxRecDepth 100000 in
set_option maxHeartbeats 1000000 in
theorem find_one (m r km : Nat) (cs rc : Array Value) (s : ByteArray) (v : Value) (hv : v = .pointer none ∨ ∃ b, v = pt b) (w : World) (g : Gl w) (h : Nm s) (hm : Blk w m 115 cs) (h0 : cs[0]? = some (.int .i64 3071)) (h10 : cs[10]? = some (pt r))
    (hr : Blk w r 110 rc) (h3 : rc[3]? = some (.map (some km))) (hk : km < w.heap.size) (hl : LooksAt km s v w) : Calls Tryz.prog 186 #[pt m, .string s] w fun e w' => e = .returned v ∧ Below w.heap.size w w' := by
  have HS := Lib.hid (storeParts_ok s w g h)
  have c0 : w.cell? ⟨m, 10, none⟩ = some (pt r) := (hm.cell 10).trans h10
  have HM := Lib.hid hm
  have HR := Lib.hid hr
  have HL := Lib.hid hl
  have H0 := Lib.hid h0
  have H3 := Lib.hid h3
  clear h g hm hr hl h0 h10 h3
  go_enter Tryz.func186, Tryz.ntmps186
  go_wp2_with fail
  refine HS.out.mono ?_
  rintro e w1 ⟨b, rfl, hb0, hb1, hb⟩
  clear c0
  have hM1 := Lib.hid (Blk.below HM.out hb HM.out.lt)
  have c1 : w1.cell? ⟨b, 0, none⟩ = some (.string s) := hb1.cell 0
  have c2 : w1.cell? ⟨r, 3, none⟩ = some (.map (some km)) := ((Blk.below HR.out hb HR.out.lt).cell 3).trans H3.out
  have hlk : ∀ n, (Instr.lookup 108 (.map (some km)) (.string s) false).run Tryz.prog (w1.drewN n) = .ok v (w1.drewN n) := fun n => HL.out _ (hb.block km hk)
  go_wp2_with fail
  refine wp_loop_rounds 2 ?_
  rw [rounds_succ]
  go_wp2_with fail
  go_quiet ((go_at_call 197; exact Calls.quiet_of_same (key_ok m cs s _ hM1.out H0.out)))
  clear hlk c1 c2
  rcases hv with rfl | ⟨nb, rfl⟩
  · go_wp2_with fail
    go_ret
    exact ⟨rfl, hb.trans ⟨rfl, rfl, rfl, Nat.le_refl _, fun _ _ => rfl⟩⟩
  · go_wp2_with fail
    rw [rounds_succ]
    go_wp2_with fail
    go_ret
    exact ⟨rfl, hb.trans ⟨rfl, rfl, rfl, Nat.le_refl _, fun _ _ => rfl⟩⟩
set_option maxRecDepth 100000 in
set_option maxHeartbeats 1000000 in
/-- the way to a path of one name: the root. -/
theorem way_one (m r : Nat) (cs : Array Value) (s : ByteArray) (w : World) (g : Gl w) (h : Nm s) (hm : Blk w m 115 cs) (h10 : cs[10]? = some (pt r)) : Calls Tryz.prog 187 #[pt m, .string s] w fun e w' => e = .returned (.tuple #[pt r, .int .i64 0]) ∧ Below w.heap.size w w' := by
  have HS := Lib.hid (storeParts_ok s w g h)
  have c0 : w.cell? ⟨m, 10, none⟩ = some (pt r) := (hm.cell 10).trans h10
  clear h g hm h10
  go_enter Tryz.func187, Tryz.ntmps187
  go_wp2_with fail
  refine HS.out.mono ?_
  rintro e w1 ⟨b, rfl, hb0, hb1, hb⟩
  clear c0 hb1
  go_wp2_with fail
  refine wp_loop_rounds 1 ?_
  rw [rounds_succ]
  go_wp2_with fail
  go_ret2
  exact ⟨rfl, hb⟩
end Go.Proofs.YtobiacdeoeogaaaGreatDoor
