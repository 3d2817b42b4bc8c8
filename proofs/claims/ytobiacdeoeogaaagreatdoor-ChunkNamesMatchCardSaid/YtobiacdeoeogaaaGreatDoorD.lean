import Derived.Test.YtobiacdeoeogaaaGreatDoorK
import Derived.Test.YtobiacdeoeogaaaGreatDoorShelf
set_option linter.unusedVariables false
set_option linter.unusedSimpArgs false
namespace Go.Proofs.YtobiacdeoeogaaaGreatDoor
open Go.RowKit
/-- a text that is one name: no slash, no zero, not '.', not '..', of ASCII bytes. -/
structure Nm (s : ByteArray) : Prop where
  lo : 1 ≤ s.size
  hi : s.size ≤ 255
  asc : ∀ (j : Nat) b, s.data.toList[j]? = some b → b.toNat < 128
  bad : Lib.containsAny s.data.toList [0, 47] = false
  cnt : Lib.countB s ⟨#[47]⟩ = 0
  dot : (s.data.toList == [46]) = false
  dot2 : (s.data.toList == [46, 46]) = false
  last : Lib.lastIndexByte s 47 = -1
/-- the package-level variables that the walks read: MaxLen is an integer; the table of SHA-256 is 64 words. -/
structure Gl (w : World) : Prop where
  max : ∃ m, w.cell? ⟨2, 0, none⟩ = some (.int .i64 m)
  tab : ∀ i, i < 64 → ∃ v : Nat, v < 4294967296 ∧ w.cell? ⟨10, i, none⟩ = some (.int .u32 v)
theorem Gl.below {w w' : World} (h : Gl w) (hb : Below w.heap.size w w') : Gl w' := by
  obtain ⟨⟨m, hm⟩, ht⟩ := h
  refine ⟨⟨m, (hb.cell (World.block_lt_of_cell? _ _ hm)).trans hm⟩, fun i hi => ?_⟩
  obtain ⟨v, hv, hc⟩ := ht i hi
  exact ⟨v, hv, (hb.cell (World.block_lt_of_cell? _ _ hc)).trans hc⟩
theorem Gl.kp {S : List Nat} {w w' : World} (h : Gl w) (hb : Kp S w w') (h1 : 2 ∉ S) (h2 : 10 ∉ S) : Gl w' := by
  obtain ⟨⟨m, hm⟩, ht⟩ := h
  have key : ∀ b i v, b ∉ S → w.cell? ⟨b, i, none⟩ = some v → w'.cell? ⟨b, i, none⟩ = some v := fun b i v hn hc =>
    (World.cell?_of_block (w := w) (a := ⟨b, i, none⟩) (hb.block b (World.block_lt_of_cell? _ _ hc) hn)).trans hc
  refine ⟨⟨m, key _ _ _ h1 hm⟩, fun i hi => ?_⟩
  obtain ⟨v, hv, hc⟩ := ht i hi
  exact ⟨v, hv, key _ _ _ h2 hc⟩
theorem low2 : ∀ (j : Nat) b, (⟨#[0, 47]⟩ : ByteArray).data.toList[j]? = some b → b.toNat < 128 := by
  intro j b h
  have h2 : ([0, 47] : List UInt8)[j]? = some b := h
  match j, h2 with
  | 0, h2 => simp at h2; subst h2; decide
  | 1, h2 => simp at h2; subst h2; decide
  | (n + 2), h2 => simp at h2
set_option maxRecDepth 100000 in
set_option maxHeartbeats 1000000 in
theorem isName_ok (s : ByteArray) (w : World) (h : Nm s) : Calls Tryz.prog 65 #[.string s] w fun e w' => e = .returned (.bool true) ∧ Below w.heap.size w w' := by
  have hlo := h.lo
  have hhi := h.hi
  have hd0 : (s.toList.isEmpty) = false := by
    rw [Lib.toList_data]
    cases e : s.data.toList with
    | nil => have := Lib.size_eq s; rw [e, List.length_nil] at this; omega
    | cons _ _ => rfl
  have hd : (s.toList == [46]) = false := by rw [Lib.toList_data]; exact h.dot
  have hd2 : (s.toList == [46, 46]) = false := by rw [Lib.toList_data]; exact h.dot2
  have HC := Lib.hid (fun w => Tryz.strings_ContainsAny_laid s ⟨#[0, 47]⟩ w (by omega) (by decide) h.asc low2)
  have hB := h.bad
  have e0 : (⟨#[0, 47]⟩ : ByteArray).data.toList = [0, 47] := rfl
  rw [e0, hB] at HC
  clear hB e0 h
  go_enter Tryz.func65, Tryz.ntmps65
  go_wp2_with fail
  refine (HC.out _).mono ?_
  rintro e w1 ⟨rfl, hb⟩
  go_wp2_with fail
  go_ret
  exact ⟨rfl, hb⟩
theorem Gl.cellMax {w : World} (h : Gl w) : ∃ m, w.cell? ⟨2, 0, none⟩ = some (.int .i64 m) := h.max
/-- the split of a name is the name. -/
theorem split_one (s : ByteArray) (w : World) (g : Gl w) (h : Nm s) : Calls Tryz.prog 64 #[.string s, .string ⟨#[47]⟩] w fun e w' => e = .returned (.slice (some ⟨w.heap.size, 0, none⟩) 1 1) ∧ w' = w.alloc (.cells #[.string s] 9) := by
  obtain ⟨m, hm⟩ := g.max
  refine (Tryz.strings_Split s ⟨#[47]⟩ m w (by have := h.hi; omega) hm (by decide)).mono fun e w' ⟨he, hw⟩ => ?_
  rw [h.cnt] at he hw
  exact ⟨he, hw⟩
set_option maxRecDepth 100000 in
set_option maxHeartbeats 1000000 in
theorem check_ok (s : ByteArray) (w : World) (g : Gl w) (h : Nm s) : Calls Tryz.prog 40 #[.string s] w fun e w' => e = .returned (.int .i64 0) ∧ Below w.heap.size w w' := by
  have hlo := h.lo
  have hhi := h.hi
  have hd0 : (s.toList.isEmpty) = false := by
    rw [Lib.toList_data]
    cases e : s.data.toList with
    | nil => have := Lib.size_eq s; rw [e, List.length_nil] at this; omega
    | cons _ _ => rfl
  have HS := Lib.hid (split_one s w g h)
  have HN := Lib.hid (fun w => isName_ok s w h)
  clear h g
  go_enter Tryz.func40, Tryz.ntmps40
  go_wp2_with fail
  refine HS.out.mono ?_
  rintro e w1 ⟨rfl, rfl⟩
  go_wp2_with fail
  refine wp_loop_rounds 2 ?_
  rw [rounds_succ]
  go_wp2_with fail
  refine (HN.out _).mono ?_
  rintro e w1 ⟨rfl, hb⟩
  go_wp2_with fail
  rw [rounds_succ]
  go_wp2_with fail
  go_ret
  exact ⟨rfl, ((Below.refl w.heap.size w).alloc (Nat.le_refl _) _).trans (hb.mono (by simp))⟩
set_option maxRecDepth 100000 in
set_option maxHeartbeats 1000000 in
/-- the parts of a name: a new slice of one cell. -/
theorem parts_ok (s : ByteArray) (w : World) (g : Gl w) (h : Nm s) : Calls Tryz.prog 111 #[.string s] w fun e w' => ∃ b, e = .returned (.tuple #[.slice (some ⟨b, 0, none⟩) 1 1, .int .i64 0]) ∧ w.heap.size ≤ b ∧ Blk w' b 9 #[.string s] ∧ Below w.heap.size w w' := by
  have hlo := h.lo
  have hd0 : (s.toList.isEmpty) = false := by
    rw [Lib.toList_data]
    cases e : s.data.toList with
    | nil => have := Lib.size_eq s; rw [e, List.length_nil] at this; omega
    | cons _ _ => rfl
  have HK := Lib.hid (check_ok s w g h)
  have HS := Lib.hid (fun w1 (hb : Below w.heap.size w w1) => split_one s w1 (g.below hb) h)
  clear h g
  go_enter Tryz.func111, Tryz.ntmps111
  go_wp2_with fail
  refine HK.out.mono ?_
  rintro e w1 ⟨rfl, hb⟩
  go_wp2_with (first | (go_at_call 64; refine (HS.out _ hb).mono ?_; rintro e w2 ⟨rfl, rfl⟩) | go_in)
  go_ret2
  exact ⟨_, rfl, hb.size, Blk.new _ _ _, hb.alloc hb.size _⟩
end Go.Proofs.YtobiacdeoeogaaaGreatDoor
