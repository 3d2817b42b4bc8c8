/-
  slices.Sorted of slices.Values of two ints, 2 and 1: a new slice that holds 1 and 2.
-/
import Derived.Test.YtfcnmdmbkoekcaaGreatDoorYe
import Derived.Test.YtfcnmdmbkoekcaaGreatDoorSort
import Derived.Lib.SlKeysI
set_option linter.unusedVariables false
set_option linter.unusedSimpArgs false
namespace Go.Proofs.YtfcnmdmbkoekcaaGreatDoor
open Go.RowKit Go.Shelf
theorem sort21 : ([2, 1] : List Int).mergeSort (fun x y => decide (x ≤ y)) = [1, 2] := by
  simp [List.mergeSort, List.MergeSort.Internal.splitInTwo, List.merge]
theorem appendSeq_two (Bs b cap : Nat) (w : World) (hBs : Bs < w.heap.size) (hb : b < w.heap.size)
    (hc : w.cell? ⟨Bs, 0, none⟩ = some (.slice (some ⟨b, 0, none⟩) 2 cap)) (h1 : w.cell? ⟨b, 0, none⟩ = some (.int .i64 2)) (h2 : w.cell? ⟨b, 1, none⟩ = some (.int .i64 1)) :
    Calls Tryz.prog 78 #[.slice none 0 0, .func (.func 56) #[] #[.pointer (some ⟨Bs, 0, none⟩)]] w fun e W' => ∃ v, e = .returned v ∧ W'.ownsRow w.heap.size 3 1 v 2 ([2, 1].map (Value.int .i64)) ∧ Below w.heap.size w W' := by
  refine (callsIn_wide (n := 3)).1 ?_
  refine (appendSeq_in Fence.wide 3 trivial trivial rfl (by omega) Bs b 0 cap [2, 1] (by decide) w hBs hb hc ?_).mono ?_
  · intro j hj
    rcases (show j = 0 ∨ j = 1 by simp at hj; omega) with rfl | rfl
    · exact h1
    · exact h2
  · rintro e W' ⟨v, he, hr, _, hb⟩
    exact ⟨v, he, hr, hb⟩
set_option maxRecDepth 100000 in
set_option maxHeartbeats 4000000 in
theorem collect_two (Bs b cap : Nat) (w : World) (hBs : Bs < w.heap.size) (hb : b < w.heap.size)
    (hc : w.cell? ⟨Bs, 0, none⟩ = some (.slice (some ⟨b, 0, none⟩) 2 cap)) (h1 : w.cell? ⟨b, 0, none⟩ = some (.int .i64 2)) (h2 : w.cell? ⟨b, 1, none⟩ = some (.int .i64 1)) :
    Calls Tryz.prog 54 #[.func (.func 56) #[] #[.pointer (some ⟨Bs, 0, none⟩)]] w fun e W' => ∃ v, e = .returned v ∧ W'.ownsRow w.heap.size 3 1 v 2 ([2, 1].map (Value.int .i64)) ∧ Below w.heap.size w W' := by
  have C := Lib.hid (appendSeq_two Bs b cap w hBs hb hc h1 h2)
  clear hc h1 h2
  go_enter Tryz.func54, Tryz.ntmps54
  go_wp2_with fail
  refine C.out.mono ?_
  rintro e w1 ⟨v, rfl, hr, hb1⟩
  have HR := Lib.hid hr
  have HB := Lib.hid hb1
  clear hr hb1 C
  go_wp2_with fail
  go_ret
  exact ⟨v, rfl, HR.out, HB.out⟩
set_option maxRecDepth 100000 in
set_option maxHeartbeats 4000000 in
theorem sorted_two (Bs b cap : Nat) (w : World) (hBs : Bs < w.heap.size) (hb : b < w.heap.size)
    (hc : w.cell? ⟨Bs, 0, none⟩ = some (.slice (some ⟨b, 0, none⟩) 2 cap)) (h1 : w.cell? ⟨b, 0, none⟩ = some (.int .i64 2)) (h2 : w.cell? ⟨b, 1, none⟩ = some (.int .i64 1)) :
    Calls Tryz.prog 26 #[.func (.func 56) #[] #[.pointer (some ⟨Bs, 0, none⟩)]] w fun e W' => ∃ g c, e = .returned (.slice (some ⟨g, 0, none⟩) 2 c) ∧ W'.cell? ⟨g, 0, none⟩ = some (.int .i64 1) ∧ W'.cell? ⟨g, 1, none⟩ = some (.int .i64 2) ∧ Below w.heap.size w W' := by
  have C := Lib.hid (collect_two Bs b cap w hBs hb hc h1 h2)
  clear hc h1 h2
  go_enter Tryz.func26, Tryz.ntmps26
  go_wp2_with fail
  refine C.out.mono ?_
  rintro e w1 ⟨v, rfl, hr, hb1⟩
  obtain ⟨_, ⟨_, h0⟩ | ⟨g, c2, cur, rfl, hgb, hgg, r1, r2, r3, r4⟩⟩ := hr
  · cases h0
  have hH : Sort.Holds encZ w1 g 0 ([2, 1] : List Int).toArray := holds_of_block_i hgg (by simpa using r4)
  have hgl : g < w1.heap.size := (Array.getElem?_eq_some_iff.1 hgg).1
  have CS := Lib.hid (show Calls Tryz.prog 55 #[.slice (some ⟨g, 0, none⟩) 2 c2] w1 fun e w' => e = .returned (.tuple #[]) ∧ ∃ n os, w' = Sort.grow (Sort.putRow encZ (Sort.ahead w1 n) g 0 (([2, 1] : List Int).mergeSort fun x y => decide (x ≤ y)).toArray) os from
    Tryz.slices_Sort_int g 0 c2 [2, 1] w1 hH hgl (by decide))
  have HS := Lib.hid (fun n os => ownsRow_sorted_i (n := n) (os := os) (ss := [2, 1]) (ts := ([2, 1] : List Int).mergeSort fun x y => decide (x ≤ y)) (by simp) hgb hgg r1 r2 r3)
  have HB := Lib.hid hb1
  have HGB := Lib.hid hgb
  clear hb1 C hH hgg hgl r1 r2 r3 r4 hgb
  go_wp2_with fail
  refine CS.out.mono ?_
  rintro e w2 ⟨rfl, n, os, hw2⟩
  have HR2 := Lib.hid (show w2.ownsRow w.heap.size 3 1 (.slice (some ⟨g, 0, none⟩) 2 c2) 2 [.int .i64 1, .int .i64 2] from by
    have h := HS.out n os
    rw [sort21] at h
    rw [hw2, sort21]
    exact h)
  have HB2 := Lib.hid (show Below w.heap.size w w2 from by rw [hw2]; exact HB.out.grown (grownBy_sorted_i _) HB.out.size (fun j hj => by cases hj; exact HGB.out))
  clear hw2 HS HB CS
  go_wp2_with fail
  go_ret
  have hcell := HR2.out.cells (g := g) rfl
  refine ⟨g, c2, rfl, ?_, ?_, HB2.out⟩
  · have := hcell 0 _ rfl
    simpa [Addr.add] using this
  · have := hcell 1 _ rfl
    simpa [Addr.add] using this
end Go.Proofs.YtfcnmdmbkoekcaaGreatDoor
