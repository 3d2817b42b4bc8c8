import Derived.Test.YtdfloglicjocbaaRows
import Derived.WalkKit
import Derived.WalkSpells
import Derived.WalkLawsBesides
import Derived.Deep.QuietTactic
import Derived.BigQuiet
import Derived.Lib.Hide
import Derived.RegionTactic
import Derived.BigRegion
import Derived.Outline
import Derived.Laws.Rows
import Derived.Deep.RegionHeld3
namespace Go.Proofs.Ytdfloglicjocbaa
open Go.RowKit

abbrev featC : Array Value := #[.int .i64 3071, .int .i64 16, .int .i64 1, .int .i64 255, .int .i64 1024, .int .i64 100000, .int .i64 3, .int .i64 1, .string ByteArray.empty]

theorem clock38 (w : World) : Calls Try.prog 38 #[.int .i64 0] w fun e w' => e = .returned (.pointer (some ⟨w.heap.size, 0, none⟩)) ∧ w.alloc (.cells #[.int .i64 0] 117) = w' := by
  go_enter Try.func38, Try.ntmps38
  go_wp2
  go_ret
  exact ⟨rfl, rfl⟩

theorem wide37 (w : World) : Calls Try.prog 37 #[] w fun e w' => e = .returned (.agg featC) ∧ Below w.heap.size w w' := by
  go_enter Try.func37, Try.ntmps37
  go_wp2
  exact bodyPost_ret (v := .agg featC) (by simp [results, Try.results37, go_sem]; rfl) rfl ⟨rfl, (Below.refl _ _).alloc (Nat.le_refl _) _⟩

theorem forbid71 (w : World) : Calls Try.prog 71 #[.string ByteArray.empty] w fun e w' => e = .returned (.bool true) ∧ w = w' := by
  go_enter Try.func71, Try.ntmps71
  go_wp2
  go_loop [8] (fun i => i = .int .i64 0) (fun _ => 0)
  case atStart => rfl
  case round =>
    subst hrel
    go_wp2
    go_ret
    exact ⟨rfl, rfl⟩

theorem kinds72 (w : World) : Calls Try.prog 72 #[] w fun e w' => e = .returned (.slice (some ⟨w.heap.size, 0, none⟩) 5 5) ∧ w.alloc (.cells #[.int .i64 1, .int .i64 2, .int .i64 3, .int .i64 4, .int .i64 5] 3) = w' := by
  go_enter Try.func72, Try.ntmps72
  go_wp2
  go_ret
  exact ⟨rfl, rfl⟩

set_option maxRecDepth 100000 in
set_option maxHeartbeats 2000000 in
theorem features59 (w : World) : Calls Try.prog 59 #[.agg featC] w fun e w' => e = .returned (.int .i64 0) ∧ Below w.heap.size w w' := by
  have b1 : bits BinOp.and IntKind.i64 3071 8 = 8 := by decide
  have b2 : bits BinOp.and IntKind.i64 3071 4 = 4 := by decide
  have b3 : bits BinOp.and IntKind.i64 3071 2048 = 2048 := by decide
  have b4 : bits BinOp.and IntKind.i64 3071 64 = 64 := by decide
  have c1 : bits BinOp.or IntKind.i64 0 2 = 2 := by decide
  have c2 : bits BinOp.or IntKind.i64 2 4 = 6 := by decide
  have c3 : bits BinOp.or IntKind.i64 6 8 = 14 := by decide
  have c4 : bits BinOp.or IntKind.i64 14 16 = 30 := by decide
  have c5 : bits BinOp.or IntKind.i64 30 32 = 62 := by decide
  have c6 : bits BinOp.andNot IntKind.i64 16 62 = 0 := by decide
  go_enter Try.func59, Try.ntmps59
  go_wp2_with (first | (go_at_call 71; refine (forbid71 _).mono ?_; rintro e w' ⟨rfl, rfl⟩) | (go_at_call 72; refine (kinds72 _).mono ?_; rintro e w' ⟨rfl, rfl⟩) | go_in)
  go_loop [5, 43] (fun v i => (i = .int .i64 0 ∧ v = .int .i64 0) ∨ (i = .int .i64 1 ∧ v = .int .i64 2) ∨ (i = .int .i64 2 ∧ v = .int .i64 6) ∨ (i = .int .i64 3 ∧ v = .int .i64 14) ∨ (i = .int .i64 4 ∧ v = .int .i64 30) ∨ (i = .int .i64 5 ∧ v = .int .i64 62)) (fun _ i => 5 - (intOf i).toNat)
  case atStart => exact .inl ⟨rfl, rfl⟩
  case round =>
    rcases hrel with ⟨rfl, rfl⟩ | ⟨rfl, rfl⟩ | ⟨rfl, rfl⟩ | ⟨rfl, rfl⟩ | ⟨rfl, rfl⟩ | ⟨rfl, rfl⟩
    · go_wp2
      go_round
      case rel => exact .inr (.inl ⟨rfl, rfl⟩)
      case measure => simp [intOf]
    · go_wp2
      go_round
      case rel => exact .inr (.inr (.inl ⟨rfl, rfl⟩))
      case measure => simp [intOf]
    · go_wp2
      go_round
      case rel => exact .inr (.inr (.inr (.inl ⟨rfl, rfl⟩)))
      case measure => simp [intOf]
    · go_wp2
      go_round
      case rel => exact .inr (.inr (.inr (.inr (.inl ⟨rfl, rfl⟩))))
      case measure => simp [intOf]
    · go_wp2
      go_round
      case rel => exact .inr (.inr (.inr (.inr (.inr ⟨rfl, rfl⟩))))
      case measure => simp [intOf]
    · go_wp2
      go_ret
      exact ⟨rfl, ((Below.refl _ _).alloc (Nat.le_refl _) _).alloc (by simp) _⟩

set_option maxRecDepth 100000 in
set_option maxHeartbeats 2000000 in
theorem clone75 (w : World) : Calls Try.prog 75 #[.slice none 0 0] w fun e w' => e = .returned (.slice none 0 0) ∧ w = w' := by
  have he : ∀ w : World, (binOp .eql 103 (.slice none 0 0) (.slice none 0 0)).run Try.prog w = .ok (.bool true) w := fun _ => by kernel_rfl
  go_enter Try.func75, Try.ntmps75
  go_wp2
  go_ret
  exact ⟨rfl, rfl⟩

set_option maxRecDepth 100000 in
set_option maxHeartbeats 2000000 in
theorem plan60 (g : Nat) (v14 v15 : Value) (w : World) (hg : g < w.heap.size) (h14 : w.cell? ⟨g, 14, none⟩ = some v14) (h15 : w.cell? ⟨g, 15, none⟩ = some v15) (f14 : w.frozen? ⟨g, 14, none⟩ = false) (f15 : w.frozen? ⟨g, 15, none⟩ = false) : Calls Try.prog 60 #[.pointer (some ⟨g, 0, none⟩), .slice none 0 0] w fun e w' => e = .returned (.int .i64 0) ∧ Below g w w' := by
  have hmk : ∀ w : World, (Instr.makeSlice 26 (.int .i64 14) (.int .i64 14)).run Try.prog w = .ok (.slice (some ⟨w.heap.size, 0, none⟩) 14 14) (w.alloc (.cells (Array.replicate 14 (.int .i64 0)) 3)) := fun _ => by kernel_rfl
  go_enter Try.func60, Try.ntmps60
  go_wp2
  go_loop [12] (fun i => i = .int .i64 0) (fun _ => 0)
  case atStart => rfl
  case round =>
    subst hrel
    go_wp2_with (go_at_call 75; refine (clone75 _).mono ?_; rintro e w' ⟨rfl, rfl⟩)
    go_ret
    refine ⟨rfl, Below.alloc (Below.setCell (Below.setCell (Below.refl _ _) ?_ _) ?_ _) ?_ _⟩
    · exact Nat.le_refl _
    · exact Nat.le_refl _
    · simp; omega

theorem cell_far {w : World} {p : Addr} {v : Value} {o : Obj} (h : w.cell? p = some v) : (w.alloc o).cell? p = some v := by rw [World.cell?_alloc_some _ _ _ (by simp [h])]; exact h
theorem cell_drw {w : World} {p : Addr} {v : Value} (h : w.cell? p = some v) : w.drew.cell? p = some v := h
theorem cell_old2 {w : World} {p : Addr} {o : Obj} (h : p.block < w.heap.size) : (w.alloc o).cell? p = w.cell? p := World.cell?_of_block (w := w) (Below.heap_alloc _ _ _ h)
theorem drw_cell {w : World} {p : Addr} : w.drew.cell? p = w.cell? p := rfl
theorem World.size_drew' (w : World) : w.drew.heap.size = w.heap.size := rfl
theorem World.heap_alloc_size (w : World) (o : Obj) : (w.alloc o).heap.size = w.heap.size + 1 := by show (w.heap.push o).size = _; simp
theorem cell_newest {w : World} {cs : Array Value} {t : TypeId} {g i : Nat} {v : Value} (hg : g = w.heap.size) (h : cs[i]? = some v) : (w.alloc (.cells cs t)).drew.cell? ⟨g, i, none⟩ = some v := by
  subst hg
  show (w.alloc (.cells cs t)).cell? ⟨w.heap.size, i, none⟩ = some v
  exact (cell_of_row _ _ _ cs t (0, 0) (heap_alloc_new w _)).trans h
theorem frozen_newest {w : World} {cs : Array Value} {t : TypeId} {g i : Nat} (hg : g = w.heap.size) : (w.alloc (.cells cs t)).drew.frozen? ⟨g, i, none⟩ = false := by
  subst hg
  show (w.alloc (.cells cs t)).frozen? ⟨w.heap.size, i, none⟩ = false
  exact frozen_of_row _ _ _ cs t (heap_alloc_new w _)
theorem lt_of_cell {w : World} {g i : Nat} {v : Value} (h : w.cell? ⟨g, i, none⟩ = some v) : g < w.heap.size := by
  rcases Nat.lt_or_ge g w.heap.size with h1 | h1
  · exact h1
  · rw [World.cell?] at h; simp [Array.getElem?_eq_none h1] at h

set_option maxRecDepth 100000 in
set_option maxHeartbeats 0 in
theorem new36 (g : Nat) (w : World) (hg : w.cell? ⟨g, 0, none⟩ = some (.int .i64 0)) : Calls Try.prog 36 #[.agg featC, .pointer (some ⟨g, 0, none⟩), .slice none 0 0] w fun e w' => (∃ v n, e = .returned (.tuple #[.pointer v, .int .i64 n])) ∧ Below w.heap.size w w' := by
  have hmk : ∀ w : World, (Instr.makeSlice 26 (.int .i64 14) (.int .i64 14)).run Try.prog w = .ok (.slice (some ⟨w.heap.size, 0, none⟩) 14 14) (w.alloc (.cells (Array.replicate 14 (.int .i64 0)) 3)) := fun _ => by kernel_rfl
  have hmm := @run_makeMap Try.prog
  go_enter Try.func36, Try.ntmps36
  go_wp2_with fail
  refine (features59 _).mono ?_
  rintro e w1 ⟨rfl, hb1⟩
  have hc : ∀ i, w1.cell? ⟨w.heap.size, i, none⟩ = featC[i]? := fun i => (hb1.cell (p := ⟨w.heap.size, i, none⟩) (by simp)).trans (by simp)
  have hz : w.heap.size < w1.heap.size := by have := hb1.size; simp at this; omega
  have HB1 := Lib.hid (show Below w.heap.size w w1 from ((Below.refl w.heap.size w).alloc (Nat.le_refl _) _).trans (hb1.mono (by simp)))
  clear hb1
  go_wp2_with fail
  go_region_held3 (fun w' => ∀ p : Addr, p.block < w1.heap.size → w'.cell? p = w1.cell? p) (first | (intro p hp; simp only [drw_cell]; (repeat' (first | (with_reducible rfl) | assumption | (with_reducible refine (cell_old2 ?_).trans ?_) | (simp only [World.heap_alloc_size]; omega))); done))  (fail)
  all_goals
    go_wp2_with fail
    refine (plan60 (w1.heap.size + 1 + 1 + 1 + 1 + 1) (.slice none 0 0) (.slice none 0 0) _ ?_ ?_ ?_ ?_ ?_).mono ?_
    · simp
    · exact cell_newest (by simp only [World.heap_alloc_size]) rfl
    · exact cell_newest (by simp only [World.heap_alloc_size]) rfl
    · exact frozen_newest (by simp only [World.heap_alloc_size])
    · exact frozen_newest (by simp only [World.heap_alloc_size])
    rintro e w2 ⟨rfl, hb2⟩
    have HB2 := Lib.hid hb2
    clear hb2
    go_wp2_with fail
    go_ret2
    refine ⟨⟨_, _, rfl⟩, HB1.out.trans (Below.trans ?_ (HB2.out.mono (by omega)))⟩
    (repeat (first | exact Below.refl _ _ | with_reducible refine Below.drew ?_ | (with_reducible refine Below.alloc ?_ ?_ _; rotate_left; (first | omega | (simp only [World.heap_alloc_size, World.size_drew']; omega)))))

end Go.Proofs.Ytdfloglicjocbaa
