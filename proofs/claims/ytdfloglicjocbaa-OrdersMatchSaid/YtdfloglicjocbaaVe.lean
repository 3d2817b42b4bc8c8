import Derived.Test.YtdfloglicjocbaaVd
import Derived.Test.YtdfloglicjocbaaPa
set_option linter.unusedVariables false
set_option linter.unusedSimpArgs false
namespace Go.Proofs.Ytdfloglicjocbaa
open Go.Shelf Go.RowKit Go.Lib Go.Sort

/-- the steps as they were given. -/
structure Steps where
  K : Nat → Int
  P : Nat → ByteArray
  Q : Nat → ByteArray
  S : Nat → Int
  T : Nat → Int
def Steps.cells (s : Steps) (i : Nat) : Array Value := #[.int .i64 (s.K i), .string (s.P i), .string (s.Q i), .int .i64 (s.S i), .int .i64 (s.T i)]
/-- steps in memory, in blocks below B. -/
def StRow (w : World) (B : Nat) (a : Option Addr) (n : Nat) (s : Steps) : Prop :=
  ∀ i, i < n → ∃ b off, a = some ⟨b, off, none⟩ ∧ b < B ∧ ∀ c, c < 5 → w.cell? ⟨b, off + i * 5 + c, none⟩ = (s.cells i)[c]?
theorem StRow.below {w w' : World} {B : Nat} {a : Option Addr} {n : Nat} {s : Steps} (h : StRow w B a n s) (hb : Below B w w') : StRow w' B a n s := by
  intro i hi
  obtain ⟨b, off, e, hlt, hc⟩ := h i hi
  exact ⟨b, off, e, hlt, fun c hc5 => (hb.cell (p := ⟨b, off + i * 5 + c, none⟩) hlt).trans (hc c hc5)⟩
theorem StRow.more {w : World} {B B' : Nat} {a : Option Addr} {n : Nat} {s : Steps} (h : StRow w B a n s) (hb : B ≤ B') : StRow w B' a n s := by
  intro i hi
  obtain ⟨b, off, e, hlt, hc⟩ := h i hi
  exact ⟨b, off, e, by omega, hc⟩
def cmpI (a b : Int) : Int := if a < b then -1 else if b < a then 1 else 0
set_option maxHeartbeats 400000 in
theorem compare81 (a b : Int) (w : World) : Calls Try.prog 81 #[.int .i64 a, .int .i64 b] w fun e w' => e = .returned (.int .i64 (cmpI a b)) ∧ w = w' := by
  unfold cmpI
  by_cases h1 : a < b
  · rw [if_pos h1]
    go_enter Try.func81, Try.ntmps81
    go_wp2_with fail
    go_ret
    exact ⟨rfl, rfl⟩
  · rw [if_neg h1]
    by_cases h2 : b < a
    · rw [if_pos h2]
      go_enter Try.func81, Try.ntmps81
      go_wp2_with fail
      go_ret
      exact ⟨rfl, rfl⟩
    · rw [if_neg h2]
      go_enter Try.func81, Try.ntmps81
      go_wp2_with fail
      go_ret
      exact ⟨rfl, rfl⟩
/-- what is asked of a way to compare two steps. -/
def CmpSteps (f : Nat) (s : Steps) (c : Nat → Nat → Int) : Prop :=
  ∀ (x y : Nat) (w : World), Calls Try.prog f #[.agg (s.cells x), .agg (s.cells y)] w fun e w' => e = .returned (.int .i64 (c x y)) ∧ ∃ q os, w' = grow (w.drewN q) os
theorem two_grown (w : World) (a b : Obj) : ∃ q os, (w.alloc a).alloc b = grow (w.drewN q) os := by
  refine ⟨0, #[a] ++ #[b], ?_⟩
  rw [alloc_eq_grow, alloc_eq_grow, grow_grow]; rfl
set_option maxHeartbeats 400000 in
theorem small80 (s : Steps) : CmpSteps 80 s (fun x y => cmpI (s.S x) (s.S y)) := by
  intro x y w
  unfold Steps.cells
  go_enter Try.func80, Try.ntmps80
  go_wp2_with (go_at_call 81; refine (compare81 _ _ _).mono ?_; rintro e w' ⟨rfl, rfl⟩)
  go_ret
  exact ⟨rfl, two_grown _ _ _⟩
set_option maxHeartbeats 400000 in
theorem large82 (s : Steps) : CmpSteps 82 s (fun x y => cmpI (s.S y) (s.S x)) := by
  intro x y w
  unfold Steps.cells
  go_enter Try.func82, Try.ntmps82
  go_wp2_with (go_at_call 81; refine (compare81 _ _ _).mono ?_; rintro e w' ⟨rfl, rfl⟩)
  go_ret
  exact ⟨rfl, two_grown _ _ _⟩
set_option maxHeartbeats 400000 in
theorem newest83 (s : Steps) : CmpSteps 83 s (fun x y => cmpI (s.T y) (s.T x)) := by
  intro x y w
  unfold Steps.cells
  go_enter Try.func83, Try.ntmps83
  go_wp2_with (go_at_call 81; refine (compare81 _ _ _).mono ?_; rintro e w' ⟨rfl, rfl⟩)
  go_ret
  exact ⟨rfl, two_grown _ _ _⟩

set_option maxHeartbeats 1000000 in
set_option maxRecDepth 100000 in
theorem closure79 (f : Nat) (s : Steps) (c : Nat → Nat → Int) (hf : CmpSteps f s c) (ef : ∀ args w, (callFunc f args).run Try.prog w = .ok (.enter f args) w) (gf gl lb lo n lc x y : Nat) (w : World)
    (h1 : w.cell? ⟨gf, 0, none⟩ = some (.func (.func f) #[] #[])) (h2 : w.cell? ⟨gl, 0, none⟩ = some (.slice (some ⟨lb, lo, none⟩) n lc)) (hgf : gf < w.heap.size) (hgl : gl < w.heap.size) (hlb : lb < w.heap.size)
    (hx : ∀ c, c < 5 → w.cell? ⟨lb, lo + x * 5 + c, none⟩ = (s.cells x)[c]?) (hy : ∀ c, c < 5 → w.cell? ⟨lb, lo + y * 5 + c, none⟩ = (s.cells y)[c]?) (hxn : x < n) (hyn : y < n) (hn : n ≤ 20000) :
    Calls Try.prog 79 #[.int .i64 x, .int .i64 y, .pointer (some ⟨gf, 0, none⟩), .pointer (some ⟨gl, 0, none⟩)] w fun e w' => e = .returned (.int .i64 (c x y)) ∧ ∃ q os, w' = grow (w.drewN q) os := by
  have mixed := Try.laysSlF20_f100.mixed
  have l1 : ∀ m os, (grow (w.drewN m) os).cell? ⟨gf, 0, none⟩ = some (.func (.func f) #[] #[]) := fun m os => by rw [cell?_grow _ _ _ (by exact hgf)]; exact h1
  have l2 : ∀ m os, (grow (w.drewN m) os).cell? ⟨gl, 0, none⟩ = some (.slice (some ⟨lb, lo, none⟩) n lc) := fun m os => by rw [cell?_grow _ _ _ (by exact hgl)]; exact h2
  have lx0 : ∀ m os, (grow (w.drewN m) os).cell? ⟨lb, lo + x * 5, none⟩ = some (.int .i64 (s.K x)) := fun m os => by rw [cell?_grow _ _ _ (by exact hlb)]; exact hx 0 (by omega)
  have lx1 : ∀ m os, (grow (w.drewN m) os).cell? ⟨lb, lo + x * 5 + 1, none⟩ = some (.string (s.P x)) := fun m os => by rw [cell?_grow _ _ _ (by exact hlb)]; exact hx 1 (by omega)
  have lx2 : ∀ m os, (grow (w.drewN m) os).cell? ⟨lb, lo + x * 5 + 2, none⟩ = some (.string (s.Q x)) := fun m os => by rw [cell?_grow _ _ _ (by exact hlb)]; exact hx 2 (by omega)
  have lx3 : ∀ m os, (grow (w.drewN m) os).cell? ⟨lb, lo + x * 5 + 3, none⟩ = some (.int .i64 (s.S x)) := fun m os => by rw [cell?_grow _ _ _ (by exact hlb)]; exact hx 3 (by omega)
  have lx4 : ∀ m os, (grow (w.drewN m) os).cell? ⟨lb, lo + x * 5 + 4, none⟩ = some (.int .i64 (s.T x)) := fun m os => by rw [cell?_grow _ _ _ (by exact hlb)]; exact hx 4 (by omega)
  have ly0 : ∀ m os, (grow (w.drewN m) os).cell? ⟨lb, lo + y * 5, none⟩ = some (.int .i64 (s.K y)) := fun m os => by rw [cell?_grow _ _ _ (by exact hlb)]; exact hy 0 (by omega)
  have ly1 : ∀ m os, (grow (w.drewN m) os).cell? ⟨lb, lo + y * 5 + 1, none⟩ = some (.string (s.P y)) := fun m os => by rw [cell?_grow _ _ _ (by exact hlb)]; exact hy 1 (by omega)
  have ly2 : ∀ m os, (grow (w.drewN m) os).cell? ⟨lb, lo + y * 5 + 2, none⟩ = some (.string (s.Q y)) := fun m os => by rw [cell?_grow _ _ _ (by exact hlb)]; exact hy 2 (by omega)
  have ly3 : ∀ m os, (grow (w.drewN m) os).cell? ⟨lb, lo + y * 5 + 3, none⟩ = some (.int .i64 (s.S y)) := fun m os => by rw [cell?_grow _ _ _ (by exact hlb)]; exact hy 3 (by omega)
  have ly4 : ∀ m os, (grow (w.drewN m) os).cell? ⟨lb, lo + y * 5 + 4, none⟩ = some (.int .i64 (s.T y)) := fun m os => by rw [cell?_grow _ _ _ (by exact hlb)]; exact hy 4 (by omega)
  unfold CmpSteps at hf
  have hc : ∀ W, Calls Try.prog f #[.agg (s.cells x), .agg (s.cells y)] W fun e w' => e = .returned (.int .i64 (c x y)) ∧ ∃ q os, w' = grow (W.drewN q) os := fun W => hf x y W
  unfold Steps.cells at hc
  have k1 : (x : Int) < (n : Int) := by omega
  have k2 : (y : Int) < (n : Int) := by omega
  clear hf hx hy h1 h2 hgf hgl hlb
  go_enter Try.func79, Try.ntmps79
  go_wp2_with fail
  go_quiet_grown (first | (go_at_fn f; refine Calls.grown_of (hc _)))
  go_wp2_with fail
  go_ret
  exact ⟨rfl, _, _, rfl⟩
end Go.Proofs.Ytdfloglicjocbaa
