import Derived.Test.YtdfloglicjocbaaE
import Derived.Laws.Rows
namespace Go.Proofs.Ytdfloglicjocbaa
open Go.RowKit

/-- block g is just the cells cs. -/
def Blk (w : World) (g : Nat) (t : TypeId) (cs : Array Value) : Prop := w.heap[g]? = some (.cells cs t (0, 0))
section
variable {w w' : World} {g : Nat} {t : TypeId} {cs : Array Value}
theorem Blk.lt (h : Blk w g t cs) : g < w.heap.size := by
  rcases Nat.lt_or_ge g w.heap.size with hlt | hge
  · exact hlt
  · unfold Blk at h; rw [Array.getElem?_eq_none hge] at h; cases h
theorem Blk.cell (h : Blk w g t cs) (i : Nat) : w.cell? ⟨g, i, none⟩ = cs[i]? := by
  unfold Blk at h; simp [World.cell?, h]
theorem Blk.frozen (h : Blk w g t cs) (i : Nat) : w.frozen? ⟨g, i, none⟩ = false := by
  unfold Blk at h; simp [World.frozen?, h]
theorem Blk.set (h : Blk w g t cs) (i : Nat) (u : Value) : Blk (w.setCell ⟨g, i, none⟩ u) g t (cs.setIfInBounds i u) := by
  unfold Blk at h ⊢; simp [World.setCell, Array.getElem?_modify, h]
theorem Blk.new (w : World) (t : TypeId) (cs : Array Value) : Blk (w.alloc (.cells cs t)) w.heap.size t cs := by
  exact heap_alloc_new w _
theorem Blk.below {B : Nat} (h : Blk w g t cs) (hb : Below B w w') (hg : g < B) : Blk w' g t cs := (hb.block g hg).trans h
end
/-- only block g, and what is new, has turned. -/
theorem only_refl (w : World) (g : Nat) : w.grownBy w (some g) := ⟨rfl, rfl, rfl, Nat.le_refl _, fun _ _ _ => rfl⟩
theorem only_set {a w : World} {g : Nat} (h : a.grownBy w (some g)) (i : Nat) (u : Value) : a.grownBy (w.setCell ⟨g, i, none⟩ u) (some g) :=
  ⟨h.os, h.tape, h.output, by simpa [World.setCell] using h.size, fun k hk hne => (Below.heap_setCell w ⟨g, i, none⟩ u k (fun e => hne (by rw [e]))).trans (h.block k hk hne)⟩
theorem only_drewN {a w : World} {g : Nat} (h : a.grownBy w (some g)) (n : Nat) : a.grownBy (w.drewN n) (some g) := ⟨h.os, h.tape, h.output, h.size, h.block⟩
theorem only_drew {a w : World} {g : Nat} (h : a.grownBy w (some g)) : a.grownBy w.drew (some g) := ⟨h.os, h.tape, h.output, h.size, h.block⟩
theorem only_below {B g : Nat} {a w w' : World} (h : Below B a w) (hg : w.grownBy w' (some g)) (hB : B ≤ w.heap.size) (hr : B ≤ g) : Below B a w' :=
  h.grown hg hB (fun k hk => by injection hk with hk; omega)

abbrev pacC (f m k j t p l : Int) (b : Bool) : Array Value := #[.int .i64 f, .int .i64 m, .int .i64 k, .int .i64 j, .int .i64 t, .int .i64 p, .int .i64 l, .bool b]

set_option maxHeartbeats 400000 in
theorem pause21 (g : Nat) (f m k j t p l : Int) (b : Bool) (w : World) (h : Blk w g 91 (pacC f m k j t p l b)) :
    Calls Try.prog 21 #[.pointer (some ⟨g, 0, none⟩)] w fun e w' => e = .returned (.int .i64 p) ∧ w = w' := by
  have hc := h.cell
  clear h
  go_enter Try.func21, Try.ntmps21
  go_wp2
  go_ret
  exact ⟨rfl, rfl⟩

def Pac (w : World) (g : Nat) (f m k j t p l : Int) (b : Bool) (ret : Value) (e : Ending) (w' : World) : Prop := e = .returned ret ∧ Blk w' g 91 (pacC f m k j t p l b) ∧ w.grownBy w' (some g)

set_option maxHeartbeats 400000 in
theorem done22t (g : Nat) (f m k j t p l : Int) (b : Bool) (w : World) (h : Blk w g 91 (pacC f m k j t p l b)) (hp : 0 ≤ p) (hp' : p ≤ 360000000) :
    Calls Try.prog 22 #[.pointer (some ⟨g, 0, none⟩), .bool true] w (Pac w g f m k j t (max (p / 2) f) l b (.tuple #[])) := by
  have hc := h.cell
  have hz := h.frozen
  have HB := Lib.hid h
  have hmx : (if p / 2 < f then f else p / 2) = max (p / 2) f := ite_max _ _
  generalize max (p / 2) f = x at *
  clear h
  go_enter Try.func22, Try.ntmps22
  go_wp2
  go_region
  go_wp2
  refine bodyPost_ret (results_none rfl _ _ _) rfl ?_
  exact ⟨rfl, HB.out.set 5 _, only_drew (only_set (only_refl _ _) _ _)⟩

def dropP (p k m : Int) : Int := min (if p = 0 then 1 else p * k) m

set_option maxHeartbeats 400000 in
theorem done22f0 (g : Nat) (f m k j t l : Int) (b : Bool) (w : World) (h : Blk w g 91 (pacC f m k j t 0 l b)) :
    Calls Try.prog 22 #[.pointer (some ⟨g, 0, none⟩), .bool false] w (Pac w g f m k j t (min 1 m) l b (.tuple #[])) := by
  have hc := h.cell
  have hz := h.frozen
  have HB := Lib.hid h
  have hmx : (if m < 1 then m else 1) = min 1 m := ite_min _ _
  generalize min 1 m = x at *
  clear h
  go_enter Try.func22, Try.ntmps22
  go_wp2
  go_region
  go_wp2
  go_end0
  exact ⟨rfl, (HB.out.set 5 _).set 5 _, only_drew (only_set (only_set (only_refl _ _) _ _) _ _)⟩

set_option maxHeartbeats 400000 in
theorem done22f1 (g : Nat) (f m k j t p l : Int) (b : Bool) (w : World) (h : Blk w g 91 (pacC f m k j t p l b)) (h0 : (p == 0) = false) (h1 : 0 ≤ p * k) (h2 : p * k ≤ 360000000) :
    Calls Try.prog 22 #[.pointer (some ⟨g, 0, none⟩), .bool false] w (Pac w g f m k j t (min (p * k) m) l b (.tuple #[])) := by
  have hc := h.cell
  have hz := h.frozen
  have HB := Lib.hid h
  have hmx : (if m < p * k then m else p * k) = min (p * k) m := ite_min _ _
  generalize min (p * k) m = x at *
  clear h
  go_enter Try.func22, Try.ntmps22
  go_wp2
  go_region
  go_wp2
  go_region
  go_wp2
  go_end0
  exact ⟨rfl, (HB.out.set 5 _).set 5 _, only_drew (only_set (only_drew (only_set (only_refl _ _) _ _)) _ _)⟩

end Go.Proofs.Ytdfloglicjocbaa
