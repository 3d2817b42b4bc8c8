import Derived.Test.YtdfloglicjocbaaPa
namespace Go.Proofs.Ytdfloglicjocbaa
open Go.RowKit

def dueI (a l p : Int) (b : Bool) : Int := if b then max a (l + p) else a
def nxOk (a l p : Int) (b : Bool) : Bool := decide (0 ≤ a ∧ a ≤ 1099511627776 ∧ dueI a l p b ≤ 1099511627776)

set_option maxHeartbeats 400000 in
theorem next23_no (g : Nat) (f m k j t p l a : Int) (b : Bool) (w : World) (h : Blk w g 91 (pacC f m k j t p l b)) (hp : 0 ≤ p) (hp' : p ≤ 360000000) (hl : -1 ≤ l) (hl' : l ≤ 1099511627776)
    (hn : nxOk a l p b = false) :
    Calls Try.prog 23 #[.pointer (some ⟨g, 0, none⟩), .int .i64 a] w (Pac w g f m k j t p l b (.tuple #[.int .i64 0, .int .i64 7])) := by
  have hc := h.cell
  have hz := h.frozen
  have HB := Lib.hid h
  clear h
  simp only [nxOk, decide_eq_false_iff_not] at hn
  by_cases h0 : 0 ≤ a
  · by_cases h1 : a ≤ 1099511627776
    · cases b
      · exact absurd ⟨h0, h1, h1⟩ hn
      · have hd : ¬ max a (l + p) ≤ 1099511627776 := fun e => hn ⟨h0, h1, e⟩
        have hmx : (if a < l + p then l + p else a) = max a (l + p) := ite_max _ _
        generalize max a (l + p) = x at *
        clear hn
        go_enter Try.func23, Try.ntmps23
        go_wp2
        go_quiet (fail)
        go_wp2
        go_ret2
        exact ⟨rfl, HB.out, only_drewN (only_refl _ _) _⟩
    · clear hn
      go_enter Try.func23, Try.ntmps23
      go_wp2
      go_ret2
      exact ⟨rfl, HB.out, only_refl _ _⟩
  · clear hn
    go_enter Try.func23, Try.ntmps23
    go_wp2
    go_ret2
    exact ⟨rfl, HB.out, only_refl _ _⟩

set_option maxHeartbeats 400000 in
theorem next23_ok (g : Nat) (f m k j t p l a : Int) (b : Bool) (w : World) (h : Blk w g 91 (pacC f m k j t p l b)) (hp : 0 ≤ p) (hp' : p ≤ 360000000) (hl : -1 ≤ l) (hl' : l ≤ 1099511627776)
    (hn : nxOk a l p b = true) :
    Calls Try.prog 23 #[.pointer (some ⟨g, 0, none⟩), .int .i64 a] w (Pac w g f m k j t p (dueI a l p b) true (.tuple #[.int .i64 (dueI a l p b), .int .i64 0])) := by
  have hc := h.cell
  have hz := h.frozen
  have HB := Lib.hid h
  clear h
  simp only [nxOk, decide_eq_true_eq] at hn
  obtain ⟨h0, h1, h2⟩ := hn
  cases b
  · simp only [dueI] at *
    go_enter Try.func23, Try.ntmps23
    go_wp2
    go_ret2
    exact ⟨rfl, (HB.out.set 6 _).set 7 _, only_set (only_set (only_refl _ _) _ _) _ _⟩
  · have hmx : (if a < l + p then l + p else a) = dueI a l p true := ite_max _ _
    generalize dueI a l p true = x at *
    go_enter Try.func23, Try.ntmps23
    go_wp2
    go_quiet (fail)
    go_wp2
    go_ret2
    exact ⟨rfl, (HB.out.set 6 _).set 7 _, only_drewN (only_set (only_set (only_refl _ _) _ _) _ _) _⟩

theorem box_blk {w w1 : World} {cs : Array Value} {t : TypeId} (hb : Below (w.alloc (.cells cs t)).heap.size (w.alloc (.cells cs t)) w1) : Blk w1 w.heap.size t cs :=
  (Blk.new w t cs).below hb (by simp)

set_option maxHeartbeats 400000 in
theorem newPacer20_ok (f m k j t : Int) (w : World) (h : boE f m k j t = 0) :
    Calls Try.prog 20 #[.agg #[.int .i64 f, .int .i64 m, .int .i64 k, .int .i64 j, .int .i64 t]] w fun e w' =>
      ∃ g, e = .returned (.tuple #[.pointer (some ⟨g, 0, none⟩), .int .i64 0]) ∧ Blk w' g 91 (pacC f m k j t f 0 false) ∧ w.heap.size ≤ g ∧ Below w.heap.size w w' := by
  go_enter Try.func20, Try.ntmps20
  go_wp2_with fail
  refine (check11 _ _ _ _ _ _).mono ?_
  rintro e w1 ⟨rfl, hb1⟩
  have hc := box_cells hb1
  have hb2 := alloc_below hb1
  have hs := hb2.size
  clear hb1
  go_wp2_with fail
  go_ret2
  exact ⟨_, rfl, Blk.new _ _ _, hs, hb2.alloc hs _⟩

set_option maxHeartbeats 400000 in
theorem newPacer20_no (f m k j t : Int) (w : World) (h : boE f m k j t = 7) :
    Calls Try.prog 20 #[.agg #[.int .i64 f, .int .i64 m, .int .i64 k, .int .i64 j, .int .i64 t]] w fun e w' =>
      e = .returned (.tuple #[.pointer none, .int .i64 7]) ∧ Below w.heap.size w w' := by
  go_enter Try.func20, Try.ntmps20
  go_wp2_with fail
  refine (check11 _ _ _ _ _ _).mono ?_
  rintro e w1 ⟨rfl, hb1⟩
  have hb2 := alloc_below hb1
  clear hb1
  go_wp2_with fail
  go_ret2
  exact ⟨rfl, hb2⟩

end Go.Proofs.Ytdfloglicjocbaa
