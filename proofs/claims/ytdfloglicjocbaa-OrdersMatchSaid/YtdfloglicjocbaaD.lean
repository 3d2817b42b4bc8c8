import Derived.Test.YtdfloglicjocbaaC
namespace Go.Proofs.Ytdfloglicjocbaa
open Go.RowKit

def dOk (f m k j t s : Int) : Bool := boB f m k j t && isSeedB s
def dlsE (f m k j t s : Int) : Int := if dOk f m k j t s then 0 else 7
def dlsL (f m k j t s : Int) : List Int := if dOk f m k j t s then dlyL f m k j s (t - 1).toNat else []

/-- what Delays answers: a row and an error. -/
def Pair (L : List Int) (E : Int) (w : World) (e : Ending) (w' : World) : Prop :=
  ∃ a cap, e = .returned (.tuple #[.slice a L.length cap, .int .i64 E]) ∧ Row w' w'.heap.size a L ∧ Below w.heap.size w w'

theorem box_cells {w w1 : World} {cs : Array Value} {t : TypeId} (hb : Below (w.alloc (.cells cs t)).heap.size (w.alloc (.cells cs t)) w1) (i : Nat) : w1.cell? ⟨w.heap.size, i, none⟩ = cs[i]? := by
  rw [hb.cell (p := ⟨w.heap.size, i, none⟩) (by simp), World.cell?_alloc_at _ _ _ _ rfl]
theorem alloc_below {w w1 : World} {o : Obj} (hb : Below (w.alloc o).heap.size (w.alloc o) w1) : Below w.heap.size w w1 :=
  ((Below.refl _ _).alloc (Nat.le_refl _) o).trans (hb.mono (by simp))

set_option maxHeartbeats 400000 in
theorem delays12 (f m k j t s : Int) (w : World) :
    Calls Try.prog 12 #[.agg #[.int .i64 f, .int .i64 m, .int .i64 k, .int .i64 j, .int .i64 t], .int .i64 s] w (Pair (dlsL f m k j t s) (dlsE f m k j t s) w) := by
  by_cases hb : boB f m k j t = true
  · by_cases hs : isSeedB s = true
    · have hE : boE f m k j t = 0 := by simp [boE, hb]
      have h1 : dlsE f m k j t s = 0 := by simp [dlsE, dOk, hb, hs]
      have h2 : dlsL f m k j t s = dlyL f m k j s (t - 1).toNat := by simp [dlsL, dOk, hb, hs]
      rw [h1, h2]
      clear h1 h2
      have HB := Lib.hid hb
      clear hb
      go_enter Try.func12, Try.ntmps12
      go_wp2_with fail
      refine (check11 _ _ _ _ _ _).mono ?_
      rintro e w1 ⟨rfl, hb1⟩
      have hc := box_cells hb1
      have hb2 := alloc_below hb1
      go_wp2_with (first | (go_at_call 48; refine (isSeed48 _ _).mono ?_; rintro e w' ⟨rfl, rfl⟩) | (go_at_call 49; refine (delays49 _ _ _ _ _ _ _ HB.out hs).mono ?_; rintro e w2 ⟨v, rfl, hown, hb3⟩; have hb4 := hb2.trans (hb3.mono hb2.size); have HO := Lib.hid hown; clear hown hb3))
      go_ret2
      obtain ⟨a, cap, rfl, hr⟩ := Row.of_own HO.out (dlyL_len _ _ _ _ _ _)
      exact ⟨a, cap, rfl, hr, hb4⟩
    · have hE : boE f m k j t = 0 := by simp [boE, hb]
      have hs' : isSeedB s = false := by simpa using hs
      have h1 : dlsE f m k j t s = 7 := by simp [dlsE, dOk, hs]
      have h2 : dlsL f m k j t s = [] := by simp [dlsL, dOk, hs]
      rw [h1, h2]
      clear h1 h2 hb hs
      go_enter Try.func12, Try.ntmps12
      go_wp2_with (first | (go_at_call 11; refine (check11 _ _ _ _ _ _).mono ?_; rintro e w1 ⟨rfl, hb1⟩; have hb2 := alloc_below hb1; clear hb1) | (go_at_call 48; refine (isSeed48 _ _).mono ?_; rintro e w' ⟨rfl, rfl⟩))
      go_ret2
      exact ⟨none, 0, rfl, fun i hi => by simp at hi, hb2⟩
  · have hE : boE f m k j t = 7 := by simp [boE, hb]
    have h1 : dlsE f m k j t s = 7 := by simp [dlsE, dOk, hb]
    have h2 : dlsL f m k j t s = [] := by simp [dlsL, dOk, hb]
    rw [h1, h2]
    clear h1 h2 hb
    go_enter Try.func12, Try.ntmps12
    go_wp2_with (first | (go_at_call 11; refine (check11 _ _ _ _ _ _).mono ?_; rintro e w1 ⟨rfl, hb1⟩; have hb2 := alloc_below hb1; clear hb1))
    go_ret2
    exact ⟨none, 0, rfl, fun i hi => by simp at hi, hb2⟩

theorem Row.drewN {w : World} {B : Nat} {a : Option Addr} {xs : List Int} (h : Row w B a xs) (n : Nat) : Row (w.drewN n) B a xs := h
theorem below_drewN {B : Nat} {a w : World} (h : Below B a w) (n : Nat) : Below B a (w.drewN n) := ⟨h.os, h.tape, h.output, h.size, h.block⟩
/-- a row of literals that has just been laid. -/
theorem Row.lit (w : World) (xs : List Int) (t : TypeId) : Row (w.alloc (.cells (xs.map (Value.int .i64)).toArray t)) (w.heap.size + 1) (some ⟨w.heap.size, 0, none⟩) xs := by
  intro i hi
  refine ⟨_, _, rfl, by omega, ?_⟩
  rw [World.cell?_alloc_at _ _ _ _ rfl]
  simp [List.getElem?_eq_getElem hi]
theorem Row.alloc {w : World} {a : Option Addr} {xs : List Int} (h : Row w w.heap.size a xs) (o : Obj) : Row (w.alloc o) (w.heap.size + 1) a xs :=
  (h.below ((Below.refl _ _).alloc (Nat.le_refl _) o)).more (by omega)

theorem hauls_lit : dlsL 1 10 2 0 3 0 = [1, 2] ∧ dlsE 1 10 2 0 3 0 = 0 := by decide

set_option maxHeartbeats 400000 in
theorem hauls14 (w : World) : Calls Try.prog 14 #[] w fun e w' => e = .returned (.bool true) ∧ Below w.heap.size w w' := by
  go_enter Try.func14, Try.ntmps14
  go_wp2_with fail
  refine (delays12 1 10 2 0 3 0 _).mono ?_
  rw [hauls_lit.1, hauls_lit.2]
  rintro e w1 ⟨a, cap, rfl, hr, hb⟩
  go_wp2_with fail
  refine (equal18 a _ cap _ [1, 2] [1, 2] _ (w1.heap.size + 1) (hr.alloc _) (Row.lit _ _ _) (by decide) (by decide)).mono ?_
  rintro e w' ⟨rfl, n, rfl⟩
  go_wp2_with fail
  go_ret
  exact ⟨by simp, below_drewN (hb.alloc hb.size _) _⟩

end Go.Proofs.Ytdfloglicjocbaa
