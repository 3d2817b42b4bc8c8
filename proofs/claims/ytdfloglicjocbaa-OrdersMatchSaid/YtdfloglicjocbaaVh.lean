import Derived.Test.YtdfloglicjocbaaVg
set_option linter.unusedVariables false
set_option linter.unusedSimpArgs false
namespace Go.Proofs.Ytdfloglicjocbaa
open Go.RowKit Go.Sort

/-- the comparison that a kind of orders takes. -/
def cK (kind : Int) (s : Steps) (x y : Nat) : Int :=
  if kind = 2 ∨ kind = 5 then cmpI (s.S x) (s.S y) else if kind = 3 then cmpI (s.S y) (s.S x) else if kind = 4 then cmpI (s.T y) (s.T x) else 0
def ltK (kind : Int) (s : Steps) (n : Nat) : Nat → Nat → Bool := ltOf fun x y => cK kind s (min x (n - 1)) (min y (n - 1))
def SortedK (kind : Int) (s : Steps) (n : Nat) (L : List Nat) : Prop := L.Perm (carr s.K n) ∧ L.Pairwise fun x y => lexL (ltK kind s n) id y x = false
theorem sortedK_plain (kind : Int) (s : Steps) (n : Nat) (h : kind = 1 ∨ kind = 6) : SortedK kind s n (carr s.K n) := by
  refine ⟨List.Perm.refl _, (carr_sorted s.K n).imp fun {x y} hxy => ?_⟩
  have hc : ∀ a b, cK kind s a b = 0 := fun a b => by
    unfold cK
    rw [if_neg (by omega), if_neg (by omega), if_neg (by omega)]
  have e : ∀ a b, ltK kind s n a b = false := fun a b => by
    show decide (cK kind s (min a (n - 1)) (min b (n - 1)) < 0) = false
    simp [hc]
  rw [lex_no]
  exact ⟨e _ _, Or.inr (by simp only [id]; omega)⟩
def OrdPost (kind seed : Int) (n : Nat) (s : Steps) (w : World) (e : Ending) (w' : World) : Prop :=
  ∃ (L : List Nat) (a : Option Addr) (cap : Nat), SortedK kind s n L ∧ e = .returned (.slice a (finL kind seed L).length cap) ∧ Row w' w'.heap.size a (intL (finL kind seed L)) ∧ Below w.heap.size w w'

set_option maxHeartbeats 400000 in
theorem carries76 (s : Steps) (i : Nat) (w : World) : Calls Try.prog 76 #[.agg (s.cells i)] w fun e w' => e = .returned (.bool (carB (s.K i))) ∧ Below w.heap.size w w' := by
  unfold Steps.cells carB
  by_cases h4 : s.K i = 4
  · have HB : Below w.heap.size w (w.alloc (.cells #[.int .i64 (s.K i), .string (s.P i), .string (s.Q i), .int .i64 (s.S i), .int .i64 (s.T i)] 124)) := (Below.refl _ _).alloc (Nat.le_refl _) _
    have H := Lib.hid HB
    have e1 : (s.K i == 4) = true := by simp [h4]
    have HE := Lib.hid e1
    generalize s.K i = k at *
    clear HB h4
    go_enter Try.func76, Try.ntmps76
    go_wp2_with fail
    go_ret
    exact ⟨by rw [HE.out]; rfl, H.out⟩
  · have e1 : (s.K i == 4) = false := by simp [h4]
    have HE := Lib.hid e1
    have HB : Below w.heap.size w (w.alloc (.cells #[.int .i64 (s.K i), .string (s.P i), .string (s.Q i), .int .i64 (s.S i), .int .i64 (s.T i)] 124)) := (Below.refl _ _).alloc (Nat.le_refl _) _
    have H := Lib.hid HB
    generalize s.K i = k at *
    clear HB h4
    go_enter Try.func76, Try.ntmps76
    go_wp2_with fail
    go_ret
    exact ⟨by rw [HE.out]; simp, H.out⟩

theorem none_of_below {w w' : World} (hb : Below w.heap.size w w') : w.grownBy w' none := ⟨hb.os, hb.tape, hb.output, hb.size, fun k hk _ => hb.block k hk⟩
theorem owns_below {w w' : World} {base size n : Nat} {e : TypeId} {v : Value} {xs : List Value} (h : w.ownsRow base e size v n xs) (hb : Below w.heap.size w w') : w'.ownsRow base e size v n xs :=
  h.kept (none_of_below hb) (by cases hv : v.ownBlock <;> simp)
/-- what holds while 'order' collects. -/
structure Ord1 (w : World) (la : Option Addr) (n lc : Nat) (F : List Nat) (ov : Value) (wr : World) : Prop where
  l : Blk wr w.heap.size 76 #[.slice la n lc]
  o : Blk wr (w.heap.size + 1) 26 #[ov]
  r : wr.ownsRow (w.heap.size + 2) 3 1 ov F.length ((intL F).map (Value.int .i64))
  b : Below w.heap.size w wr
  z : F = [] → ov = .slice none 0 0
theorem Ord1.step {w : World} {la : Option Addr} {n lc : Nat} {F : List Nat} {ov : Value} {wr w' : World} (h : Ord1 w la n lc F ov wr) (hb : Below wr.heap.size wr w') : Ord1 w la n lc F ov w' :=
  ⟨h.l.below hb h.l.lt, h.o.below hb h.o.lt, owns_below h.r hb, below_step h.b (Nat.le_refl _) hb, h.z⟩
theorem blk_grown {w w' : World} {g : Nat} {t : TypeId} {cs : Array Value} {r : Option Nat} (h : Blk w g t cs) (hg : w.grownBy w' r) (hne : r ≠ some g) : Blk w' g t cs := (hg.block g h.lt (fun e => hne e.symm)).trans h
/-- behind the append and the store into the box. -/
theorem ord1_append {w : World} {la : Option Addr} {n lc x : Nat} {F : List Nat} {ov v' : Value} {w2 w3 : World} (h : Ord1 w la n lc F ov w2)
    (hown : w3.ownsRow (w.heap.size + 2) 3 1 v' (F.length + 1) ((intL F).map (Value.int .i64) ++ [.int .i64 (x : Int)]))
    (hg : (w2.alloc (.cells #[.int .i64 (x : Int)] 3)).grownBy w3 ov.ownBlock) (hat : v'.ownBlock = ov.ownBlock ∨ v'.ownBlock = some (w2.heap.size + 1)) :
    Ord1 w la n lc F ov (w2.alloc (.cells #[.int .i64 (x : Int)] 3)) ∧ Ord1 w la n lc (F ++ [x]) v' (w3.setCell ⟨w.heap.size + 1, 0, none⟩ v') ∧ Blk w3 (w.heap.size + 1) 26 #[ov] ∧ w.heap.size + 1 < w3.heap.size := by
  have h1 := h.step ((Below.refl w2.heap.size w2).alloc (Nat.le_refl _) (.cells #[.int .i64 (x : Int)] 3))
  have hb : ∀ k, ov.ownBlock = some k → w.heap.size + 2 ≤ k := fun k hk => (h1.r.lt k hk).1
  have hne : ∀ g, g < w.heap.size + 2 → ov.ownBlock ≠ some g := fun g hg e => by have := hb g e; omega
  have hl3 := blk_grown h1.l hg (hne _ (by omega))
  have ho3 := blk_grown h1.o hg (hne _ (by omega))
  have hb3 : Below w.heap.size w w3 := h1.b.grown hg h1.b.size (fun k hk => by have := hb k hk; omega)
  have hv : ∀ k, v'.ownBlock = some k → w.heap.size + 2 ≤ k := fun k hk => (hown.lt k hk).1
  refine ⟨h1, ⟨?_, ?_, ?_, hb3.setCell (show w.heap.size ≤ w.heap.size + 1 by omega) _, fun e => by simp at e⟩, ho3, ho3.lt⟩
  · exact (Below.heap_setCell w3 ⟨w.heap.size + 1, 0, none⟩ v' w.heap.size (by simp)).trans hl3
  · exact ho3.set 0 v'
  · have h4 : w3.grownBy (w3.setCell ⟨w.heap.size + 1, 0, none⟩ v') (some (w.heap.size + 1)) := only_set (only_refl _ _) 0 v'
    have h5 := hown.kept h4 (by
      cases e : v'.ownBlock with
      | none => exact .inl rfl
      | some b => exact .inr (fun e' => by injection e' with e'; have := hv b e; omega))
    rw [show intL (F ++ [x]) = intL F ++ [(x : Int)] by simp [intL], List.map_append, List.length_append]
    exact h5
end Go.Proofs.Ytdfloglicjocbaa
