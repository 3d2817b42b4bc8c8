import Derived.Test.YtnjmcppljbkhnaaGj
import Derived.Test.YtnjmcppljbkhnaaR1
set_option linter.unusedVariables false
set_option linter.unusedSimpArgs false
namespace Go.Proofs.Ytnjmcppljbkhnaa
open Go.RowKit

theorem SRowI.more {w : World} {B B' : Nat} {a : Option Addr} {n : Nat} {X : Nat → Int} {D : Nat → ByteArray} (h : SRowI w B a n X D) (hB : B ≤ B') : SRowI w B' a n X D := by
  intro i hi
  obtain ⟨b, off, e, hb, h1, h2⟩ := h i hi
  exact ⟨b, off, e, by omega, h1, h2⟩
theorem SRowI.at' {w w' : World} {a : Option Addr} {n : Nat} {X : Nat → Int} {D : Nat → ByteArray} (h : SRowI w w.heap.size a n X D) (hb : Below w.heap.size w w') : SRowI w' w'.heap.size a n X D := (h.below hb).more hb.size
theorem SRowI.less {w : World} {B : Nat} {a : Option Addr} {n m : Nat} {X : Nat → Int} {D : Nat → ByteArray} (h : SRowI w B a n X D) (hm : m ≤ n) : SRowI w B a m X D := fun i hi => h i (by omega)
theorem first3 (p q r : Int) (t : TypeId) (W : World) : Calls Try.prog 15 #[.slice (some ⟨W.heap.size, 0, none⟩) 3 3] (W.alloc (.cells #[.int .i64 p, .int .i64 q, .int .i64 r] t)) fun e w' => e = .returned (.int .i64 (firstI [p, q, r])) ∧ W.alloc (.cells #[.int .i64 p, .int .i64 q, .int .i64 r] t) = w' := by
  refine first15 (some ⟨W.heap.size, 0, none⟩) 3 [p, q, r] _ (W.heap.size + 1) ?_ (by unfold maxLen; simp)
  intro i hi
  have hi' : i = 0 ∨ i = 1 ∨ i = 2 := by simp at hi; omega
  refine ⟨W.heap.size, 0, rfl, by omega, ?_⟩
  rw [Nat.zero_add, (Blk.new W t #[.int .i64 p, .int .i64 q, .int .i64 r]).cell i]
  rcases hi' with rfl | rfl | rfl <;> rfl
theorem first4 (o p q r : Int) (t : TypeId) (W : World) : Calls Try.prog 15 #[.slice (some ⟨W.heap.size, 0, none⟩) 4 4] (W.alloc (.cells #[.int .i64 o, .int .i64 p, .int .i64 q, .int .i64 r] t)) fun e w' => e = .returned (.int .i64 (firstI [o, p, q, r])) ∧ Below (W.alloc (.cells #[.int .i64 o, .int .i64 p, .int .i64 q, .int .i64 r] t)).heap.size (W.alloc (.cells #[.int .i64 o, .int .i64 p, .int .i64 q, .int .i64 r] t)) w' := by
  refine (first15 (some ⟨W.heap.size, 0, none⟩) 4 [o, p, q, r] _ (W.heap.size + 1) ?_ (by unfold maxLen; simp)).mono fun e w' h => ⟨h.1, by rw [← h.2]; exact Below.refl _ _⟩
  intro i hi
  have hi' : i = 0 ∨ i = 1 ∨ i = 2 ∨ i = 3 := by simp at hi; omega
  refine ⟨W.heap.size, 0, rfl, by omega, ?_⟩
  rw [Nat.zero_add, (Blk.new W t #[.int .i64 o, .int .i64 p, .int .i64 q, .int .i64 r]).cell i]
  rcases hi' with rfl | rfl | rfl | rfl <;> rfl
def whenI (b : Bool) (x : Int) : Int := if b = true then x else 0
theorem firstI3 (p q r : Int) : firstI [p, q, r] = if p = 0 then (if q = 0 then r else q) else p := by
  simp only [firstI]
  by_cases h : p = 0
  · rw [if_pos h, if_pos h]
    by_cases h2 : q = 0
    · rw [if_pos h2, if_pos h2]; by_cases h3 : r = 0 <;> simp [h3]
    · rw [if_neg h2, if_neg h2]
  · rw [if_neg h, if_neg h]
theorem firstI4 (o p q r : Int) : firstI [o, p, q, r] = if o = 0 then firstI [p, q, r] else o := rfl
theorem base_is (n : Int) (len : Nat) (r1 r2 r3 : Bool) (h1 : (decide (1 ≤ n) && decide (n ≤ 255)) = r1) (h2 : decide ((len : Int) < n) = r2) (h3 : decide ((255 : Int) < (len : Int)) = r3) : firstI [whenI (!r1) 7, whenI r2 3, whenI r3 8] = baseE n len := by
  subst h1 h2 h3
  rw [firstI3]
  unfold whenI baseE
  by_cases a : 1 ≤ n <;> by_cases b : n ≤ 255 <;> by_cases c : (len : Int) < n <;> by_cases d : 255 < len <;> simp [a, b, c, d] <;> omega
/-- the error of the data of a share. -/
def dataE (D : Nat → ByteArray) (k : Nat) : Bool := decide ((D k).size = 0 ∨ 1024 < (D k).size ∨ (D k).size ≠ (D 0).size)
theorem elt_is (X : Nat → Int) (D : Nat → ByteArray) (base : Int) (k : Nat) (r1 r2 r3 : Bool) (h1 : (decide (1 ≤ X k) && decide (X k ≤ 255)) = r1) (h2 : twiceB X k = r2) (h3 : dataE D k = r3) : firstI [scanE X D base k, whenI (!r1) 7, whenI r2 4, whenI r3 6] = scanE X D base (k + 1) := by
  rw [firstI4, firstI3]
  show _ = if scanE X D base k = 0 then eltE X D k else scanE X D base k
  congr 1
  subst h1 h2 h3
  unfold whenI eltE dataE
  by_cases a : 1 ≤ X k <;> by_cases b : X k ≤ 255 <;> cases hT : twiceB X k <;> by_cases d : ((D k).size = 0 ∨ 1024 < (D k).size ∨ (D k).size ≠ (D 0).size) <;> simp [a, b, d] <;> omega
theorem when17' (b : Bool) (x q : Int) (w : World) (h : whenI b x = q) : Calls Try.prog 17 #[.bool b, .int .i64 x] w fun e w' => e = .returned (.int .i64 q) ∧ w = w' := by
  rw [← h]; exact when17 b x w
/-- what Secret returned. -/
def SRes (X : Nat → Int) (D : Nat → ByteArray) (n : Int) (len : Nat) (S : ByteArray) (F : Int) : Prop :=
  (scanE X D (baseE n len) len ≠ 0 ∧ S = ByteArray.empty ∧ F = scanE X D (baseE n len) len) ∨
  (scanE X D (baseE n len) len = 0 ∧ Good (xN X) D n.toNat len (D 0).size ∧ S = vS (xN X) D n.toNat 0 (D 0).size ∧ F = 0) ∨
  (scanE X D (baseE n len) len = 0 ∧ ¬ Good (xN X) D n.toNat len (D 0).size ∧ S = ByteArray.empty ∧ F = 18)
theorem SPost.res {X : Nat → Int} {D : Nat → ByteArray} {n : Int} {len : Nat} {w w' : World} {e : Ending} (h : SPost X D n len w e w') : ∃ S F, e = .returned (.tuple #[.string S, .int .i64 F]) ∧ SRes X D n len S F ∧ Below w.heap.size w w' := by
  obtain ⟨⟨h1, rfl⟩ | ⟨h1, h2, rfl⟩ | ⟨h1, h2, rfl⟩, hb⟩ := h
  · exact ⟨_, _, rfl, Or.inl ⟨h1, rfl, rfl⟩, hb⟩
  · exact ⟨_, _, rfl, Or.inr (Or.inl ⟨h1, h2, rfl, rfl⟩), hb⟩
  · exact ⟨_, _, rfl, Or.inr (Or.inr ⟨h1, h2, rfl, rfl⟩), hb⟩
end Go.Proofs.Ytnjmcppljbkhnaa
