import Derived.Test.YtnjmcppljbkhnaaGi
set_option linter.unusedVariables false
set_option linter.unusedSimpArgs false
namespace Go.Proofs.Ytnjmcppljbkhnaa
open Go.RowKit

/-- the first xs.length cells at a hold the numbers xs, in blocks below B. -/
def Row (w : World) (B : Nat) (a : Option Addr) (xs : List Int) : Prop :=
  ∀ i, i < xs.length → ∃ b off, a = some ⟨b, off, none⟩ ∧ b < B ∧ w.cell? ⟨b, off + i, none⟩ = some (.int .i64 (xs.getD i 0))

theorem Row.below {w w' : World} {B : Nat} {a : Option Addr} {xs : List Int} (h : Row w B a xs) (hb : Below B w w') : Row w' B a xs := by
  intro i hi
  obtain ⟨b, off, e, hlt, hc⟩ := h i hi
  exact ⟨b, off, e, hlt, (hb.cell (p := ⟨b, off + i, none⟩) hlt).trans hc⟩
theorem Row.more {w : World} {B B' : Nat} {a : Option Addr} {xs : List Int} (h : Row w B a xs) (hb : B ≤ B') : Row w B' a xs := by
  intro i hi
  obtain ⟨b, off, e, hlt, hc⟩ := h i hi
  exact ⟨b, off, e, by omega, hc⟩
/-- the number that is not 0 first. -/
def firstI : List Int → Int
  | [] => 0
  | x :: l => if x = 0 then firstI l else x

theorem firstI_take_succ (xs : List Int) (k : Nat) (hx : k < xs.length) (h : ∀ i, i < k → xs.getD i 0 = 0) (e : ¬ xs[k] = 0) : firstI xs = xs[k] := by
  induction xs generalizing k with
  | nil => simp at hx
  | cons x l ih =>
    cases k with
    | zero => simp at e; simp [firstI, e]
    | succ k =>
      have h0 : x = 0 := by simpa using h 0 (by omega)
      have := ih k (by simpa using hx) (fun i hi => by simpa using h (i + 1) (by omega)) (by simpa using e)
      simp [firstI, h0, this]
theorem firstI_zero (xs : List Int) (h : ∀ i, i < xs.length → xs.getD i 0 = 0) : firstI xs = 0 := by
  induction xs with
  | nil => rfl
  | cons x l ih =>
    have h0 : x = 0 := by simpa using h 0 (by simp)
    simp [firstI, h0, ih fun i hi => by simpa using h (i + 1) (by simpa using hi)]

set_option maxHeartbeats 400000 in
theorem first15 (a : Option Addr) (ca : Nat) (xs : List Int) (w : World) (B : Nat) (hx : Row w B a xs) (lx : xs.length ≤ maxLen) :
    Calls Try.prog 15 #[.slice a xs.length ca] w fun e w' => e = .returned (.int .i64 (firstI xs)) ∧ w = w' := by
  unfold maxLen at lx
  have HX := Lib.hid hx
  clear hx
  go_enter Try.func15, Try.ntmps15
  go_wp2
  go_loop [7] (fun i => ∃ k : Nat, k ≤ xs.length ∧ i = .int .i64 k ∧ ∀ i, i < k → xs.getD i 0 = 0) (fun i => xs.length - (intOf i).toNat)
  case atStart => exact ⟨0, by omega, rfl, by simp⟩
  case round =>
    obtain ⟨k, hk, rfl, hz⟩ := hrel
    have HZ := Lib.hid hz
    clear hz
    by_cases hlt : k < xs.length
    · obtain ⟨bx, ox, rfl, _, cx⟩ := HX.out k hlt
      go_wp2
      · go_ret
        exact ⟨ret_int (firstI_take_succ xs k hlt HZ.out (by simpa using ‹(xs[k] != 0) = true›)).symm, rfl⟩
      · go_round
        case rel =>
          refine ⟨k + 1, by omega, by go_num, fun i hi => ?_⟩
          by_cases hik : i < k
          · exact HZ.out i hik
          · obtain rfl : i = k := by omega
            simpa [List.getElem?_eq_getElem hlt] using ‹(xs[i] != 0) = false›
        case measure => simp [intOf]; omega
    · go_wp2
      go_ret
      exact ⟨ret_int (firstI_zero xs fun i hi => HZ.out i (by omega)).symm, rfl⟩


set_option maxHeartbeats 400000 in
theorem when17 (b : Bool) (x : Int) (w : World) : Calls Try.prog 17 #[.bool b, .int .i64 x] w fun e w' => e = .returned (.int .i64 (if b = true then x else 0)) ∧ w = w' := by
  cases b
  · go_enter Try.func17, Try.ntmps17
    go_wp2
    go_ret
    exact ⟨rfl, rfl⟩
  · go_enter Try.func17, Try.ntmps17
    go_wp2
    go_ret
    exact ⟨rfl, rfl⟩
set_option maxHeartbeats 400000 in
theorem closure28 (x y : Int) (d : ByteArray) (g : Nat) (w : World) (hg : g < w.heap.size) (hc : w.cell? ⟨g, 0, none⟩ = some (.int .i64 x)) : Calls Try.prog 28 #[.agg #[.int .i64 y, .string d], .pointer (some ⟨g, 0, none⟩)] w fun e w' => e = .returned (.bool (y == x)) ∧ Below w.heap.size w w' := by
  go_enter Try.func28, Try.ntmps28
  go_wp2
  go_ret
  exact ⟨rfl, (Below.refl _ _).alloc (Nat.le_refl _) _⟩
/-- what an index says. -/
def IdxPost (X : Nat → Int) (n : Nat) (x : Int) (w : World) (e : Ending) (w' : World) : Prop :=
  ∃ r : Int, e = .returned (.int .i64 r) ∧ decide (0 ≤ r) = (List.range n).any (fun j => X j == x) ∧ Below w.heap.size w w'
set_option maxRecDepth 100000 in
set_option maxHeartbeats 1000000 in
theorem indexFunc62 (a : Option Addr) (ca n : Nat) (X : Nat → Int) (D : Nat → ByteArray) (x : Int) (g : Nat) (w : World) (hx : SRowI w w.heap.size a n X D) (hn : n ≤ maxLen) (hg : g < w.heap.size) (hc : w.cell? ⟨g, 0, none⟩ = some (.int .i64 x)) :
    Calls Try.prog 62 #[.slice a n ca, .func (.func 28) #[] #[.pointer (some ⟨g, 0, none⟩)]] w (IdxPost X n x w) := by
  have HX := Lib.hid hx
  have HC := Lib.hid hc
  unfold maxLen at hn
  clear hx hc
  go_enter Try.func62, Try.ntmps62
  go_wp2_with fail
  go_loopw [8] (fun iv wr => ∃ k : Nat, k ≤ n ∧ iv = .int .i64 k ∧ Below w.heap.size w wr ∧ Hid (∀ j, j < k → (X j == x) = false)) (fun iv _ => n - (intOf iv).toNat)
  case atStart => exact ⟨0, by omega, rfl, Below.refl _ _, fun j hj => by omega⟩
  case round =>
    obtain ⟨k, hk, rfl, hb, HN⟩ := hrel
    have HB := Lib.hid hb
    have hsz := hb.size
    clear hb
    by_cases hlt : k < n
    · obtain ⟨b, off, rfl, hbB, c0, c1⟩ := (HX.out.below HB.out) k hlt
      have hcg := (HB.out.cell (p := ⟨g, 0, none⟩) hg).trans HC.out
      have hd : decide ((k : Int) < (n : Int)) = true := decide_eq_true (by omega)
      have hk1 : (k : Int) < (n : Int) := by omega
      cases he : (X k == x)
      · have HE := Lib.hid he
        have HCC := Lib.hid (fun (w : World) hg hc => (closure28 x (X k) (D k) g w hg hc).mono (R' := fun e w' => e = .returned (.bool false) ∧ Below w.heap.size w w') (fun e w' h => by rw [he] at h; exact h))
        clear he
        go_wp2_with fail
        refine (HCC.out wr (by omega) hcg).mono ?_
        rintro e w1 ⟨rfl, b1⟩
        have HB1 := Lib.hid (below_step HB.out (Nat.le_refl _) b1)
        clear b1
        go_wp2_with fail
        go_roundw
        case rel =>
          refine ⟨k + 1, by omega, by go_num, HB1.out, fun j hj => ?_⟩
          by_cases e : j = k
          · rw [e]; exact HE.out
          · exact HN.out j (by omega)
        case measure => simp [intOf]; omega
      · have HE := Lib.hid he
        have HCC := Lib.hid (fun (w : World) hg hc => (closure28 x (X k) (D k) g w hg hc).mono (R' := fun e w' => e = .returned (.bool true) ∧ Below w.heap.size w w') (fun e w' h => by rw [he] at h; exact h))
        clear he
        go_wp2_with fail
        refine (HCC.out wr (by omega) hcg).mono ?_
        rintro e w1 ⟨rfl, b1⟩
        have HB1 := Lib.hid (below_step HB.out (Nat.le_refl _) b1)
        clear b1
        go_wp2_with fail
        go_ret
        refine ⟨_, rfl, ?_, HB1.out⟩
        have h1 : (List.range n).any (fun j => X j == x) = true := by
          rw [List.any_eq_true]
          exact ⟨k, by simpa using hlt, HE.out⟩
        rw [h1]
        simp
    · have hd : decide ((k : Int) < (n : Int)) = false := decide_eq_false (by omega)
      go_wp2_with fail
      go_ret
      refine ⟨_, rfl, ?_, HB.out⟩
      have h1 : (List.range n).any (fun j => X j == x) = false := by
        rw [List.any_eq_false]
        intro j hj
        rw [HN.out j (by have : j < n := by simpa using hj
                         omega)]
        simp
      rw [h1]
      rfl
set_option maxHeartbeats 400000 in
theorem containsFunc27 (a : Option Addr) (ca n : Nat) (X : Nat → Int) (D : Nat → ByteArray) (x : Int) (g : Nat) (w : World) (hx : SRowI w w.heap.size a n X D) (hn : n ≤ maxLen) (hg : g < w.heap.size) (hc : w.cell? ⟨g, 0, none⟩ = some (.int .i64 x)) :
    Calls Try.prog 27 #[.slice a n ca, .func (.func 28) #[] #[.pointer (some ⟨g, 0, none⟩)]] w fun e w' => e = .returned (.bool ((List.range n).any fun j => X j == x)) ∧ Below w.heap.size w w' := by
  have HC := Lib.hid (indexFunc62 a ca n X D x g w hx hn hg hc)
  clear hx hc
  go_enter Try.func27, Try.ntmps27
  go_wp2_with fail
  refine HC.out.mono ?_
  rintro e w1 ⟨r, rfl, hr, b1⟩
  have HB := Lib.hid b1
  have HR := Lib.hid hr
  clear b1 hr
  go_wp2_with fail
  go_ret
  exact ⟨ret_bool (by rw [← HR.out]), HB.out⟩
set_option maxHeartbeats 400000 in
theorem outcome19_err (s t : ByteArray) (e f : Int) (r : Bool) (w : World) (hf : f ≠ 0) (hr : r = (s.toList.isEmpty && (e == f))) : Calls Try.prog 19 #[.string s, .int .i64 e, .string t, .int .i64 f] w fun e' w' => e' = .returned (.bool r) ∧ w = w' := by
  have HR := Lib.hid hr
  clear hr
  have h1 : (f == 0) = false := by simpa using hf
  have h2 : (f != 0) = true := by simpa using hf
  cases hs : s.toList.isEmpty
  · go_enter Try.func19, Try.ntmps19
    go_wp2
    go_ret
    exact ⟨ret_bool (by rw [HR.out, hs]; rfl), rfl⟩
  · go_enter Try.func19, Try.ntmps19
    go_wp2
    go_ret
    exact ⟨ret_bool (by rw [HR.out, hs]; rfl), rfl⟩
set_option maxHeartbeats 400000 in
theorem outcome19_ok (s t : ByteArray) (e : Int) (r : Bool) (w : World) (hr : r = ((s.toList == t.toList) && (e == 0))) : Calls Try.prog 19 #[.string s, .int .i64 e, .string t, .int .i64 0] w fun e' w' => e' = .returned (.bool r) ∧ w = w' := by
  have HR := Lib.hid hr
  clear hr
  cases hs : (s.toList == t.toList)
  · go_enter Try.func19, Try.ntmps19
    go_wp2
    go_ret
    exact ⟨ret_bool (by rw [HR.out, hs]; rfl), rfl⟩
  · go_enter Try.func19, Try.ntmps19
    go_wp2
    go_ret
    exact ⟨ret_bool (by rw [HR.out, hs]; rfl), rfl⟩
end Go.Proofs.Ytnjmcppljbkhnaa
