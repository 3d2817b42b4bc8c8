import Derived.Test.YtdfloglicjocbaaVk
set_option linter.unusedVariables false
set_option linter.unusedSimpArgs false
namespace Go.Proofs.Ytdfloglicjocbaa
open Go.RowKit Go.Sort

def aB (kind : Int) (s : Steps) (x y : Nat) : Bool := decide (cK kind s x y < 0)
theorem ltK_at (kind : Int) (s : Steps) (n x y : Nat) (hx : x < n) (hy : y < n) : ltK kind s n x y = aB kind s x y := by
  show decide (cK kind s (min x (n - 1)) (min y (n - 1)) < 0) = decide (cK kind s x y < 0)
  have e1 : min x (n - 1) = x := Nat.min_eq_left (by omega)
  have e2 : min y (n - 1) = y := Nat.min_eq_left (by omega)
  simp only [e1, e2]
theorem swoK (kind : Int) (s : Steps) (n : Nat) (h : 1 ≤ kind ∧ kind ≤ 6) : SWO (ltK kind s n) := by
  by_cases hk : kind = 2 ∨ kind = 3 ∨ kind = 4 ∨ kind = 5
  · exact swoKey n (cK kind s) (keyK kind s) (keyK_iff kind s hk)
  · have hc : ∀ a b, cK kind s a b = 0 := fun a b => by
      unfold cK
      rw [if_neg (by omega), if_neg (by omega), if_neg (by omega)]
    have e : ∀ a b, ltK kind s n a b = false := fun a b => by
      show decide (cK kind s (min a (n - 1)) (min b (n - 1)) < 0) = false
      simp [hc]
    exact ⟨fun x => e _ _, fun x y z h1 => (by rw [e] at h1; cases h1), fun x y z _ _ => e _ _⟩
/-- one sorted list alone. -/
theorem sortedK_one (kind : Int) (s : Steps) (n : Nat) (h : 1 ≤ kind ∧ kind ≤ 6) (L1 L2 : List Nat) (h1 : SortedK kind s n L1) (h2 : SortedK kind s n L2) : L1 = L2 :=
  sorted_one (lex_swo (idx := id) (swoK kind s n h)) (fun x y => lex_total (fun x y e => e) x y) L1 L2 (h1.1.trans h2.1.symm) h1.2 h2.2
/-- while the reference inserts: sorted places below m. -/
def InsK (kind : Int) (s : Steps) (n m : Nat) (L : List Nat) : Prop := L.Perm (carr s.K m) ∧ L.Pairwise fun x y => lexL (ltK kind s n) id y x = false
theorem insK_no (kind : Int) (s : Steps) (n m : Nat) (L : List Nat) (h : InsK kind s n m L) (hc : carB (s.K m) = false) : InsK kind s n (m + 1) L := ⟨by rw [carr_no _ _ hc]; exact h.1, h.2⟩
theorem insK_step (kind : Int) (s : Steps) (n m q : Nat) (L : List Nat) (hk : 1 ≤ kind ∧ kind ≤ 6) (hm : m < n) (h : InsK kind s n m L) (hc : carB (s.K m) = true) (hq : q ≤ L.length)
    (h1 : q = 0 ∨ aB kind s m (L.getD (q - 1) 0) = false) (h2 : q = L.length ∨ aB kind s m (L.getD q 0) = true) : InsK kind s n (m + 1) (L.take q ++ m :: L.drop q) := by
  have hlt : ∀ y ∈ L, y < m := fun y hy => carr_lt s.K m y (h.1.mem_iff.1 hy)
  refine ⟨?_, insert_sorted (swoK kind s n hk) L m q hq (fun y hy => hlt y hy) h.2 ?_ ?_⟩
  · rw [carr_yes _ _ hc]
    have e : (L.take q ++ m :: L.drop q).Perm (m :: (L.take q ++ L.drop q)) := List.perm_middle
    rw [List.take_append_drop] at e
    refine e.trans ?_
    have e2 : (m :: L).Perm (L ++ [m]) := (List.perm_append_singleton m L).symm
    exact e2.trans (h.1.append_right [m])
  · by_cases hq0 : q = 0
    · exact Or.inl hq0
    · right
      have hi : q - 1 < L.length := by omega
      refine ⟨L[q - 1], List.getElem?_eq_getElem hi, ?_⟩
      have := hlt L[q - 1] (List.getElem_mem _)
      rw [ltK_at kind s n m _ hm (by omega)]
      rcases h1 with h1 | h1
      · exact absurd h1 hq0
      · simpa [List.getElem?_eq_getElem hi] using h1
  · by_cases hql : q = L.length
    · exact Or.inl hql
    · right
      have hi : q < L.length := by omega
      refine ⟨L[q], List.getElem?_eq_getElem hi, ?_⟩
      have := hlt L[q] (List.getElem_mem _)
      rw [ltK_at kind s n m _ hm (by omega)]
      rcases h2 with h2 | h2
      · exact absurd h2 hql
      · simpa [List.getElem?_eq_getElem hi] using h2
/-- while an element is brought to its place. -/
def Gap (L C : List Nat) (q : Nat) : Prop := C.length = L.length + 1 ∧ (∀ j, j < q → C.getD j 0 = L.getD j 0) ∧ ∀ j, q ≤ j → j < L.length → C.getD (j + 1) 0 = L.getD j 0
theorem gap_start (L : List Nat) (x : Nat) : Gap L (L ++ [x]) L.length :=
  ⟨by simp, fun j hj => by simp [List.getElem?_append_left hj], fun j h1 h2 => by omega⟩
theorem gap_step (L C : List Nat) (p : Nat) (hp : p < L.length) (h : Gap L C (p + 1)) : Gap L (C.set (p + 1) (C.getD p 0)) p := by
  obtain ⟨h1, h2, h3⟩ := h
  refine ⟨by simp [h1], fun j hj => ?_, fun j h4 h5 => ?_⟩
  · rw [← h2 j (by omega)]
    simp only [List.getD_eq_getElem?_getD]
    rw [List.getElem?_set_ne (by omega)]
  · by_cases e : j = p
    · rw [e, ← h2 p (by omega)]
      simp only [List.getD_eq_getElem?_getD]
      rw [List.getElem?_set_self (by omega)]; rfl
    · rw [← h3 j (by omega) h5]
      simp only [List.getD_eq_getElem?_getD]
      rw [List.getElem?_set_ne (by omega)]
theorem gap_end (L C : List Nat) (q x : Nat) (hq : q ≤ L.length) (h : Gap L C q) : C.set q x = L.take q ++ x :: L.drop q := by
  obtain ⟨h1, h2, h3⟩ := h
  apply List.ext_getElem
  · simp; omega
  · intro j hj1 hj2
    have hjl : j < C.length := by simpa using hj1
    by_cases hjq : j < q
    · rw [List.getElem_set_ne (by omega), List.getElem_append_left (by simp; omega)]
      have := h2 j hjq
      simp only [List.getD_eq_getElem?_getD, List.getElem?_eq_getElem hjl, List.getElem?_eq_getElem (show j < L.length by omega), Option.getD_some] at this
      rw [this]; simp
    · by_cases e : j = q
      · subst e
        rw [List.getElem_set_self, List.getElem_append_right (by simp; omega)]
        simp [Nat.min_eq_left hq]
      · rw [List.getElem_set_ne (by omega), List.getElem_append_right (by simp; omega)]
        have := h3 (j - 1) (by omega) (by omega)
        rw [show j - 1 + 1 = j by omega] at this
        simp only [List.getD_eq_getElem?_getD, List.getElem?_eq_getElem hjl, List.getElem?_eq_getElem (show j - 1 < L.length by omega), Option.getD_some] at this
        rw [this]
        obtain ⟨r, hr⟩ : ∃ r, j - q = r + 1 := ⟨j - q - 1, by omega⟩
        simp only [List.length_take, Nat.min_eq_left hq, hr, List.getElem_cons_succ, List.getElem_drop]
        congr 1; omega
theorem cmp_dec (a b : Int) : decide (cmpI a b < 0) = decide (a < b) := by
  rw [Bool.eq_iff_iff, decide_eq_true_eq, decide_eq_true_eq]; exact cmpI_neg a b

set_option maxHeartbeats 1000000 in
set_option maxRecDepth 100000 in
theorem ahead63_1 (s : Steps) (gk gl lb lo n lc x y : Nat) (w : World) (h1 : w.cell? ⟨gk, 0, none⟩ = some (.int .i64 1)) (h2 : w.cell? ⟨gl, 0, none⟩ = some (.slice (some ⟨lb, lo, none⟩) n lc))
    (hx : ∀ c, c < 5 → w.cell? ⟨lb, lo + x * 5 + c, none⟩ = (s.cells x)[c]?) (hy : ∀ c, c < 5 → w.cell? ⟨lb, lo + y * 5 + c, none⟩ = (s.cells y)[c]?) (hxn : x < n) (hyn : y < n) (hn : n ≤ 20000) :
    Calls Try.prog 63 #[.int .i64 x, .int .i64 y, .pointer (some ⟨gk, 0, none⟩), .pointer (some ⟨gl, 0, none⟩)] w fun e w' => e = .returned (.bool (aB 1 s x y)) ∧ ∃ m, w' = w.drewN m := by
  have hA : aB 1 s x y = false := by unfold aB cK; rw [if_neg (by omega), if_neg (by omega), if_neg (by omega)]; rfl
  rw [hA]
  clear hA hx hy
  go_enter Try.func63, Try.ntmps63
  go_wp2_with fail
  go_ret
  exact ⟨rfl, 0, rfl⟩
set_option maxHeartbeats 1000000 in
set_option maxRecDepth 100000 in
theorem ahead63_2 (s : Steps) (gk gl lb lo n lc x y : Nat) (w : World) (h1 : w.cell? ⟨gk, 0, none⟩ = some (.int .i64 2)) (h2 : w.cell? ⟨gl, 0, none⟩ = some (.slice (some ⟨lb, lo, none⟩) n lc))
    (hx : ∀ c, c < 5 → w.cell? ⟨lb, lo + x * 5 + c, none⟩ = (s.cells x)[c]?) (hy : ∀ c, c < 5 → w.cell? ⟨lb, lo + y * 5 + c, none⟩ = (s.cells y)[c]?) (hxn : x < n) (hyn : y < n) (hn : n ≤ 20000) :
    Calls Try.prog 63 #[.int .i64 x, .int .i64 y, .pointer (some ⟨gk, 0, none⟩), .pointer (some ⟨gl, 0, none⟩)] w fun e w' => e = .returned (.bool (aB 2 s x y)) ∧ ∃ m, w' = w.drewN m := by
  have hA : aB 2 s x y = decide (s.S x < s.S y) := by unfold aB; exact cmp_dec _ _
  have c1 : w.cell? ⟨lb, lo + x * 5 + 3, none⟩ = some (.int .i64 (s.S x)) := hx 3 (by omega)
  have c2 : w.cell? ⟨lb, lo + y * 5 + 3, none⟩ = some (.int .i64 (s.S y)) := hy 3 (by omega)
  have k1 : (x : Int) < (n : Int) := by omega
  have k2 : (y : Int) < (n : Int) := by omega
  rw [hA]
  clear hA hx hy
  generalize s.S x = p at *
  generalize s.S y = q at *
  go_enter Try.func63, Try.ntmps63
  go_wp2_with fail
  go_quiet (fail)
  go_wp2_with fail
  go_ret
  exact ⟨rfl, _, rfl⟩
set_option maxHeartbeats 1000000 in
set_option maxRecDepth 100000 in
theorem ahead63_3 (s : Steps) (gk gl lb lo n lc x y : Nat) (w : World) (h1 : w.cell? ⟨gk, 0, none⟩ = some (.int .i64 3)) (h2 : w.cell? ⟨gl, 0, none⟩ = some (.slice (some ⟨lb, lo, none⟩) n lc))
    (hx : ∀ c, c < 5 → w.cell? ⟨lb, lo + x * 5 + c, none⟩ = (s.cells x)[c]?) (hy : ∀ c, c < 5 → w.cell? ⟨lb, lo + y * 5 + c, none⟩ = (s.cells y)[c]?) (hxn : x < n) (hyn : y < n) (hn : n ≤ 20000) :
    Calls Try.prog 63 #[.int .i64 x, .int .i64 y, .pointer (some ⟨gk, 0, none⟩), .pointer (some ⟨gl, 0, none⟩)] w fun e w' => e = .returned (.bool (aB 3 s x y)) ∧ ∃ m, w' = w.drewN m := by
  have hA : aB 3 s x y = decide (s.S y < s.S x) := by unfold aB; exact cmp_dec _ _
  have c1 : w.cell? ⟨lb, lo + x * 5 + 3, none⟩ = some (.int .i64 (s.S x)) := hx 3 (by omega)
  have c2 : w.cell? ⟨lb, lo + y * 5 + 3, none⟩ = some (.int .i64 (s.S y)) := hy 3 (by omega)
  have k1 : (x : Int) < (n : Int) := by omega
  have k2 : (y : Int) < (n : Int) := by omega
  rw [hA]
  clear hA hx hy
  generalize s.S x = p at *
  generalize s.S y = q at *
  go_enter Try.func63, Try.ntmps63
  go_wp2_with fail
  go_quiet (fail)
  go_wp2_with fail
  go_ret
  exact ⟨rfl, _, rfl⟩
set_option maxHeartbeats 1000000 in
set_option maxRecDepth 100000 in
theorem ahead63_4 (s : Steps) (gk gl lb lo n lc x y : Nat) (w : World) (h1 : w.cell? ⟨gk, 0, none⟩ = some (.int .i64 4)) (h2 : w.cell? ⟨gl, 0, none⟩ = some (.slice (some ⟨lb, lo, none⟩) n lc))
    (hx : ∀ c, c < 5 → w.cell? ⟨lb, lo + x * 5 + c, none⟩ = (s.cells x)[c]?) (hy : ∀ c, c < 5 → w.cell? ⟨lb, lo + y * 5 + c, none⟩ = (s.cells y)[c]?) (hxn : x < n) (hyn : y < n) (hn : n ≤ 20000) :
    Calls Try.prog 63 #[.int .i64 x, .int .i64 y, .pointer (some ⟨gk, 0, none⟩), .pointer (some ⟨gl, 0, none⟩)] w fun e w' => e = .returned (.bool (aB 4 s x y)) ∧ ∃ m, w' = w.drewN m := by
  have hA : aB 4 s x y = decide (s.T y < s.T x) := by unfold aB; exact cmp_dec _ _
  have c1 : w.cell? ⟨lb, lo + x * 5 + 4, none⟩ = some (.int .i64 (s.T x)) := hx 4 (by omega)
  have c2 : w.cell? ⟨lb, lo + y * 5 + 4, none⟩ = some (.int .i64 (s.T y)) := hy 4 (by omega)
  have k1 : (x : Int) < (n : Int) := by omega
  have k2 : (y : Int) < (n : Int) := by omega
  rw [hA]
  clear hA hx hy
  generalize s.T x = p at *
  generalize s.T y = q at *
  go_enter Try.func63, Try.ntmps63
  go_wp2_with fail
  go_quiet (fail)
  go_wp2_with fail
  go_ret
  exact ⟨rfl, _, rfl⟩
set_option maxHeartbeats 1000000 in
set_option maxRecDepth 100000 in
theorem ahead63_5 (s : Steps) (gk gl lb lo n lc x y : Nat) (w : World) (h1 : w.cell? ⟨gk, 0, none⟩ = some (.int .i64 5)) (h2 : w.cell? ⟨gl, 0, none⟩ = some (.slice (some ⟨lb, lo, none⟩) n lc))
    (hx : ∀ c, c < 5 → w.cell? ⟨lb, lo + x * 5 + c, none⟩ = (s.cells x)[c]?) (hy : ∀ c, c < 5 → w.cell? ⟨lb, lo + y * 5 + c, none⟩ = (s.cells y)[c]?) (hxn : x < n) (hyn : y < n) (hn : n ≤ 20000) :
    Calls Try.prog 63 #[.int .i64 x, .int .i64 y, .pointer (some ⟨gk, 0, none⟩), .pointer (some ⟨gl, 0, none⟩)] w fun e w' => e = .returned (.bool (aB 5 s x y)) ∧ ∃ m, w' = w.drewN m := by
  have hA : aB 5 s x y = decide (s.S x < s.S y) := by unfold aB; exact cmp_dec _ _
  have c1 : w.cell? ⟨lb, lo + x * 5 + 3, none⟩ = some (.int .i64 (s.S x)) := hx 3 (by omega)
  have c2 : w.cell? ⟨lb, lo + y * 5 + 3, none⟩ = some (.int .i64 (s.S y)) := hy 3 (by omega)
  have k1 : (x : Int) < (n : Int) := by omega
  have k2 : (y : Int) < (n : Int) := by omega
  rw [hA]
  clear hA hx hy
  generalize s.S x = p at *
  generalize s.S y = q at *
  go_enter Try.func63, Try.ntmps63
  go_wp2_with fail
  go_quiet (fail)
  go_wp2_with fail
  go_ret
  exact ⟨rfl, _, rfl⟩
set_option maxHeartbeats 1000000 in
set_option maxRecDepth 100000 in
theorem ahead63_6 (s : Steps) (gk gl lb lo n lc x y : Nat) (w : World) (h1 : w.cell? ⟨gk, 0, none⟩ = some (.int .i64 6)) (h2 : w.cell? ⟨gl, 0, none⟩ = some (.slice (some ⟨lb, lo, none⟩) n lc))
    (hx : ∀ c, c < 5 → w.cell? ⟨lb, lo + x * 5 + c, none⟩ = (s.cells x)[c]?) (hy : ∀ c, c < 5 → w.cell? ⟨lb, lo + y * 5 + c, none⟩ = (s.cells y)[c]?) (hxn : x < n) (hyn : y < n) (hn : n ≤ 20000) :
    Calls Try.prog 63 #[.int .i64 x, .int .i64 y, .pointer (some ⟨gk, 0, none⟩), .pointer (some ⟨gl, 0, none⟩)] w fun e w' => e = .returned (.bool (aB 6 s x y)) ∧ ∃ m, w' = w.drewN m := by
  have hA : aB 6 s x y = false := by unfold aB cK; rw [if_neg (by omega), if_neg (by omega), if_neg (by omega)]; rfl
  rw [hA]
  clear hA hx hy
  go_enter Try.func63, Try.ntmps63
  go_wp2_with fail
  go_ret
  exact ⟨rfl, 0, rfl⟩
end Go.Proofs.Ytdfloglicjocbaa
