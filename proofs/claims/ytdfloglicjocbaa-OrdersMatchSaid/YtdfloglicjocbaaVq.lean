import Derived.Test.YtdfloglicjocbaaVx
import Derived.Test.YtdfloglicjocbaaMh
set_option linter.unusedVariables false
set_option linter.unusedSimpArgs false
namespace Go.Proofs.Ytdfloglicjocbaa
open Go.RowKit

theorem Row.step {w w' : World} {a : Option Addr} {xs : List Int} (h : Row w w.heap.size a xs) (hb : Below w.heap.size w w') : Row w' w'.heap.size a xs := (h.below hb).more hb.size
theorem finL_len (kind seed : Int) (L : List Nat) : (finL kind seed L).length = L.length := by
  unfold finL
  split
  · exact mixR_len _ _ _
  · split
    · exact shufL_len _ _ _
    · rfl
theorem sortedK_len {kind : Int} {s : Steps} {n : Nat} {L : List Nat} (h : SortedK kind s n L) : L.length ≤ n := by
  rw [h.1.length_eq]; exact carr_len s.K n
theorem order62 (kind seed : Int) (la : Option Addr) (n lc : Nat) (s : Steps) (w : World) (hk : 1 ≤ kind ∧ kind ≤ 6) (hrow : StRow w w.heap.size la n s) (hn : n ≤ 20000) (hs : 0 ≤ seed ∧ seed < 2147483648) :
    Calls Try.prog 62 #[.int .i64 kind, .int .i64 seed, .slice la n lc] w (OrdPost kind seed n s w) := by
  obtain ⟨hs0, hs1⟩ := hs
  have : kind = 1 ∨ kind = 2 ∨ kind = 3 ∨ kind = 4 ∨ kind = 5 ∨ kind = 6 := by omega
  rcases this with rfl | rfl | rfl | rfl | rfl | rfl
  · exact order62_1 seed la n lc s w hrow hn hs0 hs1
  · exact order62_2 seed la n lc s w hrow hn hs0 hs1
  · exact order62_3 seed la n lc s w hrow hn hs0 hs1
  · exact order62_4 seed la n lc s w hrow hn hs0 hs1
  · exact order62_5 seed la n lc s w hrow hn hs0 hs1
  · exact order62_6 seed la n lc s w hrow hn hs0 hs1
theorem orderOf41 (kind seed : Int) (la : Option Addr) (n lc : Nat) (s : Steps) (w : World) (hk : 1 ≤ kind ∧ kind ≤ 6) (hrow : StRow w w.heap.size la n s) (hn : n ≤ 20000) (hs : 0 ≤ seed ∧ seed < 2147483648) :
    Calls Try.prog 41 #[.int .i64 kind, .int .i64 seed, .slice la n lc] w (OrdPost kind seed n s w) := by
  obtain ⟨hs0, hs1⟩ := hs
  have : kind = 1 ∨ kind = 2 ∨ kind = 3 ∨ kind = 4 ∨ kind = 5 ∨ kind = 6 := by omega
  rcases this with rfl | rfl | rfl | rfl | rfl | rfl
  · exact orderOf41_1 seed la n lc s w hrow hn hs0 hs1
  · exact orderOf41_2 seed la n lc s w hrow hn hs0 hs1
  · exact orderOf41_3 seed la n lc s w hrow hn hs0 hs1
  · exact orderOf41_4 seed la n lc s w hrow hn hs0 hs1
  · exact orderOf41_5 seed la n lc s w hrow hn hs0 hs1
  · exact orderOf41_6 seed la n lc s w hrow hn hs0 hs1

def NilN (c : Int) (w : World) (e : Ending) (w' : World) : Prop := e = .returned (.tuple #[.slice none 0 0, .int .i64 c]) ∧ w = w'
set_option maxHeartbeats 400000 in
theorem order40_kind (kind seed : Int) (la : Option Addr) (n lc : Nat) (w : World) (hk : ¬ (1 ≤ kind ∧ kind ≤ 6)) :
    Calls Try.prog 40 #[.int .i64 kind, .int .i64 seed, .slice la n lc] w (NilN 5 w) := by
  by_cases h1 : 1 ≤ kind
  · have h2 : 6 < kind := by omega
    clear hk
    go_enter Try.func40, Try.ntmps40
    go_wp2_with fail
    go_ret2
    exact ⟨rfl, rfl⟩
  · have h2 : kind < 1 := by omega
    clear hk
    go_enter Try.func40, Try.ntmps40
    go_wp2_with fail
    go_ret2
    exact ⟨rfl, rfl⟩
set_option maxHeartbeats 400000 in
theorem order40_seed (kind seed : Int) (la : Option Addr) (n lc : Nat) (w : World) (hk : 1 ≤ kind ∧ kind ≤ 6) (hs : ¬ (0 ≤ seed ∧ seed < 2147483648)) :
    Calls Try.prog 40 #[.int .i64 kind, .int .i64 seed, .slice la n lc] w (NilN 7 w) := by
  obtain ⟨h1, h2⟩ := hk
  have hb : isSeedB seed = false := by unfold isSeedB; simp only [decide_eq_false_iff_not]; exact hs
  clear hs
  go_enter Try.func40, Try.ntmps40
  go_wp2_with fail
  refine (isSeed48 _ _).mono ?_
  rintro e w' ⟨rfl, rfl⟩
  go_wp2_with fail
  go_ret2
  exact ⟨rfl, rfl⟩
set_option maxHeartbeats 400000 in
theorem order40_long (kind seed : Int) (la : Option Addr) (n lc : Nat) (w : World) (hk : 1 ≤ kind ∧ kind ≤ 6) (hs : 0 ≤ seed ∧ seed < 2147483648) (hn : n ≤ maxLen) (hl : 20000 < n) :
    Calls Try.prog 40 #[.int .i64 kind, .int .i64 seed, .slice la n lc] w (NilN 8 w) := by
  obtain ⟨h1, h2⟩ := hk
  have hb : isSeedB seed = true := by unfold isSeedB; simp only [decide_eq_true_eq]; exact hs
  unfold maxLen at hn
  have hl1 : (20000 : Int) < (n : Int) := by omega
  clear hs
  go_enter Try.func40, Try.ntmps40
  go_wp2_with fail
  refine (isSeed48 _ _).mono ?_
  rintro e w' ⟨rfl, rfl⟩
  go_wp2_with fail
  go_ret2
  exact ⟨rfl, rfl⟩
def Ord40 (kind seed : Int) (n : Nat) (s : Steps) (w : World) (e : Ending) (w' : World) : Prop :=
  ∃ (L : List Nat) (a : Option Addr) (cap : Nat), SortedK kind s n L ∧ e = .returned (.tuple #[.slice a (finL kind seed L).length cap, .int .i64 0]) ∧ Row w' w'.heap.size a (intL (finL kind seed L)) ∧ Below w.heap.size w w'
set_option maxHeartbeats 400000 in
theorem order40_ok (kind seed : Int) (la : Option Addr) (n lc : Nat) (s : Steps) (w : World) (hk : 1 ≤ kind ∧ kind ≤ 6) (hs : 0 ≤ seed ∧ seed < 2147483648) (hrow : StRow w w.heap.size la n s) (hn : n ≤ 20000) :
    Calls Try.prog 40 #[.int .i64 kind, .int .i64 seed, .slice la n lc] w (Ord40 kind seed n s w) := by
  have HC := Lib.hid (order62 kind seed la n lc s w hk hrow hn hs)
  obtain ⟨h1, h2⟩ := hk
  have hb : isSeedB seed = true := by unfold isSeedB; simp only [decide_eq_true_eq]; exact hs
  have hl1 : ¬ (20000 : Int) < (n : Int) := by omega
  clear hs hrow
  go_enter Try.func40, Try.ntmps40
  go_wp2_with fail
  refine (isSeed48 _ _).mono ?_
  rintro e w' ⟨rfl, rfl⟩
  go_wp2_with fail
  refine HC.out.mono ?_
  rintro e w1 ⟨L, a1, cap1, hS, rfl, hr, hb1⟩
  have HS := Lib.hid hS
  have HR := Lib.hid hr
  clear hS hr
  go_wp2_with fail
  go_ret2
  exact ⟨L, a1, cap1, HS.out, rfl, HR.out, hb1⟩

set_option maxHeartbeats 4000000 in
set_option maxRecDepth 100000 in
theorem orders_bbb (kind seed : Int) (la : Option Addr) (n lc : Nat) (s : Steps) (w : World) (hrow : StRow w w.heap.size la n s) (hn : n ≤ maxLen) (hk : ¬ (1 ≤ kind ∧ kind ≤ 6)) (hs : ¬ (0 ≤ seed ∧ seed ≤ 2147483647)) (hl : 20000 < n) :
    Calls Try.prog 9 #[.int .i64 kind, .int .i64 seed, .slice la n lc] w (EqB true w) := by
  have hw1 := within_no _ _ _ hk
  have hw2 := within_no _ _ _ hs
  have hl1 : (20000 : Int) < (n : Int) := by omega
  have hl2 : whenI (decide ((20000 : Int) < (n : Int))) 8 = 8 := by rw [decide_eq_true hl1]; rfl
  unfold maxLen at hn
  have hwt5 : whenI true 5 = 5 := rfl
  have hwf5 : whenI false 5 = 0 := rfl
  have hwt7 : whenI true 7 = 7 := rfl
  have hwf7 : whenI false 7 = 0 := rfl
  have hfi : firstI [5, 7, 8] = 5 := rfl
  have H40 := Lib.hid (order40_kind kind seed la n lc w hk)
  clear hrow hk hs hl
  go_enter Try.func9, Try.ntmps9
  go_wp2_with fail
  refine H40.out.mono ?_
  rintro e w1 ⟨rfl, rfl⟩
  go_wp2_with (first | (go_at_call 17; refine (within17 _ _ _ _).mono ?_; rintro e w' ⟨rfl, rfl⟩) | (go_at_call 16; refine (when16 _ _ _).mono ?_; rintro e w' ⟨rfl, rfl⟩) | fail)
  refine (first15 _ _ [5, 7, 8] _ (w.heap.size + 1) (Row.lit _ _ _) (by simp [maxLen])).mono ?_
  rintro e w' ⟨rfl, rfl⟩
  have HBl := Lib.hid ((Below.refl w.heap.size w).alloc (Nat.le_refl _) (.cells #[.int .i64 5, .int .i64 7, .int .i64 8] 24))
  go_wp2_with fail
  generalize w.alloc (.cells #[.int .i64 5, .int .i64 7, .int .i64 8] 24) = w2 at *
  refine (hauls14 _).mono ?_
  rintro e w3 ⟨rfl, hb3⟩
  have HB3 := Lib.hid (below_step HBl.out (Nat.le_refl _) hb3)
  clear hb3
  go_wp2_with fail
  refine (hauls14 _).mono ?_
  rintro e w4 ⟨rfl, hb4⟩
  have HB4 := Lib.hid (below_step HB3.out (Nat.le_refl _) hb4)
  clear hb4
  go_wp2_with fail
  go_ret
  exact ⟨rfl, HB4.out⟩

set_option maxHeartbeats 4000000 in
set_option maxRecDepth 100000 in
theorem orders_bbg (kind seed : Int) (la : Option Addr) (n lc : Nat) (s : Steps) (w : World) (hrow : StRow w w.heap.size la n s) (hn : n ≤ maxLen) (hk : ¬ (1 ≤ kind ∧ kind ≤ 6)) (hs : ¬ (0 ≤ seed ∧ seed ≤ 2147483647)) (hl : n ≤ 20000) :
    Calls Try.prog 9 #[.int .i64 kind, .int .i64 seed, .slice la n lc] w (EqB true w) := by
  have hw1 := within_no _ _ _ hk
  have hw2 := within_no _ _ _ hs
  have hl1 : ¬ (20000 : Int) < (n : Int) := by omega
  have hl2 : whenI (decide ((20000 : Int) < (n : Int))) 8 = 0 := by rw [decide_eq_false hl1]; rfl
  unfold maxLen at hn
  have hwt5 : whenI true 5 = 5 := rfl
  have hwf5 : whenI false 5 = 0 := rfl
  have hwt7 : whenI true 7 = 7 := rfl
  have hwf7 : whenI false 7 = 0 := rfl
  have hfi : firstI [5, 7, 0] = 5 := rfl
  have H40 := Lib.hid (order40_kind kind seed la n lc w hk)
  clear hrow hk hs hl
  go_enter Try.func9, Try.ntmps9
  go_wp2_with fail
  refine H40.out.mono ?_
  rintro e w1 ⟨rfl, rfl⟩
  go_wp2_with (first | (go_at_call 17; refine (within17 _ _ _ _).mono ?_; rintro e w' ⟨rfl, rfl⟩) | (go_at_call 16; refine (when16 _ _ _).mono ?_; rintro e w' ⟨rfl, rfl⟩) | fail)
  refine (first15 _ _ [5, 7, 0] _ (w.heap.size + 1) (Row.lit _ _ _) (by simp [maxLen])).mono ?_
  rintro e w' ⟨rfl, rfl⟩
  have HBl := Lib.hid ((Below.refl w.heap.size w).alloc (Nat.le_refl _) (.cells #[.int .i64 5, .int .i64 7, .int .i64 0] 24))
  go_wp2_with fail
  generalize w.alloc (.cells #[.int .i64 5, .int .i64 7, .int .i64 0] 24) = w2 at *
  refine (hauls14 _).mono ?_
  rintro e w3 ⟨rfl, hb3⟩
  have HB3 := Lib.hid (below_step HBl.out (Nat.le_refl _) hb3)
  clear hb3
  go_wp2_with fail
  refine (hauls14 _).mono ?_
  rintro e w4 ⟨rfl, hb4⟩
  have HB4 := Lib.hid (below_step HB3.out (Nat.le_refl _) hb4)
  clear hb4
  go_wp2_with fail
  go_ret
  exact ⟨rfl, HB4.out⟩

set_option maxHeartbeats 4000000 in
set_option maxRecDepth 100000 in
theorem orders_bgb (kind seed : Int) (la : Option Addr) (n lc : Nat) (s : Steps) (w : World) (hrow : StRow w w.heap.size la n s) (hn : n ≤ maxLen) (hk : ¬ (1 ≤ kind ∧ kind ≤ 6)) (hs : 0 ≤ seed ∧ seed ≤ 2147483647) (hl : 20000 < n) :
    Calls Try.prog 9 #[.int .i64 kind, .int .i64 seed, .slice la n lc] w (EqB true w) := by
  have hw1 := within_no _ _ _ hk
  have hw2 := within_yes _ _ _ hs
  have hl1 : (20000 : Int) < (n : Int) := by omega
  have hl2 : whenI (decide ((20000 : Int) < (n : Int))) 8 = 8 := by rw [decide_eq_true hl1]; rfl
  unfold maxLen at hn
  have hwt5 : whenI true 5 = 5 := rfl
  have hwf5 : whenI false 5 = 0 := rfl
  have hwt7 : whenI true 7 = 7 := rfl
  have hwf7 : whenI false 7 = 0 := rfl
  have hfi : firstI [5, 0, 8] = 5 := rfl
  have H40 := Lib.hid (order40_kind kind seed la n lc w hk)
  clear hrow hk hs hl
  go_enter Try.func9, Try.ntmps9
  go_wp2_with fail
  refine H40.out.mono ?_
  rintro e w1 ⟨rfl, rfl⟩
  go_wp2_with (first | (go_at_call 17; refine (within17 _ _ _ _).mono ?_; rintro e w' ⟨rfl, rfl⟩) | (go_at_call 16; refine (when16 _ _ _).mono ?_; rintro e w' ⟨rfl, rfl⟩) | fail)
  refine (first15 _ _ [5, 0, 8] _ (w.heap.size + 1) (Row.lit _ _ _) (by simp [maxLen])).mono ?_
  rintro e w' ⟨rfl, rfl⟩
  have HBl := Lib.hid ((Below.refl w.heap.size w).alloc (Nat.le_refl _) (.cells #[.int .i64 5, .int .i64 0, .int .i64 8] 24))
  go_wp2_with fail
  generalize w.alloc (.cells #[.int .i64 5, .int .i64 0, .int .i64 8] 24) = w2 at *
  refine (hauls14 _).mono ?_
  rintro e w3 ⟨rfl, hb3⟩
  have HB3 := Lib.hid (below_step HBl.out (Nat.le_refl _) hb3)
  clear hb3
  go_wp2_with fail
  refine (hauls14 _).mono ?_
  rintro e w4 ⟨rfl, hb4⟩
  have HB4 := Lib.hid (below_step HB3.out (Nat.le_refl _) hb4)
  clear hb4
  go_wp2_with fail
  go_ret
  exact ⟨rfl, HB4.out⟩

set_option maxHeartbeats 4000000 in
set_option maxRecDepth 100000 in
theorem orders_bgg (kind seed : Int) (la : Option Addr) (n lc : Nat) (s : Steps) (w : World) (hrow : StRow w w.heap.size la n s) (hn : n ≤ maxLen) (hk : ¬ (1 ≤ kind ∧ kind ≤ 6)) (hs : 0 ≤ seed ∧ seed ≤ 2147483647) (hl : n ≤ 20000) :
    Calls Try.prog 9 #[.int .i64 kind, .int .i64 seed, .slice la n lc] w (EqB true w) := by
  have hw1 := within_no _ _ _ hk
  have hw2 := within_yes _ _ _ hs
  have hl1 : ¬ (20000 : Int) < (n : Int) := by omega
  have hl2 : whenI (decide ((20000 : Int) < (n : Int))) 8 = 0 := by rw [decide_eq_false hl1]; rfl
  unfold maxLen at hn
  have hwt5 : whenI true 5 = 5 := rfl
  have hwf5 : whenI false 5 = 0 := rfl
  have hwt7 : whenI true 7 = 7 := rfl
  have hwf7 : whenI false 7 = 0 := rfl
  have hfi : firstI [5, 0, 0] = 5 := rfl
  have H40 := Lib.hid (order40_kind kind seed la n lc w hk)
  clear hrow hk hs hl
  go_enter Try.func9, Try.ntmps9
  go_wp2_with fail
  refine H40.out.mono ?_
  rintro e w1 ⟨rfl, rfl⟩
  go_wp2_with (first | (go_at_call 17; refine (within17 _ _ _ _).mono ?_; rintro e w' ⟨rfl, rfl⟩) | (go_at_call 16; refine (when16 _ _ _).mono ?_; rintro e w' ⟨rfl, rfl⟩) | fail)
  refine (first15 _ _ [5, 0, 0] _ (w.heap.size + 1) (Row.lit _ _ _) (by simp [maxLen])).mono ?_
  rintro e w' ⟨rfl, rfl⟩
  have HBl := Lib.hid ((Below.refl w.heap.size w).alloc (Nat.le_refl _) (.cells #[.int .i64 5, .int .i64 0, .int .i64 0] 24))
  go_wp2_with fail
  generalize w.alloc (.cells #[.int .i64 5, .int .i64 0, .int .i64 0] 24) = w2 at *
  refine (hauls14 _).mono ?_
  rintro e w3 ⟨rfl, hb3⟩
  have HB3 := Lib.hid (below_step HBl.out (Nat.le_refl _) hb3)
  clear hb3
  go_wp2_with fail
  refine (hauls14 _).mono ?_
  rintro e w4 ⟨rfl, hb4⟩
  have HB4 := Lib.hid (below_step HB3.out (Nat.le_refl _) hb4)
  clear hb4
  go_wp2_with fail
  go_ret
  exact ⟨rfl, HB4.out⟩

set_option maxHeartbeats 4000000 in
set_option maxRecDepth 100000 in
theorem orders_gbb (kind seed : Int) (la : Option Addr) (n lc : Nat) (s : Steps) (w : World) (hrow : StRow w w.heap.size la n s) (hn : n ≤ maxLen) (hk : 1 ≤ kind ∧ kind ≤ 6) (hs : ¬ (0 ≤ seed ∧ seed ≤ 2147483647)) (hl : 20000 < n) :
    Calls Try.prog 9 #[.int .i64 kind, .int .i64 seed, .slice la n lc] w (EqB true w) := by
  have hw1 := within_yes _ _ _ hk
  have hw2 := within_no _ _ _ hs
  have hl1 : (20000 : Int) < (n : Int) := by omega
  have hl2 : whenI (decide ((20000 : Int) < (n : Int))) 8 = 8 := by rw [decide_eq_true hl1]; rfl
  unfold maxLen at hn
  have hwt5 : whenI true 5 = 5 := rfl
  have hwf5 : whenI false 5 = 0 := rfl
  have hwt7 : whenI true 7 = 7 := rfl
  have hwf7 : whenI false 7 = 0 := rfl
  have hfi : firstI [0, 7, 8] = 7 := rfl
  have H40 := Lib.hid (order40_seed kind seed la n lc w hk (by omega))
  clear hrow hk hs hl
  go_enter Try.func9, Try.ntmps9
  go_wp2_with fail
  refine H40.out.mono ?_
  rintro e w1 ⟨rfl, rfl⟩
  go_wp2_with (first | (go_at_call 17; refine (within17 _ _ _ _).mono ?_; rintro e w' ⟨rfl, rfl⟩) | (go_at_call 16; refine (when16 _ _ _).mono ?_; rintro e w' ⟨rfl, rfl⟩) | fail)
  refine (first15 _ _ [0, 7, 8] _ (w.heap.size + 1) (Row.lit _ _ _) (by simp [maxLen])).mono ?_
  rintro e w' ⟨rfl, rfl⟩
  have HBl := Lib.hid ((Below.refl w.heap.size w).alloc (Nat.le_refl _) (.cells #[.int .i64 0, .int .i64 7, .int .i64 8] 24))
  go_wp2_with fail
  generalize w.alloc (.cells #[.int .i64 0, .int .i64 7, .int .i64 8] 24) = w2 at *
  refine (hauls14 _).mono ?_
  rintro e w3 ⟨rfl, hb3⟩
  have HB3 := Lib.hid (below_step HBl.out (Nat.le_refl _) hb3)
  clear hb3
  go_wp2_with fail
  refine (hauls14 _).mono ?_
  rintro e w4 ⟨rfl, hb4⟩
  have HB4 := Lib.hid (below_step HB3.out (Nat.le_refl _) hb4)
  clear hb4
  go_wp2_with fail
  go_ret
  exact ⟨rfl, HB4.out⟩

set_option maxHeartbeats 4000000 in
set_option maxRecDepth 100000 in
theorem orders_gbg (kind seed : Int) (la : Option Addr) (n lc : Nat) (s : Steps) (w : World) (hrow : StRow w w.heap.size la n s) (hn : n ≤ maxLen) (hk : 1 ≤ kind ∧ kind ≤ 6) (hs : ¬ (0 ≤ seed ∧ seed ≤ 2147483647)) (hl : n ≤ 20000) :
    Calls Try.prog 9 #[.int .i64 kind, .int .i64 seed, .slice la n lc] w (EqB true w) := by
  have hw1 := within_yes _ _ _ hk
  have hw2 := within_no _ _ _ hs
  have hl1 : ¬ (20000 : Int) < (n : Int) := by omega
  have hl2 : whenI (decide ((20000 : Int) < (n : Int))) 8 = 0 := by rw [decide_eq_false hl1]; rfl
  unfold maxLen at hn
  have hwt5 : whenI true 5 = 5 := rfl
  have hwf5 : whenI false 5 = 0 := rfl
  have hwt7 : whenI true 7 = 7 := rfl
  have hwf7 : whenI false 7 = 0 := rfl
  have hfi : firstI [0, 7, 0] = 7 := rfl
  have H40 := Lib.hid (order40_seed kind seed la n lc w hk (by omega))
  clear hrow hk hs hl
  go_enter Try.func9, Try.ntmps9
  go_wp2_with fail
  refine H40.out.mono ?_
  rintro e w1 ⟨rfl, rfl⟩
  go_wp2_with (first | (go_at_call 17; refine (within17 _ _ _ _).mono ?_; rintro e w' ⟨rfl, rfl⟩) | (go_at_call 16; refine (when16 _ _ _).mono ?_; rintro e w' ⟨rfl, rfl⟩) | fail)
  refine (first15 _ _ [0, 7, 0] _ (w.heap.size + 1) (Row.lit _ _ _) (by simp [maxLen])).mono ?_
  rintro e w' ⟨rfl, rfl⟩
  have HBl := Lib.hid ((Below.refl w.heap.size w).alloc (Nat.le_refl _) (.cells #[.int .i64 0, .int .i64 7, .int .i64 0] 24))
  go_wp2_with fail
  generalize w.alloc (.cells #[.int .i64 0, .int .i64 7, .int .i64 0] 24) = w2 at *
  refine (hauls14 _).mono ?_
  rintro e w3 ⟨rfl, hb3⟩
  have HB3 := Lib.hid (below_step HBl.out (Nat.le_refl _) hb3)
  clear hb3
  go_wp2_with fail
  refine (hauls14 _).mono ?_
  rintro e w4 ⟨rfl, hb4⟩
  have HB4 := Lib.hid (below_step HB3.out (Nat.le_refl _) hb4)
  clear hb4
  go_wp2_with fail
  go_ret
  exact ⟨rfl, HB4.out⟩

set_option maxHeartbeats 4000000 in
set_option maxRecDepth 100000 in
theorem orders_ggb (kind seed : Int) (la : Option Addr) (n lc : Nat) (s : Steps) (w : World) (hrow : StRow w w.heap.size la n s) (hn : n ≤ maxLen) (hk : 1 ≤ kind ∧ kind ≤ 6) (hs : 0 ≤ seed ∧ seed ≤ 2147483647) (hl : 20000 < n) :
    Calls Try.prog 9 #[.int .i64 kind, .int .i64 seed, .slice la n lc] w (EqB true w) := by
  have hw1 := within_yes _ _ _ hk
  have hw2 := within_yes _ _ _ hs
  have hl1 : (20000 : Int) < (n : Int) := by omega
  have hl2 : whenI (decide ((20000 : Int) < (n : Int))) 8 = 8 := by rw [decide_eq_true hl1]; rfl
  unfold maxLen at hn
  have hwt5 : whenI true 5 = 5 := rfl
  have hwf5 : whenI false 5 = 0 := rfl
  have hwt7 : whenI true 7 = 7 := rfl
  have hwf7 : whenI false 7 = 0 := rfl
  have hfi : firstI [0, 0, 8] = 8 := rfl
  have H40 := Lib.hid (order40_long kind seed la n lc w hk (by omega) (by unfold maxLen; omega) hl)
  clear hrow hk hs hl
  go_enter Try.func9, Try.ntmps9
  go_wp2_with fail
  refine H40.out.mono ?_
  rintro e w1 ⟨rfl, rfl⟩
  go_wp2_with (first | (go_at_call 17; refine (within17 _ _ _ _).mono ?_; rintro e w' ⟨rfl, rfl⟩) | (go_at_call 16; refine (when16 _ _ _).mono ?_; rintro e w' ⟨rfl, rfl⟩) | fail)
  refine (first15 _ _ [0, 0, 8] _ (w.heap.size + 1) (Row.lit _ _ _) (by simp [maxLen])).mono ?_
  rintro e w' ⟨rfl, rfl⟩
  have HBl := Lib.hid ((Below.refl w.heap.size w).alloc (Nat.le_refl _) (.cells #[.int .i64 0, .int .i64 0, .int .i64 8] 24))
  go_wp2_with fail
  generalize w.alloc (.cells #[.int .i64 0, .int .i64 0, .int .i64 8] 24) = w2 at *
  refine (hauls14 _).mono ?_
  rintro e w3 ⟨rfl, hb3⟩
  have HB3 := Lib.hid (below_step HBl.out (Nat.le_refl _) hb3)
  clear hb3
  go_wp2_with fail
  refine (hauls14 _).mono ?_
  rintro e w4 ⟨rfl, hb4⟩
  have HB4 := Lib.hid (below_step HB3.out (Nat.le_refl _) hb4)
  clear hb4
  go_wp2_with fail
  go_ret
  exact ⟨rfl, HB4.out⟩

set_option maxHeartbeats 4000000 in
set_option maxRecDepth 100000 in
theorem orders_ggg (kind seed : Int) (la : Option Addr) (n lc : Nat) (s : Steps) (w : World) (hrow : StRow w w.heap.size la n s) (hn : n ≤ maxLen) (hk : 1 ≤ kind ∧ kind ≤ 6) (hs : 0 ≤ seed ∧ seed ≤ 2147483647) (hl : n ≤ 20000) :
    Calls Try.prog 9 #[.int .i64 kind, .int .i64 seed, .slice la n lc] w (EqB true w) := by
  have hw1 := within_yes _ _ _ hk
  have hw2 := within_yes _ _ _ hs
  have hl1 : ¬ (20000 : Int) < (n : Int) := by omega
  have hl2 : whenI (decide ((20000 : Int) < (n : Int))) 8 = 0 := by rw [decide_eq_false hl1]; rfl
  unfold maxLen at hn
  have hwt5 : whenI true 5 = 5 := rfl
  have hwf5 : whenI false 5 = 0 := rfl
  have hwt7 : whenI true 7 = 7 := rfl
  have hwf7 : whenI false 7 = 0 := rfl
  have hfi : firstI [0, 0, 0] = 0 := rfl
  have H40 := Lib.hid (order40_ok kind seed la n lc s w hk (by omega) hrow hl)
  have H41 := Lib.hid (fun W (h : StRow W W.heap.size la n s) => orderOf41 kind seed la n lc s W hk h hl (by omega))
  have HK := Lib.hid hk
  have HL := Lib.hid hl
  have HX := Lib.hid hrow
  clear hrow hk hs hl
  go_enter Try.func9, Try.ntmps9
  go_wp2_with fail
  refine H40.out.mono ?_
  rintro e w1 ⟨L, a1, cap1, hS, rfl, hr, hb1⟩
  have hlen : (finL kind seed L).length ≤ n := by rw [finL_len]; exact sortedK_len hS
  have HS := Lib.hid hS
  have HR := Lib.hid hr
  have HB1 := Lib.hid hb1
  clear hS hr hb1
  obtain ⟨N, hN⟩ : ∃ N, (finL kind seed L).length = N := ⟨_, rfl⟩
  rw [hN]
  rw [hN] at hlen
  have HN := Lib.hid hN
  clear hN
  go_wp2_with (first | (go_at_call 17; refine (within17 _ _ _ _).mono ?_; rintro e w' ⟨rfl, rfl⟩) | (go_at_call 16; refine (when16 _ _ _).mono ?_; rintro e w' ⟨rfl, rfl⟩) | fail)
  refine (first15 _ _ [0, 0, 0] _ (w1.heap.size + 1) (Row.lit _ _ _) (by simp [maxLen])).mono ?_
  rintro e w' ⟨rfl, rfl⟩
  have HBl := Lib.hid ((Below.refl w1.heap.size w1).alloc (Nat.le_refl _) (.cells #[.int .i64 0, .int .i64 0, .int .i64 0] 24))
  have HB2 := Lib.hid (below_step HB1.out (Nat.le_refl _) HBl.out)
  have HR2 := Lib.hid (HR.out.step HBl.out)
  clear HB1 HR
  go_wp2_with fail
  generalize w1.alloc (.cells #[.int .i64 0, .int .i64 0, .int .i64 0] 24) = w2 at *
  refine (hauls14 _).mono ?_
  rintro e w3 ⟨rfl, hb3⟩
  have HB3 := Lib.hid (below_step HB2.out (Nat.le_refl _) hb3)
  have HR3 := Lib.hid (HR2.out.step hb3)
  have HX3 := Lib.hid ((HX.out.below HB3.out).more HB3.out.size)
  clear hb3
  go_wp2_with fail
  refine (H41.out _ HX3.out).mono ?_
  rintro e w4 ⟨L2, a2, cap2, hS2, rfl, hr2, hb4⟩
  obtain rfl : L2 = L := sortedK_one kind s n HK.out _ _ hS2 HS.out
  rw [HN.out]
  have hq : ∀ {x y : Nat}, x = y → x = y := fun h => h
  have hlL : (intL (finL kind seed L2)).length = N := by rw [intL_len]; exact HN.out
  have HE := Lib.hid (hlL ▸ equal18 a1 a2 cap1 cap2 (intL (finL kind seed L2)) (intL (finL kind seed L2)) w4 w4.heap.size (HR3.out.step hb4) hr2 (by rw [hlL]; unfold maxLen; have := HL.out; omega) (by rw [hlL]; unfold maxLen; have := HL.out; omega) : Calls Try.prog 18 #[.slice a1 N cap1, .slice a2 N cap2] w4 _)
  have HB4 := Lib.hid (below_step HB3.out (Nat.le_refl _) hb4)
  clear hS2 hr2 hb4 hq hlL
  go_wp2_with fail
  refine HE.out.mono ?_
  rintro e w5 ⟨rfl, m, rfl⟩
  have HB5 := Lib.hid (below_step HB4.out (Nat.le_refl _) (below_drewN (Below.refl _ _) m))
  go_wp2_with fail
  go_ret
  exact ⟨by simp, HB5.out⟩

theorem orders_all (kind seed : Int) (la : Option Addr) (n lc : Nat) (s : Steps) (w : World) (hrow : StRow w w.heap.size la n s) (hn : n ≤ maxLen) :
    Calls Try.prog 9 #[.int .i64 kind, .int .i64 seed, .slice la n lc] w (EqB true w) := by
  by_cases hk : 1 ≤ kind ∧ kind ≤ 6 <;> by_cases hs : 0 ≤ seed ∧ seed ≤ 2147483647 <;> rcases Nat.lt_or_ge 20000 n with hl | hl
  · exact orders_ggb kind seed la n lc s w hrow hn hk hs hl
  · exact orders_ggg kind seed la n lc s w hrow hn hk hs hl
  · exact orders_gbb kind seed la n lc s w hrow hn hk hs hl
  · exact orders_gbg kind seed la n lc s w hrow hn hk hs hl
  · exact orders_bgb kind seed la n lc s w hrow hn hk hs hl
  · exact orders_bgg kind seed la n lc s w hrow hn hk hs hl
  · exact orders_bbb kind seed la n lc s w hrow hn hk hs hl
  · exact orders_bbg kind seed la n lc s w hrow hn hk hs hl
end Go.Proofs.Ytdfloglicjocbaa
