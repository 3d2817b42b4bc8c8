import Derived.Test.YtdfloglicjocbaaMb
set_option linter.unusedVariables false
set_option linter.unusedSimpArgs false
namespace Go.Proofs.Ytdfloglicjocbaa
open Go.RowKit

theorem ptake_succ (xs ys : List (Int × Int)) (k : Nat) (hx : k < xs.length) (hy : k < ys.length) (h : xs.take k = ys.take k) (e : ((xs.getD k (0, 0)).1 == (ys.getD k (0, 0)).1 && (xs.getD k (0, 0)).2 == (ys.getD k (0, 0)).2) = true) : xs.take (k + 1) = ys.take (k + 1) := by
  rw [List.take_succ_eq_append_getElem hx, List.take_succ_eq_append_getElem hy, h]
  simp [List.getElem?_eq_getElem hx, List.getElem?_eq_getElem hy] at e
  rw [Prod.ext e.1 e.2]
theorem pne_at (xs ys : List (Int × Int)) (k : Nat) (e : ((xs.getD k (0, 0)).1 == (ys.getD k (0, 0)).1 && (xs.getD k (0, 0)).2 == (ys.getD k (0, 0)).2) = false) : ¬ xs = ys := by
  rintro rfl; simp at e
theorem peq_of_take (xs ys : List (Int × Int)) (k : Nat) (hx : ¬ k < xs.length) (hl : xs.length = ys.length) (h : xs.take k = ys.take k) : xs = ys := by
  rwa [List.take_of_length_le (by omega), List.take_of_length_le (by omega)] at h

def EqB (b : Bool) (w : World) (e : Ending) (w' : World) : Prop := e = .returned (.bool b) ∧ Below w.heap.size w w'

set_option maxHeartbeats 1000000 in
set_option maxRecDepth 100000 in
theorem equal43 (a b : Option Addr) (ca cb : Nat) (xs ys : List (Int × Int)) (w : World) (hx : PRow w w.heap.size a xs) (hy : PRow w w.heap.size b ys) (lx : xs.length ≤ maxLen) (ly : ys.length ≤ maxLen) :
    Calls Try.prog 43 #[.slice a xs.length ca, .slice b ys.length cb] w (EqB (decide (xs = ys)) w) := by
  unfold maxLen at lx ly
  by_cases hl : xs.length = ys.length
  · have HL := Lib.hid hl
    have HX := Lib.hid hx
    have HY := Lib.hid hy
    have hlb : ((xs.length : Int) != (ys.length : Int)) = false := by simp; omega
    have hle1 : xs.length ≤ ys.length := by omega
    have hle2 : ys.length ≤ xs.length := by omega
    clear hl hx hy
    go_enter Try.func43, Try.ntmps43
    go_wp2_with fail
    go_loopw [13] (fun i wr => ∃ k : Nat, k ≤ xs.length ∧ i = .int .i64 k ∧ Below w.heap.size w wr ∧ Hid (xs.take k = ys.take k)) (fun i _ => xs.length - (intOf i).toNat)
    case atStart => exact ⟨0, by omega, rfl, Below.refl _ _, by show _ = _; simp⟩
    case round =>
      obtain ⟨k, hk, rfl, hb, HT⟩ := hrel
      have HB := Lib.hid hb
      clear hb
      by_cases hlt : k < xs.length
      · obtain ⟨b1, off1, rfl, hb1, c0, c1⟩ := (HX.out.below HB.out) k hlt
        obtain ⟨b2, off2, rfl, hb2, d0, d1⟩ := (HY.out.below HB.out) k (by omega)
        have hd : decide (k < xs.length) = true := decide_eq_true hlt
        have hk1 : (k : Int) < (xs.length : Int) := by omega
        have hk2 : (k : Int) < (ys.length : Int) := by omega
        have hlt2 : k < ys.length := by omega
        have he := eq40 (xs.getD k (0, 0)).1 (xs.getD k (0, 0)).2 (ys.getD k (0, 0)).1 (ys.getD k (0, 0)).2
        have hg := guard40
        cases hq : ((xs.getD k (0, 0)).1 == (ys.getD k (0, 0)).1 && (xs.getD k (0, 0)).2 == (ys.getD k (0, 0)).2)
        · have HN := Lib.hid (pne_at xs ys k hq)
          rw [hq] at he
          clear hq
          generalize (xs.getD k (0, 0)).1 = x1 at *
          generalize (xs.getD k (0, 0)).2 = x2 at *
          generalize (ys.getD k (0, 0)).1 = y1 at *
          generalize (ys.getD k (0, 0)).2 = y2 at *
          go_wp2_with fail
          go_quiet (fail)
          go_wp2_with fail
          go_ret
          exact ⟨ret_bool (by simp [HN.out]), by first | exact below_drewN HB.out _ | exact HB.out⟩
        · have HN := Lib.hid (ptake_succ xs ys k hlt hlt2 HT.out hq)
          rw [hq] at he
          clear hq
          generalize (xs.getD k (0, 0)).1 = x1 at *
          generalize (xs.getD k (0, 0)).2 = x2 at *
          generalize (ys.getD k (0, 0)).1 = y1 at *
          generalize (ys.getD k (0, 0)).2 = y2 at *
          go_wp2_with fail
          go_quiet (fail)
          go_wp2_with fail
          go_roundw
          case rel => exact ⟨k + 1, by omega, by go_num, by first | exact below_drewN HB.out _ | exact HB.out, HN⟩
          case measure => simp [intOf]; omega
      · have hd : decide (k < xs.length) = false := decide_eq_false hlt
        have HE := Lib.hid (peq_of_take xs ys k hlt HL.out HT.out)
        go_wp2_with fail
        go_ret
        exact ⟨ret_bool (by simp [HE.out]), HB.out⟩
  · have hlb : ((xs.length : Int) != (ys.length : Int)) = true := by simp; omega
    have HN := Lib.hid (show ¬ xs = ys from fun e => hl (by rw [e]))
    clear hl hx hy
    go_enter Try.func43, Try.ntmps43
    go_wp2_with fail
    go_ret
    exact ⟨ret_bool (by simp [HN.out]), Below.refl _ _⟩

/-! ### parts -/
def partL (size part : Int) (n : Nat) : List (Int × Int) := (List.range n).map fun i : Nat => ((i : Int) * part, min ((i : Int) * part + part) size)
theorem partL_succ (size part : Int) (n : Nat) : partL size part (n + 1) = partL size part n ++ [((n : Int) * part, min ((n : Int) * part + part) size)] := by simp [partL, List.range_succ]
theorem partL_len (size part : Int) (n : Nat) : (partL size part n).length = n := by simp [partL]
def PartN (size part : Int) (n : Nat) : Prop := size ≤ (n : Int) * part ∧ ∀ k : Nat, k < n → (k : Int) * part < size
theorem partN_one (size part : Int) (n m : Nat) (h1 : PartN size part n) (h2 : PartN size part m) : n = m := by
  rcases Nat.lt_trichotomy n m with h | h | h
  · have := h2.2 n h; have := h1.1; omega
  · exact h
  · have := h1.2 m h; have := h2.1; omega
theorem part_next (part x : Int) (n : Nat) (h : x = (n : Int) * part) : x + part = ((n + 1 : Nat) : Int) * part := by
  rw [h]; push_cast; rw [Int.add_mul, Int.one_mul]
theorem part_small (part : Int) (n : Nat) (h : 1 ≤ part) : (n : Int) ≤ (n : Int) * part := by
  have := Int.mul_le_mul_of_nonneg_left h (show (0 : Int) ≤ n by omega)
  omega

def PartsPost (size part : Int) (w : World) (e : Ending) (w' : World) : Prop :=
  ∃ (n : Nat) (v : Value), PartN size part n ∧ n ≤ 1048577 ∧ e = .returned v ∧ w'.ownsRow w.heap.size 40 2 v n (prC (partL size part n)) ∧ Below w.heap.size w w'

def PRel (size part : Int) (w : World) (ov av : Value) (wr : World) : Prop :=
  ∃ (n : Nat) (x : Int), av = .int .i64 x ∧ x = (n : Int) * part ∧ 0 ≤ x ∧ x ≤ 2097152 ∧ n ≤ 1048577 ∧ (∀ k : Nat, k < n → (k : Int) * part < size) ∧ wr.ownsRow w.heap.size 40 2 ov n (prC (partL size part n)) ∧ Below w.heap.size w wr

set_option maxHeartbeats 1000000 in
set_option maxRecDepth 100000 in
theorem partsOf64 (size part : Int) (w : World) (h0 : 0 ≤ size) (h1 : size ≤ 1048576) (h2 : 1 ≤ part) (h3 : part ≤ 1048576) :
    Calls Try.prog 64 #[.int .i64 size, .int .i64 part] w (PartsPost size part w) := by
  obtain ⟨i0, hi, hz0, hz1, hz2⟩ := info_parts pair_info
  go_enter Try.func64, Try.ntmps64
  go_wp2_with fail
  go_loopw [5, 6] (fun ov av wr => PRel size part w ov av wr) (fun _ av _ => (size - intOf av).toNat)
  case atStart => exact ⟨0, 0, rfl, by simp, by omega, by omega, by omega, fun k hk => by omega, World.ownsRow_nil _ _ _ _, Below.refl _ _⟩
  case round =>
    obtain ⟨n, x, rfl, hxe, hx0, hx1, hn, hlow, hown, hbel⟩ := hrel
    have HXE := Lib.hid hxe
    have HLOW := Lib.hid hlow
    have hnx := part_small part n h2
    rw [← hxe] at hnx
    clear hxe hlow
    by_cases hlt : x < size
    · obtain ⟨y, hmin⟩ : ∃ y, (if size < x + part then size else x + part) = y := ⟨_, rfl⟩
      have HY := Lib.hid (show y = min (x + part) size by rw [← hmin]; exact ite_min _ _)
      have HM := Lib.hid (show partL size part (n + 1) = partL size part n ++ [(x, y)] by rw [partL_succ, ← HXE.out, HY.out])
      have HP := Lib.hid (part_next part x n HXE.out)
      have hsz := hbel.size
      have HBel := Lib.hid hbel
      have HOwn := Lib.hid hown
      clear hbel hown
      go_wp2_with (at_builtin; refine wpList_append_own_at _ rfl (.tmp 13) (.tmp 21) 36 rfl w.heap.size 40 i0 (.agg #[.int .i64 0, .int .i64 0]) 2 16 Try.underlying36 hi hz0 hz1 hz2 rfl (by decide) _ _ _ rfl (HOwn.out.alloc _) ⟨wr.heap.size, 0, none⟩ 1 1 [.int .i64 x, .int .i64 y] rfl rfl ?c1 ?c2 ?c3 ?c4 ?c5 ?_)
      case c1 => exact cells_new _ _ _
      case c2 => simp [Value.oneCell']
      case c3 => unfold maxLen; omega
      case c4 => omega
      case c5 => simp; omega
      intro v' w1 hown1 hg1 _ _
      have hbel1 := grow_below HBel.out HOwn.out (Nat.le_refl _) hsz hg1
      have HO := Lib.hid hown1
      have HB1 := Lib.hid hbel1
      clear hown1 hg1 hbel1 hmin
      go_wp2_with fail
      go_roundw
      case rel =>
        refine ⟨n + 1, x + part, rfl, HP.out, by omega, by omega, by omega, fun k hk => ?_, ?_, HB1.out⟩
        · by_cases e : k = n
          · rw [e, ← HXE.out]; exact hlt
          · exact HLOW.out k (by omega)
        · have := HO.out
          rw [HM.out, prC_append]
          simpa [prC] using this
      case measure => simp [intOf]; omega
    · go_wp2_with fail
      go_ret
      exact ⟨n, _, ⟨by rw [← HXE.out]; omega, HLOW.out⟩, hn, rfl, hown, hbel⟩

set_option maxHeartbeats 1000000 in
set_option maxRecDepth 100000 in
theorem pieces44 (size part : Int) (w : World) (h0 : 0 ≤ size) (h1 : size ≤ 1048576) (h2 : 1 ≤ part) (h3 : part ≤ 1048576) :
    Calls Try.prog 44 #[.int .i64 size, .int .i64 part] w (PartsPost size part w) := by
  obtain ⟨i0, hi, hz0, hz1, hz2⟩ := info_parts pair_info
  go_enter Try.func44, Try.ntmps44
  go_wp2_with fail
  go_loopw [5, 6] (fun ov av wr => PRel size part w ov av wr) (fun _ av _ => (size - intOf av).toNat)
  case atStart => exact ⟨0, 0, rfl, by simp, by omega, by omega, by omega, fun k hk => by omega, World.ownsRow_nil _ _ _ _, Below.refl _ _⟩
  case round =>
    obtain ⟨n, x, rfl, hxe, hx0, hx1, hn, hlow, hown, hbel⟩ := hrel
    have HXE := Lib.hid hxe
    have HLOW := Lib.hid hlow
    have hnx := part_small part n h2
    rw [← hxe] at hnx
    clear hxe hlow
    by_cases hlt : x < size
    · obtain ⟨y, hmin⟩ : ∃ y, (if x + part < size then x + part else size) = y := ⟨_, rfl⟩
      have HY := Lib.hid (show y = min (x + part) size by rw [← hmin, ite_min]; exact Int.min_comm _ _)
      have HM := Lib.hid (show partL size part (n + 1) = partL size part n ++ [(x, y)] by rw [partL_succ, ← HXE.out, HY.out])
      have HP := Lib.hid (part_next part x n HXE.out)
      have hsz := hbel.size
      have HBel := Lib.hid hbel
      have HOwn := Lib.hid hown
      clear hbel hown
      go_wp2_with (at_builtin; refine wpList_append_own_at _ rfl (.tmp 13) (.tmp 21) 36 rfl w.heap.size 40 i0 (.agg #[.int .i64 0, .int .i64 0]) 2 16 Try.underlying36 hi hz0 hz1 hz2 rfl (by decide) _ _ _ rfl (HOwn.out.alloc _) ⟨wr.heap.size, 0, none⟩ 1 1 [.int .i64 x, .int .i64 y] rfl rfl ?c1 ?c2 ?c3 ?c4 ?c5 ?_)
      case c1 => exact cells_new _ _ _
      case c2 => simp [Value.oneCell']
      case c3 => unfold maxLen; omega
      case c4 => omega
      case c5 => simp; omega
      intro v' w1 hown1 hg1 _ _
      have hbel1 := grow_below HBel.out HOwn.out (Nat.le_refl _) hsz hg1
      have HO := Lib.hid hown1
      have HB1 := Lib.hid hbel1
      clear hown1 hg1 hbel1 hmin
      go_wp2_with fail
      go_roundw
      case rel =>
        refine ⟨n + 1, x + part, rfl, HP.out, by omega, by omega, by omega, fun k hk => ?_, ?_, HB1.out⟩
        · by_cases e : k = n
          · rw [e, ← HXE.out]; exact hlt
          · exact HLOW.out k (by omega)
        · have := HO.out
          rw [HM.out, prC_append]
          simpa [prC] using this
      case measure => simp [intOf]; omega
    · go_wp2_with fail
      go_ret
      exact ⟨n, _, ⟨by rw [← HXE.out]; omega, HLOW.out⟩, hn, rfl, hown, hbel⟩
end Go.Proofs.Ytdfloglicjocbaa
