import Derived.Test.YtdfloglicjocbaaA
import Derived.WalkKit
import Derived.WalkSpells
import Derived.WalkLawsBesides
import Derived.Deep.QuietTactic
import Derived.BigQuiet
import Derived.Lib.Hide
namespace Go.Proofs.Ytdfloglicjocbaa
open Go.RowKit

/-- the first xs.length cells at a hold the numbers xs, in blocks below B. -/
def Row (w : World) (B : Nat) (a : Option Addr) (xs : List Int) : Prop :=
  ∀ i, i < xs.length → ∃ b off, a = some ⟨b, off, none⟩ ∧ b < B ∧ w.cell? ⟨b, off + i, none⟩ = some (.int .i64 (xs.getD i 0))

theorem Row.below {w w' : World} {B : Nat} {a : Option Addr} {xs : List Int} (h : Row w B a xs) (hb : Below B w w') : Row w' B a xs := by
  intro i hi
  obtain ⟨b, off, e, hlt, hc⟩ := h i hi
  exact ⟨b, off, e, hlt, (hb.cell (p := ⟨b, off + i, none⟩) hlt).trans hc⟩
theorem Row.more {w : World} {B B' : Nat} {a : Option Addr} {xs : List Int} (h : Row w B a xs) (hb : B ≤ B') : Row w B' a xs := by
  intro i hi
  obtain ⟨b, off, e, hlt, hc⟩ := h i hi
  exact ⟨b, off, e, by omega, hc⟩
theorem Row.at_ {w : World} {B : Nat} {a : Option Addr} {xs : List Int} (h : Row w B a xs) (hn : 0 < xs.length) :
    ∃ b off, a = some ⟨b, off, none⟩ ∧ b < B ∧ ∀ i, i < xs.length → w.cell? ⟨b, off + i, none⟩ = some (.int .i64 (xs.getD i 0)) := by
  obtain ⟨b, off, e, hlt, hc⟩ := h 0 hn
  refine ⟨b, off, e, hlt, fun i hi => ?_⟩
  obtain ⟨b', off', e', hlt', hc'⟩ := h i hi
  rw [e] at e'
  cases e'
  exact hc'

theorem take_eq_succ (xs ys : List Int) (k : Nat) (hx : k < xs.length) (hy : k < ys.length) (h : xs.take k = ys.take k) (e : (xs[k] != ys[k]) = false) : xs.take (k + 1) = ys.take (k + 1) := by
  rw [List.take_succ_eq_append_getElem hx, List.take_succ_eq_append_getElem hy, h]
  simp at e
  rw [e]
theorem eq_of_take (xs ys : List Int) (k : Nat) (hx : ¬ k < xs.length) (hl : xs.length = ys.length) (h : xs.take k = ys.take k) : xs = ys := by
  rwa [List.take_of_length_le (by omega), List.take_of_length_le (by omega)] at h
theorem ne_of_at (xs ys : List Int) (k : Nat) (hx : k < xs.length) (hy : k < ys.length) (h : (xs[k] != ys[k]) = true) : ¬ xs = ys := by
  rintro rfl; simp at h

set_option maxHeartbeats 400000 in
theorem equal18 (a b : Option Addr) (ca cb : Nat) (xs ys : List Int) (w : World) (B : Nat) (hx : Row w B a xs) (hy : Row w B b ys) (lx : xs.length ≤ maxLen) (ly : ys.length ≤ maxLen) :
    Calls Try.prog 18 #[.slice a xs.length ca, .slice b ys.length cb] w fun e w' => e = .returned (.bool (decide (xs = ys))) ∧ ∃ n, w' = w.drewN n := by
  unfold maxLen at lx ly
  by_cases hl : xs.length = ys.length
  · by_cases hn : xs.length = 0
    · have h1 : xs = [] := List.eq_nil_of_length_eq_zero hn
      have h2 : ys = [] := List.eq_nil_of_length_eq_zero (by omega)
      subst h1 h2
      clear hn hl
      go_enter Try.func18, Try.ntmps18
      go_wp2
      go_loop [13] (fun i => i = .int .i64 0) (fun _ => 0)
      case atStart => rfl
      case round =>
        subst hrel
        go_wp2
        go_ret
        exact ⟨by simp, 0, rfl⟩
    · obtain ⟨bx, ox, rfl, _, cx⟩ := hx.at_ (by omega)
      obtain ⟨by', oy, rfl, _, cy⟩ := hy.at_ (by omega)
      have HL := Lib.hid hl
      have CX := Lib.hid cx
      have CY := Lib.hid cy
      have hlb : ((xs.length : Int) != (ys.length : Int)) = false := by simp; omega
      have hle1 : xs.length ≤ ys.length := by omega
      have hle2 : ys.length ≤ xs.length := by omega
      clear hl cx cy hx hy
      go_enter Try.func18, Try.ntmps18
      go_wp2
      go_loopw [13] (fun i wr => ∃ k n : Nat, k ≤ xs.length ∧ i = .int .i64 k ∧ wr = w.drewN n ∧ xs.take k = ys.take k) (fun i _ => xs.length - (intOf i).toNat)
      case atStart => exact ⟨0, 0, by omega, rfl, rfl, by simp⟩
      case round =>
        obtain ⟨k, n, hk, rfl, rfl, htk⟩ := hrel
        have HT := Lib.hid htk
        clear htk
        by_cases hlt : k < xs.length
        · have c1 := CX.out k hlt
          have c2 := CY.out k (by omega)
          have hlt2 : k < ys.length := by omega
          go_wp2
          go_quiet (fail)
          go_wp2
          · go_ret
            exact ⟨ret_bool (by simp [ne_of_at xs ys k hlt hlt2 (by assumption)]), _, World.drewN_drewN _ _ _⟩
          · go_roundw
            case rel => exact ⟨k + 1, _, by omega, by go_num, rfl, take_eq_succ xs ys k hlt hlt2 HT.out (by assumption)⟩
            case measure => simp [intOf]; omega
        · go_wp2
          go_ret
          exact ⟨ret_bool (by simp [eq_of_take xs ys k hlt HL.out HT.out]), n, rfl⟩
  · have hlb : ((xs.length : Int) != (ys.length : Int)) = true := by simp; omega
    have hne : ¬ xs = ys := fun e => hl (by rw [e])
    clear hl hx hy
    go_enter Try.func18, Try.ntmps18
    go_wp2
    go_ret
    exact ⟨ret_bool (by simp [hne]), 0, rfl⟩


/-- the number that is not 0 first. -/
def firstI : List Int → Int
  | [] => 0
  | x :: l => if x = 0 then firstI l else x

theorem firstI_take_succ (xs : List Int) (k : Nat) (hx : k < xs.length) (h : ∀ i, i < k → xs.getD i 0 = 0) (e : ¬ xs[k] = 0) : firstI xs = xs[k] := by
  induction xs generalizing k with
  | nil => simp at hx
  | cons x l ih =>
    cases k with
    | zero => simp at e; simp [firstI, e]
    | succ k =>
      have h0 : x = 0 := by simpa using h 0 (by omega)
      have := ih k (by simpa using hx) (fun i hi => by simpa using h (i + 1) (by omega)) (by simpa using e)
      simp [firstI, h0, this]
theorem firstI_zero (xs : List Int) (h : ∀ i, i < xs.length → xs.getD i 0 = 0) : firstI xs = 0 := by
  induction xs with
  | nil => rfl
  | cons x l ih =>
    have h0 : x = 0 := by simpa using h 0 (by simp)
    simp [firstI, h0, ih fun i hi => by simpa using h (i + 1) (by simpa using hi)]

set_option maxHeartbeats 400000 in
theorem first15 (a : Option Addr) (ca : Nat) (xs : List Int) (w : World) (B : Nat) (hx : Row w B a xs) (lx : xs.length ≤ maxLen) :
    Calls Try.prog 15 #[.slice a xs.length ca] w fun e w' => e = .returned (.int .i64 (firstI xs)) ∧ w = w' := by
  unfold maxLen at lx
  have HX := Lib.hid hx
  clear hx
  go_enter Try.func15, Try.ntmps15
  go_wp2
  go_loop [7] (fun i => ∃ k : Nat, k ≤ xs.length ∧ i = .int .i64 k ∧ ∀ i, i < k → xs.getD i 0 = 0) (fun i => xs.length - (intOf i).toNat)
  case atStart => exact ⟨0, by omega, rfl, by simp⟩
  case round =>
    obtain ⟨k, hk, rfl, hz⟩ := hrel
    have HZ := Lib.hid hz
    clear hz
    by_cases hlt : k < xs.length
    · obtain ⟨bx, ox, rfl, _, cx⟩ := HX.out k hlt
      go_wp2
      · go_ret
        exact ⟨ret_int (firstI_take_succ xs k hlt HZ.out (by simpa using ‹(xs[k] != 0) = true›)).symm, rfl⟩
      · go_round
        case rel =>
          refine ⟨k + 1, by omega, by go_num, fun i hi => ?_⟩
          by_cases hik : i < k
          · exact HZ.out i hik
          · obtain rfl : i = k := by omega
            simpa [List.getElem?_eq_getElem hlt] using ‹(xs[i] != 0) = false›
        case measure => simp [intOf]; omega
    · go_wp2
      go_ret
      exact ⟨ret_int (firstI_zero xs fun i hi => HZ.out i (by omega)).symm, rfl⟩

end Go.Proofs.Ytdfloglicjocbaa
