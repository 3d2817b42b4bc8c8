import Derived.Test.YtdfloglicjocbaaB
import Derived.Maps.AppendAt
namespace Go.Proofs.Ytdfloglicjocbaa
open Go.RowKit

def dlyD (f m k : Int) : Nat → Int
  | 0 => f
  | n + 1 => min (dlyD f m k n * k) m
def dlyS (s : Int) : Nat → Int
  | 0 => s
  | n + 1 => chanceI (dlyS s n)
def dlyV (f m k j s : Int) (i : Nat) : Int := dlyD f m k i - dlyS s (i + 1) % (dlyD f m k i * j / 100 + 1)
def dlyL (f m k j s : Int) (n : Nat) : List Int := (List.range n).map (dlyV f m k j s)
theorem ite_min (a b : Int) : (if b < a then b else a) = min a b := by split <;> omega
theorem ite_max (a b : Int) : (if a < b then b else a) = max a b := by split <;> omega
theorem dlyL_succ (f m k j s : Int) (n : Nat) : dlyL f m k j s (n + 1) = dlyL f m k j s n ++ [dlyV f m k j s n] := by simp [dlyL, List.range_succ]
theorem dlyL_len (f m k j s : Int) (n : Nat) : (dlyL f m k j s n).length = n := by simp [dlyL]
theorem chanceI_bd (s : Int) : 0 ≤ chanceI s ∧ chanceI s < 2147483648 := by unfold chanceI; omega
theorem dlyS_bd (s : Int) (h : 0 ≤ s ∧ s < 2147483648) (n : Nat) : 0 ≤ dlyS s n ∧ dlyS s n < 2147483648 := by
  cases n with
  | zero => exact h
  | succ n => exact chanceI_bd _
theorem mul_bd (a b A B : Int) (h0 : 0 ≤ a) (h1 : a ≤ A) (h2 : 0 ≤ b) (h3 : b ≤ B) : 0 ≤ a * b ∧ a * b ≤ A * B := by
  have hA : 0 ≤ A := by omega
  exact ⟨Int.mul_nonneg h0 h2, Int.mul_le_mul h1 h3 h2 hA⟩
theorem dlyD_bd (f m k j t : Int) (h : boB f m k j t = true) (n : Nat) : 0 ≤ dlyD f m k n ∧ dlyD f m k n ≤ 3600000 := by
  simp only [boB, decide_eq_true_eq] at h
  induction n with
  | zero => simp only [dlyD]; omega
  | succ n ih =>
    have := mul_bd (dlyD f m k n) k 3600000 100 ih.1 ih.2 (by omega) (by omega)
    simp only [dlyD]
    omega

theorem int_info : (Try.prog.info? 3).map (fun i => (i.zero, i.size, i.bytes)) = some (some (.int .i64 0), 1, 8) := by kernel_rfl

theorem Row.of_own {w : World} {base : Nat} {v : Value} {n : Nat} {xs : List Int} (h : w.ownsRow base 3 1 v n (xs.map (Value.int .i64))) (hn : xs.length = n) :
    ∃ a cap, v = .slice a xs.length cap ∧ Row w w.heap.size a xs := by
  obtain ⟨h1, h2⟩ := h
  rcases h2 with ⟨rfl, h0⟩ | ⟨g, cap, cur, rfl, hb, hg, hc, hm, hs, ht⟩
  · refine ⟨none, 0, by rw [hn, h0], fun i hi => by omega⟩
  · refine ⟨some ⟨g, 0, none⟩, cap, by rw [hn], fun i hi => ⟨g, 0, rfl, ?_, ?_⟩⟩
    · rcases Nat.lt_or_ge g w.heap.size with hlt | hge
      · exact hlt
      · rw [Array.getElem?_eq_none hge] at hg; cases hg
    · have : cur.toList[i]? = some (.int .i64 (xs.getD i 0)) := by
        have h3 : (cur.toList.take (n * 1))[i]? = cur.toList[i]? := by rw [List.getElem?_take_of_lt (by omega)]
        rw [← h3, ht]
        simp [List.getElem?_eq_getElem hi]
      simp [World.cell?, hg]
      simpa using this

theorem grow_below {B base n : Nat} {a wr w1 : World} {o : Obj} {e : TypeId} {size : Nat} {v : Value} {xs : List Value} (hbel : Below B a wr) (hown : wr.ownsRow base e size v n xs) (hB : B ≤ base) (hsz : B ≤ wr.heap.size)
    (hg : (wr.alloc o).grownBy w1 v.ownBlock) : Below B a w1 :=
  (hbel.alloc hsz o).grown hg (by simp; omega) fun k hk => Nat.le_trans hB (hown.lt k hk).1

def DRel (w : World) (f m k j s : Int) (o : Obj) (N : Nat) (sv ov dv iv : Value) (wr : World) : Prop :=
  ∃ n : Nat, n ≤ N ∧ iv = .int .i64 n ∧ sv = .int .i64 (dlyS s n) ∧ dv = .int .i64 (dlyD f m k n) ∧ wr.ownsRow (w.heap.size + 1) 3 1 ov n ((dlyL f m k j s n).map (Value.int .i64)) ∧ Below (w.heap.size + 1) (w.alloc o) wr

set_option maxHeartbeats 400000 in
set_option maxRecDepth 100000 in
theorem delays49 (f m k j t s : Int) (w : World) (h : boB f m k j t = true) (hs : isSeedB s = true) :
    Calls Try.prog 49 #[.agg #[.int .i64 f, .int .i64 m, .int .i64 k, .int .i64 j, .int .i64 t], .int .i64 s] w fun e w' =>
      ∃ v, e = .returned v ∧ w'.ownsRow (w.heap.size + 1) 3 1 v (t - 1).toNat ((dlyL f m k j s (t - 1).toNat).map (Value.int .i64)) ∧ Below w.heap.size w w' := by
  have h' := h
  simp only [boB, decide_eq_true_eq] at h'
  obtain ⟨p1, p2, p3, p4, p5, p6, p7, p8, p9, p10⟩ := h'
  simp only [isSeedB, decide_eq_true_eq] at hs
  obtain ⟨q1, q2⟩ := hs
  obtain ⟨i0, hi, hz0, hz1, hz2⟩ := info_parts int_info
  obtain ⟨N, rfl⟩ : ∃ N : Nat, t = (N : Int) + 1 := ⟨(t - 1).toNat, by omega⟩
  have HB := Lib.hid h
  clear h
  go_enter Try.func49, Try.ntmps49
  go_wp2
  go_loopw [1, 5, 6, 12] (fun sv ov dv iv wr => DRel w f m k j s (.cells #[.int .i64 f, .int .i64 m, .int .i64 k, .int .i64 j, .int .i64 ((N : Int) + 1)] 23) N sv ov dv iv wr) (fun _ _ _ i _ => N - (intOf i).toNat)
  case atStart => exact ⟨0, by omega, rfl, rfl, rfl, World.ownsRow_nil _ _ _ _, Below.refl _ _⟩
  case round =>
    obtain ⟨n, hn, rfl, rfl, rfl, hown, hbel⟩ := hrel
    by_cases hlt : n < N
    · obtain ⟨hc1, hc2, hc3⟩ : wr.cell? ⟨w.heap.size, 1, none⟩ = some (.int .i64 m) ∧ wr.cell? ⟨w.heap.size, 2, none⟩ = some (.int .i64 k) ∧ wr.cell? ⟨w.heap.size, 3, none⟩ = some (.int .i64 j) := by
        refine ⟨(hbel.cell (p := ⟨w.heap.size, 1, none⟩) (by simp)).trans ?_, (hbel.cell (p := ⟨w.heap.size, 2, none⟩) (by simp)).trans ?_, (hbel.cell (p := ⟨w.heap.size, 3, none⟩) (by simp)).trans ?_⟩
        all_goals rw [World.cell?_alloc_at _ _ _ _ rfl]; rfl
      have hsz : w.heap.size + 1 ≤ wr.heap.size := by have := hbel.size; simpa using this
      obtain ⟨bd1, bd2⟩ := dlyD_bd f m k j _ HB.out n
      obtain ⟨bs1, bs2⟩ := dlyS_bd s ⟨q1, q2⟩ n
      have hV : dlyV f m k j s n = dlyD f m k n - chanceI (dlyS s n) % (dlyD f m k n * j / 100 + 1) := rfl
      have hD : dlyD f m k (n + 1) = min (dlyD f m k n * k) m := rfl
      have hS : dlyS s (n + 1) = chanceI (dlyS s n) := rfl
      generalize dlyD f m k n = d at *
      generalize dlyS s n = sn at *
      obtain ⟨bc1, bc2⟩ := chanceI_bd sn
      obtain ⟨bj1, bj2⟩ := mul_bd d j 3600000 100 bd1 bd2 p7 p8
      obtain ⟨bk1, bk2⟩ := mul_bd d k 3600000 100 bd1 bd2 (by omega) p6
      have HV := Lib.hid hV
      have HD := Lib.hid hD
      have HS := Lib.hid hS
      clear hV hD hS
      have hr1 : 0 ≤ chanceI sn % (d * j / 100 + 1) := Int.emod_nonneg _ (by omega)
      have hr2 : chanceI sn % (d * j / 100 + 1) < d * j / 100 + 1 := Int.emod_lt_of_pos _ (by omega)
      go_wp2_with (first | (go_at_call 68; refine (chance68 _ _ (by omega) (by omega)).mono ?_; rintro e w' ⟨rfl, rfl⟩) | (at_builtin; refine wpList_append_own_at _ rfl _ _ 26 rfl (w.heap.size + 1) 3 i0 (.int .i64 0) 1 8 Try.underlying26 hi hz0 hz1 hz2 rfl (by decide) _ _ _ rfl (hown.alloc _) ⟨wr.heap.size, 0, none⟩ 1 1 [.int .i64 (d - chanceI sn % (d * j / 100 + 1))] rfl rfl ?c1 ?c2 ?c3 ?c4 ?c5 ?_))
      case c1 => exact cell_one_new _ _ _
      case c2 => simp [Value.oneCell']
      case c3 => unfold maxLen; omega
      case c4 => omega
      case c5 => simp; omega
      intro v' w1 hown1 hg1 _ _
      have hbel1 := grow_below hbel hown (Nat.le_refl _) hsz hg1
      have hd1 : w1.cell? ⟨w.heap.size, 1, none⟩ = some (.int .i64 m) := ((hbel1.cell (p := ⟨w.heap.size, 1, none⟩) (by simp)).trans (hbel.cell (p := ⟨w.heap.size, 1, none⟩) (by simp)).symm).trans hc1
      have hd2 : w1.cell? ⟨w.heap.size, 2, none⟩ = some (.int .i64 k) := ((hbel1.cell (p := ⟨w.heap.size, 2, none⟩) (by simp)).trans (hbel.cell (p := ⟨w.heap.size, 2, none⟩) (by simp)).symm).trans hc2
      have HO := Lib.hid hown1
      clear hown hown1 hg1 hc1 hc2 hc3
      go_wp2
      go_roundw
      case rel => exact ⟨n + 1, by omega, by go_num, by rw [HS.out], by rw [HD.out, ite_min], by simpa [dlyL_succ, HV.out] using HO.out, hbel1⟩
      case measure => simp [intOf]; omega
    · go_wp2
      go_ret
      obtain rfl : n = N := by omega
      exact ⟨_, rfl, by simpa using hown, ((Below.refl _ _).alloc (Nat.le_refl _) _).trans (hbel.mono (by omega))⟩


def refD (f k : Int) : Nat → Int
  | 0 => f
  | n + 1 => min (refD f k n * k) 3600000
theorem refD_bd (f m k j t : Int) (h : boB f m k j t = true) (n : Nat) : 0 ≤ refD f k n ∧ refD f k n ≤ 3600000 := by
  simp only [boB, decide_eq_true_eq] at h
  induction n with
  | zero => simp only [refD]; omega
  | succ n ih =>
    have := mul_bd (refD f k n) k 3600000 100 ih.1 ih.2 (by omega) (by omega)
    simp only [refD]
    omega
theorem refD_min (f m k j t : Int) (h : boB f m k j t = true) (n : Nat) : min (refD f k n) m = dlyD f m k n := by
  have hbd := refD_bd f m k j t h
  simp only [boB, decide_eq_true_eq] at h
  induction n with
  | zero => simp only [refD, dlyD]; omega
  | succ n ih =>
    simp only [refD, dlyD, ← ih]
    have h0 := hbd n
    by_cases hm : refD f k n ≤ m
    · rw [show min (refD f k n) m = refD f k n from by omega]; omega
    · rw [show min (refD f k n) m = m from by omega]
      have h1 : m * 1 ≤ m * k := Int.mul_le_mul_of_nonneg_left (by omega) (by omega)
      have h2 : m * k ≤ refD f k n * k := Int.mul_le_mul_of_nonneg_right (by omega) (by omega)
      omega

def ERel (w : World) (f m k j s : Int) (o : Obj) (N : Nat) (sv ov dv iv : Value) (wr : World) : Prop :=
  ∃ n : Nat, n ≤ N ∧ iv = .int .i64 n ∧ sv = .int .i64 (dlyS s n) ∧ dv = .int .i64 (refD f k n) ∧ wr.ownsRow (w.heap.size + 1) 3 1 ov n ((dlyL f m k j s n).map (Value.int .i64)) ∧ Below (w.heap.size + 1) (w.alloc o) wr

set_option maxHeartbeats 400000 in
set_option maxRecDepth 100000 in
theorem delaysOf19 (f m k j t s : Int) (w : World) (h : boB f m k j t = true) (hs : isSeedB s = true) :
    Calls Try.prog 19 #[.agg #[.int .i64 f, .int .i64 m, .int .i64 k, .int .i64 j, .int .i64 t], .int .i64 s] w fun e w' =>
      ∃ v, e = .returned v ∧ w'.ownsRow (w.heap.size + 1) 3 1 v (t - 1).toNat ((dlyL f m k j s (t - 1).toNat).map (Value.int .i64)) ∧ Below w.heap.size w w' := by
  have h' := h
  simp only [boB, decide_eq_true_eq] at h'
  obtain ⟨p1, p2, p3, p4, p5, p6, p7, p8, p9, p10⟩ := h'
  simp only [isSeedB, decide_eq_true_eq] at hs
  obtain ⟨q1, q2⟩ := hs
  obtain ⟨i0, hi, hz0, hz1, hz2⟩ := info_parts int_info
  obtain ⟨N, rfl⟩ : ∃ N : Nat, t = (N : Int) + 1 := ⟨(t - 1).toNat, by omega⟩
  have HB := Lib.hid h
  clear h
  go_enter Try.func19, Try.ntmps19
  go_wp2
  go_loopw [1, 5, 6, 13] (fun sv ov dv iv wr => ERel w f m k j s (.cells #[.int .i64 f, .int .i64 m, .int .i64 k, .int .i64 j, .int .i64 ((N : Int) + 1)] 23) N sv ov dv iv wr) (fun _ _ _ i _ => N - (intOf i).toNat)
  case atStart => exact ⟨0, by omega, rfl, rfl, rfl, World.ownsRow_nil _ _ _ _, Below.refl _ _⟩
  case round =>
    obtain ⟨n, hn, rfl, rfl, rfl, hown, hbel⟩ := hrel
    by_cases hlt : n < N
    · obtain ⟨hc1, hc2, hc3⟩ : wr.cell? ⟨w.heap.size, 1, none⟩ = some (.int .i64 m) ∧ wr.cell? ⟨w.heap.size, 2, none⟩ = some (.int .i64 k) ∧ wr.cell? ⟨w.heap.size, 3, none⟩ = some (.int .i64 j) := by
        refine ⟨(hbel.cell (p := ⟨w.heap.size, 1, none⟩) (by simp)).trans ?_, (hbel.cell (p := ⟨w.heap.size, 2, none⟩) (by simp)).trans ?_, (hbel.cell (p := ⟨w.heap.size, 3, none⟩) (by simp)).trans ?_⟩
        all_goals rw [World.cell?_alloc_at _ _ _ _ rfl]; rfl
      have hsz : w.heap.size + 1 ≤ wr.heap.size := by have := hbel.size; simpa using this
      obtain ⟨bd1, bd2⟩ := dlyD_bd f m k j _ HB.out n
      obtain ⟨be1, be2⟩ := refD_bd f m k j _ HB.out n
      obtain ⟨bs1, bs2⟩ := dlyS_bd s ⟨q1, q2⟩ n
      have hV : dlyV f m k j s n = dlyD f m k n - chanceI (dlyS s n) % (dlyD f m k n * j / 100 + 1) := rfl
      have hD : refD f k (n + 1) = min (refD f k n * k) 3600000 := rfl
      have hS : dlyS s (n + 1) = chanceI (dlyS s n) := rfl
      rw [← refD_min f m k j _ HB.out n] at hV bd1 bd2
      generalize refD f k n = d at *
      generalize dlyS s n = sn at *
      obtain ⟨bc1, bc2⟩ := chanceI_bd sn
      have hmin : (if m < d then m else d) = min d m := ite_min d m
      generalize min d m = x at *
      obtain ⟨bj1, bj2⟩ := mul_bd x j 3600000 100 bd1 bd2 p7 p8
      obtain ⟨bk1, bk2⟩ := mul_bd d k 3600000 100 be1 be2 (by omega) p6
      have HV := Lib.hid hV
      have HD := Lib.hid hD
      have HS := Lib.hid hS
      clear hV hD hS
      have hr1 : 0 ≤ chanceI sn % (x * j / 100 + 1) := Int.emod_nonneg _ (by omega)
      have hr2 : chanceI sn % (x * j / 100 + 1) < x * j / 100 + 1 := Int.emod_lt_of_pos _ (by omega)
      go_wp2_with (first | (go_at_call 50; refine (chance50 _ _ (by omega) (by omega)).mono ?_; rintro e w' ⟨rfl, rfl⟩) | (at_builtin; refine wpList_append_own_at _ rfl _ _ 26 rfl (w.heap.size + 1) 3 i0 (.int .i64 0) 1 8 Try.underlying26 hi hz0 hz1 hz2 rfl (by decide) _ _ _ rfl (hown.alloc _) ⟨wr.heap.size, 0, none⟩ 1 1 [.int .i64 (x - chanceI sn % (x * j / 100 + 1))] rfl rfl ?c1 ?c2 ?c3 ?c4 ?c5 ?_))
      case c1 => exact cell_one_new _ _ _
      case c2 => simp [Value.oneCell']
      case c3 => unfold maxLen; omega
      case c4 => omega
      case c5 => simp; omega
      intro v' w1 hown1 hg1 _ _
      have hbel1 := grow_below hbel hown (Nat.le_refl _) hsz hg1
      have hd1 : w1.cell? ⟨w.heap.size, 1, none⟩ = some (.int .i64 m) := ((hbel1.cell (p := ⟨w.heap.size, 1, none⟩) (by simp)).trans (hbel.cell (p := ⟨w.heap.size, 1, none⟩) (by simp)).symm).trans hc1
      have hd2 : w1.cell? ⟨w.heap.size, 2, none⟩ = some (.int .i64 k) := ((hbel1.cell (p := ⟨w.heap.size, 2, none⟩) (by simp)).trans (hbel.cell (p := ⟨w.heap.size, 2, none⟩) (by simp)).symm).trans hc2
      have HO := Lib.hid hown1
      clear hown hown1 hg1 hc1 hc2 hc3
      go_wp2
      go_roundw
      case rel => exact ⟨n + 1, by omega, by go_num, by rw [HS.out], by rw [HD.out, ite_min], by simpa [dlyL_succ, HV.out] using HO.out, hbel1⟩
      case measure => simp [intOf]; omega
    · go_wp2
      go_ret
      obtain rfl : n = N := by omega
      exact ⟨_, rfl, by simpa using hown, ((Below.refl _ _).alloc (Nat.le_refl _) _).trans (hbel.mono (by omega))⟩

end Go.Proofs.Ytdfloglicjocbaa
