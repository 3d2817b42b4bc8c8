import Derived.Test.YtdfloglicjocbaaBb
namespace Go.Proofs.Ytdfloglicjocbaa
open Go.RowKit

set_option maxHeartbeats 400000 in
theorem level32_ok (g : Nat) (a : Option Addr) (ca : Nat) (xs : List (Int × Int)) (M l s : Int) (n : Nat) (w : World) (B : Nat) (hg : Blk w g 97 (bkC a xs.length ca M l s (neverB xs))) (hx : Row2 w B a xs) (v : Valid xs)
    (hM : 0 ≤ M) (hM1 : M ≤ 1000000000000) (hl0 : 0 ≤ l) (hl1 : l ≤ M) (hs : 0 ≤ s) (hn : s + n ≤ 1099511627776) :
    Calls Try.prog 32 #[.pointer (some ⟨g, 0, none⟩), .int .i64 (s + n)] w fun e w' => e = .returned (.tuple #[.int .i64 (holdF xs M s l n / 1000), .int .i64 0]) ∧ w = w' := by
  have hc := hg.cell
  have HG := Lib.hid hg
  have HX := Lib.hid hx
  have HV := Lib.hid v
  clear hg hx v
  have pl := holdF_le (xs := xs) (s := s) hl1 n
  have pg := holdF_ge (xs := xs) (s := s) hM hl0 n
  go_enter Try.func32, Try.ntmps32
  go_wp2_with fail
  refine (levelAt54 g a ca xs M l s n w B HG.out HX.out HV.out hM hM1 hl0 hl1 hs hn).mono ?_
  rintro e w' ⟨rfl, rfl⟩
  generalize hp : holdF xs M s l n = p at *
  have HP := Lib.hid hp
  clear hp
  go_wp2_with fail
  go_ret2
  exact ⟨ret_pair (by rw [HP.out]) rfl, rfl⟩

set_option maxHeartbeats 400000 in
theorem level32_early (g : Nat) (a : Option Addr) (ca : Nat) (xs : List (Int × Int)) (M l s t : Int) (w : World) (hg : Blk w g 97 (bkC a xs.length ca M l s (neverB xs)))
    (h0 : 0 ≤ t) (h1 : t < s) (h2 : t ≤ 1099511627776) :
    Calls Try.prog 32 #[.pointer (some ⟨g, 0, none⟩), .int .i64 t] w fun e w' => e = .returned (.tuple #[.int .i64 0, .int .i64 10]) ∧ w = w' := by
  have hc := hg.cell
  clear hg
  go_enter Try.func32, Try.ntmps32
  go_wp2_with fail
  go_ret2
  exact ⟨rfl, rfl⟩

/-- the cells of a list of pairs. -/
def pairCells : List (Int × Int) → List Value
  | [] => []
  | (x, y) :: l => .int .i64 x :: .int .i64 y :: pairCells l
theorem pairCells_len (xs : List (Int × Int)) : (pairCells xs).length = xs.length * 2 := by
  induction xs with
  | nil => rfl
  | cons x l ih => simp [pairCells, ih]; omega
theorem pairCells_at (xs : List (Int × Int)) (i : Nat) (hi : i < xs.length) : (pairCells xs)[i * 2]? = some (.int .i64 (xs.getD i (0, 0)).1) ∧ (pairCells xs)[i * 2 + 1]? = some (.int .i64 (xs.getD i (0, 0)).2) := by
  induction xs generalizing i with
  | nil => simp at hi
  | cons x l ih =>
    cases i with
    | zero => simp [pairCells]
    | succ i =>
      have := ih i (by simpa using hi)
      rw [show (i + 1) * 2 = i * 2 + 1 + 1 from by omega]
      simpa [pairCells] using this
theorem pairCells_one (xs : List (Int × Int)) : ∀ u ∈ pairCells xs, u.oneCell' = true := by
  induction xs with
  | nil => simp [pairCells]
  | cons x l ih =>
    intro u hu
    simp only [pairCells, List.mem_cons] at hu
    rcases hu with rfl | rfl | hu
    · rfl
    · rfl
    · exact ih u hu
theorem Row2.of_own {w : World} {base : Nat} {t : TypeId} {v : Value} {n : Nat} {xs : List (Int × Int)} (h : w.ownsRow base t 2 v n (pairCells xs)) (hn : xs.length = n) (hp : 0 < n) :
    ∃ g cap, v = .slice (some ⟨g, 0, none⟩) xs.length cap ∧ base ≤ g ∧ g < w.heap.size ∧ ∀ B, g < B → Row2 w B (some ⟨g, 0, none⟩) xs := by
  obtain ⟨h1, h2⟩ := h
  rcases h2 with ⟨rfl, h0⟩ | ⟨g, cap, cur, rfl, hb, hg, hc, hm, hs, ht⟩
  · omega
  · refine ⟨g, cap, by rw [hn], hb, ?_, fun B hB i hi => ⟨g, 0, rfl, hB, ?_, ?_⟩⟩
    · rcases Nat.lt_or_ge g w.heap.size with hlt | hge
      · exact hlt
      · rw [Array.getElem?_eq_none hge] at hg; cases hg
    · have h3 : (cur.toList.take (n * 2))[i * 2]? = cur.toList[i * 2]? := by rw [List.getElem?_take_of_lt (by omega)]
      rw [ht, (pairCells_at xs i hi).1] at h3
      simp [World.cell?, hg]
      simpa using h3.symm
    · have h3 : (cur.toList.take (n * 2))[i * 2 + 1]? = cur.toList[i * 2 + 1]? := by rw [List.getElem?_take_of_lt (by omega)]
      rw [ht, (pairCells_at xs i hi).2] at h3
      simp [World.cell?, hg]
      simpa using h3.symm
theorem Row2.cells {w : World} {B : Nat} {a : Option Addr} {xs : List (Int × Int)} (h : Row2 w B a xs) (hp : 0 < xs.length) :
    ∃ b off, a = some ⟨b, off, none⟩ ∧ b < B ∧ ∀ j u, (pairCells xs)[j]? = some u → w.cell? ((⟨b, off, none⟩ : Addr).add j) = some u := by
  obtain ⟨b, off, rfl, hb, _⟩ := h 0 hp
  refine ⟨b, off, rfl, hb, fun j u hu => ?_⟩
  have hj : j < (pairCells xs).length := by
    rcases Nat.lt_or_ge j (pairCells xs).length with h | h
    · exact h
    · rw [List.getElem?_eq_none h] at hu; cases hu
  rw [pairCells_len] at hj
  have hadd : ((⟨b, off, none⟩ : Addr).add j) = ⟨b, off + j, none⟩ := by
    unfold Addr.add
    by_cases h0 : j = 0 <;> simp [h0]
  rw [hadd]
  obtain ⟨b', off', e', _, c0, c1⟩ := h (j / 2) (by omega)
  cases e'
  obtain ⟨d0, d1⟩ := pairCells_at xs (j / 2) (by omega)
  rcases Nat.mod_two_eq_zero_or_one j with hm | hm
  · rw [show j / 2 * 2 = j from by omega] at c0 d0
    rw [c0, ← d0, hu]
  · rw [show off + j / 2 * 2 + 1 = off + j from by omega] at c1
    rw [show j / 2 * 2 + 1 = j from by omega] at d1
    rw [c1, ← d1, hu]

theorem rate_info : (Try.prog.info? 93).map (fun i => (i.zero, i.size, i.bytes)) = some (some (.agg #[.int .i64 0, .int .i64 0]), 2, 16) := by kernel_rfl

def nvTo (xs : List (Int × Int)) (k : Nat) : Bool := (List.range k).all fun i => byteAt xs i == 0
theorem nvTo_succ (xs : List (Int × Int)) (k : Nat) : nvTo xs (k + 1) = (nvTo xs k && (byteAt xs k == 0)) := by simp [nvTo, List.range_succ]

set_option maxHeartbeats 1000000 in
set_option maxRecDepth 100000 in
theorem newBucket28_ok (a : Option Addr) (ca : Nat) (xs : List (Int × Int)) (burst : Int) (w : World) (hx : Row2 w w.heap.size a xs) (lx : xs.length ≤ maxLen) (hE : bucketE xs burst = 0) (v : Valid xs) (hb0 : 1 ≤ burst) (hb1 : burst ≤ 1000000000) :
    Calls Try.prog 28 #[.slice a xs.length ca, .int .i64 burst] w fun e w' => ∃ g r c, e = .returned (.tuple #[.pointer (some ⟨g, 0, none⟩), .int .i64 0]) ∧ Blk w' g 97 (bkC (some ⟨r, 0, none⟩) xs.length c (burst * 1000) (burst * 1000) 0 (neverB xs)) ∧
      w.heap.size ≤ r ∧ r < g ∧ Row2 w' g (some ⟨r, 0, none⟩) xs ∧ Below w.heap.size w w' := by
  obtain ⟨i0, hi, hz0, hz1, hz2⟩ := info_parts rate_info
  have lp := v.pos
  have ll := v.le
  have HX := Lib.hid hx
  clear hx v
  go_enter Try.func28, Try.ntmps28
  go_wp2_with fail
  refine (checkBucket51 a ca xs burst w _ (Nat.le_refl _) HX.out lx).mono ?_
  rintro e w1 ⟨rfl, hb⟩
  obtain ⟨b, off, rfl, hbB, hcells⟩ := (HX.out.below hb).cells lp
  have HC := Lib.hid hcells
  have HB := Lib.hid hb
  have hs1 := hb.size
  clear hcells hb
  go_wp2_with (at_builtin; refine wpList_append_own_at _ rfl _ _ 47 rfl w1.heap.size 93 i0 (.agg #[.int .i64 0, .int .i64 0]) 2 16 Try.underlying47 hi hz0 hz1 hz2 rfl (by decide) (.slice none 0 0) 0 [] rfl (World.ownsRow_nil _ _ _ _) ⟨b, off, none⟩ xs.length ca (pairCells xs) rfl ?c1 ?c2 ?c3 ?c4 ?c5 ?c6 ?_)
  case c1 => exact pairCells_len xs
  case c2 => exact HC.out
  case c3 => exact pairCells_one xs
  case c4 => simpa using lx
  case c5 => omega
  case c6 => exact Nat.le_refl _
  intro v' w2 hown hg2 _ _
  have hown' : w2.ownsRow w1.heap.size 93 2 v' xs.length (pairCells xs) := by simpa using hown
  obtain ⟨r, c, hv', hr1, hr2, hrow⟩ := Row2.of_own hown' rfl lp
  have hb2 : Below w1.heap.size w1 w2 := (Below.refl _ _).grown hg2 (Nat.le_refl _) (by simp [Value.ownBlock])
  have HB2 := Lib.hid (below_step HB.out (Nat.le_refl _) hb2)
  have HROW := Lib.hid hrow
  have hs2 := hb2.size
  rw [hv']
  clear hown hown' hg2 hrow hb2 hv' HC HB
  go_wp2_with fail
  have HBK := Lib.hid (Blk.new w2 97 #[.slice (some ⟨r, 0, none⟩) xs.length c, .int .i64 (burst * 1000), .int .i64 (burst * 1000), .int .i64 0, .bool true])
  have HBA := Lib.hid ((Below.refl w2.heap.size w2).alloc (Nat.le_refl _) (.cells #[.slice (some ⟨r, 0, none⟩) xs.length c, .int .i64 (burst * 1000), .int .i64 (burst * 1000), .int .i64 0, .bool true] 97))
  generalize w2.alloc (.cells #[.slice (some ⟨r, 0, none⟩) xs.length c, .int .i64 (burst * 1000), .int .i64 (burst * 1000), .int .i64 0, .bool true] 97) = w3 at *
  have HROW2 := Lib.hid (HROW.out w2.heap.size hr2)
  have hsg : w.heap.size ≤ w2.heap.size := by omega
  generalize w2.heap.size = gg at *
  go_loopw [26] (fun iv wr => ∃ k : Nat, k ≤ xs.length ∧ iv = .int .i64 k ∧ Blk wr gg 97 (bkC (some ⟨r, 0, none⟩) xs.length c (burst * 1000) (burst * 1000) 0 (nvTo xs k)) ∧ Below gg w2 wr) (fun i _ => xs.length - (intOf i).toNat)
  case atStart => exact ⟨0, by omega, rfl, HBK.out, HBA.out⟩
  case round =>
    obtain ⟨k, hk, rfl, hB, hbel⟩ := hrel
    have hgl := hB.lt
    have hbw : Below w.heap.size w wr := HB2.out.trans (hbel.mono hsg)
    by_cases hlt : k < xs.length
    · obtain ⟨b', off', e', hb', c0, c1⟩ := (HX.out.below hbw) k hlt
      cases e'
      change wr.cell? _ = some (.int .i64 (fromAt xs k)) at c0
      change wr.cell? _ = some (.int .i64 (byteAt xs k)) at c1
      have hc := hB.cell
      have hz := hB.frozen
      have hnx := nvTo_succ xs k
      have HBel := Lib.hid hbel
      have HB := Lib.hid hB
      have hbl : b < wr.heap.size := by have := hbw.size; omega
      clear hbel hB hbw
      generalize fromAt xs k = F at *
      cases hnv : nvTo xs k
      · rw [hnv] at hc
        have HN := Lib.hid (show nvTo xs (k + 1) = false by rw [hnx, hnv]; rfl)
        have HV := Lib.hid hnv
        clear hnv hnx
        generalize byteAt xs k = Y at *
        go_wp2_with fail
        go_roundw
        case rel =>
          refine ⟨k + 1, by omega, by go_num, ?_, ((HBel.out.setCell (Nat.le_refl _) _).alloc (by simp [World.setCell]; omega) _)⟩
          rw [HN.out]
          exact (HB.out.set 4 _).below ((Below.refl _ _).alloc (Nat.le_refl _) _) (HB.out.set 4 _).lt
        case measure => simp [intOf]; omega
      · rw [hnv] at hc
        have HN := Lib.hid (show nvTo xs (k + 1) = (byteAt xs k == 0) by rw [hnx, hnv]; rfl)
        clear hnv hnx
        generalize byteAt xs k = Y at *
        go_wp2_with fail
        go_roundw
        case rel =>
          refine ⟨k + 1, by omega, by go_num, ?_, ((HBel.out.setCell (Nat.le_refl _) _).alloc (by simp [World.setCell]; omega) _)⟩
          rw [HN.out]
          exact (HB.out.set 4 _).below ((Below.refl _ _).alloc (Nat.le_refl _) _) (HB.out.set 4 _).lt
        case measure => simp [intOf]; omega
    · obtain rfl : k = xs.length := by omega
      have HB := Lib.hid hB
      have HBW := Lib.hid hbw
      have HR := Lib.hid (HROW2.out.below hbel)
      clear hB hbel hbw
      go_wp2_with fail
      go_ret2
      exact ⟨gg, r, c, rfl, HB.out, by omega, by omega, HR.out, HBW.out⟩

set_option maxHeartbeats 400000 in
theorem newBucket28_no (a : Option Addr) (ca : Nat) (xs : List (Int × Int)) (burst : Int) (w : World) (hx : Row2 w w.heap.size a xs) (lx : xs.length ≤ maxLen) (hE : ¬ bucketE xs burst = 0) :
    Calls Try.prog 28 #[.slice a xs.length ca, .int .i64 burst] w fun e w' => e = .returned (.tuple #[.pointer none, .int .i64 (bucketE xs burst)]) ∧ Below w.heap.size w w' := by
  have hne : (bucketE xs burst != 0) = true := by simpa using hE
  clear hE
  go_enter Try.func28, Try.ntmps28
  go_wp2_with fail
  refine (checkBucket51 a ca xs burst w _ (Nat.le_refl _) hx lx).mono ?_
  rintro e w1 ⟨rfl, hb⟩
  go_wp2_with fail
  go_ret2
  exact ⟨rfl, hb⟩

end Go.Proofs.Ytdfloglicjocbaa
