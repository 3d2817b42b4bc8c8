import Derived.Test.YtdfloglicjocbaaE
import Derived.Test.YtdfloglicjocbaaMa
import Derived.Test.YtdfloglicjocbaaNb
import Derived.Laws.StructEq
import Derived.Maps.AppendAt
set_option linter.unusedVariables false
set_option linter.unusedSimpArgs false
namespace Go.Proofs.Ytdfloglicjocbaa
open Go.RowKit

/-- pairs of numbers in memory, in blocks below B. -/
def PRow (w : World) (B : Nat) (a : Option Addr) (xs : List (Int × Int)) : Prop :=
  ∀ i, i < xs.length → ∃ b off, a = some ⟨b, off, none⟩ ∧ b < B ∧ w.cell? ⟨b, off + i * 2, none⟩ = some (.int .i64 (xs.getD i (0, 0)).1) ∧ w.cell? ⟨b, off + i * 2 + 1, none⟩ = some (.int .i64 (xs.getD i (0, 0)).2)
theorem PRow.below {w w' : World} {B : Nat} {a : Option Addr} {xs : List (Int × Int)} (h : PRow w B a xs) (hb : Below B w w') : PRow w' B a xs := by
  intro i hi
  obtain ⟨b, off, e, hlt, hc, hd⟩ := h i hi
  exact ⟨b, off, e, hlt, (hb.cell (p := ⟨b, off + i * 2, none⟩) hlt).trans hc, (hb.cell (p := ⟨b, off + i * 2 + 1, none⟩) hlt).trans hd⟩
theorem PRow.more {w : World} {B B' : Nat} {a : Option Addr} {xs : List (Int × Int)} (h : PRow w B a xs) (hb : B ≤ B') : PRow w B' a xs := by
  intro i hi
  obtain ⟨b, off, e, hlt, hc⟩ := h i hi
  exact ⟨b, off, e, by omega, hc⟩
theorem PRow.step {w w' : World} {a : Option Addr} {xs : List (Int × Int)} (h : PRow w w.heap.size a xs) (hb : Below w.heap.size w w') : PRow w' w'.heap.size a xs := (h.below hb).more hb.size

/-- the cells of a list of pairs. -/
def prC : List (Int × Int) → List Value
  | [] => []
  | p :: l => .int .i64 p.1 :: .int .i64 p.2 :: prC l
theorem prC_len (xs : List (Int × Int)) : (prC xs).length = xs.length * 2 := by
  induction xs with
  | nil => rfl
  | cons x l ih => simp [prC, ih]; omega
theorem prC_append (xs ys : List (Int × Int)) : prC (xs ++ ys) = prC xs ++ prC ys := by
  induction xs with
  | nil => rfl
  | cons x l ih => simp [prC, ih]
theorem prC_at (xs : List (Int × Int)) (i : Nat) (hi : i < xs.length) : (prC xs)[i * 2]? = some (.int .i64 (xs.getD i (0, 0)).1) ∧ (prC xs)[i * 2 + 1]? = some (.int .i64 (xs.getD i (0, 0)).2) := by
  induction xs generalizing i with
  | nil => simp at hi
  | cons x l ih =>
    cases i with
    | zero => simp [prC]
    | succ i =>
      have := ih i (by simpa using hi)
      rw [show (i + 1) * 2 = i * 2 + 1 + 1 from by omega]
      simpa [prC] using this
theorem prC_one (xs : List (Int × Int)) : ∀ u ∈ prC xs, u.oneCell' = true := by
  induction xs with
  | nil => simp [prC]
  | cons x l ih =>
    intro u hu
    simp only [prC, List.mem_cons] at hu
    rcases hu with rfl | rfl | hu
    · rfl
    · rfl
    · exact ih u hu
theorem PRow.of_own {w : World} {base : Nat} {t : TypeId} {v : Value} {n : Nat} {xs : List (Int × Int)} (h : w.ownsRow base t 2 v n (prC xs)) (hn : xs.length = n) :
    ∃ a cap, v = .slice a xs.length cap ∧ PRow w w.heap.size a xs := by
  obtain ⟨h1, h2⟩ := h
  rcases h2 with ⟨rfl, h0⟩ | ⟨g, cap, cur, rfl, hb, hg, hc, hm, hs, ht⟩
  · exact ⟨none, 0, by rw [hn, h0], fun i hi => by omega⟩
  · refine ⟨some ⟨g, 0, none⟩, cap, by rw [hn], fun i hi => ⟨g, 0, rfl, ?_, ?_, ?_⟩⟩
    · rcases Nat.lt_or_ge g w.heap.size with hlt | hge
      · exact hlt
      · rw [Array.getElem?_eq_none hge] at hg; cases hg
    · have h3 : (cur.toList.take (n * 2))[i * 2]? = cur.toList[i * 2]? := by rw [List.getElem?_take_of_lt (by omega)]
      rw [ht, (prC_at xs i hi).1] at h3
      simp [World.cell?, hg]
      simpa using h3.symm
    · have h3 : (cur.toList.take (n * 2))[i * 2 + 1]? = cur.toList[i * 2 + 1]? := by rw [List.getElem?_take_of_lt (by omega)]
      rw [ht, (prC_at xs i hi).2] at h3
      simp [World.cell?, hg]
      simpa using h3.symm
/-- the cells of a block that has just been laid. -/
theorem cells_new (w : World) (cs : List Value) (t : TypeId) : ∀ j u, cs[j]? = some u → (w.alloc (.cells cs.toArray t)).cell? ((⟨w.heap.size, 0, none⟩ : Addr).add j) = some u := by
  intro j u hj
  have hadd : ((⟨w.heap.size, 0, none⟩ : Addr).add j) = ⟨w.heap.size, j, none⟩ := by
    unfold Addr.add
    by_cases h0 : j = 0 <;> simp [h0]
  rw [hadd, World.cell?_alloc_at _ _ _ _ rfl]
  simpa using hj

theorem pair_info : (Try.prog.info? 40).map (fun i => (i.zero, i.size, i.bytes)) = some (some (.agg #[.int .i64 0, .int .i64 0]), 2, 16) := by kernel_rfl
theorem eq40 (a b c d : Int) (W : World) : (Op.equalIn 10000 40 (.agg #[.int .i64 a, .int .i64 b]) (.agg #[.int .i64 c, .int .i64 d])).run Try.prog W = .ok (a == c && b == d) W := by
  obtain ⟨i3, hi3, _⟩ := info_parts int_info
  have h := run_equalIn_array (P := Try.prog) W 9999 #[.int .i64 a, .int .i64 b] #[.int .i64 c, .int .i64 d] Try.underlying40 hi3
  have e0 : (Op.equalIn 9999 3 (.int .i64 a) (.int .i64 c)).run Try.prog W = .ok (a == c) W := run_equalIn_int (P := Try.prog) W 9998 3 .i64 .i64 a c Try.underlying3
  have e1 : (Op.equalIn 9999 3 (.int .i64 b) (.int .i64 d)).run Try.prog W = .ok (b == d) W := run_equalIn_int (P := Try.prog) W 9998 3 .i64 .i64 b d Try.underlying3
  have p0 : (part 3 #[.int .i64 a, .int .i64 b] 0).run Try.prog W = .ok (.int .i64 a) W := run_part_plain (P := Try.prog) W (e := 3) (by kernel_rfl) rfl
  have p1 : (part 3 #[.int .i64 a, .int .i64 b] 1).run Try.prog W = .ok (.int .i64 b) W := run_part_plain (P := Try.prog) W (e := 3) (by kernel_rfl) rfl
  have q0 : (part 3 #[.int .i64 c, .int .i64 d] 0).run Try.prog W = .ok (.int .i64 c) W := run_part_plain (P := Try.prog) W (e := 3) (by kernel_rfl) rfl
  have q1 : (part 3 #[.int .i64 c, .int .i64 d] 1).run Try.prog W = .ok (.int .i64 d) W := run_part_plain (P := Try.prog) W (e := 3) (by kernel_rfl) rfl
  rw [h, show Try.prog.cellsOf 3 = 1 from by kernel_rfl, show List.range 2 = [0, 1] from rfl]
  simp only [Op.eqItems, Sem.run_bind, Nat.mul_one, p0, q0, e0, Result.andThen_ok]
  cases h1 : (a == c)
  · simp
  · simp only [Bool.not_true, Bool.false_eq_true, if_false, Sem.run_bind, Nat.mul_one, p1, q1, e1, Result.andThen_ok]
    cases h2 : (b == d) <;> simp
theorem guard40 : Try.prog.eqGuardType Try.prog.depth 40 = false := by kernel_rfl
end Go.Proofs.Ytdfloglicjocbaa
