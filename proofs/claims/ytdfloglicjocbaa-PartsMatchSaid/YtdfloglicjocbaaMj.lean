import Derived.Test.YtdfloglicjocbaaMi
import Derived.Test.YtdfloglicjocbaaO
set_option linter.unusedVariables false
set_option linter.unusedSimpArgs false
namespace Go.Proofs.Ytdfloglicjocbaa
open Go.RowKit

theorem parts_all (size part : Int) (a : Option Addr) (cap : Nat) (xs : List (Int × Int)) (w : World) (hx : PRow w w.heap.size a xs) (lx : xs.length ≤ maxLen) :
    Calls Try.prog 10 #[.int .i64 size, .int .i64 part, .slice a xs.length cap] w (EqB true w) := by
  by_cases hs : 0 ≤ size ∧ size ≤ 1048576
  · by_cases hp : 1 ≤ part ∧ part ≤ 1048576
    · by_cases hq : 1000 < (size + part - 1) / part
      · by_cases hl : 2000 < xs.length
        · exact parts_c_L size part a cap _ xs w hx rfl lx hs hp hq hl
        · by_cases hb : ∃ i, i < xs.length ∧ badI size (xs.getD i (0, 0))
          · exact parts_c_B size part a cap _ xs w hx rfl lx hs hp hq (by omega) hb
          · exact parts_c_G size part a cap _ xs w hx rfl lx hs hp hq (by omega) fun i hi h => hb ⟨i, hi, h⟩
      · by_cases hl : 2000 < xs.length
        · exact parts_d_L size part a cap _ xs w hx rfl lx hs hp (by omega) hl
        · by_cases hb : ∃ i, i < xs.length ∧ badI size (xs.getD i (0, 0))
          · exact parts_d_B size part a cap _ xs w hx rfl lx hs hp (by omega) (by omega) hb
          · exact parts_d_G size part a cap _ xs w hx rfl lx hs hp (by omega) (by omega) fun i hi h => hb ⟨i, hi, h⟩
    · by_cases hl : 2000 < xs.length
      · exact parts_b_L size part a cap _ xs w hx rfl lx hs hp hl
      · by_cases hb : ∃ i, i < xs.length ∧ badI size (xs.getD i (0, 0))
        · exact parts_b_B size part a cap _ xs w hx rfl lx hs hp (by omega) hb
        · exact parts_b_G size part a cap _ xs w hx rfl lx hs hp (by omega) fun i hi h => hb ⟨i, hi, h⟩
  · by_cases hl : 2000 < xs.length
    · exact parts_a_RL size part a cap _ xs w hx rfl lx hs hl
    · exact parts_a_R size part a cap _ xs w hx rfl lx hs (by omega)

section
open Go.ChangeShapes Go.WideShapes Go.Deep
variable {H : Type} {enc : TypeId × Value → H} {P : Program} {w : World} {base : Nat} {spare : Nat → Bool} {held : Bool}
/-- a slice of pairs of numbers that came in. -/
theorem open_prs {r : Reach} {b0 : Nat} {t e f : TypeId} {v : Value} {d : DataW H} {p : List MemPlace} (ht : P.underlying t = some (.slice e)) (he : P.underlying e = some (.array 2 f)) (hf : P.underlying f = some (.int .i64)) (hC : P.cellsOf e = 2) (hc : P.cellsOf f = 1)
    (hv : Value.okWide P w r b0 t v) (h : DataW.Trod enc P w base spare held t v d p) :
    ∃ (a : Option Addr) (cap : Nat) (xs : List (Int × Int)), xs.length ≤ maxLen ∧ PRow w w.heap.size a xs ∧ v = .slice a xs.length cap := by
  obtain ⟨a, cap, xs, rfl, h1, h2, h3, h4⟩ := open_slice_flat (kd := .i64) (c := 2) ht hC (fun n cs x hx => array_ints he hf hC hc hx) hv h
  refine ⟨a, cap, xs.map fun l => (l.getD 0 0, l.getD 1 0), by simp; omega, ?_, by simp⟩
  intro i hi
  have hi' : i < xs.length := by simpa using hi
  obtain ⟨b, off, rfl, hb, hc0⟩ := h4 i 0 hi' (by omega)
  obtain ⟨b', off', e', _, hc1⟩ := h4 i 1 hi' (by omega)
  cases e'
  refine ⟨b, off, rfl, hb, ?_, ?_⟩
  · simpa [List.getElem?_eq_getElem hi'] using hc0
  · simpa [List.getElem?_eq_getElem hi'] using hc1
end
end Go.Proofs.Ytdfloglicjocbaa
