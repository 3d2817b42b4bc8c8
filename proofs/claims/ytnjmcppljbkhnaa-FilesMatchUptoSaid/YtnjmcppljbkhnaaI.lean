import Derived.Test.YtnjmcppljbkhnaaH
import Derived.Laws.BytesArg
set_option linter.unusedVariables false
set_option linter.unusedSimpArgs false
namespace Go.Proofs.Ytnjmcppljbkhnaa
open Go.RowKit

/-- the text of the first n bytes of f. -/
def strB (n : Nat) (f : Nat → Nat) : ByteArray := ⟨((List.range n).map fun i => UInt8.ofNat (f i)).toArray⟩
theorem strB_size (n : Nat) (f : Nat → Nat) : (strB n f).size = n := by simp [strB, ByteArray.size]
theorem at8_strB (n : Nat) (f : Nat → Nat) (i : Nat) (hi : i < n) (hf : f i < 256) : at8 (strB n f) i = f i := by
  unfold at8 strB
  rw [List.getD_eq_getElem?_getD]
  simp [hi]
  omega
theorem conv_row {w : World} {g t n : Nat} {f : Nat → Nat} (h : Blk w g t (row8 n f)) (o m : Nat) (hom : o + m ≤ n) (cap : Nat) :
    (convert 88 9 (.slice (some ⟨g, o, none⟩) m cap)).run Try.prog w = .ok (.string (strB m fun i => f (o + i))) w := by
  have hx := run_convert_bytes_arg (P := Try.prog) w 88 5 Try.underlying88 Try.underlying5 g o m cap ((List.range m).map fun i => ((f (o + i) : Nat) : Int)) (by simp) (fun i hi => by
    rw [h.cell, row8_at _ _ _ (by omega)]
    simp [List.getD_eq_getElem?_getD, hi]) 9 Try.underlying9
  rw [hx]
  simp [strOfNums, strB, Function.comp_def]
def lwF (f : Nat → Nat) (i : Nat) : Nat := f i + 256 * f (i + 1) + 65536 * f (i + 2) + 16777216 * f (i + 3)

theorem lw_strB (f : Nat → Nat) (i : Nat) (hf : ∀ i, f i < 256) : lw (strB 4 fun j => f (i + j)) 0 = lwF f i := by
  have e : ∀ j, j < 4 → at8 (strB 4 fun j => f (i + j)) j = f (i + j) := fun j hj => at8_strB 4 (fun j => f (i + j)) j hj (hf _)
  unfold lw lwF
  rw [e 0 (by omega), e (0 + 1) (by omega), e (0 + 2) (by omega), e (0 + 3) (by omega)]
  simp
set_option maxHeartbeats 1000000 in
theorem word87 (f : Nat → Nat) (g i : Nat) (w : World) (hf : ∀ i, f i < 256) (hi : i + 4 ≤ 17) (h : Blk w g 130 (row8 17 f)) :
    Calls Try.prog 87 #[.int .i64 i, .pointer (some ⟨g, 0, none⟩)] w fun e w' => e = .returned (.int .u64 (lwF f i : Nat)) ∧ ∃ n, w' = w.drewN n := by
  have HB := Lib.hid h
  clear h
  have w1 : IntKind.i64.wrap ((i : Int) + 4) = (i : Int) + 4 := IntWalk.i64_in _ (by omega)
  have t1 : ((i : Int) + 4).toNat = i + 4 := by omega
  have p1 : 0 ≤ (i : Int) + 4 := by omega
  have q1 : (i : Int) + 4 ≤ 17 := by omega
  have q0 : (i : Int) ≤ (i : Int) + 4 := by omega
  have hcv := fun cap => conv_row HB.out i 4 (by omega) cap
  go_enter Try.func87, Try.ntmps87
  go_wp2_with fail
  refine (littleWord86 _ _ (by rw [strB_size]; omega)).mono ?_
  rintro e w' ⟨rfl, n, rfl⟩
  have HE := Lib.hid (lw_strB f i hf)
  have hlt := lw_lt (strB 4 fun j => f (i + j)) 0
  generalize lw (strB 4 fun j => f (i + j)) 0 = L at *
  have e1 : IntKind.u64.wrap (L : Int) = (L : Int) := by rw [wrap64]; omega
  go_wp2_with fail
  go_ret
  exact ⟨ret_int (by rw [HE.out]), _, rfl⟩

end Go.Proofs.Ytnjmcppljbkhnaa
