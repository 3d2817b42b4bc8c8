import Derived.Test.YtnjmcppljbkhnaaZd
import Derived.Test.YtnjmcppljbkhnaaGk
import Derived.Laws.StructEq
set_option linter.unusedVariables false
set_option linter.unusedSimpArgs false
namespace Go.Proofs.Ytnjmcppljbkhnaa
open Go.RowKit
theorem eq46 (a c : Int) (b d : ByteArray) (w : World) : (Op.equalIn 10000 46 (.agg #[.int .i64 a, .string b]) (.agg #[.int .i64 c, .string d])).run Try.prog w = .ok (a == c && b.toList == d.toList) w := by
  have u3 := Try.underlying3
  have u9 := Try.underlying9
  have a3 := Try.isAgg3
  have z3 := Try.sizeOf3
  have a9 := Try.isAgg9
  have z9 := Try.sizeOf9
  have hS : Try.prog.underlying 46 = some (.struct (Try.prog.fieldsOf 46)) := by kernel_rfl
  have hp : Try.prog.stoodInHeld 46 = false := by kernel_rfl
  rw [show (10000 : Nat) = 9999 + 1 from rfl, run_equalIn_agg w 9999 46 _ _ hS hp]
  simp only [Program.fieldsOf, Try.underlying46]
  go_simp
  by_cases h1 : a = c <;> by_cases h2 : b.toList = d.toList <;> simp [h1, h2]
theorem guard46 : Try.prog.eqGuardType Try.prog.depth 46 = false := by kernel_rfl
set_option maxRecDepth 100000 in
set_option maxHeartbeats 1000000 in
theorem equal31 (a b : Option Addr) (ca cb n : Nat) (X : Nat → Int) (D : Nat → ByteArray) (w : World) (hx : SRowI w w.heap.size a n X D) (hy : SRowI w w.heap.size b n X D) (hn : n ≤ maxLen) :
    Calls Try.prog 31 #[.slice a n ca, .slice b n cb] w fun e w' => e = .returned (.bool true) ∧ Below w.heap.size w w' := by
  have HX := Lib.hid hx
  have HY := Lib.hid hy
  unfold maxLen at hn
  clear hx hy
  go_enter Try.func31, Try.ntmps31
  go_wp2_with fail
  go_loopw [13] (fun iv wr => ∃ k : Nat, k ≤ n ∧ iv = .int .i64 k ∧ Below w.heap.size w wr) (fun iv _ => n - (intOf iv).toNat)
  case atStart => exact ⟨0, by omega, rfl, Below.refl _ _⟩
  case round =>
    obtain ⟨k, hk, rfl, hb⟩ := hrel
    have HB := Lib.hid hb
    clear hb
    by_cases hlt : k < n
    · obtain ⟨b1, off1, rfl, hb1, c0, c1⟩ := (HX.out.below HB.out) k hlt
      obtain ⟨b2, off2, rfl, hb2, d0, d1⟩ := (HY.out.below HB.out) k hlt
      have hd : decide (k < n) = true := decide_eq_true hlt
      have hk1 : (k : Int) < (n : Int) := by omega
      have he := eq46 (X k) (X k) (D k) (D k)
      have hg := guard46
      have hbb : (X k == X k && (D k).toList == (D k).toList) = true := by simp
      rw [hbb] at he
      generalize X k = x at *
      generalize D k = dd at *
      go_wp2_with fail
      go_quiet (fail)
      go_wp2_with fail
      go_roundw
      case rel => exact ⟨k + 1, by omega, by go_num, by first | exact below_drewN HB.out _ | exact below_drew HB.out⟩
      case measure => simp [intOf]; omega
    · have hd : decide (k < n) = false := decide_eq_false hlt
      obtain rfl : k = n := by omega
      go_wp2_with fail
      go_ret
      exact ⟨rfl, HB.out⟩
/-- whether a share is among the first. -/
def memB (X : Nat → Int) (D : Nat → ByteArray) (n : Nat) (x : Int) (d : ByteArray) : Bool := (List.range n).any fun i => x == X i && d.toList == (D i).toList
def IdxPost2 (X : Nat → Int) (D : Nat → ByteArray) (n : Nat) (x : Int) (d : ByteArray) (w : World) (e : Ending) (w' : World) : Prop :=
  ∃ r : Int, e = .returned (.int .i64 r) ∧ decide (0 ≤ r) = memB X D n x d ∧ Below w.heap.size w w'
set_option maxRecDepth 100000 in
set_option maxHeartbeats 1000000 in
theorem index66 (a : Option Addr) (ca n : Nat) (X : Nat → Int) (D : Nat → ByteArray) (x : Int) (d : ByteArray) (w : World) (hx : SRowI w w.heap.size a n X D) (hn : n ≤ maxLen) :
    Calls Try.prog 66 #[.slice a n ca, .agg #[.int .i64 x, .string d]] w (IdxPost2 X D n x d w) := by
  have HX := Lib.hid hx
  unfold maxLen at hn
  clear hx
  have hnew := Blk.new w 46 #[.int .i64 x, .string d]
  have HBK := Lib.hid hnew
  clear hnew
  have HB0 := Lib.hid ((Below.refl w.heap.size w).alloc (Nat.le_refl _) (.cells #[Value.int IntKind.i64 x, Value.string d] 46))
  go_enter Try.func66, Try.ntmps66
  go_wp2_with fail
  go_loopw [8] (fun iv wr => ∃ k : Nat, k ≤ n ∧ iv = .int .i64 k ∧ Below w.heap.size w wr ∧ Blk wr w.heap.size 46 #[.int .i64 x, .string d] ∧ Hid (∀ j, j < k → (x == X j && d.toList == (D j).toList) = false)) (fun iv _ => n - (intOf iv).toNat)
  case atStart => exact ⟨0, by omega, rfl, HB0.out, HBK.out, fun j hj => by omega⟩
  case round =>
    obtain ⟨k, hk, rfl, hb, hbk, HN⟩ := hrel
    have HB := Lib.hid hb
    have HK := Lib.hid hbk
    clear hb hbk HBK HB0
    by_cases hlt : k < n
    · obtain ⟨b, off, rfl, hbB, c0, c1⟩ := (HX.out.below HB.out) k hlt
      have hd : decide (k < n) = true := decide_eq_true hlt
      have hk1 : (k : Int) < (n : Int) := by omega
      have v0 : wr.cell? ⟨w.heap.size, 0, none⟩ = some (.int .i64 x) := HK.out.cell 0
      have v1 : wr.cell? ⟨w.heap.size, 1, none⟩ = some (.string d) := HK.out.cell 1
      have he := eq46 x (X k) d (D k)
      have hg := guard46
      cases hq : (x == X k && d.toList == (D k).toList)
      · have HN1 := Lib.hid (show ∀ j, j < k + 1 → (x == X j && d.toList == (D j).toList) = false from fun j hj => by
          by_cases e : j = k
          · rw [e]; exact hq
          · exact HN.out j (by omega))
        rw [hq] at he
        clear hq
        generalize X k = y at *
        generalize D k = dd at *
        go_wp2_with fail
        go_quiet (fail)
        go_wp2_with fail
        go_roundw
        case rel =>
          refine ⟨k + 1, by omega, by go_num, by first | exact below_drewN HB.out _ | exact below_drew HB.out, HK.out, HN1⟩
        case measure => simp [intOf]; omega
      · have HE := Lib.hid hq
        rw [hq] at he
        clear hq
        have h1 := Lib.hid (show memB X D n x d = true from by
          unfold memB
          rw [List.any_eq_true]
          exact ⟨k, by simpa using hlt, HE.out⟩)
        clear HE
        generalize X k = y at *
        generalize D k = dd at *
        go_wp2_with fail
        go_quiet (fail)
        go_wp2_with fail
        go_ret
        refine ⟨_, rfl, ?_, by first | exact below_drewN HB.out _ | exact below_drew HB.out⟩
        rw [h1.out]
        simp
    · have hd : decide (k < n) = false := decide_eq_false hlt
      go_wp2_with fail
      go_ret
      refine ⟨_, rfl, ?_, HB.out⟩
      have h1 : memB X D n x d = false := by
        unfold memB
        rw [List.any_eq_false]
        intro j hj
        rw [HN.out j (by have : j < n := by simpa using hj
                         omega)]
        simp
      rw [h1]
      rfl
set_option maxRecDepth 100000 in
set_option maxHeartbeats 1000000 in
theorem contains33 (a : Option Addr) (ca n : Nat) (X : Nat → Int) (D : Nat → ByteArray) (x : Int) (d : ByteArray) (w : World) (hx : SRowI w w.heap.size a n X D) (hn : n ≤ maxLen) :
    Calls Try.prog 33 #[.slice a n ca, .agg #[.int .i64 x, .string d]] w fun e w' => e = .returned (.bool (memB X D n x d)) ∧ Below w.heap.size w w' := by
  have HB0 := Lib.hid ((Below.refl w.heap.size w).alloc (Nat.le_refl _) (.cells #[Value.int IntKind.i64 x, Value.string d] 46))
  have HC := Lib.hid (index66 a ca n X D x d (w.alloc (.cells #[Value.int IntKind.i64 x, Value.string d] 46)) (hx.at' HB0.out) hn)
  have hnew := Blk.new w 46 #[.int .i64 x, .string d]
  have v0 : (w.alloc (.cells #[Value.int IntKind.i64 x, Value.string d] 46)).cell? ⟨w.heap.size, 0, none⟩ = some (.int .i64 x) := hnew.cell 0
  have v1 : (w.alloc (.cells #[Value.int IntKind.i64 x, Value.string d] 46)).cell? ⟨w.heap.size, 1, none⟩ = some (.string d) := hnew.cell 1
  clear hnew hx
  go_enter Try.func33, Try.ntmps33
  go_wp2_with fail
  refine HC.out.mono ?_
  rintro e w1 ⟨r, rfl, hr, hb⟩
  have HB1 := Lib.hid (below_step HB0.out (Nat.le_refl _) hb)
  clear hb HC
  have HR := Lib.hid hr
  clear hr
  go_wp2_with fail
  go_ret
  exact ⟨by rw [← HR.out]; rfl, HB1.out⟩
end Go.Proofs.Ytnjmcppljbkhnaa
