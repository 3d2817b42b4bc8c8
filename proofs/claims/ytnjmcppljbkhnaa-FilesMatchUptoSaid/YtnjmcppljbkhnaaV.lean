import Derived.Test.YtnjmcppljbkhnaaM
import Derived.Test.YtnjmcppljbkhnaaGa
import Derived.Laws.MakeOwn
import Derived.OwnWalk
set_option linter.unusedVariables false
set_option linter.unusedSimpArgs false
namespace Go.Proofs.Ytnjmcppljbkhnaa
open Go.RowKit

/-- the world behind 'make([]byte, n)'. -/
def madeB (w : World) (n : Nat) : World := w.alloc (.cells (madeCells (Value.int .u8 0).cells (n * 1)) 5)
theorem info5b : (Try.prog.info? 5).map (fun i => (i.zero, i.size, i.bytes)) = some (some (.int .u8 0), 1, 1) := by kernel_rfl
theorem run_madeB (w : World) (n : Nat) (hn : n ≤ 140737488355328) : (Instr.makeSlice 88 (.int .i64 n) (.int .i64 n)).run Try.prog w = .ok (.slice (some ⟨w.heap.size, 0, none⟩) n n) (madeB w n) := by
  obtain ⟨i0, hi, hz0, hz1, hz2⟩ := info_parts info5b
  have h := run_make (P := Try.prog) w 88 5 i0 (.int .u8 0) Try.underlying88 hi hz0 .i64 .i64 n n (by omega) (Int.le_refl _) (by rw [hz2]; omega) (by omega)
  rw [hz1] at h
  unfold madeB
  simpa using h
theorem madeB_below (w : World) (n : Nat) : Below w.heap.size w (madeB w n) := (Below.refl _ _).alloc (Nat.le_refl _) _
theorem madeB_size (w : World) (n : Nat) : (madeB w n).heap.size = w.heap.size + 1 := by simp [madeB]
theorem madeB_row (w : World) (n : Nat) : BR (madeB w n) w.heap.size n (fun _ => 0) := by
  refine ⟨by rw [madeB_size]; omega, fun i hi => ?_⟩
  have hb : Blk (madeB w n) w.heap.size 5 (madeCells (Value.int .u8 0).cells (n * 1)) := Blk.new w 5 _
  refine ⟨?_, hb.frozen i⟩
  rw [hb.cell i]
  simp [madeCells, Value.cells, hi, Nat.mod_one]

/-- shares in memory. -/
def SRow (w : World) (B : Nat) (a : Option Addr) (n : Nat) (X : Nat → Nat) (D : Nat → ByteArray) : Prop :=
  ∀ i, i < n → ∃ b off, a = some ⟨b, off, none⟩ ∧ b < B ∧ w.cell? ⟨b, off + i * 2, none⟩ = some (.int .i64 (X i : Nat)) ∧ w.cell? ⟨b, off + i * 2 + 1, none⟩ = some (.string (D i))
theorem SRow.below {w w' : World} {B : Nat} {a : Option Addr} {n : Nat} {X : Nat → Nat} {D : Nat → ByteArray} (h : SRow w B a n X D) (hb : Below B w w') : SRow w' B a n X D := by
  intro i hi
  obtain ⟨b, off, e, hB, h1, h2⟩ := h i hi
  exact ⟨b, off, e, hB, (hb.cell (p := ⟨b, off + i * 2, none⟩) hB).trans h1, (hb.cell (p := ⟨b, off + i * 2 + 1, none⟩) hB).trans h2⟩
theorem SRow.less {w : World} {B : Nat} {a : Option Addr} {n m : Nat} {X : Nat → Nat} {D : Nat → ByteArray} (h : SRow w B a n X D) (hm : m ≤ n) : SRow w B a m X D := fun i hi => h i (by omega)
/-- the bytes of the weights while they are made. -/
def wArr (X : Nat → Nat) (at' n i k : Nat) : Nat → Nat := fun j => if j < i then wK X j at' n else if j = i then wK X i at' k else 0
theorem wArr_step (X : Nat → Nat) (at' n i k v : Nat) (h : v = wK X i at' (k + 1)) : upd (wArr X at' n i k) i v = wArr X at' n i (k + 1) := by
  funext j
  unfold upd wArr
  by_cases e : j = i
  · subst e; simp [h]
  · by_cases e2 : j < i <;> simp [e, e2]
theorem wArr_next (X : Nat → Nat) (at' n i : Nat) : upd (wArr X at' n i n) (i + 1) 1 = wArr X at' n (i + 1) 0 := by
  funext j
  unfold upd wArr
  by_cases e : j = i + 1
  · subst e; simp [wK]
  · by_cases e2 : j < i
    · simp [e, e2, show j < i + 1 by omega]
    · by_cases e3 : j = i
      · subst e3; simp
      · simp [e, e2, e3, show ¬ j < i + 1 by omega]
def wDone (X : Nat → Nat) (at' n i : Nat) : Nat → Nat := fun j => if j < i then wK X j at' n else 0
theorem wDone_one (X : Nat → Nat) (at' n i : Nat) : upd (wDone X at' n i) i 1 = wArr X at' n i 0 := by
  funext j
  unfold upd wDone wArr
  by_cases e : j = i
  · subst e; simp [wK]
  · simp [e]
theorem wArr_done (X : Nat → Nat) (at' n i : Nat) : wArr X at' n i n = wDone X at' n (i + 1) := by
  funext j
  unfold wArr wDone
  by_cases e : j < i
  · simp [e, show j < i + 1 by omega]
  · by_cases e2 : j = i
    · subst e2; simp
    · simp [e, e2, show ¬ j < i + 1 by omega]
/-- the state: the row of the weights, and the box of a share. -/
def WS (w : World) (n : Nat) (f : Nat → Nat) (wr : World) : Prop := Below w.heap.size w wr ∧ BR wr w.heap.size n f
theorem WS.alloc {w wr : World} {n : Nat} {f : Nat → Nat} (h : WS w n f wr) (o : Obj) : WS w n f (wr.alloc o) := by
  have b : Below wr.heap.size wr (wr.alloc o) := (Below.refl _ _).alloc (Nat.le_refl _) o
  exact ⟨below_step h.1 (Nat.le_refl _) b, h.2.below b h.2.1⟩
theorem WS.drew {w wr : World} {n : Nat} {f : Nat → Nat} (h : WS w n f wr) : WS w n f wr.drew := ⟨below_drew h.1, h.2.drew⟩
theorem WS.store {w wr : World} {n : Nat} {f : Nat → Nat} (h : WS w n f wr) (i v : Nat) (hi : i < n) : WS w n (upd f i v) (wr.setCell ⟨w.heap.size, i, none⟩ (.int .u8 (v : Nat))) := ⟨h.1.setCell (Nat.le_refl _) _, h.2.set i v hi⟩

def WS2 (w : World) (n : Nat) (f : Nat → Nat) (g X : Nat) (D : ByteArray) (wr : World) : Prop := WS w n f wr ∧ w.heap.size < g ∧ g < wr.heap.size ∧ Blk wr g 46 #[.int .i64 (X : Nat), .string D]
theorem WS2.alloc {w wr : World} {n g X : Nat} {D : ByteArray} {f : Nat → Nat} (h : WS2 w n f g X D wr) (o : Obj) : WS2 w n f g X D (wr.alloc o) := by
  have b : Below wr.heap.size wr (wr.alloc o) := (Below.refl _ _).alloc (Nat.le_refl _) o
  exact ⟨h.1.alloc o, h.2.1, Nat.lt_of_lt_of_le h.2.2.1 b.size, h.2.2.2.below b h.2.2.1⟩
theorem WS2.drew {w wr : World} {n g X : Nat} {D : ByteArray} {f : Nat → Nat} (h : WS2 w n f g X D wr) : WS2 w n f g X D wr.drew := ⟨h.1.drew, h.2.1, h.2.2.1, h.2.2.2⟩
theorem WS2.store {w wr : World} {n g X : Nat} {D : ByteArray} {f : Nat → Nat} (h : WS2 w n f g X D wr) (i v : Nat) (hi : i < n) : WS2 w n (upd f i v) g X D (wr.setCell ⟨w.heap.size, i, none⟩ (.int .u8 (v : Nat))) :=
  ⟨h.1.store i v hi, h.2.1, by simpa [World.setCell] using h.2.2.1, h.2.2.2.only (only_set (only_refl wr w.heap.size) i _) (by have := h.2.1; omega)⟩
theorem WS2_new {w wr : World} {n i X : Nat} {D : ByteArray} {f : Nat → Nat} (h : WS w n f wr) (hi : i < n) (v : Nat) : WS2 w n (upd f i v) wr.heap.size X D ((wr.alloc (.cells #[.int .i64 (X : Nat), .string D] 46)).setCell ⟨w.heap.size, i, none⟩ (.int .u8 (v : Nat))) := by
  have h1 : WS2 w n f wr.heap.size X D (wr.alloc (.cells #[.int .i64 (X : Nat), .string D] 46)) := ⟨h.alloc _, h.2.1, by simp, Blk.new wr 46 _⟩
  exact h1.store i v hi
set_option maxRecDepth 100000 in
set_option maxHeartbeats 2000000 in
theorem weights90 (a : Option Addr) (ca n : Nat) (X : Nat → Nat) (D : Nat → ByteArray) (at' : Nat) (w : World) (hx : SRow w w.heap.size a n X D) (hX : ∀ i, X i < 256) (ha : at' < 256) (hn : n ≤ 255) :
    Calls Try.prog 90 #[.slice a n ca, .int .u8 at'] w fun e w' => e = .returned (.slice (some ⟨w.heap.size, 0, none⟩) n n) ∧ WS w n (wDone X at' n n) w' := by
  have hmk := run_madeB w n (by omega)
  have HX := Lib.hid hx
  have HL := Lib.hid hX
  have HW0 := Lib.hid (show WS w n (wDone X at' n 0) (madeB w n) from ⟨madeB_below w n, (madeB_row w n).congr fun i _ => by simp [wDone]⟩)
  clear hx hX
  generalize madeB w n = w0 at *
  go_enter Try.func90, Try.ntmps90
  go_wp2_with fail
  clear hmk
  go_loopw [15] (fun iv wr => ∃ i : Nat, i ≤ n ∧ iv = .int .i64 i ∧ WS w n (wDone X at' n i) wr) (fun iv _ => n - (intOf iv).toNat)
  case atStart => exact ⟨0, by omega, rfl, HW0.out⟩
  case round =>
    clear HW0
    obtain ⟨i, hi, rfl, hws⟩ := hrel
    have HWS := Lib.hid hws
    clear hws
    by_cases hlt : i < n
    · have hd : decide ((i : Int) < (n : Int)) = true := decide_eq_true (by omega)
      obtain ⟨b, off, rfl, hbB, c0, c1⟩ := (HX.out.below HWS.out.1) i hlt
      have hi1 : (i : Int) < (n : Int) := by omega
      have z0 := ((HWS.out.alloc (.cells #[.int .i64 (X i : Nat), .string (D i)] 46)).2.2 i hlt).2
      have y0 := ((HWS.out.alloc (.cells #[.int .i64 (X i : Nat), .string (D i)] 46)).2.2 i hlt).1
      have HW2 := Lib.hid (show WS2 w n (wArr X at' n i 0) wr.heap.size (X i) (D i) ((wr.alloc (.cells #[.int .i64 (X i : Nat), .string (D i)] 46)).setCell ⟨w.heap.size, i, none⟩ (.int .u8 1)) from by
        rw [← wDone_one]; exact WS2_new HWS.out hlt 1)
      clear HWS
      go_wp2_with fail
      clear c0 c1 z0 y0 hd
      generalize (wr.alloc (.cells #[.int .i64 (X i : Nat), .string (D i)] 46)).setCell ⟨w.heap.size, i, none⟩ (.int .u8 1) = wq at *
      generalize wr.heap.size = g at *
      go_loopw [25] (fun kv wr => ∃ k : Nat, k ≤ n ∧ kv = .int .i64 k ∧ WS2 w n (wArr X at' n i k) g (X i) (D i) wr) (fun kv _ => n - (intOf kv).toNat)
      case atStart => exact ⟨0, by omega, rfl, HW2.out⟩
      case round =>
        clear HW2
        obtain ⟨k, hk, rfl, hws⟩ := hrel
        have HWS := Lib.hid hws
        clear hws
        by_cases hlk : k < n
        · have hd : decide ((k : Int) < (n : Int)) = true := decide_eq_true (by omega)
          obtain ⟨b', off', e', hbB', c0, c1⟩ := (HX.out.below HWS.out.1.1) k hlk
          cases e'
          have hk1 : (k : Int) < (n : Int) := by omega
          by_cases hne : k = i
          · have hq : (((k : Nat) : Int) == (i : Int)) = true := by rw [hne]; simp
            have hq2 : (((k : Nat) : Int) != (i : Int)) = false := by rw [hne]; simp
            have HE := Lib.hid (show wArr X at' n i (k + 1) = wArr X at' n i k from by
              unfold wArr; funext j; simp [wK, hne])
            clear hne
            go_wp2_with fail
            go_roundw
            case rel => exact ⟨k + 1, by omega, by go_num, by rw [HE.out]; exact HWS.out.alloc _⟩
            case measure => simp [intOf]; omega
          · have hq : (((k : Nat) : Int) == (i : Int)) = false := by simp; omega
            have hq2 : (((k : Nat) : Int) != (i : Int)) = true := by simp; omega
            have HE := Lib.hid (show tm (wK X i at' k) (tm (at' ^^^ X k) (inv (X i ^^^ X k))) = wK X i at' (k + 1) from by simp [wK, hne])
            have hk256 := HL.out k
            have hi256 := HL.out i
            have x1 := u8_xor_nat at' (X k) ha hk256
            have x2 := u8_xor_nat (X i) (X k) hi256 hk256
            have HB1 := Lib.hid (xor_lt ha hk256)
            have HB2 := Lib.hid (xor_lt hi256 hk256)
            have HB3 := Lib.hid (wK_lt X i at' k HL.out ha)
            have hwi : wArr X at' n i k i = wK X i at' k := by simp [wArr]
            have y0 := ((HWS.out.alloc (.cells #[.int .i64 (X k : Nat), .string (D k)] 46)).1.2.2 i hlt).1
            have z0 := ((HWS.out.alloc (.cells #[.int .i64 (X k : Nat), .string (D k)] 46)).1.2.2 i hlt).2
            rw [hwi] at y0
            clear hwi hne
            have bx : (wr.alloc (.cells #[.int .i64 (X k : Nat), .string (D k)] 46)).cell? ⟨g, 0, none⟩ = some (.int .i64 (X i : Nat)) := (HWS.out.alloc _).2.2.2.cell 0
            have bk : (wr.alloc (.cells #[.int .i64 (X k : Nat), .string (D k)] 46)).cell? ⟨wr.heap.size, 0, none⟩ = some (.int .i64 (X k : Nat)) := (Blk.new wr 46 #[.int .i64 (X k : Nat), .string (D k)]).cell 0
            have HWZ := Lib.hid (HWS.out.alloc (.cells #[.int .i64 (X k : Nat), .string (D k)] 46))
            go_wp2_with fail
            clear HWS c0 c1
            generalize (wr.alloc (.cells #[.int .i64 (X k : Nat), .string (D k)] 46)) = wz at *
            generalize wr.heap.size = g2 at *
            have wk : IntKind.u8.wrap ((X k : Nat) : Int) = ((X k : Nat) : Int) := by rw [IntKind.wrap_u8]; omega
            have wi : IntKind.u8.wrap ((X i : Nat) : Int) = ((X i : Nat) : Int) := by rw [IntKind.wrap_u8]; omega
            refine wp_region_still_tail 22 (by kernel_rfl) (by kernel_rfl) ?_
            simp only [List.take_succ_cons, List.take_zero, List.drop_succ_cons, List.drop_zero]
            iterate 18 still_step
            still_call (by refine (inverse107 (X i ^^^ X k) _ HB2.out).mono ?_; rintro e w' ⟨rfl, rfl⟩; exact ⟨rfl, rfl⟩)
            still_call (by refine (times64 (at' ^^^ X k) (inv (X i ^^^ X k)) _ HB1.out (inv_lt _ HB2.out)).mono ?_; rintro e w' ⟨rfl, rfl⟩; exact ⟨rfl, rfl⟩)
            still_call (by refine (times64 (wK X i at' k) (tm (at' ^^^ X k) (inv (X i ^^^ X k))) _ HB3.out (tm_lt HB1.out)).mono ?_; rintro e w' ⟨rfl, rfl⟩; exact ⟨rfl, rfl⟩)
            iterate 1 still_step
            clear wk wi
            refine wpStill_nil ?_
            change wpList _ _ _ _ _ wz.drew
            go_wp2_with fail
            go_roundw
            case rel =>
              refine ⟨k + 1, by omega, by go_num, ?_⟩
              rw [← wArr_step X at' n i k _ HE.out]
              exact (HWZ.out.store i _ hlt).drew
            case measure => simp [intOf]; omega
        · have hd : decide ((k : Int) < (n : Int)) = false := decide_eq_false (by omega)
          have HWE := Lib.hid (show WS w n (wDone X at' n (i + 1)) wr from by
            obtain rfl : k = n := by omega
            rw [← wArr_done]; exact HWS.out.1)
          clear HWS
          go_wp2_with fail
          go_roundw
          case rel => exact ⟨i + 1, by omega, by go_num, HWE.out⟩
          case measure => simp [intOf]; omega
    · have hd : decide ((i : Int) < (n : Int)) = false := decide_eq_false (by omega)
      obtain rfl : i = n := by omega
      go_wp2_with fail
      go_ret
      exact ⟨rfl, HWS.out⟩
end Go.Proofs.Ytnjmcppljbkhnaa

set_option linter.unusedVariables false
set_option linter.unusedSimpArgs false
namespace Go.Proofs.Ytnjmcppljbkhnaa
open Go.RowKit

/-- the exclusive or of two texts, as long as the first. -/
def xorB (a b : ByteArray) : ByteArray := strB a.size fun i => at8 a i ^^^ at8 b i
def xorTo (a b : ByteArray) (m : Nat) : Nat → Nat := fun i => if i < m then at8 a i ^^^ at8 b i else 0
theorem xorTo_succ (a b : ByteArray) (m v : Nat) (h : v = at8 a m ^^^ at8 b m) : upd (xorTo a b m) m v = xorTo a b (m + 1) := by
  funext i
  unfold upd xorTo
  by_cases e : i = m
  · subst e; simp [h]
  · by_cases e2 : i < m
    · simp [e, e2, show i < m + 1 by omega]
    · simp [e, e2, show ¬ i < m + 1 by omega]
set_option maxRecDepth 100000 in
set_option maxHeartbeats 2000000 in
theorem xor60 (a b : ByteArray) (w : World) (hab : a.size ≤ b.size) (ha : a.size ≤ 140737488355328) :
    Calls Try.prog 60 #[.string a, .string b] w fun e w' => e = .returned (.string (xorB a b)) ∧ Below w.heap.size w w' := by
  have hmk := run_madeB w a.size ha
  have HW0 := Lib.hid (show WS w a.size (xorTo a b 0) (madeB w a.size) from ⟨madeB_below w _, (madeB_row w _).congr fun i _ => by simp [xorTo]⟩)
  generalize madeB w a.size = w0 at *
  go_enter Try.func60, Try.ntmps60
  go_wp2_with fail
  clear hmk
  go_loopw [12] (fun iv wr => ∃ i : Nat, i ≤ a.size ∧ iv = .int .i64 i ∧ WS w a.size (xorTo a b i) wr) (fun iv _ => a.size - (intOf iv).toNat)
  case atStart => exact ⟨0, by omega, rfl, HW0.out⟩
  case round =>
    clear HW0
    obtain ⟨i, hi, rfl, hws⟩ := hrel
    have HWS := Lib.hid hws
    clear hws
    by_cases hlt : i < a.size
    · have hd : decide ((i : Int) < (a.size : Int)) = true := decide_eq_true (by omega)
      have hb : i < b.size := by omega
      have i1 : (i : Int) < (a.size : Int) := by omega
      have i2 : (i : Int) < (b.size : Int) := by omega
      have e1 := at8_get a i hlt
      have e2 := at8_get b i hb
      have x1 := u8_xor_nat (at8 a i) (at8 b i) (at8_lt a i) (at8_lt b i)
      have z0 := (HWS.out.2.2 i hlt).2
      have y0 := (HWS.out.2.2 i hlt).1
      have HV := Lib.hid (show at8 a i ^^^ at8 b i = at8 a i ^^^ at8 b i from rfl)
      go_wp2_with fail
      go_still_tail 10, (by kernel_rfl)
      change wpList _ _ _ _ _ wr.drew
      go_wp2_with fail
      go_roundw
      case rel =>
        refine ⟨i + 1, by omega, by go_num, ?_⟩
        rw [← xorTo_succ a b i _ rfl]
        exact (HWS.out.store i _ hlt).drew
      case measure => simp [intOf]; omega
    · have hd : decide ((i : Int) < (a.size : Int)) = false := decide_eq_false (by omega)
      have HE := Lib.hid (show strB a.size (xorTo a b i) = xorB a b from strB_congr fun j hj => by unfold xorTo; rw [if_pos (by omega)])
      have hcv := conv_BR HWS.out.2 a.size
      generalize strB a.size (xorTo a b i) = R at *
      go_wp2_with fail
      go_ret
      exact ⟨by rw [← HE.out]; rfl, HWS.out.1⟩

def litB (x : Nat) : ByteArray := strB 4 (bytesN x)
theorem conv_four (w : World) (x : Nat) (t : TypeId) (hx : x < 4294967296) : (convert 88 9 (.slice (some ⟨w.heap.size, 0, none⟩) 4 4)).run Try.prog (w.alloc (.cells #[.int .u8 ((x : Int) % 256), .int .u8 ((x : Int) / 256 % 256), .int .u8 ((x : Int) / 65536 % 256), .int .u8 ((x : Int) / 16777216)] t)) = .ok (.string (litB x)) (w.alloc (.cells #[.int .u8 ((x : Int) % 256), .int .u8 ((x : Int) / 256 % 256), .int .u8 ((x : Int) / 65536 % 256), .int .u8 ((x : Int) / 16777216)] t)) := by
  have h := conv_row (f := bytesN x) (n := 4) (Blk.new w t (row8 4 (bytesN x))) 0 4 (by omega) 4
  have e : row8 4 (bytesN x) = #[.int .u8 ((x : Int) % 256), .int .u8 ((x : Int) / 256 % 256), .int .u8 ((x : Int) / 65536 % 256), .int .u8 ((x : Int) / 16777216)] := by
    simp [row8, List.range, List.range.loop, bytesN]
    omega
  rw [e] at h
  have e0 : (fun i => bytesN x (0 + i)) = bytesN x := by funext i; rw [Nat.zero_add]
  rw [e0] at h
  exact h
set_option maxRecDepth 100000 in
set_option maxHeartbeats 1000000 in
theorem little81 (x : Nat) (w : World) (hx : x < 4294967296) : Calls Try.prog 81 #[.int .u32 x] w fun e w' => e = .returned (.string (litB x)) ∧ Below w.heap.size w w' := by
  have hcv := fun t => conv_four w x t hx
  go_enter Try.func81, Try.ntmps81
  go_wp2_with fail
  go_ret
  exact ⟨rfl, (Below.refl _ _).alloc (Nat.le_refl _) _⟩
end Go.Proofs.Ytnjmcppljbkhnaa
