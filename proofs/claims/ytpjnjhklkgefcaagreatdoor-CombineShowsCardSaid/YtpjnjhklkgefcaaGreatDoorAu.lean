import Derived.Test.YtpjnjhklkgefcaaGreatDoorM
import Derived.Shelf.Strings.IndexAnyAll
import Derived.Test.YtpjnjhklkgefcaaGreatDoorF
import Derived.Test.YtpjnjhklkgefcaaGreatDoorAa
import Derived.Laws.Runes
import Derived.Scope
import Derived.Deep.LoopGhost
set_option linter.unusedVariables false
set_option linter.unusedSimpArgs false
namespace Go.Proofs.YtpjnjhklkgefcaaGreatDoor
open Go.RowKit
theorem get_list {s : ByteArray} {j : Nat} {b : UInt8} (h : s.data.toList[j]? = some b) : s.get! j = b := by
  have hj : j < s.size := by
    have := (List.getElem?_eq_some_iff.1 h).1
    rw [Lib.size_eq]; exact this
  have h2 := Lib.data_getElem? s j hj
  rw [h] at h2
  have e : s.get! j = s[j]'hj := by
    show s.get! j = _
    simp [ByteArray.get!, getElem!_pos, hj]
    rfl
  rw [e]
  exact (Option.some.inj h2).symm
/-- what decoding makes of bytes beyond ASCII. -/
theorem dec_far (s : ByteArray) (i : Nat) (hi : i < s.size) (h : 128 ≤ (s.get! i).toNat) :
    128 ≤ (Utf8.decode s i).1 ∧ (Utf8.decode s i).1 ≤ 1114111 ∧ 1 ≤ (Utf8.decode s i).2 ∧ i + (Utf8.decode s i).2 ≤ s.size ∧
      ∀ k, k < (Utf8.decode s i).2 → 128 ≤ (s.get! (i + k)).toNat := by
  have h255 : ∀ k, (s.get! k).toNat < 256 := fun k => UInt8.toNat_lt _
  have hb0 := h255 i
  have hb1 := h255 (i + 1)
  have hb2 := h255 (i + 2)
  have hb3 := h255 (i + 3)
  unfold Utf8.decode
  simp only [Nat.add_zero]
  rw [if_neg (by omega : ¬ (s.get! i).toNat < 128)]
  have one : 128 ≤ (Utf8.runeError, 1).1 ∧ (Utf8.runeError, 1).1 ≤ 1114111 ∧ 1 ≤ (Utf8.runeError, 1).2 ∧ i + (Utf8.runeError, 1).2 ≤ s.size ∧ ∀ k, k < (Utf8.runeError, 1).2 → 128 ≤ (s.get! (i + k)).toNat := by
    refine ⟨by decide, by decide, by decide, hi, fun k hk => ?_⟩
    have hk' : k < 1 := hk
    obtain rfl : k = 0 := by omega
    exact h
  split
  · rename_i hc
    simp at hc
    split
    · refine ⟨by dsimp only; omega, by dsimp only; omega, by dsimp only; omega, by dsimp only; omega, fun k hk => ?_⟩
      have hk' : k < 2 := hk
      rcases (by omega : k = 0 ∨ k = 1) with rfl | rfl
      · exact h
      · omega
    · exact one
  · split
    · rename_i hc
      simp at hc
      split
      · refine ⟨by dsimp only; simp at *; omega, by dsimp only; omega, by dsimp only; omega, by dsimp only; omega, fun k hk => ?_⟩
        have hk' : k < 3 := hk
        rcases (by omega : k = 0 ∨ k = 1 ∨ k = 2) with rfl | rfl | rfl
        · exact h
        · omega
        · omega
      · exact one
    · split
      · rename_i hc
        simp at hc
        split
        · rename_i hv
          simp [Utf8.valid] at hv
          refine ⟨by dsimp only; omega, by dsimp only; omega, by dsimp only; omega, by dsimp only; omega, fun k hk => ?_⟩
          have hk' : k < 4 := hk
          rcases (by omega : k = 0 ∨ k = 1 ∨ k = 2 ∨ k = 3) with rfl | rfl | rfl | rfl
          · exact h
          · omega
          · omega
          · omega
        · exact one
      · exact one
def setIter (w : World) (b : Nat) (s : ByteArray) (p : Nat) : World := { w with heap := w.heap.setIfInBounds b (.stringIter s p) }
theorem run_next_iter {P : Program} (w : World) (b : Nat) (s : ByteArray) (pos : Nat) (ty : TypeId) (hb : w.heap[b]? = some (.stringIter s pos)) (h : pos < s.size) :
    (Instr.next (.pointer (some ⟨b, 0, none⟩)) true ty).run P w = .ok (.tuple #[.bool true, .int .i64 pos, .int .i32 ((Utf8.decode s pos).1 : Nat)]) (setIter w b s (pos + (Utf8.decode s pos).2)) := by
  simp [Instr.next, getObj, setObj, Sem.run, hb, Result.andThen, h, setIter, goInt]
theorem run_next_over {P : Program} (w : World) (b : Nat) (s : ByteArray) (pos : Nat) (ty : TypeId) (hb : w.heap[b]? = some (.stringIter s pos)) (h : ¬ pos < s.size) :
    (Instr.next (.pointer (some ⟨b, 0, none⟩)) true ty).run P w = .ok (.tuple #[.bool false]) w := by
  simp [Instr.next, getObj, Sem.run, hb, h]
theorem setIter_at {w : World} {b : Nat} {s : ByteArray} {p q : Nat} (hb : w.heap[b]? = some (.stringIter s q)) : (setIter w b s p).heap[b]? = some (.stringIter s p) := by
  have hlt : b < w.heap.size := by
    rcases Nat.lt_or_ge b w.heap.size with h1 | h1
    · exact h1
    · rw [Array.getElem?_eq_none h1] at hb; cases hb
  simp [setIter, Array.getElem?_setIfInBounds, hlt]
theorem setIter_below {B : Nat} {w w1 : World} {b : Nat} {s : ByteArray} {p : Nat} (h : Below B w w1) (hb : B ≤ b) : Below B w (setIter w1 b s p) :=
  h.trans ⟨rfl, rfl, rfl, by simp [setIter], fun k hk => by simp [setIter, Array.getElem?_setIfInBounds]; intro e; omega⟩
end Go.Proofs.YtpjnjhklkgefcaaGreatDoor

set_option linter.unusedVariables false
set_option linter.unusedSimpArgs false
namespace Go.Proofs.YtpjnjhklkgefcaaGreatDoor
open Go.RowKit
abbrev zs : ByteArray := ⟨#[0, 47]⟩
theorem valid_eq (r : Int) : Lib.validRune r = Utf8.valid r := by
  unfold Lib.validRune Utf8.valid
  by_cases h1 : 0 ≤ r <;> by_cases h2 : r < 55296 <;> by_cases h3 : 57344 ≤ r <;> by_cases h4 : r ≤ 1114111 <;> simp [h1, h2, h3, h4] <;> omega
theorem encode_far (r : Int) (h : 128 ≤ r) (hv : Utf8.valid r = true) : ∃ a n, Utf8.encode r = ⟨a⟩ ∧ a.size = n + 1 ∧ 1 ≤ n ∧ n ≤ 3 ∧
    ∃ b : UInt8, a.toList[n]? = some b ∧ 128 ≤ b.toNat := by
  have hc : 128 ≤ r.toNat := by omega
  have hl : ∀ c : Nat, 128 ≤ (UInt8.ofNat (0x80 + c % 64)).toNat := fun c => by rw [UInt8.toNat_ofNat']; omega
  unfold Utf8.encode
  simp only [hv, if_true]
  rw [if_neg (by omega : ¬ r.toNat < 128)]
  split
  · exact ⟨_, 1, rfl, rfl, by omega, by omega, _, rfl, hl _⟩
  · split
    · exact ⟨_, 2, rfl, rfl, by omega, by omega, _, rfl, hl _⟩
    · exact ⟨_, 3, rfl, rfl, by omega, by omega, _, rfl, hl _⟩
set_option maxRecDepth 100000 in
set_option maxHeartbeats 4000000 in
theorem indexRune_err (w : World) : Calls Tryz.prog 181 #[.string zs, .int .i32 65533] w fun e w' => e = .returned (.int .i64 (-1)) ∧ Below w.heap.size w w' := by
  have h0 := fun ty => run_next_ascii (P := Tryz.prog) w zs 0 ty (by decide) (by decide)
  have h1 := fun ty => run_next_ascii (P := Tryz.prog) w zs 1 ty (by decide) (by decide)
  have h2 := fun ty => run_next_end (P := Tryz.prog) w zs 2 ty (by decide)
  go_enter Tryz.func181, Tryz.ntmps181
  go_wp2_with fail
  refine wp_loop_rounds 3 ?_
  rw [rounds_succ]
  go_wp2_with fail
  rw [rounds_succ]
  go_wp2_with fail
  rw [rounds_succ]
  go_wp2_with fail
  go_ret
  exact ⟨rfl, (Below.refl _ _).alloc (Nat.le_refl _) _⟩
set_option maxRecDepth 100000 in
set_option maxHeartbeats 4000000 in
theorem indexRune_far (r : Int) (h : 128 ≤ r) (hr : r ≤ 1114111) (w : World) : Calls Tryz.prog 181 #[.string zs, .int .i32 r] w fun e w' => e = .returned (.int .i64 (-1)) ∧ Below w.heap.size w w' := by
  by_cases he : r = 65533
  · subst he
    exact indexRune_err w
  have he' : (r == 65533) = false := beq_eq_false_iff_ne.2 he
  have hlt : decide (r < 128) = false := decide_eq_false (by omega)
  have hle : decide (0 ≤ r) = true := decide_eq_true (by omega)
  cases hv : Lib.validRune r
  · go_enter Tryz.func181, Tryz.ntmps181
    go_wp2_with fail
    refine (Tryz.utf8_ValidRune r _).mono ?_
    rintro e w1 ⟨rfl, rfl⟩
    rw [hv]
    go_wp2_with fail
    go_ret
    exact ⟨rfl, Below.refl _ _⟩
  · have hv2 : Utf8.valid r = true := (valid_eq r).symm.trans hv
    obtain ⟨a, n, hen, hsz, hn1, hn3, b, hb, hb128⟩ := encode_far r h hv2
    have hss : (⟨a⟩ : ByteArray).size = n + 1 := hsz
    have hix := fun w => index_at ⟨a⟩ n b hb w
    have hz : (((⟨a⟩ : ByteArray).size : Nat) : Int) - 1 = (n : Int) := by omega
    clear hsz hb
    generalize (⟨a⟩ : ByteArray) = rs at *
    go_enter Tryz.func181, Tryz.ntmps181
    go_wp2_with fail
    refine (Tryz.utf8_ValidRune r _).mono ?_
    rintro e w1 ⟨rfl, rfl⟩
    rw [hv]
    go_wp2_with fail
    refine wp_scope_straight ?_
    by_cases h1 : n = 1
    · subst h1
      have hne : ((47 : Int) == (b.toNat : Int)) = false := beq_eq_false_iff_ne.2 (by omega)
      go_wp2_with fail
      have hix1 : ∀ w : World, (Instr.index 9 (.string rs) (.int .i64 1)).run Tryz.prog w = .ok (.int .u8 (b.toNat : Int)) w := hix
      have hiz : ∀ w : World, (Instr.index 9 (.string zs) (.int .i64 1)).run Tryz.prog w = .ok (.int .u8 47) w := fun w => index_at zs 1 47 rfl w
      have C := Lib.hid (show ∀ w : World, Calls Tryz.prog 130 #[.string ByteArray.empty, .int .u8 (b.toNat : Int)] w fun e w' => e = .returned (.int .i64 (-1)) ∧ w' = w from fun w => Tryz.strings_IndexByte ByteArray.empty (b.toNat : Int) w)
      clear hix
      refine wp_loop_rounds 2 ?_
      rw [rounds_succ]
      go_wp2_with fail
      refine wp_scope_straight ?_
      go_wp2_with fail
      go_quiet (fail)
      have HB := Lib.hid (((Kp.refl [] w1).drewN nq).below (Nat.le_refl _) (by simp))
      generalize w1.drewN nq = w2 at *
      go_wp2_with fail
      go_quiet ((go_at_call 130; exact Calls.quiet_of_same (C.out _)))
      go_wp2_with fail
      simp only [Exit.inBlock, Exit.then, Exit.noGoto_ret]
      go_ret
      exact ⟨rfl, HB.out.trans (((Kp.refl [] _).drewN nq).below HB.out.size (by simp))⟩
    · have hd : decide ((n : Int) < 2) = false := decide_eq_false (by omega)
      have hd' : ¬ (n : Int) < 2 := by omega
      go_wp2_with fail
      refine wp_loop_rounds 2 ?_
      rw [rounds_succ]
      go_wp2_with fail
      rw [Exit.noGoto_ret]
      go_ret
      exact ⟨rfl, Below.refl _ _⟩
end Go.Proofs.YtpjnjhklkgefcaaGreatDoor

set_option linter.unusedVariables false
set_option linter.unusedSimpArgs false
namespace Go.Proofs.YtpjnjhklkgefcaaGreatDoor
open Go.RowKit
abbrev zl : List UInt8 := [0, 47]
theorem zl_far {b : UInt8} (h : 128 ≤ b.toNat) : zl.contains b = false := by
  have h1 : b ≠ 0 := by rintro rfl; simp at h
  have h2 : b ≠ 47 := by rintro rfl; simp at h
  simp [h1, h2]
theorem noAny_far {s : ByteArray} {i k : Nat} (h : Lib.NoAny s.data.toList zl i) (hf : ∀ j, j < k → 128 ≤ (s.get! (i + j)).toNat) : Lib.NoAny s.data.toList zl (i + k) := by
  intro j b hj hb
  by_cases e : j < i
  · exact h j b e hb
  · have h1 := hf (j - i) (by omega)
    rw [show i + (j - i) = j by omega, get_list hb] at h1
    exact zl_far h1
theorem iter_lt {w : World} {b : Nat} {s : ByteArray} {p : Nat} (hb : w.heap[b]? = some (.stringIter s p)) : b < w.heap.size := by
  rcases Nat.lt_or_ge b w.heap.size with h1 | h1
  · exact h1
  · rw [Array.getElem?_eq_none h1] at hb; cases hb
set_option maxRecDepth 100000 in
set_option maxHeartbeats 4000000 in
theorem indexAny_short (s : ByteArray) (h8 : s.size ≤ 8) (w : World) : Calls Tryz.prog 164 #[.string s, .string zs] w fun e w' => e = .returned (.int .i64 (Lib.indexAny s.data.toList zl)) ∧ Below w.heap.size w w' := by
  have h8z : decide ((8 : Int) < (s.size : Int)) = false := decide_eq_false (by omega)
  have h8y : ¬ (8 : Int) < (s.size : Int) := by omega
  go_enter Tryz.func164, Tryz.ntmps164
  go_wp2_with fail
  refine (Tryz.strings_shouldUseASCIISet _ _).mono ?_
  rintro e w1 ⟨rfl, rfl⟩
  rw [h8z]
  go_wp2_with fail
  go_loopg [] s.size (fun g wx => ∃ i : Nat, i + g = s.size ∧ wx.heap[w1.heap.size]? = some (.stringIter s i) ∧ Lib.NoAny s.data.toList zl i ∧ Below w1.heap.size w1 wx)
  case atStart => exact ⟨0, by omega, World.iter_heap _ _ _, Lib.NoAny.zero _ _, (Below.refl _ _).alloc (Nat.le_refl _) _⟩
  case round =>
    obtain ⟨i, hig, hit, hno, hbw⟩ := hrel
    have HN := Lib.hid hno
    have HB := Lib.hid hbw
    have HI := Lib.hid hit
    have hbs := hbw.size
    clear hno hbw hit
    by_cases hi : i < s.size
    · obtain ⟨x, hx⟩ : ∃ x, s.data.toList[i]? = some x := ⟨_, List.getElem?_eq_getElem (by rw [← Lib.size_eq]; exact hi)⟩
      have hnx := fun ty => run_next_iter (P := Tryz.prog) wr w1.heap.size s i ty HI.out hi
      have hget := get_list hx
      by_cases hx128 : x.toNat < 128
      · have hdec : Utf8.decode s i = (x.toNat, 1) := by
          have := decode_ascii s i hi (by
            have h1 := Lib.data_getElem? s i hi
            rw [hx] at h1
            rw [← Option.some.inj h1]; exact hx128)
          have h1 := Lib.data_getElem? s i hi
          rw [hx] at h1
          rw [this, ← Option.some.inj h1]
        rw [hdec] at hnx
        have HX := Lib.hid hx
        have hcon := Lib.contains_iff_indexByte zl x
        have HS := Lib.hid (setIter_at (p := i + 1) HI.out)
        have HB2 := Lib.hid (setIter_below (b := w1.heap.size) (s := s) (p := i + 1) HB.out (Nat.le_refl _))
        have C := Lib.hid (fun w => Tryz.strings_IndexRune_ascii zs (x.toNat : Int) w (by omega) (by omega))
        have hback : ((x.toNat : Int)).toNat.toUInt8 = x := by simp
        rw [hback] at C
        clear hx hdec hget hback
        cases hin : zl.contains x
        · rw [hin] at hcon
          have hlt : ¬ ((0 : Int) ≤ Lib.indexByte zl x) := of_decide_eq_false hcon.symm
          have hlt' : decide ((0 : Int) ≤ Lib.indexByte zl x) = false := decide_eq_false hlt
          clear hcon
          go_wp2_with fail
          refine (C.out _).mono ?_
          rintro e w2 ⟨rfl, rfl⟩
          go_wp2_with fail
          go_roundg (s.size - (i + 1))
          case measure => omega
          case rel => exact ⟨i + 1, by omega, HS.out, HN.out.succ HX.out hin, HB2.out⟩
        · rw [hin] at hcon
          have hge : (0 : Int) ≤ Lib.indexByte zl x := of_decide_eq_true hcon.symm
          have hge' : decide ((0 : Int) ≤ Lib.indexByte zl x) = true := decide_eq_true hge
          clear hcon
          go_wp2_with fail
          refine (C.out _).mono ?_
          rintro e w2 ⟨rfl, rfl⟩
          go_wp2_with fail
          go_ret
          exact ⟨by rw [Lib.indexAny_hit HN.out HX.out hin]; rfl, HB2.out⟩
      · obtain ⟨d1, d2, d3, d4, d5⟩ := dec_far s i hi (by rw [hget]; omega)
        obtain ⟨r, k, hrk⟩ : ∃ r k, Utf8.decode s i = (r, k) := ⟨_, _, rfl⟩
        rw [hrk] at hnx d1 d2 d3 d4 d5
        have HF := Lib.hid (noAny_far HN.out d5)
        have HS := Lib.hid (setIter_at (p := i + k) HI.out)
        have HB2 := Lib.hid (setIter_below (b := w1.heap.size) (s := s) (p := i + k) HB.out (Nat.le_refl _))
        have C := Lib.hid (fun w => indexRune_far (r : Int) (by omega) (by omega) w)
        clear hx hget d1 d2 d5 hrk
        dsimp only at hnx d3 d4 HF
        go_wp2_with fail
        refine (C.out _).mono ?_
        rintro e w2 ⟨rfl, hb2⟩
        have HB3 := Lib.hid (HB2.out.trans (hb2.mono HB2.out.size))
        have HS3 := Lib.hid ((hb2.block _ (iter_lt HS.out)).trans HS.out)
        clear hb2
        go_wp2_with fail
        go_roundg (s.size - (i + k))
        case measure => omega
        case rel => exact ⟨i + k, by omega, HS3.out, HF.out, HB3.out⟩
    · have hnx := fun ty => run_next_over (P := Tryz.prog) wr w1.heap.size s i ty HI.out hi
      go_wp2_with fail
      go_ret
      have hil : i = s.data.toList.length := by rw [← Lib.size_eq]; omega
      have hn := HN.out
      rw [hil] at hn
      exact ⟨by rw [Lib.indexAny_none hn]; rfl, HB.out⟩
theorem zeroSet (w : World) : (zeroValue 276).run Tryz.prog w = .ok (.agg (Array.replicate 256 (.bool false))) w := by kernel_rfl
theorem zl_ascii : ∀ (j : Nat) b, zs.data.toList[j]? = some b → b.toNat < 128 := low2
set_option maxRecDepth 100000 in
set_option maxHeartbeats 4000000 in
theorem indexAny_any (s : ByteArray) (hs : s.size < 4294967281) (w : World) : Calls Tryz.prog 164 #[.string s, .string zs] w fun e w' => e = .returned (.int .i64 (Lib.indexAny s.data.toList zl)) ∧ Below w.heap.size w w' := by
  by_cases h8 : s.size ≤ 8
  · exact indexAny_short s h8 w
  · refine (Tryz.strings_IndexAny_long zeroSet s zs w (by decide) (by omega) hs (by decide) zl_ascii).mono ?_
    rintro e w1 ⟨rfl, rfl⟩
    exact ⟨rfl, ((Below.refl _ _).alloc (Nat.le_refl _) _).alloc (by simp) _⟩
set_option maxRecDepth 100000 in
set_option maxHeartbeats 4000000 in
theorem containsAny_any (s : ByteArray) (hs : s.size < 4294967281) (w : World) : Calls Tryz.prog 133 #[.string s, .string zs] w fun e w' => e = .returned (.bool (Lib.containsAny s.data.toList zl)) ∧ Below w.heap.size w w' := by
  have hc : decide ((0 : Int) ≤ Lib.indexAny s.data.toList zl) = Lib.containsAny s.data.toList zl := rfl
  go_enter Tryz.func133, Tryz.ntmps133
  go_wp2_with fail
  refine (indexAny_any s hs _).mono ?_
  rintro e w1 ⟨rfl, hb⟩
  go_wp2_with fail
  go_ret
  exact ⟨rfl, hb⟩
end Go.Proofs.YtpjnjhklkgefcaaGreatDoor
