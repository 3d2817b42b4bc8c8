import Derived.Test.YtpjnjhklkgefcaaGreatDoorM
import Derived.Handy
import Derived.IntWalk
import Derived.Laws.AppendOwn
import Derived.Laws.BitsAllLaws
import Derived.Laws.MakeOwn
import Derived.Laws.IdiomStrings
import Derived.Laws.BytesArg
import Derived.Lib.UnsafeStr
import Derived.OwnWalk
import Derived.Deep.LoopGhost
import Derived.Deep.AppendLies
set_option linter.unusedVariables false
set_option linter.unusedSimpArgs false
namespace Go.Proofs.YtpjnjhklkgefcaaGreatDoor
open Go.RowKit
theorem info5 : (Tryz.prog.info? 5).map (fun i => (i.zero, i.size, i.bytes)) = some (some (.int .u8 0), 1, 1) := by kernel_rfl
/-- a row of bytes that is owned, as a text. -/
theorem own_conv {w : World} {base n : Nat} {v : Value} {l : List UInt8} (h : w.ownsRow base 5 1 v n (Lib.byteCells l)) : (convert 117 9 v).run Tryz.prog w = .ok (.string ⟨l.toArray⟩) w := by
  obtain ⟨hl, h⟩ := h
  have hn : l.length = n := by simpa [Lib.byteCells] using hl
  rcases h with ⟨rfl, rfl⟩ | ⟨g, cap, cur, rfl, _, hg, hc, _, hcs, ht⟩
  · obtain rfl : l = [] := List.length_eq_zero_iff.1 hn
    exact run_convert_bytes_nil (P := Tryz.prog) w 117 5 Tryz.underlying117 Tryz.underlying5 0 0 9 Tryz.underlying9
  · subst hn
    refine run_convert_bytes_back (P := Tryz.prog) w 117 9 5 ⟨g, 0, none⟩ cap l Tryz.underlying117 Tryz.underlying5 Tryz.underlying9 (fun j hj => ?_)
    have e : (⟨g, 0, none⟩ : Addr).add j = ⟨g, j, none⟩ := by unfold Addr.add; split <;> simp_all
    rw [e, cell_of_row w g j cur _ _ hg]
    have h1 : (cur.toList.take (l.length * 1))[j]? = some (.int .u8 (l[j].toNat : Int)) := by rw [ht]; simp [Lib.byteCells, hj]
    rw [List.getElem?_take] at h1
    split at h1
    · simpa using h1
    · cases h1
/-- a small digit of 16. -/
def hdig (n : Nat) : UInt8 := if n < 10 then (48 + n).toUInt8 else (87 + n).toUInt8
theorem hexIx (n : Nat) (h : n < 16) (w : World) : (Instr.index 9 (.string ⟨#[48, 49, 50, 51, 52, 53, 54, 55, 56, 57, 97, 98, 99, 100, 101, 102]⟩) (.int .u8 (n : Int))).run Tryz.prog w = .ok (.int .u8 ((hdig n).toNat : Int)) w := by
  have : n = 0 ∨ n = 1 ∨ n = 2 ∨ n = 3 ∨ n = 4 ∨ n = 5 ∨ n = 6 ∨ n = 7 ∨ n = 8 ∨ n = 9 ∨ n = 10 ∨ n = 11 ∨ n = 12 ∨ n = 13 ∨ n = 14 ∨ n = 15 := by omega
  rcases this with rfl | rfl | rfl | rfl | rfl | rfl | rfl | rfl | rfl | rfl | rfl | rfl | rfl | rfl | rfl | rfl
  all_goals (refine (?_ : _ = _); kernel_rfl)
/-- bytes written as digits of 16. -/
def hexL : List UInt8 → List UInt8
  | [] => []
  | b :: l => hdig (b.toNat / 16) :: hdig (b.toNat % 16) :: hexL l
theorem hexL_snoc (b : UInt8) : ∀ l : List UInt8, hexL (l ++ [b]) = hexL l ++ [hdig (b.toNat / 16), hdig (b.toNat % 16)]
  | [] => rfl
  | c :: l => by simp [hexL, hexL_snoc b l]
theorem hexL_length : ∀ l : List UInt8, (hexL l).length = 2 * l.length
  | [] => rfl
  | c :: l => by simp [hexL, hexL_length l]; omega
theorem take_snoc (s : ByteArray) (k : Nat) (h : k < s.size) : s.data.toList.take (k + 1) = s.data.toList.take k ++ [s[k]] := by
  rw [List.take_succ_eq_append_getElem (by simpa using h)]; rfl
theorem and15 (n : Nat) (h : n < 256) : bits .and .u8 (n : Int) 15 = ((n % 16 : Nat) : Int) := by
  rw [show (15 : Int) = ((15 : Nat) : Int) from rfl, u8_and_nat n 15 h (by decide), show (15 : Nat) = 2 ^ 4 - 1 from rfl, Nat.and_two_pow_sub_one_eq_mod]
theorem own_grown {w0 w w' : World} {v : Value} {base e size n : Nat} {xs : List Value} (hb : Below base w0 w) (ho : w.ownsRow base e size v n xs) (hg : w.grownBy w' v.ownBlock) (hbase : base ≤ w.heap.size) : Below base w0 w' :=
  hb.grown hg hbase (by
    intro q hq
    obtain ⟨_, h2⟩ := ho
    rcases h2 with ⟨rfl, _⟩ | ⟨g, cap, cur, rfl, hbg, _⟩
    · simp [Value.ownBlock] at hq
    · simp [Value.ownBlock] at hq; omega)
set_option maxRecDepth 100000 in
set_option maxHeartbeats 4000000 in
theorem hexed_ok (s : ByteArray) (w : World) (hs : s.size ≤ 1073741824) : Calls Tryz.prog 350 #[.string s] w fun e w' => e = .returned (.string ⟨(hexL s.data.toList).toArray⟩) ∧ Below w.heap.size w w' := by
  obtain ⟨i0, hi0, hi1, hi2, hi3⟩ := info_parts info5
  obtain ⟨w0, hmk, hO, hG⟩ := run_make_own (P := Tryz.prog) (w := w) w.heap.size 117 5 i0 (.int .u8 0) 1 Tryz.underlying117 hi0 hi1 hi2 .i64 .i64 (2 * s.size) (by rw [hi3]; omega) (by unfold maxLen; omega) (Nat.le_refl _)
  have e2 : ((2 * s.size : Nat) : Int) = 2 * (s.size : Int) := by omega
  rw [e2] at hmk
  have HO := Lib.hid hO
  have HB := Lib.hid ((Below.refl w.heap.size w).grown hG (Nat.le_refl _) (by intro q hq; cases hq))
  clear e2 hO hG
  go_enter Tryz.func350, Tryz.ntmps350
  go_wp2_with fail
  clear hmk
  go_loopw [3, 11] (fun v i wr => ∃ k : Nat, k ≤ s.size ∧ i = .int .i64 k ∧ wr.ownsRow w.heap.size 5 1 v (2 * k) (Lib.byteCells (hexL (s.data.toList.take k))) ∧ Below w.heap.size w wr) (fun _ i _ => s.size - (intOf i).toNat)
  case atStart => exact ⟨0, Nat.zero_le _, rfl, by simpa [hexL, Lib.byteCells] using HO.out, HB.out⟩
  case round =>
    clear HO HB
    obtain ⟨k, hk, rfl, hO, hB⟩ := hrel
    have HO := Lib.hid hO
    have HB := Lib.hid hB
    clear hO hB
    by_cases hlt : k < s.size
    · have hd : decide (k < s.size) = true := decide_eq_true hlt
      have hd' : decide ((k : Int) < (s.size : Int)) = true := decide_eq_true (by omega)
      have hb := s[k].toNat_lt
      have hix : ∀ w, (Instr.index 9 (.string s) (.int .i64 (k : Int))).run Tryz.prog w = .ok (.int .u8 (s[k].toNat : Int)) w := fun w => by
        rw [run_index_string w 9 s .i64 (k : Int) Tryz.underlying9]
        simp [hlt]
      have HT := Lib.hid (show hexL (s.data.toList.take (k + 1)) = hexL (s.data.toList.take k) ++ [hdig (s[k].toNat / 16), hdig (s[k].toNat % 16)] from by rw [take_snoc s k hlt, hexL_snoc])
      have e15 := and15 s[k].toNat hb
      have X1 := fun w => hexIx (s[k].toNat / 16) (by omega) w
      have X2 := fun w => hexIx (s[k].toNat % 16) (by omega) w
      have hx : (s[k].toNat : Int) / 16 = ((s[k].toNat / 16 : Nat) : Int) := by omega
      generalize s[k].toNat = b at *
      generalize b / 16 = x at *
      generalize b % 16 = y at *
      generalize hdig x = d1 at *
      generalize hdig y = d2 at *
      go_wp2_with fail
      have HO1 := HO.out
      have hsz := HB.out.size
      go_region_held3 (fun _ => True) (trivial)
        ((refine step_append_lies _ (by rfl) _ _ _ (by rfl) w.heap.size 5 i0 (.int .u8 0) 1 1 Tryz.underlying117 hi0 hi1 hi2 hi3 rfl (by omega) u3 (2 * k) _ (by rfl) ((HO1.alloc _).drew) ⟨wr.heap.size, 0, none⟩ 2 2 [.int .u8 (d1.toNat : Int), .int .u8 (d2.toNat : Int)] (by rfl) (by rfl) (World.news_of_block (cs := #[.int .u8 (d1.toNat : Int), .int .u8 (d2.toNat : Int)]) (t := 5) (fr := (0, 0)) (heap_alloc_new wr _)) (by simp [Value.oneCell']) (by omega) (by unfold maxLen; omega) (by omega) (by simp; omega) (wr.heap.size + 1) (by simp) ?_; intro gg cap w1 hown' hgrow hat hltg))
      all_goals
        have HBN := Lib.hid (own_grown ((HB.out.alloc hsz _).drew) ((HO1.alloc _).drew) hgrow (by simp; omega))
        have HON := Lib.hid (show w1.ownsRow w.heap.size 5 1 (.slice (some ⟨gg, 0, none⟩) (2 * k + 2) cap) (2 * (k + 1)) (Lib.byteCells (hexL (s.data.toList.take (k + 1)))) from by
          rw [HT.out]
          have e : Lib.byteCells (hexL (s.data.toList.take k) ++ [d1, d2]) = Lib.byteCells (hexL (s.data.toList.take k)) ++ [.int .u8 (d1.toNat : Int), .int .u8 (d2.toNat : Int)] := by simp [Lib.byteCells]
          rw [e]
          exact hown')
        clear hown' hgrow HT hat hltg
        go_wp2_with fail
        go_roundw
        case rel => exact ⟨k + 1, by omega, by go_num, HON.out, HBN.out⟩
        case measure => simp [intOf]; omega
    · have hd : decide (k < s.size) = false := decide_eq_false hlt
      obtain rfl : k = s.size := by omega
      have hl : s.data.toList.take s.size = s.data.toList := List.take_of_length_le (by simp)
      rw [hl] at HO
      have hcv := own_conv HO.out
      clear hl
      go_wp2_with fail
      go_ret
      exact ⟨rfl, HB.out⟩
end Go.Proofs.YtpjnjhklkgefcaaGreatDoor
