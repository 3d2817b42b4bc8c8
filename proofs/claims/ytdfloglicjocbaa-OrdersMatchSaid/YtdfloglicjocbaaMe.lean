import Derived.Test.YtdfloglicjocbaaMd
import Derived.Test.YtdfloglicjocbaaPa
import Derived.Shelf.SlicesE.Clone
import Derived.Laws.AppendOwn
set_option linter.unusedVariables false
set_option linter.unusedSimpArgs false
namespace Go.Proofs.Ytdfloglicjocbaa
open Go.RowKit

/-- what is no interval of the file. -/
def badI (size : Int) (p : Int × Int) : Prop := p.1 < 0 ∨ p.2 < p.1 ∨ size < p.2

set_option maxHeartbeats 400000 in
theorem missing45_range (size : Int) (v : Value) (w : World) (h : size < 0 ∨ 1048576 < size) :
    Calls Try.prog 45 #[.int .i64 size, v] w fun e w' => e = .returned (.tuple #[.slice none 0 0, .int .i64 7]) ∧ Below w.heap.size w w' := by
  rcases h with h | h
  · go_enter Try.func45, Try.ntmps45
    go_wp2_with fail
    go_ret2
    exact ⟨rfl, Below.refl _ _⟩
  · have h' : ¬ size < 0 := by omega
    go_enter Try.func45, Try.ntmps45
    go_wp2_with fail
    go_ret2
    exact ⟨rfl, Below.refl _ _⟩
set_option maxHeartbeats 400000 in
theorem missing45_long (size : Int) (a : Option Addr) (n cap : Nat) (w : World) (h0 : 0 ≤ size) (h1 : size ≤ 1048576) (hn : 2000 < n) (hm : n ≤ maxLen) :
    Calls Try.prog 45 #[.int .i64 size, .slice a n cap] w fun e w' => e = .returned (.tuple #[.slice none 0 0, .int .i64 8]) ∧ Below w.heap.size w w' := by
  unfold maxLen at hm
  have hz : (2000 : Int) < (n : Int) := by omega
  go_enter Try.func45, Try.ntmps45
  go_wp2_with fail
  go_ret2
  exact ⟨rfl, Below.refl _ _⟩
set_option maxHeartbeats 1000000 in
set_option maxRecDepth 100000 in
theorem missing45_bad (size : Int) (a : Option Addr) (cap : Nat) (xs : List (Int × Int)) (w : World) (hx : PRow w w.heap.size a xs) (h0 : 0 ≤ size) (h1 : size ≤ 1048576) (hn : xs.length ≤ 2000) (hb : ∃ i, i < xs.length ∧ badI size (xs.getD i (0, 0))) :
    Calls Try.prog 45 #[.int .i64 size, .slice a xs.length cap] w fun e w' => e = .returned (.tuple #[.slice none 0 0, .int .i64 7]) ∧ Below w.heap.size w w' := by
  have HX := Lib.hid hx
  have HB := Lib.hid hb
  have hz : ¬ (2000 : Int) < (xs.length : Int) := by omega
  clear hx hb
  go_enter Try.func45, Try.ntmps45
  go_wp2_with fail
  go_loopw [24] (fun iv wr => ∃ k : Nat, k ≤ xs.length ∧ iv = .int .i64 k ∧ Below w.heap.size w wr ∧ Hid (∀ j, j < k → ¬ badI size (xs.getD j (0, 0)))) (fun iv _ => xs.length - (intOf iv).toNat)
  case atStart => exact ⟨0, by omega, rfl, Below.refl _ _, fun j hj => by omega⟩
  case round =>
    obtain ⟨k, hk, rfl, hbel, HG⟩ := hrel
    have HBel := Lib.hid hbel
    have hsz := hbel.size
    clear hbel
    by_cases hlt : k < xs.length
    · obtain ⟨b, off, rfl, hbB, c0, c1⟩ := (HX.out.below HBel.out) k hlt
      have hbl : b < wr.heap.size := by omega
      have hk1 : (k : Int) < (xs.length : Int) := by omega
      have HBA := Lib.hid (HBel.out.alloc hsz (.cells #[.int .i64 (xs.getD k (0, 0)).1, .int .i64 (xs.getD k (0, 0)).2] 40))
      by_cases hbad : badI size (xs.getD k (0, 0))
      · unfold badI at hbad
        generalize (xs.getD k (0, 0)).1 = X at *
        generalize (xs.getD k (0, 0)).2 = Y at *
        by_cases hX : X < 0
        · clear hbad
          go_wp2_with fail
          go_ret2
          exact ⟨rfl, HBA.out⟩
        · have hX0 : 0 ≤ X := by omega
          by_cases hY : Y < X
          · clear hbad
            go_wp2_with fail
            go_ret2
            exact ⟨rfl, HBA.out⟩
          · have hS : size < Y := by omega
            have hXY : X ≤ Y := by omega
            clear hbad
            go_wp2_with fail
            go_ret2
            exact ⟨rfl, HBA.out⟩
      · have HN := Lib.hid (show ∀ j, j < k + 1 → ¬ badI size (xs.getD j (0, 0)) from fun j hj => by
          by_cases e : j = k
          · rw [e]; exact hbad
          · exact HG.out j (by omega))
        unfold badI at hbad
        generalize (xs.getD k (0, 0)).1 = X at *
        generalize (xs.getD k (0, 0)).2 = Y at *
        obtain ⟨g1, g2, g3⟩ : 0 ≤ X ∧ X ≤ Y ∧ Y ≤ size := by omega
        clear hbad
        go_wp2_with fail
        go_roundw
        case rel => exact ⟨k + 1, by omega, by go_num, HBA.out, HN⟩
        case measure => simp [intOf]; omega
    · exfalso
      obtain ⟨i, hi, hbi⟩ := HB.out
      exact HG.out i (by omega) hbi

def OwnPost (xs : List (Int × Int)) (w : World) (e : Ending) (w' : World) : Prop :=
  ∃ v, e = .returned v ∧ w'.ownsRow w.heap.size 40 2 v xs.length (prC xs) ∧ Below w.heap.size w w'
theorem prow_cells {w : World} {B : Nat} {a : Addr} {xs : List (Int × Int)} (h : PRow w B (some a) xs) : ∀ j u, (prC xs)[j]? = some u → w.cell? (a.add j) = some u := by
  intro j u hu
  have hj : j < (prC xs).length := by
    rcases Nat.lt_or_ge j (prC xs).length with h | h
    · exact h
    · rw [List.getElem?_eq_none h] at hu; cases hu
  rw [prC_len] at hj
  obtain ⟨b, off, e', _, c0, c1⟩ := h (j / 2) (by omega)
  cases e'
  have hadd : ((⟨b, off, none⟩ : Addr).add j) = ⟨b, off + j, none⟩ := by
    unfold Addr.add
    by_cases h0 : j = 0 <;> simp [h0]
  rw [hadd]
  obtain ⟨d0, d1⟩ := prC_at xs (j / 2) (by omega)
  rcases Nat.mod_two_eq_zero_or_one j with hm | hm
  · rw [show j / 2 * 2 = j from by omega] at c0 d0
    rw [c0, ← d0, hu]
  · rw [show off + j / 2 * 2 + 1 = off + j from by omega] at c1
    rw [show j / 2 * 2 + 1 = j from by omega] at d1
    rw [c1, ← d1, hu]
section
open Go.Shelf Go.Lib
set_option maxHeartbeats 2000000 in
set_option maxRecDepth 100000 in
/-- slices.Clone of a slice at whatever address (after the shelf's own walk). -/
theorem clone_any {P : Program} {ρ : Ren} (L : SlLaysE0.n41 P ρ) (i0 : TypeInfo) (z : Value) (size bytes : Nat) (hi : P.info? (ρ.t 23) = some i0) (hz0 : i0.zero = some z) (hz1 : i0.size = size) (hz2 : i0.bytes = bytes) (hzs : z.cells.size = size) (hsz : 0 < size)
    (z23 : ∀ w, (Go.sizeOf (ρ.t 23)).run P w = .ok size w) (ad : Addr) (n c : Nat) (news : List Value) (w : World) (hl : news.length = n * size) (hn : n ≤ maxLen) (hbig : n * bytes ≤ 140737488355328)
    (hc : ∀ j u, news[j]? = some u → w.cell? (ad.add j) = some u) (h1 : ∀ u ∈ news, u.oneCell' = true) :
    Calls P (ρ.f 41) #[.slice (some ad) n c] w fun e w' => ∃ v', e = .returned v' ∧ w'.ownsRow w.heap.size (ρ.t 23) size v' n news ∧ Below w.heap.size w w' := by
  have mixed := L.mixed; have t4 := L.t4; have a4 := L.a4; have z4 := L.z4; have v4 := L.v4; have t22 := L.t22; have a22 := L.a22; have z22 := L.z22; have v22 := L.v22
  have q22 : ∀ (w : World) (a : Option Addr) (n c n' c' : Nat), (binOp .eql (ρ.t 22) (.slice a n c) (.slice none n' c')).run P w = .ok (.bool a.isNone) w := fun w a n c n' c' => Lib.run_eql_slice_nil w _ _ a n c n' c' L.t22
  have u22 : ∀ w, Sem.run P (underlying (ρ.t 22)) w = .ok (TypeDesc.slice (ρ.t 23)) w := run_underlying t22
  have A : Aside (∀ j u, news[j]? = some u → w.cell? (ad.add j) = some u) := hc
  clear hc
  obtain ⟨_, _, FG⟩ := L.f41
  go_enter FG, SlBodyN.n41_ntmps ρ
  go_wp2_with (at_builtin; refine wpList_append_own _ rfl _ _ (ρ.t 22) rfl w.heap.size (ρ.t 23) i0 z size bytes t22 hi hz0 hz1 hz2 hzs hsz _ _ _ rfl (World.ownsRow_made w #[] 0 (Nat.le_refl _) (Nat.zero_le _) (by simp)) ad n c news rfl ?qc1 ?qc2 ?qc3 ?qc4 ?qc5 ?qc6 ?_)
  case qc1 => exact hl
  case qc2 =>
    intro j u hj
    exact Lib.cell?_alloc_some _ (A.out j u hj)
  case qc3 => exact h1
  case qc4 => rw [Nat.zero_add]; exact hn
  case qc5 => rw [Nat.zero_add]; exact hbig
  case qc6 => simp
  intro v' w1 hown hgrow hnil
  go_wp2
  go_ret
  exact ⟨v', rfl, by simpa using hown, ((Below.refl _ w).alloc (Nat.le_refl _) _).grown hgrow (by simp) (by intro k hk; simp [Value.ownBlock] at hk; omega)⟩
end
theorem clone65 (a : Option Addr) (cap : Nat) (xs : List (Int × Int)) (w : World) (hx : PRow w w.heap.size a xs) (hn : xs.length ≤ 2000) :
    Calls Try.prog 65 #[.slice a xs.length cap] w (OwnPost xs w) := by
  obtain ⟨i0, hi, hz0, hz1, hz2⟩ := info_parts pair_info
  cases a with
  | none =>
    have h0 : xs = [] := by
      cases xs with
      | nil => rfl
      | cons x l => obtain ⟨b, off, e, _⟩ := hx 0 (by simp); cases e
    subst h0
    refine (Try.slices_Clone_nil _ cap w).mono ?_
    rintro e w' ⟨rfl, rfl⟩
    exact ⟨_, rfl, World.ownsRow_nil _ _ _ _, Below.refl _ _⟩
  | some ad =>
    exact clone_any Try.laysSlE041_f65 i0 (.agg #[.int .i64 0, .int .i64 0]) 2 16 hi hz0 hz1 hz2 rfl (by decide) Try.sizeOf40 ad xs.length cap (prC xs) w (prC_len xs) (by unfold maxLen; omega) (by omega) (prow_cells hx) (prC_one xs)
end Go.Proofs.Ytdfloglicjocbaa
