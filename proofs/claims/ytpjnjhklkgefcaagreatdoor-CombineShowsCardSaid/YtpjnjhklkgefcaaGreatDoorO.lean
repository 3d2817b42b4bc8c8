import Derived.Test.YtpjnjhklkgefcaaGreatDoorM
import Derived.Handy
import Derived.IntWalk
import Derived.Laws.Tables
set_option linter.unusedVariables false
set_option linter.unusedSimpArgs false
namespace Go.Proofs.YtpjnjhklkgefcaaGreatDoor
open Go.RowKit
/-- n bytes at the head of a block. -/
def BytesAt (w : World) (g n : Nat) : Prop := ∀ i, i < n → ∃ v : Int, w.cell? ⟨g, i, none⟩ = some (.int .u8 v)
theorem BytesAt.kp {S : List Nat} {w w' : World} {g n : Nat} (h : BytesAt w g n) (k : Kp S w w') (hg : g ∉ S) : BytesAt w' g n := fun i hi => by
  obtain ⟨v, hv⟩ := h i hi
  exact ⟨v, (World.cell?_of_block (w := w) (a := ⟨g, i, none⟩) (k.block g (World.block_lt_of_cell? _ _ hv) hg)).trans hv⟩
structure WO (n : Nat) (w : World) (t : TypeId) (b : Nat) (wr : World) : Prop where
  row : ∃ X, Blk wr b t X ∧ URow n X
  kp : Kp [b] w wr
theorem WO.set {n : Nat} {w wr : World} {t : TypeId} {b : Nat} (h : WO n w t b wr) (k : Nat) (v : Int) : WO n w t b (wr.setCell ⟨b, k, none⟩ (.int .u32 v)) := by
  obtain ⟨⟨X, hX, iX⟩, hk⟩ := h
  exact ⟨⟨_, hX.set k _, iX.set k v⟩, hk.setCell _ _ (Or.inl (by simp))⟩
theorem WO.drew {n : Nat} {w wr : World} {t : TypeId} {b : Nat} (h : WO n w t b wr) : WO n w t b wr.drew := ⟨h.row, h.kp.drew⟩
theorem Kp.setRow {S : List Nat} {a b : World} (h : Kp S a b) (g : Nat) (cs : Array Value) (hg : g ∈ S ∨ a.heap.size ≤ g) : Kp S a (b.setRow g cs) :=
  ⟨h.os, h.tape, h.output, Nat.le_trans h.size (by simp [World.setRow]), fun i hi hn => (setRow_other _ _ _ _ (fun e => by subst e; rcases hg with hg | hg; exact hn hg; omega)).trans (h.block i hi hn)⟩
theorem WO.row8 {n : Nat} {w wr : World} {t : TypeId} {b : Nat} {V cs : Array Value} (hk : Kp [b] w wr) (hV : Blk wr b t V) (hc : URow n cs) : WO n w t b (wr.setRow b cs) :=
  ⟨⟨cs, setRow_heap _ _ _ _ _ _ hV, hc⟩, hk.setRow _ _ (Or.inl (by simp))⟩
set_option maxRecDepth 100000 in
set_option maxHeartbeats 4000000 in
theorem wordsOf_ok (p b : Nat) (X : Array Value) (w : World) (hp : BytesAt w p 64) (hb : Blk w b 405 X) (hX : URow 64 X) (hpb : p ≠ b) :
    Calls Tryz.prog 372 #[.pointer (some ⟨p, 0, none⟩), .slice (some ⟨b, 0, none⟩) 64 64] w fun e w' => e = .returned (.tuple #[]) ∧ WO 64 w 405 b w' := by
  have H0 := Lib.hid (show WO 64 w 405 b w from ⟨⟨X, hb, hX⟩, Kp.refl _ _⟩)
  have HP := Lib.hid hp
  have hlt := hb.lt
  clear hb hX hp
  go_enter Tryz.func372, Tryz.ntmps372
  go_wp2
  go_loopw [5] (fun i wr => ∃ k : Nat, k ≤ 16 ∧ i = .int .i64 k ∧ WO 64 w 405 b wr) (fun i _ => 16 - (intOf i).toNat)
  case atStart => exact ⟨0, by omega, rfl, H0.out⟩
  case round =>
    clear H0
    obtain ⟨k, hk, rfl, hwo⟩ := hrel
    have HW := Lib.hid hwo
    clear hwo
    by_cases hlt : k < 16
    · have hd : decide ((k : Int) < 16) = true := decide_eq_true (by omega)
      obtain ⟨X, hX, iX⟩ := HW.out.row
      have HX := Lib.hid hX
      have IX := Lib.hid iX
      have hq := HP.out.kp HW.out.kp (by simp [hpb])
      obtain ⟨x0, c0⟩ := hq (4 * k) (by omega)
      obtain ⟨x1, c1⟩ := hq (4 * k + 1) (by omega)
      obtain ⟨x2, c2⟩ := hq (4 * k + 2) (by omega)
      obtain ⟨x3, c3⟩ := hq (4 * k + 3) (by omega)
      obtain ⟨y, cy⟩ := iX.2 k (by omega)
      have cb := (hX.cell k).trans cy
      have fb := hX.frozen k
      clear hX iX hq cy
      go_wp2
      have i0 : (0 : Int) ≤ (k : Int) := by omega
      have i1 : (k : Int) < 64 := by omega
      have w0 : IntKind.i64.wrap (4 * (k : Int)) = 4 * (k : Int) := IntWalk.i64_in _ (by omega)
      have w1 : IntKind.i64.wrap (4 * (k : Int) + 1) = 4 * (k : Int) + 1 := IntWalk.i64_in _ (by omega)
      have w2 : IntKind.i64.wrap (4 * (k : Int) + 2) = 4 * (k : Int) + 2 := IntWalk.i64_in _ (by omega)
      have w3 : IntKind.i64.wrap (4 * (k : Int) + 3) = 4 * (k : Int) + 3 := IntWalk.i64_in _ (by omega)
      have z0 : (0 : Int) ≤ 4 * (k : Int) := by omega
      have z1 : (0 : Int) ≤ 4 * (k : Int) + 1 := by omega
      have z2 : (0 : Int) ≤ 4 * (k : Int) + 2 := by omega
      have z3 : (0 : Int) ≤ 4 * (k : Int) + 3 := by omega
      have l0 : 4 * (k : Int) < 64 := by omega
      have l1 : 4 * (k : Int) + 1 < 64 := by omega
      have l2 : 4 * (k : Int) + 2 < 64 := by omega
      have l3 : 4 * (k : Int) + 3 < 64 := by omega
      have t0 : (4 * (k : Int)).toNat = 4 * k := by omega
      have t1 : (4 * (k : Int) + 1).toNat = 4 * k + 1 := by omega
      have t2 : (4 * (k : Int) + 2).toNat = 4 * k + 2 := by omega
      have t3 : (4 * (k : Int) + 3).toNat = 4 * k + 3 := by omega
      refine wp_region_still_tail 40 (by kernel_rfl) (by kernel_rfl) ?_
      simp only [List.take_succ_cons, List.take_zero, List.drop_succ_cons, List.drop_zero]
      iterate 40 ((with_reducible refine wpStill_step (fun K hK => ?_)); go_simp; (with_reducible refine hK _ ?_); clear hK K)
      (with_reducible refine wpStill_nil ?_)
      change wpList _ _ _ _ _ wr.drew
      clear w0 w1 w2 w3 t0 t1 t2 t3
      go_wp2
      go_roundw
      case rel => exact ⟨k + 1, by omega, by go_num, (HW.out.set k _).drew⟩
      case measure => simp [intOf]; omega
    · have hd : decide ((k : Int) < 16) = false := decide_eq_false (by omega)
      go_wp2
      go_end0
      exact ⟨rfl, HW.out⟩
end Go.Proofs.YtpjnjhklkgefcaaGreatDoor
