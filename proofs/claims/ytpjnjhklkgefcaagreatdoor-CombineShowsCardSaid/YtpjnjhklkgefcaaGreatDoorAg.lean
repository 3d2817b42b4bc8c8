import Derived.Test.YtpjnjhklkgefcaaGreatDoorAf
import Derived.Deep.RegionLaw
set_option linter.unusedVariables false
set_option linter.unusedSimpArgs false
namespace Go.Proofs.YtpjnjhklkgefcaaGreatDoor
open Go.RowKit
abbrev szC (b : ByteArray) (pv ov : Value) (run : Int) : Array Value := #[.string b, pv, ov, .int .i64 run]
/-- a squeezer whose output is owned from B on. -/
structure SzM (B sb : Nat) (b : ByteArray) (pv : Value) (n r : Nat) (w : World) : Prop where
  h : ∃ ov, ∃ l : List UInt8, Blk w sb 385 (szC b pv ov r) ∧ w.ownsRow B 5 1 ov n (Lib.byteCells l)
/-- behind 's.out = append(s.out, ..)'. -/
theorem step_Z {B sb n m g cap r : Nat} {b : ByteArray} {pv ov : Value} {l l' : List UInt8} {w wr w2 : World} (hB : B ≤ wr.heap.size) (hsb : B ≤ sb)
    (hS : Blk wr sb 385 (szC b pv ov r)) (hO : wr.ownsRow B 5 1 ov n (Lib.byteCells l)) (hb : Below B w wr)
    (hown : w2.ownsRow B 5 1 (.slice (some ⟨g, 0, none⟩) m cap) m (Lib.byteCells l')) (hgrow : wr.grownBy w2 ov.ownBlock) :
    Blk w2 sb 385 (szC b pv ov r) ∧ Blk (w2.setCell ⟨sb, 2, none⟩ (.slice (some ⟨g, 0, none⟩) m cap)) sb 385 (szC b pv (.slice (some ⟨g, 0, none⟩) m cap) r) ∧
    (w2.setCell ⟨sb, 2, none⟩ (.slice (some ⟨g, 0, none⟩) m cap)).ownsRow B 5 1 (.slice (some ⟨g, 0, none⟩) m cap) m (Lib.byteCells l') ∧
    Below B w (w2.setCell ⟨sb, 2, none⟩ (.slice (some ⟨g, 0, none⟩) m cap)) := by
  have k : Kp [sb] w2 (w2.setCell ⟨sb, 2, none⟩ (.slice (some ⟨g, 0, none⟩) m cap)) := (Kp.refl _ w2).setCell _ _ (Or.inl (by simp))
  have hS2 : Blk w2 sb 385 (szC b pv ov r) := (hgrow.block sb hS.lt (fun e => own_ne hO hS (by decide) sb e.symm rfl)).trans hS
  exact ⟨hS2, hS2.set 2 _, own_kp hown k (fun c hc => by simpa using own_ne hown hS2 (by decide) c hc), (own_grown hb hO hgrow hB).setCell (p := ⟨sb, 2, none⟩) hsb _⟩
set_option maxRecDepth 100000 in
set_option maxHeartbeats 8000000 in
theorem flush_ok {B sb n0 r0 : Nat} {b : ByteArray} {pv : Value} (e : Nat) (w : World) (hr : r0 ≤ e) (he : e ≤ b.size) (hbs : b.size ≤ 1048576) (hn : n0 ≤ 4194304) (hB : B ≤ w.heap.size) (hsb : B ≤ sb) (h : SzM B sb b pv n0 r0 w) :
    Calls Tryz.prog 339 #[pt sb, .int .i64 e] w fun x w' => x = .returned (.tuple #[]) ∧ (∃ n, n ≤ n0 + 2 * e ∧ SzM B sb b pv n e w') ∧ Below B w w' := by
  obtain ⟨i0, hi0, hi1, hi2, hi3⟩ := info_parts info5
  obtain ⟨ov, l, hS, hO⟩ := h.h
  have HS := Lib.hid hS
  have HO := Lib.hid hO
  clear hS hO h
  go_enter Tryz.func339, Tryz.ntmps339
  go_wp2_with fail
  go_loopg [] (e - r0) (fun gk wr => ∃ ov, ∃ l : List UInt8, ∃ n r, r0 ≤ r ∧ r ≤ e ∧ e - r ≤ gk ∧ n ≤ n0 + 2 * (r - r0) ∧ Blk wr sb 385 (szC b pv ov r) ∧ wr.ownsRow B 5 1 ov n (Lib.byteCells l) ∧ Below B w wr)
  case atStart => exact ⟨ov, l, n0, r0, Nat.le_refl _, hr, Nat.le_refl _, by omega, HS.out, HO.out, Below.refl _ _⟩
  case round =>
    clear HS HO
    obtain ⟨ov, l, n, r, hr0, hre, hgk, hnn, hS, hO, hb⟩ := hrel
    have HS := Lib.hid hS
    have HO := Lib.hid hO
    have HB := Lib.hid hb
    have hws := Nat.le_trans hB hb.size
    have c0 := hS.cell 0
    have c2 := hS.cell 2
    have c3 := hS.cell 3
    simp at c0 c2 c3
    clear hS hO hb
    by_cases hlt : r < e
    · have hd : decide ((r : Int) < (e : Int)) = true := decide_eq_true (by omega)
      obtain ⟨c, hc⟩ : ∃ c : Nat, c = min 128 (e - r) := ⟨_, rfl⟩
      have hc1 : 1 ≤ c := by omega
      have hc2 : c ≤ 128 := by omega
      have hc3 : r + c ≤ e := by omega
      have hmin : min (128 : Int) ((e : Int) - (r : Int)) = (c : Int) := by omega
      clear hc
      obtain ⟨b0, hb0⟩ : ∃ b0 : UInt8, (c : Int) - 1 = (b0.toNat : Int) := by
        obtain ⟨b0, hb0⟩ := byte_of ((c : Int) - 1)
        exact ⟨b0, by omega⟩
      have hb1 : (b0.toNat : Int) % 256 = (b0.toNat : Int) := by have := b0.toNat_lt; omega
      go_wp2_with (at_builtin; refine wpList_append_lies _ rfl _ _ 117 rfl B 5 i0 (.int .u8 0) 1 1 Tryz.underlying117 hi0 hi1 hi2 hi3 rfl (by decide) _ _ _ rfl (HO.out.alloc _) _ 1 1 [.int .u8 (b0.toNat : Int)] (by rfl) (by rfl) (World.news_of_block (cs := #[.int .u8 (b0.toNat : Int)]) (t := 5) (fr := (0, 0)) (heap_alloc_new _ _)) (by simp [Value.oneCell']) (by decide) (by unfold maxLen; omega) (by omega) ?c5 _ rfl ?_)
      case c5 => exact Nat.le_trans hws (by simp)
      intro g2 cap2 w2 hown hgrow hat hltg
      have HG := Lib.hid (step_Z (Nat.le_trans hws (by simp)) hsb (HS.out.old _) (HO.out.alloc _) (HB.out.alloc hws _) (l' := l ++ [b0]) (by
        have e : Lib.byteCells (l ++ [b0]) = Lib.byteCells l ++ [.int .u8 (b0.toNat : Int)] := by simp [Lib.byteCells]
        rw [e]; exact hown) hgrow)
      have d2 := HG.out.1.cell 2
      have f2 := HG.out.1.frozen 2
      simp at d2
      clear hown hgrow hat hltg HS HO HB c0 c2 c3 hb0 hb1
      go_upto_region 3 with (fail)
      clear d2 f2
      generalize (w2.setCell ⟨sb, 2, none⟩ _) = w3 at *
      have HS3 := Lib.hid HG.out.2.1
      have HO3 := Lib.hid HG.out.2.2.1
      have HB3 := Lib.hid HG.out.2.2.2
      have hws3 : B ≤ w3.heap.size := Nat.le_trans hB HG.out.2.2.2.size
      clear HG hws
      have c0 := HS3.out.cell 0
      have c2 := HS3.out.cell 2
      have c3 := HS3.out.cell 3
      simp at c0 c2 c3
      have hlt2 := HS3.out.lt
      have HEX := Lib.hid (show (b.extract r (r + c)).size = c from by simp; omega)
      have hrc : (r : Int) + (c : Int) ≤ (b.size : Int) := by omega
      have hrn : ((r : Int) + (c : Int)).toNat = r + c := by omega
      have hr1 : (0 : Int) ≤ (r : Int) + (c : Int) := by omega
      have hwr : IntKind.i64.wrap ((r : Int) + (c : Int)) = (r : Int) + (c : Int) := IntWalk.i64_in _ (by omega)
      have hr2 : (r : Int) ≤ (r : Int) + (c : Int) := by omega
      go_region_law ((refine step_append_str (by rfl) _ _ 117 9 (by rfl) B 5 i0 Tryz.underlying117 Tryz.underlying9 hi0 hi1 hi2 hi3 _ _ _ (by rfl) (HO3.out.drew') (b.extract r (r + c)) (by rfl) ?_ ?_ ?_ ?_; (rw [HEX.out]; unfold maxLen; omega); (rw [HEX.out]; omega); exact hws3; intro v' w4 hown hgrow; rw [HEX.out] at hown; obtain ⟨g4, cap4, rfl⟩ := own_form hown (by omega); have HG := Lib.hid (step_Z (wr := w3.drew) (l' := l ++ [b0] ++ (b.extract r (r + c)).data.toList) hws3 hsb HS3.out.drw HO3.out.drew' HB3.out.drew (by (have e : Lib.byteCells (l ++ [b0] ++ (b.extract r (r + c)).data.toList) = Lib.byteCells (l ++ [b0]) ++ Lib.strCells (b.extract r (r + c)) := by simp [Lib.byteCells, Lib.strCells]); rw [e]; exact hown) hgrow); have f2 := HG.out.1.frozen 2; have d2 := HG.out.1.cell 2; simp at d2))
      all_goals
        clear hown hgrow f2 d2
        generalize (w4.setCell ⟨sb, 2, none⟩ _) = w5 at *
        have d3 := HG.out.2.1.cell 3
        have f3 := HG.out.2.1.frozen 3
        simp at d3
        go_wp2_with fail
        have k : Kp [sb] w5 (w5.setCell ⟨sb, 3, none⟩ (.int .i64 ((r + c : Nat) : Int))) := (Kp.refl _ w5).setCell _ _ (Or.inl (by simp))
        have e3 : (r : Int) + (c : Int) = ((r + c : Nat) : Int) := by omega
        go_roundg (gk - 1)
        case measure => omega
        case rel =>
          rw [e3]
          exact ⟨_, _, n + 1 + c, r + c, by omega, hc3, by omega, by omega, HG.out.2.1.set 3 _, own_kp HG.out.2.2.1 k (fun x hx => by simpa using own_ne HG.out.2.2.1 HG.out.2.1 (by decide) x hx), HG.out.2.2.2.setCell (p := ⟨sb, 3, none⟩) hsb _⟩
    · have hd : decide ((r : Int) < (e : Int)) = false := decide_eq_false (by omega)
      go_wp2_with fail
      go_end0
      have h : r = e := by omega
      subst h
      exact ⟨rfl, ⟨n, by omega, ⟨ov, l, HS.out, HO.out⟩⟩, HB.out⟩
end Go.Proofs.YtpjnjhklkgefcaaGreatDoor
