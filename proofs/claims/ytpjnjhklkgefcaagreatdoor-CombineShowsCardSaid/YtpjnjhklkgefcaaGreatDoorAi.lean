import Derived.Test.YtpjnjhklkgefcaaGreatDoorAh
import Derived.Shelf.Strings.Builder1
set_option linter.unusedVariables false
set_option linter.unusedSimpArgs false
namespace Go.Proofs.YtpjnjhklkgefcaaGreatDoor
open Go.RowKit
/-- blocks below R, but b, are as they were. -/
structure Kr (R b : Nat) (w w' : World) : Prop where
  os : w'.os = w.os
  tape : w'.tape = w.tape
  output : w'.output = w.output
  size : w.heap.size ≤ w'.heap.size
  block : ∀ i, i < R → i ≠ b → w'.heap[i]? = w.heap[i]?
theorem Kr.below {R b B : Nat} {w w' : World} (k : Kr R b w w') (h1 : B ≤ R) (h2 : B ≤ b) : Below B w w' := ⟨k.os, k.tape, k.output, k.size, fun i hi => k.block i (by omega) (by omega)⟩
/-- a strings.Builder in block b whose bytes lie in a row from R on. -/
structure BW (R b : Nat) (l : List UInt8) (w : World) : Prop where
  h : ∃ a v, Blk w b 120 #[a, v] ∧ (a = .pointer none ∨ a = pt b) ∧ w.ownsRow R 5 1 v l.length (Lib.byteCells l)
theorem BW.kr {R b R' b' : Nat} {l : List UInt8} {w w' : World} (h : BW R b l w) (hRb : b < R') (hb : b ≠ b') (hrow : ∀ a v, Blk w b 120 #[a, v] → ∀ g, v.ownBlock = some g → g < R' ∧ g ≠ b') (k : Kr R' b' w w') : BW R b l w' := by
  obtain ⟨a, v, hB, ha, ⟨hl, hO⟩⟩ := h.h
  refine ⟨a, v, (k.block b hRb hb).trans hB, ha, hl, ?_⟩
  rcases hO with hO | ⟨g, cap, cur, rfl, hg0, hg, r⟩
  · exact Or.inl hO
  · have hr := hrow a _ hB g rfl
    exact Or.inr ⟨g, cap, cur, rfl, hg0, (k.block g hr.1 hr.2).trans hg, r⟩
theorem copyCheck_used (b : Nat) (w : World) (h0 : w.cell? ⟨b, 0, none⟩ = some (pt b)) : Calls Tryz.prog 94 #[pt b] w fun e w' => e = .returned (.tuple #[]) ∧ w' = w :=
  Any.Builder_copyCheck_used { Tryz.lays156 with } Tryz.Builder_Extra_156.toX72 b w h0
theorem copyCheck_fresh (b : Nat) (w : World) (h0 : w.cell? ⟨b, 0, none⟩ = some (.pointer none)) (hsh : w.shape? b = some (120, 2)) (hfz : w.frozen? ⟨b, 0, none⟩ = false) : Calls Tryz.prog 94 #[pt b] w fun e w' => e = .returned (.tuple #[]) ∧ w' = w.setCell ⟨b, 0, none⟩ (pt b) :=
  Any.Builder_copyCheck_fresh { Tryz.lays156 with } Tryz.Builder_Extra_156.toX72 b w h0 hsh hfz
theorem copyCheck_ok (b : Nat) (a v : Value) (w : World) (hB : Blk w b 120 #[a, v]) (ha : a = .pointer none ∨ a = pt b) : Calls Tryz.prog 94 #[pt b] w fun e w' => e = .returned (.tuple #[]) ∧ Blk w' b 120 #[pt b, v] ∧ Kp [b] w w' := by
  rcases ha with rfl | rfl
  · refine (copyCheck_fresh b w (hB.cell 0) (by unfold Blk at hB; simp [World.shape?, hB]) (hB.frozen 0)).mono ?_
    rintro e w' ⟨rfl, rfl⟩
    exact ⟨rfl, hB.set 0 _, (Kp.refl _ w).setCell _ _ (Or.inl (by simp))⟩
  · refine (copyCheck_used b w (hB.cell 0)).mono ?_
    rintro e w' ⟨rfl, rfl⟩
    exact ⟨rfl, hB, Kp.refl _ _⟩
set_option maxRecDepth 100000 in
set_option maxHeartbeats 4000000 in
theorem writeString_ok {R b : Nat} {l : List UInt8} (t : ByteArray) (w : World) (hR : R ≤ w.heap.size) (h : BW R b l w) (hlen : l.length + t.size ≤ 140737488355328) (hb : b < R) :
    Calls Tryz.prog 47 #[pt b, .string t] w fun e w' => e = .returned (.tuple #[.int .i64 t.size, .nilIface]) ∧ BW R b (l ++ t.data.toList) w' ∧ Kr R b w w' := by
  obtain ⟨i0, hi0, hi1, hi2, hi3⟩ := info_parts info5
  obtain ⟨a, v, hB, ha, hO⟩ := h.h
  have HC := Lib.hid (copyCheck_ok b a v w hB ha)
  have hne := own_ne hO hB (by decide)
  have HO := Lib.hid hO
  clear hB hO h
  go_enter Tryz.func47, Tryz.ntmps47
  go_wp2_with fail
  refine HC.out.mono ?_
  rintro e w1 ⟨rfl, hB1, hk1⟩
  have hO1 := own_kp HO.out hk1 (fun c hc => by simpa using hne c hc)
  have HO1 := Lib.hid hO1
  have HB1 := Lib.hid hB1
  have HK1 := Lib.hid hk1
  have c1 := hB1.cell 1
  simp at c1
  have hws : R ≤ w1.heap.size := Nat.le_trans hR hk1.size
  clear HC HO hB1 hk1 hO1
  go_wp2_with (at_builtin; refine Lib.wpList_append_own_string _ rfl _ _ 117 9 rfl R 5 i0 Tryz.underlying117 Tryz.underlying9 hi0 hi1 hi2 hi3 _ _ _ rfl HO1.out t rfl ?c1 ?c2 ?c3 ?_)
  case c1 => unfold maxLen; omega
  case c2 => omega
  case c3 => exact hws
  intro v' w2 hown hgrow _
  obtain ⟨p', m', c', rfl⟩ : ∃ p m c, v' = .slice p m c := by
    rcases hown.2 with ⟨rfl, _⟩ | ⟨g', cap', cur, h, _⟩
    · exact ⟨_, _, _, rfl⟩
    · exact ⟨_, _, _, h⟩
  have hB2 : Blk w2 b 120 #[pt b, v] := (hgrow.block b HB1.out.lt (fun e => hne b e.symm rfl)).trans HB1.out
  have hge : ∀ g, v.ownBlock = some g → R ≤ g := fun g hg => by
    rcases HO1.out.2 with ⟨rfl, _⟩ | ⟨g', cap', cur, rfl, hb', _⟩
    · cases hg
    · obtain rfl : g' = g := Option.some.inj hg
      exact hb'
  have c2 := hB2.cell 1
  have f2 := hB2.frozen 1
  simp at c2
  have HB2 := Lib.hid hB2
  have HON := Lib.hid (show w2.ownsRow R 5 1 (.slice p' m' c') (l ++ t.data.toList).length (Lib.byteCells (l ++ t.data.toList)) from by
    have e : Lib.byteCells (l ++ t.data.toList) = Lib.byteCells l ++ Lib.strCells t := by simp [Lib.byteCells, Lib.strCells]
    rw [e, List.length_append, ← Lib.size_eq]
    exact hown)
  have HG := Lib.hid hgrow
  have HGE := Lib.hid hge
  clear hB2 hown hgrow hge
  go_wp2_with fail
  go_ret2
  have k2 : Kp [b] w2 (w2.setCell ⟨b, 1, none⟩ (.slice p' m' c')) := (Kp.refl _ w2).setCell _ _ (Or.inl (by simp))
  refine ⟨rfl, ⟨_, _, HB2.out.set 1 _, Or.inr rfl, own_kp HON.out k2 (fun x hx => by simpa using own_ne HON.out HB2.out (by decide) x hx)⟩, ?_⟩
  have k1 := HK1.out
  have hg := HG.out
  refine ⟨k2.os.trans (hg.os.trans k1.os), k2.tape.trans (hg.tape.trans k1.tape), k2.output.trans (hg.output.trans k1.output), Nat.le_trans k1.size (Nat.le_trans hg.size k2.size), fun i hi hn => ?_⟩
  have hi0 : i < w.heap.size := by omega
  have e1 := k1.block i hi0 (by simpa using hn)
  have e2 := hg.block i (by omega) (fun e => by have := HGE.out i e.symm; omega)
  have e3 := k2.block i (by have := hg.size; omega) (by simpa using hn)
  exact e3.trans (e2.trans e1)
theorem freeze_kp (g : Nat) (n : Nat) (w : World) : Kp [g] w (w.freeze ⟨g, 0, none⟩ n) := by
  unfold World.freeze
  split
  · exact Kp.refl _ _
  · exact ⟨rfl, rfl, rfl, by simp, fun i hi hn => by
      have : g ≠ i := fun e => hn (by simp [e])
      simp [Array.getElem?_modify, this]⟩
theorem freeze_row {g n : Nat} {cur : Array Value} {t : TypeId} {fz : Nat × Nat} {w : World} (h : w.heap[g]? = some (.cells cur t fz)) : ∃ fz', (w.freeze ⟨g, 0, none⟩ n).heap[g]? = some (.cells cur t fz') := by
  unfold World.freeze
  split
  · exact ⟨fz, h⟩
  · obtain ⟨lo, hi⟩ := fz
    simp [Array.getElem?_modify, h]
set_option maxRecDepth 100000 in
set_option maxHeartbeats 4000000 in
theorem string_ok (b g cap : Nat) (cur : Array Value) (fz : Nat × Nat) (a : Value) (l : List UInt8) (w : World) (hB : Blk w b 120 #[a, .slice (some ⟨g, 0, none⟩) l.length cap]) (hg : w.heap[g]? = some (.cells cur 5 fz)) (h0 : l ≠ []) (h1 : l.length ≤ cap) (h2 : l.length ≤ cur.size) (h63 : l.length ≤ 1073741824)
    (hc : ∀ (j : Nat) (x : UInt8), l[j]? = some x → cur[j]? = some (.int .u8 (x.toNat : Int))) : Calls Tryz.prog 48 #[pt b] w fun e w' => e = .returned (.string ⟨l.toArray⟩) ∧ (∃ fz', w'.heap[g]? = some (.cells cur 5 fz')) ∧ Kp [g] w w' := by
  have hl0 : l.length ≠ 0 := by simpa using h0
  have c1 : w.drew.cell? ⟨b, 1, none⟩ = some (.slice (some ⟨g, 0, none⟩) l.length cap) := hB.cell 1
  have hSD : (Builtin.unsafeSliceData_ #[117] 188 #[.slice (some ⟨g, 0, none⟩) l.length cap]).run Tryz.prog w.drew = .ok (.pointer (some ⟨g, 0, none⟩)) w.drew := Lib.run_unsafeSliceData_row _ _ _ _ _ _ (by omega)
  have hUS : (Builtin.unsafeString_ #[188, 3] 9 #[.pointer (some ⟨g, 0, none⟩), .int .i64 l.length]).run Tryz.prog w.drew = .ok (.string ⟨l.toArray⟩) (w.drew.freeze ⟨g, 0, none⟩ l.length) := by
    refine Lib.run_unsafeString_row w.drew 188 3 9 5 Tryz.underlying188 (by kernel_rfl) g cur.size (by have hg' : w.drew.heap[g]? = some (.cells cur 5 fz) := hg; simp [World.shape?, hg']) l h0 h2 (by omega) ?_
    intro j x hx
    have e : (⟨g, 0, none⟩ : Addr).add j = ⟨g, j, none⟩ := by unfold Addr.add; split <;> simp_all
    rw [e, cell_of_row w.drew g j cur _ _ hg]
    exact hc j x hx
  have HF := Lib.hid (freeze_row (n := l.length) (w := w.drew) hg)
  have HK := Lib.hid ((Kp.refl [g] w).drew.trans (freeze_kp g l.length w.drew))
  clear hB hg hc
  go_enter Tryz.func48, Tryz.ntmps48
  go_wp2_with fail
  go_region
  all_goals
    go_wp2_with fail
    go_ret
    exact ⟨rfl, HF.out, HK.out⟩
end Go.Proofs.YtpjnjhklkgefcaaGreatDoor
