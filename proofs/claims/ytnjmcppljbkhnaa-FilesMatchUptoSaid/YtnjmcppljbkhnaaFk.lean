import Derived.Test.YtnjmcppljbkhnaaFf
import Derived.Test.YtnjmcppljbkhnaaShelf
set_option linter.unusedVariables false
set_option linter.unusedSimpArgs false
namespace Go.Proofs.Ytnjmcppljbkhnaa
open Go.RowKit
set_option maxRecDepth 100000 in
set_option maxHeartbeats 4000000 in
theorem close41 (g : Nat) (c n t head : ByteArray) (told : Bool) (rest : ByteArray) (part rec : Nat) (w : World) (h : SL w g c n t head told false rest part rec) (hc : c.size = 32) (hh : head.size = 20) (hp : part ≤ 1099511627776) (hr : rest.size ≤ 100000) :
    Calls Try.prog 41 #[.pointer (some ⟨g, 0, none⟩)] w fun e w' => e = .returned (.tuple #[.string ((if told = true then ByteArray.empty else head) ++ partB c head part true rest), .int .i64 0]) ∧ w.grownBy w' (some g) := by
  have HSL := Lib.hid (show SL (w.setCell ⟨g, 5, none⟩ (.bool true)) g c n t head told true rest part rec from Blk.set h 5 (.bool true))
  have HO := Lib.hid (only_set (only_refl w g) 5 (.bool true))
  have c5 : w.cell? ⟨g, 5, none⟩ = some (.bool false) := Blk.cell h 5
  have f5 : w.frozen? ⟨g, 5, none⟩ = false := Blk.frozen h 5
  have HSV := Lib.hid (show SV w g c n t head rest part (w.setCell ⟨g, 5, none⟩ (.bool true)).drew from ⟨only_drew HO.out, told, true, rec, HSL.out⟩)
  have C75 := Lib.hid (fun W => sealPart75 c n t head rest part true W hc hh hp hr)
  have hps : (partB c head part true rest).size ≤ 100016 := by rw [partB_size]; omega
  have hbs : (if told = true then ByteArray.empty else head).size ≤ 20 := by
    cases told
    · show head.size ≤ 20; omega
    · show (0 : Nat) ≤ 20; omega
  generalize partB c head part true rest = PB at *
  have CBG := Lib.hid (fun W hW => begin74 w g c n t head told true rest part rec W hW)
  generalize hB : (if told = true then ByteArray.empty else head) = B at *
  have a1 : B.size + PB.size ≤ 9223372036854775807 := by omega
  have a2 : B.size + PB.size ≤ maxLen := by unfold maxLen; omega
  have a3 : ¬ maxLen < B.size + PB.size := by unfold maxLen; omega
  have a4 : ¬ 9223372036854775807 < B.size + PB.size := by omega
  have HBE := Lib.hid hB
  clear h hc hh hB
  go_enter Try.func41, Try.ntmps41
  go_wp2_with fail
  clear c5 f5
  generalize w.setCell ⟨g, 5, none⟩ (.bool true) = w1 at *
  have HSLD := Lib.hid (show SL w1.drew g c n t head told true rest part rec from HSL.out)
  go_region_held3 (fun w' => SV w g c n t head rest part w' ∧ w'.cell? ⟨g, 0, none⟩ = some (.string c) ∧ w'.cell? ⟨g, 1, none⟩ = some (.string n) ∧ w'.cell? ⟨g, 2, none⟩ = some (.string t) ∧ w'.cell? ⟨g, 3, none⟩ = some (.string head) ∧ w'.cell? ⟨g, 6, none⟩ = some (.string rest) ∧ w'.cell? ⟨g, 7, none⟩ = some (.int .i64 (part : Nat))) (first | exact HSV.out.both | exact SV.both (SV.only (And.left (by assumption)) hgr ⟨_, _, _, hsl⟩) | exact SV.both (SV.below (And.left (by assumption)) hbb) | assumption) (first | (go_at_call 74; first | (refine (CBG.out _ HSLD.out).mono ?_; rintro e w' ⟨rfl, hsl, hgr⟩) | (refine (CBG.out _ (Blk.below HSLD.out hbb (Blk.lt HSLD.out))).mono ?_; rintro e w' ⟨rfl, hsl, hgr⟩)) | (go_at_call 75; refine (C75.out _).mono ?_; rintro e w' ⟨rfl, hbb⟩))
  all_goals
    have HF := Lib.hid (And.left (by assumption : SV w g c n t head rest part _ ∧ _))
    go_wp2_with fail
    go_ret2
    exact ⟨rfl, HF.out.1⟩
end Go.Proofs.Ytnjmcppljbkhnaa

set_option linter.unusedVariables false
set_option linter.unusedSimpArgs false
namespace Go.Proofs.Ytnjmcppljbkhnaa
open Go.RowKit
theorem writeString68 (B b : Nat) (bs : List Value) (s : ByteArray) (w : World) (h : Lib.IsBuilder 103 5 B b bs w) (hlen : bs.length + s.size ≤ 140737488355328) (hBw : B ≤ w.heap.size) :
    Calls Try.prog 68 #[.pointer (some ⟨b, 0, none⟩), .string s] w fun e w' => e = .returned (.tuple #[.int .i64 s.size, .nilIface]) ∧ (Lib.BuilderAt 103 5 B b (.pointer (some ⟨b, 0, none⟩)) (bs ++ Lib.strCells s) w' ∧ Below B w w') :=
  Any.Builder_WriteString { Try.lays156 with } Try.Builder_Extra_156 B b bs s w h hlen hBw
end Go.Proofs.Ytnjmcppljbkhnaa

set_option linter.unusedVariables false
set_option linter.unusedSimpArgs false
namespace Go.Proofs.Ytnjmcppljbkhnaa
open Go.RowKit
/-- a builder that was made by the call holds the text s. -/
def BS (B b : Nat) (s : ByteArray) (w : World) : Prop := Lib.IsBuilder 103 5 B b (Lib.strCells s) w
theorem ownsRow_keep {w w' : World} {B e size n : Nat} {v : Value} {xs : List Value} (h : w.ownsRow B e size v n xs) (hk : ∀ i, B ≤ i → i < w.heap.size → w'.heap[i]? = w.heap[i]?) : w'.ownsRow B e size v n xs := by
  obtain ⟨h1, h2⟩ := h
  refine ⟨h1, ?_⟩
  rcases h2 with h2 | ⟨g, cap, cur, hv, hbg, hg, hc, hm, hs, ht⟩
  · exact Or.inl h2
  · refine Or.inr ⟨g, cap, cur, hv, hbg, ?_, hc, hm, hs, ht⟩
    have hlt : g < w.heap.size := by
      rcases Nat.lt_or_ge g w.heap.size with h | h
      · exact h
      · rw [Array.getElem?_eq_none h] at hg; cases hg
    rw [hk g hbg hlt]; exact hg
theorem BS.keep {B b : Nat} {s : ByteArray} {w w' : World} (h : BS B b s w) (hk : ∀ i, B ≤ i → i < w.heap.size → w'.heap[i]? = w.heap[i]?) : BS B b s w' := by
  have one : ∀ p, Lib.BuilderAt 103 5 B b p (Lib.strCells s) w → Lib.BuilderAt 103 5 B b p (Lib.strCells s) w' := by
    rintro p ⟨hB, v, hb, hown, hne⟩
    have hlt : b < w.heap.size := by
      rcases Nat.lt_or_ge b w.heap.size with h | h
      · exact h
      · rw [Array.getElem?_eq_none h] at hb; cases hb
    exact ⟨hB, v, by rw [hk b hB hlt]; exact hb, ownsRow_keep hown hk, hne⟩
  rcases h with h | h
  · exact Or.inl (one _ h)
  · exact Or.inr (one _ h)
theorem BS.below {B b : Nat} {s : ByteArray} {w w' : World} (h : BS B b s w) (hb : Below w.heap.size w w') : BS B b s w' := h.keep fun i _ hi => hb.block i hi
/-- a store to an older block. -/
theorem BS.store {B b g : Nat} {s : ByteArray} {w : World} (h : BS B b s w) (hg : g < B) (i : Nat) (u : Value) : BS B b s (w.setCell ⟨g, i, none⟩ u) :=
  h.keep fun k hk _ => Below.heap_setCell w ⟨g, i, none⟩ u k (fun e => by have : g = k := e.symm ▸ rfl; omega)
theorem BS.drew {B b : Nat} {s : ByteArray} {w : World} (h : BS B b s w) : BS B b s w.drew := h.keep fun _ _ _ => rfl
theorem BS.only {B b g : Nat} {s : ByteArray} {w w' : World} (h : BS B b s w) (ho : w.grownBy w' (some g)) (hg : g < B) : BS B b s w' :=
  h.keep fun k hk hlt => ho.block k hlt (by simp; omega)
theorem strCells_append (a b : ByteArray) : Lib.strCells a ++ Lib.strCells b = Lib.strCells (a ++ b) := by
  simp [Lib.strCells]
theorem BS.write {B b : Nat} {a s : ByteArray} {w : World} (h : BS B b a w) (hlen : a.size + s.size ≤ 140737488355328) (hBw : B ≤ w.heap.size) :
    Calls Try.prog 68 #[.pointer (some ⟨b, 0, none⟩), .string s] w fun e w' => e = .returned (.tuple #[.int .i64 s.size, .nilIface]) ∧ BS B b (a ++ s) w' ∧ Below B w w' := by
  refine (writeString68 B b (Lib.strCells a) s w h (by rw [Lib.strCells_length]; exact hlen) hBw).mono fun e w' q => ⟨q.1, ?_, q.2.2⟩
  have h2 := q.2.1
  rw [strCells_append] at h2
  exact Or.inr h2
theorem BS.new (w : World) (B : Nat) (hB : B ≤ w.heap.size) : BS B w.heap.size ⟨#[]⟩ (w.alloc (.cells #[.pointer none, .slice none 0 0] 103)) := by
  refine Or.inl ⟨hB, .slice none 0 0, Blk.new w 103 _, ?_, by simp [Value.ownBlock]⟩
  exact World.ownsRow_nil _ _ _ _
/-- what a sealer has given after k parts of the text R. -/
def wrN (c head base : ByteArray) (part : Nat) (R : ByteArray) : Nat → ByteArray
  | 0 => base
  | k + 1 => wrN c head base part R k ++ partB c head (part + k) false (R.extract (1024 * k) (1024 * k + 1024))
end Go.Proofs.Ytnjmcppljbkhnaa
