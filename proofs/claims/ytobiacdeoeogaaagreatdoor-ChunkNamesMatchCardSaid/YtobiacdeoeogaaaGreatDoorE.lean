import Derived.Test.YtobiacdeoeogaaaGreatDoorK
import Derived.WideMake
set_option linter.unusedVariables false
set_option linter.unusedSimpArgs false
namespace Go.Proofs.YtobiacdeoeogaaaGreatDoor
open Go.RowKit
/-- the features of a store. -/
structure Ft where
  has : Int
  sums : Int
  prec : Int
  mname : Int
  mpath : Int
  msize : Int
  page : Int
  psize : Int
  forbid : ByteArray
abbrev Ft.cells (f : Ft) : Array Value := #[.int .i64 f.has, .int .i64 f.sums, .int .i64 f.prec, .int .i64 f.mname, .int .i64 f.mpath, .int .i64 f.msize, .int .i64 f.page, .int .i64 f.psize, .string f.forbid]
abbrev wideT : Ft := ⟨3071, 16, 1, 255, 1024, 100000, 3, 1, ⟨#[]⟩⟩
/-- the blocks of a store in memory. -/
structure Mm where
  m : Nat
  c : Nat
  r : Nat
  km : Nat
  ca : Nat
  si : Nat
  vm : Nat
  nm : Nat
abbrev pt (b : Nat) : Value := .pointer (some ⟨b, 0, none⟩)
abbrev sl (b n c : Nat) : Value := .slice (some ⟨b, 0, none⟩) n c
/-- the cells of a store in memory. -/
abbrev mCells (f : Ft) (q : Mm) (since : Value) (cnt made : Int) : Array Value := #[.int .i64 f.has, .int .i64 f.sums, .int .i64 f.prec, .int .i64 f.mname, .int .i64 f.mpath, .int .i64 f.msize, .int .i64 f.page, .int .i64 f.psize, .string f.forbid, pt q.c, pt q.r, .int .i64 cnt, .int .i64 made, sl q.ca 14 14, since, .slice none 0 0, .int .i64 0, .slice none 0 0, .map (some q.vm), .map (some q.nm)]
/-- the cells of a node. -/
abbrev nodeC (name : ByteArray) (dir : Bool) (up kids : Value) (data : ByteArray) (time : Int) (md : Value) (id : ByteArray) : Array Value := #[.string name, .bool dir, up, kids, .string data, .int .i64 time, md, .string id]
/-- n integers. -/
def IntRow (n : Nat) (X : Array Value) : Prop := ∀ i, i < n → ∃ v : Int, X[i]? = some (.int .i64 v)
theorem IntRow.set {n : Nat} {X : Array Value} (h : IntRow n X) (k : Nat) (v : Int) : IntRow n (X.setIfInBounds k (.int .i64 v)) := by
  intro i hi
  obtain ⟨u, hu⟩ := h i hi
  by_cases e : k = i
  · subst e
    have hlt : k < X.size := by
      rcases Nat.lt_or_ge k X.size with h1 | h1
      · exact h1
      · rw [Array.getElem?_eq_none h1] at hu; cases hu
    exact ⟨v, by simp [Array.getElem?_setIfInBounds, hlt]⟩
  · exact ⟨u, by simp [Array.getElem?_setIfInBounds, e, hu]⟩
theorem Blk.ne {w : World} {g g' : Nat} {t t' : TypeId} {cs cs' : Array Value} (h : Blk w g t cs) (h' : Blk w g' t' cs') (ht : t ≠ t') : g ≠ g' := by
  rintro rfl
  unfold Blk at h h'
  rw [h] at h'
  injection h' with h1
  injection h1 with _ h2
  exact ht h2
theorem map_ne {w : World} {g g' : Nat} {t : TypeId} {cs : Array Value} {es : Array MapEntry} {n : Nat} (h : Blk w g t cs) (h' : w.heap[g']? = some (.map es n)) : g ≠ g' := by
  rintro rfl
  unfold Blk at h
  rw [h] at h'
  cases h'
theorem blockOf_kp {S : List Nat} {w w' : World} {b : Nat} {o : Obj} (h : w.heap[b]? = some o) (hb : Kp S w w') (hn : b ∉ S) : w'.heap[b]? = some o := by
  have hlt : b < w.heap.size := by
    rcases Nat.lt_or_ge b w.heap.size with h1 | h1
    · exact h1
    · rw [Array.getElem?_eq_none h1] at h; cases h
  rw [hb.block b hlt hn]; exact h
/-- an empty store of the features f in memory, its blocks from B on. -/
structure MemM (B : Nat) (f : Ft) (q : Mm) (made : Int) (w : World) : Prop where
  hm : Blk w q.m 115 (mCells f q (sl q.si 14 14) 0 made)
  hr : Blk w q.r 110 (nodeC ⟨#[]⟩ true (.pointer none) (.map (some q.km)) ⟨#[]⟩ 0 (.slice none 0 0) ⟨#[]⟩)
  hk : w.heap[q.km]? = some (.map #[] 0)
  hca : ∃ X, Blk w q.ca 3 X ∧ IntRow 14 X
  hsi : ∃ X, Blk w q.si 3 X ∧ IntRow 14 X
  ne : q.ca ≠ q.si
  lom : B ≤ q.m
  lor : B ≤ q.r
  lok : B ≤ q.km
  loc : B ≤ q.ca
  los : B ≤ q.si
  gl1 : 2 < B
  gl2 : 10 < B
abbrev MemE (B : Nat) (f : Ft) (q : Mm) (w : World) : Prop := MemM B f q 0 w
theorem MemM.kp {B : Nat} {f : Ft} {q : Mm} {made : Int} {S : List Nat} {w w' : World} (h : MemM B f q made w) (k : Kp S w w') (h1 : q.m ∉ S) (h2 : q.r ∉ S) (h3 : q.km ∉ S) (h4 : q.ca ∉ S) (h5 : q.si ∉ S) : MemM B f q made w' := by
  obtain ⟨X, hX, iX⟩ := h.hca
  obtain ⟨Y, hY, iY⟩ := h.hsi
  exact ⟨k.blk h.hm h1, k.blk h.hr h2, blockOf_kp h.hk k h3, ⟨X, k.blk hX h4, iX⟩, ⟨Y, k.blk hY h5, iY⟩, h.ne, h.lom, h.lor, h.lok, h.loc, h.los, h.gl1, h.gl2⟩
theorem MemM.below {B : Nat} {f : Ft} {q : Mm} {made : Int} {w w' : World} (h : MemM B f q made w) (k : Below w.heap.size w w') : MemM B f q made w' :=
  h.kp (S := []) (Kp.of_below k) (by simp) (by simp) (by simp) (by simp) (by simp)
end Go.Proofs.YtobiacdeoeogaaaGreatDoor
