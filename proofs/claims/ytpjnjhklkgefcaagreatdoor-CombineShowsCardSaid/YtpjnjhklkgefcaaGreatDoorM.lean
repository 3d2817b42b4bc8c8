import Derived.Test.YtpjnjhklkgefcaaGreatDoorA
import Derived.WideMake
set_option linter.unusedVariables false
set_option linter.unusedSimpArgs false
namespace Go.Proofs.YtpjnjhklkgefcaaGreatDoor
open Go.RowKit
/-- all blocks but those of S are as they were; the streams are as they were. -/
structure Kp (S : List Nat) (w w' : World) : Prop where
  os : w'.os = w.os
  tape : w'.tape = w.tape
  output : w'.output = w.output
  size : w.heap.size ≤ w'.heap.size
  block : ∀ k, k < w.heap.size → k ∉ S → w'.heap[k]? = w.heap[k]?
theorem Kp.refl (S : List Nat) (w : World) : Kp S w w := ⟨rfl, rfl, rfl, Nat.le_refl _, fun _ _ _ => rfl⟩
theorem Kp.trans {S : List Nat} {a b c : World} (h : Kp S a b) (k : Kp S b c) : Kp S a c :=
  ⟨k.os.trans h.os, k.tape.trans h.tape, k.output.trans h.output, Nat.le_trans h.size k.size, fun i hi hn => (k.block i (Nat.lt_of_lt_of_le hi h.size) hn).trans (h.block i hi hn)⟩
theorem Kp.trans_new {S : List Nat} {a b c : World} {n : Nat} (h : Kp S a b) (k : Kp (n :: S) b c) (hn : a.heap.size ≤ n) : Kp S a c :=
  ⟨k.os.trans h.os, k.tape.trans h.tape, k.output.trans h.output, Nat.le_trans h.size k.size, fun i hi hS => (k.block i (Nat.lt_of_lt_of_le hi h.size) (by simp only [List.mem_cons, not_or]; exact ⟨by omega, hS⟩)).trans (h.block i hi hS)⟩
theorem Kp.mono {S T : List Nat} {a b : World} (h : Kp S a b) (hs : ∀ x ∈ S, x ∈ T) : Kp T a b :=
  ⟨h.os, h.tape, h.output, h.size, fun i hi hn => h.block i hi (fun hx => hn (hs i hx))⟩
theorem Kp.of_below {S : List Nat} {a b : World} (h : Below a.heap.size a b) : Kp S a b := ⟨h.os, h.tape, h.output, h.size, fun i hi _ => h.block i hi⟩
theorem Kp.below {S : List Nat} {B : Nat} {a b : World} (h : Kp S a b) (hB : B ≤ a.heap.size) (hs : ∀ x ∈ S, B ≤ x) : Below B a b :=
  ⟨h.os, h.tape, h.output, h.size, fun i hi => h.block i (Nat.lt_of_lt_of_le hi hB) (fun hx => by have := hs i hx; omega)⟩
theorem Kp.alloc {S : List Nat} {a b : World} (h : Kp S a b) (o : Obj) : Kp S a (b.alloc o) :=
  h.trans (Kp.of_below ((Below.refl b.heap.size b).alloc (Nat.le_refl _) o))
theorem Kp.drew {S : List Nat} {a b : World} (h : Kp S a b) : Kp S a b.drew := ⟨h.os, h.tape, h.output, h.size, h.block⟩
theorem Kp.drewN {S : List Nat} {a b : World} (h : Kp S a b) (n : Nat) : Kp S a (b.drewN n) :=
  h.trans ⟨rfl, rfl, rfl, Nat.le_refl _, fun _ _ _ => rfl⟩
theorem Kp.setCell {S : List Nat} {a b : World} (h : Kp S a b) (p : Addr) (u : Value) (hp : p.block ∈ S ∨ a.heap.size ≤ p.block) : Kp S a (b.setCell p u) :=
  ⟨h.os, h.tape, h.output, Nat.le_trans h.size (by simp [World.setCell]), fun i hi hn => by
    rw [Below.heap_setCell b p u i (by intro e; subst e; rcases hp with hp | hp; exact hn hp; omega)]; exact h.block i hi hn⟩
theorem Kp.blk {S : List Nat} {a b : World} {g : Nat} {t : TypeId} {cs : Array Value} (h : Kp S a b) (hg : Blk a g t cs) (hn : g ∉ S) : Blk b g t cs := (h.block g hg.lt hn).trans hg
theorem Blk.old {w : World} {g : Nat} {t : TypeId} {cs : Array Value} (h : Blk w g t cs) (o : Obj) : Blk (w.alloc o) g t cs := (Below.heap_alloc w o g h.lt).trans h
theorem Blk.newAt {w : World} {g : Nat} {t : TypeId} {cs : Array Value} (hg : g = w.heap.size) : Blk (w.alloc (.cells cs t)) g t cs := by subst hg; exact Blk.new w t cs
theorem Blk.drw {w : World} {g : Nat} {t : TypeId} {cs : Array Value} (h : Blk w g t cs) : Blk w.drew g t cs := h
theorem objOld {w : World} {g : Nat} {p : Obj} (h : w.heap[g]? = some p) (o : Obj) : (w.alloc o).heap[g]? = some p := by
  have hlt : g < w.heap.size := by
    rcases Nat.lt_or_ge g w.heap.size with h1 | h1
    · exact h1
    · rw [Array.getElem?_eq_none h1] at h; cases h
  exact (Below.heap_alloc w o g hlt).trans h
theorem objAt {w : World} {g : Nat} {p : Obj} (hg : g = w.heap.size) : (w.alloc p).heap[g]? = some p := by
  subst hg; show (w.heap.push p)[w.heap.size]? = _; simp
theorem objDrw {w : World} {g : Nat} {p : Obj} (h : w.heap[g]? = some p) : w.drew.heap[g]? = some p := h
theorem cell_old2 {w : World} {p : Addr} {o : Obj} (h : p.block < w.heap.size) : (w.alloc o).cell? p = w.cell? p := World.cell?_of_block (w := w) (Below.heap_alloc _ _ _ h)
theorem drw_cell {w : World} {p : Addr} : w.drew.cell? p = w.cell? p := rfl
theorem World.size_drew' (w : World) : w.drew.heap.size = w.heap.size := rfl
theorem World.heap_alloc_size (w : World) (o : Obj) : (w.alloc o).heap.size = w.heap.size + 1 := by show (w.heap.push o).size = _; simp
end Go.Proofs.YtpjnjhklkgefcaaGreatDoor

set_option linter.unusedVariables false
set_option linter.unusedSimpArgs false
namespace Go.Proofs.YtpjnjhklkgefcaaGreatDoor
open Go.RowKit
/-- the features of a store. -/
structure Ft where
  has : Int
  sums : Int
  prec : Int
  mname : Int
  mpath : Int
  msize : Int
  page : Int
  psize : Int
  forbid : ByteArray
abbrev Ft.cells (f : Ft) : Array Value := #[.int .i64 f.has, .int .i64 f.sums, .int .i64 f.prec, .int .i64 f.mname, .int .i64 f.mpath, .int .i64 f.msize, .int .i64 f.page, .int .i64 f.psize, .string f.forbid]
abbrev wideT : Ft := ⟨3071, 16, 1, 255, 1024, 100000, 3, 1, ⟨#[]⟩⟩
/-- the blocks of a store in memory. -/
structure Mm where
  m : Nat
  c : Nat
  r : Nat
  km : Nat
  ca : Nat
  si : Nat
  vm : Nat
  nm : Nat
abbrev pt (b : Nat) : Value := .pointer (some ⟨b, 0, none⟩)
abbrev sl (b n c : Nat) : Value := .slice (some ⟨b, 0, none⟩) n c
/-- the cells of a store in memory. -/
abbrev mCells (f : Ft) (q : Mm) (since : Value) (cnt made : Int) : Array Value := #[.int .i64 f.has, .int .i64 f.sums, .int .i64 f.prec, .int .i64 f.mname, .int .i64 f.mpath, .int .i64 f.msize, .int .i64 f.page, .int .i64 f.psize, .string f.forbid, pt q.c, pt q.r, .int .i64 cnt, .int .i64 made, sl q.ca 14 14, since, .slice none 0 0, .int .i64 0, .slice none 0 0, .map (some q.vm), .map (some q.nm)]
/-- the cells of a node. -/
abbrev nodeC (name : ByteArray) (dir : Bool) (up kids : Value) (data : ByteArray) (time : Int) (md : Value) (id : ByteArray) : Array Value := #[.string name, .bool dir, up, kids, .string data, .int .i64 time, md, .string id]
/-- n integers. -/
def IntRow (n : Nat) (X : Array Value) : Prop := ∀ i, i < n → ∃ v : Int, X[i]? = some (.int .i64 v)
theorem IntRow.set {n : Nat} {X : Array Value} (h : IntRow n X) (k : Nat) (v : Int) : IntRow n (X.setIfInBounds k (.int .i64 v)) := by
  intro i hi
  obtain ⟨u, hu⟩ := h i hi
  by_cases e : k = i
  · subst e
    have hlt : k < X.size := by
      rcases Nat.lt_or_ge k X.size with h1 | h1
      · exact h1
      · rw [Array.getElem?_eq_none h1] at hu; cases hu
    exact ⟨v, by simp [Array.getElem?_setIfInBounds, hlt]⟩
  · exact ⟨u, by simp [Array.getElem?_setIfInBounds, e, hu]⟩
theorem Blk.ne {w : World} {g g' : Nat} {t t' : TypeId} {cs cs' : Array Value} (h : Blk w g t cs) (h' : Blk w g' t' cs') (ht : t ≠ t') : g ≠ g' := by
  rintro rfl
  unfold Blk at h h'
  rw [h] at h'
  injection h' with h1
  injection h1 with _ h2
  exact ht h2
theorem map_ne {w : World} {g g' : Nat} {t : TypeId} {cs : Array Value} {es : Array MapEntry} {n : Nat} (h : Blk w g t cs) (h' : w.heap[g']? = some (.map es n)) : g ≠ g' := by
  rintro rfl
  unfold Blk at h
  rw [h] at h'
  cases h'
theorem blockOf_kp {S : List Nat} {w w' : World} {b : Nat} {o : Obj} (h : w.heap[b]? = some o) (hb : Kp S w w') (hn : b ∉ S) : w'.heap[b]? = some o := by
  have hlt : b < w.heap.size := by
    rcases Nat.lt_or_ge b w.heap.size with h1 | h1
    · exact h1
    · rw [Array.getElem?_eq_none h1] at h; cases h
  rw [hb.block b hlt hn]; exact h
/-- an empty store of the features f in memory, its blocks from B on. -/
structure MemM (B : Nat) (f : Ft) (q : Mm) (made : Int) (w : World) : Prop where
  hm : Blk w q.m 95 (mCells f q (sl q.si 14 14) 0 made)
  hr : Blk w q.r 90 (nodeC ⟨#[]⟩ true (.pointer none) (.map (some q.km)) ⟨#[]⟩ 0 (.slice none 0 0) ⟨#[]⟩)
  hk : w.heap[q.km]? = some (.map #[] 0)
  hca : ∃ X, Blk w q.ca 3 X ∧ IntRow 14 X
  hsi : ∃ X, Blk w q.si 3 X ∧ IntRow 14 X
  ne : q.ca ≠ q.si
  lom : B ≤ q.m
  lor : B ≤ q.r
  lok : B ≤ q.km
  loc : B ≤ q.ca
  los : B ≤ q.si
  gl1 : 5 < B
  gl2 : 11 < B
abbrev MemE (B : Nat) (f : Ft) (q : Mm) (w : World) : Prop := MemM B f q 0 w
theorem MemM.kp {B : Nat} {f : Ft} {q : Mm} {made : Int} {S : List Nat} {w w' : World} (h : MemM B f q made w) (k : Kp S w w') (h1 : q.m ∉ S) (h2 : q.r ∉ S) (h3 : q.km ∉ S) (h4 : q.ca ∉ S) (h5 : q.si ∉ S) : MemM B f q made w' := by
  obtain ⟨X, hX, iX⟩ := h.hca
  obtain ⟨Y, hY, iY⟩ := h.hsi
  exact ⟨k.blk h.hm h1, k.blk h.hr h2, blockOf_kp h.hk k h3, ⟨X, k.blk hX h4, iX⟩, ⟨Y, k.blk hY h5, iY⟩, h.ne, h.lom, h.lor, h.lok, h.loc, h.los, h.gl1, h.gl2⟩
theorem MemM.below {B : Nat} {f : Ft} {q : Mm} {made : Int} {w w' : World} (h : MemM B f q made w) (k : Below w.heap.size w w') : MemM B f q made w' :=
  h.kp (S := []) (Kp.of_below k) (by simp) (by simp) (by simp) (by simp) (by simp)
end Go.Proofs.YtpjnjhklkgefcaaGreatDoor

set_option linter.unusedVariables false
set_option linter.unusedSimpArgs false
namespace Go.Proofs.YtpjnjhklkgefcaaGreatDoor
open Go.RowKit
/-- n words of 32 bits. -/
def URow (n : Nat) (X : Array Value) : Prop := X.size = n ∧ ∀ i, i < n → ∃ v : Int, X[i]? = some (.int .u32 v)
theorem URow.set {n : Nat} {X : Array Value} (h : URow n X) (k : Nat) (v : Int) : URow n (X.setIfInBounds k (.int .u32 v)) := by
  refine ⟨by simp [h.1], ?_⟩
  intro i hi
  obtain ⟨u, hu⟩ := h.2 i hi
  by_cases e : k = i
  · subst e
    exact ⟨v, by simp [Array.getElem?_setIfInBounds, h.1, hi]⟩
  · exact ⟨u, by simp [Array.getElem?_setIfInBounds, e, hu]⟩
theorem URow.all {n : Nat} {X : Array Value} (h : URow n X) : X.all (·.oneCell') = true := by
  rw [Array.all_eq_true]
  intro i hi
  obtain ⟨u, hu⟩ := h.2 i (by have := h.1; omega)
  rw [Array.getElem?_eq_getElem hi] at hu
  rw [Option.some.inj hu]
  rfl
theorem urow8 (a0 a1 a2 a3 a4 a5 a6 a7 : Int) : URow 8 #[.int .u32 a0, .int .u32 a1, .int .u32 a2, .int .u32 a3, .int .u32 a4, .int .u32 a5, .int .u32 a6, .int .u32 a7] := ⟨rfl, fun i hi => by
  match i, hi with
  | 0, _ => exact ⟨_, rfl⟩
  | 1, _ => exact ⟨_, rfl⟩
  | 2, _ => exact ⟨_, rfl⟩
  | 3, _ => exact ⟨_, rfl⟩
  | 4, _ => exact ⟨_, rfl⟩
  | 5, _ => exact ⟨_, rfl⟩
  | 6, _ => exact ⟨_, rfl⟩
  | 7, _ => exact ⟨_, rfl⟩⟩
theorem URow.zero (n : Nat) : URow n (Array.replicate n (.int .u32 0)) := ⟨by simp, fun i hi => ⟨0, by simp [hi]⟩⟩
set_option maxRecDepth 100000 in
set_option maxHeartbeats 1000000 in
theorem turn7 : ∃ f : Int → Int, ∀ (x : Int) (w : World), Calls Tryz.prog 378 #[.int .u32 x, .int .i64 7] w fun e w' => e = .returned (.int .u32 (f x)) ∧ w' = w := by
  apply Exists.intro
  intro x w
  have e1 : IntKind.u64.wrap (-7) = 18446744073709551609 := by decide
  have e2 : bits .and .u64 18446744073709551609 31 = 25 := by decide
  go_enter Tryz.func378, Tryz.ntmps378
  go_wp2_with go_in
  go_ret
  exact ⟨rfl, rfl⟩
set_option maxRecDepth 100000 in
set_option maxHeartbeats 1000000 in
theorem turn18 : ∃ f : Int → Int, ∀ (x : Int) (w : World), Calls Tryz.prog 378 #[.int .u32 x, .int .i64 18] w fun e w' => e = .returned (.int .u32 (f x)) ∧ w' = w := by
  apply Exists.intro
  intro x w
  have e1 : IntKind.u64.wrap (-18) = 18446744073709551598 := by decide
  have e2 : bits .and .u64 18446744073709551598 31 = 14 := by decide
  go_enter Tryz.func378, Tryz.ntmps378
  go_wp2_with go_in
  go_ret
  exact ⟨rfl, rfl⟩
set_option maxRecDepth 100000 in
set_option maxHeartbeats 1000000 in
theorem turn17 : ∃ f : Int → Int, ∀ (x : Int) (w : World), Calls Tryz.prog 378 #[.int .u32 x, .int .i64 17] w fun e w' => e = .returned (.int .u32 (f x)) ∧ w' = w := by
  apply Exists.intro
  intro x w
  have e1 : IntKind.u64.wrap (-17) = 18446744073709551599 := by decide
  have e2 : bits .and .u64 18446744073709551599 31 = 15 := by decide
  go_enter Tryz.func378, Tryz.ntmps378
  go_wp2_with go_in
  go_ret
  exact ⟨rfl, rfl⟩
set_option maxRecDepth 100000 in
set_option maxHeartbeats 1000000 in
theorem turn19 : ∃ f : Int → Int, ∀ (x : Int) (w : World), Calls Tryz.prog 378 #[.int .u32 x, .int .i64 19] w fun e w' => e = .returned (.int .u32 (f x)) ∧ w' = w := by
  apply Exists.intro
  intro x w
  have e1 : IntKind.u64.wrap (-19) = 18446744073709551597 := by decide
  have e2 : bits .and .u64 18446744073709551597 31 = 13 := by decide
  go_enter Tryz.func378, Tryz.ntmps378
  go_wp2_with go_in
  go_ret
  exact ⟨rfl, rfl⟩
set_option maxRecDepth 100000 in
set_option maxHeartbeats 1000000 in
theorem turn6 : ∃ f : Int → Int, ∀ (x : Int) (w : World), Calls Tryz.prog 378 #[.int .u32 x, .int .i64 6] w fun e w' => e = .returned (.int .u32 (f x)) ∧ w' = w := by
  apply Exists.intro
  intro x w
  have e1 : IntKind.u64.wrap (-6) = 18446744073709551610 := by decide
  have e2 : bits .and .u64 18446744073709551610 31 = 26 := by decide
  go_enter Tryz.func378, Tryz.ntmps378
  go_wp2_with go_in
  go_ret
  exact ⟨rfl, rfl⟩
set_option maxRecDepth 100000 in
set_option maxHeartbeats 1000000 in
theorem turn11 : ∃ f : Int → Int, ∀ (x : Int) (w : World), Calls Tryz.prog 378 #[.int .u32 x, .int .i64 11] w fun e w' => e = .returned (.int .u32 (f x)) ∧ w' = w := by
  apply Exists.intro
  intro x w
  have e1 : IntKind.u64.wrap (-11) = 18446744073709551605 := by decide
  have e2 : bits .and .u64 18446744073709551605 31 = 21 := by decide
  go_enter Tryz.func378, Tryz.ntmps378
  go_wp2_with go_in
  go_ret
  exact ⟨rfl, rfl⟩
set_option maxRecDepth 100000 in
set_option maxHeartbeats 1000000 in
theorem turn25 : ∃ f : Int → Int, ∀ (x : Int) (w : World), Calls Tryz.prog 378 #[.int .u32 x, .int .i64 25] w fun e w' => e = .returned (.int .u32 (f x)) ∧ w' = w := by
  apply Exists.intro
  intro x w
  have e1 : IntKind.u64.wrap (-25) = 18446744073709551591 := by decide
  have e2 : bits .and .u64 18446744073709551591 31 = 7 := by decide
  go_enter Tryz.func378, Tryz.ntmps378
  go_wp2_with go_in
  go_ret
  exact ⟨rfl, rfl⟩
set_option maxRecDepth 100000 in
set_option maxHeartbeats 1000000 in
theorem turn2 : ∃ f : Int → Int, ∀ (x : Int) (w : World), Calls Tryz.prog 378 #[.int .u32 x, .int .i64 2] w fun e w' => e = .returned (.int .u32 (f x)) ∧ w' = w := by
  apply Exists.intro
  intro x w
  have e1 : IntKind.u64.wrap (-2) = 18446744073709551614 := by decide
  have e2 : bits .and .u64 18446744073709551614 31 = 30 := by decide
  go_enter Tryz.func378, Tryz.ntmps378
  go_wp2_with go_in
  go_ret
  exact ⟨rfl, rfl⟩
set_option maxRecDepth 100000 in
set_option maxHeartbeats 1000000 in
theorem turn13 : ∃ f : Int → Int, ∀ (x : Int) (w : World), Calls Tryz.prog 378 #[.int .u32 x, .int .i64 13] w fun e w' => e = .returned (.int .u32 (f x)) ∧ w' = w := by
  apply Exists.intro
  intro x w
  have e1 : IntKind.u64.wrap (-13) = 18446744073709551603 := by decide
  have e2 : bits .and .u64 18446744073709551603 31 = 19 := by decide
  go_enter Tryz.func378, Tryz.ntmps378
  go_wp2_with go_in
  go_ret
  exact ⟨rfl, rfl⟩
set_option maxRecDepth 100000 in
set_option maxHeartbeats 1000000 in
theorem turn22 : ∃ f : Int → Int, ∀ (x : Int) (w : World), Calls Tryz.prog 378 #[.int .u32 x, .int .i64 22] w fun e w' => e = .returned (.int .u32 (f x)) ∧ w' = w := by
  apply Exists.intro
  intro x w
  have e1 : IntKind.u64.wrap (-22) = 18446744073709551594 := by decide
  have e2 : bits .and .u64 18446744073709551594 31 = 10 := by decide
  go_enter Tryz.func378, Tryz.ntmps378
  go_wp2_with go_in
  go_ret
  exact ⟨rfl, rfl⟩
def turnList : List Int := [7, 18, 17, 19, 6, 11, 25, 2, 13, 22]
theorem turn_each (n : Int) (h : n ∈ turnList) : ∃ f : Int → Int, ∀ (x : Int) (w : World), Calls Tryz.prog 378 #[.int .u32 x, .int .i64 n] w fun e w' => e = .returned (.int .u32 (f x)) ∧ w' = w := by
  simp only [turnList, List.mem_cons, List.not_mem_nil, or_false] at h
  rcases h with rfl | rfl | rfl | rfl | rfl | rfl | rfl | rfl | rfl | rfl
  · exact turn7
  · exact turn18
  · exact turn17
  · exact turn19
  · exact turn6
  · exact turn11
  · exact turn25
  · exact turn2
  · exact turn13
  · exact turn22
theorem turn_any : ∃ f : Int → Int → Int, ∀ (n : Int), n ∈ turnList → ∀ (x : Int) (w : World), Calls Tryz.prog 378 #[.int .u32 x, .int .i64 n] w fun e w' => e = .returned (.int .u32 (f n x)) ∧ w' = w :=
  ⟨fun n x => if h : n ∈ turnList then Classical.choose (turn_each n h) x else 0, fun n h x w => by
    have := Classical.choose_spec (turn_each n h) x w
    simp only [h, dite_true]
    exact this⟩
end Go.Proofs.YtpjnjhklkgefcaaGreatDoor
