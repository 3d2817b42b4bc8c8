/-
  What the bound on the argument's bulk gives: few entries, each text short. And: the names of the kinds lie as texts.
-/
import Derived.Test.YtfcnmdmbkoekcaaGreatDoorYk
import Derived.Test.YtfcnmdmbkoekcaaGreatDoorKc
import Derived.Test.YtfcnmdmbkoekcaaGreatDoorRows
import Derived.Shelf.Vars
namespace Go.Proofs.YtfcnmdmbkoekcaaGreatDoor
open Go.RowKit Go.Proofs.Kl
set_option linter.unusedVariables false
section
variable {H : Type}
theorem bulk_pos (d : DataW H) : 1 ≤ Rows.uptoBulk d := by
  cases d with
  | lit l => cases l <;> simp [Rows.uptoBulk]
  | nil => simp [Rows.uptoBulk]
  | ptr d => simp [Rows.uptoBulk]
  | slice a b => simp [Rows.uptoBulk]
  | agg a => simp [Rows.uptoBulk]
  | iface a b => simp [Rows.uptoBulk]
  | map a => simp [Rows.uptoBulk]
  | held a => simp [Rows.uptoBulk]
theorem bulk_mem {x : DataW H} : ∀ {L : List (DataW H)}, x ∈ L → Rows.uptoBulk x ≤ Rows.uptoBulkAll L
  | [], h => by cases h
  | y :: L, h => by
    simp only [Rows.uptoBulkAll]
    rcases List.mem_cons.1 h with rfl | h
    · omega
    · have := bulk_mem h
      omega
theorem bulk_len : ∀ L : List (DataW H), L.length ≤ Rows.uptoBulkAll L
  | [] => by simp [Rows.uptoBulkAll]
  | y :: L => by
    simp only [Rows.uptoBulkAll, List.length_cons]
    have := bulk_len L
    have := bulk_pos y
    omega
theorem bulk_text (s : ByteArray) : Rows.uptoBulk (.lit (.string s.data.toList) : DataW H) = s.size + 1 := by
  rw [Lib.size_eq]
  rfl
/-- the bound, of the entries. -/
theorem short {d : DataW H} {gs : List (DataW H)} {ls : List Ent} (hk : Rows.uptoSmall H ([d] ++ gs) = true)
    (h : ls = [] ∨ ∃ (D : Nat → DataW H) (sp : List (DataW H)), d = .slice ((List.range ls.length).map D) sp ∧ ∀ i x, ls[i]? = some x → (Lit.int .i64 x.size).wf = true ∧ (Lit.int .i64 x.time).wf = true ∧ ∃ z, D i = .agg [.lit (.string x.path.data.toList), .lit (.int .i64 x.size), .lit (.int .i64 x.time), z] ∧ SumDat z x.sums) :
    (∀ x ∈ ls, x.path.size ≤ 1048576) ∧ (∀ x ∈ ls, ∀ z ∈ x.sums, z.2.size ≤ 1048576) ∧ ls.length ≤ 1048576 := by
  have h1 : Rows.uptoBulkAll ([d] ++ gs) ≤ 1048576 := of_decide_eq_true hk
  simp only [List.cons_append, List.nil_append, Rows.uptoBulkAll] at h1
  rcases h with rfl | ⟨D, sp, rfl, hD⟩
  · exact ⟨fun _ h => (by cases h), fun _ h => (by cases h), (by simp)⟩
  · simp only [Rows.uptoBulk] at h1
    have hl := bulk_len ((List.range ls.length).map D)
    rw [List.length_map, List.length_range] at hl
    have key : ∀ x ∈ ls, x.path.size ≤ 1048576 ∧ ∀ z ∈ x.sums, z.2.size ≤ 1048576 := by
      intro x hx
      obtain ⟨i, hi⟩ := List.getElem?_of_mem hx
      obtain ⟨_, _, z, hz, hs⟩ := hD i x hi
      have him : i < ls.length := (List.getElem?_eq_some_iff.1 hi).1
      have hm : D i ∈ (List.range ls.length).map D := List.mem_map.2 ⟨i, List.mem_range.2 him, rfl⟩
      have h2 := bulk_mem hm
      rw [hz] at h2
      simp only [Rows.uptoBulk, Rows.uptoBulkAll] at h2
      refine ⟨by rw [Lib.size_eq]; omega, fun y hy => ?_⟩
      rcases hs with he | ⟨sp', rfl⟩
      · rw [he] at hy; cases hy
      · have hm2 : (DataW.agg [.lit (.int .i64 y.1), .lit (.string y.2.data.toList)] : DataW H) ∈ x.sums.map fun x => (DataW.agg [.lit (.int .i64 x.1), .lit (.string x.2.data.toList)] : DataW H) := List.mem_map.2 ⟨y, hy, rfl⟩
        have h3 := bulk_mem hm2
        simp only [Rows.uptoBulk, Rows.uptoBulkAll] at h2 h3
        rw [Lib.size_eq]
        omega
    exact ⟨fun x hx => (key x hx).1, fun x hx => (key x hx).2, by omega⟩
end
/-- the cells of an array of texts, by its shape. -/
theorem str_cells {P : Program} {w : World} {g n : Nat} {t e : TypeId} {zero : Array Value}
    (h : w.ShapedOpen P) (hg : g < P.globals.size)
    (h0 : ((begin P (fun _ _ => 0) default).world.heap[g]?).bind Obj.row? = some (zero, t)) (hz : zero.size = n)
    (hb : P.buildable t = true) (hc : P.cellTypes P.depth t = some (List.replicate n e)) (hu : P.underlying e = some .string) :
    ∀ i, i < n → ∃ s, w.cell? ⟨g, i, none⟩ = some (.string s) := by
  obtain ⟨cs, hh, hs, hr⟩ := h.1 g zero t hg h0
  obtain ⟨ts, hts, _, hall⟩ := hr hb
  rw [hc] at hts
  cases hts
  intro i hi
  have h1 : i < cs.size := by omega
  obtain ⟨u, hu', hok⟩ := hall i cs[i] (by simp [h1])
  have hue : u = e := by
    have := List.mem_of_getElem? hu'
    exact List.eq_of_mem_replicate this
  subst hue
  have hcell : w.cell? ⟨g, i, none⟩ = some cs[i] := by simp [World.cell?, hh, h1]
  rw [hcell]
  unfold Cell.ok at hok
  rw [hu] at hok
  cases hv : cs[i] <;> rw [hv] at hok <;> simp at hok
  case string s => exact ⟨s, rfl⟩
theorem kn_shaped {w : World} (h : w.ShapedOpen Tryz.prog) : KN w := by
  have h6 := str_cells h (g := 0) (n := 6) (t := 123) (e := 9) (zero := Array.replicate 6 (.string ⟨#[]⟩)) (of_decide_eq_true (by kernel_rfl)) (by kernel_rfl) (by kernel_rfl) (by kernel_rfl) (by kernel_rfl) Tryz.underlying9
  exact ⟨h6 1 (by decide), h6 2 (by decide)⟩
end Go.Proofs.YtfcnmdmbkoekcaaGreatDoor
