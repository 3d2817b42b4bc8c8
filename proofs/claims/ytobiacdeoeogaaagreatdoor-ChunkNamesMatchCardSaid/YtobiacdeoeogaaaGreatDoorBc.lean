import Derived.Test.YtobiacdeoeogaaaGreatDoorBb
import Derived.Shelf.Vars
import Derived.Lib.LaidTab
import Derived.Stop.LaidErr
set_option linter.unusedVariables false
set_option linter.unusedSimpArgs false
namespace Go.Proofs.YtobiacdeoeogaaaGreatDoor
open Go.RowKit
theorem u32_cells {P : Program} {w : World} {g n : Nat} {t e : TypeId} {zero : Array Value}
    (h : w.ShapedOpen P) (hg : g < P.globals.size)
    (h0 : ((begin P (fun _ _ => 0) default).world.heap[g]?).bind Obj.row? = some (zero, t)) (hz : zero.size = n)
    (hb : P.buildable t = true) (hc : P.cellTypes P.depth t = some (List.replicate n e)) (hu : P.underlying e = some (.int .u32)) :
    ∀ i, i < n → ∃ v : Nat, v < 4294967296 ∧ w.cell? ⟨g, i, none⟩ = some (.int .u32 v) := by
  obtain ⟨cs, hh, hs, hr⟩ := h.1 g zero t hg h0
  obtain ⟨ts, hts, _, hall⟩ := hr hb
  rw [hc] at hts
  cases hts
  intro i hi
  have h1 : i < cs.size := by omega
  obtain ⟨u, hu', hok⟩ := hall i cs[i] (by simp [h1])
  have hue : u = e := by
    have := List.mem_of_getElem? hu'
    exact List.eq_of_mem_replicate this
  subst hue
  have hcell : w.cell? ⟨g, i, none⟩ = some cs[i] := by simp [World.cell?, hh, h1]
  rw [hcell]
  unfold Cell.ok at hok
  rw [hu] at hok
  cases hv : cs[i] <;> rw [hv] at hok <;> simp at hok
  case int k' m =>
    obtain ⟨hk, hm⟩ := hok
    have hm' : 0 ≤ m ∧ m ≤ 4294967295 := by simpa [IntKind.has, IntKind.min, IntKind.max, IntKind.signed, IntKind.bits] using hm
    exact ⟨m.toNat, by omega, by rw [hk, show ((m.toNat : Nat) : Int) = m by omega]⟩
theorem gl_shaped {w : World} (h : w.ShapedOpen Tryz.prog) : Gl w :=
  ⟨cell_of_shapedOpen_int h (g := 2) (t := 3) (zero := #[.int .i64 0]) (of_decide_eq_true (by kernel_rfl)) (by kernel_rfl) rfl (by kernel_rfl) (by kernel_rfl) Tryz.underlying3,
    u32_cells h (g := 10) (n := 64) (t := 303) (e := 34) (zero := Array.replicate 64 (.int .u32 0)) (of_decide_eq_true (by kernel_rfl)) (by kernel_rfl) (by kernel_rfl) (by kernel_rfl) (by kernel_rfl) Tryz.underlying34⟩
end Go.Proofs.YtobiacdeoeogaaaGreatDoor
