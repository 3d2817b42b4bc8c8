import Derived.Test.YtpjnjhklkgefcaaGreatDoorAm
import Derived.Test.YtpjnjhklkgefcaaGreatDoorC
import Derived.Shelf.Vars
import Derived.Lib.LaidTab
import Derived.Stop.LaidErr
set_option linter.unusedVariables false
set_option linter.unusedSimpArgs false
namespace Go.Proofs.YtpjnjhklkgefcaaGreatDoor
open Go.RowKit
theorem sq_apart {B : Nat} {q : Mm} {sb rb tb eb gg : Nat} {w w' : World} (hq : MemE B wideT q w) (hb : Below w.heap.size w w') (h : SqM q.m sb rb tb eb gg w') (htb : w.heap.size ≤ tb) :
    sb ∉ [q.km, q.m, q.ca, q.si] ∧ rb ∉ [q.km, q.m, q.ca, q.si] ∧ tb ∉ [q.km, q.m, q.ca, q.si] ∧ eb ∉ [q.km, q.m, q.ca, q.si] := by
  have hq2 := hq.below hb
  obtain ⟨X, hX, _⟩ := hq2.hca
  obtain ⟨Y, hY, _⟩ := hq2.hsi
  have l1 := hq.hm.lt
  have l2 := lt_of_blk hq.hk
  obtain ⟨X', hX', _⟩ := hq.hca
  obtain ⟨Y', hY', _⟩ := hq.hsi
  have l3 := hX'.lt
  have l4 := hY'.lt
  have key : ∀ (b : Nat) (t : TypeId) (cs : Array Value), Blk w' b t cs → t ≠ 95 → t ≠ 3 → b ∉ [q.km, q.m, q.ca, q.si] := by
    intro b t cs hB h1 h2 hm
    simp only [List.mem_cons, List.not_mem_nil, or_false] at hm
    rcases hm with hm | hm | hm | hm
    · exact map_ne hB hq2.hk hm
    · exact hB.ne hq2.hm h1 hm
    · exact hB.ne hX h2 hm
    · exact hB.ne hY h2 hm
  refine ⟨key _ _ _ h.hs (by decide) (by decide), key _ _ _ h.hr (by decide) (by decide), ?_, key _ _ _ h.he (by decide) (by decide)⟩
  intro hm
  simp only [List.mem_cons, List.not_mem_nil, or_false] at hm
  rcases hm with hm | hm | hm | hm <;> omega
set_option maxRecDepth 100000 in
set_option maxHeartbeats 8000000 in
theorem wraps_ok (w : World) (g : Gl w) : Calls Tryz.prog 5 #[] w fun e w' => e = .returned (.bool true) ∧ Below w.heap.size w w' := by
  have GG := Lib.hid (fun wx (hb : Below w.heap.size w wx) => g.below hb)
  clear g
  go_enter Tryz.func5, Tryz.ntmps5
  go_wp2_with fail
  refine (wide_ok w).mono ?_
  rintro e w1 ⟨rfl, hb1⟩
  go_wp2_with fail
  refine (newClock_ok w1).mono ?_
  rintro e w2 ⟨rfl, hb2⟩
  have hb := hb1.trans (hb2.mono hb1.size)
  have HB2 := Lib.hid hb
  have g2 := GG.out _ hb
  obtain ⟨mx, hmx⟩ := g2.max
  obtain ⟨tv, _, htv⟩ := g2.tab 0 (by decide)
  have HN := Lib.hid (new_ok wideT w1.heap.size w2 (World.block_lt_of_cell? _ _ hmx) (World.block_lt_of_cell? _ _ htv) checkFeatures_ok)
  clear hb hb1 hb2 g2 hmx htv
  go_wp2_with fail
  refine HN.out.mono ?_
  rintro e w3 ⟨q, rfl, hqc, hq, hb3⟩
  have HQ := Lib.hid hq
  have HB3 := Lib.hid (HB2.out.trans (hb3.mono HB2.out.size))
  have hlo2 := HB2.out.size
  clear hq hqc hb3 HN HB2
  go_wp2_with fail
  refine (squeeze_ok q.m w3 HQ.out.feat).mono ?_
  rintro e w4 ⟨sb, rb, tb, eb, gg, rfl, h4, hS, htb, hb4⟩
  have HA := Lib.hid (sq_apart HQ.out hb4 hS htb)
  have HQ4 := Lib.hid (HQ.out.below hb4)
  have HB4 := Lib.hid (HB3.out.trans (hb4.mono HB3.out.size))
  have HS4 := Lib.hid hS
  have hlo3 := HB3.out.size
  clear hS htb hb4 HB3 HQ
  go_wp2_with fail
  refine (squeezePut_ok w4 (GG.out _ HB4.out) HQ4.out HS4.out h4 HA.out.1 HA.out.2.1 HA.out.2.2.1 HA.out.2.2.2).mono ?_
  rintro e w5 ⟨id, rfl, hk⟩
  have hb5 := HB4.out.trans (hk.below HB4.out.size (by
    have h1 := HQ4.out.lok
    have h2 := HQ4.out.lom
    have h3 := HQ4.out.loc
    have h5 := HQ4.out.los
    intro x hx
    simp only [List.mem_cons, List.not_mem_nil, or_false] at hx
    rcases hx with hx | hx | hx | hx <;> omega))
  have HB5 := Lib.hid hb5
  clear hb5 hk HQ4 HS4 HB4 HA GG
  go_wp2_with fail
  go_ret
  exact ⟨rfl, HB5.out.alloc HB5.out.size _⟩
end Go.Proofs.YtpjnjhklkgefcaaGreatDoor

set_option linter.unusedVariables false
set_option linter.unusedSimpArgs false
namespace Go.Proofs.YtpjnjhklkgefcaaGreatDoor
open Go.RowKit
theorem u32_cells {P : Program} {w : World} {g n : Nat} {t e : TypeId} {zero : Array Value}
    (h : w.ShapedOpen P) (hg : g < P.globals.size)
    (h0 : ((begin P (fun _ _ => 0) default).world.heap[g]?).bind Obj.row? = some (zero, t)) (hz : zero.size = n)
    (hb : P.buildable t = true) (hc : P.cellTypes P.depth t = some (List.replicate n e)) (hu : P.underlying e = some (.int .u32)) :
    ∀ i, i < n → ∃ v : Nat, v < 4294967296 ∧ w.cell? ⟨g, i, none⟩ = some (.int .u32 v) := by
  obtain ⟨cs, hh, hs, hr⟩ := h.1 g zero t hg h0
  obtain ⟨ts, hts, _, hall⟩ := hr hb
  rw [hc] at hts
  cases hts
  intro i hi
  have h1 : i < cs.size := by omega
  obtain ⟨u, hu', hok⟩ := hall i cs[i] (by simp [h1])
  have hue : u = e := by
    have := List.mem_of_getElem? hu'
    exact List.eq_of_mem_replicate this
  subst hue
  have hcell : w.cell? ⟨g, i, none⟩ = some cs[i] := by simp [World.cell?, hh, h1]
  rw [hcell]
  unfold Cell.ok at hok
  rw [hu] at hok
  cases hv : cs[i] <;> rw [hv] at hok <;> simp at hok
  case int k' m =>
    obtain ⟨hk, hm⟩ := hok
    have hm' : 0 ≤ m ∧ m ≤ 4294967295 := by simpa [IntKind.has, IntKind.min, IntKind.max, IntKind.signed, IntKind.bits] using hm
    exact ⟨m.toNat, by omega, by rw [hk, show ((m.toNat : Nat) : Int) = m by omega]⟩
theorem gl_shaped {w : World} (h : w.ShapedOpen Tryz.prog) : Gl w :=
  ⟨cell_of_shapedOpen_int h (g := 5) (t := 3) (zero := #[.int .i64 0]) (of_decide_eq_true (by kernel_rfl)) (by kernel_rfl) rfl (by kernel_rfl) (by kernel_rfl) Tryz.underlying3,
    u32_cells h (g := 11) (n := 64) (t := 405) (e := 198) (zero := Array.replicate 64 (.int .u32 0)) (of_decide_eq_true (by kernel_rfl)) (by kernel_rfl) (by kernel_rfl) (by kernel_rfl) (by kernel_rfl) Tryz.underlying198⟩
end Go.Proofs.YtpjnjhklkgefcaaGreatDoor
