import Derived.Test.YtdfloglicjocbaaO
import Derived.Test.YtdfloglicjocbaaVe
set_option linter.unusedVariables false
set_option linter.unusedSimpArgs false
namespace Go.Proofs.Ytdfloglicjocbaa
open Go.ChangeShapes Go.WideShapes Go.RowKit Go.Deep
section
variable {H : Type} {enc : TypeId × Value → H} {P : Program} {w : World} {base : Nat} {spare : Nat → Bool} {held : Bool}

/-- the cells of a struct of an integer, two strings and two integers. -/
theorem step_cells {t ti ts : TypeId} {fs : Array Field} {f0 f1 f2 f3 f4 : Field} {fuel : Nat} {cs : List Value} {x : DataW H × List MemPlace} (ht : P.underlying t = some (.struct fs)) (hone : oneCellFields P fs = true) (hC : P.cellsOf t = fs.size)
    (hfs : fs = #[f0, f1, f2, f3, f4]) (hi : P.underlying ti = some (.int .i64)) (hs : P.underlying ts = some .string)
    (e0 : f0.type = ti) (e1 : f1.type = ts) (e2 : f2.type = ts) (e3 : f3.type = ti) (e4 : f4.type = ti)
    (h : DataW.trod enc P w base spare held fuel t cs = some x) :
    ∃ (k : Int) (p q : ByteArray) (s u : Int), cs = [.int .i64 k, .string p, .string q, .int .i64 s, .int .i64 u] := by
  obtain ⟨ys, n, _, _, hlen, hyl, hf⟩ := DataW.trod_struct ht h
  have h5 : cs.length = 5 := by rw [hlen, hC, hfs]; rfl
  match cs, h5 with
  | [c0, c1, c2, c3, c4], _ =>
    have key : ∀ (i : Nat) (f : Field), fs[i]? = some f → ∃ y, DataW.trod enc P w base spare held n f.type (([c0, c1, c2, c3, c4].drop i).take 1) = some y := by
      intro i f hg
      obtain ⟨ho, hk⟩ := hone_of hone i f hg
      have h1 := hf i f hg
      rw [ho, hk] at h1
      have hi2 : i < ys.length := by
        rw [hyl]
        rcases Nat.lt_or_ge i fs.size with g | g
        · exact g
        · rw [Array.getElem?_eq_none g] at hg; cases hg
      rw [List.getElem?_eq_getElem hi2] at h1
      exact ⟨_, h1⟩
    obtain ⟨y0, k0⟩ := key 0 f0 (by rw [hfs]; rfl)
    obtain ⟨y1, k1⟩ := key 1 f1 (by rw [hfs]; rfl)
    obtain ⟨y2, k2⟩ := key 2 f2 (by rw [hfs]; rfl)
    obtain ⟨y3, k3⟩ := key 3 f3 (by rw [hfs]; rfl)
    obtain ⟨y4, k4⟩ := key 4 f4 (by rw [hfs]; rfl)
    obtain ⟨m0, z0, _, _⟩ := DataW.trod_int (by rw [e0]; exact hi) k0
    obtain ⟨m1, z1, _, _⟩ := DataW.trod_string (by rw [e1]; exact hs) k1
    obtain ⟨m2, z2, _, _⟩ := DataW.trod_string (by rw [e2]; exact hs) k2
    obtain ⟨m3, z3, _, _⟩ := DataW.trod_int (by rw [e3]; exact hi) k3
    obtain ⟨m4, z4, _, _⟩ := DataW.trod_int (by rw [e4]; exact hi) k4
    simp at z0 z1 z2 z3 z4
    subst z0 z1 z2 z3 z4
    exact ⟨m0, m1, m2, m3, m4, rfl⟩

/-- a slice of steps that came in. -/
theorem open_steps {r : Reach} {b0 : Nat} {t e ti ts : TypeId} {fs : Array Field} {f0 f1 f2 f3 f4 : Field} {v : Value} {d : DataW H} {p : List MemPlace} (ht : P.underlying t = some (.slice e)) (he : P.underlying e = some (.struct fs)) (hone : oneCellFields P fs = true) (hC : P.cellsOf e = fs.size)
    (hfs : fs = #[f0, f1, f2, f3, f4]) (hi : P.underlying ti = some (.int .i64)) (hs : P.underlying ts = some .string)
    (e0 : f0.type = ti) (e1 : f1.type = ts) (e2 : f2.type = ts) (e3 : f3.type = ti) (e4 : f4.type = ti)
    (hv : Value.okWide P w r b0 t v) (h : DataW.Trod enc P w base spare held t v d p) :
    ∃ (a : Option Addr) (n cap : Nat) (s : Steps), v = .slice a n cap ∧ n ≤ maxLen ∧ StRow w w.heap.size a n s := by
  obtain ⟨a0, len, cap, rfl⟩ := okWide_slice ht hv
  obtain ⟨fuel, hf⟩ := h
  rcases open_slice ht hf with ⟨hcs, _⟩ | ⟨a, len', cap', m, n, D, Pl, hcs, hb, hl, hm, hmm, hx, hj⟩
  · simp [Value.cells] at hcs
    obtain ⟨rfl, rfl, rfl⟩ := hcs
    exact ⟨none, 0, 0, ⟨fun _ => 0, fun _ => ⟨#[]⟩, fun _ => ⟨#[]⟩, fun _ => 0, fun _ => 0⟩, rfl, by simp, fun i hi => absurd hi (by omega)⟩
  · simp [Value.cells] at hcs
    obtain ⟨rfl, rfl, rfl⟩ := hcs
    have hlm : len ≤ m := by rw [hmm]; split <;> omega
    have hC5 : P.cellsOf e = 5 := by rw [hC, hfs]; rfl
    have key : ∀ i, ∃ z : Int × ByteArray × ByteArray × Int × Int, i < len → ∀ c, c < 5 → w.cell? ((a.add (i * 5)).add c) = (#[.int .i64 z.1, .string z.2.1, .string z.2.2.1, .int .i64 z.2.2.2.1, .int .i64 z.2.2.2.2] : Array Value)[c]? := by
      intro i
      by_cases hil : i < len
      · obtain ⟨cs', h1, h2⟩ := hj i (by omega)
        obtain ⟨k, p, q, s, u, rfl⟩ := step_cells he hone hC hfs hi hs e0 e1 e2 e3 e4 h2
        rw [hC5] at h1
        obtain ⟨_, _, h3⟩ := World.cells?_some h1
        refine ⟨(k, p, q, s, u), fun _ c hc => ?_⟩
        rw [h3 c hc]
        simp
      · exact ⟨(0, ⟨#[]⟩, ⟨#[]⟩, 0, 0), fun h => absurd h hil⟩
    refine ⟨some a, len, cap, ⟨fun i => (key i).choose.1, fun i => (key i).choose.2.1, fun i => (key i).choose.2.2.1, fun i => (key i).choose.2.2.2.1, fun i => (key i).choose.2.2.2.2⟩, rfl, by omega, ?_⟩
    intro i hil
    have hc := (key i).choose_spec hil
    obtain ⟨b, off, sp⟩ := a
    have hsp : sp = none := by
      have h00 := (key 0).choose_spec (by omega) 0 (by omega)
      exact (show (⟨b, off, sp⟩ : Addr).spot = none by simpa [Addr.add] using World.cell?_spot (v := Value.int .i64 (key 0).choose.1) h00)
    subst hsp
    have ha : ∀ c, ((Addr.add ⟨b, off, none⟩ (i * 5)).add c) = ⟨b, off + i * 5 + c, none⟩ := by
      intro c
      unfold Addr.add
      by_cases h1 : i * 5 = 0 <;> by_cases h2 : c = 0 <;> simp [h1, h2]
    refine ⟨b, off, rfl, ?_, fun c hc5 => ?_⟩
    · have h0 := hc 0 (by omega)
      rw [ha] at h0
      rcases Nat.lt_or_ge b w.heap.size with h1 | h1
      · exact h1
      · rw [World.cell?] at h0
        simp [Array.getElem?_eq_none h1] at h0
    · rw [← ha]; exact hc c hc5
end
end Go.Proofs.Ytdfloglicjocbaa
