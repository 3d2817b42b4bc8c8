/-
  Several stores in memory beside each other: each keeps what it holds while another one is written.
-/
import Derived.Test.YtpjnjhklkgefcaaGreatDoorZi
set_option linter.unusedVariables false
set_option linter.unusedSimpArgs false
namespace Go.Proofs.YtpjnjhklkgefcaaGreatDoor
open Go.RowKit
/-- a store: where its blocks begin, its features, its clock, its blocks, its files. -/
structure MR where
  B : Nat
  f : Ft
  clk : Int
  q : Mm
  L : List Fl
/-- a store as the laws use it. -/
structure MOK (w : World) (r : MR) : Prop where
  x : MemX r.B r.f r.clk r.q r.L w
  ft : FtOK r.f
  ck0 : 0 ≤ r.clk
  ck1 : r.clk ≤ 9223372036854775807
  small : ∀ x ∈ r.L, x.data.size ≤ 60000
abbrev MR.foot (r : MR) : List Nat := Go.Proofs.YtpjnjhklkgefcaaGreatDoor.foot r.q r.L
def ApartF (a b : MR) : Prop := ∀ x ∈ a.foot, x ∉ b.foot
theorem ApartF.symm {a b : MR} (h : ApartF a b) : ApartF b a := fun x hb ha => h x ha hb
/-- several stores. -/
structure Mems (w : World) (rs : List MR) : Prop where
  ok : ∀ r ∈ rs, MOK w r
  ap : rs.Pairwise ApartF
theorem Mems.nil (w : World) : Mems w [] := ⟨fun _ h => absurd h List.not_mem_nil, List.Pairwise.nil⟩
theorem MOK.below {w w' : World} {r : MR} (h : MOK w r) (k : Below w.heap.size w w') : MOK w' r := ⟨h.x.below k, h.ft, h.ck0, h.ck1, h.small⟩
theorem Mems.below {w w' : World} {rs : List MR} (h : Mems w rs) (k : Below w.heap.size w w') : Mems w' rs := ⟨fun r hr => (h.ok r hr).below k, h.ap⟩
theorem MOK.fLt {w : World} {r : MR} (h : MOK w r) : ∀ b ∈ r.foot, b < w.heap.size := h.x.mLt
/-- a block of another kind is none of a store's. -/
theorem MemC.off {B : Nat} {f : Ft} {clk : Int} {q : Mm} {L : List Fl} {made : Nat} {w : World} (h : MemC B f clk q L made w) {g : Nat} {t : TypeId} {cs : Array Value} (hg : Blk w g t cs) (h1 : t ≠ 95) (h2 : t ≠ 90) (h3 : t ≠ 3) : g ∉ Go.Proofs.YtpjnjhklkgefcaaGreatDoor.foot q L := by
  obtain ⟨X, hX, _⟩ := h.hca
  obtain ⟨Y, hY, _⟩ := h.hsi
  obtain ⟨D, hD, _⟩ := h.hk
  simp only [Go.Proofs.YtpjnjhklkgefcaaGreatDoor.foot, List.mem_cons, List.mem_map, not_or]
  refine ⟨hg.ne h.hm h1, hg.ne h.hr h2, ownsMap_ne hg hD, hg.ne hX h3, hg.ne hY h3, ?_⟩
  rintro ⟨x, hx, e⟩
  exact hg.ne (h.hn x hx) h2 e.symm
theorem MOK.off {w : World} {r : MR} (h : MOK w r) {g : Nat} {t : TypeId} {cs : Array Value} (hg : Blk w g t cs) (h1 : t ≠ 95) (h2 : t ≠ 90) (h3 : t ≠ 3) : g ∉ r.foot := h.x.off hg h1 h2 h3
/-- a store is as it was while another one was written. -/
theorem MOK.other {w w' : World} {a b : MR} (ha : MOK w a) (hb : MOK w b) (h : ApartF b a) (k : Kp b.foot w w') : MOK w' a :=
  ⟨ha.x.kp k (fun x hx hn => h x hn hx) (hb.off ha.x.hcl (by decide) (by decide) (by decide)), ha.ft, ha.ck0, ha.ck1, ha.small⟩
theorem MOK.keep {w w' : World} {a : MR} {S : List Nat} (ha : MOK w a) (k : Kp S w w') (h : ∀ x ∈ a.foot, x ∉ S) (hc : a.q.c ∉ S) : MOK w' a :=
  ⟨ha.x.kp k h hc, ha.ft, ha.ck0, ha.ck1, ha.small⟩
theorem apart_set : ∀ {rs : List MR} {i : Nat} {r r' : MR}, rs[i]? = some r → rs.Pairwise ApartF → (∀ a ∈ rs, ApartF r a → ApartF r' a) → (rs.set i r').Pairwise ApartF
  | [], _, _, _, h, _, _ => by simp at h
  | a :: l, 0, r, r', h, hp, hs => by
    obtain rfl : a = r := by simpa using h
    obtain ⟨h1, h2⟩ := List.pairwise_cons.1 hp
    rw [List.set_cons_zero]
    exact List.pairwise_cons.2 ⟨fun x hx => hs x (List.mem_cons_of_mem _ hx) (h1 x hx), h2⟩
  | a :: l, i + 1, r, r', h, hp, hs => by
    obtain ⟨h1, h2⟩ := List.pairwise_cons.1 hp
    have hl : l[i]? = some r := by simpa using h
    rw [List.set_cons_succ]
    refine List.pairwise_cons.2 ⟨fun x hx => ?_, apart_set hl h2 (fun y hy => hs y (List.mem_cons_of_mem _ hy))⟩
    rcases List.mem_or_eq_of_mem_set hx with hx | rfl
    · exact h1 x hx
    · exact (hs a (by simp) (h1 r (List.mem_of_getElem? hl)).symm).symm
theorem apart_mem : ∀ {rs : List MR} {i : Nat} {r a : MR}, rs[i]? = some r → rs.Pairwise ApartF → ∀ j, j ≠ i → rs[j]? = some a → ApartF r a
  | [], _, _, _, h, _, _, _, _ => by simp at h
  | x :: l, 0, r, a, h, hp, j, hj, ha => by
    obtain rfl : x = r := by simpa using h
    cases j with
    | zero => exact absurd rfl hj
    | succ j => exact (List.pairwise_cons.1 hp).1 a (List.mem_of_getElem? (by simpa using ha))
  | x :: l, i + 1, r, a, h, hp, j, hj, ha => by
    have hl : l[i]? = some r := by simpa using h
    cases j with
    | zero =>
      obtain rfl : x = a := by simpa using ha
      exact ((List.pairwise_cons.1 hp).1 r (List.mem_of_getElem? hl)).symm
    | succ j => exact apart_mem hl (List.pairwise_cons.1 hp).2 j (by omega) (by simpa using ha)
/-- one of several stores has been written. -/
theorem Mems.set {w w' : World} {rs : List MR} {i : Nat} {r r' : MR} (h : Mems w rs) (hi : rs[i]? = some r) (k : Kp r.foot w w') (hr : MOK w' r') (hf : ∀ x ∈ r'.foot, x ∈ r.foot ∨ w.heap.size ≤ x) : Mems w' (rs.set i r') := by
  have hro := h.ok r (List.mem_of_getElem? hi)
  refine ⟨fun a ha => ?_, apart_set hi h.ap (fun a ha hra x hx hxa => ?_)⟩
  · obtain ⟨j, hj⟩ := List.mem_iff_getElem?.1 ha
    by_cases e : j = i
    · subst e
      have hlt : j < rs.length := (List.getElem?_eq_some_iff.1 hi).1
      rw [List.getElem?_set_self hlt] at hj
      injection hj with hj
      exact hj ▸ hr
    · rw [List.getElem?_set_ne (fun e' => e e'.symm)] at hj
      exact (h.ok a (List.mem_of_getElem? hj)).other hro (apart_mem hi h.ap j e hj) k
  · rcases hf x hx with hx | hx
    · exact hra x hx hxa
    · have := (h.ok a ha).fLt x hxa
      omega
theorem Mems.snoc {w : World} {rs : List MR} {r : MR} (h : Mems w rs) (hr : MOK w r) (hf : ∀ a ∈ rs, ApartF a r) : Mems w (rs ++ [r]) :=
  ⟨fun a ha => by
    rcases List.mem_append.1 ha with ha | ha
    · exact h.ok a ha
    · obtain rfl : a = r := by simpa using ha
      exact hr, List.pairwise_append.2 ⟨h.ap, List.pairwise_singleton _ _, fun a ha b hb => by
    obtain rfl : b = r := by simpa using hb
    exact hf a ha⟩⟩
theorem Mems.keep {w w' : World} {rs : List MR} {S : List Nat} (h : Mems w rs) (k : Kp S w w') (hs : ∀ r ∈ rs, (∀ x ∈ r.foot, x ∉ S) ∧ r.q.c ∉ S) : Mems w' rs :=
  ⟨fun r hr => (h.ok r hr).keep k (hs r hr).1 (hs r hr).2, h.ap⟩
/-- the store behind a Put. -/
theorem MOK.put {w w' : World} {r : MR} {s data : ByteArray} {t : Int} (h : MOK w r) (hp : PutPost r.B r.f r.clk r.q r.L s data t w w') (hd : data.size ≤ 60000) :
    ∃ n id L', MOK w' { r with L := L' } ∧ Kp r.foot w w' ∧ PutAs w.heap.size r.L L' ⟨s, n, data, t, id⟩ ∧ ∀ x ∈ ({ r with L := L' } : MR).foot, x ∈ r.foot ∨ w.heap.size ≤ x := by
  obtain ⟨n, id, L', h1, h2, h3⟩ := hp
  refine ⟨n, id, L', ⟨h1, h.ft, h.ck0, h.ck1, fun x hx => ?_⟩, h2, h3, h3.foot r.q⟩
  rcases h3 with ⟨_, rfl⟩ | ⟨_, _, rfl⟩
  · obtain ⟨y, hy, rfl⟩ := List.mem_map.1 hx
    split
    · exact hd
    · exact h.small y hy
  · rcases List.mem_append.1 hx with hx | hx
    · exact h.small x hx
    · obtain rfl : x = ⟨s, n, data, t, id⟩ := by simpa using hx
      exact hd
end Go.Proofs.YtpjnjhklkgefcaaGreatDoor
