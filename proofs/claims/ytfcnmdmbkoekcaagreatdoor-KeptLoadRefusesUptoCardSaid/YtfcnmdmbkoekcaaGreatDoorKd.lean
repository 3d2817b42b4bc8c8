/-
  Kept sums in a map and in a list that is sorted: plain law. What a map of entries holds key by key; what of it is still to come in a range; the sorted list of the entries is the list that was loaded.
-/
import Derived.Test.YtfcnmdmbkoekcaaGreatDoorKb
import Derived.Test.YtfcnmdmbkoekcaaGreatDoorKc
import Derived.Maps.Ext
import Derived.Shelf.SlSortCmp.Insertion
namespace Go.Proofs.Kl
open Go.Maps
def Ent.e (x : Ent) : E := ⟨x.path, x.size, x.time, x.sums⟩
def keyL (p : ByteArray) : Lit := .string p.data.toList
theorem keyL_inj {p q : ByteArray} (h : keyL p = keyL q) : p = q := by
  unfold keyL at h
  injection h with h
  exact ByteArray.ext (Array.toList_inj.1 h)
theorem keyL_isKey (p : ByteArray) : WideAt.IsKeyLit (keyL p) := trivial
def valE (x : Ent) : Value := .agg #[.string x.path, .int .i64 x.size, .int .i64 x.time, x.sv]
/-- a map's element is read as it is held. -/
def RH (v : Value) : Option (DataW Value × List MemPlace) := some (.held v, [])
/-- the map's reading holds the entries vs. -/
structure MapI (D : DataW Value) (vs : List Ent) : Prop where
  at_ : ∀ x ∈ vs, ∀ z, D.atKey (keyL x.path) z = .held (valE x)
  has_ : ∀ kl, has D kl = true → ∃ x ∈ vs, kl = keyL x.path
  isMap : IsMap D
theorem MapI.nil : MapI (.map []) [] := ⟨fun _ h => by (cases h), fun _ h => by (cases h), ⟨_, rfl⟩⟩
theorem MapI.put {D : DataW Value} {vs : List Ent} (h : MapI D vs) (x : Ent) (hx : ∀ y ∈ vs, y.path ≠ x.path) : MapI (D.put (keyL x.path) (.held (valE x))) (vs ++ [x]) := by
  refine ⟨fun y hy z => ?_, fun kl hk => ?_, h.isMap.put _ _⟩
  · rcases List.mem_append.1 hy with hy | hy
    · rw [atKey_put_other (fun e => hx y hy (keyL_inj e))]
      exact h.at_ y hy z
    · obtain rfl : y = x := by simpa using hy
      exact atKey_put_same h.isMap (keyL_isKey _) _ _
  · by_cases e : kl = keyL x.path
    · exact ⟨x, by simp, e⟩
    · rw [has_put_other e] at hk
      obtain ⟨y, hy, he⟩ := h.has_ kl hk
      exact ⟨y, by simp [hy], he⟩
/-- what of the entries is still to come. -/
structure Rem (left : Lit → Bool) (rem : List Ent) : Prop where
  all : ∀ kl, left kl = true → ∃ x ∈ rem, kl = keyL x.path
  mem : ∀ x ∈ rem, left (keyL x.path) = true
  apart : rem.Pairwise (fun x y => x.path ≠ y.path)
theorem Rem.start {D : DataW Value} {vs : List Ent} (h : MapI D vs) (hp : vs.Pairwise (fun x y => x.path ≠ y.path)) : Rem (has D) vs :=
  ⟨h.has_, fun x hx => has_true_of_atKey (h.at_ x hx), hp⟩
theorem Rem.step {left : Lit → Bool} {rem : List Ent} {kl : Lit} (h : Rem left rem) (hk : left kl = true) :
    ∃ x r1 r2, rem = r1 ++ x :: r2 ∧ kl = keyL x.path ∧ Rem (fun z => left z && !z.sameKey kl) (r1 ++ r2) := by
  obtain ⟨x, hx, rfl⟩ := h.all kl hk
  obtain ⟨r1, r2, rfl⟩ := List.append_of_mem hx
  have hap := h.apart
  have hperm : (r1 ++ x :: r2).Perm (x :: (r1 ++ r2)) := List.perm_middle
  have hap2 := (hperm.pairwise_iff (fun {a b} (hne : a.path ≠ b.path) => Ne.symm hne)).1 hap
  obtain ⟨h1, h2⟩ := List.pairwise_cons.1 hap2
  refine ⟨x, r1, r2, rfl, rfl, ⟨fun z hz => ?_, fun y hy => ?_, h2⟩⟩
  · simp only [Bool.and_eq_true, Bool.not_eq_true'] at hz
    obtain ⟨y, hy, rfl⟩ := h.all z hz.1
    rcases List.mem_cons.1 (hperm.subset hy) with rfl | hy'
    · rw [WideAt.sameKey_self (keyL_isKey _)] at hz
      cases hz.2
    · exact ⟨y, hy', rfl⟩
  · have hne := h1 y hy
    rw [h.mem y (hperm.symm.subset (List.mem_cons_of_mem _ hy)), sameKey_ne (fun e => hne (keyL_inj e).symm)]
    rfl
theorem Rem.done {left : Lit → Bool} {rem : List Ent} (h : Rem left rem) (hl : ∀ kl, left kl = false) : rem = [] := by
  cases rem with
  | nil => rfl
  | cons x r => have := h.mem x (by simp); rw [hl] at this; cases this
/-- the one sorted list. -/
theorem sorted_is {out ls : List E} (hp : out.Perm ls) (hs : ls.Pairwise (fun x y => cmpL x.path.data.toList y.path.data.toList < 0)) (ho : out.Pairwise (fun x y => ¬ cmpL y.path.data.toList x.path.data.toList < 0)) : out = ls :=
  strict_unique (fun x y : E => decide (cmpL x.path.data.toList y.path.data.toList < 0)) (fun x => by rw [cmpL_refl]; rfl)
    (fun x y h => by
      have h1 := of_decide_eq_true h
      have h2 := cmpL_anti x.path.data.toList y.path.data.toList
      exact decide_eq_false (by omega)) ls out hp
    (hs.imp fun h => decide_eq_true h) (ho.imp fun h => decide_eq_false h)
/-- an entry that the sort may hold. -/
abbrev EntB := { x : Ent // x.path.size ≤ 1048576 ∧ x.sv.oneCell' = true }
instance : Inhabited EntB := ⟨⟨⟨⟨#[]⟩, 0, 0, .slice none 0 0, []⟩, by decide, rfl⟩⟩
def encE (x : EntB) : List Value := [.string x.1.path, .int .i64 x.1.size, .int .i64 x.1.time, x.1.sv]
def cfE (x y : EntB) : Int := cmpL x.1.path.data.toList y.1.path.data.toList
theorem cmpL_ntrans {a b c : List UInt8} (h1 : ¬ cmpL a b < 0) (h2 : ¬ cmpL b c < 0) : ¬ cmpL a c < 0 := by
  intro h3
  have e1 := cmpL_anti a b
  have e2 := cmpL_anti b c
  have r1 := cmpL_range a b
  have r2 := cmpL_range b c
  by_cases z1 : cmpL a b = 0
  · rw [cmpL_eq z1] at h3; exact h2 h3
  · by_cases z2 : cmpL b c = 0
    · rw [cmpL_eq z2] at h1; exact h1 h3
    · have g1 : cmpL b a < 0 := by omega
      have g2 : cmpL c b < 0 := by omega
      have g3 := cmpL_trans g2 g1
      have e3 := cmpL_anti a c
      omega
theorem swoE : Sort.SWO (ltOf cfE) where
  irrefl x := by unfold ltOf cfE; rw [cmpL_refl]; rfl
  trans x y z h1 h2 := by
    unfold ltOf cfE at *
    exact decide_eq_true (cmpL_trans (of_decide_eq_true h1) (of_decide_eq_true h2))
  ntrans x y z h1 h2 := by
    unfold ltOf cfE at *
    exact decide_eq_false (cmpL_ntrans (of_decide_eq_false h1) (of_decide_eq_false h2))
/-- what the sort has made of a list of entries. -/
theorem sort_list {d d' : Array EntB} (hp : Sort.PermIn 0 d.size d d') (hs : Sort.SortedIn (ltOf cfE) 0 d.size d') :
    (d'.toList.map (·.1.e)).Perm (d.toList.map (·.1.e)) ∧ (d'.toList.map (·.1.e)).Pairwise (fun x y => ¬ cmpL y.path.data.toList x.path.data.toList < 0) ∧ d'.size = d.size := by
  obtain ⟨h1, h2, h3⟩ := hp
  refine ⟨?_, ?_, h1⟩
  · have e1 : d.extract 0 d.size = d := Array.extract_size
    have e2 : d'.extract 0 d.size = d' := by rw [← h1]; exact Array.extract_size
    rw [e1, e2] at h3
    exact h3.map _
  · rw [List.pairwise_map, List.pairwise_iff_getElem]
    intro i j hi hj hij
    have hj' : j < d.size := by simpa [← h1] using hj
    have := hs i j (Nat.zero_le _) hij hj'
    unfold ltOf cfE at this
    have h4 := of_decide_eq_false this
    have ei : d'[i]! = d'.toList[i] := by simp [show i < d'.size by omega]
    have ej : d'[j]! = d'.toList[j] := by simp [show j < d'.size by omega]
    rw [ei, ej] at h4
    exact h4
end Go.Proofs.Kl
