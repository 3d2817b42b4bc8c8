import Derived.Test.YtobiacdeoeogaaaGreatDoorBh
import Derived.StringKeys
import Derived.Maps.OwnOps
set_option linter.unusedVariables false
set_option linter.unusedSimpArgs false
namespace Go.Proofs.YtobiacdeoeogaaaGreatDoor
open Go.RowKit Go.Maps Go.MapKept Go.WideElems Go.WideMaps Go.WideShapes
/-- the earlier places at which four bytes stand, rising. -/
def plac (bl : List UInt8) (a : Nat) (s : List UInt8) : List Nat := (List.range a).filter (fun j => decide ((bl.drop j).take 4 = s))
theorem cands_plac (bl : List UInt8) (a : Nat) : cands bl a = plac bl a ((bl.drop a).take 4) := rfl
theorem plac_same {bl : List UInt8} {a : Nat} {s : List UInt8} (h : (bl.drop a).take 4 = s) : plac bl (a + 1) s = plac bl a s ++ [a] := by
  unfold plac
  rw [List.range_succ, List.filter_append]
  simp [h]
theorem plac_other {bl : List UInt8} {a : Nat} {s : List UInt8} (h : (bl.drop a).take 4 ≠ s) : plac bl (a + 1) s = plac bl a s := by
  unfold plac
  rw [List.range_succ, List.filter_append]
  simp [h]
/-- what a map reads as at four bytes. -/
def plD (l : List Nat) : DataW Unit := if l = [] then .nil else .slice (_root_.Go.ChangeShapes.lits .i64 (zsL l)) []
theorem zsL_inj {zs : List Int} {l : List Nat} (h : (_root_.Go.ChangeShapes.lits .i64 zs : List (DataW Unit)) = _root_.Go.ChangeShapes.lits .i64 (zsL l)) : zs = zsL l :=
  (List.map_inj_right (fun a b hab => by cases hab; rfl)).1 h
theorem plD_zs {w : World} {base : Nat} {v : Value} {zs : List Int} {l : List Nat} (h : w.ownsInts base 3 .i64 v zs) (hd : rowDatum (H := Unit) .i64 v zs = plD l) : zs = zsL l := by
  rcases h.datum (H := Unit) with ⟨h1, h2⟩ | h1
  · rw [h1] at hd
    unfold plD at hd
    by_cases hl : l = []
    · rw [h2, hl]; rfl
    · rw [if_neg hl] at hd; cases hd
  · rw [h1] at hd
    unfold plD at hd
    by_cases hl : l = []
    · rw [if_pos hl] at hd; cases hd
    · rw [if_neg hl] at hd
      injection hd with hd
      exact zsL_inj hd
theorem find_all (s : ByteArray) : ∀ (es : List MapEntry) (i : Nat), (∀ e ∈ es, ∃ s', e.key = .string s') → ∃ a, Instr.findNow .string (.string s) es i = some a
  | [], i, _ => ⟨none, rfl⟩
  | e :: es, i, h => by
    obtain ⟨s', hs'⟩ := h e (by simp)
    obtain ⟨a, ha⟩ := find_all s es (i + 1) (fun x hx => h x (by simp [hx]))
    cases hc : (s == s')
    · exact ⟨a, by simp only [Instr.findNow, Instr.sameNow, hs', hc, ha]⟩
    · exact ⟨some (i, e.val), by simp only [Instr.findNow, Instr.sameNow, hs', hc]⟩
/-- a looking up answers by the map's block alone. -/
theorem look_all {km clock : Nat} {es : Array MapEntry} (s : ByteArray) (hk : ∀ e ∈ es.toList, ∃ s', e.key = .string s') : ∃ v, ∀ x : World, x.heap[km]? = some (.map es clock) → (Instr.lookup 96 (.map (some km)) (.string s) false).run Tryz.prog x = .ok v x := by
  obtain ⟨a, ha⟩ := find_all s es.toList 0 hk
  have hc : ∀ (x : World) b, (Instr.checkKey b 10000 9 (.string s)).run Tryz.prog x = .ok () x := fun x b => MapKept.run_checkKey (k := .string s) Tryz.underlying9 (by simp [MapKept.IsKey]) b 9999
  cases a with
  | none => exact ⟨.slice none 0 0, fun x hx => by simp [Instr.lookup, run_underlying Tryz.underlying96, MapKept.run_getObj_map hx, hc, MapKept.run_findKey Tryz.underlying9 ha, zeroInts, Result.andThen]⟩
  | some p => exact ⟨p.2, fun x hx => by obtain ⟨i, v⟩ := p; simp [Instr.lookup, run_underlying Tryz.underlying96, MapKept.run_getObj_map hx, hc, MapKept.run_findKey Tryz.underlying9 ha, Result.andThen]⟩
/-- the map of the places before one. -/
def PM (w : World) (km base a : Nat) (bl : List UInt8) : Prop := ∃ n, ∃ D : DataW Unit, n ≤ a ∧ w.ownsGroups Tryz.prog 9 base 3 .i64 km n D ∧ IsMap D ∧ ∀ s : List UInt8, s.length = 4 → D.atKey (.string s) .nil = plD (plac bl a s)
theorem PM.made (w : World) (bl : List UInt8) : PM (w.alloc (.map #[] 0)) w.heap.size (w.heap.size + 1) 0 bl :=
  ⟨0, .map [], Nat.le_refl _, World.ownsGroups_made w Tryz.prog 9 3 .i64, isMap_empty, fun s _ => rfl⟩
theorem PM.ku {w w' : World} {km base a sb : Nat} {bl : List UInt8} (h : PM w km base a bl) (hu : Ku sb w w') (hb : km ≠ sb) (hsb : ∃ t cs fr, w.heap[sb]? = some (.cells cs t fr) ∧ t ≠ 3) : PM w' km base a bl := by
  obtain ⟨n, D, hn, hO, hM, hD⟩ := h
  exact ⟨n, D, hn, groups_ku hu hO hb hsb, hM, hD⟩
theorem PM.skip {w : World} {km base a : Nat} {bl : List UInt8} (h : PM w km base a bl) (hl : bl.length < a + 4) : PM w km base (a + 1) bl := by
  obtain ⟨n, D, hn, hO, hM, hD⟩ := h
  refine ⟨n, D, by omega, hO, hM, fun s hs => ?_⟩
  rw [plac_other, hD s hs]
  intro e
  have := congrArg List.length e
  simp at this
  omega
/-- what a look-up in the map gives, and the way back. -/
structure PL (w : World) (km base a : Nat) (bl : List UInt8) (s : ByteArray) (v : Value) : Prop where
  look : ∀ x : World, x.heap[km]? = w.heap[km]? → (Instr.lookup 96 (.map (some km)) (.string s) false).run Tryz.prog x = .ok v x
  owns : w.ownsInts base 3 .i64 v (zsL (plac bl a s.data.toList))
  put : s.data.toList = (bl.drop a).take 4 → ∀ (w1 : World) (v' : Value), w.grownBy w1 v.ownBlock → w1.ownsInts base 3 .i64 v' (zsL (plac bl a s.data.toList ++ [a])) → (v'.ownBlock = v.ownBlock ∨ ∃ g, v'.ownBlock = some g ∧ w.heap.size ≤ g) →
    ∃ w2, (Instr.mapUpdate 96 (.map (some km)) (.string s) v').run Tryz.prog w1 = .ok () w2 ∧ PM w2 km base (a + 1) bl ∧ w1.grownBy w2 (some km)
theorem PM.look {w : World} {km base a : Nat} {bl : List UInt8} (h : PM w km base a bl) (ha : a < 1048576) (s : ByteArray) (hs : s.size = 4) : ∃ v, PL w km base a bl s v := by
  obtain ⟨n, D, hn, hO, hM, hD⟩ := h
  have K := string_keyed (P := Tryz.prog) Tryz.underlying9
  have hsl : s.data.toList.length = 4 := by rw [← hs, Lib.size_eq]
  have hkey : keyOf Tryz.prog 9 (.string s) = some (.string s.data.toList) := keyOf_string_mk Tryz.underlying9 (by rw [hs]; decide)
  obtain ⟨v, zs, hrun, hat, hoi, hzl, hback⟩ := hO.at K Tryz.underlying96 (zeroInts w) (by unfold maxLen; omega) hkey
  rw [hD _ hsl] at hat
  obtain rfl := plD_zs hoi hat.symm
  refine ⟨v, ?_, hoi, fun hsa w1 v' hg ho hloc => ?_⟩
  · obtain ⟨es, clock, hb, F, _⟩ := hO
    obtain ⟨v2, hv2⟩ := look_all (km := km) (clock := clock) s (es := es) (fun e he => by
      obtain ⟨l, hl⟩ := F.keys e he
      rw [keyOf_string Tryz.underlying9] at hl
      obtain ⟨d, hd, h1, _⟩ := mapKey_isKey hl
      rw [Tryz.underlying9] at hd
      cases hd
      cases hx : e.key <;> rw [hx] at h1 <;> simp [MapKept.IsKey] at h1
      exact ⟨_, rfl⟩)
    have h2 := hv2 w hb
    rw [hrun] at h2
    obtain rfl : v = v2 := by simpa using h2
    exact fun x hx => hv2 x (hx.trans hb)
  · have hl2 : (zsL (plac bl a s.data.toList ++ [a])).length ≤ n + 1 := by
      rw [zsL_len] at hzl ⊢
      simp
      omega
    obtain ⟨w2, hr, hG, hg2⟩ := hback w1 v' _ hg ho hl2 hloc
    refine ⟨w2, hr, ⟨n + 1, _, by omega, hG, hM.put _ _, fun s' hs' => ?_⟩, hg2⟩
    by_cases he : s' = s.data.toList
    · subst he
      rw [atKey_put_same hM (by trivial), ho.datum_pos (by simp [zsL]), plac_same hsa.symm]
      unfold plD
      rw [if_neg (by simp)]
    · rw [atKey_put_other (by simpa using he), hD s' hs', plac_other]
      rw [← hsa]
      exact fun e => he e.symm
end Go.Proofs.YtobiacdeoeogaaaGreatDoor

set_option linter.unusedVariables false
set_option linter.unusedSimpArgs false
namespace Go.Proofs.YtobiacdeoeogaaaGreatDoor
open Go.RowKit Go.Maps
theorem plac_len (bl : List UInt8) (a : Nat) (s : List UInt8) : (plac bl a s).length ≤ a := by
  unfold plac
  exact Nat.le_trans (List.length_filter_le _ _) (by simp)
theorem zsL_map (l : List Nat) (a : Nat) : zsL (l ++ [a]) = zsL l ++ [(a : Int)] := by unfold zsL; simp
theorem PM.lt {w : World} {km base a : Nat} {bl : List UInt8} (h : PM w km base a bl) : km < w.heap.size ∧ km < base ∧ ∃ es clock, w.heap[km]? = some (.map es clock) := by
  obtain ⟨n, D, hn, ⟨es, clock, h1, _, _, _, h2, _⟩, _⟩ := h
  exact ⟨lt_of_blk h1, h2, es, clock, h1⟩
/-- behind 'm[key] = append(m[key], at)'. -/
theorem put_step {w wr wx w3 : World} {km sb a g m cap n H : Nat} {bl : List UInt8} {s : ByteArray} {v ov : Value} {cs : Array Value} {xs : List Value} (hPM : PM wr km (km + 1) a bl) (HL : PL wr km (km + 1) a bl s v) (hsa : s.data.toList = (bl.drop a).take 4) (ha : a < 1048576)
    (hS : Blk wr sb 98 cs) (hO : wr.ownsRow km 5 1 ov n xs) (hb : Below km w wr) (hx : wr.grownBy wx none) (hgrow : wx.grownBy w3 v.ownBlock) (hown : w3.ownsRow (km + 1) 3 1 (.slice (some ⟨g, 0, none⟩) m cap) m ((zsL (plac bl a s.data.toList)).map (Value.int .i64) ++ [.int .i64 (a : Int)])) (hm : m = (zsL (plac bl a s.data.toList)).length + 1)
    (hat : v.ownBlock = some g ∨ g = H) (hH : wr.heap.size ≤ H) : Blk w3 sb 98 cs ∧ ∃ w2, (Instr.mapUpdate 96 (.map (some km)) (.string s) (.slice (some ⟨g, 0, none⟩) m cap)).run Tryz.prog w3 = .ok () w2 ∧ PM w2 km (km + 1) (a + 1) bl ∧ Blk w2 sb 98 cs ∧ w2.ownsRow km 5 1 ov n xs ∧ Below km w w2 := by
  subst hm
  obtain ⟨hkl, _, es, clock, hkm⟩ := hPM.lt
  have hg : wr.grownBy w3 v.ownBlock := World.grownBy.trans ⟨hx.os, hx.tape, hx.output, hx.size, fun k hk _ => hx.block k hk (by simp)⟩ hgrow
  have hI : w3.ownsInts (km + 1) 3 .i64 (.slice (some ⟨g, 0, none⟩) ((zsL (plac bl a s.data.toList)).length + 1) cap) (zsL (plac bl a s.data.toList ++ [a])) := by
    rw [zsL_map]
    have e1 : IntKind.i64.min = -9223372036854775808 := rfl
    have e2 : IntKind.i64.max = 9223372036854775807 := rfl
    exact HL.owns.appended hown (by simp only [Lit.wf, e1, e2, Bool.and_eq_true, decide_eq_true_eq]; omega)
  obtain ⟨w2, hr, hP2, hg2⟩ := HL.put hsa w3 _ hg hI (by
    rcases hat with h | h
    · exact Or.inl h.symm
    · exact Or.inr ⟨g, rfl, by omega⟩)
  have hS3 : Blk w3 sb 98 cs := (hg.block sb hS.lt (fun e => own_ne HL.owns.1 hS (by decide) sb e.symm rfl)).trans hS
  have hsk : sb ≠ km := fun e => by subst e; unfold Blk at hS; rw [hkm] at hS; cases hS
  have hO3 : w3.ownsRow km 5 1 ov n xs := hO.kept hg (by
    cases hv : ov.ownBlock with
    | none => exact Or.inl rfl
    | some g1 =>
      refine Or.inr (fun e => ?_)
      obtain ⟨c1, h1⟩ := own_nu hO hv
      obtain ⟨c2, h2⟩ := own_nu HL.owns.1 e.symm
      rw [h1] at h2
      injection h2 with h2
      injection h2 with _ h2
      exact absurd h2 (by decide))
  have hkm3 : w3.heap[km]? = some (.map es clock) := (hg.block km hkl (fun e => by
    obtain ⟨c2, h2⟩ := own_nu HL.owns.1 e.symm
    rw [hkm] at h2; cases h2)).trans hkm
  refine ⟨hS3, w2, hr, hP2, (hg2.block sb hS3.lt (by simpa using hsk)).trans hS3, hO3.kept hg2 ?_, Below.groups hb HL.owns hg hg2 (Nat.le_of_lt hkl) (by omega) (Nat.le_refl _)⟩
  cases hv : ov.ownBlock with
  | none => exact Or.inl rfl
  | some g1 =>
    refine Or.inr (fun e => ?_)
    obtain ⟨c1, h1⟩ := own_nu hO3 hv
    injection e with e
    subst e
    rw [hkm3] at h1; cases h1
end Go.Proofs.YtobiacdeoeogaaaGreatDoor

set_option linter.unusedVariables false
set_option linter.unusedSimpArgs false
namespace Go.Proofs.YtobiacdeoeogaaaGreatDoor
open Go.RowKit Go.Maps
/-- a squeezing under way: the map in block km, the squeezer in block sb, the places before a noted, l written, a run from r on open. -/
structure SqS (km sb : Nat) (b : ByteArray) (w wr : World) (a r n : Nat) (l : List UInt8) : Prop where
  h : ∃ ov, Blk wr sb 98 (szC b (.map (some km)) ov r) ∧ wr.ownsRow km 5 1 ov n (Lib.byteCells l)
  pm : PM wr km (km + 1) a b.data.toList
  bl : Below km w wr
  lt : km < sb
theorem PM.grown {w w' : World} {km base a : Nat} {bl : List UInt8} (h : PM w km base a bl) (hg : w.grownBy w' none) : PM w' km base a bl := by
  obtain ⟨n, D, hn, hO, hM, hD⟩ := h
  exact ⟨n, D, hn, hO.kept hg (by simp) (fun es clock hb x hx => by cases x.val.ownBlock <;> simp), hM, hD⟩
theorem grown_kp {w w' : World} (k : Kp [] w w') : w.grownBy w' none := ⟨k.os, k.tape, k.output, k.size, fun i hi _ => k.block i hi (by simp)⟩
theorem SqS.kp {km sb a r n : Nat} {b : ByteArray} {w wr w' : World} {l : List UInt8} (h : SqS km sb b w wr a r n l) (k : Kp [] wr w') : SqS km sb b w w' a r n l := by
  obtain ⟨⟨ov, hS, hO⟩, hP, hb, hl⟩ := h
  exact ⟨⟨ov, k.blk hS (by simp), own_kp hO k (by simp)⟩, hP.grown (grown_kp k), hb.trans (k.below (Nat.le_of_lt hP.lt.1) (by simp)), hl⟩
theorem SqS.longest {km sb a r n : Nat} {b : ByteArray} {w wr : World} {l : List UInt8} (h : SqS km sb b w wr a r n l) (ha : a < b.size) (hb : b.size ≤ 16384) :
    Calls Tryz.prog 48 #[pt sb, .int .i64 (a : Int)] wr fun e w' => e = .returned (.tuple #[.int .i64 ((best b.data.toList a).1 : Int), .int .i64 ((best b.data.toList a).2 : Int)]) ∧ SqS km sb b w w' a r n l := by
  obtain ⟨ov, hS, hO⟩ := h.h
  have hs : b.size = b.data.toList.length := Lib.size_eq b
  obtain ⟨v, hv⟩ : ∃ v, a + 4 ≤ b.size → PL wr km (km + 1) a b.data.toList (b.extract a (a + 4)) v := by
    by_cases h4 : a + 4 ≤ b.size
    · obtain ⟨v, hv⟩ := h.pm.look (by omega) (b.extract a (a + 4)) (by simp; omega)
      exact ⟨v, fun _ => hv⟩
    · exact ⟨undef, fun h => absurd h h4⟩
  refine (longest_ok sb a km (km + 1) b ov v r wr hS ha hb (fun h4 n => (hv h4).look _ rfl) (fun h4 => ?_)).mono ?_
  · have := (hv h4).owns
    rw [cands_plac]
    rwa [ex_listH, show a + 4 - a = 4 by omega] at this
  · rintro e w' ⟨rfl, q, rfl⟩
    exact ⟨rfl, h.kp ((Kp.refl [] wr).drewN q)⟩
theorem SqS.flush {km sb a r n : Nat} {b : ByteArray} {w wr : World} {l : List UInt8} (h : SqS km sb b w wr a r n l) (e : Nat) (hr : r ≤ e) (he : e ≤ b.size) (hb : b.size ≤ 16384) (hn : n ≤ 3 * r) :
    Calls Tryz.prog 49 #[pt sb, .int .i64 (e : Int)] wr fun x w' => x = .returned (.tuple #[]) ∧ ∃ n', n' ≤ 3 * e ∧ SqS km sb b w w' a e n' (l ++ lits (slB b r e)) := by
  obtain ⟨ov, hS, hO⟩ := h.h
  obtain ⟨h1, h2, es, clock, h3⟩ := h.pm.lt
  have hne : km ≠ sb := Nat.ne_of_lt h.lt
  refine (flush2_ok e wr hr he (by omega) (by omega) (Nat.le_of_lt h1) (Nat.le_of_lt h.lt) hS hO).mono ?_
  rintro x w' ⟨rfl, ⟨ov', n', hn', hS', hO'⟩, hb', hu⟩
  exact ⟨rfl, n', by omega, ⟨ov', hS', hO'⟩, h.pm.ku hu hne ⟨_, _, _, hS, by decide⟩, h.bl.trans hb', h.lt⟩
theorem SqS.note {km sb a r n : Nat} {b : ByteArray} {w wr : World} {l : List UInt8} (h : SqS km sb b w wr a r n l) (h4 : a + 4 ≤ b.size) (hb : b.size ≤ 16384) : (∃ v, PL wr km (km + 1) a b.data.toList (b.extract a (a + 4)) v) ∧ (b.extract a (a + 4)).data.toList = (b.data.toList.drop a).take 4 :=
  ⟨h.pm.look (by omega) _ (by simp; omega), by rw [ex_listH, show a + 4 - a = 4 by omega]⟩
theorem SqS.skip {km sb a r n : Nat} {b : ByteArray} {w wr : World} {l : List UInt8} (h : SqS km sb b w wr a r n l) (h4 : b.size < a + 4) : SqS km sb b w wr (a + 1) r n l :=
  ⟨h.h, h.pm.skip (by rw [← Lib.size_eq]; exact h4), h.bl, h.lt⟩
end Go.Proofs.YtobiacdeoeogaaaGreatDoor
