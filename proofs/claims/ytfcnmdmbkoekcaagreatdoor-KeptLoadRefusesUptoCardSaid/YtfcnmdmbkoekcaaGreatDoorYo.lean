/-
  The law KeptLoadRefuses, walked: for every list of kept sums whose texts are not too long it returns true, and what lay stays.
-/
import Derived.Test.YtfcnmdmbkoekcaaGreatDoorYl
import Derived.Test.YtfcnmdmbkoekcaaGreatDoorYn
import Derived.Test.YtfcnmdmbkoekcaaGreatDoorYg
import Derived.Test.YtfcnmdmbkoekcaaGreatDoorYa
import Derived.Test.YtfcnmdmbkoekcaaGreatDoorYb
import Derived.Test.YtfcnmdmbkoekcaaGreatDoorGs
import Derived.Test.YtfcnmdmbkoekcaaGreatDoorKq
import Derived.Deep.CutRange
set_option linter.unusedVariables false
set_option linter.unusedSimpArgs false
namespace Go.Proofs.YtfcnmdmbkoekcaaGreatDoor
open Go.RowKit Go.Proofs.Kl
theorem want_next (f : ByteArray → Bool) (prev : Option ByteArray) (x : E) (want z1 z2 z3 z4 : Int) (h1 : (if f x.path = false then (1 : Int) else 0) = z1) (h2 : (if lateB prev x.path = true then (10 : Int) else 0) = z2) (h3 : (if farB x.size x.time = true then (7 : Int) else 0) = z3) (h4 : (if kindsB x.sums = false then (5 : Int) else 0) = z4) :
    (if want ≠ 0 then want else chk f prev x) = if firstL [want, z1, z2, z3, z4] ≠ 0 then firstL [want, z1, z2, z3, z4] else if formsB x.sums = true then 0 else 6 := by
  subst h1 h2 h3 h4
  unfold chk
  simp only [firstL]
  by_cases hw : want = 0
  · subst hw
    cases hf : f x.path <;> cases hl : lateB prev x.path <;> cases hr : farB x.size x.time <;> cases hk : kindsB x.sums <;> cases ho : formsB x.sums <;> simp
  · simp [hw]
/-- values laid into the slots of operations, one by one. -/
def putsL (a : Act) : List Oper → List Value → Act
  | o :: l, x :: xs => putsL (a.put o.dst x) l xs
  | _, _ => a
/-- a stretch of operations whose last one yields v, whatever the others lay. -/
theorem quiet_seq {P : Program} {ops : Array Oper} {C : World → Prop} {Q : Act → Prop} : ∀ (l1 l2 : List Oper) (a : Act) (S : Act → Prop), wpQuiet P ops C S l1 a → (∀ a', S a' → wpQuiet P ops C Q l2 a') → wpQuiet P ops C Q (l1 ++ l2) a
  | [], l2, a, S, h, hr => hr _ h
  | o :: l1, l2, a, S, h, hr => by
    unfold wpQuiet at h
    show wpQuiet P ops C Q (o :: (l1 ++ l2)) a
    unfold wpQuiet
    split
    · rename_i hw
      rw [if_pos hw] at h
      exact Oper.quiet_mono (fun a' ha' => quiet_seq l1 l2 a' S ha' hr) h
    · rename_i hw
      rw [if_neg hw] at h
      exact quiet_seq l1 l2 _ S h hr
theorem quiet_part {P : Program} {ops : Array Oper} {C : World → Prop} {Q : Act → Prop} {l : List Oper} {a : Act} (n : Nat) (v : Value)
    (h : wpQuiet P ops C (fun a' => ∃ xs : List Value, xs.length = n ∧ a' = putsL a (l.take (n + 1)) (xs ++ [v])) (l.take (n + 1)) a)
    (hr : ∀ xs : List Value, xs.length = n → wpQuiet P ops C Q (l.drop (n + 1)) (putsL a (l.take (n + 1)) (xs ++ [v]))) : wpQuiet P ops C Q l a := by
  have := quiet_seq (Q := Q) (l.take (n + 1)) (l.drop (n + 1)) a _ h (fun a' ⟨xs, hx, ha⟩ => by rw [ha]; exact hr xs hx)
  rwa [List.take_append_drop] at this
theorem nil_3 {a a' : Act} {l : List Oper} {v : Value} (x0 x1 x2 : Value) (h : a' = putsL a l ([x0, x1, x2] ++ [v])) : ∃ xs : List Value, xs.length = 3 ∧ a' = putsL a l (xs ++ [v]) := ⟨[x0, x1, x2], rfl, h⟩
theorem nil_4 {a a' : Act} {l : List Oper} {v : Value} (x0 x1 x2 x3 : Value) (h : a' = putsL a l ([x0, x1, x2, x3] ++ [v])) : ∃ xs : List Value, xs.length = 4 ∧ a' = putsL a l (xs ++ [v]) := ⟨[x0, x1, x2, x3], rfl, h⟩
theorem nil_6 {a a' : Act} {l : List Oper} {v : Value} (x0 x1 x2 x3 x4 x5 : Value) (h : a' = putsL a l ([x0, x1, x2, x3, x4, x5] ++ [v])) : ∃ xs : List Value, xs.length = 6 ∧ a' = putsL a l (xs ++ [v]) := ⟨[x0, x1, x2, x3, x4, x5], rfl, h⟩
theorem nil_11 {a a' : Act} {l : List Oper} {v : Value} (x0 x1 x2 x3 x4 x5 x6 x7 x8 x9 x10 : Value) (h : a' = putsL a l ([x0, x1, x2, x3, x4, x5, x6, x7, x8, x9, x10] ++ [v])) : ∃ xs : List Value, xs.length = 11 ∧ a' = putsL a l (xs ++ [v]) := ⟨[x0, x1, x2, x3, x4, x5, x6, x7, x8, x9, x10], rfl, h⟩
theorem list_3 {xs : List Value} (h : xs.length = 3) : ∃ a b c, xs = [a, b, c] := by
  match xs, h with
  | [a, b, c], _ => exact ⟨a, b, c, rfl⟩
theorem list_4 {xs : List Value} (h : xs.length = 4) : ∃ a b c d, xs = [a, b, c, d] := by
  match xs, h with
  | [a, b, c, d], _ => exact ⟨a, b, c, d, rfl⟩
theorem list_6 {xs : List Value} (h : xs.length = 6) : ∃ a b c d e f, xs = [a, b, c, d, e, f] := by
  match xs, h with
  | [a, b, c, d, e, f], _ => exact ⟨a, b, c, d, e, f, rfl⟩
theorem list_11 {xs : List Value} (h : xs.length = 11) : ∃ a b c d e f g h i j k, xs = [a, b, c, d, e, f, g, h, i, j, k] := by
  match xs, h with
  | [a, b, c, d, e, f, g, h, i, j, k], _ => exact ⟨a, b, c, d, e, f, g, h, i, j, k, rfl⟩
theorem far_eq {sz tm : Int} {f3 na nb : Bool} (h3 : farB sz tm = f3) (ha : (decide (0 ≤ sz) && decide (sz ≤ 1048576)) = !na) (hb : (decide (0 ≤ tm) && decide (tm ≤ 4611686018427387904)) = !nb) : f3 = (na || nb) := by
  have ea : na = !(decide (0 ≤ sz) && decide (sz ≤ 1048576)) := by rw [ha]; simp
  have eb : nb = !(decide (0 ≤ tm) && decide (tm ≤ 4611686018427387904)) := by rw [hb]; simp
  rw [← h3, ea, eb]
  unfold farB
  by_cases g1 : sz < 0 <;> by_cases g2 : 1048576 < sz <;> by_cases g3 : tm < 0 <;> by_cases g4 : 4611686018427387904 < tm <;> simp [g1, g2, g3, g4] <;> omega
/-- whether the first of the kinds is not as it should be. -/
def kindsA : List (Int × ByteArray) → Bool
  | [x, _] => x.1 != 1
  | _ => true
theorem late_some (q p : ByteArray) : lateB (some q) p = !decide (cmpL q.data.toList p.data.toList < 0) := by
  show decide (0 ≤ cmpL q.data.toList p.data.toList) = _
  by_cases hc : cmpL q.data.toList p.data.toList < 0
  · rw [decide_eq_true hc, decide_eq_false (by omega)]; rfl
  · rw [decide_eq_false hc, decide_eq_true (by omega)]; rfl
theorem isHex_all (s : ByteArray) (n : Nat) (h : Bool) (w : World) (hh : hexAll s n = h) (hs : s.size ≤ 9000000000000000000) : Calls Tryz.prog 15 #[.string s, .int .i64 (n : Int)] w fun e w' => e = .returned (.bool h) ∧ w' = w :=
  (isHex_ok s (n : Int) w hs).mono fun e w' ⟨he, hw⟩ => ⟨by rw [he, hexAll_eq, hh], hw⟩
theorem two_of {l : List (Int × ByteArray)} {ll : Nat} (h : ((ll : Int) != 2) = false) (hl : l.length = ll) : ∃ xk xt yk yt, l = [(xk, xt), (yk, yt)] := by
  have h2 : l.length = 2 := by simp at h; omega
  match l, h2 with
  | [(a, s), (b, t)], _ => exact ⟨a, s, b, t, rfl⟩
theorem kindsA_no {l : List (Int × ByteArray)} {ll : Nat} (h : ((ll : Int) != 2) = true) (hl : l.length = ll) : kindsA l = true := by
  have h2 : l.length ≠ 2 := by simp at h; omega
  match l, h2 with
  | [], _ => rfl
  | [_], _ => rfl
  | [_, _], h => exact absurd rfl h
  | _ :: _ :: _ :: _, _ => rfl
theorem kindsA_yes {l : List (Int × ByteArray)} (h : kindsA l = false) : ∃ xt yk yt, l = [(1, xt), (yk, yt)] := by
  match l, h with
  | [(a, s), (b, t)], h =>
    have : a = 1 := by unfold kindsA at h; simpa using h
    subst this
    exact ⟨s, b, t, rfl⟩
theorem kindsB_no {l : List (Int × ByteArray)} (h : kindsA l = true) : kindsB l = false := by
  cases hb : kindsB l with
  | false => rfl
  | true =>
    obtain ⟨t1, t2, rfl⟩ := kinds_two hb
    unfold kindsA at h
    simp at h
theorem five_new (w : World) (a b c d e : Int) : ∀ (i : Nat) (v : Int), [a, b, c, d, e][i]? = some v → (w.alloc (.cells #[.int .i64 a, .int .i64 b, .int .i64 c, .int .i64 d, .int .i64 e] 24)).cell? ⟨w.heap.size, i, none⟩ = some (.int .i64 v) := by
  intro i v hi
  rw [(Blk.new w 24 #[.int .i64 a, .int .i64 b, .int .i64 c, .int .i64 d, .int .i64 e]).cell i]
  rcases (show i = 0 ∨ i = 1 ∨ i = 2 ∨ i = 3 ∨ i = 4 ∨ 5 ≤ i by omega) with rfl | rfl | rfl | rfl | rfl | h
  · cases hi; rfl
  · cases hi; rfl
  · cases hi; rfl
  · cases hi; rfl
  · cases hi; rfl
  · rw [List.getElem?_eq_none (by simpa using h)] at hi; cases hi
theorem when_eq (b : Bool) (n x : Int) (w : World) (h : (if b = true then n else 0) = x) : Calls Tryz.prog 12 #[.bool b, .int .i64 n] w fun e w' => e = .returned (.int .i64 x) ∧ w' = w := by rw [← h]; exact when_ok b n w
theorem firstL_zero {a b c d e : Int} (h : firstL [a, b, c, d, e] = 0) : a = 0 ∧ b = 0 ∧ c = 0 ∧ d = 0 ∧ e = 0 := by
  simp only [firstL] at h
  by_cases h1 : a = 0
  · by_cases h2 : b = 0
    · by_cases h3 : c = 0
      · by_cases h4 : d = 0
        · by_cases h5 : e = 0
          · exact ⟨h1, h2, h3, h4, h5⟩
          · simp [h1, h2, h3, h4, h5] at h
        · simp [h1, h2, h3, h4] at h
      · simp [h1, h2, h3] at h
    · simp [h1, h2] at h
  · simp [h1] at h
theorem newClock0_ok (w : World) : Calls Tryz.prog 6 #[.int .i64 0] w fun e w' => e = .returned (.pointer (some ⟨w.heap.size, 0, none⟩)) ∧ Below w.heap.size w w' := by
  go_enter Tryz.func6, Tryz.ntmps6
  go_wp2_with fail
  go_ret
  exact ⟨rfl, by go_grown⟩
set_option maxRecDepth 100000 in
set_option maxHeartbeats 16000000 in
theorem law_ok (a : Option Addr) (cap : Nat) (ls : List Ent) (w : World) (g : Gl w) (hkn : KN w) (hrow : KRow w a ls) (hp : ∀ x ∈ ls, x.path.size ≤ 1048576) (ht : ∀ x ∈ ls, ∀ z ∈ x.sums, z.2.size ≤ 1048576) (hn : ls.length ≤ 1048576) :
    Calls Tryz.prog 3 #[.slice a ls.length cap] w fun e w' => e = .returned (.bool true) ∧ Below w.heap.size w w' := by
  have HP := Lib.hid hp
  have HT := Lib.hid ht
  have GG := Lib.hid (fun wx (hb : Below w.heap.size w wx) => g.below hb)
  have KK := Lib.hid (fun wx (hb : Below w.heap.size w wx) => hkn.below hb)
  have HR := Lib.hid (fun wx (hb : Below w.heap.size w wx) => hrow.below hb)
  obtain ⟨n, hnn⟩ : ∃ n, ls.length = n := ⟨_, rfl⟩
  rw [hnn] at hn ⊢
  have HN := Lib.hid hnn
  clear g hkn hrow hp ht hnn
  go_enter Tryz.func3, Tryz.ntmps3
  go_wp2_with fail
  refine (wide_ok w).mono ?_
  rintro e w1 ⟨rfl, hb1⟩
  go_wp2_with fail
  refine (newClock0_ok w1).mono ?_
  rintro e w2 ⟨rfl, hb2⟩
  have hb := hb1.trans (hb2.mono hb1.size)
  have HB2 := Lib.hid hb
  have g2 := GG.out _ hb
  obtain ⟨mx, hmx⟩ := g2.max
  obtain ⟨tv, _, htv⟩ := g2.tab 0 (by decide)
  have HNW := Lib.hid (new_ok wideT w1.heap.size w2 (World.block_lt_of_cell? _ _ hmx) (World.block_lt_of_cell? _ _ htv) checkFeatures_ok)
  clear hb hb1 hb2 g2 hmx htv
  go_wp2_with fail
  refine HNW.out.mono ?_
  rintro e w3 ⟨q, rfl, hqc, hq, hb3⟩
  have HQ := Lib.hid hq
  have HB3 := Lib.hid (HB2.out.trans (hb3.mono HB2.out.size))
  clear hq hqc hb3 HNW HB2
  go_wp2_with fail
  refine (wraps_ok w3 (GG.out _ HB3.out)).mono ?_
  rintro e w4 ⟨rfl, hb4⟩
  have HB4 := Lib.hid (HB3.out.trans (hb4.mono HB3.out.size))
  have HFM := Lib.hid (HQ.out.feat.below hb4)
  clear hb4 HB3 HQ
  go_wp2_with fail
  have HB5 := Lib.hid (HB4.out.alloc HB4.out.size (.cells #[.int .i64 2, .int .i64 1] 3))
  have HC := Blk.new w4 3 #[.int .i64 2, .int .i64 1]
  have HF5 := Lib.hid (HFM.out.below ((Below.refl w4.heap.size w4).alloc (Nat.le_refl _) (.cells #[.int .i64 2, .int .i64 1] 3)))
  have HKP := Lib.hid (keep_ok q.m w4.heap.size 2 (w4.alloc (.cells #[.int .i64 2, .int .i64 1] 3)) HF5.out (KK.out _ HB5.out) (Nat.le_refl _) (HC.cell 0) (HC.cell 1))
  clear HC HFM HB4
  generalize (w4.alloc (.cells #[.int .i64 2, .int .i64 1] 3)) = w5 at *
  refine HKP.out.mono ?_
  rintro e w6 ⟨kb, gb, cp, mb, ub, rfl, hkm, hown, hlo, hgk, hb6⟩
  have HB6 := Lib.hid (HB5.out.trans (hb6.mono HB5.out.size))
  have HKM := Lib.hid hkm
  have HOW := Lib.hid hown
  have hkm2 : kb ≠ q.m := by
    obtain ⟨_, _, _, _, _, _, _, _, _, _, _, hm⟩ := HF5.out.h
    have := hm.lt
    omega
  have HKW := Lib.hid (Nat.le_trans HB5.out.size hlo)
  have HLD0 := load_ok a cap ls q.m kb gb cp mb ub w6 (GG.out _ HB6.out) hkm (HR.out _ HB6.out) HP.out HT.out (by rw [HN.out]; exact hn) (by omega) hkm2
  rw [HN.out] at HLD0
  have HLD := Lib.hid HLD0
  clear HLD0 hkm hown hlo hgk hb6 hkm2 HKP HB5 HF5
  go_wp2_with fail
  refine HLD.out.mono ?_
  rintro e w7 hpost
  obtain ⟨F, hF⟩ : ∃ F, errOf fileB none (ls.map Ent.e) = F := ⟨_, rfl⟩
  have hen : e = .returned (.int .i64 F) ∧ Below w.heap.size w w7 ∧ ∀ wx, Below w7.heap.size w7 wx → Calls Tryz.prog 16 #[pt kb] wx fun e w' => ∃ a c, ∃ out : List Ent, e = .returned (.slice a out.length c) ∧ out.map Ent.e = (if F = 0 then ls.map Ent.e else []) ∧ KRow w' a out ∧ Below wx.heap.size wx w' := by
    rcases hpost with ⟨h0, he, hb⟩ | ⟨h0, he, mb', n', D, vs, hkm, hown, hM, hvs, hsv, hkp⟩
    · rw [hF] at h0 he
      refine ⟨he, HB6.out.trans (hb.mono HB6.out.size), fun wx hbx => ?_⟩
      rw [if_neg h0]
      have hb2 := hb.trans (hbx.mono hb.size)
      have hk2 := (HKM.out.below hb2).hk.cell 13
      exact entries_ok kb mb 0 (.map []) [] [] wx hk2 (HOW.out.kept (below_grown hb2 none) (by simp)) MapI.nil rfl List.Pairwise.nil (fun _ h => (by cases h)) (fun _ h => (by cases h)) (fun _ h => (by cases h)) (by simp)
    · rw [hF] at h0
      refine ⟨by rw [he, h0], HB6.out.trans (hkp.below HB6.out.size (by intro x hx; simp at hx; subst hx; exact HKW.out)), fun wx hbx => ?_⟩
      rw [if_pos h0]
      have hs0 := (errOf_sorted fileB _ none (hF.trans h0)).2
      have h20 := errOf_two fileB _ none (hF.trans h0)
      refine entries_ok kb mb' n' D vs (ls.map Ent.e) wx ((hkm.below hbx).hk.cell 13) (hown.kept (below_grown hbx none) (by simp)) hM hvs hs0 (fun x hx => (hsv x hx).below hbx) (fun x hx => ?_) (fun x hx => ?_) ?_
      · exact h20 x.e (by rw [← hvs]; exact List.mem_map.2 ⟨x, hx, rfl⟩)
      · have h1 : x.e ∈ ls.map Ent.e := by rw [← hvs]; exact List.mem_map.2 ⟨x, hx, rfl⟩
        obtain ⟨y, hy, he2⟩ := List.mem_map.1 h1
        have h2 : x.path = y.path := (congrArg E.path he2).symm
        rw [h2]
        exact HP.out y hy
      · have h1 := congrArg List.length hvs
        simp only [List.length_map] at h1
        rw [h1, HN.out]
        exact hn
  obtain ⟨rfl, hb7, hent⟩ := hen
  have HB7 := Lib.hid hb7
  have HENT := Lib.hid hent
  have HF := Lib.hid hF
  clear hpost hF hb7 hent HLD HKM HOW HB6 HKW
  go_wp2_with fail
  go_loopw [8, 37] (fun s x wr => ∃ (i : Nat) (z : Int), s = .int .i64 z ∧ x = .int .i64 (i : Int) ∧ i ≤ n ∧ Hid (errOf fileB none ((ls.take i).map Ent.e) = z) ∧ Below w7.heap.size w7 wr) (fun _ x _ => n - (intOf x).toNat)
  case atStart => exact ⟨0, 0, rfl, rfl, Nat.zero_le _, rfl, Below.refl _ _⟩
  case round =>
    obtain ⟨i, z, rfl, rfl, hi, HZ, hbr⟩ := hrel
    have HBR := Lib.hid hbr
    clear hbr
    by_cases hlt : i < n
    · obtain ⟨x, hx⟩ : ∃ x, ls[i]? = some x := ⟨_, List.getElem?_eq_getElem (by rw [HN.out]; exact hlt)⟩
      have hd : decide ((i : Int) < (n : Int)) = true := decide_eq_true (by omega)
      have hd' : decide (i < n) = true := decide_eq_true hlt
      have hlt' : (i : Int) < (n : Int) := by omega
      have HBW := Lib.hid (HB7.out.trans (HBR.out.mono HB7.out.size))
      obtain ⟨b, off, hab, hb, c0, c1, c2, c3, hsx⟩ := (HR.out wr HBW.out) i x hx
      subst hab
      have hmem : x ∈ ls := List.mem_of_getElem? hx
      have hpx := HP.out x hmem
      have htx := HT.out x hmem
      obtain ⟨prev, hprev, hpz, hpc⟩ : ∃ prev : ByteArray, (i = 0 ∨ ∃ j y, i = j + 1 ∧ ls[j]? = some y ∧ y.path = prev ∧ wr.cell? ⟨b, off + j * 4, none⟩ = some (.string prev)) ∧ prev.size ≤ 1048576 ∧ True := by
        cases i with
        | zero => exact ⟨x.path, Or.inl rfl, hpx, trivial⟩
        | succ j =>
          have hj : j < ls.length := by rw [HN.out]; omega
          obtain ⟨b', off', hab', _, e0, _⟩ := (HR.out wr HBW.out) j ls[j] (List.getElem?_eq_getElem hj)
          obtain ⟨rfl, rfl⟩ : b = b' ∧ off = off' := by simpa using hab'
          exact ⟨ls[j].path, Or.inr ⟨j, ls[j], rfl, List.getElem?_eq_getElem hj, rfl, e0⟩, HP.out _ (List.getElem_mem hj), trivial⟩
      have HPV := Lib.hid hprev
      have HX := Lib.hid hx
      have HSX := Lib.hid hsx
      have HBL := Lib.hid hb
      have HST := Lib.hid (show errOf fileB none ((ls.take (i + 1)).map Ent.e) = if z ≠ 0 then z else chk fileB (if i = 0 then none else some prev) x.e from by
        have h1 := errOf_take fileB (ls.map Ent.e) i x.e (by rw [List.getElem?_map, hx]; rfl)
        rw [← List.map_take, ← List.map_take, HZ.out] at h1
        rw [h1]
        congr 2
        rcases HPV.out with h0 | ⟨j, y, hj, hy, hyp, _⟩
        · rw [if_pos h0, if_pos h0]
        · rw [if_neg (by omega), if_neg (by omega), List.getElem?_map, show i - 1 = j by omega, hy, ← hyp]
          rfl)
      have HNO := Lib.hid (fun wx (hb : Below w.heap.size w wx) => namesOf_ok x.path wx (GG.out wx hb) hpx)
      clear hx hsx hb hmem hprev
      obtain ⟨p, sz, tm, sv, l⟩ := x
      simp only at c0 c1 c2 c3 hpx htx
      obtain ⟨aa, cpp, hsv, hsc⟩ := HSX.out
      simp only at hsv
      subst hsv
      have HSC := Lib.hid hsc
      have HBA := Lib.hid (HBR.out.alloc HBR.out.size (.cells #[.string p, .int .i64 sz, .int .i64 tm, .slice aa l.length cpp] 40))
      have HBA2 := Lib.hid (HBW.out.alloc HBW.out.size (.cells #[.string p, .int .i64 sz, .int .i64 tm, .slice aa l.length cpp] 40))
      have HXA := Lib.hid (Blk.new wr 40 #[.string p, .int .i64 sz, .int .i64 tm, .slice aa l.length cpp])
      clear hsc
      go_wp2_with fail
      refine (HNO.out _ HBA2.out).mono ?_
      rintro e w8 ⟨v8, rfl, hb8⟩
      have HX8 := Lib.hid (HXA.out.below hb8 (by simp))
      have HB8 := Lib.hid (HBA.out.trans (hb8.mono HBA.out.size))
      have HW8 := Lib.hid (HBA2.out.trans (hb8.mono HBA2.out.size))
      have HRW := Lib.hid (show Below wr.heap.size wr w8 from ((Below.refl wr.heap.size wr).alloc (Nat.le_refl _) _).trans (hb8.mono (by simp)))
      clear hb8 c0 c1 c2 c3 HBA HBA2 HXA HNO
      go_upto_region 11 with (fail)
      obtain ⟨xb, hxb⟩ : ∃ xb, wr.heap.size = xb := ⟨_, rfl⟩
      rw [hxb] at HX8 ⊢
      have HXB := Lib.hid hxb
      clear hxb
      have x0 := HX8.out.cell 0
      have x1 := HX8.out.cell 1
      have x2 := HX8.out.cell 2
      have x3 := HX8.out.cell 3
      simp at x0 x1 x2 x3
      obtain ⟨nis, hnis⟩ : ∃ nis, pathB p = !nis := ⟨!pathB p, by simp⟩
      rw [hnis]
      have HNIS := Lib.hid hnis
      clear hnis
      obtain ⟨f1, hf1⟩ : ∃ f1, (!fileB p) = f1 := ⟨_, rfl⟩
      have HF1 := Lib.hid (show ((!(!p.toList.isEmpty && !nis)) = f1) from by rw [← hf1]; unfold fileB; rw [HNIS.out])
      obtain ⟨ip, hip⟩ : ∃ ip, decide (0 < i) = ip := ⟨_, rfl⟩
      have hip1 : decide ((0 : Int) < (i : Int)) = ip := by rw [← hip]; simp
      have hip3 : decide ((i : Int) > 0) = ip := by rw [← hip]; simp
      obtain ⟨f2, hf2⟩ : ∃ f2, lateB (if i = 0 then none else some prev) p = f2 := ⟨_, rfl⟩
      obtain ⟨na, hna⟩ : ∃ na, (decide (0 ≤ sz) && decide (sz ≤ 1048576)) = !na := ⟨!(decide (0 ≤ sz) && decide (sz ≤ 1048576)), by simp⟩
      obtain ⟨nb, hnb⟩ : ∃ nb, (decide (0 ≤ tm) && decide (tm ≤ 4611686018427387904)) = !nb := ⟨!(decide (0 ≤ tm) && decide (tm ≤ 4611686018427387904)), by simp⟩
      obtain ⟨f3, hf3⟩ : ∃ f3, farB sz tm = f3 := ⟨_, rfl⟩
      have HF3 := Lib.hid (show f3 = (na || nb) from far_eq hf3 hna hnb)
      have CWA0 := fun w => within_ok sz 0 1048576 w
      have CWB0 := fun w => within_ok tm 0 4611686018427387904 w
      rw [hna] at CWA0
      rw [hnb] at CWB0
      have CWA := Lib.hid CWA0
      have CWB := Lib.hid CWB0
      obtain ⟨g1, hg1⟩ : ∃ g1, kindsA l = g1 := ⟨_, rfl⟩
      obtain ⟨f4, hf4⟩ : ∃ f4, (!kindsB l) = f4 := ⟨_, rfl⟩
      obtain ⟨ll, hll⟩ : ∃ ll, l.length = ll := ⟨_, rfl⟩
      rw [hll] at x3 ⊢
      obtain ⟨nl, hnl⟩ : ∃ nl, ((ll : Int) != 2) = nl := ⟨_, rfl⟩
      have HLL := Lib.hid hll
      clear hll
      obtain ⟨z1, hz1⟩ : ∃ z1 : Int, (if f1 = true then (1 : Int) else 0) = z1 := ⟨_, rfl⟩
      obtain ⟨z2, hz2⟩ : ∃ z2 : Int, (if f2 = true then (10 : Int) else 0) = z2 := ⟨_, rfl⟩
      obtain ⟨z3, hz3⟩ : ∃ z3 : Int, (if f3 = true then (7 : Int) else 0) = z3 := ⟨_, rfl⟩
      obtain ⟨z4, hz4⟩ : ∃ z4 : Int, (if f4 = true then (5 : Int) else 0) = z4 := ⟨_, rfl⟩
      have WH1 := Lib.hid (fun w => when_eq f1 1 z1 w hz1)
      have WH2 := Lib.hid (fun w => when_eq f2 10 z2 w hz2)
      have WH3 := Lib.hid (fun w => when_eq f3 7 z3 w hz3)
      have WH4 := Lib.hid (fun w => when_eq f4 5 z4 w hz4)
      obtain ⟨y1, hy1⟩ : ∃ y1, firstL [z, z1, z2, z3, z4] = y1 := ⟨_, rfl⟩
      have HNX := Lib.hid (show errOf fileB none ((ls.take (i + 1)).map Ent.e) = if y1 ≠ 0 then y1 else if formsB l = true then 0 else 6 from by
        rw [HST.out, ← hy1]
        refine want_next fileB _ ⟨p, sz, tm, l⟩ z z1 z2 z3 z4 ?_ ?_ ?_ ?_
        · rw [← hz1, ← hf1]; cases fileB p <;> rfl
        · rw [← hz2, ← hf2]
        · rw [← hz3, ← hf3]
        · rw [← hz4, ← hf4]; cases kindsB l <;> rfl)
      have HY1 := Lib.hid hy1
      have HG1 := Lib.hid hg1
      have HF4 := Lib.hid hf4
      have HF2 := Lib.hid hf2
      have HIP := Lib.hid hip
      have HNL := Lib.hid hnl
      have HYK := Lib.hid (show y1 = 0 → kindsB l = true from fun h0 => by
        rw [← HY1.out] at h0
        have := firstL_zero h0
        rw [this.2.2.2.2] at hz4
        cases hk : kindsB l
        · rw [hk] at hf4; rw [← hf4] at hz4; simp at hz4
        · rfl)
      clear hz1 hz2 hz3 hz4 hf1 hf2 hf3 hf4 hy1 hg1 hna hnb CWA0 CWB0
      go_cut [8] from 48 to 106 (fun s wx => s = .int .i64 y1 ∧ Below w8.heap.size w8 wx)
      case first =>
        refine wp_region_quiet_tail 57 (by kernel_rfl) (by kernel_rfl) ?_
        simp only [Nat.reduceAdd, List.take_succ_cons, List.take_zero, List.drop_succ_cons, List.drop_zero]
        iterate 4 (go_big_quiet_step (fail))
        refine quiet_part 3 (.bool f1) ?_ ?_
        · simp only [Nat.reduceAdd, List.take_succ_cons, List.take_zero, List.drop_succ_cons, List.drop_zero]
          cases nis
          · cases h1 : p.toList.isEmpty
            · obtain rfl : f1 = false := by rw [← HF1.out, h1]; rfl
              iterate 4 (go_big_quiet_step (fail))
              refine wpQuiet_nil ?_
              apply nil_3
              simp only [Nat.reduceAdd, List.take_succ_cons, List.take_zero, List.drop_succ_cons, List.drop_zero, List.cons_append, List.nil_append, putsL, Act.put, List.setIfInBounds_toArray, List.set_cons_zero, List.set_cons_succ]
              rfl
            · obtain rfl : f1 = true := by rw [← HF1.out, h1]; rfl
              iterate 4 (go_big_quiet_step (fail))
              refine wpQuiet_nil ?_
              apply nil_3
              simp only [Nat.reduceAdd, List.take_succ_cons, List.take_zero, List.drop_succ_cons, List.drop_zero, List.cons_append, List.nil_append, putsL, Act.put, List.setIfInBounds_toArray, List.set_cons_zero, List.set_cons_succ]
              rfl
          · obtain rfl : f1 = true := by rw [← HF1.out]; simp
            iterate 4 (go_big_quiet_step (fail))
            refine wpQuiet_nil ?_
            apply nil_3
            simp only [Nat.reduceAdd, List.take_succ_cons, List.take_zero, List.drop_succ_cons, List.drop_zero, List.cons_append, List.nil_append, putsL, Act.put, List.setIfInBounds_toArray, List.set_cons_zero, List.set_cons_succ]
            rfl
        rintro xs hxs
        obtain ⟨u0_, u1_, u2_, rfl⟩ := list_3 hxs
        clear hxs
        simp only [Nat.reduceAdd, List.take_succ_cons, List.take_zero, List.drop_succ_cons, List.drop_zero, List.cons_append, List.nil_append, putsL, Act.put, List.setIfInBounds_toArray, List.set_cons_zero, List.set_cons_succ]
        go_big_quiet_step ((go_at_call 12; exact Calls.quiet_of_same (WH1.out _)))
        iterate 3 (go_big_quiet_step (fail))
        refine quiet_part 11 (.bool f2) ?_ ?_
        · simp only [Nat.reduceAdd, List.take_succ_cons, List.take_zero, List.drop_succ_cons, List.drop_zero]
          cases ip
          · have hi0 : i = 0 := by have h := of_decide_eq_false HIP.out; omega
            obtain rfl : f2 = false := by rw [← HF2.out, if_pos hi0]; rfl
            clear hi0
            iterate 12 (go_big_quiet_step (fail))
            refine wpQuiet_nil ?_
            apply nil_11
            simp only [Nat.reduceAdd, List.take_succ_cons, List.take_zero, List.drop_succ_cons, List.drop_zero, List.cons_append, List.nil_append, putsL, Act.put, List.setIfInBounds_toArray, List.set_cons_zero, List.set_cons_succ]
            rfl
          · have hi0 : 0 < i := of_decide_eq_true HIP.out
            rcases HPV.out with h0 | ⟨j, y, hij, _, _, e0⟩
            · omega
            · have e1 := (HRW.out.cell (p := ⟨b, off + j * 4, none⟩) HBL.out).trans e0
              obtain ⟨bb, hbb⟩ : ∃ bb, decide (cmpL prev.data.toList p.data.toList < 0) = bb := ⟨_, rfl⟩
              obtain rfl : f2 = !bb := by
                rw [← HF2.out, if_neg (by omega), ← hbb]
                exact late_some prev p
              have BF0 := fun w => before_ok prev p w (by omega) (by omega)
              rw [hbb] at BF0
              have BF := Lib.hid BF0
              have hs1 : (i : Int) - 1 = (j : Int) := by omega
              have hw : IntKind.i64.wrap (j : Int) = (j : Int) := by
                have : j < 9223372036854775808 := by omega
                simp [IntKind.wrap, IntKind.bits, IntKind.signed]; omega
              have hm1 : max 0 (IntKind.i64.wrap (j : Int)) = (j : Int) := by rw [hw]; omega
              have hm2 : max 0 (j : Int) = (j : Int) := by omega
              have hjn : j < n := by omega
              have hjn' : (j : Int) < (n : Int) := by omega
              clear hij e0 hbb BF0 hi0
              iterate 9 (go_big_quiet_step (fail))
              go_big_quiet_step ((go_at_call 13; exact Calls.quiet_of (BF.out _)))
              iterate 2 (go_big_quiet_step (fail))
              refine wpQuiet_nil ?_
              apply nil_11
              simp only [Nat.reduceAdd, List.take_succ_cons, List.take_zero, List.drop_succ_cons, List.drop_zero, List.cons_append, List.nil_append, putsL, Act.put, List.setIfInBounds_toArray, List.set_cons_zero, List.set_cons_succ]
              rfl
        rintro xs hxs
        obtain ⟨u0_, u1_, u2_, u3_, u4_, u5_, u6_, u7_, u8_, u9_, u10_, rfl⟩ := list_11 hxs
        clear hxs
        simp only [Nat.reduceAdd, List.take_succ_cons, List.take_zero, List.drop_succ_cons, List.drop_zero, List.cons_append, List.nil_append, putsL, Act.put, List.setIfInBounds_toArray, List.set_cons_zero, List.set_cons_succ]
        go_big_quiet_step ((go_at_call 12; exact Calls.quiet_of_same (WH2.out _)))
        iterate 2 (go_big_quiet_step (fail))
        go_big_quiet_step ((go_at_call 14; exact Calls.quiet_of_same (CWA.out _)))
        iterate 2 (go_big_quiet_step (fail))
        refine quiet_part 4 (.bool f3) ?_ ?_
        · simp only [Nat.reduceAdd, List.take_succ_cons, List.take_zero, List.drop_succ_cons, List.drop_zero]
          cases na
          · obtain rfl : f3 = nb := by rw [HF3.out]; rfl
            iterate 2 (go_big_quiet_step (fail))
            go_big_quiet_step ((go_at_call 14; exact Calls.quiet_of_same (CWB.out _)))
            iterate 2 (go_big_quiet_step (fail))
            refine wpQuiet_nil ?_
            apply nil_4
            simp only [Nat.reduceAdd, List.take_succ_cons, List.take_zero, List.drop_succ_cons, List.drop_zero, List.cons_append, List.nil_append, putsL, Act.put, List.setIfInBounds_toArray, List.set_cons_zero, List.set_cons_succ]
            rfl
          · obtain rfl : f3 = true := by rw [HF3.out]; rfl
            iterate 5 (go_big_quiet_step (fail))
            refine wpQuiet_nil ?_
            apply nil_4
            simp only [Nat.reduceAdd, List.take_succ_cons, List.take_zero, List.drop_succ_cons, List.drop_zero, List.cons_append, List.nil_append, putsL, Act.put, List.setIfInBounds_toArray, List.set_cons_zero, List.set_cons_succ]
            rfl
        rintro xs hxs
        obtain ⟨u0_, u1_, u2_, u3_, rfl⟩ := list_4 hxs
        clear hxs
        simp only [Nat.reduceAdd, List.take_succ_cons, List.take_zero, List.drop_succ_cons, List.drop_zero, List.cons_append, List.nil_append, putsL, Act.put, List.setIfInBounds_toArray, List.set_cons_zero, List.set_cons_succ]
        go_big_quiet_step ((go_at_call 12; exact Calls.quiet_of_same (WH3.out _)))
        iterate 5 (go_big_quiet_step (fail))
        refine quiet_part 6 (.bool g1) ?_ ?_
        · simp only [Nat.reduceAdd, List.take_succ_cons, List.take_zero, List.drop_succ_cons, List.drop_zero]
          cases nl
          · obtain ⟨xk, xt, yk, yt, hl⟩ := two_of HNL.out HLL.out
            obtain ⟨b2, off2, rfl, hbl, d0, d1, d2, d3⟩ := HSC.out (xk, xt) (yk, yt) hl
            have e0 := (HRW.out.cell (p := ⟨b2, off2, none⟩) hbl).trans d0
            obtain rfl : ll = 2 := by rw [← HLL.out, hl]; rfl
            obtain rfl : g1 = (xk != 1) := by rw [← HG1.out, hl]; rfl
            clear d0 d1 d2 d3
            iterate 7 (go_big_quiet_step (fail))
            refine wpQuiet_nil ?_
            apply nil_6
            simp only [Nat.reduceAdd, List.take_succ_cons, List.take_zero, List.drop_succ_cons, List.drop_zero, List.cons_append, List.nil_append, putsL, Act.put, List.setIfInBounds_toArray, List.set_cons_zero, List.set_cons_succ]
            rfl
          · obtain rfl : g1 = true := by rw [← HG1.out]; exact kindsA_no HNL.out HLL.out
            iterate 7 (go_big_quiet_step (fail))
            refine wpQuiet_nil ?_
            apply nil_6
            simp only [Nat.reduceAdd, List.take_succ_cons, List.take_zero, List.drop_succ_cons, List.drop_zero, List.cons_append, List.nil_append, putsL, Act.put, List.setIfInBounds_toArray, List.set_cons_zero, List.set_cons_succ]
            rfl
        rintro xs hxs
        obtain ⟨u0_, u1_, u2_, u3_, u4_, u5_, rfl⟩ := list_6 hxs
        clear hxs
        simp only [Nat.reduceAdd, List.take_succ_cons, List.take_zero, List.drop_succ_cons, List.drop_zero, List.cons_append, List.nil_append, putsL, Act.put, List.setIfInBounds_toArray, List.set_cons_zero, List.set_cons_succ]
        iterate 1 (go_big_quiet_step (fail))
        refine quiet_part 6 (.bool f4) ?_ ?_
        · simp only [Nat.reduceAdd, List.take_succ_cons, List.take_zero, List.drop_succ_cons, List.drop_zero]
          cases g1
          · obtain ⟨xt, yk, yt, hl⟩ := kindsA_yes HG1.out
            obtain ⟨b2, off2, rfl, hbl, d0, d1, d2, d3⟩ := HSC.out (1, xt) (yk, yt) hl
            have e0 := (HRW.out.cell (p := ⟨b2, off2 + 2, none⟩) hbl).trans d2
            obtain rfl : ll = 2 := by rw [← HLL.out, hl]; rfl
            obtain rfl : f4 = (yk != 2) := by
              rw [← HF4.out, hl]
              unfold kindsB
              cases hy : (yk != 2) <;> simp at hy <;> simp [hy]
            clear d0 d1 d2 d3
            iterate 7 (go_big_quiet_step (fail))
            refine wpQuiet_nil ?_
            apply nil_6
            simp only [Nat.reduceAdd, List.take_succ_cons, List.take_zero, List.drop_succ_cons, List.drop_zero, List.cons_append, List.nil_append, putsL, Act.put, List.setIfInBounds_toArray, List.set_cons_zero, List.set_cons_succ]
            rfl
          · obtain rfl : f4 = true := by rw [← HF4.out, kindsB_no HG1.out]; rfl
            iterate 7 (go_big_quiet_step (fail))
            refine wpQuiet_nil ?_
            apply nil_6
            simp only [Nat.reduceAdd, List.take_succ_cons, List.take_zero, List.drop_succ_cons, List.drop_zero, List.cons_append, List.nil_append, putsL, Act.put, List.setIfInBounds_toArray, List.set_cons_zero, List.set_cons_succ]
            rfl
        rintro xs hxs
        obtain ⟨u0_, u1_, u2_, u3_, u4_, u5_, rfl⟩ := list_6 hxs
        clear hxs
        simp only [Nat.reduceAdd, List.take_succ_cons, List.take_zero, List.drop_succ_cons, List.drop_zero, List.cons_append, List.nil_append, putsL, Act.put, List.setIfInBounds_toArray, List.set_cons_zero, List.set_cons_succ]
        go_big_quiet_step ((go_at_call 12; exact Calls.quiet_of_same (WH4.out _)))
        refine wpQuiet_nil ?_
        rintro w9 ⟨nq, hw9⟩
        have HB9 := Lib.hid (show Below w8.heap.size w8 w9 from by rw [hw9]; exact below_drewN2 (Below.refl _ _) _)
        clear hw9
        have HFC0 := (fun (wx : World) => first_ok wx.heap.size 5 [z, z1, z2, z3, z4] (wx.alloc (.cells #[.int .i64 z, .int .i64 z1, .int .i64 z2, .int .i64 z3, .int .i64 z4] 24)) rfl (by omega) (five_new wx z z1 z2 z3 z4))
        rw [HY1.out] at HFC0
        have HFC := Lib.hid HFC0
        clear HFC0
        go_wp2_with fail
        refine (HFC.out w9).mono ?_
        rintro e w10 ⟨rfl, rfl⟩
        go_wp2_with fail
        go_meet
        exact ⟨rfl, HB9.out.alloc HB9.out.size _⟩
      case rest =>
        obtain ⟨rfl, hb9⟩ := hcut
        have HBC := Lib.hid (HRW.out.trans (hb9.mono HRW.out.size))
        have HB9 := Lib.hid (HB8.out.trans (hb9.mono HB8.out.size))
        have HX9 := Lib.hid (HX8.out.below hb9 HX8.out.lt)
        have HNXi := HNX.out
        clear hb9 HX8 HB8 HRW x0 x1 x2 x3 hip1 hip3 CWA CWB WH1 WH2 WH3 WH4
        generalize hyy : y1 = y at *
        have HYY := Lib.hid hyy
        clear hyy
        by_cases hz : y = 0
        · obtain ⟨t1, t2, hl⟩ := kinds_two (HYK.out hz)
          obtain ⟨b2, off2, rfl, hbl, d0, d1, d2, d3⟩ := HSC.out (1, t1) (2, t2) hl
          have e1 := (HBC.out.cell (p := ⟨b2, off2 + 1, none⟩) hbl).trans d1
          have e3 := (HBC.out.cell (p := ⟨b2, off2 + 3, none⟩) hbl).trans d3
          obtain rfl : ll = 2 := by rw [← HLL.out, hl]; rfl
          have x3 := HX9.out.cell 3
          simp at x3
          rw [HLL.out] at x3
          have hq1 := htx (1, t1) (by rw [hl]; simp)
          have hq2 := htx (2, t2) (by rw [hl]; simp)
          simp only at hq1 hq2
          obtain ⟨h1, hh1⟩ : ∃ h1, hexAll t1 8 = h1 := ⟨_, rfl⟩
          obtain ⟨h2, hh2⟩ : ∃ h2, hexAll t2 32 = h2 := ⟨_, rfl⟩
          have IH1 := Lib.hid (fun w => isHex_all t1 8 h1 w hh1 (by omega))
          have IH2 := Lib.hid (fun w => isHex_all t2 32 h2 w hh2 (by omega))
          rw [if_neg (fun h => h hz), hl] at HNXi
          have HNXj := Lib.hid (show errOf fileB none ((ls.take (i + 1)).map Ent.e) = if (h1 && h2) = true then 0 else 6 from by rw [HNXi, ← hh1, ← hh2]; rfl)
          subst hz
          clear hl hbl d0 d1 d2 d3 hh1 hh2 HNXi hq1 hq2 htx
          cases h1
          · go_wp2_with fail
            refine (IH1.out _).mono ?_
            rintro e w10 ⟨rfl, rfl⟩
            go_wp2_with fail
            go_roundw
            case rel => exact ⟨i + 1, 6, rfl, by go_num, hlt, HNXj.out, HB9.out⟩
            case measure => simp [intOf]; omega
          · cases h2
            · go_wp2_with fail
              refine (IH1.out _).mono ?_
              rintro e w10 ⟨rfl, rfl⟩
              go_wp2_with fail
              refine (IH2.out _).mono ?_
              rintro e w10 ⟨rfl, rfl⟩
              go_wp2_with fail
              go_roundw
              case rel => exact ⟨i + 1, 6, rfl, by go_num, hlt, HNXj.out, HB9.out⟩
              case measure => simp [intOf]; omega
            · go_wp2_with fail
              refine (IH1.out _).mono ?_
              rintro e w10 ⟨rfl, rfl⟩
              go_wp2_with fail
              refine (IH2.out _).mono ?_
              rintro e w10 ⟨rfl, rfl⟩
              go_wp2_with fail
              go_roundw
              case rel => exact ⟨i + 1, 0, rfl, by go_num, hlt, HNXj.out, HB9.out⟩
              case measure => simp [intOf]; omega
        · have hz1 : (y == 0) = false := by simpa using hz
          rw [if_pos hz] at HNXi
          have HNXj := Lib.hid HNXi
          clear hz HNXi
          go_wp2_with fail
          go_roundw
          case rel => exact ⟨i + 1, y, rfl, by go_num, hlt, HNXj.out, HB9.out⟩
          case measure => simp [intOf]; omega
    · have hd : decide ((i : Int) < (n : Int)) = false := decide_eq_false (by omega)
      have hd' : decide (i < n) = false := decide_eq_false hlt
      have hz : z = F := by
        have h := HZ
        rw [List.take_of_length_le (by rw [HN.out]; omega)] at h
        exact h.symm.trans HF.out
      subst hz
      have HEN := Lib.hid (HENT.out wr HBR.out)
      have HBW := Lib.hid (HB7.out.trans (HBR.out.mono HB7.out.size))
      clear HENT
      by_cases hf : z = 0
      · have h2 := Lib.hid (errOf_two fileB _ none (HF.out.trans hf))
        have HE2 := HEN.out
        rw [if_pos hf] at HE2
        have HE3 := Lib.hid HE2
        subst hf
        clear HE2 HEN
        go_wp2_with fail
        refine HE3.out.mono ?_
        rintro e w8 ⟨a', c', out, rfl, ho, hr, hb8⟩
        have HB8 := Lib.hid (HBW.out.trans (hb8.mono HBW.out.size))
        have hol : out.length = n := by
          have h := congrArg List.length ho
          simp only [List.length_map] at h
          rw [h, HN.out]
        have HQ0 := eqKept_ok out ls a' a c' cap w8 ho hr (HR.out _ HB8.out) (fun x hx => h2.out x.e (by rw [← ho]; exact List.mem_map.2 ⟨x, hx, rfl⟩)) (by omega)
        rw [hol, HN.out] at HQ0
        rw [hol]
        have HQ := Lib.hid HQ0
        clear HQ0 ho hr hb8 hol
        go_wp2_with fail
        refine HQ.out.mono ?_
        rintro e w9 ⟨rfl, hb9⟩
        have HB9 := Lib.hid (HB8.out.trans (hb9.mono HB8.out.size))
        clear hb9 HQ
        go_wp2_with fail
        go_ret
        exact ⟨rfl, HB9.out⟩
      · have hne : (z != 0) = true := by simpa using hf
        have hee : (z == z) = true := by simp
        have HE2 := HEN.out
        rw [if_neg hf] at HE2
        have HE3 := Lib.hid HE2
        clear HE2 HEN hf
        go_wp2_with fail
        refine HE3.out.mono ?_
        rintro e w8 ⟨a', c', out, rfl, ho, hr, hb8⟩
        have HB8 := Lib.hid (HBW.out.trans (hb8.mono HBW.out.size))
        have hol : out = [] := by simpa using ho
        subst hol
        clear ho hr hb8
        go_wp2_with fail
        go_ret
        exact ⟨rfl, HB8.out⟩
end Go.Proofs.YtfcnmdmbkoekcaaGreatDoor
