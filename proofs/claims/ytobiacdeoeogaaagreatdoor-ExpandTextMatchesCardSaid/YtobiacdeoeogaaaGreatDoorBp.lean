import Derived.Test.YtobiacdeoeogaaaGreatDoorBn
import Derived.Test.YtobiacdeoeogaaaGreatDoorBl
import Derived.Test.YtobiacdeoeogaaaGreatDoorAi
set_option linter.unusedVariables false
set_option linter.unusedSimpArgs false
namespace Go.Proofs.YtobiacdeoeogaaaGreatDoor
open Go.RowKit
set_option maxRecDepth 100000 in
set_option maxHeartbeats 4000000 in
theorem of1A_ok (t : ByteArray) (w : World) (ht : t.size ≤ 1048576) : Calls Tryz.prog 50 #[.int .i64 1, .string t] w fun e w' => e = .returned (.tuple #[.string ⟨(hexL (wordB ((4294967295 ^^^ crcL 4294967295 t.data.toList : Nat) : Int))).toArray⟩, .int .i64 0]) ∧ Below w.heap.size w w' := by
  have hgt : ¬ (t.size : Int) > 1048576 := by omega
  have hgd : decide ((t.size : Int) > 1048576) = false := decide_eq_false hgt
  go_enter Tryz.func50, Tryz.ntmps50
  go_wp2_with fail
  refine (known_ok 1 (by omega) (by omega) w).mono ?_
  rintro e w1 ⟨rfl, rfl⟩
  go_wp2_with fail
  refine (newMaker1_ok w1).mono ?_
  rintro e w2 ⟨rfl, hM, hb⟩
  have hlt := hM.lt
  have HM := Lib.hid hM
  have HB := Lib.hid hb
  clear hM hb
  go_wp2_with fail
  refine (crcWriteA_ok w1.heap.size 4294967295 t w2 (by decide) (by omega) HM.out).mono ?_
  rintro e w3 ⟨rfl, hM3, hk3⟩
  have c3 := hM3.cell 0
  have HB3 := Lib.hid (HB.out.trans (hk3.below HB.out.size (by simp)))
  have hsz3 := HB3.out.size
  clear hM3 hk3 HM HB
  have hx := crcL_lt t.data.toList (show 4294967295 < 4294967296 by decide)
  obtain ⟨x, hX⟩ : ∃ x, crcL 4294967295 t.data.toList = x := ⟨_, rfl⟩
  rw [hX] at hx c3
  have HX := Lib.hid hX
  clear hX
  go_wp2_with fail
  refine (crcSum_ok w1.heap.size x w3 hx c3).mono ?_
  rintro e w4 ⟨rfl, hb4⟩
  have HB4 := Lib.hid (HB3.out.trans (hb4.mono hsz3))
  clear hb4
  go_wp2_with fail
  go_ret2
  exact ⟨by rw [HX.out]; rfl, HB4.out⟩
set_option maxRecDepth 100000 in
set_option maxHeartbeats 4000000 in
theorem crcBytesA_ok (t : ByteArray) (w : World) (ht : t.size ≤ 1048576) : Calls Tryz.prog 25 #[.string t] w fun e w' => e = .returned (.string ⟨(wordB ((crcOf t.data.toList : Nat) : Int)).toArray⟩) ∧ Below w.heap.size w w' := by
  have hl : (wordB ((crcOf t.data.toList : Nat) : Int)).length = 4 := rfl
  have C := of1A_ok t w ht
  rw [show (4294967295 ^^^ crcL 4294967295 t.data.toList) = crcOf t.data.toList from rfl] at C
  generalize wordB ((crcOf t.data.toList : Nat) : Int) = l4 at *
  have HC := Lib.hid C
  clear C
  go_enter Tryz.func25, Tryz.ntmps25
  go_wp2_with fail
  refine (HC.out).mono ?_
  rintro e w1 ⟨rfl, hb⟩
  have HB := Lib.hid hb
  have hsz := hb.size
  clear hb HC
  go_wp2_with fail
  refine (decode_ok l4 w1 (by omega)).mono ?_
  rintro e w2 ⟨rfl, hb⟩
  have HB2 := Lib.hid (HB.out.trans (hb.mono hsz))
  clear hb
  go_wp2_with fail
  go_ret
  exact ⟨rfl, HB2.out⟩
end Go.Proofs.YtobiacdeoeogaaaGreatDoor

set_option linter.unusedVariables false
set_option linter.unusedSimpArgs false
namespace Go.Proofs.YtobiacdeoeogaaaGreatDoor
open Go.RowKit
/-- where a row lies that a text was appended to. -/
theorem append_str_at {P : Program} (w : World) (base : Nat) (t u ty e : TypeId) (i : TypeInfo) (ht : P.underlying t = some (.slice e)) (hu : P.underlying u = some .string) (hi : P.info? e = some i) (hz : i.zero = some (.int .u8 0)) (hsize : i.size = 1) (hby : i.bytes = 1)
    (v : Value) (n : Nat) (xs : List Value) (hown : w.ownsRow base e 1 v n xs) (s : ByteArray) (h63 : n + s.size ≤ maxLen) (hbytes : n + s.size ≤ 140737488355328) (hbase : base ≤ w.heap.size) :
    ∃ v' w', (Builtin.append_ #[t, u] ty #[v, .string s]).run P w = .ok v' w' ∧ w'.ownsRow base e 1 v' (n + s.size) (xs ++ Lib.strCells s) ∧ w.grownBy w' v.ownBlock ∧ (v'.ownBlock = v.ownBlock ∨ ∃ g, v'.ownBlock = some g ∧ w.heap.size ≤ g) := by
  obtain ⟨v', w', hr, h2, h3, _⟩ := Lib.run_append_own_string (P := P) w base t u ty e i ht hu hi hz hsize hby v n xs hown s h63 hbytes hbase
  refine ⟨v', w', hr, h2, h3, ?_⟩
  have hsmall : n + s.size ≤ 9223372036854775807 := by simp only [maxLen] at h63; omega
  have hxl : xs.length = n := by simpa using hown.1
  rcases hown.2 with ⟨rfl, rfl⟩ | ⟨g, cap, cur, rfl, hbg, hg, hnc, hcm, hcs, htake⟩
  · obtain ⟨v2, w2, hr2, h4, _, _⟩ := Lib.run_append_own_string (P := P) w w.heap.size t u ty e i ht hu hi hz hsize hby (.slice none 0 0) 0 [] (World.ownsRow_nil _ _ _ _) s h63 hbytes (Nat.le_refl _)
    rw [hr] at hr2
    obtain ⟨rfl, rfl⟩ : v' = v2 ∧ w' = w2 := by simpa using hr2
    rcases h4.2 with ⟨rfl, _⟩ | ⟨g, cap, cur, rfl, hb, _⟩
    · exact Or.inl rfl
    · exact Or.inr ⟨g, rfl, hb⟩
  · by_cases hroom : n + s.size ≤ cap
    · have hr2 := Lib.run_append_room_string (P := P) w t u ty e i ht hu hi hsize g n cap cur hg s hroom (by omega)
      rw [hr] at hr2
      obtain ⟨rfl, rfl⟩ : v' = _ ∧ w' = _ := by simpa using hr2
      exact Or.inl rfl
    · have hr2 := Lib.run_append_grow_string (P := P) w t u ty e i (.int .u8 0) ht hu hi hz ⟨g, 0, none⟩ n cap xs (by rw [hsize]; simpa using hxl) (hown.cells (g := g) rfl) s (by omega) (by omega) (by rw [hby]; exact growslice_fits (by omega) (by omega))
      rw [hr] at hr2
      obtain ⟨rfl, rfl⟩ : v' = _ ∧ w' = _ := by simpa using hr2
      exact Or.inr ⟨_, rfl, Nat.le_refl _⟩
theorem wpList_append_str_at {P : Program} (w : World) {ops : Array Oper} {rest : List Oper} {o : Oper} {a : Act} {Q : Exit → Act → World → Prop} (hgd : o.guard = none) (sl x : Operand) (t u : TypeId)
    (ho : o.op = .call { callee := .builtin .append, args := #[sl, x], argTypes := #[t, u] })
    (base : Nat) (e : TypeId) (i : TypeInfo) (ht : P.underlying t = some (.slice e)) (hu : P.underlying u = some .string) (hi : P.info? e = some i) (hz : i.zero = some (.int .u8 0)) (hsize : i.size = 1) (hby : i.bytes = 1)
    (v : Value) (n : Nat) (xs : List Value) (hs : a.eval sl = v) (hown : w.ownsRow base e 1 v n xs) (s : ByteArray) (hx : a.eval x = .string s)
    (h63 : n + s.size ≤ maxLen) (hbytes : n + s.size ≤ 140737488355328) (hbase : base ≤ w.heap.size)
    (h : ∀ v' w', w'.ownsRow base e 1 v' (n + s.size) (xs ++ Lib.strCells s) → w.grownBy w' v.ownBlock → (v'.ownBlock = v.ownBlock ∨ ∃ g, v'.ownBlock = some g ∧ w.heap.size ≤ g) → wpList P ops Q rest (a.put o.dst v') w') : wpList P ops Q (o :: rest) a w := by
  refine wpList_plain hgd fun K hK => ?_
  obtain ⟨v', w', hr, h2, h3, h4⟩ := append_str_at (P := P) w base t u o.type e i ht hu hi hz hsize hby v n xs hown s h63 hbytes hbase
  unfold Oper.wp execOp
  simp only [ho, resolve, invoke, builtin, Sem.run_bind, Sem.run_pure, Result.andThen_ok, List.map_toArray, List.map_cons, List.map_nil, hs, hx, hr]
  exact hK _ _ (h v' w' h2 h3 h4)
/-- all old blocks but b and the row of v are as they were. -/
structure Kv (b : Nat) (v : Value) (w w' : World) : Prop where
  os : w'.os = w.os
  tape : w'.tape = w.tape
  output : w'.output = w.output
  size : w.heap.size ≤ w'.heap.size
  block : ∀ i, i < w.heap.size → i ≠ b → some i ≠ v.ownBlock → w'.heap[i]? = w.heap[i]?
set_option maxRecDepth 100000 in
set_option maxHeartbeats 4000000 in
theorem ws2_ok {R b : Nat} {a v : Value} {l : List UInt8} (t : ByteArray) (w : World) (hR : R ≤ w.heap.size) (hB : Blk w b 50 #[a, v]) (ha : a = .pointer none ∨ a = pt b) (hO : w.ownsRow R 5 1 v l.length (Lib.byteCells l)) (hlen : l.length + t.size ≤ 140737488355328) :
    Calls Tryz.prog 21 #[pt b, .string t] w fun e w' => e = .returned (.tuple #[.int .i64 t.size, .nilIface]) ∧ (∃ v', Blk w' b 50 #[pt b, v'] ∧ w'.ownsRow R 5 1 v' (l ++ t.data.toList).length (Lib.byteCells (l ++ t.data.toList)) ∧ (v'.ownBlock = v.ownBlock ∨ ∃ g, v'.ownBlock = some g ∧ w.heap.size ≤ g)) ∧ Kv b v w w' := by
  obtain ⟨i0, hi0, hi1, hi2, hi3⟩ := info_parts info5
  have HC := Lib.hid (copyCheck_ok b a v w hB ha)
  have hne := own_ne hO hB (by decide)
  have HO := Lib.hid hO
  clear hB hO
  go_enter Tryz.func21, Tryz.ntmps21
  go_wp2_with fail
  refine HC.out.mono ?_
  rintro e w1 ⟨rfl, hB1, hk1⟩
  have hO1 := own_kp HO.out hk1 (fun c hc => by simpa using hne c hc)
  have HO1 := Lib.hid hO1
  have HB1 := Lib.hid hB1
  have HK1 := Lib.hid hk1
  have c1 := hB1.cell 1
  simp at c1
  have hws : R ≤ w1.heap.size := Nat.le_trans hR hk1.size
  clear HC HO hB1 hk1 hO1
  go_wp2_with (at_builtin; refine wpList_append_str_at _ rfl _ _ 32 9 rfl R 5 i0 Tryz.underlying32 Tryz.underlying9 hi0 hi1 hi2 hi3 _ _ _ rfl HO1.out t rfl ?c1 ?c2 ?c3 ?_)
  case c1 => unfold maxLen; omega
  case c2 => omega
  case c3 => exact hws
  intro v' w2 hown hgrow hloc
  have HLOC := Lib.hid hloc
  clear hloc
  obtain ⟨p', m', c', rfl⟩ : ∃ p m c, v' = .slice p m c := by
    rcases hown.2 with ⟨rfl, _⟩ | ⟨g', cap', cur, h, _⟩
    · exact ⟨_, _, _, rfl⟩
    · exact ⟨_, _, _, h⟩
  have hB2 : Blk w2 b 50 #[pt b, v] := (hgrow.block b HB1.out.lt (fun e => hne b e.symm rfl)).trans HB1.out
  have hge : ∀ g, v.ownBlock = some g → R ≤ g := fun g hg => by
    rcases HO1.out.2 with ⟨rfl, _⟩ | ⟨g', cap', cur, rfl, hb', _⟩
    · cases hg
    · obtain rfl : g' = g := Option.some.inj hg
      exact hb'
  have c2 := hB2.cell 1
  have f2 := hB2.frozen 1
  simp at c2
  have HB2 := Lib.hid hB2
  have HON := Lib.hid (show w2.ownsRow R 5 1 (.slice p' m' c') (l ++ t.data.toList).length (Lib.byteCells (l ++ t.data.toList)) from by
    have e : Lib.byteCells (l ++ t.data.toList) = Lib.byteCells l ++ Lib.strCells t := by simp [Lib.byteCells, Lib.strCells]
    rw [e, List.length_append, ← Lib.size_eq]
    exact hown)
  have HG := Lib.hid hgrow
  have HGE := Lib.hid hge
  clear hB2 hown hgrow hge
  go_wp2_with fail
  go_ret2
  have k2 : Kp [b] w2 (w2.setCell ⟨b, 1, none⟩ (.slice p' m' c')) := (Kp.refl _ w2).setCell _ _ (Or.inl (by simp))
  have k1 := HK1.out
  have hg := HG.out
  refine ⟨rfl, ⟨_, HB2.out.set 1 _, own_kp HON.out k2 (fun x hx => by simpa using own_ne HON.out HB2.out (by decide) x hx), ?_⟩, ?_⟩
  · rcases HLOC.out with h | ⟨g, h1, h2⟩
    · exact Or.inl h
    · exact Or.inr ⟨g, h1, Nat.le_trans k1.size h2⟩
  refine ⟨k2.os.trans (hg.os.trans k1.os), k2.tape.trans (hg.tape.trans k1.tape), k2.output.trans (hg.output.trans k1.output), Nat.le_trans k1.size (Nat.le_trans hg.size k2.size), fun i hi hn hv => ?_⟩
  have e1 := k1.block i hi (by simpa using hn)
  have e2 := hg.block i (by have := k1.size; omega) hv
  have e3 := k2.block i (by have := hg.size; have := k1.size; omega) (by simpa using hn)
  exact e3.trans (e2.trans e1)
/-- two builders side by side. -/
structure TB (B b1 b2 : Nat) (l1 l2 : List UInt8) (w : World) : Prop where
  h : ∃ a1 v1 a2 v2, Blk w b1 50 #[a1, v1] ∧ (a1 = .pointer none ∨ a1 = pt b1) ∧ w.ownsRow B 5 1 v1 l1.length (Lib.byteCells l1) ∧ Blk w b2 50 #[a2, v2] ∧ (a2 = .pointer none ∨ a2 = pt b2) ∧ w.ownsRow B 5 1 v2 l2.length (Lib.byteCells l2) ∧ ∀ g, v1.ownBlock = some g → v2.ownBlock ≠ some g
  ne : b1 ≠ b2
  le1 : B ≤ b1
  le2 : B ≤ b2
theorem TB.symm {B b1 b2 : Nat} {l1 l2 : List UInt8} {w : World} (h : TB B b1 b2 l1 l2 w) : TB B b2 b1 l2 l1 w := by
  obtain ⟨⟨a1, v1, a2, v2, h1, h2, h3, h4, h5, h6, h7⟩, hn, hl, hm⟩ := h
  exact ⟨⟨a2, v2, a1, v1, h4, h5, h6, h1, h2, h3, fun g hg e => h7 g e hg⟩, fun e => hn e.symm, hm, hl⟩
theorem own_lt {w : World} {base e size n g : Nat} {v : Value} {xs : List Value} (h : w.ownsRow base e size v n xs) (hv : v.ownBlock = some g) : base ≤ g ∧ g < w.heap.size := by
  rcases h.2 with ⟨rfl, _⟩ | ⟨g', cap, cur, rfl, hb, hg, _⟩
  · cases hv
  · obtain rfl : g' = g := Option.some.inj hv
    exact ⟨hb, lt_of_blk hg⟩
theorem own_same {w w' : World} {base e size n : Nat} {v : Value} {xs : List Value} (h : w.ownsRow base e size v n xs) (hb : ∀ g, v.ownBlock = some g → w'.heap[g]? = w.heap[g]?) : w'.ownsRow base e size v n xs := by
  obtain ⟨h1, h2⟩ := h
  refine ⟨h1, ?_⟩
  rcases h2 with h2 | ⟨g, cap, cur, rfl, hb', hg, r⟩
  · exact Or.inl h2
  · exact Or.inr ⟨g, cap, cur, rfl, hb', (hb g rfl).trans hg, r⟩
theorem TB.write {B b1 b2 : Nat} {l1 l2 : List UInt8} {w : World} (h : TB B b1 b2 l1 l2 w) (t : ByteArray) (hlen : l1.length + t.size ≤ 140737488355328) :
    Calls Tryz.prog 21 #[pt b1, .string t] w fun e w' => e = .returned (.tuple #[.int .i64 t.size, .nilIface]) ∧ TB B b1 b2 (l1 ++ t.data.toList) l2 w' ∧ Below B w w' := by
  obtain ⟨⟨a1, v1, a2, v2, h1, h2, h3, h4, h5, h6, h7⟩, hn, hl, hm⟩ := h
  have hB : B ≤ w.heap.size := Nat.le_trans hl (Nat.le_of_lt h1.lt)
  refine (ws2_ok t w hB h1 h2 h3 hlen).mono ?_
  rintro e w' ⟨rfl, ⟨v', hB', hO', hloc⟩, k⟩
  have hb2 : Blk w' b2 50 #[a2, v2] := (k.block b2 h4.lt (fun e => hn e.symm) (fun e => own_ne h3 h4 (by decide) b2 e.symm rfl)).trans h4
  refine ⟨rfl, ⟨⟨pt b1, v', a2, v2, hB', Or.inr rfl, hO', hb2, h5, own_same h6 (fun g hg => ?_), fun g hg e => ?_⟩, hn, hl, hm⟩, ⟨k.os, k.tape, k.output, k.size, fun i hi => k.block i (by omega) (by omega) (fun e => ?_)⟩⟩
  · exact k.block g (own_lt h6 hg).2 (own_ne h6 h1 (by decide) g hg) (fun e => h7 g e.symm hg)
  · rcases hloc with h | ⟨g', h8, h9⟩
    · exact h7 g (h.symm.trans hg) e
    · rw [h8] at hg
      obtain rfl : g' = g := Option.some.inj hg
      have := (own_lt h6 e).2
      omega
  · have := (own_lt h3 e.symm).1
    omega
theorem TB.kp {B b1 b2 : Nat} {l1 l2 : List UInt8} {w w' : World} (h : TB B b1 b2 l1 l2 w) (k : Below w.heap.size w w') : TB B b1 b2 l1 l2 w' := by
  obtain ⟨⟨a1, v1, a2, v2, h1, h2, h3, h4, h5, h6, h7⟩, hn, hl, hm⟩ := h
  exact ⟨⟨a1, v1, a2, v2, h1.below k h1.lt, h2, own_same h3 (fun g hg => k.block g (own_lt h3 hg).2), h4.below k h4.lt, h5, own_same h6 (fun g hg => k.block g (own_lt h6 hg).2), h7⟩, hn, hl, hm⟩
end Go.Proofs.YtobiacdeoeogaaaGreatDoor
