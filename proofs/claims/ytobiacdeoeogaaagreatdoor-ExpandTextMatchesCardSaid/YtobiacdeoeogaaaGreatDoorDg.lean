import Derived.Test.YtobiacdeoeogaaaGreatDoorDb
import Derived.ArgAppend
set_option linter.unusedVariables false
set_option linter.unusedSimpArgs false
namespace Go.Proofs.YtobiacdeoeogaaaGreatDoor
open Go.RowKit
/-- bytes that stand from a block's head on, and may be written. -/
structure Rb (g : Nat) (l : List UInt8) (w : World) : Prop where
  cell : ∀ (j : Nat) (x : UInt8), l[j]? = some x → w.cell? ⟨g, j, none⟩ = some (.int .u8 (x.toNat : Int))
  fro : ∀ j, j < l.length → w.frozen? ⟨g, j, none⟩ = false
theorem Rb.below {g : Nat} {l : List UInt8} {w w' : World} (h : Rb g l w) (k : Below w.heap.size w w') (hg : g < w.heap.size) : Rb g l w' :=
  ⟨fun j x hj => (k.cell (p := ⟨g, j, none⟩) hg).trans (h.cell j x hj), fun j hj => (k.frozen (p := ⟨g, j, none⟩) hg).trans (h.fro j hj)⟩
theorem Rb.cut {g : Nat} {l : List UInt8} {w : World} (h : Rb g l w) (k : Nat) : Rb g (l.take k) w := by
  refine ⟨fun j x hj => ?_, fun j hj => h.fro j (by rw [List.length_take] at hj; omega)⟩
  rw [List.getElem?_take] at hj
  split at hj
  · exact h.cell j x hj
  · cases hj
theorem Rb.set {g : Nat} {l : List UInt8} {w : World} (h : Rb g l w) (i : Nat) (c : UInt8) (hi : i < l.length) : Rb g (l.set i c) (w.setCell ⟨g, i, none⟩ (.int .u8 (c.toNat : Int))) :=
  ⟨fun j x hj => by
    by_cases hji : j = i
    · subst hji
      rw [List.getElem?_set_self hi] at hj
      injection hj with hj
      subst hj
      exact World.cell?_setCell_same _ _ _ (h.cell j _ (List.getElem?_eq_getElem hi))
    · rw [List.getElem?_set_ne (fun e => hji e.symm)] at hj
      rw [World.cell?_setCell_other _ _ _ _ (by intro e; injection e with _ e; exact hji e.symm)]
      exact h.cell j x hj, fun j hj => by
    rw [World.frozen?_setCell]
    exact h.fro j (by rw [List.length_set] at hj; exact hj)⟩
theorem Rb.convAt {g : Nat} {l : List UInt8} {w : World} (h : Rb g l w) (o n cap : Nat) (hn : o + n ≤ l.length) : (convert 32 9 (.slice (some ⟨g, o, none⟩) n cap)).run Tryz.prog w = .ok (.string ⟨((l.drop o).take n).toArray⟩) w := by
  have hl : ((l.drop o).take n).length = n := by rw [List.length_take, List.length_drop]; omega
  have := run_convert_bytes_back (P := Tryz.prog) w 32 9 5 ⟨g, o, none⟩ cap ((l.drop o).take n) Tryz.underlying32 Tryz.underlying5 Tryz.underlying9 (fun j hj => by
    have e : (⟨g, o, none⟩ : Addr).add j = ⟨g, o + j, none⟩ := by unfold Addr.add; split <;> simp_all
    rw [e]
    refine h.cell (o + j) _ ?_
    have h2 : ((l.drop o).take n)[j]? = some ((l.drop o).take n)[j] := List.getElem?_eq_getElem hj
    rw [List.getElem?_take, if_pos (by omega), List.getElem?_drop] at h2
    exact h2)
  rw [hl] at this
  exact this
theorem Rb.conv {g : Nat} {l : List UInt8} {w : World} (h : Rb g l w) (cap n : Nat) (hn : n = l.length) : (convert 32 9 (.slice (some ⟨g, 0, none⟩) n cap)).run Tryz.prog w = .ok (.string ⟨l.toArray⟩) w := by
  have := h.convAt 0 n cap (by omega)
  rw [List.drop_zero, List.take_of_length_le (by omega)] at this
  exact this
theorem bytesRow_size_le (s : ByteArray) (cap : Nat) : s.size ≤ (bytesRow s cap).size := by
  have e : bytesRow s cap = s.data.map (fun b => Value.int .u8 b.toNat) ++ Array.replicate (cap - s.size) (.int .u8 0) := rfl
  rw [e, Array.size_append, Array.size_map]
  exact Nat.le_add_right _ _
theorem bytesRow_list (s : ByteArray) (cap j : Nat) (x : UInt8) (hj : s.data.toList[j]? = some x) : (bytesRow s cap)[j]? = some (.int .u8 (x.toNat : Int)) := by
  have hj2 : j < s.data.size := by
    have := (List.getElem?_eq_some_iff.1 hj).1
    simpa using this
  have h3 : s.data.toList[j]? = some s.data[j] := by simp [hj2]
  rw [h3] at hj
  injection hj with hj
  subst hj
  have h4 := bytesRow_at s cap j hj2
  rw [h4]
theorem frozen_row {w : World} {g j S : Nat} {cs : Array Value} {t : TypeId} (h : w.heap[g]? = some (.cells cs t (S, S + 1))) (hj : j < S) : w.frozen? ⟨g, j, none⟩ = false := by
  have h5 : ¬ S ≤ j := by omega
  simp [World.frozen?, h, h5]
/-- the bytes of a text, made anew. -/
theorem bytes_made (s : ByteArray) (w : World) : ∃ cap w', (convert 9 32 (.string s)).run Tryz.prog w = .ok (.slice (some ⟨w.heap.size, 0, none⟩) s.size cap) w' ∧ s.size ≤ cap ∧ Rb w.heap.size s.data.toList w' ∧ Below w.heap.size w w' ∧ w.heap.size < w'.heap.size := by
  have hr := run_bytes_of_string (P := Tryz.prog) w 9 32 5 s Tryz.underlying9 Tryz.underlying32 Tryz.underlying5
  have hge := grownCap_ge w s.size 0 5
  generalize grownCap w s.size 0 5 = cap at *
  have hsz : s.size ≤ (bytesRow s cap).size := by
    have h := bytesRow_size_le s cap
    exact h
  have hat := bytesRow_list s cap
  generalize bytesRow s cap = X at *
  have hnew : (w.drew.alloc (.cells X 5 (X.size, X.size + 1))).heap[w.heap.size]? = some (.cells X 5 (X.size, X.size + 1)) := heap_alloc_new w.drew _
  refine ⟨cap, _, hr, hge, ⟨fun j x hj => (cell_of_row _ w.heap.size j X _ _ hnew).trans (hat j x hj), fun j hj => frozen_row hnew ?_⟩, (Below.refl _ _).drew.alloc (Nat.le_refl _) _, by simp⟩
  rw [← Lib.size_eq] at hj
  omega
theorem below_setCells {B : Nat} {w : World} (b : Nat) (hb : B ≤ b) : ∀ (vs : List Value) (o : Nat) (w' : World), Below B w w' → Below B w (w'.setCells b o vs)
  | [], _, _, h => h
  | v :: r, o, w', h => below_setCells b hb r (o + 1) _ (h.setCell (p := ⟨b, o, none⟩) hb v)
theorem Rb.setCells {g : Nat} {l : List UInt8} {w : World} (h : Rb g l w) (o : Nat) (m : List UInt8) (hm : o + m.length ≤ l.length) : Rb g (l.take o ++ m) (w.setCells g o (Lib.byteCells m)) := by
  have hml : (Lib.byteCells m).length = m.length := by simp [Lib.byteCells]
  have hsome : ∀ j, j < (Lib.byteCells m).length → (w.cell? ⟨g, o + j, none⟩).isSome = true := fun j hj => by
    rw [h.cell (o + j) _ (List.getElem?_eq_getElem (by omega))]; rfl
  refine ⟨fun j x hj => ?_, fun j hj => ?_⟩
  · by_cases hjo : j < o
    · rw [List.getElem?_append_left (by rw [List.length_take]; omega), List.getElem?_take, if_pos hjo] at hj
      rw [World.cell?_setCells_out g _ o w ⟨g, j, none⟩ (fun _ _ => Or.inl hjo)]
      exact h.cell j x hj
    · have hlt : (l.take o).length = o := by rw [List.length_take]; omega
      rw [List.getElem?_append_right (by omega), hlt] at hj
      have hjm := (List.getElem?_eq_some_iff.1 hj).1
      have h2 := World.cell?_setCells_in g (Lib.byteCells m) o w hsome (j - o) (by omega)
      rw [show o + (j - o) = j by omega] at h2
      rw [h2]
      have h3 : (Lib.byteCells m)[j - o]? = some (.int .u8 (x.toNat : Int)) := by simp [Lib.byteCells, hj]
      rw [List.getElem?_eq_getElem (by omega)] at h3
      exact h3
  · rw [World.frozen?_setCells]
    rw [List.length_append, List.length_take] at hj
    exact h.fro j (by omega)
/-- what is appended where there is room. -/
theorem wpList_append_cells {P : Program} (w : World) {ops : Array Oper} {rest : List Oper} {o : Oper} {a : Act} {Q : Exit → Act → World → Prop} (hgd : o.guard = none) (sl x : Operand) (t : TypeId)
    (ho : o.op = .call { callee := .builtin .append, args := #[sl, x], argTypes := #[t, t] }) (e : TypeId) (i : TypeInfo) (ht : P.underlying t = some (.slice e)) (hi : P.info? e = some i)
    (b sLen sCap : Nat) (ad : Addr) (m c : Nat) (news : List Value) (hs : a.eval sl = .slice (some ⟨b, 0, none⟩) sLen sCap) (hx : a.eval x = .slice (some ad) m c) (hl : news.length = m * i.size) (hnews : ∀ j u, news[j]? = some u → w.cell? (ad.add j) = some u) (h1 : ∀ u ∈ news, u.oneCell' = true)
    (hroom : sLen + m ≤ sCap) (hc : ∀ j, j < news.length → (w.cell? ⟨b, 0 + sLen * i.size + j, none⟩).isSome = true) (hf : ∀ j, j < news.length → w.frozen? ⟨b, 0 + sLen * i.size + j, none⟩ = false)
    (h : wpList P ops Q rest (a.put o.dst (.slice (some ⟨b, 0, none⟩) (sLen + m) sCap)) (w.setCells b (0 + sLen * i.size) news)) : wpList P ops Q (o :: rest) a w := by
  refine wpList_plain hgd fun K hK => ?_
  have hr := run_append_room_cells (P := P) w t o.type e i ht hi b 0 sLen sCap ad m c news hl hnews h1 hroom hc hf
  unfold Oper.wp execOp
  simp only [ho, resolve, invoke, builtin, Sem.run_bind, Sem.run_pure, Result.andThen_ok, List.map_toArray, List.map_cons, List.map_nil, hs, hx, hr]
  exact hK _ _ h
end Go.Proofs.YtobiacdeoeogaaaGreatDoor

set_option linter.unusedVariables false
set_option linter.unusedSimpArgs false
namespace Go.Proofs.YtobiacdeoeogaaaGreatDoor
open Go.RowKit
set_option maxRecDepth 100000 in
set_option maxHeartbeats 8000000 in
theorem law4_out (n : Int) (text : ByteArray) (kind at' : Int) (c : Int) (w : World) (g : Gl w) (hn : n < 16 ∨ 16384 < n) :
    Calls Tryz.prog 4 #[.int .i64 n, .string text, .int .i64 kind, .int .i64 at', .int .u8 c] w fun e w' => e = .returned (.bool true) ∧ Below w.heap.size w w' := by
  have WW := Lib.hid (fun wx (hb : Below w.heap.size w wx) => wraps_ok wx (g.below hb))
  have GW := Lib.hid (show ∀ w, Calls Tryz.prog 9 #[.int .i64 n, .int .i64 16, .int .i64 16384] w fun e w' => e = .returned (.bool false) ∧ w' = w from fun w => by
    have := within_ok n 16 16384 w
    rw [show (decide ((16 : Int) ≤ n) && decide (n ≤ 16384)) = false by simp; omega] at this
    exact this)
  have B0 := Lib.hid (Below.refl w.heap.size w)
  clear g hn
  go_enter Tryz.func4, Tryz.ntmps4
  go_wp2_with fail
  refine (WW.out _ B0.out).mono ?_
  rintro e w1 ⟨rfl, hb1⟩
  have B1 := Lib.hid hb1
  clear hb1
  go_wp2_with fail
  refine (GW.out _).mono ?_
  rintro e w2 ⟨rfl, rfl⟩
  go_wp2_with fail
  refine (WW.out _ B1.out).mono ?_
  rintro e w3 ⟨rfl, hb3⟩
  have B3 := Lib.hid (B1.out.trans (hb3.mono B1.out.size))
  clear hb3
  go_wp2_with fail
  go_ret
  exact ⟨rfl, B3.out⟩
set_option maxRecDepth 100000 in
set_option maxHeartbeats 8000000 in
theorem law4_long (n : Int) (text : ByteArray) (kind at' : Int) (c : Int) (w : World) (g : Gl w) (h1 : 16 ≤ n) (h2 : n ≤ 16384) (h3 : 1000 < text.size) :
    Calls Tryz.prog 4 #[.int .i64 n, .string text, .int .i64 kind, .int .i64 at', .int .u8 c] w fun e w' => e = .returned (.bool true) ∧ Below w.heap.size w w' := by
  have WW := Lib.hid (fun wx (hb : Below w.heap.size w wx) => wraps_ok wx (g.below hb))
  have GW := Lib.hid (show ∀ w, Calls Tryz.prog 9 #[.int .i64 n, .int .i64 16, .int .i64 16384] w fun e w' => e = .returned (.bool true) ∧ w' = w from fun w => by
    have := within_ok n 16 16384 w
    rw [show (decide ((16 : Int) ≤ n) && decide (n ≤ 16384)) = true by simp; omega] at this
    exact this)
  have B0 := Lib.hid (Below.refl w.heap.size w)
  have hd : decide ((text.size : Int) > 1000) = true := decide_eq_true (by omega)
  have hd2 : (1000 : Int) < (text.size : Int) := by omega
  clear g
  go_enter Tryz.func4, Tryz.ntmps4
  go_wp2_with fail
  refine (WW.out _ B0.out).mono ?_
  rintro e w1 ⟨rfl, hb1⟩
  have B1 := Lib.hid hb1
  clear hb1
  go_wp2_with fail
  refine (GW.out _).mono ?_
  rintro e w2 ⟨rfl, rfl⟩
  go_wp2_with fail
  refine (WW.out _ B1.out).mono ?_
  rintro e w3 ⟨rfl, hb3⟩
  have B3 := Lib.hid (B1.out.trans (hb3.mono B1.out.size))
  clear hb3
  go_wp2_with fail
  go_ret
  exact ⟨rfl, B3.out⟩
end Go.Proofs.YtobiacdeoeogaaaGreatDoor

set_option linter.unusedVariables false
set_option linter.unusedSimpArgs false
namespace Go.Proofs.YtobiacdeoeogaaaGreatDoor
open Go.RowKit
set_option maxRecDepth 100000 in
set_option maxHeartbeats 16000000 in
theorem law4_k0 (n : Nat) (text : ByteArray) (kind at' : Int) (c : UInt8) (w : World) (g : Gl w) (h1 : 16 ≤ n) (h2 : n ≤ 16384) (h3 : text.size ≤ 1000) (ha1 : -9223372036854775808 ≤ at') (ha2 : at' ≤ 9223372036854775807) (u : Nat) (hku : IntKind.u64.wrap kind = (u : Int)) (hu : u % 3 = 0) :
    Calls Tryz.prog 4 #[.int .i64 (n : Int), .string text, .int .i64 kind, .int .i64 at', .int .u8 (c.toNat : Int)] w fun e w' => e = .returned (.bool true) ∧ Below w.heap.size w w' := by
  have WW := Lib.hid (fun wx (hb : Below w.heap.size w wx) => wraps_ok wx (g.below hb))
  have GW := Lib.hid (show ∀ w, Calls Tryz.prog 9 #[.int .i64 (n : Int), .int .i64 16, .int .i64 16384] w fun e w' => e = .returned (.bool true) ∧ w' = w from fun w => by
    have := within_ok (n : Int) 16 16384 w
    rw [show (decide ((16 : Int) ≤ (n : Int)) && decide ((n : Int) ≤ 16384)) = true by simp; omega] at this
    exact this)
  have B0 := Lib.hid (Below.refl w.heap.size w)
  have hd : decide ((text.size : Int) > 1000) = false := decide_eq_false (by omega)
  have hd2 : ¬ (1000 : Int) < (text.size : Int) := by omega
  have RT := fun w => refText_ok n text w h1 h2 (by omega)
  obtain ⟨sq, hsq⟩ : ∃ sq : ByteArray, (⟨(sqT n text.data.toList).toArray⟩ : ByteArray) = sq := ⟨_, rfl⟩
  rw [hsq] at RT
  have hql : sq.data.toList = sqT n text.data.toList := by rw [← hsq]
  have hmm : (text.size + n - 1) / n ≤ 63 := by
    have h4 := Nat.div_mul_le_self (text.size + n - 1) n
    cases hq : (text.size + n - 1) / n with
    | zero => omega
    | succ q =>
      rw [hq, Nat.succ_mul] at h4
      have h5 : q * 16 ≤ q * n := Nat.mul_le_mul_left q h1
      omega
  obtain ⟨m, hm⟩ : ∃ m, (text.size + n - 1) / n = m := ⟨_, rfl⟩
  have hqz : sq.size ≤ 1300 ∧ 16 + 4 * m ≤ sq.size := by
    rw [Lib.size_eq, hql]
    have h5 := sqT_size n text.data.toList h1 h2
    have h6 := sqT_len n text.data.toList
    have h7 := chunksOf_len (n := n) (by omega) _ text.data.toList (Nat.le_refl _)
    rw [← Lib.size_eq] at h5 h7
    rw [hm] at h5 h7
    rw [hm] at hmm
    rw [h7] at h6
    omega
  have hqz1 := hqz.1
  have hqz2 := hqz.2
  rw [hm] at hmm
  have hm1 : m ≤ 2000 := by omega
  have HMM := Lib.hid hm
  have GRT := Lib.hid RT
  obtain ⟨S0, hS0⟩ : ∃ S0, sq.data.toList = S0 := ⟨_, rfl⟩
  obtain ⟨N, hN⟩ : ∃ N, sq.size = N := ⟨_, rfl⟩
  rw [hN] at hqz1 hqz2
  have hSl : S0.length = N := by rw [← hS0, ← Lib.size_eq]; exact hN
  have MK := fun w => bytes_made sq w
  rw [hS0, hN] at MK
  have GMK := Lib.hid MK
  have HSL := Lib.hid hSl
  have hne : ((N : Int) == 0) = false := by simp; omega
  have hne2 : ¬ (N : Int) = 0 := by omega
  obtain ⟨r1, hr1⟩ : ∃ r1, at'.tmod (N : Int) = r1 := ⟨_, rfl⟩
  have hr1a : -(N : Int) < r1 ∧ r1 < (N : Int) := by
    rw [← hr1]
    have e1 := Int.tmod_lt_of_pos at' (show (0 : Int) < (N : Int) by omega)
    have e2 := Int.lt_tmod_of_pos at' (show (0 : Int) < (N : Int) by omega)
    exact ⟨e2, e1⟩
  have hr1b := hr1a.1
  have hr1c := hr1a.2
  obtain ⟨r2, hr2⟩ : ∃ r2 : Nat, r1 + (N : Int) = (r2 : Int) := ⟨(r1 + (N : Int)).toNat, by omega⟩
  have hr2b : r2 ≤ 3000 := by omega
  obtain ⟨k, hk⟩ : ∃ k, r2 % N = k := ⟨_, rfl⟩
  have hkN : k < N := by rw [← hk]; exact Nat.mod_lt _ (by omega)
  have hr3 : (r2 : Int).tmod (N : Int) = (k : Int) := by rw [← hk]; rfl
  have hr4 : (r2 : Int) % (N : Int) = (k : Int) := by rw [← hk]; rfl
  have hkN2 : (k : Int) < (N : Int) := by omega
  have hu3 : (u : Int).tmod 3 = 0 := by
    have e : (u : Int).tmod 3 = ((u % 3 : Nat) : Int) := rfl
    rw [e, hu]; rfl
  have hu4 : (u : Int) % 3 = 0 := by omega
  clear RT MK hsq hql hqz hmm hm hS0 hN hSl hr1a hk g hu
  go_enter Tryz.func4, Tryz.ntmps4
  go_wp2_with fail
  refine (WW.out _ B0.out).mono ?_
  rintro e w1 ⟨rfl, hb1⟩
  have B1 := Lib.hid hb1
  clear hb1 B0
  go_wp2_with fail
  refine (GW.out _).mono ?_
  rintro e w2 ⟨rfl, rfl⟩
  go_wp2_with fail
  refine (GRT.out _).mono ?_
  rintro e w3 ⟨rfl, hb3⟩
  have B3 := Lib.hid (B1.out.trans (hb3.mono B1.out.size))
  obtain ⟨cap, wb, hcv, hcap, hRb, hbb, hlt⟩ := GMK.out w3
  have HR := Lib.hid hRb
  have BB := Lib.hid (B3.out.trans (hbb.mono B3.out.size))
  have hgs := B3.out.size
  generalize w3.heap.size = gb at *
  clear hb3 B1 hRb hbb B3 GRT GMK hd hd2
  have hcapi : (N : Int) ≤ (cap : Int) := by omega
  have hkl : k < S0.length := by rw [HSL.out]; exact hkN
  obtain ⟨x0, hx0⟩ : ∃ x0, S0[k] = x0 := ⟨_, rfl⟩
  have hcell := HR.out.cell k x0 (by rw [List.getElem?_eq_getElem hkl, hx0])
  have hfro := HR.out.fro k hkl
  have hxor : bits .xor .u8 (x0.toNat : Int) (c.toNat : Int) = ((x0 ^^^ c).toNat : Int) := by
    have := u8_xor_nat x0.toNat c.toNat x0.toNat_lt c.toNat_lt
    rw [this, UInt8.toNat_xor]
  have HRS := Lib.hid (HR.out.set k (x0 ^^^ c) hkl)
  have BS := Lib.hid (BB.out.setCell (p := ⟨gb, k, none⟩) hgs (.int .u8 ((x0 ^^^ c).toNat : Int)))
  have hls : (S0.set k (x0 ^^^ c)).length = N := by rw [List.length_set]; exact HSL.out
  generalize x0 ^^^ c = y0 at *
  have hki : (k : Int) < (N : Int) := by omega
  clear hx0 HR BB
  go_upto_region 15 with (fail)
  clear hcell hfro hxor hcv
  obtain ⟨l, hl⟩ : ∃ l, S0.set k y0 = l := ⟨_, rfl⟩
  rw [hl] at HRS hls
  have hltl : gb < (wb.setCell ⟨gb, k, none⟩ (.int .u8 (y0.toNat : Int))).heap.size := by simpa using hlt
  generalize wb.setCell ⟨gb, k, none⟩ (.int .u8 (y0.toNat : Int)) = wc at *
  have HRL := HRS
  have BL := BS
  have hnl : N = l.length := hls.symm
  clear hls hl
  have HCV := Lib.hid (fun (wx : World) (hR : Rb gb l wx) => hR.conv cap N hnl)
  obtain ⟨S, hS⟩ : ∃ S : ByteArray, (⟨l.toArray⟩ : ByteArray) = S := ⟨_, rfl⟩
  rw [hS] at HCV
  have hSz : S.size = N := by rw [← hS, hnl]; rfl
  have hz4 : S.size ≤ 4000 := by omega
  have XT := Lib.hid (fun w => expandText_ok S w (by omega))
  have RX := Lib.hid (fun w => refExpand_ok S w hz4)
  have hcv1 := HCV.out _ HRL.out
  clear hS hSz hnl
  go_wp2_with fail
  refine (XT.out _).mono ?_
  rintro e w5 ⟨⟨x, xc, rfl, hx⟩, hb5⟩
  have HR5 := Lib.hid (HRL.out.below hb5 hltl)
  have B5 := Lib.hid (BL.out.trans (hb5.mono BL.out.size))
  have HX := Lib.hid hx
  have hcv2 := HCV.out _ HR5.out
  clear hcv1 hb5 hx BL HRL hltl
  go_wp2_with fail
  refine (RX.out _).mono ?_
  rintro e w6 ⟨⟨y, is, rfl, hy⟩, hb6⟩
  have B6 := Lib.hid (B5.out.trans (hb6.mono B5.out.size))
  have HY := Lib.hid hy
  clear hcv2 hb6 hy B5 HR5
  cases is
  · have hx2 : x = ⟨#[]⟩ ∧ xc = 18 := by
      rcases HX.out with ⟨_, b', g'⟩ | ⟨h1, h2, _⟩
      · rcases HY.out with ⟨h, _⟩ | ⟨_, h⟩
        · cases h
        · exact (h _ _ g').elim
      · exact ⟨h2, h1⟩
    obtain ⟨rfl, rfl⟩ := hx2
    clear HX HY
    go_wp2_with fail
    go_ret
    exact ⟨rfl, B6.out⟩
  · have hx2 : x = y ∧ xc = 0 := by
      rcases HY.out with ⟨_, b1, g1⟩ | ⟨h, _⟩
      · rcases HX.out with ⟨h1, b2, g2⟩ | ⟨_, _, h⟩
        · exact ⟨ba_extC (good_one g2 g1).2, h1⟩
        · exact (h _ _ g1).elim
      · cases h
    obtain ⟨rfl, rfl⟩ := hx2
    clear HX HY
    go_wp2_with fail
    go_ret
    exact ⟨rfl, B6.out⟩
set_option maxRecDepth 100000 in
set_option maxHeartbeats 16000000 in
theorem law4_k1 (n : Nat) (text : ByteArray) (kind at' : Int) (c : UInt8) (w : World) (g : Gl w) (h1 : 16 ≤ n) (h2 : n ≤ 16384) (h3 : text.size ≤ 1000) (ha1 : -9223372036854775808 ≤ at') (ha2 : at' ≤ 9223372036854775807) (u : Nat) (hku : IntKind.u64.wrap kind = (u : Int)) (hu : u % 3 = 1) :
    Calls Tryz.prog 4 #[.int .i64 (n : Int), .string text, .int .i64 kind, .int .i64 at', .int .u8 (c.toNat : Int)] w fun e w' => e = .returned (.bool true) ∧ Below w.heap.size w w' := by
  have WW := Lib.hid (fun wx (hb : Below w.heap.size w wx) => wraps_ok wx (g.below hb))
  have GW := Lib.hid (show ∀ w, Calls Tryz.prog 9 #[.int .i64 (n : Int), .int .i64 16, .int .i64 16384] w fun e w' => e = .returned (.bool true) ∧ w' = w from fun w => by
    have := within_ok (n : Int) 16 16384 w
    rw [show (decide ((16 : Int) ≤ (n : Int)) && decide ((n : Int) ≤ 16384)) = true by simp; omega] at this
    exact this)
  have B0 := Lib.hid (Below.refl w.heap.size w)
  have hd : decide ((text.size : Int) > 1000) = false := decide_eq_false (by omega)
  have hd2 : ¬ (1000 : Int) < (text.size : Int) := by omega
  have RT := fun w => refText_ok n text w h1 h2 (by omega)
  obtain ⟨sq, hsq⟩ : ∃ sq : ByteArray, (⟨(sqT n text.data.toList).toArray⟩ : ByteArray) = sq := ⟨_, rfl⟩
  rw [hsq] at RT
  have hql : sq.data.toList = sqT n text.data.toList := by rw [← hsq]
  have hmm : (text.size + n - 1) / n ≤ 63 := by
    have h4 := Nat.div_mul_le_self (text.size + n - 1) n
    cases hq : (text.size + n - 1) / n with
    | zero => omega
    | succ q =>
      rw [hq, Nat.succ_mul] at h4
      have h5 : q * 16 ≤ q * n := Nat.mul_le_mul_left q h1
      omega
  obtain ⟨m, hm⟩ : ∃ m, (text.size + n - 1) / n = m := ⟨_, rfl⟩
  have hqz : sq.size ≤ 1300 ∧ 16 + 4 * m ≤ sq.size := by
    rw [Lib.size_eq, hql]
    have h5 := sqT_size n text.data.toList h1 h2
    have h6 := sqT_len n text.data.toList
    have h7 := chunksOf_len (n := n) (by omega) _ text.data.toList (Nat.le_refl _)
    rw [← Lib.size_eq] at h5 h7
    rw [hm] at h5 h7
    rw [hm] at hmm
    rw [h7] at h6
    omega
  have hqz1 := hqz.1
  have hqz2 := hqz.2
  rw [hm] at hmm
  have hm1 : m ≤ 2000 := by omega
  have HMM := Lib.hid hm
  have GRT := Lib.hid RT
  obtain ⟨S0, hS0⟩ : ∃ S0, sq.data.toList = S0 := ⟨_, rfl⟩
  obtain ⟨N, hN⟩ : ∃ N, sq.size = N := ⟨_, rfl⟩
  rw [hN] at hqz1 hqz2
  have hSl : S0.length = N := by rw [← hS0, ← Lib.size_eq]; exact hN
  have MK := fun w => bytes_made sq w
  rw [hS0, hN] at MK
  have GMK := Lib.hid MK
  have HSL := Lib.hid hSl
  have hne : ((N : Int) == 0) = false := by simp; omega
  have hne2 : ¬ (N : Int) = 0 := by omega
  obtain ⟨r1, hr1⟩ : ∃ r1, at'.tmod (N : Int) = r1 := ⟨_, rfl⟩
  have hr1a : -(N : Int) < r1 ∧ r1 < (N : Int) := by
    rw [← hr1]
    have e1 := Int.tmod_lt_of_pos at' (show (0 : Int) < (N : Int) by omega)
    have e2 := Int.lt_tmod_of_pos at' (show (0 : Int) < (N : Int) by omega)
    exact ⟨e2, e1⟩
  have hr1b := hr1a.1
  have hr1c := hr1a.2
  obtain ⟨r2, hr2⟩ : ∃ r2 : Nat, r1 + (N : Int) = (r2 : Int) := ⟨(r1 + (N : Int)).toNat, by omega⟩
  have hr2b : r2 ≤ 3000 := by omega
  obtain ⟨k, hk⟩ : ∃ k, r2 % N = k := ⟨_, rfl⟩
  have hkN : k < N := by rw [← hk]; exact Nat.mod_lt _ (by omega)
  have hr3 : (r2 : Int).tmod (N : Int) = (k : Int) := by rw [← hk]; rfl
  have hr4 : (r2 : Int) % (N : Int) = (k : Int) := by rw [← hk]; rfl
  have hkN2 : (k : Int) < (N : Int) := by omega
  have hu3 : (u : Int).tmod 3 = 1 := by
    have e : (u : Int).tmod 3 = ((u % 3 : Nat) : Int) := rfl
    rw [e, hu]; rfl
  have hu4 : (u : Int) % 3 = 1 := by omega
  clear RT MK hsq hql hqz hmm hm hS0 hN hSl hr1a hk g hu
  go_enter Tryz.func4, Tryz.ntmps4
  go_wp2_with fail
  refine (WW.out _ B0.out).mono ?_
  rintro e w1 ⟨rfl, hb1⟩
  have B1 := Lib.hid hb1
  clear hb1 B0
  go_wp2_with fail
  refine (GW.out _).mono ?_
  rintro e w2 ⟨rfl, rfl⟩
  go_wp2_with fail
  refine (GRT.out _).mono ?_
  rintro e w3 ⟨rfl, hb3⟩
  have B3 := Lib.hid (B1.out.trans (hb3.mono B1.out.size))
  obtain ⟨cap, wb, hcv, hcap, hRb, hbb, hlt⟩ := GMK.out w3
  have HR := Lib.hid hRb
  have BB := Lib.hid (B3.out.trans (hbb.mono B3.out.size))
  have hgs := B3.out.size
  generalize w3.heap.size = gb at *
  clear hb3 B1 hRb hbb B3 GRT GMK hd hd2
  have hcapi : (N : Int) ≤ (cap : Int) := by omega
  have hkc : (k : Int) ≤ (cap : Int) := by omega
  have hkc2 : k ≤ cap := by omega
  go_upto_region 15 with (fail)
  clear hcv
  obtain ⟨l, hl⟩ : ∃ l, S0.take k = l := ⟨_, rfl⟩
  have HRL := Lib.hid (HR.out.cut k)
  rw [hl] at HRL
  have BL := BB
  have hltl := hlt
  have hnl : k = l.length := by rw [← hl, List.length_take, HSL.out]; omega
  clear hl
  have HCV := Lib.hid (fun (wx : World) (hR : Rb gb l wx) => hR.conv cap k hnl)
  obtain ⟨S, hS⟩ : ∃ S : ByteArray, (⟨l.toArray⟩ : ByteArray) = S := ⟨_, rfl⟩
  rw [hS] at HCV
  have hSz : S.size = k := by rw [← hS, hnl]; rfl
  have hz4 : S.size ≤ 4000 := by omega
  have XT := Lib.hid (fun w => expandText_ok S w (by omega))
  have RX := Lib.hid (fun w => refExpand_ok S w hz4)
  have hcv1 := HCV.out _ HRL.out
  clear hS hSz hnl
  go_wp2_with fail
  refine (XT.out _).mono ?_
  rintro e w5 ⟨⟨x, xc, rfl, hx⟩, hb5⟩
  have HR5 := Lib.hid (HRL.out.below hb5 hltl)
  have B5 := Lib.hid (BL.out.trans (hb5.mono BL.out.size))
  have HX := Lib.hid hx
  have hcv2 := HCV.out _ HR5.out
  clear hcv1 hb5 hx BL HRL hltl
  go_wp2_with fail
  refine (RX.out _).mono ?_
  rintro e w6 ⟨⟨y, is, rfl, hy⟩, hb6⟩
  have B6 := Lib.hid (B5.out.trans (hb6.mono B5.out.size))
  have HY := Lib.hid hy
  clear hcv2 hb6 hy B5 HR5
  cases is
  · have hx2 : x = ⟨#[]⟩ ∧ xc = 18 := by
      rcases HX.out with ⟨_, b', g'⟩ | ⟨h1, h2, _⟩
      · rcases HY.out with ⟨h, _⟩ | ⟨_, h⟩
        · cases h
        · exact (h _ _ g').elim
      · exact ⟨h2, h1⟩
    obtain ⟨rfl, rfl⟩ := hx2
    clear HX HY
    go_wp2_with fail
    go_ret
    exact ⟨rfl, B6.out⟩
  · have hx2 : x = y ∧ xc = 0 := by
      rcases HY.out with ⟨_, b1, g1⟩ | ⟨h, _⟩
      · rcases HX.out with ⟨h1, b2, g2⟩ | ⟨_, _, h⟩
        · exact ⟨ba_extC (good_one g2 g1).2, h1⟩
        · exact (h _ _ g1).elim
      · cases h
    obtain ⟨rfl, rfl⟩ := hx2
    clear HX HY
    go_wp2_with fail
    go_ret
    exact ⟨rfl, B6.out⟩
end Go.Proofs.YtobiacdeoeogaaaGreatDoor

set_option linter.unusedVariables false
set_option linter.unusedSimpArgs false
namespace Go.Proofs.YtobiacdeoeogaaaGreatDoor
open Go.RowKit
set_option maxRecDepth 100000 in
set_option maxHeartbeats 16000000 in
theorem law4_k2 (n : Nat) (text : ByteArray) (kind at' : Int) (c : UInt8) (w : World) (g : Gl w) (h1 : 16 ≤ n) (h2 : n ≤ 16384) (h3 : text.size ≤ 1000) (ha1 : -9223372036854775808 ≤ at') (ha2 : at' ≤ 9223372036854775807) (u : Nat) (hku : IntKind.u64.wrap kind = (u : Int)) (hu : u % 3 = 2) :
    Calls Tryz.prog 4 #[.int .i64 (n : Int), .string text, .int .i64 kind, .int .i64 at', .int .u8 (c.toNat : Int)] w fun e w' => e = .returned (.bool true) ∧ Below w.heap.size w w' := by
  have WW := Lib.hid (fun wx (hb : Below w.heap.size w wx) => wraps_ok wx (g.below hb))
  have GW := Lib.hid (show ∀ w, Calls Tryz.prog 9 #[.int .i64 (n : Int), .int .i64 16, .int .i64 16384] w fun e w' => e = .returned (.bool true) ∧ w' = w from fun w => by
    have := within_ok (n : Int) 16 16384 w
    rw [show (decide ((16 : Int) ≤ (n : Int)) && decide ((n : Int) ≤ 16384)) = true by simp; omega] at this
    exact this)
  have B0 := Lib.hid (Below.refl w.heap.size w)
  have hd : decide ((text.size : Int) > 1000) = false := decide_eq_false (by omega)
  have hd2 : ¬ (1000 : Int) < (text.size : Int) := by omega
  have RT := fun w => refText_ok n text w h1 h2 (by omega)
  obtain ⟨sq, hsq⟩ : ∃ sq : ByteArray, (⟨(sqT n text.data.toList).toArray⟩ : ByteArray) = sq := ⟨_, rfl⟩
  rw [hsq] at RT
  have hql : sq.data.toList = sqT n text.data.toList := by rw [← hsq]
  have hmm : (text.size + n - 1) / n ≤ 63 := by
    have h4 := Nat.div_mul_le_self (text.size + n - 1) n
    cases hq : (text.size + n - 1) / n with
    | zero => omega
    | succ q =>
      rw [hq, Nat.succ_mul] at h4
      have h5 : q * 16 ≤ q * n := Nat.mul_le_mul_left q h1
      omega
  obtain ⟨m, hm⟩ : ∃ m, (text.size + n - 1) / n = m := ⟨_, rfl⟩
  have hqz : sq.size ≤ 1300 ∧ 16 + 4 * m ≤ sq.size := by
    rw [Lib.size_eq, hql]
    have h5 := sqT_size n text.data.toList h1 h2
    have h6 := sqT_len n text.data.toList
    have h7 := chunksOf_len (n := n) (by omega) _ text.data.toList (Nat.le_refl _)
    rw [← Lib.size_eq] at h5 h7
    rw [hm] at h5 h7
    rw [hm] at hmm
    rw [h7] at h6
    omega
  have hqz1 := hqz.1
  have hqz2 := hqz.2
  rw [hm] at hmm
  have hm1 : m ≤ 2000 := by omega
  have HMM := Lib.hid hm
  have GRT := Lib.hid RT
  obtain ⟨S0, hS0⟩ : ∃ S0, sq.data.toList = S0 := ⟨_, rfl⟩
  obtain ⟨N, hN⟩ : ∃ N, sq.size = N := ⟨_, rfl⟩
  rw [hN] at hqz1 hqz2
  have hSl : S0.length = N := by rw [← hS0, ← Lib.size_eq]; exact hN
  have MK := fun w => bytes_made sq w
  rw [hS0, hN] at MK
  have GMK := Lib.hid MK
  have HSL := Lib.hid hSl
  have hne : ((N : Int) == 0) = false := by simp; omega
  have hne2 : ¬ (N : Int) = 0 := by omega
  obtain ⟨r1, hr1⟩ : ∃ r1, at'.tmod (N : Int) = r1 := ⟨_, rfl⟩
  have hr1a : -(N : Int) < r1 ∧ r1 < (N : Int) := by
    rw [← hr1]
    have e1 := Int.tmod_lt_of_pos at' (show (0 : Int) < (N : Int) by omega)
    have e2 := Int.lt_tmod_of_pos at' (show (0 : Int) < (N : Int) by omega)
    exact ⟨e2, e1⟩
  have hr1b := hr1a.1
  have hr1c := hr1a.2
  obtain ⟨r2, hr2⟩ : ∃ r2 : Nat, r1 + (N : Int) = (r2 : Int) := ⟨(r1 + (N : Int)).toNat, by omega⟩
  have hr2b : r2 ≤ 3000 := by omega
  obtain ⟨k, hk⟩ : ∃ k, r2 % N = k := ⟨_, rfl⟩
  have hkN : k < N := by rw [← hk]; exact Nat.mod_lt _ (by omega)
  have hr3 : (r2 : Int).tmod (N : Int) = (k : Int) := by rw [← hk]; rfl
  have hr4 : (r2 : Int) % (N : Int) = (k : Int) := by rw [← hk]; rfl
  have hkN2 : (k : Int) < (N : Int) := by omega
  have hu3 : (u : Int).tmod 3 = 2 := by
    have e : (u : Int).tmod 3 = ((u % 3 : Nat) : Int) := rfl
    rw [e, hu]; rfl
  have hu4 : (u : Int) % 3 = 2 := by omega
  clear RT MK hsq hql hqz hmm hm hS0 hN hSl hr1a hk g hu
  go_enter Tryz.func4, Tryz.ntmps4
  go_wp2_with fail
  refine (WW.out _ B0.out).mono ?_
  rintro e w1 ⟨rfl, hb1⟩
  have B1 := Lib.hid hb1
  clear hb1 B0
  go_wp2_with fail
  refine (GW.out _).mono ?_
  rintro e w2 ⟨rfl, rfl⟩
  go_wp2_with fail
  refine (GRT.out _).mono ?_
  rintro e w3 ⟨rfl, hb3⟩
  have B3 := Lib.hid (B1.out.trans (hb3.mono B1.out.size))
  obtain ⟨cap, wb, hcv, hcap, hRb, hbb, hlt⟩ := GMK.out w3
  have HR := Lib.hid hRb
  have BB := Lib.hid (B3.out.trans (hbb.mono B3.out.size))
  have hgs := B3.out.size
  generalize w3.heap.size = gb at *
  clear hb3 B1 hRb hbb B3 GRT GMK hd hd2
  have hcapi : (N : Int) ≤ (cap : Int) := by omega
  have hq : ((text.size : Int) + (n : Int) - 1).tdiv (n : Int) = (m : Int) := by
    rw [show (text.size : Int) + (n : Int) - 1 = ((text.size + n - 1 : Nat) : Int) by omega, ← HMM.out]
    rfl
  have hnz : ((n : Int) == 0) = false := by simp; omega
  have hnz2 : ¬ (n : Int) = 0 := by omega
  obtain ⟨n0, hn0⟩ : ∃ n0 : Nat, (N : Int) - 12 - 4 * (m : Int) = (n0 : Int) := ⟨N - 12 - 4 * m, by omega⟩
  obtain ⟨N4, hN4⟩ : ∃ N4 : Nat, (N : Int) - 4 = (N4 : Int) := ⟨N - 4, by omega⟩
  have hn04 : n0 ≤ N4 := by omega
  have hN4b : N4 + 4 = N := by omega
  have HN4B := Lib.hid hN4b
  clear hN4b
  have hkl : k < S0.length := by rw [HSL.out]; exact hkN
  obtain ⟨x0, hx0⟩ : ∃ x0, S0[k] = x0 := ⟨_, rfl⟩
  have hcell := HR.out.cell k x0 (by rw [List.getElem?_eq_getElem hkl, hx0])
  have hfro := HR.out.fro k hkl
  have hxor : bits .xor .u8 (x0.toNat : Int) (c.toNat : Int) = ((x0 ^^^ c).toNat : Int) := by
    have := u8_xor_nat x0.toNat c.toNat x0.toNat_lt c.toNat_lt
    rw [this, UInt8.toNat_xor]
  have HRS := Lib.hid (HR.out.set k (x0 ^^^ c) hkl)
  have BS := Lib.hid (BB.out.setCell (p := ⟨gb, k, none⟩) hgs (.int .u8 ((x0 ^^^ c).toNat : Int)))
  have hls : (S0.set k (x0 ^^^ c)).length = N := by rw [List.length_set]; exact HSL.out
  generalize x0 ^^^ c = y0 at *
  have hki : (k : Int) < (N : Int) := by omega
  clear hx0 HR BB
  go_upto_region 9 with (fail)
  clear hcell hfro hxor hcv hq hn0
  obtain ⟨l0, hl0⟩ : ∃ l0, S0.set k y0 = l0 := ⟨_, rfl⟩
  rw [hl0] at HRS hls
  have hlt0 : gb < (wb.setCell ⟨gb, k, none⟩ (.int .u8 (y0.toNat : Int))).heap.size := by simpa using hlt
  generalize wb.setCell ⟨gb, k, none⟩ (.int .u8 (y0.toNat : Int)) = wc at *
  clear hl0 hlt
  have hLS := Lib.hid hls
  clear hls
  have hi1 : (n0 : Int) ≤ (N4 : Int) := by omega
  have hi2 : (N4 : Int) ≤ (cap : Int) := by have := HN4B.out; omega
  have hi3 : N4 ≤ cap := by have := HN4B.out; omega
  have hcw := HRS.out.convAt n0 (N4 - n0) (cap - n0) (by rw [hLS.out]; have := HN4B.out; omega)
  obtain ⟨P0, hP0⟩ : ∃ P0 : ByteArray, (⟨((l0.drop n0).take (N4 - n0)).toArray⟩ : ByteArray) = P0 := ⟨_, rfl⟩
  rw [hP0] at hcw
  have hPz : P0.size ≤ 1000000000 := by
    rw [← hP0]
    show ((l0.drop n0).take (N4 - n0)).toArray.size ≤ _
    simp
    omega
  clear hP0
  go_wp2_with fail
  refine (refCrc_ok P0 _ hPz).mono ?_
  rintro e wq ⟨rfl, rfl⟩
  clear hcw hPz
  generalize crcOf P0.data.toList = cc at *
  have y1 := byteI_eq ((cc : Int) / 16777216)
  have y2 := byteI_eq ((cc : Int) / 65536)
  have y3 := byteI_eq ((cc : Int) / 256)
  have y4 := byteI_eq (cc : Int)
  generalize byteI ((cc : Int) / 16777216) = b1 at *
  generalize byteI ((cc : Int) / 65536) = b2 at *
  generalize byteI ((cc : Int) / 256) = b3 at *
  generalize byteI (cc : Int) = b4 at *
  obtain ⟨i0, hi0, hi10, hi20, hi30⟩ := info_parts info5
  have HI2 := Lib.hid hi20
  have HRA := Lib.hid (HRS.out.below ((Below.refl wq.heap.size wq).alloc (Nat.le_refl _) (.cells #[.int .u8 (b1.toNat : Int), .int .u8 (b2.toNat : Int), .int .u8 (b3.toNat : Int), .int .u8 (b4.toNat : Int)] 5)) hlt0)
  have BA := Lib.hid (BS.out.alloc BS.out.size (.cells #[.int .u8 (b1.toNat : Int), .int .u8 (b2.toNat : Int), .int .u8 (b3.toNat : Int), .int .u8 (b4.toNat : Int)] 5))
  have hltA : gb < (wq.alloc (.cells #[.int .u8 (b1.toNat : Int), .int .u8 (b2.toNat : Int), .int .u8 (b3.toNat : Int), .int .u8 (b4.toNat : Int)] 5)).heap.size := by simp; omega
  go_upto_region 15 with (at_builtin; refine wpList_append_cells _ rfl _ _ 32 rfl 5 i0 Tryz.underlying32 hi0 gb N4 cap ⟨_, 0, none⟩ 4 4 [.int .u8 (b1.toNat : Int), .int .u8 (b2.toNat : Int), .int .u8 (b3.toNat : Int), .int .u8 (b4.toNat : Int)] (by rfl) (by rfl) ?hl (World.news_of_block (cs := #[.int .u8 (b1.toNat : Int), .int .u8 (b2.toNat : Int), .int .u8 (b3.toNat : Int), .int .u8 (b4.toNat : Int)]) (t := 5) (fr := (0, 0)) (heap_alloc_new _ _)) (by simp [Value.oneCell']) ?hroom ?hc ?hf ?_)
  case hl => rw [HI2.out]; rfl
  case hroom => have := HN4B.out; omega
  case hc =>
    intro j hj
    have hj4 : j < 4 := hj
    rw [HI2.out, Nat.zero_add, Nat.mul_one, HRA.out.cell (N4 + j) _ (List.getElem?_eq_getElem (by rw [hLS.out]; have := HN4B.out; omega))]
    rfl
  case hf =>
    intro j hj
    have hj4 : j < 4 := hj
    rw [HI2.out, Nat.zero_add, Nat.mul_one]
    exact HRA.out.fro (N4 + j) (by rw [hLS.out]; have := HN4B.out; omega)
  obtain ⟨wz, hwz⟩ : ∃ wz, (wq.alloc (.cells #[.int .u8 (b1.toNat : Int), .int .u8 (b2.toNat : Int), .int .u8 (b3.toNat : Int), .int .u8 (b4.toNat : Int)] 5)).setCells gb N4 [.int .u8 (b1.toNat : Int), .int .u8 (b2.toNat : Int), .int .u8 (b3.toNat : Int), .int .u8 (b4.toNat : Int)] = wz := ⟨_, rfl⟩
  rw [hwz]

  have HRL := Lib.hid (show Rb gb (l0.take N4 ++ [b1, b2, b3, b4]) wz from by
    have := HRA.out.setCells N4 [b1, b2, b3, b4] (by rw [hLS.out]; exact Nat.le_of_eq HN4B.out)
    rw [← hwz]
    exact this)
  have BL := Lib.hid (show Below w.heap.size w wz from by rw [← hwz]; exact below_setCells gb hgs [.int .u8 (b1.toNat : Int), .int .u8 (b2.toNat : Int), .int .u8 (b3.toNat : Int), .int .u8 (b4.toNat : Int)] N4 _ BA.out)
  have hltl : gb < wz.heap.size := by
    have := (below_setCells gb (Nat.le_refl gb) [.int .u8 (b1.toNat : Int), .int .u8 (b2.toNat : Int), .int .u8 (b3.toNat : Int), .int .u8 (b4.toNat : Int)] N4 _ (Below.refl gb (wq.alloc (.cells #[.int .u8 (b1.toNat : Int), .int .u8 (b2.toNat : Int), .int .u8 (b3.toNat : Int), .int .u8 (b4.toNat : Int)] 5)))).size
    rw [hwz] at this
    omega
  obtain ⟨l, hl⟩ : ∃ l, l0.take N4 ++ [b1, b2, b3, b4] = l := ⟨_, rfl⟩
  rw [hl] at HRL
  have hnl : N4 + 4 = l.length := by
    rw [← hl, List.length_append, List.length_take, hLS.out]
    have := HN4B.out
    show N4 + 4 = min N4 N + 4
    omega
  have hN4c : N4 + 4 ≤ 2000 := by have := HN4B.out; omega
  clear hwz hl HRA BA hltA hlt0 HRS BS hLS HI2 y1 y2 y3 y4
  have HCV := Lib.hid (fun (wx : World) (hR : Rb gb l wx) => hR.conv cap (N4 + 4) hnl)
  obtain ⟨S, hS⟩ : ∃ S : ByteArray, (⟨l.toArray⟩ : ByteArray) = S := ⟨_, rfl⟩
  rw [hS] at HCV
  have hSz : S.size = (N4 + 4) := by rw [← hS, hnl]; rfl
  have hz4 : S.size ≤ 4000 := by omega
  have XT := Lib.hid (fun w => expandText_ok S w (by omega))
  have RX := Lib.hid (fun w => refExpand_ok S w hz4)
  have hcv1 := HCV.out _ HRL.out
  clear hS hSz hnl
  go_wp2_with fail
  refine (XT.out _).mono ?_
  rintro e w5 ⟨⟨x, xc, rfl, hx⟩, hb5⟩
  have HR5 := Lib.hid (HRL.out.below hb5 hltl)
  have B5 := Lib.hid (BL.out.trans (hb5.mono BL.out.size))
  have HX := Lib.hid hx
  have hcv2 := HCV.out _ HR5.out
  clear hcv1 hb5 hx BL HRL hltl
  go_wp2_with fail
  refine (RX.out _).mono ?_
  rintro e w6 ⟨⟨y, is, rfl, hy⟩, hb6⟩
  have B6 := Lib.hid (B5.out.trans (hb6.mono B5.out.size))
  have HY := Lib.hid hy
  clear hcv2 hb6 hy B5 HR5
  cases is
  · have hx2 : x = ⟨#[]⟩ ∧ xc = 18 := by
      rcases HX.out with ⟨_, b', g'⟩ | ⟨h1, h2, _⟩
      · rcases HY.out with ⟨h, _⟩ | ⟨_, h⟩
        · cases h
        · exact (h _ _ g').elim
      · exact ⟨h2, h1⟩
    obtain ⟨rfl, rfl⟩ := hx2
    clear HX HY
    go_wp2_with fail
    go_ret
    exact ⟨rfl, B6.out⟩
  · have hx2 : x = y ∧ xc = 0 := by
      rcases HY.out with ⟨_, b1, g1⟩ | ⟨h, _⟩
      · rcases HX.out with ⟨h1, b2, g2⟩ | ⟨_, _, h⟩
        · exact ⟨ba_extC (good_one g2 g1).2, h1⟩
        · exact (h _ _ g1).elim
      · cases h
    obtain ⟨rfl, rfl⟩ := hx2
    clear HX HY
    go_wp2_with fail
    go_ret
    exact ⟨rfl, B6.out⟩
end Go.Proofs.YtobiacdeoeogaaaGreatDoor

set_option linter.unusedVariables false
set_option linter.unusedSimpArgs false
namespace Go.Proofs.YtobiacdeoeogaaaGreatDoor
open Go.RowKit
theorem u64_wrap_nat (x : Int) : ∃ u : Nat, IntKind.u64.wrap x = (u : Int) := by
  have h : 0 ≤ IntKind.u64.wrap x := by
    show 0 ≤ x % _
    exact Int.emod_nonneg _ (by decide)
  exact ⟨(IntKind.u64.wrap x).toNat, by omega⟩
theorem law4_ok (n : Int) (text : ByteArray) (kind at' : Int) (c : UInt8) (w : World) (g : Gl w) (ha1 : -9223372036854775808 ≤ at') (ha2 : at' ≤ 9223372036854775807) :
    Calls Tryz.prog 4 #[.int .i64 n, .string text, .int .i64 kind, .int .i64 at', .int .u8 (c.toNat : Int)] w fun e w' => e = .returned (.bool true) ∧ Below w.heap.size w w' := by
  by_cases h0 : n < 16 ∨ 16384 < n
  · exact law4_out n text kind at' _ w g h0
  by_cases h3 : 1000 < text.size
  · exact law4_long n text kind at' _ w g (by omega) (by omega) h3
  obtain ⟨m, rfl⟩ : ∃ m : Nat, n = (m : Int) := ⟨n.toNat, by omega⟩
  obtain ⟨u, hu⟩ := u64_wrap_nat kind
  have hr : u % 3 = 0 ∨ u % 3 = 1 ∨ u % 3 = 2 := by omega
  rcases hr with hr | hr | hr
  · exact law4_k0 m text kind at' c w g (by omega) (by omega) (by omega) ha1 ha2 u hu hr
  · exact law4_k1 m text kind at' c w g (by omega) (by omega) (by omega) ha1 ha2 u hu hr
  · exact law4_k2 m text kind at' c w g (by omega) (by omega) (by omega) ha1 ha2 u hu hr
end Go.Proofs.YtobiacdeoeogaaaGreatDoor
