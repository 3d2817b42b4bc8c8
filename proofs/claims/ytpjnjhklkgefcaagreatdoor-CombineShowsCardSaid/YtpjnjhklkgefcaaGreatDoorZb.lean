/-
  Bytes in a row; small letters: names.Fold of whatever text, and of a text without great letters.
-/
import Derived.Test.YtpjnjhklkgefcaaGreatDoorAd
import Derived.ArgAppend
import Derived.Maps.Ext
import Derived.Maps.OwnSet
set_option linter.unusedVariables false
set_option linter.unusedSimpArgs false
namespace Go.Proofs.YtpjnjhklkgefcaaGreatDoor
open Go.RowKit
/-- bytes that stand from a block's head on, and may be written. -/
structure Rb (g : Nat) (l : List UInt8) (w : World) : Prop where
  cell : ∀ (j : Nat) (x : UInt8), l[j]? = some x → w.cell? ⟨g, j, none⟩ = some (.int .u8 (x.toNat : Int))
  fro : ∀ j, j < l.length → w.frozen? ⟨g, j, none⟩ = false
theorem Rb.below {g : Nat} {l : List UInt8} {w w' : World} (h : Rb g l w) (k : Below w.heap.size w w') (hg : g < w.heap.size) : Rb g l w' :=
  ⟨fun j x hj => (k.cell (p := ⟨g, j, none⟩) hg).trans (h.cell j x hj), fun j hj => (k.frozen (p := ⟨g, j, none⟩) hg).trans (h.fro j hj)⟩
theorem Rb.cut {g : Nat} {l : List UInt8} {w : World} (h : Rb g l w) (k : Nat) : Rb g (l.take k) w := by
  refine ⟨fun j x hj => ?_, fun j hj => h.fro j (by rw [List.length_take] at hj; omega)⟩
  rw [List.getElem?_take] at hj
  split at hj
  · exact h.cell j x hj
  · cases hj
theorem Rb.set {g : Nat} {l : List UInt8} {w : World} (h : Rb g l w) (i : Nat) (c : UInt8) (hi : i < l.length) : Rb g (l.set i c) (w.setCell ⟨g, i, none⟩ (.int .u8 (c.toNat : Int))) :=
  ⟨fun j x hj => by
    by_cases hji : j = i
    · subst hji
      rw [List.getElem?_set_self hi] at hj
      injection hj with hj
      subst hj
      exact World.cell?_setCell_same _ _ _ (h.cell j _ (List.getElem?_eq_getElem hi))
    · rw [List.getElem?_set_ne (fun e => hji e.symm)] at hj
      rw [World.cell?_setCell_other _ _ _ _ (by intro e; injection e with _ e; exact hji e.symm)]
      exact h.cell j x hj, fun j hj => by
    rw [World.frozen?_setCell]
    exact h.fro j (by rw [List.length_set] at hj; exact hj)⟩
theorem Rb.convAt {g : Nat} {l : List UInt8} {w : World} (h : Rb g l w) (o n cap : Nat) (hn : o + n ≤ l.length) : (convert 117 9 (.slice (some ⟨g, o, none⟩) n cap)).run Tryz.prog w = .ok (.string ⟨((l.drop o).take n).toArray⟩) w := by
  have hl : ((l.drop o).take n).length = n := by rw [List.length_take, List.length_drop]; omega
  have := run_convert_bytes_back (P := Tryz.prog) w 117 9 5 ⟨g, o, none⟩ cap ((l.drop o).take n) Tryz.underlying117 Tryz.underlying5 Tryz.underlying9 (fun j hj => by
    have e : (⟨g, o, none⟩ : Addr).add j = ⟨g, o + j, none⟩ := by unfold Addr.add; split <;> simp_all
    rw [e]
    refine h.cell (o + j) _ ?_
    have h2 : ((l.drop o).take n)[j]? = some ((l.drop o).take n)[j] := List.getElem?_eq_getElem hj
    rw [List.getElem?_take, if_pos (by omega), List.getElem?_drop] at h2
    exact h2)
  rw [hl] at this
  exact this
theorem Rb.conv {g : Nat} {l : List UInt8} {w : World} (h : Rb g l w) (cap n : Nat) (hn : n = l.length) : (convert 117 9 (.slice (some ⟨g, 0, none⟩) n cap)).run Tryz.prog w = .ok (.string ⟨l.toArray⟩) w := by
  have := h.convAt 0 n cap (by omega)
  rw [List.drop_zero, List.take_of_length_le (by omega)] at this
  exact this
theorem bytesRow_size_le (s : ByteArray) (cap : Nat) : s.size ≤ (bytesRow s cap).size := by
  have e : bytesRow s cap = s.data.map (fun b => Value.int .u8 b.toNat) ++ Array.replicate (cap - s.size) (.int .u8 0) := rfl
  rw [e, Array.size_append, Array.size_map]
  exact Nat.le_add_right _ _
theorem bytesRow_list (s : ByteArray) (cap j : Nat) (x : UInt8) (hj : s.data.toList[j]? = some x) : (bytesRow s cap)[j]? = some (.int .u8 (x.toNat : Int)) := by
  have hj2 : j < s.data.size := by
    have := (List.getElem?_eq_some_iff.1 hj).1
    simpa using this
  have h3 : s.data.toList[j]? = some s.data[j] := by simp [hj2]
  rw [h3] at hj
  injection hj with hj
  subst hj
  have h4 := bytesRow_at s cap j hj2
  rw [h4]
theorem frozen_row {w : World} {g j S : Nat} {cs : Array Value} {t : TypeId} (h : w.heap[g]? = some (.cells cs t (S, S + 1))) (hj : j < S) : w.frozen? ⟨g, j, none⟩ = false := by
  have h5 : ¬ S ≤ j := by omega
  simp [World.frozen?, h, h5]
/-- the bytes of a text, made anew. -/
theorem bytes_made (s : ByteArray) (w : World) : ∃ cap w', (convert 9 117 (.string s)).run Tryz.prog w = .ok (.slice (some ⟨w.heap.size, 0, none⟩) s.size cap) w' ∧ s.size ≤ cap ∧ Rb w.heap.size s.data.toList w' ∧ Below w.heap.size w w' ∧ w.heap.size < w'.heap.size := by
  have hr := run_bytes_of_string (P := Tryz.prog) w 9 117 5 s Tryz.underlying9 Tryz.underlying117 Tryz.underlying5
  have hge := grownCap_ge w s.size 0 5
  generalize grownCap w s.size 0 5 = cap at *
  have hsz : s.size ≤ (bytesRow s cap).size := by
    have h := bytesRow_size_le s cap
    exact h
  have hat := bytesRow_list s cap
  generalize bytesRow s cap = X at *
  have hnew : (w.drew.alloc (.cells X 5 (X.size, X.size + 1))).heap[w.heap.size]? = some (.cells X 5 (X.size, X.size + 1)) := heap_alloc_new w.drew _
  refine ⟨cap, _, hr, hge, ⟨fun j x hj => (cell_of_row _ w.heap.size j X _ _ hnew).trans (hat j x hj), fun j hj => frozen_row hnew ?_⟩, (Below.refl _ _).drew.alloc (Nat.le_refl _) _, by simp⟩
  rw [← Lib.size_eq] at hj
  omega
/-- a small letter for a great one. -/
def smallB (c : UInt8) : UInt8 := if 65 ≤ c.toNat ∧ c.toNat ≤ 90 then c - 65 + 97 else c
theorem smallB_up (c : UInt8) (h1 : 65 ≤ c.toNat) (h2 : c.toNat ≤ 90) : ((smallB c).toNat : Int) = (c.toNat : Int) + 32 := by
  unfold smallB
  rw [if_pos ⟨h1, h2⟩, UInt8.toNat_add, UInt8.toNat_sub_of_le _ _ (by rw [UInt8.le_iff_toNat_le]; exact h1)]
  simp
  omega
theorem smallB_low (c : UInt8) (h : ¬ (65 ≤ c.toNat ∧ c.toNat ≤ 90)) : smallB c = c := by
  unfold smallB
  rw [if_neg h]
set_option maxRecDepth 100000 in
set_option maxHeartbeats 1000000 in
theorem small_ok (c : UInt8) (w : World) : Calls Tryz.prog 90 #[.int .u8 (c.toNat : Int)] w fun e w' => e = .returned (.int .u8 ((smallB c).toNat : Int)) ∧ w' = w := by
  have hb := c.toNat_lt
  by_cases h1 : 65 ≤ c.toNat
  · by_cases h2 : c.toNat ≤ 90
    · have e1 : decide ((65 : Int) ≤ (c.toNat : Int)) = true := decide_eq_true (by omega)
      have e2 : decide ((c.toNat : Int) ≤ 90) = true := decide_eq_true (by omega)
      have hs := smallB_up c h1 h2
      generalize (smallB c).toNat = d at *
      generalize c.toNat = n at *
      go_enter Tryz.func90, Tryz.ntmps90
      go_wp2
      go_ret
      refine ⟨?_, rfl⟩
      rw [hs]
      go_num
    · have e1 : decide ((65 : Int) ≤ (c.toNat : Int)) = true := decide_eq_true (by omega)
      have e2 : decide ((c.toNat : Int) ≤ 90) = false := decide_eq_false (by omega)
      rw [smallB_low c (by omega)]
      generalize c.toNat = n at *
      go_enter Tryz.func90, Tryz.ntmps90
      go_wp2
      go_ret
      exact ⟨rfl, rfl⟩
  · have e1 : decide ((65 : Int) ≤ (c.toNat : Int)) = false := decide_eq_false (by omega)
    rw [smallB_low c (by omega)]
    generalize c.toNat = n at *
    go_enter Tryz.func90, Tryz.ntmps90
    go_wp2
    go_ret
    exact ⟨rfl, rfl⟩
/-- the text with small letters. -/
def foldS (s : ByteArray) : ByteArray := ⟨(s.data.toList.map smallB).toArray⟩
/-- the bytes so far. -/
def foldN (l : List UInt8) (i : Nat) : List UInt8 := (l.take i).map smallB ++ l.drop i
theorem foldN_zero (l : List UInt8) : foldN l 0 = l := rfl
theorem foldN_all (l : List UInt8) : foldN l l.length = l.map smallB := by simp [foldN]
theorem foldN_len (l : List UInt8) (i : Nat) (h : i ≤ l.length) : (foldN l i).length = l.length := by simp [foldN]; omega
theorem foldN_at (l : List UInt8) (i : Nat) (h : i < l.length) : (foldN l i)[i]? = some l[i] := by
  unfold foldN
  rw [List.getElem?_append_right (by simp; omega)]
  simp
  have : i - min i l.length = 0 := by omega
  rw [this]
  simp [h]
theorem foldN_succ (l : List UInt8) (i : Nat) (h : i < l.length) : (foldN l i).set i (smallB l[i]) = foldN l (i + 1) := by
  unfold foldN
  rw [List.set_append_right _ _ (by simp; omega)]
  have h0 : i - ((l.take i).map smallB).length = 0 := by simp; omega
  rw [h0, List.drop_eq_getElem_cons h, List.set_cons_zero, List.take_succ_eq_append_getElem h, List.map_append, List.append_assoc]
  rfl
set_option maxRecDepth 100000 in
set_option maxHeartbeats 1000000 in
theorem Fold_ok (s : ByteArray) (w : World) (hs : s.size ≤ 1048576) : Calls Tryz.prog 42 #[.string s] w fun e w' => e = .returned (.string (foldS s)) ∧ Below w.heap.size w w' := by
  obtain ⟨cap, w1, hcv, hcap, hrb, hbel, hlt⟩ := bytes_made s w
  obtain ⟨l, hl⟩ : ∃ l, s.data.toList = l := ⟨_, rfl⟩
  obtain ⟨n, hn⟩ : ∃ n, s.size = n := ⟨_, rfl⟩
  have hln : l.length = n := by rw [← hl, ← Lib.size_eq, hn]
  have hfs : foldS s = ⟨(l.map smallB).toArray⟩ := by rw [foldS, hl]
  rw [hfs]
  rw [hl] at hrb
  rw [hn] at hcv hcap hs
  have HR := Lib.hid hrb
  have HB := Lib.hid hbel
  have HN := Lib.hid hln
  clear hrb hbel hl hn hfs hlt
  go_enter Tryz.func42, Tryz.ntmps42
  go_wp2_with fail
  clear hcv
  generalize hgg : w.heap.size = g at *
  have HG := Lib.hid hgg
  clear hgg
  go_loopw [10] (fun k wr => ∃ i : Nat, k = .int .i64 (i : Int) ∧ i ≤ n ∧ Rb g (foldN l i) wr ∧ Below g w wr) (fun k _ => n - (intOf k).toNat)
  case atStart => exact ⟨0, rfl, Nat.zero_le _, HR.out, HB.out⟩
  case round =>
    clear HR HB
    obtain ⟨i, rfl, hi, hR, hB⟩ := hrel
    by_cases hlt : i < n
    · have hd : decide ((i : Int) < (n : Int)) = true := decide_eq_true (by omega)
      have hil : i < l.length := by rw [HN.out]; exact hlt
      have hc := hR.cell i _ (foldN_at l i hil)
      have hf := hR.fro i (by rw [foldN_len l i (by omega)]; exact hil)
      have HS := Lib.hid (hR.set i (smallB l[i]) (by rw [foldN_len l i (by omega)]; exact hil))
      rw [foldN_succ l i hil] at HS
      have HB := Lib.hid hB
      obtain ⟨c, hcc⟩ : ∃ c, l[i] = c := ⟨_, rfl⟩
      rw [hcc] at hc HS
      have HC := Lib.hid (fun w => small_ok c w)
      clear hR hB hcc hil
      generalize c.toNat = cn at *
      go_wp2_with fail
      refine (HC.out _).mono ?_
      rintro e w2 ⟨rfl, rfl⟩
      go_wp2_with fail
      go_roundw
      case rel => exact ⟨i + 1, by go_num, by omega, HS.out, HB.out.setCell (p := ⟨g, i, none⟩) (Nat.le_refl _) _⟩
      case measure => simp [intOf]; omega
    · have hd : decide ((i : Int) < (n : Int)) = false := decide_eq_false (by omega)
      obtain rfl : i = n := by omega
      have e := foldN_all l
      rw [HN.out] at e
      rw [e] at hR
      have hcw := hR.conv cap i (by rw [List.length_map, HN.out])
      have HB := Lib.hid hB
      clear hR hB
      go_wp2_with fail
      go_ret
      exact ⟨rfl, HG.out ▸ HB.out⟩
theorem foldS_low (s : ByteArray) (h : ∀ b ∈ s.data.toList, ¬ (65 ≤ b.toNat ∧ b.toNat ≤ 90)) : foldS s = s := by
  unfold foldS
  have : s.data.toList.map smallB = s.data.toList := by
    conv => rhs; rw [← List.map_id s.data.toList]
    exact List.map_congr_left (fun b hb => smallB_low b (h b hb))
  rw [this]
end Go.Proofs.YtpjnjhklkgefcaaGreatDoor

/-
  A store in memory whose files all lie in its root: what it holds, and where; what is found by a name.
-/
set_option linter.unusedVariables false
set_option linter.unusedSimpArgs false
namespace Go.Proofs.YtpjnjhklkgefcaaGreatDoor
open Go.RowKit Go.Maps
/-- a key of text. -/
def keyT (p : ByteArray) : Lit := .string p.data.toList
theorem keyT_inj {p q : ByteArray} (h : keyT p = keyT q) : p = q := by
  unfold keyT at h
  injection h with h
  exact ByteArray.ext (Array.toList_inj.1 h)
theorem keyT_isKey (p : ByteArray) : WideAt.IsKeyLit (keyT p) := trivial
/-- a map's element is read as it is held. -/
def RV (v : Value) : Option (DataW Value × List MemPlace) := some (.held v, [])
/-- a file: its name, its block, and what it holds. -/
structure Fl where
  name : ByteArray
  blk : Nat
  data : ByteArray
  time : Int
  id : ByteArray
/-- the map's reading holds the files L, by their names. -/
structure MapP (D : DataW Value) (L : List Fl) : Prop where
  at_ : ∀ x ∈ L, ∀ z, D.atKey (keyT x.name) z = .held (pt x.blk)
  has_ : ∀ kl, Maps.has D kl = true → ∃ x ∈ L, kl = keyT x.name
  isMap : IsMap D
theorem MapP.nil : MapP (.map []) [] := ⟨fun _ h => by (cases h), fun _ h => by (cases h), ⟨_, rfl⟩⟩
theorem MapP.put {D : DataW Value} {L : List Fl} (h : MapP D L) (x : Fl) (hx : ∀ y ∈ L, y.name ≠ x.name) : MapP (D.put (keyT x.name) (.held (pt x.blk))) (L ++ [x]) := by
  refine ⟨fun y hy z => ?_, fun kl hk => ?_, h.isMap.put _ _⟩
  · rcases List.mem_append.1 hy with hy | hy
    · rw [atKey_put_other (fun e => hx y hy (keyT_inj e))]
      exact h.at_ y hy z
    · obtain rfl : y = x := by simpa using hy
      exact atKey_put_same h.isMap (keyT_isKey _) _ _
  · by_cases e : kl = keyT x.name
    · exact ⟨x, by simp, e⟩
    · rw [has_put_other e] at hk
      obtain ⟨y, hy, he⟩ := h.has_ kl hk
      exact ⟨y, by simp [hy], he⟩
/-- a map depends on names and blocks alone. -/
theorem MapP.same {D : DataW Value} {L : List Fl} (h : MapP D L) (g : Fl → Fl) (h1 : ∀ x, (g x).name = x.name) (h2 : ∀ x, (g x).blk = x.blk) : MapP D (L.map g) := by
  refine ⟨fun y hy z => ?_, fun kl hk => ?_, h.isMap⟩
  · obtain ⟨x, hx, rfl⟩ := List.mem_map.1 hy
    rw [h1, h2]
    exact h.at_ x hx z
  · obtain ⟨x, hx, he⟩ := h.has_ kl hk
    exact ⟨g x, List.mem_map.2 ⟨x, hx, rfl⟩, by rw [h1]; exact he⟩
/-- features of stores that the laws use. -/
structure FtOK (f : Ft) : Prop where
  sums : f.sums = 16
  prec1 : 1 ≤ f.prec
  prec2 : f.prec ≤ 1000
  mname : f.mname = 255
  mpath : f.mpath = 1024
  msize : f.msize = 100000
  forbid : f.forbid = ⟨#[]⟩
  page1 : 1 ≤ f.page
  page2 : f.page ≤ 4
  ver : (bits .and .i64 f.has 1024 != 0) = false
/-- the blocks of a store that its calls may write. -/
def foot (q : Mm) (L : List Fl) : List Nat := q.m :: q.r :: q.km :: q.ca :: q.si :: L.map (·.blk)
/-- a store of the features f in memory, its blocks from B on, its clock at clk, with the files L in its root. -/
structure MemC (B : Nat) (f : Ft) (clk : Int) (q : Mm) (L : List Fl) (made : Nat) (w : World) : Prop where
  hm : Blk w q.m 95 (mCells f q (sl q.si 14 14) L.length made)
  hr : Blk w q.r 90 (nodeC ⟨#[]⟩ true (.pointer none) (.map (some q.km)) ⟨#[]⟩ 0 (.slice none 0 0) ⟨#[]⟩)
  hk : ∃ D, w.ownsMap Tryz.prog 9 RV q.km L.length D ∧ MapP D L
  hn : ∀ x ∈ L, Blk w x.blk 90 (nodeC x.name false (pt q.r) (.map none) x.data x.time (.slice none 0 0) x.id)
  hcl : Blk w q.c 98 #[.int .i64 clk]
  hca : ∃ X, Blk w q.ca 3 X ∧ IntRow 14 X
  hsi : ∃ X, Blk w q.si 3 X ∧ IntRow 14 X
  ne : q.ca ≠ q.si
  root : ∀ x ∈ L, x.blk ≠ q.r
  apart : L.Pairwise (fun x y => x.blk ≠ y.blk ∧ x.name ≠ y.name)
  sized : ∀ x ∈ L, x.data.size ≤ 100000
  lo : ∀ b ∈ foot q L, B ≤ b
  clo : q.c < B
  gl1 : 5 < B
  gl2 : 11 < B
abbrev MemX (B : Nat) (f : Ft) (clk : Int) (q : Mm) (L : List Fl) (w : World) : Prop := MemC B f clk q L L.length w
theorem ownsMap_kp {S : List Nat} {w w' : World} {k : TypeId} {R : Value → Option (DataW Value × List MemPlace)} {b n : Nat} {D : DataW Value} (h : w.ownsMap Tryz.prog k R b n D) (hb : Kp S w w') (hn : b ∉ S) : w'.ownsMap Tryz.prog k R b n D := by
  obtain ⟨es, clock, h1, h2⟩ := h
  exact ⟨es, clock, blockOf_kp h1 hb hn, h2⟩
theorem ownsMap_ne {w : World} {g b n : Nat} {t k : TypeId} {cs : Array Value} {R : Value → Option (DataW Value × List MemPlace)} {D : DataW Value} (h : Blk w g t cs) (h' : w.ownsMap Tryz.prog k R b n D) : g ≠ b := by
  obtain ⟨es, clock, h1, h2⟩ := h'
  exact map_ne h h1
theorem MemC.kp {B : Nat} {f : Ft} {clk : Int} {q : Mm} {L : List Fl} {made : Nat} {S : List Nat} {w w' : World} (h : MemC B f clk q L made w) (k : Kp S w w') (hs : ∀ b ∈ foot q L, b ∉ S) (hc : q.c ∉ S) : MemC B f clk q L made w' := by
  obtain ⟨X, hX, iX⟩ := h.hca
  obtain ⟨Y, hY, iY⟩ := h.hsi
  obtain ⟨D, hD, hp⟩ := h.hk
  exact ⟨k.blk h.hm (hs _ (by simp [foot])), k.blk h.hr (hs _ (by simp [foot])), ⟨D, ownsMap_kp hD k (hs _ (by simp [foot])), hp⟩, fun x hx => k.blk (h.hn x hx) (hs _ (by simp only [foot, List.mem_cons, List.mem_map]; exact Or.inr (Or.inr (Or.inr (Or.inr (Or.inr ⟨x, hx, rfl⟩)))))), k.blk h.hcl hc, ⟨X, k.blk hX (hs _ (by simp [foot])), iX⟩, ⟨Y, k.blk hY (hs _ (by simp [foot])), iY⟩, h.ne, h.root, h.apart, h.sized, h.lo, h.clo, h.gl1, h.gl2⟩
theorem MemC.below {B : Nat} {f : Ft} {clk : Int} {q : Mm} {L : List Fl} {made : Nat} {w w' : World} (h : MemC B f clk q L made w) (k : Below w.heap.size w w') : MemC B f clk q L made w' :=
  h.kp (S := []) (Kp.of_below k) (by simp) (by simp)
theorem MemC.mLt {B : Nat} {f : Ft} {clk : Int} {q : Mm} {L : List Fl} {made : Nat} {w : World} (h : MemC B f clk q L made w) : ∀ b ∈ foot q L, b < w.heap.size := by
  intro b hb
  obtain ⟨X, hX, _⟩ := h.hca
  obtain ⟨Y, hY, _⟩ := h.hsi
  obtain ⟨D, hD, _⟩ := h.hk
  simp only [foot, List.mem_cons, List.mem_map] at hb
  rcases hb with rfl | rfl | rfl | rfl | rfl | ⟨x, hx, rfl⟩
  · exact h.hm.lt
  · exact h.hr.lt
  · exact hD.lt
  · exact hX.lt
  · exact hY.lt
  · exact (h.hn x hx).lt
theorem MemC.gl {B : Nat} {f : Ft} {clk : Int} {q : Mm} {L : List Fl} {made : Nat} {w w' : World} (h : MemC B f clk q L made w) (g : Gl w) (k : Kp (foot q L) w w') : Gl w' :=
  g.kp k (fun hb => by have := h.lo _ hb; have := h.gl1; omega) (fun hb => by have := h.lo _ hb; have := h.gl2; omega)
theorem MemM.toX {B : Nat} {f : Ft} {q : Mm} {clk : Int} {w : World} (h : MemE B f q w) (hc : Blk w q.c 98 #[.int .i64 clk]) (hcB : q.c < B) : MemX B f clk q [] w :=
  ⟨h.hm, h.hr, ⟨.map [], ⟨#[], 0, h.hk, ⟨by simp, MapKept.stamped_empty 0, by simp⟩, Nat.le_refl _, rfl⟩, MapP.nil⟩, fun x hx => (by cases hx), hc, h.hca, h.hsi, h.ne, fun x hx => (by cases hx), List.Pairwise.nil, fun x hx => (by cases hx), fun b hb => by
    simp only [foot, List.mem_cons, List.map_nil, List.not_mem_nil, or_false] at hb
    rcases hb with rfl | rfl | rfl | rfl | rfl
    · exact h.lom
    · exact h.lor
    · exact h.lok
    · exact h.loc
    · exact h.los, hcB, h.gl1, h.gl2⟩
/-- what is found by a name. -/
def Fnd (L : List Fl) (s : ByteArray) (v : Value) : Prop := (∃ x ∈ L, x.name = s ∧ v = pt x.blk) ∨ ((∀ x ∈ L, x.name ≠ s) ∧ v = .pointer none)
set_option maxRecDepth 100000 in
theorem looks_any {B : Nat} {f : Ft} {clk : Int} {q : Mm} {L : List Fl} {w : World} (h : MemX B f clk q L w) (s : ByteArray) (v : Value) (hs : s.size ≤ maxLen) (hv : Fnd L s v) : LooksAt q.km s v w := by
  intro x hx
  obtain ⟨D, ⟨es, clock, h1, h2⟩, hp⟩ := h.hk
  have ho : x.ownsMap Tryz.prog 9 RV q.km L.length D := ⟨es, clock, hx.trans h1, h2⟩
  obtain ⟨u, ps, hrun, hu⟩ := ho.lookup (Maps.string_keyed (P := Tryz.prog) Tryz.underlying9) (t := 88) (e := 87) Tryz.underlying88 (zeroNode x) (zd := .held (.pointer none)) (zp := []) rfl (WideMaps.keyOf_string_mk Tryz.underlying9 hs)
  rw [hrun]
  have hu : DataW.held u = D.atKey (keyT s) (.held (.pointer none)) := (Prod.mk.inj (Option.some.inj hu)).1
  rcases hv with ⟨y, hy, rfl, rfl⟩ | ⟨hno, rfl⟩
  · rw [hp.at_ y hy] at hu
    injection hu with hu
    rw [hu]
  · have hf : Maps.has D (keyT s) = false := by
      cases e : Maps.has D (keyT s)
      · rfl
      · obtain ⟨y, hy, he⟩ := hp.has_ _ e
        exact absurd (keyT_inj he).symm (hno y hy)
    rw [atKey_of_not_has hf] at hu
    injection hu with hu
    rw [hu]
end Go.Proofs.YtpjnjhklkgefcaaGreatDoor
