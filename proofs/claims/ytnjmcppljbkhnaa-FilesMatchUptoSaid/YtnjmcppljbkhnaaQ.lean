import Derived.Test.YtnjmcppljbkhnaaN
import Derived.Test.YtnjmcppljbkhnaaL
import Derived.Deep.MidRow
import Derived.Deep.Upon
import Derived.Lib.LazyBuf
import Derived.Deep.RegionHeld3
import Derived.Deep.RegionLaw
set_option linter.unusedVariables false
set_option linter.unusedSimpArgs false
namespace Go.Proofs.Ytnjmcppljbkhnaa
open Go.RowKit

def bkey (key nonce : ByteArray) : ByteArray := strB 32 (blockB key nonce 0)
def macT (extra sealed : ByteArray) : ByteArray := catS [extra, zerosB (padN extra.size), sealed, zerosB (padN sealed.size), strB 8 (bytesN extra.size), strB 8 (bytesN sealed.size)]
def btag (key nonce extra sealed : ByteArray) : Nat := tagN (bkey key nonce) (macT extra sealed)
theorem macT_size (extra sealed : ByteArray) : (macT extra sealed).size ≤ extra.size + sealed.size + 48 := by
  have h1 : padN extra.size < 16 := Nat.mod_lt _ (by decide)
  have h2 : padN sealed.size < 16 := Nat.mod_lt _ (by decide)
  have hc : ∀ xs : List ByteArray, (catS xs).size = (xs.map (·.size)).sum := by
    intro xs
    induction xs with
    | nil => rfl
    | cons x l ih =>
      have e1 : (catS (x :: l)).size = x.size + (catS l).size := by
        simp only [ByteArray.size, catS, List.map_cons, List.flatten_cons, List.size_toArray, List.length_append, Array.length_toList]
      rw [e1, ih]; rfl
  have hz : ∀ n, (zerosB n).size = n := fun n => by simp [zerosB, ByteArray.size]
  unfold macT
  rw [hc]
  simp only [List.map_cons, List.map_nil, List.sum_cons, List.sum_nil, hz, strB_size]
  omega
set_option maxRecDepth 100000 in
theorem zero64L : row8 64 (fun _ => 0) = #[.int .u8 0, .int .u8 0, .int .u8 0, .int .u8 0, .int .u8 0, .int .u8 0, .int .u8 0, .int .u8 0, .int .u8 0, .int .u8 0, .int .u8 0, .int .u8 0, .int .u8 0, .int .u8 0, .int .u8 0, .int .u8 0, .int .u8 0, .int .u8 0, .int .u8 0, .int .u8 0, .int .u8 0, .int .u8 0, .int .u8 0, .int .u8 0, .int .u8 0, .int .u8 0, .int .u8 0, .int .u8 0, .int .u8 0, .int .u8 0, .int .u8 0, .int .u8 0, .int .u8 0, .int .u8 0, .int .u8 0, .int .u8 0, .int .u8 0, .int .u8 0, .int .u8 0, .int .u8 0, .int .u8 0, .int .u8 0, .int .u8 0, .int .u8 0, .int .u8 0, .int .u8 0, .int .u8 0, .int .u8 0, .int .u8 0, .int .u8 0, .int .u8 0, .int .u8 0, .int .u8 0, .int .u8 0, .int .u8 0, .int .u8 0, .int .u8 0, .int .u8 0, .int .u8 0, .int .u8 0, .int .u8 0, .int .u8 0, .int .u8 0, .int .u8 0] := by
  rw [zero64]; rfl
def BT (w : World) (g : Nat) (O : Nat → Nat) (wr : World) : Prop := Below w.heap.size w wr ∧ g < wr.heap.size ∧ w.heap.size < g ∧ Blk wr g 125 (row8 64 O) ∧ ∃ f, Blk wr w.heap.size 86 (row8 16 f)
theorem BT.below {w wr w' : World} {g : Nat} {O : Nat → Nat} (h : BT w g O wr) (b : Below wr.heap.size wr w') : BT w g O w' := by
  obtain ⟨h1, h2, h3, h4, f, h5⟩ := h
  exact ⟨below_step h1 (Nat.le_refl _) b, Nat.lt_of_lt_of_le h2 b.size, h3, h4.below b h2, f, h5.below b (by omega)⟩
theorem BT.drew {w wr : World} {g : Nat} {O : Nat → Nat} (h : BT w g O wr) : BT w g O wr.drew := h.below (below_drew (Below.refl _ _))
theorem BT.alloc {w wr : World} {g : Nat} {O : Nat → Nat} (h : BT w g O wr) (o : Obj) : BT w g O (wr.alloc o) := h.below ((Below.refl _ _).alloc (Nat.le_refl _) o)
theorem BT.setRow {w wr : World} {g : Nat} {O : Nat → Nat} (h : BT w g O wr) (F : Nat → Nat) : BT w g O (wr.setRow w.heap.size (row8 16 F)) := by
  obtain ⟨h1, h2, h3, h4, f, h5⟩ := h
  exact ⟨below_setRow h1 (Nat.le_refl _), by simpa using h2, h3, (setRow_other _ _ _ _ (by omega)).trans h4, F, setRow_heap _ _ _ _ _ _ h5⟩
theorem BT.res {w wr : World} {g : Nat} {O : Nat → Nat} (h : BT w g O wr) (F : Nat → Nat) : Blk (wr.setRow w.heap.size (row8 16 F)) w.heap.size 86 (row8 16 F) := by
  obtain ⟨h1, h2, h3, h4, f, h5⟩ := h
  exact setRow_heap _ _ _ _ _ _ h5
theorem BT_new {w w1 : World} {O : Nat → Nat} (b1 : Below (w.heap.size + 1) (w.alloc (.cells (row8 16 fun _ => 0) 86)) w1) : BT w w1.heap.size O ((w1.alloc (.cells (row8 64 fun _ => 0) 125)).setRow w1.heap.size (row8 64 O)) := by
  have b2 : Below w1.heap.size w1 ((w1.alloc (.cells (row8 64 fun _ => 0) 125)).setRow w1.heap.size (row8 64 O)) := below_setRow ((Below.refl _ _).alloc (Nat.le_refl _) _) (Nat.le_refl _)
  have s1 := b1.size
  simp only [World.size_alloc] at s1
  have b0 : Below w.heap.size w w1 := ((Below.refl w.heap.size w).alloc (Nat.le_refl _) _).trans (b1.mono (Nat.le_succ _))
  have k1 : Blk w1 w.heap.size 86 (row8 16 fun _ => 0) := (Blk.new w 86 _).below b1 (Nat.lt_succ_self _)
  exact ⟨below_step b0 (Nat.le_refl _) b2, by simp, by omega, setRow_heap _ _ _ _ _ _ (Blk.new w1 125 _), _, k1.below b2 (by omega)⟩
theorem tag54T (key text : ByteArray) (TG : Nat) (w : World) (hk : key.size = 32) (hm : text.size ≤ maxLen) (hTG : TG = tagN key text) :
    Calls Try.prog 54 #[.string key, .string text] w fun e w' => e = .returned (.agg (row8 16 (bytesN TG))) ∧ Below w.heap.size w w' := by
  have h := tag54 key text w hk hm
  rw [← hTG] at h
  exact h
theorem BT.there {w wr : World} {g : Nat} {O : Nat → Nat} (h : BT w g O wr) (n : Nat) (hn : n ≤ 16) : wr.there w.heap.size 0 n := by
  obtain ⟨h1, h2, h3, h4, f, h5⟩ := h
  intro j hj
  rw [Nat.zero_add]
  exact ⟨by rw [h5.cell, row8_at _ _ _ (by omega)]; rfl, h5.frozen j⟩
theorem BT.both {w wr : World} {g : Nat} {O : Nat → Nat} (h : BT w g O wr) {n : Nat} (hn : n ≤ 16) : BT w g O wr ∧ wr.there w.heap.size 0 n := ⟨h, h.there n hn⟩
theorem Blk.setCells {g t n : Nat} : ∀ (vs : List Value) (o : Nat) (w : World) (cs : Array Value), Blk w g t cs → cs.size = n → ∃ cs', Blk (w.setCells g o vs) g t cs' ∧ cs'.size = n ∧ ∀ j, j < n → cs'[j]? = if o ≤ j ∧ j < o + vs.length then vs[j - o]? else cs[j]?
  | [], o, w, cs, h, hs => ⟨cs, h, hs, fun j _ => by simp; omega⟩
  | v :: vs, o, w, cs, h, hs => by
    obtain ⟨cs', h1, h2, h3⟩ := Blk.setCells vs (o + 1) (w.setCell ⟨g, o, none⟩ v) _ (h.set o v) (by simpa using hs)
    refine ⟨cs', h1, h2, fun j hj => ?_⟩
    rw [h3 j hj, Array.getElem?_setIfInBounds]
    by_cases e : o = j
    · subst e
      simp [show o < cs.size by omega]
      intro h; omega
    · by_cases e2 : o + 1 ≤ j ∧ j < o + 1 + vs.length
      · rw [if_pos e2, if_pos (by simp; omega), show j - o = (j - (o + 1)) + 1 by omega, List.getElem?_cons_succ]
      · rw [if_neg e2, if_neg e, if_neg (by simp; omega)]
theorem Blk.setAll {w : World} {g t : Nat} {f : Nat → Nat} (h : Blk w g t (row8 16 f)) (F : Nat → Nat) : Blk (w.setCells g 0 (List.map (fun i => Value.int .u8 ((F i : Nat) : Int)) (List.range 16))) g t (row8 16 F) := by
  obtain ⟨cs', h1, h2, h3⟩ := Blk.setCells (n := 16) (List.map (fun i => Value.int .u8 ((F i : Nat) : Int)) (List.range 16)) 0 w (row8 16 f) h (row8_size _ _)
  have e : cs' = row8 16 F := by
    apply Array.ext_getElem?
    intro j
    by_cases hj : j < 16
    · rw [h3 j hj, if_pos (by simpa using hj), row8_at _ _ _ hj]
      simp [hj]
    · rw [Array.getElem?_eq_none (by omega), Array.getElem?_eq_none (by rw [row8_size]; omega)]
  rw [← e]; exact h1
theorem cell_of_setCell {w : World} {p x : Addr} {v : Value} (h : ((w.setCell p v).cell? x).isSome = true) : (w.cell? x).isSome = true := by
  rw [World.cell?, World.setCell] at h
  simp only [Array.getElem?_modify] at h
  rw [World.cell?]
  by_cases e : p.block = x.block
  · rw [if_pos e] at h
    rcases hb : w.heap[x.block]? with _ | o
    · rw [hb] at h; simp at h
    · rw [hb] at h
      cases o with
      | cells c t fr =>
        simp only [Option.map_some] at h ⊢
        split at h
        · simp at h
        · rename_i hs
          split at h <;> simp_all
      | _ => simp at h
  · rw [if_neg e] at h
    exact h
theorem BT.fin {w W : World} {g : Nat} {O : Nat → Nat} (F : Nat → Nat) (h : BT w g O (W.setCells w.heap.size 0 (List.map (fun i => Value.int .u8 ((F i : Nat) : Int)) (List.range 16)))) : Blk (W.setCells w.heap.size 0 (List.map (fun i => Value.int .u8 ((F i : Nat) : Int)) (List.range 16))) w.heap.size 86 (row8 16 F) := by
  obtain ⟨h1, h2, h3, h4, f, h5⟩ := h
  have hs : ∀ (vs : List Value) (o : Nat) (W : World) (x : Addr), ((W.setCells w.heap.size o vs).cell? x).isSome = true → (W.cell? x).isSome = true := by
    intro vs
    induction vs with
    | nil => intro o W x hx; exact hx
    | cons v vs ih => intro o W x hx; exact cell_of_setCell (ih _ _ _ hx)
  have e : row8 16 f = row8 16 F := by
    apply Array.ext_getElem?
    intro j
    by_cases hj : j < 16
    · have hc := h5.cell j
      have hin := World.cell?_setCells_in w.heap.size (List.map (fun i => Value.int .u8 ((F i : Nat) : Int)) (List.range 16)) 0 W (fun i hi => hs _ 0 W _ (by
        rw [Nat.zero_add, h5.cell, row8_at _ _ _ (by simpa using hi)]; rfl)) j (by simpa using hj)
      rw [Nat.zero_add, hc] at hin
      rw [hin, row8_at _ _ _ hj]
      simp
    · rw [Array.getElem?_eq_none (by rw [row8_size]; omega), Array.getElem?_eq_none (by rw [row8_size]; omega)]
  rw [← e]; exact h5
theorem BT.setCells {w W : World} {g : Nat} {O : Nat → Nat} (h : BT w g O W) (F : Nat → Nat) : BT w g O (W.setCells w.heap.size 0 (List.map (fun i => Value.int .u8 ((F i : Nat) : Int)) (List.range 16))) := by
  obtain ⟨h1, h2, h3, h4, f, h5⟩ := h
  have hsz : ∀ (vs : List Value) (o : Nat) (W : World), (W.setCells w.heap.size o vs).heap.size = W.heap.size := by
    intro vs
    induction vs with
    | nil => intro o W; rfl
    | cons v vs ih => intro o W; exact (ih _ _).trans (by simp [World.setCell])
  exact ⟨Go.below_setCells (Nat.le_refl _) _ _ _ h1, by rw [hsz]; exact h2, h3, (World.heap_setCells_other W w.heap.size 0 _ h2 (by omega)).trans h4, F, h5.setAll F⟩
theorem cat6 (a b c d e f : ByteArray) (W : World) (hlen : (catS [a, b, c, d, e, f]).size ≤ 140737488355328) :
    Calls Try.prog 103 #[.slice (some ⟨W.heap.size, 0, none⟩) 6 6] (W.alloc (.cells #[.string a, .string b, .string c, .string d, .string e, .string f] 9)) fun r w' => r = .returned (.string (catS [a, b, c, d, e, f])) ∧ Below (W.alloc (.cells #[.string a, .string b, .string c, .string d, .string e, .string f] 9)).heap.size (W.alloc (.cells #[.string a, .string b, .string c, .string d, .string e, .string f] 9)) w' := by
  refine concat103 W.heap.size 0 6 [a, b, c, d, e, f] _ ?_ (by simp) (by simp) (by simp) hlen
  intro j x hx
  rw [Nat.zero_add]
  have hb : Blk (W.alloc (.cells #[.string a, .string b, .string c, .string d, .string e, .string f] 9)) W.heap.size 9 #[.string a, .string b, .string c, .string d, .string e, .string f] := Blk.new W 9 _
  rw [hb.cell j]
  have hj : j < 6 := by
    have := (List.getElem?_eq_some_iff.1 hx).1
    simpa using this
  have hj' : j = 0 ∨ j = 1 ∨ j = 2 ∨ j = 3 ∨ j = 4 ∨ j = 5 := by omega
  rcases hj' with rfl | rfl | rfl | rfl | rfl | rfl <;> simp at hx <;> subst hx <;> rfl
set_option maxRecDepth 100000 in
set_option maxHeartbeats 4000000 in
theorem blockTag80 (key nonce extra sealed : ByteArray) (w : World) (hk : key.size = 32) (hn : nonce.size = 12) (he : extra.size ≤ 1099511627776) (hs : sealed.size ≤ 1099511627776) :
    Calls Try.prog 80 #[.string key, .string nonce, .string extra, .string sealed] w fun e w' => e = .returned (.agg (row8 16 (bytesN (btag key nonce extra sealed)))) ∧ Below w.heap.size w w' := by
  have HK := Lib.hid hk
  have HNn := Lib.hid hn
  clear hk hn
  obtain ⟨TG, hTE⟩ : ∃ TG, TG = btag key nonce extra sealed := ⟨_, rfl⟩
  have HTE := Lib.hid hTE
  have HM := Lib.hid (macT_size extra sealed)
  have HTG := Lib.hid (show TG = tagN (strB 32 (blockB key nonce 0)) (catS [extra, zerosB (padN extra.size), sealed, zerosB (padN sealed.size), strB 8 (bytesN extra.size), strB 8 (bytesN sealed.size)]) from hTE)
  clear hTE
  have hz16 : row8 16 (fun _ => 0) = #[.int .u8 0, .int .u8 0, .int .u8 0, .int .u8 0, .int .u8 0, .int .u8 0, .int .u8 0, .int .u8 0, .int .u8 0, .int .u8 0, .int .u8 0, .int .u8 0, .int .u8 0, .int .u8 0, .int .u8 0, .int .u8 0] := by simp [row8, List.range, List.range.loop]
  have HZ := Lib.hid hz16
  clear hz16
  go_enter Try.func80, Try.ntmps80
  go_wp2_with fail
  refine (streamBlock85 key nonce 0 _ HK.out HNn.out (by decide)).mono ?_
  rintro e w1 ⟨rfl, b1⟩
  rw [← HZ.out] at b1
  have b2 : Below (w.heap.size + 1) (w.alloc (.cells (row8 16 fun _ => 0) 86)) w1 := by simpa using b1
  have hbt := BT_new (O := blockB key nonce 0) b2
  have hnew := Blk.new w1 125 (row8 64 fun _ => 0)
  rw [zero64L] at hbt hnew
  have HBT := Lib.hid hbt
  have HN := Lib.hid hnew
  clear hnew hbt b1 b2
  generalize hO : blockB key nonce 0 = O at *
  clear hO
  go_wp2_with (refine wpList_store_row rfl 125 _ _ rfl w1.heap.size (row8 64 O) rfl rfl 125 _ HN.out (info125 _) (by rw [row8_size]; rfl) (row8_all _ _) ?_)
  clear HN
  generalize (w1.alloc (.cells #[.int .u8 0, .int .u8 0, .int .u8 0, .int .u8 0, .int .u8 0, .int .u8 0, .int .u8 0, .int .u8 0, .int .u8 0, .int .u8 0, .int .u8 0, .int .u8 0, .int .u8 0, .int .u8 0, .int .u8 0, .int .u8 0, .int .u8 0, .int .u8 0, .int .u8 0, .int .u8 0, .int .u8 0, .int .u8 0, .int .u8 0, .int .u8 0, .int .u8 0, .int .u8 0, .int .u8 0, .int .u8 0, .int .u8 0, .int .u8 0, .int .u8 0, .int .u8 0, .int .u8 0, .int .u8 0, .int .u8 0, .int .u8 0, .int .u8 0, .int .u8 0, .int .u8 0, .int .u8 0, .int .u8 0, .int .u8 0, .int .u8 0, .int .u8 0, .int .u8 0, .int .u8 0, .int .u8 0, .int .u8 0, .int .u8 0, .int .u8 0, .int .u8 0, .int .u8 0, .int .u8 0, .int .u8 0, .int .u8 0, .int .u8 0, .int .u8 0, .int .u8 0, .int .u8 0, .int .u8 0, .int .u8 0, .int .u8 0, .int .u8 0, .int .u8 0] 125)).setRow w1.heap.size (row8 64 O) = w2 at *
  generalize w1.heap.size = g at *
  have hcv : ∀ W, BT w g O W → ∀ cap, (convert 88 9 (.slice (some ⟨g, 0, none⟩) 32 cap)).run Try.prog W = .ok (.string (strB 32 O)) W := fun W hW cap => by
    have h := conv_row hW.2.2.2.1 0 32 (by omega) cap
    have e : (fun i => O (0 + i)) = O := by funext i; rw [Nat.zero_add]
    rw [e] at h; exact h
  have hml : (catS [extra, zerosB (padN extra.size), sealed, zerosB (padN sealed.size), strB 8 (bytesN extra.size), strB 8 (bytesN sealed.size)]).size ≤ 140737488355328 := Nat.le_trans HM.out (by omega)
  have HML := Lib.hid hml
  have HMM := Lib.hid (show (catS [extra, zerosB (padN extra.size), sealed, zerosB (padN sealed.size), strB 8 (bytesN extra.size), strB 8 (bytesN sealed.size)]).size ≤ maxLen from Nat.le_trans hml (by unfold maxLen; omega))
  clear hml
  generalize hz1 : zerosB (padN extra.size) = Z1 at *
  generalize hz2 : zerosB (padN sealed.size) = Z2 at *
  have HZ1 := Lib.hid hz1
  have HZ2 := Lib.hid hz2
  clear hz1 hz2
  have hin : Option.map (fun x => x.size) (Try.prog.info? 86) = some (List.map (fun i => Value.int IntKind.u8 ((bytesN TG i : Nat) : Int)) (List.range 16)).length := by
    have h := info86 (bytesN TG)
    rw [row8_size] at h
    simpa using h
  have hon : ∀ v ∈ List.map (fun i => Value.int IntKind.u8 ((bytesN TG i : Nat) : Int)) (List.range 16), v.oneCell' = true := by
    intro v hv
    obtain ⟨i, _, rfl⟩ := List.mem_map.1 hv
    rfl
  have hl16 : (List.map (fun i => Value.int IntKind.u8 ((bytesN TG i : Nat) : Int)) (List.range 16)).length ≤ 16 := by simp
  have HL := Lib.hid hl16
  clear hl16
  go_region_held3 (fun w' => BT w g O w' ∧ w'.there w.heap.size 0 (List.map (fun i => Value.int IntKind.u8 ((bytesN TG i : Nat) : Int)) (List.range 16)).length) (first | (with_reducible exact BT.both (BT.setCells (And.left (by assumption)) _) HL.out) | (with_reducible exact BT.both (BT.below (And.left (by assumption)) hbb) HL.out) | (with_reducible exact BT.both (BT.alloc (And.left (by assumption)) _) HL.out) | (with_reducible exact HBT.out.drew.both HL.out) | assumption)
    (first | (go_at_call_of 101 (Value.string extra); refine (fill101 extra _ (by omega)).mono ?_; rintro e w' ⟨rfl, hbb⟩; rw [HZ1.out]) | (go_at_call_of 101 (Value.string sealed); refine (fill101 sealed _ (by omega)).mono ?_; rintro e w' ⟨rfl, hbb⟩; rw [HZ2.out]) | (go_at_call_of 102 (Value.int IntKind.i64 extra.size); refine (little102 extra.size _ (by omega)).mono ?_; rintro e w' ⟨rfl, hbb⟩) | (go_at_call_of 102 (Value.int IntKind.i64 sealed.size); refine (little102 sealed.size _ (by omega)).mono ?_; rintro e w' ⟨rfl, hbb⟩) | (go_at_call 103; refine (cat6 _ _ _ _ _ _ _ HML.out).mono ?_; rintro e w' ⟨rfl, hbb⟩) | (go_at_call 54; refine (tag54T (strB 32 O) _ TG _ (strB_size 32 O) HMM.out HTG.out).mono ?_; rintro e w' ⟨rfl, hbb⟩))
  all_goals
    clear hin hon hcv
    have HF := Lib.hid (And.left (by assumption : BT w g O _ ∧ _))
    go_wp2_with fail
    refine bodyPost_ret (v := .agg (row8 16 (bytesN TG))) (results_cell_row (p := 8) Try.results80 _ _ w.heap.size 86 _ (0, 0) _ rfl (BT.fin _ HF.out) Try.underlying86 rfl (info86 _)) rfl ⟨by rw [HTE.out], HF.out.1⟩
end Go.Proofs.Ytnjmcppljbkhnaa

set_option linter.unusedVariables false
set_option linter.unusedSimpArgs false
namespace Go.Proofs.Ytnjmcppljbkhnaa
open Go.RowKit

def tagB (key nonce extra sealed : ByteArray) : ByteArray := strB 16 (bytesN (btag key nonce extra sealed))
def sealB (key nonce extra text : ByteArray) : ByteArray := strmS key nonce 1 text ++ tagB key nonce extra (strmS key nonce 1 text)
theorem strmS_size (key nonce : ByteArray) (c : Nat) (text : ByteArray) : (strmS key nonce c text).size = text.size := strB_size _ _
theorem sealB_size (key nonce extra text : ByteArray) : (sealB key nonce extra text).size = text.size + 16 := by
  unfold sealB tagB
  rw [ByteArray.size_append, strmS_size, strB_size]
theorem zero16L : row8 16 (fun _ => 0) = #[.int .u8 0, .int .u8 0, .int .u8 0, .int .u8 0, .int .u8 0, .int .u8 0, .int .u8 0, .int .u8 0, .int .u8 0, .int .u8 0, .int .u8 0, .int .u8 0, .int .u8 0, .int .u8 0, .int .u8 0, .int .u8 0] := by simp [row8, List.range, List.range.loop]

set_option maxRecDepth 100000 in
set_option maxHeartbeats 1000000 in
theorem sealBlock48 (key nonce extra text : ByteArray) (w : World) (hk : key.size = 32) (hn : nonce.size = 12) (he : extra.size ≤ 1099511627776) (hs : text.size ≤ 1099511627776) :
    Calls Try.prog 48 #[.string key, .string nonce, .string extra, .string text] w fun e w' => e = .returned (.string (sealB key nonce extra text)) ∧ Below w.heap.size w w' := by
  have HK := Lib.hid hk
  have HNn := Lib.hid hn
  clear hk hn
  go_enter Try.func48, Try.ntmps48
  go_wp2_with fail
  refine (stream53 key nonce text 1 _ HK.out HNn.out (by decide) (by omega)).mono ?_
  rintro e w1 ⟨rfl, b1⟩
  have HB1 := Lib.hid b1
  clear b1
  obtain ⟨S, hS⟩ : ∃ S, S = strmS key nonce 1 text := ⟨_, rfl⟩
  rw [← hS]
  have HSS := Lib.hid (show S.size ≤ 1099511627776 from by rw [hS, strmS_size]; exact hs)
  have HS := Lib.hid hS
  clear hS
  go_wp2_with fail
  refine (blockTag80 key nonce extra S _ HK.out HNn.out he HSS.out).mono ?_
  rintro e w2 ⟨rfl, b2⟩
  have HB2 := Lib.hid b2
  clear b2
  obtain ⟨F, hF⟩ : ∃ F, F = bytesN (btag key nonce extra S) := ⟨_, rfl⟩
  rw [← hF]
  have HE := Lib.hid (show S ++ strB 16 F = sealB key nonce extra text from by unfold sealB tagB; rw [hF, ← HS.out])
  clear hF
  have hnew := Blk.new w2 86 (row8 16 fun _ => 0)
  rw [zero16L] at hnew
  have HN := Lib.hid hnew
  clear hnew
  have hb : Blk ((w2.alloc (.cells #[.int .u8 0, .int .u8 0, .int .u8 0, .int .u8 0, .int .u8 0, .int .u8 0, .int .u8 0, .int .u8 0, .int .u8 0, .int .u8 0, .int .u8 0, .int .u8 0, .int .u8 0, .int .u8 0, .int .u8 0, .int .u8 0] 86)).setRow w2.heap.size (row8 16 F)) w2.heap.size 86 (row8 16 F) := setRow_heap _ _ _ _ _ _ HN.out
  have HB := Lib.hid (below_step HB2.out (Nat.le_refl _) (below_setRow (g := w2.heap.size) (cs := row8 16 F) ((Below.refl w2.heap.size w2).alloc (Nat.le_refl _) (.cells #[.int .u8 0, .int .u8 0, .int .u8 0, .int .u8 0, .int .u8 0, .int .u8 0, .int .u8 0, .int .u8 0, .int .u8 0, .int .u8 0, .int .u8 0, .int .u8 0, .int .u8 0, .int .u8 0, .int .u8 0, .int .u8 0] 86)) (Nat.le_refl _)))
  clear HB2
  have hcv := fun cap => conv_row hb 0 16 (by omega) cap
  have e0 : (fun i => F (0 + i)) = F := by funext i; rw [Nat.zero_add]
  rw [e0] at hcv
  clear e0 hb
  have hl0 := HSS.out
  have hl1 : (strB 16 F).size ≤ 16 := by rw [strB_size]; exact Nat.le_refl _
  have hl2 : S.size + (strB 16 F).size ≤ 9223372036854775807 := by omega
  go_wp2_with (refine wpList_store_row rfl 86 _ _ rfl w2.heap.size (row8 16 F) rfl rfl 86 _ HN.out (info86 _) (by rw [row8_size]; rfl) (row8_all _ _) ?_)
  go_ret
  exact ⟨by rw [← HE.out]; rfl, below_step HB1.out (Nat.le_refl _) HB.out⟩

set_option maxRecDepth 100000 in
set_option maxHeartbeats 1000000 in
theorem sealBlock14_ok (key nonce extra text : ByteArray) (w : World) (hk : key.size = 32) (hn : nonce.size = 12) (he : extra.size ≤ 1048576) (hs : text.size ≤ 1048576) :
    Calls Try.prog 14 #[.string key, .string nonce, .string extra, .string text] w fun e w' => e = .returned (.tuple #[.string (sealB key nonce extra text), .int .i64 0]) ∧ Below w.heap.size w w' := by
  have HK := Lib.hid hk
  have HNn := Lib.hid hn
  clear hk hn
  have HC := Lib.hid (sealBlock48 key nonce extra text w HK.out HNn.out (by omega) (by omega))
  generalize sealB key nonce extra text = S at *
  go_enter Try.func14, Try.ntmps14
  go_wp2_with fail
  refine (lengths47_ok key nonce _ HK.out HNn.out).mono ?_
  rintro e w' ⟨rfl, rfl⟩
  go_wp2_with fail
  refine HC.out.mono ?_
  rintro e w' ⟨rfl, hb⟩
  have HB := Lib.hid hb
  clear hb
  go_wp2_with fail
  go_ret2
  exact ⟨rfl, HB.out⟩
set_option maxHeartbeats 1000000 in
theorem sealBlock14_form (key nonce extra text : ByteArray) (w : World) (h : key.size ≠ 32 ∨ nonce.size ≠ 12) (hk : key.size ≤ maxLen) (hn : nonce.size ≤ maxLen) :
    Calls Try.prog 14 #[.string key, .string nonce, .string extra, .string text] w fun e w' => e = .returned (.tuple #[.string ByteArray.empty, .int .i64 6]) ∧ w = w' := by
  have HC := Lib.hid (lengths47_no key nonce w h hk hn)
  clear h
  go_enter Try.func14, Try.ntmps14
  go_wp2_with fail
  refine HC.out.mono ?_
  rintro e w' ⟨rfl, rfl⟩
  go_wp2_with fail
  go_ret2
  exact ⟨rfl, rfl⟩
set_option maxHeartbeats 1000000 in
theorem sealBlock14_large (key nonce extra text : ByteArray) (w : World) (hk : key.size = 32) (hn : nonce.size = 12) (he : extra.size ≤ maxLen) (hs : text.size ≤ maxLen) (h : 1048576 < extra.size ∨ 1048576 < text.size) :
    Calls Try.prog 14 #[.string key, .string nonce, .string extra, .string text] w fun e w' => e = .returned (.tuple #[.string ByteArray.empty, .int .i64 8]) ∧ w = w' := by
  have HK := Lib.hid hk
  have HNn := Lib.hid hn
  clear hk hn
  unfold maxLen at he hs
  by_cases h1 : 1048576 < extra.size
  · clear h
    go_enter Try.func14, Try.ntmps14
    go_wp2_with fail
    refine (lengths47_ok key nonce _ HK.out HNn.out).mono ?_
    rintro e w' ⟨rfl, rfl⟩
    go_wp2_with fail
    go_ret2
    exact ⟨rfl, rfl⟩
  · have h2 : 1048576 < text.size := by omega
    clear h
    go_enter Try.func14, Try.ntmps14
    go_wp2_with fail
    refine (lengths47_ok key nonce _ HK.out HNn.out).mono ?_
    rintro e w' ⟨rfl, rfl⟩
    go_wp2_with fail
    go_ret2
    exact ⟨rfl, rfl⟩

def sealsKey : ByteArray := ⟨(List.replicate 32 107).toArray⟩
def sealsNonce : ByteArray := ⟨(List.replicate 12 110).toArray⟩
theorem repeat_one (x : UInt8) (n : Nat) : Lib.repeatL [x] n = List.replicate n x := by
  induction n with
  | zero => rfl
  | succ n ih => rw [Lib.repeatL, ih]; rfl
theorem rep46 (x : UInt8) (n : Nat) (I : Int) (hI : I = n) (hn : n ≤ 1000) (w : World) : Calls Try.prog 46 #[.string ⟨#[x]⟩, .int .i64 I] w fun e w' => e = .returned (.string ⟨(List.replicate n x).toArray⟩) ∧ Below w.heap.size w w' := by
  subst hI
  have h := Try.strings_Repeat ⟨#[x]⟩ n w (by omega) (by show 1 * n ≤ _; omega)
  have e : Lib.repeatL (⟨#[x]⟩ : ByteArray).data.toList n = List.replicate n x := repeat_one x n
  rw [e] at h
  exact h
set_option maxHeartbeats 1000000 in
theorem seals13 (w : World) : Calls Try.prog 13 #[] w fun e w' => e = .returned (.bool true) ∧ Below w.heap.size w w' := by
  go_enter Try.func13, Try.ntmps13
  go_wp2_with fail
  refine (rep46 107 32 32 rfl (by decide) _).mono ?_
  rintro e w1 ⟨rfl, b1⟩
  have HB1 := Lib.hid b1
  clear b1
  obtain ⟨K, hK⟩ : ∃ K : ByteArray, K = ⟨(List.replicate 32 107).toArray⟩ := ⟨_, rfl⟩
  rw [← hK]
  have HK := Lib.hid (show K.size = 32 from by rw [hK]; rfl)
  clear hK
  go_wp2_with fail
  refine (rep46 110 12 12 rfl (by decide) _).mono ?_
  rintro e w2 ⟨rfl, b2⟩
  have HB2 := Lib.hid b2
  clear b2
  obtain ⟨N, hN⟩ : ∃ N : ByteArray, N = ⟨(List.replicate 12 110).toArray⟩ := ⟨_, rfl⟩
  rw [← hN]
  have HN := Lib.hid (show N.size = 12 from by rw [hN]; rfl)
  clear hN
  go_wp2_with fail
  refine (sealBlock14_ok K N _ _ _ HK.out HN.out (by decide) (by decide)).mono ?_
  rintro e w3 ⟨rfl, b3⟩
  have HB3 := Lib.hid b3
  clear b3
  have hsz := sealB_size K N ⟨#[]⟩ ⟨#[116, 101, 120, 116]⟩
  generalize sealB K N ⟨#[]⟩ ⟨#[116, 101, 120, 116]⟩ = S at *
  have hs2 : ((S.size : Int) == 20) = true := by rw [hsz]; rfl
  clear hsz
  go_wp2_with fail
  go_ret
  exact ⟨rfl, below_step (below_step HB1.out (Nat.le_refl _) HB2.out) (Nat.le_refl _) HB3.out⟩
end Go.Proofs.Ytnjmcppljbkhnaa
