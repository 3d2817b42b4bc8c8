import Derived.Test.YtnjmcppljbkhnaaN
import Derived.Test.YtnjmcppljbkhnaaL
import Derived.Deep.MidRow
import Derived.Deep.Upon
import Derived.Lib.LazyBuf
import Derived.Deep.RegionHeld3
import Derived.Deep.RegionLaw
set_option linter.unusedVariables false
set_option linter.unusedSimpArgs false
namespace Go.Proofs.Ytnjmcppljbkhnaa
open Go.RowKit

def bkey (key nonce : ByteArray) : ByteArray := strB 32 (blockB key nonce 0)
def macT (extra sealed : ByteArray) : ByteArray := catS [extra, zerosB (padN extra.size), sealed, zerosB (padN sealed.size), strB 8 (bytesN extra.size), strB 8 (bytesN sealed.size)]
def btag (key nonce extra sealed : ByteArray) : Nat := tagN (bkey key nonce) (macT extra sealed)
theorem macT_size (extra sealed : ByteArray) : (macT extra sealed).size ≤ extra.size + sealed.size + 48 := by
  have h1 : padN extra.size < 16 := Nat.mod_lt _ (by decide)
  have h2 : padN sealed.size < 16 := Nat.mod_lt _ (by decide)
  have hc : ∀ xs : List ByteArray, (catS xs).size = (xs.map (·.size)).sum := by
    intro xs
    induction xs with
    | nil => rfl
    | cons x l ih =>
      have e1 : (catS (x :: l)).size = x.size + (catS l).size := by
        simp only [ByteArray.size, catS, List.map_cons, List.flatten_cons, List.size_toArray, List.length_append, Array.length_toList]
      rw [e1, ih]; rfl
  have hz : ∀ n, (zerosB n).size = n := fun n => by simp [zerosB, ByteArray.size]
  unfold macT
  rw [hc]
  simp only [List.map_cons, List.map_nil, List.sum_cons, List.sum_nil, hz, strB_size]
  omega
set_option maxRecDepth 100000 in
theorem zero64L : row8 64 (fun _ => 0) = #[.int .u8 0, .int .u8 0, .int .u8 0, .int .u8 0, .int .u8 0, .int .u8 0, .int .u8 0, .int .u8 0, .int .u8 0, .int .u8 0, .int .u8 0, .int .u8 0, .int .u8 0, .int .u8 0, .int .u8 0, .int .u8 0, .int .u8 0, .int .u8 0, .int .u8 0, .int .u8 0, .int .u8 0, .int .u8 0, .int .u8 0, .int .u8 0, .int .u8 0, .int .u8 0, .int .u8 0, .int .u8 0, .int .u8 0, .int .u8 0, .int .u8 0, .int .u8 0, .int .u8 0, .int .u8 0, .int .u8 0, .int .u8 0, .int .u8 0, .int .u8 0, .int .u8 0, .int .u8 0, .int .u8 0, .int .u8 0, .int .u8 0, .int .u8 0, .int .u8 0, .int .u8 0, .int .u8 0, .int .u8 0, .int .u8 0, .int .u8 0, .int .u8 0, .int .u8 0, .int .u8 0, .int .u8 0, .int .u8 0, .int .u8 0, .int .u8 0, .int .u8 0, .int .u8 0, .int .u8 0, .int .u8 0, .int .u8 0, .int .u8 0, .int .u8 0] := by
  rw [zero64]; rfl
def BT (w : World) (g : Nat) (O : Nat → Nat) (wr : World) : Prop := Below w.heap.size w wr ∧ g < wr.heap.size ∧ w.heap.size < g ∧ Blk wr g 125 (row8 64 O) ∧ ∃ f, Blk wr w.heap.size 86 (row8 16 f)
theorem BT.below {w wr w' : World} {g : Nat} {O : Nat → Nat} (h : BT w g O wr) (b : Below wr.heap.size wr w') : BT w g O w' := by
  obtain ⟨h1, h2, h3, h4, f, h5⟩ := h
  exact ⟨below_step h1 (Nat.le_refl _) b, Nat.lt_of_lt_of_le h2 b.size, h3, h4.below b h2, f, h5.below b (by omega)⟩
theorem BT.drew {w wr : World} {g : Nat} {O : Nat → Nat} (h : BT w g O wr) : BT w g O wr.drew := h.below (below_drew (Below.refl _ _))
theorem BT.alloc {w wr : World} {g : Nat} {O : Nat → Nat} (h : BT w g O wr) (o : Obj) : BT w g O (wr.alloc o) := h.below ((Below.refl _ _).alloc (Nat.le_refl _) o)
theorem BT.setRow {w wr : World} {g : Nat} {O : Nat → Nat} (h : BT w g O wr) (F : Nat → Nat) : BT w g O (wr.setRow w.heap.size (row8 16 F)) := by
  obtain ⟨h1, h2, h3, h4, f, h5⟩ := h
  exact ⟨below_setRow h1 (Nat.le_refl _), by simpa using h2, h3, (setRow_other _ _ _ _ (by omega)).trans h4, F, setRow_heap _ _ _ _ _ _ h5⟩
theorem BT.res {w wr : World} {g : Nat} {O : Nat → Nat} (h : BT w g O wr) (F : Nat → Nat) : Blk (wr.setRow w.heap.size (row8 16 F)) w.heap.size 86 (row8 16 F) := by
  obtain ⟨h1, h2, h3, h4, f, h5⟩ := h
  exact setRow_heap _ _ _ _ _ _ h5
theorem BT_new {w w1 : World} {O : Nat → Nat} (b1 : Below (w.heap.size + 1) (w.alloc (.cells (row8 16 fun _ => 0) 86)) w1) : BT w w1.heap.size O ((w1.alloc (.cells (row8 64 fun _ => 0) 125)).setRow w1.heap.size (row8 64 O)) := by
  have b2 : Below w1.heap.size w1 ((w1.alloc (.cells (row8 64 fun _ => 0) 125)).setRow w1.heap.size (row8 64 O)) := below_setRow ((Below.refl _ _).alloc (Nat.le_refl _) _) (Nat.le_refl _)
  have s1 := b1.size
  simp only [World.size_alloc] at s1
  have b0 : Below w.heap.size w w1 := ((Below.refl w.heap.size w).alloc (Nat.le_refl _) _).trans (b1.mono (Nat.le_succ _))
  have k1 : Blk w1 w.heap.size 86 (row8 16 fun _ => 0) := (Blk.new w 86 _).below b1 (Nat.lt_succ_self _)
  exact ⟨below_step b0 (Nat.le_refl _) b2, by simp, by omega, setRow_heap _ _ _ _ _ _ (Blk.new w1 125 _), _, k1.below b2 (by omega)⟩
theorem tag54T (key text : ByteArray) (TG : Nat) (w : World) (hk : key.size = 32) (hm : text.size ≤ maxLen) (hTG : TG = tagN key text) :
    Calls Try.prog 54 #[.string key, .string text] w fun e w' => e = .returned (.agg (row8 16 (bytesN TG))) ∧ Below w.heap.size w w' := by
  have h := tag54 key text w hk hm
  rw [← hTG] at h
  exact h
theorem BT.there {w wr : World} {g : Nat} {O : Nat → Nat} (h : BT w g O wr) (n : Nat) (hn : n ≤ 16) : wr.there w.heap.size 0 n := by
  obtain ⟨h1, h2, h3, h4, f, h5⟩ := h
  intro j hj
  rw [Nat.zero_add]
  exact ⟨by rw [h5.cell, row8_at _ _ _ (by omega)]; rfl, h5.frozen j⟩
theorem BT.both {w wr : World} {g : Nat} {O : Nat → Nat} (h : BT w g O wr) {n : Nat} (hn : n ≤ 16) : BT w g O wr ∧ wr.there w.heap.size 0 n := ⟨h, h.there n hn⟩
theorem Blk.setCells {g t n : Nat} : ∀ (vs : List Value) (o : Nat) (w : World) (cs : Array Value), Blk w g t cs → cs.size = n → ∃ cs', Blk (w.setCells g o vs) g t cs' ∧ cs'.size = n ∧ ∀ j, j < n → cs'[j]? = if o ≤ j ∧ j < o + vs.length then vs[j - o]? else cs[j]?
  | [], o, w, cs, h, hs => ⟨cs, h, hs, fun j _ => by simp; omega⟩
  | v :: vs, o, w, cs, h, hs => by
    obtain ⟨cs', h1, h2, h3⟩ := Blk.setCells vs (o + 1) (w.setCell ⟨g, o, none⟩ v) _ (h.set o v) (by simpa using hs)
    refine ⟨cs', h1, h2, fun j hj => ?_⟩
    rw [h3 j hj, Array.getElem?_setIfInBounds]
    by_cases e : o = j
    · subst e
      simp [show o < cs.size by omega]
      intro h; omega
    · by_cases e2 : o + 1 ≤ j ∧ j < o + 1 + vs.length
      · rw [if_pos e2, if_pos (by simp; omega), show j - o = (j - (o + 1)) + 1 by omega, List.getElem?_cons_succ]
      · rw [if_neg e2, if_neg e, if_neg (by simp; omega)]
theorem Blk.setAll {w : World} {g t : Nat} {f : Nat → Nat} (h : Blk w g t (row8 16 f)) (F : Nat → Nat) : Blk (w.setCells g 0 (List.map (fun i => Value.int .u8 ((F i : Nat) : Int)) (List.range 16))) g t (row8 16 F) := by
  obtain ⟨cs', h1, h2, h3⟩ := Blk.setCells (n := 16) (List.map (fun i => Value.int .u8 ((F i : Nat) : Int)) (List.range 16)) 0 w (row8 16 f) h (row8_size _ _)
  have e : cs' = row8 16 F := by
    apply Array.ext_getElem?
    intro j
    by_cases hj : j < 16
    · rw [h3 j hj, if_pos (by simpa using hj), row8_at _ _ _ hj]
      simp [hj]
    · rw [Array.getElem?_eq_none (by omega), Array.getElem?_eq_none (by rw [row8_size]; omega)]
  rw [← e]; exact h1
theorem cell_of_setCell {w : World} {p x : Addr} {v : Value} (h : ((w.setCell p v).cell? x).isSome = true) : (w.cell? x).isSome = true := by
  rw [World.cell?, World.setCell] at h
  simp only [Array.getElem?_modify] at h
  rw [World.cell?]
  by_cases e : p.block = x.block
  · rw [if_pos e] at h
    rcases hb : w.heap[x.block]? with _ | o
    · rw [hb] at h; simp at h
    · rw [hb] at h
      cases o with
      | cells c t fr =>
        simp only [Option.map_some] at h ⊢
        split at h
        · simp at h
        · rename_i hs
          split at h <;> simp_all
      | _ => simp at h
  · rw [if_neg e] at h
    exact h
theorem BT.fin {w W : World} {g : Nat} {O : Nat → Nat} (F : Nat → Nat) (h : BT w g O (W.setCells w.heap.size 0 (List.map (fun i => Value.int .u8 ((F i : Nat) : Int)) (List.range 16)))) : Blk (W.setCells w.heap.size 0 (List.map (fun i => Value.int .u8 ((F i : Nat) : Int)) (List.range 16))) w.heap.size 86 (row8 16 F) := by
  obtain ⟨h1, h2, h3, h4, f, h5⟩ := h
  have hs : ∀ (vs : List Value) (o : Nat) (W : World) (x : Addr), ((W.setCells w.heap.size o vs).cell? x).isSome = true → (W.cell? x).isSome = true := by
    intro vs
    induction vs with
    | nil => intro o W x hx; exact hx
    | cons v vs ih => intro o W x hx; exact cell_of_setCell (ih _ _ _ hx)
  have e : row8 16 f = row8 16 F := by
    apply Array.ext_getElem?
    intro j
    by_cases hj : j < 16
    · have hc := h5.cell j
      have hin := World.cell?_setCells_in w.heap.size (List.map (fun i => Value.int .u8 ((F i : Nat) : Int)) (List.range 16)) 0 W (fun i hi => hs _ 0 W _ (by
        rw [Nat.zero_add, h5.cell, row8_at _ _ _ (by simpa using hi)]; rfl)) j (by simpa using hj)
      rw [Nat.zero_add, hc] at hin
      rw [hin, row8_at _ _ _ hj]
      simp
    · rw [Array.getElem?_eq_none (by rw [row8_size]; omega), Array.getElem?_eq_none (by rw [row8_size]; omega)]
  rw [← e]; exact h5
theorem BT.setCells {w W : World} {g : Nat} {O : Nat → Nat} (h : BT w g O W) (F : Nat → Nat) : BT w g O (W.setCells w.heap.size 0 (List.map (fun i => Value.int .u8 ((F i : Nat) : Int)) (List.range 16))) := by
  obtain ⟨h1, h2, h3, h4, f, h5⟩ := h
  have hsz : ∀ (vs : List Value) (o : Nat) (W : World), (W.setCells w.heap.size o vs).heap.size = W.heap.size := by
    intro vs
    induction vs with
    | nil => intro o W; rfl
    | cons v vs ih => intro o W; exact (ih _ _).trans (by simp [World.setCell])
  exact ⟨Go.below_setCells (Nat.le_refl _) _ _ _ h1, by rw [hsz]; exact h2, h3, (World.heap_setCells_other W w.heap.size 0 _ h2 (by omega)).trans h4, F, h5.setAll F⟩
theorem cat6 (a b c d e f : ByteArray) (W : World) (hlen : (catS [a, b, c, d, e, f]).size ≤ 140737488355328) :
    Calls Try.prog 103 #[.slice (some ⟨W.heap.size, 0, none⟩) 6 6] (W.alloc (.cells #[.string a, .string b, .string c, .string d, .string e, .string f] 9)) fun r w' => r = .returned (.string (catS [a, b, c, d, e, f])) ∧ Below (W.alloc (.cells #[.string a, .string b, .string c, .string d, .string e, .string f] 9)).heap.size (W.alloc (.cells #[.string a, .string b, .string c, .string d, .string e, .string f] 9)) w' := by
  refine concat103 W.heap.size 0 6 [a, b, c, d, e, f] _ ?_ (by simp) (by simp) (by simp) hlen
  intro j x hx
  rw [Nat.zero_add]
  have hb : Blk (W.alloc (.cells #[.string a, .string b, .string c, .string d, .string e, .string f] 9)) W.heap.size 9 #[.string a, .string b, .string c, .string d, .string e, .string f] := Blk.new W 9 _
  rw [hb.cell j]
  have hj : j < 6 := by
    have := (List.getElem?_eq_some_iff.1 hx).1
    simpa using this
  have hj' : j = 0 ∨ j = 1 ∨ j = 2 ∨ j = 3 ∨ j = 4 ∨ j = 5 := by omega
  rcases hj' with rfl | rfl | rfl | rfl | rfl | rfl <;> simp at hx <;> subst hx <;> rfl
set_option maxRecDepth 100000 in
set_option maxHeartbeats 4000000 in
theorem blockTag80 (key nonce extra sealed : ByteArray) (w : World) (hk : key.size = 32) (hn : nonce.size = 12) (he : extra.size ≤ 1099511627776) (hs : sealed.size ≤ 1099511627776) :
    Calls Try.prog 80 #[.string key, .string nonce, .string extra, .string sealed] w fun e w' => e = .returned (.agg (row8 16 (bytesN (btag key nonce extra sealed)))) ∧ Below w.heap.size w w' := by
  have HK := Lib.hid hk
  have HNn := Lib.hid hn
  clear hk hn
  obtain ⟨TG, hTE⟩ : ∃ TG, TG = btag key nonce extra sealed := ⟨_, rfl⟩
  have HTE := Lib.hid hTE
  have HM := Lib.hid (macT_size extra sealed)
  have HTG := Lib.hid (show TG = tagN (strB 32 (blockB key nonce 0)) (catS [extra, zerosB (padN extra.size), sealed, zerosB (padN sealed.size), strB 8 (bytesN extra.size), strB 8 (bytesN sealed.size)]) from hTE)
  clear hTE
  have hz16 : row8 16 (fun _ => 0) = #[.int .u8 0, .int .u8 0, .int .u8 0, .int .u8 0, .int .u8 0, .int .u8 0, .int .u8 0, .int .u8 0, .int .u8 0, .int .u8 0, .int .u8 0, .int .u8 0, .int .u8 0, .int .u8 0, .int .u8 0, .int .u8 0] := by simp [row8, List.range, List.range.loop]
  have HZ := Lib.hid hz16
  clear hz16
  go_enter Try.func80, Try.ntmps80
  go_wp2_with fail
  refine (streamBlock85 key nonce 0 _ HK.out HNn.out (by decide)).mono ?_
  rintro e w1 ⟨rfl, b1⟩
  rw [← HZ.out] at b1
  have b2 : Below (w.heap.size + 1) (w.alloc (.cells (row8 16 fun _ => 0) 86)) w1 := by simpa using b1
  have hbt := BT_new (O := blockB key nonce 0) b2
  have hnew := Blk.new w1 125 (row8 64 fun _ => 0)
  rw [zero64L] at hbt hnew
  have HBT := Lib.hid hbt
  have HN := Lib.hid hnew
  clear hnew hbt b1 b2
  generalize hO : blockB key nonce 0 = O at *
  clear hO
  go_wp2_with (refine wpList_store_row rfl 125 _ _ rfl w1.heap.size (row8 64 O) rfl rfl 125 _ HN.out (info125 _) (by rw [row8_size]; rfl) (row8_all _ _) ?_)
  clear HN
  generalize (w1.alloc (.cells #[.int .u8 0, .int .u8 0, .int .u8 0, .int .u8 0, .int .u8 0, .int .u8 0, .int .u8 0, .int .u8 0, .int .u8 0, .int .u8 0, .int .u8 0, .int .u8 0, .int .u8 0, .int .u8 0, .int .u8 0, .int .u8 0, .int .u8 0, .int .u8 0, .int .u8 0, .int .u8 0, .int .u8 0, .int .u8 0, .int .u8 0, .int .u8 0, .int .u8 0, .int .u8 0, .int .u8 0, .int .u8 0, .int .u8 0, .int .u8 0, .int .u8 0, .int .u8 0, .int .u8 0, .int .u8 0, .int .u8 0, .int .u8 0, .int .u8 0, .int .u8 0, .int .u8 0, .int .u8 0, .int .u8 0, .int .u8 0, .int .u8 0, .int .u8 0, .int .u8 0, .int .u8 0, .int .u8 0, .int .u8 0, .int .u8 0, .int .u8 0, .int .u8 0, .int .u8 0, .int .u8 0, .int .u8 0, .int .u8 0, .int .u8 0, .int .u8 0, .int .u8 0, .int .u8 0, .int .u8 0, .int .u8 0, .int .u8 0, .int .u8 0, .int .u8 0] 125)).setRow w1.heap.size (row8 64 O) = w2 at *
  generalize w1.heap.size = g at *
  have hcv : ∀ W, BT w g O W → ∀ cap, (convert 88 9 (.slice (some ⟨g, 0, none⟩) 32 cap)).run Try.prog W = .ok (.string (strB 32 O)) W := fun W hW cap => by
    have h := conv_row hW.2.2.2.1 0 32 (by omega) cap
    have e : (fun i => O (0 + i)) = O := by funext i; rw [Nat.zero_add]
    rw [e] at h; exact h
  have hml : (catS [extra, zerosB (padN extra.size), sealed, zerosB (padN sealed.size), strB 8 (bytesN extra.size), strB 8 (bytesN sealed.size)]).size ≤ 140737488355328 := Nat.le_trans HM.out (by omega)
  have HML := Lib.hid hml
  have HMM := Lib.hid (show (catS [extra, zerosB (padN extra.size), sealed, zerosB (padN sealed.size), strB 8 (bytesN extra.size), strB 8 (bytesN sealed.size)]).size ≤ maxLen from Nat.le_trans hml (by unfold maxLen; omega))
  clear hml
  generalize hz1 : zerosB (padN extra.size) = Z1 at *
  generalize hz2 : zerosB (padN sealed.size) = Z2 at *
  have HZ1 := Lib.hid hz1
  have HZ2 := Lib.hid hz2
  clear hz1 hz2
  have hin : Option.map (fun x => x.size) (Try.prog.info? 86) = some (List.map (fun i => Value.int IntKind.u8 ((bytesN TG i : Nat) : Int)) (List.range 16)).length := by
    have h := info86 (bytesN TG)
    rw [row8_size] at h
    simpa using h
  have hon : ∀ v ∈ List.map (fun i => Value.int IntKind.u8 ((bytesN TG i : Nat) : Int)) (List.range 16), v.oneCell' = true := by
    intro v hv
    obtain ⟨i, _, rfl⟩ := List.mem_map.1 hv
    rfl
  have hl16 : (List.map (fun i => Value.int IntKind.u8 ((bytesN TG i : Nat) : Int)) (List.range 16)).length ≤ 16 := by simp
  have HL := Lib.hid hl16
  clear hl16
  go_region_held3 (fun w' => BT w g O w' ∧ w'.there w.heap.size 0 (List.map (fun i => Value.int IntKind.u8 ((bytesN TG i : Nat) : Int)) (List.range 16)).length) (first | (with_reducible exact BT.both (BT.setCells (And.left (by assumption)) _) HL.out) | (with_reducible exact BT.both (BT.below (And.left (by assumption)) hbb) HL.out) | (with_reducible exact BT.both (BT.alloc (And.left (by assumption)) _) HL.out) | (with_reducible exact HBT.out.drew.both HL.out) | assumption)
    (first | (go_at_call_of 101 (Value.string extra); refine (fill101 extra _ (by omega)).mono ?_; rintro e w' ⟨rfl, hbb⟩; rw [HZ1.out]) | (go_at_call_of 101 (Value.string sealed); refine (fill101 sealed _ (by omega)).mono ?_; rintro e w' ⟨rfl, hbb⟩; rw [HZ2.out]) | (go_at_call_of 102 (Value.int IntKind.i64 extra.size); refine (little102 extra.size _ (by omega)).mono ?_; rintro e w' ⟨rfl, hbb⟩) | (go_at_call_of 102 (Value.int IntKind.i64 sealed.size); refine (little102 sealed.size _ (by omega)).mono ?_; rintro e w' ⟨rfl, hbb⟩) | (go_at_call 103; refine (cat6 _ _ _ _ _ _ _ HML.out).mono ?_; rintro e w' ⟨rfl, hbb⟩) | (go_at_call 54; refine (tag54T (strB 32 O) _ TG _ (strB_size 32 O) HMM.out HTG.out).mono ?_; rintro e w' ⟨rfl, hbb⟩))
  all_goals
    clear hin hon hcv
    have HF := Lib.hid (And.left (by assumption : BT w g O _ ∧ _))
    go_wp2_with fail
    refine bodyPost_ret (v := .agg (row8 16 (bytesN TG))) (results_cell_row (p := 8) Try.results80 _ _ w.heap.size 86 _ (0, 0) _ rfl (BT.fin _ HF.out) Try.underlying86 rfl (info86 _)) rfl ⟨by rw [HTE.out], HF.out.1⟩
end Go.Proofs.Ytnjmcppljbkhnaa
