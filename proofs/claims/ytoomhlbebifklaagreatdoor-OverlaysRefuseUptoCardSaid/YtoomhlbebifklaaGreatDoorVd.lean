import Derived.Test.YtoomhlbebifklaaGreatDoorVc
set_option linter.unusedVariables false
set_option linter.unusedSimpArgs false
namespace Go.Proofs.YtoomhlbebifklaaGreatDoor.Cha
open Go.RowKit
theorem below_drew {B : Nat} {a w : World} (h : Below B a w) : Below B a w.drew := ⟨h.os, h.tape, h.output, h.size, h.block⟩
def strB (n : Nat) (f : Nat → Nat) : ByteArray := ⟨((List.range n).map fun i => UInt8.ofNat (f i)).toArray⟩
theorem strB_size (n : Nat) (f : Nat → Nat) : (strB n f).size = n := by simp [strB, ByteArray.size]
theorem at8_strB (n : Nat) (f : Nat → Nat) (i : Nat) (hi : i < n) (hf : f i < 256) : at8 (strB n f) i = f i := by
  unfold at8 strB
  rw [List.getD_eq_getElem?_getD]
  simp [hi]
  omega
/-- bytes in memory, which can be written. -/
def BR (w : World) (g n : Nat) (f : Nat → Nat) : Prop := g < w.heap.size ∧ ∀ i, i < n → w.cell? ⟨g, i, none⟩ = some (.int .u8 (f i : Nat)) ∧ w.frozen? ⟨g, i, none⟩ = false
theorem BR.set {w : World} {g n : Nat} {f : Nat → Nat} (h : BR w g n f) (i v : Nat) (hi : i < n) : BR (w.setCell ⟨g, i, none⟩ (.int .u8 (v : Nat))) g n (upd f i v) := by
  refine ⟨by simpa [World.setCell] using h.1, fun j hj => ⟨?_, ?_⟩⟩
  · by_cases e : j = i
    · subst e
      rw [World.cell?_setCell_same' _ _ _ (by rw [(h.2 j hj).1]; rfl)]
      simp [upd]
    · rw [World.cell?_setCell_other _ _ _ _ (by intro hh; injection hh with _ h2 _; exact e h2.symm), (h.2 j hj).1]
      simp [upd, e]
  · rw [World.frozen?_setCell]; exact (h.2 j hj).2
theorem BR.below {w w' : World} {g n B : Nat} {f : Nat → Nat} (h : BR w g n f) (hb : Below B w w') (hg : g < B) : BR w' g n f :=
  ⟨Nat.lt_of_lt_of_le h.1 hb.size, fun i hi => ⟨(hb.cell (p := ⟨g, i, none⟩) hg).trans (h.2 i hi).1, (hb.frozen (p := ⟨g, i, none⟩) hg).trans (h.2 i hi).2⟩⟩
theorem BR.only {w w' : World} {g g' n : Nat} {f : Nat → Nat} (h : BR w g n f) (hb : w.grownBy w' (some g')) (hg : g ≠ g') : BR w' g n f := by
  have hblk := hb.block g h.1 (by simp; omega)
  refine ⟨Nat.lt_of_lt_of_le h.1 hb.size, fun i hi => ?_⟩
  have h1 := (h.2 i hi)
  have ec : w'.cell? ⟨g, i, none⟩ = w.cell? ⟨g, i, none⟩ := by simp only [World.cell?, hblk]
  have ef : w'.frozen? ⟨g, i, none⟩ = w.frozen? ⟨g, i, none⟩ := by simp only [World.frozen?, hblk]
  exact ⟨ec.trans h1.1, ef.trans h1.2⟩
theorem BR.congr {w : World} {g n : Nat} {f f' : Nat → Nat} (h : BR w g n f) (e : ∀ i, i < n → f i = f' i) : BR w g n f' := ⟨h.1, fun i hi => by rw [← e i hi]; exact h.2 i hi⟩
theorem BR.drewN {w : World} {g n : Nat} {f : Nat → Nat} (h : BR w g n f) (k : Nat) : BR (w.drewN k) g n f := ⟨h.1, fun i hi => h.2 i hi⟩
theorem BR.drew {w : World} {g n : Nat} {f : Nat → Nat} (h : BR w g n f) : BR w.drew g n f := ⟨h.1, fun i hi => h.2 i hi⟩
/-- the world behind '[]byte(s)'. -/
def bytesOf (w : World) (s : ByteArray) : World := w.drew.alloc (.cells (bytesRow s (grownCap w s.size 0 5)) 5 ((bytesRow s (grownCap w s.size 0 5)).size, (bytesRow s (grownCap w s.size 0 5)).size + 1))
theorem run_bytesOf (w : World) (s : ByteArray) : (convert 9 149 (.string s)).run Tryz.prog w = .ok (.slice (some ⟨w.heap.size, 0, none⟩) s.size (grownCap w s.size 0 5)) (bytesOf w s) :=
  run_bytes_of_string w 9 149 5 s Tryz.underlying9 Tryz.underlying149 Tryz.underlying5
theorem bytesOf_below (w : World) (s : ByteArray) : Below w.heap.size w (bytesOf w s) := (below_drew (Below.refl _ _)).alloc (Nat.le_refl _) _
theorem bytesOf_size (w : World) (s : ByteArray) : (bytesOf w s).heap.size = w.heap.size + 1 := by simp [bytesOf]
theorem bytesOf_row (w : World) (s : ByteArray) : BR (bytesOf w s) w.heap.size s.size (at8 s) := by
  refine ⟨by rw [bytesOf_size]; omega, fun i hi => ?_⟩
  have hb : (bytesOf w s).heap[w.heap.size]? = some (.cells (bytesRow s (grownCap w s.size 0 5)) 5 ((bytesRow s (grownCap w s.size 0 5)).size, (bytesRow s (grownCap w s.size 0 5)).size + 1)) := by
    unfold bytesOf
    exact heap_alloc_new w.drew _
  have hr := bytesRow_at s (grownCap w s.size 0 5) i hi
  have hlt : i < (bytesRow s (grownCap w s.size 0 5)).size := (Array.getElem?_eq_some_iff.1 hr).1
  constructor
  · simp only [World.cell?, hb]
    simp only [hr]
    congr 2
    rw [← at8_get s i hi]
    rfl
  · simp only [World.frozen?, hb]
    simp
    omega
theorem conv_BR {w : World} {g n : Nat} {f : Nat → Nat} (h : BR w g n f) (cap : Nat) :
    (convert 149 9 (.slice (some ⟨g, 0, none⟩) n cap)).run Tryz.prog w = .ok (.string (strB n f)) w := by
  have hx := run_convert_bytes_arg (P := Tryz.prog) w 149 5 Tryz.underlying149 Tryz.underlying5 g 0 n cap ((List.range n).map fun i => ((f i : Nat) : Int)) (by simp) (fun i hi => by
    rw [Nat.zero_add, (h.2 i hi).1]
    simp [List.getD_eq_getElem?_getD, hi]) 9 Tryz.underlying9
  rw [hx]
  simp [strOfNums, strB, Function.comp_def]
/-- byte i of a text with the stream. -/
def strm (key nonce : ByteArray) (c : Nat) (text : ByteArray) (i : Nat) : Nat := at8 text i ^^^ blockB key nonce ((c + i / 64) % 4294967296) (i % 64)
def strmS (key nonce : ByteArray) (c : Nat) (text : ByteArray) : ByteArray := strB text.size (strm key nonce c text)
def mixd (key nonce : ByteArray) (c : Nat) (text : ByteArray) (m : Nat) : Nat → Nat := fun j => if j < m then strm key nonce c text j else at8 text j
theorem mixd_succ (key nonce : ByteArray) (c : Nat) (text : ByteArray) (m : Nat) : upd (mixd key nonce c text m) m (strm key nonce c text m) = mixd key nonce c text (m + 1) := by
  funext i
  unfold upd mixd
  by_cases h : i = m
  · subst h; simp
  · by_cases h2 : i < m
    · simp [h, h2, show i < m + 1 by omega]
    · simp [h, h2, show ¬ i < m + 1 by omega]
theorem blockB_lt (key nonce : ByteArray) (c j : Nat) : blockB key nonce c j < 256 := Nat.mod_lt _ (by decide)
theorem xor8 {x y : Nat} (hx : x < 256) (hy : y < 256) : bits BinOp.xor IntKind.u8 (x : Int) (y : Int) = ((x ^^^ y : Nat) : Int) := u8_xor_nat x y hx hy

theorem strB_congr {n : Nat} {f f' : Nat → Nat} (h : ∀ i, i < n → f i = f' i) : strB n f = strB n f' := by
  unfold strB
  congr 2
  apply List.map_congr_left
  intro i hi
  rw [h i (by simpa using hi)]
def SR (w : World) (g : Nat) (O : Nat → Nat) (n : Nat) (f : Nat → Nat) (wr : World) : Prop := Below w.heap.size w wr ∧ BR wr w.heap.size n f ∧ Blk wr g 160 (row8 64 O) ∧ w.heap.size < g
theorem SR.store {w wr : World} {g n : Nat} {O f : Nat → Nat} (h : SR w g O n f wr) (i v : Nat) (hi : i < n) : SR w g O n (upd f i v) (wr.setCell ⟨w.heap.size, i, none⟩ (.int .u8 (v : Nat))) := by
  obtain ⟨h1, h2, h3, h4⟩ := h
  exact ⟨h1.setCell (Nat.le_refl _) _, h2.set i v hi, h3.only (only_set (only_refl wr _) i _) (by omega), h4⟩
theorem SR.drew {w wr : World} {g n : Nat} {O f : Nat → Nat} (h : SR w g O n f wr) : SR w g O n f wr.drew := ⟨below_drew h.1, h.2.1.drew, h.2.2.1, h.2.2.2⟩
theorem SR_new {w w1 : World} {n : Nat} {O f : Nat → Nat} (hb : Below w.heap.size w w1) (hr : BR w1 w.heap.size n f) : SR w w1.heap.size O n f ((w1.alloc (.cells (row8 64 fun _ => 0) 160)).setRow w1.heap.size (row8 64 O)) := by
  have b : Below w1.heap.size w1 ((w1.alloc (.cells (row8 64 fun _ => 0) 160)).setRow w1.heap.size (row8 64 O)) := below_setRow ((Below.refl _ _).alloc (Nat.le_refl _) _) (Nat.le_refl _)
  exact ⟨below_step hb (Nat.le_refl _) b, hr.below b hr.1, setRow_heap _ _ _ _ _ _ (Blk.new w1 160 _), hr.1⟩
set_option maxRecDepth 100000 in
set_option maxHeartbeats 4000000 in
theorem stream53 (key nonce text : ByteArray) (c : Nat) (w : World) (hk : key.size = 32) (hn : nonce.size = 12) (hc : c < 4294967296) (hm : text.size ≤ 140737488355328) :
    Calls Tryz.prog 85 #[.string key, .string nonce, .int .u32 c, .string text] w fun e w' => e = .returned (.string (strmS key nonce c text)) ∧ Below w.heap.size w w' := by
  have HK := Lib.hid hk
  have HNn := Lib.hid hn
  clear hk hn
  have hcv := run_bytesOf w text
  have HB0 := Lib.hid (bytesOf_below w text)
  have HR0 := Lib.hid (bytesOf_row w text)
  have HZ0 := Lib.hid (bytesOf_size w text)
  generalize bytesOf w text = w0 at *
  generalize grownCap w text.size 0 5 = cap at *
  go_enter Tryz.func85, Tryz.ntmps85
  go_wp2_with fail
  clear hcv
  go_loopw [2, 10] (fun v i wr => ∃ k : Nat, 64 * k < text.size + 64 ∧ v = .int .u32 ((c + k) % 4294967296 : Nat) ∧ i = .int .i64 (64 * k : Nat) ∧ Below w.heap.size w wr ∧ BR wr w.heap.size text.size (mixd key nonce c text (64 * k))) (fun _ i _ => text.size + 64 - (intOf i).toNat)
  case atStart =>
    refine ⟨0, by omega, by rw [Nat.add_zero, Nat.mod_eq_of_lt hc], rfl, HB0.out, HR0.out.congr fun i _ => by simp [mixd]⟩
  case round =>
    clear HB0 HR0 HZ0
    obtain ⟨k, hk, rfl, rfl, hb, hr⟩ := hrel
    have HB := Lib.hid hb
    have HR := Lib.hid hr
    clear hb hr
    by_cases hlt : 64 * k < text.size
    · have hd : decide (((64 * k : Nat) : Int) < (text.size : Int)) = true := decide_eq_true (by omega)
      have hd' : decide (64 * (k : Int) < (text.size : Int)) = true := decide_eq_true (by omega)
      have hck : (c + k) % 4294967296 < 4294967296 := Nat.mod_lt _ (by decide)
      have HC := Lib.hid hck
      clear hck
      go_wp2_with fail
      refine (streamBlock85 key nonce _ _ HK.out HNn.out HC.out).mono ?_
      rintro e w1 ⟨rfl, b1⟩
      have HB1 := Lib.hid (below_step HB.out (Nat.le_refl _) b1)
      have HR1 := Lib.hid (HR.out.below b1 HR.out.1)
      have hlt0 := HR1.out.1
      clear b1 HB HR
      have hnew := Blk.new w1 160 (row8 64 fun _ => 0)
      rw [zero64] at hnew
      have HN := Lib.hid hnew
      clear hnew
      generalize hO : blockB key nonce ((c + k) % 4294967296) = O at *
      have HO := Lib.hid hO
      clear hO
      go_wp2_with (refine wpList_store_row rfl 160 _ _ rfl w1.heap.size (row8 64 O) rfl rfl 160 _ HN.out (info125 _) (by rw [row8_size]; rfl) (row8_all _ _) ?_)
      have HS0 := Lib.hid (SR_new HB1.out HR1.out (O := O))
      rw [zero64] at HS0
      clear HN HB1 HR1
      generalize hgg : w1.heap.size = g at *
      clear hgg
      obtain ⟨e, he1, he2, hee⟩ : ∃ e : Nat, e ≤ text.size ∧ e ≤ 64 * k + 64 ∧ e = min (64 * k + 64) text.size := ⟨min (64 * k + 64) text.size, by omega, by omega, rfl⟩
      have HEE := Lib.hid hee
      have he3 : 64 * k < e := by omega
      have hmin : (if (text.size : Int) < 64 * (k : Int) + 64 then (text.size : Int) else 64 * (k : Int) + 64) = (e : Int) := by
        split <;> omega
      clear hee
      go_loopw [12] (fun i wr => ∃ t : Nat, 64 * k ≤ t ∧ t ≤ e ∧ i = .int .i64 t ∧ SR w g O text.size (mixd key nonce c text t) wr) (fun i _ => text.size + 64 - (intOf i).toNat)
      case atStart => exact ⟨64 * k, by omega, by omega, by simp, HS0.out⟩
      case round =>
        clear HS0
        obtain ⟨t, ht1, ht2, rfl, hs⟩ := hrel
        have HS := Lib.hid hs
        clear hs
        by_cases hlt2 : t < e
        · have hd1 : decide ((t : Int) < (e : Int)) = true := decide_eq_true (by omega)
          have hd2 : decide (t < e) = true := decide_eq_true hlt2
          obtain ⟨q, hq⟩ : ∃ q : Nat, t = 64 * k + q := ⟨t - 64 * k, by omega⟩
          have HQ := Lib.hid hq
          have hq64 : q < 64 := by omega
          have w1 : IntKind.i64.wrap ((t : Int) - 64 * (k : Int)) = (q : Int) := by rw [IntWalk.i64_in _ (by omega)]; omega
          have w2' : (t : Int) - 64 * (k : Int) = (q : Int) := by omega
          have q1 : (q : Int) < 64 := by omega
          have w3 : IntKind.i64.wrap (q : Int) = (q : Int) := IntWalk.i64_in _ (by omega)
          have q2 : (t : Int) < (text.size : Int) := by omega
          have q3 : t < text.size := by omega
          have c0 := (HS.out.2.1.2 t q3).1
          have z0 := (HS.out.2.1.2 t q3).2
          have c1 := (HS.out.2.2.1.cell q).trans (row8_at _ _ q hq64)
          have em : mixd key nonce c text t t = at8 text t := by simp [mixd]
          rw [em] at c0
          clear em
          have x1 := xor8 (at8_lt text t) (show O q < 256 by rw [← HO.out]; exact blockB_lt _ _ _ _)
          have HX := Lib.hid (show strm key nonce c text t = at8 text t ^^^ O q from by
            unfold strm; rw [← HO.out, HQ.out, show (64 * k + q) / 64 = k by omega, show (64 * k + q) % 64 = q by omega])
          clear hq
          go_wp2_with fail
          go_still_tail 11, (by kernel_rfl)
          change wpList _ _ _ _ _ wr.drew
          go_wp2_with fail
          go_roundw
          case rel =>
            refine ⟨t + 1, by omega, by omega, by go_num, ?_⟩
            have h2 := (HS.out.store t (strm key nonce c text t) q3).drew
            rw [mixd_succ, HX.out] at h2
            exact h2
          case measure => simp [intOf]; omega
        · have hd1 : decide ((t : Int) < (e : Int)) = false := decide_eq_false (by omega)
          have hd2 : decide (t < e) = false := decide_eq_false hlt2
          have HSe := Lib.hid (show BR wr w.heap.size text.size (mixd key nonce c text (64 * (k + 1))) from by
            refine HS.out.2.1.congr fun i hi => ?_
            have := HEE.out
            unfold mixd
            have : (i < t) = (i < 64 * (k + 1)) := propext ⟨fun h => by omega, fun h => by omega⟩
            simp only [this])
          have HSb := Lib.hid HS.out.1
          clear HS
          go_wp2_with fail
          go_roundw
          case rel =>
            refine ⟨k + 1, by omega, ?_, by go_num, HSb.out, HSe.out⟩
            congr 1
            omega
          case measure => simp [intOf]; omega
    · have hd : decide (((64 * k : Nat) : Int) < (text.size : Int)) = false := decide_eq_false (by omega)
      have hd' : decide (64 * (k : Int) < (text.size : Int)) = false := decide_eq_false (by omega)
      have hcv := conv_BR HR.out cap
      have HE := Lib.hid (show strB text.size (mixd key nonce c text (64 * k)) = strmS key nonce c text from by
        unfold strmS
        apply strB_congr
        intro i hi
        unfold mixd
        rw [if_pos (by omega)])
      generalize strB text.size (mixd key nonce c text (64 * k)) = R at *
      go_wp2_with fail
      go_ret
      refine ⟨?_, HB.out⟩
      rw [← HE.out]
      rfl
end Go.Proofs.YtoomhlbebifklaaGreatDoor.Cha
