/-
  The law CombineShows, walked: for every input it returns true, and what lay stays.
-/
import Derived.Test.YtpjnjhklkgefcaaGreatDoorTb
import Derived.Test.YtpjnjhklkgefcaaGreatDoorGs
import Derived.Test.YtpjnjhklkgefcaaGreatDoorZs
import Derived.Lib.OwnBridge
set_option linter.unusedVariables false
set_option linter.unusedSimpArgs false
namespace Go.Proofs.YtpjnjhklkgefcaaGreatDoor
open Go.RowKit Go.Sort
/-- the arguments as they lie. -/
def DRow (w : World) (a : Option Addr) (ds : List Int) : Prop := ∀ (i : Nat) v, ds[i]? = some v → ∃ b off, a = some ⟨b, off, none⟩ ∧ b < w.heap.size ∧ w.cell? ⟨b, off + i, none⟩ = some (.int .i64 v)
theorem DRow.below {w w' : World} {a : Option Addr} {ds : List Int} (h : DRow w a ds) (k : Below w.heap.size w w') : DRow w' a ds := fun i v hv => by
  obtain ⟨b, off, h1, h2, h3⟩ := h i v hv
  exact ⟨b, off, h1, Nat.lt_of_lt_of_le h2 k.size, (k.cell (p := ⟨b, off + i, none⟩) h2).trans h3⟩
def PRow (w : World) (a : Option Addr) (ps : List (Int × Int × Int)) : Prop := ∀ (i : Nat) x, ps[i]? = some x → ∃ b off, a = some ⟨b, off, none⟩ ∧ b < w.heap.size ∧ w.cell? ⟨b, off + i * 3, none⟩ = some (.int .i64 x.1) ∧ w.cell? ⟨b, off + i * 3 + 1, none⟩ = some (.int .i64 x.2.1) ∧ w.cell? ⟨b, off + i * 3 + 2, none⟩ = some (.int .i64 x.2.2)
theorem PRow.below {w w' : World} {a : Option Addr} {ps : List (Int × Int × Int)} (h : PRow w a ps) (k : Below w.heap.size w w') : PRow w' a ps := fun i v hv => by
  obtain ⟨b, off, h1, h2, h3, h4, h5⟩ := h i v hv
  exact ⟨b, off, h1, Nat.lt_of_lt_of_le h2 k.size, (k.cell (p := ⟨b, off + i * 3, none⟩) h2).trans h3, (k.cell (p := ⟨b, off + i * 3 + 1, none⟩) h2).trans h4, (k.cell (p := ⟨b, off + i * 3 + 2, none⟩) h2).trans h5⟩
theorem when_eqC (b : Bool) (n x : Int) (w : World) (h : (if b = true then n else 0) = x) : Calls Tryz.prog 6 #[.bool b, .int .i64 n] w fun e w' => e = .returned (.int .i64 x) ∧ w' = w := by rw [← h]; exact when_ok b n w
theorem srow_own {w : World} {base n c : Nat} {a : Option Addr} {js : List Nat} (h : w.ownsRow base 9 1 (.slice a n c) n (js.map fun j => .string (nmC j))) : SRow a (js.map nmC) w := by
  rcases h.2 with ⟨_, h0⟩ | ⟨g, cap, cur, h1, hb, hgg, _⟩
  · have : js.length = n := by simpa using h.1
    left
    have : js = [] := List.eq_nil_of_length_eq_zero (by omega)
    rw [this]; rfl
  · cases h1
    refine Or.inr ⟨g, rfl, fun i b hi => ?_⟩
    have hl : js.length = n := by simpa using h.1
    rw [List.getElem?_map] at hi
    obtain ⟨j, hj, rfl⟩ := Option.map_eq_some_iff.1 hi
    have hin : i < n := by rw [← hl]; exact (List.getElem?_eq_some_iff.1 hj).1
    have hc := h.cellAt i (by omega)
    rw [hc, List.getElem?_map, hj]
    rfl
theorem memF_len2 {js : List Nat} {rs : List MR} (h : js.length = rs.length) : (msOf js rs).length = js.length := msOf_len h
theorem any_congr {α : Type} {l : List α} {f g : α → Bool} (h : ∀ x ∈ l, f x = g x) : l.any f = l.any g := by
  induction l with
  | nil => rfl
  | cons a l ih => rw [List.any_cons, List.any_cons, h a (by simp), ih (fun x hx => h x (List.mem_cons_of_mem _ hx))]
theorem cnt_ok {k : Nat} {l : List Nat} (h : wantR (cntC k) l = 0) : cntC k = 0 ∧ 1 ≤ k ∧ k ≤ 8 := by
  have h0 : cntC k = 0 := by
    by_cases e : cntC k = 0
    · exact e
    · rw [wantR_keep e] at h; exact h
  refine ⟨h0, ?_⟩
  unfold cntC at h0
  by_cases h1 : 8 < k
  · rw [if_pos h1] at h0; cases h0
  · rw [if_neg h1] at h0
    by_cases h2 : k = 0
    · rw [if_pos h2] at h0; cases h0
    · omega
theorem set_same {α : Type} {l : List α} {i : Nat} {x : α} (h : l[i]? = some x) : l.set i x = l := by
  apply List.ext_getElem?
  intro k
  by_cases hk : k = i
  · subst hk
    rw [List.getElem?_set_self (List.getElem?_eq_some_iff.1 h).1, h]
  · rw [List.getElem?_set_ne (fun e => hk e.symm)]
theorem markC_size {S : List Nat} (h8 : ∀ j ∈ S, j < 8) : ∀ t, (markC S t).size ≤ 1000
  | 0 => by show (0 : Nat) ≤ 1000; decide
  | t + 1 => by
    have := nmD_size' (S[t]?.getD 0)
    show (nmD (S[t]?.getD 0)).size ≤ 1000
    omega
def lenV : Value → Nat
  | .slice _ n _ => n
  | _ => 0
theorem map_byC (js : List Nat) : (js.map byC).map Proofs.encStr = js.map fun j => Value.string (nmC j) := by
  rw [List.map_map]
  apply List.map_congr_left
  intro j _
  simp [Proofs.encStr]
theorem kp_putS {w : World} {g n : Nat} {os : Array Obj} (d : Array (List UInt8)) : Kp [g] w (Sort.grow (putRow Proofs.encStr (Sort.ahead w n) g 0 d) os) := by
  refine ⟨rfl, rfl, rfl, by simp [Sort.grow, putRow, mapBlock, Sort.ahead], fun k hk hne => ?_⟩
  have : g ≠ k := fun e => hne (by rw [e]; simp)
  rw [heap_grow_old _ _ (by simpa [putRow, mapBlock, Sort.ahead] using hk)]
  simp [putRow, mapBlock, Sort.ahead, Array.getElem?_modify, this]
theorem grow_below (w : World) (os : Array Obj) : Below w.heap.size w (Sort.grow w os) := ⟨rfl, rfl, rfl, by simp [Sort.grow], fun k hk => heap_grow_old _ _ hk⟩
theorem alloc_below (w : World) (o : Obj) : Below w.heap.size w (w.alloc o) := (Below.refl _ _).alloc (Nat.le_refl _) o
theorem PutPost.after {B : Nat} {f : Ft} {clk : Int} {q : Mm} {L : List Fl} {s data : ByteArray} {t : Int} {w wA w' : World} (b : Below w.heap.size w wA) (h : PutPost B f clk q L s data t wA w') : PutPost B f clk q L s data t w w' := by
  obtain ⟨n, id, L', h1, h2, h3⟩ := h
  exact ⟨n, id, L', h1, (Kp.of_below b).trans h2, h3.mono b.size⟩
theorem PutPost.over {B : Nat} {f : Ft} {clk : Int} {q : Mm} {L : List Fl} {s data : ByteArray} {t : Int} {w wA w' : World} {rb : Nat} {cs : Array Value} (b : Below w.heap.size w wA) (h1 : w.heap.size ≤ rb) (h2 : rb < wA.heap.size) (hf : rb ∉ foot q L) (hb : Blk w' rb 53 cs) (h : PutPost B f clk q L s data t wA w') (a1 a2 a3 a4 a5 a6 a7 : Value) :
    PutPost B f clk q L s data t w (((((((w'.setCell ⟨rb, 0, none⟩ a1).setCell ⟨rb, 1, none⟩ a2).setCell ⟨rb, 2, none⟩ a3).setCell ⟨rb, 3, none⟩ a4).setCell ⟨rb, 4, none⟩ a5).setCell ⟨rb, 5, none⟩ a6).setCell ⟨rb, 6, none⟩ a7) := by
  obtain ⟨n, id, L', hM, hk, hP⟩ := h
  have hrf2 : rb ∉ foot q L' := fun hb => by
    rcases hP.foot q rb hb with h | h
    · exact hf h
    · omega
  have hcl : q.c ≠ rb := hM.hcl.ne hb (by decide)
  refine ⟨n, id, L', ?_, ((Kp.of_below b).trans hk).info (Or.inr h1), hP.mono b.size⟩
  exact hM.kp (S := [rb]) (Kp.info (Kp.refl _ _) (Or.inl (by simp))) (fun b hb e => hrf2 (by rw [List.mem_singleton] at e; rw [← e]; exact hb)) (by simpa using hcl)
/-- the start of the law: how long its lists may be. -/
theorem len_cases (k np : Nat) : (10 < k ∨ 12 < np) ∨ (k ≤ 10 ∧ np ≤ 12) := by omega
set_option maxRecDepth 100000 in
set_option maxHeartbeats 16000000 in
theorem law_ok (n : Int) (da : Option Addr) (dcap : Nat) (ds : List Int) (pa : Option Addr) (pcap : Nat) (ps : List (Int × Int × Int)) (w : World) (g : Gl w) (hd : DRow w da ds) (hp : PRow w pa ps) :
    Calls Tryz.prog 3 #[.int .i64 n, .slice da ds.length dcap, .slice pa ps.length pcap] w fun e w' => e = .returned (.bool true) ∧ Below w.heap.size w w' := by
  have GG := Lib.hid (fun (wx : World) (hb : Below w.heap.size w wx) => g.below hb)
  have HD := Lib.hid (fun (wx : World) (hb : Below w.heap.size w wx) => hd.below hb)
  have HP := Lib.hid (fun (wx : World) (hb : Below w.heap.size w wx) => hp.below hb)
  have CW := Lib.hid (fun (wx : World) (hb : Below w.heap.size w wx) => wraps_ok wx (g.below hb))
  obtain ⟨k, hk⟩ : ∃ k, ds.length = k := ⟨_, rfl⟩
  obtain ⟨np, hnp⟩ : ∃ k, ps.length = k := ⟨_, rfl⟩
  have HK := Lib.hid hk
  have HNP := Lib.hid hnp
  rw [hk, hnp]
  clear g hd hp hk hnp
  rcases len_cases k np with hlong | ⟨hk10, hp12⟩
  · -- too long
    go_enter Tryz.func3, Tryz.ntmps3
    go_wp2_with fail
    refine (CW.out w (Below.refl _ _)).mono ?_
    rintro e w1 ⟨rfl, hb1⟩
    have HB1 := Lib.hid hb1
    clear hb1
    by_cases hk10 : 10 < k
    · have hk1 : (10 : Int) < (k : Int) := by omega
      go_wp2_with fail
      refine (CW.out w1 HB1.out).mono ?_
      rintro e w2 ⟨rfl, hb2⟩
      have HB2 := Lib.hid (HB1.out.trans (hb2.mono HB1.out.size))
      clear hb2
      go_wp2_with fail
      go_ret
      exact ⟨rfl, HB2.out⟩
    · have hk1 : ¬ (10 : Int) < (k : Int) := by omega
      have hk2 : (12 : Int) < (np : Int) := by omega
      go_wp2_with fail
      refine (CW.out w1 HB1.out).mono ?_
      rintro e w2 ⟨rfl, hb2⟩
      have HB2 := Lib.hid (HB1.out.trans (hb2.mono HB1.out.size))
      clear hb2
      go_wp2_with fail
      go_ret
      exact ⟨rfl, HB2.out⟩
  have hk1 : ¬ (10 : Int) < (k : Int) := by omega
  have hk2 : ¬ (12 : Int) < (np : Int) := by omega
  go_enter Tryz.func3, Tryz.ntmps3
  go_wp2_with fail
  refine (CW.out w (Below.refl _ _)).mono ?_
  rintro e w1 ⟨rfl, hb1⟩
  have HB1 := Lib.hid hb1
  clear hb1 CW
  go_upto_region 4 with (fail)
  obtain ⟨e0, he0⟩ : ∃ e0 : Int, (if k = 0 then (21 : Int) else 0) = e0 := ⟨_, rfl⟩
  have HE0 := Lib.hid he0
  clear he0
  go_cut [8] from 48 to 51 (fun u wx => u = .int .i64 e0 ∧ wx = w1)
  case first =>
    by_cases h0 : k = 0
    · subst h0
      go_wp2_with fail
      refine (when_ok _ _ _).mono ?_
      rintro e w2 ⟨rfl, rfl⟩
      go_wp2_with fail
      go_meet
      exact ⟨by rw [← HE0.out]; rfl, rfl⟩
    · have h1 : ¬ (k : Int) = 0 := by omega
      go_wp2_with fail
      refine (when_ok _ _ _).mono ?_
      rintro e w2 ⟨rfl, rfl⟩
      go_wp2_with fail
      go_meet
      exact ⟨by rw [← HE0.out, if_neg h0], rfl⟩
  case rest =>
    obtain ⟨rfl, hwc⟩ := hcut
    obtain rfl : w1 = wc := hwc.symm
    obtain ⟨b8, hb8⟩ : ∃ b8, decide (8 < k) = b8 := ⟨_, rfl⟩
    have hb8' : decide ((8 : Int) < (k : Int)) = b8 := by rw [← hb8]; simp; omega
    go_upto_if 54 with (fail)
    go_cut [8] (fun u wx => u = .int .i64 (cntC k) ∧ wx = w1)
    case first =>
      cases b8
      · go_wp2_with fail
        go_meet
        exact ⟨by unfold cntC; rw [if_neg (of_decide_eq_false hb8), HE0.out], rfl⟩
      · go_wp2_with fail
        go_meet
        exact ⟨by unfold cntC; rw [if_pos (of_decide_eq_true hb8)], rfl⟩
    case rest =>
      obtain ⟨rfl, hwc⟩ := hcut
      obtain rfl : w1 = wc := hwc.symm
      clear hb8 hb8' HE0
      obtain ⟨z, hz⟩ : ∃ z, cntC k = z := ⟨_, rfl⟩
      rw [hz]
      have HZ := Lib.hid hz
      clear hz
      obtain ⟨iM, hM, hM0, hM1, hM2⟩ := info_parts infoMem2
      obtain ⟨iS, hS, hS0, hS1, hS2⟩ := info_parts infoStr
      clear hk1 hk2
      go_wp2_with fail
      go_loopw [7, 8, 9, 57] (fun vl zv vn x wr => ∃ (i : Nat) (rs : List MR), x = .int .i64 (i : Int) ∧ i ≤ k ∧ zv = .int .i64 (wantR z ((ds.take i).map dirJ).reverse) ∧ LmS w ((ds.take i).map dirJ) rs vl vn wr) (fun _ _ _ x _ => k - (intOf x).toNat)
      case atStart => exact ⟨0, [], rfl, Nat.zero_le _, rfl, LmS.nil w w1 HB1.out⟩
      case round =>
        clear HB1
        obtain ⟨i, rs, rfl, hik, rfl, hS⟩ := hrel
        have HS := Lib.hid hS
        clear hS
        by_cases hlt : i < k
        · have hd : decide ((i : Int) < (k : Int)) = true := decide_eq_true (by omega)
          obtain ⟨d, hdd⟩ : ∃ d, ds[i]? = some d := ⟨_, List.getElem?_eq_getElem (by rw [HK.out]; exact hlt)⟩
          have HNX := Lib.hid (show (ds.take (i + 1)).map dirJ = (ds.take i).map dirJ ++ [dirJ d] from by rw [takeG_snoc hdd, List.map_append]; rfl)
          have HJL := Lib.hid (show ((ds.take i).map dirJ).length = i from by rw [List.length_map, List.length_take, HK.out]; omega)
          have HJ8 := Lib.hid (show ∀ j ∈ (ds.take i).map dirJ, j < 8 from fun j hj => by
            obtain ⟨y, _, rfl⟩ := List.mem_map.1 hj
            exact dirJ_lt y)
          obtain ⟨b, off, rfl, hbl, hc⟩ := HD.out wr HS.out.bel i d hdd
          have hj8 := dirJ_lt d
          have hjt := dirJ_is d
          obtain ⟨u, hu⟩ : ∃ u, IntKind.u64.wrap d = u := ⟨_, rfl⟩
          rw [hu] at hjt
          generalize (ds.take i).map dirJ = js at *
          generalize dirJ d = j at *
          obtain ⟨want, hwant⟩ : ∃ want, wantR z js.reverse = want := ⟨_, rfl⟩
          rw [hwant]
          have HWN := Lib.hid (show wantR z (js ++ [j]).reverse = if want ≠ 0 then want else if badJ j = true then 2 else if js.any (fun x => eqJ x j) = true then 4 else 0 from by
            rw [List.reverse_append, List.reverse_singleton, List.singleton_append, wantR, stepC, List.any_reverse, hwant])
          obtain ⟨ni, hni⟩ : ∃ ni, IntKind.i64.wrap (n + (i : Int)) = ni := ⟨_, rfl⟩
          have hr1 : -9223372036854775808 ≤ ni := by rw [← hni, IntKind.wrap_i64]; omega
          have hr2 : ni ≤ 9223372036854775807 := by rw [← hni, IntKind.wrap_i64]; omega
          have CF := Lib.hid (fun w => featuresOf_ok ni w hr1 hr2)
          have HHW := Lib.hid hwant
          clear hwant hr1 hr2 hdd
          have HC8 := Lib.hid hj8
          go_wp2_with fail
          refine (CF.out _).mono ?_
          rintro e w2 ⟨m, pr, pg, rfl, HO, o1, o2, o3, o4, hb2⟩
          have HHO := Lib.hid HO
          have HP4 := Lib.hid (show 1 ≤ pr ∧ pr ≤ 1000 ∧ 1 ≤ pg ∧ pg ≤ 4 from ⟨o1, o2, o3, o4⟩)
          have HB2 := Lib.hid hb2
          clear HO o1 o2 o3 o4 hb2 CF hc hni
          go_wp2_with fail
          refine (newClock_blk w2).mono ?_
          rintro e w3 ⟨rfl, hck, hb3⟩
          have HB3 := Lib.hid (HB2.out.trans (hb3.mono HB2.out.size))
          have CN := Lib.hid (newStore_ok m pr pg HHO.out HP4.out.1 HP4.out.2.1 HP4.out.2.2.1 HP4.out.2.2.2 w2.heap.size w3 (GG.out _ (HS.out.bel.trans (HB3.out.mono HS.out.bel.size))) hck)
          clear hck hb3 HB2
          go_wp2_with fail
          refine CN.out.mono ?_
          rintro e w4 ⟨r, rfl, hok, hL, hBr, hno, hb4⟩
          have HB4 := Lib.hid (HB3.out.trans (hb4.mono HB3.out.size))
          have hst := HS.out.store HB4.out hok hL (by rw [hBr]; exact HB3.out.size) (by rw [hBr]; exact hb4.size) hno
          have HMEM := Lib.hid hst.1
          have HEMP := Lib.hid hst.2
          have hrl := own_belC HS.out.rowl HB4.out
          have hrn := own_belC HS.out.rown HB4.out
          rw [HJL.out] at hrl hrn
          have HBW := Lib.hid (HS.out.bel.trans (HB4.out.mono HS.out.bel.size))
          have HLEN := Lib.hid HS.out.len
          clear hok hL hBr hno hb4 hst HB3 HB4 HS CN HHO HP4
          obtain ⟨la, lc, hlv⟩ := own_slice hrl
          obtain ⟨na, nc, hnv⟩ := own_slice hrn
          subst hlv hnv
          have HRL := Lib.hid hrl
          have HRN := Lib.hid hrn
          clear hrl hrn
          obtain ⟨sm, hsm⟩ : ∃ sm, r.q.m = sm := ⟨_, rfl⟩
          rw [hsm]
          have HSM := Lib.hid hsm
          clear hsm
          have HZN := Lib.hid (nmC_size j HC8.out)
          have CI0 := fun w => refIsName_ok (nmC j) w
          rw [nmC_name j HC8.out] at CI0
          have CT0 := fun (wx : World) (nb : Nat) (hr : SRow na (js.map nmC) wx) (hx : wx.cell? ⟨nb, 0, none⟩ = some (.string (nmC j))) => twice_ok na nc nb (js.map nmC) (nmC j) wx hr hx (fun s hs => by
            obtain ⟨j', hj', rfl⟩ := List.mem_map.1 hs
            have := nmC_size j' (HJ8.out j' hj')
            exact ⟨by omega, nmC_asc j' (HJ8.out j' hj')⟩) (by rw [List.length_map, HJL.out]; omega) (nmC_asc j HC8.out)
          have e0 : (js.map nmC).any (fun s => Lib.equalFold s.data.toList (nmC j).data.toList) = js.any (fun x => eqJ x j) := by
            rw [List.any_map]
            exact any_congr (fun x hx => nmC_fold x (HJ8.out x hx) j HC8.out)
          rw [e0, List.length_map, HJL.out] at CT0
          obtain ⟨tw, htw⟩ : ∃ tw, js.any (fun x => eqJ x j) = tw := ⟨_, rfl⟩
          rw [htw] at CT0 HWN
          obtain ⟨bj, hbj⟩ : ∃ bj, badJ j = bj := ⟨_, rfl⟩
          rw [hbj] at CI0 HWN
          have CT := Lib.hid CT0
          have CI := Lib.hid CI0
          obtain ⟨e1, he1⟩ : ∃ x : Int, (if bj = true then (2 : Int) else 0) = x := ⟨_, rfl⟩
          obtain ⟨e2, he2⟩ : ∃ x : Int, (if tw = true then (4 : Int) else 0) = x := ⟨_, rfl⟩
          have CWA := Lib.hid (fun w => when_eqC bj 2 e1 w he1)
          have CWB := Lib.hid (fun w => when_eqC tw 4 e2 w he2)
          obtain ⟨wn, hwn⟩ : ∃ x : Int, (if want ≠ 0 then want else if e1 ≠ 0 then e1 else e2) = x := ⟨_, rfl⟩
          have CF3 := Lib.hid (show ∀ (gb : Nat) (wx : World), Blk wx gb 26 #[.int .i64 want, .int .i64 e1, .int .i64 e2] → Calls Tryz.prog 13 #[sl gb 3 3] wx fun e w' => e = .returned (.int .i64 wn) ∧ w' = wx from fun gb wx h => by
            rw [← hwn]; exact first3_ok gb want e1 e2 wx h)
          have HWX := Lib.hid (show wantR z (js ++ [j]).reverse = wn from by
            rw [HWN.out, ← hwn, ← he1, ← he2]
            cases bj <;> cases tw <;> simp)
          clear e0 CT0 CI0 htw hbj he1 he2 hwn
          have h8c := eightN_at j HC8.out
          have hcj : (w4.alloc (.cells eightN 9)).cell? ⟨w4.heap.size, j, none⟩ = some (.string (nmC j)) := by
            rw [(Blk.new w4 9 eightN).cell j]; exact h8c
          have HNJ := Lib.hid (memF_snoc js rs j r HLEN.out)
          rw [HSM.out] at HNJ
          have HNJ2 := Lib.hid (show ((js ++ [j]).map fun j => Value.string (nmC j)) = (js.map fun j => Value.string (nmC j)) ++ [.string (nmC j)] from by simp)
          generalize nmC j = nj at *
          clear h8c
          go_upto_region 15 with (fail)
          have HX6 := Lib.hid (Blk.newAt (w := w4.alloc (.cells eightN 9)) (t := 9) (cs := #[.string nj]) (show w4.heap.size + 1 = _ from by simp))
          have hbA := ((Below.refl w4.heap.size w4).alloc (Nat.le_refl _) (.cells eightN 9)).alloc (by simp) (.cells #[.string nj] 9)
          have HRL6 := Lib.hid ((HRL.out.alloc (.cells eightN 9)).alloc (.cells #[.string nj] 9))
          have HRN6 := Lib.hid ((HRN.out.alloc (.cells eightN 9)).alloc (.cells #[.string nj] 9))
          have HM6 := Lib.hid (HMEM.out.below hbA)
          have HB6 := Lib.hid (HBW.out.trans (hbA.mono HBW.out.size))
          have HS6 := Lib.hid hbA.size
          clear HRL HRN HMEM HBW hbA hcj
          generalize ((w4.alloc (.cells eightN 9)).alloc (.cells #[.string nj] 9)) = w6 at *
          generalize w4.heap.size + 1 = nb at *
          have x6 : w6.cell? ⟨nb, 0, none⟩ = some (.string nj) := HX6.out.cell 0
          have hlc := own_cap HRL6.out
          go_upto_region 16 with (first
            | (at_builtin; refine wpList_append_own_at _ rfl _ _ 25 rfl w.heap.size 41 iM (.agg #[.string ⟨#[]⟩, .nilIface]) 2 32 Tryz.underlying25 hM hM0 hM1 hM2 rfl (by decide) _ _ _ rfl (HRL6.out.alloc _) ⟨w6.heap.size, 0, none⟩ 1 1 [.string nj, stV sm] rfl rfl (two_new w6 _ _ _) (by simp [Value.oneCell']) (by simp only [maxLen]; omega) (by omega) (by have := HB6.out.size; simp; omega) ?_; intro vl7 w7 hown7 hgrow hnil hat)
            | go_in)
          have hbA := (Below.refl w6.heap.size w6).alloc (Nat.le_refl _) (.cells #[.string nj, stV sm] 41)
          have HM7 := Lib.hid (mems_row (HM6.out.below hbA) (HRL6.out.alloc (.cells #[.string nj, stV sm] 41)) (by decide) (by decide) (by decide) (by decide) hgrow)
          have HRN7 := Lib.hid ((HRN6.out.alloc (.cells #[.string nj, stV sm] 41)).kept hgrow (row_ne (HRN6.out.alloc (.cells #[.string nj, stV sm] 41)) (HRL6.out.alloc (.cells #[.string nj, stV sm] 41)) (by decide)))
          have HX7 := Lib.hid (blk_row (HX6.out.old (.cells #[.string nj, stV sm] 41)) (HRL6.out.alloc (.cells #[.string nj, stV sm] 41)) (by decide) hgrow)
          have hb6 := HB6.out.alloc HB6.out.size (.cells #[.string nj, stV sm] 41)
          have HB7 := Lib.hid (hb6.grown hgrow hb6.size (fun k hk => (HRL6.out.lt k hk).1))
          have HS7 := Lib.hid (Nat.le_trans HS6.out (Nat.le_trans hbA.size hgrow.size))
          have HRL7 := Lib.hid hown7
          clear hown7 hgrow hnil hat hbA hb6 HM6 HRN6 HX6 HB6 HS6 HRL6 x6
          have x7 : w7.cell? ⟨nb, 0, none⟩ = some (.string nj) := HX7.out.cell 0
          go_wp2_with fail
          refine (CT.out w7 nb (srow_own HRN7.out) x7).mono ?_
          rintro e w8 ⟨rfl, rfl⟩
          go_wp2_with fail
          refine (CI.out _).mono ?_
          rintro e w9 ⟨rfl, rfl⟩
          go_wp2_with fail
          refine (CWA.out _).mono ?_
          rintro e w10 ⟨rfl, rfl⟩
          go_wp2_with fail
          refine (CWB.out _).mono ?_
          rintro e w11 ⟨rfl, rfl⟩
          go_wp2_with fail
          refine (CF3.out _ _ (Blk.new w11 _ _)).mono ?_
          rintro e w12 ⟨rfl, hw12⟩
          have hbC : Below w11.heap.size w11 w12 := by rw [hw12]; exact (Below.refl _ _).alloc (Nat.le_refl _) _
          have HM12 := Lib.hid (HM7.out.below hbC)
          have HRL12 := Lib.hid (own_belC HRL7.out hbC)
          have HRN12 := Lib.hid (own_belC HRN7.out hbC)
          have HB12 := Lib.hid (HB7.out.trans (hbC.mono HB7.out.size))
          have HS12 := Lib.hid (Nat.le_trans HS7.out hbC.size)
          have x12 : w12.cell? ⟨nb, 0, none⟩ = some (.string nj) := (HX7.out.below hbC HX7.out.lt).cell 0
          clear hw12 hbC HM7 HRL7 HRN7 HB7 HS7 HX7 x7
          go_wp2_with (first
            | (at_builtin; refine wpList_append_own_at _ rfl _ _ 28 rfl w.heap.size 9 iS (.string ⟨#[]⟩) 1 16 Tryz.underlying28 hS hS0 hS1 hS2 rfl (by decide) _ _ _ rfl (HRN12.out.alloc _) ⟨w12.heap.size, 0, none⟩ 1 1 [.string nj] rfl rfl (one_new w12 _ _) (by simp [Value.oneCell']) (by simp only [maxLen]; omega) (by omega) (by have := HB12.out.size; simp; omega) ?_; intro vn13 w13 hown13 hgrow hnil hat)
            | go_in)
          have hbA := (Below.refl w12.heap.size w12).alloc (Nat.le_refl _) (.cells #[.string nj] 9)
          have HM13 := Lib.hid (mems_row (HM12.out.below hbA) (HRN12.out.alloc (.cells #[.string nj] 9)) (by decide) (by decide) (by decide) (by decide) hgrow)
          have HRL13 := Lib.hid ((HRL12.out.alloc (.cells #[.string nj] 9)).kept hgrow (row_ne (HRL12.out.alloc (.cells #[.string nj] 9)) (HRN12.out.alloc (.cells #[.string nj] 9)) (by decide)))
          have hb12 := HB12.out.alloc HB12.out.size (.cells #[.string nj] 9)
          have HB13 := Lib.hid (hb12.grown hgrow hb12.size (fun k hk => (HRN12.out.lt k hk).1))
          have HS13 := Lib.hid (Nat.le_trans HS12.out (Nat.le_trans hbA.size hgrow.size))
          have HRN13 := Lib.hid hown13
          clear hown13 hgrow hnil hat hbA hb12 HM12 HRL12 HRN12 HB12 HS12 x12
          go_wp2_with fail
          go_roundw
          case rel =>
            have hjl : (js ++ [j]).length = i + 1 := by rw [List.length_append, HJL.out]; rfl
            refine ⟨i + 1, rs ++ [r], by go_num, by omega, by rw [HNX.out, HWX.out], ?_⟩
            rw [HNX.out]
            refine ⟨HM13.out, fun x hx => ?_, ?_, ?_, HB13.out, ?_⟩
            · obtain ⟨h1, h2, h3, h4⟩ := HEMP.out x hx
              exact ⟨h1, Nat.le_trans h2 HS13.out, h3, h4⟩
            · rw [hjl, HNJ.out]; exact HRL13.out
            · rw [hjl, HNJ2.out]; exact HRN13.out
            · rw [hjl, List.length_append, ← HLEN.out, HJL.out]; rfl
          case measure => simp [intOf]; omega
        · obtain rfl : i = k := by omega
          have hd : decide ((i : Int) < (i : Int)) = false := decide_eq_false (by omega)
          have HJL := Lib.hid (show ((ds.take i).map dirJ).length = i from by rw [List.length_map, List.length_take, HK.out]; omega)
          have HJ8 := Lib.hid (show ∀ j ∈ (ds.take i).map dirJ, j < 8 from fun j hj => by
            obtain ⟨y, _, rfl⟩ := List.mem_map.1 hj
            exact dirJ_lt y)
          generalize (ds.take i).map dirJ = js at *
          have hrl := HS.out.rowl
          have hrn := HS.out.rown
          rw [HJL.out] at hrl hrn
          obtain ⟨la, lc, hlv⟩ := own_slice hrl
          obtain ⟨na, nc, hnv⟩ := own_slice hrn
          subst hlv hnv
          have hml := msOf_len (js := js) HS.out.len
          obtain ⟨ma, mc, hmv, hmr, -⟩ := mrow_of_own (cap := lc) hrl (by rw [hml, HJL.out])
          obtain ⟨rfl, -, -⟩ : la = ma ∧ i = (msOf js rs).length ∧ lc = mc := by simpa using hmv
          have CB0 := combine_ok la lc js rs wr (GG.out _ HS.out.bel) HS.out.len HJ8.out (by rw [HJL.out]; omega) (by rw [HJL.out]; exact own_cap hrl) hmr HS.out.mem (fun r hr => (HS.out.emp r hr).2.2.2)
          rw [HJL.out] at CB0
          have CB := Lib.hid CB0
          have HRL := Lib.hid hrl
          have HRN := Lib.hid hrn
          clear CB0 hrl hrn hml hmv hmr
          obtain ⟨E, hE⟩ : ∃ E, wantR z js.reverse = E := ⟨_, rfl⟩
          rw [hE]
          have HE := Lib.hid hE
          clear hE
          go_wp2_with fail
          refine CB.out.mono ?_
          rintro e w5 ⟨hb5, hcase⟩
          rw [HJL.out, HZ.out, HE.out] at hcase
          have HB5 := Lib.hid (HS.out.bel.trans (hb5.mono HS.out.bel.size))
          rcases hcase with ⟨hE0, rfl⟩ | ⟨hE0, cb, ra, rc, hh, s, p, pg, rfl, hcb, hmr5, hge, hlo, hp1, hp4⟩
          · have he : (E != 0) = true := by simpa using hE0
            clear CB hb5
            go_wp2_with fail
            go_ret
            exact ⟨by simp, HB5.out⟩
          · subst hE0
            have hcnt := cnt_ok (k := i) (l := js.reverse) (by rw [HZ.out]; exact HE.out)
            have hgd := good_of (js := js) (by have h := HE.out; rw [HZ.out.symm.trans hcnt.1] at h; exact h)
            obtain ⟨pn, hpn⟩ : ∃ pn : Nat, pg = (pn : Int) + 1 := ⟨(pg - 1).toNat, by omega⟩
            subst hpn
            have hcbk : CbOK cb js rs w5 := by
              refine ⟨⟨ra, rc, hh, s, p, pn, by rw [HJL.out]; exact hcb, hmr5, by omega, fun g' hg' => ⟨?_, fun r hr hx => ?_⟩⟩, HS.out.len, HJ8.out, hgd.1, hgd.2, by rw [HJL.out]; exact hcnt.2.2⟩
              · rcases hmr5 with h0 | ⟨gq, hq, hql, _⟩
                · have h1 := msOf_len (js := js) HS.out.len
                  rw [h0, HJL.out] at h1
                  have h2 := hcnt.2.1
                  simp at h1
                  omega
                · rw [hq] at hg'
                  cases hg'
                  exact hql
              · have h1 := (HS.out.mem.ok r hr).fLt _ hx
                have h2 := hge g' hg'
                omega
            have HLP := Lib.hid (show LpS w cb js i (.slice la i lc) (.slice na i nc) 0 rs w5 from
              ⟨HS.out.mem.below hb5, fun r hr => ⟨by rw [(HS.out.emp r hr).1]; exact Nat.le_refl _, Nat.le_trans (HS.out.emp r hr).2.1 hb5.size, (HS.out.emp r hr).2.2.1⟩, hcbk, own_belC HRL.out hb5, own_belC HRN.out hb5, HB5.out⟩)
            have hi1 := hcnt.2.1
            have hi8 := hcnt.2.2
            have HG8 := Lib.hid hgd
            clear hcbk hcb hmr5 hge hlo hp1 hp4 hcnt hgd hb5 CB HS HRL HRN HB5 HE HZ hM hM0 hM1 hM2
            obtain ⟨gl, rfl⟩ := own_some HLP.out.rowl hi1
            obtain ⟨gn, rfl⟩ := own_some HLP.out.rown hi1
            go_wp2_with fail
            go_loopw [121] (fun x wr => ∃ (q : Nat) (rs : List MR), x = .int .i64 (q : Int) ∧ q ≤ np ∧ LpS w cb js i (.slice (some ⟨gl, 0, none⟩) i lc) (.slice (some ⟨gn, 0, none⟩) i nc) q rs wr) (fun x _ => np - (intOf x).toNat)
            case atStart => exact ⟨0, rs, rfl, Nat.zero_le _, HLP.out⟩
            case round =>
              clear HLP
              obtain ⟨q, rs2, rfl, hq, hS2⟩ := hrel
              have HS2 := Lib.hid hS2
              clear hS2
              by_cases hlt2 : q < np
              · have hd2 : decide ((q : Int) < (np : Int)) = true := decide_eq_true (by omega)
                obtain ⟨⟨x1, x2, x3⟩, hpx⟩ : ∃ x, ps[q]? = some x := ⟨_, List.getElem?_eq_getElem (by rw [HNP.out]; exact hlt2)⟩
                obtain ⟨b, off, rfl, hbl, c0, c1, c2⟩ := HP.out _ HS2.out.bel q _ hpx
                simp only at c0 c1 c2
                obtain ⟨u, hu⟩ : ∃ u, IntKind.u64.wrap x1 = u := ⟨_, rfl⟩
                have hua : 0 ≤ u := by rw [← hu, IntKind.wrap_u64]; omega
                have hm0 := Int.emod_nonneg u (show (i : Int) ≠ 0 by omega)
                have hm1 := Int.emod_lt_of_pos u (show 0 < (i : Int) by omega)
                obtain ⟨ii, hii⟩ := Int.eq_ofNat_of_zero_le hm0
                have hmod : u.tmod (i : Int) = (ii : Int) := by rw [Int.tmod_eq_emod_of_nonneg hua]; exact hii
                have hil : ii < i := by rw [hii] at hm1; omega
                have hiw : IntKind.u64.wrap (i : Int) = (i : Int) := by rw [IntKind.wrap_u64]; omega
                have hi0 : ¬ (i : Int) = 0 := by omega
                obtain ⟨j, hj⟩ : ∃ j, js[ii]? = some j := ⟨_, List.getElem?_eq_getElem (by rw [HJL.out]; exact hil)⟩
                obtain ⟨r, hr⟩ : ∃ r, rs2[ii]? = some r := ⟨_, List.getElem?_eq_getElem (by rw [← HS2.out.cbk.len, HJL.out]; exact hil)⟩
                have HJJ := Lib.hid hj
                have HRR := Lib.hid hr
                have HCSD := Lib.hid (fun w => someData_ok x2 w)
                clear hm0 hm1 hii hpx hj hr hua
                go_wp2_with fail
                refine (HCSD.out _).mono ?_
                rintro e w2 ⟨d, rfl, hdz, hb2⟩
                have hbA := (Below.refl wr.heap.size wr).alloc (Nat.le_refl _) (.cells #[.int .i64 x1, .int .i64 x2, .int .i64 x3] 48)
                have hb3 := hbA.trans (hb2.mono hbA.size)
                have HS3 := Lib.hid (HS2.out.below hb3)
                clear hbA hb3 hb2 c0 c1 c2 HS2 HCSD hu hmod hiw hi0
                have hj8 : j < 8 := HJ8.out j (List.mem_of_getElem? HJJ.out)
                have hnz := nmC_size j hj8
                have x0 : w2.cell? ⟨gn, ii, none⟩ = some (.string (nmC j)) := by
                  rw [HS3.out.rown.cellAt ii (by omega), List.getElem?_map, HJJ.out]
                  rfl
                have hrm := List.mem_of_getElem? HRR.out
                have hmok := HS3.out.mem.ok r hrm
                have HMOK := Lib.hid hmok
                have HEMP := Lib.hid (HS3.out.emp r hrm)
                have CP := Lib.hid (show ∀ wx : World, Below w2.heap.size w2 wx → Calls Tryz.prog 250 #[pt cb, .string (nmC j ++ ⟨#[47, 102]⟩), .string d, .int .i64 3, .slice none 0 0] wx fun e w' => ∃ p m c id', e = .returned (.tuple #[.agg (infoC (nmC j ++ ⟨#[47, 102]⟩) d.size (tmOf r.f r.clk 3) (.slice p m c) (.slice none 0 0) id'), .int .i64 0]) ∧ PutPost r.B r.f r.clk r.q r.L ⟨#[102]⟩ d (tmOf r.f r.clk 3) wx w' from fun wx hdr =>
                  cPut_ok cb js rs2 ii j r d 3 wx (GG.out _ (HS3.out.bel.trans (hdr.mono HS3.out.bel.size))) (HS3.out.cbk.below hdr) HJJ.out HRR.out (hmok.below hdr) (by have := HEMP.out.1; omega) (by omega) (by decide) (by decide) (Nat.le_trans HEMP.out.2.1 hdr.size))
                have HDZ := Lib.hid hdz
                have hrn := HS3.out.rown
                have HY := Lib.hid (show ∀ wx wy : World, Below w2.heap.size w2 wx → PutPost r.B r.f r.clk r.q r.L ⟨#[102]⟩ d (tmOf r.f r.clk 3) wx wy → wy.cell? ⟨gn, ii, none⟩ = some (.string (nmC j)) from fun wx wy hdr hpp => by
                  obtain ⟨_, _, _, _, hk, _⟩ := hpp
                  have hrx := own_belC hrn hdr
                  have h1 := row_kp hrx hk (row_off (hmok.below hdr) hrx (by decide) (by decide) (by decide))
                  rw [h1.cellAt ii (by omega), List.getElem?_map, HJJ.out]
                  rfl)
                have HFT := Lib.hid (show w2.heap.size ∉ r.foot from fun h => by have := hmok.fLt _ h; omega)
                have HGN := Lib.hid (show gn < w2.heap.size from (hrn.lt gn rfl).2)
                clear hmok hrm hdz hrn
                have HN1 := Lib.hid (show ∀ wx : World, wx.ownsRow w.heap.size 9 1 (.slice (some ⟨gn, 0, none⟩) i nc) i (js.map fun j => Value.string (nmC j)) → wx.cell? ⟨gn, ii, none⟩ = some (.string (nmC j)) from fun wx hx => by
                  rw [hx.cellAt ii (by omega), List.getElem?_map, HJJ.out]
                  rfl)
                have HN2 := Lib.hid (show ∀ (wx : World) (rs3 : List MR) (r3 : MR), wx.ownsRow w.heap.size 41 2 (.slice (some ⟨gl, 0, none⟩) i lc) i (memF (msOf js rs3)) → rs3[ii]? = some r3 → wx.cell? ⟨gl, ii * 2 + 1, none⟩ = some (stV r3.q.m) from fun wx rs3 r3 hx hr3 => by
                  rw [hx.cellAt (ii * 2 + 1) (by omega)]
                  exact (memF_get _ _ _ (msOf_get HJJ.out hr3)).2)
                generalize nmC j = nj at *
                generalize tmOf r.f r.clk 3 = tm at *
                have hz2 : nj.size + 2 ≤ 9223372036854775807 := by omega
                have hadd := fun (wx : World) => run_string_add_sum (P := Tryz.prog) (w := wx) nj ⟨#[47, 102]⟩ (show nj.size + 2 ≤ 9223372036854775807 from hz2)
                have hnil := fun (wx : World) => nil_cPut cb wx
                have hiic : (ii : Int) < (i : Int) := by omega
                go_upto_region 30 with (fail)
                go_cut [22, 23] from 135 to 148 (fun v1 v2 wx => ∃ xb p m c id', v1 = pt xb ∧ v2 = .int .i64 0 ∧ Blk wx xb 53 (infoC (nj ++ ⟨#[47, 102]⟩) d.size tm (.slice p m c) (.slice none 0 0) id') ∧ PutPost r.B r.f r.clk r.q r.L ⟨#[102]⟩ d tm w2 wx)
                case first =>
                  have hb0 : Below w2.heap.size w2 w2.drew := (Below.refl _ _).drew
                  have hbA : Below w2.heap.size w2 (w2.alloc (.cells #[.string ⟨#[]⟩, .bool false, .int .i64 0, .int .i64 0, .slice none 0 0, .slice none 0 0, .string ⟨#[]⟩] 53)).drew := ((Below.refl _ _).alloc (Nat.le_refl _) _).drew
                  have xA : (w2.alloc (.cells #[.string ⟨#[]⟩, .bool false, .int .i64 0, .int .i64 0, .slice none 0 0, .slice none 0 0, .string ⟨#[]⟩] 53)).drew.cell? ⟨gn, ii, none⟩ = some (.string nj) := (cell_old x0 : (w2.alloc (.cells #[.string ⟨#[]⟩, .bool false, .int .i64 0, .int .i64 0, .slice none 0 0, .slice none 0 0, .string ⟨#[]⟩] 53)).cell? ⟨gn, ii, none⟩ = some (.string nj))
                  have xB : (w2.alloc (.cells #[.string ⟨#[]⟩, .bool false, .int .i64 0, .int .i64 0, .slice none 0 0, .slice none 0 0, .string ⟨#[]⟩] 53)).cell? ⟨gn, ii, none⟩ = some (.string nj) := cell_old x0
                  have xD : w2.drew.cell? ⟨gn, ii, none⟩ = some (.string nj) := x0
                  have HZA := Lib.hid (show Blk (w2.alloc (.cells #[.string ⟨#[]⟩, .bool false, .int .i64 0, .int .i64 0, .slice none 0 0, .slice none 0 0, .string ⟨#[]⟩] 53)).drew w2.heap.size 53 #[.string ⟨#[]⟩, .bool false, .int .i64 0, .int .i64 0, .slice none 0 0, .slice none 0 0, .string ⟨#[]⟩] from (Blk.new w2 _ _).drw)
                  have HNE := Lib.hid (show gn ∉ [w2.heap.size] from fun h => by have h1 := HGN.out; rw [List.mem_singleton] at h; omega)
                  go_region_held3 (fun wx => wx.cell? ⟨gn, ii, none⟩ = some (.string nj))
                    (first | with_reducible assumption | with_reducible exact cell_old y0 | exact cell_kp y0 (Kp.info (S := [w2.heap.size]) (Kp.refl _ _) (Or.inl (List.mem_singleton.2 rfl))) HNE.out | exact cell_kp (cell_old y0) (Kp.info (S := [w6.heap.size]) (Kp.refl _ _) (Or.inl (List.mem_singleton.2 rfl))) HN6.out)
                    (first
                      | (go_at_call 250; (with_reducible refine (CP.out w2.drew hb0).mono ?_); rintro e w6 ⟨p, m, c, id', rfl, hpp⟩; have HPA := Lib.hid hpp; have y0 : w6.cell? ⟨gn, ii, none⟩ = some (.string nj) := HY.out _ w6 hb0 hpp; have HN6 := Lib.hid (show gn ∉ [w6.heap.size] from fun h => by have h1 : gn < w6.heap.size := World.block_lt_of_cell? _ _ y0; rw [List.mem_singleton] at h; omega); clear hpp)
                      | (go_at_call 250; (with_reducible refine (CP.out _ hbA).mono ?_); rintro e w6 ⟨p, m, c, id', rfl, hpp⟩; have HPB := Lib.hid hpp; have y0 : w6.cell? ⟨gn, ii, none⟩ = some (.string nj) := HY.out _ w6 hbA hpp; obtain ⟨_, _, _, _, hk6, _⟩ := hpp; have HZ6 := Lib.hid (hk6.blk HZA.out HFT.out); have t0 := HZ6.out.cell 0; have t1 := HZ6.out.cell 1; have t2 := HZ6.out.cell 2; have t3 := HZ6.out.cell 3; have t4 := HZ6.out.cell 4; have t5 := HZ6.out.cell 5; have t6 := HZ6.out.cell 6; simp at t0 t1 t2 t3 t4 t5 t6; have q0 := HZ6.out.frozen 0; have q1 := HZ6.out.frozen 1; have q2 := HZ6.out.frozen 2; have q3 := HZ6.out.frozen 3; have q4 := HZ6.out.frozen 4; have q5 := HZ6.out.frozen 5; have q6 := HZ6.out.frozen 6; clear hk6))
                  all_goals
                    go_wp2_with fail
                    go_meet
                    first
                      | (have hA := HPA.out; exact ⟨w6.heap.size, p, m, c, id', rfl, rfl, Blk.new w6 _ _, (hA.after hb0).below (alloc_below w6 _)⟩)
                      | (have hB := HPB.out; exact ⟨w2.heap.size, p, m, c, id', rfl, rfl, HZ6.out.info, hB.over hbA (Nat.le_refl _) HZA.out.lt HFT.out HZ6.out _ _ _ _ _ _ _⟩)
                case rest =>
                  obtain ⟨xb, p, m, c, id', rfl, rfl, hxb, hpp⟩ := hcut
                  obtain ⟨n2, id2, L', hm4, hk4, hpa, hft⟩ := HMOK.out.put hpp (by have := HDZ.out; omega)
                  have hln := putAs_len hpa
                  have HS4 := Lib.hid (HS3.out.write (i' := q + 1) HRR.out hk4 hm4 rfl rfl hft (by show L'.length ≤ q + 1; have := HEMP.out.1; omega) (by omega))
                  have HXB := Lib.hid hxb
                  have hR4 : (rs2.set ii { r with L := L' })[ii]? = some { r with L := L' } := List.getElem?_set_self (List.getElem?_eq_some_iff.1 HRR.out).1
                  have hPA : (⟨⟨#[102]⟩, n2, d, tm, id2⟩ : Fl) ∈ ({ r with L := L' } : MR).L := hpa.mem
                  clear hnil CP HY hxb hpp hpa hft hln hk4 hm4 HMOK HEMP HS3 x0
                  generalize ({ r with L := L' } : MR) = r4 at *
                  generalize rs2.set ii r4 = rs4 at *
                  have HR4 := Lib.hid hR4
                  have hmem4 := List.mem_of_getElem? hR4
                  have hmk := HS4.out.mem.ok r4 hmem4
                  have y1 := HN2.out wc rs4 r4 HS4.out.rowl hR4
                  have WH := Lib.hid (Whole_x ⟨⟨#[102]⟩, n2, d, tm, id2⟩ hPA wc (GG.out _ HS4.out.bel) f_nm (f_key _) (by show d.size ≤ 60000; have := HDZ.out; omega) hmk.x)
                  have HMK := Lib.hid hmk
                  have HE4 := Lib.hid (HS4.out.emp r4 hmem4).1
                  clear hR4 hPA hmem4 hmk HN2
                  obtain ⟨sm4, hsm4⟩ : ∃ x, r4.q.m = x := ⟨_, rfl⟩
                  rw [hsm4] at y1 WH
                  go_wp2_with fail
                  refine WH.out.mono ?_
                  rintro e w7 ⟨rfl, hx7, hk7⟩
                  have hk8 : Kp r4.foot wc w7 := hk7.mono (by simp [MR.foot, Go.Proofs.YtpjnjhklkgefcaaGreatDoor.foot])
                  have hS7 := HS4.out.write (i' := q + 1) HR4.out hk8 ⟨hx7, HMK.out.ft, HMK.out.ck0, HMK.out.ck1, HMK.out.small⟩ rfl rfl (fun x hx => Or.inl hx) HE4.out (Nat.le_refl _)
                  rw [set_same HR4.out] at hS7
                  have HS7 := Lib.hid hS7
                  have y2 : w7.cell? ⟨gn, ii, none⟩ = some (.string nj) := HN1.out w7 hS7.rown
                  have y3 : w7.cell? ⟨xb, 0, none⟩ = some (.string (nj ++ ⟨#[47, 102]⟩)) := (hk8.blk HXB.out (HMK.out.off HXB.out (by decide) (by decide) (by decide))).cell 0
                  clear hx7 hk7 hk8 hS7 HS4 WH y1
                  have e1 : ((nj ++ ⟨#[47, 102]⟩ : ByteArray).toList == (nj ++ ⟨#[47, 102]⟩ : ByteArray).toList) = true := by simp
                  have e2 : (d.toList == d.toList) = true := by simp
                  go_upto_region 32 with (fail)
                  go_quiet (fail)
                  go_wp2_with fail
                  go_roundw
                  case rel => exact ⟨q + 1, rs4, by go_num, by omega, HS7.out.below (below_drwN (Below.refl _ _) _)⟩
                  case measure => simp [intOf]; omega
              · obtain rfl : q = np := by omega
                have hd2 : decide ((q : Int) < (q : Int)) = false := decide_eq_false (by omega)
                have CPN := Lib.hid (cPutNew_ok cb js rs2 wr (GG.out _ HS2.out.bel) HS2.out.cbk)
                go_wp2_with fail
                refine CPN.out.mono ?_
                rintro e w3 ⟨rfl, hb3⟩
                have HS3 := Lib.hid (HS2.out.below hb3)
                clear CPN HS2 hb3
                go_upto_region 36 with (fail)
                have HS4 := Lib.hid (HS3.out.below ((Below.refl _ _).alloc (Nat.le_refl _) (.cells #[.string ⟨#[]⟩, .bool false, .int .i64 0, .int .i64 0, .slice none 0 0, .slice none 0 0, .string ⟨#[]⟩] 53)))
                clear HS3
                generalize (w3.alloc (.cells #[.string ⟨#[]⟩, .bool false, .int .i64 0, .int .i64 0, .slice none 0 0, .slice none 0 0, .string ⟨#[]⟩] 53)) = w4 at *
                have hsl : (sortC js).length = i := (sortC_ok js).1.length_eq.trans HJL.out
                have hst := sortC_strict js HJ8.out HG8.out.1 HG8.out.2
                have hs8 : ∀ j ∈ sortC js, j < 8 := fun j hj => HJ8.out j ((sortC_ok js).1.subset hj)
                have CLS0 := fun (t : Nat) (ht : t < i) (wx : World) (hb : Below w4.heap.size w4 wx) => cList_ok cb js rs2 t (markC (sortC js) t) wx (GG.out _ (HS4.out.bel.trans (hb.mono HS4.out.bel.size))) (HS4.out.cbk.below hb) (by rw [HJL.out]; exact hi1) (by rw [HJL.out]; omega) (markC_at hs8 hst t (by omega)) (markC_size hs8 t)
                rw [HJL.out] at CLS0
                have CLS := Lib.hid CLS0
                have HMG := Lib.hid (show ((js.map byC).mergeSort fun x y => decide (x ≤ y)) = (sortC js).map byC from sortC_merge js HJ8.out HG8.out.1)
                have HGD := Lib.hid (show ∀ j ∈ sortC js, nmD j = nmC j from fun j hj => nmD_good (HG8.out.1 j ((sortC_ok js).1.subset hj)))
                have HSL := Lib.hid hsl
                have HS8 := Lib.hid hs8
                clear CLS0 hst hsl hs8
                have HGN := Lib.hid (show gn < w4.heap.size from (HS4.out.rown.lt gn rfl).2)
                generalize sortC js = S at *
                go_wp2_with fail
                go_loopw [28, 29] (fun vr mk wx => ∃ t : Nat, t < i ∧ mk = .string (markC S t) ∧ wx.ownsRow w4.heap.size 9 1 vr t ((S.take t).map fun j => Value.string (nmD j)) ∧ Below w4.heap.size w4 wx) (fun vr _ _ => i - lenV vr)
                case atStart => exact ⟨0, by omega, rfl, by simpa using World.ownsRow_nil w4 w4.heap.size 9 1, Below.refl _ _⟩
                case round =>
                  obtain ⟨t, ht, rfl, hrow, hb⟩ := hrel
                  obtain ⟨ra2, rc2, hrv⟩ := own_slice hrow
                  subst hrv
                  have HROW := Lib.hid hrow
                  have HB := Lib.hid hb
                  have CL := Lib.hid (CLS.out t ht _ hb)
                  clear hrow hb
                  obtain ⟨mk, hmk⟩ : ∃ mk, markC S t = mk := ⟨_, rfl⟩
                  rw [hmk] at CL ⊢
                  clear hmk
                  go_wp2_with fail
                  refine CL.out.mono ?_
                  rintro e w6 ⟨m, v, rfl, hb6, hown6⟩
                  obtain ⟨cnt, hcnt⟩ : ∃ c, ((S.drop t).take (m + 1)).length = c := ⟨_, rfl⟩
                  rw [hcnt] at hown6
                  have hcv : cnt = min (m + 1) (i - t) := by rw [← hcnt, List.length_take, List.length_drop, HSL.out]
                  have hc1 : 1 ≤ cnt := by omega
                  have hci : t + cnt ≤ i := by omega
                  obtain ⟨va, vc, hvv⟩ := own_slice hown6
                  subst hvv
                  obtain ⟨gp, rfl⟩ := own_some hown6 hc1
                  have HO6 := Lib.hid hown6
                  have HROW6 := Lib.hid (own_belC HROW.out hb6)
                  have HB6 := Lib.hid (HB.out.trans (hb6.mono HB.out.size))
                  have HCV := Lib.hid hcv
                  obtain ⟨nx, hnx⟩ : ∃ nx, (if t + m + 1 < i then nmD (S[t + m]?.getD 0) else (⟨#[]⟩ : ByteArray)) = nx := ⟨_, rfl⟩
                  rw [hnx]
                  have HNX := Lib.hid hnx
                  clear hown6 hb6 hcnt hcv hnx CL HROW HB
                  generalize wr.heap.size = B6 at *
                  go_wp2_with fail
                  go_loopw [28, 203] (fun vr x wx => ∃ q : Nat, x = .int .i64 (q : Int) ∧ q ≤ cnt ∧ wx.ownsRow w4.heap.size 9 1 vr (t + q) ((S.take (t + q)).map fun j => Value.string (nmD j)) ∧ wx.ownsRow B6 53 7 (.slice (some ⟨gp, 0, none⟩) cnt vc) cnt (flatK encI 7 ((S.drop t).take (m + 1)).toArray).toList ∧ Below w4.heap.size w4 wx) (fun _ x _ => cnt - (intOf x).toNat)
                  case atStart => exact ⟨0, rfl, Nat.zero_le _, HROW6.out, HO6.out, HB6.out⟩
                  case round =>
                    clear HROW6 HO6 HB6
                    obtain ⟨q2, rfl, hq2, hrow, hpg, hb⟩ := hrel
                    obtain ⟨ra3, rc3, hrv⟩ := own_slice hrow
                    subst hrv
                    have HROW := Lib.hid hrow
                    have HPG := Lib.hid hpg
                    have HB := Lib.hid hb
                    by_cases hlt3 : q2 < cnt
                    · have hd3 : decide ((q2 : Int) < (cnt : Int)) = true := decide_eq_true (by omega)
                      obtain ⟨y, hy⟩ : ∃ y, S[t + q2]? = some y := ⟨_, List.getElem?_eq_getElem (by rw [HSL.out]; omega)⟩
                      have hlq : ((S.drop t).take (m + 1))[q2]? = some y := by
                        have := HCV.out
                        rw [List.getElem?_take_of_lt (by omega), List.getElem?_drop, hy]
                      obtain ⟨hH, hgl2, -, -⟩ := holdsI_of_row hpg
                      obtain ⟨c0, c1, c2, c3, c4, c5, c6⟩ := (irow_of_holds hH hgl2).2 q2 y (by simpa using hlq)
                      have HYY := Lib.hid hy
                      have hty : (S.take (t + (q2 + 1))).map (fun j => Value.string (nmD j)) = (S.take (t + q2)).map (fun j => Value.string (nmD j)) ++ [.string (nmD y)] := by
                        rw [show t + (q2 + 1) = (t + q2) + 1 by omega, takeN1 hy, List.map_append]; rfl
                      have HTY := Lib.hid hty
                      clear hy hlq hH hgl2 hrow hpg hb hty
                      generalize nmD y = ny at *
                      go_upto_region 46 with (fail)
                      have HX8 := Lib.hid (Blk.new wr 53 #[.string ny, .bool true, .int .i64 0, .int .i64 0, .slice none 0 0, .slice none 0 0, .string ⟨#[]⟩])
                      have HROW8 := Lib.hid (HROW.out.alloc (.cells #[.string ny, .bool true, .int .i64 0, .int .i64 0, .slice none 0 0, .slice none 0 0, .string ⟨#[]⟩] 53))
                      have HPG8 := Lib.hid (HPG.out.alloc (.cells #[.string ny, .bool true, .int .i64 0, .int .i64 0, .slice none 0 0, .slice none 0 0, .string ⟨#[]⟩] 53))
                      have HB8 := Lib.hid (HB.out.alloc HB.out.size (.cells #[.string ny, .bool true, .int .i64 0, .int .i64 0, .slice none 0 0, .slice none 0 0, .string ⟨#[]⟩] 53))
                      clear c0 c1 c2 c3 c4 c5 c6 HROW HPG HB
                      generalize (wr.alloc (.cells #[.string ny, .bool true, .int .i64 0, .int .i64 0, .slice none 0 0, .slice none 0 0, .string ⟨#[]⟩] 53)) = w8 at *
                      generalize wr.heap.size = xb at *
                      have x0 : w8.cell? ⟨xb, 0, none⟩ = some (.string ny) := HX8.out.cell 0
                      have x1 : w8.cell? ⟨xb, 1, none⟩ = some (.bool true) := HX8.out.cell 1
                      go_wp2_with (first
                        | (at_builtin; refine wpList_append_own_at _ rfl _ _ 28 rfl w4.heap.size 9 iS (.string ⟨#[]⟩) 1 16 Tryz.underlying28 hS hS0 hS1 hS2 rfl (by decide) _ _ _ rfl (HROW8.out.alloc _) ⟨w8.heap.size, 0, none⟩ 1 1 [.string ny] rfl rfl (one_new w8 _ _) (by simp [Value.oneCell']) (by simp only [maxLen]; omega) (by omega) (by have := HB8.out.size; simp; omega) ?_; intro v9 w9 hown9 hgrow hnil hat)
                        | go_in)
                      have hb9 := HB8.out.alloc HB8.out.size (.cells #[.string ny] 9)
                      have HB9 := Lib.hid (hb9.grown hgrow hb9.size (fun k hk => (HROW8.out.lt k hk).1))
                      have HPG9 := Lib.hid ((HPG8.out.alloc (.cells #[.string ny] 9)).kept hgrow (row_ne (HPG8.out.alloc (.cells #[.string ny] 9)) (HROW8.out.alloc (.cells #[.string ny] 9)) (by decide)))
                      have HOW9 := Lib.hid hown9
                      clear hown9 hgrow hnil hat hb9
                      go_wp2_with fail
                      go_roundw
                      case rel => exact ⟨q2 + 1, by go_num, by omega, by rw [HTY.out]; exact HOW9.out, HPG9.out, HB9.out⟩
                      case measure => simp [intOf]; omega
                    · obtain rfl : q2 = cnt := by omega
                      have hd3 : decide ((q2 : Int) < (q2 : Int)) = false := decide_eq_false (by omega)
                      by_cases hmore : t + m + 1 < i
                      · have hnx1 : nx = nmD (S[t + m]?.getD 0) := by rw [← HNX.out, if_pos hmore]
                        have hq2m : q2 = m + 1 := by have := HCV.out; omega
                        have hne : nx.toList.isEmpty = false := by
                          rw [hnx1, List.getElem?_eq_getElem (by rw [HSL.out]; omega), Option.getD_some]
                          exact nmD_ne _ (HS8.out _ (List.getElem_mem _))
                        have HNX1 := Lib.hid hnx1
                        clear hnx1 hrow hpg hb
                        go_wp2_with fail
                        go_roundw
                        case rel => exact ⟨t + q2, by omega, by rw [HNX1.out, hq2m]; rfl, HROW.out, HB.out⟩
                        case measure => simp [lenV]; omega
                      · have hnx1 : nx = ⟨#[]⟩ := by rw [← HNX.out, if_neg hmore]
                        have hti : t + q2 = i := by have := HCV.out; omega
                        have hne : nx.toList.isEmpty = true := by rw [hnx1, Lib.toList_data]; rfl
                        rw [hti, List.take_of_length_le (by rw [HSL.out]; exact Nat.le_refl _)] at hrow
                        have hrn := own_belC HS4.out.rown hb
                        rw [← map_byC] at hrn
                        obtain ⟨g', cap', hv', -, hgl', -, -, -, hH⟩ := Lib.holds_of_ownsRow hrn (by simp)
                        obtain ⟨rfl, -, rfl⟩ : gn = g' ∧ True ∧ nc = cap' := by simpa using hv'
                        have hjl : (js.map byC).length = i := by rw [List.length_map, HJL.out]
                        have CS0 := Tryz.slices_Sort_string gn 0 nc (js.map byC) wr hH hgl' (by rw [hjl]; omega)
                        rw [hjl, HMG.out] at CS0
                        have CS := Lib.hid CS0
                        obtain ⟨gr, rfl⟩ := own_some hrow (by omega)
                        have hrr : gn ≠ gr := by
                          have h1 := (hrow.lt gr rfl).1
                          have h2 := HGN.out
                          omega
                        have HRR := Lib.hid hrr
                        have hro := hrow
                        rw [hti]
                        have HRO := Lib.hid hro
                        have HBW := Lib.hid (HS4.out.bel.trans (hb.mono HS4.out.bel.size))
                        have HPR := Lib.hid (fun (q : Nat) => Lib.ownsRow_putRow (q := q) (ys := S.map byC) (k := i) hrn (by rw [List.length_map, HSL.out]) (Nat.le_refl _))
                        have HGW := Lib.hid (show w.heap.size ≤ gn from (HS4.out.rown.lt gn rfl).1)
                        clear CS0 hrow hro hpg hb hrn hv' hgl' hH hjl hrr HROW HPG HB CLS
                        go_wp2_with fail
                        refine CS.out.mono ?_
                        rintro e w9 ⟨rfl, qn, os, hw9⟩
                        have hk9 : Kp [gn] wr w9 := by rw [hw9]; exact kp_putS _
                        have hn9 : w9.ownsRow w.heap.size 9 1 (.slice (some ⟨gn, 0, none⟩) i nc) i ((S.map byC).map Proofs.encStr) := by
                          have h1 := HPR.out qn
                          rw [List.take_of_length_le (by rw [List.length_map, HSL.out]; exact Nat.le_refl _)] at h1
                          rw [hw9]
                          exact own_belC h1 (grow_below _ os)
                        rw [map_byC] at hn9
                        have ho9 := row_kp HRO.out hk9 (fun g hg => by
                          have h1 : gr = g := by simpa [Value.ownBlock] using hg
                          subst h1
                          have h2 := HRR.out
                          simp; omega)
                        have HB9 := Lib.hid (HBW.out.trans (hk9.below HBW.out.size (by simp; exact HGW.out)))
                        have hmm : (S.map nmD) = S.map nmC := List.map_congr_left HGD.out
                        have CE0 := Tryz.slices_Equal_string gr 0 i rc3 gn 0 i nc (S.map nmD) (S.map nmC) w9 (by rw [List.length_map, HSL.out]; exact Nat.le_refl _) (by rw [List.length_map, HSL.out]; exact Nat.le_refl _) (by omega) (by omega)
                          (fun j hj => by
                            have hj' : j < S.length := by simpa using hj
                            have hji : j < i := by rw [← HSL.out]; exact hj'
                            rw [Nat.zero_add, ho9.cellAt j (by omega), List.getElem?_map, List.getElem?_eq_getElem hj']
                            simp [List.getD_eq_getElem?_getD, hj'])
                          (fun j hj => by
                            have hj' : j < S.length := by simpa using hj
                            have hji : j < i := by rw [← HSL.out]; exact hj'
                            rw [Nat.zero_add, hn9.cellAt j (by omega), List.getElem?_map, List.getElem?_eq_getElem hj']
                            simp [List.getD_eq_getElem?_getD, hj'])
                        have hdt : decide ((S.map nmD).take i = (S.map nmC).take i) = true := decide_eq_true (by rw [hmm])
                        rw [hdt] at CE0
                        have CE := Lib.hid CE0
                        clear CE0 hdt hmm hw9 hk9 hn9 ho9 CS HPR
                        go_wp2_with fail
                        refine CE.out.mono ?_
                        rintro e w10 ⟨rfl, qe, rfl⟩
                        go_wp2_with fail
                        go_ret
                        exact ⟨rfl, below_drwN HB9.out _⟩
end Go.Proofs.YtpjnjhklkgefcaaGreatDoor
