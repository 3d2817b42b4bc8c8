import Derived.Test.YtpjnjhklkgefcaaGreatDoorT
import Derived.Laws.OwnMore
import Derived.Deep.CutRange
set_option linter.unusedVariables false
set_option linter.unusedSimpArgs false
namespace Go.Proofs.YtpjnjhklkgefcaaGreatDoor
open Go.RowKit
theorem own_take {w : World} {base n g cap : Nat} {e : TypeId} {xs : List Value} (h : w.ownsRow base e 1 (.slice (some ⟨g, 0, none⟩) n cap) n xs) : ∀ (j : Nat) u, xs[j]? = some u → w.cell? ((⟨g, 0, none⟩ : Addr).add j) = some u := by
  intro j u hj
  obtain ⟨hl, h2⟩ := h
  rcases h2 with ⟨hv, _⟩ | ⟨g', cap', cur, hv, _, hg, _, _, _, ht⟩
  · cases hv
  · injection hv with h1
    injection h1 with h1
    injection h1 with h1
    subst h1
    have hadd : (⟨g, 0, none⟩ : Addr).add j = ⟨g, j, none⟩ := by unfold Addr.add; split <;> simp_all
    rw [hadd, cell_of_row w _ j cur _ _ hg]
    have hjl : j < xs.length := (List.getElem?_eq_some_iff.1 hj).1
    rw [← ht, List.getElem?_take, if_pos (by omega)] at hj
    simpa using hj
/-- 'append([]T(nil), xs...)' in a region that draws; xs is a row that is owned. -/
theorem step_append_src {P : Program} {w : World} {ops : Array Oper} {o : Oper} {a : Act} {K : Act → World → Prop} {Q : Exit → Act → World → Prop} {E : Prop} (hgd : o.guard = none) (s x : Operand) (t : TypeId)
    (ho : o.op = .call { callee := .builtin .append, args := #[s, x], argTypes := #[t, t] })
    (base b0 : Nat) (e : TypeId) (i : TypeInfo) (z : Value) (bytes : Nat) (ht : P.underlying t = some (.slice e)) (hi : P.info? e = some i) (hz : i.zero = some z) (hsize : i.size = 1) (hby : i.bytes = bytes) (hzs : z.cells.size = 1)
    (ov : Value) (n : Nat) (news : List Value) (hs : a.eval s = .slice none 0 0) (hx : a.eval x = ov) (hown : w.ownsRow b0 e 1 ov n news) (h1 : ∀ u ∈ news, u.oneCell' = true)
    (h63 : n ≤ maxLen) (hbytes : n * bytes ≤ 140737488355328) (hbase : base ≤ w.heap.size)
    (h : ∀ v' w', w'.ownsRow base e 1 v' n news → w.grownBy w' none → (n = 0 → v' = .slice none 0 0) → K (a.put o.dst v') w') :
    if Region.wanted o (yielded ops a.tmps) = true then Oper.wp P o a w K Q else E := by
  have hw : Region.wanted o (yielded ops a.tmps) = true := by simp [Region.wanted, hgd]
  rw [if_pos hw]
  have key : ∃ v' w', (Builtin.append_ #[t, t] o.type #[.slice none 0 0, ov]).run P w = .ok v' w' ∧ w'.ownsRow base e 1 v' n news ∧ w.grownBy w' none ∧ (n = 0 → v' = .slice none 0 0) := by
    have h2 := hown.2
    rcases h2 with ⟨rfl, rfl⟩ | ⟨g, cap, cur, rfl, _, hg, _, _, _, htk⟩
    · obtain rfl : news = [] := List.length_eq_zero_iff.1 (by simpa using hown.1)
      exact ⟨.slice none 0 0, w, run_append_owned_none (P := P) (w := w) base t o.type e i 1 ht hi (.slice none 0 0) 0 [] (World.ownsRow_nil _ _ _ _), World.ownsRow_nil _ _ _ _, World.grownBy.refl w _, fun _ => rfl⟩
    · obtain ⟨v', w', hr, h2, h3, h4⟩ := run_append_own (P := P) w base t o.type e i z 1 bytes ht hi hz hsize hby hzs (by decide) (.slice none 0 0) 0 [] (World.ownsRow_nil _ _ _ _) ⟨g, 0, none⟩ n cap news (by simpa using hown.1) (own_take hown) h1 (by omega) (by rw [Nat.zero_add]; exact hbytes) hbase
      exact ⟨v', w', hr, by simpa using h2, h3, fun h0 => h4.2 ⟨rfl, h0⟩⟩
  obtain ⟨v', w', hr, h2, h3, h4⟩ := key
  unfold Oper.wp execOp
  simp only [ho, resolve, invoke, builtin, Sem.run_bind, Sem.run_pure, Result.andThen_ok, List.map_toArray, List.map_cons, List.map_nil, hs, hx, hr]
  exact h v' w' h2 h3 h4
theorem nil_copied (a : Addr) (w : World) : (nilAhead 282 301 (.pointer (some a)) "wherryman/sums.copied").run Tryz.prog w = .ok (some false) w := by kernel_rfl
theorem method_copied (a : Addr) (w : World) : (method 282 301 (.pointer (some a)) "wherryman/sums.copied").run Tryz.prog w = .ok (373, .pointer (some a)) w := by kernel_rfl
theorem nil_little (a : Addr) (w : World) : (nilAhead 282 301 (.pointer (some a)) "wherryman/sums.little").run Tryz.prog w = .ok (some false) w := by kernel_rfl
theorem method_little (a : Addr) (w : World) : (method 282 301 (.pointer (some a)) "wherryman/sums.little").run Tryz.prog w = .ok (374, .pointer (some a)) w := by kernel_rfl
theorem nil_words (a : Addr) (w : World) : (nilAhead 282 301 (.pointer (some a)) "wherryman/sums.words").run Tryz.prog w = .ok (some false) w := by kernel_rfl
theorem method_words (a : Addr) (w : World) : (method 282 301 (.pointer (some a)) "wherryman/sums.words").run Tryz.prog w = .ok (377, .pointer (some a)) w := by kernel_rfl
theorem own_below {base e size n : Nat} {v : Value} {xs : List Value} {w w' : World} (h : w.ownsRow base e size v n xs) (hb : Below w.heap.size w w') : w'.ownsRow base e size v n xs :=
  own_kp (S := []) h (Kp.of_below hb) (fun _ _ => by simp)
def rowLen : Value → Nat
  | .slice _ n _ => n
  | _ => 0
theorem SS.below {B st eb : Nat} {w w' : World} (h : SS B st eb w) (hb : Below w.heap.size w w') : SS B st eb w' := by
  obtain ⟨ov, n, l, many, hS, hO, hn⟩ := h.h
  obtain ⟨E, hE, uE⟩ := h.e
  have k : Kp [] w w' := Kp.of_below hb
  exact ⟨⟨ov, n, l, many, k.blk hS (by simp), own_below hO hb, hn⟩, ⟨E, k.blk hE (by simp), uE⟩, h.lst, h.leb⟩
theorem SS.cell0 {B st eb : Nat} {w : World} (h : SS B st eb w) : w.cell? ⟨st, 0, none⟩ = some (.iface 301 (pt eb)) := by
  obtain ⟨ov, n, l, many, hS, hO, hn⟩ := h.h
  exact hS.cell 0
theorem byte_of (x : Int) : ∃ b : UInt8, x % 256 = (b.toNat : Int) := by
  refine ⟨UInt8.ofNat (x % 256).toNat, ?_⟩
  have : (x % 256).toNat < 256 := by omega
  simp [UInt8.toNat_ofNat', Nat.mod_eq_of_lt this]
  omega
/-- what is known of a stream in later worlds. -/
structure S1 (B st eb : Nat) (ov : Value) (n : Nat) (l : List UInt8) (many : Int) (w wx : World) : Prop where
  c0 : wx.cell? ⟨st, 0, none⟩ = some (.iface 301 (pt eb))
  c1 : wx.cell? ⟨st, 1, none⟩ = some ov
  c2 : wx.cell? ⟨st, 2, none⟩ = some (.int .i64 many)
  ow : wx.ownsRow B 5 1 ov n (Lib.byteCells l)
  en : ∃ E, Blk wx eb 304 E ∧ URow 8 E
  be : Below w.heap.size w wx
theorem S1.below {B st eb : Nat} {ov : Value} {n : Nat} {l : List UInt8} {many : Int} {w wx wy : World} (h : S1 B st eb ov n l many w wx) (hb : Below wx.heap.size wx wy) : S1 B st eb ov n l many w wy := by
  obtain ⟨E, hE, uE⟩ := h.en
  have k : Kp [] wx wy := Kp.of_below hb
  have key : ∀ p v, wx.cell? p = some v → wy.cell? p = some v := fun p v hc => (hb.cell (World.block_lt_of_cell? _ _ hc)).trans hc
  exact ⟨key _ _ h.c0, key _ _ h.c1, key _ _ h.c2, own_below h.ow hb, ⟨E, k.blk hE (by simp), uE⟩, h.be.trans (hb.mono h.be.size)⟩
theorem S1.three {B st eb : Nat} {ov : Value} {n : Nat} {l : List UInt8} {many : Int} {w wx : World} (h : S1 B st eb ov n l many w wx) : wx.cell? ⟨st, 0, none⟩ = some (.iface 301 (pt eb)) ∧ wx.cell? ⟨st, 1, none⟩ = some ov ∧ S1 B st eb ov n l many w wx := ⟨h.c0, h.c1, h⟩
theorem copied_ok' {B st eb : Nat} {ov : Value} {n : Nat} {l : List UInt8} {many : Int} {w wx : World} (h : S1 B st eb ov n l many w wx) : Calls Tryz.prog 373 #[pt eb] wx fun e w' => e = .returned (.iface 301 (pt wx.heap.size)) ∧ (∃ E, Blk w' wx.heap.size 304 E ∧ URow 8 E) ∧ Below wx.heap.size wx w' := by
  obtain ⟨E, hE, uE⟩ := h.en
  exact copied_ok eb E wx hE uE
set_option maxRecDepth 100000 in
set_option maxHeartbeats 8000000 in
theorem sum_ok {B st eb : Nat} (w : World) (hB : B ≤ w.heap.size) (hg : 11 < w.heap.size) (ht : TabW w) (hs : SS B st eb w) :
    Calls Tryz.prog 356 #[pt st] w fun e w' => ∃ s : ByteArray, e = .returned (.string s) ∧ s.size = 32 ∧ Below w.heap.size w w' := by
  obtain ⟨i0, hi0, hi1, hi2, hi3⟩ := info_parts info5
  have HT := Lib.hid (fun (wx : World) (k : Below w.heap.size w wx) => ht.below k hg)
  obtain ⟨ov, n, l, many, hS, hO, hn⟩ := hs.h
  have h1 : S1 B st eb ov n l many w w := ⟨hS.cell 0, hS.cell 1, hS.cell 2, hO, hs.e, Below.refl _ _⟩
  have H1 := Lib.hid h1
  have c0 := h1.c0
  have c1 := h1.c1
  have ow := h1.ow
  have NC := nil_copied
  have MC := method_copied
  clear hs hS hO ht h1
  go_enter Tryz.func356, Tryz.ntmps356
  go_upto_region 1 with (fail)
  go_cut [3] from 11 to 22 (fun s wx => ∃ c e2, s = pt c ∧ SS w.heap.size c e2 wx ∧ S1 B st eb ov n l many w wx)
  case first =>
    by_cases hn0 : n = 0
    ·
      go_region_held3 (fun wx => wx.cell? ⟨st, 0, none⟩ = some (.iface 301 (pt eb)) ∧ wx.cell? ⟨st, 1, none⟩ = some ov ∧ S1 B st eb ov n l many w wx)
        (first | assumption | exact (S1.below H1.out ((Below.refl _ _).drew)).three | exact (S1.below (And.right (And.right (by assumption))) hbc).three | exact (S1.below (And.right (And.right (by assumption))) hba).three | exact (S1.below (And.right (And.right (by assumption))) ((Below.refl _ _).alloc (Nat.le_refl _) _)).three)
        (first | (go_at_call 373; refine (copied_ok' (And.right (And.right (by assumption)))).mono ?_; rintro e w2 ⟨rfl, hE2, hbc⟩) | (refine step_append_src (by rfl) _ _ 117 (by rfl) w.heap.size B 5 i0 (.int .u8 0) 1 Tryz.underlying117 hi0 hi1 hi2 hi3 rfl ov n (Lib.byteCells l) (by rfl) (by rfl) (S1.ow (And.right (And.right (by assumption)))) ?_ ?_ ?_ ?_ ?_; (intro u hu; simp only [Lib.byteCells, List.mem_map] at hu; obtain ⟨q, _, rfl⟩ := hu; rfl); (unfold maxLen; omega); omega; exact (S1.be (And.right (And.right (by assumption)))).size; intro v' w3 hown hgrow hz0; obtain rfl := hz0 hn0; have hba := (Below.refl _ _).grown hgrow (Nat.le_refl _) (fun q hq => by cases hq)))
      all_goals
        have hS3 := S1.below (S1.below (S1.below H1.out ((Below.refl _ _).drew)) hbc) hba
        obtain ⟨E2, hE2, uE2⟩ := hE2
        have hE3 : Blk w3 w.heap.size 304 E2 := hE2.below hba hE2.lt
        have HZ := Lib.hid (show SS w.heap.size w3.heap.size w.heap.size (w3.alloc (.cells #[.iface 301 (pt w.heap.size), (.slice none 0 0), .int .i64 0] 285)) from ⟨⟨(.slice none 0 0), n, l, 0, Blk.new _ _ _, own_below hown ((Below.refl _ _).alloc (Nat.le_refl _) _), hn⟩, ⟨E2, hE3.old _, uE2⟩, hS3.be.size, Nat.le_refl _⟩)
        have HY := Lib.hid (hS3.below ((Below.refl _ _).alloc (Nat.le_refl _) (.cells #[.iface 301 (pt w.heap.size), (.slice none 0 0), .int .i64 0] 285)))
        clear hS3 hE2 hE3 hown hgrow hba hbc
        go_wp2_with fail
        go_meet
        exact ⟨_, _, rfl, HZ.out, HY.out⟩
    ·
      go_region_held3 (fun wx => wx.cell? ⟨st, 0, none⟩ = some (.iface 301 (pt eb)) ∧ wx.cell? ⟨st, 1, none⟩ = some ov ∧ S1 B st eb ov n l many w wx)
        (first | assumption | exact (S1.below H1.out ((Below.refl _ _).drew)).three | exact (S1.below (And.right (And.right (by assumption))) hbc).three | exact (S1.below (And.right (And.right (by assumption))) hba).three | exact (S1.below (And.right (And.right (by assumption))) ((Below.refl _ _).alloc (Nat.le_refl _) _)).three)
        (first | (go_at_call 373; refine (copied_ok' (And.right (And.right (by assumption)))).mono ?_; rintro e w2 ⟨rfl, hE2, hbc⟩) | (refine step_append_src (by rfl) _ _ 117 (by rfl) w.heap.size B 5 i0 (.int .u8 0) 1 Tryz.underlying117 hi0 hi1 hi2 hi3 rfl ov n (Lib.byteCells l) (by rfl) (by rfl) (S1.ow (And.right (And.right (by assumption)))) ?_ ?_ ?_ ?_ ?_; (intro u hu; simp only [Lib.byteCells, List.mem_map] at hu; obtain ⟨q, _, rfl⟩ := hu; rfl); (unfold maxLen; omega); omega; exact (S1.be (And.right (And.right (by assumption)))).size; intro v' w3 hown hgrow hz0; obtain ⟨g3, cap3, rfl⟩ := own_form hown (by omega); have hba := (Below.refl _ _).grown hgrow (Nat.le_refl _) (fun q hq => by cases hq)))
      all_goals
        have hS3 := S1.below (S1.below (S1.below H1.out ((Below.refl _ _).drew)) hbc) hba
        obtain ⟨E2, hE2, uE2⟩ := hE2
        have hE3 : Blk w3 w.heap.size 304 E2 := hE2.below hba hE2.lt
        have HZ := Lib.hid (show SS w.heap.size w3.heap.size w.heap.size (w3.alloc (.cells #[.iface 301 (pt w.heap.size), (.slice (some ⟨g3, 0, none⟩) n cap3), .int .i64 0] 285)) from ⟨⟨(.slice (some ⟨g3, 0, none⟩) n cap3), n, l, 0, Blk.new _ _ _, own_below hown ((Below.refl _ _).alloc (Nat.le_refl _) _), hn⟩, ⟨E2, hE3.old _, uE2⟩, hS3.be.size, Nat.le_refl _⟩)
        have HY := Lib.hid (hS3.below ((Below.refl _ _).alloc (Nat.le_refl _) (.cells #[.iface 301 (pt w.heap.size), (.slice (some ⟨g3, 0, none⟩) n cap3), .int .i64 0] 285)))
        clear hS3 hE2 hE3 hown hgrow hba hbc
        go_wp2_with fail
        go_meet
        exact ⟨_, _, rfl, HZ.out, HY.out⟩
  case rest =>
    obtain ⟨c, e2, rfl, hC, h1⟩ := hcut
    have HC := Lib.hid hC
    have HW := H1
    clear H1
    have H1 := Lib.hid h1
    have hbe := h1.be.size
    clear hC h1 c0 c1 ow
    obtain ⟨p0, hp1, hp2, hp3⟩ : ∃ p0 : Nat, 1 ≤ p0 ∧ p0 ≤ 64 ∧ (n + p0) % 64 = 56 := ⟨1 + (119 - n) % 64, by omega, by omega, by omega⟩
    obtain ⟨w0, hmk, hO, hG⟩ := run_make_own (P := Tryz.prog) (w := wc) wc.heap.size 117 5 i0 (.int .u8 0) 1 Tryz.underlying117 hi0 hi1 hi2 .i64 .i64 80 (by rw [hi3]; omega) (by unfold maxLen; omega) (Nat.le_refl _)
    have e8 : ((80 : Nat) : Int) = 80 := rfl
    rw [e8] at hmk
    have HO := Lib.hid hO
    have HB := Lib.hid ((Below.refl wc.heap.size wc).grown hG (Nat.le_refl _) (by intro q hq; cases hq))
    clear e8 hO hG
    go_wp2_with (at_builtin; refine wpList_append_lies _ rfl _ _ 117 rfl wc.heap.size 5 i0 (.int .u8 0) 1 1 Tryz.underlying117 hi0 hi1 hi2 hi3 rfl (by decide) _ _ _ rfl (HO.out.alloc _) _ 1 1 [.int .u8 128] (by rfl) (by rfl) (World.news_of_block (cs := #[.int .u8 128]) (t := 5) (fr := (0, 0)) (heap_alloc_new w0 _)) (by simp [Value.oneCell']) (by decide) (by unfold maxLen; omega) (by omega) ?c5 _ rfl ?_)
    case c5 => exact Nat.le_trans HB.out.size (by simp)
    intro g cap w1 hown hgrow hat hltg
    have HB1 := Lib.hid (own_grown (HB.out.alloc HB.out.size _) (HO.out.alloc _) hgrow (Nat.le_trans HB.out.size (by simp)))
    have HO1 := Lib.hid (show w1.ownsRow wc.heap.size 5 1 (.slice (some ⟨g, 0, none⟩) 1 cap) 1 (Lib.byteCells [128]) from hown)
    clear HO HB hmk hown hgrow hat hltg
    go_wp2_with fail
    obtain ⟨pp, cc, rfl⟩ : ∃ pp cc, ov = .slice pp n cc := by
      rcases H1.out.ow.2 with ⟨rfl, rfl⟩ | ⟨g', cap', cur, h, _⟩
      · exact ⟨none, 0, rfl⟩
      · exact ⟨_, _, h⟩
    go_loopw [4] (fun v wr => ∃ g cap p, ∃ l2 : List UInt8, v = .slice (some ⟨g, 0, none⟩) p cap ∧ 1 ≤ p ∧ p ≤ p0 ∧ wr.ownsRow wc.heap.size 5 1 (.slice (some ⟨g, 0, none⟩) p cap) p (Lib.byteCells l2) ∧ Below wc.heap.size wc wr) (fun v _ => p0 - rowLen v)
    case atStart => exact ⟨g, cap, 1, [128], rfl, Nat.le_refl _, hp1, HO1.out, HB1.out⟩
    case round =>
      clear HO1 HB1
      obtain ⟨g, cap, p, l2, rfl, h1p, hpp, hO, hB⟩ := hrel
      have HO := Lib.hid hO
      have HB := Lib.hid hB
      have hbs := hB.size
      have H1r := Lib.hid (H1.out.below hB)
      have c1 := H1r.out.c1
      clear hO hB
      by_cases hm : (n + p) % 64 = 56
      · have hmi : ((n : Int) + (p : Int)) % 64 = 56 := by omega
        have c2 := H1r.out.c2
        go_wp2_with fail
        clear c1 c2 hm hmi
        generalize IntKind.u64.wrap (IntKind.u64.wrap many * 8) = X
        obtain ⟨wo, hwo⟩ : ∃ wo, wo = wr := ⟨_, rfl⟩
        subst hwo
        have NL := nil_little
        have ML := method_little
        have HP := Lib.hid (And.intro h1p hpp)
        go_loopw [4, 46] (fun v k wr => ∃ g cap i, ∃ l2 : List UInt8, v = .slice (some ⟨g, 0, none⟩) (p + i) cap ∧ k = .int .i64 (i : Nat) ∧ i ≤ 8 ∧ wr.ownsRow wc.heap.size 5 1 (.slice (some ⟨g, 0, none⟩) (p + i) cap) (p + i) (Lib.byteCells l2) ∧ Below wc.heap.size wc wr) (fun v k _ => 8 - (intOf k).toNat)
        case atStart => exact ⟨g, cap, 0, l2, rfl, rfl, Nat.zero_le _, HO.out, HB.out⟩
        case round =>
          clear HO HB
          obtain ⟨g, cap, i, l2, rfl, rfl, hi8, hO, hB⟩ := hrel
          have HO := Lib.hid hO
          have HB := Lib.hid hB
          have H1r := Lib.hid (H1.out.below hB)
          have c0 := H1r.out.c0
          clear hO hB
          by_cases hlt : i < 8
          · have hd : decide ((i : Int) < 8) = true := decide_eq_true (by omega)
            have hs0 : (0 : Int) ≤ 56 - 8 * (i : Int) := by omega
            obtain ⟨b, hb⟩ := byte_of (X / 2 ^ (56 - 8 * i))
            go_wp2_with (first | (go_at_call 374; refine (little_ok _ _).mono ?_; rintro e w2 ⟨rfl, rfl⟩) | (at_builtin; refine wpList_append_lies _ rfl _ _ 117 rfl wc.heap.size 5 i0 (.int .u8 0) 1 1 Tryz.underlying117 hi0 hi1 hi2 hi3 rfl (by decide) _ _ _ rfl (HO.out.alloc _) _ 1 1 [.int .u8 (b.toNat : Int)] (by rfl) (by rfl) (World.news_of_block (cs := #[.int .u8 (b.toNat : Int)]) (t := 5) (fr := (0, 0)) (heap_alloc_new _ _)) (by simp [Value.oneCell']) (by decide) (by unfold maxLen; omega) (by omega) ?c5 _ rfl ?_))
            case c5 => exact Nat.le_trans HB.out.size (by simp)
            intro g2 cap2 w3 hown hgrow hat hltg
            have HB2 := Lib.hid (own_grown (HB.out.alloc HB.out.size _) (HO.out.alloc _) hgrow (Nat.le_trans HB.out.size (by simp)))
            have HO2 := Lib.hid (show w3.ownsRow wc.heap.size 5 1 (.slice (some ⟨g2, 0, none⟩) (p + i + 1) cap2) (p + i + 1) (Lib.byteCells (l2 ++ [b])) from by
              have e : Lib.byteCells (l2 ++ [b]) = Lib.byteCells l2 ++ [.int .u8 (b.toNat : Int)] := by simp [Lib.byteCells]
              rw [e]; exact hown)
            clear HO HB hown hgrow hat hltg c0 H1r hb
            go_wp2_with fail
            go_roundw
            case rel => exact ⟨g2, cap2, i + 1, _, rfl, by go_num, by omega, HO2.out, HB2.out⟩
            case measure => simp [intOf]; omega
          · have hd : decide ((i : Int) < 8) = false := decide_eq_false (by omega)
            obtain rfl : i = 8 := by omega
            have hl2 : l2.length = p + 8 := by simpa [Lib.byteCells] using HO.out.1
            have hcv := own_conv HO.out
            clear c0
            go_wp2_with fail
            have hsz := HB.out.size
            refine (write_ok ⟨l2.toArray⟩ _ (Nat.le_trans hbe hsz) hg (HT.out _ H1r.out.be) (HC.out.below HB.out) (by simp [ByteArray.size]; omega)).mono ?_
            rintro e w3 ⟨rfl, hC3, hB3, _⟩
            clear hcv hl2 HO HB
            have hb3 := H1r.out.be.trans hB3
            have HB3 := Lib.hid hb3
            have HW3 := Lib.hid (HW.out.below hb3)
            have cc0 := hC3.cell0
            obtain ⟨E, hE, uE⟩ := hC3.e
            have HE := Lib.hid hE
            have UE := Lib.hid uE
            have NW := nil_words
            have MW := method_words
            clear hC3 hB3 hb3 hE uE H1r HC H1 hsz
            go_wp2_with (go_at_call 377; refine (words_ok _ _ _ HE.out UE.out).mono ?_; rintro e w4 ⟨g4, cap4, rfl, hg4, hU, hB4⟩)
            have hsz4 := hB4.size
            have HW4 := Lib.hid (HW3.out.below hB4)
            have HB4 := Lib.hid (HB3.out.trans (hB4.mono HB3.out.size))
            have HU := Lib.hid hU
            clear hB4 hU cc0 HW3 NW MW
            go_wp2_with fail
            go_loopw [8, 77] (fun v k wr => ∃ i, ∃ l3 : List UInt8, k = .int .i64 (i : Nat) ∧ i ≤ 8 ∧ wr.ownsRow w4.heap.size 5 1 v (4 * i) (Lib.byteCells l3) ∧ Below w4.heap.size w4 wr) (fun v k _ => 8 - (intOf k).toNat)
            case atStart => exact ⟨0, [], rfl, Nat.zero_le _, World.ownsRow_nil _ _ _ _, Below.refl _ _⟩
            case round =>
              obtain ⟨i, l3, rfl, hi8, hO, hB⟩ := hrel
              have HO := Lib.hid hO
              have HB := Lib.hid hB
              have hsr := hB.size
              by_cases hlt : i < 8
              · obtain ⟨x, hx⟩ := HU.out i hlt
                have hx := (hB.cell (World.block_lt_of_cell? _ _ hx)).trans hx
                have c0 := (HW4.out.below hB).c0
                have hd : decide ((i : Int) < 8) = true := decide_eq_true (by omega)
                have hd2 : (i : Int) < 8 := by omega
                obtain ⟨b1, hb1⟩ := byte_of (x / 16777216)
                obtain ⟨b2, hb2⟩ := byte_of (x / 65536)
                obtain ⟨b3, hb3⟩ := byte_of (x / 256)
                obtain ⟨b4, hb4⟩ := byte_of x
                clear hO hB
                go_wp2_with (first | (go_at_call 374; refine (little_ok _ _).mono ?_; rintro e w2 ⟨rfl, rfl⟩) | (at_builtin; refine wpList_append_lies _ rfl _ _ 117 rfl w4.heap.size 5 i0 (.int .u8 0) 1 1 Tryz.underlying117 hi0 hi1 hi2 hi3 rfl (by decide) _ _ _ rfl (HO.out.alloc _) _ 4 4 [.int .u8 (b1.toNat : Int), .int .u8 (b2.toNat : Int), .int .u8 (b3.toNat : Int), .int .u8 (b4.toNat : Int)] (by rfl) (by rfl) (World.news_of_block (cs := #[.int .u8 (b1.toNat : Int), .int .u8 (b2.toNat : Int), .int .u8 (b3.toNat : Int), .int .u8 (b4.toNat : Int)]) (t := 5) (fr := (0, 0)) (heap_alloc_new _ _)) (by simp [Value.oneCell']) (by decide) (by unfold maxLen; omega) (by omega) ?c5 _ rfl ?_))
                case c5 => exact Nat.le_trans HB.out.size (by simp)
                intro g2 cap2 w3 hown hgrow hat hltg
                have HB2 := Lib.hid (own_grown (HB.out.alloc HB.out.size _) (HO.out.alloc _) hgrow (Nat.le_trans HB.out.size (by simp)))
                have HO2 := Lib.hid (show w3.ownsRow w4.heap.size 5 1 (.slice (some ⟨g2, 0, none⟩) (4 * i + 4) cap2) (4 * (i + 1)) (Lib.byteCells (l3 ++ [b1, b2, b3, b4])) from by
                  have e : Lib.byteCells (l3 ++ [b1, b2, b3, b4]) = Lib.byteCells l3 ++ [.int .u8 (b1.toNat : Int), .int .u8 (b2.toNat : Int), .int .u8 (b3.toNat : Int), .int .u8 (b4.toNat : Int)] := by simp [Lib.byteCells]
                  rw [e]; exact hown)
                clear HO HB hown hgrow hat hltg c0 hb1 hb2 hb3 hb4 hx
                go_wp2_with fail
                go_roundw
                case rel => exact ⟨i + 1, _, by go_num, by omega, HO2.out, HB2.out⟩
                case measure => simp [intOf]; omega
              · have hd : decide ((i : Int) < 8) = false := decide_eq_false (by omega)
                obtain rfl : i = 8 := by omega
                have hl3 : l3.length = 32 := by simpa [Lib.byteCells] using hO.1
                have hcv := own_conv HO.out
                clear hO hB
                go_wp2_with fail
                go_ret
                exact ⟨_, rfl, by simp [ByteArray.size]; omega, HB4.out.trans (HB.out.mono HB4.out.size)⟩
      · have hmi : ¬ ((n : Int) + (p : Int)) % 64 = 56 := by omega
        have hlt : p < p0 := by
          rcases Nat.lt_or_ge p p0 with h | h
          · exact h
          · obtain rfl : p = p0 := by omega
            exact absurd hp3 hm
        go_wp2_with (at_builtin; refine wpList_append_lies _ rfl _ _ 117 rfl wc.heap.size 5 i0 (.int .u8 0) 1 1 Tryz.underlying117 hi0 hi1 hi2 hi3 rfl (by decide) _ _ _ rfl (HO.out.alloc _) _ 1 1 [.int .u8 0] (by rfl) (by rfl) (World.news_of_block (cs := #[.int .u8 0]) (t := 5) (fr := (0, 0)) (heap_alloc_new wr _)) (by simp [Value.oneCell']) (by decide) (by unfold maxLen; omega) (by omega) ?c5 _ rfl ?_)
        case c5 => exact Nat.le_trans HB.out.size (by simp)
        intro g2 cap2 w2 hown hgrow hat hltg
        have HB2 := Lib.hid (own_grown (HB.out.alloc HB.out.size _) (HO.out.alloc _) hgrow (Nat.le_trans HB.out.size (by simp)))
        have HO2 := Lib.hid (show w2.ownsRow wc.heap.size 5 1 (.slice (some ⟨g2, 0, none⟩) (p + 1) cap2) (p + 1) (Lib.byteCells (l2 ++ [0])) from by
          have e : Lib.byteCells (l2 ++ [0]) = Lib.byteCells l2 ++ [.int .u8 0] := by simp [Lib.byteCells]
          rw [e]; exact hown)
        clear HO HB hown hgrow hat hltg
        go_wp2_with fail
        go_roundw
        case rel => exact ⟨g2, cap2, p + 1, _, rfl, by omega, by omega, HO2.out, HB2.out⟩
        case measure => simp [rowLen]; omega
end Go.Proofs.YtpjnjhklkgefcaaGreatDoor
