import Derived.Test.YtnjmcppljbkhnaaYb
set_option linter.unusedVariables false
set_option linter.unusedSimpArgs false
namespace Go.Proofs.Ytnjmcppljbkhnaa
open Go.RowKit
/-- a slice whose cells read as the digits L. -/
def Rd (w : World) (v : Value) (L : List Nat) : Prop := ∃ p cap, v = .slice p L.length cap ∧ ∀ k, k < L.length → ∃ g, p = some ⟨g, 0, none⟩ ∧ g < w.heap.size ∧ w.cell? ⟨g, k, none⟩ = some (.int .i64 (L.getD k 0 : Nat))
theorem Rd.below {w w' : World} {v : Value} {L : List Nat} (h : Rd w v L) (b : Below w.heap.size w w') : Rd w' v L := by
  obtain ⟨p, cap, rfl, hc⟩ := h
  refine ⟨p, cap, rfl, fun k hk => ?_⟩
  obtain ⟨g, rfl, hg, hcl⟩ := hc k hk
  exact ⟨g, rfl, Nat.lt_of_lt_of_le hg b.size, by rw [← hcl]; exact b.cell hg⟩
theorem Rd.own {w : World} {base : Nat} {v : Value} {L : List Nat} (h : w.ownsRow base 3 1 v L.length (digV L)) : Rd w v L := by
  obtain ⟨h1, h2⟩ := h
  rcases h2 with ⟨rfl, h0⟩ | ⟨g, cap, cur, rfl, hb, hg, hc, hm, hs, ht⟩
  · exact ⟨none, 0, by rw [show L.length = 0 by omega], fun k hk => by omega⟩
  · refine ⟨some ⟨g, 0, none⟩, cap, rfl, fun k hk => ⟨g, rfl, ?_, ?_⟩⟩
    · rcases Nat.lt_or_ge g w.heap.size with hlt | hge
      · exact hlt
      · rw [Array.getElem?_eq_none hge] at hg; cases hg
    · have h3 : (cur.toList.take (L.length * 1))[k]? = cur.toList[k]? := by rw [List.getElem?_take_of_lt (by omega)]
      rw [ht] at h3
      unfold digV at h3
      rw [List.getElem?_map] at h3
      simp [World.cell?, hg]
      simp [List.getD_eq_getElem?_getD, hk] at h3 ⊢
      simpa using h3.symm
theorem valD_take (a : List Nat) (k : Nat) : valD (a.take (k + 1)) = valD (a.take k) + 256 ^ k * a.getD k 0 := by
  by_cases h : k < a.length
  · rw [List.take_add_one, List.getElem?_eq_getElem h]
    simp only [Option.toList]
    rw [valD_snoc, List.length_take, Nat.min_eq_left (by omega)]
    congr 2
    simp [List.getD_eq_getElem?_getD, h]
  · rw [List.take_of_length_le (by omega), List.take_of_length_le (by omega)]
    simp [List.getD_eq_getElem?_getD, List.getElem?_eq_none (show a.length ≤ k by omega)]
theorem getD_lt (a : List Nat) (h : ∀ d ∈ a, d < 256) (k : Nat) : a.getD k 0 < 256 := by
  by_cases hk : k < a.length
  · have := h _ (List.getElem_mem hk)
    simpa [List.getD_eq_getElem?_getD, hk] using this
  · simp [List.getD_eq_getElem?_getD, List.getElem?_eq_none (show a.length ≤ k by omega)]
theorem getD_none (a : List Nat) (k : Nat) (h : ¬ k < a.length) : a.getD k 0 = 0 := by
  simp [List.getD_eq_getElem?_getD, List.getElem?_eq_none (show a.length ≤ k by omega)]
/-- the state of plus in round k. -/
def PlusAt (a b L : List Nat) (k c : Nat) : Prop := L.length = k ∧ c ≤ 1 ∧ (∀ d ∈ L, d < 256) ∧ valD L + 256 ^ k * c = valD (a.take k) + valD (b.take k) ∧ (max a.length b.length < k → c = 0) ∧ k ≤ max a.length b.length + 1
theorem PlusAt.start (a b : List Nat) : PlusAt a b [] 0 0 := ⟨rfl, by omega, by simp, by simp [valD], by omega, by omega⟩
theorem PlusAt.next {a b L : List Nat} {k c : Nat} (h : PlusAt a b L k c) (ha : ∀ d ∈ a, d < 256) (hb : ∀ d ∈ b, d < 256) (hgo : k < a.length ∨ k < b.length ∨ 0 < c) :
    PlusAt a b (L ++ [(c + a.getD k 0 + b.getD k 0) % 256]) (k + 1) ((c + a.getD k 0 + b.getD k 0) / 256) := by
  obtain ⟨h1, h2, h3, h4, h5, h6⟩ := h
  have xa := getD_lt a ha k
  have xb := getD_lt b hb k
  have ya := valD_take a k
  have yb := valD_take b k
  refine ⟨by simp [h1], by omega, ?_, ?_, ?_, ?_⟩
  · intro d hd
    rcases List.mem_append.1 hd with h | h
    · exact h3 d h
    · simp at h; omega
  · rw [valD_snoc, ya, yb, h1, Nat.pow_succ]
    generalize a.getD k 0 = x at *
    generalize b.getD k 0 = y at *
    have e : 256 ^ k * ((c + x + y) % 256) + 256 ^ k * 256 * ((c + x + y) / 256) = 256 ^ k * c + 256 ^ k * x + 256 ^ k * y := by
      rw [Nat.mul_assoc, ← Nat.mul_add, Nat.mod_add_div, Nat.mul_add, Nat.mul_add]
    omega
  · intro hm
    have za := getD_none a k (by omega)
    have zb := getD_none b k (by omega)
    omega
  · rcases hgo with h | h | h <;> omega
set_option maxRecDepth 100000 in
set_option maxHeartbeats 2000000 in
theorem plus59 (a b : List Nat) (va vb : Value) (w : World) (ha : Rd w va a) (hb : Rd w vb b) (hla : a.length ≤ 1000) (hlb : b.length ≤ 1000) (hda : ∀ d ∈ a, d < 256) (hdb : ∀ d ∈ b, d < 256) :
    Calls Try.prog 59 #[va, vb] w fun e w' => ∃ (v : Value) (L : List Nat), e = .returned v ∧ w'.ownsRow w.heap.size 3 1 v L.length (digV L) ∧ (∀ d ∈ L, d < 256) ∧ valD L = valD a + valD b ∧ L.length ≤ max a.length b.length + 1 ∧ Below w.heap.size w w' := by
  obtain ⟨i0, hi0, hi1, hi2, hi3⟩ := info_parts info3d
  obtain ⟨pa, ca, rfl, hca⟩ := ha
  obtain ⟨pb, cb, rfl, hcb⟩ := hb
  have HCA := Lib.hid hca
  have HCB := Lib.hid hcb
  clear hca hcb
  go_enter Try.func59, Try.ntmps59
  go_wp2_with fail
  go_loopw [5, 6, 7] (fun lv cv iv wr => ∃ (L : List Nat) (k c : Nat), iv = .int .i64 k ∧ cv = .int .i64 c ∧ Hid (PlusAt a b L k c) ∧ wr.ownsRow w.heap.size 3 1 lv k (digV L) ∧ Below w.heap.size w wr) (fun _ _ iv _ => 2002 - (intOf iv).toNat)
  case atStart => exact ⟨[], 0, 0, rfl, rfl, Lib.hid (PlusAt.start a b), World.ownsRow_nil _ _ _ _, Below.refl _ _⟩
  case round =>
    obtain ⟨L, k, c, rfl, rfl, HP, hown, hb⟩ := hrel
    have HO := Lib.hid hown
    have HB := Lib.hid hb
    clear hown hb
    have hc1 : c ≤ 1 := HP.out.2.1
    have hk1 : k ≤ 1001 := by have := HP.out.2.2.2.2.2; omega
    have xa := getD_lt a hda k
    have xb := getD_lt b hdb k
    by_cases hA : k < a.length
    · have hdA : decide ((k : Int) < (a.length : Int)) = true := decide_eq_true (by omega)
      obtain ⟨ga, rfl, hga, hcla⟩ := HCA.out k hA
      have hclA : wr.cell? ⟨ga, k, none⟩ = some (.int .i64 (a.getD k 0 : Nat)) := by rw [← hcla]; exact HB.out.cell hga
      clear hcla
      by_cases hBb : k < b.length
      · have hdB : decide ((k : Int) < (b.length : Int)) = true := decide_eq_true (by omega)
        obtain ⟨gb, rfl, hgb, hclb⟩ := HCB.out k hBb
        have hclB : wr.cell? ⟨gb, k, none⟩ = some (.int .i64 (b.getD k 0 : Nat)) := by rw [← hclb]; exact HB.out.cell hgb
        clear hclb
        have HN := HP.out.next hda hdb (Or.inl hA)
        generalize hxa : a.getD k 0 = x at *
        generalize hxb : b.getD k 0 = y at *
        replace HN := Lib.hid HN
        have hand : bits .and .i64 ((c : Int) + (x : Int) + (y : Int)) 255 = (((c + x + y) % 256 : Nat) : Int) := by
          have h := i64_and_nat (c + x + y) 255 (by omega) (by omega)
          rw [Nat.and_two_pow_sub_one_eq_mod _ 8] at h
          simpa using h
        go_wp2_with (at_builtin; refine wpList_append_own _ rfl _ _ 89 rfl w.heap.size 3 i0 (.int .i64 0) 1 8 underlying89d hi0 hi1 hi2 hi3 rfl (by decide) _ _ _ rfl (HO.out.alloc _) ⟨wr.heap.size, 0, none⟩ 1 1 [.int .i64 ((c + x + y) % 256 : Nat)] rfl rfl ?c1 ?c2 ?c3 ?c4 ?c5 ?_)
        case c1 =>
          intro j u hj
          match j, hj with
          | 0, hj => simp at hj; subst hj; simp [Addr.add]
        case c2 => intro u hu; simp at hu; subst hu; rfl
        case c3 => unfold maxLen; omega
        case c4 => omega
        case c5 => have := HB.out.size; simp; omega
        intro v' w1 hown' hgrow _
        have HBN := Lib.hid (show Below w.heap.size w w1 from ((HB.out).alloc HB.out.size _).grown hgrow (by have := HB.out.size; simp; omega) (by
          intro q hq
          obtain ⟨_, h2⟩ := HO.out
          rcases h2 with ⟨rfl, _⟩ | ⟨g, cap, cur, rfl, hbg, _⟩
          · simp [Value.ownBlock] at hq
          · simp [Value.ownBlock] at hq
            omega))
        have HON := Lib.hid (show w1.ownsRow w.heap.size 3 1 v' (k + 1) (digV (L ++ [(c + x + y) % 256])) from by
          unfold digV at *
          rw [List.map_append]
          exact hown')
        clear hown' hgrow HO HB
        go_wp2_with fail
        go_roundw
        case rel => exact ⟨_, k + 1, (c + x + y) / 256, by go_num, by go_num, HN, HON.out, HBN.out⟩
        case measure => simp [intOf]; omega
      · have hdB : decide ((k : Int) < (b.length : Int)) = false := decide_eq_false (by omega)
        have HN := HP.out.next hda hdb (Or.inl hA)
        generalize hxa : a.getD k 0 = x at *
        have hxb := getD_none b k hBb
        rw [hxb] at HN
        simp only [Nat.add_zero] at HN
        replace HN := Lib.hid HN
        have hand : bits .and .i64 ((c : Int) + (x : Int)) 255 = (((c + x) % 256 : Nat) : Int) := by
          have h := i64_and_nat (c + x) 255 (by omega) (by omega)
          rw [Nat.and_two_pow_sub_one_eq_mod _ 8] at h
          simpa using h
        go_wp2_with (at_builtin; refine wpList_append_own _ rfl _ _ 89 rfl w.heap.size 3 i0 (.int .i64 0) 1 8 underlying89d hi0 hi1 hi2 hi3 rfl (by decide) _ _ _ rfl (HO.out.alloc _) ⟨wr.heap.size, 0, none⟩ 1 1 [.int .i64 ((c + x) % 256 : Nat)] rfl rfl ?c1 ?c2 ?c3 ?c4 ?c5 ?_)
        case c1 =>
          intro j u hj
          match j, hj with
          | 0, hj => simp at hj; subst hj; simp [Addr.add]
        case c2 => intro u hu; simp at hu; subst hu; rfl
        case c3 => unfold maxLen; omega
        case c4 => omega
        case c5 => have := HB.out.size; simp; omega
        intro v' w1 hown' hgrow _
        have HBN := Lib.hid (show Below w.heap.size w w1 from ((HB.out).alloc HB.out.size _).grown hgrow (by have := HB.out.size; simp; omega) (by
          intro q hq
          obtain ⟨_, h2⟩ := HO.out
          rcases h2 with ⟨rfl, _⟩ | ⟨g, cap, cur, rfl, hbg, _⟩
          · simp [Value.ownBlock] at hq
          · simp [Value.ownBlock] at hq
            omega))
        have HON := Lib.hid (show w1.ownsRow w.heap.size 3 1 v' (k + 1) (digV (L ++ [(c + x) % 256])) from by
          unfold digV at *
          rw [List.map_append]
          exact hown')
        clear hown' hgrow HO HB
        go_wp2_with fail
        go_roundw
        case rel => exact ⟨_, k + 1, (c + x) / 256, by go_num, by go_num, HN, HON.out, HBN.out⟩
        case measure => simp [intOf]; omega
    · have hdA : decide ((k : Int) < (a.length : Int)) = false := decide_eq_false (by omega)
      by_cases hBb : k < b.length
      · have hdB : decide ((k : Int) < (b.length : Int)) = true := decide_eq_true (by omega)
        obtain ⟨gb, rfl, hgb, hclb⟩ := HCB.out k hBb
        have hclB : wr.cell? ⟨gb, k, none⟩ = some (.int .i64 (b.getD k 0 : Nat)) := by rw [← hclb]; exact HB.out.cell hgb
        clear hclb
        have HN := HP.out.next hda hdb (Or.inr (Or.inl hBb))
        have hxa := getD_none a k hA
        rw [hxa] at HN
        generalize hxb : b.getD k 0 = y at *
        simp only [Nat.add_zero] at HN
        replace HN := Lib.hid HN
        have hand : bits .and .i64 ((c : Int) + (y : Int)) 255 = (((c + y) % 256 : Nat) : Int) := by
          have h := i64_and_nat (c + y) 255 (by omega) (by omega)
          rw [Nat.and_two_pow_sub_one_eq_mod _ 8] at h
          simpa using h
        go_wp2_with (at_builtin; refine wpList_append_own _ rfl _ _ 89 rfl w.heap.size 3 i0 (.int .i64 0) 1 8 underlying89d hi0 hi1 hi2 hi3 rfl (by decide) _ _ _ rfl (HO.out.alloc _) ⟨wr.heap.size, 0, none⟩ 1 1 [.int .i64 ((c + y) % 256 : Nat)] rfl rfl ?c1 ?c2 ?c3 ?c4 ?c5 ?_)
        case c1 =>
          intro j u hj
          match j, hj with
          | 0, hj => simp at hj; subst hj; simp [Addr.add]
        case c2 => intro u hu; simp at hu; subst hu; rfl
        case c3 => unfold maxLen; omega
        case c4 => omega
        case c5 => have := HB.out.size; simp; omega
        intro v' w1 hown' hgrow _
        have HBN := Lib.hid (show Below w.heap.size w w1 from ((HB.out).alloc HB.out.size _).grown hgrow (by have := HB.out.size; simp; omega) (by
          intro q hq
          obtain ⟨_, h2⟩ := HO.out
          rcases h2 with ⟨rfl, _⟩ | ⟨g, cap, cur, rfl, hbg, _⟩
          · simp [Value.ownBlock] at hq
          · simp [Value.ownBlock] at hq
            omega))
        have HON := Lib.hid (show w1.ownsRow w.heap.size 3 1 v' (k + 1) (digV (L ++ [(c + y) % 256])) from by
          unfold digV at *
          rw [List.map_append]
          exact hown')
        clear hown' hgrow HO HB
        go_wp2_with fail
        go_roundw
        case rel => exact ⟨_, k + 1, (c + y) / 256, by go_num, by go_num, HN, HON.out, HBN.out⟩
        case measure => simp [intOf]; omega
      · have hdB : decide ((k : Int) < (b.length : Int)) = false := decide_eq_false (by omega)
        by_cases hc0 : 0 < c
        · have hd0 : decide ((0 : Int) < (c : Int)) = true := decide_eq_true (by omega)
          have hd1 : decide ((c : Int) > 0) = true := decide_eq_true (by omega)
          have HN := HP.out.next hda hdb (Or.inr (Or.inr hc0))
          have hxa := getD_none a k hA
          rw [hxa] at HN
          have hxb := getD_none b k hBb
          rw [hxb] at HN
          simp only [Nat.add_zero] at HN
          replace HN := Lib.hid HN
          have hand : bits .and .i64 ((c : Int)) 255 = (((c) % 256 : Nat) : Int) := by
            have h := i64_and_nat (c) 255 (by omega) (by omega)
            rw [Nat.and_two_pow_sub_one_eq_mod _ 8] at h
            simpa using h
          go_wp2_with (at_builtin; refine wpList_append_own _ rfl _ _ 89 rfl w.heap.size 3 i0 (.int .i64 0) 1 8 underlying89d hi0 hi1 hi2 hi3 rfl (by decide) _ _ _ rfl (HO.out.alloc _) ⟨wr.heap.size, 0, none⟩ 1 1 [.int .i64 ((c) % 256 : Nat)] rfl rfl ?c1 ?c2 ?c3 ?c4 ?c5 ?_)
          case c1 =>
            intro j u hj
            match j, hj with
            | 0, hj => simp at hj; subst hj; simp [Addr.add]
          case c2 => intro u hu; simp at hu; subst hu; rfl
          case c3 => unfold maxLen; omega
          case c4 => omega
          case c5 => have := HB.out.size; simp; omega
          intro v' w1 hown' hgrow _
          have HBN := Lib.hid (show Below w.heap.size w w1 from ((HB.out).alloc HB.out.size _).grown hgrow (by have := HB.out.size; simp; omega) (by
            intro q hq
            obtain ⟨_, h2⟩ := HO.out
            rcases h2 with ⟨rfl, _⟩ | ⟨g, cap, cur, rfl, hbg, _⟩
            · simp [Value.ownBlock] at hq
            · simp [Value.ownBlock] at hq
              omega))
          have HON := Lib.hid (show w1.ownsRow w.heap.size 3 1 v' (k + 1) (digV (L ++ [(c) % 256])) from by
            unfold digV at *
            rw [List.map_append]
            exact hown')
          clear hown' hgrow HO HB
          go_wp2_with fail
          go_roundw
          case rel => exact ⟨_, k + 1, (c) / 256, by go_num, by go_num, HN, HON.out, HBN.out⟩
          case measure => simp [intOf]; omega
        · have hd0 : decide ((0 : Int) < (c : Int)) = false := decide_eq_false (by omega)
          have hd1 : decide ((c : Int) > 0) = false := decide_eq_false (by omega)
          obtain rfl : c = 0 := by omega
          have HE := Lib.hid (show L.length = k ∧ valD L = valD a + valD b from by
            obtain ⟨h1, _, _, h4, _⟩ := HP.out
            rw [List.take_of_length_le (by omega), List.take_of_length_le (by omega)] at h4
            exact ⟨h1, by simpa using h4⟩)
          go_wp2_with fail
          go_ret
          exact ⟨_, L, rfl, by rw [HE.out.1]; exact HO.out, HP.out.2.2.1, HE.out.2, by rw [HE.out.1]; exact HP.out.2.2.2.2.2, HB.out⟩
end Go.Proofs.Ytnjmcppljbkhnaa

set_option linter.unusedVariables false
set_option linter.unusedSimpArgs false
namespace Go.Proofs.Ytnjmcppljbkhnaa
open Go.RowKit
theorem leB_congr' (f g : Nat → Nat) (n : Nat) (h : ∀ i, i < n → f i = g i) : leB f n = leB g n := by
  induction n with
  | zero => rfl
  | succ n ih => rw [leB, leB, ih (fun i hi => h i (by omega)), h n (by omega)]
theorem leB_upd (f : Nat → Nat) (n k d : Nat) (hk : k < n) : leB (upd f k d) n + f k * 256 ^ k = leB f n + d * 256 ^ k := by
  induction n with
  | zero => omega
  | succ n ih =>
    rw [leB, leB]
    by_cases h : k = n
    · subst h
      rw [leB_congr' (upd f k d) f k (fun i hi => by unfold upd; rw [if_neg (by omega)])]
      have : upd f k d k = d := by unfold upd; rw [if_pos rfl]
      rw [this]
      omega
    · have h1 := ih (by omega)
      have : upd f k d n = f n := by unfold upd; rw [if_neg (by omega)]
      rw [this]
      omega
theorem valD_lt (a : List Nat) (h : ∀ d ∈ a, d < 256) : valD a < 256 ^ a.length := by
  induction a with
  | nil => simp [valD]
  | cons d t ih =>
    have h1 := ih (fun x hx => h x (by simp [hx]))
    have h2 := h d (by simp)
    simp only [valD, List.length_cons, Nat.pow_succ]
    omega
/-- the cells f after k digits of row i, with the carry c. -/
def ProdAt (a b : List Nat) (f : Nat → Nat) (i k c : Nat) : Prop :=
  (∀ j, f j < 256) ∧ c < 256 ∧ leB f (a.length + b.length + 1) + 256 ^ (i + k) * c = valD (a.take i) * valD b + 256 ^ i * a.getD i 0 * valD (b.take k)
theorem upd_lt (f : Nat → Nat) (k d : Nat) (hf : ∀ j, f j < 256) (hd : d < 256) : ∀ j, upd f k d j < 256 := by
  intro j; unfold upd; split
  · exact hd
  · exact hf j
theorem ProdAt.next {a b : List Nat} {f : Nat → Nat} {i k c : Nat} (h : ProdAt a b f i k c) (ha : ∀ d ∈ a, d < 256) (hb : ∀ d ∈ b, d < 256) (hi : i < a.length) (hk : k < b.length) :
    ProdAt a b (upd f (i + k) ((f (i + k) + a.getD i 0 * b.getD k 0 + c) % 256)) i (k + 1) ((f (i + k) + a.getD i 0 * b.getD k 0 + c) / 256) := by
  obtain ⟨h1, h2, h3⟩ := h
  have xa := getD_lt a ha i
  have xb := getD_lt b hb k
  have xf := h1 (i + k)
  have hxy : a.getD i 0 * b.getD k 0 ≤ 255 * 255 := Nat.mul_le_mul (by omega) (by omega)
  have hu := leB_upd f (a.length + b.length + 1) (i + k) ((f (i + k) + a.getD i 0 * b.getD k 0 + c) % 256) (by omega)
  refine ⟨upd_lt f _ _ h1 (by omega), by omega, ?_⟩
  rw [valD_take b k, Nat.mul_add, show 256 ^ i * a.getD i 0 * (256 ^ k * b.getD k 0) = 256 ^ (i + k) * (a.getD i 0 * b.getD k 0) by rw [Nat.pow_add]; ac_rfl]
  rw [show i + (k + 1) = (i + k) + 1 by omega, Nat.pow_succ, Nat.mul_assoc]
  generalize a.getD i 0 * b.getD k 0 = xy at *
  generalize f (i + k) = z at *
  generalize 256 ^ (i + k) = P at *
  have e : P * ((z + xy + c) % 256) + P * (256 * ((z + xy + c) / 256)) = P * z + P * xy + P * c := by
    rw [← Nat.mul_add, Nat.mod_add_div, Nat.mul_add, Nat.mul_add]
  rw [Nat.mul_comm z P, Nat.mul_comm _ P] at hu
  omega
theorem ProdAt.start (a b : List Nat) : ProdAt a b (fun _ => 0) 0 0 0 := by
  refine ⟨fun _ => (by decide : (0 : Nat) < 256), by omega, ?_⟩
  have : ∀ n, leB (fun _ => 0) n = 0 := by
    intro n; induction n with
    | zero => rfl
    | succ n ih => rw [leB, ih]; simp
  rw [this]
  simp [valD]
/-- the cells while the last carry of row i goes on at k. -/
def CarryAt (a b : List Nat) (f : Nat → Nat) (i k c : Nat) : Prop :=
  (∀ j, f j < 256) ∧ c < 256 ∧ leB f (a.length + b.length + 1) + 256 ^ k * c = valD (a.take (i + 1)) * valD b ∧ (0 < c → k < i + 1 + b.length)
theorem carry_bound (a b : List Nat) (ha : ∀ d ∈ a, d < 256) (hb : ∀ d ∈ b, d < 256) (i k c x : Nat) (h : x + 256 ^ k * c = valD (a.take (i + 1)) * valD b) (hc : 0 < c) : k < i + 1 + b.length := by
  rcases Nat.lt_or_ge k (i + 1 + b.length) with h1 | h1
  · exact h1
  · exfalso
    have v1 := valD_lt (a.take (i + 1)) (fun d hd => ha d (List.mem_of_mem_take hd))
    have v2 := valD_lt b hb
    have v3 : (256 : Nat) ^ (a.take (i + 1)).length ≤ 256 ^ (i + 1) := Nat.pow_le_pow_right (by omega) (by rw [List.length_take]; omega)
    have v4 : valD (a.take (i + 1)) * valD b < 256 ^ (i + 1) * 256 ^ b.length := Nat.mul_lt_mul_of_lt_of_le (by omega) (by omega) (Nat.pow_pos (by omega))
    have v5 : (256 : Nat) ^ (i + 1 + b.length) ≤ 256 ^ k := Nat.pow_le_pow_right (by omega) h1
    rw [Nat.pow_add] at v5
    have v6 : 256 ^ k ≤ 256 ^ k * c := Nat.le_mul_of_pos_right _ hc
    omega
theorem ProdAt.carry {a b : List Nat} {f : Nat → Nat} {i c : Nat} (h : ProdAt a b f i b.length c) (ha : ∀ d ∈ a, d < 256) (hb : ∀ d ∈ b, d < 256) : CarryAt a b f i (i + b.length) c := by
  obtain ⟨h1, h2, h3⟩ := h
  rw [List.take_of_length_le (Nat.le_refl _), ← Nat.add_mul, ← valD_take] at h3
  exact ⟨h1, h2, h3, fun hc => carry_bound a b ha hb i _ c _ h3 hc⟩
theorem CarryAt.next {a b : List Nat} {f : Nat → Nat} {i k c : Nat} (h : CarryAt a b f i k c) (ha : ∀ d ∈ a, d < 256) (hb : ∀ d ∈ b, d < 256) (hi : i < a.length) (hc : 0 < c) :
    CarryAt a b (upd f k ((f k + c) % 256)) i (k + 1) ((f k + c) / 256) := by
  obtain ⟨h1, h2, h3, h4⟩ := h
  have hk := h4 hc
  have xf := h1 k
  have hu := leB_upd f (a.length + b.length + 1) k ((f k + c) % 256) (by omega)
  have h5 : leB (upd f k ((f k + c) % 256)) (a.length + b.length + 1) + 256 ^ (k + 1) * ((f k + c) / 256) = valD (a.take (i + 1)) * valD b := by
    rw [← h3, Nat.pow_succ, Nat.mul_assoc]
    generalize f k = z at *
    generalize 256 ^ k = P at *
    have e : P * ((z + c) % 256) + P * (256 * ((z + c) / 256)) = P * z + P * c := by
      rw [← Nat.mul_add, Nat.mod_add_div, Nat.mul_add]
    rw [Nat.mul_comm z P, Nat.mul_comm _ P] at hu
    omega
  exact ⟨upd_lt f _ _ h1 (by omega), by omega, h5, fun hc => carry_bound a b ha hb i _ _ _ h5 hc⟩
theorem CarryAt.done {a b : List Nat} {f : Nat → Nat} {i k : Nat} (h : CarryAt a b f i k 0) : ProdAt a b f (i + 1) 0 0 := by
  obtain ⟨h1, h2, h3, _⟩ := h
  refine ⟨h1, by omega, ?_⟩
  simp only [Nat.mul_zero, Nat.add_zero, List.take_zero, valD] at h3 ⊢
  exact h3
theorem ProdAt.done {a b : List Nat} {f : Nat → Nat} (h : ProdAt a b f a.length 0 0) : leB f (a.length + b.length + 1) = valD a * valD b := by
  obtain ⟨_, _, h3⟩ := h
  rw [List.take_of_length_le (Nat.le_refl _)] at h3
  simpa [valD] using h3
end Go.Proofs.Ytnjmcppljbkhnaa

set_option linter.unusedVariables false
set_option linter.unusedSimpArgs false
namespace Go.Proofs.Ytnjmcppljbkhnaa
open Go.RowKit
def madeI (w : World) (n : Nat) : World := w.alloc (.cells (madeCells (Value.int .i64 0).cells (n * 1)) 3)
theorem run_madeI (w : World) (n : Nat) (hn : n ≤ 1000000) : (Instr.makeSlice 89 (.int .i64 n) (.int .i64 n)).run Try.prog w = .ok (.slice (some ⟨w.heap.size, 0, none⟩) n n) (madeI w n) := by
  obtain ⟨i0, hi, hz0, hz1, hz2⟩ := info_parts info3d
  have h := run_make (P := Try.prog) w 89 3 i0 (.int .i64 0) underlying89d hi hz0 .i64 .i64 n n (by omega) (Int.le_refl _) (by rw [hz2]; omega) (by omega)
  rw [hz1] at h
  unfold madeI
  simpa using h
/-- cells of ints. -/
def IR (w : World) (g n : Nat) (f : Nat → Nat) : Prop := g < w.heap.size ∧ ∀ i, i < n → w.cell? ⟨g, i, none⟩ = some (.int .i64 (f i : Nat)) ∧ w.frozen? ⟨g, i, none⟩ = false
theorem IR.set {w : World} {g n : Nat} {f : Nat → Nat} (h : IR w g n f) (i v : Nat) (hi : i < n) : IR (w.setCell ⟨g, i, none⟩ (.int .i64 (v : Nat))) g n (upd f i v) := by
  refine ⟨by simpa [World.setCell] using h.1, fun j hj => ⟨?_, ?_⟩⟩
  · by_cases e : j = i
    · subst e
      rw [World.cell?_setCell_same' _ _ _ (by rw [(h.2 j hj).1]; rfl)]
      simp [upd]
    · rw [World.cell?_setCell_other _ _ _ _ (by intro hh; injection hh with _ h2 _; exact e h2.symm), (h.2 j hj).1]
      simp [upd, e]
  · rw [World.frozen?_setCell]; exact (h.2 j hj).2
theorem IR.below {w w' : World} {g n B : Nat} {f : Nat → Nat} (h : IR w g n f) (hb : Below B w w') (hg : g < B) : IR w' g n f :=
  ⟨Nat.lt_of_lt_of_le h.1 hb.size, fun i hi => ⟨(hb.cell (p := ⟨g, i, none⟩) hg).trans (h.2 i hi).1, (hb.frozen (p := ⟨g, i, none⟩) hg).trans (h.2 i hi).2⟩⟩
theorem IR.drew {w : World} {g n : Nat} {f : Nat → Nat} (h : IR w g n f) : IR w.drew g n f := ⟨h.1, fun i hi => h.2 i hi⟩
theorem madeI_below (w : World) (n : Nat) : Below w.heap.size w (madeI w n) := (Below.refl _ _).alloc (Nat.le_refl _) _
theorem madeI_size (w : World) (n : Nat) : (madeI w n).heap.size = w.heap.size + 1 := by simp [madeI]
theorem madeI_row (w : World) (n : Nat) : IR (madeI w n) w.heap.size n (fun _ => 0) := by
  refine ⟨by rw [madeI_size]; omega, fun i hi => ?_⟩
  have hb : Blk (madeI w n) w.heap.size 3 (madeCells (Value.int .i64 0).cells (n * 1)) := Blk.new w 3 _
  refine ⟨?_, hb.frozen i⟩
  rw [hb.cell i]
  simp [madeCells, Value.cells, hi, Nat.mod_one]
end Go.Proofs.Ytnjmcppljbkhnaa
