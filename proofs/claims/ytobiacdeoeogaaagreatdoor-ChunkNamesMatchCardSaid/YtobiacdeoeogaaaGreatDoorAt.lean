import Derived.Lib.ItoaNum
import Derived.Lib.Atoi
import Derived.Test.YtobiacdeoeogaaaGreatDoorAs
set_option linter.unusedVariables false
set_option linter.unusedSimpArgs false
namespace Go.Proofs.YtobiacdeoeogaaaGreatDoor
/-- a decimal digit. -/
def isDig (b : UInt8) : Bool := decide (48 ≤ b.toNat) && decide (b.toNat ≤ 57)
/-- the value of digits. -/
def decV : Nat → List UInt8 → Nat
  | v, [] => v
  | v, b :: r => decV (10 * v + (b.toNat - 48)) r
/-- a number with zeros ahead: six digits. -/
def pad6 (n : Nat) : List UInt8 := List.replicate (6 - (Lib.decDigits n).length) 48 ++ Lib.decDigits n
/-- the six digits. -/
def six (n : Nat) : List UInt8 := [UInt8.ofNat (48 + n / 100000), UInt8.ofNat (48 + n / 10000 % 10), UInt8.ofNat (48 + n / 1000 % 10), UInt8.ofNat (48 + n / 100 % 10), UInt8.ofNat (48 + n / 10 % 10), UInt8.ofNat (48 + n % 10)]
theorem dd_ge {n : Nat} (h : ¬ n < 10) : Lib.decDigits n = Lib.decDigits (n / 10) ++ [UInt8.ofNat (48 + n % 10)] := by rw [Lib.decDigits, dif_neg h]
theorem pad6_eq (n : Nat) (h : n ≤ 999999) : pad6 n = six n := by
  unfold pad6 six
  have z : ∀ k : Nat, k = 0 → (48 : UInt8) = UInt8.ofNat (48 + k) := by rintro k rfl; rfl
  have q : ∀ a b : Nat, a = b → UInt8.ofNat (48 + a) = UInt8.ofNat (48 + b) := by rintro a b rfl; rfl
  by_cases h1 : n < 10
  · rw [Lib.decDigits_one h1]
    simp only [List.length_cons, List.length_nil, List.replicate, List.cons_append, List.nil_append]
    rw [← z (n / 100000) (by omega), ← z (n / 10000 % 10) (by omega), ← z (n / 1000 % 10) (by omega), ← z (n / 100 % 10) (by omega), ← z (n / 10 % 10) (by omega), q n (n % 10) (by omega)]
  rw [dd_ge h1]
  by_cases h2 : n / 10 < 10
  · rw [Lib.decDigits_one h2]
    simp only [List.length_cons, List.length_nil, List.length_append, List.replicate, List.cons_append, List.nil_append]
    rw [← z (n / 100000) (by omega), ← z (n / 10000 % 10) (by omega), ← z (n / 1000 % 10) (by omega), ← z (n / 100 % 10) (by omega), q (n / 10) (n / 10 % 10) (by omega)]
  rw [dd_ge h2]
  by_cases h3 : n / 10 / 10 < 10
  · rw [Lib.decDigits_one h3]
    simp only [List.length_cons, List.length_nil, List.length_append, List.replicate, List.cons_append, List.nil_append]
    rw [← z (n / 100000) (by omega), ← z (n / 10000 % 10) (by omega), ← z (n / 1000 % 10) (by omega), q (n / 10 / 10) (n / 100 % 10) (by omega)]
  rw [dd_ge h3]
  by_cases h4 : n / 10 / 10 / 10 < 10
  · rw [Lib.decDigits_one h4]
    simp only [List.length_cons, List.length_nil, List.length_append, List.replicate, List.cons_append, List.nil_append]
    rw [← z (n / 100000) (by omega), ← z (n / 10000 % 10) (by omega), q (n / 10 / 10 / 10) (n / 1000 % 10) (by omega), q (n / 10 / 10 % 10) (n / 100 % 10) (by omega)]
  rw [dd_ge h4]
  by_cases h5 : n / 10 / 10 / 10 / 10 < 10
  · rw [Lib.decDigits_one h5]
    simp only [List.length_cons, List.length_nil, List.length_append, List.replicate, List.cons_append, List.nil_append]
    rw [← z (n / 100000) (by omega), q (n / 10 / 10 / 10 / 10) (n / 10000 % 10) (by omega), q (n / 10 / 10 / 10 % 10) (n / 1000 % 10) (by omega), q (n / 10 / 10 % 10) (n / 100 % 10) (by omega)]
  rw [dd_ge h5, Lib.decDigits_one (show n / 10 / 10 / 10 / 10 / 10 < 10 by omega)]
  simp only [List.length_cons, List.length_nil, List.length_append, List.replicate, List.cons_append, List.nil_append]
  rw [q (n / 10 / 10 / 10 / 10 / 10) (n / 100000) (by omega), q (n / 10 / 10 / 10 / 10 % 10) (n / 10000 % 10) (by omega), q (n / 10 / 10 / 10 % 10) (n / 1000 % 10) (by omega), q (n / 10 / 10 % 10) (n / 100 % 10) (by omega)]
  rfl
theorem toNat_dig (k : Nat) (h : k < 10) : (UInt8.ofNat (48 + k)).toNat = 48 + k := by
  rw [UInt8.toNat_ofNat']; omega
theorem isDig_ofNat (k : Nat) (hk : k < 10) : isDig (UInt8.ofNat (48 + k)) = true := by
  unfold isDig; rw [toNat_dig k hk]; simp; omega
theorem six_dig (n : Nat) (h : n ≤ 999999) : (six n).all isDig = true := by
  unfold six
  simp only [List.all_cons, List.all_nil]
  rw [isDig_ofNat (n / 100000) (by omega), isDig_ofNat (n / 10000 % 10) (by omega), isDig_ofNat (n / 1000 % 10) (by omega), isDig_ofNat (n / 100 % 10) (by omega), isDig_ofNat (n / 10 % 10) (by omega), isDig_ofNat (n % 10) (by omega)]
  rfl
theorem isDig_iff {b : UInt8} : isDig b = true ↔ 48 ≤ b.toNat ∧ b.toNat ≤ 57 := by
  unfold isDig
  rw [Bool.and_eq_true, decide_eq_true_iff, decide_eq_true_iff]
theorem dig_of {b : UInt8} (h : isDig b = true) : ∃ k, k < 10 ∧ b = UInt8.ofNat (48 + k) ∧ b.toNat - 48 = k := by
  have h := isDig_iff.1 h
  exact ⟨b.toNat - 48, by omega, by rw [show 48 + (b.toNat - 48) = b.toNat by omega]; simp, rfl⟩
theorem dec6 (ka kb kc kd ke kf : Nat) (h : ka < 10 ∧ kb < 10 ∧ kc < 10 ∧ kd < 10 ∧ ke < 10 ∧ kf < 10) (v : Nat) (hv : 10 * (10 * (10 * (10 * (10 * (10 * 0 + ka) + kb) + kc) + kd) + ke) + kf = v) :
    v / 100000 = ka ∧ v / 10000 % 10 = kb ∧ v / 1000 % 10 = kc ∧ v / 100 % 10 = kd ∧ v / 10 % 10 = ke ∧ v % 10 = kf ∧ v ≤ 999999 := by omega
theorem six_val {a b c d e f : UInt8} (h : [a, b, c, d, e, f].all isDig = true) : six (decV 0 [a, b, c, d, e, f]) = [a, b, c, d, e, f] ∧ decV 0 [a, b, c, d, e, f] ≤ 999999 := by
  simp only [List.all_cons, List.all_nil, Bool.and_eq_true] at h
  obtain ⟨ha, hb, hc, hd, he, hf, _⟩ := h
  obtain ⟨ka, ha1, ra, ea⟩ := dig_of ha
  obtain ⟨kb, hb1, rb, eb⟩ := dig_of hb
  obtain ⟨kc, hc1, rc, ec⟩ := dig_of hc
  obtain ⟨kd, hd1, rd, ed⟩ := dig_of hd
  obtain ⟨ke, he1, re, ee⟩ := dig_of he
  obtain ⟨kf, hf1, rf, ef⟩ := dig_of hf
  have hv : 10 * (10 * (10 * (10 * (10 * (10 * 0 + ka) + kb) + kc) + kd) + ke) + kf = decV 0 [a, b, c, d, e, f] := by rw [← ea, ← eb, ← ec, ← ed, ← ee, ← ef]; rfl
  clear ea eb ec ed ee ef ha hb hc hd he hf
  generalize decV 0 [a, b, c, d, e, f] = v at *
  obtain ⟨h1, h2, h3, h4, h5, h6, h7⟩ := dec6 ka kb kc kd ke kf ⟨ha1, hb1, hc1, hd1, he1, hf1⟩ v hv
  refine ⟨?_, h7⟩
  unfold six
  rw [h1, h2, h3, h4, h5, h6, ← ra, ← rb, ← rc, ← rd, ← re, ← rf]
theorem digitVal_some {b : UInt8} (h : isDig b = true) : Lib.digitVal b = some (b.toNat - 48) := by
  unfold Lib.digitVal; rw [if_pos (isDig_iff.1 h)]
theorem decFrom_cons (b : UInt8) (r : List UInt8) (v : Nat) (h : isDig b = true) : Lib.decFrom v (b :: r) = Lib.decFrom (10 * v + (b.toNat - 48)) r := by
  rw [Lib.decFrom, digitVal_some h, Nat.mul_comm]
theorem decFrom_V (l : List UInt8) : ∀ (v : Nat), l.all isDig = true → Lib.decFrom v l = some (decV v l) := by
  induction l with
  | nil => intro v _; rfl
  | cons b r ih =>
    intro v h
    rw [List.all_cons, Bool.and_eq_true] at h
    rw [decFrom_cons b r v h.1, ih _ h.2]
    rfl
theorem atoi_dig {l : List UInt8} (h : l.all isDig = true) (hn : l ≠ []) : Lib.atoi l = some (decV 0 l : Int) := by
  cases l with
  | nil => exact absurd rfl hn
  | cons b r =>
    have hb : isDig b = true := by rw [List.all_cons, Bool.and_eq_true] at h; exact h.1
    have h1 : (b == 45) = false := by
      apply beq_eq_false_iff_ne.2; rintro rfl; exact absurd hb (by decide)
    have h2 : (b == 43) = false := by
      apply beq_eq_false_iff_ne.2; rintro rfl; exact absurd hb (by decide)
    have hd := decFrom_V (b :: r) 0 h
    have he : Lib.decNat (b :: r) = some (decV 0 (b :: r)) := hd
    rw [Lib.atoi, h1, h2, he]
    rfl
/-- the bytes of a chunk's name. -/
def chunkL (name digest : List UInt8) (n : Nat) : List UInt8 := name ++ [46, 119, 99, 46] ++ digest ++ [46] ++ six n
/-- what ReadChunkName makes of a text, nm and dg being what names and digests are. -/
def rdP (nm dg : List UInt8 → Bool) (t : List UInt8) : Option (List UInt8 × List UInt8 × Nat) :=
  if t.length < 28 then none else
    let n := t.length - 27
    match Lib.atoi (t.drop (n + 21)) with
    | none => none
    | some v => if v < 0 then none else
      if nm (t.take n) = true ∧ dg ((t.drop (n + 4)).take 16) = true ∧ v ≤ 999999 ∧ t.length ≤ 255 ∧ chunkL (t.take n) ((t.drop (n + 4)).take 16) v.toNat = t then some (t.take n, (t.drop (n + 4)).take 16, v.toNat) else none
/-- what the document says of it. -/
def rdR (nm dg : List UInt8 → Bool) (t : List UInt8) : Option (List UInt8 × List UInt8 × Nat) :=
  if t.length < 28 then none else
    let n := t.length - 27
    if (t.drop n).take 4 ≠ [46, 119, 99, 46] ∨ (t.drop (n + 20)).take 1 ≠ [46] then none else
    if (t.drop (n + 21)).all isDig = false then none else
    if nm (t.take n) = true ∧ dg ((t.drop (n + 4)).take 16) = true ∧ t.length ≤ 255 then some (t.take n, (t.drop (n + 4)).take 16, decV 0 (t.drop (n + 21))) else none
theorem parts_of (t : List UInt8) (h : 28 ≤ t.length) : ∃ a m d p e, t = a ++ (m ++ (d ++ (p ++ e))) ∧ a.length = t.length - 27 ∧ m.length = 4 ∧ d.length = 16 ∧ p.length = 1 ∧ e.length = 6 ∧
    t.take (t.length - 27) = a ∧ (t.drop (t.length - 27)).take 4 = m ∧ (t.drop (t.length - 27 + 4)).take 16 = d ∧ (t.drop (t.length - 27 + 20)).take 1 = p ∧ t.drop (t.length - 27 + 21) = e := by
  refine ⟨_, _, _, _, _, ?_, ?_, ?_, ?_, ?_, ?_, rfl, rfl, rfl, rfl, rfl⟩
  · generalize t.length - 27 = n
    rw [show t.drop (n + 21) = (t.drop (n + 20)).drop 1 by rw [List.drop_drop], List.take_append_drop,
      show t.drop (n + 20) = (t.drop (n + 4)).drop 16 by rw [List.drop_drop], List.take_append_drop,
      show t.drop (n + 4) = (t.drop n).drop 4 by rw [List.drop_drop], List.take_append_drop, List.take_append_drop]
  · simp
  · simp; omega
  · simp; omega
  · simp; omega
  · simp; omega
theorem app_inj {α : Type} {a b c d : List α} (h : a ++ b = c ++ d) (hl : a.length = c.length) : a = c ∧ b = d := List.append_inj h hl
theorem rd_eq (nm dg : List UInt8 → Bool) (t : List UInt8) : rdP nm dg t = rdR nm dg t := by
  unfold rdP rdR
  by_cases hl : t.length < 28
  · rw [if_pos hl, if_pos hl]
  rw [if_neg hl, if_neg hl]
  obtain ⟨a, m, d, p, e, ht, la, lm, ld, lp, le, ea, em, ed, ep, ee⟩ := parts_of t (by omega)
  simp only [ea, em, ed, ep, ee]
  have hch : ∀ n, chunkL a d n = t ↔ m = [46, 119, 99, 46] ∧ p = [46] ∧ six n = e := by
    intro n
    unfold chunkL
    rw [ht]
    constructor
    · intro h
      simp only [List.append_assoc] at h
      have h1 := List.append_cancel_left h
      obtain ⟨h2, h3⟩ := app_inj h1 (by simp [lm])
      have h4 := List.append_cancel_left h3
      obtain ⟨h5, h6⟩ := app_inj h4 (by simp [lp])
      exact ⟨h2.symm, h5.symm, h6⟩
    · rintro ⟨rfl, rfl, rfl⟩
      simp only [List.append_assoc]
  by_cases hd : e.all isDig = true
  · have hne : e ≠ [] := by rintro rfl; simp at le
    rw [atoi_dig hd hne]
    obtain ⟨x0, x1, x2, x3, x4, x5, rfl⟩ : ∃ x0 x1 x2 x3 x4 x5, e = [x0, x1, x2, x3, x4, x5] := by
      match e, le with
      | [x0, x1, x2, x3, x4, x5], _ => exact ⟨_, _, _, _, _, _, rfl⟩
    obtain ⟨hs, hv⟩ := six_val hd
    have hneg : ¬ ((decV 0 [x0, x1, x2, x3, x4, x5] : Nat) : Int) < 0 := by omega
    have hfd : ¬ ([x0, x1, x2, x3, x4, x5].all isDig = false) := by rw [hd]; simp
    simp only [if_neg hneg, Int.toNat_natCast, hch, hs, if_neg hfd]
    by_cases hm : m = [46, 119, 99, 46] ∧ p = [46]
    · obtain ⟨rfl, rfl⟩ := hm
      have hv' : ((decV 0 [x0, x1, x2, x3, x4, x5] : Nat) : Int) ≤ 999999 := by omega
      simp [hv']
    · have hm' : m ≠ [46, 119, 99, 46] ∨ p ≠ [46] := by
        by_cases h1 : m = [46, 119, 99, 46]
        · exact Or.inr (fun h2 => hm ⟨h1, h2⟩)
        · exact Or.inl h1
      rw [if_pos hm', if_neg]
      rintro ⟨_, _, _, _, h1, h2, _⟩
      exact hm ⟨h1, h2⟩
  · have hd' : e.all isDig = false := by simpa using hd
    rw [hd']
    simp only [if_true]
    have hR : (if m ≠ [46, 119, 99, 46] ∨ p ≠ [46] then (none : Option (List UInt8 × List UInt8 × Nat)) else none) = none := by split <;> rfl
    rw [hR]
    cases hat : Lib.atoi e with
    | none => rfl
    | some v =>
      simp only []
      by_cases hv : v < 0
      · rw [if_pos hv]
      · rw [if_neg hv, if_neg]
        rintro ⟨_, _, h6, _, hc⟩
        obtain ⟨_, _, h3⟩ := (hch _).1 hc
        have := six_dig v.toNat (by omega)
        rw [h3, hd'] at this
        cases this
end Go.Proofs.YtobiacdeoeogaaaGreatDoor

set_option linter.unusedVariables false
set_option linter.unusedSimpArgs false
namespace Go.Proofs.YtobiacdeoeogaaaGreatDoor
open Go.RowKit
theorem ex_list (t : ByteArray) (a b : Nat) : (t.extract a b).data.toList = (t.data.toList.drop a).take (b - a) := by
  rw [ByteArray.data_extract, Array.toList_extract]
theorem bytes_eq {a b : ByteArray} (h : a.data.toList = b.data.toList) : a = b := by
  cases a; cases b; simp at h; rw [h]
theorem mk_list (t : ByteArray) : (⟨t.data.toList.toArray⟩ : ByteArray) = t := by cases t; simp
/-- what R's reading of a text gives. -/
def RdPost (t x y : ByteArray) (k : Int) (is : Bool) : Prop :=
  match rdR nmL dgL t.data.toList with
  | none => is = false
  | some (a, b, n) => is = true ∧ x = ⟨a.toArray⟩ ∧ y = ⟨b.toArray⟩ ∧ k = (n : Int)
theorem rd_short {t : ByteArray} (h : t.size < 28) (x y : ByteArray) (k : Int) : RdPost t x y k false := by
  unfold RdPost rdR
  rw [if_pos (by rw [← Lib.size_eq]; exact h)]
/-- how ReadChunk ends. -/
def RcOut (t : ByteArray) (w : World) (e : Ending) (w' : World) : Prop := ∃ x y k is, e = .returned (.tuple #[.string x, .string y, .int .i64 k, .bool is]) ∧ RdPost t x y k is ∧ Below w.heap.size w w'
theorem results_tmp4 {fn : Func} {t u v x : Tmp} (h : fn.results = #[.tmp t, .tmp u, .tmp v, .tmp x]) (tmps : Array Value) (P : Program) (w : World) :
    (results fn tmps).run P w = .ok (.tuple #[tmps.getD t undef, tmps.getD u undef, tmps.getD v undef, tmps.getD x undef]) w := by
  simp [results, h]
theorem rd_mid {t : ByteArray} {n : Nat} (hn : t.size = n + 27) (h : ((t.extract n (n + 4)).toList == [46, 119, 99, 46]) = false) (x y : ByteArray) (k : Int) : RdPost t x y k false := by
  have hl : t.data.toList.length = n + 27 := by rw [← Lib.size_eq]; exact hn
  unfold RdPost rdR
  rw [hl]
  by_cases h28 : n + 27 < 28
  · rw [if_pos h28]
  rw [if_neg h28]
  simp only [show n + 27 - 27 = n by omega]
  have hc : (t.data.toList.drop n).take 4 ≠ [46, 119, 99, 46] ∨ (t.data.toList.drop (n + 20)).take 1 ≠ [46] := Or.inl (fun e => by
    have h1 : (t.extract n (n + 4)).toList = [46, 119, 99, 46] := by rw [Lib.toList_data, ex_list, show n + 4 - n = 4 by omega]; exact e
    rw [h1] at h
    exact absurd h (by decide))
  rw [if_pos hc]
  trivial
theorem drop_one {l : List UInt8} {i : Nat} {b : UInt8} (h : l[i]? = some b) : (l.drop i).take 1 = [b] := by
  obtain ⟨hi, he⟩ := List.getElem?_eq_some_iff.1 h
  rw [List.drop_eq_getElem_cons hi, he]
  rfl
theorem rd_dot {t : ByteArray} {n : Nat} {b : UInt8} (hn : t.size = n + 27) (hb : t.data.toList[n + 20]? = some b) (h : b ≠ 46) (x y : ByteArray) (k : Int) : RdPost t x y k false := by
  have hl : t.data.toList.length = n + 27 := by rw [← Lib.size_eq]; exact hn
  unfold RdPost rdR
  rw [hl]
  by_cases h28 : n + 27 < 28
  · rw [if_pos h28]
  rw [if_neg h28]
  simp only [show n + 27 - 27 = n by omega]
  have hc : (t.data.toList.drop n).take 4 ≠ [46, 119, 99, 46] ∨ (t.data.toList.drop (n + 20)).take 1 ≠ [46] := Or.inr (fun e => by
    rw [drop_one hb] at e
    exact h (by simpa using e))
  rw [if_pos hc]
  trivial
theorem rd_digit {t : ByteArray} {n : Nat} (hn : t.size = n + 27) (h : (t.data.toList.drop (n + 21)).all isDig = false) (x y : ByteArray) (k : Int) : RdPost t x y k false := by
  have hl : t.data.toList.length = n + 27 := by rw [← Lib.size_eq]; exact hn
  unfold RdPost rdR
  rw [hl]
  by_cases h28 : n + 27 < 28
  · rw [if_pos h28]
  rw [if_neg h28]
  simp only [show n + 27 - 27 = n by omega]
  rw [if_pos h, ite_self]
  trivial
theorem rd_end {t : ByteArray} {n : Nat} (hn : t.size = n + 27) (hn1 : 1 ≤ n) (hm : ((t.extract n (n + 4)).toList == [46, 119, 99, 46]) = true) (hb : t.data.toList[n + 20]? = some 46) (hd : (t.data.toList.drop (n + 21)).all isDig = true) (is : Bool)
    (his : is = (nameB (t.extract 0 n) && (digB (t.extract (n + 4) (n + 20)) && decide (t.size ≤ 255)))) : RdPost t (t.extract 0 n) (t.extract (n + 4) (n + 20)) ((decV 0 (t.data.toList.drop (n + 21)) : Nat) : Int) is := by
  have hl : t.data.toList.length = n + 27 := by rw [← Lib.size_eq]; exact hn
  have hm' : (t.data.toList.drop n).take 4 = [46, 119, 99, 46] := by
    have := beq_iff_eq.1 hm
    rw [Lib.toList_data, ex_list, show n + 4 - n = 4 by omega] at this
    exact this
  have e1 : (⟨(t.data.toList.take n).toArray⟩ : ByteArray) = t.extract 0 n := bytes_eq (by rw [ex_list]; simp)
  have e2 : (⟨((t.data.toList.drop (n + 4)).take 16).toArray⟩ : ByteArray) = t.extract (n + 4) (n + 20) := bytes_eq (by rw [ex_list, show n + 20 - (n + 4) = 16 by omega])
  unfold RdPost rdR
  rw [hl, if_neg (by omega)]
  simp only [show n + 27 - 27 = n by omega]
  rw [hm', drop_one hb, if_neg (by simp), hd, if_neg (by simp)]
  unfold nmL dgL
  rw [e1, e2]
  cases h1 : nameB (t.extract 0 n) <;> cases h2 : digB (t.extract (n + 4) (n + 20)) <;> by_cases h3 : n + 27 ≤ 255 <;> simp [his, h1, h2, h3, hn, e1, e2]
theorem decV_lt (l : List UInt8) : ∀ v, l.all isDig = true → decV v l < (v + 1) * 10 ^ l.length := by
  induction l with
  | nil => intro v _; rw [List.length_nil, Nat.pow_zero]; show v < (v + 1) * 1; omega
  | cons b r ih =>
    intro v h
    rw [List.all_cons, Bool.and_eq_true] at h
    have h1 := ih (10 * v + (b.toNat - 48)) h.2
    have h2 := isDig_iff.1 h.1
    show decV (10 * v + (b.toNat - 48)) r < (v + 1) * 10 ^ (r.length + 1)
    have h3 : 10 * v + (b.toNat - 48) + 1 ≤ (v + 1) * 10 := by omega
    have h4 := Nat.mul_le_mul_right (10 ^ r.length) h3
    rw [Nat.pow_succ, Nat.mul_comm (10 ^ r.length) 10, ← Nat.mul_assoc]
    omega
theorem decV_small {l : List UInt8} (h : l.all isDig = true) (hl : l.length ≤ 6) : decV 0 l ≤ 999999 := by
  have h1 := decV_lt l 0 h
  have h2 : 10 ^ l.length ≤ 10 ^ 6 := Nat.pow_le_pow_right (by omega) hl
  have h3 : (10 : Nat) ^ 6 = 1000000 := rfl
  omega
theorem decV_snoc (l : List UInt8) (b : UInt8) : ∀ v, decV v (l ++ [b]) = 10 * decV v l + (b.toNat - 48) := by
  induction l with
  | nil => intro v; rfl
  | cons a r ih => intro v; exact ih _
set_option maxRecDepth 100000 in
set_option maxHeartbeats 4000000 in
theorem readChunk_ok (t : ByteArray) (w : World) (ht : t.size ≤ 9000000000000000000) : Calls Tryz.prog 20 #[.string t] w (RcOut t w) := by
  by_cases hs : t.size < 28
  · have hd : decide ((t.size : Int) - 27 < 1) = true := decide_eq_true (by omega)
    have hd' : (t.size : Int) - 27 < 1 := by omega
    go_enter Tryz.func20, Tryz.ntmps20
    go_wp2_with fail
    (try simp only [Exit.inBlock, Exit.then])
    refine bodyPost_ret (results_tmp4 rfl _ _ _) rfl ?_
    exact ⟨_, _, _, _, rfl, rd_short hs _ _ _, Below.refl _ _⟩
  obtain ⟨n, hn⟩ : ∃ n, t.size = n + 27 := ⟨t.size - 27, by omega⟩
  have hn1 : 1 ≤ n := by omega
  have hz : (t.size : Int) - 27 = (n : Int) := by omega
  have hd : decide ((n : Int) < 1) = false := decide_eq_false (by omega)
  have hd' : ¬ (n : Int) < 1 := by omega
  have HN := Lib.hid hn
  have hle : n + 27 = t.size := hn.symm
  have hll : t.data.toList.length = n + 27 := by rw [← Lib.size_eq]; exact hn
  have HL := Lib.hid hll
  have HIX := Lib.hid (fun (k : Nat) (b : UInt8) (h : t.data.toList[k]? = some b) => index_at t k b h w)
  obtain ⟨b, hb⟩ : ∃ b, t.data.toList[n + 20]? = some b := ⟨_, List.getElem?_eq_getElem (by omega)⟩
  have hix := HIX.out (n + 20) b hb
  rw [show ((n + 20 : Nat) : Int) = (n : Int) + 20 by omega] at hix
  have HBB := Lib.hid hb
  clear hn hb hll
  cases hm : ((t.extract n (n + 4)).toList == [46, 119, 99, 46])
  · go_enter Tryz.func20, Tryz.ntmps20
    go_wp2_with fail
    (try simp only [Exit.inBlock, Exit.then])
    refine bodyPost_ret (results_tmp4 rfl _ _ _) rfl ?_
    exact ⟨_, _, _, _, rfl, rd_mid HN.out hm _ _ _, Below.refl _ _⟩
  cases hc : ((b.toNat : Int) == 46)
  · have hne : b ≠ 46 := by rintro rfl; simp at hc
    have HNE := Lib.hid hne
    clear hne
    go_enter Tryz.func20, Tryz.ntmps20
    go_wp2_with fail
    (try simp only [Exit.inBlock, Exit.then])
    refine bodyPost_ret (results_tmp4 rfl _ _ _) rfl ?_
    exact ⟨_, _, _, _, rfl, rd_dot HN.out HBB.out HNE.out _ _ _, Below.refl _ _⟩
  have HB46 := Lib.hid (show t.data.toList[n + 20]? = some 46 by rw [HBB.out]; congr 1; exact UInt8.toNat_inj.1 (by have := beq_iff_eq.1 hc; simp; omega))
  have HM := Lib.hid hm
  go_enter Tryz.func20, Tryz.ntmps20
  go_wp2_with fail
  clear hm hc hix
  go_loopw [7, 8] (fun v x wr => ∃ i j : Nat, x = .int .i64 (i : Int) ∧ i = n + 21 + j ∧ j ≤ 6 ∧ v = .int .i64 ((decV 0 ((t.data.toList.drop (n + 21)).take j) : Nat) : Int) ∧ ((t.data.toList.drop (n + 21)).take j).all isDig = true ∧ wr = w) (fun v x _ => t.size - (intOf x).toNat)
  case atStart => exact ⟨n + 21, 0, by go_num, rfl, by omega, by rw [List.take_zero]; rfl, by rw [List.take_zero]; rfl, rfl⟩
  case round =>
    obtain ⟨i, j, rfl, hij, hj, rfl, hall, rfl⟩ := hrel
    have HA := Lib.hid hall
    have hv := decV_small hall (by rw [List.length_take]; omega)
    obtain ⟨v, hV⟩ : ∃ v, decV 0 ((t.data.toList.drop (n + 21)).take j) = v := ⟨_, rfl⟩
    rw [hV] at hv ⊢
    have HV := Lib.hid hV
    clear hall hV
    have hll := HL.out
    by_cases hlt : j < 6
    · have hd1 : decide ((i : Int) < (t.size : Int)) = true := decide_eq_true (by omega)
      have hd2 : i < t.size := by omega
      obtain ⟨x, hx⟩ : ∃ x, t.data.toList[i]? = some x := ⟨_, List.getElem?_eq_getElem (by omega)⟩
      have hxd : (t.data.toList.drop (n + 21))[j]? = some x := by rw [List.getElem?_drop, ← hij]; exact hx
      have hix := HIX.out i x hx
      have HX := Lib.hid hxd
      have HIJ := Lib.hid hij
      clear hx hxd hll hij
      cases h1 : decide ((x.toNat : Int) < 48)
      · cases h2 : decide ((57 : Int) < (x.toNat : Int))
        · have hdg : isDig x = true := isDig_iff.2 ⟨by have := of_decide_eq_false h1; omega, by have := of_decide_eq_false h2; omega⟩
          have hx48 : ((x.toNat : Int) - 48) = ((x.toNat - 48 : Nat) : Int) := by have := isDig_iff.1 hdg; omega
          have hx256 : ((x.toNat - 48 : Nat) : Int) % 256 = ((x.toNat - 48 : Nat) : Int) := by have := isDig_iff.1 hdg; omega
          have HDG := Lib.hid hdg
          have h9 : x.toNat - 48 ≤ 9 := by have := isDig_iff.1 hdg; omega
          clear hdg
          generalize hy : x.toNat - 48 = y at *
          have HY := Lib.hid hy
          clear hy
          go_wp2_with fail
          go_roundw
          case rel =>
            refine ⟨i + 1, j + 1, by go_num, by have := HIJ.out; omega, by omega, ?_, all_snoc HX.out HA.out HDG.out, by first | trivial | rfl⟩
            rw [tk_snoc HX.out, decV_snoc, HV.out, HY.out]
            go_num
          case measure => simp [intOf]; omega
        · have hnd : isDig x = false := by
            cases e : isDig x
            · rfl
            · have := isDig_iff.1 e; have := of_decide_eq_true h2; omega
          have HND := Lib.hid hnd
          clear hnd
          go_wp2_with fail
          (try simp only [Exit.inBlock, Exit.then])
          refine bodyPost_ret (results_tmp4 rfl _ _ _) rfl ?_
          exact ⟨_, _, _, _, rfl, rd_digit HN.out (all_not HX.out HND.out) _ _ _, Below.refl _ _⟩
      · have hnd : isDig x = false := by
          cases e : isDig x
          · rfl
          · have := isDig_iff.1 e; have := of_decide_eq_true h1; omega
        have HND := Lib.hid hnd
        clear hnd
        go_wp2_with fail
        (try simp only [Exit.inBlock, Exit.then])
        refine bodyPost_ret (results_tmp4 rfl _ _ _) rfl ?_
        exact ⟨_, _, _, _, rfl, rd_digit HN.out (all_not HX.out HND.out) _ _ _, Below.refl _ _⟩
    · have hd1 : decide ((i : Int) < (t.size : Int)) = false := decide_eq_false (by omega)
      have hd2 : ¬ i < t.size := by omega
      have HALL := Lib.hid (show (t.data.toList.drop (n + 21)).all isDig = true by have := HA.out; rwa [List.take_of_length_le (by simp; omega)] at this)
      have HVV := Lib.hid (show decV 0 (t.data.toList.drop (n + 21)) = v by have := HV.out; rwa [List.take_of_length_le (by simp; omega)] at this)
      clear hll
      have hsz : n ≤ t.size := by omega
      have hsz2 : n + 20 ≤ t.size := by omega
      have hex : (t.extract 0 n).size = n := by simp; omega
      have hex2 : (t.extract (n + 4) (n + 20)).size = 16 := by simp; omega
      have CN := Lib.hid (refIsName_ok (t.extract 0 n))
      have CH := Lib.hid (fun w => isHex_ok (t.extract (n + 4) (n + 20)) 16 w (by omega))
      cases g1 : nameB (t.extract 0 n) <;> cases g2 : ((t.extract (n + 4) (n + 20)).data.toList.all hexB) <;> cases g3 : decide ((t.size : Int) ≤ 255) <;>
      · have CN2 := Lib.hid (fun w => by have := CN.out w; rw [g1] at this; exact this)
        have CH2 := Lib.hid (fun w => by have := CH.out w; rw [g2, hex2] at this; exact this)
        go_wp2_with fail
        go_quiet (first | (go_at_call 16; exact Calls.quiet_of_same (CN2.out _)) | (go_at_call 17; exact Calls.quiet_of_same (CH2.out _)))
        go_wp2_with fail
        (try simp only [Exit.inBlock, Exit.then])
        refine bodyPost_ret (results_tmp4 rfl _ _ _) rfl ?_
        refine ⟨t.extract 0 n, t.extract (n + 4) (n + 20), (v : Int), _, rfl, ?_, ((Kp.refl [] _).drewN nq).below (Nat.le_refl _) (by simp)⟩
        have hR := fun is his => rd_end HN.out hn1 HM.out HB46.out HALL.out is his
        rw [HVV.out] at hR
        refine hR _ ?_
        have g3' : decide (t.size ≤ 255) = _ := (show decide (t.size ≤ 255) = decide ((t.size : Int) ≤ 255) by congr 1; simp; omega).trans g3
        unfold digB
        rw [g1, g2, g3', hex2]
        rfl
end Go.Proofs.YtobiacdeoeogaaaGreatDoor
