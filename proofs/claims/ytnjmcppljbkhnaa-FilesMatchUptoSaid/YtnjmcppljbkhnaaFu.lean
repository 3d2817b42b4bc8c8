import Derived.Test.YtnjmcppljbkhnaaFt
import Derived.Test.YtnjmcppljbkhnaaYn
set_option linter.unusedVariables false
set_option linter.unusedSimpArgs false
namespace Go.Proofs.Ytnjmcppljbkhnaa
open Go.RowKit
theorem kyE_or (c n t : ByteArray) : kyE c n t = 0 ∨ kyE c n t = 6 := by
  unfold kyE; split
  · exact Or.inr rfl
  · exact Or.inl rfl
theorem seal35_six (c n t nonce text : ByteArray) (W : World) (hc : c.size ≤ maxLen) (hn : n.size ≤ maxLen) (ht : t.size ≤ maxLen) (hbad : kyE c n t ≠ 0 ∨ nonce.size ≠ 12) :
    Calls Try.prog 35 #[.agg #[.string c, .string n, .string t], .string nonce, .string text] W fun e w' => e = .returned (.tuple #[.string ByteArray.empty, .int .i64 6]) ∧ Below W.heap.size W w' := by
  refine seal35_bad c n t nonce text W 6 (by decide) fun w => ?_
  by_cases hk : kyE c n t = 0
  · exact newSealer39_form c n t nonce w hc hn ht hk (by omega)
  · have h := newSealer39_keys c n t nonce w hc hn ht hk
    rw [(kyE_or c n t).resolve_left hk] at h
    exact h
set_option maxRecDepth 100000 in
set_option maxHeartbeats 4000000 in
theorem law8_bad (c n t nonce : ByteArray) (ap : Option Addr) (xs : List ByteArray) (cap : Nat) (f m : Int) (w : World) (hc : c.size ≤ maxLen) (hn : n.size ≤ maxLen) (ht : t.size ≤ maxLen) (hnn : nonce.size ≤ maxLen) (hx : TRow w ap xs) (hxs : (catS xs).size + xs.length ≤ 1048576) (hcap : xs.length ≤ cap) (hbad : kyE c n t ≠ 0 ∨ nonce.size ≠ 12) :
    Calls Try.prog 8 #[.agg #[.string c, .string n, .string t], .string nonce, .slice ap xs.length cap, .int .i64 f, .int .i64 m] w fun e w' => e = .returned (.bool true) ∧ Below w.heap.size w w' := by
  have HJ := Lib.hid (fun W (hW : TRow W ap xs) => join34 ap cap xs W hW (by omega) hcap (by omega))
  have HX := Lib.hid hx
  have HS := Lib.hid (fun W => seal35_six c n t nonce (catS xs) W hc hn ht hbad)
  have H36 := Lib.hid (fun W => keysError36 c n t W hc hn ht)
  have d2 : decide ((1048576 : Int) < ((catS xs).size : Nat)) = false := decide_eq_false (by omega)
  have hts : (catS xs).size ≤ 1048576 := by omega
  have hnn2 : nonce.size ≤ 9223372036854775807 := by unfold maxLen at hnn; omega
  obtain ⟨b, hb⟩ : ∃ b, ((nonce.size : Int) != 12) = b := ⟨_, rfl⟩
  have HFI := Lib.hid (show firstI [kyE c n t, whenI b 6, whenI false 8] = 6 from by
    rw [firstI3]
    rcases kyE_or c n t with h | h
    · have hb1 : b = true := by rw [← hb]; simp; omega
      rw [h, hb1]; rfl
    · rw [h]; rfl)
  have HK0 := Lib.hid (KB.new w c n t)
  generalize kyE c n t = K at *
  generalize catS xs = text at *
  clear hc hn ht hx hcap hbad hxs hnn
  have he : ByteArray.empty.toList.isEmpty = true := empty_no _ rfl
  go_enter Try.func8, Try.ntmps8
  go_wp2_with fail
  refine (HJ.out _ (HX.out.below HK0.out.1 (Nat.le_refl _))).mono ?_
  rintro e w1 ⟨rfl, b1⟩
  have HK1 := Lib.hid (HK0.out.below b1 (by simp))
  have c0 := HK1.out.2.2.1
  have c1 := HK1.out.2.2.2.1
  have c2 := HK1.out.2.2.2.2
  clear b1 HK0
  go_wp2_with fail
  refine (HS.out _).mono ?_
  rintro e w2 ⟨rfl, b2⟩
  have HK2 := Lib.hid (HK1.out.below b2 HK1.out.2.1)
  clear b2 c0 c1 c2 HK1
  have c0 := HK2.out.2.2.1
  have c1 := HK2.out.2.2.2.1
  have c2 := HK2.out.2.2.2.2
  go_wp2_with fail
  refine (H36.out _).mono ?_
  rintro e w3 ⟨rfl, b3⟩
  have HK3 := Lib.hid (HK2.out.below b3 HK2.out.2.1)
  clear b3 c0 c1 c2 HK2
  go_wp2_with fail
  refine (when17' b 6 _ _ rfl).mono ?_
  rintro e w' ⟨rfl, rfl⟩
  go_wp2_with fail
  refine (when17' false 8 _ _ rfl).mono ?_
  rintro e w' ⟨rfl, rfl⟩
  go_wp2_with fail
  refine (first3 _ _ _ _ _).mono ?_
  rintro e w' ⟨rfl, rfl⟩
  rw [HFI.out]
  go_wp2_with fail
  refine (seals13 _).mono ?_
  rintro e w5 ⟨rfl, b5⟩
  have HB5 := Lib.hid ((HK3.out.alloc _).1.trans (b5.mono (HK3.out.alloc _).1.size))
  clear b5
  go_wp2_with fail
  refine (seals13 _).mono ?_
  rintro e w6 ⟨rfl, b6⟩
  have HB6 := Lib.hid (below_step HB5.out (Nat.le_refl _) b6)
  clear b6
  go_wp2_with fail
  go_ret
  exact ⟨rfl, HB6.out⟩
theorem seal35_file (c n t nonce text : ByteArray) (W : World) (hc : c.size = 32) (hn : n.size = 32) (ht : t.size = 16) (hnn : nonce.size = 12) (hs : text.size ≤ 1048576) :
    Calls Try.prog 35 #[.agg #[.string c, .string n, .string t], .string nonce, .string text] W fun e w' => e = .returned (.tuple #[.string (fileB c nonce text), .int .i64 0]) ∧ Below W.heap.size W w' := by
  have h := seal35_ok c n t nonce text W _ hc hn ht hnn hs rfl
  rw [seal_fileN c (markS ++ nonce) text _ rfl] at h
  exact h
set_option maxRecDepth 100000 in
set_option maxHeartbeats 4000000 in
theorem law8_long (c n t nonce : ByteArray) (ap : Option Addr) (xs : List ByteArray) (cap : Nat) (f m : Int) (w : World) (hc : c.size = 32) (hn : n.size = 32) (ht : t.size = 16) (hnn : nonce.size = 12) (hx : TRow w ap xs) (hxs : (catS xs).size + xs.length ≤ 1048576) (hcap : xs.length ≤ cap) (hlong : 10000 < (catS xs).size) :
    Calls Try.prog 8 #[.agg #[.string c, .string n, .string t], .string nonce, .slice ap xs.length cap, .int .i64 f, .int .i64 m] w fun e w' => e = .returned (.bool true) ∧ Below w.heap.size w w' := by
  have HJ := Lib.hid (fun W (hW : TRow W ap xs) => join34 ap cap xs W hW (by omega) hcap (by omega))
  have HX := Lib.hid hx
  have HS := Lib.hid (fun W => seal35_file c n t nonce (catS xs) W hc hn ht hnn (by omega))
  have H36 := Lib.hid (fun W => keysError36 c n t W (by unfold maxLen; omega) (by unfold maxLen; omega) (by unfold maxLen; omega))
  have HE : kyE c n t = 0 := if_neg (by omega)
  rw [HE] at H36
  have d2 : decide ((1048576 : Int) < ((catS xs).size : Nat)) = false := decide_eq_false (by omega)
  have hts : (catS xs).size ≤ 1048576 := by omega
  have HBR := Lib.hid (fun W => brief18 (catS xs) W (by unfold maxLen; omega))
  rw [decide_eq_false (by omega)] at HBR
  have hb : ((nonce.size : Int) != 12) = false := by simp; omega
  have HFI := Lib.hid (show firstI [0, whenI false 6, whenI false 8] = 0 from rfl)
  have HK0 := Lib.hid (KB.new w c n t)
  generalize fileB c nonce (catS xs) = F at *
  generalize catS xs = text at *
  clear hc hn ht hx hcap hxs HE
  go_enter Try.func8, Try.ntmps8
  go_wp2_with fail
  refine (HJ.out _ (HX.out.below HK0.out.1 (Nat.le_refl _))).mono ?_
  rintro e w1 ⟨rfl, b1⟩
  have HK1 := Lib.hid (HK0.out.below b1 (by simp))
  have c0 := HK1.out.2.2.1
  have c1 := HK1.out.2.2.2.1
  have c2 := HK1.out.2.2.2.2
  clear b1 HK0
  go_wp2_with fail
  refine (HS.out _).mono ?_
  rintro e w2 ⟨rfl, b2⟩
  have HK2 := Lib.hid (HK1.out.below b2 HK1.out.2.1)
  clear b2 c0 c1 c2 HK1
  have c0 := HK2.out.2.2.1
  have c1 := HK2.out.2.2.2.1
  have c2 := HK2.out.2.2.2.2
  go_wp2_with fail
  refine (H36.out _).mono ?_
  rintro e w3 ⟨rfl, b3⟩
  have HK3 := Lib.hid (HK2.out.below b3 HK2.out.2.1)
  clear b3 c0 c1 c2 HK2
  go_wp2_with fail
  refine (when17' false 6 _ _ rfl).mono ?_
  rintro e w' ⟨rfl, rfl⟩
  go_wp2_with fail
  refine (when17' false 8 _ _ rfl).mono ?_
  rintro e w' ⟨rfl, rfl⟩
  go_wp2_with fail
  refine (first3 _ _ _ _ _).mono ?_
  rintro e w' ⟨rfl, rfl⟩
  rw [HFI.out]
  go_wp2_with fail
  refine (seals13 _).mono ?_
  rintro e w5 ⟨rfl, b5⟩
  have HB5 := Lib.hid ((HK3.out.alloc _).1.trans (b5.mono (HK3.out.alloc _).1.size))
  clear b5
  go_wp2_with fail
  refine (HBR.out _).mono ?_
  rintro e w' ⟨rfl, rfl⟩
  go_wp2_with fail
  go_ret
  exact ⟨rfl, HB5.out⟩
end Go.Proofs.Ytnjmcppljbkhnaa
