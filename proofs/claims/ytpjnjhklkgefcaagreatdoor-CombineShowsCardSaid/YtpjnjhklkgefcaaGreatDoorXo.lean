import Derived.Test.YtpjnjhklkgefcaaGreatDoorC
import Derived.Test.YtpjnjhklkgefcaaGreatDoorXa
import Derived.Test.YtpjnjhklkgefcaaGreatDoorShelf
set_option linter.unusedVariables false
set_option linter.unusedSimpArgs false
namespace Go.Proofs.YtpjnjhklkgefcaaGreatDoor
open Go.RowKit
set_option maxRecDepth 100000 in
set_option maxHeartbeats 4000000 in
theorem newClock0_ok (w : World) : Calls Tryz.prog 9 #[.int .i64 0] w fun e w' => e = .returned (.pointer (some ⟨w.heap.size, 0, none⟩)) ∧ Below w.heap.size w w' := by
  go_enter Tryz.func9, Tryz.ntmps9
  go_wp2
  go_ret
  exact ⟨rfl, by go_grown⟩
set_option maxRecDepth 100000 in
set_option maxHeartbeats 4000000 in
theorem forbidForm_dot (w : World) : Calls Tryz.prog 79 #[.string ⟨#[46]⟩] w fun e w' => e = .returned (.bool true) ∧ w = w' := by
  have e1 : Lib.indexByte (⟨#[]⟩ : ByteArray).data.toList (Int.toNat 46).toUInt8 = -1 := by decide
  have HI0 := fun wx => Tryz.strings_IndexByte ⟨#[]⟩ 46 wx
  rw [e1] at HI0
  have HI := Lib.hid HI0
  clear e1 HI0
  go_enter Tryz.func79, Tryz.ntmps79
  go_wp2_with fail
  refine wp_loop_rounds 2 ?_
  rw [rounds_succ]
  go_wp2_with fail
  refine (HI.out _).mono ?_
  rintro e w1 ⟨rfl, rfl⟩
  go_wp2_with fail
  rw [rounds_succ]
  go_wp2_with fail
  go_ret
  exact ⟨rfl, rfl⟩
set_option maxRecDepth 100000 in
set_option maxHeartbeats 4000000 in
theorem checkFAA (m : Nat) (pr mn mp ms pg : Int) (fo : ByteArray) (w : World) (HO : HasOK m) (h1 : 1 ≤ pr) (h2 : pr ≤ 1000) (h3 : 1 ≤ mn) (h4 : mn ≤ 255) (h5 : mn ≤ mp) (h6 : mp ≤ 1024) (h7 : 0 ≤ ms) (h8 : ms ≤ 1048576) (h9 : 1 ≤ pg) (h10 : pg ≤ 4) (HF : ∀ w, Calls Tryz.prog 79 #[.string fo] w fun e w' => e = .returned (.bool true) ∧ w = w') (e8 : m &&& 8 = 0) (e9 : m &&& 2048 = 0) : Calls Tryz.prog 32 #[.agg #[.int .i64 (m : Int), .int .i64 16, .int .i64 pr, .int .i64 mn, .int .i64 mp, .int .i64 ms, .int .i64 pg, .int .i64 1, .string fo]] w fun e w' => e = .returned (.int .i64 0) ∧ Below w.heap.size w w' := by
  have hm0 : (0 : Int) ≤ (m : Int) := by omega
  have hm1 : (m : Int) ≤ 4095 := by have := HO.lt; omega
  obtain ⟨mx, hmx⟩ : ∃ mx : Int, max ms 1 = mx := ⟨_, rfl⟩
  have hmx1 : 1 ≤ mx := by omega
  have HF := Lib.hid HF
  have x1 : decide ((m : Int) < 0) = false := decide_eq_false (by omega)
  have x2 : decide ((m : Int) > 4095) = false := decide_eq_false (by omega)
  have y1 : decide (pr ≥ 1) = true := decide_eq_true (by omega)
  have y2 : decide (pr ≤ 86400000000000) = true := decide_eq_true (by omega)
  have y3 : decide (mn ≥ 1) = true := decide_eq_true (by omega)
  have y4 : decide (mn ≤ 255) = true := decide_eq_true (by omega)
  have y5 : decide (mp ≥ mn) = true := decide_eq_true (by omega)
  have y6 : decide (mp ≤ 1024) = true := decide_eq_true (by omega)
  have y7 : decide (ms ≥ 0) = true := decide_eq_true (by omega)
  have y8 : decide (ms ≤ 1048576) = true := decide_eq_true (by omega)
  have y9 : decide (pg ≥ 1) = true := decide_eq_true (by omega)
  have y10 : decide (pg ≤ 1000) = true := decide_eq_true (by omega)
  have y11 : decide ((1 : Int) ≤ mx) = true := decide_eq_true (by omega)
  have q8 : bits .and .i64 (m : Int) 8 = 0 := by have := and_test 8 HO.lt (by decide); rw [e8] at this; exact this
  have p8 : bits .and .i64 (m : Int) 2048 = 0 := by have := and_test 2048 HO.lt (by decide); rw [e9] at this; exact this
  clear e8 e9 HO
  go_enter Tryz.func32, Tryz.ntmps32
  go_wp2_with (first | (go_at_call 79; refine (HF.out _).mono ?_; rintro e w' ⟨rfl, rfl⟩) | go_in)
  go_rounds 6
  go_ret
  exact ⟨rfl, by go_grown⟩
set_option maxRecDepth 100000 in
set_option maxHeartbeats 4000000 in
theorem checkFAB (m : Nat) (pr mn mp ms pg : Int) (fo : ByteArray) (w : World) (HO : HasOK m) (h1 : 1 ≤ pr) (h2 : pr ≤ 1000) (h3 : 1 ≤ mn) (h4 : mn ≤ 255) (h5 : mn ≤ mp) (h6 : mp ≤ 1024) (h7 : 0 ≤ ms) (h8 : ms ≤ 1048576) (h9 : 1 ≤ pg) (h10 : pg ≤ 4) (HF : ∀ w, Calls Tryz.prog 79 #[.string fo] w fun e w' => e = .returned (.bool true) ∧ w = w') (e8 : m &&& 8 = 0) (e9 : m &&& 2048 ≠ 0 ∧ m &&& 64 = 64) : Calls Tryz.prog 32 #[.agg #[.int .i64 (m : Int), .int .i64 16, .int .i64 pr, .int .i64 mn, .int .i64 mp, .int .i64 ms, .int .i64 pg, .int .i64 1, .string fo]] w fun e w' => e = .returned (.int .i64 0) ∧ Below w.heap.size w w' := by
  have hm0 : (0 : Int) ≤ (m : Int) := by omega
  have hm1 : (m : Int) ≤ 4095 := by have := HO.lt; omega
  obtain ⟨mx, hmx⟩ : ∃ mx : Int, max ms 1 = mx := ⟨_, rfl⟩
  have hmx1 : 1 ≤ mx := by omega
  have HF := Lib.hid HF
  have x1 : decide ((m : Int) < 0) = false := decide_eq_false (by omega)
  have x2 : decide ((m : Int) > 4095) = false := decide_eq_false (by omega)
  have y1 : decide (pr ≥ 1) = true := decide_eq_true (by omega)
  have y2 : decide (pr ≤ 86400000000000) = true := decide_eq_true (by omega)
  have y3 : decide (mn ≥ 1) = true := decide_eq_true (by omega)
  have y4 : decide (mn ≤ 255) = true := decide_eq_true (by omega)
  have y5 : decide (mp ≥ mn) = true := decide_eq_true (by omega)
  have y6 : decide (mp ≤ 1024) = true := decide_eq_true (by omega)
  have y7 : decide (ms ≥ 0) = true := decide_eq_true (by omega)
  have y8 : decide (ms ≤ 1048576) = true := decide_eq_true (by omega)
  have y9 : decide (pg ≥ 1) = true := decide_eq_true (by omega)
  have y10 : decide (pg ≤ 1000) = true := decide_eq_true (by omega)
  have y11 : decide ((1 : Int) ≤ mx) = true := decide_eq_true (by omega)
  have q8 : bits .and .i64 (m : Int) 8 = 0 := by have := and_test 8 HO.lt (by decide); rw [e8] at this; exact this
  obtain ⟨v9, p8⟩ : ∃ v, bits .and .i64 (m : Int) 2048 = v := ⟨_, rfl⟩
  have p8n : (v9 != 0) = true := by have := and_test 2048 HO.lt (by decide); rw [← p8]; simp; rw [show (2048 : Int) = ((2048 : Nat) : Int) from rfl, this]; omega
  have p4 : bits .and .i64 (m : Int) 64 = 64 := by have := and_test 64 HO.lt (by decide); rw [e9.2] at this; exact this
  clear e8 e9 HO
  go_enter Tryz.func32, Tryz.ntmps32
  go_wp2_with (first | (go_at_call 79; refine (HF.out _).mono ?_; rintro e w' ⟨rfl, rfl⟩) | go_in)
  go_rounds 6
  go_ret
  exact ⟨rfl, by go_grown⟩
set_option maxRecDepth 100000 in
set_option maxHeartbeats 4000000 in
theorem checkFBA (m : Nat) (pr mn mp ms pg : Int) (fo : ByteArray) (w : World) (HO : HasOK m) (h1 : 1 ≤ pr) (h2 : pr ≤ 1000) (h3 : 1 ≤ mn) (h4 : mn ≤ 255) (h5 : mn ≤ mp) (h6 : mp ≤ 1024) (h7 : 0 ≤ ms) (h8 : ms ≤ 1048576) (h9 : 1 ≤ pg) (h10 : pg ≤ 4) (HF : ∀ w, Calls Tryz.prog 79 #[.string fo] w fun e w' => e = .returned (.bool true) ∧ w = w') (e8 : m &&& 8 ≠ 0 ∧ m &&& 4 = 4) (e9 : m &&& 2048 = 0) : Calls Tryz.prog 32 #[.agg #[.int .i64 (m : Int), .int .i64 16, .int .i64 pr, .int .i64 mn, .int .i64 mp, .int .i64 ms, .int .i64 pg, .int .i64 1, .string fo]] w fun e w' => e = .returned (.int .i64 0) ∧ Below w.heap.size w w' := by
  have hm0 : (0 : Int) ≤ (m : Int) := by omega
  have hm1 : (m : Int) ≤ 4095 := by have := HO.lt; omega
  obtain ⟨mx, hmx⟩ : ∃ mx : Int, max ms 1 = mx := ⟨_, rfl⟩
  have hmx1 : 1 ≤ mx := by omega
  have HF := Lib.hid HF
  have x1 : decide ((m : Int) < 0) = false := decide_eq_false (by omega)
  have x2 : decide ((m : Int) > 4095) = false := decide_eq_false (by omega)
  have y1 : decide (pr ≥ 1) = true := decide_eq_true (by omega)
  have y2 : decide (pr ≤ 86400000000000) = true := decide_eq_true (by omega)
  have y3 : decide (mn ≥ 1) = true := decide_eq_true (by omega)
  have y4 : decide (mn ≤ 255) = true := decide_eq_true (by omega)
  have y5 : decide (mp ≥ mn) = true := decide_eq_true (by omega)
  have y6 : decide (mp ≤ 1024) = true := decide_eq_true (by omega)
  have y7 : decide (ms ≥ 0) = true := decide_eq_true (by omega)
  have y8 : decide (ms ≤ 1048576) = true := decide_eq_true (by omega)
  have y9 : decide (pg ≥ 1) = true := decide_eq_true (by omega)
  have y10 : decide (pg ≤ 1000) = true := decide_eq_true (by omega)
  have y11 : decide ((1 : Int) ≤ mx) = true := decide_eq_true (by omega)
  obtain ⟨v8, q8⟩ : ∃ v, bits .and .i64 (m : Int) 8 = v := ⟨_, rfl⟩
  have q8n : (v8 != 0) = true := by have := and_test 8 HO.lt (by decide); rw [← q8]; simp; rw [show (8 : Int) = ((8 : Nat) : Int) from rfl, this]; omega
  have q4 : bits .and .i64 (m : Int) 4 = 4 := by have := and_test 4 HO.lt (by decide); rw [e8.2] at this; exact this
  have p8 : bits .and .i64 (m : Int) 2048 = 0 := by have := and_test 2048 HO.lt (by decide); rw [e9] at this; exact this
  clear e8 e9 HO
  go_enter Tryz.func32, Tryz.ntmps32
  go_wp2_with (first | (go_at_call 79; refine (HF.out _).mono ?_; rintro e w' ⟨rfl, rfl⟩) | go_in)
  go_rounds 6
  go_ret
  exact ⟨rfl, by go_grown⟩
set_option maxRecDepth 100000 in
set_option maxHeartbeats 4000000 in
theorem checkFBB (m : Nat) (pr mn mp ms pg : Int) (fo : ByteArray) (w : World) (HO : HasOK m) (h1 : 1 ≤ pr) (h2 : pr ≤ 1000) (h3 : 1 ≤ mn) (h4 : mn ≤ 255) (h5 : mn ≤ mp) (h6 : mp ≤ 1024) (h7 : 0 ≤ ms) (h8 : ms ≤ 1048576) (h9 : 1 ≤ pg) (h10 : pg ≤ 4) (HF : ∀ w, Calls Tryz.prog 79 #[.string fo] w fun e w' => e = .returned (.bool true) ∧ w = w') (e8 : m &&& 8 ≠ 0 ∧ m &&& 4 = 4) (e9 : m &&& 2048 ≠ 0 ∧ m &&& 64 = 64) : Calls Tryz.prog 32 #[.agg #[.int .i64 (m : Int), .int .i64 16, .int .i64 pr, .int .i64 mn, .int .i64 mp, .int .i64 ms, .int .i64 pg, .int .i64 1, .string fo]] w fun e w' => e = .returned (.int .i64 0) ∧ Below w.heap.size w w' := by
  have hm0 : (0 : Int) ≤ (m : Int) := by omega
  have hm1 : (m : Int) ≤ 4095 := by have := HO.lt; omega
  obtain ⟨mx, hmx⟩ : ∃ mx : Int, max ms 1 = mx := ⟨_, rfl⟩
  have hmx1 : 1 ≤ mx := by omega
  have HF := Lib.hid HF
  have x1 : decide ((m : Int) < 0) = false := decide_eq_false (by omega)
  have x2 : decide ((m : Int) > 4095) = false := decide_eq_false (by omega)
  have y1 : decide (pr ≥ 1) = true := decide_eq_true (by omega)
  have y2 : decide (pr ≤ 86400000000000) = true := decide_eq_true (by omega)
  have y3 : decide (mn ≥ 1) = true := decide_eq_true (by omega)
  have y4 : decide (mn ≤ 255) = true := decide_eq_true (by omega)
  have y5 : decide (mp ≥ mn) = true := decide_eq_true (by omega)
  have y6 : decide (mp ≤ 1024) = true := decide_eq_true (by omega)
  have y7 : decide (ms ≥ 0) = true := decide_eq_true (by omega)
  have y8 : decide (ms ≤ 1048576) = true := decide_eq_true (by omega)
  have y9 : decide (pg ≥ 1) = true := decide_eq_true (by omega)
  have y10 : decide (pg ≤ 1000) = true := decide_eq_true (by omega)
  have y11 : decide ((1 : Int) ≤ mx) = true := decide_eq_true (by omega)
  obtain ⟨v8, q8⟩ : ∃ v, bits .and .i64 (m : Int) 8 = v := ⟨_, rfl⟩
  have q8n : (v8 != 0) = true := by have := and_test 8 HO.lt (by decide); rw [← q8]; simp; rw [show (8 : Int) = ((8 : Nat) : Int) from rfl, this]; omega
  have q4 : bits .and .i64 (m : Int) 4 = 4 := by have := and_test 4 HO.lt (by decide); rw [e8.2] at this; exact this
  obtain ⟨v9, p8⟩ : ∃ v, bits .and .i64 (m : Int) 2048 = v := ⟨_, rfl⟩
  have p8n : (v9 != 0) = true := by have := and_test 2048 HO.lt (by decide); rw [← p8]; simp; rw [show (2048 : Int) = ((2048 : Nat) : Int) from rfl, this]; omega
  have p4 : bits .and .i64 (m : Int) 64 = 64 := by have := and_test 64 HO.lt (by decide); rw [e9.2] at this; exact this
  clear e8 e9 HO
  go_enter Tryz.func32, Tryz.ntmps32
  go_wp2_with (first | (go_at_call 79; refine (HF.out _).mono ?_; rintro e w' ⟨rfl, rfl⟩) | go_in)
  go_rounds 6
  go_ret
  exact ⟨rfl, by go_grown⟩
theorem checkFeaturesG_ok (m : Nat) (pr mn mp ms pg : Int) (fo : ByteArray) (w : World) (HO : HasOK m) (h1 : 1 ≤ pr) (h2 : pr ≤ 1000) (h3 : 1 ≤ mn) (h4 : mn ≤ 255) (h5 : mn ≤ mp) (h6 : mp ≤ 1024) (h7 : 0 ≤ ms) (h8 : ms ≤ 1048576) (h9 : 1 ≤ pg) (h10 : pg ≤ 4) (HF : ∀ w, Calls Tryz.prog 79 #[.string fo] w fun e w' => e = .returned (.bool true) ∧ w = w') : Calls Tryz.prog 32 #[.agg #[.int .i64 (m : Int), .int .i64 16, .int .i64 pr, .int .i64 mn, .int .i64 mp, .int .i64 ms, .int .i64 pg, .int .i64 1, .string fo]] w fun e w' => e = .returned (.int .i64 0) ∧ Below w.heap.size w w' := by
  by_cases a : m &&& 8 = 0
  · by_cases b : m &&& 2048 = 0
    · exact checkFAA m pr mn mp ms pg fo w HO h1 h2 h3 h4 h5 h6 h7 h8 h9 h10 HF a b
    · exact checkFAB m pr mn mp ms pg fo w HO h1 h2 h3 h4 h5 h6 h7 h8 h9 h10 HF a ⟨b, by rcases HO.mov with h | h; exact h; exact absurd h b⟩
  · have a2 : m &&& 8 ≠ 0 ∧ m &&& 4 = 4 := ⟨a, by rcases HO.tim with h | h; exact h; exact absurd h a⟩
    by_cases b : m &&& 2048 = 0
    · exact checkFBA m pr mn mp ms pg fo w HO h1 h2 h3 h4 h5 h6 h7 h8 h9 h10 HF a2 b
    · exact checkFBB m pr mn mp ms pg fo w HO h1 h2 h3 h4 h5 h6 h7 h8 h9 h10 HF a2 ⟨b, by rcases HO.mov with h | h; exact h; exact absurd h b⟩
end Go.Proofs.YtpjnjhklkgefcaaGreatDoor
