/-
  The walk of the law QuotaBack, one way at a time: by which of Put and Arm there is an error. PART A.
-/
import Derived.Test.YtlemjdkefojoeaaAlive
namespace Go.Proofs.Ytlemjdkefojoeaa
open Go.RowKit Quo

set_option maxHeartbeats 1600000 in
theorem back_ooo (k r t key was value : Int)
    (P1 : ∀ w : World, Calls Try.prog 10 #[.agg #[.int .i64 k, .int .i64 r, .int .i64 t], .bool false, .int .i64 key, .int .i64 0, .int .i64 value] w fun e w' => e = .returned (.tuple #[.agg #[.int .i64 (k + 1), .int .i64 (r + key + value), .int .i64 t], .int .i64 0]) ∧ Below w.heap.size w w')
    (D1 : ∀ w : World, Calls Try.prog 13 #[.agg #[.int .i64 (k + 1), .int .i64 (r + key + value), .int .i64 t], .int .i64 key, .int .i64 value] w fun e w' => e = .returned (.tuple #[.agg #[.int .i64 k, .int .i64 r, .int .i64 t], .int .i64 0]) ∧ Below w.heap.size w w')
    (RA : ∀ w : World, Calls Try.prog 11 #[.agg #[.int .i64 (k + 1), .int .i64 (r + key + value), .int .i64 t]] w fun e w' => e = .returned (.bool true) ∧ Below w.heap.size w w')
    (RU : ∀ w : World, Calls Try.prog 11 #[.agg #[.int .i64 k, .int .i64 r, .int .i64 t]] w fun e w' => e = .returned (.bool true) ∧ Below w.heap.size w w')
    (P2 : ∀ w : World, Calls Try.prog 10 #[.agg #[.int .i64 k, .int .i64 r, .int .i64 t], .bool true, .int .i64 key, .int .i64 was, .int .i64 value] w fun e w' => e = .returned (.tuple #[.agg #[.int .i64 k, .int .i64 (r - was + value), .int .i64 t], .int .i64 0]) ∧ Below w.heap.size w w')
    (P3 : ∀ w : World, Calls Try.prog 10 #[.agg #[.int .i64 k, .int .i64 (r - was + value), .int .i64 t], .bool true, .int .i64 key, .int .i64 value, .int .i64 was] w fun e w' => e = .returned (.tuple #[.agg #[.int .i64 k, .int .i64 r, .int .i64 t], .int .i64 0]) ∧ Below w.heap.size w w')
    (RC : ∀ w : World, Calls Try.prog 11 #[.agg #[.int .i64 k, .int .i64 (r - was + value), .int .i64 t]] w fun e w' => e = .returned (.bool true) ∧ Below w.heap.size w w')
    (A1 : ∀ w : World, Calls Try.prog 12 #[.agg #[.int .i64 k, .int .i64 r, .int .i64 t], .bool false] w fun e w' => e = .returned (.tuple #[.agg #[.int .i64 k, .int .i64 r, .int .i64 (t + 1)], .int .i64 0]) ∧ Below w.heap.size w w')
    (C1 : ∀ w : World, Calls Try.prog 14 #[.agg #[.int .i64 k, .int .i64 r, .int .i64 (t + 1)]] w fun e w' => e = .returned (.tuple #[.agg #[.int .i64 k, .int .i64 r, .int .i64 t], .int .i64 0]) ∧ Below w.heap.size w w')
    (A2 : ∀ w : World, Calls Try.prog 12 #[.agg #[.int .i64 k, .int .i64 r, .int .i64 (t + 1)], .bool true] w fun e w' => e = .returned (.tuple #[.agg #[.int .i64 k, .int .i64 r, .int .i64 (t + 1)], .int .i64 0]) ∧ Below w.heap.size w w')
    (RI : ∀ w : World, Calls Try.prog 11 #[.agg #[.int .i64 k, .int .i64 r, .int .i64 (t + 1)]] w fun e w' => e = .returned (.bool true) ∧ Below w.heap.size w w') (w : World) :
    Calls Try.prog 5 #[.agg #[.int .i64 k, .int .i64 r, .int .i64 t], .agg #[.int .i64 key, .int .i64 was, .int .i64 value]] w fun e w' => e = .returned (.bool true) ∧ Below w.heap.size w w' := by
  have P1' := Lib.hid P1; have D1' := Lib.hid D1; have RA' := Lib.hid RA; have RU' := Lib.hid RU; have P2' := Lib.hid P2; have P3' := Lib.hid P3; have RC' := Lib.hid RC; have A1' := Lib.hid A1; have C1' := Lib.hid C1; have A2' := Lib.hid A2; have RI' := Lib.hid RI; clear P1 D1 RA RU P2 P3 RC A1 C1 A2 RI
  go_enter Try.func5, Try.ntmps5
  go_wp2_with fail
  refine (P1'.out _).mono ?_
  rintro e y1 ⟨rfl, hb1⟩
  obtain ⟨hc1, hf1⟩ := bcell hb1
  have hz1 : w.heap.size + 1 < y1.heap.size := by have := hb1.size; (try simp at this); omega
  have q1_0 : w.heap.size < y1.heap.size := by omega
  have q1_1 : w.heap.size + 1 < y1.heap.size := by omega
  go_wp2_with fail
  refine (D1'.out _).mono ?_
  rintro e y2 ⟨rfl, hb2⟩
  obtain ⟨hc2, hf2⟩ := bcell hb2
  have hz2 : y1.heap.size < y2.heap.size := by have := hb2.size; (try simp at this); omega
  have q2_0 : w.heap.size < y2.heap.size := by omega
  have q2_1 : w.heap.size + 1 < y2.heap.size := by omega
  have q2_2 : y1.heap.size < y2.heap.size := by omega
  go_wp2_with fail
  refine (RA'.out _).mono ?_
  rintro e y3 ⟨rfl, hb3⟩
  obtain ⟨hc3, hf3⟩ := bcell hb3
  have hz3 : y2.heap.size < y3.heap.size := by have := hb3.size; (try simp at this); omega
  have q3_0 : w.heap.size < y3.heap.size := by omega
  have q3_1 : w.heap.size + 1 < y3.heap.size := by omega
  have q3_2 : y1.heap.size < y3.heap.size := by omega
  have q3_3 : y2.heap.size < y3.heap.size := by omega
  go_wp2_with fail
  refine (RU'.out _).mono ?_
  rintro e y4 ⟨rfl, hb4⟩
  obtain ⟨hc4, hf4⟩ := bcell hb4
  have hz4 : y3.heap.size ≤ y4.heap.size := by have := hb4.size; (try simp at this); omega
  have q4_0 : w.heap.size < y4.heap.size := by omega
  have q4_1 : w.heap.size + 1 < y4.heap.size := by omega
  have q4_2 : y1.heap.size < y4.heap.size := by omega
  have q4_3 : y2.heap.size < y4.heap.size := by omega
  go_wp2_with fail
  refine (P2'.out _).mono ?_
  rintro e y5 ⟨rfl, hb5⟩
  obtain ⟨hc5, hf5⟩ := bcell hb5
  have hz5 : y4.heap.size ≤ y5.heap.size := by have := hb5.size; (try simp at this); omega
  have q5_0 : w.heap.size < y5.heap.size := by omega
  have q5_1 : w.heap.size + 1 < y5.heap.size := by omega
  have q5_2 : y1.heap.size < y5.heap.size := by omega
  have q5_3 : y2.heap.size < y5.heap.size := by omega
  go_wp2_with fail
  refine (P3'.out _).mono ?_
  rintro e y6 ⟨rfl, hb6⟩
  obtain ⟨hc6, hf6⟩ := bcell hb6
  have hz6 : y5.heap.size < y6.heap.size := by have := hb6.size; (try simp at this); omega
  have q6_0 : w.heap.size < y6.heap.size := by omega
  have q6_1 : w.heap.size + 1 < y6.heap.size := by omega
  have q6_2 : y1.heap.size < y6.heap.size := by omega
  have q6_3 : y2.heap.size < y6.heap.size := by omega
  have q6_4 : y5.heap.size < y6.heap.size := by omega
  go_wp2_with fail
  refine (RC'.out _).mono ?_
  rintro e y7 ⟨rfl, hb7⟩
  obtain ⟨hc7, hf7⟩ := bcell hb7
  have hz7 : y6.heap.size < y7.heap.size := by have := hb7.size; (try simp at this); omega
  have q7_0 : w.heap.size < y7.heap.size := by omega
  have q7_1 : w.heap.size + 1 < y7.heap.size := by omega
  have q7_2 : y1.heap.size < y7.heap.size := by omega
  have q7_3 : y2.heap.size < y7.heap.size := by omega
  have q7_4 : y5.heap.size < y7.heap.size := by omega
  have q7_5 : y6.heap.size < y7.heap.size := by omega
  go_wp2_with fail
  refine (A1'.out _).mono ?_
  rintro e y8 ⟨rfl, hb8⟩
  obtain ⟨hc8, hf8⟩ := bcell hb8
  have hz8 : y7.heap.size ≤ y8.heap.size := by have := hb8.size; (try simp at this); omega
  have q8_0 : w.heap.size < y8.heap.size := by omega
  have q8_1 : w.heap.size + 1 < y8.heap.size := by omega
  have q8_2 : y1.heap.size < y8.heap.size := by omega
  have q8_3 : y2.heap.size < y8.heap.size := by omega
  have q8_4 : y5.heap.size < y8.heap.size := by omega
  have q8_5 : y6.heap.size < y8.heap.size := by omega
  go_wp2_with fail
  refine (C1'.out _).mono ?_
  rintro e y9 ⟨rfl, hb9⟩
  obtain ⟨hc9, hf9⟩ := bcell hb9
  have hz9 : y8.heap.size < y9.heap.size := by have := hb9.size; (try simp at this); omega
  have q9_0 : w.heap.size < y9.heap.size := by omega
  have q9_1 : w.heap.size + 1 < y9.heap.size := by omega
  have q9_2 : y1.heap.size < y9.heap.size := by omega
  have q9_3 : y2.heap.size < y9.heap.size := by omega
  have q9_4 : y5.heap.size < y9.heap.size := by omega
  have q9_5 : y6.heap.size < y9.heap.size := by omega
  have q9_6 : y8.heap.size < y9.heap.size := by omega
  go_wp2_with fail
  refine (A2'.out _).mono ?_
  rintro e y10 ⟨rfl, hb10⟩
  obtain ⟨hc10, hf10⟩ := bcell hb10
  have hz10 : y9.heap.size < y10.heap.size := by have := hb10.size; (try simp at this); omega
  have q10_0 : w.heap.size < y10.heap.size := by omega
  have q10_1 : w.heap.size + 1 < y10.heap.size := by omega
  have q10_2 : y1.heap.size < y10.heap.size := by omega
  have q10_3 : y2.heap.size < y10.heap.size := by omega
  have q10_4 : y5.heap.size < y10.heap.size := by omega
  have q10_5 : y6.heap.size < y10.heap.size := by omega
  have q10_6 : y8.heap.size < y10.heap.size := by omega
  have q10_7 : y9.heap.size < y10.heap.size := by omega
  go_wp2_with fail
  refine (RI'.out _).mono ?_
  rintro e y11 ⟨rfl, hb11⟩
  obtain ⟨hc11, hf11⟩ := bcell hb11
  have hz11 : y10.heap.size < y11.heap.size := by have := hb11.size; (try simp at this); omega
  have q11_0 : w.heap.size < y11.heap.size := by omega
  have q11_1 : w.heap.size + 1 < y11.heap.size := by omega
  have q11_2 : y1.heap.size < y11.heap.size := by omega
  have q11_3 : y2.heap.size < y11.heap.size := by omega
  have q11_4 : y5.heap.size < y11.heap.size := by omega
  have q11_5 : y6.heap.size < y11.heap.size := by omega
  have q11_6 : y8.heap.size < y11.heap.size := by omega
  have q11_7 : y9.heap.size < y11.heap.size := by omega
  have q11_8 : y10.heap.size < y11.heap.size := by omega
  go_wp2_with fail
  refine (alive_any _).mono ?_
  rintro e y12 ⟨rfl, hb12⟩
  obtain ⟨hc12, hf12⟩ := bcell hb12
  have hz12 : y11.heap.size ≤ y12.heap.size := by have := hb12.size; (try simp at this); omega
  have q12_0 : w.heap.size < y12.heap.size := by omega
  have q12_1 : w.heap.size + 1 < y12.heap.size := by omega
  have q12_2 : y1.heap.size < y12.heap.size := by omega
  have q12_3 : y2.heap.size < y12.heap.size := by omega
  have q12_4 : y5.heap.size < y12.heap.size := by omega
  have q12_5 : y6.heap.size < y12.heap.size := by omega
  have q12_6 : y8.heap.size < y12.heap.size := by omega
  have q12_7 : y9.heap.size < y12.heap.size := by omega
  have q12_8 : y10.heap.size < y12.heap.size := by omega
  go_wp2_with fail
  refine (RU'.out _).mono ?_
  rintro e y13 ⟨rfl, hb13⟩
  obtain ⟨hc13, hf13⟩ := bcell hb13
  have hz13 : y12.heap.size ≤ y13.heap.size := by have := hb13.size; (try simp at this); omega
  have q13_0 : w.heap.size < y13.heap.size := by omega
  have q13_1 : w.heap.size + 1 < y13.heap.size := by omega
  have q13_2 : y1.heap.size < y13.heap.size := by omega
  have q13_3 : y2.heap.size < y13.heap.size := by omega
  have q13_4 : y5.heap.size < y13.heap.size := by omega
  have q13_5 : y6.heap.size < y13.heap.size := by omega
  have q13_6 : y8.heap.size < y13.heap.size := by omega
  have q13_7 : y9.heap.size < y13.heap.size := by omega
  have q13_8 : y10.heap.size < y13.heap.size := by omega
  go_wp2
  go_ret
  refine ⟨rfl, ?_⟩
  clear hc1 hf1 hc2 hf2 hc3 hf3 hc4 hf4 hc5 hf5 hc6 hf6 hc7 hf7 hc8 hf8 hc9 hf9 hc10 hf10 hc11 hf11 hc12 hf12 hc13 hf13
  repeat (first | exact Below.refl _ _ | refine Below.alloc ?_ (by first | (simp; done) | (simp; omega) | omega) _ | refine Below.trans ?_ (Below.mono (by assumption) (by first | (simp; done) | (simp; omega) | omega)))

set_option maxHeartbeats 1600000 in
theorem back_oox (k r t key was value : Int) (v3 : Int) (hv3 : v3 ≠ 0)
    (P1 : ∀ w : World, Calls Try.prog 10 #[.agg #[.int .i64 k, .int .i64 r, .int .i64 t], .bool false, .int .i64 key, .int .i64 0, .int .i64 value] w fun e w' => e = .returned (.tuple #[.agg #[.int .i64 (k + 1), .int .i64 (r + key + value), .int .i64 t], .int .i64 0]) ∧ Below w.heap.size w w')
    (D1 : ∀ w : World, Calls Try.prog 13 #[.agg #[.int .i64 (k + 1), .int .i64 (r + key + value), .int .i64 t], .int .i64 key, .int .i64 value] w fun e w' => e = .returned (.tuple #[.agg #[.int .i64 k, .int .i64 r, .int .i64 t], .int .i64 0]) ∧ Below w.heap.size w w')
    (RA : ∀ w : World, Calls Try.prog 11 #[.agg #[.int .i64 (k + 1), .int .i64 (r + key + value), .int .i64 t]] w fun e w' => e = .returned (.bool true) ∧ Below w.heap.size w w')
    (RU : ∀ w : World, Calls Try.prog 11 #[.agg #[.int .i64 k, .int .i64 r, .int .i64 t]] w fun e w' => e = .returned (.bool true) ∧ Below w.heap.size w w')
    (P2 : ∀ w : World, Calls Try.prog 10 #[.agg #[.int .i64 k, .int .i64 r, .int .i64 t], .bool true, .int .i64 key, .int .i64 was, .int .i64 value] w fun e w' => e = .returned (.tuple #[.agg #[.int .i64 k, .int .i64 (r - was + value), .int .i64 t], .int .i64 0]) ∧ Below w.heap.size w w')
    (P3 : ∀ w : World, Calls Try.prog 10 #[.agg #[.int .i64 k, .int .i64 (r - was + value), .int .i64 t], .bool true, .int .i64 key, .int .i64 value, .int .i64 was] w fun e w' => e = .returned (.tuple #[.agg #[.int .i64 k, .int .i64 r, .int .i64 t], .int .i64 0]) ∧ Below w.heap.size w w')
    (RC : ∀ w : World, Calls Try.prog 11 #[.agg #[.int .i64 k, .int .i64 (r - was + value), .int .i64 t]] w fun e w' => e = .returned (.bool true) ∧ Below w.heap.size w w')
    (A1 : ∀ w : World, Calls Try.prog 12 #[.agg #[.int .i64 k, .int .i64 r, .int .i64 t], .bool false] w fun e w' => e = .returned (.tuple #[.agg #[.int .i64 0, .int .i64 0, .int .i64 0], .int .i64 v3]) ∧ Below w.heap.size w w') (w : World) :
    Calls Try.prog 5 #[.agg #[.int .i64 k, .int .i64 r, .int .i64 t], .agg #[.int .i64 key, .int .i64 was, .int .i64 value]] w fun e w' => e = .returned (.bool true) ∧ Below w.heap.size w w' := by
  have hv3a : (v3 == 0) = false := by simp [hv3]
  clear hv3
  have P1' := Lib.hid P1; have D1' := Lib.hid D1; have RA' := Lib.hid RA; have RU' := Lib.hid RU; have P2' := Lib.hid P2; have P3' := Lib.hid P3; have RC' := Lib.hid RC; have A1' := Lib.hid A1; clear P1 D1 RA RU P2 P3 RC A1
  go_enter Try.func5, Try.ntmps5
  go_wp2_with fail
  refine (P1'.out _).mono ?_
  rintro e y1 ⟨rfl, hb1⟩
  obtain ⟨hc1, hf1⟩ := bcell hb1
  have hz1 : w.heap.size + 1 < y1.heap.size := by have := hb1.size; (try simp at this); omega
  have q1_0 : w.heap.size < y1.heap.size := by omega
  have q1_1 : w.heap.size + 1 < y1.heap.size := by omega
  go_wp2_with fail
  refine (D1'.out _).mono ?_
  rintro e y2 ⟨rfl, hb2⟩
  obtain ⟨hc2, hf2⟩ := bcell hb2
  have hz2 : y1.heap.size < y2.heap.size := by have := hb2.size; (try simp at this); omega
  have q2_0 : w.heap.size < y2.heap.size := by omega
  have q2_1 : w.heap.size + 1 < y2.heap.size := by omega
  have q2_2 : y1.heap.size < y2.heap.size := by omega
  go_wp2_with fail
  refine (RA'.out _).mono ?_
  rintro e y3 ⟨rfl, hb3⟩
  obtain ⟨hc3, hf3⟩ := bcell hb3
  have hz3 : y2.heap.size < y3.heap.size := by have := hb3.size; (try simp at this); omega
  have q3_0 : w.heap.size < y3.heap.size := by omega
  have q3_1 : w.heap.size + 1 < y3.heap.size := by omega
  have q3_2 : y1.heap.size < y3.heap.size := by omega
  have q3_3 : y2.heap.size < y3.heap.size := by omega
  go_wp2_with fail
  refine (RU'.out _).mono ?_
  rintro e y4 ⟨rfl, hb4⟩
  obtain ⟨hc4, hf4⟩ := bcell hb4
  have hz4 : y3.heap.size ≤ y4.heap.size := by have := hb4.size; (try simp at this); omega
  have q4_0 : w.heap.size < y4.heap.size := by omega
  have q4_1 : w.heap.size + 1 < y4.heap.size := by omega
  have q4_2 : y1.heap.size < y4.heap.size := by omega
  have q4_3 : y2.heap.size < y4.heap.size := by omega
  go_wp2_with fail
  refine (P2'.out _).mono ?_
  rintro e y5 ⟨rfl, hb5⟩
  obtain ⟨hc5, hf5⟩ := bcell hb5
  have hz5 : y4.heap.size ≤ y5.heap.size := by have := hb5.size; (try simp at this); omega
  have q5_0 : w.heap.size < y5.heap.size := by omega
  have q5_1 : w.heap.size + 1 < y5.heap.size := by omega
  have q5_2 : y1.heap.size < y5.heap.size := by omega
  have q5_3 : y2.heap.size < y5.heap.size := by omega
  go_wp2_with fail
  refine (P3'.out _).mono ?_
  rintro e y6 ⟨rfl, hb6⟩
  obtain ⟨hc6, hf6⟩ := bcell hb6
  have hz6 : y5.heap.size < y6.heap.size := by have := hb6.size; (try simp at this); omega
  have q6_0 : w.heap.size < y6.heap.size := by omega
  have q6_1 : w.heap.size + 1 < y6.heap.size := by omega
  have q6_2 : y1.heap.size < y6.heap.size := by omega
  have q6_3 : y2.heap.size < y6.heap.size := by omega
  have q6_4 : y5.heap.size < y6.heap.size := by omega
  go_wp2_with fail
  refine (RC'.out _).mono ?_
  rintro e y7 ⟨rfl, hb7⟩
  obtain ⟨hc7, hf7⟩ := bcell hb7
  have hz7 : y6.heap.size < y7.heap.size := by have := hb7.size; (try simp at this); omega
  have q7_0 : w.heap.size < y7.heap.size := by omega
  have q7_1 : w.heap.size + 1 < y7.heap.size := by omega
  have q7_2 : y1.heap.size < y7.heap.size := by omega
  have q7_3 : y2.heap.size < y7.heap.size := by omega
  have q7_4 : y5.heap.size < y7.heap.size := by omega
  have q7_5 : y6.heap.size < y7.heap.size := by omega
  go_wp2_with fail
  refine (A1'.out _).mono ?_
  rintro e y8 ⟨rfl, hb8⟩
  obtain ⟨hc8, hf8⟩ := bcell hb8
  have hz8 : y7.heap.size ≤ y8.heap.size := by have := hb8.size; (try simp at this); omega
  have q8_0 : w.heap.size < y8.heap.size := by omega
  have q8_1 : w.heap.size + 1 < y8.heap.size := by omega
  have q8_2 : y1.heap.size < y8.heap.size := by omega
  have q8_3 : y2.heap.size < y8.heap.size := by omega
  have q8_4 : y5.heap.size < y8.heap.size := by omega
  have q8_5 : y6.heap.size < y8.heap.size := by omega
  go_wp2_with fail
  refine (alive_any _).mono ?_
  rintro e y9 ⟨rfl, hb9⟩
  obtain ⟨hc9, hf9⟩ := bcell hb9
  have hz9 : y8.heap.size < y9.heap.size := by have := hb9.size; (try simp at this); omega
  have q9_0 : w.heap.size < y9.heap.size := by omega
  have q9_1 : w.heap.size + 1 < y9.heap.size := by omega
  have q9_2 : y1.heap.size < y9.heap.size := by omega
  have q9_3 : y2.heap.size < y9.heap.size := by omega
  have q9_4 : y5.heap.size < y9.heap.size := by omega
  have q9_5 : y6.heap.size < y9.heap.size := by omega
  have q9_6 : y8.heap.size < y9.heap.size := by omega
  go_wp2_with fail
  refine (RU'.out _).mono ?_
  rintro e y10 ⟨rfl, hb10⟩
  obtain ⟨hc10, hf10⟩ := bcell hb10
  have hz10 : y9.heap.size ≤ y10.heap.size := by have := hb10.size; (try simp at this); omega
  have q10_0 : w.heap.size < y10.heap.size := by omega
  have q10_1 : w.heap.size + 1 < y10.heap.size := by omega
  have q10_2 : y1.heap.size < y10.heap.size := by omega
  have q10_3 : y2.heap.size < y10.heap.size := by omega
  have q10_4 : y5.heap.size < y10.heap.size := by omega
  have q10_5 : y6.heap.size < y10.heap.size := by omega
  have q10_6 : y8.heap.size < y10.heap.size := by omega
  go_wp2
  go_ret
  refine ⟨rfl, ?_⟩
  clear hc1 hf1 hc2 hf2 hc3 hf3 hc4 hf4 hc5 hf5 hc6 hf6 hc7 hf7 hc8 hf8 hc9 hf9 hc10 hf10
  repeat (first | exact Below.refl _ _ | refine Below.alloc ?_ (by first | (simp; done) | (simp; omega) | omega) _ | refine Below.trans ?_ (Below.mono (by assumption) (by first | (simp; done) | (simp; omega) | omega)))

set_option maxHeartbeats 1600000 in
theorem back_oxo (k r t key was value : Int) (v2 : Int) (hv2 : v2 ≠ 0)
    (P1 : ∀ w : World, Calls Try.prog 10 #[.agg #[.int .i64 k, .int .i64 r, .int .i64 t], .bool false, .int .i64 key, .int .i64 0, .int .i64 value] w fun e w' => e = .returned (.tuple #[.agg #[.int .i64 (k + 1), .int .i64 (r + key + value), .int .i64 t], .int .i64 0]) ∧ Below w.heap.size w w')
    (D1 : ∀ w : World, Calls Try.prog 13 #[.agg #[.int .i64 (k + 1), .int .i64 (r + key + value), .int .i64 t], .int .i64 key, .int .i64 value] w fun e w' => e = .returned (.tuple #[.agg #[.int .i64 k, .int .i64 r, .int .i64 t], .int .i64 0]) ∧ Below w.heap.size w w')
    (RA : ∀ w : World, Calls Try.prog 11 #[.agg #[.int .i64 (k + 1), .int .i64 (r + key + value), .int .i64 t]] w fun e w' => e = .returned (.bool true) ∧ Below w.heap.size w w')
    (RU : ∀ w : World, Calls Try.prog 11 #[.agg #[.int .i64 k, .int .i64 r, .int .i64 t]] w fun e w' => e = .returned (.bool true) ∧ Below w.heap.size w w')
    (P2 : ∀ w : World, Calls Try.prog 10 #[.agg #[.int .i64 k, .int .i64 r, .int .i64 t], .bool true, .int .i64 key, .int .i64 was, .int .i64 value] w fun e w' => e = .returned (.tuple #[.agg #[.int .i64 0, .int .i64 0, .int .i64 0], .int .i64 v2]) ∧ Below w.heap.size w w')
    (A1 : ∀ w : World, Calls Try.prog 12 #[.agg #[.int .i64 k, .int .i64 r, .int .i64 t], .bool false] w fun e w' => e = .returned (.tuple #[.agg #[.int .i64 k, .int .i64 r, .int .i64 (t + 1)], .int .i64 0]) ∧ Below w.heap.size w w')
    (C1 : ∀ w : World, Calls Try.prog 14 #[.agg #[.int .i64 k, .int .i64 r, .int .i64 (t + 1)]] w fun e w' => e = .returned (.tuple #[.agg #[.int .i64 k, .int .i64 r, .int .i64 t], .int .i64 0]) ∧ Below w.heap.size w w')
    (A2 : ∀ w : World, Calls Try.prog 12 #[.agg #[.int .i64 k, .int .i64 r, .int .i64 (t + 1)], .bool true] w fun e w' => e = .returned (.tuple #[.agg #[.int .i64 k, .int .i64 r, .int .i64 (t + 1)], .int .i64 0]) ∧ Below w.heap.size w w')
    (RI : ∀ w : World, Calls Try.prog 11 #[.agg #[.int .i64 k, .int .i64 r, .int .i64 (t + 1)]] w fun e w' => e = .returned (.bool true) ∧ Below w.heap.size w w') (w : World) :
    Calls Try.prog 5 #[.agg #[.int .i64 k, .int .i64 r, .int .i64 t], .agg #[.int .i64 key, .int .i64 was, .int .i64 value]] w fun e w' => e = .returned (.bool true) ∧ Below w.heap.size w w' := by
  have hv2a : (v2 == 0) = false := by simp [hv2]
  clear hv2
  have P1' := Lib.hid P1; have D1' := Lib.hid D1; have RA' := Lib.hid RA; have RU' := Lib.hid RU; have P2' := Lib.hid P2; have A1' := Lib.hid A1; have C1' := Lib.hid C1; have A2' := Lib.hid A2; have RI' := Lib.hid RI; clear P1 D1 RA RU P2 A1 C1 A2 RI
  go_enter Try.func5, Try.ntmps5
  go_wp2_with fail
  refine (P1'.out _).mono ?_
  rintro e y1 ⟨rfl, hb1⟩
  obtain ⟨hc1, hf1⟩ := bcell hb1
  have hz1 : w.heap.size + 1 < y1.heap.size := by have := hb1.size; (try simp at this); omega
  have q1_0 : w.heap.size < y1.heap.size := by omega
  have q1_1 : w.heap.size + 1 < y1.heap.size := by omega
  go_wp2_with fail
  refine (D1'.out _).mono ?_
  rintro e y2 ⟨rfl, hb2⟩
  obtain ⟨hc2, hf2⟩ := bcell hb2
  have hz2 : y1.heap.size < y2.heap.size := by have := hb2.size; (try simp at this); omega
  have q2_0 : w.heap.size < y2.heap.size := by omega
  have q2_1 : w.heap.size + 1 < y2.heap.size := by omega
  have q2_2 : y1.heap.size < y2.heap.size := by omega
  go_wp2_with fail
  refine (RA'.out _).mono ?_
  rintro e y3 ⟨rfl, hb3⟩
  obtain ⟨hc3, hf3⟩ := bcell hb3
  have hz3 : y2.heap.size < y3.heap.size := by have := hb3.size; (try simp at this); omega
  have q3_0 : w.heap.size < y3.heap.size := by omega
  have q3_1 : w.heap.size + 1 < y3.heap.size := by omega
  have q3_2 : y1.heap.size < y3.heap.size := by omega
  have q3_3 : y2.heap.size < y3.heap.size := by omega
  go_wp2_with fail
  refine (RU'.out _).mono ?_
  rintro e y4 ⟨rfl, hb4⟩
  obtain ⟨hc4, hf4⟩ := bcell hb4
  have hz4 : y3.heap.size ≤ y4.heap.size := by have := hb4.size; (try simp at this); omega
  have q4_0 : w.heap.size < y4.heap.size := by omega
  have q4_1 : w.heap.size + 1 < y4.heap.size := by omega
  have q4_2 : y1.heap.size < y4.heap.size := by omega
  have q4_3 : y2.heap.size < y4.heap.size := by omega
  go_wp2_with fail
  refine (P2'.out _).mono ?_
  rintro e y5 ⟨rfl, hb5⟩
  obtain ⟨hc5, hf5⟩ := bcell hb5
  have hz5 : y4.heap.size ≤ y5.heap.size := by have := hb5.size; (try simp at this); omega
  have q5_0 : w.heap.size < y5.heap.size := by omega
  have q5_1 : w.heap.size + 1 < y5.heap.size := by omega
  have q5_2 : y1.heap.size < y5.heap.size := by omega
  have q5_3 : y2.heap.size < y5.heap.size := by omega
  go_wp2_with fail
  refine (A1'.out _).mono ?_
  rintro e y6 ⟨rfl, hb6⟩
  obtain ⟨hc6, hf6⟩ := bcell hb6
  have hz6 : y5.heap.size < y6.heap.size := by have := hb6.size; (try simp at this); omega
  have q6_0 : w.heap.size < y6.heap.size := by omega
  have q6_1 : w.heap.size + 1 < y6.heap.size := by omega
  have q6_2 : y1.heap.size < y6.heap.size := by omega
  have q6_3 : y2.heap.size < y6.heap.size := by omega
  have q6_4 : y5.heap.size < y6.heap.size := by omega
  go_wp2_with fail
  refine (C1'.out _).mono ?_
  rintro e y7 ⟨rfl, hb7⟩
  obtain ⟨hc7, hf7⟩ := bcell hb7
  have hz7 : y6.heap.size < y7.heap.size := by have := hb7.size; (try simp at this); omega
  have q7_0 : w.heap.size < y7.heap.size := by omega
  have q7_1 : w.heap.size + 1 < y7.heap.size := by omega
  have q7_2 : y1.heap.size < y7.heap.size := by omega
  have q7_3 : y2.heap.size < y7.heap.size := by omega
  have q7_4 : y5.heap.size < y7.heap.size := by omega
  have q7_5 : y6.heap.size < y7.heap.size := by omega
  go_wp2_with fail
  refine (A2'.out _).mono ?_
  rintro e y8 ⟨rfl, hb8⟩
  obtain ⟨hc8, hf8⟩ := bcell hb8
  have hz8 : y7.heap.size < y8.heap.size := by have := hb8.size; (try simp at this); omega
  have q8_0 : w.heap.size < y8.heap.size := by omega
  have q8_1 : w.heap.size + 1 < y8.heap.size := by omega
  have q8_2 : y1.heap.size < y8.heap.size := by omega
  have q8_3 : y2.heap.size < y8.heap.size := by omega
  have q8_4 : y5.heap.size < y8.heap.size := by omega
  have q8_5 : y6.heap.size < y8.heap.size := by omega
  have q8_6 : y7.heap.size < y8.heap.size := by omega
  go_wp2_with fail
  refine (RI'.out _).mono ?_
  rintro e y9 ⟨rfl, hb9⟩
  obtain ⟨hc9, hf9⟩ := bcell hb9
  have hz9 : y8.heap.size < y9.heap.size := by have := hb9.size; (try simp at this); omega
  have q9_0 : w.heap.size < y9.heap.size := by omega
  have q9_1 : w.heap.size + 1 < y9.heap.size := by omega
  have q9_2 : y1.heap.size < y9.heap.size := by omega
  have q9_3 : y2.heap.size < y9.heap.size := by omega
  have q9_4 : y5.heap.size < y9.heap.size := by omega
  have q9_5 : y6.heap.size < y9.heap.size := by omega
  have q9_6 : y7.heap.size < y9.heap.size := by omega
  have q9_7 : y8.heap.size < y9.heap.size := by omega
  go_wp2_with fail
  refine (alive_any _).mono ?_
  rintro e y10 ⟨rfl, hb10⟩
  obtain ⟨hc10, hf10⟩ := bcell hb10
  have hz10 : y9.heap.size ≤ y10.heap.size := by have := hb10.size; (try simp at this); omega
  have q10_0 : w.heap.size < y10.heap.size := by omega
  have q10_1 : w.heap.size + 1 < y10.heap.size := by omega
  have q10_2 : y1.heap.size < y10.heap.size := by omega
  have q10_3 : y2.heap.size < y10.heap.size := by omega
  have q10_4 : y5.heap.size < y10.heap.size := by omega
  have q10_5 : y6.heap.size < y10.heap.size := by omega
  have q10_6 : y7.heap.size < y10.heap.size := by omega
  have q10_7 : y8.heap.size < y10.heap.size := by omega
  go_wp2_with fail
  refine (RU'.out _).mono ?_
  rintro e y11 ⟨rfl, hb11⟩
  obtain ⟨hc11, hf11⟩ := bcell hb11
  have hz11 : y10.heap.size ≤ y11.heap.size := by have := hb11.size; (try simp at this); omega
  have q11_0 : w.heap.size < y11.heap.size := by omega
  have q11_1 : w.heap.size + 1 < y11.heap.size := by omega
  have q11_2 : y1.heap.size < y11.heap.size := by omega
  have q11_3 : y2.heap.size < y11.heap.size := by omega
  have q11_4 : y5.heap.size < y11.heap.size := by omega
  have q11_5 : y6.heap.size < y11.heap.size := by omega
  have q11_6 : y7.heap.size < y11.heap.size := by omega
  have q11_7 : y8.heap.size < y11.heap.size := by omega
  go_wp2
  go_ret
  refine ⟨rfl, ?_⟩
  clear hc1 hf1 hc2 hf2 hc3 hf3 hc4 hf4 hc5 hf5 hc6 hf6 hc7 hf7 hc8 hf8 hc9 hf9 hc10 hf10 hc11 hf11
  repeat (first | exact Below.refl _ _ | refine Below.alloc ?_ (by first | (simp; done) | (simp; omega) | omega) _ | refine Below.trans ?_ (Below.mono (by assumption) (by first | (simp; done) | (simp; omega) | omega)))

end Go.Proofs.Ytlemjdkefojoeaa
