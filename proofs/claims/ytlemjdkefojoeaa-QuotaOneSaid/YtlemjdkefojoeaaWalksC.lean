/-
  The walks of layer 11 (quota), on: Put, Drop, Arm, Cancel, by their outcomes.
-/
import Derived.Test.YtlemjdkefojoeaaWalksB
namespace Go.Proofs.Ytlemjdkefojoeaa
open Go.RowKit Quo

theorem cells3 (x y z : Int) (W : World) : ∀ i, i < [x, y, z].length → (W.alloc (.cells #[.int .i64 x, .int .i64 y, .int .i64 z] 3)).cell? ⟨W.heap.size, 0 + i, none⟩ = some (.int .i64 ([x, y, z].getD i 0)) := by
  intro i hi
  match i, hi with
  | 0, _ => simp [go_sem]
  | 1, _ => simp [go_sem]
  | 2, _ => simp [go_sem]
theorem cells2 (x y : Int) (W : World) : ∀ i, i < [x, y].length → (W.alloc (.cells #[.int .i64 x, .int .i64 y] 3)).cell? ⟨W.heap.size, 0 + i, none⟩ = some (.int .i64 ([x, y].getD i 0)) := by
  intro i hi
  match i, hi with
  | 0, _ => simp [go_sem]
  | 1, _ => simp [go_sem]

/-- The argument check over three sizes that were laid into a new array. -/
theorem wrong3 (k r t x y z : Int) (c : Nat) (W : World) (B : Nat) (hB : B = W.heap.size) :
    Calls Try.prog 17 #[.agg #[.int .i64 k, .int .i64 r, .int .i64 t], .slice (some ⟨B, 0, none⟩) 3 c] (W.alloc (.cells #[.int .i64 x, .int .i64 y, .int .i64 z] 3)) fun e w' => e = .returned (.bool (wrongB k r t [x, y, z])) ∧ Below (W.alloc (.cells #[.int .i64 x, .int .i64 y, .int .i64 z] 3)).heap.size (W.alloc (.cells #[.int .i64 x, .int .i64 y, .int .i64 z] 3)) w' := by
  subst hB
  have h := wrong_any k r t W.heap.size 0 c [x, y, z] (W.alloc (.cells #[.int .i64 x, .int .i64 y, .int .i64 z] 3)) (by simp) (by simp) (cells3 x y z W)
  simpa using h
theorem wrong2 (k r t x y : Int) (c : Nat) (W : World) (B : Nat) (hB : B = W.heap.size) :
    Calls Try.prog 17 #[.agg #[.int .i64 k, .int .i64 r, .int .i64 t], .slice (some ⟨B, 0, none⟩) 2 c] (W.alloc (.cells #[.int .i64 x, .int .i64 y] 3)) fun e w' => e = .returned (.bool (wrongB k r t [x, y])) ∧ Below (W.alloc (.cells #[.int .i64 x, .int .i64 y] 3)).heap.size (W.alloc (.cells #[.int .i64 x, .int .i64 y] 3)) w' := by
  subst hB
  have h := wrong_any k r t W.heap.size 0 c [x, y] (W.alloc (.cells #[.int .i64 x, .int .i64 y] 3)) (by simp) (by simp) (cells2 x y W)
  simpa using h

set_option maxHeartbeats 400000 in
theorem put_wrong (k r t : Int) (had : Bool) (key was value : Int) (h : wrongB k r t [key, was, value] = true) (w : World) :
    Calls Try.prog 10 #[.agg #[.int .i64 k, .int .i64 r, .int .i64 t], .bool had, .int .i64 key, .int .i64 was, .int .i64 value] w fun e w' => e = .returned (.tuple #[.agg #[.int .i64 0, .int .i64 0, .int .i64 0], .int .i64 1]) ∧ Below w.heap.size w w' := by
  have W := wrong3 k r t key was value
  rw [h] at W; clear h
  have W' := Lib.hid W; clear W
  go_enter Try.func10, Try.ntmps10
  go_wp2_with fail
  refine (W'.out _ _ _ (by simp)).mono ?_
  rintro e w1 ⟨rfl, hb1⟩
  obtain ⟨hc1, hf1⟩ := bcell hb1
  have hz1 : w.heap.size + 2 < w1.heap.size := by have := hb1.size; simp at this; omega
  have hz1a : w.heap.size < w1.heap.size := by omega
  have hz1b : w.heap.size + 1 < w1.heap.size := by omega
  have hB1 : Below w.heap.size w w1 := ((((Below.refl _ _).alloc (Nat.le_refl _) _).alloc (by simp) _).alloc (by simp; omega) _).trans (hb1.mono (by simp; omega))
  go_wp2
  refine bodyPost_ret (v := .tuple #[.agg #[.int .i64 0, .int .i64 0, .int .i64 0], .int .i64 1]) (by simp [results, Try.results10, go_sem, hc1]) rfl ⟨rfl, ?_⟩
  repeat (first | exact hB1 | refine Below.setCell ?_ (by simp) _)
set_option maxHeartbeats 400000 in
theorem put_few (k r t key was value : Int) (b0 : 0 ≤ k ∧ k ≤ 100) (b1 : 0 ≤ r ∧ r ≤ 4000) (b2 : 0 ≤ t ∧ t ≤ 50) (b3 : 0 ≤ key ∧ key ≤ 4000) (b4 : 0 ≤ was ∧ was ≤ 4000) (b5 : 0 ≤ value ∧ value ≤ 4000) (hq : k = 0 ∨ r < key + was) (w : World) :
    Calls Try.prog 10 #[.agg #[.int .i64 k, .int .i64 r, .int .i64 t], .bool true, .int .i64 key, .int .i64 was, .int .i64 value] w fun e w' => e = .returned (.tuple #[.agg #[.int .i64 0, .int .i64 0, .int .i64 0], .int .i64 1]) ∧ Below w.heap.size w w' := by
  have h : wrongB k r t [key, was, value] = false := wrong_false (right_iff.2 ⟨b0, b1, b2⟩) (by simp [bad_false]; omega)
  obtain ⟨b0l, b0h⟩ := b0; obtain ⟨b1l, b1h⟩ := b1; obtain ⟨b2l, b2h⟩ := b2; obtain ⟨b3l, b3h⟩ := b3; obtain ⟨b4l, b4h⟩ := b4; obtain ⟨b5l, b5h⟩ := b5
  have W := wrong3 k r t key was value
  rw [h] at W; clear h
  have W' := Lib.hid W; clear W
  by_cases hk : k = 0
  · have hk1 : (k == 0) = true := by rw [hk]; rfl
    clear hk hq
    go_enter Try.func10, Try.ntmps10
    go_wp2_with fail
    refine (W'.out _ _ _ (by simp)).mono ?_
    rintro e w1 ⟨rfl, hb1⟩
    obtain ⟨hc1, hf1⟩ := bcell hb1
    have hz1 : w.heap.size + 2 < w1.heap.size := by have := hb1.size; simp at this; omega
    have hz1a : w.heap.size < w1.heap.size := by omega
    have hz1b : w.heap.size + 1 < w1.heap.size := by omega
    have hB1 : Below w.heap.size w w1 := ((((Below.refl _ _).alloc (Nat.le_refl _) _).alloc (by simp) _).alloc (by simp; omega) _).trans (hb1.mono (by simp; omega))
    go_wp2
    refine bodyPost_ret (v := .tuple #[.agg #[.int .i64 0, .int .i64 0, .int .i64 0], .int .i64 1]) (by simp [results, Try.results10, go_sem, hc1]) rfl ⟨rfl, ?_⟩
    repeat (first | exact hB1 | refine Below.setCell ?_ (by simp) _)
  · have hk1 : (k == 0) = false := by simp [hk]
    have hr : r < key + was := by omega
    clear hk hq
    go_enter Try.func10, Try.ntmps10
    go_wp2_with fail
    refine (W'.out _ _ _ (by simp)).mono ?_
    rintro e w1 ⟨rfl, hb1⟩
    obtain ⟨hc1, hf1⟩ := bcell hb1
    have hz1 : w.heap.size + 2 < w1.heap.size := by have := hb1.size; simp at this; omega
    have hz1a : w.heap.size < w1.heap.size := by omega
    have hz1b : w.heap.size + 1 < w1.heap.size := by omega
    have hB1 : Below w.heap.size w w1 := ((((Below.refl _ _).alloc (Nat.le_refl _) _).alloc (by simp) _).alloc (by simp; omega) _).trans (hb1.mono (by simp; omega))
    go_wp2
    refine bodyPost_ret (v := .tuple #[.agg #[.int .i64 0, .int .i64 0, .int .i64 0], .int .i64 1]) (by simp [results, Try.results10, go_sem, hc1]) rfl ⟨rfl, ?_⟩
    repeat (first | exact hB1 | refine Below.setCell ?_ (by simp) _)

set_option maxHeartbeats 400000 in
theorem put_new_ok (k r t key was value : Int) (b0 : 0 ≤ k ∧ k ≤ 100) (b1 : 0 ≤ r ∧ r ≤ 4000) (b2 : 0 ≤ t ∧ t ≤ 50) (b3 : 0 ≤ key ∧ key ≤ 4000) (b4 : 0 ≤ was ∧ was ≤ 4000) (b5 : 0 ≤ value ∧ value ≤ 4000) (ho : overV (k + 1) (r + key + value) t = 0) (w : World) :
    Calls Try.prog 10 #[.agg #[.int .i64 k, .int .i64 r, .int .i64 t], .bool false, .int .i64 key, .int .i64 was, .int .i64 value] w fun e w' => e = .returned (.tuple #[.agg #[.int .i64 (k + 1), .int .i64 (r + key + value), .int .i64 t], .int .i64 0]) ∧ Below w.heap.size w w' := by
  have h : wrongB k r t [key, was, value] = false := wrong_false (right_iff.2 ⟨b0, b1, b2⟩) (by simp [bad_false]; omega)
  obtain ⟨b0l, b0h⟩ := b0; obtain ⟨b1l, b1h⟩ := b1; obtain ⟨b2l, b2h⟩ := b2; obtain ⟨b3l, b3h⟩ := b3; obtain ⟨b4l, b4h⟩ := b4; obtain ⟨b5l, b5h⟩ := b5
  have W := wrong3 k r t key was value
  rw [h] at W; clear h
  have W' := Lib.hid W; clear W
  have O := checked_ok (k + 1) (r + key + value) t ho
  have O' := Lib.hid O; clear O ho
  go_enter Try.func10, Try.ntmps10
  go_wp2_with fail
  refine (W'.out _ _ _ (by simp)).mono ?_
  rintro e w1 ⟨rfl, hb1⟩
  obtain ⟨hc1, hf1⟩ := bcell hb1
  have hz1 : w.heap.size + 2 < w1.heap.size := by have := hb1.size; simp at this; omega
  have hz1a : w.heap.size < w1.heap.size := by omega
  have hz1b : w.heap.size + 1 < w1.heap.size := by omega
  have hB1 : Below w.heap.size w w1 := ((((Below.refl _ _).alloc (Nat.le_refl _) _).alloc (by simp) _).alloc (by simp; omega) _).trans (hb1.mono (by simp; omega))
  go_wp2_with fail
  refine (O'.out _).mono ?_
  rintro e w2 ⟨rfl, hb2⟩
  obtain ⟨hc2, hf2⟩ := bcell hb2
  have hz2 : w.heap.size + 1 < w2.heap.size := by have := hb2.size; (try simp at this); omega
  have hz2a : w.heap.size < w2.heap.size := by omega
  have hB2 : Below w.heap.size w w2 := hB1.trans (hb2.mono (by omega))
  go_wp2
  refine bodyPost_ret (v := .tuple #[.agg #[.int .i64 (k + 1), .int .i64 (r + key + value), .int .i64 t], .int .i64 0]) (by simp [results, Try.results10, go_sem, hc1, hc2, hz1b]) rfl ⟨rfl, ?_⟩
  repeat (first | exact hB2 | refine Below.setCell ?_ (by simp) _)
set_option maxHeartbeats 400000 in
theorem put_new_err (k r t key was value v : Int) (b0 : 0 ≤ k ∧ k ≤ 100) (b1 : 0 ≤ r ∧ r ≤ 4000) (b2 : 0 ≤ t ∧ t ≤ 50) (b3 : 0 ≤ key ∧ key ≤ 4000) (b4 : 0 ≤ was ∧ was ≤ 4000) (b5 : 0 ≤ value ∧ value ≤ 4000) (ho : overV (k + 1) (r + key + value) t = v) (hv : v ≠ 0) (w : World) :
    Calls Try.prog 10 #[.agg #[.int .i64 k, .int .i64 r, .int .i64 t], .bool false, .int .i64 key, .int .i64 was, .int .i64 value] w fun e w' => e = .returned (.tuple #[.agg #[.int .i64 0, .int .i64 0, .int .i64 0], .int .i64 v]) ∧ Below w.heap.size w w' := by
  have h : wrongB k r t [key, was, value] = false := wrong_false (right_iff.2 ⟨b0, b1, b2⟩) (by simp [bad_false]; omega)
  obtain ⟨b0l, b0h⟩ := b0; obtain ⟨b1l, b1h⟩ := b1; obtain ⟨b2l, b2h⟩ := b2; obtain ⟨b3l, b3h⟩ := b3; obtain ⟨b4l, b4h⟩ := b4; obtain ⟨b5l, b5h⟩ := b5
  have W := wrong3 k r t key was value
  rw [h] at W; clear h
  have W' := Lib.hid W; clear W
  have O := checked_err (k + 1) (r + key + value) t v ho hv
  have O' := Lib.hid O; clear O ho hv
  go_enter Try.func10, Try.ntmps10
  go_wp2_with fail
  refine (W'.out _ _ _ (by simp)).mono ?_
  rintro e w1 ⟨rfl, hb1⟩
  obtain ⟨hc1, hf1⟩ := bcell hb1
  have hz1 : w.heap.size + 2 < w1.heap.size := by have := hb1.size; simp at this; omega
  have hz1a : w.heap.size < w1.heap.size := by omega
  have hz1b : w.heap.size + 1 < w1.heap.size := by omega
  have hB1 : Below w.heap.size w w1 := ((((Below.refl _ _).alloc (Nat.le_refl _) _).alloc (by simp) _).alloc (by simp; omega) _).trans (hb1.mono (by simp; omega))
  go_wp2_with fail
  refine (O'.out _).mono ?_
  rintro e w2 ⟨rfl, hb2⟩
  obtain ⟨hc2, hf2⟩ := bcell hb2
  have hz2 : w.heap.size + 1 < w2.heap.size := by have := hb2.size; (try simp at this); omega
  have hz2a : w.heap.size < w2.heap.size := by omega
  have hB2 : Below w.heap.size w w2 := hB1.trans (hb2.mono (by omega))
  go_wp2
  refine bodyPost_ret (v := .tuple #[.agg #[.int .i64 0, .int .i64 0, .int .i64 0], .int .i64 v]) (by simp [results, Try.results10, go_sem, hc1, hc2, hz1b]) rfl ⟨rfl, ?_⟩
  repeat (first | exact hB2 | refine Below.setCell ?_ (by simp) _)
set_option maxHeartbeats 400000 in
theorem put_had_ok (k r t key was value : Int) (b0 : 0 ≤ k ∧ k ≤ 100) (b1 : 0 ≤ r ∧ r ≤ 4000) (b2 : 0 ≤ t ∧ t ≤ 50) (b3 : 0 ≤ key ∧ key ≤ 4000) (b4 : 0 ≤ was ∧ was ≤ 4000) (b5 : 0 ≤ value ∧ value ≤ 4000) (q1 : 1 ≤ k) (q2 : key + was ≤ r) (ho : overV k (r - was + value) t = 0) (w : World) :
    Calls Try.prog 10 #[.agg #[.int .i64 k, .int .i64 r, .int .i64 t], .bool true, .int .i64 key, .int .i64 was, .int .i64 value] w fun e w' => e = .returned (.tuple #[.agg #[.int .i64 k, .int .i64 (r - was + value), .int .i64 t], .int .i64 0]) ∧ Below w.heap.size w w' := by
  have h : wrongB k r t [key, was, value] = false := wrong_false (right_iff.2 ⟨b0, b1, b2⟩) (by simp [bad_false]; omega)
  obtain ⟨b0l, b0h⟩ := b0; obtain ⟨b1l, b1h⟩ := b1; obtain ⟨b2l, b2h⟩ := b2; obtain ⟨b3l, b3h⟩ := b3; obtain ⟨b4l, b4h⟩ := b4; obtain ⟨b5l, b5h⟩ := b5
  have W := wrong3 k r t key was value
  rw [h] at W; clear h
  have W' := Lib.hid W; clear W
  have hk1 : (k == 0) = false := beq_eq_false_iff_ne.2 (by omega)
  have O := checked_ok k (r - was + value) t ho
  have O' := Lib.hid O; clear O ho
  go_enter Try.func10, Try.ntmps10
  go_wp2_with fail
  refine (W'.out _ _ _ (by simp)).mono ?_
  rintro e w1 ⟨rfl, hb1⟩
  obtain ⟨hc1, hf1⟩ := bcell hb1
  have hz1 : w.heap.size + 2 < w1.heap.size := by have := hb1.size; simp at this; omega
  have hz1a : w.heap.size < w1.heap.size := by omega
  have hz1b : w.heap.size + 1 < w1.heap.size := by omega
  have hB1 : Below w.heap.size w w1 := ((((Below.refl _ _).alloc (Nat.le_refl _) _).alloc (by simp) _).alloc (by simp; omega) _).trans (hb1.mono (by simp; omega))
  go_wp2_with fail
  refine (O'.out _).mono ?_
  rintro e w2 ⟨rfl, hb2⟩
  obtain ⟨hc2, hf2⟩ := bcell hb2
  have hz2 : w.heap.size + 1 < w2.heap.size := by have := hb2.size; (try simp at this); omega
  have hz2a : w.heap.size < w2.heap.size := by omega
  have hB2 : Below w.heap.size w w2 := hB1.trans (hb2.mono (by omega))
  go_wp2
  refine bodyPost_ret (v := .tuple #[.agg #[.int .i64 k, .int .i64 (r - was + value), .int .i64 t], .int .i64 0]) (by simp [results, Try.results10, go_sem, hc1, hc2, hz1b]) rfl ⟨rfl, ?_⟩
  repeat (first | exact hB2 | refine Below.setCell ?_ (by simp) _)
set_option maxHeartbeats 400000 in
theorem put_had_err (k r t key was value v : Int) (b0 : 0 ≤ k ∧ k ≤ 100) (b1 : 0 ≤ r ∧ r ≤ 4000) (b2 : 0 ≤ t ∧ t ≤ 50) (b3 : 0 ≤ key ∧ key ≤ 4000) (b4 : 0 ≤ was ∧ was ≤ 4000) (b5 : 0 ≤ value ∧ value ≤ 4000) (q1 : 1 ≤ k) (q2 : key + was ≤ r) (ho : overV k (r - was + value) t = v) (hv : v ≠ 0) (w : World) :
    Calls Try.prog 10 #[.agg #[.int .i64 k, .int .i64 r, .int .i64 t], .bool true, .int .i64 key, .int .i64 was, .int .i64 value] w fun e w' => e = .returned (.tuple #[.agg #[.int .i64 0, .int .i64 0, .int .i64 0], .int .i64 v]) ∧ Below w.heap.size w w' := by
  have h : wrongB k r t [key, was, value] = false := wrong_false (right_iff.2 ⟨b0, b1, b2⟩) (by simp [bad_false]; omega)
  obtain ⟨b0l, b0h⟩ := b0; obtain ⟨b1l, b1h⟩ := b1; obtain ⟨b2l, b2h⟩ := b2; obtain ⟨b3l, b3h⟩ := b3; obtain ⟨b4l, b4h⟩ := b4; obtain ⟨b5l, b5h⟩ := b5
  have W := wrong3 k r t key was value
  rw [h] at W; clear h
  have W' := Lib.hid W; clear W
  have hk1 : (k == 0) = false := beq_eq_false_iff_ne.2 (by omega)
  have O := checked_err k (r - was + value) t v ho hv
  have O' := Lib.hid O; clear O ho hv
  go_enter Try.func10, Try.ntmps10
  go_wp2_with fail
  refine (W'.out _ _ _ (by simp)).mono ?_
  rintro e w1 ⟨rfl, hb1⟩
  obtain ⟨hc1, hf1⟩ := bcell hb1
  have hz1 : w.heap.size + 2 < w1.heap.size := by have := hb1.size; simp at this; omega
  have hz1a : w.heap.size < w1.heap.size := by omega
  have hz1b : w.heap.size + 1 < w1.heap.size := by omega
  have hB1 : Below w.heap.size w w1 := ((((Below.refl _ _).alloc (Nat.le_refl _) _).alloc (by simp) _).alloc (by simp; omega) _).trans (hb1.mono (by simp; omega))
  go_wp2_with fail
  refine (O'.out _).mono ?_
  rintro e w2 ⟨rfl, hb2⟩
  obtain ⟨hc2, hf2⟩ := bcell hb2
  have hz2 : w.heap.size + 1 < w2.heap.size := by have := hb2.size; (try simp at this); omega
  have hz2a : w.heap.size < w2.heap.size := by omega
  have hB2 : Below w.heap.size w w2 := hB1.trans (hb2.mono (by omega))
  go_wp2
  refine bodyPost_ret (v := .tuple #[.agg #[.int .i64 0, .int .i64 0, .int .i64 0], .int .i64 v]) (by simp [results, Try.results10, go_sem, hc1, hc2, hz1b]) rfl ⟨rfl, ?_⟩
  repeat (first | exact hB2 | refine Below.setCell ?_ (by simp) _)
set_option maxHeartbeats 400000 in
theorem drop_ok (k r t key was : Int) (b0 : 1 ≤ k ∧ k ≤ 100) (b1 : 0 ≤ r ∧ r ≤ 4000) (b2 : 0 ≤ t ∧ t ≤ 50) (b3 : 0 ≤ key ∧ key ≤ 4000) (b4 : 0 ≤ was ∧ was ≤ 4000) (q : key + was ≤ r) (w : World) :
    Calls Try.prog 13 #[.agg #[.int .i64 k, .int .i64 r, .int .i64 t], .int .i64 key, .int .i64 was] w fun e w' => e = .returned (.tuple #[.agg #[.int .i64 (k - 1), .int .i64 (r - key - was), .int .i64 t], .int .i64 0]) ∧ Below w.heap.size w w' := by
  have h : wrongB k r t [key, was] = false := wrong_false (right_iff.2 ⟨by omega, b1, b2⟩) (by simp [bad_false]; omega)
  obtain ⟨b0l, b0h⟩ := b0; obtain ⟨b1l, b1h⟩ := b1; obtain ⟨b2l, b2h⟩ := b2; obtain ⟨b3l, b3h⟩ := b3; obtain ⟨b4l, b4h⟩ := b4
  have W := wrong2 k r t key was
  rw [h] at W; clear h
  have W' := Lib.hid W; clear W
  have hk1 : (k == 0) = false := beq_eq_false_iff_ne.2 (by omega)
  go_enter Try.func13, Try.ntmps13
  go_wp2_with fail
  refine (W'.out _ _ _ (by simp)).mono ?_
  rintro e w1 ⟨rfl, hb1⟩
  obtain ⟨hc1, hf1⟩ := bcell hb1
  have hz1 : w.heap.size + 2 < w1.heap.size := by have := hb1.size; simp at this; omega
  have hz1a : w.heap.size < w1.heap.size := by omega
  have hz1b : w.heap.size + 1 < w1.heap.size := by omega
  have hB1 : Below w.heap.size w w1 := ((((Below.refl _ _).alloc (Nat.le_refl _) _).alloc (by simp) _).alloc (by simp; omega) _).trans (hb1.mono (by simp; omega))
  go_wp2
  refine bodyPost_ret (v := .tuple #[.agg #[.int .i64 (k - 1), .int .i64 (r - key - was), .int .i64 t], .int .i64 0]) (by simp [results, Try.results13, go_sem, hc1]) rfl ⟨rfl, ?_⟩
  repeat (first | exact hB1 | refine Below.setCell ?_ (by simp) _)
set_option maxHeartbeats 400000 in
theorem arm_wrong (k r t : Int) (had : Bool) (h : rightB k r t = false) (w : World) :
    Calls Try.prog 12 #[.agg #[.int .i64 k, .int .i64 r, .int .i64 t], .bool had] w fun e w' => e = .returned (.tuple #[.agg #[.int .i64 0, .int .i64 0, .int .i64 0], .int .i64 1]) ∧ Below w.heap.size w w' := by
  have W := wrong_nil k r t 0
  rw [h] at W; clear h
  have W' := Lib.hid W; clear W
  go_enter Try.func12, Try.ntmps12
  go_wp2_with fail
  refine (W'.out _).mono ?_
  rintro e w1 ⟨rfl, hb1⟩
  obtain ⟨hc1, hf1⟩ := bcell hb1
  have hz1 : w.heap.size + 1 < w1.heap.size := by have := hb1.size; simp at this; omega
  have hz1a : w.heap.size < w1.heap.size := by omega
  have hz1b : w.heap.size + 1 < w1.heap.size := by omega
  have hB1 : Below w.heap.size w w1 := (((Below.refl _ _).alloc (Nat.le_refl _) _).alloc (by simp) _).trans (hb1.mono (by simp; omega))
  go_wp2
  refine bodyPost_ret (v := .tuple #[.agg #[.int .i64 0, .int .i64 0, .int .i64 0], .int .i64 1]) (by simp [results, Try.results12, go_sem, hc1]) rfl ⟨rfl, ?_⟩
  repeat (first | exact hB1 | refine Below.setCell ?_ (by simp) _)
set_option maxHeartbeats 400000 in
theorem arm_new_ok (k r t : Int) (b0 : 0 ≤ k ∧ k ≤ 100) (b1 : 0 ≤ r ∧ r ≤ 4000) (b2 : 0 ≤ t ∧ t ≤ 50) (ho : overV k r (t + 1) = 0) (w : World) :
    Calls Try.prog 12 #[.agg #[.int .i64 k, .int .i64 r, .int .i64 t], .bool false] w fun e w' => e = .returned (.tuple #[.agg #[.int .i64 k, .int .i64 r, .int .i64 (t + 1)], .int .i64 0]) ∧ Below w.heap.size w w' := by
  have h := right_iff.2 ⟨b0, b1, b2⟩
  obtain ⟨b0l, b0h⟩ := b0; obtain ⟨b1l, b1h⟩ := b1; obtain ⟨b2l, b2h⟩ := b2
  have W := wrong_nil k r t 0
  rw [h] at W; clear h
  have W' := Lib.hid W; clear W
  have O := checked_ok k r (t + 1) ho
  have O' := Lib.hid O; clear O ho
  go_enter Try.func12, Try.ntmps12
  go_wp2_with fail
  refine (W'.out _).mono ?_
  rintro e w1 ⟨rfl, hb1⟩
  obtain ⟨hc1, hf1⟩ := bcell hb1
  have hz1 : w.heap.size + 1 < w1.heap.size := by have := hb1.size; simp at this; omega
  have hz1a : w.heap.size < w1.heap.size := by omega
  have hz1b : w.heap.size + 1 < w1.heap.size := by omega
  have hB1 : Below w.heap.size w w1 := (((Below.refl _ _).alloc (Nat.le_refl _) _).alloc (by simp) _).trans (hb1.mono (by simp; omega))
  have hcell : w1.cell? ⟨w.heap.size, 2, none⟩ = some (.int .i64 t) := by rw [hc1 _ _ (by simp; omega)]; simp [go_sem]
  go_wp2_with fail
  refine (O'.out _).mono ?_
  rintro e w2 ⟨rfl, hb2⟩
  obtain ⟨hc2, hf2⟩ := bcell hb2
  have hz2 : w.heap.size + 1 < w2.heap.size := by have := hb2.size; (try simp at this); omega
  have hz2a : w.heap.size < w2.heap.size := by omega
  have hB2 : Below w.heap.size w w2 := (hB1.setCell (p := ⟨w.heap.size, 2, none⟩) (by simp) _).trans (hb2.mono (by simp; omega))
  go_wp2
  refine bodyPost_ret (v := .tuple #[.agg #[.int .i64 k, .int .i64 r, .int .i64 (t + 1)], .int .i64 0]) (by simp [results, Try.results12, go_sem, hc1, hc2, hz1b]) rfl ⟨rfl, ?_⟩
  repeat (first | exact hB2 | refine Below.setCell ?_ (by simp) _)
set_option maxHeartbeats 400000 in
theorem arm_new_err (k r t v : Int) (b0 : 0 ≤ k ∧ k ≤ 100) (b1 : 0 ≤ r ∧ r ≤ 4000) (b2 : 0 ≤ t ∧ t ≤ 50) (ho : overV k r (t + 1) = v) (hv : v ≠ 0) (w : World) :
    Calls Try.prog 12 #[.agg #[.int .i64 k, .int .i64 r, .int .i64 t], .bool false] w fun e w' => e = .returned (.tuple #[.agg #[.int .i64 0, .int .i64 0, .int .i64 0], .int .i64 v]) ∧ Below w.heap.size w w' := by
  have h := right_iff.2 ⟨b0, b1, b2⟩
  obtain ⟨b0l, b0h⟩ := b0; obtain ⟨b1l, b1h⟩ := b1; obtain ⟨b2l, b2h⟩ := b2
  have W := wrong_nil k r t 0
  rw [h] at W; clear h
  have W' := Lib.hid W; clear W
  have O := checked_err k r (t + 1) v ho hv
  have O' := Lib.hid O; clear O ho hv
  go_enter Try.func12, Try.ntmps12
  go_wp2_with fail
  refine (W'.out _).mono ?_
  rintro e w1 ⟨rfl, hb1⟩
  obtain ⟨hc1, hf1⟩ := bcell hb1
  have hz1 : w.heap.size + 1 < w1.heap.size := by have := hb1.size; simp at this; omega
  have hz1a : w.heap.size < w1.heap.size := by omega
  have hz1b : w.heap.size + 1 < w1.heap.size := by omega
  have hB1 : Below w.heap.size w w1 := (((Below.refl _ _).alloc (Nat.le_refl _) _).alloc (by simp) _).trans (hb1.mono (by simp; omega))
  have hcell : w1.cell? ⟨w.heap.size, 2, none⟩ = some (.int .i64 t) := by rw [hc1 _ _ (by simp; omega)]; simp [go_sem]
  go_wp2_with fail
  refine (O'.out _).mono ?_
  rintro e w2 ⟨rfl, hb2⟩
  obtain ⟨hc2, hf2⟩ := bcell hb2
  have hz2 : w.heap.size + 1 < w2.heap.size := by have := hb2.size; (try simp at this); omega
  have hz2a : w.heap.size < w2.heap.size := by omega
  have hB2 : Below w.heap.size w w2 := (hB1.setCell (p := ⟨w.heap.size, 2, none⟩) (by simp) _).trans (hb2.mono (by simp; omega))
  go_wp2
  refine bodyPost_ret (v := .tuple #[.agg #[.int .i64 0, .int .i64 0, .int .i64 0], .int .i64 v]) (by simp [results, Try.results12, go_sem, hc1, hc2, hz1b]) rfl ⟨rfl, ?_⟩
  repeat (first | exact hB2 | refine Below.setCell ?_ (by simp) _)
set_option maxHeartbeats 400000 in
theorem arm_had_ok (k r t : Int) (b0 : 0 ≤ k ∧ k ≤ 100) (b1 : 0 ≤ r ∧ r ≤ 4000) (b2 : 0 ≤ t ∧ t ≤ 50) (q : 1 ≤ t) (w : World) :
    Calls Try.prog 12 #[.agg #[.int .i64 k, .int .i64 r, .int .i64 t], .bool true] w fun e w' => e = .returned (.tuple #[.agg #[.int .i64 k, .int .i64 r, .int .i64 t], .int .i64 0]) ∧ Below w.heap.size w w' := by
  have ho : overV k r t = 0 := over_zero b0.2 b1.2 b2.2
  have h := right_iff.2 ⟨b0, b1, b2⟩
  obtain ⟨b0l, b0h⟩ := b0; obtain ⟨b1l, b1h⟩ := b1; obtain ⟨b2l, b2h⟩ := b2
  have W := wrong_nil k r t 0
  rw [h] at W; clear h
  have W' := Lib.hid W; clear W
  have ht1 : (t == 0) = false := beq_eq_false_iff_ne.2 (by omega)
  have O := checked_ok k r t ho
  have O' := Lib.hid O; clear O ho
  go_enter Try.func12, Try.ntmps12
  go_wp2_with fail
  refine (W'.out _).mono ?_
  rintro e w1 ⟨rfl, hb1⟩
  obtain ⟨hc1, hf1⟩ := bcell hb1
  have hz1 : w.heap.size + 1 < w1.heap.size := by have := hb1.size; simp at this; omega
  have hz1a : w.heap.size < w1.heap.size := by omega
  have hz1b : w.heap.size + 1 < w1.heap.size := by omega
  have hB1 : Below w.heap.size w w1 := (((Below.refl _ _).alloc (Nat.le_refl _) _).alloc (by simp) _).trans (hb1.mono (by simp; omega))
  go_wp2_with fail
  refine (O'.out _).mono ?_
  rintro e w2 ⟨rfl, hb2⟩
  obtain ⟨hc2, hf2⟩ := bcell hb2
  have hz2 : w.heap.size + 1 < w2.heap.size := by have := hb2.size; (try simp at this); omega
  have hz2a : w.heap.size < w2.heap.size := by omega
  have hB2 : Below w.heap.size w w2 := hB1.trans (hb2.mono (by omega))
  go_wp2
  refine bodyPost_ret (v := .tuple #[.agg #[.int .i64 k, .int .i64 r, .int .i64 t], .int .i64 0]) (by simp [results, Try.results12, go_sem, hc1, hc2, hz1b]) rfl ⟨rfl, ?_⟩
  repeat (first | exact hB2 | refine Below.setCell ?_ (by simp) _)
set_option maxHeartbeats 400000 in
theorem cancel_ok (k r t : Int) (b0 : 0 ≤ k ∧ k ≤ 100) (b1 : 0 ≤ r ∧ r ≤ 4000) (b2 : 0 ≤ t ∧ t ≤ 50) (q : 1 ≤ t) (w : World) :
    Calls Try.prog 14 #[.agg #[.int .i64 k, .int .i64 r, .int .i64 t]] w fun e w' => e = .returned (.tuple #[.agg #[.int .i64 k, .int .i64 r, .int .i64 (t - 1)], .int .i64 0]) ∧ Below w.heap.size w w' := by
  have h := right_iff.2 ⟨b0, b1, b2⟩
  obtain ⟨b0l, b0h⟩ := b0; obtain ⟨b1l, b1h⟩ := b1; obtain ⟨b2l, b2h⟩ := b2
  have W := wrong_nil k r t 0
  rw [h] at W; clear h
  have W' := Lib.hid W; clear W
  have ht1 : (t == 0) = false := beq_eq_false_iff_ne.2 (by omega)
  go_enter Try.func14, Try.ntmps14
  go_wp2_with fail
  refine (W'.out _).mono ?_
  rintro e w1 ⟨rfl, hb1⟩
  obtain ⟨hc1, hf1⟩ := bcell hb1
  have hz1 : w.heap.size + 1 < w1.heap.size := by have := hb1.size; simp at this; omega
  have hz1a : w.heap.size < w1.heap.size := by omega
  have hz1b : w.heap.size + 1 < w1.heap.size := by omega
  have hB1 : Below w.heap.size w w1 := (((Below.refl _ _).alloc (Nat.le_refl _) _).alloc (by simp) _).trans (hb1.mono (by simp; omega))
  have hcell : w1.cell? ⟨w.heap.size, 2, none⟩ = some (.int .i64 t) := by rw [hc1 _ _ (by simp; omega)]; simp [go_sem]
  go_wp2
  refine bodyPost_ret (v := .tuple #[.agg #[.int .i64 k, .int .i64 r, .int .i64 (t - 1)], .int .i64 0]) (by simp [results, Try.results14, go_sem, hc1]) rfl ⟨rfl, ?_⟩
  repeat (first | exact hB1 | refine Below.setCell ?_ (by simp) _)
end Go.Proofs.Ytlemjdkefojoeaa
