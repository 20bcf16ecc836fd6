/-
  The walk of layer 6's built: a queue behind the puts and drops of a script.
-/
import Derived.Test.YticnckclmlejhaaDueQ
namespace Go.Proofs.Yticnckclmlejhaa
open Go.RowKit Go.ChangeMaps Hp

/-- The script's acts, in memory. -/
def Acts (w : World) (b off n : Nat) (K T : Nat → Int) (Nm : Nat → ByteArray) : Prop :=
  b < w.heap.size ∧ ∀ i, i < n → w.cell? ⟨b, off + i * 3, none⟩ = some (.int .i64 (K i)) ∧ w.cell? ⟨b, off + i * 3 + 1, none⟩ = some (.string (Nm i)) ∧ w.cell? ⟨b, off + i * 3 + 2, none⟩ = some (.int .u64 (T i))
theorem Acts.below {w w' : World} {b off n : Nat} {K T : Nat → Int} {Nm : Nat → ByteArray} (h : Acts w b off n K T Nm) {B : Nat} (hb : Below B w w') (hB : b < B) : Acts w' b off n K T Nm :=
  ⟨Nat.lt_of_lt_of_le h.1 hb.size, fun i hi => ⟨(hb.cell (p := ⟨b, off + i * 3, none⟩) hB).trans (h.2 i hi).1, (hb.cell (p := ⟨b, off + i * 3 + 1, none⟩) hB).trans (h.2 i hi).2.1, (hb.cell (p := ⟨b, off + i * 3 + 2, none⟩) hB).trans (h.2 i hi).2.2⟩⟩

def act1 (k : Int) (nm : ByteArray) (t : Int) (S : List Ent) : List Ent :=
  if nm.size ≤ 40 then (if k = 1 then ins ⟨nm, t⟩ (fltr nm S) else if k = 2 then fltr nm S else S) else S
def bld (K T : Nat → Int) (Nm : Nat → ByteArray) : Nat → List Ent
  | 0 => []
  | i + 1 => act1 (K i) (Nm i) (T i) (bld K T Nm i)
theorem bld_len (K T : Nat → Int) (Nm : Nat → ByteArray) : ∀ i, (bld K T Nm i).length ≤ i
  | 0 => Nat.le_refl _
  | i + 1 => by
    have ih := bld_len K T Nm i
    have h1 := fltr_length (Nm i) (bld K T Nm i)
    have h2 := put_len ⟨Nm i, T i⟩ (bld K T Nm i)
    unfold bld act1
    split
    · split
      · exact Nat.le_trans h2 (by omega)
      · split <;> omega
    · omega
/-- A queue that the call has made. -/
def Mine (w wr : World) (q : Nat) (S : List Ent) : Prop := ∃ B, Que wr q B S ∧ Below w.heap.size w wr ∧ ∀ k, B k → w.heap.size ≤ k

theorem Mine.chg {w wr w' : World} {q : Nat} {S' : List Ent} {B B' : Nat → Prop} (hb : Below w.heap.size w wr) (hB : ∀ k, B k → w.heap.size ≤ k) (h : Que w' q B' S') (c : Chg B B' wr w') : Mine w w' q S' :=
  ⟨B', h, hb.trans (c.below hB hb.size), c.base hB hb.size⟩

theorem Mine.weak {w wr w' : World} {q : Nat} {S : List Ent} (h : Mine w wr q S) (hb : Below wr.heap.size wr w') : Mine w w' q S := by
  obtain ⟨B, h1, h2, h3⟩ := h
  exact ⟨B, h1.below hb, h2.trans (hb.mono h2.size), h3⟩
theorem put_mine {w wr : World} {q : Nat} {S : List Ent} (h : Mine w wr q S) (hb : S.length ≤ 999999) (a : ByteArray) (t : Int) :
    Calls Try.prog 18 #[.pointer (some ⟨q, 0, none⟩), .string a, .int .u64 t] wr fun r w' => r = .returned (.bool (fnd S a).isSome) ∧ Mine w w' q (ins ⟨a, t⟩ (fltr a S)) := by
  obtain ⟨B, h1, h2, h3⟩ := h
  exact (put_que h1 hb ⟨a, t⟩).mono fun _ _ ⟨hr, B', q1, c1⟩ => ⟨hr, Mine.chg h2 h3 q1 c1⟩
theorem drop_mine {w wr : World} {q : Nat} {S : List Ent} (h : Mine w wr q S) (hb : S.length ≤ 999999) (a : ByteArray) :
    Calls Try.prog 13 #[.pointer (some ⟨q, 0, none⟩), .string a] wr fun r w' => r = .returned (.bool (fnd S a).isSome) ∧ Mine w w' q (fltr a S) := by
  obtain ⟨B, h1, h2, h3⟩ := h
  exact (drop_que h1 hb a).mono fun _ _ ⟨hr, B', q1, c1⟩ => ⟨hr, Mine.chg h2 h3 q1 c1⟩
theorem new_mine (w : World) : Calls Try.prog 17 #[] w fun r w' => ∃ q, r = .returned (.pointer (some ⟨q, 0, none⟩)) ∧ Mine w w' q [] :=
  (new_que w).mono fun _ _ ⟨q, B, hr, h1, h2, h3⟩ => ⟨q, hr, B, h1, h2, h3⟩

theorem acts_at {w wr : World} {q b off n : Nat} {K T : Nat → Int} {Nm : Nat → ByteArray} {S : List Ent} {j : Nat} {a : ByteArray} {t : Int} (h : Acts w b off n K T Nm) (hm : Mine w wr q S) (hj : j < n) (ha : Nm j = a) (ht : T j = t) :
    wr.cell? ⟨b, off + j * 3 + 1, none⟩ = some (.string a) ∧ wr.cell? ⟨b, off + j * 3 + 2, none⟩ = some (.int .u64 t) := by
  obtain ⟨B, _, h2, _⟩ := hm
  obtain ⟨_, c1, c2⟩ := (h.below h2 h.1).2 j hj
  rw [ha] at c1; rw [ht] at c2
  exact ⟨c1, c2⟩

theorem acts3 {w wr : World} {q b off n : Nat} {K T : Nat → Int} {Nm : Nat → ByteArray} {S : List Ent} {j : Nat} {a : ByteArray} {k : Int} (h : Acts w b off n K T Nm) (hm : Mine w wr q S) (hj : j < n) (hk : K j = k) (ha : Nm j = a) :
    wr.cell? ⟨b, off + j * 3, none⟩ = some (.int .i64 k) ∧ wr.cell? ⟨b, off + j * 3 + 1, none⟩ = some (.string a) ∧ b < wr.heap.size := by
  obtain ⟨B, _, h2, _⟩ := hm
  obtain ⟨c0, c1, _⟩ := (h.below h2 h.1).2 j hj
  rw [ha] at c1; rw [hk] at c0
  exact ⟨c0, c1, (h.below h2 h.1).1⟩

set_option maxRecDepth 100000 in
set_option maxHeartbeats 3200000 in
theorem built_law (b off n cap : Nat) (K T : Nat → Int) (Nm : Nat → ByteArray) (w : World) (hA : Acts w b off n K T Nm) (hn : n ≤ 9223372036854775807) :
    Calls Try.prog 9 #[.slice (some ⟨b, off, none⟩) n cap] w fun r w' => ∃ q, r = .returned (.pointer (some ⟨q, 0, none⟩)) ∧ Mine w w' q (bld K T Nm (min n 150)) := by
  have HA := Lib.hid hA
  clear hA
  go_enter Try.func9, Try.ntmps9
  go_wp2_with (go_at_call 17; (with_reducible refine (new_mine _).mono ?_); rintro r w1 ⟨q, rfl, h1⟩; have H1 := Lib.hid h1; clear h1)
  go_loopw [4] (fun i wr => ∃ j : Nat, i = .int .i64 j ∧ j ≤ n ∧ j ≤ 150 ∧ Hid (Mine w wr q (bld K T Nm j))) (fun i _ => n - (intOf i).toNat)
  case atStart => exact ⟨0, rfl, Nat.zero_le _, Nat.zero_le _, H1⟩
  case round =>
    obtain ⟨j, rfl, hj1, hj2, HM⟩ := hrel
    clear H1
    by_cases hc1 : j < n
    · by_cases hc2 : j < 150
      · have hlen : (bld K T Nm j).length ≤ 999999 := Nat.le_trans (bld_len K T Nm j) (by omega)
        have hA := (HA.out.below HM.out.choose_spec.2.1 HA.out.1)
        obtain ⟨c0, c1, c2⟩ := hA.2 j hc1
        have hbl : b < wr.heap.size := hA.1
        clear hA
        have p1 : (0 : Int) ≤ (j : Int) := by omega
        have p2 : (j : Int) < (n : Int) := by omega
        obtain ⟨k, hk⟩ : ∃ k, K j = k := ⟨_, rfl⟩
        obtain ⟨a, ha⟩ : ∃ a, Nm j = a := ⟨_, rfl⟩
        obtain ⟨t, ht⟩ : ∃ t, T j = t := ⟨_, rfl⟩
        have hb1 : Hid (bld K T Nm (j + 1) = act1 k a t (bld K T Nm j)) := Lib.hid (by rw [← hk, ← ha, ← ht]; rfl)
        rw [hk] at c0; rw [ha] at c1; rw [ht] at c2
        obtain ⟨S, hS⟩ : ∃ S, bld K T Nm j = S := ⟨_, rfl⟩
        rw [hS] at HM hlen hb1
        by_cases hs : a.size ≤ 40
        · have e0 : ((a.size : Int) ≤ 40) = True := by simp; omega
          by_cases hk1 : k = 1
          · subst hk1
            have e1 : ((1 : Int) == 1) = true := rfl
            have e2 : ((1 : Int) == 2) = false := rfl
            have D := Lib.hid (fun wx (hx : Below wr.heap.size wr wx) => put_mine (HM.out.weak hx) hlen a t)
            go_wp2
            go_region_held3 (fun w' => w'.cell? ⟨b, off + j * 3 + 1, none⟩ = some (.string a) ∧ w'.cell? ⟨b, off + j * 3 + 2, none⟩ = some (.int .u64 t)) (first | exact ⟨c1, c2⟩ | exact acts_at HA.out hm2 hc1 ha ht)
              (first
                | (go_at_call 18; refine (D.out _ (Below.refl _ _).drew).mono ?_; rintro e w2 ⟨rfl, hm2⟩))
            have HM2 := Lib.hid hm2
            obtain ⟨d0, d1, d2⟩ := acts3 HA.out hm2 hc1 hk ha
            clear hm2
            go_wp2
            go_roundw
            case rel => exact ⟨j + 1, by go_num, by omega, by omega, Lib.hid (by rw [hb1.out]; unfold act1; rw [if_pos hs, if_pos rfl]; exact HM2.out)⟩
            case measure => simp [intOf]; omega
          · by_cases hk2 : k = 2
            · subst hk2
              have e1 : ((2 : Int) == 1) = false := rfl
              have e2 : ((2 : Int) == 2) = true := rfl
              have D := Lib.hid (drop_mine HM.out hlen a)
              go_wp2_with (go_at_call 13; (with_reducible refine D.out.mono ?_); rintro r w2 ⟨rfl, hm2⟩; have HM2 := Lib.hid hm2; clear hm2)
              go_roundw
              case rel => exact ⟨j + 1, by go_num, by omega, by omega, Lib.hid (by rw [hb1.out]; unfold act1; rw [if_pos hs, if_neg (by decide), if_pos rfl]; exact HM2.out)⟩
              case measure => simp [intOf]; omega
            · have e1 : (k == 1) = false := by simp [hk1]
              have e2 : (k == 2) = false := by simp [hk2]
              go_wp2
              go_roundw
              case rel => exact ⟨j + 1, by go_num, by omega, by omega, Lib.hid (by rw [hb1.out]; unfold act1; rw [if_pos hs, if_neg hk1, if_neg hk2]; exact HM.out)⟩
              case measure => simp [intOf]; omega
        · have e0 : ((a.size : Int) ≤ 40) = False := by simp; omega
          go_wp2
          go_roundw
          case rel => exact ⟨j + 1, by go_num, by omega, by omega, Lib.hid (by rw [hb1.out]; unfold act1; rw [if_neg hs]; exact HM.out)⟩
          case measure => simp [intOf]; omega
      · have hmin : min n 150 = j := by omega
        go_wp2
        go_ret
        exact ⟨q, rfl, by rw [hmin]; exact HM.out⟩
    · have hmin : min n 150 = j := by omega
      go_wp2
      go_ret
      exact ⟨q, rfl, by rw [hmin]; exact HM.out⟩
theorem built_empty (A : Option Addr) (cap : Nat) (w : World) :
    Calls Try.prog 9 #[.slice A 0 cap] w fun r w' => ∃ q, r = .returned (.pointer (some ⟨q, 0, none⟩)) ∧ Mine w w' q [] := by
  go_enter Try.func9, Try.ntmps9
  go_wp2_with (go_at_call 17; (with_reducible refine (new_mine _).mono ?_); rintro r w1 ⟨q, rfl, h1⟩; have H1 := Lib.hid h1; clear h1)
  go_loopw [4] (fun i wr => i = .int .i64 0 ∧ Hid (Mine w wr q [])) (fun _ _ => 0)
  case atStart => exact ⟨rfl, H1⟩
  case round =>
    obtain ⟨rfl, HM⟩ := hrel
    clear H1
    go_wp2
    go_ret
    exact ⟨q, rfl, HM.out⟩
end Go.Proofs.Yticnckclmlejhaa
