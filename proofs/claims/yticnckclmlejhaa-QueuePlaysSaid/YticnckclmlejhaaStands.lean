/-
  The walk of layer 6's stands.
-/
import Derived.Test.YticnckclmlejhaaRefC
namespace Go.Proofs.Yticnckclmlejhaa
open Go.RowKit Go.ChangeMaps Hp

/-- A queue and the document's list. -/
def QL (w wr : World) (q : Nat) (S : List Ent) (A : Option Addr) (L : List Ent) : Prop :=
  ∃ B, Que wr q B S ∧ Below w.heap.size w wr ∧ (∀ k, B k → w.heap.size ≤ k) ∧ LRow wr A L ∧ (L ≠ [] → ∀ g off, A = some ⟨g, off, none⟩ → ¬ B g)

section
variable {w wr w' : World} {q : Nat} {S L : List Ent} {A : Option Addr}
theorem QL.below (h : QL w wr q S A L) (hb : Below wr.heap.size wr w') : QL w w' q S A L := by
  obtain ⟨B, h1, h2, h3, h4, h5⟩ := h
  exact ⟨B, h1.below hb, h2.trans (hb.mono h2.size), h3, h4.below hb, h5⟩
theorem QL.bel (h : QL w wr q S A L) : Below w.heap.size w wr := by
  obtain ⟨B, h1, h2, _⟩ := h
  exact h2
theorem QL.row (h : QL w wr q S A L) : LRow wr A L := by
  obtain ⟨B, h1, h2, h3, h4, _⟩ := h
  exact h4
theorem QL.uniq (h : QL w wr q S A L) : Uniq S := by
  obtain ⟨B, h1, _⟩ := h
  exact h1.uniq
theorem QL.sorted (h : QL w wr q S A L) : Sorted S := by
  obtain ⟨B, h1, _⟩ := h
  exact h1.sorted
theorem len_QL (h : QL w wr q S A L) : Calls Try.prog 10 #[.pointer (some ⟨q, 0, none⟩)] wr fun r w' => r = .returned (.int .i64 S.length) ∧ wr = w' := by
  obtain ⟨B, h1, _⟩ := h
  exact len_que h1
theorem at_QL (h : QL w wr q S A L) (nm : ByteArray) : Calls Try.prog 12 #[.pointer (some ⟨q, 0, none⟩), .string nm] wr fun r w' => r = .returned (atV (fnd S nm)) ∧ wr = w' := by
  obtain ⟨B, h1, _⟩ := h
  exact at_que h1 nm
theorem front_QL (h : QL w wr q S A L) : Calls Try.prog 16 #[.pointer (some ⟨q, 0, none⟩)] wr fun r w' => r = .returned (.tuple #[.agg #[.string (hdE S).nm, .int .u64 (hdE S).tk], .bool (!S.isEmpty)]) ∧ Below wr.heap.size wr w' := by
  obtain ⟨B, h1, _⟩ := h
  exact (front_hd h1).mono fun r w' ⟨hr, _, hb⟩ => ⟨hr, hb⟩
theorem QL.chg {B B' : Nat → Prop} {S' : List Ent} (h2 : Below w.heap.size w wr) (h3 : ∀ k, B k → w.heap.size ≤ k) (h4 : LRow wr A L) (h5 : L ≠ [] → ∀ g off, A = some ⟨g, off, none⟩ → ¬ B g) (hq : Que w' q B' S') (hc : Chg B B' wr w') : QL w w' q S' A L := by
  refine ⟨B', hq, h2.trans (hc.below h3 h2.size), hc.base h3 h2.size, ?_, fun hL g off hA e => ?_⟩
  · rcases h4 with h | ⟨g, off, k1, k2, k3⟩
    · exact .inl h
    · by_cases hL : L = []
      · exact .inl hL
      · have hk := hc.block g k2 (h5 hL g off k1)
        exact .inr ⟨g, off, k1, Nat.lt_of_lt_of_le k2 hc.size, fun j hj => ⟨(World.cell?_of_block (w := wr) (a := ⟨g, off + j * 2, none⟩) hk).trans (k3 j hj).1, (World.cell?_of_block (w := wr) (a := ⟨g, off + j * 2 + 1, none⟩) hk).trans (k3 j hj).2⟩⟩
  · rcases hc.foot g e with e | e
    · exact h5 hL g off hA e
    · rcases h4 with h | ⟨g', off', k1, k2, k3⟩
      · exact hL h
      · rw [hA] at k1
        injection k1 with k1
        injection k1 with k1
        subst k1
        omega
theorem put_QL (h : QL w wr q S A L) (hb : S.length ≤ 999999) (a : ByteArray) (t : Int) : Calls Try.prog 18 #[.pointer (some ⟨q, 0, none⟩), .string a, .int .u64 t] wr fun r w' => r = .returned (.bool (fnd S a).isSome) ∧ QL w w' q (putE ⟨a, t⟩ S) A L := by
  obtain ⟨B, h1, h2, h3, h4, h5⟩ := h
  exact (put_que h1 hb ⟨a, t⟩).mono fun r w' ⟨hr, B', q1, c1⟩ => ⟨hr, QL.chg h2 h3 h4 h5 q1 c1⟩
theorem drop_QL (h : QL w wr q S A L) (hb : S.length ≤ 999999) (a : ByteArray) : Calls Try.prog 13 #[.pointer (some ⟨q, 0, none⟩), .string a] wr fun r w' => r = .returned (.bool (fnd S a).isSome) ∧ QL w w' q (fltr a S) A L := by
  obtain ⟨B, h1, h2, h3, h4, h5⟩ := h
  exact (drop_que h1 hb a).mono fun r w' ⟨hr, B', q1, c1⟩ => ⟨hr, QL.chg h2 h3 h4 h5 q1 c1⟩
theorem pop_QL (h : QL w wr q S A L) (hb : S.length ≤ 999999) : Calls Try.prog 11 #[.pointer (some ⟨q, 0, none⟩)] wr fun r w' => r = .returned (.tuple #[.agg #[.string (hdE S).nm, .int .u64 (hdE S).tk], .bool (!S.isEmpty)]) ∧ QL w w' q S.tail A L := by
  obtain ⟨B, h1, h2, h3, h4, h5⟩ := h
  rw [← frontV_hd]
  exact (pop_que h1 hb).mono fun r w' ⟨hr, B', q1, c1⟩ => ⟨hr, QL.chg h2 h3 h4 h5 q1 c1⟩
theorem due_QL (h : QL w wr q S A L) (hb : S.length ≤ 999999) (t : Int) : Calls Try.prog 15 #[.pointer (some ⟨q, 0, none⟩), .int .u64 t] wr fun r w' => ∃ o, r = .returned o ∧ QL w w' q (S.dropWhile (duep t)) A L ∧ ERow w' o (S.takeWhile (duep t)) := by
  obtain ⟨B, h1, h2, h3, h4, h5⟩ := h
  refine (due_que h1 t hb).mono ?_
  rintro r w' ⟨o, B', rfl, q1, c1, hr, _⟩
  exact ⟨o, rfl, QL.chg h2 h3 h4 h5 q1 c1, _, hr⟩
/-- A new list of the document's. -/
theorem QL.new {o : Value} {L' : List Ent} (h : QL w wr q S A L) (hd : DRow wr w' o L') : ∃ A' cap, o = .slice A' L'.length cap ∧ L'.length ≤ cap ∧ cap ≤ maxLen ∧ QL w w' q S A' L' := by
  obtain ⟨B, h1, h2, h3, h4, h5⟩ := h
  have hlt := hd.2.lt
  obtain ⟨hl, hrow⟩ := hd.2
  rcases hrow with ⟨e, h0⟩ | ⟨g, cap, cur, e, hg, hh, hc1, hc2, hc3, hc4⟩
  · refine ⟨none, 0, by rw [e, h0], by omega, by unfold maxLen; omega, B, h1.below hd.1, h2.trans (hd.1.mono h2.size), h3, .inl ?_, fun hL => ?_⟩
    · exact List.length_eq_zero_iff.1 h0
    · exact absurd (List.length_eq_zero_iff.1 h0) hL
  · refine ⟨_, cap, e, hc1, hc2, B, h1.below hd.1, h2.trans (hd.1.mono h2.size), h3, .inr ⟨g, 0, rfl, (hlt g (by rw [e]; rfl)).2, fun j hj => ?_⟩, fun _ g' off' hA hB => ?_⟩
    · have hd' : DRow wr w' (.slice (some ⟨g, 0, none⟩) L'.length cap) L' := e ▸ hd
      obtain ⟨c0, c1, _⟩ := hd'.cells rfl hj
      rw [Nat.zero_add]
      exact ⟨c0, c1⟩
    · injection hA with hA
      injection hA with hA
      subst hA
      have := h1.lt _ hB
      omega
/-- A part of the document's list. -/
theorem QL.drop (h : QL w wr q S A L) (k : Nat) {A' : Option Addr} (hA : L.drop k = [] ∨ ∀ g off, A = some ⟨g, off, none⟩ → A' = some ⟨g, off + k * 2, none⟩) : QL w wr q S A' (L.drop k) := by
  obtain ⟨B, h1, h2, h3, h4, h5⟩ := h
  by_cases hk : L.drop k = []
  · exact ⟨B, h1, h2, h3, .inl hk, fun hL => absurd hk hL⟩
  · have hA := hA.resolve_left hk
    have hL : L ≠ [] := by rintro rfl; simp at hk
    rcases h4 with h | ⟨g, off, k1, k2, k3⟩
    · exact absurd h hL
    · refine ⟨B, h1, h2, h3, .inr ⟨g, off + k * 2, hA g off k1, k2, fun j hj => ?_⟩, fun _ g' off' e => ?_⟩
      · have hj2 : k + j < L.length := by simp at hj; omega
        have he : elt (L.drop k) j = elt L (k + j) := by rw [elt_elem hj, elt_elem hj2]; simp
        rw [he, show off + k * 2 + j * 2 = off + (k + j) * 2 by omega]
        exact k3 (k + j) hj2
      · rw [hA g off k1] at e
        injection e with e
        injection e with e
        subst e
        exact h5 hL g off k1
end

theorem fnd_val {S : List Ent} {nm : ByteArray} {b : Bool} (h : (fnd S nm).isSome = b) : ∃ x : Int, atV (fnd S nm) = .tuple #[.int .u64 x, .bool b] := by
  cases hq : fnd S nm with
  | none => rw [hq] at h; simp at h; subst h; exact ⟨0, rfl⟩
  | some e => rw [hq] at h; simp at h; subst h; exact ⟨e.tk, rfl⟩

set_option maxHeartbeats 1600000 in
theorem stands_nil (q n cap : Nat) (A : Option Addr) (nm : ByteArray) (w0 w : World) (S : List Ent) (h : QL w0 w q S A S) (hS : S = []) (hn : S.length = n) (hb0 : n ≤ 999999) :
    Calls Try.prog 24 #[.pointer (some ⟨q, 0, none⟩), .slice A n cap, .string nm] w fun r w' => r = .returned (.bool true) ∧ Below w.heap.size w w' := by
  have H := Lib.hid h
  have HN := Lib.hid hn
  have D0 : Hid (Calls Try.prog 16 #[.pointer (some ⟨q, 0, none⟩)] w fun r w' => r = .returned (.tuple #[.agg #[.string ByteArray.empty, .int .u64 0], .bool false]) ∧ Below w.heap.size w w') := Lib.hid (by have := front_QL h; rw [hS] at this; exact this)
  have hn0 : n = 0 := by rw [← hn, hS]; rfl
  have D1 : Hid (∀ wx, Below w.heap.size w wx → Calls Try.prog 10 #[.pointer (some ⟨q, 0, none⟩)] wx fun r w' => r = .returned (.int .i64 (n : Int)) ∧ w' = wx) := Lib.hid fun wx hx => (len_QL (H.out.below hx)).mono fun _ _ ⟨h1, h2⟩ => ⟨by rw [h1, HN.out], h2.symm⟩
  have g0 : decide (0 < n) = false := by simp; omega
  have HN0 := Lib.hid hn0
  clear h hS hn hn0
  go_enter Try.func24, Try.ntmps24
  go_wp2_with (go_at_call 16; (with_reducible refine D0.out.mono ?_); rintro r w1 ⟨rfl, hb1⟩; have HB1 := Lib.hid (hb1.alloc hb1.size (.cells #[.string ByteArray.empty, .int .u64 0] 28)); clear hb1)
  go_quiet ((go_at_call 10; exact Calls.quiet_of_same (D1.out _ (below_quiet HB1.out _))))
  have HQ := Lib.hid (H.out.below (below_quiet HB1.out nq))
  have HB := Lib.hid (below_quiet HB1.out nq)
  go_wp2_with fail
  go_loopw [9] (fun i wr => ∃ j : Nat, i = .int .i64 (j : Int) ∧ j ≤ n ∧ Hid (QL w0 wr q S A S) ∧ Hid (Below w.heap.size w wr)) (fun i _ => n - (intOf i).toNat)
  case atStart => exact ⟨0, rfl, Nat.zero_le _, HQ, HB⟩
  case round =>
    clear HQ HB
    obtain ⟨j, rfl, hj, HQ, HB⟩ := hrel
    by_cases hjn : j < n
    · obtain ⟨g, off, rfl, hg, c0, c1⟩ := HQ.out.row.at (j := j) (by rw [HN.out]; exact hjn)
      have hf := fnd_mem HQ.out.uniq (elt_mem (S := S) (m := j) (by rw [HN.out]; exact hjn))
      have D := at_QL HQ.out (elt S j).nm
      rw [hf] at D
      have D2 : Hid (Calls Try.prog 12 #[.pointer (some ⟨q, 0, none⟩), .string (elt S j).nm] wr fun r w' => r = .returned (.tuple #[.int .u64 (elt S j).tk, .bool true]) ∧ wr = w') := Lib.hid D
      clear D hf
      obtain ⟨e, he⟩ : ∃ e, elt S j = e := ⟨_, rfl⟩
      rw [he] at c0 c1 D2
      clear he
      go_wp2_with (go_at_call 12; (with_reducible refine D2.out.mono ?_); rintro r w6 ⟨rfl, rfl⟩)
      go_roundw
      case rel => exact ⟨j + 1, by go_num, by omega, HQ, HB⟩
      case measure => simp [intOf]; omega
    · obtain ⟨b, hb⟩ : ∃ b, (fnd S nm).isSome = b := ⟨_, rfl⟩
      obtain ⟨x, hx⟩ := fnd_val hb
      have D1 := at_QL HQ.out nm
      rw [hx] at D1
      have D2 : Hid (Calls Try.prog 19 #[.slice A n cap, .string nm] wr (FindP S nm wr)) := Lib.hid (find_ref _ n cap S nm wr HQ.out.row HN.out hb0)
      have HD1 := Lib.hid D1; have HBB := Lib.hid hb
      clear D1 hx hb
      go_wp2_with (first
        | (go_at_call 12; (with_reducible refine HD1.out.mono ?_); rintro r w6 ⟨rfl, rfl⟩)
        | (go_at_call 19; (with_reducible refine D2.out.mono ?_); rintro r w7 ⟨y, rfl, hy, rfl⟩; rw [HBB.out] at hy))
      go_ret
      exact ⟨rfl, HB.out⟩

set_option maxHeartbeats 1600000 in
theorem stands_cons (q n cap : Nat) (A : Option Addr) (nm : ByteArray) (w0 w : World) (S : List Ent) (e0 : Ent) (R : List Ent) (h : QL w0 w q S A S) (hS : S = e0 :: R) (hn : S.length = n) (hb0 : n ≤ 999999) :
    Calls Try.prog 24 #[.pointer (some ⟨q, 0, none⟩), .slice A n cap, .string nm] w fun r w' => r = .returned (.bool true) ∧ Below w.heap.size w w' := by
  have H := Lib.hid h
  have HN := Lib.hid hn
  have D0 : Hid (Calls Try.prog 16 #[.pointer (some ⟨q, 0, none⟩)] w fun r w' => r = .returned (.tuple #[.agg #[.string e0.nm, .int .u64 e0.tk], .bool true]) ∧ Below w.heap.size w w') := Lib.hid (by have := front_QL h; rw [hS] at this; exact this)
  have hn0 : 0 < n := by rw [← hn, hS]; simp
  have D1 : Hid (∀ wx, Below w.heap.size w wx → Calls Try.prog 10 #[.pointer (some ⟨q, 0, none⟩)] wx fun r w' => r = .returned (.int .i64 (n : Int)) ∧ wx = w') := Lib.hid fun wx hx => (len_QL (H.out.below hx)).mono fun _ _ ⟨h1, h2⟩ => ⟨by rw [h1, HN.out], h2⟩
  have E : Hid (∀ wx, Below w.heap.size w wx → ∃ g off, A = some ⟨g, off, none⟩ ∧ g < w.heap.size ∧ wx.cell? ⟨g, off, none⟩ = some (.string e0.nm) ∧ wx.cell? ⟨g, off + 1, none⟩ = some (.int .u64 e0.tk)) := Lib.hid fun wx hx => by
    obtain ⟨g, off, e1, e2, c0, c1⟩ := H.out.row.at (j := 0) (by rw [hn]; exact hn0)
    have he : elt S 0 = e0 := by rw [hS]; rfl
    rw [he] at c0 c1
    simp only [Nat.zero_mul, Nat.add_zero] at c0 c1
    exact ⟨g, off, e1, e2, (hx.cell (p := ⟨g, off, none⟩) e2).trans c0, (hx.cell (p := ⟨g, off + 1, none⟩) e2).trans c1⟩
  obtain ⟨g, off, hA, hg, _⟩ := E.out w (Below.refl _ _)
  have E2 : Hid (∀ wx, Below w.heap.size w wx → wx.cell? ⟨g, off, none⟩ = some (.string e0.nm) ∧ wx.cell? ⟨g, off + 1, none⟩ = some (.int .u64 e0.tk)) := Lib.hid fun wx hx => by
    obtain ⟨g', off', e1, _, c0, c1⟩ := E.out wx hx
    rw [hA] at e1
    injection e1 with e1
    injection e1 with e1 e3
    subst e1 e3
    exact ⟨c0, c1⟩
  clear h hS hn E
  subst hA
  have p1 : (0 : Int) < (n : Int) := by omega
  go_enter Try.func24, Try.ntmps24
  go_wp2_with (go_at_call 16; (with_reducible refine D0.out.mono ?_); rintro r w1 ⟨rfl, hb1⟩; have HB1 := Lib.hid (hb1.alloc hb1.size (.cells #[.string e0.nm, .int .u64 e0.tk] 28))
               have b0 : (w1.alloc (.cells #[.string e0.nm, .int .u64 e0.tk] 28)).cell? ⟨w1.heap.size, 0, none⟩ = some (.string e0.nm) := by go_simp
               have b1 : (w1.alloc (.cells #[.string e0.nm, .int .u64 e0.tk] 28)).cell? ⟨w1.heap.size, 1, none⟩ = some (.int .u64 e0.tk) := by go_simp
               clear hb1)
  have K : Hid (∀ wx, Below (w1.alloc (.cells #[.string e0.nm, .int .u64 e0.tk] 28)).heap.size (w1.alloc (.cells #[.string e0.nm, .int .u64 e0.tk] 28)) wx → wx.cell? ⟨w1.heap.size, 0, none⟩ = some (.string e0.nm) ∧ wx.cell? ⟨w1.heap.size, 1, none⟩ = some (.int .u64 e0.tk) ∧ wx.cell? ⟨g, off, none⟩ = some (.string e0.nm) ∧ wx.cell? ⟨g, off + 1, none⟩ = some (.int .u64 e0.tk)) := Lib.hid fun wx hx =>
    ⟨(hx.cell (p := ⟨w1.heap.size, 0, none⟩) (by simp)).trans b0, (hx.cell (p := ⟨w1.heap.size, 1, none⟩) (by simp)).trans b1, E2.out wx (HB1.out.trans (hx.mono HB1.out.size))⟩
  clear b0 b1
  go_region_held3 (fun w' => w'.cell? ⟨w1.heap.size, 0, none⟩ = some (.string e0.nm) ∧ w'.cell? ⟨w1.heap.size, 1, none⟩ = some (.int .u64 e0.tk) ∧ w'.cell? ⟨g, off, none⟩ = some (.string e0.nm) ∧ w'.cell? ⟨g, off + 1, none⟩ = some (.int .u64 e0.tk))
    (first
      | exact K.out _ (Below.refl _ _)
      | exact K.out _ (Below.refl _ _).drew
      | exact K.out _ ((Below.refl _ _).drew.trans hb2)
      | fail)
    (first
      | (go_at_call 10; (with_reducible refine (D1.out _ HB1.out.drew).mono ?_); rintro r w2 ⟨rfl, rfl⟩)
      | (go_at_call 22; (with_reducible refine (told_ref _ _ _).mono ?_); rintro r w2 ⟨rfl, hb2⟩)
      | fail)
  have HB := Lib.hid (HB1.out.trans (((Below.refl _ _).drew.trans hb2).mono HB1.out.size))
  have HQ := Lib.hid (H.out.below HB.out)
  clear hb2
  go_wp2_with fail
  go_loopw [9] (fun i wr => ∃ j : Nat, i = .int .i64 (j : Int) ∧ j ≤ n ∧ Hid (QL w0 wr q S (some ⟨g, off, none⟩) S) ∧ Hid (Below w.heap.size w wr)) (fun i _ => n - (intOf i).toNat)
  case atStart => exact ⟨0, rfl, Nat.zero_le _, HQ, HB⟩
  case round =>
    clear HQ HB
    obtain ⟨j, rfl, hj, HQ, HB⟩ := hrel
    by_cases hjn : j < n
    · obtain ⟨g', off', hA', hg', c0, c1⟩ := HQ.out.row.at (j := j) (by rw [HN.out]; exact hjn)
      injection hA' with hA'
      injection hA' with hA1 hA2
      subst hA1 hA2
      have hf := fnd_mem HQ.out.uniq (elt_mem (S := S) (m := j) (by rw [HN.out]; exact hjn))
      have D := at_QL HQ.out (elt S j).nm
      rw [hf] at D
      have D2 : Hid (Calls Try.prog 12 #[.pointer (some ⟨q, 0, none⟩), .string (elt S j).nm] wr fun r w' => r = .returned (.tuple #[.int .u64 (elt S j).tk, .bool true]) ∧ wr = w') := Lib.hid D
      clear D hf
      obtain ⟨e, he⟩ : ∃ e, elt S j = e := ⟨_, rfl⟩
      rw [he] at c0 c1 D2
      clear he
      go_wp2_with (go_at_call 12; (with_reducible refine D2.out.mono ?_); rintro r w6 ⟨rfl, rfl⟩)
      go_roundw
      case rel => exact ⟨j + 1, by go_num, by omega, HQ, HB⟩
      case measure => simp [intOf]; omega
    · obtain ⟨b, hb⟩ : ∃ b, (fnd S nm).isSome = b := ⟨_, rfl⟩
      obtain ⟨x, hx⟩ := fnd_val hb
      have D1 := at_QL HQ.out nm
      rw [hx] at D1
      have D2 : Hid (Calls Try.prog 19 #[.slice (some ⟨g, off, none⟩) n cap, .string nm] wr (FindP S nm wr)) := Lib.hid (find_ref _ n cap S nm wr HQ.out.row HN.out hb0)
      have HD1 := Lib.hid D1; have HBB := Lib.hid hb
      clear D1 hx hb
      go_wp2_with (first
        | (go_at_call 12; (with_reducible refine HD1.out.mono ?_); rintro r w6 ⟨rfl, rfl⟩)
        | (go_at_call 19; (with_reducible refine D2.out.mono ?_); rintro r w7 ⟨y, rfl, hy, rfl⟩; rw [HBB.out] at hy))
      go_ret
      exact ⟨rfl, HB.out⟩

theorem stands_law (q n cap : Nat) (A : Option Addr) (S : List Ent) (nm : ByteArray) (w0 w : World) (h : QL w0 w q S A S) (hn : S.length = n) (hb : n ≤ 999999) :
    Calls Try.prog 24 #[.pointer (some ⟨q, 0, none⟩), .slice A n cap, .string nm] w fun r w' => r = .returned (.bool true) ∧ Below w.heap.size w w' := by
  cases hS : S with
  | nil => subst hS; exact stands_nil q n cap A nm w0 w [] h rfl hn hb
  | cons e R => subst hS; exact stands_cons q n cap A nm w0 w (e :: R) e R h rfl hn hb
end Go.Proofs.Yticnckclmlejhaa
