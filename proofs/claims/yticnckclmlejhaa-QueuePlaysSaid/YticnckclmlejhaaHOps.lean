/-
  container/heap's Push, Pop, Remove and Fix, over a queue in memory.
-/
import Derived.Test.YticnckclmlejhaaDown
namespace Go.Proofs.Yticnckclmlejhaa
open Go.RowKit Go.ChangeMaps Hp

section
variable {w : World} {X M : Nat} {v : Value} {l : List Ent}
theorem push_qs (h : QS w X M v l) {e : Ent} (he : ∀ k, k < l.length → (elt l k).nm ≠ e.nm) (hb : l.length ≤ 1000000) :
    Calls Try.prog 55 #[.pointer (some ⟨X, 0, none⟩), .iface 28 (.agg #[.string e.nm, .int .u64 e.tk])] w fun r w' => r = .returned (.tuple #[]) ∧ ∃ v', QS w' X M v' (l ++ [e]) ∧ Moved w v v' ∧ Tch X M v w w' := by
  obtain ⟨_, _, f, h⟩ := h
  have hf : f e.nm = none := by
    cases hf : f e.nm
    · rfl
    · obtain ⟨h1, h2⟩ := (h.whr _ _).1 hf
      exact absurd h2 (he _ h1)
  exact (push_q h hf (by omega)).mono fun r w' ⟨hr, v', _, _, _, hq, hm, ht⟩ => ⟨hr, v', ⟨_, _, _, hq⟩, hm, ht⟩
theorem pop_qs (h : QS w X M v l) {n : Nat} (hn : l.length = n + 1) (hb : l.length ≤ 1000000) :
    Calls Try.prog 54 #[.pointer (some ⟨X, 0, none⟩)] w fun e w' => e = .returned (.iface 28 (.agg #[.string (elt l n).nm, .int .u64 (elt l n).tk])) ∧ ∃ v', QS w' X M v' (l.take n) ∧ Moved w v v' ∧ Tch X M v w w' := by
  obtain ⟨_, _, f, h⟩ := h
  exact (pop_q h hn (by omega)).mono fun r w' ⟨hr, v', _, _, hq, hm, ht⟩ => ⟨hr, v', ⟨_, _, _, hq⟩, hm, ht⟩
theorem take_perm {l : List Ent} {n : Nat} (hn : l.length = n + 1) : (elt l n :: l.take n).Perm l := by
  have e : l = l.take n ++ [elt l n] := by
    rw [elt_elem (by omega), List.take_append_getElem (by omega : n < l.length)]
    rw [List.take_of_length_le (by omega)]
  have h := (List.perm_append_comm (l₁ := [elt l n]) (l₂ := l.take n))
  rw [← e] at h
  exact h
end

theorem Moved.weaken {a b : World} {v v' : Value} (h : Moved b v v') (hs : a.heap.size ≤ b.heap.size) : Moved a v v' := by
  rcases h with e | ⟨g, e, hg⟩
  · exact .inl e
  · exact .inr ⟨g, e, by omega⟩
/-- What a turn of the heap leaves: l' in order, the row v'. -/
def Left (w : World) (X M : Nat) (v : Value) (p : List Ent → Prop) (w' : World) : Prop :=
  ∃ v' l', QS w' X M v' l' ∧ p l' ∧ IsHeap lessE l' l'.length ∧ Moved w v v' ∧ Tch X M v w w'

theorem swap_qs0 {w : World} {X M : Nat} {v : Value} {l : List Ent} (h : QS w X M v l) {j : Nat} (hj : j < l.length) :
    Calls Try.prog 56 #[.pointer (some ⟨X, 0, none⟩), .int .i64 0, .int .i64 j] w fun e w' => e = .returned (.tuple #[]) ∧ QS w' X M v (swp l 0 j) ∧ Tch X M v w w' := swap_qs (i := 0) h (by omega) hj
theorem down_qs0 (X M : Nat) (v : Value) (l : List Ent) (n : Nat) (w : World) (h : QS w X M v l) (hn : n ≤ l.length) (hb : l.length ≤ 1000000) (hd : DownInv lessE l 0 n) :
    Calls Try.prog 34 #[.iface 54 (.pointer (some ⟨X, 0, none⟩)), .int .i64 0, .int .i64 n] w (DownE w X M v l 0 n) := down_qs X M v l n 0 w h hn (Nat.zero_le _) hb hd

/-- The last one stands where the first stood, or another that is taken. -/
theorem move_any {l : List Ent} {i n : Nat} (h : IsHeap lessE l l.length) (hn : l.length = n + 1) (hi : i ≤ n) (h0 : i = n → n = 0) : DownInv lessE (swp l i n) i n := by
  by_cases e : i < n
  · exact move_inv less_total (by rw [← hn]; exact h) hn e
  · have : n = 0 := h0 (by omega)
    exact ⟨fun k hk hkn => by omega, fun k hk hkn => by omega⟩
/-- What is left when the taken one, behind the heap, is off. -/
theorem taken {l l2 : List Ent} {i n : Nat} (hn : l.length = n + 1) (hi : i ≤ n) (hp : l2.Perm (swp l i n)) (ht : ∀ k, n ≤ k → elt l2 k = elt (swp l i n) k) (hh : IsHeap lessE l2 n) :
    l2.length = n + 1 ∧ elt l2 n = elt l i ∧ (elt l i :: l2.take n).Perm l ∧ IsHeap lessE (l2.take n) (l2.take n).length := by
  have h1 : l2.length = n + 1 := by rw [hp.length_eq, length_swp, hn]
  have h2 : elt l2 n = elt l i := by rw [ht n (Nat.le_refl _), elt_swp (by omega) (by omega), if_pos rfl]
  have h3 := take_perm h1
  rw [h2] at h3
  have h4 : (l2.take n).length = n := by simp; omega
  refine ⟨h1, h2, h3.trans (hp.trans (swp_perm (by omega) (by omega))), ?_⟩
  rw [h4]
  exact heap_take hh (by omega)

set_option maxHeartbeats 1600000 in
theorem heap_push (X M : Nat) (v : Value) (l : List Ent) (e : Ent) (w : World) (h : QS w X M v l) (hh : IsHeap lessE l l.length) (he : ∀ k, k < l.length → (elt l k).nm ≠ e.nm) (hb : l.length ≤ 999999) :
    Calls Try.prog 32 #[.iface 54 (.pointer (some ⟨X, 0, none⟩)), .iface 28 (.agg #[.string e.nm, .int .u64 e.tk])] w fun r w' => r = .returned (.tuple #[]) ∧ Left w X M v (fun l' => l'.Perm (l ++ [e])) w' := by
  have ml := m_len; have mp := m_push
  have H := Lib.hid h; have HH := Lib.hid hh; have HE := Lib.hid he
  have hlen : (l ++ [e]).length = l.length + 1 := by simp
  have hi : (((l.length + 1 : Nat) : Int) - 1) = ((l.length : Nat) : Int) := by omega
  have hcast : ((l.length + 1 : Nat) : Int) = (l.length : Int) + 1 := by omega
  obtain ⟨n, hn⟩ : ∃ n, l.length = n := ⟨_, rfl⟩
  clear h hh he
  go_enter Try.func32, Try.ntmps32
  go_wp2_with (first
    | (go_at_call 55; (with_reducible refine (push_qs H.out HE.out (by omega)).mono ?_); rintro r w1 ⟨rfl, v1, hq1, hm1, ht1⟩; have HQ1 := Lib.hid hq1; have HM1 := Lib.hid hm1; have HT1 := Lib.hid ht1; clear hq1 hm1 ht1)
    | (go_at_call 25; (with_reducible refine (len_qs HQ1.out).mono ?_); rw [hlen, hn]; rintro r w2 ⟨rfl, rfl⟩)
    | (go_at_call 35; (with_reducible refine (up_qs X M v1 (l ++ [e]) (n + 1) n _ HQ1.out (by rw [hlen]; omega) (by omega) (by rw [hlen]; omega) (by rw [← hn]; exact push_inv HH.out e)).mono ?_); rintro r w2 ⟨rfl, l2, hq2, hp2, hh2, _, ht2⟩; have HQ2 := Lib.hid hq2; have HP2 := Lib.hid hp2; have HH2 := Lib.hid hh2; have HT2 := Lib.hid ht2; clear hq2 hp2 hh2 ht2))
  go_end0
  refine ⟨rfl, v1, l2, HQ2.out, HP2.out, ?_, HM1.out, HT1.out.trans HM1.out HT2.out⟩
  rw [HP2.out.length_eq, hlen, hn]
  exact HH2.out

set_option maxHeartbeats 1600000 in
theorem heap_pop (X M : Nat) (v : Value) (l : List Ent) (w : World) (n : Nat) (h : QS w X M v l) (hh : IsHeap lessE l l.length) (hn : l.length = n + 1) (hb : n ≤ 999999) :
    Calls Try.prog 26 #[.iface 54 (.pointer (some ⟨X, 0, none⟩))] w fun r w' => r = .returned (.iface 28 (.agg #[.string (elt l 0).nm, .int .u64 (elt l 0).tk])) ∧ Left w X M v (fun l' => (elt l 0 :: l').Perm l) w' := by
  have ml := m_len; have mp := m_pop; have ms := m_swap
  have H := Lib.hid h
  have D0 := Lib.hid (move_any hh hn (Nat.zero_le n) (fun q => q.symm))
  have UP0 : Hid (∀ l2, UpInv lessE l2 0 n → IsHeap lessE l2 n) := Lib.hid fun l2 u => up_done u (.inl rfl)
  clear h hh
  go_enter Try.func26, Try.ntmps26
  go_wp2_with (first
    | (go_at_call 25; (with_reducible refine (len_qs H.out).mono ?_); rw [hn]; rintro r w1 ⟨rfl, rfl⟩)
    | (go_at_call 56; (with_reducible refine (swap_qs0 H.out (by omega)).mono ?_); rintro r w1 ⟨rfl, hq1, ht1⟩; have HQ1 := Lib.hid hq1; have HT1 := Lib.hid ht1; clear hq1 ht1)
    | (go_at_call 34; (with_reducible refine (down_qs0 X M v _ n _ HQ1.out (by rw [length_swp]; omega) (by rw [length_swp]; omega) D0.out).mono ?_); rintro r w2 ⟨b, rfl, l2, hq2, hp2, hg2, ht2, hh2, hu2⟩; have HQ2 := Lib.hid hq2; have HP2 := Lib.hid hp2; have HG2 := Lib.hid hg2; have HT2 := Lib.hid ht2; have HH2 := Lib.hid hh2; have HU2 := Lib.hid hu2; clear hq2 hp2 hg2 ht2 hh2 hu2)
    | (have hheap : IsHeap lessE l2 n := by
         cases b
         · obtain ⟨q1, q2⟩ := HU2.out rfl
           rw [q1]
           exact UP0.out _ q2
         · exact HH2.out rfl
       obtain ⟨t1, t2, t3, t4⟩ := taken hn (Nat.zero_le n) HP2.out HG2.out hheap
       go_at_call 54
       (with_reducible refine (pop_qs HQ2.out t1 (by omega)).mono ?_)
       rw [t2]
       rintro r w3 ⟨rfl, v3, hq3, hm3, ht3⟩
       have HL : Hid (Left w X M v (fun l' => (elt l 0 :: l').Perm l) w3) := Lib.hid ⟨v3, l2.take n, hq3, t3, t4, hm3.weaken (HT1.out.trans (.refl _ _) HT2.out).size, (HT1.out.trans (.refl _ _) HT2.out).trans (.refl _ _) ht3⟩
       clear hq3 hm3 ht3 hheap t1 t2 t3 t4))
  go_ret
  exact ⟨rfl, HL.out⟩

set_option maxHeartbeats 1600000 in
theorem heap_fix (X M : Nat) (v : Value) (l : List Ent) (w : World) (i : Nat) (h : QS w X M v l) (hi : i < l.length) (hd : DownInv lessE l i l.length) (hb : l.length ≤ 999999) :
    Calls Try.prog 31 #[.iface 54 (.pointer (some ⟨X, 0, none⟩)), .int .i64 i] w fun r w' => r = .returned (.tuple #[]) ∧ Left w X M v (fun l' => l'.Perm l) w' := by
  have ml := m_len
  have H := Lib.hid h; have HD := Lib.hid hd
  obtain ⟨n, hn⟩ : ∃ n, l.length = n := ⟨_, rfl⟩
  clear h hd
  go_enter Try.func31, Try.ntmps31
  go_wp2_with (first
    | (go_at_call 25; (with_reducible refine (len_qs H.out).mono ?_); rw [hn]; rintro r w1 ⟨rfl, rfl⟩)
    | (go_at_call 34; (with_reducible refine (down_qs X M v l n i _ H.out (by omega) (by omega) (by omega) (by rw [← hn]; exact HD.out)).mono ?_); rintro r w2 ⟨b, rfl, l2, hq2, hp2, hg2, ht2, hh2, hu2⟩; have HQ2 := Lib.hid hq2; have HP2 := Lib.hid hp2; have HG2 := Lib.hid hg2; have HT2 := Lib.hid ht2; have HH2 := Lib.hid hh2; have HU2 := Lib.hid hu2; clear hq2 hp2 hg2 ht2 hh2 hu2)
    | (have hb0 : b = false := by simpa using (by assumption : (!b) = true)
       obtain ⟨q1, q2⟩ := HU2.out hb0
       have hq0 := HQ2.out
       rw [q1] at hq0
       go_at_call 35
       (with_reducible refine (up_qs X M v _ n i _ hq0 (by omega) (by omega) (by omega) q2).mono ?_)
       rintro r w3 ⟨rfl, l3, hq3, hp3, hh3, hg3, ht3⟩
       have HQ3 := Lib.hid hq3; have HP3 := Lib.hid hp3; have HH3 := Lib.hid hh3; have HG3 := Lib.hid hg3; have HT3 := Lib.hid ht3
       clear hq3 hp3 hh3 hg3 ht3 hq0 q1 q2 hb0))
  · go_end0
    refine ⟨rfl, v, l3, HQ3.out, HP3.out, ?_, .refl _ _, HT2.out.trans (.refl _ _) HT3.out⟩
    rw [HP3.out.length_eq, hn]
    exact HH3.out
  · have hb1 : b = true := by simpa using (by assumption : (!b) = false)
    go_end0
    refine ⟨rfl, v, l2, HQ2.out, HP2.out, ?_, .refl _ _, HT2.out⟩
    rw [HP2.out.length_eq, hn]
    exact HH2.out hb1

set_option maxHeartbeats 1600000 in
theorem heap_remove_last (X M : Nat) (v : Value) (l : List Ent) (w : World) (n : Nat) (h : QS w X M v l) (hh : IsHeap lessE l l.length) (hn : l.length = n + 1) (hb : n ≤ 999999) :
    Calls Try.prog 28 #[.iface 54 (.pointer (some ⟨X, 0, none⟩)), .int .i64 n] w fun r w' => r = .returned (.iface 28 (.agg #[.string (elt l n).nm, .int .u64 (elt l n).tk])) ∧ Left w X M v (fun l' => (elt l n :: l').Perm l) w' := by
  have ml := m_len; have mp := m_pop
  have H := Lib.hid h
  have HH : Hid (IsHeap lessE (l.take n) (l.take n).length) := Lib.hid (by
    have h4 : (l.take n).length = n := by simp; omega
    rw [h4]
    exact heap_take (fun k hk hkn => hh k hk (by omega)) (by omega))
  have e1 : ((n : Int) != (n : Int)) = false := by simp
  clear h hh
  go_enter Try.func28, Try.ntmps28
  go_wp2_with (first
    | (go_at_call 25; (with_reducible refine (len_qs H.out).mono ?_); rw [hn]; rintro r w1 ⟨rfl, rfl⟩)
    | (go_at_call 54; (with_reducible refine (pop_qs H.out hn (by omega)).mono ?_); rintro r w3 ⟨rfl, v3, hq3, hm3, ht3⟩; have HL : Hid (Left w X M v (fun l' => (elt l n :: l').Perm l) w3) := Lib.hid ⟨v3, l.take n, hq3, take_perm hn, HH.out, hm3, ht3⟩; clear hq3 hm3 ht3))
  go_ret
  exact ⟨rfl, HL.out⟩

set_option maxHeartbeats 1600000 in
theorem heap_remove (X M : Nat) (v : Value) (l : List Ent) (w : World) (i n : Nat) (h : QS w X M v l) (hh : IsHeap lessE l l.length) (hn : l.length = n + 1) (hi : i < n) (hb : n ≤ 999999) :
    Calls Try.prog 28 #[.iface 54 (.pointer (some ⟨X, 0, none⟩)), .int .i64 i] w fun r w' => r = .returned (.iface 28 (.agg #[.string (elt l i).nm, .int .u64 (elt l i).tk])) ∧ Left w X M v (fun l' => (elt l i :: l').Perm l) w' := by
  have ml := m_len; have mp := m_pop; have ms := m_swap
  have H := Lib.hid h
  have D0 := Lib.hid (move_inv less_total (by rw [← hn]; exact hh) hn hi)
  have hsl : (swp l i n).length = n + 1 := by rw [length_swp, hn]
  have e1 : ((n : Int) != (i : Int)) = true := by simp; omega
  have hni : n ≠ i := by omega
  clear h hh
  go_enter Try.func28, Try.ntmps28
  go_wp2_with (first
    | (go_at_call 25; (with_reducible refine (len_qs H.out).mono ?_); rw [hn]; rintro r w1 ⟨rfl, rfl⟩)
    | (go_at_call 56; (with_reducible refine (swap_qs H.out (by omega) (by omega)).mono ?_); rintro r w1 ⟨rfl, hq1, ht1⟩; have HQ1 := Lib.hid hq1; have HT1 := Lib.hid ht1; clear hq1 ht1)
    | (go_at_call 34; (with_reducible refine (down_qs X M v _ n i _ HQ1.out (by omega) (by omega) (by omega) D0.out).mono ?_); rintro r w2 ⟨b, rfl, l2, hq2, hp2, hg2, ht2, hh2, hu2⟩; have HQ2 := Lib.hid hq2; have HP2 := Lib.hid hp2; have HG2 := Lib.hid hg2; have HT2 := Lib.hid ht2; have HH2 := Lib.hid hh2; have HU2 := Lib.hid hu2; clear hq2 hp2 hg2 ht2 hh2 hu2)
    | (have hb0 : b = false := by simpa using (by assumption : (!b) = true)
       obtain ⟨q1, q2⟩ := HU2.out hb0
       have hq0 := HQ2.out
       rw [q1] at hq0
       go_at_call 35
       (with_reducible refine (up_qs X M v _ n i _ hq0 (by omega) (by omega) (by omega) q2).mono ?_)
       rintro r w3 ⟨rfl, l3, hq3, hp3, hh3, hg3, ht3⟩
       have HQ3 := Lib.hid hq3; have HP3 := Lib.hid hp3; have HH3 := Lib.hid hh3; have HG3 := Lib.hid hg3; have HT3 := Lib.hid ht3
       clear hq3 hp3 hh3 hg3 ht3 hq0 q1 q2 hb0)
    | (obtain ⟨t1, t2, t3, t4⟩ := taken hn (by omega) HP3.out HG3.out HH3.out
       go_at_call 54
       (with_reducible refine (pop_qs HQ3.out t1 (by omega)).mono ?_)
       rw [t2]
       rintro r w4 ⟨rfl, v4, hq4, hm4, ht4⟩
       have HL : Hid (Left w X M v (fun l' => (elt l i :: l').Perm l) w4) := Lib.hid ⟨v4, l3.take n, hq4, t3, t4, hm4.weaken ((HT1.out.trans (.refl _ _) HT2.out).trans (.refl _ _) HT3.out).size, ((HT1.out.trans (.refl _ _) HT2.out).trans (.refl _ _) HT3.out).trans (.refl _ _) ht4⟩
       clear hq4 hm4 ht4 t1 t2 t3 t4)
    | (have hb1 : b = true := by simpa using (by assumption : (!b) = false)
       obtain ⟨t1, t2, t3, t4⟩ := taken hn (by omega) HP2.out HG2.out (HH2.out hb1)
       go_at_call 54
       (with_reducible refine (pop_qs HQ2.out t1 (by omega)).mono ?_)
       rw [t2]
       rintro r w4 ⟨rfl, v4, hq4, hm4, ht4⟩
       have HL : Hid (Left w X M v (fun l' => (elt l i :: l').Perm l) w4) := Lib.hid ⟨v4, l2.take n, hq4, t3, t4, hm4.weaken (HT1.out.trans (.refl _ _) HT2.out).size, (HT1.out.trans (.refl _ _) HT2.out).trans (.refl _ _) ht4⟩
       clear hq4 hm4 ht4 t1 t2 t3 t4))
  all_goals go_ret
  all_goals exact ⟨rfl, HL.out⟩
end Go.Proofs.Yticnckclmlejhaa
