/-
  The walks of layer 6 (queue): at, Put, Drop, At, Len, Front, Pop.
-/
import Derived.Test.YticnckclmlejhaaRes
import Derived.Test.YticnckclmlejhaaSList
namespace Go.Proofs.Yticnckclmlejhaa
open Go.RowKit Go.ChangeMaps Hp

section
variable {w : World} {q X M : Nat} {v : Value} {es : Array MapEntry} {clk : Nat} {f : ByteArray → Option Nat} {l : List Ent}

theorem at_some (h : QX w X M v es clk f l) (hq : w.cell? ⟨q, 0, none⟩ = some (.pointer (some ⟨X, 0, none⟩))) {nm : ByteArray} {k : Nat} (hf : f nm = some k) :
    Calls Try.prog 27 #[.pointer (some ⟨q, 0, none⟩), .string nm] w fun e w' => e = .returned (.tuple #[.int .i64 k, .bool true]) ∧ w = w' := by
  have hl := lookup_some h.idx hf h.mp
  obtain ⟨c0, c1, _, hX⟩ := h.cells
  clear h hf
  go_enter Try.func27, Try.ntmps27
  go_wp2
  go_ret2
  exact ⟨rfl, rfl⟩
theorem at_none (h : QX w X M v es clk f l) (hq : w.cell? ⟨q, 0, none⟩ = some (.pointer (some ⟨X, 0, none⟩))) {nm : ByteArray} (hf : f nm = none) :
    Calls Try.prog 27 #[.pointer (some ⟨q, 0, none⟩), .string nm] w fun e w' => e = .returned (.tuple #[.int .i64 0, .bool false]) ∧ w = w' := by
  have hl := lookup_none h.idx hf h.mp
  obtain ⟨c0, c1, _, hX⟩ := h.cells
  clear h hf
  go_enter Try.func27, Try.ntmps27
  go_wp2
  go_ret2
  exact ⟨rfl, rfl⟩

/-- The deadline of one that is there is set. -/
theorem QX.set_tk (h : QX w X M v es clk f l) {i : Nat} (hi : i < l.length) {L cap : Nat} (hv : v = .slice (some ⟨L, 0, none⟩) l.length cap) (hXL : X ≠ L) (hML : M ≠ L) (t : Int) :
    QX (w.setCell ⟨L, i * 2 + 1, none⟩ (.int .u64 t)) X M v es clk f (l.set i ⟨(elt l i).nm, t⟩) ∧ Tch X M v w (w.setCell ⟨L, i * 2 + 1, none⟩ (.int .u64 t)) := by
  have hr := h.row
  rw [hv] at hr
  have r1 := (World.ownsRow.stored hr (i * 2 + 1) (.int .u64 t)).1
  rw [flat_set_tk l i t hi] at r1
  refine ⟨⟨h.x.far hXL _, ?_, (Below.heap_setCell _ _ _ _ hML).trans h.mp, h.idx, fun nm k => ?_⟩, rfl, rfl, rfl, by simp [World.setCell], fun k _ _ _ h3 => Below.heap_setCell _ _ _ _ (fun e => h3 (by rw [e, hv]; rfl))⟩
  · rw [List.length_set, hv]; exact r1
  · rw [List.length_set, elt_set hi, h.whr nm k]
    by_cases e : i = k
    · subst e; simp
    · rw [if_neg e]

theorem front_some (h : QX w X M v es clk f l) (hq : w.cell? ⟨q, 0, none⟩ = some (.pointer (some ⟨X, 0, none⟩))) (h0 : 0 < l.length) :
    Calls Try.prog 16 #[.pointer (some ⟨q, 0, none⟩)] w fun e w' => e = .returned (.tuple #[.agg #[.string (elt l 0).nm, .int .u64 (elt l 0).tk], .bool true]) ∧ Below w.heap.size w w' := by
  obtain ⟨c0, c1, _, hX⟩ := h.cells
  obtain ⟨L, cap, hv, hcap, hL, hXL, hML, hc, hf⟩ := h.at h0
  obtain ⟨r0, r1⟩ := hc 0 h0
  have hqs : q < w.heap.size := World.block_lt_of_cell? w _ hq
  have e0 : ((l.length : Int) == 0) = false := by simp; intro q; simp [q] at h0
  have r0' : w.cell? ⟨L, 0, none⟩ = some (.string (elt l 0).nm) := by simpa using r0
  have r1' : w.cell? ⟨L, 1, none⟩ = some (.int .u64 (elt l 0).tk) := by simpa using r1
  obtain ⟨n, hn⟩ : ∃ n, l.length = n := ⟨_, rfl⟩
  rw [hv] at c0
  rw [hn] at c0 e0 h0
  clear h hc hf r0 r1 hv
  go_enter Try.func16, Try.ntmps16
  go_wp2
  have t0 : (w.alloc (.cells #[.string (elt l 0).nm, .int .u64 (elt l 0).tk] 28)).cell? ⟨w.heap.size, 0, none⟩ = some (.string (elt l 0).nm) := by go_simp
  have t1 : (w.alloc (.cells #[.string (elt l 0).nm, .int .u64 (elt l 0).tk] 28)).cell? ⟨w.heap.size, 1, none⟩ = some (.int .u64 (elt l 0).tk) := by go_simp
  refine bodyPost_ret (results_ent rfl rfl t0 t1) rfl ?_
  exact ⟨rfl, (Below.refl _ w).alloc (Nat.le_refl _) _⟩

theorem front_none (h : QX w X M v es clk f l) (hq : w.cell? ⟨q, 0, none⟩ = some (.pointer (some ⟨X, 0, none⟩))) (h0 : l.length = 0) :
    Calls Try.prog 16 #[.pointer (some ⟨q, 0, none⟩)] w fun e w' => e = .returned (.tuple #[.agg #[.string ByteArray.empty, .int .u64 0], .bool false]) ∧ Below w.heap.size w w' := by
  obtain ⟨c0, c1, _, hX⟩ := h.cells
  obtain ⟨A, cap, hv⟩ := h.form
  have hqs : q < w.heap.size := World.block_lt_of_cell? w _ hq
  rw [hv, h0] at c0
  have e0 : (((0 : Nat) : Int) == 0) = true := by simp
  clear h hv
  go_enter Try.func16, Try.ntmps16
  go_wp2
  have t0 : (w.alloc (.cells #[.string ByteArray.empty, .int .u64 0] 28)).cell? ⟨w.heap.size, 0, none⟩ = some (.string ByteArray.empty) := by go_simp
  have t1 : (w.alloc (.cells #[.string ByteArray.empty, .int .u64 0] 28)).cell? ⟨w.heap.size, 1, none⟩ = some (.int .u64 0) := by go_simp
  refine bodyPost_ret (results_ent rfl rfl t0 t1) rfl ?_
  exact ⟨rfl, (Below.refl _ w).alloc (Nat.le_refl _) _⟩

theorem qlen_q (h : QX w X M v es clk f l) (hq : w.cell? ⟨q, 0, none⟩ = some (.pointer (some ⟨X, 0, none⟩))) :
    Calls Try.prog 10 #[.pointer (some ⟨q, 0, none⟩)] w fun e w' => e = .returned (.int .i64 l.length) ∧ w = w' := by
  have H := Lib.hid h
  clear h
  go_enter Try.func10, Try.ntmps10
  go_wp2_with (go_at_call 25; (with_reducible refine (len_q H.out).mono ?_); rintro e w1 ⟨rfl, rfl⟩)
  go_ret
  exact ⟨rfl, rfl⟩

theorem qat_some (h : QX w X M v es clk f l) (hq : w.cell? ⟨q, 0, none⟩ = some (.pointer (some ⟨X, 0, none⟩))) {nm : ByteArray} {k : Nat} (hf : f nm = some k) :
    Calls Try.prog 12 #[.pointer (some ⟨q, 0, none⟩), .string nm] w fun e w' => e = .returned (.tuple #[.int .u64 (elt l k).tk, .bool true]) ∧ w = w' := by
  obtain ⟨c0, c1, _, hX⟩ := h.cells
  have hk := ((h.whr _ _).1 hf).1
  obtain ⟨L, cap, hv, hcap, hL, hXL, hML, hc, hfr⟩ := h.at (by omega)
  obtain ⟨r0, r1⟩ := hc k hk
  rw [hv] at c0
  obtain ⟨n, hn⟩ : ∃ n, l.length = n := ⟨_, rfl⟩
  rw [hn] at c0 hk hcap
  have p1 : (0 : Int) ≤ (k : Int) := by omega
  have p2 : (k : Int) < (n : Int) := by omega
  have H := Lib.hid h; have HF := Lib.hid hf
  clear h hc hfr hv hf r0
  go_enter Try.func12, Try.ntmps12
  go_wp2_with (go_at_call 27; (with_reducible refine (at_some H.out hq HF.out).mono ?_); rintro e w1 ⟨rfl, rfl⟩)
  go_ret2
  exact ⟨rfl, rfl⟩
theorem qat_none (h : QX w X M v es clk f l) (hq : w.cell? ⟨q, 0, none⟩ = some (.pointer (some ⟨X, 0, none⟩))) {nm : ByteArray} (hf : f nm = none) :
    Calls Try.prog 12 #[.pointer (some ⟨q, 0, none⟩), .string nm] w fun e w' => e = .returned (.tuple #[.int .u64 0, .bool false]) ∧ w = w' := by
  have H := Lib.hid h; have HF := Lib.hid hf
  clear h hf
  go_enter Try.func12, Try.ntmps12
  go_wp2_with (go_at_call 27; (with_reducible refine (at_none H.out hq HF.out).mono ?_); rintro e w1 ⟨rfl, rfl⟩)
  go_ret2
  exact ⟨rfl, rfl⟩

theorem drop_none (h : QX w X M v es clk f l) (hq : w.cell? ⟨q, 0, none⟩ = some (.pointer (some ⟨X, 0, none⟩))) {nm : ByteArray} (hf : f nm = none) :
    Calls Try.prog 13 #[.pointer (some ⟨q, 0, none⟩), .string nm] w fun e w' => e = .returned (.bool false) ∧ w = w' := by
  have H := Lib.hid h; have HF := Lib.hid hf
  clear h hf
  go_enter Try.func13, Try.ntmps13
  go_wp2_with (go_at_call 27; (with_reducible refine (at_none H.out hq HF.out).mono ?_); rintro e w1 ⟨rfl, rfl⟩)
  go_ret
  exact ⟨rfl, rfl⟩
theorem drop_some (h : QX w X M v es clk f l) (hq : w.cell? ⟨q, 0, none⟩ = some (.pointer (some ⟨X, 0, none⟩))) (hh : IsHeap lessE l l.length) (hb : l.length ≤ 999999) {nm : ByteArray} {k : Nat} (hf : f nm = some k) :
    Calls Try.prog 13 #[.pointer (some ⟨q, 0, none⟩), .string nm] w fun e w' => e = .returned (.bool true) ∧ Left w X M v (fun l' => (elt l k :: l').Perm l) w' := by
  have H := Lib.hid h; have HF := Lib.hid hf; have HH := Lib.hid hh
  have hk := ((h.whr _ _).1 hf).1
  clear h hf hh
  have D : Hid (Calls Try.prog 28 #[.iface 54 (.pointer (some ⟨X, 0, none⟩)), .int .i64 k] w fun r w' => r = .returned (.iface 28 (.agg #[.string (elt l k).nm, .int .u64 (elt l k).tk])) ∧ Left w X M v (fun l' => (elt l k :: l').Perm l) w') := by
    obtain ⟨n, hn⟩ : ∃ n, l.length = n + 1 := ⟨l.length - 1, by omega⟩
    by_cases e : k < n
    · exact Lib.hid (heap_remove X M v l w k n ⟨_, _, _, H.out⟩ HH.out hn e (by omega))
    · have : k = n := by omega
      subst this
      exact Lib.hid (heap_remove_last X M v l w k ⟨_, _, _, H.out⟩ HH.out hn (by omega))
  go_enter Try.func13, Try.ntmps13
  go_wp2_with (first
    | (go_at_call 27; (with_reducible refine (at_some H.out hq HF.out).mono ?_); rintro e w1 ⟨rfl, rfl⟩)
    | (go_at_call 28; (with_reducible refine D.out.mono ?_); rintro e w1 ⟨rfl, hl⟩; have HL := Lib.hid hl; clear hl))
  go_ret
  exact ⟨rfl, HL.out⟩

theorem put_none (h : QX w X M v es clk f l) (hq : w.cell? ⟨q, 0, none⟩ = some (.pointer (some ⟨X, 0, none⟩))) (hh : IsHeap lessE l l.length) (hb : l.length ≤ 999999) {e : Ent} (hf : f e.nm = none) :
    Calls Try.prog 18 #[.pointer (some ⟨q, 0, none⟩), .string e.nm, .int .u64 e.tk] w fun r w' => r = .returned (.bool false) ∧ Left w X M v (fun l' => l'.Perm (l ++ [e])) w' := by
  have H := Lib.hid h; have HF := Lib.hid hf
  have HE : Hid (∀ k, k < l.length → (elt l k).nm ≠ e.nm) := Lib.hid fun k hk q => by
    have := (h.whr e.nm k).2 ⟨hk, q⟩
    rw [hf] at this; cases this
  have D := Lib.hid (heap_push X M v l e w ⟨_, _, _, h⟩ hh HE.out hb)
  clear h hf hh HE
  go_enter Try.func18, Try.ntmps18
  go_wp2_with (first
    | (go_at_call 27; (with_reducible refine (at_none H.out hq HF.out).mono ?_); rintro r w1 ⟨rfl, rfl⟩)
    | (go_at_call 32; (with_reducible refine D.out.mono ?_); rintro r w1 ⟨rfl, hl⟩; have HL := Lib.hid hl; clear hl))
  go_ret
  exact ⟨rfl, HL.out⟩
theorem put_some (h : QX w X M v es clk f l) (hq : w.cell? ⟨q, 0, none⟩ = some (.pointer (some ⟨X, 0, none⟩))) (hh : IsHeap lessE l l.length) (hb : l.length ≤ 999999) {e : Ent} {k : Nat} (hf : f e.nm = some k) :
    Calls Try.prog 18 #[.pointer (some ⟨q, 0, none⟩), .string e.nm, .int .u64 e.tk] w fun r w' => r = .returned (.bool true) ∧ Left w X M v (fun l' => l'.Perm (l.set k e)) w' := by
  obtain ⟨c0, c1, _, hX⟩ := h.cells
  obtain ⟨hk, hnm⟩ := (h.whr _ _).1 hf
  obtain ⟨L, cap, hv, hcap, hL, hXL, hML, hc, hfr⟩ := h.at (by omega)
  obtain ⟨r0, r1⟩ := hc k hk
  have fr := hfr (k * 2 + 1)
  obtain ⟨h1, h2⟩ := h.set_tk hk hv hXL hML e.tk
  have he : (⟨(elt l k).nm, e.tk⟩ : Ent) = e := by rw [hnm]
  rw [he] at h1
  have hql : q ≠ L := by
    rintro rfl
    have := h.row
    rcases this.2 with ⟨hv2, _⟩ | ⟨g, cap2, cur, hv2, _, hh2, _⟩
    · rw [hv] at hv2; cases hv2
    · have hg : g = q := by rw [hv] at hv2; injection hv2 with a; injection a with a; injection a with a; exact a.symm
      subst hg
      have r0' := (hc 0 (by omega)).1
      rw [show (0 * 2) = 0 from rfl, hq] at r0'
      cases r0'
  have D : Hid (Calls Try.prog 31 #[.iface 54 (.pointer (some ⟨X, 0, none⟩)), .int .i64 k] (w.setCell ⟨L, k * 2 + 1, none⟩ (.int .u64 e.tk)) fun r w' => r = .returned (.tuple #[]) ∧ Left (w.setCell ⟨L, k * 2 + 1, none⟩ (.int .u64 e.tk)) X M v (fun l' => l'.Perm (l.set k e)) w') :=
    Lib.hid (heap_fix X M v (l.set k e) _ k ⟨_, _, _, h1⟩ (by simpa using hk) (by rw [List.length_set]; exact set_inv less_total hh hk e) (by simpa using hb))
  have HT := Lib.hid h2
  rw [hv] at c0
  obtain ⟨n, hn⟩ : ∃ n, l.length = n := ⟨_, rfl⟩
  rw [hn] at c0 hk hcap
  have p1 : (0 : Int) ≤ (k : Int) := by omega
  have p2 : (k : Int) < (n : Int) := by omega
  have H := Lib.hid h; have HF := Lib.hid hf
  clear h hc hfr hv hf r0 h1 h2 hh he hnm
  go_enter Try.func18, Try.ntmps18
  go_wp2_with (first
    | (go_at_call 27; (with_reducible refine (at_some H.out hq HF.out).mono ?_); rintro r w1 ⟨rfl, rfl⟩)
    | (go_at_call 31; (with_reducible refine D.out.mono ?_); rintro r w1 ⟨rfl, v', l', a1, a2, a3, a4, a5⟩; have HL : Hid (Left w X M v (fun l' => l'.Perm (l.set k e)) w1) := Lib.hid ⟨v', l', a1, a2, a3, a4.weaken HT.out.size, HT.out.trans (.refl _ _) a5⟩; clear a1 a2 a3 a4 a5))
  go_ret
  exact ⟨rfl, HL.out⟩

end
end Go.Proofs.Yticnckclmlejhaa
