/-
  The walk of the document's answer (layer 6): Put.
-/
import Derived.Test.YticnckclmlejhaaRefB
namespace Go.Proofs.Yticnckclmlejhaa
open Go.RowKit Go.ChangeMaps Hp

theorem mid_perm (T : List Ent) (k : Nat) (x : Ent) : (T.take k ++ x :: T.drop k).Perm (x :: T) := by
  refine (List.perm_middle).trans ?_
  rw [List.take_append_drop]
theorem ins_mid {T : List Ent} {x : Ent} {k : Nat} (hs : Sorted T) (hn : ∀ y ∈ T, y.nm ≠ x.nm) (hk : k ≤ T.length) (h1 : ∀ y ∈ T.drop k, lessE x y = true) (h2 : k = 0 ∨ lessE x (elt T (k - 1)) = false) : T.take k ++ x :: T.drop k = ins x T := by
  refine sorted_eq ?_ (ins_sorted hs hn) ((mid_perm T k x).trans (ins_perm x T).symm)
  have h3 : ∀ y ∈ T.take k, lessE y x = true := by
    intro y hy
    rcases h2 with h2 | h2
    · subst h2; simp at hy
    · obtain ⟨i, hi, rfl⟩ := List.mem_iff_getElem.1 hy
      have hi2 : i < k := by simp at hi; omega
      have hi3 : i < T.length := by omega
      have hk0 : k - 1 < T.length := by omega
      have e1 : (T.take k)[i] = T[i] := List.getElem_take
      rw [e1]
      rw [elt_elem hk0] at h2
      have hlast : lessE T[k - 1] x = true := by
        cases hq : lessE T[k - 1] x
        · have := less_total.tot _ _ hq h2
          exact absurd (congrArg Ent.nm this) (hn _ (List.getElem_mem hk0))
        · rfl
      by_cases he : i = k - 1
      · subst he; exact hlast
      · exact less_total.tr _ _ _ (List.pairwise_iff_getElem.1 hs i (k - 1) hi3 hk0 (by omega)) hlast
  unfold Sorted
  rw [List.pairwise_append]
  refine ⟨List.Pairwise.sublist (List.take_sublist k T) hs, List.pairwise_cons.2 ⟨h1, List.Pairwise.sublist (List.drop_sublist k T) hs⟩, fun a ha b hb => ?_⟩
  rcases List.mem_cons.1 hb with rfl | hb
  · exact h3 a ha
  · exact less_total.tr _ _ _ (h3 a ha) (h1 b hb)
theorem elt_mid {T : List Ent} {x : Ent} {k : Nat} (hk : k ≤ T.length) : elt (T.take k ++ x :: T.drop k) k = x := by
  rw [elt_elem (by simp; omega)]
  rw [List.getElem_append_right (by simp; omega)]
  simp [Nat.min_eq_left hk]
theorem elt_mid_lt {T : List Ent} {x : Ent} {k j : Nat} (hk : k ≤ T.length) (hj : j < k) : elt (T.take k ++ x :: T.drop k) j = elt T j := by
  rw [elt_elem (by simp; omega), elt_elem (by omega : j < T.length)]
  rw [List.getElem_append_left (by simp; omega)]
  exact List.getElem_take
theorem set_mid {T : List Ent} {x : Ent} {k j : Nat} (hk : k ≤ T.length) (hj : j + 1 = k) : ((T.take k ++ x :: T.drop k).set k (elt T j)).set j x = T.take j ++ x :: T.drop j := by
  subst hj
  have hjl : j < T.length := by omega
  rw [take_succ' hjl]
  have hd : T.drop j = elt T j :: T.drop (j + 1) := by rw [elt_elem hjl]; exact List.drop_eq_getElem_cons hjl
  rw [hd]
  have hl : (T.take j).length = j := by simp; omega
  have e1 : (T.take j ++ [elt T j] ++ x :: T.drop (j + 1)).set (j + 1) (elt T j) = T.take j ++ [elt T j] ++ elt T j :: T.drop (j + 1) := by
    rw [List.set_append, if_neg (by simp; omega)]
    have : j + 1 - (T.take j ++ [elt T j]).length = 0 := by simp; omega
    rw [this]; rfl
  rw [e1, List.append_assoc, List.set_append, if_neg (by simp; omega)]
  have : j - (T.take j).length = 0 := by omega
  rw [this]; rfl
theorem news_far {W w1 : World} {x y : Value} {t : TypeId} {B : Nat} (hb : Below (W.alloc (.cells #[x, y] t)).drew.heap.size (W.alloc (.cells #[x, y] t)).drew w1) (hB : B = W.heap.size) : ∀ j u, [x, y][j]? = some u → w1.cell? ((⟨B, 0, none⟩ : Addr).add j) = some u := by
  intro j u hj
  have h := news_two W x y t B hB j u hj
  subst hB
  refine (hb.cell ?_).trans h
  match j with
  | 0 => simp [Addr.add]
  | j + 1 => simp [Addr.add]
theorem DRow.from {w wx w1 w4 : World} {o v : Value} {T T' : List Ent} (hx : Below w.heap.size w wx) (h : DRow wx w1 o T) (hown : w4.ownsRow wx.heap.size 47 2 v T'.length (flat T')) (hg : w1.grownBy w4 o.ownBlock) : DRow w w4 v T' := by
  obtain ⟨h2, h7⟩ := h
  have := hg.size
  have := h2.size
  have := hx.size
  refine ⟨⟨hg.os.trans (h2.os.trans hx.os), hg.tape.trans (h2.tape.trans hx.tape), hg.output.trans (h2.output.trans hx.output), by omega, fun k hk => ?_⟩, hown.mono hx.size⟩
  exact (hg.block k (by omega) fun e => by have := (h7.lt k e.symm).1; omega).trans ((h2.block k (by omega)).trans (hx.block k hk))
theorem DRow.from' {w wx w1 w4 : World} {o v : Value} {T T' : List Ent} {ob : Obj} (hx : Below w.heap.size w wx) (h : DRow wx w1 o T) (hown : w4.ownsRow wx.heap.size 47 2 v T'.length (flat T')) (hg : (w1.alloc ob).grownBy w4 o.ownBlock) : DRow w w4 v T' := by
  have h1 := h.1
  have h2 : DRow wx (w1.alloc ob) o T := ⟨h.1.alloc h.1.size _, h.2.alloc _⟩
  exact DRow.from hx h2 hown hg
theorem DRow.rowN {w wr : World} {o : Value} {T : List Ent} (h : DRow w wr o T) {m : Nat} (hm : T.length = m) : wr.ownsRow w.heap.size 47 2 o m (flat T) := hm ▸ h.2
theorem own_snocN {w : World} {b g cap m : Nat} {T : List Ent} {e : Ent} (hm : T.length = m) (h : w.ownsRow b 47 2 (.slice (some ⟨g, 0, none⟩) (m + 1) cap) (m + 1) (flat T ++ [.string e.nm, .int .u64 e.tk])) :
    w.ownsRow b 47 2 (.slice (some ⟨g, 0, none⟩) (m + 1) cap) (T ++ [e]).length (flat (T ++ [e])) := by
  subst hm
  exact own_snoc h
theorem DRow.below {w wr w' : World} {o : Value} {T : List Ent} (h : DRow w wr o T) (hb : Below wr.heap.size wr w') : DRow w w' o T := ⟨h.1.trans (hb.mono h.1.size), row47_below h.2 hb⟩
theorem DRow.cells {w wr : World} {g n cap : Nat} {T : List Ent} (h : DRow w wr (.slice (some ⟨g, 0, none⟩) n cap) T) (hn : T.length = n) {j : Nat} (hj : j < n) :
    wr.cell? ⟨g, j * 2, none⟩ = some (.string (elt T j).nm) ∧ wr.cell? ⟨g, j * 2 + 1, none⟩ = some (.int .u64 (elt T j).tk) ∧ wr.frozen? ⟨g, j * 2, none⟩ = false ∧ wr.frozen? ⟨g, j * 2 + 1, none⟩ = false ∧ g < wr.heap.size := by
  subst hn
  obtain ⟨f1, f2⟩ := flat_get T j hj
  refine ⟨(h.2.cellAt (j * 2) (by omega)).trans f1, (h.2.cellAt (j * 2 + 1) (by omega)).trans f2, h.2.frozenAt _, h.2.frozenAt _, ?_⟩
  exact World.block_lt_of_cell? wr _ ((h.2.cellAt (j * 2) (by omega)).trans f1)
theorem DRow.set {w wr : World} {g n cap : Nat} {T : List Ent} (h : DRow w wr (.slice (some ⟨g, 0, none⟩) n cap) T) (hn : T.length = n) (j : Nat) (e : Ent) :
    DRow w ((wr.setCell ⟨g, j * 2, none⟩ (.string e.nm)).setCell ⟨g, j * 2 + 1, none⟩ (.int .u64 e.tk)) (.slice (some ⟨g, 0, none⟩) n cap) (T.set j e) := by
  subst hn
  have hg := (h.2.lt g rfl).1
  refine ⟨(h.1.setCell hg _).setCell hg _, ?_⟩
  have h1 := (h.2.stored (j * 2) (.string e.nm)).1
  have h2 := (h1.stored (j * 2 + 1) (.int .u64 e.tk)).1
  rw [flat_set] at h2
  have hl : (T.set j e).length = T.length := by simp
  rw [hl]
  exact h2

theorem kp {W0 W1 : World} {b : Nat} {x y : Value} (c0 : W0.cell? ⟨b, 0, none⟩ = some x) (c1 : W0.cell? ⟨b, 1, none⟩ = some y) (hb : Below W0.heap.size W0 W1) : W1.cell? ⟨b, 0, none⟩ = some x ∧ W1.cell? ⟨b, 1, none⟩ = some y :=
  have h := World.block_lt_of_cell? W0 _ c0
  ⟨(hb.cell (p := ⟨b, 0, none⟩) h).trans c0, (hb.cell (p := ⟨b, 1, none⟩) h).trans c1⟩
theorem bel_d {w wx w1 : World} {o : Value} {T : List Ent} (hx : Below w.heap.size w wx) (h : DRow wx w1 o T) : Below w.heap.size w w1 := hx.trans (h.1.mono hx.size)
theorem bel_a {w wx : World} (hx : Below w.heap.size w wx) (ob : Obj) : Below w.heap.size w (wx.alloc ob) := hx.alloc hx.size ob
theorem bel_g {w wx w1 w4 : World} {o : Value} {T : List Ent} (hx : Below w.heap.size w wx) (h : DRow wx w1 o T) (hg : w1.grownBy w4 o.ownBlock) : Below w.heap.size w w4 := by
  obtain ⟨h2, h7⟩ := h
  have := hg.size
  have := h2.size
  have := hx.size
  refine ⟨hg.os.trans (h2.os.trans hx.os), hg.tape.trans (h2.tape.trans hx.tape), hg.output.trans (h2.output.trans hx.output), by omega, fun k hk => ?_⟩
  exact (hg.block k (by omega) fun e => by have := (h7.lt k e.symm).1; omega).trans ((h2.block k (by omega)).trans (hx.block k hk))
theorem bel_g' {w wx w1 w4 : World} {o : Value} {T : List Ent} {ob : Obj} (hx : Below w.heap.size w wx) (h : DRow wx w1 o T) (hg : (w1.alloc ob).grownBy w4 o.ownBlock) : Below w.heap.size w w4 :=
  bel_g hx (⟨h.1.alloc h.1.size _, h.2.alloc _⟩ : DRow wx (w1.alloc ob) o T) hg
set_option maxHeartbeats 3200000 in
theorem put_ref (A : Option Addr) (n cap : Nat) (L : List Ent) (nm : ByteArray) (t : Int) (w : World) (h : LRow w A L) (hn : L.length = n) (hb : n ≤ 999999) (hs : Sorted L) :
    Calls Try.prog 20 #[.slice A n cap, .agg #[.string nm, .int .u64 t]] w fun r w' => ∃ o, r = .returned o ∧ DRow w w' o (putE ⟨nm, t⟩ L) := by
  obtain ⟨i0, hi, hz0, hz1, hz2⟩ := info_parts ref_info
  have HTS : Hid (Sorted (fltr nm L)) := Lib.hid (fltr_sorted hs)
  have HTN : Hid (∀ y ∈ fltr nm L, y.nm ≠ nm) := Lib.hid fun y hy => (mem_fltr.1 hy).2
  have hTl : (fltr nm L).length ≤ 999999 := by have := fltr_length nm L; omega
  have D : Hid (∀ wx, Below w.heap.size w wx → Calls Try.prog 21 #[.slice A n cap, .string nm] wx fun r w' => ∃ o, r = .returned o ∧ DRow wx w' o (fltr nm L)) := Lib.hid fun wx hx => drop_ref A n cap L nm wx (h.below hx) hn hb
  have HPE : Hid (putE ⟨nm, t⟩ L = ins ⟨nm, t⟩ (fltr nm L)) := Lib.hid rfl
  obtain ⟨P, hP⟩ : ∃ P, putE ⟨nm, t⟩ L = P := ⟨_, rfl⟩
  obtain ⟨T, hT⟩ : ∃ T, fltr nm L = T := ⟨_, rfl⟩
  rw [hT] at HTS HTN hTl D HPE
  rw [hP] at HPE ⊢
  obtain ⟨m, hm⟩ : ∃ m, T.length = m := ⟨_, rfl⟩
  have HM := Lib.hid hm
  rw [hm] at hTl
  clear hm
  have h63 : m + 1 ≤ maxLen := by unfold maxLen; omega
  have hby : (m + 1) * 24 ≤ 140737488355328 := by omega
  have B0 : Hid (Below w.heap.size w (w.alloc (.cells #[.string nm, .int .u64 t] 47))) := Lib.hid ((Below.refl _ w).alloc (Nat.le_refl _) _)
  have k0 : (w.alloc (.cells #[.string nm, .int .u64 t] 47)).cell? ⟨w.heap.size, 0, none⟩ = some (.string nm) := by go_simp
  have k1 : (w.alloc (.cells #[.string nm, .int .u64 t] 47)).cell? ⟨w.heap.size, 1, none⟩ = some (.int .u64 t) := by go_simp
  clear h hn hs hP hT hb
  go_enter Try.func20, Try.ntmps20
  go_wp2_with fail
  go_region_held3 (fun w' => w'.cell? ⟨w.heap.size, 0, none⟩ = some (.string nm) ∧ w'.cell? ⟨w.heap.size, 1, none⟩ = some (.int .u64 t)) (first
      | exact ⟨k0, k1⟩
      | exact kp k0 k1 (bel_g' (Below.refl _ _).drew hd hgrow) | exact kp k0 k1 (bel_g ((bel_a (Below.refl _ _) _).drew) hd hgrow)
      | exact kp k0 k1 (bel_d (Below.refl _ _).drew hd) | exact kp k0 k1 (bel_d ((bel_a (Below.refl _ _) _).drew) hd) | exact kp k0 k1 (bel_a (bel_d (Below.refl _ _).drew hd) _) | exact kp k0 k1 ((bel_a (Below.refl _ _) _).drew) | fail)
    (first
      | (go_at_call 21; (with_reducible refine (D.out _ (B0.out.drew)).mono ?_); rintro r w1 ⟨o, rfl, hd⟩)
      | (go_at_call 21; (with_reducible refine (D.out _ ((B0.out.alloc (by simp) _).drew)).mono ?_); rintro r w1 ⟨o, rfl, hd⟩)
      | (refine step_append_lies _ (by rfl) (.tmp 12) (.tmp 14) 42 (by rfl) _ 47 i0 (.agg #[.string ByteArray.empty, .int .u64 0]) 2 24 Try.underlying42 hi hz0 hz1 hz2 rfl (by decide) o m (flat T) (by rfl) ((hd.rowN HM.out).alloc _) ⟨w1.heap.size, 0, none⟩ 1 1 [.string nm, .int .u64 t] (by rfl) rfl (news_two w1 _ _ _ _ rfl) (ones ⟨nm, t⟩) (by decide) h63 hby (Nat.le_trans hd.1.size (by simp)) (w1.heap.size + 1) (by simp) ?_
         intro g1 cap1 w4 hown hgrow hat hlt)
      | (refine step_append_lies _ (by rfl) (.tmp 12) (.tmp 14) 42 (by rfl) _ 47 i0 (.agg #[.string ByteArray.empty, .int .u64 0]) 2 24 Try.underlying42 hi hz0 hz1 hz2 rfl (by decide) o m (flat T) (by rfl) (hd.rowN HM.out) ⟨w.heap.size + 1, 0, none⟩ 1 1 [.string nm, .int .u64 t] (by rfl) rfl (news_far hd.1 (by simp)) (ones ⟨nm, t⟩) (by decide) h63 hby hd.1.size w1.heap.size rfl ?_
         intro g1 cap1 w4 hown hgrow hat hlt)
      | fail)
  all_goals
    have HD : Hid (DRow w w4 (.slice (some ⟨g1, 0, none⟩) (m + 1) cap1) (T ++ [⟨nm, t⟩])) := Lib.hid (by
      first
      | exact DRow.from' (B0.out.drew) hd (own_snocN (e := ⟨nm, t⟩) HM.out hown) hgrow
      | exact DRow.from ((B0.out.alloc (by simp) _).drew) hd (own_snocN (e := ⟨nm, t⟩) HM.out hown) hgrow)
    clear hd hown hgrow hat hlt D k0 k1
    clear h63 hby
    have HD0 : Hid (DRow w w4 (.slice (some ⟨g1, 0, none⟩) (m + 1) cap1) (T.take m ++ ⟨nm, t⟩ :: T.drop m)) := Lib.hid (by
      have e1 : T.take m = T := by rw [← HM.out]; exact List.take_length
      have e2 : T.drop m = [] := by rw [← HM.out]; exact List.drop_length
      rw [e1, e2]; exact HD.out)
    clear HD
    go_wp2_with fail
    go_loopw [6] (fun kv wr => ∃ k : Nat, kv = .int .i64 (k : Int) ∧ k ≤ m ∧ Hid (DRow w wr (.slice (some ⟨g1, 0, none⟩) (m + 1) cap1) (T.take k ++ ⟨nm, t⟩ :: T.drop k)) ∧ Hid (∀ y ∈ T.drop k, lessE ⟨nm, t⟩ y = true)) (fun kv _ => (intOf kv).toNat)
    case atStart => exact ⟨m, by go_num, Nat.le_refl _, HD0, Lib.hid (by rw [List.drop_eq_nil_of_le (by rw [HM.out]; exact Nat.le_refl _)]; simp)⟩
    case round =>
      clear HD0
      obtain ⟨k, rfl, hk, HD, HL⟩ := hrel
      by_cases hk0 : 0 < k
      · obtain ⟨j, hj⟩ : ∃ j, j + 1 = k := ⟨k - 1, by omega⟩
        have hUl : (T.take k ++ ⟨nm, t⟩ :: T.drop k).length = m + 1 := by rw [(mid_perm T k ⟨nm, t⟩).length_eq]; simp [HM.out]
        obtain ⟨x0, x1, x2, x3, hg⟩ := HD.out.cells hUl (j := k) (by omega)
        obtain ⟨y0, y1, y2, y3, _⟩ := HD.out.cells hUl (j := j) (by omega)
        rw [elt_mid (by rw [HM.out]; exact hk)] at x0 x1
        rw [elt_mid_lt (by rw [HM.out]; exact hk) (by omega)] at y0 y1
        have HSM : Hid (((T.take k ++ ⟨nm, t⟩ :: T.drop k).set k (elt T j)).set j ⟨nm, t⟩ = T.take j ++ ⟨nm, t⟩ :: T.drop j) := Lib.hid (set_mid (by rw [HM.out]; exact hk) hj)
        have HDJ : Hid (T.drop j = elt T j :: T.drop k) := Lib.hid (by rw [← hj, elt_elem (by rw [HM.out]; omega)]; exact List.drop_eq_getElem_cons _)
        obtain ⟨e, he⟩ : ∃ e, elt T j = e := ⟨_, rfl⟩
        rw [he] at y0 y1 HSM HDJ
        have HE := Lib.hid he
        have g1' : IntKind.i64.wrap ((k : Int) - 1) = (j : Int) := by rw [IntWalk.i64_in _ (by omega)]; omega
        have hjm : j < m + 1 := by omega
        have hkm : k < m + 1 := by omega
        have p1 : (0 : Int) ≤ (k : Int) := by omega
        have p2 : (k : Int) < (m : Int) + 1 := by omega
        have p3 : (0 : Int) ≤ (j : Int) := by omega
        have p4 : (j : Int) < (m : Int) + 1 := by omega
        have p5 : (k : Int) < ((m + 1 : Nat) : Int) := by omega
        have p6 : (j : Int) < ((m + 1 : Nat) : Int) := by omega
        have HJK := Lib.hid hj
        clear he hj hUl
        have EE : Hid (∀ wy, Below wr.heap.size wr wy → wy.cell? ⟨g1, k * 2, none⟩ = some (.string nm) ∧ wy.cell? ⟨g1, k * 2 + 1, none⟩ = some (.int .u64 t) ∧ wy.cell? ⟨g1, j * 2, none⟩ = some (.string e.nm) ∧ wy.cell? ⟨g1, j * 2 + 1, none⟩ = some (.int .u64 e.tk)) := Lib.hid fun wy hy =>
          ⟨(hy.cell (p := ⟨g1, k * 2, none⟩) hg).trans x0, (hy.cell (p := ⟨g1, k * 2 + 1, none⟩) hg).trans x1, (hy.cell (p := ⟨g1, j * 2, none⟩) hg).trans y0, (hy.cell (p := ⟨g1, j * 2 + 1, none⟩) hg).trans y1⟩
        cases hv : lessE ⟨nm, t⟩ e with
        | false =>
          have D1 : Hid (∀ wx, Calls Try.prog 33 #[.agg #[.string nm, .int .u64 t], .agg #[.string e.nm, .int .u64 e.tk]] wx fun r w' => r = .returned (.bool false) ∧ Below wx.heap.size wx w') := Lib.hid fun wx => ahead_ref nm e.nm t e.tk false hv wx
          have HV := Lib.hid hv
          clear hv
          go_wp2_with fail
          go_region_held3 (fun w' => w'.cell? ⟨g1, k * 2, none⟩ = some (.string nm) ∧ w'.cell? ⟨g1, k * 2 + 1, none⟩ = some (.int .u64 t) ∧ w'.cell? ⟨g1, j * 2, none⟩ = some (.string e.nm) ∧ w'.cell? ⟨g1, j * 2 + 1, none⟩ = some (.int .u64 e.tk))
            (first
              | exact ⟨x0, x1, y0, y1⟩
              | exact EE.out _ ((Below.refl _ _).drew.trans hb6))
            (first
              | (go_at_call 33; (with_reducible refine (D1.out _).mono ?_); rintro r w6 ⟨rfl, hb6⟩))
          clear x0 x1 x2 x3 y0 y1 y2 y3
          go_wp2
          go_ret
          have HR : Hid (T.take k ++ ⟨nm, t⟩ :: T.drop k = P) := Lib.hid (by
            rw [HPE.out]
            refine ins_mid HTS.out HTN.out (by rw [HM.out]; exact hk) HL.out (.inr ?_)
            have : k - 1 = j := by have := HJK.out; omega
            rw [this, HE.out]
            exact HV.out)
          exact ⟨.slice (some ⟨g1, 0, none⟩) (m + 1) cap1, rfl, by rw [← HR.out]; exact HD.out.below ((Below.refl _ _).drew.trans hb6)⟩
        | true =>
          have D1 : Hid (∀ wx, Calls Try.prog 33 #[.agg #[.string nm, .int .u64 t], .agg #[.string e.nm, .int .u64 e.tk]] wx fun r w' => r = .returned (.bool true) ∧ Below wx.heap.size wx w') := Lib.hid fun wx => ahead_ref nm e.nm t e.tk true hv wx
          have HV := Lib.hid hv
          clear hv
          go_wp2_with fail
          go_region_held3 (fun w' => w'.cell? ⟨g1, k * 2, none⟩ = some (.string nm) ∧ w'.cell? ⟨g1, k * 2 + 1, none⟩ = some (.int .u64 t) ∧ w'.cell? ⟨g1, j * 2, none⟩ = some (.string e.nm) ∧ w'.cell? ⟨g1, j * 2 + 1, none⟩ = some (.int .u64 e.tk))
            (first
              | exact ⟨x0, x1, y0, y1⟩
              | exact EE.out _ ((Below.refl _ _).drew.trans hb6))
            (first
              | (go_at_call 33; (with_reducible refine (D1.out _).mono ?_); rintro r w6 ⟨rfl, hb6⟩))
          have HD6 := Lib.hid (HD.out.below ((Below.refl _ _).drew.trans hb6))
          have hg6 : g1 < w6.heap.size := Nat.lt_of_lt_of_le hg hb6.size
          have hUl : (T.take k ++ ⟨nm, t⟩ :: T.drop k).length = m + 1 := by rw [(mid_perm T k ⟨nm, t⟩).length_eq]; simp [HM.out]
          obtain ⟨z0, z1, z2, z3, _⟩ := HD6.out.cells hUl (j := k) hkm
          obtain ⟨v0, v1, v2, v3, _⟩ := HD6.out.cells hUl (j := j) hjm
          rw [elt_mid (by rw [HM.out]; exact hk)] at z0 z1
          rw [elt_mid_lt (by rw [HM.out]; exact hk) (by have := HJK.out; omega), HE.out] at v0 v1
          have HSET : Hid (∀ ob, DRow w (((((w6.setCell ⟨g1, k * 2, none⟩ (.string e.nm)).setCell ⟨g1, k * 2 + 1, none⟩ (.int .u64 e.tk)).setCell ⟨g1, j * 2, none⟩ (.string nm)).setCell ⟨g1, j * 2 + 1, none⟩ (.int .u64 t)).alloc ob) (.slice (some ⟨g1, 0, none⟩) (m + 1) cap1) (T.take j ++ ⟨nm, t⟩ :: T.drop j)) := Lib.hid fun ob => by
            have h1 := HD6.out.set hUl k e
            have h2 := h1.set (by simpa using hUl) j ⟨nm, t⟩
            rw [HSM.out] at h2
            exact h2.below ((Below.refl _ _).alloc (Nat.le_refl _) ob)
          have hjk : j ≠ k := by have := HJK.out; omega
          clear x0 x1 x2 x3 y0 y1 y2 y3 hUl hb6
          have g2' : (k : Int) - 1 = (j : Int) := by have := HJK.out; omega
          go_wp2
          go_roundw
          case rel => exact ⟨j, rfl, by omega, Lib.hid (HSET.out _), Lib.hid fun y hy => by
            rw [HDJ.out] at hy
            rcases List.mem_cons.1 hy with rfl | hy
            · exact HV.out
            · exact HL.out y hy⟩
          case measure => have := HJK.out; simp [intOf]; omega
      · obtain rfl : 0 = k := by omega
        have HR : Hid (T.take 0 ++ ⟨nm, t⟩ :: T.drop 0 = P) := Lib.hid (by rw [HPE.out]; exact ins_mid HTS.out HTN.out (Nat.zero_le _) HL.out (.inl rfl))
        go_wp2
        go_ret
        exact ⟨.slice (some ⟨g1, 0, none⟩) (m + 1) cap1, rfl, by rw [← HR.out]; exact HD.out⟩
end Go.Proofs.Yticnckclmlejhaa
