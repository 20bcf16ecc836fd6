/-
  A queue stands for a list of entries in order: what each of its functions makes of the list.
-/
import Derived.Test.YticnckclmlejhaaPopQ
namespace Go.Proofs.Yticnckclmlejhaa
open Go.RowKit Go.ChangeMaps Hp

/-- The queue q, in the blocks B, stands for S. -/
def Que (w : World) (q : Nat) (B : Nat → Prop) (S : List Ent) : Prop :=
  ∃ X M v es clk f l, w.cell? ⟨q, 0, none⟩ = some (.pointer (some ⟨X, 0, none⟩)) ∧ QX w X M v es clk f l ∧ (q ≠ X ∧ q ≠ M ∧ some q ≠ v.ownBlock) ∧ IsHeap lessE l l.length ∧ S.Perm l ∧ Sorted S ∧
    ∀ k, B k ↔ k = q ∨ k = X ∨ k = M ∨ some k = v.ownBlock
/-- Only B, and new blocks, have changed; the queue now lies in B'. -/
structure Chg (B B' : Nat → Prop) (w w' : World) : Prop where
  os : w'.os = w.os
  tape : w'.tape = w.tape
  output : w'.output = w.output
  size : w.heap.size ≤ w'.heap.size
  block : ∀ k, k < w.heap.size → ¬ B k → w'.heap[k]? = w.heap[k]?
  foot : ∀ k, B' k → B k ∨ w.heap.size ≤ k

def entV (e : Ent) : Value := .agg #[.string e.nm, .int .u64 e.tk]
def frontV : List Ent → Value
  | [] => .tuple #[.agg #[.string ByteArray.empty, .int .u64 0], .bool false]
  | e :: _ => .tuple #[entV e, .bool true]
def atV : Option Ent → Value
  | none => .tuple #[.int .u64 0, .bool false]
  | some e => .tuple #[.int .u64 e.tk, .bool true]

theorem erase_perm : ∀ {l : List Ent} {k : Nat} (hk : k < l.length), (l[k] :: l.eraseIdx k).Perm l
  | _ :: _, 0, _ => .refl _
  | a :: t, k + 1, hk => by
    have := erase_perm (l := t) (k := k) (by simpa using hk)
    simp only [List.getElem_cons_succ, List.eraseIdx_cons_succ]
    exact (List.Perm.swap _ _ _).trans (this.cons a)
theorem set_perm : ∀ {l : List Ent} {k : Nat} (_ : k < l.length) (e : Ent), (l.set k e).Perm (e :: l.eraseIdx k)
  | _ :: _, 0, _, _ => .refl _
  | a :: t, k + 1, hk, e => by
    have := set_perm (l := t) (k := k) (by simpa using hk) e
    simp only [List.set_cons_succ, List.eraseIdx_cons_succ]
    exact (this.cons a).trans (List.Perm.swap _ _ _)
theorem whr_uniq {f : ByteArray → Option Nat} {l : List Ent} (h : Whr f l) : Uniq l := by
  unfold Uniq
  rw [List.nodup_iff_pairwise_ne, List.pairwise_iff_getElem]
  intro i j hi hj hij e
  simp only [List.length_map] at hi hj
  simp only [List.getElem_map] at e
  have := whr_inj h hi hj (by rw [elt_elem hi, elt_elem hj]; exact e)
  omega

section
variable {w w' : World} {q : Nat} {B B' : Nat → Prop} {S : List Ent}
theorem Que.uniq (h : Que w q B S) : Uniq S := by
  obtain ⟨X, M, v, es, clk, f, l, _, h2, _, _, h5, _⟩ := h
  exact uniq_perm h5.symm (whr_uniq h2.whr)
theorem Que.sorted (h : Que w q B S) : Sorted S := by
  obtain ⟨X, M, v, es, clk, f, l, _, h2, _, _, h5, h6, _⟩ := h
  exact h6
theorem Que.lt (h : Que w q B S) : ∀ k, B k → k < w.heap.size := by
  obtain ⟨X, M, v, es, clk, f, l, h1, h2, _, _, _, _, h7⟩ := h
  intro k hk
  rcases (h7 k).1 hk with rfl | rfl | rfl | e
  · exact World.block_lt_of_cell? w _ h1
  · exact h2.x.lt
  · exact lt_of_heap h2.mp
  · exact (h2.own k e.symm).2.2
theorem Que.self (h : Que w q B S) : B q := by
  obtain ⟨X, M, v, es, clk, f, l, h1, h2, _, _, _, _, h7⟩ := h
  exact (h7 q).2 (.inl rfl)
theorem Que.keep (h : Que w q B S) (hb : ∀ k, B k → w'.heap[k]? = w.heap[k]?) : Que w' q B S := by
  obtain ⟨X, M, v, es, clk, f, l, h1, h2, h3, h4, h5, h6, h7⟩ := h
  exact ⟨X, M, v, es, clk, f, l, (World.cell?_of_block (w := w) (hb q ((h7 q).2 (.inl rfl)))).trans h1, h2.keep fun k hk => hb k ((h7 k).2 (.inr hk)), h3, h4, h5, h6, h7⟩
theorem Que.below (h : Que w q B S) (hb : Below w.heap.size w w') : Que w' q B S := h.keep fun k hk => hb.block k (h.lt k hk)
theorem Chg.refl (B : Nat → Prop) (w : World) : Chg B B w w := ⟨rfl, rfl, rfl, Nat.le_refl _, fun _ _ _ => rfl, fun _ h => .inl h⟩
theorem Chg.of_below (B : Nat → Prop) (h : Below w.heap.size w w') : Chg B B w w' := ⟨h.os, h.tape, h.output, h.size, fun k hk _ => h.block k hk, fun _ h => .inl h⟩
theorem Chg.trans {B'' : Nat → Prop} {w'' : World} (h : Chg B B' w w') (k : Chg B' B'' w' w'') : Chg B B'' w w'' :=
  ⟨k.os.trans h.os, k.tape.trans h.tape, k.output.trans h.output, Nat.le_trans h.size k.size, fun i hi hn => (k.block i (Nat.lt_of_lt_of_le hi h.size) fun hb => by
      rcases h.foot i hb with hb | hb
      · exact hn hb
      · omega).trans (h.block i hi hn), fun i hi => by
    rcases k.foot i hi with hb | hb
    · exact h.foot i hb
    · exact .inr (Nat.le_trans h.size hb)⟩
theorem Chg.below {base : Nat} (h : Chg B B' w w') (hB : ∀ k, B k → base ≤ k) (hs : base ≤ w.heap.size) : Below base w w' :=
  ⟨h.os, h.tape, h.output, h.size, fun k hk => h.block k (by omega) fun hb => by have := hB k hb; omega⟩
theorem Chg.base {base : Nat} (h : Chg B B' w w') (hB : ∀ k, B k → base ≤ k) (hs : base ≤ w.heap.size) : ∀ k, B' k → base ≤ k := fun k hk => by
  rcases h.foot k hk with hb | hb
  · exact hB k hb
  · omega
/-- Another queue is as it was, and still apart. -/
theorem Que.other {p : Nat} {C : Nat → Prop} {T : List Ent} (h : Que w p C T) (hc : Chg B B' w w') (hd : ∀ k, B k → C k → False) : Que w' p C T ∧ ∀ k, B' k → C k → False := by
  refine ⟨h.keep fun k hk => hc.block k (h.lt k hk) fun hb => hd k hb hk, fun k hb hk => ?_⟩
  rcases hc.foot k hb with hb | hb
  · exact hd k hb hk
  · have := h.lt k hk; omega

theorem Left.que {X M : Nat} {v : Value} {p : List Ent → Prop} {S' : List Ent} (h : Left w X M v p w') (hq : w.cell? ⟨q, 0, none⟩ = some (.pointer (some ⟨X, 0, none⟩))) (hne : q ≠ X ∧ q ≠ M ∧ some q ≠ v.ownBlock)
    (hB : ∀ k, B k ↔ k = q ∨ k = X ∨ k = M ∨ some k = v.ownBlock) (hp : ∀ l', p l' → S'.Perm l') (hs : Sorted S') : ∃ B', Que w' q B' S' ∧ Chg B B' w w' := by
  obtain ⟨v', l', ⟨es, clk, f, hx⟩, h2, h3, h4, h5⟩ := h
  have hql := World.block_lt_of_cell? w _ hq
  refine ⟨fun k => k = q ∨ k = X ∨ k = M ∨ some k = v'.ownBlock, ⟨X, M, v', es, clk, f, l', (h5.cell hql hne.1 hne.2.1 hne.2.2).trans hq, hx, ⟨hne.1, hne.2.1, ?_⟩, h3, hp l' h2, hs, fun _ => Iff.rfl⟩, ⟨h5.os, h5.tape, h5.output, h5.size, fun k hk hn => ?_, fun k hk => ?_⟩⟩
  · rcases h4 with e | ⟨g, e, hg⟩
    · rw [e]; exact hne.2.2
    · rw [e]; intro e2; injection e2 with e2; have : q < w.heap.size := hql; omega
  · have hn' := fun e => hn ((hB k).2 e)
    exact h5.block k hk (fun e => hn' (.inr (.inl e))) (fun e => hn' (.inr (.inr (.inl e)))) (fun e => hn' (.inr (.inr (.inr e))))
  · rcases hk with e | e | e | e
    · exact .inl ((hB k).2 (.inl e))
    · exact .inl ((hB k).2 (.inr (.inl e)))
    · exact .inl ((hB k).2 (.inr (.inr (.inl e))))
    · rcases h4 with e2 | ⟨g, e2, hg⟩
      · rw [e2] at e; exact .inl ((hB k).2 (.inr (.inr (.inr e))))
      · rw [e2] at e; injection e with e; exact .inr (by omega)

theorem fnd_of {f : ByteArray → Option Nat} {l : List Ent} (h : Whr f l) (hp : S.Perm l) (hu : Uniq S) (nm : ByteArray) : fnd S nm = (f nm).map (elt l) := by
  cases hf : f nm with
  | none =>
    rw [Option.map_none, fnd_none]
    intro a ha e
    obtain ⟨k, hk, rfl⟩ := List.mem_iff_getElem.1 (hp.mem_iff.1 ha)
    have := (h nm k).2 ⟨hk, by rw [elt_elem hk]; exact e⟩
    rw [hf] at this; cases this
  | some k =>
    obtain ⟨hk, e⟩ := (h nm k).1 hf
    rw [Option.map_some, ← e]
    refine fnd_mem hu (hp.mem_iff.2 ?_)
    rw [elt_elem hk]
    exact List.getElem_mem hk

theorem put_que (h : Que w q B S) (hb : S.length ≤ 999999) (e : Ent) :
    Calls Try.prog 18 #[.pointer (some ⟨q, 0, none⟩), .string e.nm, .int .u64 e.tk] w fun r w' => r = .returned (.bool (fnd S e.nm).isSome) ∧ ∃ B', Que w' q B' (ins e (fltr e.nm S)) ∧ Chg B B' w w' := by
  have hu := h.uniq
  obtain ⟨X, M, v, es, clk, f, l, h1, h2, h3, h4, h5, h6, h7⟩ := h
  have hl := h5.length_eq
  have hsort : Sorted (ins e (fltr e.nm S)) := ins_sorted (fltr_sorted h6) fun a ha => (mem_fltr.1 ha).2
  rw [fnd_of h2.whr h5 hu]
  cases hf : f e.nm with
  | none =>
    refine (put_none h2 h1 h4 (by omega) hf).mono ?_
    rintro r w' ⟨rfl, hL⟩
    refine ⟨rfl, hL.que h1 h3 h7 (fun l' hp => ?_) hsort⟩
    have hn : fltr e.nm S = S := by
      apply fltr_none
      have := fnd_of h2.whr h5 hu e.nm
      rw [hf] at this
      exact fnd_none.1 this
    rw [hn]
    refine (ins_perm e S).trans ((h5.cons e).trans ?_)
    exact (List.perm_append_comm (l₁ := [e]) (l₂ := l)).trans hp.symm
  | some k =>
    obtain ⟨hk, hnm⟩ := (h2.whr _ _).1 hf
    refine (put_some h2 h1 h4 (by omega) hf).mono ?_
    rintro r w' ⟨rfl, hL⟩
    refine ⟨rfl, hL.que h1 h3 h7 (fun l' hp => ?_) hsort⟩
    have hul := uniq_perm h5 hu
    have p1 : (elt l k :: l.eraseIdx k).Perm l := by
      rw [elt_elem hk]
      exact erase_perm hk
    have p2 := rem_perm hul p1
    rw [hnm] at p2
    have p3 : (l.set k e).Perm (e :: l.eraseIdx k) := by
      exact set_perm hk e
    refine (ins_perm e _).trans (List.Perm.trans ((fltr_perm h5).cons e) ?_)
    exact ((p2.symm.cons e).trans p3.symm).trans hp.symm

theorem drop_que (h : Que w q B S) (hb : S.length ≤ 999999) (nm : ByteArray) :
    Calls Try.prog 13 #[.pointer (some ⟨q, 0, none⟩), .string nm] w fun r w' => r = .returned (.bool (fnd S nm).isSome) ∧ ∃ B', Que w' q B' (fltr nm S) ∧ Chg B B' w w' := by
  have hu := h.uniq
  have h0 := h
  obtain ⟨X, M, v, es, clk, f, l, h1, h2, h3, h4, h5, h6, h7⟩ := h
  have hl := h5.length_eq
  have hfn := fnd_of h2.whr h5 hu nm
  cases hf : f nm with
  | none =>
    refine (drop_none h2 h1 hf).mono ?_
    rintro r w' ⟨rfl, rfl⟩
    rw [hfn, hf]
    rw [hf] at hfn
    rw [fltr_none (fnd_none.1 hfn)]
    exact ⟨rfl, B, h0, Chg.refl _ _⟩
  | some k =>
    obtain ⟨hk, hnm⟩ := (h2.whr _ _).1 hf
    refine (drop_some h2 h1 h4 (by omega) hf).mono ?_
    rintro r w' ⟨rfl, hL⟩
    rw [hfn, hf]
    refine ⟨rfl, hL.que h1 h3 h7 (fun l' hp => ?_) (fltr_sorted h6)⟩
    have p2 := rem_perm (uniq_perm h5 hu) hp
    rw [hnm] at p2
    exact (fltr_perm h5).trans p2.symm

theorem at_que (h : Que w q B S) (nm : ByteArray) :
    Calls Try.prog 12 #[.pointer (some ⟨q, 0, none⟩), .string nm] w fun r w' => r = .returned (atV (fnd S nm)) ∧ w = w' := by
  have hu := h.uniq
  obtain ⟨X, M, v, es, clk, f, l, h1, h2, h3, h4, h5, h6, h7⟩ := h
  rw [fnd_of h2.whr h5 hu nm]
  cases hf : f nm with
  | none => exact qat_none h2 h1 hf
  | some k => exact qat_some h2 h1 hf

theorem len_que (h : Que w q B S) : Calls Try.prog 10 #[.pointer (some ⟨q, 0, none⟩)] w fun r w' => r = .returned (.int .i64 S.length) ∧ w = w' := by
  obtain ⟨X, M, v, es, clk, f, l, h1, h2, h3, h4, h5, h6, h7⟩ := h
  rw [h5.length_eq]
  exact qlen_q h2 h1

theorem head_of {l : List Ent} {e : Ent} {t : List Ent} (h4 : IsHeap lessE l l.length) (h5 : (e :: t).Perm l) (h6 : Sorted (e :: t)) : 0 < l.length ∧ elt l 0 = e := by
  have h0 : 0 < l.length := by rw [← h5.length_eq]; simp
  refine ⟨h0, sorted_uniq_head h6 h5 (by rw [elt_elem h0]; exact List.getElem_mem h0) fun x hx => ?_⟩
  obtain ⟨k, hk, rfl⟩ := List.mem_iff_getElem.1 hx
  have := root_le less_total h4 k hk
  rw [elt_elem hk] at this
  exact this

theorem front_que (h : Que w q B S) : Calls Try.prog 16 #[.pointer (some ⟨q, 0, none⟩)] w fun r w' => r = .returned (frontV S) ∧ Que w' q B S ∧ Below w.heap.size w w' := by
  have h0 := h
  obtain ⟨X, M, v, es, clk, f, l, h1, h2, h3, h4, h5, h6, h7⟩ := h
  cases S with
  | nil =>
    refine (front_none h2 h1 (by rw [← h5.length_eq]; rfl)).mono ?_
    rintro r w' ⟨rfl, hb⟩
    exact ⟨rfl, h0.below hb, hb⟩
  | cons e t =>
    obtain ⟨g0, g1⟩ := head_of h4 h5 h6
    refine (front_some h2 h1 g0).mono ?_
    rintro r w' ⟨rfl, hb⟩
    rw [g1]
    exact ⟨rfl, h0.below hb, hb⟩

theorem pop_que (h : Que w q B S) (hb : S.length ≤ 999999) : Calls Try.prog 11 #[.pointer (some ⟨q, 0, none⟩)] w fun r w' => r = .returned (frontV S) ∧ ∃ B', Que w' q B' S.tail ∧ Chg B B' w w' := by
  have h0 := h
  obtain ⟨X, M, v, es, clk, f, l, h1, h2, h3, h4, h5, h6, h7⟩ := h
  have hl := h5.length_eq
  cases S with
  | nil =>
    refine (qpop_none h2 h1 (by rw [← h5.length_eq]; rfl)).mono ?_
    rintro r w' ⟨rfl, hb⟩
    exact ⟨rfl, B, h0.below hb, Chg.of_below B hb⟩
  | cons e t =>
    obtain ⟨g0, g1⟩ := head_of h4 h5 h6
    refine (qpop_some h2 h1 h4 (n := l.length - 1) (by omega) (by omega)).mono ?_
    rintro r w' ⟨rfl, hL⟩
    rw [g1] at hL ⊢
    exact ⟨rfl, hL.que h1 h3 h7 (fun l' hp => (h5.trans hp.symm).cons_inv) (List.pairwise_cons.1 h6).2⟩
end

theorem new_que (w : World) : Calls Try.prog 17 #[] w fun r w' => ∃ q B, r = .returned (.pointer (some ⟨q, 0, none⟩)) ∧ Que w' q B [] ∧ Below w.heap.size w w' ∧ ∀ k, B k → w.heap.size ≤ k := by
  refine (new_q w).mono ?_
  rintro r w' ⟨rfl, rfl⟩
  refine ⟨_, fun k => k = w.heap.size + 1 + 1 ∨ k = w.heap.size + 1 ∨ k = w.heap.size ∨ some k = (Value.slice none 0 0).ownBlock, rfl, ⟨w.heap.size + 1, w.heap.size, .slice none 0 0, #[], 0, fun _ => none, [], ?_, ⟨?_, ?_, ?_, idx_empty, ?_⟩, ⟨by omega, by omega, by simp [Value.ownBlock]⟩, ?_, List.Perm.refl _, List.Pairwise.nil, fun _ => Iff.rfl⟩, ?_, ?_⟩
  · have := (Blk.new ((w.alloc (.map #[] 0)).alloc (.cells #[.slice none 0 0, .map (some w.heap.size)] 62)) 56 #[.pointer (some ⟨w.heap.size + 1, 0, none⟩)]).cell 0
    simpa using this
  · have := (Blk.new (w.alloc (.map #[] 0)) 62 #[.slice none 0 0, .map (some w.heap.size)]).alloc (.cells #[.pointer (some ⟨w.heap.size + 1, 0, none⟩)] 56)
    simpa using this
  · exact ⟨by simp [flat], .inl ⟨rfl, rfl⟩⟩
  · rw [Below.heap_alloc _ _ _ (by simp; omega), Below.heap_alloc _ _ _ (by simp)]
    exact heap_alloc_new w _
  · intro nm k
    simp
  · intro k _ hk
    simp at hk
  · exact (((Below.refl _ w).alloc (Nat.le_refl _) _).alloc (by simp) _).alloc (by simp; omega) _
  · intro k hk
    simp [Value.ownBlock] at hk
    omega
end Go.Proofs.Yticnckclmlejhaa
