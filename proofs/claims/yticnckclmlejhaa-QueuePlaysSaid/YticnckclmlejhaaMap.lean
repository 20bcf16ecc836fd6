/-
  The map of layer 6 (queue): from names to places; what each operation on it does.
-/
import Derived.Test.YticnckclmlejhaaRows
import Derived.WideKeyEntry
import Derived.MapKept
import Derived.ProofKit
namespace Go.Proofs.Yticnckclmlejhaa
open Go.MapKept Go.ChangeMaps

/-- The map's entries are these names with these places. -/
structure Idx (es : Array MapEntry) (clk : Nat) (f : ByteArray → Option Nat) : Prop where
  st : Stamped es clk
  sound : ∀ x ∈ es.toList, ∃ (nm : ByteArray) (k : Nat), x.key = .string nm ∧ x.val = .int .i64 (k : Int) ∧ f nm = some k
  full : ∀ nm k, f nm = some k → ∃ x ∈ es.toList, x.key = .string nm

def upd (f : ByteArray → Option Nat) (nm : ByteArray) (k : Option Nat) : ByteArray → Option Nat := fun x => if x = nm then k else f x

variable {es : Array MapEntry} {clk : Nat} {f : ByteArray → Option Nat}

theorem Idx.keys (h : Idx es clk f) : ∀ x ∈ es.toList, IsKey .string x.key := by
  intro x hx
  obtain ⟨nm, k, e, _⟩ := h.sound x hx
  rw [e]; trivial

theorem Idx.find_some (h : Idx es clk f) {nm : ByteArray} {k : Nat} (hf : f nm = some k) :
    ∃ j e, Instr.findNow .string (.string nm) es.toList 0 = some (some (j, .int .i64 (k : Int))) ∧ es[j]? = some e ∧ e.key = .string nm ∧ e.val = .int .i64 (k : Int) := by
  rcases findNow_spec (k := .string nm) (d := .string) trivial es.toList 0 h.keys with ⟨_, h2⟩ | ⟨j, e, h1, h2, h3⟩
  · obtain ⟨x, hx, he⟩ := h.full nm k hf
    exact absurd he (h2 x hx)
  · obtain ⟨nm', k', e1, e2, e3⟩ := h.sound e (List.mem_of_getElem? h2)
    rw [h3] at e1
    injection e1 with e1
    subst e1
    rw [hf] at e3
    injection e3 with e3
    subst e3
    refine ⟨j, e, ?_, by simpa using h2, h3, e2⟩
    rw [h1, e2]; simp
theorem Idx.find_none (h : Idx es clk f) {nm : ByteArray} (hf : f nm = none) : Instr.findNow .string (.string nm) es.toList 0 = some none ∧ ∀ x ∈ es.toList, x.key ≠ .string nm := by
  rcases findNow_spec (k := .string nm) (d := .string) trivial es.toList 0 h.keys with h1 | ⟨j, e, _, h2, h3⟩
  · exact h1
  · obtain ⟨nm', k', e1, _, e3⟩ := h.sound e (List.mem_of_getElem? h2)
    rw [h3] at e1
    injection e1 with e1
    subst e1
    rw [hf] at e3
    cases e3

theorem checks (w : World) (b : Bool) (nm : ByteArray) : (Instr.checkKey b 10000 9 (.string nm)).run Try.prog w = .ok () w := MapKept.run_checkKey (d := .string) (k := .string nm) Try.underlying9 trivial b 9999

theorem lookup_some (h : Idx es clk f) {nm : ByteArray} {k : Nat} (hf : f nm = some k) {M : Nat} {w : World} (hM : w.heap[M]? = some (.map es clk)) :
    (Instr.lookup 60 (.map (some M)) (.string nm) true).run Try.prog w = .ok (.tuple #[.int .i64 (k : Int), .bool true]) w := by
  obtain ⟨j, e, h1, _⟩ := h.find_some hf
  simp [Instr.lookup, run_underlying Try.underlying60, MapKept.run_getObj_map hM, checks, MapKept.run_findKey Try.underlying9 h1, Result.andThen]
theorem lookup_none (h : Idx es clk f) {nm : ByteArray} (hf : f nm = none) {M : Nat} {w : World} (hM : w.heap[M]? = some (.map es clk)) :
    (Instr.lookup 60 (.map (some M)) (.string nm) true).run Try.prog w = .ok (.tuple #[.int .i64 0, .bool false]) w := by
  have h1 := (h.find_none hf).1
  have hz : (zeroValue 3).run Try.prog w = .ok (.int .i64 0) w := by kernel_rfl
  simp [Instr.lookup, run_underlying Try.underlying60, MapKept.run_getObj_map hM, checks, MapKept.run_findKey Try.underlying9 h1, hz, Result.andThen]

theorem setBlock_self {w : World} {M : Nat} {o : Obj} (h : w.heap[M]? = some o) : setBlock w M o = w := by
  have : w.heap.setIfInBounds M o = w.heap := by
    apply Array.ext'
    rw [Array.toList_setIfInBounds]
    apply List.ext_getElem?
    intro i
    rw [List.getElem?_set]
    split
    · next e =>
      subst e
      simp only [Array.getElem?_toList]
      rw [h]
      split
      · rfl
      · next hh => simp at hh; rw [Array.getElem?_eq_none (by omega)] at h; cases h
    · rfl
  unfold setBlock
  rw [this]

theorem Idx.modify (h : Idx es clk f) {nm : ByteArray} {j : Nat} {e : MapEntry} (hj : es[j]? = some e) (hk : e.key = .string nm) (k' : Nat) :
    Idx (es.modify j fun e => { e with val := .int .i64 (k' : Int) }) clk (upd f nm (some k')) := by
  have hmod : (es.modify j fun e => { e with val := .int .i64 (k' : Int) }).toList = es.toList.set j { e with val := .int .i64 (k' : Int) } := by
    rw [Array.toList_modify]
    exact ChangeMaps.modify_eq_set _ _ _ _ (by simpa using hj)
  have hjl : j < es.toList.length := by have := (Array.getElem?_eq_some_iff.1 hj).1; simpa using this
  have hje : es.toList[j]? = some e := by simpa using hj
  have hkeys : ∀ x ∈ es.toList, x.key = .string nm → x = e := by
    intro x hx hxk
    obtain ⟨i, hi⟩ := List.getElem?_of_mem hx
    have hnd := h.st.2.2
    have hij : i = j := by
      have hil : i < es.toList.length := (List.getElem?_eq_some_iff.1 hi).1
      have h1 : (es.toList.map (·.key))[i]'(by simpa using hil) = (es.toList.map (·.key))[j]'(by simpa using hjl) := by
        rw [List.getElem_map, List.getElem_map]
        rw [(List.getElem?_eq_some_iff.1 hi).2, (List.getElem?_eq_some_iff.1 hje).2, hxk, hk]
      exact (List.getElem_inj hnd).1 h1
    subst hij
    rw [hi] at hje
    injection hje
  refine ⟨stamped_modify h.st j _ (fun _ _ => rfl) (fun _ _ _ => rfl), ?_, ?_⟩
  · intro x hx
    rw [hmod] at hx
    rcases List.mem_or_eq_of_mem_set hx with hx' | rfl
    · obtain ⟨n2, k2, e1, e2, e3⟩ := h.sound x hx'
      by_cases hn : n2 = nm
      · subst hn
        -- the entry of that name is the j-th; the set list holds the new one there
        have hxe := hkeys x hx' e1
        obtain ⟨i, hi⟩ := List.getElem?_of_mem hx
        rw [List.getElem?_set] at hi
        split at hi
        · next hij =>
          injection hi with hi
          subst hi
          exact ⟨n2, k', hk, rfl, by simp [upd]⟩
        · next hij =>
          have hnd := h.st.2.2
          have hil : i < es.toList.length := (List.getElem?_eq_some_iff.1 hi).1
          have h1 : (es.toList.map (·.key))[i]'(by simpa using hil) = (es.toList.map (·.key))[j]'(by simpa using hjl) := by
            rw [List.getElem_map, List.getElem_map]
            rw [(List.getElem?_eq_some_iff.1 hi).2, (List.getElem?_eq_some_iff.1 hje).2, e1, hk]
          exact absurd ((List.getElem_inj hnd).1 h1).symm hij
      · exact ⟨n2, k2, e1, e2, by simp [upd, hn, e3]⟩
    · exact ⟨nm, k', hk, rfl, by simp [upd]⟩
  · intro n2 k2 hn
    have hkm : (es.modify j fun e => { e with val := .int .i64 (k' : Int) }).toList.map (·.key) = es.toList.map (·.key) := modify_keys j _ (fun _ _ => rfl)
    have hin : Value.string n2 ∈ es.toList.map (·.key) := by
      by_cases hn2 : n2 = nm
      · subst hn2
        exact List.mem_map.2 ⟨e, List.mem_of_getElem? hje, hk⟩
      · simp [upd, hn2] at hn
        obtain ⟨x, hx, hxk⟩ := h.full n2 k2 hn
        exact List.mem_map.2 ⟨x, hx, hxk⟩
    rw [← hkm] at hin
    obtain ⟨x, hx, hxk⟩ := List.mem_map.1 hin
    exact ⟨x, hx, hxk⟩

/-- 'm[nm] = k'' in two steps, where the name is there: the entry, its store. -/
theorem set_law (h : Idx es clk f) {nm : ByteArray} {k : Nat} (hf : f nm = some k) (k' : Nat) :
    ∃ (st : Nat) (es' : Array MapEntry), Idx es' clk (upd f nm (some k')) ∧
      (∀ (M : Nat) (w : World), w.heap[M]? = some (.map es clk) → (Instr.mapEntry 60 (.map (some M)) (.string nm)).run Try.prog w = .ok (.tuple #[.int .i64 (k : Int), .int .i64 (st : Int)]) w) ∧
      (∀ (M : Nat) (w : World), w.heap[M]? = some (.map es clk) → (Instr.entryStore 60 (.map (some M)) (.int .i64 (st : Int)) (.int .i64 (k' : Int))).run Try.prog w = .ok () (setBlock w M (.map es' clk))) := by
  obtain ⟨j, e, h1, hj, hk, hv⟩ := h.find_some hf
  have hsame : es.modify j (fun e => { e with key := .string nm }) = es := by
    apply Array.ext'
    rw [Array.toList_modify, ChangeMaps.modify_eq_set _ _ _ _ (by simpa using hj)]
    have : ({ e with key := .string nm } : MapEntry) = e := by rw [← hk]
    rw [this]
    exact WideElems.set_self _ _ _ (by simpa using hj)
  refine ⟨e.born, es.modify j fun e => { e with val := .int .i64 (k' : Int) }, h.modify hj hk k', fun M w hM => ?_, fun M w hM => ?_⟩
  · have hs : ({ w with heap := w.heap.setIfInBounds M (.map es clk) } : World) = w := setBlock_self hM
    simp [Instr.mapEntry, run_underlying Try.underlying60, MapKept.run_getObj_map hM, checks, MapKept.run_findKey Try.underlying9 h1, hj, hk, MapKept.run_keyThatStays (d := .string) (k := .string nm) trivial, hsame, MapKept.run_setObj_map _ hM, Result.andThen, hs, goInt]
  · have hidx : es.findIdx? (fun x => ((x.born : Nat) : Int) == ((e.born : Nat) : Int)) = some j := by
      rw [WideElems.findIdx_arr]
      exact WideElems.findIdx_born h.st.2.1 (by simpa using hj)
    simp [Instr.entryStore, MapKept.run_getObj_map hM, asInt, asIntOf, hidx, MapKept.run_setObj_map _ hM, Result.andThen, setBlock]

/-- 'm[nm] = k'' where the name is not there. -/
theorem add_law (h : Idx es clk f) {nm : ByteArray} (hf : f nm = none) (k' : Nat) :
    ∃ (es' : Array MapEntry), Idx es' (clk + 1) (upd f nm (some k')) ∧
      (∀ (M : Nat) (w : World), w.heap[M]? = some (.map es clk) → (Instr.mapUpdate 60 (.map (some M)) (.string nm) (.int .i64 (k' : Int))).run Try.prog w = .ok () (setBlock w M (.map es' (clk + 1)))) := by
  obtain ⟨h1, h2⟩ := h.find_none hf
  refine ⟨es.push { key := .string nm, val := .int .i64 (k' : Int), born := clk }, ⟨stamped_push h.st h2, ?_, ?_⟩, fun M w hM => ?_⟩
  · intro x hx
    simp only [Array.toList_push, List.mem_append, List.mem_singleton] at hx
    rcases hx with hx | rfl
    · obtain ⟨n2, k2, e1, e2, e3⟩ := h.sound x hx
      refine ⟨n2, k2, e1, e2, ?_⟩
      have : n2 ≠ nm := by rintro rfl; rw [hf] at e3; cases e3
      simp [upd, this, e3]
    · exact ⟨nm, k', rfl, rfl, by simp [upd]⟩
  · intro n2 k2 hn
    by_cases hn2 : n2 = nm
    · subst hn2
      exact ⟨{ key := .string n2, val := .int .i64 (k' : Int), born := clk }, by simp, rfl⟩
    · simp [upd, hn2] at hn
      obtain ⟨x, hx, hxk⟩ := h.full n2 k2 hn
      exact ⟨x, by simp [hx], hxk⟩
  · simp [Instr.mapUpdate, run_underlying Try.underlying60, MapKept.run_getObj_map hM, checks, MapKept.run_findKey Try.underlying9 h1, MapKept.run_setObj_map _ hM, Result.andThen, setBlock]

/-- 'delete(m, nm)' where the name is there. -/
theorem del_law (h : Idx es clk f) {nm : ByteArray} {k : Nat} (hf : f nm = some k) :
    ∃ (es' : Array MapEntry), Idx es' clk (upd f nm none) ∧
      (∀ (ty : TypeId) (M : Nat) (w : World), w.heap[M]? = some (.map es clk) → (Builtin.delete_ #[60, 9] ty #[.map (some M), .string nm]).run Try.prog w = .ok (.tuple #[]) (setBlock w M (.map es' clk))) := by
  obtain ⟨j, e, h1, hj, hk, hv⟩ := h.find_some hf
  have hje : es.toList[j]? = some e := by simpa using hj
  have hjl : j < es.toList.length := (List.getElem?_eq_some_iff.1 hje).1
  have her : (es.eraseIdxIfInBounds j).toList = es.toList.eraseIdx j := by
    unfold Array.eraseIdxIfInBounds
    rw [dif_pos (by simpa using hjl), Array.toList_eraseIdx]
  refine ⟨es.eraseIdxIfInBounds j, ⟨stamped_erase h.st j, ?_, ?_⟩, fun ty M w hM => ?_⟩
  · intro x hx
    rw [her] at hx
    obtain ⟨n2, k2, e1, e2, e3⟩ := h.sound x (List.mem_of_mem_eraseIdx hx)
    refine ⟨n2, k2, e1, e2, ?_⟩
    have : n2 ≠ nm := by
      rintro rfl
      obtain ⟨i, hij, hi⟩ := List.mem_eraseIdx_iff_getElem?.1 hx
      have hil : i < es.toList.length := (List.getElem?_eq_some_iff.1 hi).1
      have h1 : (es.toList.map (·.key))[i]'(by simpa using hil) = (es.toList.map (·.key))[j]'(by simpa using hjl) := by
        rw [List.getElem_map, List.getElem_map]
        rw [(List.getElem?_eq_some_iff.1 hi).2, (List.getElem?_eq_some_iff.1 hje).2, e1, hk]
      exact hij ((List.getElem_inj h.st.2.2).1 h1)
    simp [upd, this, e3]
  · intro n2 k2 hn
    have hn2 : n2 ≠ nm := by rintro rfl; simp [upd] at hn
    simp [upd, hn2] at hn
    obtain ⟨x, hx, hxk⟩ := h.full n2 k2 hn
    obtain ⟨i, hi⟩ := List.getElem?_of_mem hx
    refine ⟨x, ?_, hxk⟩
    rw [her]
    refine List.mem_eraseIdx_iff_getElem?.2 ⟨i, ?_, hi⟩
    rintro rfl
    rw [hi] at hje
    injection hje with hje
    subst hje
    rw [hxk] at hk
    injection hk with hk
    exact hn2 hk
  · simp [Builtin.delete_, run_underlying Try.underlying60, MapKept.run_getObj_map hM, checks, MapKept.run_findKey Try.underlying9 h1, MapKept.run_setObj_map _ hM, Result.andThen, setBlock]

theorem idx_empty : Idx #[] 0 (fun _ => none) := ⟨stamped_empty 0, by simp, by simp⟩
end Go.Proofs.Yticnckclmlejhaa
