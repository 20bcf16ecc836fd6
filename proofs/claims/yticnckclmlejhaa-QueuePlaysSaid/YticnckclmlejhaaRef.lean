/-
  The walks of the document's answer (layer 6): Find, Drop, Due, Ahead, told.
-/
import Derived.Test.YticnckclmlejhaaMovL
import Derived.Laws.OwnMore
namespace Go.Proofs.Yticnckclmlejhaa
open Go.RowKit Go.ChangeMaps Hp

/-- The document's list L lies at A. -/
def LRow (w : World) (A : Option Addr) (L : List Ent) : Prop :=
  L = [] ∨ ∃ g off, A = some ⟨g, off, none⟩ ∧ g < w.heap.size ∧ ∀ j, j < L.length → w.cell? ⟨g, off + j * 2, none⟩ = some (.string (elt L j).nm) ∧ w.cell? ⟨g, off + j * 2 + 1, none⟩ = some (.int .u64 (elt L j).tk)
theorem LRow.below {w w' : World} {A : Option Addr} {L : List Ent} (h : LRow w A L) (hb : Below w.heap.size w w') : LRow w' A L := by
  rcases h with h | ⟨g, off, h1, h2, h3⟩
  · exact .inl h
  · exact .inr ⟨g, off, h1, Nat.lt_of_lt_of_le h2 hb.size, fun j hj => ⟨(hb.cell (p := ⟨g, off + j * 2, none⟩) h2).trans (h3 j hj).1, (hb.cell (p := ⟨g, off + j * 2 + 1, none⟩) h2).trans (h3 j hj).2⟩⟩
theorem LRow.at {w : World} {A : Option Addr} {L : List Ent} (h : LRow w A L) {j : Nat} (hj : j < L.length) : ∃ g off, A = some ⟨g, off, none⟩ ∧ g < w.heap.size ∧ w.cell? ⟨g, off + j * 2, none⟩ = some (.string (elt L j).nm) ∧ w.cell? ⟨g, off + j * 2 + 1, none⟩ = some (.int .u64 (elt L j).tk) := by
  rcases h with h | ⟨g, off, h1, h2, h3⟩
  · subst h; simp at hj
  · exact ⟨g, off, h1, h2, (h3 j hj).1, (h3 j hj).2⟩

def FindP (L : List Ent) (nm : ByteArray) (w : World) (r : Ending) (w' : World) : Prop := ∃ x : Int, r = .returned (.int .i64 x) ∧ decide (0 ≤ x) = (fnd L nm).isSome ∧ w = w'
theorem fnd_at {L : List Ent} {nm : ByteArray} {j : Nat} (hj : j < L.length) (h : (elt L j).nm = nm) : (fnd L nm).isSome = true := fnd_is ⟨_, elt_mem hj, h⟩
theorem fnd_not {L : List Ent} {nm : ByteArray} (h : ∀ m, m < L.length → (elt L m).nm ≠ nm) : (fnd L nm).isSome = false := by
  have : fnd L nm = none := fnd_none.2 fun a ha => by
    obtain ⟨m, hm, rfl⟩ := List.mem_iff_getElem.1 ha
    have := h m hm
    rwa [elt_elem hm] at this
  rw [this]; rfl

set_option maxHeartbeats 800000 in
theorem find_ref (A : Option Addr) (n cap : Nat) (L : List Ent) (nm : ByteArray) (w : World) (h : LRow w A L) (hn : L.length = n) (hb : n ≤ 999999) :
    Calls Try.prog 19 #[.slice A n cap, .string nm] w (FindP L nm w) := by
  have H := Lib.hid h; have HN := Lib.hid hn
  clear h hn
  go_enter Try.func19, Try.ntmps19
  go_wp2
  go_loop [5] (fun i => ∃ j : Nat, i = .int .i64 (j : Int) ∧ j ≤ n ∧ Hid (∀ m, m < j → (elt L m).nm ≠ nm)) (fun i => n - (intOf i).toNat)
  case atStart => exact ⟨0, rfl, Nat.zero_le _, Lib.hid fun m hm => absurd hm (Nat.not_lt_zero _)⟩
  case round =>
    obtain ⟨j, rfl, hj, HJ⟩ := hrel
    by_cases hjn : j < n
    · obtain ⟨g, off, rfl, hg, c0, c1⟩ := H.out.at (j := j) (by rw [HN.out]; exact hjn)
      by_cases he : (elt L j).nm = nm
      · have HF := Lib.hid (fnd_at (by rw [HN.out]; exact hjn) he)
        rw [he] at c0
        clear he
        go_wp2
        go_ret
        exact ⟨j, rfl, by rw [HF.out]; simp, rfl⟩
      · have hne : ((elt L j).nm.toList == nm.toList) = false := beq_str he
        have HE := Lib.hid he
        clear he
        go_wp2
        go_round
        case rel => exact ⟨j + 1, by go_num, by omega, Lib.hid fun m hm => by
          rcases Nat.lt_succ_iff_lt_or_eq.1 hm with h | rfl
          · exact HJ.out m h
          · exact HE.out⟩
        case measure => simp [intOf]; omega
    · obtain rfl : n = j := by omega
      have HF := Lib.hid (fnd_not (L := L) (nm := nm) fun m hm => HJ.out m (by rw [← HN.out]; exact hm))
      go_wp2
      go_ret
      exact ⟨-1, rfl, by rw [HF.out]; simp, rfl⟩

theorem told_ref (a : ByteArray) (t : Int) (w : World) :
    Calls Try.prog 22 #[.agg #[.string a, .int .u64 t]] w fun r w' => r = .returned (.agg #[.string a, .int .u64 t]) ∧ Below w.heap.size w w' := by
  go_enter Try.func22, Try.ntmps22
  go_wp2
  exact bodyPost_ret (v := .agg #[.string a, .int .u64 t]) (by simp [results, Try.results22, go_sem]) rfl ⟨rfl, ((Below.refl _ w).alloc (Nat.le_refl _) _).alloc (by simp) _⟩

theorem ahead_ref (a b : ByteArray) (s t : Int) (v : Bool) (h : lessE ⟨a, s⟩ ⟨b, t⟩ = v) (w : World) :
    Calls Try.prog 33 #[.agg #[.string a, .int .u64 s], .agg #[.string b, .int .u64 t]] w fun r w' => r = .returned (.bool v) ∧ Below w.heap.size w w' := by
  have HV := Lib.hid h
  clear h
  by_cases h1 : s < t
  · have g1 : decide (s < t) = true := decide_eq_true h1
    have hv : v = true := by rw [← HV.out]; simp [lessE, h1]
    subst hv
    go_enter Try.func33, Try.ntmps33
    go_wp2
    go_ret
    exact ⟨rfl, ((Below.refl _ w).alloc (Nat.le_refl _) _).alloc (by simp) _⟩
  · have g1 : decide (s < t) = false := decide_eq_false h1
    by_cases h2 : s = t
    · subst h2
      have hv : Op.bytesLess a.toList b.toList = v := by rw [← HV.out]; simp [lessE]
      clear h1
      go_enter Try.func33, Try.ntmps33
      go_wp2
      go_ret
      exact ⟨rfl, ((Below.refl _ w).alloc (Nat.le_refl _) _).alloc (by simp) _⟩
    · have g2 : (s == t) = false := by simp [h2]
      have hv : v = false := by rw [← HV.out]; simp [lessE, h1, h2]
      subst hv
      go_enter Try.func33, Try.ntmps33
      go_wp2
      go_ret
      exact ⟨rfl, ((Below.refl _ w).alloc (Nat.le_refl _) _).alloc (by simp) _⟩

theorem due_next {t : Int} {L : List Ent} {j : Nat} (h : j ≤ (L.takeWhile (duep t)).length) (hj : j < L.length) (hd : (elt L j).tk ≤ t) : j + 1 ≤ (L.takeWhile (duep t)).length := by
  rcases Nat.lt_or_ge j (L.takeWhile (duep t)).length with h1 | h1
  · exact h1
  · exfalso
    have hjj : j = (L.takeWhile (duep t)).length := by omega
    have hd2 := List.head?_dropWhile_not (p := duep t) (l := L)
    have hsp : L.takeWhile (duep t) ++ L.dropWhile (duep t) = L := List.takeWhile_append_dropWhile
    have : L[j]? = (L.dropWhile (duep t)).head? := by
      conv => lhs; rw [← hsp]
      rw [List.getElem?_append_right (by omega), hjj, Nat.sub_self, List.head?_eq_getElem?]
    rw [List.getElem?_eq_getElem hj] at this
    rw [← this] at hd2
    rw [elt_elem hj] at hd
    simp [duep] at hd2
    omega
theorem due_stop {t : Int} {L : List Ent} {j : Nat} (h : j ≤ (L.takeWhile (duep t)).length) (hj : j < L.length) (hd : ¬ (elt L j).tk ≤ t) : (L.takeWhile (duep t)).length = j := by
  rcases Nat.lt_or_ge j (L.takeWhile (duep t)).length with h1 | h1
  · exfalso
    have hsp : L.takeWhile (duep t) ++ L.dropWhile (duep t) = L := List.takeWhile_append_dropWhile
    have h2 : L[j] = (L.takeWhile (duep t))[j] := by
      have : L[j]? = (L.takeWhile (duep t))[j]? := by
        conv => lhs; rw [← hsp]
        rw [List.getElem?_append_left h1]
      rw [List.getElem?_eq_getElem hj, List.getElem?_eq_getElem h1] at this
      injection this
    have h3 := tw_mem (t := t) (S := L) (List.getElem_mem h1)
    rw [elt_elem hj, h2] at hd
    exact hd h3
  · omega
theorem due_ref (A : Option Addr) (n cap : Nat) (L : List Ent) (t : Int) (w : World) (h : LRow w A L) (hn : L.length = n) (hb : n ≤ 999999) :
    Calls Try.prog 23 #[.slice A n cap, .int .u64 t] w fun r w' => r = .returned (.int .i64 (L.takeWhile (duep t)).length) ∧ w = w' := by
  have H := Lib.hid h; have HN := Lib.hid hn
  clear h hn
  obtain ⟨m, hm⟩ : ∃ m, (L.takeWhile (duep t)).length = m := ⟨_, rfl⟩
  have HM := Lib.hid hm
  have hmn : m ≤ n := by rw [← hm, ← HN.out]; exact (List.takeWhile_sublist _).length_le
  rw [hm]
  clear hm
  go_enter Try.func23, Try.ntmps23
  go_wp2
  go_loop [5] (fun i => ∃ j : Nat, i = .int .i64 (j : Int) ∧ j ≤ m) (fun i => m - (intOf i).toNat)
  case atStart => exact ⟨0, rfl, Nat.zero_le _⟩
  case round =>
    obtain ⟨j, rfl, hj⟩ := hrel
    by_cases hjn : j < n
    · obtain ⟨g, off, rfl, hg, c0, c1⟩ := H.out.at (j := j) (by rw [HN.out]; exact hjn)
      by_cases he : (elt L j).tk ≤ t
      · have hj1 := due_next (t := t) (L := L) (j := j) (by rw [HM.out]; exact hj) (by rw [HN.out]; exact hjn) he
        rw [HM.out] at hj1
        obtain ⟨s, hs⟩ : ∃ s, (elt L j).tk = s := ⟨_, rfl⟩
        rw [hs] at c1 he
        clear hs
        have g1 : decide (s ≤ t) = true := decide_eq_true he
        go_wp2
        go_round
        case rel => exact ⟨j + 1, by go_num, hj1⟩
        case measure => simp [intOf]; omega
      · have hj1 := due_stop (t := t) (L := L) (j := j) (by rw [HM.out]; exact hj) (by rw [HN.out]; exact hjn) he
        rw [HM.out] at hj1
        obtain rfl : m = j := hj1
        obtain ⟨s, hs⟩ : ∃ s, (elt L m).tk = s := ⟨_, rfl⟩
        rw [hs] at c1 he
        clear hs
        have g1 : decide (s ≤ t) = false := decide_eq_false he
        go_wp2
        go_ret
        exact ⟨rfl, rfl⟩
    · obtain rfl : m = j := by omega
      go_wp2
      go_ret
      exact ⟨rfl, rfl⟩
end Go.Proofs.Yticnckclmlejhaa
