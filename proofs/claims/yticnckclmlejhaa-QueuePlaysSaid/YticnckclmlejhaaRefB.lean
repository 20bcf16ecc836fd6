/-
  The walks of the document's answer (layer 6): Drop and Put.
-/
import Derived.Test.YticnckclmlejhaaRef
import Derived.Deep.AppendLies
import Derived.Deep.RegionHeld3
import Derived.BigQuiet
import Derived.Deep.QuietTactic
namespace Go.Proofs.Yticnckclmlejhaa
open Go.RowKit Go.ChangeMaps Hp

theorem ref_info : (Try.prog.info? 47).map (fun i => (i.zero, i.size, i.bytes)) = some (some (.agg #[.string ByteArray.empty, .int .u64 0]), 2, 24) := by kernel_rfl

/-- A row of the document's entries that the call has made. -/
def DRow (w wr : World) (o : Value) (T : List Ent) : Prop := Below w.heap.size w wr ∧ wr.ownsRow w.heap.size 47 2 o T.length (flat T)

theorem row47_below {w w' : World} {b n : Nat} {o : Value} {xs : List Value} (h : w.ownsRow b 47 2 o n xs) (hb : Below w.heap.size w w') : w'.ownsRow b 47 2 o n xs := by
  obtain ⟨h1, h2⟩ := h
  refine ⟨h1, ?_⟩
  rcases h2 with h2 | ⟨g, cap, cur, hv, hg, hh, r⟩
  · exact .inl h2
  · exact .inr ⟨g, cap, cur, hv, hg, (hb.block g (lt_of_heap hh)).trans hh, r⟩
theorem DRow.grown {w wr w4 : World} {o v : Value} {T T' : List Ent} {ob : Obj} (h : DRow w wr o T) (hown : w4.ownsRow w.heap.size 47 2 v T'.length (flat T')) (hg : (wr.alloc ob).grownBy w4 o.ownBlock) : DRow w w4 v T' := by
  obtain ⟨h2, h7⟩ := h
  have hsz := hg.size
  have s3 : wr.heap.size + 1 ≤ w4.heap.size := by simpa using hsz
  have := h2.size
  refine ⟨⟨hg.os.trans h2.os, hg.tape.trans h2.tape, hg.output.trans h2.output, by omega, fun k hk => ?_⟩, hown⟩
  exact ((hg.block k (by simp; omega) fun e => by have := (h7.lt k e.symm).1; omega).trans (Below.heap_alloc wr ob k (by omega))).trans (h2.block k hk)

theorem own_snoc {w : World} {b g cap : Nat} {T : List Ent} {e : Ent} (h : w.ownsRow b 47 2 (.slice (some ⟨g, 0, none⟩) (T.length + 1) cap) (T.length + 1) (flat T ++ [.string e.nm, .int .u64 e.tk])) :
    w.ownsRow b 47 2 (.slice (some ⟨g, 0, none⟩) (T.length + 1) cap) (T ++ [e]).length (flat (T ++ [e])) := by
  rw [flat_append]
  have hl : (T ++ [e]).length = T.length + 1 := by simp
  rw [hl]
  exact h

set_option maxHeartbeats 1600000 in
theorem drop_ref (A : Option Addr) (n cap : Nat) (L : List Ent) (nm : ByteArray) (w : World) (h : LRow w A L) (hn : L.length = n) (hb : n ≤ 999999) :
    Calls Try.prog 21 #[.slice A n cap, .string nm] w fun r w' => ∃ o, r = .returned o ∧ DRow w w' o (fltr nm L) := by
  have H := Lib.hid h; have HN := Lib.hid hn
  obtain ⟨i0, hi, hz0, hz1, hz2⟩ := info_parts ref_info
  clear h hn
  go_enter Try.func21, Try.ntmps21
  go_wp2
  go_loopw [5, 6] (fun o i wr => ∃ j : Nat, i = .int .i64 (j : Int) ∧ j ≤ n ∧ Hid (DRow w wr o (fltr nm (L.take j)))) (fun _ i _ => n - (intOf i).toNat)
  case atStart => exact ⟨0, rfl, Nat.zero_le _, Lib.hid ⟨Below.refl _ _, by simp [flat, fltr], .inl ⟨rfl, rfl⟩⟩⟩
  case round =>
    obtain ⟨j, rfl, hj, HD⟩ := hrel
    by_cases hjn : j < n
    · have hjL : j < L.length := by rw [HN.out]; exact hjn
      obtain ⟨g, off, rfl, hg, c0, c1⟩ := (H.out.below HD.out.1).at hjL
      have hts := take_succ' hjL
      obtain ⟨e, he⟩ : ∃ e, elt L j = e := ⟨_, rfl⟩
      rw [he] at c0 c1 hts
      clear he
      by_cases hen : e.nm = nm
      · have HT : Hid (fltr nm (L.take (j + 1)) = fltr nm (L.take j)) := Lib.hid (by rw [hts, fltr_app, fltr_one' hen, List.append_nil])
        rw [hen] at c0
        clear hts hen
        go_wp2
        go_roundw
        case rel => exact ⟨j + 1, by go_num, by omega, by rw [HT.out]; exact HD⟩
        case measure => simp [intOf]; omega
      · have HT : Hid (fltr nm (L.take (j + 1)) = fltr nm (L.take j) ++ [e]) := Lib.hid (by rw [hts, fltr_app, fltr_one hen])
        have hne : (e.nm.toList == nm.toList) = false := beq_str hen
        have hne2 : (e.nm.toList != nm.toList) = true := by simp only [bne, hne]; rfl
        clear hts hen
        obtain ⟨T, hT⟩ : ∃ T, fltr nm (L.take j) = T := ⟨_, rfl⟩
        have hTl : T.length ≤ j := by
          rw [← hT]; have h1 := fltr_length nm (L.take j); have h2 : (L.take j).length ≤ j := List.length_take_le _ _; omega
        rw [hT] at HD HT
        clear hT
        have h63 : T.length + 1 ≤ maxLen := by unfold maxLen; omega
        have hby : (T.length + 1) * 24 ≤ 140737488355328 := by omega
        have hws : w.heap.size ≤ wr.heap.size := HD.out.1.size
        go_wp2_with (at_builtin
                     refine wpList_append_lies _ rfl (.tmp 20) (.tmp 25) 42 rfl w.heap.size 47 i0 (.agg #[.string ByteArray.empty, .int .u64 0]) 2 24 Try.underlying42 hi hz0 hz1 hz2 rfl (by decide) u5 T.length (flat T) rfl (HD.out.2.alloc _) ⟨wr.heap.size, 0, none⟩ 1 1 [.string e.nm, .int .u64 e.tk] rfl rfl (news_two wr _ _ _ _ rfl) (ones e) (by decide) h63 hby (Nat.le_trans hws (by simp)) (wr.heap.size + 1) (by simp) ?_
                     intro g1 cap1 w4 hown hgrow hat hlt
                     have HD4 : Hid (DRow w w4 (.slice (some ⟨g1, 0, none⟩) (T.length + 1) cap1) (T ++ [e])) := Lib.hid (HD.out.grown (own_snoc hown) hgrow)
                     clear hown hgrow hat hlt)
        go_roundw
        case rel => exact ⟨j + 1, by go_num, by omega, by rw [HT.out]; exact HD4⟩
        case measure => simp [intOf]; omega
    · obtain rfl : n = j := by omega
      have hts : L.take n = L := by rw [← HN.out]; exact List.take_length
      rw [hts] at HD
      go_wp2
      go_ret
      exact ⟨u5, rfl, HD.out⟩
end Go.Proofs.Yticnckclmlejhaa
