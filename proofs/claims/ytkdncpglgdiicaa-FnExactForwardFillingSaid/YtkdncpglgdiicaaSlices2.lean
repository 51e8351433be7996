/- Sort, equality and places of package slices. -/
import Derived.Test.YtkdncpglgdiicaaShelf2
import Derived.Test.YtkdncpglgdiicaaSlices1
import Derived.Test.YtkdncpglgdiicaaPureFill
namespace Go.Proofs.Ytkdncpglgdiicaa
open Go Go.RowKit Go.Sort

theorem cellsI_flat (l : List Int) : l.flatMap EI.cells = l.map (Value.int .i64) := by
  induction l with
  | nil => rfl
  | cons x l ih => rw [List.flatMap_cons, ih]; rfl
theorem Own.byCellsI {e : TypeId} {w : World} {base g off c : Nat} {l : List Int} {cur : Array Value} (hb : base ≤ g) (hg : w.heap[g]? = some (.cells cur e (0, 0))) (hl : l.length ≤ c) (hm : c ≤ maxLen) (hs : off + c ≤ cur.size)
    (h : ∀ j, j < l.length → cur.toList[off + j]? = (l.map (Value.int .i64))[j]?) : Own EI e w base (some ⟨g, off, none⟩) c l := by
  refine .inr ⟨g, off, cur, rfl, hb, hg, hl, hm, by simpa [EI] using hs, ?_⟩
  rw [cellsI_flat]
  show (cur.toList.drop off).take (l.length * 1) = _
  rw [Nat.mul_one]
  apply List.ext_getElem?
  intro j
  rw [List.getElem?_take, List.getElem?_drop]
  by_cases hj : j < l.length
  · rw [if_pos hj, h j hj]
  · rw [if_neg hj, List.getElem?_eq_none (by rw [List.length_map]; omega)]

theorem Ext.grow (w : World) (os : Array Obj) : Ext w (Go.Sort.grow w os) := ⟨rfl, rfl, rfl, by show w.heap.size ≤ (w.heap ++ os).size; simp, fun k hk => heap_grow_old w os hk⟩

/-- Sorted in place. -/
theorem sortI_any (l : List Int) (hl : l.length ≤ 1000000000000) (a : Option Addr) (c base : Nat) (w : World) (h : Own EI 3 w base a c l) :
    Calls Try.prog 161 #[.slice a l.length c] w fun e w' => e = .returned (.tuple #[]) ∧ Own EI 3 w' base a c (l.mergeSort fun x y => decide (x ≤ y)) ∧ Tch (inS a) w w' := by
  by_cases h0 : l = []
  · subst h0
    have h1 := Any.slices_Sort_int_none Try.lays189 a c w
    refine h1.mono fun e w' ⟨he, hw⟩ => ⟨he, ?_, ?_⟩
    · rw [hw]; simpa using h
    · rw [hw]; exact Tch.ofExt (Ext.rf _)
  · rcases h with ⟨_, _, h1⟩ | ⟨g, off, cur, rfl, hb, hg, hle, hcm, hs, ht⟩
    · exact absurd h1 h0
    · have hk : EI.k = 1 := rfl
      rw [hk, Nat.mul_one] at hs ht
      rw [cellsI_flat] at ht
      have hcell : ∀ j, j < l.length → cur.toList[off + j]? = (l.map (Value.int .i64))[j]? := fun j hj => by rw [← ht, List.getElem?_take, if_pos hj, List.getElem?_drop]
      have hH : Holds (Value.int .i64) w g off l.toArray := by
        intro j hj
        have hj' : j < l.length := by simpa using hj
        refine ⟨?_, frozen_of_row w g _ cur _ hg⟩
        rw [cell_of_row w g _ cur 3 (0, 0) hg, ← Array.getElem?_toList, hcell j hj']
        simp [hj']
      have h1 := Any.slices_Sort_int Try.lays189 g off c l w hH (lt_of_block hg) (by omega)
      refine h1.mono ?_
      rintro e w' ⟨he, n, os, hw⟩
      have hlen : (l.mergeSort fun x y => decide (x ≤ y)).length = l.length := List.length_mergeSort _
      rw [Lib.putRow_eq_setCells (Value.int .i64) w g off l.toArray _ n hH (by simp)] at hw
      obtain ⟨S, hS⟩ : ∃ S, S = l.mergeSort fun x y => decide (x ≤ y) := ⟨_, rfl⟩
      rw [← hS] at hw hlen
      rw [← hS]
      have hml : (S.map (Value.int .i64)).length = l.length := by rw [List.length_map, hlen]
      have hcl : cur.toList.length = cur.size := Array.length_toList
      obtain ⟨t1, _⟩ := setCells_tch g (S.map (Value.int .i64)) off (w.drewN n)
      obtain ⟨cur', g1, g2, g3⟩ := setCells_heap g 3 (S.map (Value.int .i64)) off (w.drewN n) cur hg (by rw [hml]; omega)
      have o1 : Own EI 3 ((w.drewN n).setCells g off (S.map (Value.int .i64))) base (some ⟨g, off, none⟩) c S := by
        refine Own.byCellsI hb g1 (by omega) hcm (by rw [g2]; exact hs) fun j hj => ?_
        rw [g3, splice_get _ _ _ _ (by rw [hml]; omega), if_neg (by omega), if_pos (by rw [hml]; omega), Nat.add_sub_cancel_left]
      refine ⟨he, ?_, ?_⟩
      · rw [hw]; exact o1.ext (Ext.grow _ _)
      · rw [hw]
        exact (((Tch.ofExt (S := fun _ => False) ((Ext.rf w).drN n)).tr t1).tr (Tch.ofExt (S := fun _ => False) (Ext.grow _ os))).mono (fun k h => by
          rcases h with (h | h) | h
          · exact h.elim
          · exact ⟨_, rfl, h.symm⟩
          · exact h.elim)

/-- Are two slices alike? -/
theorem equalI_any (l m : List Int) (hl : l.length ≤ 9223372036854775807) (hm : m.length ≤ 9223372036854775807) (a b : Option Addr) (c d : Nat) (w : World) (h1 : Rd EI w a l) (h2 : Rd EI w b m) :
    Calls Try.prog 156 #[.slice a l.length c, .slice b m.length d] w fun e w' => e = .returned (.bool (l == m)) ∧ Ext w w' := by
  by_cases hn : l.length = m.length
  · by_cases h0 : l = []
    · subst h0
      have h3 := Any.slices_Equal_int_empty Try.lays111 a b c m.length d w hm
      refine h3.mono fun e w' ⟨he, hw⟩ => ⟨?_, by rw [hw]; exact Ext.rf _⟩
      rw [he]
      have : m = [] := List.eq_nil_of_length_eq_zero (by simpa using hn.symm)
      subst this
      rfl
    · have hp := List.length_pos_iff.2 h0
      obtain ⟨ba, oa, rfl, hc1⟩ := h1.i hp
      obtain ⟨bb, ob, rfl, hc2⟩ := h2.i (by omega)
      have h3 := Any.slices_Equal_int Try.lays111 ba oa l.length c bb ob m.length d l m w (Nat.le_refl _) (Nat.le_refl _) hl hm
        (fun j hj => by rw [hc1 j hj, List.getD_eq_getElem?_getD, List.getElem?_eq_getElem hj]; rfl)
        (fun j hj => by rw [hc2 j hj, List.getD_eq_getElem?_getD, List.getElem?_eq_getElem hj]; rfl)
      rw [List.take_length, List.take_length] at h3
      exact h3.mono fun e w' ⟨he, q, hw⟩ => ⟨he, by rw [hw]; exact (Ext.rf _).drN _⟩
  · have h3 := Any.slices_Equal_int_lens Try.lays111 a b l.length c m.length d w hn
    refine h3.mono fun e w' ⟨he, hw⟩ => ⟨?_, by rw [hw]; exact Ext.rf _⟩
    rw [he]
    have : (l == m) = false := by
      rw [beq_eq_false_iff_ne]
      exact fun e => hn (by rw [e])
    rw [this]

/-- The place of a number that is there. -/
theorem index_any (l : List Nat) (hnd : l.Nodup) (v : Nat) (hv : v ∈ l) (hl : l.length ≤ 1000000) (a : Option Addr) (c : Nat) (w : World) (h : Rd EN w a l) :
    Calls Try.prog 113 #[.slice a l.length c, .int .i64 (v : Int)] w fun e w' => e = .returned (.int .i64 ((plc l v : Nat) : Int)) ∧ w = w' := by
  have hp := List.length_pos_of_mem hv
  have hlt := plc_lt hv
  obtain ⟨b, off, rfl, hc⟩ := h.n hp
  have hg : ∀ j (hj : j < l.length), (l.map upN).getD j 0 = (l[j] : Int) := fun j hj => by
    rw [List.getD_eq_getElem?_getD, List.getElem?_map, List.getElem?_eq_getElem hj]
    rfl
  have h3 := Any.slices_Index_int Try.lays108 b off l.length c (l.map upN) (v : Int) w (by simp) (by omega)
    (fun j hj => by
      have hj' : j < l.length := by simpa using hj
      rw [hc j hj', hg j hj'])
  have e := Lib.idxOf_hit (l.map upN) l.length (plc l v) (v : Int) hlt (by simp) (by rw [hg _ hlt, get_plc hv]) (fun j hj => by
    rw [hg j (by omega)]
    intro e2
    have h5 : l[j] = v := by omega
    have h6 := plc_get l hnd j (by omega)
    rw [h5] at h6
    omega)
  rw [e] at h3
  exact h3.mono fun e w' ⟨he, hw⟩ => ⟨he, hw.symm⟩

end Go.Proofs.Ytkdncpglgdiicaa
