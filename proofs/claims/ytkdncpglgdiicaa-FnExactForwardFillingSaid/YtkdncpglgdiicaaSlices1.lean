/- Search, delete and insert of package slices, on what the call owns. -/
import Derived.Test.YtkdncpglgdiicaaShelf1
import Derived.Test.YtkdncpglgdiicaaTrap2
import Derived.Lib.RowBridge
namespace Go.Proofs.Ytkdncpglgdiicaa
open Go Go.RowKit Go.Sort

theorem splice_get {α : Type} (C vs : List α) (o j : Nat) (h : o + vs.length ≤ C.length) : (C.take o ++ vs ++ C.drop (o + vs.length))[j]? = if j < o then C[j]? else if j < o + vs.length then vs[j - o]? else C[j]? := by
  have h1 : (C.take o).length = o := by rw [List.length_take]; omega
  by_cases a : j < o
  · rw [if_pos a, List.append_assoc, List.getElem?_append_left (by omega), List.getElem?_take, if_pos a]
  · rw [if_neg a, List.append_assoc, List.getElem?_append_right (by omega), h1]
    by_cases b : j < o + vs.length
    · rw [if_pos b, List.getElem?_append_left (by omega)]
    · rw [if_neg b, List.getElem?_append_right (by omega), List.getElem?_drop]
      congr 1
      omega

theorem setCells_tch (b : Nat) : ∀ (vs : List Value) (o : Nat) (w : World), Tch (fun k => k = b) w (w.setCells b o vs) ∧ (w.setCells b o vs).heap.size = w.heap.size
  | [], _, w => ⟨⟨Below.refl _ _, fun _ _ _ => rfl⟩, rfl⟩
  | v :: r, o, w => by
    obtain ⟨h1, h2⟩ := setCells_tch b r (o + 1) (w.setCell ⟨b, o, none⟩ v)
    have h3 : Tch (fun k => k = b) w (w.setCell ⟨b, o, none⟩ v) := ⟨(Below.refl _ _).setCell (Nat.zero_le _) _, fun k _ hk => Below.heap_setCell _ _ _ _ hk⟩
    refine ⟨(h3.tr h1).mono (fun k h => by rcases h with h | h <;> exact h), ?_⟩
    rw [World.setCells, h2]
    simp

theorem setCells_heap (b : Nat) (e : TypeId) : ∀ (vs : List Value) (o : Nat) (w : World) (cur : Array Value), w.heap[b]? = some (.cells cur e (0, 0)) → o + vs.length ≤ cur.size →
    ∃ cur', (w.setCells b o vs).heap[b]? = some (.cells cur' e (0, 0)) ∧ cur'.size = cur.size ∧ cur'.toList = cur.toList.take o ++ vs ++ cur.toList.drop (o + vs.length)
  | [], o, w, cur, h, _ => ⟨cur, h, rfl, by simp⟩
  | v :: r, o, w, cur, h, hs => by
    have h1 := heap_setCell_same w b o cur e v h
    simp only [List.length_cons] at hs
    obtain ⟨cur', h2, h3, h4⟩ := setCells_heap b e r (o + 1) (w.setCell ⟨b, o, none⟩ v) _ h1 (by simpa using (by omega : o + 1 + r.length ≤ cur.size))
    refine ⟨cur', h2, by simpa using h3, ?_⟩
    rw [h4, Array.toList_setIfInBounds]
    have hcl : cur.toList.length = cur.size := Array.length_toList
    have hl : o < cur.toList.length := by omega
    apply List.ext_getElem?
    intro j
    rw [splice_get _ _ _ _ (by rw [List.length_set]; omega), splice_get _ _ _ _ (by rw [List.length_cons]; omega)]
    simp only [List.length_cons, List.getElem?_set]
    by_cases a : j < o
    · rw [if_pos (by omega), if_neg (by omega), if_pos a]
    · by_cases a2 : j = o
      · subst a2
        rw [if_pos (by omega), if_pos rfl, if_pos hl, if_neg (by omega), if_pos (by omega), Nat.sub_self]
        rfl
      · rw [if_neg (by omega), if_neg a]
        by_cases a3 : j < o + 1 + r.length
        · rw [if_pos a3, if_pos (by omega)]
          have : j - o = (j - (o + 1)) + 1 := by omega
          rw [this, List.getElem?_cons_succ]
        · rw [if_neg a3, if_neg (by omega), if_neg (by omega)]

def cellsN (l : List Nat) : List Value := l.map fun n : Nat => Value.int .i64 (n : Int)
theorem cellsN_flat (l : List Nat) : l.flatMap EN.cells = cellsN l := by
  induction l with
  | nil => rfl
  | cons x l ih => rw [List.flatMap_cons, ih]; rfl
theorem cellsN_len (l : List Nat) : (cellsN l).length = l.length := List.length_map _

/-- What an owned slice of numbers is, by its cells one by one. -/
theorem Own.byCells {e : TypeId} {w : World} {base g off c : Nat} {l : List Nat} {cur : Array Value} (hb : base ≤ g) (hg : w.heap[g]? = some (.cells cur e (0, 0))) (hl : l.length ≤ c) (hm : c ≤ maxLen) (hs : off + c ≤ cur.size)
    (h : ∀ j, j < l.length → cur.toList[off + j]? = (cellsN l)[j]?) : Own EN e w base (some ⟨g, off, none⟩) c l := by
  refine .inr ⟨g, off, cur, rfl, hb, hg, hl, hm, by simpa [EN] using hs, ?_⟩
  rw [cellsN_flat]
  show (cur.toList.drop off).take (l.length * 1) = _
  rw [Nat.mul_one]
  apply List.ext_getElem?
  intro j
  rw [List.getElem?_take, List.getElem?_drop]
  by_cases hj : j < l.length
  · rw [if_pos hj, h j hj]
  · rw [if_neg hj, List.getElem?_eq_none (by rw [cellsN_len]; omega)]
theorem Own.cells_at {e : TypeId} {w : World} {base g off c : Nat} {l : List Nat} {cur : Array Value} (ht : (cur.toList.drop off).take (l.length * EN.k) = l.flatMap EN.cells) : ∀ j, j < l.length → cur.toList[off + j]? = (cellsN l)[j]? := by
  intro j hj
  rw [cellsN_flat] at ht
  rw [← ht, List.getElem?_take, List.getElem?_drop, if_pos]
  show j < l.length * 1
  omega

theorem upN_le {l : List Nat} (h : l.Pairwise (· < ·)) : (l.map upN).Pairwise (· ≤ ·) := by
  rw [List.pairwise_map]
  exact h.imp fun hab => by show ((_ : Nat) : Int) ≤ ((_ : Nat) : Int); omega
theorem count_up (l : List Nat) (k : Nat) : (l.map upN).countP (fun y => decide (y < (k : Int))) = lessN l k := by
  unfold lessN
  rw [List.countP_map]
  congr 1
  funext y
  simp [upN]
theorem contains_up (l : List Nat) (k : Nat) : (l.map upN).contains (k : Int) = decide (k ∈ l) := by
  rw [Bool.eq_iff_iff]
  simp only [List.contains_iff_mem, decide_eq_true_eq, List.mem_map]
  constructor
  · rintro ⟨x, hx, e⟩
    have e' : (x : Int) = (k : Int) := e
    have : x = k := by omega
    exact this ▸ hx
  · exact fun h => ⟨k, h, rfl⟩

/-- Search in an ascending list. -/
theorem bsearch_any (l : List Nat) (k : Nat) (hs : l.Pairwise (· < ·)) (hl : l.length ≤ 1000000) (a : Option Addr) (c : Nat) (w : World) (h : Rd EN w a l) :
    Calls Try.prog 79 #[.slice a l.length c, .int .i64 (k : Int)] w fun e w' => e = .returned (.tuple #[.int .i64 ((lessN l k : Nat) : Int), .bool (decide (k ∈ l))]) ∧ Ext w w' := by
  by_cases h0 : l = []
  · subst h0
    have h1 := Any.slices_BinarySearch_int_empty Try.laysNm225 a c (k : Int) w
    refine h1.mono fun e w' ⟨he, hw⟩ => ⟨?_, by rw [hw]; exact Ext.rf _⟩
    rw [he]
    rfl
  · have hp := List.length_pos_iff.2 h0
    obtain ⟨b, off, rfl, hc⟩ := h.n hp
    have h1 := Any.slices_BinarySearch_int Try.laysNm225 b off l.length c (l.map upN) (k : Int) w (by simp) (by omega)
      (fun j hj => by
        have hj' : j < l.length := by simpa using hj
        rw [hc j hj', List.getD_eq_getElem?_getD, List.getElem?_map, List.getElem?_eq_getElem hj']
        rfl) (by rw [List.take_of_length_le (by simp)]; exact upN_le hs)
    rw [List.take_of_length_le (by simp), count_up, contains_up] at h1
    exact h1.mono fun e w' ⟨he, q, hw⟩ => ⟨he, by rw [hw]; exact (Ext.rf _).drN _⟩

theorem cellsN_up (l : List Nat) : (l.map upN).map (Value.int .i64) = cellsN l := by
  unfold cellsN
  rw [List.map_map]
  rfl

/-- One element less. -/
theorem delete_any (l : List Nat) (i : Nat) (hi : i < l.length) (hl : l.length ≤ 1000000) (a : Option Addr) (c base : Nat) (w : World) (h : Own EN 3 w base a c l) :
    Calls Try.prog 80 #[.slice a l.length c, .int .i64 (i : Int), .int .i64 ((i : Int) + 1)] w fun e w' => e = .returned (.slice a (l.length - 1) c) ∧ Own EN 3 w' base a c (l.take i ++ l.drop (i + 1)) ∧ Tch (inS a) w w' := by
  rcases h with ⟨_, _, h0⟩ | ⟨g, off, cur, rfl, hb, hg, hle, hcm, hs, ht⟩
  · rw [h0] at hi; simp at hi
  · have hk : EN.k = 1 := rfl
    rw [hk, Nat.mul_one] at hs
    have hcell := Own.cells_at (e := 3) (w := w) (base := base) (g := g) (c := c) ht
    have hH : Holds (Value.int .i64) w g off (l.map upN).toArray := by
      intro j hj
      have hj' : j < l.length := by simpa using hj
      refine ⟨?_, frozen_of_row w g _ cur _ hg⟩
      have h1 := hcell j hj'
      rw [cell_of_row w g _ cur 3 (0, 0) hg, ← Array.getElem?_toList, h1]
      simp [cellsN, hj', upN]
    have h1 := Any.slices_Delete_int Try.laysNm223 g off c i (i + 1) (l.map upN) w hH (by simpa using hle) hcm (Nat.le_succ _) (by rw [List.length_map]; omega)
    rw [List.length_map] at h1
    have e1 : l.length - (i + 1 - i) = l.length - 1 := by omega
    have e2 : i + 1 - i = 1 := by omega
    rw [e1, e2] at h1
    refine h1.mono ?_
    rintro e w' ⟨he, q, hw⟩
    rw [Lib.putRow_eq_setCells (Value.int .i64) w g off (l.map upN).toArray _ q hH (by simp; omega)] at hw
    obtain ⟨t1, _⟩ := setCells_tch g (((l.map upN).take i ++ (l.map upN).drop (i + 1) ++ List.replicate 1 0).map (Value.int .i64)) off (w.drewN q)
    have hlen : (((l.map upN).take i ++ (l.map upN).drop (i + 1) ++ List.replicate 1 0).map (Value.int .i64)).length = l.length := by simp; omega
    obtain ⟨cur', g1, g2, g3⟩ := setCells_heap g 3 (((l.map upN).take i ++ (l.map upN).drop (i + 1) ++ List.replicate 1 0).map (Value.int .i64)) off (w.drewN q) cur hg (by rw [hlen]; omega)
    refine ⟨he, ?_, ?_⟩
    · rw [hw]
      refine Own.byCells hb g1 (by simp; omega) hcm (by rw [g2]; exact hs) fun j hj => ?_
      have hj' : j < l.length - 1 := by simp at hj; omega
      have hss : off + (((l.map upN).take i ++ (l.map upN).drop (i + 1) ++ List.replicate 1 0).map (Value.int .i64)).length ≤ cur.toList.length := by have hcl : cur.toList.length = cur.size := Array.length_toList; rw [hlen]; omega
      rw [g3, splice_get _ _ _ _ hss, if_neg (by omega), if_pos (by rw [hlen]; omega), Nat.add_sub_cancel_left]
      rw [← cellsN_up, List.map_append, List.map_append, List.map_take, List.map_drop, List.getElem?_append_left (by simp; omega)]
      rw [List.map_append, List.map_append, List.map_take, List.map_take, List.map_drop, List.map_drop]
    · rw [hw]
      exact ((Tch.ofExt (S := fun _ => False) ((Ext.rf w).drN q)).tr t1).mono (fun k h => by
        rcases h with h | h
        · exact h.elim
        · exact ⟨_, rfl, h.symm⟩)

theorem cellsN_one (l : List Nat) : ∀ v ∈ cellsN l, v.oneCell' = true := by
  intro v hv
  obtain ⟨x, _, rfl⟩ := List.mem_map.1 hv
  rfl
theorem cellsN_get (l : List Nat) (j : Nat) : (cellsN l)[j]? = l[j]?.map fun n : Nat => Value.int .i64 (n : Int) := by unfold cellsN; rw [List.getElem?_map]
theorem ins_get (l : List Nat) (i v j : Nat) (hi : i ≤ l.length) : (l.take i ++ [v] ++ l.drop i)[j]? = if j < i then l[j]? else if j = i then some v else l[j - 1]? := by
  have h1 : (l.take i).length = i := by rw [List.length_take]; omega
  by_cases a : j < i
  · rw [if_pos a, List.append_assoc, List.getElem?_append_left (by omega), List.getElem?_take, if_pos a]
  · rw [if_neg a, List.append_assoc, List.getElem?_append_right (by omega), h1]
    by_cases b : j = i
    · subst b; simp
    · rw [if_neg b]
      have : j - i = (j - i - 1) + 1 := by omega
      rw [this, List.singleton_append, List.getElem?_cons_succ, List.getElem?_drop]
      congr 1
      omega
theorem shape_of {w : World} {b : Nat} {cur : Array Value} {e : TypeId} (h : w.heap[b]? = some (.cells cur e (0, 0))) : w.shape? b = some (e, cur.size) := by unfold World.shape?; rw [h]

/-- One element more, that lies in a block of its own. -/
theorem insert_any (l : List Nat) (i v : Nat) (hi : i ≤ l.length) (hl : l.length ≤ 1000000) (a : Option Addr) (c base vb : Nat) (w : World) (h : Own EN 3 w base a c l) (hv : w.heap[vb]? = some (.cells #[.int .i64 (v : Int)] 3 (0, 0))) (hap : Apart a (some ⟨vb, 0, none⟩)) (hbase : base ≤ w.heap.size) :
    Calls Try.prog 81 #[.slice a l.length c, .int .i64 (i : Int), .slice (some ⟨vb, 0, none⟩) 1 1] w fun e w' => ∃ a' c', e = .returned (.slice a' (l.length + 1) c') ∧ Own EN 3 w' base a' c' (l.take i ++ [v] ++ l.drop i) ∧ Tch (inS a) w w' := by
  have hvs : ∀ j u, [Value.int .i64 (v : Int)][j]? = some u → w.cell? ⟨vb, 0 + j, none⟩ = some u := by
    intro j u hu
    rw [cell_of_row w vb _ _ 3 (0, 0) hv, Nat.zero_add]
    simpa using hu
  have h1v : ∀ u ∈ [Value.int .i64 (v : Int)], u.oneCell' = true := by intro u hu; rw [List.mem_singleton.1 hu]; rfl
  by_cases hroom : l.length + 1 ≤ c
  · rcases h with ⟨_, hc0, _⟩ | ⟨g, off, cur, rfl, hb, hg, hle, hcm, hs, ht⟩
    · omega
    · have hk : EN.k = 1 := rfl
      rw [hk, Nat.mul_one] at hs
      have hcl : cur.toList.length = cur.size := Array.length_toList
      have hcell := Own.cells_at (e := 3) (w := w) (base := base) (g := g) (c := c) ht
      have hvg : vb ≠ g := fun e => hap _ _ rfl rfl e.symm
      have hsome : ∀ j, j < c → (w.cell? ⟨g, off + j, none⟩).isSome = true := by
        intro j hj
        rw [cell_of_row w g _ cur 3 (0, 0) hg, Array.getElem?_eq_getElem (by omega)]
        rfl
      by_cases hin : i < l.length
      · have h1 := Any2.slices_Insert_int_shift Try.laysNm221 g off l.length c i vb 0 1 1 (cellsN l) [.int .i64 (v : Int)] w hin (by omega) hroom hcm hvg (cellsN_len l) rfl
          (fun j u hu => by
            rw [cell_of_row w g _ cur 3 (0, 0) hg, ← Array.getElem?_toList, hcell j (by have := (List.getElem?_eq_some_iff.1 hu).1; rwa [cellsN_len] at this)]
            exact hu)
          (fun j hj => hsome j (by omega)) (fun j _ => frozen_of_row w g _ cur _ hg) hvs (cellsN_one l) h1v 3 3 1 cur.size (shape_of hv) (shape_of hg) (by omega) (frozen_of_row w vb _ _ _ hv) (frozen_of_row w vb _ _ _ hv)
        refine h1.mono ?_
        rintro e w' ⟨rfl, rfl⟩
        obtain ⟨t1, _⟩ := setCells_tch g ((cellsN l).drop i) (off + (i + 1)) w.drew
        obtain ⟨t2, _⟩ := setCells_tch g [.int .i64 (v : Int)] (off + i) (w.drew.setCells g (off + (i + 1)) ((cellsN l).drop i))
        have hd : ((cellsN l).drop i).length = l.length - i := by rw [List.length_drop, cellsN_len]
        obtain ⟨cur1, g1, s1, l1⟩ := setCells_heap g 3 ((cellsN l).drop i) (off + (i + 1)) w.drew cur hg (by rw [hd]; omega)
        obtain ⟨cur2, g2, s2, l2⟩ := setCells_heap g 3 [.int .i64 (v : Int)] (off + i) _ cur1 g1 (by rw [s1, List.length_singleton]; omega)
        have hcl1 : cur1.toList.length = cur1.size := Array.length_toList
        refine ⟨_, _, rfl, Own.byCells hb g2 (by simp; omega) hcm (by rw [s2, s1]; exact hs) fun j hj => ?_, ?_⟩
        · have hj' : j < l.length + 1 := by simp at hj; omega
          rw [l2, splice_get _ _ _ _ (by rw [List.length_singleton]; omega), l1, splice_get _ _ _ _ (by rw [hd]; omega), cellsN_get, ins_get _ _ _ _ hi, List.length_singleton, hd, List.getElem?_drop]
          by_cases a1 : j < i
          · rw [if_pos (by omega), if_pos (by omega), if_pos a1, hcell j (by omega), cellsN_get]
          · by_cases a2 : j = i
            · subst a2
              rw [if_neg (by omega), if_pos (by omega), if_neg a1, if_pos rfl, Nat.sub_self]
              rfl
            · rw [if_neg (by omega), if_neg (by omega), if_neg (by omega), if_pos (by omega), if_neg a1, if_neg a2, cellsN_get]
              congr 2
              omega
        · exact (((Tch.ofExt (S := fun _ => False) ((Ext.rf w).dr)).tr t1).tr t2).mono (fun k h => by
            rcases h with (h | h) | h
            · exact h.elim
            · exact ⟨_, rfl, h.symm⟩
            · exact ⟨_, rfl, h.symm⟩)
      · obtain rfl : i = l.length := by omega
        have h1 := Any2.slices_Insert_int_end_room Try.laysNm221 g off l.length c vb 0 1 1 [.int .i64 (v : Int)] w (by omega) hroom hcm rfl
          (fun j hj => by have := hsome (l.length + j) (by omega); rwa [← Nat.add_assoc] at this) (fun j _ => frozen_of_row w g _ cur _ hg) hvs h1v
        refine h1.mono ?_
        rintro e w' ⟨rfl, rfl⟩
        obtain ⟨t2, _⟩ := setCells_tch g [.int .i64 (v : Int)] (off + l.length) w
        obtain ⟨cur2, g2, s2, l2⟩ := setCells_heap g 3 [.int .i64 (v : Int)] (off + l.length) w cur hg (by rw [List.length_singleton]; omega)
        refine ⟨_, _, rfl, Own.byCells hb g2 (by simp; omega) hcm (by rw [s2]; exact hs) fun j hj => ?_, ?_⟩
        · have hj' : j < l.length + 1 := by simp at hj; omega
          rw [l2, splice_get _ _ _ _ (by rw [List.length_singleton]; omega), cellsN_get, ins_get _ _ _ _ hi, List.length_singleton]
          by_cases a1 : j < l.length
          · rw [if_pos (by omega), if_pos a1, hcell j (by omega), cellsN_get]
          · have a2 : j = l.length := by omega
            subst a2
            rw [if_neg (by omega), if_pos (by omega), if_neg a1, if_pos rfl, Nat.sub_self]
            rfl
        · exact t2.mono (fun k h => ⟨_, rfl, h.symm⟩)
  · have hcl : l.length ≤ c := h.le
    by_cases hin : i < l.length
    · rcases h with ⟨_, hc0, h0⟩ | ⟨g, off, cur, rfl, hb, hg, hle, hcm, hs, ht⟩
      · rw [h0] at hin; simp at hin
      · have hcell := Own.cells_at (e := 3) (w := w) (base := base) (g := g) (c := c) ht
        have h1 := Any2.slices_Insert_int_grow Try.laysNm221 g off l.length c i vb 0 1 1 (cellsN l) [.int .i64 (v : Int)] w hin (by omega) hcl (by omega) (by omega) (cellsN_len l) rfl
          (fun j u hu => by
            rw [cell_of_row w g _ cur 3 (0, 0) hg, ← Array.getElem?_toList, hcell j (by have := (List.getElem?_eq_some_iff.1 hu).1; rwa [cellsN_len] at this)]
            exact hu) hvs (cellsN_one l) h1v
        have hge := grownCap_ge w (l.length + 1) c 3
        have hgm : grownCap w (l.length + 1) c 3 ≤ maxLen := grownCap_le_maxLen w (l.length + 1) c 3 (by unfold maxLen; omega)
        obtain ⟨C, hC⟩ : ∃ C, C = grownCap w (l.length + 1) c 3 := ⟨_, rfl⟩
        have h1 : Calls Try.prog 81 #[.slice (some ⟨g, off, none⟩) l.length c, .int .i64 (i : Int), .slice (some ⟨vb, 0, none⟩) 1 1] w fun e w' => e = .returned (.slice (some ⟨w.heap.size, 0, none⟩) (l.length + 1) (grownCap w (l.length + 1) c 3)) ∧
          w' = (((w.alloc (.cells (((cellsN l).take i).toArray ++ Builtin.zeroCells (Value.int .i64 0).cells (l.length + 1 - i) ++ Builtin.zeroCells (Value.int .i64 0).cells (grownCap w (l.length + 1) c 3 - (l.length + 1))) 3)).drew.setCells w.heap.size i [.int .i64 (v : Int)]).drew).setCells w.heap.size (i + 1) ((cellsN l).drop i) := h1
        rw [← hC] at h1 hge hgm
        refine h1.mono ?_
        rintro e w' ⟨rfl, rfl⟩
        obtain ⟨cur0, hcur⟩ : ∃ cur0, cur0 = ((cellsN l).take i).toArray ++ Builtin.zeroCells (Value.int .i64 0).cells (l.length + 1 - i) ++ Builtin.zeroCells (Value.int .i64 0).cells (C - (l.length + 1)) := ⟨_, rfl⟩
        rw [← hcur]
        have hzs : ∀ n, (Builtin.zeroCells (Value.int .i64 0).cells n).size = n := fun n => by rw [size_zeroCells]; show n * 1 = n; omega
        have hs0 : cur0.size = C := by rw [hcur]; simp only [Array.size_append, hzs, List.size_toArray, List.length_take, cellsN_len]; omega
        have hcl0 : cur0.toList.length = cur0.size := Array.length_toList
        have hg0 : (w.alloc (.cells cur0 3)).drew.heap[w.heap.size]? = some (.cells cur0 3 (0, 0)) := hp_at rfl
        have hd : ((cellsN l).drop i).length = l.length - i := by rw [List.length_drop, cellsN_len]
        obtain ⟨t1, _⟩ := setCells_tch w.heap.size [.int .i64 (v : Int)] i (w.alloc (.cells cur0 3)).drew
        obtain ⟨t2, _⟩ := setCells_tch w.heap.size ((cellsN l).drop i) (i + 1) ((w.alloc (.cells cur0 3)).drew.setCells w.heap.size i [.int .i64 (v : Int)]).drew
        obtain ⟨cur1, g1, s1, l1⟩ := setCells_heap w.heap.size 3 [.int .i64 (v : Int)] i (w.alloc (.cells cur0 3)).drew cur0 hg0 (by rw [List.length_singleton]; omega)
        obtain ⟨cur2, g2, s2, l2⟩ := setCells_heap w.heap.size 3 ((cellsN l).drop i) (i + 1) ((w.alloc (.cells cur0 3)).drew.setCells w.heap.size i [.int .i64 (v : Int)]).drew cur1 g1 (by rw [s1, hd]; omega)
        have hcl1 : cur1.toList.length = cur1.size := Array.length_toList
        refine ⟨_, _, rfl, Own.byCells hbase g2 (by simp; omega) hgm (by rw [s2, s1]; omega) fun j hj => ?_, ?_⟩
        · have hj' : j < l.length + 1 := by simp at hj; omega
          rw [l2, splice_get _ _ _ _ (by rw [hd]; omega), l1, splice_get _ _ _ _ (by rw [List.length_singleton]; omega), cellsN_get, ins_get _ _ _ _ hi, List.length_singleton, hd, List.getElem?_drop]
          by_cases a1 : j < i
          · have h5 : cur0.toList[0 + j]? = (cellsN l)[j]? := by
              rw [hcur]
              simp only [Array.toList_append, List.append_assoc, Nat.zero_add]
              rw [List.getElem?_append_left (by simp [cellsN_len]; omega), List.getElem?_take, if_pos a1]
            rw [if_pos (by omega), if_pos (by omega), if_pos a1, h5, cellsN_get]
          · by_cases a2 : j = i
            · subst a2
              rw [if_pos (by omega), if_neg (by omega), if_pos (by omega), if_neg a1, if_pos rfl, Nat.zero_add, Nat.sub_self]
              rfl
            · rw [if_neg (by omega), if_pos (by omega), if_neg a1, if_neg a2, cellsN_get]
              congr 2
              omega
        · exact ((((Tch.ofExt (S := fun _ => False) (((Ext.rf w).al (.cells cur0 3)).dr)).tr t1).tr (Tch.ofExt (S := fun _ => False) (Ext.rf _).dr)).tr t2 |> fun t => ⟨t.bel, fun k hk _ => t.blk k hk (fun h => by
            rcases h with ((h | h) | h) | h
            · exact h.elim
            · omega
            · exact h.elim
            · omega)⟩)
    · obtain rfl : i = l.length := by omega
      have hold : ∀ ad, a = some ad → ∀ j u, (cellsN l)[j]? = some u → w.cell? (ad.add j) = some u := by
        intro ad had j u hu
        rcases h with ⟨h0, _, _⟩ | ⟨g, off, cur, h0, hb, hg, hle, hcm, hs, ht⟩
        · rw [h0] at had; cases had
        · rw [h0] at had
          cases had
          have hcell := Own.cells_at (e := 3) (w := w) (base := base) (g := g) (c := c) ht
          rw [Addr.add_lit, cell_of_row w g _ cur 3 (0, 0) hg, ← Array.getElem?_toList, hcell j (by have := (List.getElem?_eq_some_iff.1 hu).1; rwa [cellsN_len] at this)]
          exact hu
      have hnil : a = none → l.length = 0 := by
        intro ha
        rcases h with ⟨_, _, h0⟩ | ⟨g, off, cur, h0, _⟩
        · rw [h0]; rfl
        · rw [h0] at ha; cases ha
      have h1 := Any2.slices_Insert_int_end_grow Try.laysNm221 a l.length c vb 0 1 1 (cellsN l) [.int .i64 (v : Int)] w (by omega) hcl (by omega) (by omega) (cellsN_len l) rfl hnil hold hvs h1v
      have hge := grownCap_ge w (l.length + 1) c 3
      have hgm : grownCap w (l.length + 1) c 3 ≤ maxLen := grownCap_le_maxLen w (l.length + 1) c 3 (by unfold maxLen; omega)
      have h1 : Calls Try.prog 81 #[.slice a l.length c, .int .i64 (l.length : Int), .slice (some ⟨vb, 0, none⟩) 1 1] w fun e w' => e = .returned (.slice (some ⟨w.heap.size, 0, none⟩) (l.length + 1) (grownCap w (l.length + 1) c 3)) ∧
        w' = w.drew.alloc (.cells ((cellsN l ++ [Value.int .i64 (v : Int)]).toArray ++ Builtin.zeroCells (Value.int .i64 0).cells (grownCap w (l.length + 1) c 3 - (l.length + 1))) 3) := h1
      refine h1.mono ?_
      rintro e w' ⟨rfl, rfl⟩
      have hzs : ∀ n, (Builtin.zeroCells (Value.int .i64 0).cells n).size = n := fun n => by rw [size_zeroCells]; show n * 1 = n; omega
      refine ⟨_, _, rfl, Own.byCells hbase (hp_at rfl) (by simp; exact hge) hgm ?_ fun j hj => ?_, ?_⟩
      · show 0 + grownCap w (l.length + 1) c 3 ≤ _
        simp only [Array.size_append, hzs, List.size_toArray, List.length_append, cellsN_len, List.length_singleton]
        omega
      · have hj' : j < l.length + 1 := by simp at hj; omega
        simp only [Array.toList_append, Nat.zero_add]
        rw [List.getElem?_append_left (by simp [cellsN_len]; omega), cellsN_get, ins_get _ _ _ _ hi]
        by_cases a1 : j < l.length
        · rw [if_pos a1, List.getElem?_append_left (by rw [cellsN_len]; exact a1), cellsN_get]
        · have a2 : j = l.length := by omega
          subst a2
          rw [if_neg a1, if_pos rfl, List.getElem?_append_right (by rw [cellsN_len]; exact Nat.le_refl _), cellsN_len, Nat.sub_self]
          rfl
      · exact Tch.ofExt ((Ext.rf w).dr.al _)

end Go.Proofs.Ytkdncpglgdiicaa
