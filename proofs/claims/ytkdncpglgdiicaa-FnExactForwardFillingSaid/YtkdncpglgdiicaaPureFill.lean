/- Fillings that are made with a hand: plain. -/
import Derived.Test.YtkdncpglgdiicaaPureRnd
import Derived.Test.YtkdncpglgdiicaaNode
namespace Go.Proofs.Ytkdncpglgdiicaa

/-- An order of the colours of a set. -/
def ordB (N : Nat) (o : List Int) : Bool := o.all (fun c => withinB c 0 5) && (decide (o.length = (mem N).length) && decide (toSet (o.map Int.toNat) = N))
/-- As many choices, none negative. -/
def chB (ch : List Int) (n : Nat) : Bool := ch.all (fun c => decide (0 ≤ c)) && decide (ch.length = n)

theorem perm_of_cover : ∀ (L O : List Nat), L.Nodup → (∀ x ∈ L, x ∈ O) → O.length ≤ L.length → O.Perm L
  | [], O, _, _, h => by
    have : O = [] := List.eq_nil_of_length_eq_zero (by simpa using h)
    rw [this]
  | x :: L, O, hn, hs, hl => by
    rw [List.nodup_cons] at hn
    have hx := hs x (by simp)
    have h1 := List.perm_cons_erase hx
    have h2 : (O.erase x).Perm L := by
      refine perm_of_cover L (O.erase x) hn.2 (fun y hy => ?_) ?_
      · have hne : y ≠ x := fun e => hn.1 (e ▸ hy)
        exact (List.mem_erase_of_ne hne).2 (hs y (by simp [hy]))
      · rw [List.length_erase_of_mem hx]
        simp only [List.length_cons] at hl
        omega
    exact h1.trans (h2.cons x)

theorem mem6 {N : Nat} (hN : N ≤ 63) : ∀ y ∈ mem N, y < 6 := fun y hy => mem_lt (N := N) (b := 6) (by omega) hy
theorem mem_bit {N y : Nat} (hN : N ≤ 63) : y ∈ mem N ↔ N.testBit y = true := mem_mem (b := 6) (by omega) (by omega)
theorem mem_le6 {N : Nat} (hN : N ≤ 63) : (mem N).length ≤ 6 := mem_len_le (b := 6) (by omega) (by omega)
theorem mem_nodup' (N : Nat) : (mem N).Nodup := by
  unfold mem
  exact List.Pairwise.sublist List.filter_sublist List.nodup_range
theorem mem_sorted (N : Nat) : ((mem N).map upN).Pairwise (· ≤ ·) := by
  rw [List.pairwise_map]
  have h : (mem N).Pairwise (· < ·) := by unfold mem; exact List.Pairwise.sublist List.filter_sublist List.pairwise_lt_range
  exact h.imp fun hab => by show ((_ : Nat) : Int) ≤ ((_ : Nat) : Int); omega

theorem up_toNat {l : List Int} (h : ∀ x ∈ l, 0 ≤ x) : (l.map Int.toNat).map upN = l := by
  rw [List.map_map]
  conv => rhs; rw [← List.map_id l]
  refine List.map_congr_left fun k hk => ?_
  have := h k hk
  show ((k.toNat : Nat) : Int) = k
  omega

/-- An order, as numbers. -/
theorem ordB_up {N : Nat} (hN : N ≤ 63) {o : List Int} (h : ordB N o = true) : ∃ O : List Nat, o = O.map upN ∧ O.Perm (mem N) := by
  unfold ordB at h
  simp only [Bool.and_eq_true, List.all_eq_true, decide_eq_true_eq, withinB] at h
  obtain ⟨h1, h2, h3⟩ := h
  refine ⟨o.map Int.toNat, (up_toNat fun x hx => (h1 x hx).1).symm, perm_of_cover _ _ (mem_nodup' N) (fun x hx => ?_) (by rw [List.length_map]; omega)⟩
  rw [mem_bit hN, ← h3, toSet_testBit] at hx
  exact hx
theorem ordB_of_perm {N : Nat} (hN : N ≤ 63) {O : List Nat} (h : O.Perm (mem N)) : ordB N (O.map upN) = true := by
  unfold ordB
  simp only [Bool.and_eq_true, List.all_eq_true, decide_eq_true_eq, withinB]
  refine ⟨fun x hx => ?_, by rw [List.length_map]; exact h.length_eq, ?_⟩
  · obtain ⟨y, hy, rfl⟩ := List.mem_map.1 hx
    have := mem6 hN y (h.mem_iff.1 hy)
    show 0 ≤ (y : Int) ∧ (y : Int) ≤ 5
    omega
  · have e : (O.map upN).map Int.toNat = O := by
      rw [List.map_map]
      conv => rhs; rw [← List.map_id O]
      exact List.map_congr_left fun d _ => rfl
    rw [e]
    apply Nat.eq_of_testBit_eq
    intro i
    rw [Bool.eq_iff_iff, toSet_testBit, h.mem_iff, mem_bit hN]
/-- Sorted, it is the colours. -/
theorem sort_ord {N : Nat} (hN : N ≤ 63) (o : List Int) : (o.mergeSort (fun x y => decide (x ≤ y)) == (mem N).map upN) = ordB N o := by
  rw [Bool.eq_iff_iff, beq_iff_eq]
  constructor
  · intro h
    have hp : o.Perm ((mem N).map upN) := by rw [← h]; exact (List.mergeSort_perm o _).symm
    have h0 : ∀ x ∈ o, 0 ≤ x := by
      intro x hx
      obtain ⟨y, _, rfl⟩ := List.mem_map.1 (hp.mem_iff.1 hx)
      exact Int.natCast_nonneg _
    have h1 := hp.map Int.toNat
    have e : ((mem N).map upN).map Int.toNat = mem N := by
      rw [List.map_map]
      conv => rhs; rw [← List.map_id (mem N)]
      exact List.map_congr_left fun d _ => rfl
    rw [e] at h1
    have h2 := ordB_of_perm hN h1
    rwa [up_toNat h0] at h2
  · intro h
    obtain ⟨O, rfl, hp⟩ := ordB_up hN h
    have h1 : ((O.map upN).mergeSort (fun x y => decide (x ≤ y))).Perm ((mem N).map upN) := (List.mergeSort_perm _ _).trans (hp.map upN)
    refine List.Perm.eq_of_pairwise (le := fun x y => x ≤ y) (fun a b _ _ h1 h2 => by omega) ?_ (mem_sorted N) h1
    have := List.pairwise_mergeSort (le := fun x y : Int => decide (x ≤ y)) (fun a b c h1 h2 => by simp only [decide_eq_true_eq] at *; omega) (fun a b => by simp only [Bool.or_eq_true, decide_eq_true_eq]; omega) (O.map upN)
    exact this.imp fun h => by simpa using h

/-- What one has at last. -/
noncomputable def clos (ds : List ND) (n : Nat) (ks : List Nat) (s : Nat) : Nat := (rnd (gain ds n ks) s).getLastD s
/-- The nodes that are reached at last. -/
noncomputable def freeL (ds : List ND) (n : Nat) (ks : List Nat) (s : Nat) : List Nat := rl ds n (clos ds n ks s) 0
theorem clos_le (ds : List ND) (n : Nat) (ks : List Nat) (s : Nat) (hs : s ≤ 63) : clos ds n ks s ≤ 63 := by
  unfold clos
  rw [List.getLastD_eq_getLast?]
  cases h : (rnd (gain ds n ks) s).getLast? with
  | none => exact hs
  | some v => exact rnd_le _ _ hs v (List.mem_of_getLast? h)
theorem free_zero (ds : List ND) (n : Nat) (ks : List Nat) (s : Nat) (hn : 0 < n) : 0 ∈ freeL ds n ks s := mem_rl.2 ⟨hn, .here⟩
theorem free_pos (ds : List ND) (n : Nat) (ks : List Nat) (s : Nat) (hn : 0 < n) : 0 < (freeL ds n ks s).length := List.length_pos_of_mem (free_zero ds n ks s hn)
theorem free_lt (ds : List ND) (n : Nat) (ks : List Nat) (s : Nat) : ∀ y ∈ freeL ds n ks s, y < n := fun y h => rl_lt h

/-- The hand behind k colours. -/
def handAt (h0 : Nat) (O : List Nat) (k : Nat) : Nat := (O.take k).foldl (fun h c => nd h (2 ^ c)) h0
theorem handAt_zero (h0 : Nat) (O : List Nat) : handAt h0 O 0 = h0 := rfl
theorem handAt_succ (h0 : Nat) (O : List Nat) (k : Nat) (h : k < O.length) : handAt h0 O (k + 1) = nd (handAt h0 O k) (2 ^ O[k]) := by
  unfold handAt
  rw [List.take_succ_eq_append_getElem h, List.foldl_append]
  rfl
theorem handAt_le (h0 : Nat) (O : List Nat) (k : Nat) : handAt h0 O k ≤ h0 := by
  unfold handAt
  generalize O.take k = l
  induction l generalizing h0 with
  | nil => exact Nat.le_refl _
  | cons x l ih => rw [List.foldl_cons]; exact Nat.le_trans (ih _) (nd_le _ _)

/-- Where the first k colours of an order are laid. -/
noncomputable def fillY (ds : List ND) (n : Nat) (O ch : List Nat) (h0 : Nat) : Nat → List Nat
  | 0 => []
  | k + 1 =>
    let Y := fillY ds n O ch h0 k
    let fr := freeL ds n (layN n O Y) (handAt h0 O (k + 1))
    Y ++ [fr.getD (ch.getD k 0 % fr.length) 0]
theorem fillY_len (ds : List ND) (n : Nat) (O ch : List Nat) (h0 k : Nat) : (fillY ds n O ch h0 k).length = k := by
  induction k with
  | zero => rfl
  | succ k ih => simp [fillY, ih]
theorem fillY_lt (ds : List ND) (n : Nat) (O ch : List Nat) (h0 k : Nat) (hn : 0 < n) : ∀ y ∈ fillY ds n O ch h0 k, y < n := by
  induction k with
  | zero => intro y hy; cases hy
  | succ k ih =>
    intro y hy
    simp only [fillY, List.mem_append, List.mem_singleton] at hy
    rcases hy with hy | rfl
    · exact ih y hy
    · exact getD_lt hn (free_lt _ _ _ _) _
theorem layN_snoc (n : Nat) (O Y : List Nat) (x : Nat) : layN n O (Y ++ [x]) = layS O (layN n O Y) (x, Y.length) := by
  unfold layN
  have h1 : Y.length < (Y ++ [x]).length := by simp
  rw [List.length_append, List.length_singleton, layK_succ _ _ _ _ h1]
  congr 1
  · unfold layK
    rw [List.take_append_of_le_length (Nat.le_refl _), List.take_length]
  · simp

/-- The place of a number in a list. -/
def plc : List Nat → Nat → Nat
  | [], _ => 0
  | x :: l, y => if x = y then 0 else plc l y + 1
theorem plc_get : ∀ (l : List Nat), l.Nodup → ∀ i (h : i < l.length), plc l l[i] = i
  | [], _, i, h => by simp at h
  | x :: l, hn, 0, _ => by simp [plc]
  | x :: l, hn, i + 1, h => by
    rw [List.nodup_cons] at hn
    have hi : i < l.length := by simpa using h
    have hne : x ≠ l[i] := fun e => hn.1 (e ▸ List.getElem_mem hi)
    simp [plc, hne, plc_get l hn.2 i hi]
theorem plc_lt {l : List Nat} {y : Nat} (h : y ∈ l) : plc l y < l.length := by
  induction l with
  | nil => cases h
  | cons x l ih =>
    by_cases e : x = y
    · simp [plc, e]
    · have : y ∈ l := by
        rcases List.mem_cons.1 h with h | h
        · exact absurd h.symm e
        · exact h
      simp only [plc, if_neg e, List.length_cons]
      have := ih this
      omega
theorem get_plc {l : List Nat} {y : Nat} (h : y ∈ l) : l[plc l y]'(plc_lt h) = y := by
  induction l with
  | nil => cases h
  | cons x l ih =>
    by_cases e : x = y
    · simp [plc, e]
    · have hm : y ∈ l := by
        rcases List.mem_cons.1 h with h | h
        · exact absurd h.symm e
        · exact h
      simp only [plc, if_neg e, List.getElem_cons_succ]
      exact ih hm

/-- The nodes by colours. -/
def byCol (L O Y : List Nat) : List Nat := L.map fun c => Y.getD (plc O c) 0
/-- The first k nodes, laid by colours. -/
def byColK (L O Y : List Nat) (k : Nat) : List Nat := ((O.take k).zipIdx).foldl (fun l p => l.set (plc L p.1) (Y.getD p.2 0)) (List.replicate L.length 0)
theorem byColK_zero (L O Y : List Nat) : byColK L O Y 0 = List.replicate L.length 0 := rfl
theorem byColK_succ (L O Y : List Nat) (k : Nat) (h : k < O.length) : byColK L O Y (k + 1) = (byColK L O Y k).set (plc L O[k]) (Y.getD k 0) := by
  unfold byColK
  rw [List.take_succ_eq_append_getElem h, List.zipIdx_append, List.foldl_append]
  have : (O.take k).length = k := by rw [List.length_take]; omega
  simp [this]
theorem byColK_len (L O Y : List Nat) (k : Nat) (h : k ≤ O.length) : (byColK L O Y k).length = L.length := by
  induction k with
  | zero => rw [byColK_zero, List.length_replicate]
  | succ k ih => rw [byColK_succ _ _ _ _ (by omega), List.length_set, ih (by omega)]
theorem byColK_get (L O Y : List Nat) (hp : O.Perm L) (hL : L.Nodup) (k : Nat) (h : k ≤ O.length) (p : Nat) (hpl : p < L.length) (hlt : plc O L[p] < k) : (byColK L O Y k)[p]? = some (Y.getD (plc O L[p]) 0) := by
  have hO : O.Nodup := hp.nodup_iff.2 hL
  induction k with
  | zero => omega
  | succ k ih =>
    rw [byColK_succ _ _ _ _ (by omega), List.getElem?_set]
    have hkm : O[k] ∈ L := hp.mem_iff.1 (List.getElem_mem _)
    by_cases e : plc O L[p] = k
    · have e1 : O[k] = L[p] := by
        have hm : L[p] ∈ O := hp.mem_iff.2 (List.getElem_mem _)
        have := get_plc hm
        simp only [e] at this
        exact this
      have e2 : plc L O[k] = p := by rw [e1]; exact plc_get L hL p hpl
      rw [if_pos e2, if_pos (by rw [byColK_len _ _ _ _ (by omega)]; omega), e]
    · have e2 : plc L O[k] ≠ p := by
        intro h2
        have h3 := get_plc hkm
        simp only [h2] at h3
        rw [h3] at e
        exact e (plc_get O hO k (by omega))
      rw [if_neg e2]
      exact ih (by omega) (by omega)
theorem byColK_all (L O Y : List Nat) (hp : O.Perm L) (hL : L.Nodup) : byColK L O Y O.length = byCol L O Y := by
  apply List.ext_getElem?
  intro p
  by_cases hpl : p < L.length
  · have hm : L[p] ∈ O := hp.mem_iff.2 (List.getElem_mem _)
    rw [byColK_get L O Y hp hL _ (Nat.le_refl _) p hpl (plc_lt hm)]
    unfold byCol
    rw [List.getElem?_map, List.getElem?_eq_getElem hpl]
    rfl
  · rw [List.getElem?_eq_none (by rw [byColK_len _ _ _ _ (Nat.le_refl _)]; omega), List.getElem?_eq_none (by unfold byCol; rw [List.length_map]; omega)]

end Go.Proofs.Ytkdncpglgdiicaa
