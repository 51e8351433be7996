/- A number put into, or taken out of, an ascending list: plain. No program. -/
import Derived.Test.YtkdncpglgdiicaaPure
namespace Go.Proofs.Ytkdncpglgdiicaa

theorem ascExt : ∀ (l m : List Nat), l.Pairwise (· < ·) → m.Pairwise (· < ·) → (∀ x, x ∈ l ↔ x ∈ m) → l = m
  | [], [], _, _, _ => rfl
  | [], y :: m, _, _, h => by have := (h y).2 (by simp); simp at this
  | x :: l, [], _, _, h => by have := (h x).1 (by simp); simp at this
  | x :: l, y :: m, hl, hm, h => by
    rw [List.pairwise_cons] at hl hm
    have hxy : x = y := by
      have h1 := (h x).1 (by simp)
      have h2 := (h y).2 (by simp)
      rw [List.mem_cons] at h1 h2
      rcases h1 with h1 | h1
      · exact h1
      · rcases h2 with h2 | h2
        · exact h2.symm
        · have := hm.1 x h1
          have := hl.1 y h2
          omega
    subst hxy
    congr 1
    refine ascExt l m hl.2 hm.2 fun z => ⟨fun hz => ?_, fun hz => ?_⟩
    · have h1 := (h z).1 (List.mem_cons_of_mem _ hz)
      rw [List.mem_cons] at h1
      rcases h1 with rfl | h1
      · have := hl.1 z hz; omega
      · exact h1
    · have h1 := (h z).2 (List.mem_cons_of_mem _ hz)
      rw [List.mem_cons] at h1
      rcases h1 with rfl | h1
      · have := hm.1 z hz; omega
      · exact h1

/-- How many are less. -/
def lessN (F : List Nat) (k : Nat) : Nat := F.countP (· < k)
theorem lessN_le (F : List Nat) (k : Nat) : lessN F k ≤ F.length := List.countP_le_length
theorem lessN_gt {F : List Nat} {k : Nat} (h : ∀ x ∈ F, k ≤ x) : lessN F k = 0 := by
  unfold lessN
  rw [List.countP_eq_zero]
  intro x hx
  have := h x hx
  simp; omega

theorem split_asc : ∀ (F : List Nat) (k : Nat), F.Pairwise (· < ·) → F.take (lessN F k) = F.filter (· < k) ∧ F.drop (lessN F k) = F.filter (fun x => decide (k ≤ x))
  | [], _, _ => by simp [lessN]
  | x :: F, k, h => by
    rw [List.pairwise_cons] at h
    by_cases hx : x < k
    · have e : lessN (x :: F) k = lessN F k + 1 := by simp [lessN, hx]
      have ih := split_asc F k h.2
      rw [e, List.take_succ_cons, List.drop_succ_cons, ih.1, ih.2]
      simp [hx]
    · have hall : ∀ y ∈ x :: F, k ≤ y := by
        intro y hy
        rcases List.mem_cons.1 hy with rfl | hy
        · omega
        · have := h.1 y hy; omega
      rw [lessN_gt hall]
      constructor
      · rw [List.take_zero]
        refine (List.filter_eq_nil_iff.2 fun y hy => ?_).symm
        have := hall y hy
        simp; omega
      · rw [List.drop_zero]
        refine (List.filter_eq_self.2 fun y hy => ?_).symm
        have := hall y hy
        simpa using this

/-- The list behind: every number below n that is in it, but for k, which is turned. -/
def turned (n : Nat) (F : List Nat) (k : Nat) : List Nat := (List.range n).filter fun i => decide (i ∈ F) != decide (i = k)
theorem turned_asc (n : Nat) (F : List Nat) (k : Nat) : (turned n F k).Pairwise (· < ·) := List.Pairwise.sublist List.filter_sublist List.pairwise_lt_range
theorem mem_turned {n : Nat} {F : List Nat} {k x : Nat} : x ∈ turned n F k ↔ x < n ∧ ((x ∈ F ∧ x ≠ k) ∨ (x ∉ F ∧ x = k)) := by
  unfold turned
  rw [List.mem_filter, List.mem_range]
  by_cases h1 : x ∈ F <;> by_cases h2 : x = k <;> simp [h1, h2]

theorem turned_del {n : Nat} {F : List Nat} {k : Nat} (hs : F.Pairwise (· < ·)) (hn : ∀ x ∈ F, x < n) (hk : k ∈ F) : F.take (lessN F k) ++ F.drop (lessN F k + 1) = turned n F k := by
  have h1 := split_asc F k hs
  have hd : F.drop (lessN F k + 1) = (F.filter (fun x => decide (k ≤ x))).drop 1 := by rw [← h1.2, List.drop_drop]
  have hsub : (F.take (lessN F k) ++ F.drop (lessN F k + 1)).Pairwise (· < ·) := by
    rw [List.pairwise_append]
    have h2 : (F.take (lessN F k) ++ F.drop (lessN F k)).Pairwise (· < ·) := by rw [List.take_append_drop]; exact hs
    rw [List.pairwise_append] at h2
    have hss : (F.drop (lessN F k + 1)).Sublist (F.drop (lessN F k)) := by rw [← List.drop_drop]; exact List.drop_sublist _ _
    exact ⟨h2.1, List.Pairwise.sublist hss h2.2.1, fun a ha b hb => h2.2.2 a ha b (hss.subset hb)⟩
  refine ascExt _ _ hsub (turned_asc n F k) fun x => ?_
  -- the head of what is not less is k
  have hhead : F.filter (fun x => decide (k ≤ x)) = k :: F.filter (fun x => decide (k < x)) := by
    refine ascExt _ _ (List.Pairwise.sublist List.filter_sublist hs) ?_ fun y => ?_
    · rw [List.pairwise_cons]
      refine ⟨fun y hy => ?_, List.Pairwise.sublist List.filter_sublist hs⟩
      have := (List.mem_filter.1 hy).2
      simpa using this
    · rw [List.mem_cons, List.mem_filter, List.mem_filter]
      simp only [decide_eq_true_eq]
      constructor
      · rintro ⟨hy, hky⟩
        rcases Nat.lt_or_ge k y with h | h
        · exact .inr ⟨hy, h⟩
        · exact .inl (by omega)
      · rintro (rfl | ⟨hy, h⟩)
        · exact ⟨hk, Nat.le_refl _⟩
        · exact ⟨hy, by omega⟩
  rw [hd, h1.1, hhead, List.drop_succ_cons, List.drop_zero, List.mem_append, List.mem_filter, List.mem_filter, mem_turned]
  simp only [decide_eq_true_eq]
  constructor
  · rintro (⟨h, h2⟩ | ⟨h, h2⟩)
    · exact ⟨hn x h, .inl ⟨h, by omega⟩⟩
    · exact ⟨hn x h, .inl ⟨h, by omega⟩⟩
  · rintro ⟨_, (⟨h, h2⟩ | ⟨h, rfl⟩)⟩
    · rcases Nat.lt_or_ge x k with h3 | h3
      · exact .inl ⟨h, h3⟩
      · exact .inr ⟨h, by omega⟩
    · exact absurd hk h

theorem turned_ins {n : Nat} {F : List Nat} {k : Nat} (hs : F.Pairwise (· < ·)) (hn : ∀ x ∈ F, x < n) (hkn : k < n) (hk : k ∉ F) : F.take (lessN F k) ++ [k] ++ F.drop (lessN F k) = turned n F k := by
  have h1 := split_asc F k hs
  have hne : ∀ x ∈ F, x ≠ k := fun x hx e => hk (e ▸ hx)
  rw [h1.1, h1.2]
  refine ascExt _ _ ?_ (turned_asc n F k) fun x => ?_
  · rw [List.pairwise_append, List.pairwise_append]
    refine ⟨⟨List.Pairwise.sublist List.filter_sublist hs, List.pairwise_singleton _ _, fun a ha b hb => ?_⟩, List.Pairwise.sublist List.filter_sublist hs, fun a ha b hb => ?_⟩
    · rw [List.mem_singleton] at hb
      subst hb
      simpa using (List.mem_filter.1 ha).2
    · have h3 := List.mem_filter.1 hb
      have h4 : k ≤ b := by simpa using h3.2
      have h5 := hne b h3.1
      rcases List.mem_append.1 ha with ha | ha
      · have h6 : a < k := by simpa using (List.mem_filter.1 ha).2
        omega
      · rw [List.mem_singleton] at ha
        omega
  · rw [List.mem_append, List.mem_append, List.mem_filter, List.mem_filter, List.mem_singleton, mem_turned]
    simp only [decide_eq_true_eq]
    constructor
    · rintro ((⟨h, h2⟩ | rfl) | ⟨h, h2⟩)
      · exact ⟨hn x h, .inl ⟨h, hne x h⟩⟩
      · exact ⟨hkn, .inr ⟨hk, rfl⟩⟩
      · exact ⟨hn x h, .inl ⟨h, hne x h⟩⟩
    · rintro ⟨_, (⟨h, h2⟩ | ⟨_, rfl⟩)⟩
      · rcases Nat.lt_or_ge x k with h3 | h3
        · exact .inl (.inl ⟨h, h3⟩)
        · exact .inr ⟨h, h3⟩
      · exact .inl (.inr rfl)

end Go.Proofs.Ytkdncpglgdiicaa
