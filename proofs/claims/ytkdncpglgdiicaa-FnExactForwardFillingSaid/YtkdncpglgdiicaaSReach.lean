/- What the reference reaches: the plain part. No program. -/
import Derived.Test.YtkdncpglgdiicaaReach
namespace Go.Proofs.Ytkdncpglgdiicaa

/-- n at its place in an ascending list. -/
def putN (l : List Nat) (n : Nat) : List Nat := l.takeWhile (· < n) ++ n :: l.dropWhile (· < n)

theorem mem_putN (l : List Nat) (n z : Nat) : z ∈ putN l n ↔ z = n ∨ z ∈ l := by
  unfold putN
  rw [List.mem_append, List.mem_cons]
  have h : z ∈ l ↔ z ∈ l.takeWhile (· < n) ∨ z ∈ l.dropWhile (· < n) := by
    conv => lhs; rw [← List.takeWhile_append_dropWhile (p := (· < n)) (l := l)]
    rw [List.mem_append]
  rw [h]
  constructor
  · rintro (h | h | h)
    · exact .inr (.inl h)
    · exact .inl h
    · exact .inr (.inr h)
  · rintro (h | h | h)
    · exact .inr (.inl h)
    · exact .inl h
    · exact .inr (.inr h)

theorem asc_putN (l : List Nat) (n : Nat) (h : l.Pairwise (· < ·)) (hn : n ∉ l) : (putN l n).Pairwise (· < ·) := by
  induction l with
  | nil => simp [putN]
  | cons x l ih =>
    have hx := List.pairwise_cons.1 h
    by_cases hlt : x < n
    · have e : putN (x :: l) n = x :: putN l n := by unfold putN; simp [hlt]
      rw [e, List.pairwise_cons]
      refine ⟨fun z hz => ?_, ih hx.2 (fun h => hn (List.mem_cons_of_mem _ h))⟩
      rcases (mem_putN l n z).1 hz with rfl | hz
      · exact hlt
      · exact hx.1 z hz
    · have hne : x ≠ n := fun e => hn (by rw [e]; exact List.mem_cons_self)
      have e : putN (x :: l) n = n :: x :: l := by unfold putN; simp [hlt]
      rw [e, List.pairwise_cons]
      refine ⟨fun z hz => ?_, h⟩
      rcases List.mem_cons.1 hz with rfl | hz
      · omega
      · have := hx.1 z hz
        omega

theorem len_putN (l : List Nat) (n : Nat) : (putN l n).length = l.length + 1 := by
  unfold putN
  have := congrArg List.length (List.takeWhile_append_dropWhile (p := (· < n)) (l := l))
  simp only [List.length_append, List.length_cons] at this ⊢
  omega

/-- Two ascending lists with the same members are one. -/
theorem asc_ext (a b : List Nat) (ha : a.Pairwise (· < ·)) (hb : b.Pairwise (· < ·)) (h : ∀ z, z ∈ a ↔ z ∈ b) : a = b := by
  induction a generalizing b with
  | nil =>
    cases b with
    | nil => rfl
    | cons y b => exact absurd ((h y).2 List.mem_cons_self) (by simp)
  | cons x a ih =>
    cases b with
    | nil => exact absurd ((h x).1 List.mem_cons_self) (by simp)
    | cons y b =>
      have hx := List.pairwise_cons.1 ha
      have hy := List.pairwise_cons.1 hb
      have e : x = y := by
        have h1 := (h x).1 List.mem_cons_self
        have h2 := (h y).2 List.mem_cons_self
        rcases List.mem_cons.1 h1 with h1 | h1
        · exact h1
        · rcases List.mem_cons.1 h2 with h2 | h2
          · exact h2.symm
          · have := hx.1 y h2
            have := hy.1 x h1
            omega
      subst e
      congr 1
      refine ih b hx.2 hy.2 fun z => ?_
      constructor
      · intro hz
        rcases List.mem_cons.1 ((h z).1 (List.mem_cons_of_mem _ hz)) with rfl | h1
        · exact absurd (hx.1 z hz) (Nat.lt_irrefl _)
        · exact h1
      · intro hz
        rcases List.mem_cons.1 ((h z).2 (List.mem_cons_of_mem _ hz)) with rfl | h1
        · exact absurd (hy.1 z hz) (Nat.lt_irrefl _)
        · exact h1

theorem asc_rl (ds : List ND) (n set x : Nat) : (rl ds n set x).Pairwise (· < ·) := by
  unfold rl
  exact List.Pairwise.filter _ List.pairwise_lt_range

theorem nodup_le (l : List Nat) (n : Nat) (h : l.Nodup) (hl : ∀ z ∈ l, z < n) : l.length ≤ n := by
  have := List.Nodup.length_le_of_subset (l₂ := List.range n) h (fun z hz => List.mem_range.2 (hl z hz))
  simpa using this

/-- What holds in the reference's search: at place q of its list, at door i. -/
structure SInv (ds : List ND) (n set x : Nat) (out l : List Nat) (q i : Nat) : Prop where
  asc : out.Pairwise (· < ·)
  same : ∀ z, z ∈ out ↔ z ∈ l
  nodup : l.Nodup
  lt : ∀ z ∈ l, z < n
  clo : ∀ z ∈ l, Clo (Stp ds set) x z
  here : x ∈ l
  done : ∀ j (h : j < l.length), j < q → ∀ z, Stp ds set l[j] z → z ∈ l
  part : ∀ (h : q < l.length) k, k < i → ∀ (hk : k < ds.length), opn set ds[k].2.2 = true → (ds[k].1 = l[q] → ds[k].2.1 ∈ l) ∧ (ds[k].2.1 = l[q] → ds[k].1 ∈ l)
  qle : q ≤ l.length

theorem SInv.start {ds : List ND} {n set x : Nat} (hx : x < n) : SInv ds n set x [x] [x] 0 0 :=
  ⟨by simp, fun z => Iff.rfl, by simp, fun z h => by simp at h; omega, fun z h => by simp at h; subst h; exact .here, by simp, fun j _ h => by omega, fun _ k h => by omega, by simp⟩

theorem SInv.len {ds : List ND} {n set x q i : Nat} {out l : List Nat} (h : SInv ds n set x out l q i) : l.length ≤ n := nodup_le l n h.nodup h.lt

theorem asc_nodup {l : List Nat} (h : l.Pairwise (· < ·)) : l.Nodup := h.imp fun h e => by omega
theorem SInv.outlen {ds : List ND} {n set x q i : Nat} {out l : List Nat} (h : SInv ds n set x out l q i) : out.length ≤ n :=
  nodup_le out n (asc_nodup h.asc) fun z hz => h.lt z ((h.same z).1 hz)
theorem SInv.outpos {ds : List ND} {n set x q i : Nat} {out l : List Nat} (h : SInv ds n set x out l q i) : 0 < out.length :=
  List.length_pos_of_mem ((h.same x).2 h.here)

/-- A door that adds nothing. -/
theorem SInv.skip {ds : List ND} {n set x q i : Nat} {out l : List Nat} (h : SInv ds n set x out l q i) (hq : q < l.length) (hi : i < ds.length)
    (hs : opn set ds[i].2.2 = true → (ds[i].1 = l[q] → ds[i].2.1 ∈ l) ∧ (ds[i].2.1 = l[q] → ds[i].1 ∈ l)) : SInv ds n set x out l q (i + 1) := by
  refine ⟨h.asc, h.same, h.nodup, h.lt, h.clo, h.here, h.done, fun hq' k hk hkl ho => ?_, h.qle⟩
  by_cases e : k = i
  · subst e; exact hs ho
  · exact h.part hq' k (by omega) hkl ho

/-- A door that adds a node. -/
theorem SInv.add {ds : List ND} {n set x q i y : Nat} {out l : List Nat} (h : SInv ds n set x out l q i) (hq : q < l.length) (hi : i < ds.length) (hd : ∀ d ∈ ds, d.1 < n ∧ d.2.1 < n) (hy : y ∉ l)
    (ho : opn set ds[i].2.2 = true) (ht : ds[i].1 = l[q] ∧ ds[i].2.1 = y ∨ ds[i].2.1 = l[q] ∧ ds[i].1 = y) : SInv ds n set x (putN out y) (l ++ [y]) q (i + 1) := by
  have hm := List.getElem_mem hi
  have hst : Stp ds set l[q] y := ⟨ds[i], hm, ho, ht⟩
  have hyn : y < n := by
    have := hd _ hm
    rcases ht with ⟨_, e⟩ | ⟨_, e⟩ <;> omega
  refine ⟨asc_putN out y h.asc (fun hh => hy ((h.same y).1 hh)), fun z => ?_, ?_, ?_, ?_, ?_, ?_, ?_, ?_⟩
  · rw [mem_putN, List.mem_append, List.mem_singleton, h.same z, Or.comm]
  · rw [List.nodup_append]
    refine ⟨h.nodup, by simp, ?_⟩
    intro a ha b hb e
    rw [List.mem_singleton] at hb
    subst hb
    subst e
    exact hy ha
  · intro z hz
    rcases List.mem_append.1 hz with hz | hz
    · exact h.lt z hz
    · rw [List.mem_singleton] at hz; omega
  · intro z hz
    rcases List.mem_append.1 hz with hz | hz
    · exact h.clo z hz
    · rw [List.mem_singleton] at hz
      subst hz
      exact .next (h.clo _ (List.getElem_mem hq)) hst
  · exact List.mem_append.2 (.inl h.here)
  · intro j hj hjq z hz
    have hjl : j < l.length := by omega
    rw [List.getElem_append_left hjl] at hz
    exact List.mem_append.2 (.inl (h.done j hjl hjq z hz))
  · intro hq' k hk hkl hok
    rw [List.getElem_append_left hq]
    by_cases e : k = i
    · subst e
      constructor
      · intro e1
        rcases ht with ⟨_, e2⟩ | ⟨e2, e3⟩
        · exact List.mem_append.2 (.inr (by simp [e2]))
        · refine List.mem_append.2 (.inl ?_)
          rw [e2]
          exact List.getElem_mem hq
      · intro e1
        rcases ht with ⟨e2, e3⟩ | ⟨_, e2⟩
        · refine List.mem_append.2 (.inl ?_)
          rw [e2]
          exact List.getElem_mem hq
        · exact List.mem_append.2 (.inr (by simp [e2]))
    · have := h.part hq k (by omega) hkl hok
      exact ⟨fun e1 => List.mem_append.2 (.inl (this.1 e1)), fun e1 => List.mem_append.2 (.inl (this.2 e1))⟩
  · rw [List.length_append]; have := h.qle; omega

/-- All doors at a place are looked at. -/
theorem SInv.next {ds : List ND} {n set x q : Nat} {out l : List Nat} (h : SInv ds n set x out l q ds.length) (hq : q < l.length) : SInv ds n set x out l (q + 1) 0 := by
  refine ⟨h.asc, h.same, h.nodup, h.lt, h.clo, h.here, fun j hj hjq z hz => ?_, fun _ k hk => by omega, by omega⟩
  by_cases e : j = q
  · subst e
    obtain ⟨d, hd, ho, ht⟩ := hz
    obtain ⟨k, hk, rfl⟩ := List.mem_iff_getElem.1 hd
    have := h.part hq k hk hk ho
    rcases ht with ⟨e1, e2⟩ | ⟨e1, e2⟩
    · rw [← e2]; exact this.1 e1
    · rw [← e2]; exact this.2 e1
  · exact h.done j hj (by omega) z hz

theorem SInv.end_ {ds : List ND} {n set x q : Nat} {out l : List Nat} (h : SInv ds n set x out l q 0) (hq : l.length ≤ q) : out = rl ds n set x := by
  refine asc_ext _ _ h.asc (asc_rl ds n set x) fun z => ?_
  rw [h.same, mem_rl]
  refine ⟨fun hz => ⟨h.lt z hz, h.clo z hz⟩, fun hz => ?_⟩
  have hc := hz.2
  clear hz
  induction hc with
  | here => exact h.here
  | next _ s ih =>
    obtain ⟨j, hj, rfl⟩ := List.mem_iff_getElem.1 ih
    exact h.done j hj (by omega) _ s

end Go.Proofs.Ytkdncpglgdiicaa
