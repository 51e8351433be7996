/- Rounds of a run: plain. No program. -/
import Derived.Test.YtkdncpglgdiicaaPureLay
namespace Go.Proofs.Ytkdncpglgdiicaa

/-- The set held once every node reached has given its keys. -/
def gainL (ks : List Nat) (l : List Nat) (s : Nat) : Nat := l.foldl (fun h y => h ||| ks.getD y 0) s
noncomputable def gain (ds : List ND) (n : Nat) (ks : List Nat) (s : Nat) : Nat := gainL ks (rl ds n s 0) s
/-- The sets of the rounds. -/
def rnd (g : Nat → Nat) (s : Nat) : List Nat := if s < g s ∧ g s ≤ 63 then s :: rnd g (g s) else [s]
termination_by 63 - s
decreasing_by omega

theorem gainL_le (ks : List Nat) (hk : ∀ k ∈ ks, k ≤ 63) (l : List Nat) (s : Nat) (hs : s ≤ 63) : gainL ks l s ≤ 63 := by
  unfold gainL
  induction l generalizing s with
  | nil => exact hs
  | cons y l ih =>
    rw [List.foldl_cons]
    refine ih _ ?_
    have := getD_le hk y
    have h : s ||| ks.getD y 0 < 2 ^ 6 := Nat.or_lt_two_pow (by omega) (by omega)
    omega
theorem gainL_ge (ks : List Nat) (l : List Nat) (s : Nat) : s ≤ gainL ks l s := by
  unfold gainL
  induction l generalizing s with
  | nil => exact Nat.le_refl _
  | cons y l ih =>
    rw [List.foldl_cons]
    exact Nat.le_trans Nat.left_le_or (ih _)
theorem gainL_take (ks : List Nat) (l : List Nat) (s k : Nat) (h : k < l.length) : gainL ks (l.take (k + 1)) s = gainL ks (l.take k) s ||| ks.getD l[k] 0 := by
  unfold gainL
  rw [List.take_succ_eq_append_getElem h, List.foldl_append]
  rfl
theorem rnd_last (g : Nat → Nat) (s : Nat) (h : g s = s) : rnd g s = [s] := by
  rw [rnd, if_neg (by omega)]
theorem rnd_more (g : Nat → Nat) (s : Nat) (h : g s ≠ s) (h1 : s ≤ g s) (h2 : g s ≤ 63) : rnd g s = s :: rnd g (g s) := by
  rw [rnd, if_pos (by omega)]
theorem rnd_len (g : Nat → Nat) (s : Nat) (hs : s ≤ 63) : (rnd g s).length ≤ 64 - s := by
  rw [rnd]
  split
  · rename_i h
    have := rnd_len g (g s) h.2
    simp only [List.length_cons]
    omega
  · simp only [List.length_singleton]
    omega
termination_by 63 - s
decreasing_by omega
theorem rnd_le (g : Nat → Nat) (s : Nat) (hs : s ≤ 63) : ∀ z ∈ rnd g s, z ≤ 63 := by
  rw [rnd]
  split
  · rename_i h
    have := rnd_le g (g s) h.2
    intro z hz
    rcases List.mem_cons.1 hz with rfl | hz
    · exact hs
    · exact this z hz
  · intro z hz
    rw [List.mem_singleton.1 hz]
    exact hs
termination_by 63 - s
decreasing_by omega

/-- One round's nodes marked. -/
def markS (i : Nat) (r : List Nat) (y : Nat) : List Nat := if r.getD y 0 = 0 then r.set y (i + 1) else r
def markL (i : Nat) (l r : List Nat) : List Nat := l.foldl (markS i) r
noncomputable def entK (ds : List ND) (n : Nat) (R : List Nat) (k : Nat) : List Nat := ((R.take k).zipIdx).foldl (fun r p => markL p.2 (rl ds n p.1 0) r) (List.replicate n 0)
/-- The round in which each node is first reached, from 1; 0 where it is never. -/
noncomputable def ent (ds : List ND) (n : Nat) (ks : List Nat) (s : Nat) : List Nat := entK ds n (rnd (gain ds n ks) s) (rnd (gain ds n ks) s).length

theorem markS_len (i : Nat) (r : List Nat) (y : Nat) : (markS i r y).length = r.length := by
  unfold markS; split <;> simp
theorem markL_len (i : Nat) (l r : List Nat) : (markL i l r).length = r.length := by
  unfold markL
  induction l generalizing r with
  | nil => rfl
  | cons y l ih => rw [List.foldl_cons, ih, markS_len]
theorem markL_take (i : Nat) (l r : List Nat) (k : Nat) (h : k < l.length) : markL i (l.take (k + 1)) r = markS i (markL i (l.take k) r) l[k] := by
  unfold markL
  rw [List.take_succ_eq_append_getElem h, List.foldl_append]
  rfl
theorem entK_zero (ds : List ND) (n : Nat) (R : List Nat) : entK ds n R 0 = List.replicate n 0 := rfl
theorem entK_succ (ds : List ND) (n : Nat) (R : List Nat) (k : Nat) (h : k < R.length) : entK ds n R (k + 1) = markL k (rl ds n R[k] 0) (entK ds n R k) := by
  unfold entK
  rw [List.take_succ_eq_append_getElem h, List.zipIdx_append, List.foldl_append]
  have : (R.take k).length = k := by rw [List.length_take]; omega
  simp [this]
theorem entK_len (ds : List ND) (n : Nat) (R : List Nat) (k : Nat) (h : k ≤ R.length) : (entK ds n R k).length = n := by
  induction k with
  | zero => rw [entK_zero, List.length_replicate]
  | succ k ih => rw [entK_succ _ _ _ _ (by omega), markL_len, ih (by omega)]
theorem ent_len (ds : List ND) (n : Nat) (ks : List Nat) (s : Nat) : (ent ds n ks s).length = n := entK_len _ _ _ _ (Nat.le_refl _)

end Go.Proofs.Ytkdncpglgdiicaa
