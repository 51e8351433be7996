/- Pairs of places that can be swapped: plain. No program. -/
import Derived.Test.YtkdncpglgdiicaaPureRnd
namespace Go.Proofs.Ytkdncpglgdiicaa

/-- Row i: the pairs with a place from i + 1 on, below k. -/
def swRow (Q : Nat → Nat → Bool) (L : List Nat) (i k : Nat) : List (Nat × Nat) := ((List.range' (i + 1) (k - (i + 1))).filter (Q i)).map fun q => (L.getD i 0, L.getD q 0)
/-- The rows below i. -/
def swAll (Q : Nat → Nat → Bool) (L : List Nat) (i : Nat) : List (Nat × Nat) := (List.range i).flatMap fun j => swRow Q L j L.length

theorem swRow_start (Q : Nat → Nat → Bool) (L : List Nat) (i : Nat) : swRow Q L i (i + 1) = [] := by simp [swRow]
theorem swRow_step (Q : Nat → Nat → Bool) (L : List Nat) (i k : Nat) (h : i + 1 ≤ k) : swRow Q L i (k + 1) = swRow Q L i k ++ (if Q i k then [(L.getD i 0, L.getD k 0)] else []) := by
  unfold swRow
  have e : k + 1 - (i + 1) = (k - (i + 1)) + 1 := by omega
  rw [e, List.range'_concat, List.filter_append, List.map_append]
  congr 1
  have : i + 1 + 1 * (k - (i + 1)) = k := by omega
  rw [this]
  by_cases hq : Q i k = true <;> simp [hq]
theorem swAll_zero (Q : Nat → Nat → Bool) (L : List Nat) : swAll Q L 0 = [] := rfl
theorem swAll_succ (Q : Nat → Nat → Bool) (L : List Nat) (i : Nat) : swAll Q L (i + 1) = swAll Q L i ++ swRow Q L i L.length := by
  unfold swAll
  rw [List.range_succ, List.flatMap_append]
  simp
theorem swRow_len (Q : Nat → Nat → Bool) (L : List Nat) (i k : Nat) : (swRow Q L i k).length ≤ k := by
  unfold swRow
  rw [List.length_map]
  have := List.length_filter_le (Q i) (List.range' (i + 1) (k - (i + 1)))
  rw [List.length_range'] at this
  omega
theorem swAll_len (Q : Nat → Nat → Bool) (L : List Nat) (i : Nat) : (swAll Q L i).length ≤ i * L.length := by
  induction i with
  | zero => simp [swAll_zero]
  | succ i ih =>
    rw [swAll_succ, List.length_append, Nat.succ_mul]
    have := swRow_len Q L i L.length
    omega

end Go.Proofs.Ytkdncpglgdiicaa
