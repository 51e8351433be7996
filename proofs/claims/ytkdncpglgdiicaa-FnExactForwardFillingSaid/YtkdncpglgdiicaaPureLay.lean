/- Keys laid at nodes: plain. No program. -/
import Derived.Test.YtkdncpglgdiicaaSReach
namespace Go.Proofs.Ytkdncpglgdiicaa

/-- One colour laid. -/
def layS (cs : List Nat) (ks : List Nat) (p : Nat × Nat) : List Nat := ks.set p.1 (ks.getD p.1 0 ||| 2 ^ cs.getD p.2 0)
/-- The first k colours laid at the first k nodes. -/
def layK (cs ns ks : List Nat) (k : Nat) : List Nat := ((ns.take k).zipIdx).foldl (layS cs) ks
/-- The keys of a filling. -/
def layN (size : Nat) (cs ns : List Nat) : List Nat := layK cs ns (List.replicate size 0) ns.length

theorem layK_zero (cs ns ks : List Nat) : layK cs ns ks 0 = ks := by simp [layK]
theorem layK_succ (cs ns ks : List Nat) (k : Nat) (h : k < ns.length) : layK cs ns ks (k + 1) = layS cs (layK cs ns ks k) (ns[k], k) := by
  unfold layK
  rw [List.take_succ_eq_append_getElem h, List.zipIdx_append, List.foldl_append]
  have : (ns.take k).length = k := by rw [List.length_take]; omega
  simp [this]
theorem layS_len (cs ks : List Nat) (p : Nat × Nat) : (layS cs ks p).length = ks.length := by simp [layS]
theorem layK_len (cs ns ks : List Nat) (k : Nat) (h : k ≤ ns.length) : (layK cs ns ks k).length = ks.length := by
  induction k with
  | zero => rw [layK_zero]
  | succ k ih => rw [layK_succ _ _ _ _ (by omega), layS_len, ih (by omega)]
theorem layN_len (size : Nat) (cs ns : List Nat) : (layN size cs ns).length = size := by
  unfold layN
  rw [layK_len _ _ _ _ (Nat.le_refl _), List.length_replicate]
theorem getD_le {l : List Nat} {b : Nat} (h : ∀ k ∈ l, k ≤ b) (i : Nat) : l.getD i 0 ≤ b := by
  rw [List.getD_eq_getElem?_getD]
  cases hi : l[i]? with
  | none => simp
  | some v => simpa using h v (List.mem_of_getElem? hi)
theorem getD_lt {l : List Nat} {b : Nat} (hb : 0 < b) (h : ∀ k ∈ l, k < b) (i : Nat) : l.getD i 0 < b := by
  have := getD_le (l := l) (b := b - 1) (fun k hk => by have := h k hk; omega) i
  omega
theorem layK_le (cs ns ks : List Nat) (hc : ∀ c ∈ cs, c < 6) (hk : ∀ k ∈ ks, k ≤ 63) (k : Nat) (h : k ≤ ns.length) : ∀ z ∈ layK cs ns ks k, z ≤ 63 := by
  induction k with
  | zero => rw [layK_zero]; exact hk
  | succ k ih =>
    rw [layK_succ _ _ _ _ (by omega)]
    intro z hz
    rcases List.mem_or_eq_of_mem_set hz with hz | rfl
    · exact ih (by omega) z hz
    · have h1 := getD_le (ih (by omega)) ns[k]
      have h2 := getD_lt (by decide) hc k
      have : (layK cs ns ks k).getD ns[k] 0 ||| 2 ^ cs.getD k 0 < 2 ^ 6 := Nat.or_lt_two_pow (by omega) (Nat.pow_lt_pow_right (by decide) h2)
      show (layK cs ns ks k).getD ns[k] 0 ||| 2 ^ cs.getD k 0 ≤ 63
      omega
theorem layN_le (size : Nat) (cs ns : List Nat) (hc : ∀ c ∈ cs, c < 6) : ∀ z ∈ layN size cs ns, z ≤ 63 :=
  layK_le cs ns _ hc (fun k hk => by rw [List.eq_of_mem_replicate hk]; decide) _ (Nat.le_refl _)

end Go.Proofs.Ytkdncpglgdiicaa
