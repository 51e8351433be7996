/- A filling made with a hand, by the program: the walk that succeeds. -/
import Derived.Test.YtkdncpglgdiicaaFill3
import Derived.Deep.Cut
namespace Go.Proofs.Ytkdncpglgdiicaa
open Go Go.RowKit Go.Sort

theorem entersLaid4 : Enters Try.prog 101 := fun _ _ => by go_simp
theorem fillY_prefix (ds : List ND) (n : Nat) (O ch : List Nat) (h0 m k : Nat) (h : k ≤ m) : (fillY ds n O ch h0 m).take k = fillY ds n O ch h0 k := by
  induction m with
  | zero =>
    obtain rfl : k = 0 := by omega
    rfl
  | succ m ih =>
    by_cases e : k = m + 1
    · subst e
      exact List.take_of_length_le (by rw [fillY_len]; exact Nat.le_refl _)
    · rw [fillY_succ, List.take_append_of_le_length (by rw [fillY_len]; omega)]
      exact ih (by omega)

theorem boxA {w w' : World} {o : Obj} (x : Ext (w.alloc o).drew w') : w'.heap[w.heap.size]? = some o := x.bk (hp_dr (hp_at rfl))
theorem boxB {w w' : World} {o p : Obj} (x : Ext ((w.alloc o).alloc p).drew w') : w'.heap[w.heap.size]? = some o := x.bk (hp_dr (hp_old (hp_at rfl)))
theorem boxC {w w' : World} {o p : Obj} (x : Ext ((w.alloc p).alloc o).drew w') : w'.heap[w.heap.size + 1]? = some o := x.bk (hp_dr (hp_at (by simp)))
theorem boxC' (w : World) (o p : Obj) : ((w.alloc p).alloc o).heap[w.heap.size + 1]? = some o := hp_at (by simp)

/-- Three cells of one block, written. -/
def set3 (w : World) (b : Nat) (x y z : Value) : World := ((w.setCell ⟨b, 0, none⟩ x).setCell ⟨b, 1, none⟩ y).setCell ⟨b, 2, none⟩ z
theorem set3_at {w : World} {b : Nat} {x y z : Value} {x' y' z' : Value} {t : TypeId} (h : w.heap[b]? = some (.cells #[x, y, z] t (0, 0))) : (set3 w b x' y' z').heap[b]? = some (.cells #[x', y', z'] t (0, 0)) := by
  obtain ⟨cur, h1, h2, h3⟩ := setCells_heap b t [x', y', z'] 0 w #[x, y, z] h (by simp)
  have : cur = #[x', y', z'] := by
    apply Array.toList_inj.1
    rw [h3]
    rfl
  rw [this] at h1
  exact h1
theorem set3_old {w : World} {b k : Nat} {o : Obj} {x y z : Value} (h : w.heap[k]? = some o) (hne : k ≠ b) : (set3 w b x y z).heap[k]? = some o := heapCs (heapCs (heapCs h hne) hne) hne
theorem Own.set3 {α : Type} {E : Enc α} {e : TypeId} {w : World} {base c : Nat} {a : Option Addr} {l : List α} (h : Own E e w base a c l) {b : Nat} (hb : b < base) (x y z : Value) : Own E e (set3 w b x y z) base a c l := ((h.cs hb _).cs hb _).cs hb _
theorem Ext.set3 {a w : World} (h : Ext a w) {b : Nat} (hb : a.heap.size ≤ b) (x y z : Value) : Ext a (set3 w b x y z) := ((h.cs hb _).cs hb _).cs hb _
theorem set3_size (w : World) (b : Nat) (x y z : Value) : (Go.Proofs.Ytkdncpglgdiicaa.set3 w b x y z).heap.size = w.heap.size := (setCells_tch b [x, y, z] 0 w).2

/-- What the first copy and the empty answer are. -/
structure Fl0 (w6 W : World) (t : TypeId) (n : Value) (ds : List ND) (K : List Nat) (m nb kb : Nat) (b1 : Option Addr) (d1 : Nat) (b2 : Option Addr) (d2 : Nat) (kl : Nat) : Prop where
  box : W.heap[nb]? = some (.cells #[n, .slice b1 ds.length d1, .slice b2 kl d2] t (0, 0))
  nbl : w6.heap.size ≤ nb
  kbl : w6.heap.size ≤ kb
  own1 : Own EDN 140 W w6.heap.size b1 d1 ds
  own2 : Own EN 3 W w6.heap.size b2 d2 K
  out : Own EN 3 W w6.heap.size (some ⟨kb, 0, none⟩) m (List.replicate m 0)
  ne : nb ≠ kb
  ap : Apart b1 b2
  ap1 : ∀ p, b1 = some p → p.block ≠ nb ∧ p.block ≠ kb
  ap2 : ∀ p, b2 = some p → p.block ≠ nb ∧ p.block ≠ kb
  x : Ext w6 W
theorem Fl0.of {w6 W w7 : World} {t : TypeId} {n : Value} {ds : List ND} {K : List Nat} {m nb kb : Nat} {b1 : Option Addr} {d1 : Nat} {b2 : Option Addr} {d2 kl base : Nat}
    (o1 : Own EDN 140 w7 base b1 d1 ds) (o2 : Own EN 3 w7 base b2 d2 K) (ap : Apart b1 b2) (hm : m ≤ 1000)
    (hb : W.heap[nb]? = some (.cells #[n, .slice b1 ds.length d1, .slice b2 kl d2] t (0, 0))) (hk : W.heap[kb]? = some (.cells (Array.replicate m (.int .i64 0)) 3 (0, 0)))
    (o1' : Own EDN 140 W base b1 d1 ds) (o2' : Own EN 3 W base b2 d2 K) (hbase : w6.heap.size ≤ base) (hn : nb < base ∨ w7.heap.size ≤ nb) (hkn : kb < base ∨ w7.heap.size ≤ kb) (h1 : w6.heap.size ≤ nb) (h2 : w6.heap.size ≤ kb) (hne : nb ≠ kb) (x : Ext w6 W) : Fl0 w6 W t n ds K m nb kb b1 d1 b2 d2 kl := by
  refine ⟨hb, h1, h2, o1'.mono hbase, o2'.mono hbase, ?_, hne, ap, fun p hp => ?_, fun p hp => ?_, x⟩
  · refine Own.at0 hk h2 (by unfold maxLen; omega) (by simp) (by simp [EN]) ?_
    rw [show (List.replicate m 0).flatMap EN.cells = List.replicate m (Value.int .i64 0) by rw [List.flatMap_replicate]; simp [EN, List.flatten_replicate_singleton]]
    simp [EN]
  · have := o1.blk p hp
    omega
  · have := o2.blk p hp
    omega

section
variable {w6 w7 : World} {t : TypeId} {n : Value} {ds : List ND} {K : List Nat} {m : Nat} {b1 b2 : Option Addr} {d1 d2 kl : Nat}
theorem Fl0.s1 (o1 : Own EDN 140 w7 w6.drew.heap.size b1 d1 ds) (o2 : Own EN 3 w7 w6.drew.heap.size b2 d2 K) (ap : Apart b1 b2) (hm : m ≤ 1000) (x7 : Ext w6.drew w7) (x8 : Ext w6 w7) : Fl0 w6 ((w7.alloc (.cells (Array.replicate m (.int .i64 0)) 3)).alloc (.cells #[n, .slice b1 ds.length d1, .slice b2 kl d2] t (0, 0))) t n ds K m (w7.heap.size + 1) (w7.heap.size) b1 d1 b2 d2 kl := by
  have z7 : w6.heap.size ≤ w7.heap.size := x7.size
  have z8 := x8.size
  have hba : w6.heap.size ≤ w6.drew.heap.size := Nat.le_refl _
  exact Fl0.of o1 o2 ap hm (boxC' _ _ _) (hp_old (hp_at rfl)) ((o1.al _).al _) ((o2.al _).al _) hba (.inr (Nat.le_succ _)) (.inr (Nat.le_refl _)) (by omega) (by omega) (by omega) ((x8.al _).al _)
theorem Fl0.s2 (o1 : Own EDN 140 w7 w6.drew.heap.size b1 d1 ds) (o2 : Own EN 3 w7 w6.drew.heap.size b2 d2 K) (ap : Apart b1 b2) (hm : m ≤ 1000) (x7 : Ext w6.drew w7) (x8 : Ext w6 w7) : Fl0 w6 ((w7.alloc (.cells #[n, .slice b1 ds.length d1, .slice b2 kl d2] t (0, 0))).alloc (.cells (Array.replicate m (.int .i64 0)) 3)) t n ds K m (w7.heap.size) (w7.heap.size + 1) b1 d1 b2 d2 kl := by
  have z7 : w6.heap.size ≤ w7.heap.size := x7.size
  have z8 := x8.size
  have hba : w6.heap.size ≤ w6.drew.heap.size := Nat.le_refl _
  exact Fl0.of o1 o2 ap hm (hp_old (hp_at rfl)) (boxC' _ _ _) ((o1.al _).al _) ((o2.al _).al _) hba (.inr (Nat.le_refl _)) (.inr (Nat.le_succ _)) (by omega) (by omega) (by omega) ((x8.al _).al _)
theorem Fl0.s3 (o1 : Own EDN 140 w7 (w6.alloc (.cells (Array.replicate m (.int .i64 0)) 3)).drew.heap.size b1 d1 ds) (o2 : Own EN 3 w7 (w6.alloc (.cells (Array.replicate m (.int .i64 0)) 3)).drew.heap.size b2 d2 K) (ap : Apart b1 b2) (hm : m ≤ 1000) (x7 : Ext (w6.alloc (.cells (Array.replicate m (.int .i64 0)) 3)).drew w7) (x8 : Ext w6 w7) : Fl0 w6 (w7.alloc (.cells #[n, .slice b1 ds.length d1, .slice b2 kl d2] t (0, 0))) t n ds K m (w7.heap.size) (w6.heap.size) b1 d1 b2 d2 kl := by
  have z7 : (w6.alloc (.cells (Array.replicate m (.int .i64 0)) 3)).heap.size ≤ w7.heap.size := x7.size
  have z8 := x8.size
  have hba : w6.heap.size ≤ (w6.alloc (.cells (Array.replicate m (.int .i64 0)) 3)).drew.heap.size := by show _ ≤ (w6.alloc (.cells (Array.replicate m (.int .i64 0)) 3)).heap.size; simp; try omega
  have hA : w6.heap.size < (w6.alloc (.cells (Array.replicate m (.int .i64 0)) 3)).drew.heap.size := by show _ < (w6.alloc (.cells (Array.replicate m (.int .i64 0)) 3)).heap.size; simp; try omega
  have hT : w6.heap.size < w7.heap.size := Nat.lt_of_lt_of_le hA z7
  exact Fl0.of o1 o2 ap hm (hp_at rfl) (hp_old (boxA x7)) (o1.al _) (o2.al _) hba (.inr (Nat.le_refl _)) (.inl hA) (by omega) (by omega) (by omega) (x8.al _)
theorem Fl0.s4 (o1 : Own EDN 140 w7 ((w6.alloc (.cells (Array.replicate m (.int .i64 0)) 3)).alloc (.cells #[.int .i64 0, .slice none 0 0, .slice none 0 0] t (0, 0))).drew.heap.size b1 d1 ds) (o2 : Own EN 3 w7 ((w6.alloc (.cells (Array.replicate m (.int .i64 0)) 3)).alloc (.cells #[.int .i64 0, .slice none 0 0, .slice none 0 0] t (0, 0))).drew.heap.size b2 d2 K) (ap : Apart b1 b2) (hm : m ≤ 1000) (x7 : Ext ((w6.alloc (.cells (Array.replicate m (.int .i64 0)) 3)).alloc (.cells #[.int .i64 0, .slice none 0 0, .slice none 0 0] t (0, 0))).drew w7) (x8 : Ext w6 w7) : Fl0 w6 (((w7.setCell ⟨w6.heap.size + 1, 0, none⟩ n).setCell ⟨w6.heap.size + 1, 1, none⟩ (.slice b1 ds.length d1)).setCell ⟨w6.heap.size + 1, 2, none⟩ (.slice b2 kl d2)) t n ds K m (w6.heap.size + 1) (w6.heap.size) b1 d1 b2 d2 kl := by
  have z7 : ((w6.alloc (.cells (Array.replicate m (.int .i64 0)) 3)).alloc (.cells #[.int .i64 0, .slice none 0 0, .slice none 0 0] t (0, 0))).heap.size ≤ w7.heap.size := x7.size
  have z8 := x8.size
  have hba : w6.heap.size ≤ ((w6.alloc (.cells (Array.replicate m (.int .i64 0)) 3)).alloc (.cells #[.int .i64 0, .slice none 0 0, .slice none 0 0] t (0, 0))).drew.heap.size := by show _ ≤ ((w6.alloc (.cells (Array.replicate m (.int .i64 0)) 3)).alloc (.cells #[.int .i64 0, .slice none 0 0, .slice none 0 0] t (0, 0))).heap.size; simp; try omega
  have hA : w6.heap.size < ((w6.alloc (.cells (Array.replicate m (.int .i64 0)) 3)).alloc (.cells #[.int .i64 0, .slice none 0 0, .slice none 0 0] t (0, 0))).drew.heap.size := by show _ < ((w6.alloc (.cells (Array.replicate m (.int .i64 0)) 3)).alloc (.cells #[.int .i64 0, .slice none 0 0, .slice none 0 0] t (0, 0))).heap.size; simp; try omega
  have hT : w6.heap.size < w7.heap.size := Nat.lt_of_lt_of_le hA z7
  have hB : w6.heap.size + 1 < ((w6.alloc (.cells (Array.replicate m (.int .i64 0)) 3)).alloc (.cells #[.int .i64 0, .slice none 0 0, .slice none 0 0] t (0, 0))).drew.heap.size := by show _ < ((w6.alloc (.cells (Array.replicate m (.int .i64 0)) 3)).alloc (.cells #[.int .i64 0, .slice none 0 0, .slice none 0 0] t (0, 0))).heap.size; simp; try omega
  exact Fl0.of o1 o2 ap hm (set3_at (boxC x7)) (set3_old (boxB x7) (Nat.ne_of_lt (Nat.lt_succ_self _))) (o1.set3 hB _ _ _) (o2.set3 hB _ _ _) hba (.inl hB) (.inl hA) (by omega) (by omega) (by omega) (x8.set3 (Nat.le_succ _) _ _ _)
theorem Fl0.s5 (o1 : Own EDN 140 w7 (w6.alloc (.cells #[.int .i64 0, .slice none 0 0, .slice none 0 0] t (0, 0))).drew.heap.size b1 d1 ds) (o2 : Own EN 3 w7 (w6.alloc (.cells #[.int .i64 0, .slice none 0 0, .slice none 0 0] t (0, 0))).drew.heap.size b2 d2 K) (ap : Apart b1 b2) (hm : m ≤ 1000) (x7 : Ext (w6.alloc (.cells #[.int .i64 0, .slice none 0 0, .slice none 0 0] t (0, 0))).drew w7) (x8 : Ext w6 w7) : Fl0 w6 ((((w7.alloc (.cells (Array.replicate m (.int .i64 0)) 3)).setCell ⟨w6.heap.size, 0, none⟩ n).setCell ⟨w6.heap.size, 1, none⟩ (.slice b1 ds.length d1)).setCell ⟨w6.heap.size, 2, none⟩ (.slice b2 kl d2)) t n ds K m (w6.heap.size) (w7.heap.size) b1 d1 b2 d2 kl := by
  have z7 : (w6.alloc (.cells #[.int .i64 0, .slice none 0 0, .slice none 0 0] t (0, 0))).heap.size ≤ w7.heap.size := x7.size
  have z8 := x8.size
  have hba : w6.heap.size ≤ (w6.alloc (.cells #[.int .i64 0, .slice none 0 0, .slice none 0 0] t (0, 0))).drew.heap.size := by show _ ≤ (w6.alloc (.cells #[.int .i64 0, .slice none 0 0, .slice none 0 0] t (0, 0))).heap.size; simp; try omega
  have hA : w6.heap.size < (w6.alloc (.cells #[.int .i64 0, .slice none 0 0, .slice none 0 0] t (0, 0))).drew.heap.size := by show _ < (w6.alloc (.cells #[.int .i64 0, .slice none 0 0, .slice none 0 0] t (0, 0))).heap.size; simp; try omega
  have hT : w6.heap.size < w7.heap.size := Nat.lt_of_lt_of_le hA z7
  exact Fl0.of o1 o2 ap hm (set3_at (hp_old (boxA x7))) (set3_old (hp_at rfl) (Nat.ne_of_gt hT)) ((o1.al _).set3 hA _ _ _) ((o2.al _).set3 hA _ _ _) hba (.inl hA) (.inr (Nat.le_refl _)) (by omega) (by omega) (by omega) ((x8.al _).set3 (Nat.le_refl _) _ _ _)
theorem Fl0.s6 (o1 : Own EDN 140 w7 (w6.alloc (.cells #[.int .i64 0, .slice none 0 0, .slice none 0 0] t (0, 0))).drew.heap.size b1 d1 ds) (o2 : Own EN 3 w7 (w6.alloc (.cells #[.int .i64 0, .slice none 0 0, .slice none 0 0] t (0, 0))).drew.heap.size b2 d2 K) (ap : Apart b1 b2) (hm : m ≤ 1000) (x7 : Ext (w6.alloc (.cells #[.int .i64 0, .slice none 0 0, .slice none 0 0] t (0, 0))).drew w7) (x8 : Ext w6 w7) : Fl0 w6 ((((w7.setCell ⟨w6.heap.size, 0, none⟩ n).setCell ⟨w6.heap.size, 1, none⟩ (.slice b1 ds.length d1)).setCell ⟨w6.heap.size, 2, none⟩ (.slice b2 kl d2)).alloc (.cells (Array.replicate m (.int .i64 0)) 3)) t n ds K m (w6.heap.size) (w7.heap.size) b1 d1 b2 d2 kl := by
  have z7 : (w6.alloc (.cells #[.int .i64 0, .slice none 0 0, .slice none 0 0] t (0, 0))).heap.size ≤ w7.heap.size := x7.size
  have z8 := x8.size
  have hba : w6.heap.size ≤ (w6.alloc (.cells #[.int .i64 0, .slice none 0 0, .slice none 0 0] t (0, 0))).drew.heap.size := by show _ ≤ (w6.alloc (.cells #[.int .i64 0, .slice none 0 0, .slice none 0 0] t (0, 0))).heap.size; simp; try omega
  have hA : w6.heap.size < (w6.alloc (.cells #[.int .i64 0, .slice none 0 0, .slice none 0 0] t (0, 0))).drew.heap.size := by show _ < (w6.alloc (.cells #[.int .i64 0, .slice none 0 0, .slice none 0 0] t (0, 0))).heap.size; simp; try omega
  have hT : w6.heap.size < w7.heap.size := Nat.lt_of_lt_of_le hA z7
  exact Fl0.of o1 o2 ap hm (hp_old (set3_at (boxA x7))) (hp_at (set3_size w7 _ _ _ _).symm) ((o1.set3 hA _ _ _).al _) ((o2.set3 hA _ _ _).al _) hba (.inl hA) (.inr (Nat.le_refl _)) (by omega) (by omega) (by omega) ((x8.set3 (Nat.le_refl _) _ _ _).al _)
theorem Fl0.s7 (o1 : Own EDN 140 w7 ((w6.alloc (.cells #[.int .i64 0, .slice none 0 0, .slice none 0 0] t (0, 0))).alloc (.cells (Array.replicate m (.int .i64 0)) 3)).drew.heap.size b1 d1 ds) (o2 : Own EN 3 w7 ((w6.alloc (.cells #[.int .i64 0, .slice none 0 0, .slice none 0 0] t (0, 0))).alloc (.cells (Array.replicate m (.int .i64 0)) 3)).drew.heap.size b2 d2 K) (ap : Apart b1 b2) (hm : m ≤ 1000) (x7 : Ext ((w6.alloc (.cells #[.int .i64 0, .slice none 0 0, .slice none 0 0] t (0, 0))).alloc (.cells (Array.replicate m (.int .i64 0)) 3)).drew w7) (x8 : Ext w6 w7) : Fl0 w6 (((w7.setCell ⟨w6.heap.size, 0, none⟩ n).setCell ⟨w6.heap.size, 1, none⟩ (.slice b1 ds.length d1)).setCell ⟨w6.heap.size, 2, none⟩ (.slice b2 kl d2)) t n ds K m (w6.heap.size) (w6.heap.size + 1) b1 d1 b2 d2 kl := by
  have z7 : ((w6.alloc (.cells #[.int .i64 0, .slice none 0 0, .slice none 0 0] t (0, 0))).alloc (.cells (Array.replicate m (.int .i64 0)) 3)).heap.size ≤ w7.heap.size := x7.size
  have z8 := x8.size
  have hba : w6.heap.size ≤ ((w6.alloc (.cells #[.int .i64 0, .slice none 0 0, .slice none 0 0] t (0, 0))).alloc (.cells (Array.replicate m (.int .i64 0)) 3)).drew.heap.size := by show _ ≤ ((w6.alloc (.cells #[.int .i64 0, .slice none 0 0, .slice none 0 0] t (0, 0))).alloc (.cells (Array.replicate m (.int .i64 0)) 3)).heap.size; simp; try omega
  have hA : w6.heap.size < ((w6.alloc (.cells #[.int .i64 0, .slice none 0 0, .slice none 0 0] t (0, 0))).alloc (.cells (Array.replicate m (.int .i64 0)) 3)).drew.heap.size := by show _ < ((w6.alloc (.cells #[.int .i64 0, .slice none 0 0, .slice none 0 0] t (0, 0))).alloc (.cells (Array.replicate m (.int .i64 0)) 3)).heap.size; simp; try omega
  have hT : w6.heap.size < w7.heap.size := Nat.lt_of_lt_of_le hA z7
  have hB : w6.heap.size + 1 < ((w6.alloc (.cells #[.int .i64 0, .slice none 0 0, .slice none 0 0] t (0, 0))).alloc (.cells (Array.replicate m (.int .i64 0)) 3)).drew.heap.size := by show _ < ((w6.alloc (.cells #[.int .i64 0, .slice none 0 0, .slice none 0 0] t (0, 0))).alloc (.cells (Array.replicate m (.int .i64 0)) 3)).heap.size; simp; try omega
  exact Fl0.of o1 o2 ap hm (set3_at (boxB x7)) (set3_old (boxC x7) (Nat.ne_of_gt (Nat.lt_succ_self _))) (o1.set3 hA _ _ _) (o2.set3 hA _ _ _) hba (.inl hA) (.inl hB) (by omega) (by omega) (by omega) (x8.set3 (Nat.le_refl _) _ _ _)
end

set_option maxRecDepth 100000 in
set_option maxHeartbeats 8000000 in
theorem filled_yes (m : NM) (hm : m.Ok) (N : Nat) (hN : N ≤ 63) (h0 : Nat) (hh0 : h0 ≤ 63) (O CH : List Nat) (hO : O.Perm (mem N)) (hCH : CH.length = O.length) (hCB : ∀ x ∈ CH, x ≤ 9223372036854775807) (hg : ordB N (O.map upN) = true) (a1 a2 a3 a4 : Option Addr) (c1 c2 c3 c4 : Nat) (w : World) (h1 : Rd EDN w a1 m.doors) (h2 : Rd EN w a2 m.keys) (h3 : Rd EN w a3 O) (h4 : Rd EN w a4 CH) :
    Calls Try.prog 108 #[.agg #[.int .i64 (m.size : Int), .slice a1 m.doors.length c1, .slice a2 m.keys.length c2], .int .i64 (N : Int), .int .i64 (h0 : Int), .slice a3 O.length c3, .slice a4 CH.length c4] w fun e w' =>
      ∃ a c, e = .returned (.tuple #[.slice a (byCol (mem N) O (fillY m.doors m.size O CH h0 O.length)).length c, .bool true]) ∧ Own EN 3 w' w.heap.size a c (byCol (mem N) O (fillY m.doors m.size O CH h0 O.length)) ∧ Ext w w' := by
  have hm6 := mem_le6 hN
  have hOl := hO.length_eq
  have hdd : ∀ d ∈ m.doors, d.1 < d.2.1 ∧ d.2.1 < m.size ∧ d.2.2 ≤ 63 := hm.door
  have hsz := hm.size_le
  have hsp := hm.size_pos
  have hdl := hm.doors_len
  have hkl := hm.keys_len
  have HAS := Lib.hid fun w' (hx : Ext w w') => asked_yes m hm N hN a1 a2 c1 c2 w' (h1.ext hx) (h2.ext hx)
  have HME := Lib.hid fun M w' (hM : M < 2 ^ 60) => members_any M w' hM
  have HCL := Lib.hid fun w' (hx : Ext w w') => (by
    have h := cloneI_any elemI (O.map upN) a3 c3 w' (h3.ext hx).iUp (by simp; omega)
    simpa using h : Calls Try.prog 78 #[.slice a3 O.length c3] w' fun e w'' => ∃ a c, e = .returned (.slice a O.length c) ∧ Own EI 3 w'' w'.heap.size a c (O.map upN) ∧ Ext w' w'')
  have hml : ((O.map upN).mergeSort fun x y => decide (x ≤ y)).length = O.length := by rw [List.length_mergeSort, List.length_map]
  have HSO := Lib.hid fun b d base w' (hb : Own EI 3 w' base b d (O.map upN)) => (by
    have h := sortI_any (O.map upN) (by simp; omega) b d base w' hb
    simpa using h : Calls Try.prog 161 #[.slice b O.length d] w' fun e w'' => e = .returned (.tuple #[]) ∧ Own EI 3 w'' base b d ((O.map upN).mergeSort fun x y => decide (x ≤ y)) ∧ Tch (inS b) w' w'')
  have HEQ := Lib.hid fun b1 b2 d1 d2 w' (g1 : Rd EI w' b1 ((O.map upN).mergeSort fun x y => decide (x ≤ y))) (g2 : Rd EI w' b2 ((mem N).map upN)) => equalI_any ((O.map upN).mergeSort fun x y => decide (x ≤ y)) ((mem N).map upN) (by omega) (by simp; omega) b1 b2 d1 d2 w' g1 g2
  simp only [hml, List.length_map] at HEQ
  rw [sort_ord hN (O.map upN), hg] at HEQ
  have HCF := Lib.hid fun w' (hx : Ext w w') => (by
    have h := containsFunc_any 163 #[] (fun x => decide (x < 0)) a4 c4 (CH.map upN) w' (by simp; omega) (h4.ext hx).iUp (fun _ _ => by go_simp) (fun x w'' _ => filledF_any x w'')
    have e : ((CH.map upN).any fun x => decide (x < 0)) = false := by
      rw [List.any_eq_false]
      intro x hx
      obtain ⟨y, _, rfl⟩ := List.mem_map.1 hx
      rw [show decide (upN y < 0) = false from decide_eq_false (show ¬ ((y : Int) < 0) by omega)]; decide
    rw [e] at h
    simpa using h : Calls Try.prog 162 #[.slice a4 CH.length c4, .func (.func 163) #[] #[]] w' fun e w'' => e = .returned (.bool false) ∧ Ext w' w'')
  have HLD := Lib.hid fun w' (hx : Ext w w') => laid_any (m.size : Int) m.doors m.keys [] [] a1 a2 none none c1 c2 0 0 w' (h1.ext hx) (h2.ext hx) (Rd.nil _ _ _) (Rd.nil _ _ _) (by omega) (by omega) (by simp) (by simp) (by simp) (by simp)
  have HAL := Lib.hid fun (K : List Nat) s b1 b2 d1 d2 w' (g1 : Rd EDN w' b1 m.doors) (g2 : Rd EN w' b2 K) (hK : K.length = m.size) (hK6 : ∀ k ∈ K, k ≤ 63) (hs : s ≤ 63) => atLast_any m.size m.doors K s b1 b2 d1 d2 w' g1 g2 hdd hsz hsp (by omega) hK hK6 hs
  have H3 := Lib.hid h3
  have H4 := Lib.hid h4
  have HO6 : Hid (∀ x ∈ O, x < 6) := fun x hx => mem6 hN x (hO.mem_iff.1 hx)
  have HCHL := Lib.hid hCH
  have HCB := Lib.hid hCB
  have HPR := Lib.hid hO
  have HND := Lib.hid (mem_nodup' N)
  have HMEN := Lib.hid (HME.out N)
  obtain ⟨S, hS⟩ : ∃ S, S = (O.map upN).mergeSort fun x y => decide (x ≤ y) := ⟨_, rfl⟩
  rw [← hS] at HSO HEQ
  obtain ⟨L, hL⟩ : ∃ L, L = mem N := ⟨_, rfl⟩
  rw [← hL] at HMEN HEQ HPR hm6 hOl HND
  rw [← hL]
  obtain ⟨n, hnn⟩ : ∃ n, n = m.size := ⟨_, rfl⟩
  obtain ⟨ds, hds⟩ : ∃ ds, ds = m.doors := ⟨_, rfl⟩
  obtain ⟨ks, hks⟩ : ∃ ks, ks = m.keys := ⟨_, rfl⟩
  rw [← hnn, ← hds, ← hks] at HAS HLD
  rw [← hnn, ← hds] at HAL
  rw [← hnn] at hsz hsp
  rw [← hnn, ← hds, ← hks]
  rw [← hks, ← hnn] at hkl
  have HKL := Lib.hid hkl
  have HOL := Lib.hid hOl
  have hLl : L.length ≤ 6 := hm6
  have hOl6 : O.length ≤ 6 := by omega
  have tl : ((CH.length : Int) != (O.length : Int)) = false := by simp [hCH]
  clear hS hL hnn hds hks hg hm6 hml h1 h2 h3 h4 hO hCH hCB hm hdl hkl hdd hOl
  go_enter Try.func108, Try.ntmps108
  go_wp2_with fail
  have x0 : Ext w (w.alloc (.cells #[.int .i64 (n : Int), .slice a1 ds.length c1, .slice a2 ks.length c2] 30)) := (Ext.rf _).al _
  have hM0 : (w.alloc (.cells #[.int .i64 (n : Int), .slice a1 ds.length c1, .slice a2 ks.length c2] 30)).heap[w.heap.size]? = some (.cells #[.int .i64 (n : Int), .slice a1 ds.length c1, .slice a2 ks.length c2] 30 (0, 0)) := hp_at rfl
  refine (HAS.out _ x0).mono ?_
  rintro e w1 ⟨rfl, x1⟩
  go_wp2_with fail
  refine (HMEN.out _ (by omega)).mono ?_
  rintro e w2 ⟨lb, ld, rfl, oL, x2⟩
  go_wp2_with fail
  have xw := (x0.tr x1).tr x2
  have hM := x2.bk (x1.bk hM0)
  have hz : w.heap.size + 1 ≤ w1.heap.size := by have := x1.size; simp at this; omega
  have oL := oL.mono hz
  refine (HCL.out _ xw).mono ?_
  rintro e w3 ⟨sb, sd, rfl, oS, x3⟩
  go_wp2_with fail
  refine (HSO.out sb sd _ _ oS).mono ?_
  rintro e w4 ⟨rfl, oS4, t4⟩
  have hap : Apart sb lb := (Apart.older (fun p hp => (oL.blk p hp).2) (fun p hp => (oS.blk p hp).1)).symm
  have hM := t4.bk (x3.bk hM) (fun h => by have := inS_ge oS h; have := xw.size; have := x2.size; omega)
  have oL := t4.own (oL.ext x3) (fun p hp h => hap.inS p hp h)
  have xw := t4.ext (xw.tr x3) (fun k h => by have := inS_ge oS h; have := xw.size; omega)
  clear x0 x1 x2 x3 t4 oS hap hM0
  go_wp2_with fail
  refine (HEQ.out sb lb sd ld _ oS4.rd oL.rd.iUp).mono ?_
  rintro e w5 ⟨rfl, x5⟩
  have xw := xw.tr x5
  have hM := x5.bk hM
  have oL := oL.ext x5
  clear x5 oS4
  go_wp2_with fail
  refine (HCF.out _ xw).mono ?_
  rintro e w6 ⟨rfl, x6⟩
  have xw := xw.tr x6
  have hM := x6.bk hM
  have oL := oL.ext x6
  clear x6 hz
  obtain ⟨p0, p1, p2, _, _, _⟩ := blk3 hM
  have hmk : ∀ w', Sem.run Try.prog (Instr.makeSlice 23 (.int .i64 (L.length : Int)) (.int .i64 (L.length : Int))) w' = .ok (.slice (some ⟨w'.heap.size, 0, none⟩) L.length L.length) (w'.alloc (.cells (Array.replicate L.length (.int .i64 0)) 3)) := fun w' => run_makeN L.length (by omega) w'
  go_wp2_with fail
  go_cut [14, 15] from 16 (fun p o W => ∃ nb kb b1 d1 b2 d2, p = .pointer (some ⟨nb, 0, none⟩) ∧ o = .slice (some ⟨kb, 0, none⟩) L.length L.length ∧ Fl0 w6 W 30 (.int .i64 (n : Int)) ds (layN ks.length [] []) L.length nb kb b1 d1 b2 d2 (layN ks.length [] []).length)
  case first =>
    obtain ⟨u0, u1, u2, _, _, _⟩ := blk3 (hp_old (o := (.cells (Array.replicate L.length (.int .i64 0)) 3)) hM)
    obtain ⟨u0, u1, u2, _, _, _⟩ := blk3 (hp_old (o := (.cells #[.int .i64 0, .slice none 0 0, .slice none 0 0] 30 (0, 0))) hM)
    obtain ⟨u0, u1, u2, _, _, _⟩ := blk3 (hp_old (o := (.cells (Array.replicate L.length (.int .i64 0)) 3)) (hp_old (o := (.cells #[.int .i64 0, .slice none 0 0, .slice none 0 0] 30 (0, 0))) hM))
    obtain ⟨u0, u1, u2, _, _, _⟩ := blk3 (hp_old (o := (.cells #[.int .i64 0, .slice none 0 0, .slice none 0 0] 30 (0, 0))) (hp_old (o := (.cells (Array.replicate L.length (.int .i64 0)) 3)) hM))
    have hm7 : L.length ≤ 1000 := by omega
    go_region_law (first
      | (refine step_call rfl _ _ rfl #[.agg #[.int .i64 (n : Int), .slice a1 ds.length c1, .slice a2 ks.length c2], .slice none 0 0, .slice none 0 0] (by simp [go_sem]) entersLaid4 (HLD.out _ (xw.tr (by (repeat (first | apply Ext.dr | apply Ext.al)); exact Ext.rf _))) ?_; rintro e w7 ⟨b1, d1, b2, d2, rfl, o1, o2, ap, x7⟩; refine ⟨_, rfl, ?_⟩; have x8 : Ext w6 w7 := Ext.tr (by (repeat (first | apply Ext.dr | apply Ext.al)); exact Ext.rf _) x7; have y0 := x8.cl p0; have y1 := x8.cl p1; have y2 := x8.cl p2; (first | (have hb : w7.heap[w6.heap.size + 1]? = some (.cells #[.int .i64 0, .slice none 0 0, .slice none 0 0] 30 (0, 0)) := boxC x7; obtain ⟨q0, q1, q2, r0, r1, r2⟩ := blk3 hb) | (have hb : w7.heap[w6.heap.size]? = some (.cells #[.int .i64 0, .slice none 0 0, .slice none 0 0] 30 (0, 0)) := boxB x7; obtain ⟨q0, q1, q2, r0, r1, r2⟩ := blk3 hb) | (have hb : w7.heap[w6.heap.size]? = some (.cells #[.int .i64 0, .slice none 0 0, .slice none 0 0] 30 (0, 0)) := boxA x7; obtain ⟨q0, q1, q2, r0, r1, r2⟩ := blk3 hb; have hb' := hp_old (o := (.cells (Array.replicate L.length (.int .i64 0)) 3)) hb; obtain ⟨q0', q1', q2', r0', r1', r2'⟩ := blk3 hb') | (have hb : (w7.alloc (.cells #[.int .i64 0, .slice none 0 0, .slice none 0 0] 30 (0, 0))).heap[w7.heap.size]? = some (.cells #[.int .i64 0, .slice none 0 0, .slice none 0 0] 30 (0, 0)) := hp_at rfl; have hb' : ((w7.alloc (.cells #[.int .i64 0, .slice none 0 0, .slice none 0 0] 30 (0, 0))).alloc (.cells (Array.replicate L.length (.int .i64 0)) 3)).heap[w7.heap.size]? = some (.cells #[.int .i64 0, .slice none 0 0, .slice none 0 0] 30 (0, 0)) := hp_old hb; have hc : ((w7.alloc (.cells (Array.replicate L.length (.int .i64 0)) 3)).alloc (.cells #[.int .i64 0, .slice none 0 0, .slice none 0 0] 30 (0, 0))).heap[w7.heap.size + 1]? = some (.cells #[.int .i64 0, .slice none 0 0, .slice none 0 0] 30 (0, 0)) := boxC' w7 _ _; obtain ⟨q0, q1, q2, r0, r1, r2⟩ := blk3 hb; obtain ⟨q0', q1', q2', r0', r1', r2'⟩ := blk3 hb'; obtain ⟨q0', q1', q2', r0', r1', r2'⟩ := blk3 hc)))
      | fail)
    · simp only [Act.put, List.getElem_toArray, List.getElem_cons_succ, List.getElem_cons_zero, List.setIfInBounds_toArray, List.set_cons_succ, List.set_cons_zero]
      go_wp2
      go_meet
      case rel => exact ⟨_, _, b1, d1, b2, d2, rfl, rfl, Fl0.s1 o1 o2 ap hm7 x7 x8⟩
    · simp only [Act.put, List.getElem_toArray, List.getElem_cons_succ, List.getElem_cons_zero, List.setIfInBounds_toArray, List.set_cons_succ, List.set_cons_zero]
      go_wp2
      go_meet
      case rel => exact ⟨_, _, b1, d1, b2, d2, rfl, rfl, Fl0.s2 o1 o2 ap hm7 x7 x8⟩
    · simp only [Act.put, List.getElem_toArray, List.getElem_cons_succ, List.getElem_cons_zero, List.setIfInBounds_toArray, List.set_cons_succ, List.set_cons_zero]
      go_wp2
      go_meet
      case rel => exact ⟨_, _, b1, d1, b2, d2, rfl, rfl, Fl0.s2 o1 o2 ap hm7 x7 x8⟩
    · simp only [Act.put, List.getElem_toArray, List.getElem_cons_succ, List.getElem_cons_zero, List.setIfInBounds_toArray, List.set_cons_succ, List.set_cons_zero]
      go_wp2
      go_meet
      case rel => exact ⟨_, _, b1, d1, b2, d2, rfl, rfl, Fl0.s3 o1 o2 ap hm7 x7 x8⟩
    · simp only [Act.put, List.getElem_toArray, List.getElem_cons_succ, List.getElem_cons_zero, List.setIfInBounds_toArray, List.set_cons_succ, List.set_cons_zero]
      go_wp2
      go_meet
      case rel => exact ⟨_, _, b1, d1, b2, d2, rfl, rfl, Fl0.s4 o1 o2 ap hm7 x7 x8⟩
    · simp only [Act.put, List.getElem_toArray, List.getElem_cons_succ, List.getElem_cons_zero, List.setIfInBounds_toArray, List.set_cons_succ, List.set_cons_zero]
      go_wp2
      go_meet
      case rel => exact ⟨_, _, b1, d1, b2, d2, rfl, rfl, Fl0.s5 o1 o2 ap hm7 x7 x8⟩
    · simp only [Act.put, List.getElem_toArray, List.getElem_cons_succ, List.getElem_cons_zero, List.setIfInBounds_toArray, List.set_cons_succ, List.set_cons_zero]
      go_wp2
      go_meet
      case rel => exact ⟨_, _, b1, d1, b2, d2, rfl, rfl, Fl0.s6 o1 o2 ap hm7 x7 x8⟩
    · simp only [Act.put, List.getElem_toArray, List.getElem_cons_succ, List.getElem_cons_zero, List.setIfInBounds_toArray, List.set_cons_succ, List.set_cons_zero]
      go_wp2
      go_meet
      case rel => exact ⟨_, _, b1, d1, b2, d2, rfl, rfl, Fl0.s7 o1 o2 ap hm7 x7 x8⟩
    · simp only [Act.put, List.getElem_toArray, List.getElem_cons_succ, List.getElem_cons_zero, List.setIfInBounds_toArray, List.set_cons_succ, List.set_cons_zero]
      go_wp2
      go_meet
      case rel => exact ⟨_, _, b1, d1, b2, d2, rfl, rfl, Fl0.s3 o1 o2 ap hm7 x7 x8⟩
    · simp only [Act.put, List.getElem_toArray, List.getElem_cons_succ, List.getElem_cons_zero, List.setIfInBounds_toArray, List.set_cons_succ, List.set_cons_zero]
      go_wp2
      go_meet
      case rel => exact ⟨_, _, b1, d1, b2, d2, rfl, rfl, Fl0.s4 o1 o2 ap hm7 x7 x8⟩
    · simp only [Act.put, List.getElem_toArray, List.getElem_cons_succ, List.getElem_cons_zero, List.setIfInBounds_toArray, List.set_cons_succ, List.set_cons_zero]
      go_wp2
      go_meet
      case rel => exact ⟨_, _, b1, d1, b2, d2, rfl, rfl, Fl0.s4 o1 o2 ap hm7 x7 x8⟩
    · simp only [Act.put, List.getElem_toArray, List.getElem_cons_succ, List.getElem_cons_zero, List.setIfInBounds_toArray, List.set_cons_succ, List.set_cons_zero]
      go_wp2
      go_meet
      case rel => exact ⟨_, _, b1, d1, b2, d2, rfl, rfl, Fl0.s5 o1 o2 ap hm7 x7 x8⟩
    · simp only [Act.put, List.getElem_toArray, List.getElem_cons_succ, List.getElem_cons_zero, List.setIfInBounds_toArray, List.set_cons_succ, List.set_cons_zero]
      go_wp2
      go_meet
      case rel => exact ⟨_, _, b1, d1, b2, d2, rfl, rfl, Fl0.s6 o1 o2 ap hm7 x7 x8⟩
    · simp only [Act.put, List.getElem_toArray, List.getElem_cons_succ, List.getElem_cons_zero, List.setIfInBounds_toArray, List.set_cons_succ, List.set_cons_zero]
      go_wp2
      go_meet
      case rel => exact ⟨_, _, b1, d1, b2, d2, rfl, rfl, Fl0.s7 o1 o2 ap hm7 x7 x8⟩
    · simp only [Act.put, List.getElem_toArray, List.getElem_cons_succ, List.getElem_cons_zero, List.setIfInBounds_toArray, List.set_cons_succ, List.set_cons_zero]
      go_wp2
      go_meet
      case rel => exact ⟨_, _, b1, d1, b2, d2, rfl, rfl, Fl0.s7 o1 o2 ap hm7 x7 x8⟩
  case rest =>
    clear p0 p1 p2 hmk
    obtain ⟨nb, kb, b1, d1, b2, d2, rfl, rfl, hf⟩ := hcut
    have hll : (layN ks.length [] []).length = ks.length := layN_len _ _ _
    have HK0 : layN ks.length [] [] = layN n O (fillY ds n O CH h0 0) := by rw [HKL.out]; rfl
    rw [hll, HK0] at hf
    have hO0 := byColK_zero L O (fillY ds n O CH h0 O.length)
    clear hll HK0
    have hfd : ∀ (x y : Int) (w' : World), Sem.run Try.prog (Instr.field 172 (.agg #[.int .i64 x, .int .i64 y]) 1) w' = .ok (.int .i64 y) w' := fun _ _ _ => by kernel_rfl
    have HIX := Lib.hid fun v (hv : v ∈ L) b d w' (g : Rd EN w' b L) => index_any L HND.out v hv (by omega) b d w' g
    obtain ⟨hB, hnl, hkl0, o1, o2, oR, hne, hap, hap1, hap2, hx⟩ := hf
    rw [← hO0] at oR
    have HAP1 := Lib.hid hap1
    have HAP2 := Lib.hid hap2
    have HAP := Lib.hid hap
    have HNE := Lib.hid hne
    have HOX := Lib.hid oL
    have HXW := Lib.hid xw
    clear hO0 hap hap1 hap2 hne oL xw hM HAS HCL HSO HEQ HCF HLD HMEN tl
    go_wp2_with fail
    go_loopw [52, 2] (fun i h wr => ∃ k : Nat, k ≤ O.length ∧ i = .int .i64 (k : Int) ∧ h = .int .i64 (handAt h0 O k : Nat) ∧ wr.heap[nb]? = some (.cells #[.int .i64 (n : Int), .slice b1 ds.length d1, .slice b2 ks.length d2] 30 (0, 0)) ∧ Own EDN 140 wr w6.heap.size b1 d1 ds ∧ Own EN 3 wr w6.heap.size b2 d2 (layN n O (fillY ds n O CH h0 k)) ∧ Own EN 3 wr w6.heap.size (some ⟨kb, 0, none⟩) L.length (byColK L O (fillY ds n O CH h0 O.length) k) ∧ Ext w6 wr) (fun i _ _ => O.length - (intOf i).toNat)
    case atStart => exact ⟨0, by omega, rfl, rfl, hB, o1, o2, oR, hx⟩
    case round =>
      clear hB o1 o2 oR hx
      obtain ⟨k, hk, rfl, rfl, hB, o1, o2, oR, hx⟩ := hrel
      have hYl := fillY_len ds n O CH h0 k
      by_cases hlt : k < O.length
      · have HY := Lib.hid (fillY_succ ds n O CH h0 k)
        have hYn := fillY_lt ds n O CH h0 k hsp
        have HHA := Lib.hid (handAt_succ h0 O k hlt)
        have hhl := handAt_le h0 O k
        have hhl2 := handAt_le h0 O (k + 1)
        have HPX := Lib.hid (fillY_prefix ds n O CH h0 O.length (k + 1) hlt)
        have HBK := Lib.hid (byColK_succ L O (fillY ds n O CH h0 O.length) k hlt)
        have hBl := byColK_len L O (fillY ds n O CH h0 O.length) k (by omega)
        obtain ⟨YF, hYF⟩ : ∃ YF, YF = fillY ds n O CH h0 O.length := ⟨_, rfl⟩
        rw [← hYF] at HPX HBK hBl oR
        rw [← hYF]
        clear hYF
        obtain ⟨Y, hYY⟩ : ∃ Y, Y = fillY ds n O CH h0 k := ⟨_, rfl⟩
        rw [← hYY] at HY hYl o2 hYn
        have HYn := Lib.hid hYn
        have HYl := Lib.hid hYl
        clear hYY hYn
        obtain ⟨BK, hBK⟩ : ∃ BK, BK = byColK L O YF k := ⟨_, rfl⟩
        rw [← hBK] at HBK hBl oR
        clear hBK
        obtain ⟨ob, oo, rfl, hoc⟩ := (H3.out.ext (HXW.out.tr hx)).n (by omega)
        have q1 := hoc k hlt
        have hoL : O[k] ∈ L := HPR.out.mem_iff.1 (List.getElem_mem hlt)
        have ho6 := HO6.out O[k] (List.getElem_mem hlt)
        clear hoc
        have hchl : k < CH.length := by rw [HCHL.out]; exact hlt
        obtain ⟨cb, co, rfl, hcc⟩ := (H4.out.ext (HXW.out.tr hx)).n (by omega)
        have q2 := hcc k hchl
        have hcb := HCB.out CH[k] (List.getElem_mem hchl)
        clear hcc
        have HCG : Hid (CH.getD k 0 = CH[k]) := by show _ = _; rw [List.getD_eq_getElem?_getD, List.getElem?_eq_getElem hchl]; rfl
        have HOG : Hid (O.getD k 0 = O[k]) := by show _ = _; rw [List.getD_eq_getElem?_getD, List.getElem?_eq_getElem hlt]; rfl
        have hplt := plc_lt hoL
        obtain ⟨y, hy⟩ : ∃ y, y = O[k] := ⟨_, rfl⟩
        rw [← hy] at q1 ho6 HHA hoL HOG HBK
        simp only [← hy] at hplt
        obtain ⟨z, hz⟩ : ∃ z, z = CH[k] := ⟨_, rfl⟩
        rw [← hz] at q2 hcb HCG
        obtain ⟨hd0, hhd⟩ : ∃ hd0, hd0 = handAt h0 O k := ⟨_, rfl⟩
        rw [← hhd] at HHA hhl
        rw [← hhd]
        obtain ⟨hd1, hhd1⟩ : ∃ hd1, hd1 = handAt h0 O (k + 1) := ⟨_, rfl⟩
        rw [← hhd1] at HHA HY hhl2
        have HH1 := Lib.hid hhd1
        have hp6 : 2 ^ y ≤ 2 ^ 6 := Nat.pow_le_pow_right (by decide) (by omega)
        have hBits : bits BinOp.andNot IntKind.i64 (hd0 : Int) (wrap64 ((2 : Int) ^ y)) = (hd1 : Int) := by
          rw [wrap_pow y (by omega), bandNot_nat hd0 (2 ^ y) (by omega) (by omega), HHA.out]
        clear hy hz hhd hhd1 hp6
        obtain ⟨FR, hFR⟩ : ∃ FR, FR = freeL ds n (layN n O Y) hd1 := ⟨_, rfl⟩
        have hFp : 0 < FR.length := by rw [hFR]; exact free_pos _ _ _ _ hsp
        have hFlt : ∀ x ∈ FR, x < n := by rw [hFR]; exact free_lt _ _ _ _
        have hF12 : FR.length ≤ 12 := by
          rw [hFR]
          unfold freeL
          rw [← mem_rN ds n _ 0 (by omega)]
          exact Nat.le_trans (mem_len_le (rN_lt ds n _ 0) (by omega)) (by omega)
        have HFR : Hid (mem (rN ds n (clos ds n (layN n O Y) hd1) 0) = FR) := by show _ = _; rw [mem_rN ds n _ 0 (by omega), hFR]; rfl
        rw [← hFR] at HY
        have hrn : rN ds n (clos ds n (layN n O Y) hd1) 0 < 2 ^ 60 := Nat.lt_of_lt_of_le (rN_lt ds n _ 0) (Nat.pow_le_pow_right (by decide) (by omega))
        clear hFR
        have hmod : (z : Int) % (FR.length : Int) = ((z % FR.length : Nat) : Int) := (Int.natCast_emod z FR.length).symm
        have hm0 : 0 ≤ (z : Int) % (FR.length : Int) := by rw [hmod]; omega
        have hm1 : (z : Int) % (FR.length : Int) < (FR.length : Int) := by rw [hmod]; have := Nat.mod_lt z hFp; omega
        have hm2 : ((z : Int) % (FR.length : Int)).toNat = z % FR.length := by rw [hmod]; omega
        clear hmod
        have hmlt : z % FR.length < FR.length := Nat.mod_lt _ hFp
        have HGF : Hid (FR.getD (z % FR.length) 0 = FR[z % FR.length]) := by show _ = _; rw [List.getD_eq_getElem?_getD, List.getElem?_eq_getElem hmlt]; rfl
        have hKl : (layN n O Y).length = n := layN_len _ _ _
        have hK6 := layN_le n O Y HO6.out
        obtain ⟨CS, hCS⟩ : ∃ CS, CS = clos ds n (layN n O Y) hd1 := ⟨_, rfl⟩
        obtain ⟨RN, hRN⟩ : ∃ RN, RN = rN ds n CS 0 := ⟨_, rfl⟩
        have HAK := HAL.out (layN n O Y) hd1 b1 b2 d1 d2 wr o1.rd o2.rd hKl hK6 (by omega)
        rw [← hCS, ← hRN, hKl.trans HKL.out.symm] at HAK
        rw [← hCS, ← hRN] at HFR hrn
        clear hCS hRN
        obtain ⟨KK, hKK⟩ : ∃ KK, KK = layN n O Y := ⟨_, rfl⟩
        have HKK := Lib.hid hKK
        rw [← hKK] at hKl hK6 o2
        clear hKK
        have HKl := Lib.hid hKl
        have HK6 := Lib.hid hK6
        have HAKH := Lib.hid HAK
        clear HAK hKl hK6
        obtain ⟨hO0, hO1, hO2, _, _, _⟩ := blk3 hB
        go_wp2_with fail
        refine HAKH.out.mono ?_
        rintro e w7 ⟨rfl, x7⟩
        go_wp2_with fail
        refine (HME.out RN _ hrn).mono ?_
        rintro e w8 ⟨fb, fd, rfl, oF, x8⟩
        rw [HFR.out] at oF
        rw [HFR.out]
        have x78 := x7.tr x8
        have hx := hx.tr x78
        have o1 := o1.ext x78
        have o2 := o2.ext x78
        have oR := oR.ext x78
        have hB := x78.bk hB
        have q2 := x78.cl q2
        obtain ⟨fb', fo, rfl, hfc⟩ := oF.rd.n hFp
        have q3 := hfc _ hmlt
        have hvn := hFlt _ (List.getElem_mem hmlt)
        obtain ⟨v, hv⟩ : ∃ v, v = FR[z % FR.length] := ⟨_, rfl⟩
        rw [← hv] at q3 HGF hvn
        clear hv hfc hFlt x7 x8 x78 oF hO0 hO1 hO2 HAKH q1 hrn
        have HFl := Lib.hid hFp
        obtain ⟨hO0, hO1, hO2, _, _, _⟩ := blk3 hB
        have hvk : v < KK.length := by rw [HKl.out]; exact hvn
        obtain ⟨g, off, hbe, hg1, hg2, hcell, hfz⟩ := o2.nAt v hvk
        have hkk : v < ks.length := by rw [HKL.out]; exact hvn
        have hK63 := HK6.out KK[v] (List.getElem_mem hvk)
        have HY2 : Hid (layN n O (fillY ds n O CH h0 (k + 1)) = KK.set v (KK[v] ||| 2 ^ y)) := by
          show _ = _
          rw [HY.out, HCG.out, HGF.out, layN_snoc, HYl.out, ← HKK.out]
          unfold layS
          simp only [List.getD_eq_getElem?_getD]
          rw [List.getElem?_eq_getElem hvk, ← List.getD_eq_getElem?_getD, HOG.out]
          rfl
        have HB2 : Hid (byColK L O YF (k + 1) = BK.set (plc L y) v) := by
          show _ = _
          rw [HBK.out]
          have e1 : YF.getD k 0 = v := by
            have e2 : (YF.take (k + 1)).getD k 0 = v := by
              rw [HPX.out, HY.out, HCG.out, HGF.out]
              simp [List.getD_eq_getElem?_getD, HYl.out]
            rw [← e2]
            simp [List.getD_eq_getElem?_getD, List.getElem?_take]
          rw [e1]
        obtain ⟨K, hK⟩ : ∃ K, K = KK[v] := ⟨_, rfl⟩
        rw [← hK] at hcell hK63 HY2
        clear hK
        subst hbe
        have hBo := or_pow K y (by omega) (by omega)
        have hgn := (HAP2.out _ rfl).1
        have hgk := (HAP2.out _ rfl).2
        clear HPR H3 H4 HPX HBK
        have HKV : Hid (v < KK.length) := hvk
        clear hvk
        go_wp2_with fail
        go_region
        have o3 := o2.setN v HKV.out (K ||| 2 ^ y)
        rw [← HY2.out] at o3
        have hx3 := (hx.cs (p := ⟨g, off + v, none⟩) hg1 (.int .i64 ((K ||| 2 ^ y : Nat) : Int))).dr
        have hB3 := heapDr (heapCs (p := ⟨g, off + v, none⟩) (u := .int .i64 ((K ||| 2 ^ y : Nat) : Int)) hB (Ne.symm hgn))
        have o13 := (o1.keptA (b := some ⟨g, off, none⟩) o3.2 HAP.out).dr
        have oR3 := (oR.keptA (b := some ⟨g, off, none⟩) o3.2 (by intro p q hp hq; cases hp; cases hq; exact Ne.symm hgk)).dr
        have o23 := o3.1.dr
        have HIY := Lib.hid (HIX.out y hoL lb ld _ (HOX.out.ext hx3).rd)
        have hpl2 : plc L y < BK.length := by rw [hBl]; exact hplt
        obtain ⟨g2, off2, hbe2, hg21, _, hcell2, hfz2⟩ := oR3.nAt (plc L y) hpl2
        cases hbe2
        have o5 := oR3.setN (plc L y) hpl2 v
        rw [← HB2.out] at o5
        have hP : (plc L y : Int) < (L.length : Int) := by omega
        obtain ⟨bv, hbv⟩ : ∃ bv, bv = BK[plc L y]'hpl2 := ⟨_, rfl⟩
        rw [← hbv] at hcell2
        clear hbv hpl2
        obtain ⟨PL, hPL⟩ : ∃ PL, PL = plc L y := ⟨_, rfl⟩
        rw [← hPL] at HIY hcell2 hfz2 o5 hP hplt
        clear hPL hcell hfz hB o1 o2 oR o3 hO0 hO1 hO2
        generalize (w8.setCell ⟨g, off + v, none⟩ (.int .i64 ((K ||| 2 ^ y : Nat) : Int))).drew = W9 at *
        rw [Nat.zero_add] at hcell2 hfz2 o5
        go_wp2_with fail
        refine HIY.out.mono ?_
        rintro e w9 ⟨rfl, rfl⟩
        go_wp2_with fail
        go_roundw
        case rel => exact ⟨k + 1, by omega, by go_num, by rw [HH1.out], heapCs hB3 HNE.out, o13.keptA (b := some ⟨kb, 0, none⟩) o5.2 (by intro p q hp hq; cases hq; exact (HAP1.out p hp).2), o23.keptA (b := some ⟨kb, 0, none⟩) o5.2 (by intro p q hp hq; cases hp; cases hq; exact hgk), o5.1, hx3.cs hkl0 _⟩
        case measure => simp [intOf]; omega
      · obtain rfl : k = O.length := by omega
        have HE := Lib.hid (byColK_all L O (fillY ds n O CH h0 O.length) HPR.out HND.out)
        have HLE : Hid (L.length = (byCol L O (fillY ds n O CH h0 O.length)).length) := by show _ = _; unfold byCol; rw [List.length_map]
        go_wp2_with fail
        go_ret2
        refine ⟨some ⟨kb, 0, none⟩, L.length, by rw [← HLE.out]; rfl, ?_, HXW.out.tr hx⟩
        rw [← HE.out]
        exact oR.mono HXW.out.size

end Go.Proofs.Ytkdncpglgdiicaa
