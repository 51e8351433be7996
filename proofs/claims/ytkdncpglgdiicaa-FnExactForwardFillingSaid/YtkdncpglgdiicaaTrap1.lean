/- The laws' own helpers on traps. -/
import Derived.Test.YtkdncpglgdiicaaGSw
namespace Go.Proofs.Ytkdncpglgdiicaa
open Go Go.RowKit Go.Sort

theorem blk4 {w : World} {b : Nat} {x y z v : Value} {t : TypeId} (h : w.heap[b]? = some (.cells #[x, y, z, v] t (0, 0))) :
    (w.cell? ⟨b, 0, none⟩ = some x ∧ w.cell? ⟨b, 1, none⟩ = some y ∧ w.cell? ⟨b, 2, none⟩ = some z ∧ w.cell? ⟨b, 3, none⟩ = some v) ∧ w.frozen? ⟨b, 0, none⟩ = false ∧ w.frozen? ⟨b, 1, none⟩ = false ∧ w.frozen? ⟨b, 2, none⟩ = false ∧ w.frozen? ⟨b, 3, none⟩ = false :=
  ⟨⟨cell_of_row w b 0 _ t _ h, cell_of_row w b 1 _ t _ h, cell_of_row w b 2 _ t _ h, cell_of_row w b 3 _ t _ h⟩, frozen_of_row w b 0 _ t h, frozen_of_row w b 1 _ t h, frozen_of_row w b 2 _ t h, frozen_of_row w b 3 _ t h⟩

/-- Only the blocks of a set may have turned; more may have come. -/
structure Tch (S : Nat → Prop) (w w' : World) : Prop where
  bel : Below 0 w w'
  blk : ∀ k, k < w.heap.size → ¬ S k → w'.heap[k]? = w.heap[k]?
/-- The slice's block. -/
def inS (a : Option Addr) (k : Nat) : Prop := ∃ p, a = some p ∧ p.block = k
theorem Tch.tr {S T : Nat → Prop} {a b c : World} (h : Tch S a b) (k : Tch T b c) : Tch (fun i => S i ∨ T i) a c :=
  ⟨h.bel.trans k.bel, fun i h1 h2 => (k.blk i (Nat.lt_of_lt_of_le h1 h.bel.size) (fun e => h2 (.inr e))).trans (h.blk i h1 (fun e => h2 (.inl e)))⟩
theorem Tch.mono {S T : Nat → Prop} {a b : World} (h : Tch S a b) (hs : ∀ k, S k → T k) : Tch T a b := ⟨h.bel, fun i h1 h2 => h.blk i h1 (fun e => h2 (hs i e))⟩
theorem Tch.ofExt {S : Nat → Prop} {a b : World} (h : Ext a b) : Tch S a b := ⟨h.mono (Nat.zero_le _), fun i h1 _ => h.block i h1⟩
theorem Turned.tch {a : Option Addr} {w w' : World} (t : Turned a w w') : Tch (inS a) w w' := by
  cases a with
  | none =>
    have m := t.2 0 0 (fun p hp => by cases hp)
    exact ⟨m.bel, fun k h1 _ => m.blk k h1 (Nat.zero_le _)⟩
  | some q =>
    have m := t.2 q.block (q.block + 1) (fun p hp => by cases hp; omega)
    refine ⟨m.bel.mono (Nat.zero_le _), fun k h1 h2 => ?_⟩
    have hne : k ≠ q.block := fun e => h2 ⟨q, rfl, e.symm⟩
    rcases Nat.lt_or_ge k q.block with h3 | h3
    · exact m.bel.block k h3
    · exact m.blk k h1 (by omega)
theorem Tch.mid {S : Nat → Prop} {w w' : World} (t : Tch S w w') {lo hi : Nat} (hlo : lo ≤ w.heap.size) (h : ∀ k, S k → lo ≤ k ∧ k < hi) : Mid lo hi w w' :=
  ⟨⟨t.bel.os, t.bel.tape, t.bel.output, t.bel.size, fun k hk => t.blk k (by omega) (fun e => by have := h k e; omega)⟩, fun k h1 h2 => t.blk k h1 (fun e => by have := h k e; omega)⟩
theorem Tch.own {α : Type} {E : Enc α} {e : TypeId} {S : Nat → Prop} {b : Option Addr} {w w' : World} {base c : Nat} {l : List α} (t : Tch S w w') (h : Own E e w base b c l) (hap : ∀ p, b = some p → ¬ S p.block) : Own E e w' base b c l := by
  rcases h with h | ⟨g, off, cur, rfl, hb, hg, r⟩
  · exact .inl h
  · exact .inr ⟨g, off, cur, rfl, hb, (t.blk g (lt_of_block hg) (hap _ rfl)).trans hg, r⟩
theorem Apart.inS {a b : Option Addr} (h : Apart a b) : ∀ p, b = some p → ¬ Go.Proofs.Ytkdncpglgdiicaa.inS a p.block := fun p hp ⟨q, hq, e⟩ => h q p hq hp e

theorem Tch.ext {S : Nat → Prop} {w a b : World} (h : Ext w a) (t : Tch S a b) (hs : ∀ k, S k → w.heap.size ≤ k) : Ext w b :=
  ⟨t.bel.os.trans h.os, t.bel.tape.trans h.tape, t.bel.output.trans h.output, Nat.le_trans h.size t.bel.size, fun k hk => (t.blk k (Nat.lt_of_lt_of_le hk h.size) (fun e => by have := hs k e; omega)).trans (h.block k hk)⟩
theorem Tch.bk {S : Nat → Prop} {a b : World} (t : Tch S a b) {k : Nat} {o : Obj} (h : a.heap[k]? = some o) (hs : ¬ S k) : b.heap[k]? = some o := (t.blk k (lt_of_block h) hs).trans h
theorem inS_ge {α : Type} {E : Enc α} {e : TypeId} {w : World} {base c : Nat} {a : Option Addr} {l : List α} (h : Own E e w base a c l) {k : Nat} (hk : inS a k) : base ≤ k := by
  obtain ⟨p, hp, rfl⟩ := hk
  exact (h.blk p hp).1

theorem markMaze_tch (sz : Int) (l1 : List Door) (l2 : List Int) (k : Int) (a1 a2 : Option Addr) (c1 c2 base : Nat) (w : World) (h1 : Own ED 140 w base a1 c1 l1) (h2 : Own EI 3 w base a2 c2 l2) (hap : Apart a1 a2) (hl1 : l1.length ≤ 100000000) (hl2 : l2.length ≤ 100000000) (hk0 : 0 ≤ k) (hk1 : k ≤ 100000000000) :
    Calls Try.prog 20 #[.agg #[.int .i64 sz, .slice a1 l1.length c1, .slice a2 l2.length c2], .int .i64 k] w fun e w' => e = .returned (.int .i64 (k + 3 * l1.length + l2.length)) ∧ Own ED 140 w' base a1 c1 (mkD k l1.length) ∧ Own EI 3 w' base a2 c2 (mkI (k + 3 * l1.length) l2.length) ∧ Tch (fun i => inS a1 i ∨ inS a2 i) w w' := by
  have HAP := Lib.hid hap
  clear hap
  go_enter Try.func20, Try.ntmps20
  go_wp2_with fail
  have hM : (w.alloc (.cells #[.int .i64 sz, .slice a1 l1.length c1, .slice a2 l2.length c2] 30)).heap[w.heap.size]? = some (.cells #[.int .i64 sz, .slice a1 l1.length c1, .slice a2 l2.length c2] 30 (0, 0)) := hp_at rfl
  refine (markIntA3S_any l1 k a1 c1 base _ (h1.al _) (by omega) hk0 (by omega)).mono ?_
  rintro e w1 ⟨rfl, o1, t1⟩
  have hM1 := (t1.tch.blk w.heap.size (by simp) (fun ⟨p, hp, e⟩ => by have := (h1.blk p hp).2; omega)).trans hM
  obtain ⟨_, _, q2, _, _, _⟩ := blk3 hM1
  have o2 : Own EI 3 w1 base a2 c2 l2 := t1.own (h2.al _) HAP.out
  have T1 := Lib.hid t1.tch
  clear t1 hM1 hM
  go_wp2_with fail
  refine (markIntS_any l2 (k + 3 * l1.length) a2 c2 base _ o2 (by omega) (by omega) (by omega)).mono ?_
  rintro e w2 ⟨rfl, o3, t2⟩
  have o4 := t2.own o1 HAP.out.symm
  have T2 := Lib.hid t2.tch
  clear t2 o1 o2
  go_wp2_with fail
  go_ret
  exact ⟨rfl, o4, o3, ((Tch.ofExt (S := fun _ => False) ((Ext.rf w).al _)).tr (T1.out.tr T2.out)).mono (fun k h => by rcases h with h | h; exact h.elim; exact h)⟩

set_option maxRecDepth 100000 in
theorem heldIntA3S_any (n : Nat) (k : Int) (a : Option Addr) (c : Nat) (w : World) (h1 : Rd ED w a (mkD k n)) (hl : n ≤ 1000000000) (hk0 : 0 ≤ k) (hk1 : k ≤ 1000000000000) :
    Calls Try.prog 139 #[.slice a n c, .int .i64 k] w fun e w' => e = .returned (.int .i64 (k + 3 * n)) ∧ w = w' := by
  go_enter Try.func139, Try.ntmps139
  go_wp2_with fail
  go_loop [5, 1] (fun i kk => ∃ j : Nat, j ≤ n ∧ i = .int .i64 j ∧ kk = .int .i64 (k + 3 * (j : Int))) (fun i _ => n - (intOf i).toNat)
  case atStart => exact ⟨0, by omega, rfl, by simp⟩
  case round =>
    obtain ⟨j, hj, rfl, rfl⟩ := hrel
    by_cases hlt : j < n
    · obtain ⟨b, o, rfl, hc⟩ := h1.d (by rw [mkD_len]; omega)
      obtain ⟨q1, q2, q3⟩ := hc j (by rw [mkD_len]; exact hlt)
      have e1 : (mkD k n)[j]'(by rw [mkD_len]; exact hlt) = (k + 3 * (j : Int), k + 3 * (j : Int) + 1, k + 3 * (j : Int) + 1 + 1) := by simp [mkD]
      rw [e1] at q1 q2 q3
      clear hc e1
      go_wp2_with fail
      refine wp_loop_rounds 4 ?_
      iterate 4
        try simp only [rounds_succ]
        go_wp2_with fail
      go_round
      case rel => exact ⟨j + 1, by omega, by go_num, by go_num⟩
      case measure => simp [intOf]; omega
    · have hjl : (j : Int) = (n : Int) := by omega
      go_wp2_with fail
      go_ret
      exact ⟨ret_int (by omega), rfl⟩

theorem heldMaze_any (sz : Int) (n1 n2 : Nat) (k : Int) (a1 a2 : Option Addr) (c1 c2 : Nat) (w : World) (h1 : Rd ED w a1 (mkD k n1)) (h2 : Rd EI w a2 (mkI (k + 3 * n1) n2)) (hl1 : n1 ≤ 100000000) (hl2 : n2 ≤ 100000000) (hk0 : 0 ≤ k) (hk1 : k ≤ 100000000000) :
    Calls Try.prog 83 #[.agg #[.int .i64 sz, .slice a1 n1 c1, .slice a2 n2 c2], .int .i64 k] w fun e w' => e = .returned (.int .i64 (k + 3 * n1 + n2)) ∧ Ext w w' := by
  go_enter Try.func83, Try.ntmps83
  go_wp2_with fail
  refine (heldIntA3S_any n1 k a1 c1 _ (h1.ext ((Ext.rf _).al _)) (by omega) hk0 (by omega)).mono ?_
  rintro e w1 ⟨rfl, rfl⟩
  go_wp2_with fail
  refine (heldIntS_any n2 (k + 3 * n1) a2 c2 _ (h2.ext ((Ext.rf _).al _)) (by omega) (by omega) (by omega)).mono ?_
  rintro e w1 ⟨rfl, rfl⟩
  go_wp2_with fail
  go_ret
  exact ⟨rfl, (Ext.rf _).al _⟩

def szT (n1 n2 n3 : Nat) (left : Int) : Int := if szM n1 n2 left < 0 then -1 else szI n3 (szM n1 n2 left)
theorem szT_pos {n1 n2 n3 : Nat} {left : Int} (h : 0 ≤ szT n1 n2 n3 left) : szT n1 n2 n3 left = left - n1 - n2 - n3 := by
  unfold szT at *
  split at h
  · omega
  · rename_i h1
    rw [if_neg h1, szI_pos h, szM_pos (by omega)]
theorem szTrap_any (sz : Int) (n1 n2 n3 : Nat) (left : Int) (a1 a2 a3 : Option Addr) (c1 c2 c3 : Nat) (w : World) (hn1 : n1 ≤ 9223372036854775807) (hn2 : n2 ≤ 9223372036854775807) (hn3 : n3 ≤ 9223372036854775807) (h1 : -1 ≤ left) (h2 : left ≤ 1000000000000) :
    Calls Try.prog 24 #[.agg #[.int .i64 sz, .slice a1 n1 c1, .slice a2 n2 c2, .slice a3 n3 c3], .int .i64 left] w fun e w' => e = .returned (.int .i64 (szT n1 n2 n3 left)) ∧ Ext w w' := by
  have g1 := szM_ge n1 n2 left
  have g2 := szM_le n1 n2 left h1
  have g3 := szI_ge n3 (szM n1 n2 left)
  have HM : Hid (szT n1 n2 n3 left = if szM n1 n2 left < 0 then -1 else szI n3 (szM n1 n2 left)) := by show _ = _; rfl
  have HA := Lib.hid fun w' => szMaze_any sz n1 n2 left a1 a2 c1 c2 w' hn1 hn2 h1 h2
  have HB := Lib.hid fun w' => szIntS_any n3 (szM n1 n2 left) a3 c3 w' hn3 g1 (by omega)
  obtain ⟨z, hz⟩ : ∃ z, z = szM n1 n2 left := ⟨_, rfl⟩
  rw [← hz] at g1 g2 g3 HM HA HB
  clear hz
  by_cases hs : z < 0
  · go_enter Try.func24, Try.ntmps24
    go_wp2_with fail
    refine (HA.out _).mono ?_
    rintro e w1 ⟨rfl, x1⟩
    go_wp2_with fail
    go_ret
    exact ⟨ret_int (by rw [HM.out, if_pos hs]), ((Ext.rf _).al _).tr x1⟩
  · obtain ⟨y, hy⟩ : ∃ y, y = szI n3 z := ⟨_, rfl⟩
    rw [← hy] at g3 HM HB
    clear hy
    by_cases hs2 : y < 0
    all_goals
      go_enter Try.func24, Try.ntmps24
      go_wp2_with fail
      refine (HA.out _).mono ?_
      rintro e w1 ⟨rfl, x1⟩
      obtain ⟨⟨_, _, _, p3⟩, _⟩ := blk4 (x1.bk (hp_at rfl : (w.alloc (.cells #[.int .i64 sz, .slice a1 n1 c1, .slice a2 n2 c2, .slice a3 n3 c3] 41)).heap[w.heap.size]? = _))
      go_wp2_with fail
      refine (HB.out _).mono ?_
      rintro e w2 ⟨rfl, rfl⟩
      go_wp2_with fail
      go_ret
      exact ⟨ret_int (by rw [HM.out, if_neg (by omega)]; (try omega)), ((Ext.rf _).al _).tr x1⟩

set_option maxRecDepth 100000 in
set_option maxHeartbeats 1000000 in
theorem toTrap_any (m : Mz) (l : List Int) (a1 a2 a3 : Option Addr) (c1 c2 c3 : Nat) (w : World) (h1 : Rd ED w a1 m.doors) (h2 : Rd EI w a2 m.keys) (h3 : Rd EI w a3 l) (hl : m.doors.length ≤ 100000000) (hl2 : m.keys.length ≤ 100000000) (hl3 : l.length ≤ 100000000) :
    Calls Try.prog 26 #[.agg #[.int .i64 m.size, .slice a1 m.doors.length c1, .slice a2 m.keys.length c2, .slice a3 l.length c3]] w fun e w' => ∃ b1 d1 b2 d2 b3 d3, e = .returned (.agg #[.int .i64 m.size, .slice b1 m.doors.length d1, .slice b2 m.keys.length d2, .slice b3 l.length d3]) ∧ Own ED 140 w' w.heap.size b1 d1 m.doors ∧ Own EI 3 w' w.heap.size b2 d2 m.keys ∧ Own EI 3 w' w.heap.size b3 d3 l ∧ Apart b1 b2 ∧ Apart b1 b3 ∧ Apart b2 b3 ∧ Ext w w' := by
  have HTM := Lib.hid fun w' (hx : Ext w w') => toMaze_any m a1 a2 c1 c2 w' (h1.ext hx) (h2.ext hx) hl hl2
  have HTI := Lib.hid fun w' (hx : Ext w w') => toIntS_any l a3 c3 w' (h3.ext hx) hl3
  obtain ⟨sz, ds, ks⟩ := m
  simp only at HTM hl hl2
  show Calls _ _ #[.agg #[.int .i64 sz, .slice a1 ds.length c1, .slice a2 ks.length c2, .slice a3 l.length c3]] _ fun e w' => ∃ b1 d1 b2 d2 b3 d3, e = .returned (.agg #[.int .i64 sz, .slice b1 ds.length d1, .slice b2 ks.length d2, .slice b3 l.length d3]) ∧ Own ED 140 w' w.heap.size b1 d1 ds ∧ Own EI 3 w' w.heap.size b2 d2 ks ∧ Own EI 3 w' w.heap.size b3 d3 l ∧ Apart b1 b2 ∧ Apart b1 b3 ∧ Apart b2 b3 ∧ Ext w w'
  clear h1 h2 h3
  go_enter Try.func26, Try.ntmps26
  go_wp2_with fail
  have x0 : Ext w (((w.alloc (.cells #[.int .i64 sz, .slice a1 ds.length c1, .slice a2 ks.length c2, .slice a3 l.length c3] 41)).alloc (.cells #[.int .i64 0, .slice none 0 0, .slice none 0 0, .slice none 0 0] 44)).alloc (.cells #[.int .i64 0, .slice none 0 0, .slice none 0 0, .slice none 0 0] 44)) := (((Ext.rf _).al _).al _).al _
  refine (HTM.out _ x0).mono ?_
  rintro e w1 ⟨b1, d1, b2, d2, rfl, o1, o2, ap, x1⟩
  have hA : w1.heap[w.heap.size]? = some (.cells #[.int .i64 sz, .slice a1 ds.length c1, .slice a2 ks.length c2, .slice a3 l.length c3] 41 (0, 0)) := x1.bk (hp_old (hp_old (hp_at rfl)))
  have hR : w1.heap[w.heap.size + 1]? = some (.cells #[.int .i64 0, .slice none 0 0, .slice none 0 0, .slice none 0 0] 44 (0, 0)) := x1.bk (hp_old (hp_at (by simp)))
  have hO : w1.heap[w.heap.size + 1 + 1]? = some (.cells #[.int .i64 0, .slice none 0 0, .slice none 0 0, .slice none 0 0] 44 (0, 0)) := x1.bk (hp_at (by simp))
  have hz : w.heap.size + 3 ≤ w1.heap.size := by have h5 := x1.size; simp at h5; omega
  have o1 := o1.mono (by simp : w.heap.size + 3 ≤ _)
  have o2 := o2.mono (by simp : w.heap.size + 3 ≤ _)
  have xw := x0.tr x1
  have AP := Lib.hid ap
  clear x0 x1 ap
  obtain ⟨⟨_, _, _, p3⟩, _⟩ := blk4 hA
  obtain ⟨⟨q0, q1, q2, q3⟩, g0, g1, g2, g3⟩ := blk4 hO
  go_wp2_with fail
  obtain ⟨W1, hW1⟩ : ∃ W1, W1 = ((w1.setCell ⟨w.heap.size + 1 + 1, 0, none⟩ (.int .i64 sz)).setCell ⟨w.heap.size + 1 + 1, 1, none⟩ (.slice b1 ds.length d1)).setCell ⟨w.heap.size + 1 + 1, 2, none⟩ (.slice b2 ks.length d2) := ⟨_, rfl⟩
  rw [← hW1]
  have hR : W1.heap[w.heap.size + 1]? = some (.cells #[.int .i64 0, .slice none 0 0, .slice none 0 0, .slice none 0 0] 44 (0, 0)) := by rw [hW1]; exact heapCs (heapCs (heapCs hR (by show w.heap.size + 1 ≠ w.heap.size + 1 + 1; omega)) (by show w.heap.size + 1 ≠ w.heap.size + 1 + 1; omega)) (by show w.heap.size + 1 ≠ w.heap.size + 1 + 1; omega)
  have hO : W1.heap[w.heap.size + 1 + 1]? = some (.cells #[.int .i64 sz, .slice b1 ds.length d1, .slice b2 ks.length d2, .slice none 0 0] 44 (0, 0)) := by
    rw [hW1]
    have h5 := heap_setCell_same _ (w.heap.size + 1 + 1) 0 _ _ (.int .i64 sz) hO
    have h6 := heap_setCell_same _ (w.heap.size + 1 + 1) 1 _ _ (.slice b1 ds.length d1) h5
    have h7 := heap_setCell_same _ (w.heap.size + 1 + 1) 2 _ _ (.slice b2 ks.length d2) h6
    simpa using h7
  have xw : Ext w W1 := by rw [hW1]; exact ((xw.cs (by show w.heap.size ≤ w.heap.size + 1 + 1; omega) _).cs (by show w.heap.size ≤ w.heap.size + 1 + 1; omega) _).cs (by show w.heap.size ≤ w.heap.size + 1 + 1; omega) _
  have o1 : Own ED 140 W1 (w.heap.size + 3) b1 d1 ds := by rw [hW1]; exact ((o1.cs (by show w.heap.size + 1 + 1 < w.heap.size + 3; omega) _).cs (by show w.heap.size + 1 + 1 < w.heap.size + 3; omega) _).cs (by show w.heap.size + 1 + 1 < w.heap.size + 3; omega) _
  have o2 : Own EI 3 W1 (w.heap.size + 3) b2 d2 ks := by rw [hW1]; exact ((o2.cs (by show w.heap.size + 1 + 1 < w.heap.size + 3; omega) _).cs (by show w.heap.size + 1 + 1 < w.heap.size + 3; omega) _).cs (by show w.heap.size + 1 + 1 < w.heap.size + 3; omega) _
  have hz : w.heap.size + 3 ≤ W1.heap.size := by rw [hW1]; simpa using hz
  clear hW1 p3 q0 q1 q2 q3 g0 g1 g2 g3 hA
  refine (HTI.out _ xw).mono ?_
  rintro e w2 ⟨b3, d3, rfl, o3, x2⟩
  have A13 : Apart b1 b3 := Apart.older (fun p hp => (o1.blk p hp).2) (fun p hp => (o3.blk p hp).1)
  have A23 : Apart b2 b3 := Apart.older (fun p hp => (o2.blk p hp).2) (fun p hp => (o3.blk p hp).1)
  have hR := x2.bk hR
  have hO := x2.bk hO
  have o1 := o1.ext x2
  have o2 := o2.ext x2
  have o3 := o3.mono hz
  have xw := xw.tr x2
  clear x2 hz
  obtain ⟨⟨r0, r1, r2, r3⟩, s0, s1, s2, s3⟩ := blk4 hR
  obtain ⟨⟨q0, q1, q2, q3⟩, g0, g1, g2, g3⟩ := blk4 hO
  go_wp2_with fail
  refine bodyPost_ret (v := .agg #[.int .i64 sz, .slice b1 ds.length d1, .slice b2 ks.length d2, .slice b3 l.length d3]) ?_ rfl ?_
  · simp [results, Try.results26, go_sem, r0, r1, r2, r3]
  · refine ⟨b1, d1, b2, d2, b3, d3, rfl, (((((o1.cs ?_ _).cs ?_ _).cs ?_ _).cs ?_ _).cs ?_ _).mono (by omega), (((((o2.cs ?_ _).cs ?_ _).cs ?_ _).cs ?_ _).cs ?_ _).mono (by omega), (((((o3.cs ?_ _).cs ?_ _).cs ?_ _).cs ?_ _).cs ?_ _).mono (by omega), AP.out, A13, A23, (((((xw.cs ?_ _).cs ?_ _).cs ?_ _).cs ?_ _).cs ?_ _)⟩
    all_goals first
      | (show w.heap.size + 1 < w.heap.size + 3; omega)
      | (show w.heap.size + 1 + 1 < w.heap.size + 3; omega)
      | (show w.heap.size ≤ w.heap.size + 1; omega)
      | (show w.heap.size ≤ w.heap.size + 1 + 1; omega)

/-- Two traps that read the same. -/
theorem eqTrap_yes (m : Mz) (l : List Int) (a1 a2 a3 b1 b2 b3 : Option Addr) (c1 c2 c3 d1 d2 d3 : Nat) (w : World) (h1 : Rd ED w a1 m.doors) (h2 : Rd EI w a2 m.keys) (h3 : Rd EI w a3 l) (g1 : Rd ED w b1 m.doors) (g2 : Rd EI w b2 m.keys) (g3 : Rd EI w b3 l) (hl : m.doors.length ≤ 1000000000000000) (hl2 : m.keys.length ≤ 1000000000000000) (hl3 : l.length ≤ 1000000000000000) :
    Calls Try.prog 28 #[.agg #[.int .i64 m.size, .slice a1 m.doors.length c1, .slice a2 m.keys.length c2, .slice a3 l.length c3], .agg #[.int .i64 m.size, .slice b1 m.doors.length d1, .slice b2 m.keys.length d2, .slice b3 l.length d3]] w fun e w' => e = .returned (.bool true) ∧ Ext w w' := by
  have HA := Lib.hid fun w' (hx : Ext w w') => eqMaze_yes m a1 a2 b1 b2 c1 c2 d1 d2 w' (h1.ext hx) (h2.ext hx) (g1.ext hx) (g2.ext hx) hl hl2
  have HB := Lib.hid fun w' (hx : Ext w w') => eqIntS_any l l a3 b3 c3 d3 w' (h3.ext hx) (g3.ext hx) (by omega) (by omega)
  have e2 : eqL l l = true := by simp [eqL]
  rw [e2] at HB
  clear e2
  go_enter Try.func28, Try.ntmps28
  go_wp2_with fail
  have x0 : Ext w ((w.alloc (.cells #[.int .i64 m.size, .slice a1 m.doors.length c1, .slice a2 m.keys.length c2, .slice a3 l.length c3] 44)).alloc (.cells #[.int .i64 m.size, .slice b1 m.doors.length d1, .slice b2 m.keys.length d2, .slice b3 l.length d3] 44)) := ((Ext.rf _).al _).al _
  have hM : ((w.alloc (.cells #[.int .i64 m.size, .slice a1 m.doors.length c1, .slice a2 m.keys.length c2, .slice a3 l.length c3] 44)).alloc (.cells #[.int .i64 m.size, .slice b1 m.doors.length d1, .slice b2 m.keys.length d2, .slice b3 l.length d3] 44)).heap[w.heap.size]? = some (.cells #[.int .i64 m.size, .slice a1 m.doors.length c1, .slice a2 m.keys.length c2, .slice a3 l.length c3] 44 (0, 0)) := hp_old (hp_at rfl)
  have hN : ((w.alloc (.cells #[.int .i64 m.size, .slice a1 m.doors.length c1, .slice a2 m.keys.length c2, .slice a3 l.length c3] 44)).alloc (.cells #[.int .i64 m.size, .slice b1 m.doors.length d1, .slice b2 m.keys.length d2, .slice b3 l.length d3] 44)).heap[w.heap.size + 1]? = some (.cells #[.int .i64 m.size, .slice b1 m.doors.length d1, .slice b2 m.keys.length d2, .slice b3 l.length d3] 44 (0, 0)) := hp_at (by simp)
  refine (HA.out _ x0).mono ?_
  rintro e w1 ⟨rfl, x1⟩
  obtain ⟨⟨p0, p1, p2, p3⟩, _⟩ := blk4 (x1.bk hM)
  obtain ⟨⟨q0, q1, q2, q3⟩, _⟩ := blk4 (x1.bk hN)
  clear hM hN
  go_wp2_with fail
  refine (HB.out _ (x0.tr x1)).mono ?_
  rintro e w2 ⟨rfl, x2⟩
  go_wp2_with fail
  go_ret
  exact ⟨rfl, (x0.tr x1).tr x2⟩

/-- A trap of the call's own, marked. -/
theorem markTrap_any (sz : Int) (l1 : List Door) (l2 l3 : List Int) (k : Int) (a1 a2 a3 : Option Addr) (c1 c2 c3 base : Nat) (w : World) (h1 : Own ED 140 w base a1 c1 l1) (h2 : Own EI 3 w base a2 c2 l2) (h3 : Own EI 3 w base a3 c3 l3) (hap : Apart a1 a2) (hap2 : Apart a1 a3) (hap3 : Apart a2 a3) (hl1 : l1.length ≤ 100000000) (hl2 : l2.length ≤ 100000000) (hl3 : l3.length ≤ 100000000) (hk0 : 0 ≤ k) (hk1 : k ≤ 10000000000) :
    Calls Try.prog 29 #[.agg #[.int .i64 sz, .slice a1 l1.length c1, .slice a2 l2.length c2, .slice a3 l3.length c3], .int .i64 k] w fun e w' => e = .returned (.int .i64 (k + 3 * l1.length + l2.length + l3.length)) ∧ Own ED 140 w' base a1 c1 (mkD k l1.length) ∧ Own EI 3 w' base a2 c2 (mkI (k + 3 * l1.length) l2.length) ∧ Own EI 3 w' base a3 c3 (mkI (k + 3 * l1.length + l2.length) l3.length) ∧ Tch (fun i => (inS a1 i ∨ inS a2 i) ∨ inS a3 i) w w' := by
  have HAP := Lib.hid hap
  have HAP2 := Lib.hid hap2
  have HAP3 := Lib.hid hap3
  clear hap hap2 hap3
  go_enter Try.func29, Try.ntmps29
  go_wp2_with fail
  have hM : (w.alloc (.cells #[.int .i64 sz, .slice a1 l1.length c1, .slice a2 l2.length c2, .slice a3 l3.length c3] 44)).heap[w.heap.size]? = some (.cells #[.int .i64 sz, .slice a1 l1.length c1, .slice a2 l2.length c2, .slice a3 l3.length c3] 44 (0, 0)) := hp_at rfl
  refine (markMaze_tch sz l1 l2 k a1 a2 c1 c2 base _ (h1.al _) (h2.al _) HAP.out (by omega) (by omega) hk0 (by omega)).mono ?_
  rintro e w1 ⟨rfl, o1, o2, t1⟩
  have hM1 := (t1.blk w.heap.size (by simp) (fun h => by rcases h with ⟨p, hp, e⟩ | ⟨p, hp, e⟩; have := (h1.blk p hp).2; omega; have := (h2.blk p hp).2; omega)).trans hM
  obtain ⟨⟨_, _, _, q3⟩, _⟩ := blk4 hM1
  have o3 : Own EI 3 w1 base a3 c3 l3 := t1.own (h3.al _) (fun p hp h => by rcases h with h | h; exact HAP2.out.inS p hp h; exact HAP3.out.inS p hp h)
  have T1 := Lib.hid t1
  clear t1 hM1 hM
  go_wp2_with fail
  refine (markIntS_any l3 (k + 3 * l1.length + l2.length) a3 c3 base _ o3 (by omega) (by omega) (by omega)).mono ?_
  rintro e w2 ⟨rfl, o4, t2⟩
  have o5 := t2.own o1 HAP2.out.symm
  have o6 := t2.own o2 HAP3.out.symm
  have T2 := Lib.hid t2.tch
  clear t2 o1 o2 o3
  go_wp2_with fail
  go_ret
  exact ⟨rfl, o5, o6, o4, ((Tch.ofExt (S := fun _ => False) ((Ext.rf w).al _)).tr (T1.out.tr T2.out)).mono (fun k h => by rcases h with h | h; exact h.elim; exact h)⟩

theorem heldTrap_any (sz : Int) (n1 n2 n3 : Nat) (k : Int) (a1 a2 a3 : Option Addr) (c1 c2 c3 : Nat) (w : World) (h1 : Rd ED w a1 (mkD k n1)) (h2 : Rd EI w a2 (mkI (k + 3 * n1) n2)) (h3 : Rd EI w a3 (mkI (k + 3 * n1 + n2) n3)) (hl1 : n1 ≤ 100000000) (hl2 : n2 ≤ 100000000) (hl3 : n3 ≤ 100000000) (hk0 : 0 ≤ k) (hk1 : k ≤ 10000000000) :
    Calls Try.prog 30 #[.agg #[.int .i64 sz, .slice a1 n1 c1, .slice a2 n2 c2, .slice a3 n3 c3], .int .i64 k] w fun e w' => e = .returned (.int .i64 (k + 3 * n1 + n2 + n3)) ∧ Ext w w' := by
  go_enter Try.func30, Try.ntmps30
  go_wp2_with fail
  have hM : (w.alloc (.cells #[.int .i64 sz, .slice a1 n1 c1, .slice a2 n2 c2, .slice a3 n3 c3] 44)).heap[w.heap.size]? = some (.cells #[.int .i64 sz, .slice a1 n1 c1, .slice a2 n2 c2, .slice a3 n3 c3] 44 (0, 0)) := hp_at rfl
  refine (heldMaze_any sz n1 n2 k a1 a2 c1 c2 _ (h1.ext ((Ext.rf _).al _)) (h2.ext ((Ext.rf _).al _)) (by omega) (by omega) hk0 (by omega)).mono ?_
  rintro e w1 ⟨rfl, x1⟩
  obtain ⟨⟨_, _, _, q3⟩, _⟩ := blk4 (x1.bk hM)
  clear hM
  go_wp2_with fail
  refine (heldIntS_any n3 (k + 3 * n1 + n2) a3 c3 _ (h3.ext (((Ext.rf _).al _).tr x1)) (by omega) (by omega) (by omega)).mono ?_
  rintro e w1 ⟨rfl, rfl⟩
  go_wp2_with fail
  go_ret
  exact ⟨rfl, ((Ext.rf _).al _).tr x1⟩

end Go.Proofs.Ytkdncpglgdiicaa
