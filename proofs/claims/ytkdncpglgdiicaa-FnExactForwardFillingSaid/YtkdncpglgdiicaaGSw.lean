/- GoodSwaps of the program and of the reference, at every input: one plain answer. -/
import Derived.Test.YtkdncpglgdiicaaSSwaps
import Derived.Test.YtkdncpglgdiicaaHelp3
namespace Go.Proofs.Ytkdncpglgdiicaa
open Go Go.RowKit Go.Sort

def Mz.dn (m : Mz) : NM := ⟨m.size.toNat, m.doors.map (fun d => (d.1.toNat, d.2.1.toNat, d.2.2.toNat)), m.keys.map Int.toNat⟩
theorem NM.up_dn (n : NM) : n.up.dn = n := by
  obtain ⟨a, b, c⟩ := n
  simp only [NM.up, Mz.dn, Int.toNat_natCast, List.map_map]
  congr 1
  · conv => rhs; rw [← List.map_id b]
    exact List.map_congr_left fun d _ => rfl
  · conv => rhs; rw [← List.map_id c]
    exact List.map_congr_left fun d _ => rfl

theorem ints_up {l : List Int} (h : ∀ x ∈ l, 0 ≤ x) : l = (l.map Int.toNat).map upN := by
  rw [List.map_map]
  conv => lhs; rw [← List.map_id l]
  refine List.map_congr_left fun k hk => ?_
  have := h k hk
  show k = ((k.toNat : Nat) : Int)
  omega

theorem setB_up {s : Int} (h : setB s = true) : ∃ N : Nat, N ≤ 63 ∧ s = (N : Int) := by
  simp only [setB, Bool.and_eq_true, decide_eq_true_eq] at h
  exact ⟨s.toNat, by omega, by omega⟩

theorem goodB_up {m : Mz} {s : Int} {f : List Int} (h : goodB m s f = true) : ∃ (n : NM) (N : Nat) (F : List Nat), n.Ok ∧ m = n.up ∧ N ≤ 63 ∧ s = (N : Int) ∧ f = F.map upN ∧ fillB (n.size : Int) (N : Int) (F.map upN) = true := by
  have h0 := h
  unfold goodB at h0
  simp only [Bool.and_eq_true] at h0
  obtain ⟨⟨h1, h2⟩, h3⟩ := h0
  obtain ⟨n, hn, rfl⟩ := Mz.ok_nm h1
  obtain ⟨N, hN, rfl⟩ := setB_up h2
  have hf : ∀ x ∈ f, 0 ≤ x := by
    intro x hx
    unfold fillB at h3
    simp only [Bool.and_eq_true, List.all_eq_true] at h3
    have := h3.2 x hx
    simp only [withinB, Bool.and_eq_true, decide_eq_true_eq] at this
    omega
  refine ⟨n, N, f.map Int.toNat, hn, rfl, hN, rfl, ints_up hf, ?_⟩
  rw [← ints_up hf]
  exact h3

def upP (p : Nat × Nat) : Int × Int := ((p.1 : Int), (p.2 : Int))
/-- What GoodSwaps answers. -/
noncomputable def gswI (m : Mz) (s : Int) (f : List Int) : List (Int × Int) × Bool :=
  if goodB m s f && decide (0 < depN m.dn.doors m.dn.size s.toNat (f.map Int.toNat)) then ((gswN m.dn.doors m.dn.size s.toNat (f.map Int.toNat)).map upP, true) else ([], false)
theorem gswI_no {m : Mz} {s : Int} {f : List Int} (h : goodB m s f = false) : gswI m s f = ([], false) := by unfold gswI; rw [h]; rfl
theorem upN_toNat (F : List Nat) : (F.map upN).map Int.toNat = F := by
  rw [List.map_map]
  conv => rhs; rw [← List.map_id F]
  exact List.map_congr_left fun d _ => rfl
theorem gswI_up {n : NM} {N : Nat} {F : List Nat} (h : goodB n.up (N : Int) (F.map upN) = true) : gswI n.up (N : Int) (F.map upN) = ((if 0 < depN n.doors n.size N F then gswN n.doors n.size N F else []).map upP, decide (0 < depN n.doors n.size N F)) := by
  unfold gswI
  rw [h, NM.up_dn, upN_toNat, Int.toNat_natCast]
  by_cases hd : 0 < depN n.doors n.size N F
  · simp [hd]
  · simp [hd]

def GSRes (R : List (Int × Int) × Bool) (w : World) (e : Ending) (w' : World) : Prop :=
  ∃ a c, e = .returned (.tuple #[.slice a R.1.length c, .bool R.2]) ∧ Own EP 95 w' w.heap.size a c R.1 ∧ Ext w w'
theorem GSRes.up {L : List (Nat × Nat)} {b : Bool} {w : World} {e : Ending} {w' : World} (h : ∃ a c, e = .returned (.tuple #[.slice a L.length c, .bool b]) ∧ Own EPN 95 w' w.heap.size a c L ∧ Ext w w') : GSRes (L.map upP, b) w e w' := by
  obtain ⟨a, c, rfl, h1, h2⟩ := h
  exact ⟨a, c, by rw [List.length_map], h1.map upP rfl (fun _ => rfl), h2⟩

theorem goodSwaps_any (m : Mz) (s : Int) (f : List Int) (a1 a2 a3 : Option Addr) (c1 c2 c3 : Nat) (w : World) (h1 : Rd ED w a1 m.doors) (h2 : Rd EI w a2 m.keys) (h3 : Rd EI w a3 f) (hl : m.doors.length ≤ 9223372036854775807) (hl2 : m.keys.length ≤ 9223372036854775807) (hl3 : f.length ≤ 9223372036854775807) :
    Calls Try.prog 16 #[.agg #[.int .i64 m.size, .slice a1 m.doors.length c1, .slice a2 m.keys.length c2], .int .i64 s, .slice a3 f.length c3] w (GSRes (gswI m s f) w) := by
  cases hg : goodB m s f
  · rw [gswI_no hg]
    refine (goodSwaps_no m s f hg a1 a2 a3 c1 c2 c3 w h1 h2 h3 hl hl2 hl3).mono ?_
    rintro e w' ⟨rfl, x⟩
    exact ⟨none, 0, rfl, Own.nil _ _ _ _, x⟩
  · obtain ⟨n, N, F, hn, rfl, hN, rfl, rfl, hfb⟩ := goodB_up hg
    rw [gswI_up hg]
    have h := goodSwaps_up n hn N hN F hfb a1 a2 a3 c1 c2 c3 w (Rd.dDn h1) (Rd.iDn h2) (Rd.iDn h3)
    have e1 : n.up.doors.length = n.doors.length := List.length_map _
    have e2 : n.up.keys.length = n.keys.length := List.length_map _
    rw [e1, e2, List.length_map]
    exact h.mono fun e w' h => GSRes.up h

theorem sGoodSwaps_any (m : Mz) (s : Int) (f : List Int) (a1 a2 a3 : Option Addr) (c1 c2 c3 : Nat) (w : World) (h1 : Rd ED w a1 m.doors) (h2 : Rd EI w a2 m.keys) (h3 : Rd EI w a3 f) (hl : m.doors.length ≤ 9223372036854775807) (hl2 : m.keys.length ≤ 9223372036854775807) (hl3 : f.length ≤ 9223372036854775807) :
    Calls Try.prog 13 #[.agg #[.int .i64 m.size, .slice a1 m.doors.length c1, .slice a2 m.keys.length c2], .int .i64 s, .slice a3 f.length c3] w (GSRes (gswI m s f) w) := by
  cases hg : goodB m s f
  · rw [gswI_no hg]
    refine (sGoodSwaps_no m s f hg a1 a2 a3 c1 c2 c3 w h1 h2 h3 hl hl2 hl3).mono ?_
    rintro e w' ⟨a, c, rfl, o, x⟩
    exact ⟨a, c, rfl, o.map (l := ([] : List (Nat × Nat))) upP rfl (fun _ => rfl), x⟩
  · obtain ⟨n, N, F, hn, rfl, hN, rfl, rfl, hfb⟩ := goodB_up hg
    rw [gswI_up hg]
    have h := sGoodSwaps_up n hn N hN F hfb a1 a2 a3 c1 c2 c3 w (Rd.dDn h1) (Rd.iDn h2) (Rd.iDn h3)
    have e1 : n.up.doors.length = n.doors.length := List.length_map _
    have e2 : n.up.keys.length = n.keys.length := List.length_map _
    rw [e1, e2, List.length_map]
    exact h.mono fun e w' h => GSRes.up h

theorem gswI_len (m : Mz) (s : Int) (f : List Int) : (gswI m s f).1.length ≤ 1000 := by
  cases hg : goodB m s f
  · rw [gswI_no hg]; simp
  · obtain ⟨n, N, F, hn, rfl, hN, rfl, rfl, hfb⟩ := goodB_up hg
    rw [gswI_up hg]
    have hm6 : (mem N).length ≤ 6 := mem_len_le (b := 6) (by omega) (by omega)
    have h1 := swAll_len (swQ n.doors n.size N F) (mem N) (mem N).length
    have h2 : (mem N).length * (mem N).length ≤ 6 * 6 := Nat.mul_le_mul hm6 hm6
    simp only [List.length_map]
    split
    · unfold gswN; omega
    · simp

theorem Turned.own {α : Type} {E : Enc α} {e : TypeId} {a b : Option Addr} {w w' : World} {base c : Nat} {l : List α} (t : Turned a w w') (h : Own E e w base b c l) (hap : Apart a b) : Own E e w' base b c l := by
  cases a with
  | none => exact h.mid (t.2 0 0 (fun p hp => by cases hp)) (fun p hp => .inr (Nat.zero_le _))
  | some q => exact h.mid (t.2 q.block (q.block + 1) (fun p hp => by cases hp; omega)) (fun p hp => by have := hap q p rfl hp; omega)
theorem Turned.rd {α : Type} {E : Enc α} {a b : Option Addr} {w w' : World} {l : List α} (t : Turned a w w') (h : Rd E w b l) (hb : ∀ p, b = some p → p.block < w.heap.size) (hap : Apart a b) : Rd E w' b l := by
  cases a with
  | none => exact h.mid (t.2 0 0 (fun p hp => by cases hp)) (fun p hp => .inr ⟨Nat.zero_le _, hb p hp⟩)
  | some q => exact h.mid (t.2 q.block (q.block + 1) (fun p hp => by cases hp; omega)) (fun p hp => by have := hap q p rfl hp; have := hb p hp; omega)

/-- A maze of the call's own, marked. -/
theorem markMaze_any (sz : Int) (l1 : List Door) (l2 : List Int) (k : Int) (a1 a2 : Option Addr) (c1 c2 base : Nat) (w : World) (h1 : Own ED 140 w base a1 c1 l1) (h2 : Own EI 3 w base a2 c2 l2) (hap : Apart a1 a2) (hl1 : l1.length ≤ 100000000) (hl2 : l2.length ≤ 100000000) (hk0 : 0 ≤ k) (hk1 : k ≤ 100000000000) :
    Calls Try.prog 20 #[.agg #[.int .i64 sz, .slice a1 l1.length c1, .slice a2 l2.length c2], .int .i64 k] w fun e w' => e = .returned (.int .i64 (k + 3 * l1.length + l2.length)) ∧ Own ED 140 w' base a1 c1 (mkD k l1.length) ∧ Own EI 3 w' base a2 c2 (mkI (k + 3 * l1.length) l2.length) ∧ ∀ lo hi, lo ≤ w.heap.size → In a1 lo hi → In a2 lo hi → Mid lo hi w w' := by
  have HAP := Lib.hid hap
  clear hap
  go_enter Try.func20, Try.ntmps20
  go_wp2_with fail
  have hM : (w.alloc (.cells #[.int .i64 sz, .slice a1 l1.length c1, .slice a2 l2.length c2] 30)).heap[w.heap.size]? = some (.cells #[.int .i64 sz, .slice a1 l1.length c1, .slice a2 l2.length c2] 30 (0, 0)) := hp_at rfl
  refine (markIntA3S_any l1 k a1 c1 base _ (h1.al _) (by omega) hk0 (by omega)).mono ?_
  rintro e w1 ⟨rfl, o1, t1⟩
  have hi1 : In a1 base w.heap.size := fun p hp => h1.blk p hp
  have hi2 : In a2 base w.heap.size := fun p hp => h2.blk p hp
  have hM1 := ((t1.2 base w.heap.size hi1).blk w.heap.size (by simp) (Nat.le_refl _)).trans hM
  obtain ⟨_, _, q2, _, _, _⟩ := blk3 hM1
  have o2 : Own EI 3 w1 base a2 c2 l2 := t1.own (h2.al _) HAP.out
  have T1 := Lib.hid t1
  clear t1 hM1 hM hi1 hi2
  go_wp2_with fail
  refine (markIntS_any l2 (k + 3 * l1.length) a2 c2 base _ o2 (by omega) (by omega) (by omega)).mono ?_
  rintro e w2 ⟨rfl, o3, t2⟩
  have o4 := t2.own o1 HAP.out.symm
  have T2 := Lib.hid t2
  clear t2 o1 o2
  go_wp2_with fail
  go_ret
  exact ⟨rfl, o4, o3, fun lo hi hlo i1 i2 => (((Mid.rf lo hi w).al hlo _).tr (T1.out.2 lo hi i1)).tr (T2.out.2 lo hi i2)⟩

end Go.Proofs.Ytkdncpglgdiicaa
