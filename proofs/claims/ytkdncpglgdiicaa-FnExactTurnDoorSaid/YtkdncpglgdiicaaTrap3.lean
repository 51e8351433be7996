/- TurnDoor of the program and of the reference. -/
import Derived.Test.YtkdncpglgdiicaaSlices1
import Derived.Test.YtkdncpglgdiicaaWalk3
namespace Go.Proofs.Ytkdncpglgdiicaa
open Go Go.RowKit Go.Sort

theorem risB_up {l : List Int} {n : Nat} (h : risB l n = true) : ∃ F : List Nat, l = F.map upN ∧ F.Pairwise (· < ·) ∧ ∀ x ∈ F, x < n := by
  unfold risB at h
  rw [List.all_eq_true] at h
  have h1 : ∀ i (hi : i < l.length), 0 ≤ l[i] ∧ l[i] < n := by
    intro i hi
    have := h i (List.mem_range.2 hi)
    unfold riseAt at this
    rw [List.getElem?_eq_getElem hi] at this
    simp only [withinB, Bool.and_eq_true, decide_eq_true_eq] at this
    omega
  have h2 : ∀ i (hi : i + 1 < l.length), l[i] < l[i + 1] := by
    intro i hi
    have := h (i + 1) (List.mem_range.2 hi)
    rw [riseAt_succ hi, Bool.and_eq_true, decide_eq_true_eq] at this
    exact this.2
  have h3 : ∀ x ∈ l, 0 ≤ x := by
    intro x hx
    obtain ⟨i, hi, rfl⟩ := List.mem_iff_getElem.1 hx
    exact (h1 i hi).1
  have h4 : ∀ j i (hj : j < l.length) (hij : i < j), l[i] < l[j] := by
    intro j
    induction j with
    | zero => intro i _ hij; omega
    | succ j ih =>
      intro i hj hij
      have h5 := h2 j hj
      by_cases e : i = j
      · subst e; exact h5
      · have := ih i (by omega) (by omega)
        omega
  refine ⟨l.map Int.toNat, ints_up h3, ?_, ?_⟩
  · rw [List.pairwise_map, List.pairwise_iff_getElem]
    intro i j hi hj hij
    have := h4 j i hj hij
    have := (h1 i hi).1
    omega
  · intro x hx
    obtain ⟨y, hy, rfl⟩ := List.mem_map.1 hx
    obtain ⟨i, hi, rfl⟩ := List.mem_iff_getElem.1 hy
    have := h1 i hi
    omega
theorem asc_len {F : List Nat} {n : Nat} (hs : F.Pairwise (· < ·)) (hn : ∀ x ∈ F, x < n) : F.length ≤ n := by
  have e : F = (List.range n).filter (fun x => decide (x ∈ F)) := by
    refine ascExt _ _ hs (List.Pairwise.sublist List.filter_sublist List.pairwise_lt_range) fun x => ?_
    rw [List.mem_filter, List.mem_range]
    simp only [decide_eq_true_eq]
    exact ⟨fun h => ⟨hn x h, h⟩, fun h => h.2⟩
  have := List.length_filter_le (fun x => decide (x ∈ F)) (List.range n)
  rw [← e, List.length_range] at this
  exact this

/-- What TurnDoor answers. -/
def turnI (m : Mz) (l : List Int) (k : Int) : (Mz × List Int) × Bool :=
  if trapB m l && withinB k 0 ((m.doors.length : Int) - 1) then ((m, (turned m.doors.length (l.map Int.toNat) k.toNat).map upN), true) else ((⟨0, [], []⟩, []), false)
theorem turnI_no1 {m : Mz} {l : List Int} {k : Int} (h : trapB m l = false) : turnI m l k = ((⟨0, [], []⟩, []), false) := by unfold turnI; rw [h]; rfl
theorem turnI_no2 {m : Mz} {l : List Int} {k : Int} (h : withinB k 0 ((m.doors.length : Int) - 1) = false) : turnI m l k = ((⟨0, [], []⟩, []), false) := by unfold turnI; rw [h, Bool.and_false]; rfl

def TrRes (R : (Mz × List Int) × Bool) (w : World) (e : Ending) (w' : World) : Prop :=
  ∃ a1 c1 a2 c2 a3 c3, e = .returned (.tuple #[.agg #[.int .i64 R.1.1.size, .slice a1 R.1.1.doors.length c1, .slice a2 R.1.1.keys.length c2, .slice a3 R.1.2.length c3], .bool R.2]) ∧
    Own ED 140 w' w.heap.size a1 c1 R.1.1.doors ∧ Own EI 3 w' w.heap.size a2 c2 R.1.1.keys ∧ Own EI 3 w' w.heap.size a3 c3 R.1.2 ∧ Apart a1 a2 ∧ Apart a1 a3 ∧ Apart a2 a3 ∧ Ext w w'

theorem TrRes.no {w w' : World} (x : Ext w w') : TrRes ((⟨0, [], []⟩, []), false) w (.returned (.tuple #[.agg #[.int .i64 0, .slice none 0 0, .slice none 0 0, .slice none 0 0], .bool false])) w' :=
  ⟨none, 0, none, 0, none, 0, rfl, Own.nil _ _ _ _, Own.nil _ _ _ _, Own.nil _ _ _ _, Apart.none _, Apart.none _, Apart.none _, x⟩

theorem turnDoor_no1 (m : Mz) (l : List Int) (k : Int) (hg : trapB m l = false) (a1 a2 a3 : Option Addr) (c1 c2 c3 : Nat) (w : World) (h1 : Rd ED w a1 m.doors) (h2 : Rd EI w a2 m.keys) (h3 : Rd EI w a3 l) (hl : m.doors.length ≤ 9223372036854775807) (hl2 : m.keys.length ≤ 9223372036854775807) (hl3 : l.length ≤ 9223372036854775807) :
    Calls Try.prog 27 #[.agg #[.int .i64 m.size, .slice a1 m.doors.length c1, .slice a2 m.keys.length c2, .slice a3 l.length c3], .int .i64 k] w (TrRes ((⟨0, [], []⟩, []), false) w) := by
  have HIT := Lib.hid fun w' (hx : Ext w w') => isTrap_any m l a1 a2 a3 c1 c2 c3 w' (h1.ext hx) (h2.ext hx) (h3.ext hx) hl hl2 hl3
  rw [hg] at HIT
  clear hg
  go_enter Try.func27, Try.ntmps27
  go_wp2_with fail
  refine (HIT.out _ (((Ext.rf _).al _).al _)).mono ?_
  rintro e w1 ⟨rfl, x1⟩
  have xw := (((Ext.rf w).al (.cells #[.int .i64 m.size, .slice a1 m.doors.length c1, .slice a2 m.keys.length c2, .slice a3 l.length c3] 44)).al (.cells #[.int .i64 0, .slice none 0 0, .slice none 0 0, .slice none 0 0] 44)).tr x1
  have hR : w1.heap[w.heap.size + 1]? = some (.cells #[.int .i64 0, .slice none 0 0, .slice none 0 0, .slice none 0 0] 44 (0, 0)) := x1.bk (hp_at (by simp))
  obtain ⟨⟨q0, q1, q2, q3⟩, f0, f1, f2, f3⟩ := blk4 hR
  clear x1
  go_wp2_with fail
  refine bodyPost_ret (v := .tuple #[.agg #[.int .i64 0, .slice none 0 0, .slice none 0 0, .slice none 0 0], .bool false]) ?_ rfl ?_
  · simp [results, Try.results27, go_sem, q0, q1, q2, q3]
  · refine TrRes.no ((((xw.cs ?_ _).cs ?_ _).cs ?_ _).cs ?_ _)
    all_goals exact Nat.le_succ _

theorem turnDoor_no2 (m : Mz) (l : List Int) (k : Int) (hg : trapB m l = true) (hk : withinB k 0 ((m.doors.length : Int) - 1) = false) (a1 a2 a3 : Option Addr) (c1 c2 c3 : Nat) (w : World) (h1 : Rd ED w a1 m.doors) (h2 : Rd EI w a2 m.keys) (h3 : Rd EI w a3 l) (hl : m.doors.length ≤ 9223372036854775807) (hl2 : m.keys.length ≤ 9223372036854775807) (hl3 : l.length ≤ 9223372036854775807) :
    Calls Try.prog 27 #[.agg #[.int .i64 m.size, .slice a1 m.doors.length c1, .slice a2 m.keys.length c2, .slice a3 l.length c3], .int .i64 k] w (TrRes ((⟨0, [], []⟩, []), false) w) := by
  have HIT := Lib.hid fun w' (hx : Ext w w') => isTrap_any m l a1 a2 a3 c1 c2 c3 w' (h1.ext hx) (h2.ext hx) (h3.ext hx) hl hl2 hl3
  rw [hg] at HIT
  have HK := Lib.hid hk
  clear hg hk
  go_enter Try.func27, Try.ntmps27
  go_wp2_with fail
  refine (HIT.out _ (((Ext.rf _).al _).al _)).mono ?_
  rintro e w1 ⟨rfl, x1⟩
  have xw := (((Ext.rf w).al (.cells #[.int .i64 m.size, .slice a1 m.doors.length c1, .slice a2 m.keys.length c2, .slice a3 l.length c3] 44)).al (.cells #[.int .i64 0, .slice none 0 0, .slice none 0 0, .slice none 0 0] 44)).tr x1
  have hA : w1.heap[w.heap.size]? = some (.cells #[.int .i64 m.size, .slice a1 m.doors.length c1, .slice a2 m.keys.length c2, .slice a3 l.length c3] 44 (0, 0)) := x1.bk (hp_old (hp_at rfl))
  have hR : w1.heap[w.heap.size + 1]? = some (.cells #[.int .i64 0, .slice none 0 0, .slice none 0 0, .slice none 0 0] 44 (0, 0)) := x1.bk (hp_at (by simp))
  obtain ⟨⟨p0, p1, p2, p3⟩, _⟩ := blk4 hA
  obtain ⟨⟨q0, q1, q2, q3⟩, f0, f1, f2, f3⟩ := blk4 hR
  clear x1
  go_wp2_with fail
  refine (within_any k 0 ((m.doors.length : Int) - 1) _).mono ?_
  rintro e w2 ⟨rfl, rfl⟩
  rw [HK.out]
  go_wp2_with fail
  refine bodyPost_ret (v := .tuple #[.agg #[.int .i64 0, .slice none 0 0, .slice none 0 0, .slice none 0 0], .bool false]) ?_ rfl ?_
  · simp [results, Try.results27, go_sem, q0, q1, q2, q3]
  · refine TrRes.no ((((xw.cs ?_ _).cs ?_ _).cs ?_ _).cs ?_ _)
    all_goals exact Nat.le_succ _

theorem Tch.ext {S : Nat → Prop} {w a b : World} (h : Ext w a) (t : Tch S a b) (hs : ∀ k, S k → w.heap.size ≤ k) : Ext w b :=
  ⟨t.bel.os.trans h.os, t.bel.tape.trans h.tape, t.bel.output.trans h.output, Nat.le_trans h.size t.bel.size, fun k hk => (t.blk k (Nat.lt_of_lt_of_le hk h.size) (fun e => by have := hs k e; omega)).trans (h.block k hk)⟩
theorem Tch.bk {S : Nat → Prop} {a b : World} (t : Tch S a b) {k : Nat} {o : Obj} (h : a.heap[k]? = some o) (hs : ¬ S k) : b.heap[k]? = some o := (t.blk k (lt_of_block h) hs).trans h
theorem inS_ge {α : Type} {E : Enc α} {e : TypeId} {w : World} {base c : Nat} {a : Option Addr} {l : List α} (h : Own E e w base a c l) {k : Nat} (hk : inS a k) : base ≤ k := by
  obtain ⟨p, hp, rfl⟩ := hk
  exact (h.blk p hp).1

theorem lessN_mem {F : List Nat} {k : Nat} (h : k ∈ F) : lessN F k < F.length := by
  unfold lessN
  rcases Nat.lt_or_ge (F.countP (· < k)) F.length with h1 | h1
  · exact h1
  · have h2 : F.countP (· < k) = F.length := Nat.le_antisymm List.countP_le_length h1
    rw [List.countP_eq_length] at h2
    have := h2 k h
    simp at this

set_option maxRecDepth 100000 in
set_option maxHeartbeats 1000000 in
theorem turnDoor_yes (m : NM) (hm : m.Ok) (F : List Nat) (hs : F.Pairwise (· < ·)) (hn : ∀ x ∈ F, x < m.doors.length) (k : Nat) (hk : k < m.doors.length) (hg : trapB m.up (F.map upN) = true) (a1 a2 a3 : Option Addr) (c1 c2 c3 : Nat) (w : World) (h1 : Rd EDN w a1 m.doors) (h2 : Rd EN w a2 m.keys) (h3 : Rd EN w a3 F) :
    Calls Try.prog 27 #[.agg #[.int .i64 (m.size : Int), .slice a1 m.doors.length c1, .slice a2 m.keys.length c2, .slice a3 F.length c3], .int .i64 (k : Int)] w fun e w' =>
      ∃ b1 d1 b2 d2 b3 d3, e = .returned (.tuple #[.agg #[.int .i64 (m.size : Int), .slice b1 m.doors.length d1, .slice b2 m.keys.length d2, .slice b3 (turned m.doors.length F k).length d3], .bool true]) ∧
        Own EDN 140 w' w.heap.size b1 d1 m.doors ∧ Own EN 3 w' w.heap.size b2 d2 m.keys ∧ Own EN 3 w' w.heap.size b3 d3 (turned m.doors.length F k) ∧ Apart b1 b2 ∧ Apart b1 b3 ∧ Apart b2 b3 ∧ Ext w w' := by
  have hdl := hm.doors_len
  have hkl := hm.keys_len
  have hsl := hm.size_le
  have hFl := asc_len hs hn
  have HIT := Lib.hid fun w' (hx : Ext w w') => (by
    have h := isTrap_any m.up (F.map upN) a1 a2 a3 c1 c2 c3 w' (h1.ext hx).dUp (h2.ext hx).iUp (h3.ext hx).iUp (by simp [NM.up]; omega) (by simp [NM.up]; omega) (by simp; omega)
    rw [hg] at h
    simpa [NM.up] using h : Calls Try.prog 76 #[.agg #[.int .i64 (m.size : Int), .slice a1 m.doors.length c1, .slice a2 m.keys.length c2, .slice a3 F.length c3]] w' fun e w'' => e = .returned (.bool true) ∧ Ext w' w'')
  have HCL := Lib.hid fun w' (hx : Ext w w') => cloneI_any elemN F a3 c3 w' (h3.ext hx) (by omega)
  have HBS := Lib.hid fun w' b d (hb : Rd EN w' b F) => bsearch_any F k hs (by omega) b d w' hb
  have HOW := Lib.hid fun w' (hx : Ext w w') => own_any (m.size : Int) m.doors m.keys a1 a2 c1 c2 w' (h1.ext hx) (h2.ext hx) (by omega) (by omega)
  have HL := Lib.hid (lessN_le F k)
  have HLM : Hid (k ∈ F → lessN F k < F.length) := lessN_mem
  have HTD : Hid (k ∈ F → F.take (lessN F k) ++ F.drop (lessN F k + 1) = turned m.doors.length F k) := turned_del hs hn
  have HTI : Hid (k ∉ F → F.take (lessN F k) ++ [k] ++ F.drop (lessN F k) = turned m.doors.length F k) := turned_ins hs hn hk
  have HWI : Hid (withinB (k : Int) 0 ((m.doors.length : Int) - 1) = true) := by show _ = _; simp [withinB]; omega
  obtain ⟨n, hnn⟩ : ∃ n, n = (m.size : Int) := ⟨_, rfl⟩
  obtain ⟨ds, hds⟩ : ∃ ds, ds = m.doors := ⟨_, rfl⟩
  obtain ⟨ks, hks⟩ : ∃ ks, ks = m.keys := ⟨_, rfl⟩
  rw [← hnn, ← hds, ← hks] at HIT HOW
  rw [← hds] at HTD HTI HWI hk hdl
  rw [← hnn, ← hds, ← hks]
  obtain ⟨T, hT⟩ : ∃ T, T = turned ds.length F k := ⟨_, rfl⟩
  rw [← hT] at HTD HTI
  rw [← hT]
  obtain ⟨at_, hat⟩ : ∃ at_, at_ = lessN F k := ⟨_, rfl⟩
  rw [← hat] at HBS HL HLM HTD HTI
  have hkl2 : ks.length ≤ 1000 := by rw [hks]; omega
  have hF2 : F.length ≤ 1000 := by rw [← hds] at hFl; omega
  clear hat hT hnn hds hks hs hn hg hm h1 h2 h3 hkl hsl hFl
  go_enter Try.func27, Try.ntmps27
  go_wp2_with fail
  refine (HIT.out _ (((Ext.rf _).al _).al _)).mono ?_
  rintro e w1 ⟨rfl, x1⟩
  have xw := (((Ext.rf w).al (.cells #[.int .i64 n, .slice a1 ds.length c1, .slice a2 ks.length c2, .slice a3 F.length c3] 44)).al (.cells #[.int .i64 0, .slice none 0 0, .slice none 0 0, .slice none 0 0] 44)).tr x1
  have hA : w1.heap[w.heap.size]? = some (.cells #[.int .i64 n, .slice a1 ds.length c1, .slice a2 ks.length c2, .slice a3 F.length c3] 44 (0, 0)) := x1.bk (hp_old (hp_at rfl))
  have hR : w1.heap[w.heap.size + 1]? = some (.cells #[.int .i64 0, .slice none 0 0, .slice none 0 0, .slice none 0 0] 44 (0, 0)) := x1.bk (hp_at (by simp))
  have hz : w.heap.size + 2 ≤ w1.heap.size := by have h5 := x1.size; simp at h5; omega
  obtain ⟨⟨p0, p1, p2, p3⟩, _⟩ := blk4 hA
  clear x1
  go_wp2_with fail
  refine (within_any k 0 ((ds.length : Int) - 1) _).mono ?_
  rintro e w2 ⟨rfl, rfl⟩
  rw [HWI.out]
  go_wp2_with fail
  refine (HCL.out _ xw).mono ?_
  rintro e w2 ⟨b3, d3, rfl, o3, x2⟩
  have hA := x2.bk hA
  have hR := x2.bk hR
  have xw := xw.tr x2
  have o3 := o3.mono hz
  have hz := Nat.le_trans hz x2.size
  clear x2 p0 p1 p2 p3
  go_wp2_with fail
  refine (HBS.out _ b3 d3 o3.rd).mono ?_
  rintro e w3 ⟨rfl, x3⟩
  have hA := x3.bk hA
  have hR := x3.bk hR
  have xw := xw.tr x3
  have o3 := o3.ext x3
  have hz := Nat.le_trans hz x3.size
  clear x3
  by_cases hkF : k ∈ F
  · have dk : decide (k ∈ F) = true := decide_eq_true hkF
    have HT := Lib.hid (HTD.out hkF)
    have hlt := HLM.out hkF
    rw [dk]
    clear dk hkF
    go_wp2_with fail
    refine (delete_any F at_ hlt (by omega) b3 d3 _ _ o3).mono ?_
    rintro e w4 ⟨rfl, o4, t4⟩
    have hA := t4.bk hA (fun h => by have := inS_ge o3 h; omega)
    have hR := t4.bk hR (fun h => by have := inS_ge o3 h; omega)
    have xw := t4.ext xw (fun k h => by have := inS_ge o3 h; omega)
    have hz := Nat.le_trans hz t4.bel.size
    have HLEN : Hid (F.length - 1 = T.length) := by show _ = _; rw [← HT.out]; simp; omega
    rw [HT.out] at o4
    clear o3 t4 hlt
    obtain ⟨⟨p0, p1, p2, p3⟩, _⟩ := blk4 hA
    go_wp2_with fail
    refine (HOW.out _ xw).mono ?_
    rintro e w5 ⟨b1, d1, b2, d2, rfl, o1, o2, ap, x5⟩
    have A13 : Apart b1 b3 := Apart.symm (Apart.older (fun p hp => (o4.blk p hp).2) (fun p hp => (o1.blk p hp).1))
    have A23 : Apart b2 b3 := Apart.symm (Apart.older (fun p hp => (o4.blk p hp).2) (fun p hp => (o2.blk p hp).1))
    have hR := x5.bk hR
    have xw := xw.tr x5
    have o4 := o4.ext x5
    have o1 := o1.mono hz
    have o2 := o2.mono hz
    have AP := Lib.hid ap
    clear x5 p0 p1 p2 p3 hA ap
    obtain ⟨⟨q0, q1, q2, q3⟩, f0, f1, f2, f3⟩ := blk4 hR
    go_wp2_with fail
    refine bodyPost_ret (v := .tuple #[.agg #[.int .i64 n, .slice b1 ds.length d1, .slice b2 ks.length d2, .slice b3 (F.length - 1) d3], .bool true]) ?_ rfl ?_
    · simp [results, Try.results27, go_sem, q0, q1, q2, q3]
    · refine ⟨b1, d1, b2, d2, b3, d3, by rw [HLEN.out], ((((o1.cs ?_ _).cs ?_ _).cs ?_ _).cs ?_ _).mono (by omega), ((((o2.cs ?_ _).cs ?_ _).cs ?_ _).cs ?_ _).mono (by omega), ((((o4.cs ?_ _).cs ?_ _).cs ?_ _).cs ?_ _).mono (by omega), AP.out, A13, A23, (((xw.cs ?_ _).cs ?_ _).cs ?_ _).cs ?_ _⟩
      all_goals first
        | exact Nat.lt_succ_self _
        | exact Nat.le_succ _
  · have dk : decide (k ∈ F) = false := decide_eq_false hkF
    have HT := Lib.hid (HTI.out hkF)
    rw [dk]
    clear dk hkF
    go_wp2_with fail
    have hv : (w3.alloc (.cells #[.int .i64 (k : Int)] 3)).heap[w3.heap.size]? = some (.cells #[.int .i64 (k : Int)] 3 (0, 0)) := hp_at rfl
    have o3' := o3.al (.cells #[.int .i64 (k : Int)] 3)
    refine (insert_any F at_ k HL.out (by omega) b3 d3 _ w3.heap.size _ o3' hv (Apart.older (fun p hp => (o3.blk p hp).2) (by intro p hp; cases hp; exact Nat.le_refl _)) (Nat.le_trans hz (by simp))).mono ?_
    rintro e w4 ⟨b4, d4, rfl, o4, t4⟩
    have hA := t4.bk (hp_old hA) (fun h => by have := inS_ge o3 h; omega)
    have hR := t4.bk (hp_old hR) (fun h => by have := inS_ge o3 h; omega)
    have xw := t4.ext (xw.al _) (fun k h => by have := inS_ge o3 h; omega)
    have hz := Nat.le_trans (Nat.le_trans hz (by simp : w3.heap.size ≤ _)) t4.bel.size
    have HLEN : Hid (F.length + 1 = T.length) := by show _ = _; rw [← HT.out]; have := HL.out; simp; omega
    rw [HT.out] at o4
    clear o3 o3' t4 hv
    obtain ⟨⟨p0, p1, p2, p3⟩, _⟩ := blk4 hA
    go_wp2_with fail
    refine (HOW.out _ xw).mono ?_
    rintro e w5 ⟨b1, d1, b2, d2, rfl, o1, o2, ap, x5⟩
    have A13 : Apart b1 b4 := Apart.symm (Apart.older (fun p hp => (o4.blk p hp).2) (fun p hp => (o1.blk p hp).1))
    have A23 : Apart b2 b4 := Apart.symm (Apart.older (fun p hp => (o4.blk p hp).2) (fun p hp => (o2.blk p hp).1))
    have hR := x5.bk hR
    have xw := xw.tr x5
    have o4 := o4.ext x5
    have o1 := o1.mono hz
    have o2 := o2.mono hz
    have AP := Lib.hid ap
    clear x5 p0 p1 p2 p3 hA ap
    obtain ⟨⟨q0, q1, q2, q3⟩, f0, f1, f2, f3⟩ := blk4 hR
    go_wp2_with fail
    refine bodyPost_ret (v := .tuple #[.agg #[.int .i64 n, .slice b1 ds.length d1, .slice b2 ks.length d2, .slice b4 (F.length + 1) d4], .bool true]) ?_ rfl ?_
    · simp [results, Try.results27, go_sem, q0, q1, q2, q3]
    · refine ⟨b1, d1, b2, d2, b4, d4, by rw [HLEN.out], ((((o1.cs ?_ _).cs ?_ _).cs ?_ _).cs ?_ _).mono (by omega), ((((o2.cs ?_ _).cs ?_ _).cs ?_ _).cs ?_ _).mono (by omega), ((((o4.cs ?_ _).cs ?_ _).cs ?_ _).cs ?_ _).mono (by omega), AP.out, A13, A23, (((xw.cs ?_ _).cs ?_ _).cs ?_ _).cs ?_ _⟩
      all_goals first
        | exact Nat.lt_succ_self _
        | exact Nat.le_succ _

end Go.Proofs.Ytkdncpglgdiicaa
