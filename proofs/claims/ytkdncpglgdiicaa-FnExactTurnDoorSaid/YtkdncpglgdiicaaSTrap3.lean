/- TurnDoor of the reference; both answers as one. -/
import Derived.Test.YtkdncpglgdiicaaTrap3
namespace Go.Proofs.Ytkdncpglgdiicaa
open Go Go.RowKit Go.Sort

theorem Own.neType {α : Type} {E : Enc α} {e t : TypeId} {w : World} {base c g : Nat} {a : Option Addr} {l : List α} {cur : Array Value} (h : Own E e w base a c l) (hg : w.heap[g]? = some (.cells cur t (0, 0))) (hne : e ≠ t) : ∀ p, a = some p → p.block ≠ g := by
  intro p hp he
  rcases h with ⟨h0, _⟩ | ⟨g', off, cur', h0, _, hh, _⟩
  · rw [h0] at hp; cases hp
  · rw [h0] at hp
    cases hp
    have he' : g' = g := he
    subst he'
    rw [hh] at hg
    injection hg with hg
    injection hg with _ ht
    exact hne ht
theorem Own.cs' {α : Type} {E : Enc α} {e : TypeId} {w : World} {base c : Nat} {a : Option Addr} {l : List α} (h : Own E e w base a c l) {p : Addr} (hp : ∀ q, a = some q → q.block ≠ p.block) (u : Value) : Own E e (w.setCell p u) base a c l := by
  rcases h with h | ⟨g, off, cur, rfl, hb, hh, r⟩
  · exact .inl h
  · exact .inr ⟨g, off, cur, rfl, hb, heapCs hh (hp _ rfl), r⟩

theorem turned_succ (i : Nat) (F : List Nat) (k : Nat) : turned (i + 1) F k = turned i F k ++ (if (decide (i ∈ F) != decide (i = k)) then [i] else []) := by
  unfold turned
  rw [List.range_succ, List.filter_append]
  congr 1
  cases h : (decide (i ∈ F) != decide (i = k)) <;> simp [h]
theorem turned_len (i : Nat) (F : List Nat) (k : Nat) : (turned i F k).length ≤ i := by
  unfold turned
  have := List.length_filter_le (fun x => decide (x ∈ F) != decide (x = k)) (List.range i)
  rwa [List.length_range] at this

theorem sTurnDoor_no1 (m : Mz) (l : List Int) (k : Int) (hg : trapB m l = false) (a1 a2 a3 : Option Addr) (c1 c2 c3 : Nat) (w : World) (h1 : Rd ED w a1 m.doors) (h2 : Rd EI w a2 m.keys) (h3 : Rd EI w a3 l) (hl : m.doors.length ≤ 9223372036854775807) (hl2 : m.keys.length ≤ 9223372036854775807) (hl3 : l.length ≤ 9223372036854775807) :
    Calls Try.prog 25 #[.agg #[.int .i64 m.size, .slice a1 m.doors.length c1, .slice a2 m.keys.length c2, .slice a3 l.length c3], .int .i64 k] w (TrRes ((⟨0, [], []⟩, []), false) w) := by
  have HIT := Lib.hid fun w' (hx : Ext w w') => l11Trap_any m l a1 a2 a3 c1 c2 c3 w' (h1.ext hx) (h2.ext hx) (h3.ext hx) hl hl2 hl3
  rw [hg] at HIT
  clear hg
  go_enter Try.func25, Try.ntmps25
  go_wp2_with fail
  refine (HIT.out _ (((Ext.rf _).al _).al _)).mono ?_
  rintro e w1 ⟨rfl, x1⟩
  have xw := (((Ext.rf w).al (.cells #[.int .i64 m.size, .slice a1 m.doors.length c1, .slice a2 m.keys.length c2, .slice a3 l.length c3] 44)).al (.cells #[.int .i64 0, .slice none 0 0, .slice none 0 0, .slice none 0 0] 44)).tr x1
  have hR : w1.heap[w.heap.size + 1]? = some (.cells #[.int .i64 0, .slice none 0 0, .slice none 0 0, .slice none 0 0] 44 (0, 0)) := x1.bk (hp_at (by simp))
  obtain ⟨⟨q0, q1, q2, q3⟩, f0, f1, f2, f3⟩ := blk4 hR
  clear x1
  go_wp2_with fail
  refine bodyPost_ret (v := .tuple #[.agg #[.int .i64 0, .slice none 0 0, .slice none 0 0, .slice none 0 0], .bool false]) ?_ rfl ?_
  · simp [results, Try.results25, go_sem, q0, q1, q2, q3]
  · refine TrRes.no ((((xw.cs ?_ _).cs ?_ _).cs ?_ _).cs ?_ _)
    all_goals exact Nat.le_succ _

theorem sTurnDoor_no2 (m : Mz) (l : List Int) (k : Int) (hg : trapB m l = true) (hk : withinB k 0 ((m.doors.length : Int) - 1) = false) (a1 a2 a3 : Option Addr) (c1 c2 c3 : Nat) (w : World) (h1 : Rd ED w a1 m.doors) (h2 : Rd EI w a2 m.keys) (h3 : Rd EI w a3 l) (hl : m.doors.length ≤ 9223372036854775807) (hl2 : m.keys.length ≤ 9223372036854775807) (hl3 : l.length ≤ 9223372036854775807) :
    Calls Try.prog 25 #[.agg #[.int .i64 m.size, .slice a1 m.doors.length c1, .slice a2 m.keys.length c2, .slice a3 l.length c3], .int .i64 k] w (TrRes ((⟨0, [], []⟩, []), false) w) := by
  have HIT := Lib.hid fun w' (hx : Ext w w') => l11Trap_any m l a1 a2 a3 c1 c2 c3 w' (h1.ext hx) (h2.ext hx) (h3.ext hx) hl hl2 hl3
  rw [hg] at HIT
  have HK := Lib.hid hk
  clear hg hk
  go_enter Try.func25, Try.ntmps25
  go_wp2_with fail
  refine (HIT.out _ (((Ext.rf _).al _).al _)).mono ?_
  rintro e w1 ⟨rfl, x1⟩
  have xw := (((Ext.rf w).al (.cells #[.int .i64 m.size, .slice a1 m.doors.length c1, .slice a2 m.keys.length c2, .slice a3 l.length c3] 44)).al (.cells #[.int .i64 0, .slice none 0 0, .slice none 0 0, .slice none 0 0] 44)).tr x1
  have hA : w1.heap[w.heap.size]? = some (.cells #[.int .i64 m.size, .slice a1 m.doors.length c1, .slice a2 m.keys.length c2, .slice a3 l.length c3] 44 (0, 0)) := x1.bk (hp_old (hp_at rfl))
  have hR : w1.heap[w.heap.size + 1]? = some (.cells #[.int .i64 0, .slice none 0 0, .slice none 0 0, .slice none 0 0] 44 (0, 0)) := x1.bk (hp_at (by simp))
  obtain ⟨⟨p0, p1, p2, p3⟩, _⟩ := blk4 hA
  obtain ⟨⟨q0, q1, q2, q3⟩, f0, f1, f2, f3⟩ := blk4 hR
  clear x1
  go_wp2_with fail
  refine (l1In_any k 0 ((m.doors.length : Int) - 1) _).mono ?_
  rintro e w2 ⟨rfl, rfl⟩
  rw [HK.out]
  go_wp2_with fail
  refine bodyPost_ret (v := .tuple #[.agg #[.int .i64 0, .slice none 0 0, .slice none 0 0, .slice none 0 0], .bool false]) ?_ rfl ?_
  · simp [results, Try.results25, go_sem, q0, q1, q2, q3]
  · refine TrRes.no ((((xw.cs ?_ _).cs ?_ _).cs ?_ _).cs ?_ _)
    all_goals exact Nat.le_succ _

set_option maxRecDepth 100000 in
set_option maxHeartbeats 1000000 in
theorem sTurnDoor_yes (m : NM) (hm : m.Ok) (F : List Nat) (hs : F.Pairwise (· < ·)) (hn : ∀ x ∈ F, x < m.doors.length) (k : Nat) (hk : k < m.doors.length) (hg : trapB m.up (F.map upN) = true) (a1 a2 a3 : Option Addr) (c1 c2 c3 : Nat) (w : World) (h1 : Rd EDN w a1 m.doors) (h2 : Rd EN w a2 m.keys) (h3 : Rd EN w a3 F) :
    Calls Try.prog 25 #[.agg #[.int .i64 (m.size : Int), .slice a1 m.doors.length c1, .slice a2 m.keys.length c2, .slice a3 F.length c3], .int .i64 (k : Int)] w fun e w' =>
      ∃ b1 d1 b2 d2 b3 d3, e = .returned (.tuple #[.agg #[.int .i64 (m.size : Int), .slice b1 m.doors.length d1, .slice b2 m.keys.length d2, .slice b3 (turned m.doors.length F k).length d3], .bool true]) ∧
        Own EDN 140 w' w.heap.size b1 d1 m.doors ∧ Own EN 3 w' w.heap.size b2 d2 m.keys ∧ Own EN 3 w' w.heap.size b3 d3 (turned m.doors.length F k) ∧ Apart b1 b2 ∧ Apart b1 b3 ∧ Apart b2 b3 ∧ Ext w w' := by
  have hdl := hm.doors_len
  have hkl := hm.keys_len
  have hsl := hm.size_le
  have hFl := asc_len hs hn
  have HIT := Lib.hid fun w' (hx : Ext w w') => (by
    have h := l11Trap_any m.up (F.map upN) a1 a2 a3 c1 c2 c3 w' (h1.ext hx).dUp (h2.ext hx).iUp (h3.ext hx).iUp (by simp [NM.up]; omega) (by simp [NM.up]; omega) (by simp; omega)
    rw [hg] at h
    simpa [NM.up] using h : Calls Try.prog 72 #[.agg #[.int .i64 (m.size : Int), .slice a1 m.doors.length c1, .slice a2 m.keys.length c2, .slice a3 F.length c3]] w' fun e w'' => e = .returned (.bool true) ∧ Ext w' w'')
  have HHA := Lib.hid fun i w' (hx : Ext w w') => l1Has_any F i a3 c3 w' (h3.ext hx) (by omega)
  have HOW := Lib.hid fun w' (hx : Ext w w') => l2Own_any (m.size : Int) m.doors m.keys a1 a2 c1 c2 w' (h1.ext hx) (h2.ext hx) (by omega) (by omega)
  have HWI : Hid (withinB (k : Int) 0 ((m.doors.length : Int) - 1) = true) := by show _ = _; simp [withinB]; omega
  obtain ⟨n, hnn⟩ : ∃ n, n = (m.size : Int) := ⟨_, rfl⟩
  obtain ⟨ds, hds⟩ : ∃ ds, ds = m.doors := ⟨_, rfl⟩
  obtain ⟨ks, hks⟩ : ∃ ks, ks = m.keys := ⟨_, rfl⟩
  rw [← hnn, ← hds, ← hks] at HIT HOW
  rw [← hds] at HWI hk hdl
  rw [← hnn, ← hds, ← hks]
  have hkl2 : ks.length ≤ 1000 := by rw [hks]; omega
  have hF2 : F.length ≤ 1000 := by rw [← hds] at hFl; omega
  clear hnn hds hks hs hn hg hm h1 h2 h3 hkl hsl hFl
  go_enter Try.func25, Try.ntmps25
  go_wp2_with fail
  refine (HIT.out _ (((Ext.rf _).al _).al _)).mono ?_
  rintro e w1 ⟨rfl, x1⟩
  have xw := (((Ext.rf w).al (.cells #[.int .i64 n, .slice a1 ds.length c1, .slice a2 ks.length c2, .slice a3 F.length c3] 44)).al (.cells #[.int .i64 0, .slice none 0 0, .slice none 0 0, .slice none 0 0] 44)).tr x1
  have hA : w1.heap[w.heap.size]? = some (.cells #[.int .i64 n, .slice a1 ds.length c1, .slice a2 ks.length c2, .slice a3 F.length c3] 44 (0, 0)) := x1.bk (hp_old (hp_at rfl))
  have hR : w1.heap[w.heap.size + 1]? = some (.cells #[.int .i64 0, .slice none 0 0, .slice none 0 0, .slice none 0 0] 44 (0, 0)) := x1.bk (hp_at (by simp))
  have hz : w.heap.size + 2 ≤ w1.heap.size := by have h5 := x1.size; simp at h5; omega
  obtain ⟨⟨p0, p1, p2, p3⟩, _⟩ := blk4 hA
  clear x1
  go_wp2_with fail
  refine (l1In_any k 0 ((ds.length : Int) - 1) _).mono ?_
  rintro e w2 ⟨rfl, rfl⟩
  rw [HWI.out]
  go_wp2_with fail
  refine (HOW.out _ xw).mono ?_
  rintro e w2 ⟨b1, d1, b2, d2, rfl, o1, o2, ap, x2⟩
  have hA := x2.bk hA
  have hR := x2.bk hR
  have xw := xw.tr x2
  have o1 := o1.mono hz
  have o2 := o2.mono hz
  have hz := Nat.le_trans hz x2.size
  have AP := Lib.hid ap
  clear x2 p0 p1 p2 p3 ap
  go_wp2_with fail
  have xw := (xw.al (.cells #[] 3)).al (.cells #[.int .i64 n, .slice b1 ds.length d1, .slice b2 ks.length d2, .slice (some ⟨w2.heap.size, 0, none⟩) 0 0] 44)
  obtain ⟨W, hW⟩ : ∃ W, W = (w2.alloc (.cells #[] 3)).alloc (.cells #[.int .i64 n, .slice b1 ds.length d1, .slice b2 ks.length d2, .slice (some ⟨w2.heap.size, 0, none⟩) 0 0] 44) := ⟨_, rfl⟩
  rw [← hW] at xw
  rw [← hW]
  have hO : W.heap[w2.heap.size + 1]? = some (.cells #[.int .i64 n, .slice b1 ds.length d1, .slice b2 ks.length d2, .slice (some ⟨w2.heap.size, 0, none⟩) 0 0] 44 (0, 0)) := by rw [hW]; exact hp_at (by simp)
  have o3 : Own EN 3 W w2.heap.size (some ⟨w2.heap.size, 0, none⟩) 0 [] := by rw [hW]; exact Own.empty (hp_old (hp_at rfl)) (Nat.le_refl _)
  have xW : Ext w2 W := by rw [hW]; exact ((Ext.rf _).al _).al _
  clear hW
  have hA := xW.bk hA
  have hR := xW.bk hR
  have HB1 := Lib.hid o1
  have HB2 := Lib.hid o2
  clear o1 o2
  go_loopw [7] (fun i wr => ∃ j : Nat, ∃ a c, j ≤ ds.length ∧ i = .int .i64 (j : Int) ∧ Own EN 3 wr w2.heap.size a c (turned j F k) ∧ Ext w2 wr ∧ wr.heap[w2.heap.size + 1]? = some (.cells #[.int .i64 n, .slice b1 ds.length d1, .slice b2 ks.length d2, .slice a (turned j F k).length c] 44 (0, 0)) ∧ wr.heap[w.heap.size]? = some (.cells #[.int .i64 n, .slice a1 ds.length c1, .slice a2 ks.length c2, .slice a3 F.length c3] 44 (0, 0)) ∧ wr.heap[w.heap.size + 1]? = some (.cells #[.int .i64 0, .slice none 0 0, .slice none 0 0, .slice none 0 0] 44 (0, 0)) ∧ Ext w wr) (fun i _ => ds.length - (intOf i).toNat)
  case atStart => exact ⟨0, _, _, by omega, rfl, o3, xW, hO, hA, hR, xw⟩
  case round =>
    clear o3 xW hO hA hR xw
    obtain ⟨j, a, c, hj, rfl, o3, xW, hO, hA, hR, xw⟩ := hrel
    have HTL := turned_len j F k
    by_cases hlt : j < ds.length
    · have HTS : Hid (turned (j + 1) F k = turned j F k ++ (if (decide (j ∈ F) != decide (j = k)) then [j] else [])) := turned_succ j F k
      obtain ⟨T, hT⟩ : ∃ T, T = turned j F k := ⟨_, rfl⟩
      rw [← hT] at HTS HTL hO o3
      clear hT
      obtain ⟨⟨p0, p1, p2, p3⟩, _⟩ := blk4 hA
      have HHJ := HHA.out j
      have HEQ : Hid (((j : Int) == (k : Int)) = decide (j = k)) := by
        show _ = _
        by_cases e : j = k
        · subst e; simp
        · rw [decide_eq_false e, beq_eq_false_iff_ne]; omega
      obtain ⟨bj, hbj⟩ : ∃ bj, bj = decide (j ∈ F) := ⟨_, rfl⟩
      obtain ⟨bk, hbk⟩ : ∃ bk, bk = decide (j = k) := ⟨_, rfl⟩
      rw [← hbj] at HHJ HTS
      rw [← hbk] at HEQ HTS
      have HHJ2 := Lib.hid HHJ
      clear HHJ hbj hbk
      have hjk : ((j : Int) == (k : Int)) = bk := HEQ.out
      cases bj
      · cases bk
        · have HK : Hid (turned (j + 1) F k = T) := by show _ = _; rw [HTS.out]; simp
          go_wp2_with fail
          refine (HHJ2.out _ xw).mono ?_
          rintro e w3 ⟨rfl, rfl⟩
          go_wp2_with fail
          go_roundw
          case rel => exact ⟨j + 1, a, c, by omega, by go_num, by rw [HK.out]; exact o3, xW, by rw [HK.out]; exact hO, hA, hR, xw⟩
          case measure => simp [intOf]; omega
        · have HK : Hid (turned (j + 1) F k = T ++ [j]) := by show _ = _; rw [HTS.out]; simp
          go_wp2_with fail
          refine (HHJ2.out _ xw).mono ?_
          rintro e w3 ⟨rfl, rfl⟩
          have HO := Lib.hid o3
          clear o3 p0 p1 p2 p3
          obtain ⟨⟨q0, q1, q2, q3⟩, f0, f1, f2, f3⟩ := blk4 hO
          go_wp2_with (at_builtin; refine wpList_app' elemN rfl _ _ rfl [j] rfl rfl (HO.out.al _) rfl (Rd.one _ _) rfl ?_ ?_ ?_; rotate_left 2)
          · intro aa' c7 w7 h7 g7 m7
            have hneO : some (w2.heap.size + 1) ≠ a.map (·.block) := fun he => by
              cases ha : a with
              | none => rw [ha] at he; cases he
              | some p => rw [ha] at he; exact HO.out.neType hO (by decide) p ha (Option.some.inj he).symm
            have hlo : ∀ b, b < w2.heap.size → some b ≠ a.map (·.block) := fun b hb => ownRow HO.out hb
            have hO7 := heapKept g7 (hp_old hO) hneO
            have hA7 := heapKept g7 (hp_old hA) (hlo _ (by omega))
            have hR7 := heapKept g7 (hp_old hR) (hlo _ (by omega))
            have xW7 : Ext w2 w7 := (xW.al _).gr g7 (HO.out.al _) (Nat.le_refl _)
            have xw7 : Ext w w7 := (xw.al _).gr g7 (HO.out.al _) (by omega)
            clear q0 q1 q2 q3 f0 f1 f2 f3 hO hA hR g7 m7 hlo hneO
            obtain ⟨⟨q0, q1, q2, q3⟩, f0, f1, f2, f3⟩ := blk4 hO7
            go_wp2_with fail
            have hO8 := heap_setCell_same w7 (w2.heap.size + 1) 3 _ _ (.slice aa' (T.length + 1) c7) hO7
            have H8 := Lib.hid (h7.cs' (p := ⟨w2.heap.size + 1, 3, none⟩) (h7.neType hO7 (by decide)) (.slice aa' (T.length + 1) c7))
            go_roundw
            case rel =>
              refine ⟨j + 1, aa', c7, by omega, by go_num, by rw [HK.out]; exact H8.out, xW7.cs (p := ⟨w2.heap.size + 1, 3, none⟩) (Nat.le_succ _) _, by rw [HK.out, List.length_append]; simpa using hO8, heapCs hA7 (by show w.heap.size ≠ w2.heap.size + 1; omega), heapCs hR7 (by show w.heap.size + 1 ≠ w2.heap.size + 1; omega), xw7.cs (p := ⟨w2.heap.size + 1, 3, none⟩) (by show w.heap.size ≤ w2.heap.size + 1; omega) _⟩
            case measure => simp [intOf]; omega
          · simp; omega
          · simp; exact Nat.le_succ_of_le xW.size
      · cases bk
        · have HK : Hid (turned (j + 1) F k = T ++ [j]) := by show _ = _; rw [HTS.out]; simp
          go_wp2_with fail
          refine (HHJ2.out _ xw).mono ?_
          rintro e w3 ⟨rfl, rfl⟩
          have HO := Lib.hid o3
          clear o3 p0 p1 p2 p3
          obtain ⟨⟨q0, q1, q2, q3⟩, f0, f1, f2, f3⟩ := blk4 hO
          go_wp2_with (at_builtin; refine wpList_app' elemN rfl _ _ rfl [j] rfl rfl (HO.out.al _) rfl (Rd.one _ _) rfl ?_ ?_ ?_; rotate_left 2)
          · intro aa' c7 w7 h7 g7 m7
            have hneO : some (w2.heap.size + 1) ≠ a.map (·.block) := fun he => by
              cases ha : a with
              | none => rw [ha] at he; cases he
              | some p => rw [ha] at he; exact HO.out.neType hO (by decide) p ha (Option.some.inj he).symm
            have hlo : ∀ b, b < w2.heap.size → some b ≠ a.map (·.block) := fun b hb => ownRow HO.out hb
            have hO7 := heapKept g7 (hp_old hO) hneO
            have hA7 := heapKept g7 (hp_old hA) (hlo _ (by omega))
            have hR7 := heapKept g7 (hp_old hR) (hlo _ (by omega))
            have xW7 : Ext w2 w7 := (xW.al _).gr g7 (HO.out.al _) (Nat.le_refl _)
            have xw7 : Ext w w7 := (xw.al _).gr g7 (HO.out.al _) (by omega)
            clear q0 q1 q2 q3 f0 f1 f2 f3 hO hA hR g7 m7 hlo hneO
            obtain ⟨⟨q0, q1, q2, q3⟩, f0, f1, f2, f3⟩ := blk4 hO7
            go_wp2_with fail
            have hO8 := heap_setCell_same w7 (w2.heap.size + 1) 3 _ _ (.slice aa' (T.length + 1) c7) hO7
            have H8 := Lib.hid (h7.cs' (p := ⟨w2.heap.size + 1, 3, none⟩) (h7.neType hO7 (by decide)) (.slice aa' (T.length + 1) c7))
            go_roundw
            case rel =>
              refine ⟨j + 1, aa', c7, by omega, by go_num, by rw [HK.out]; exact H8.out, xW7.cs (p := ⟨w2.heap.size + 1, 3, none⟩) (Nat.le_succ _) _, by rw [HK.out, List.length_append]; simpa using hO8, heapCs hA7 (by show w.heap.size ≠ w2.heap.size + 1; omega), heapCs hR7 (by show w.heap.size + 1 ≠ w2.heap.size + 1; omega), xw7.cs (p := ⟨w2.heap.size + 1, 3, none⟩) (by show w.heap.size ≤ w2.heap.size + 1; omega) _⟩
            case measure => simp [intOf]; omega
          · simp; omega
          · simp; exact Nat.le_succ_of_le xW.size
        · have HK : Hid (turned (j + 1) F k = T) := by show _ = _; rw [HTS.out]; simp
          go_wp2_with fail
          refine (HHJ2.out _ xw).mono ?_
          rintro e w3 ⟨rfl, rfl⟩
          go_wp2_with fail
          go_roundw
          case rel => exact ⟨j + 1, a, c, by omega, by go_num, by rw [HK.out]; exact o3, xW, by rw [HK.out]; exact hO, hA, hR, xw⟩
          case measure => simp [intOf]; omega
    · have hjd : j = ds.length := by omega
      have HJ := Lib.hid hjd
      clear hjd
      obtain ⟨⟨q0, q1, q2, q3⟩, f0, f1, f2, f3⟩ := blk4 hO
      obtain ⟨⟨r0, r1, r2, r3⟩, s0, s1, s2, s3⟩ := blk4 hR
      obtain ⟨⟨p0, p1, p2, p3⟩, _⟩ := blk4 hA
      have o1 := HB1.out.ext xW
      have o2 := HB2.out.ext xW
      have A13 : Apart b1 a := Apart.older (fun p hp => (HB1.out.blk p hp).2) (fun p hp => (o3.blk p hp).1)
      have A23 : Apart b2 a := Apart.older (fun p hp => (HB2.out.blk p hp).2) (fun p hp => (o3.blk p hp).1)
      have o3 := o3.mono (by omega : w.heap.size + 2 ≤ _)
      rw [HJ.out] at o3 q3
      clear hO hA hR
      go_wp2_with fail
      refine bodyPost_ret (v := .tuple #[.agg #[.int .i64 n, .slice b1 ds.length d1, .slice b2 ks.length d2, .slice a (turned ds.length F k).length c], .bool true]) ?_ rfl ?_
      · simp [results, Try.results25, go_sem, r0, r1, r2, r3]
      · refine ⟨b1, d1, b2, d2, a, c, rfl, ((((o1.cs ?_ _).cs ?_ _).cs ?_ _).cs ?_ _).mono (by omega), ((((o2.cs ?_ _).cs ?_ _).cs ?_ _).cs ?_ _).mono (by omega), ((((o3.cs ?_ _).cs ?_ _).cs ?_ _).cs ?_ _).mono (by omega), AP.out, A13, A23, (((xw.cs ?_ _).cs ?_ _).cs ?_ _).cs ?_ _⟩
        all_goals first
          | exact Nat.lt_succ_self _
          | exact Nat.le_succ _

end Go.Proofs.Ytkdncpglgdiicaa
