/- Nodes, questions, fillings: the small tests. -/
import Derived.Test.YtkdncpglgdiicaaLay
import Derived.Test.YtkdncpglgdiicaaSLay
import Derived.Test.YtkdncpglgdiicaaSReach2
namespace Go.Proofs.Ytkdncpglgdiicaa
open Go Go.RowKit Go.Sort

theorem isNode1_any (size x : Int) (g : Nat) (w : World) (h : w.cell? ⟨g, 0, none⟩ = some (.int .i64 size)) (h1 : 0 ≤ size) (h2 : size ≤ 1000) :
    Calls Try.prog 179 #[.int .i64 x, Value.pointer (some ⟨g, 0, none⟩)] w fun e w' => e = .returned (.bool (!withinB x 0 (size - 1))) ∧ Ext w w' := by
  go_enter Try.func179, Try.ntmps179
  go_wp2_with (go_at_call 77; refine (within_any _ _ _ _).mono ?_; rintro e w' ⟨rfl, rfl⟩)
  go_ret
  exact ⟨rfl, Ext.rf _⟩

set_option maxRecDepth 100000 in
theorem isNode_any (m : Mz) (f : List Int) (a1 a2 a3 : Option Addr) (c1 c2 c3 : Nat) (w : World) (h1 : Rd ED w a1 m.doors) (h2 : Rd EI w a2 m.keys) (h3 : Rd EI w a3 f) (hl : m.doors.length ≤ 9223372036854775807) (hl2 : m.keys.length ≤ 9223372036854775807) (hl3 : f.length ≤ 9223372036854775807) :
    Calls Try.prog 129 #[.agg #[.int .i64 m.size, .slice a1 m.doors.length c1, .slice a2 m.keys.length c2], .slice a3 f.length c3] w fun e w' => e = .returned (.bool (m.ok && f.all (withinB · 0 (m.size - 1)))) ∧ Ext w w' := by
  cases hm : m.ok
  · go_enter Try.func129, Try.ntmps129
    go_wp2_with (go_at_call 127; refine (isMaze_any m a1 a2 c1 c2 _ (h1.ext ((Ext.rf _).al _)) (h2.ext ((Ext.rf _).al _)) hl hl2).mono ?_; rintro e w' ⟨rfl, x1⟩; rw [hm])
    go_ret
    exact ⟨rfl, ((Ext.rf _).al _).tr x1⟩
  · have hsz : 1 ≤ m.size ∧ m.size ≤ 12 := by
      simp [Mz.ok] at hm
      exact ⟨hm.1.1.1.1.1, hm.1.1.1.1.2⟩
    go_enter Try.func129, Try.ntmps129
    go_wp2_with (go_at_call 127; refine (isMaze_any m a1 a2 c1 c2 _ (h1.ext ((Ext.rf _).al _)) (h2.ext ((Ext.rf _).al _)) hl hl2).mono ?_; rintro e w' ⟨rfl, x1⟩; rw [hm])
    refine (containsFunc_any 179 #[Value.pointer (some ⟨w.heap.size, 0, none⟩)] (fun x => !withinB x 0 (m.size - 1)) a3 c3 f _ hl3 (h3.ext (((Ext.rf _).al _).tr x1)) (fun _ _ => by go_simp) ?_).mono ?_
    · intro x w2 hx
      exact isNode1_any m.size x w.heap.size w2 (hx.cl (x1.cl (by go_simp))) (by omega) (by omega)
    rintro e w2 ⟨rfl, x2⟩
    go_wp2_with fail
    go_ret
    refine ⟨ret_bool ?_, (((Ext.rf _).al _).tr x1).tr x2⟩
    rw [Bool.true_and, List.not_any_eq_all_not]
    simp

theorem asked_any (m : Mz) (s : Int) (a1 a2 : Option Addr) (c1 c2 : Nat) (w : World) (h1 : Rd ED w a1 m.doors) (h2 : Rd EI w a2 m.keys) (hl : m.doors.length ≤ 9223372036854775807) (hl2 : m.keys.length ≤ 9223372036854775807) :
    Calls Try.prog 64 #[.agg #[.int .i64 m.size, .slice a1 m.doors.length c1, .slice a2 m.keys.length c2], .int .i64 s] w fun e w' => e = .returned (.bool (m.ok && setB s)) ∧ Ext w w' := by
  cases hm : m.ok
  · go_enter Try.func64, Try.ntmps64
    go_wp2_with (go_at_call 127; refine (isMaze_any m a1 a2 c1 c2 _ (h1.ext ((Ext.rf _).al _)) (h2.ext ((Ext.rf _).al _)) hl hl2).mono ?_; rintro e w' ⟨rfl, x1⟩; rw [hm])
    go_ret
    exact ⟨rfl, ((Ext.rf _).al _).tr x1⟩
  · go_enter Try.func64, Try.ntmps64
    go_wp2_with (go_at_call 127; refine (isMaze_any m a1 a2 c1 c2 _ (h1.ext ((Ext.rf _).al _)) (h2.ext ((Ext.rf _).al _)) hl hl2).mono ?_; rintro e w' ⟨rfl, x1⟩; rw [hm])
    refine (isSet_any _ _).mono ?_
    rintro e w2 ⟨rfl, rfl⟩
    go_wp2_with fail
    go_ret
    exact ⟨rfl, ((Ext.rf _).al _).tr x1⟩

theorem l9Ask_any (m : Mz) (s : Int) (a1 a2 : Option Addr) (c1 c2 : Nat) (w : World) (h1 : Rd ED w a1 m.doors) (h2 : Rd EI w a2 m.keys) (hl : m.doors.length ≤ 9223372036854775807) (hl2 : m.keys.length ≤ 9223372036854775807) :
    Calls Try.prog 120 #[.agg #[.int .i64 m.size, .slice a1 m.doors.length c1, .slice a2 m.keys.length c2], .int .i64 s] w fun e w' => e = .returned (.bool (m.ok && setB s)) ∧ Ext w w' := by
  cases hm : m.ok
  · go_enter Try.func120, Try.ntmps120
    go_wp2_with fail
    refine (l2Maze_any m a1 a2 c1 c2 _ (h1.ext ((Ext.rf _).al _)) (h2.ext ((Ext.rf _).al _)) hl hl2).mono ?_
    rintro e w' ⟨rfl, x1⟩
    rw [hm]
    go_wp2_with fail
    go_ret
    exact ⟨rfl, ((Ext.rf _).al _).tr x1⟩
  · go_enter Try.func120, Try.ntmps120
    go_wp2_with fail
    refine (l2Maze_any m a1 a2 c1 c2 _ (h1.ext ((Ext.rf _).al _)) (h2.ext ((Ext.rf _).al _)) hl hl2).mono ?_
    rintro e w' ⟨rfl, x1⟩
    rw [hm]
    go_wp2_with fail
    refine (l2Set_any _ _).mono ?_
    rintro e w2 ⟨rfl, rfl⟩
    go_wp2_with fail
    go_ret
    exact ⟨rfl, ((Ext.rf _).al _).tr x1⟩

/-- A filling: as many nodes as the question has colours. -/
def fillB (size : Int) (s : Int) (f : List Int) : Bool := decide (f.length = (mem s.toNat).length) && f.all (withinB · 0 (size - 1))

theorem isFilling_any (m : Mz) (hm : m.ok = true) (s : Int) (hs : setB s = true) (f : List Int) (a1 a2 a3 : Option Addr) (c1 c2 c3 : Nat) (w : World) (h1 : Rd ED w a1 m.doors) (h2 : Rd EI w a2 m.keys) (h3 : Rd EI w a3 f) (hl : m.doors.length ≤ 9223372036854775807) (hl2 : m.keys.length ≤ 9223372036854775807) (hl3 : f.length ≤ 9223372036854775807) :
    Calls Try.prog 65 #[.agg #[.int .i64 m.size, .slice a1 m.doors.length c1, .slice a2 m.keys.length c2], .int .i64 s, .slice a3 f.length c3] w fun e w' => e = .returned (.bool (fillB m.size s f)) ∧ Ext w w' := by
  have hsn : 0 ≤ s ∧ s ≤ 63 := by
    simpa [← within_set, withinB] using hs
  obtain ⟨N, rfl⟩ : ∃ N : Nat, s = N := ⟨s.toNat, by omega⟩
  by_cases hq : f.length = (mem N).length
  · have dq : (((f.length : Nat) : Int) == (((mem N).length : Nat) : Int)) = true := by rw [beq_iff_eq, hq]
    have HQ := Lib.hid hq
    clear hq
    go_enter Try.func65, Try.ntmps65
    go_wp2_with fail
    refine (members_any N _ (by omega)).mono ?_
    rintro e w1 ⟨b, c, rfl, ho, x1⟩
    have hM : w1.heap[w.heap.size]? = some (.cells #[.int .i64 m.size, .slice a1 m.doors.length c1, .slice a2 m.keys.length c2] 30 (0, 0)) := x1.bk (hp_at rfl)
    obtain ⟨hM0, hM1, hM2, _, _, _⟩ := blk3 hM
    go_wp2_with fail
    refine (isNode_any m f a1 a2 a3 c1 c2 c3 _ (h1.ext (((Ext.rf _).al _).tr x1)) (h2.ext (((Ext.rf _).al _).tr x1)) (h3.ext (((Ext.rf _).al _).tr x1)) hl hl2 hl3).mono ?_
    rintro e w2 ⟨rfl, x2⟩
    go_wp2_with fail
    go_ret
    refine ⟨ret_bool ?_, (((Ext.rf _).al _).tr x1).tr x2⟩
    unfold fillB
    rw [show ((N : Int)).toNat = N from rfl]
    simp [HQ.out]
  · have dq : (((f.length : Nat) : Int) == (((mem N).length : Nat) : Int)) = false := by
      rw [beq_eq_false_iff_ne]; omega
    have HQ := Lib.hid hq
    clear hq
    go_enter Try.func65, Try.ntmps65
    go_wp2_with fail
    refine (members_any N _ (by omega)).mono ?_
    rintro e w1 ⟨b, c, rfl, ho, x1⟩
    go_wp2_with fail
    go_ret
    refine ⟨ret_bool ?_, ((Ext.rf _).al _).tr x1⟩
    unfold fillB
    rw [show ((N : Int)).toNat = N from rfl]
    simp [HQ.out]

set_option maxRecDepth 100000 in
set_option maxHeartbeats 1000000 in
theorem l9Filling_any (m : Mz) (hm : m.ok = true) (s : Int) (hs : setB s = true) (f : List Int) (a1 a2 a3 : Option Addr) (c1 c2 c3 : Nat) (w : World) (h3 : Rd EI w a3 f) (hl3 : f.length ≤ 9223372036854775807) :
    Calls Try.prog 121 #[.agg #[.int .i64 m.size, .slice a1 m.doors.length c1, .slice a2 m.keys.length c2], .int .i64 s, .slice a3 f.length c3] w fun e w' => e = .returned (.bool (fillB m.size s f)) ∧ Ext w w' := by
  have hsn : 0 ≤ s ∧ s ≤ 63 := by
    simpa [← within_set, withinB] using hs
  have hsz : 1 ≤ m.size ∧ m.size ≤ 12 := by
    simp [Mz.ok] at hm
    exact ⟨hm.1.1.1.1.1, hm.1.1.1.1.2⟩
  obtain ⟨N, rfl⟩ : ∃ N : Nat, s = N := ⟨s.toNat, by omega⟩
  clear hm hs
  go_enter Try.func121, Try.ntmps121
  go_wp2_with fail
  obtain ⟨W0, hW0⟩ : ∃ W0, W0 = w.alloc (.cells #[.int .i64 m.size, .slice a1 m.doors.length c1, .slice a2 m.keys.length c2] 30) := ⟨_, rfl⟩
  rw [← hW0]
  have e0 : Ext w W0 := by rw [hW0]; exact (Ext.rf _).al _
  have f0 : W0.cell? ⟨w.heap.size, 0, none⟩ = some (.int .i64 m.size) := by rw [hW0]; go_simp
  clear hW0
  go_loopw [7] (fun i wr => ∃ k : Nat, k ≤ f.length ∧ i = .int .i64 k ∧ Ext W0 wr ∧ (f.take k).all (withinB · 0 (m.size - 1)) = true) (fun i _ => f.length - (intOf i).toNat)
  case atStart => exact ⟨0, by omega, rfl, Ext.rf _, rfl⟩
  case round =>
    obtain ⟨k, hk, rfl, hx, hf⟩ := hrel
    have HF := Lib.hid hf
    clear hf
    by_cases hlt : k < f.length
    · obtain ⟨b, off, rfl, hc⟩ := h3.i (by omega)
      have q1 := hx.cl (e0.cl (hc k hlt))
      have g0 := hx.cl f0
      clear hc
      have k1 := cell_regrown q1
      have k2 := cell_regrown g0
      have hwr : IntKind.i64.wrap (m.size - 1) = m.size - 1 := IntWalk.i64_in _ ⟨by omega, by omega⟩
      cases t : withinB f[k] 0 (m.size - 1)
      · have HS : Hid (fillB m.size N f = false) := by
          show _ = _
          unfold fillB
          have : f.all (withinB · 0 (m.size - 1)) = false := by
            rw [List.all_eq_false]
            exact ⟨f[k], List.getElem_mem hlt, by simp [t]⟩
          rw [this, Bool.and_false]
        go_wp2_with fail
        refine quietExt (by kernel_rfl) (by kernel_rfl) ?_
        repeat (first | go_big_quiet_step ((go_at_call 73; exact callSame (l1In_any _ _ _ _))) | quiet_step ((go_at_call 73; exact callSame (l1In_any _ _ _ _))))
        refine wpQuiet_nil ?_
        intro w2 hx2
        go_wp2_with fail
        go_ret
        exact ⟨ret_bool HS.out.symm, (e0.tr hx).tr hx2⟩
      · have HS : Hid ((f.take (k + 1)).all (withinB · 0 (m.size - 1)) = true) := by
          show _ = _
          rw [List.take_succ_eq_append_getElem hlt, List.all_append, HF.out]
          simp [t]
        go_wp2_with fail
        refine quietExt (by kernel_rfl) (by kernel_rfl) ?_
        repeat (first | go_big_quiet_step ((go_at_call 73; exact callSame (l1In_any _ _ _ _))) | quiet_step ((go_at_call 73; exact callSame (l1In_any _ _ _ _))))
        refine wpQuiet_nil ?_
        intro w2 hx2
        go_wp2_with fail
        go_roundw
        case rel => exact ⟨k + 1, by omega, by go_num, hx.tr hx2, HS.out⟩
        case measure => simp [intOf]; omega
    · have HS : Hid (fillB m.size N f = decide (f.length = (mem N).length)) := by
        show _ = _
        have := HF.out
        rw [List.take_of_length_le (by omega)] at this
        unfold fillB
        rw [this, Bool.and_true, show ((N : Int)).toNat = N from rfl]
      have hd : (((f.length : Nat) : Int) == (((mem N).length : Nat) : Int)) = decide (f.length = (mem N).length) := by
        rw [Bool.eq_iff_iff, beq_iff_eq, decide_eq_true_eq]; omega
      have HD := Lib.hid hd
      clear hd
      go_wp2_with fail
      refine (l2Many_any N _ (by omega)).mono ?_
      rintro e w1 ⟨rfl, rfl⟩
      go_wp2_with fail
      go_ret
      refine ⟨ret_bool ?_, e0.tr hx⟩
      rw [HS.out]
      exact HD.out

/-- A question with a filling. -/
def goodB (m : Mz) (s : Int) (f : List Int) : Bool := (m.ok && setB s) && fillB m.size s f

theorem l9Good_any (m : Mz) (s : Int) (f : List Int) (a1 a2 a3 : Option Addr) (c1 c2 c3 : Nat) (w : World) (h1 : Rd ED w a1 m.doors) (h2 : Rd EI w a2 m.keys) (h3 : Rd EI w a3 f) (hl : m.doors.length ≤ 9223372036854775807) (hl2 : m.keys.length ≤ 9223372036854775807) (hl3 : f.length ≤ 9223372036854775807) :
    Calls Try.prog 59 #[.agg #[.int .i64 m.size, .slice a1 m.doors.length c1, .slice a2 m.keys.length c2], .int .i64 s, .slice a3 f.length c3] w fun e w' => e = .returned (.bool (goodB m s f)) ∧ Ext w w' := by
  cases hb : (m.ok && setB s)
  · have HS : Hid (goodB m s f = false) := by show _ = _; unfold goodB; rw [hb]; rfl
    have HB := Lib.hid hb
    clear hb
    go_enter Try.func59, Try.ntmps59
    go_wp2_with fail
    refine (l9Ask_any m s a1 a2 c1 c2 _ (h1.ext ((Ext.rf _).al _)) (h2.ext ((Ext.rf _).al _)) hl hl2).mono ?_
    rintro e w' ⟨rfl, x1⟩
    rw [HB.out]
    go_wp2_with fail
    go_ret
    exact ⟨ret_bool HS.out.symm, ((Ext.rf _).al _).tr x1⟩
  · have HS : Hid (goodB m s f = fillB m.size s f) := by show _ = _; unfold goodB; rw [hb]; rfl
    have HB := Lib.hid hb
    have hq : m.ok = true ∧ setB s = true := by simpa using hb
    clear hb
    have HQ := Lib.hid hq
    clear hq
    go_enter Try.func59, Try.ntmps59
    go_wp2_with fail
    refine (l9Ask_any m s a1 a2 c1 c2 _ (h1.ext ((Ext.rf _).al _)) (h2.ext ((Ext.rf _).al _)) hl hl2).mono ?_
    rintro e w1 ⟨rfl, x1⟩
    rw [HB.out]
    have hM : w1.heap[w.heap.size]? = some (.cells #[.int .i64 m.size, .slice a1 m.doors.length c1, .slice a2 m.keys.length c2] 30 (0, 0)) := x1.bk (hp_at rfl)
    obtain ⟨hM0, hM1, hM2, _, _, _⟩ := blk3 hM
    go_wp2_with fail
    refine (l9Filling_any m HQ.out.1 s HQ.out.2 f a1 a2 a3 c1 c2 c3 _ (h3.ext (((Ext.rf _).al _).tr x1)) hl3).mono ?_
    rintro e w2 ⟨rfl, x2⟩
    go_wp2_with fail
    go_ret
    exact ⟨ret_bool HS.out.symm, (((Ext.rf _).al _).tr x1).tr x2⟩

theorem l9Place_any (l : List Nat) (i : Nat) (hi : i < l.length) (hnd : l.Nodup) (v : Nat) (hv : v = l[i]) (a : Option Addr) (c : Nat) (w : World) (hr : Rd EN w a l) (hl : l.length ≤ 1000) :
    Calls Try.prog 125 #[.slice a l.length c, .int .i64 (v : Int)] w fun e w' => e = .returned (.int .i64 (i : Int)) ∧ w = w' := by
  obtain ⟨b, off, rfl, hc⟩ := hr.n (by omega)
  go_enter Try.func125, Try.ntmps125
  go_wp2_with fail
  go_loop [5] (fun x => ∃ k : Nat, k ≤ i ∧ x = .int .i64 k) (fun x => i - (intOf x).toNat)
  case atStart => exact ⟨0, by omega, rfl⟩
  case round =>
    obtain ⟨k, hk, rfl⟩ := hrel
    have hck := hc k (by omega)
    by_cases hlt : k = i
    · subst hlt
      have ht : ((l[k] : Int) != (v : Int)) = false := by subst hv; simp
      go_wp2_with fail
      go_ret
      exact ⟨rfl, rfl⟩
    · have ht : ((l[k] : Int) != (v : Int)) = true := by
        subst hv
        have := List.pairwise_iff_getElem.1 hnd k i (by omega) hi (by omega)
        simp only [bne_iff_ne, ne_eq, Int.natCast_inj]
        exact this
      go_wp2_with fail
      go_round
      case rel => exact ⟨k + 1, by omega, by go_num⟩
      case measure => simp [intOf]; omega

/-- Two entries swapped. -/
def swapL (f : List Nat) (i j : Nat) : List Nat := (f.set i (f.getD j 0)).set j (f.getD i 0)
theorem swapL_len (f : List Nat) (i j : Nat) : (swapL f i j).length = f.length := by simp [swapL]

set_option maxRecDepth 100000 in
set_option maxHeartbeats 1000000 in
theorem swapped_any (f : List Nat) (i j : Nat) (hi : i < f.length) (hj : j < f.length) (a : Option Addr) (c : Nat) (w : World) (hr : Rd EN w a f) (hl : f.length ≤ 1000) :
    Calls Try.prog 68 #[.slice a f.length c, .int .i64 (i : Int), .int .i64 (j : Int)] w fun e w' => ∃ a c, e = .returned (.slice a (swapL f i j).length c) ∧ Own EN 3 w' w.heap.size a c (swapL f i j) ∧ Ext w w' := by
  go_enter Try.func68, Try.ntmps68
  go_wp2_with fail
  refine (cloneI_any elemN f a c _ hr (by omega)).mono ?_
  rintro e w1 ⟨b, d, rfl, o1, x1⟩
  obtain ⟨g, off, hbe, hg1, hg2, hci, hfi⟩ := o1.nAt i hi
  obtain ⟨g', off', hbe', _, _, hcj, hfj⟩ := o1.nAt j hj
  subst hbe
  cases hbe'
  have HS : Hid (swapL f i j = (f.set i f[j]).set j f[i]) := by
    show _ = _
    unfold swapL
    simp [List.getD_eq_getElem?_getD, hi, hj]
  have o2 := (o1.setN i hi f[j])
  have o3 := (o2.1.setN j (by simpa using hj) f[i])
  obtain ⟨g2, off2, hb2, _, _, hc2, hf2⟩ := o2.1.nAt j (by simpa using hj)
  cases hb2
  obtain ⟨z, hz⟩ : ∃ z, z = (f.set i f[j])[j]'(by simpa using hj) := ⟨_, rfl⟩
  rw [← hz] at hc2
  clear hz
  have x3 := x1.cs (p := ⟨g, off + i, none⟩) hg1 (.int .i64 (f[j] : Int))
  obtain ⟨u, hu⟩ : ∃ u, u = f[i] := ⟨_, rfl⟩
  obtain ⟨v, hv⟩ : ∃ v, v = f[j] := ⟨_, rfl⟩
  rw [← hu, ← hv] at HS
  rw [← hu] at hci o3
  rw [← hv] at hcj o2 o3 x3 hc2 hf2
  clear hu hv
  go_wp2_with fail
  go_region
  go_wp2_with fail
  go_ret
  refine ⟨some ⟨g, off, none⟩, d, by rw [swapL_len]; rfl, ?_, (x3.cs (p := ⟨g, off + j, none⟩) hg1 _).dr⟩
  rw [HS.out]
  exact o3.1.dr

theorem mem_nodup (N : Nat) : (mem N).Nodup := by
  unfold mem
  exact List.Pairwise.sublist List.filter_sublist List.nodup_range

set_option maxRecDepth 100000 in
set_option maxHeartbeats 1000000 in
theorem l9Swap_any (N : Nat) (L : List Nat) (hL : L = mem N) (hN : N ≤ 63) (f : List Nat) (i j : Nat) (hi : i < L.length) (hj : j < L.length) (hfl : f.length = L.length) (ci cj : Nat) (hci : ci = L[i]) (hcj : cj = L[j]) (a : Option Addr) (c : Nat) (w : World) (hr : Rd EN w a f) (hl : f.length ≤ 1000) :
    Calls Try.prog 62 #[.int .i64 (N : Int), .slice a f.length c, .int .i64 (ci : Int), .int .i64 (cj : Int)] w fun e w' => ∃ a c, e = .returned (.slice a (swapL f i j).length c) ∧ Own EN 3 w' w.heap.size a c (swapL f i j) ∧ Ext w w' := by
  have hif : i < f.length := by omega
  have hjf : j < f.length := by omega
  have hm6 : L.length ≤ 6 := by rw [hL]; exact mem_len_le (b := 6) (by omega) (by omega)
  have HFL := Lib.hid hfl
  clear hfl
  have hnd : L.Nodup := by rw [hL]; exact mem_nodup N
  have hcol := l2Colours_any N
  rw [← hL] at hcol
  clear hL
  have HCI := Lib.hid hci
  have HCJ := Lib.hid hcj
  clear hci hcj
  go_enter Try.func62, Try.ntmps62
  go_wp2_with fail
  refine (l1Own_any elemN f a c _ hr (by omega)).mono ?_
  rintro e w1 ⟨b, d, rfl, o1, x1⟩
  go_wp2_with fail
  refine (hcol _ (by omega)).mono ?_
  rintro e w2 ⟨b2, d2, rfl, o2, x2⟩
  go_wp2_with fail
  refine (l9Place_any L i hi hnd ci HCI.out b2 d2 _ o2.rd (by omega)).mono ?_
  rintro e w3 ⟨rfl, rfl⟩
  go_wp2_with fail
  refine (l9Place_any L j hj hnd cj HCJ.out b2 d2 _ o2.rd (by omega)).mono ?_
  rintro e w3 ⟨rfl, rfl⟩
  have o1 := o1.ext x2
  obtain ⟨g, off, hbe, hg1, hg2, hci, hfi⟩ := o1.nAt i hif
  obtain ⟨g', off', hbe', _, _, hcj, hfj⟩ := o1.nAt j hjf
  subst hbe
  cases hbe'
  have hr2 := hr
  obtain ⟨ab, ao, rfl, hn⟩ := (hr.ext (x1.tr x2)).n (by omega)
  have hn1 := hn i hif
  have hn2 := hn j hjf
  clear hn
  have HS : Hid (swapL f i j = (f.set i f[j]).set j f[i]) := by
    show _ = _
    unfold swapL
    simp [List.getD_eq_getElem?_getD, hif, hjf]
  have o2 := (o1.setN i hif f[j])
  have o3 := (o2.1.setN j (by simpa using hjf) f[i])
  obtain ⟨g2, off2, hb2, _, _, hc2, hf2⟩ := o2.1.nAt j (by simpa using hjf)
  cases hb2
  obtain ⟨z, hz⟩ : ∃ z, z = (f.set i f[j])[j]'(by simpa using hjf) := ⟨_, rfl⟩
  rw [← hz] at hc2
  clear hz
  have x3 := (x1.tr x2).cs (p := ⟨g, off + i, none⟩) hg1 (.int .i64 (f[j] : Int))
  obtain ⟨ab', ao', hab, hn'⟩ := (hr2.ext x3).n (by omega)
  cases hab
  have hn3 := hn' i hif
  clear hn' hr2
  obtain ⟨u, hu⟩ : ∃ u, u = f[i] := ⟨_, rfl⟩
  obtain ⟨v, hv⟩ : ∃ v, v = f[j] := ⟨_, rfl⟩
  rw [← hu, ← hv] at HS
  rw [← hu] at hn1 hn3 hci o3
  rw [← hv] at hn2 hcj o2 o3 x3 hc2 hf2 hn3
  clear hu hv hcj
  go_wp2_with fail
  go_ret
  refine ⟨some ⟨g, off, none⟩, d, by rw [swapL_len]; rfl, ?_, (x3.cs (p := ⟨g, off + j, none⟩) hg1 _)⟩
  rw [HS.out]
  exact o3.1

end Go.Proofs.Ytkdncpglgdiicaa
