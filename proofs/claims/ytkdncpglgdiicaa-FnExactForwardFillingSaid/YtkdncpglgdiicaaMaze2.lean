/- The reference's look at a maze: what it tells. -/
import Derived.Test.YtkdncpglgdiicaaMaze1
namespace Go.Proofs.Ytkdncpglgdiicaa
open Go Go.RowKit Go.Sort

theorem l1In_any (n lo hi : Int) (w : World) :
    Calls Try.prog 73 #[.int .i64 n, .int .i64 lo, .int .i64 hi] w fun e w' => e = .returned (.bool (withinB n lo hi)) ∧ w = w' := by
  by_cases h1 : lo ≤ n
  · go_enter Try.func73, Try.ntmps73
    go_wp2
    go_ret
    exact ⟨by simp [withinB, h1], rfl⟩
  · have h1' : decide (lo ≤ n) = false := by simpa using h1
    go_enter Try.func73, Try.ntmps73
    go_wp2
    go_ret
    exact ⟨by simp [withinB, h1'], rfl⟩

theorem l2Set_any (n : Int) (w : World) :
    Calls Try.prog 175 #[.int .i64 n] w fun e w' => e = .returned (.bool (setB n)) ∧ w = w' := by
  go_enter Try.func175, Try.ntmps175
  go_wp2_with (go_at_call 73; refine (l1In_any _ _ _ _).mono ?_; rintro e w' ⟨rfl, rfl⟩)
  go_ret
  exact ⟨ret_bool rfl, rfl⟩

set_option maxRecDepth 100000 in
set_option maxHeartbeats 1000000 in
theorem l2Before_any (d e : Door) (w : World) :
    Calls Try.prog 181 #[.agg #[.int .i64 d.1, .int .i64 d.2.1, .int .i64 d.2.2], .agg #[.int .i64 e.1, .int .i64 e.2.1, .int .i64 e.2.2]] w fun en w' => en = .returned (.bool (dlt d e)) ∧ Ext w w' := by
  by_cases h1 : d.1 = e.1
  · have h1' : (d.1 != e.1) = false := by simpa using h1
    by_cases h2 : d.2.1 = e.2.1
    · have h2' : (d.2.1 != e.2.1) = false := by simpa using h2
      by_cases h3 : d.2.2 = e.2.2
      · have h3' : (d.2.2 != e.2.2) = false := by simpa using h3
        have HV : Hid (dlt d e = false) := by show _ = _; simp [dlt, h1, h2, h3]
        clear h1 h2 h3
        go_enter Try.func181, Try.ntmps181
        go_wp2_with fail
        refine wp_loop_rounds 4 ?_
        iterate 4
          try simp only [rounds_succ]
          go_wp2_with fail
          try (go_quiet (fail); go_wp2_with fail)
          try (go_quiet (fail); go_wp2_with fail)
        go_ret
        refine ⟨ret_bool HV.out.symm, ?_⟩
        repeat (first | apply Ext.drN | apply Ext.dr | apply Ext.al)
        exact Ext.rf _
      · have h3' : (d.2.2 != e.2.2) = true := by simpa using h3
        have HV : Hid (dlt d e = decide (d.2.2 < e.2.2)) := by show _ = _; simp [dlt, h1, h2]
        clear h1 h2 h3
        go_enter Try.func181, Try.ntmps181
        go_wp2_with fail
        refine wp_loop_rounds 4 ?_
        iterate 4
          try simp only [rounds_succ]
          go_wp2_with fail
          try (go_quiet (fail); go_wp2_with fail)
          try (go_quiet (fail); go_wp2_with fail)
        go_ret
        refine ⟨ret_bool HV.out.symm, ?_⟩
        repeat (first | apply Ext.drN | apply Ext.dr | apply Ext.al)
        exact Ext.rf _
    · have h2' : (d.2.1 != e.2.1) = true := by simpa using h2
      have HV : Hid (dlt d e = decide (d.2.1 < e.2.1)) := by show _ = _; simp [dlt, h1, h2]
      clear h1 h2
      go_enter Try.func181, Try.ntmps181
      go_wp2_with fail
      refine wp_loop_rounds 4 ?_
      iterate 4
        try simp only [rounds_succ]
        go_wp2_with fail
        try (go_quiet (fail); go_wp2_with fail)
        try (go_quiet (fail); go_wp2_with fail)
      go_ret
      refine ⟨ret_bool HV.out.symm, ?_⟩
      repeat (first | apply Ext.drN | apply Ext.dr | apply Ext.al)
      exact Ext.rf _
  · have h1' : (d.1 != e.1) = true := by simpa using h1
    have HV : Hid (dlt d e = decide (d.1 < e.1)) := by show _ = _; simp [dlt, h1]
    clear h1
    go_enter Try.func181, Try.ntmps181
    go_wp2_with fail
    refine wp_loop_rounds 4 ?_
    iterate 4
      try simp only [rounds_succ]
      go_wp2_with fail
      try (go_quiet (fail); go_wp2_with fail)
      try (go_quiet (fail); go_wp2_with fail)
    go_ret
    refine ⟨ret_bool HV.out.symm, ?_⟩
    repeat (first | apply Ext.drN | apply Ext.dr | apply Ext.al)
    exact Ext.rf _

set_option maxRecDepth 100000 in
set_option maxHeartbeats 1000000 in
theorem l2Maze_any (m : Mz) (a1 a2 : Option Addr) (c1 c2 : Nat) (w : World) (h1 : Rd ED w a1 m.doors) (h2 : Rd EI w a2 m.keys) (hl : m.doors.length ≤ 9223372036854775807) (hl2 : m.keys.length ≤ 9223372036854775807) :
    Calls Try.prog 132 #[.agg #[.int .i64 m.size, .slice a1 m.doors.length c1, .slice a2 m.keys.length c2]] w fun e w' => e = .returned (.bool m.ok) ∧ Ext w w' := by
  by_cases b1 : withinB m.size 1 12 = true
  · by_cases b2 : 30 < m.doors.length
    · have d2 : decide (30 < m.doors.length) = true := by simpa using b2
      have HO : Hid (m.ok = false) := by
        show m.ok = false
        simp [Mz.ok, Nat.not_le_of_lt b2]
      go_enter Try.func132, Try.ntmps132
      go_wp2_with (go_at_call 73; refine (l1In_any _ _ _ _).mono ?_; rintro e w' ⟨rfl, rfl⟩)
      go_ret
      exact ⟨ret_bool HO.out.symm, (Ext.rf _).al _⟩
    · have d2 : decide (30 < m.doors.length) = false := by simpa using b2
      by_cases b3 : (m.keys.length : Int) = m.size
      · have d3 : ((m.keys.length : Int) != m.size) = false := by simpa using b3
        have hs : 1 ≤ m.size ∧ m.size ≤ 12 := by simpa [withinB] using b1
        obtain ⟨hs1, hs2⟩ := hs
        have HM : Hid (∀ ok', ok' = ((List.range m.doors.length).all (doorB m.size m.doors) && m.keys.all setB) → m.ok = ok') := by
          intro ok' h
          subst h
          simp [Mz.ok, hs1, hs2, Nat.le_of_not_lt b2, b3]
        have H3 := Lib.hid b3
        clear b3
        have HW1 : IntKind.i64.wrap (m.size - 1) = m.size - 1 := IntWalk.i64_in _ (by omega)
        go_enter Try.func132, Try.ntmps132
        go_wp2_with (go_at_call 73; refine (l1In_any _ _ _ _).mono ?_; rintro e w' ⟨rfl, rfl⟩)
        obtain ⟨W0, hW0⟩ : ∃ W0, W0 = w.alloc (.cells #[.int .i64 m.size, .slice a1 m.doors.length c1, .slice a2 m.keys.length c2] 30) := ⟨_, rfl⟩
        rw [← hW0]
        have e0 : Ext w W0 := by rw [hW0]; exact (Ext.rf _).al _
        have f0 : W0.cell? ⟨w.heap.size, 0, none⟩ = some (.int .i64 m.size) := by rw [hW0]; go_simp
        have f1 : W0.cell? ⟨w.heap.size, 1, none⟩ = some (.slice a1 m.doors.length c1) := by rw [hW0]; go_simp
        have f2 : W0.cell? ⟨w.heap.size, 2, none⟩ = some (.slice a2 m.keys.length c2) := by rw [hW0]; go_simp
        clear hW0
        go_loopw [3] (fun i wr => ∃ k : Nat, k ≤ m.doors.length ∧ i = .int .i64 k ∧ Ext W0 wr ∧ (List.range k).all (doorB m.size m.doors) = true) (fun i _ => m.doors.length - (intOf i).toNat)
        case atStart => exact ⟨0, by omega, rfl, Ext.rf _, by simp⟩
        case round =>
          obtain ⟨k, hk, rfl, hx, hf⟩ := hrel
          have HF := Lib.hid hf
          clear hf
          have g0 := hx.cl f0
          have g1 := hx.cl f1
          have g2 := hx.cl f2
          clear f0 f1 f2
          by_cases hlt : k < m.doors.length
          · obtain ⟨b, off, rfl, hc⟩ := h1.d (by omega)
            have hc1 := fun j (h : j < m.doors.length) => hx.cl (e0.cl (hc j h).1)
            have hc2 := fun j (h : j < m.doors.length) => hx.cl (e0.cl (hc j h).2.1)
            have hc3 := fun j (h : j < m.doors.length) => hx.cl (e0.cl (hc j h).2.2)
            have q1 := hc1 k hlt
            have q2 := hc2 k hlt
            have q3 := hc3 k hlt
            have HP1 : 0 < k → ∃ e, e = m.doors[k - 1] ∧ wr.cell? ⟨b, off + (k - 1) * 3, none⟩ = some (.int .i64 e.1) ∧ wr.cell? ⟨b, off + (k - 1) * 3 + 1, none⟩ = some (.int .i64 e.2.1) ∧ wr.cell? ⟨b, off + (k - 1) * 3 + 2, none⟩ = some (.int .i64 e.2.2) :=
              fun h => ⟨_, rfl, hc1 (k - 1) (by omega), hc2 (k - 1) (by omega), hc3 (k - 1) (by omega)⟩
            have HP := Lib.hid HP1
            clear HP1 hc1 hc2 hc3 hc
            have HB : Hid (doorB m.size m.doors k = (decide (0 ≤ m.doors[k].1) && decide (m.doors[k].1 < m.doors[k].2.1) && decide (m.doors[k].2.1 < m.size) && setB m.doors[k].2.2 && (k == 0 || match m.doors[k - 1]? with | some e => dlt e m.doors[k] | none => true))) := by
              show _ = _
              unfold doorB
              rw [List.getElem?_eq_getElem hlt]
              rfl
            have HN : Hid (doorB m.size m.doors k = false → (List.range m.doors.length).all (doorB m.size m.doors) = false) := by
              intro h
              rw [List.all_eq_false]
              exact ⟨k, by simpa using hlt, by simp [h]⟩
            have HS : Hid (doorB m.size m.doors k = true → (List.range (k + 1)).all (doorB m.size m.doors) = true) := by
              intro h
              rw [List.range_succ, List.all_append, HF.out]
              simp [h]
            obtain ⟨d, hd⟩ : ∃ d, d = m.doors[k] := ⟨_, rfl⟩
            rw [← hd] at q1 q2 q3 HB
            clear hd
            go_wp2_with fail
            obtain ⟨W1, hW1⟩ : ∃ W1, W1 = wr.alloc (.cells #[.int .i64 d.1, .int .i64 d.2.1, .int .i64 d.2.2] 140) := ⟨_, rfl⟩
            rw [← hW1]
            have e1 : Ext wr W1 := by rw [hW1]; exact (Ext.rf _).al _
            have p0 : W1.cell? ⟨wr.heap.size, 0, none⟩ = some (.int .i64 d.1) := by rw [hW1]; go_simp
            have p1 : W1.cell? ⟨wr.heap.size, 1, none⟩ = some (.int .i64 d.2.1) := by rw [hW1]; go_simp
            have p2 : W1.cell? ⟨wr.heap.size, 2, none⟩ = some (.int .i64 d.2.2) := by rw [hW1]; go_simp
            clear hW1
            have k0 := cell_regrown p0
            have k1 := cell_regrown p1
            have k2 := cell_regrown p2
            have k3 := cell_regrown (e1.cl g0)
            have k4 := cell_regrown (e1.cl g1)
            clear q1 q2 q3 p0 p1 p2
            cases t1 : withinB d.1 0 (m.size - 1)
            · have HV : Hid (doorB m.size m.doors k = false) := by
                show _ = _
                rw [HB.out]
                simp only [withinB, Bool.and_eq_false_iff, decide_eq_false_iff_not] at t1
                by_cases h : 0 ≤ d.1 ∧ d.1 < d.2.1 ∧ d.2.1 < m.size
                · omega
                · simp only [Bool.and_eq_false_iff, decide_eq_false_iff_not]
                  omega
              refine quietExt (by kernel_rfl) (by kernel_rfl) ?_
              repeat (first | go_big_quiet_step (first | (go_at_call 73; exact callSame (l1In_any _ _ _ _)) | (go_at_call 175; exact callSame (l2Set_any _ _)) | (go_at_call 181; exact callExt (l2Before_any _ _ _))) | quiet_step (first | (go_at_call 73; exact callSame (l1In_any _ _ _ _)) | (go_at_call 175; exact callSame (l2Set_any _ _)) | (go_at_call 181; exact callExt (l2Before_any _ _ _))))
              refine wpQuiet_nil ?_
              intro w2 hx2
              go_wp2_with fail
              go_ret
              exact ⟨ret_bool (by rw [HM.out _ rfl, HN.out HV]; rfl), ((e0.tr hx).tr e1).tr hx2⟩
            · have hb1 : 0 ≤ d.1 ∧ d.1 ≤ m.size - 1 := by simpa [withinB] using t1
              obtain ⟨hb1, hb2⟩ := hb1
              have HW2 : IntKind.i64.wrap (d.1 + 1) = d.1 + 1 := IntWalk.i64_in _ (by omega)
              cases t2 : withinB d.2.1 (d.1 + 1) (m.size - 1)
              · have HV : Hid (doorB m.size m.doors k = false) := by
                  show _ = _
                  rw [HB.out]
                  simp only [withinB, Bool.and_eq_false_iff, decide_eq_false_iff_not] at t2
                  simp only [Bool.and_eq_false_iff, decide_eq_false_iff_not]
                  omega
                refine quietExt (by kernel_rfl) (by kernel_rfl) ?_
                repeat (first | go_big_quiet_step (first | (go_at_call 73; exact callSame (l1In_any _ _ _ _)) | (go_at_call 175; exact callSame (l2Set_any _ _)) | (go_at_call 181; exact callExt (l2Before_any _ _ _))) | quiet_step (first | (go_at_call 73; exact callSame (l1In_any _ _ _ _)) | (go_at_call 175; exact callSame (l2Set_any _ _)) | (go_at_call 181; exact callExt (l2Before_any _ _ _))))
                refine wpQuiet_nil ?_
                intro w2 hx2
                go_wp2_with fail
                go_ret
                exact ⟨ret_bool (by rw [HM.out _ rfl, HN.out HV]; rfl), ((e0.tr hx).tr e1).tr hx2⟩
              · have hb3 : d.1 + 1 ≤ d.2.1 ∧ d.2.1 ≤ m.size - 1 := by simpa [withinB] using t2
                cases t4 : setB d.2.2
                · have HV : Hid (doorB m.size m.doors k = false) := by show _ = _; rw [HB.out, t4]; simp
                  refine quietExt (by kernel_rfl) (by kernel_rfl) ?_
                  repeat (first | go_big_quiet_step (first | (go_at_call 73; exact callSame (l1In_any _ _ _ _)) | (go_at_call 175; exact callSame (l2Set_any _ _)) | (go_at_call 181; exact callExt (l2Before_any _ _ _))) | quiet_step (first | (go_at_call 73; exact callSame (l1In_any _ _ _ _)) | (go_at_call 175; exact callSame (l2Set_any _ _)) | (go_at_call 181; exact callExt (l2Before_any _ _ _))))
                  refine wpQuiet_nil ?_
                  intro w2 hx2
                  go_wp2_with fail
                  go_ret
                  exact ⟨ret_bool (by rw [HM.out _ rfl, HN.out HV]; rfl), ((e0.tr hx).tr e1).tr hx2⟩
                · by_cases t5 : 0 < k
                  · have t5' : decide (0 < k) = true := by simpa using t5
                    obtain ⟨e, he, r1, r2, r3⟩ := HP.out t5
                    have HE := Lib.hid he
                    clear he
                    have k5 := cell_regrown (e1.cl r1)
                    have k6 := cell_regrown (e1.cl r2)
                    have k7 := cell_regrown (e1.cl r3)
                    clear r1 r2 r3
                    cases t6 : dlt e d
                    · have HV : Hid (doorB m.size m.doors k = false) := by
                        show _ = _
                        rw [HB.out, List.getElem?_eq_getElem (by omega), ← HE.out]
                        simp [t6]
                        omega
                      refine quietExt (by kernel_rfl) (by kernel_rfl) ?_
                      repeat (first | go_big_quiet_step (first | (go_at_call 73; exact callSame (l1In_any _ _ _ _)) | (go_at_call 175; exact callSame (l2Set_any _ _)) | (go_at_call 181; exact callExt (l2Before_any _ _ _))) | quiet_step (first | (go_at_call 73; exact callSame (l1In_any _ _ _ _)) | (go_at_call 175; exact callSame (l2Set_any _ _)) | (go_at_call 181; exact callExt (l2Before_any _ _ _))))
                      refine wpQuiet_nil ?_
                      intro w2 hx2
                      go_wp2_with fail
                      go_ret
                      exact ⟨ret_bool (by rw [HM.out _ rfl, HN.out HV]; rfl), ((e0.tr hx).tr e1).tr hx2⟩
                    · have HV : Hid (doorB m.size m.doors k = true) := by
                        show _ = _
                        rw [HB.out, t4, List.getElem?_eq_getElem (by omega), ← HE.out]
                        simp [t6]
                        omega
                      refine quietExt (by kernel_rfl) (by kernel_rfl) ?_
                      repeat (first | go_big_quiet_step (first | (go_at_call 73; exact callSame (l1In_any _ _ _ _)) | (go_at_call 175; exact callSame (l2Set_any _ _)) | (go_at_call 181; exact callExt (l2Before_any _ _ _))) | quiet_step (first | (go_at_call 73; exact callSame (l1In_any _ _ _ _)) | (go_at_call 175; exact callSame (l2Set_any _ _)) | (go_at_call 181; exact callExt (l2Before_any _ _ _))))
                      refine wpQuiet_nil ?_
                      intro w2 hx2
                      go_wp2_with fail
                      go_roundw
                      case rel => exact ⟨k + 1, by omega, by go_num, (hx.tr e1).tr hx2, HS.out HV⟩
                      case measure => simp [intOf]; omega
                  · have t5' : decide (0 < k) = false := by simpa using t5
                    have HV : Hid (doorB m.size m.doors k = true) := by
                      show _ = _
                      rw [HB.out, t4]
                      simp
                      omega
                    refine quietExt (by kernel_rfl) (by kernel_rfl) ?_
                    repeat (first | go_big_quiet_step (first | (go_at_call 73; exact callSame (l1In_any _ _ _ _)) | (go_at_call 175; exact callSame (l2Set_any _ _)) | (go_at_call 181; exact callExt (l2Before_any _ _ _))) | quiet_step (first | (go_at_call 73; exact callSame (l1In_any _ _ _ _)) | (go_at_call 175; exact callSame (l2Set_any _ _)) | (go_at_call 181; exact callExt (l2Before_any _ _ _))))
                    refine wpQuiet_nil ?_
                    intro w2 hx2
                    go_wp2_with fail
                    go_roundw
                    case rel => exact ⟨k + 1, by omega, by go_num, (hx.tr e1).tr hx2, HS.out HV⟩
                    case measure => simp [intOf]; omega
          · have HK : Hid (k = m.doors.length) := by show _ = _; omega
            go_wp2_with fail
            obtain ⟨wo, rfl⟩ : ∃ wo : World, wo = wr := ⟨_, rfl⟩
            go_loopw [5] (fun i wr => ∃ q : Nat, q ≤ m.keys.length ∧ i = .int .i64 q ∧ Ext wo wr ∧ (m.keys.take q).all setB = true) (fun i _ => m.keys.length - (intOf i).toNat)
            case atStart => exact ⟨0, by omega, rfl, Ext.rf _, by simp⟩
            case round =>
              obtain ⟨q, hq, rfl, hy, hfq⟩ := hrel
              have HFQ := Lib.hid hfq
              clear hfq
              have gg0 := hy.cl g0
              have gg2 := hy.cl g2
              clear g0 g1 g2
              have h3 := H3.out
              by_cases hlt : q < m.keys.length
              · have hlt' : (q : Int) < m.size := by omega
                clear h3
                obtain ⟨b, off, rfl, hc⟩ := h2.i (by omega)
                have hc1 := hy.cl (hx.cl (e0.cl (hc q hlt)))
                clear hc
                have HT : Hid ((m.keys.take (q + 1)).all setB = setB m.keys[q]) := by
                  show _ = _
                  rw [List.take_succ_eq_append_getElem hlt, List.all_append, HFQ.out]
                  simp
                cases t : setB m.keys[q]
                · have HN : Hid (m.keys.all setB = false) := by
                    show _ = _
                    rw [List.all_eq_false]
                    exact ⟨_, List.getElem_mem hlt, by simp [t]⟩
                  go_wp2_with (go_at_call 175; refine (l2Set_any _ _).mono ?_; rintro e w' ⟨rfl, rfl⟩)
                  go_ret
                  exact ⟨ret_bool (by rw [HM.out _ rfl, HN.out, Bool.and_false]), (e0.tr hx).tr hy⟩
                · go_wp2_with (go_at_call 175; refine (l2Set_any _ _).mono ?_; rintro e w' ⟨rfl, rfl⟩)
                  go_roundw
                  case rel => exact ⟨q + 1, by omega, by go_num, hy, by rw [HT.out, t]⟩
                  case measure => simp [intOf]; omega
              · have hge : m.size ≤ (q : Int) := by omega
                clear h3
                go_wp2_with fail
                go_ret
                refine ⟨ret_bool ?_, (e0.tr hx).tr hy⟩
                have hqq : q = m.keys.length := by omega
                have hf := HF.out
                rw [HK.out] at hf
                have hfq := HFQ.out
                rw [hqq, List.take_length] at hfq
                rw [HM.out _ rfl, hf, hfq]
                rfl
      · have d3 : ((m.keys.length : Int) != m.size) = true := by simpa using b3
        have HO : Hid (m.ok = false) := by
          show m.ok = false
          simp [Mz.ok, b3]
        clear b3
        go_enter Try.func132, Try.ntmps132
        go_wp2_with (go_at_call 73; refine (l1In_any _ _ _ _).mono ?_; rintro e w' ⟨rfl, rfl⟩)
        go_ret
        exact ⟨ret_bool HO.out.symm, (Ext.rf _).al _⟩
  · have b1' : withinB m.size 1 12 = false := by simpa using b1
    have HO : Hid (m.ok = false) := by
      show m.ok = false
      simp only [withinB, Bool.and_eq_true, decide_eq_true_eq, not_and] at b1
      by_cases h : 1 ≤ m.size
      · simp [Mz.ok, b1 h]
      · simp [Mz.ok, h]
    clear b1
    go_enter Try.func132, Try.ntmps132
    go_wp2_with (go_at_call 73; refine (l1In_any _ _ _ _).mono ?_; rintro e w' ⟨rfl, rfl⟩)
    go_ret
    exact ⟨ret_bool HO.out.symm, (Ext.rf _).al _⟩

end Go.Proofs.Ytkdncpglgdiicaa
