/- IsMaze of the program: what it tells. -/
import Derived.Test.YtkdncpglgdiicaaBase
import Derived.Test.YtkdncpglgdiicaaPure
namespace Go.Proofs.Ytkdncpglgdiicaa
open Go Go.RowKit Go.Sort

theorem quietExt {P : Program} {id : Nat} {Q : Exit → Act → World → Prop} {a : Act} {w : World} {l : List Oper} (hm : P.follows .mixedOrders = true) (hB : Region.lexB .any l.toArray = true)
    (h : wpQuiet P l.toArray (fun w' => ∃ p : Regrown, w' = grow (redrawn w p.d) p.os) (fun a' => ∀ w', Ext w w' → Q .normal a' w') l a) : (Code.region id l.toArray true).wp P Q a w := by
  refine wp_region_quiet_below hm hB ?_
  have e : (fun a' => ∀ w', Ext w w' → Q .normal a' w') = (fun a' => ∀ w', (∃ p : Regrown, w' = grow (redrawn w p.d) p.os) → Q .normal a' w') := by
    funext a'
    refine propext ⟨fun h w' hw => ?_, fun h w' hw => h w' (regrown_of_below hw)⟩
    obtain ⟨p, rfl⟩ := hw
    exact h _ (below_regrown _ _ _)
  rw [← e]
  exact h

theorem callExt {P : Program} {f : FuncId} {args : Array Value} {w : World} {d : Nat} {os : Array Obj} {v : Value}
    (h : Calls P f args (grow (redrawn w d) os) fun e w' => e = .returned v ∧ Ext (grow (redrawn w d) os) w') : Calls P f args (grow (redrawn w d) os) fun e w'' => e = .returned v ∧ ∃ p : Regrown, w'' = grow (redrawn w p.d) p.os :=
  Calls.regrown_of h
theorem callSame {P : Program} {f : FuncId} {args : Array Value} {w : World} {d : Nat} {os : Array Obj} {v : Value}
    (h : Calls P f args (grow (redrawn w d) os) fun e w' => e = .returned v ∧ grow (redrawn w d) os = w') : Calls P f args (grow (redrawn w d) os) fun e w'' => e = .returned v ∧ ∃ p : Regrown, w'' = grow (redrawn w p.d) p.os :=
  callExt (h.mono fun _ _ ⟨a, b⟩ => ⟨a, by subst b; exact Ext.rf _⟩)

/-- IndexFunc over whole numbers, at a predicate that only looks. -/
theorem isMazeF_any (k : Int) (w : World) :
    Calls Try.prog 178 #[.int .i64 k] w fun e w' => e = .returned (.bool (!withinB k 0 63)) ∧ w = w' := by
  go_enter Try.func178, Try.ntmps178
  go_wp2_with (go_at_call 128; refine (isSet_any _ _).mono ?_; rintro e w' ⟨rfl, rfl⟩)
  go_ret
  exact ⟨rfl, rfl⟩

/-- The first place where the predicate says yes, from i on. -/
def idxF (p : Int → Bool) : List Int → Int → Int
  | [], _ => -1
  | x :: l, i => if p x then i else idxF p l (i + 1)
theorem idxF_ge (p : Int → Bool) (l : List Int) (i : Int) (h : 0 ≤ i) : decide (0 ≤ idxF p l i) = l.any p := by
  induction l generalizing i with
  | nil => simp [idxF]
  | cons x l ih =>
    unfold idxF
    by_cases hx : p x
    · simp [hx, h]
    · simp [hx, ih (i + 1) (by omega)]

set_option maxRecDepth 100000 in
theorem indexFunc_any (n : Nat) (caps : Array Value) (p : Int → Bool) (a : Option Addr) (c : Nat) (l : List Int) (w : World) (hl : l.length ≤ 9223372036854775807) (hr : Rd EI w a l) (hn : Enters Try.prog n)
    (hp : ∀ x w', Ext w w' → Calls Try.prog n (#[.int .i64 x] ++ caps) w' fun e w'' => e = .returned (.bool (p x)) ∧ Ext w' w'') :
    Calls Try.prog 196 #[.slice a l.length c, .func (.func n) #[] caps] w fun e w' => e = .returned (.int .i64 (idxF p l 0)) ∧ Ext w w' := by
  have HP := Lib.hid hp
  clear hp
  unfold Enters at hn
  go_enter Try.func196, Try.ntmps196
  go_wp2_with fail
  go_loopw [8] (fun i wr => ∃ k : Nat, k ≤ l.length ∧ i = .int .i64 k ∧ Ext w wr ∧ idxF p l 0 = idxF p (l.drop k) k) (fun i _ => l.length - (intOf i).toNat)
  case atStart => exact ⟨0, by omega, rfl, Ext.rf _, by simp⟩
  case round =>
    obtain ⟨k, hk, rfl, hx, hf⟩ := hrel
    have HF := Lib.hid hf
    clear hf
    by_cases hlt : k < l.length
    · obtain ⟨b, off, rfl, hc⟩ := hr.i (by omega)
      have hc1 := hx.cl (hc k hlt)
      clear hc
      have HD : Hid (idxF p (l.drop k) k = if p l[k] = true then (k : Int) else idxF p (l.drop (k + 1)) (k + 1)) := by
        rw [List.drop_eq_getElem_cons hlt]; rfl
      go_wp2_with fail
      refine (HP.out l[k] _ hx).mono ?_
      rintro e w1 ⟨rfl, hx1⟩
      cases hpk : p l[k]
      · go_wp2_with fail
        go_roundw
        case rel => exact ⟨k + 1, by omega, by go_num, hx.tr hx1, by rw [HF.out, HD.out, hpk]; rfl⟩
        case measure => simp [intOf]; omega
      · go_wp2_with fail
        go_ret
        exact ⟨by rw [HF.out, HD.out, hpk]; rfl, hx.tr hx1⟩
    · go_wp2_with fail
      go_ret
      refine ⟨?_, hx⟩
      rw [HF.out, List.drop_eq_nil_of_le (by omega)]
      rfl

theorem containsFunc_any (n : Nat) (caps : Array Value) (p : Int → Bool) (a : Option Addr) (c : Nat) (l : List Int) (w : World) (hl : l.length ≤ 9223372036854775807) (hr : Rd EI w a l) (hn : Enters Try.prog n)
    (hp : ∀ x w', Ext w w' → Calls Try.prog n (#[.int .i64 x] ++ caps) w' fun e w'' => e = .returned (.bool (p x)) ∧ Ext w' w'') :
    Calls Try.prog 162 #[.slice a l.length c, .func (.func n) #[] caps] w fun e w' => e = .returned (.bool (l.any p)) ∧ Ext w w' := by
  have HP := Lib.hid hp
  clear hp
  have HN := Lib.hid hn
  clear hn
  go_enter Try.func162, Try.ntmps162
  go_wp2_with fail
  refine (indexFunc_any n caps p a c l _ hl hr HN.out HP.out).mono ?_
  rintro e w1 ⟨rfl, hx1⟩
  go_wp2_with fail
  go_ret
  exact ⟨ret_bool (idxF_ge p l 0 (by omega)), hx1⟩

theorem within_set (n : Int) : withinB n 0 63 = setB n := rfl

theorem cmpD_ge (d e : Door) : decide (0 ≤ cmpD e d) = !dlt e d := by
  unfold cmpD orI cmpI dlt
  by_cases h1 : e.1 < d.1 <;> by_cases h2 : d.1 < e.1 <;> by_cases h3 : e.2.1 < d.2.1 <;> by_cases h4 : d.2.1 < e.2.1 <;> by_cases h5 : e.2.2 < d.2.2 <;> by_cases h6 : d.2.2 < e.2.2 <;> simp [h1, h2, h3, h4, h5, h6] <;> omega

set_option maxRecDepth 100000 in
set_option maxHeartbeats 1000000 in
theorem isMaze_any (m : Mz) (a1 a2 : Option Addr) (c1 c2 : Nat) (w : World) (h1 : Rd ED w a1 m.doors) (h2 : Rd EI w a2 m.keys) (hl : m.doors.length ≤ 9223372036854775807) (hl2 : m.keys.length ≤ 9223372036854775807) :
    Calls Try.prog 127 #[.agg #[.int .i64 m.size, .slice a1 m.doors.length c1, .slice a2 m.keys.length c2]] w fun e w' => e = .returned (.bool m.ok) ∧ Ext w w' := by
  by_cases b1 : withinB m.size 1 12 = true
  · by_cases b2 : 30 < m.doors.length
    · have d2 : decide (30 < m.doors.length) = true := by simpa using b2
      have HO : Hid (m.ok = false) := by
        show m.ok = false
        simp [Mz.ok, Nat.not_le_of_lt b2]
      go_enter Try.func127, Try.ntmps127
      go_wp2_with (go_at_call 77; refine (within_any _ _ _ _).mono ?_; rintro e w' ⟨rfl, rfl⟩)
      go_ret
      exact ⟨ret_bool HO.out.symm, (Ext.rf _).al _⟩
    · have d2 : decide (30 < m.doors.length) = false := by simpa using b2
      by_cases b3 : (m.keys.length : Int) = m.size
      · have d3 : ((m.keys.length : Int) != m.size) = false := by simpa using b3
        have HM : Hid (∀ ok', ok' = ((List.range m.doors.length).all (doorB m.size m.doors) && m.keys.all setB) → m.ok = ok') := by
          intro ok' h
          subst h
          simp [withinB] at b1
          simp [Mz.ok, b1.1, b1.2, Nat.le_of_not_lt b2, b3, Bool.and_assoc]
        have H3 := Lib.hid b3
        clear b3
        go_enter Try.func127, Try.ntmps127
        go_wp2_with (go_at_call 77; refine (within_any _ _ _ _).mono ?_; rintro e w' ⟨rfl, rfl⟩)
        obtain ⟨W0, hW0⟩ : ∃ W0, W0 = w.alloc (.cells #[.int .i64 m.size, .slice a1 m.doors.length c1, .slice a2 m.keys.length c2] 30) := ⟨_, rfl⟩
        rw [← hW0]
        have e0 : Ext w W0 := by rw [hW0]; exact (Ext.rf _).al _
        have f0 : W0.cell? ⟨w.heap.size, 0, none⟩ = some (.int .i64 m.size) := by rw [hW0]; go_simp
        have f1 : W0.cell? ⟨w.heap.size, 1, none⟩ = some (.slice a1 m.doors.length c1) := by rw [hW0]; go_simp
        have f2 : W0.cell? ⟨w.heap.size, 2, none⟩ = some (.slice a2 m.keys.length c2) := by rw [hW0]; go_simp
        clear hW0
        go_loopw [26] (fun i wr => ∃ k : Nat, k ≤ m.doors.length ∧ i = .int .i64 k ∧ Ext W0 wr ∧ (List.range k).all (doorB m.size m.doors) = true) (fun i _ => m.doors.length - (intOf i).toNat)
        case atStart => exact ⟨0, by omega, rfl, Ext.rf _, by simp⟩
        case round =>
          obtain ⟨k, hk, rfl, hx, hf⟩ := hrel
          have HF := Lib.hid hf
          clear hf
          have g0 := hx.cl f0
          have g1 := hx.cl f1
          have g2 := hx.cl f2
          clear f0 f1 f2
          by_cases hlt : k < m.doors.length
          · obtain ⟨b, off, rfl, hc⟩ := h1.d (by omega)
            have hc1 := fun j (h : j < m.doors.length) => hx.cl (e0.cl (hc j h).1)
            have hc2 := fun j (h : j < m.doors.length) => hx.cl (e0.cl (hc j h).2.1)
            have hc3 := fun j (h : j < m.doors.length) => hx.cl (e0.cl (hc j h).2.2)
            have q1 := hc1 k hlt
            have q2 := hc2 k hlt
            have q3 := hc3 k hlt
            have HP1 : 0 < k → ∃ e, e = m.doors[k - 1] ∧ wr.cell? ⟨b, off + (k - 1) * 3, none⟩ = some (.int .i64 e.1) ∧ wr.cell? ⟨b, off + (k - 1) * 3 + 1, none⟩ = some (.int .i64 e.2.1) ∧ wr.cell? ⟨b, off + (k - 1) * 3 + 2, none⟩ = some (.int .i64 e.2.2) :=
              fun h => ⟨_, rfl, hc1 (k - 1) (by omega), hc2 (k - 1) (by omega), hc3 (k - 1) (by omega)⟩
            have HP := Lib.hid HP1
            clear HP1 hc1 hc2 hc3 hc
            have HB : Hid (doorB m.size m.doors k = (decide (0 ≤ m.doors[k].1) && decide (m.doors[k].1 < m.doors[k].2.1) && decide (m.doors[k].2.1 < m.size) && setB m.doors[k].2.2 && (k == 0 || match m.doors[k - 1]? with | some e => dlt e m.doors[k] | none => true))) := by
              show _ = _
              unfold doorB
              rw [List.getElem?_eq_getElem hlt]
              rfl
            have HN : Hid (doorB m.size m.doors k = false → (List.range m.doors.length).all (doorB m.size m.doors) = false) := by
              intro h
              rw [List.all_eq_false]
              exact ⟨k, by simpa using hlt, by simp [h]⟩
            have HS : Hid (doorB m.size m.doors k = true → (List.range (k + 1)).all (doorB m.size m.doors) = true) := by
              intro h
              rw [List.range_succ, List.all_append, HF.out]
              simp [h]
            obtain ⟨d, hd⟩ : ∃ d, d = m.doors[k] := ⟨_, rfl⟩
            rw [← hd] at q1 q2 q3 HB
            clear hd
            go_wp2_with fail
            obtain ⟨W1, hW1⟩ : ∃ W1, W1 = wr.alloc (.cells #[.int .i64 d.1, .int .i64 d.2.1, .int .i64 d.2.2] 140) := ⟨_, rfl⟩
            rw [← hW1]
            have e1 : Ext wr W1 := by rw [hW1]; exact (Ext.rf _).al _
            have p0 : W1.cell? ⟨wr.heap.size, 0, none⟩ = some (.int .i64 d.1) := by rw [hW1]; go_simp
            have p1 : W1.cell? ⟨wr.heap.size, 1, none⟩ = some (.int .i64 d.2.1) := by rw [hW1]; go_simp
            have p2 : W1.cell? ⟨wr.heap.size, 2, none⟩ = some (.int .i64 d.2.2) := by rw [hW1]; go_simp
            clear hW1
            have k0 := cell_regrown p0
            have k1 := cell_regrown p1
            have k2 := cell_regrown p2
            have k3 := cell_regrown (e1.cl g0)
            have k4 := cell_regrown (e1.cl g1)
            clear q1 q2 q3 p0 p1 p2
            by_cases t1 : d.1 < 0
            · have t1' : decide (d.1 < 0) = true := by simpa using t1
              have HV : Hid (doorB m.size m.doors k = false) := by show _ = _; rw [HB.out]; simp [Int.not_le.2 t1]
              refine quietExt (by kernel_rfl) (by kernel_rfl) ?_
              repeat (first | go_big_quiet_step (first | (go_at_call 128; exact callSame (isSet_any _ _)) | (go_at_call 177; exact callExt (compareDoors_any _ _ _))) | quiet_step (first | (go_at_call 128; exact callSame (isSet_any _ _)) | (go_at_call 177; exact callExt (compareDoors_any _ _ _))))
              refine wpQuiet_nil ?_
              intro w2 hx2
              go_wp2_with fail
              go_ret
              exact ⟨ret_bool (by rw [HM.out _ rfl, HN.out HV]; rfl), ((e0.tr hx).tr e1).tr hx2⟩
            · have t1' : decide (d.1 < 0) = false := by simpa using t1
              by_cases t2 : d.2.1 ≤ d.1
              · have t2' : decide (d.2.1 ≤ d.1) = true := by simpa using t2
                have HV : Hid (doorB m.size m.doors k = false) := by show _ = _; rw [HB.out]; simp [Int.not_lt.2 t2]
                refine quietExt (by kernel_rfl) (by kernel_rfl) ?_
                repeat (first | go_big_quiet_step (first | (go_at_call 128; exact callSame (isSet_any _ _)) | (go_at_call 177; exact callExt (compareDoors_any _ _ _))) | quiet_step (first | (go_at_call 128; exact callSame (isSet_any _ _)) | (go_at_call 177; exact callExt (compareDoors_any _ _ _))))
                refine wpQuiet_nil ?_
                intro w2 hx2
                go_wp2_with fail
                go_ret
                exact ⟨ret_bool (by rw [HM.out _ rfl, HN.out HV]; rfl), ((e0.tr hx).tr e1).tr hx2⟩
              · have t2' : decide (d.2.1 ≤ d.1) = false := by simpa using t2
                by_cases t3 : m.size ≤ d.2.1
                · have t3' : decide (m.size ≤ d.2.1) = true := by simpa using t3
                  have HV : Hid (doorB m.size m.doors k = false) := by show _ = _; rw [HB.out]; simp [Int.not_lt.2 t3]
                  refine quietExt (by kernel_rfl) (by kernel_rfl) ?_
                  repeat (first | go_big_quiet_step (first | (go_at_call 128; exact callSame (isSet_any _ _)) | (go_at_call 177; exact callExt (compareDoors_any _ _ _))) | quiet_step (first | (go_at_call 128; exact callSame (isSet_any _ _)) | (go_at_call 177; exact callExt (compareDoors_any _ _ _))))
                  refine wpQuiet_nil ?_
                  intro w2 hx2
                  go_wp2_with fail
                  go_ret
                  exact ⟨ret_bool (by rw [HM.out _ rfl, HN.out HV]; rfl), ((e0.tr hx).tr e1).tr hx2⟩
                · have t3' : decide (m.size ≤ d.2.1) = false := by simpa using t3
                  cases t4 : withinB d.2.2 0 63
                  · have HV : Hid (doorB m.size m.doors k = false) := by show _ = _; rw [HB.out, ← within_set, t4]; simp
                    refine quietExt (by kernel_rfl) (by kernel_rfl) ?_
                    repeat (first | go_big_quiet_step (first | (go_at_call 128; exact callSame (isSet_any _ _)) | (go_at_call 177; exact callExt (compareDoors_any _ _ _))) | quiet_step (first | (go_at_call 128; exact callSame (isSet_any _ _)) | (go_at_call 177; exact callExt (compareDoors_any _ _ _))))
                    refine wpQuiet_nil ?_
                    intro w2 hx2
                    go_wp2_with fail
                    go_ret
                    exact ⟨ret_bool (by rw [HM.out _ rfl, HN.out HV]; rfl), ((e0.tr hx).tr e1).tr hx2⟩
                  · by_cases t5 : 0 < k
                    · have t5' : decide (0 < k) = true := by simpa using t5
                      obtain ⟨e, he, r1, r2, r3⟩ := HP.out t5
                      have HE := Lib.hid he
                      clear he
                      have k5 := cell_regrown (e1.cl r1)
                      have k6 := cell_regrown (e1.cl r2)
                      have k7 := cell_regrown (e1.cl r3)
                      clear r1 r2 r3
                      cases t6 : decide (0 ≤ cmpD e d)
                      · have HV : Hid (doorB m.size m.doors k = true) := by
                          show _ = _
                          rw [cmpD_ge] at t6
                          rw [HB.out, ← within_set, t4, List.getElem?_eq_getElem (by omega), ← HE.out]
                          simp at t6
                          simp [t6]
                          omega
                        refine quietExt (by kernel_rfl) (by kernel_rfl) ?_
                        repeat (first | go_big_quiet_step (first | (go_at_call 128; exact callSame (isSet_any _ _)) | (go_at_call 177; exact callExt (compareDoors_any _ _ _))) | quiet_step (first | (go_at_call 128; exact callSame (isSet_any _ _)) | (go_at_call 177; exact callExt (compareDoors_any _ _ _))))
                        refine wpQuiet_nil ?_
                        intro w2 hx2
                        go_wp2_with fail
                        go_roundw
                        case rel => exact ⟨k + 1, by omega, by go_num, (hx.tr e1).tr hx2, HS.out HV⟩
                        case measure => simp [intOf]; omega
                      · have HV : Hid (doorB m.size m.doors k = false) := by
                          show _ = _
                          rw [cmpD_ge] at t6
                          rw [HB.out, List.getElem?_eq_getElem (by omega), ← HE.out]
                          simp at t6
                          simp [t6]
                          omega
                        refine quietExt (by kernel_rfl) (by kernel_rfl) ?_
                        repeat (first | go_big_quiet_step (first | (go_at_call 128; exact callSame (isSet_any _ _)) | (go_at_call 177; exact callExt (compareDoors_any _ _ _))) | quiet_step (first | (go_at_call 128; exact callSame (isSet_any _ _)) | (go_at_call 177; exact callExt (compareDoors_any _ _ _))))
                        refine wpQuiet_nil ?_
                        intro w2 hx2
                        go_wp2_with fail
                        go_ret
                        exact ⟨ret_bool (by rw [HM.out _ rfl, HN.out HV]; rfl), ((e0.tr hx).tr e1).tr hx2⟩
                    · have t5' : decide (0 < k) = false := by simpa using t5
                      have HV : Hid (doorB m.size m.doors k = true) := by
                        show _ = _
                        rw [HB.out, ← within_set, t4]
                        simp
                        omega
                      refine quietExt (by kernel_rfl) (by kernel_rfl) ?_
                      repeat (first | go_big_quiet_step (first | (go_at_call 128; exact callSame (isSet_any _ _)) | (go_at_call 177; exact callExt (compareDoors_any _ _ _))) | quiet_step (first | (go_at_call 128; exact callSame (isSet_any _ _)) | (go_at_call 177; exact callExt (compareDoors_any _ _ _))))
                      refine wpQuiet_nil ?_
                      intro w2 hx2
                      go_wp2_with fail
                      go_roundw
                      case rel => exact ⟨k + 1, by omega, by go_num, (hx.tr e1).tr hx2, HS.out HV⟩
                      case measure => simp [intOf]; omega
          · go_wp2_with fail
            refine (containsFunc_any 178 #[] (fun k => !withinB k 0 63) a2 c2 m.keys _ hl2 (h2.ext (e0.tr hx)) (fun _ _ => by go_simp) ?_).mono ?_
            · intro x w' _
              exact (isMazeF_any x w').mono fun _ _ ⟨a, b⟩ => ⟨a, by subst b; exact Ext.rf _⟩
            rintro e w1 ⟨rfl, hx1⟩
            go_wp2_with fail
            go_ret
            refine ⟨ret_bool ?_, (e0.tr hx).tr hx1⟩
            have hkk : k = m.doors.length := by omega
            subst hkk
            rw [HM.out _ rfl, HF.out]
            simp [within_set, List.any_eq_not_all_not]
      · have d3 : ((m.keys.length : Int) != m.size) = true := by simpa using b3
        have HO : Hid (m.ok = false) := by
          show m.ok = false
          simp [Mz.ok, b3]
        clear b3
        go_enter Try.func127, Try.ntmps127
        go_wp2_with (go_at_call 77; refine (within_any _ _ _ _).mono ?_; rintro e w' ⟨rfl, rfl⟩)
        go_ret
        exact ⟨ret_bool HO.out.symm, (Ext.rf _).al _⟩
  · have b1' : withinB m.size 1 12 = false := by simpa using b1
    have HO : Hid (m.ok = false) := by
      show m.ok = false
      simp only [withinB, Bool.and_eq_true, decide_eq_true_eq, not_and] at b1
      by_cases h : 1 ≤ m.size
      · simp [Mz.ok, b1 h]
      · simp [Mz.ok, h]
    clear b1
    go_enter Try.func127, Try.ntmps127
    go_wp2_with (go_at_call 77; refine (within_any _ _ _ _).mono ?_; rintro e w' ⟨rfl, rfl⟩)
    go_ret
    exact ⟨ret_bool HO.out.symm, (Ext.rf _).al _⟩

end Go.Proofs.Ytkdncpglgdiicaa
