/- Traps: valid or not, by the program and by the reference. -/
import Derived.Test.YtkdncpglgdiicaaTrap1
import Derived.Test.YtkdncpglgdiicaaPureTurn
namespace Go.Proofs.Ytkdncpglgdiicaa
open Go Go.RowKit Go.Sort

/-- Place i of a rising list below n. -/
def riseAt (l : List Int) (n : Int) (i : Nat) : Bool :=
  match l[i]? with
  | none => true
  | some x => withinB x 0 (n - 1) && (i == 0 || match l[i - 1]? with | some y => decide (y < x) | none => true)
def risB (l : List Int) (n : Int) : Bool := (List.range l.length).all (riseAt l n)
def trapB (m : Mz) (l : List Int) : Bool := m.ok && risB l m.doors.length

theorem risB_no {l : List Int} {n : Int} {k : Nat} (h : k < l.length) (hk : riseAt l n k = false) : risB l n = false := by
  unfold risB
  rw [List.all_eq_false]
  exact ⟨k, List.mem_range.2 h, by simp [hk]⟩
theorem risB_yes {l : List Int} {n : Int} (h : ∀ k, k < l.length → riseAt l n k = true) : risB l n = true := by
  unfold risB
  rw [List.all_eq_true]
  intro k hk
  exact h k (List.mem_range.1 hk)
theorem riseAt_zero {l : List Int} {n : Int} (h : 0 < l.length) : riseAt l n 0 = withinB l[0] 0 (n - 1) := by
  unfold riseAt
  rw [List.getElem?_eq_getElem h]
  simp
theorem riseAt_succ {l : List Int} {n : Int} {i : Nat} (h : i + 1 < l.length) : riseAt l n (i + 1) = (withinB l[i + 1] 0 (n - 1) && decide (l[i] < l[i + 1])) := by
  unfold riseAt
  rw [List.getElem?_eq_getElem h]
  simp only [Nat.add_sub_cancel, List.getElem?_eq_getElem (show i < l.length by omega)]
  simp

set_option maxRecDepth 100000 in
set_option maxHeartbeats 1000000 in
theorem isTrap_any (m : Mz) (l : List Int) (a1 a2 a3 : Option Addr) (c1 c2 c3 : Nat) (w : World) (h1 : Rd ED w a1 m.doors) (h2 : Rd EI w a2 m.keys) (h3 : Rd EI w a3 l) (hl : m.doors.length ≤ 9223372036854775807) (hl2 : m.keys.length ≤ 9223372036854775807) (hl3 : l.length ≤ 9223372036854775807) :
    Calls Try.prog 76 #[.agg #[.int .i64 m.size, .slice a1 m.doors.length c1, .slice a2 m.keys.length c2, .slice a3 l.length c3]] w fun e w' => e = .returned (.bool (trapB m l)) ∧ Ext w w' := by
  have HIM := Lib.hid fun w' (hx : Ext w w') => isMaze_any m a1 a2 c1 c2 w' (h1.ext hx) (h2.ext hx) hl hl2
  cases hm : m.ok
  · have HS : Hid (trapB m l = false) := by show _ = _; unfold trapB; rw [hm]; rfl
    rw [hm] at HIM
    clear hm
    go_enter Try.func76, Try.ntmps76
    go_wp2_with fail
    refine (HIM.out _ ((Ext.rf _).al _)).mono ?_
    rintro e w1 ⟨rfl, x1⟩
    go_wp2_with fail
    go_ret
    exact ⟨ret_bool HS.out.symm, ((Ext.rf _).al _).tr x1⟩
  · have HS : Hid (trapB m l = risB l m.doors.length) := by show _ = _; unfold trapB; rw [hm]; rfl
    rw [hm] at HIM
    clear hm
    obtain ⟨n, hn⟩ : ∃ n, n = m.doors.length := ⟨_, rfl⟩
    rw [← hn] at HS hl HIM
    rw [← hn]
    obtain ⟨kl, hkl⟩ : ∃ kl, kl = m.keys.length := ⟨_, rfl⟩
    rw [← hkl] at hl2 HIM
    rw [← hkl]
    clear hn hkl
    go_enter Try.func76, Try.ntmps76
    go_wp2_with fail
    refine (HIM.out _ ((Ext.rf _).al _)).mono ?_
    rintro e w1 ⟨rfl, x1⟩
    have hM := x1.bk (hp_at rfl : (w.alloc (.cells #[.int .i64 m.size, .slice a1 n c1, .slice a2 kl c2, .slice a3 l.length c3] 44)).heap[w.heap.size]? = _)
    have xw := ((Ext.rf w).al (.cells #[.int .i64 m.size, .slice a1 n c1, .slice a2 kl c2, .slice a3 l.length c3] 44)).tr x1
    obtain ⟨⟨p0, p1, p2, p3⟩, _⟩ := blk4 hM
    have h3' := h3.ext xw
    clear x1 hM h1 h2 h3
    go_wp2_with fail
    go_loop [12] (fun i => ∃ k : Nat, k ≤ l.length ∧ i = .int .i64 k ∧ ∀ j, j < k → riseAt l n j = true) (fun i => l.length - (intOf i).toNat)
    case atStart => exact ⟨0, by omega, rfl, fun j h => by omega⟩
    case round =>
      obtain ⟨k, hk, rfl, hf⟩ := hrel
      have HF := Lib.hid hf
      clear hf
      by_cases hlt : k < l.length
      · obtain ⟨b, off, rfl, hc⟩ := h3'.i (by omega)
        have q1 := hc k hlt
        cases hb : withinB l[k] 0 ((n : Int) - 1)
        · have HV : Hid (risB l n = false) := risB_no hlt (by
            cases k with
            | zero => rw [riseAt_zero hlt]; exact hb
            | succ k => rw [riseAt_succ hlt, hb]; rfl)
          have HB := Lib.hid hb
          obtain ⟨x, hx⟩ : ∃ x, x = l[k] := ⟨_, rfl⟩
          rw [← hx] at q1 HB
          clear hb hc hx
          go_wp2_with fail
          refine (within_any x 0 ((n : Int) - 1) _).mono ?_
          rintro e w2 ⟨rfl, rfl⟩
          rw [HB.out]
          go_wp2_with fail
          go_ret
          exact ⟨ret_bool (by rw [HS.out, HV.out]), xw⟩
        · have HB := Lib.hid hb
          cases k with
          | zero =>
            have HV : Hid (∀ j, j < 0 + 1 → riseAt l n j = true) := by
              intro j hj
              obtain rfl : j = 0 := by omega
              rw [riseAt_zero hlt]; exact hb
            obtain ⟨x, hx⟩ : ∃ x, x = l[0] := ⟨_, rfl⟩
            rw [← hx] at q1 HB
            rw [Nat.add_zero] at q1
            clear hb hc hx
            go_wp2_with fail
            refine (within_any x 0 ((n : Int) - 1) _).mono ?_
            rintro e w2 ⟨rfl, rfl⟩
            rw [HB.out]
            go_wp2_with fail
            go_round
            case rel => exact ⟨0 + 1, by omega, by go_num, HV.out⟩
            case measure => simp [intOf]; omega
          | succ k =>
            have q2 := hc k (by omega)
            have hcast : ((k + 1 : Nat) : Int) = (k : Int) + 1 := by omega
            by_cases hlt2 : l[k] < l[k + 1]
            · have HV : Hid (∀ j, j < k + 1 + 1 → riseAt l n j = true) := by
                intro j hj
                by_cases e : j = k + 1
                · subst e; rw [riseAt_succ hlt, hb, decide_eq_true hlt2]; rfl
                · exact HF.out j (by omega)
              obtain ⟨x, hx⟩ : ∃ x, x = l[k + 1] := ⟨_, rfl⟩
              obtain ⟨y, hy⟩ : ∃ y, y = l[k]'(by omega) := ⟨_, rfl⟩
              rw [← hx] at q1 HB hlt2
              rw [← hy] at q2 hlt2
              have d1 : decide (x ≤ y) = false := by simpa using hlt2
              clear hb hc hx hy
              go_wp2_with fail
              refine (within_any x 0 ((n : Int) - 1) _).mono ?_
              rintro e w2 ⟨rfl, rfl⟩
              rw [HB.out]
              go_wp2_with fail
              go_round
              case rel => exact ⟨k + 1 + 1, by omega, by go_num, HV.out⟩
              case measure => simp [intOf]; omega
            · have HV : Hid (risB l n = false) := risB_no hlt (by rw [riseAt_succ hlt, decide_eq_false hlt2, Bool.and_false])
              obtain ⟨x, hx⟩ : ∃ x, x = l[k + 1] := ⟨_, rfl⟩
              obtain ⟨y, hy⟩ : ∃ y, y = l[k]'(by omega) := ⟨_, rfl⟩
              rw [← hx] at q1 HB hlt2
              rw [← hy] at q2 hlt2
              have d1 : decide (x ≤ y) = true := by simpa using hlt2
              clear hb hc hx hy
              go_wp2_with fail
              refine (within_any x 0 ((n : Int) - 1) _).mono ?_
              rintro e w2 ⟨rfl, rfl⟩
              rw [HB.out]
              go_wp2_with fail
              go_ret
              exact ⟨ret_bool (by rw [HS.out, HV.out]), xw⟩
      · have HV : Hid (risB l n = true) := risB_yes fun j hj => HF.out j (by omega)
        go_wp2_with fail
        go_ret
        exact ⟨ret_bool (by rw [HS.out, HV.out]), xw⟩

set_option maxRecDepth 100000 in
set_option maxHeartbeats 1000000 in
theorem l1Rising_any (l : List Int) (n : Nat) (a3 : Option Addr) (c3 : Nat) (w : World) (h3 : Rd EI w a3 l) (hn : n ≤ 9223372036854775807) (hl3 : l.length ≤ 9223372036854775807) :
    Calls Try.prog 133 #[.slice a3 l.length c3, .int .i64 0, .int .i64 ((n : Int) - 1)] w fun e w' => e = .returned (.bool (risB l n)) ∧ Ext w w' := by
  have HIN := Lib.hid fun x w' => l1In_any x 0 ((n : Int) - 1) w'
  obtain ⟨h, hh⟩ : ∃ h, h = (n : Int) - 1 := ⟨_, rfl⟩
  have HH := Lib.hid hh
  rw [← hh] at HIN
  rw [← hh]
  clear hh
  go_enter Try.func133, Try.ntmps133
  go_wp2_with fail
  go_loopw [7] (fun i wr => ∃ k : Nat, k ≤ l.length ∧ i = .int .i64 k ∧ (∀ j, j < k → riseAt l n j = true) ∧ Ext w wr) (fun i _ => l.length - (intOf i).toNat)
  case atStart => exact ⟨0, by omega, rfl, fun j h => by omega, Ext.rf _⟩
  case round =>
    obtain ⟨k, hk, rfl, hf, xw⟩ := hrel
    have HF := Lib.hid hf
    clear hf
    by_cases hlt : k < l.length
    · obtain ⟨b, off, rfl, hc⟩ := (h3.ext xw).i (by omega)
      have q1 := hc k hlt
      cases hb : withinB l[k] 0 ((n : Int) - 1)
      · have HV : Hid (risB l n = false) := risB_no hlt (by
          cases k with
          | zero => rw [riseAt_zero hlt]; exact hb
          | succ k => rw [riseAt_succ hlt, hb]; rfl)
        have HI := HIN.out l[k]
        rw [HH.out, hb, ← HH.out] at HI
        obtain ⟨x, hx⟩ : ∃ x, x = l[k] := ⟨_, rfl⟩
        rw [← hx] at q1 HI
        have HII := Lib.hid HI
        clear hb hc hx HI
        have k1 := cell_regrown q1
        go_wp2_with fail
        refine quietExt (by kernel_rfl) (by kernel_rfl) ?_
        repeat (first | go_big_quiet_step ((go_at_call 73; exact callSame (HII.out _))) | quiet_step (fail))
        refine wpQuiet_nil ?_
        intro w4 hx4
        go_wp2_with fail
        go_ret
        exact ⟨ret_bool HV.out.symm, xw.tr hx4⟩
      · have HI := HIN.out l[k]
        rw [HH.out, hb, ← HH.out] at HI
        cases k with
        | zero =>
          have HV : Hid (∀ j, j < 0 + 1 → riseAt l n j = true) := by
            intro j hj
            obtain rfl : j = 0 := by omega
            rw [riseAt_zero hlt]; exact hb
          obtain ⟨x, hx⟩ : ∃ x, x = l[0] := ⟨_, rfl⟩
          rw [← hx] at q1 HI
          have HII := Lib.hid HI
          rw [Nat.add_zero] at q1
          clear hb hc hx HI
          have k1 := cell_regrown q1
          go_wp2_with fail
          refine quietExt (by kernel_rfl) (by kernel_rfl) ?_
          repeat (first | go_big_quiet_step ((go_at_call 73; exact callSame (HII.out _))) | quiet_step (fail))
          refine wpQuiet_nil ?_
          intro w4 hx4
          go_wp2_with fail
          go_roundw
          case rel => exact ⟨0 + 1, by omega, by go_num, HV.out, xw.tr hx4⟩
          case measure => simp [intOf]; omega
        | succ k =>
          have q2 := hc k (by omega)
          have hcast : ((k + 1 : Nat) : Int) = (k : Int) + 1 := by omega
          by_cases hlt2 : l[k] < l[k + 1]
          · have HV : Hid (∀ j, j < k + 1 + 1 → riseAt l n j = true) := by
              intro j hj
              by_cases e : j = k + 1
              · subst e; rw [riseAt_succ hlt, hb, decide_eq_true hlt2]; rfl
              · exact HF.out j (by omega)
            obtain ⟨x, hx⟩ : ∃ x, x = l[k + 1] := ⟨_, rfl⟩
            obtain ⟨y, hy⟩ : ∃ y, y = l[k]'(by omega) := ⟨_, rfl⟩
            rw [← hx] at q1 HI hlt2
            rw [← hy] at q2 hlt2
            have HII := Lib.hid HI
            have d1 : decide (x ≤ y) = false := by simpa using hlt2
            clear hb hc hx hy HI
            have k1 := cell_regrown q1
            have k2 := cell_regrown q2
            go_wp2_with fail
            refine quietExt (by kernel_rfl) (by kernel_rfl) ?_
            repeat (first | go_big_quiet_step ((go_at_call 73; exact callSame (HII.out _))) | quiet_step (fail))
            refine wpQuiet_nil ?_
            intro w4 hx4
            go_wp2_with fail
            go_roundw
            case rel => exact ⟨k + 1 + 1, by omega, by go_num, HV.out, xw.tr hx4⟩
            case measure => simp [intOf]; omega
          · have HV : Hid (risB l n = false) := risB_no hlt (by rw [riseAt_succ hlt, decide_eq_false hlt2, Bool.and_false])
            obtain ⟨x, hx⟩ : ∃ x, x = l[k + 1] := ⟨_, rfl⟩
            obtain ⟨y, hy⟩ : ∃ y, y = l[k]'(by omega) := ⟨_, rfl⟩
            rw [← hx] at q1 HI hlt2
            rw [← hy] at q2 hlt2
            have HII := Lib.hid HI
            have d1 : decide (x ≤ y) = true := by simpa using hlt2
            clear hb hc hx hy HI
            have k1 := cell_regrown q1
            have k2 := cell_regrown q2
            go_wp2_with fail
            refine quietExt (by kernel_rfl) (by kernel_rfl) ?_
            repeat (first | go_big_quiet_step ((go_at_call 73; exact callSame (HII.out _))) | quiet_step (fail))
            refine wpQuiet_nil ?_
            intro w4 hx4
            go_wp2_with fail
            go_ret
            exact ⟨ret_bool HV.out.symm, xw.tr hx4⟩
    · have HV : Hid (risB l n = true) := risB_yes fun j hj => HF.out j (by omega)
      go_wp2_with fail
      go_ret
      exact ⟨ret_bool HV.out.symm, xw⟩

theorem l11Trap_any (m : Mz) (l : List Int) (a1 a2 a3 : Option Addr) (c1 c2 c3 : Nat) (w : World) (h1 : Rd ED w a1 m.doors) (h2 : Rd EI w a2 m.keys) (h3 : Rd EI w a3 l) (hl : m.doors.length ≤ 9223372036854775807) (hl2 : m.keys.length ≤ 9223372036854775807) (hl3 : l.length ≤ 9223372036854775807) :
    Calls Try.prog 72 #[.agg #[.int .i64 m.size, .slice a1 m.doors.length c1, .slice a2 m.keys.length c2, .slice a3 l.length c3]] w fun e w' => e = .returned (.bool (trapB m l)) ∧ Ext w w' := by
  have HIM := Lib.hid fun w' (hx : Ext w w') => l2Maze_any m a1 a2 c1 c2 w' (h1.ext hx) (h2.ext hx) hl hl2
  have HRI := Lib.hid fun w' (hx : Ext w w') => l1Rising_any l m.doors.length a3 c3 w' (h3.ext hx) hl hl3
  cases hm : m.ok
  · have HS : Hid (trapB m l = false) := by show _ = _; unfold trapB; rw [hm]; rfl
    rw [hm] at HIM
    clear hm
    go_enter Try.func72, Try.ntmps72
    go_wp2_with fail
    refine (HIM.out _ ((Ext.rf _).al _)).mono ?_
    rintro e w1 ⟨rfl, x1⟩
    go_wp2_with fail
    go_ret
    exact ⟨ret_bool HS.out.symm, ((Ext.rf _).al _).tr x1⟩
  · have HS : Hid (trapB m l = risB l m.doors.length) := by show _ = _; unfold trapB; rw [hm]; rfl
    rw [hm] at HIM
    clear hm
    go_enter Try.func72, Try.ntmps72
    go_wp2_with fail
    refine (HIM.out _ ((Ext.rf _).al _)).mono ?_
    rintro e w1 ⟨rfl, x1⟩
    have hM := x1.bk (hp_at rfl : (w.alloc (.cells #[.int .i64 m.size, .slice a1 m.doors.length c1, .slice a2 m.keys.length c2, .slice a3 l.length c3] 44)).heap[w.heap.size]? = _)
    have xw := ((Ext.rf w).al (.cells #[.int .i64 m.size, .slice a1 m.doors.length c1, .slice a2 m.keys.length c2, .slice a3 l.length c3] 44)).tr x1
    obtain ⟨⟨p0, p1, p2, p3⟩, _⟩ := blk4 hM
    clear x1 hM
    go_wp2_with fail
    refine (HRI.out _ xw).mono ?_
    rintro e w2 ⟨rfl, x2⟩
    go_wp2_with fail
    go_ret
    exact ⟨ret_bool HS.out.symm, xw.tr x2⟩

end Go.Proofs.Ytkdncpglgdiicaa
