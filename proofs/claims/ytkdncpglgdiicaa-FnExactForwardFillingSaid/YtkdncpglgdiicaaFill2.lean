/- What a filling is made of, valid or not: the walks. -/
import Derived.Test.YtkdncpglgdiicaaFill1
import Derived.Test.YtkdncpglgdiicaaGSw
namespace Go.Proofs.Ytkdncpglgdiicaa
open Go Go.RowKit Go.Sort

theorem toSet_snoc (l : List Nat) (y : Nat) : toSet (l ++ [y]) = toSet l ||| 2 ^ y := by unfold toSet; rw [List.foldl_append]; rfl
theorem ordB_no {N : Nat} {o : List Int} {k : Nat} (h : k < o.length) (hk : withinB o[k] 0 5 = false) : ordB N o = false := by
  unfold ordB
  have : o.all (fun c => withinB c 0 5) = false := by
    rw [List.all_eq_false]
    exact ⟨o[k], List.getElem_mem h, by simp [hk]⟩
  rw [this]
  rfl

set_option maxRecDepth 100000 in
set_option maxHeartbeats 1000000 in
theorem l9Order_any (N : Nat) (hN : N ≤ 63) (o : List Int) (hl : o.length ≤ 9223372036854775807) (a : Option Addr) (c : Nat) (w : World) (h : Rd EI w a o) :
    Calls Try.prog 158 #[.int .i64 (N : Int), .slice a o.length c] w fun e w' => e = .returned (.bool (ordB N o)) ∧ Ext w w' := by
  go_enter Try.func158, Try.ntmps158
  go_wp2_with fail
  go_loop [5, 6] (fun s i => ∃ k : Nat, k ≤ o.length ∧ i = .int .i64 (k : Int) ∧ s = .int .i64 (toSet ((o.take k).map Int.toNat) : Nat) ∧ ∀ x ∈ o.take k, withinB x 0 5 = true) (fun _ i => o.length - (intOf i).toNat)
  case atStart => exact ⟨0, by omega, rfl, rfl, by simp⟩
  case round =>
    obtain ⟨k, hk, rfl, rfl, hf⟩ := hrel
    have HF := Lib.hid hf
    have hs6 : toSet ((o.take k).map Int.toNat) < 2 ^ 6 := toSet_lt fun y hy => by
      obtain ⟨x, hx, rfl⟩ := List.mem_map.1 hy
      have := hf x hx
      simp only [withinB, Bool.and_eq_true, decide_eq_true_eq] at this
      omega
    clear hf
    by_cases hlt : k < o.length
    · obtain ⟨b, off, rfl, hc⟩ := h.i (by omega)
      have q1 := hc k hlt
      clear hc
      have HS : Hid (toSet ((o.take (k + 1)).map Int.toNat) = toSet ((o.take k).map Int.toNat) ||| 2 ^ o[k].toNat) := by
        show _ = _
        rw [List.take_succ_eq_append_getElem hlt, List.map_append, List.map_singleton, toSet_snoc]
      cases hb : withinB o[k] 0 5
      · have HV : Hid (ordB N o = false) := ordB_no hlt hb
        have HB := Lib.hid hb
        obtain ⟨x, hx⟩ : ∃ x, x = o[k] := ⟨_, rfl⟩
        rw [← hx] at q1 HB
        clear hb hx HS
        go_wp2_with fail
        refine (l1In_any x 0 5 _).mono ?_
        rintro e w2 ⟨rfl, rfl⟩
        rw [HB.out]
        go_wp2_with fail
        go_ret
        exact ⟨ret_bool HV.out.symm, Ext.rf _⟩
      · have HV : Hid (∀ x ∈ o.take (k + 1), withinB x 0 5 = true) := by
          intro x hx
          rw [List.take_succ_eq_append_getElem hlt, List.mem_append, List.mem_singleton] at hx
          rcases hx with hx | rfl
          · exact HF.out x hx
          · exact hb
        have hy : 0 ≤ o[k] ∧ o[k] ≤ 5 := by simpa [withinB] using hb
        obtain ⟨y, hy0⟩ : ∃ y : Nat, o[k] = (y : Int) := ⟨o[k].toNat, by omega⟩
        rw [hy0] at q1 hb HS hy
        rw [Int.toNat_natCast] at HS
        have HB := Lib.hid hb
        have hy6 : y < 6 := by omega
        obtain ⟨S, hS⟩ : ∃ S, S = toSet ((o.take k).map Int.toNat) := ⟨_, rfl⟩
        rw [← hS] at HS hs6
        rw [← hS]
        have hB := or_pow S y (by omega) (by omega)
        clear hb hS hy0 hy
        go_wp2_with fail
        refine (l1In_any (y : Int) 0 5 _).mono ?_
        rintro e w2 ⟨rfl, rfl⟩
        rw [HB.out]
        go_wp2_with fail
        go_round
        case rel => exact ⟨k + 1, by omega, by go_num, by rw [HS.out], HV.out⟩
        case measure => simp [intOf]; omega
    · have hall : o.all (fun c => withinB c 0 5) = true := by
        rw [List.all_eq_true]
        intro x hx
        refine HF.out x ?_
        rw [List.take_of_length_le (by omega)]
        exact hx
      have HV : Hid (ordB N o = (decide (o.length = (mem N).length) && decide (toSet (o.map Int.toNat) = N))) := by show _ = _; unfold ordB; rw [hall, Bool.true_and]
      have e1 : o.take k = o := List.take_of_length_le (by omega)
      rw [e1] at hs6
      rw [e1]
      obtain ⟨S, hS⟩ : ∃ S, S = toSet (o.map Int.toNat) := ⟨_, rfl⟩
      rw [← hS] at HV hs6
      rw [← hS]
      clear hS e1 hall
      have HM := Lib.hid (l2Many_any N)
      obtain ⟨M, hM⟩ : ∃ M, M = (mem N).length := ⟨_, rfl⟩
      rw [← hM] at HV HM
      clear hM
      by_cases hlen : o.length = M
      · have t1 : ((o.length : Int) == (M : Int)) = true := by rw [beq_iff_eq]; omega
        have HV2 : Hid (ordB N o = decide (S = N)) := by show _ = _; rw [HV.out, decide_eq_true hlen, Bool.true_and]
        have HSN : Hid (((S : Int) == (N : Int)) = decide (S = N)) := by
          show _ = _
          by_cases e : S = N
          · subst e; simp
          · rw [decide_eq_false e, beq_eq_false_iff_ne]; omega
        have hsn := HSN.out
        obtain ⟨v, hv⟩ : ∃ v, v = decide (S = N) := ⟨_, rfl⟩
        rw [← hv] at HV2 hsn
        clear hv HSN hlen
        go_wp2_with fail
        refine (HM.out _ (by omega)).mono ?_
        rintro e w2 ⟨rfl, rfl⟩
        go_wp2_with fail
        go_ret
        exact ⟨ret_bool HV2.out.symm, Ext.rf _⟩
      · have t1 : ((o.length : Int) == (M : Int)) = false := by rw [beq_eq_false_iff_ne]; omega
        have HV2 : Hid (ordB N o = false) := by show _ = _; rw [HV.out, decide_eq_false hlen, Bool.false_and]
        clear hlen
        go_wp2_with fail
        refine (HM.out _ (by omega)).mono ?_
        rintro e w2 ⟨rfl, rfl⟩
        go_wp2_with fail
        go_ret
        exact ⟨ret_bool HV2.out.symm, Ext.rf _⟩

set_option maxRecDepth 100000 in
set_option maxHeartbeats 1000000 in
theorem l9Choices_any (ch : List Int) (n : Nat) (hn : n ≤ 9223372036854775807) (hl : ch.length ≤ 9223372036854775807) (a : Option Addr) (c : Nat) (w : World) (h : Rd EI w a ch) :
    Calls Try.prog 159 #[.slice a ch.length c, .int .i64 (n : Int)] w fun e w' => e = .returned (.bool (chB ch n)) ∧ w = w' := by
  go_enter Try.func159, Try.ntmps159
  go_wp2_with fail
  go_loop [5] (fun i => ∃ k : Nat, k ≤ ch.length ∧ i = .int .i64 (k : Int) ∧ ∀ x ∈ ch.take k, 0 ≤ x) (fun i => ch.length - (intOf i).toNat)
  case atStart => exact ⟨0, by omega, rfl, by simp⟩
  case round =>
    obtain ⟨k, hk, rfl, hf⟩ := hrel
    have HF := Lib.hid hf
    clear hf
    by_cases hlt : k < ch.length
    · obtain ⟨b, off, rfl, hc⟩ := h.i (by omega)
      have q1 := hc k hlt
      clear hc
      by_cases hneg : ch[k] < 0
      · have HV : Hid (chB ch n = false) := by
          show _ = _
          unfold chB
          have : ch.all (fun c => decide (0 ≤ c)) = false := by
            rw [List.all_eq_false]
            exact ⟨ch[k], List.getElem_mem hlt, by simpa using hneg⟩
          rw [this]; rfl
        have t1 : decide (ch[k] < 0) = true := decide_eq_true hneg
        obtain ⟨x, hx⟩ : ∃ x, x = ch[k] := ⟨_, rfl⟩
        rw [← hx] at q1 t1
        clear hneg hx
        go_wp2_with fail
        go_ret
        exact ⟨ret_bool HV.out.symm, rfl⟩
      · have HV : Hid (∀ x ∈ ch.take (k + 1), 0 ≤ x) := by
          intro x hx
          rw [List.take_succ_eq_append_getElem hlt, List.mem_append, List.mem_singleton] at hx
          rcases hx with hx | rfl
          · exact HF.out x hx
          · omega
        have t1 : decide (ch[k] < 0) = false := decide_eq_false hneg
        obtain ⟨x, hx⟩ : ∃ x, x = ch[k] := ⟨_, rfl⟩
        rw [← hx] at q1 t1
        clear hneg hx
        go_wp2_with fail
        go_round
        case rel => exact ⟨k + 1, by omega, by go_num, HV.out⟩
        case measure => simp [intOf]; omega
    · have HV : Hid (chB ch n = decide (ch.length = n)) := by
        show _ = _
        unfold chB
        have : ch.all (fun c => decide (0 ≤ c)) = true := by
          rw [List.all_eq_true]
          intro x hx
          have := HF.out x (by rw [List.take_of_length_le (by omega)]; exact hx)
          simpa using this
        rw [this, Bool.true_and]
      have HSN : Hid (((ch.length : Int) == (n : Int)) = decide (ch.length = n)) := by
        show _ = _
        by_cases e : ch.length = n
        · rw [e]; simp
        · rw [decide_eq_false e, beq_eq_false_iff_ne]; omega
      have hsn := HSN.out
      obtain ⟨v, hv⟩ : ∃ v, v = decide (ch.length = n) := ⟨_, rfl⟩
      rw [← hv] at HV hsn
      clear hv HSN
      go_wp2_with fail
      go_ret
      exact ⟨ret_bool HV.out.symm, rfl⟩

/-- What a filling is made of. -/
def makeB (m : Mz) (s : Int) (o ch : List Int) : Bool := (m.ok && setB s) && (ordB s.toNat o && chB ch o.length)

theorem l9Makes_any (m : Mz) (s : Int) (o ch : List Int) (a1 a2 a3 a4 : Option Addr) (c1 c2 c3 c4 : Nat) (w : World) (h1 : Rd ED w a1 m.doors) (h2 : Rd EI w a2 m.keys) (h3 : Rd EI w a3 o) (h4 : Rd EI w a4 ch) (hl : m.doors.length ≤ 9223372036854775807) (hl2 : m.keys.length ≤ 9223372036854775807) (hl3 : o.length ≤ 9223372036854775807) (hl4 : ch.length ≤ 9223372036854775807) :
    Calls Try.prog 106 #[.agg #[.int .i64 m.size, .slice a1 m.doors.length c1, .slice a2 m.keys.length c2], .int .i64 s, .slice a3 o.length c3, .slice a4 ch.length c4] w fun e w' => e = .returned (.bool (makeB m s o ch)) ∧ Ext w w' := by
  have HAS := Lib.hid fun w' (hx : Ext w w') => l9Ask_any m s a1 a2 c1 c2 w' (h1.ext hx) (h2.ext hx) hl hl2
  cases hb : (m.ok && setB s)
  · have HV : Hid (makeB m s o ch = false) := by show _ = _; unfold makeB; rw [hb]; rfl
    rw [hb] at HAS
    clear hb
    go_enter Try.func106, Try.ntmps106
    go_wp2_with fail
    refine (HAS.out _ ((Ext.rf _).al _)).mono ?_
    rintro e w1 ⟨rfl, x1⟩
    go_wp2_with fail
    go_ret
    exact ⟨ret_bool HV.out.symm, ((Ext.rf _).al _).tr x1⟩
  · have HV : Hid (makeB m s o ch = (ordB s.toNat o && chB ch o.length)) := by show _ = _; unfold makeB; rw [hb]; rfl
    rw [hb] at HAS
    have hsb : setB s = true := by simp only [Bool.and_eq_true] at hb; exact hb.2
    obtain ⟨N, hN, rfl⟩ := setB_up hsb
    rw [Int.toNat_natCast] at HV
    have HOR := Lib.hid fun w' (hx : Ext w w') => l9Order_any N hN o hl3 a3 c3 w' (h3.ext hx)
    have HCH := Lib.hid fun w' (hx : Ext w w') => l9Choices_any ch o.length hl3 hl4 a4 c4 w' (h4.ext hx)
    clear hb hsb
    cases ho : ordB N o
    · have HV2 : Hid (makeB m (N : Int) o ch = false) := by show _ = _; rw [HV.out, ho]; rfl
      rw [ho] at HOR
      clear ho
      go_enter Try.func106, Try.ntmps106
      go_wp2_with fail
      refine (HAS.out _ ((Ext.rf _).al _)).mono ?_
      rintro e w1 ⟨rfl, x1⟩
      go_wp2_with fail
      refine (HOR.out _ (((Ext.rf _).al _).tr x1)).mono ?_
      rintro e w2 ⟨rfl, x2⟩
      go_wp2_with fail
      go_ret
      exact ⟨ret_bool HV2.out.symm, (((Ext.rf _).al _).tr x1).tr x2⟩
    · have HV2 : Hid (makeB m (N : Int) o ch = chB ch o.length) := by show _ = _; rw [HV.out, ho, Bool.true_and]
      rw [ho] at HOR
      clear ho
      go_enter Try.func106, Try.ntmps106
      go_wp2_with fail
      refine (HAS.out _ ((Ext.rf _).al _)).mono ?_
      rintro e w1 ⟨rfl, x1⟩
      go_wp2_with fail
      refine (HOR.out _ (((Ext.rf _).al _).tr x1)).mono ?_
      rintro e w2 ⟨rfl, x2⟩
      go_wp2_with fail
      refine (HCH.out _ ((((Ext.rf _).al _).tr x1).tr x2)).mono ?_
      rintro e w3 ⟨rfl, rfl⟩
      go_wp2_with fail
      go_ret
      exact ⟨ret_bool HV2.out.symm, (((Ext.rf _).al _).tr x1).tr x2⟩

end Go.Proofs.Ytkdncpglgdiicaa
