/- A filling made with a hand, by the program: the walk. -/
import Derived.Test.YtkdncpglgdiicaaSFill
namespace Go.Proofs.Ytkdncpglgdiicaa
open Go Go.RowKit Go.Sort

theorem filledF_any (x : Int) (w : World) : Calls Try.prog 163 #[.int .i64 x] w fun e w' => e = .returned (.bool (decide (x < 0))) ∧ Ext w w' := by
  go_enter Try.func163, Try.ntmps163
  go_wp2
  go_ret
  exact ⟨rfl, Ext.rf _⟩
theorem chB_up {ch : List Int} {n : Nat} (h : chB ch n = true) : ∃ CH : List Nat, ch = CH.map upN ∧ CH.length = n := by
  unfold chB at h
  simp only [Bool.and_eq_true, List.all_eq_true, decide_eq_true_eq] at h
  exact ⟨ch.map Int.toNat, ints_up h.1, by rw [List.length_map]; exact h.2⟩

theorem filled_no1 (m : Mz) (s hand : Int) (o ch : List Int) (hg : (m.ok && setB s) = false) (a1 a2 a3 a4 : Option Addr) (c1 c2 c3 c4 : Nat) (w : World) (h1 : Rd ED w a1 m.doors) (h2 : Rd EI w a2 m.keys) (hl : m.doors.length ≤ 9223372036854775807) (hl2 : m.keys.length ≤ 9223372036854775807) :
    Calls Try.prog 108 #[.agg #[.int .i64 m.size, .slice a1 m.doors.length c1, .slice a2 m.keys.length c2], .int .i64 s, .int .i64 hand, .slice a3 o.length c3, .slice a4 ch.length c4] w fun e w' => e = .returned (.tuple #[.slice none 0 0, .bool false]) ∧ Ext w w' := by
  have HAS := Lib.hid fun w' (hx : Ext w w') => asked_any m s a1 a2 c1 c2 w' (h1.ext hx) (h2.ext hx) hl hl2
  rw [hg] at HAS
  clear hg
  go_enter Try.func108, Try.ntmps108
  go_wp2_with fail
  refine (HAS.out _ ((Ext.rf _).al _)).mono ?_
  rintro e w1 ⟨rfl, x1⟩
  go_wp2_with fail
  go_ret2
  exact ⟨rfl, ((Ext.rf _).al _).tr x1⟩

set_option maxRecDepth 100000 in
set_option maxHeartbeats 1000000 in
theorem filled_no2 (m : NM) (hm : m.Ok) (N : Nat) (hN : N ≤ 63) (hand : Int) (o ch : List Int) (hg : (ordB N o && chB ch o.length) = false) (a1 a2 a3 a4 : Option Addr) (c1 c2 c3 c4 : Nat) (w : World) (h1 : Rd EDN w a1 m.doors) (h2 : Rd EN w a2 m.keys) (h3 : Rd EI w a3 o) (h4 : Rd EI w a4 ch) (hl3 : o.length ≤ 1000000000) (hl4 : ch.length ≤ 9223372036854775807) :
    Calls Try.prog 108 #[.agg #[.int .i64 (m.size : Int), .slice a1 m.doors.length c1, .slice a2 m.keys.length c2], .int .i64 (N : Int), .int .i64 hand, .slice a3 o.length c3, .slice a4 ch.length c4] w fun e w' => e = .returned (.tuple #[.slice none 0 0, .bool false]) ∧ Ext w w' := by
  have HAS := Lib.hid fun w' (hx : Ext w w') => asked_yes m hm N hN a1 a2 c1 c2 w' (h1.ext hx) (h2.ext hx)
  have HME := Lib.hid fun w' => members_any N w' (by omega)
  have HCL := Lib.hid fun w' (hx : Ext w w') => cloneI_any elemI o a3 c3 w' (h3.ext hx) (by omega)
  have HSO := Lib.hid fun b d base w' (hb : Own EI 3 w' base b d o) => sortI_any o (by omega) b d base w' hb
  have hml : (o.mergeSort fun x y => decide (x ≤ y)).length = o.length := List.length_mergeSort _
  have hm6 := mem_le6 hN
  have HEQ := Lib.hid fun b1 b2 d1 d2 w' (g1 : Rd EI w' b1 (o.mergeSort fun x y => decide (x ≤ y))) (g2 : Rd EI w' b2 ((mem N).map upN)) => equalI_any (o.mergeSort fun x y => decide (x ≤ y)) ((mem N).map upN) (by omega) (by simp; omega) b1 b2 d1 d2 w' g1 g2
  simp only [hml, List.length_map] at HEQ
  rw [sort_ord hN o] at HEQ
  have HCF := Lib.hid fun w' (hx : Ext w w') => containsFunc_any 163 #[] (fun x => decide (x < 0)) a4 c4 ch w' hl4 (h4.ext hx) (fun _ _ => by go_simp) (fun x w'' _ => filledF_any x w'')
  obtain ⟨S, hS⟩ : ∃ S, S = o.mergeSort fun x y => decide (x ≤ y) := ⟨_, rfl⟩
  rw [← hS] at HSO HEQ
  obtain ⟨L, hL⟩ : ∃ L, L = mem N := ⟨_, rfl⟩
  rw [← hL] at HME HEQ
  obtain ⟨n, hnn⟩ : ∃ n, n = (m.size : Int) := ⟨_, rfl⟩
  obtain ⟨dl, hdl⟩ : ∃ dl, dl = m.doors.length := ⟨_, rfl⟩
  obtain ⟨kl, hkl⟩ : ∃ kl, kl = m.keys.length := ⟨_, rfl⟩
  rw [← hnn, ← hdl, ← hkl] at HAS
  rw [← hnn, ← hdl, ← hkl]
  have HG := Lib.hid hg
  have HC2 : Hid (ch.length = o.length → chB ch o.length = !(ch.any fun x => decide (x < 0))) := by
    intro h
    unfold chB
    rw [decide_eq_true h, Bool.and_true, List.not_any_eq_all_not]
    congr 1
    funext x
    rw [Bool.eq_iff_iff]
    simp
  clear hS hL hnn hdl hkl hg hm6 hml h1 h2 h3 h4
  go_enter Try.func108, Try.ntmps108
  go_wp2_with fail
  have x0 : Ext w (w.alloc (.cells #[.int .i64 n, .slice a1 dl c1, .slice a2 kl c2] 30)) := (Ext.rf _).al _
  refine (HAS.out _ x0).mono ?_
  rintro e w1 ⟨rfl, x1⟩
  go_wp2_with fail
  refine (HME.out _).mono ?_
  rintro e w2 ⟨lb, ld, rfl, oL, x2⟩
  go_wp2_with fail
  have xw := (x0.tr x1).tr x2
  refine (HCL.out _ xw).mono ?_
  rintro e w3 ⟨sb, sd, rfl, oS, x3⟩
  go_wp2_with fail
  refine (HSO.out sb sd _ _ oS).mono ?_
  rintro e w4 ⟨rfl, oS4, t4⟩
  have hap : Apart sb lb := (Apart.older (fun p hp => (oL.blk p hp).2) (fun p hp => (oS.blk p hp).1)).symm
  have oL4 := t4.own (oL.ext x3) (fun p hp h => hap.inS p hp h)
  have xw := t4.ext (xw.tr x3) (fun k h => by have := inS_ge oS h; have := xw.size; omega)
  clear x0 x1 x2 x3 t4 oS oL hap
  go_wp2_with fail
  refine (HEQ.out sb lb sd ld _ oS4.rd oL4.rd.iUp).mono ?_
  rintro e w5 ⟨rfl, x5⟩
  have xw := xw.tr x5
  clear x5 oS4 oL4
  cases ho : ordB N o
  · rw [ho] at HG
    go_wp2_with fail
    go_ret2
    exact ⟨rfl, xw⟩
  · have HCB : Hid (chB ch o.length = false) := by have := HG.out; rw [ho, Bool.true_and] at this; exact this
    by_cases hlen : ch.length = o.length
    · have t1 : ((ch.length : Int) != (o.length : Int)) = false := by simp [hlen]
      have HAN : Hid ((ch.any fun x => decide (x < 0)) = true) := by
        show _ = _
        have := HC2.out hlen
        rw [HCB.out] at this
        simpa using this
      clear hlen ho
      go_wp2_with fail
      refine (HCF.out _ xw).mono ?_
      rintro e w6 ⟨rfl, x6⟩
      rw [HAN.out]
      go_wp2_with fail
      go_ret2
      exact ⟨rfl, xw.tr x6⟩
    · have t1 : ((ch.length : Int) != (o.length : Int)) = true := by rw [bne_iff_ne]; omega
      clear hlen ho
      go_wp2_with fail
      go_ret2
      exact ⟨rfl, xw⟩

end Go.Proofs.Ytkdncpglgdiicaa
