/- Fillings by assumption and forward, of the program and of the reference, at every input: one plain answer. -/
import Derived.Test.YtkdncpglgdiicaaFill4
import Derived.Test.YtkdncpglgdiicaaGSw
namespace Go.Proofs.Ytkdncpglgdiicaa
open Go Go.RowKit Go.Sort

/-- What is made. -/
noncomputable def fillI (m : Mz) (s : Int) (o ch : List Int) (fw : Bool) : List Int × Bool :=
  if makeB m s o ch then ((byCol (mem s.toNat) (o.map Int.toNat) (fillY m.dn.doors m.dn.size (o.map Int.toNat) (ch.map Int.toNat) (if fw then 0 else s.toNat) o.length)).map upN, true) else ([], false)
theorem fillI_no {m : Mz} {s : Int} {o ch : List Int} {fw : Bool} (h : makeB m s o ch = false) : fillI m s o ch fw = ([], false) := by unfold fillI; rw [h]; rfl
theorem makeB_up {m : Mz} {s : Int} {o ch : List Int} (h : makeB m s o ch = true) : ∃ (n : NM) (N : Nat) (O CH : List Nat), n.Ok ∧ m = n.up ∧ N ≤ 63 ∧ s = (N : Int) ∧ o = O.map upN ∧ ch = CH.map upN ∧ O.Perm (mem N) ∧ CH.length = O.length ∧ ordB N (O.map upN) = true := by
  unfold makeB at h
  simp only [Bool.and_eq_true] at h
  obtain ⟨⟨h1, h2⟩, h3, h4⟩ := h
  obtain ⟨n, hn, rfl⟩ := Mz.ok_nm h1
  obtain ⟨N, hN, rfl⟩ := setB_up h2
  rw [Int.toNat_natCast] at h3
  obtain ⟨O, rfl, hp⟩ := ordB_up hN h3
  obtain ⟨CH, rfl, hc⟩ := chB_up h4
  exact ⟨n, N, O, CH, hn, rfl, hN, rfl, rfl, rfl, hp, by rw [hc, List.length_map], h3⟩
theorem fillI_yes {n : NM} {N : Nat} {O CH : List Nat} {fw : Bool} (h : makeB n.up (N : Int) (O.map upN) (CH.map upN) = true) : fillI n.up (N : Int) (O.map upN) (CH.map upN) fw = ((byCol (mem N) O (fillY n.doors n.size O CH (if fw then 0 else N) O.length)).map upN, true) := by
  unfold fillI
  rw [h, NM.up_dn, upN_toNat, upN_toNat, Int.toNat_natCast, List.length_map]
  rfl
theorem fillI_len (m : Mz) (s : Int) (o ch : List Int) (fw : Bool) : (fillI m s o ch fw).1.length ≤ 1000 := by
  cases hg : makeB m s o ch
  · rw [fillI_no hg]; simp
  · obtain ⟨n, N, O, CH, hn, rfl, hN, rfl, rfl, rfl, _, _, _⟩ := makeB_up hg
    rw [fillI_yes hg]
    have := mem_le6 hN
    simp only [List.length_map, byCol]
    omega

def FRes (R : List Int × Bool) (w : World) (e : Ending) (w' : World) : Prop :=
  ∃ a c, e = .returned (.tuple #[.slice a R.1.length c, .bool R.2]) ∧ Own EI 3 w' w.heap.size a c R.1 ∧ Ext w w'
theorem FRes.up {L : List Nat} {b : Bool} {w : World} {e : Ending} {w' : World} (h : ∃ a c, e = .returned (.tuple #[.slice a L.length c, .bool b]) ∧ Own EN 3 w' w.heap.size a c L ∧ Ext w w') : FRes (L.map upN, b) w e w' := by
  obtain ⟨a, c, rfl, h1, h2⟩ := h
  exact ⟨a, c, by rw [List.length_map], h1.map upN rfl (fun _ => rfl), h2⟩

theorem filled_any (m : Mz) (s hand : Int) (o ch : List Int) (fw : Bool) (hh : hand = if fw then 0 else s) (a1 a2 a3 a4 : Option Addr) (c1 c2 c3 c4 : Nat) (w : World) (h1 : Rd ED w a1 m.doors) (h2 : Rd EI w a2 m.keys) (h3 : Rd EI w a3 o) (h4 : Rd EI w a4 ch) (hl : m.doors.length ≤ 9223372036854775807) (hl2 : m.keys.length ≤ 9223372036854775807) (hl3 : o.length ≤ 1000000000) (hl4 : ch.length ≤ 9223372036854775807) (hcb : ∀ x ∈ ch, x ≤ 9223372036854775807) :
    Calls Try.prog 108 #[.agg #[.int .i64 m.size, .slice a1 m.doors.length c1, .slice a2 m.keys.length c2], .int .i64 s, .int .i64 hand, .slice a3 o.length c3, .slice a4 ch.length c4] w (FRes (fillI m s o ch fw) w) := by
  cases hg : makeB m s o ch
  · rw [fillI_no hg]
    unfold makeB at hg
    cases hb : (m.ok && setB s)
    · refine (filled_no1 m s hand o ch hb a1 a2 a3 a4 c1 c2 c3 c4 w h1 h2 hl hl2).mono ?_
      rintro e w' ⟨rfl, x⟩
      exact ⟨none, 0, rfl, Own.nil _ _ _ _, x⟩
    · rw [hb, Bool.true_and] at hg
      simp only [Bool.and_eq_true] at hb
      obtain ⟨n, hn, rfl⟩ := Mz.ok_nm hb.1
      obtain ⟨N, hN, rfl⟩ := setB_up hb.2
      rw [Int.toNat_natCast] at hg
      have e1 : n.up.doors.length = n.doors.length := List.length_map _
      have e2 : n.up.keys.length = n.keys.length := List.length_map _
      rw [e1, e2]
      refine (filled_no2 n hn N hN hand o ch hg a1 a2 a3 a4 c1 c2 c3 c4 w (Rd.dDn h1) (Rd.iDn h2) h3 h4 hl3 hl4).mono ?_
      rintro e w' ⟨rfl, x⟩
      exact ⟨none, 0, rfl, Own.nil _ _ _ _, x⟩
  · obtain ⟨n, N, O, CH, hn, rfl, hN, rfl, rfl, rfl, hp, hcl, ho⟩ := makeB_up hg
    rw [fillI_yes hg]
    have e0 : hand = (((if fw then 0 else N : Nat)) : Int) := by rw [hh]; cases fw <;> rfl
    have e3 : (if fw then 0 else N : Nat) ≤ 63 := by cases fw <;> simp; omega
    have h := filled_yes n hn N hN (if fw then 0 else N) e3 O CH hp hcl (fun x hx => by have := hcb (upN x) (List.mem_map_of_mem hx); simp only [upN] at this; omega) ho a1 a2 a3 a4 c1 c2 c3 c4 w (Rd.dDn h1) (Rd.iDn h2) (Rd.iDn h3) (Rd.iDn h4)
    have e1 : n.up.doors.length = n.doors.length := List.length_map _
    have e2 : n.up.keys.length = n.keys.length := List.length_map _
    rw [e1, e2, List.length_map, List.length_map, e0]
    exact h.mono fun e w' h => FRes.up h

theorem assumedFilling_any (m : Mz) (s : Int) (o ch : List Int) (a1 a2 a3 a4 : Option Addr) (c1 c2 c3 c4 : Nat) (w : World) (h1 : Rd ED w a1 m.doors) (h2 : Rd EI w a2 m.keys) (h3 : Rd EI w a3 o) (h4 : Rd EI w a4 ch) (hl : m.doors.length ≤ 9223372036854775807) (hl2 : m.keys.length ≤ 9223372036854775807) (hl3 : o.length ≤ 1000000000) (hl4 : ch.length ≤ 9223372036854775807) (hcb : ∀ x ∈ ch, x ≤ 9223372036854775807) :
    Calls Try.prog 43 #[.agg #[.int .i64 m.size, .slice a1 m.doors.length c1, .slice a2 m.keys.length c2], .int .i64 s, .slice a3 o.length c3, .slice a4 ch.length c4] w (FRes (fillI m s o ch false) w) := by
  have HF := Lib.hid fun w' (hx : Ext w w') => filled_any m s s o ch false rfl a1 a2 a3 a4 c1 c2 c3 c4 w' (h1.ext hx) (h2.ext hx) (h3.ext hx) (h4.ext hx) hl hl2 hl3 hl4 hcb
  obtain ⟨R, hR⟩ : ∃ R, R = fillI m s o ch false := ⟨_, rfl⟩
  rw [← hR] at HF
  rw [← hR]
  clear hR
  go_enter Try.func43, Try.ntmps43
  go_wp2_with fail
  refine (HF.out _ ((Ext.rf _).al _)).mono ?_
  rintro e w1 ⟨a, c, rfl, o1, x1⟩
  go_wp2_with fail
  go_ret2
  exact ⟨a, c, rfl, o1.mono (by simp), ((Ext.rf _).al _).tr x1⟩

set_option maxRecDepth 100000 in
set_option maxHeartbeats 1000000 in
theorem sAssumedFilling_any (m : Mz) (s : Int) (o ch : List Int) (a1 a2 a3 a4 : Option Addr) (c1 c2 c3 c4 : Nat) (w : World) (h1 : Rd ED w a1 m.doors) (h2 : Rd EI w a2 m.keys) (h3 : Rd EI w a3 o) (h4 : Rd EI w a4 ch) (hl : m.doors.length ≤ 9223372036854775807) (hl2 : m.keys.length ≤ 9223372036854775807) (hl3 : o.length ≤ 1000000000) (hl4 : ch.length ≤ 9223372036854775807) (hcb : ∀ x ∈ ch, x ≤ 9223372036854775807) :
    Calls Try.prog 42 #[.agg #[.int .i64 m.size, .slice a1 m.doors.length c1, .slice a2 m.keys.length c2], .int .i64 s, .slice a3 o.length c3, .slice a4 ch.length c4] w (FRes (fillI m s o ch false) w) := by
  have HM := Lib.hid fun w' (hx : Ext w w') => l9Makes_any m s o ch a1 a2 a3 a4 c1 c2 c3 c4 w' (h1.ext hx) (h2.ext hx) (h3.ext hx) (h4.ext hx) hl hl2 (by omega) hl4
  cases hg : makeB m s o ch
  · rw [fillI_no hg]
    rw [hg] at HM
    clear hg
    go_enter Try.func42, Try.ntmps42
    go_wp2_with fail
    refine (HM.out _ ((Ext.rf _).al _)).mono ?_
    rintro e w1 ⟨rfl, x1⟩
    go_wp2_with fail
    go_ret2
    have x0 := ((Ext.rf w).al (.cells #[.int .i64 m.size, .slice a1 m.doors.length c1, .slice a2 m.keys.length c2] 30)).tr x1
    exact ⟨some ⟨w1.heap.size, 0, none⟩, 0, rfl, Own.empty (cur := #[]) (hp_at rfl) x0.size, x0.al _⟩
  · obtain ⟨n, N, O, CH, hn, rfl, hN, rfl, rfl, rfl, hp, hcl, ho⟩ := makeB_up hg
    rw [fillI_yes hg]
    rw [hg] at HM
    have e1 : n.up.doors.length = n.doors.length := List.length_map _
    have e2 : n.up.keys.length = n.keys.length := List.length_map _
    have HL := Lib.hid fun w' (hx : Ext w w') => l9Fill_any n.size N n.doors n.keys O CH false (if false then 0 else N) rfl a1 a2 a3 a4 c1 c2 c3 c4 w' (Rd.dDn (h1.ext hx)) (Rd.iDn (h2.ext hx)) (Rd.iDn (h3.ext hx)) (Rd.iDn (h4.ext hx)) hn.door hn.size_le hn.size_pos (by have := hn.doors_len; omega) hn.keys_len hN hp hcl (fun x hx => by have := hcb (upN x) (List.mem_map_of_mem hx); simp only [upN] at this; omega)
    have e5 : n.up.size = (n.size : Int) := rfl
    obtain ⟨R, hR⟩ : ∃ R, R = byCol (mem N) O (fillY n.doors n.size O CH (if false then 0 else N) O.length) := ⟨_, rfl⟩
    rw [← hR] at HL
    rw [← hR]
    simp only [e1, e2, e5, List.length_map] at HM ⊢
    obtain ⟨kl, hkl⟩ : ∃ kl, kl = n.keys.length := ⟨_, rfl⟩
    obtain ⟨dl, hdl⟩ : ∃ dl, dl = n.doors.length := ⟨_, rfl⟩
    obtain ⟨ol, hol⟩ : ∃ ol, ol = O.length := ⟨_, rfl⟩
    obtain ⟨cl, hcll⟩ : ∃ cl, cl = CH.length := ⟨_, rfl⟩
    rw [← hkl, ← hdl, ← hol, ← hcll] at HL HM
    rw [← hkl, ← hdl, ← hol, ← hcll]
    clear hR hkl hdl hol hcll hg hcl ho hp hcb e1 e2 e5 h1 h2 h3 h4 hl hl2 hl3 hl4
    go_enter Try.func42, Try.ntmps42
    go_wp2_with fail
    have x0 : Ext w (w.alloc (.cells #[.int .i64 (n.size : Int), .slice a1 dl c1, .slice a2 kl c2] 30)) := (Ext.rf _).al _
    have hM : (w.alloc (.cells #[.int .i64 (n.size : Int), .slice a1 dl c1, .slice a2 kl c2] 30)).heap[w.heap.size]? = some (.cells #[.int .i64 (n.size : Int), .slice a1 dl c1, .slice a2 kl c2] 30 (0, 0)) := hp_at rfl
    refine (HM.out _ x0).mono ?_
    rintro e w1 ⟨rfl, x1⟩
    have xw := x0.tr x1
    obtain ⟨p0, p1, p2, _, _, _⟩ := blk3 (x1.bk hM)
    clear hM x0 x1
    go_wp2_with fail
    refine (HL.out _ xw).mono ?_
    rintro e w2 ⟨a, c, rfl, o1, x2⟩
    go_wp2_with fail
    go_ret2
    exact FRes.up ⟨a, c, rfl, o1.mono xw.size, xw.tr x2⟩

theorem forwardFilling_any (m : Mz) (s : Int) (o ch : List Int) (a1 a2 a3 a4 : Option Addr) (c1 c2 c3 c4 : Nat) (w : World) (h1 : Rd ED w a1 m.doors) (h2 : Rd EI w a2 m.keys) (h3 : Rd EI w a3 o) (h4 : Rd EI w a4 ch) (hl : m.doors.length ≤ 9223372036854775807) (hl2 : m.keys.length ≤ 9223372036854775807) (hl3 : o.length ≤ 1000000000) (hl4 : ch.length ≤ 9223372036854775807) (hcb : ∀ x ∈ ch, x ≤ 9223372036854775807) :
    Calls Try.prog 45 #[.agg #[.int .i64 m.size, .slice a1 m.doors.length c1, .slice a2 m.keys.length c2], .int .i64 s, .slice a3 o.length c3, .slice a4 ch.length c4] w (FRes (fillI m s o ch true) w) := by
  have HF := Lib.hid fun w' (hx : Ext w w') => filled_any m s 0 o ch true rfl a1 a2 a3 a4 c1 c2 c3 c4 w' (h1.ext hx) (h2.ext hx) (h3.ext hx) (h4.ext hx) hl hl2 hl3 hl4 hcb
  obtain ⟨R, hR⟩ : ∃ R, R = fillI m s o ch true := ⟨_, rfl⟩
  rw [← hR] at HF
  rw [← hR]
  clear hR
  go_enter Try.func45, Try.ntmps45
  go_wp2_with fail
  refine (HF.out _ ((Ext.rf _).al _)).mono ?_
  rintro e w1 ⟨a, c, rfl, o1, x1⟩
  go_wp2_with fail
  go_ret2
  exact ⟨a, c, rfl, o1.mono (by simp), ((Ext.rf _).al _).tr x1⟩

set_option maxRecDepth 100000 in
set_option maxHeartbeats 1000000 in
theorem sForwardFilling_any (m : Mz) (s : Int) (o ch : List Int) (a1 a2 a3 a4 : Option Addr) (c1 c2 c3 c4 : Nat) (w : World) (h1 : Rd ED w a1 m.doors) (h2 : Rd EI w a2 m.keys) (h3 : Rd EI w a3 o) (h4 : Rd EI w a4 ch) (hl : m.doors.length ≤ 9223372036854775807) (hl2 : m.keys.length ≤ 9223372036854775807) (hl3 : o.length ≤ 1000000000) (hl4 : ch.length ≤ 9223372036854775807) (hcb : ∀ x ∈ ch, x ≤ 9223372036854775807) :
    Calls Try.prog 44 #[.agg #[.int .i64 m.size, .slice a1 m.doors.length c1, .slice a2 m.keys.length c2], .int .i64 s, .slice a3 o.length c3, .slice a4 ch.length c4] w (FRes (fillI m s o ch true) w) := by
  have HM := Lib.hid fun w' (hx : Ext w w') => l9Makes_any m s o ch a1 a2 a3 a4 c1 c2 c3 c4 w' (h1.ext hx) (h2.ext hx) (h3.ext hx) (h4.ext hx) hl hl2 (by omega) hl4
  cases hg : makeB m s o ch
  · rw [fillI_no hg]
    rw [hg] at HM
    clear hg
    go_enter Try.func44, Try.ntmps44
    go_wp2_with fail
    refine (HM.out _ ((Ext.rf _).al _)).mono ?_
    rintro e w1 ⟨rfl, x1⟩
    go_wp2_with fail
    go_ret2
    have x0 := ((Ext.rf w).al (.cells #[.int .i64 m.size, .slice a1 m.doors.length c1, .slice a2 m.keys.length c2] 30)).tr x1
    exact ⟨some ⟨w1.heap.size, 0, none⟩, 0, rfl, Own.empty (cur := #[]) (hp_at rfl) x0.size, x0.al _⟩
  · obtain ⟨n, N, O, CH, hn, rfl, hN, rfl, rfl, rfl, hp, hcl, ho⟩ := makeB_up hg
    rw [fillI_yes hg]
    rw [hg] at HM
    have e1 : n.up.doors.length = n.doors.length := List.length_map _
    have e2 : n.up.keys.length = n.keys.length := List.length_map _
    have HL := Lib.hid fun w' (hx : Ext w w') => l9Fill_any n.size N n.doors n.keys O CH true (if true then 0 else N) rfl a1 a2 a3 a4 c1 c2 c3 c4 w' (Rd.dDn (h1.ext hx)) (Rd.iDn (h2.ext hx)) (Rd.iDn (h3.ext hx)) (Rd.iDn (h4.ext hx)) hn.door hn.size_le hn.size_pos (by have := hn.doors_len; omega) hn.keys_len hN hp hcl (fun x hx => by have := hcb (upN x) (List.mem_map_of_mem hx); simp only [upN] at this; omega)
    have e5 : n.up.size = (n.size : Int) := rfl
    obtain ⟨R, hR⟩ : ∃ R, R = byCol (mem N) O (fillY n.doors n.size O CH (if true then 0 else N) O.length) := ⟨_, rfl⟩
    rw [← hR] at HL
    rw [← hR]
    simp only [e1, e2, e5, List.length_map] at HM ⊢
    obtain ⟨kl, hkl⟩ : ∃ kl, kl = n.keys.length := ⟨_, rfl⟩
    obtain ⟨dl, hdl⟩ : ∃ dl, dl = n.doors.length := ⟨_, rfl⟩
    obtain ⟨ol, hol⟩ : ∃ ol, ol = O.length := ⟨_, rfl⟩
    obtain ⟨cl, hcll⟩ : ∃ cl, cl = CH.length := ⟨_, rfl⟩
    rw [← hkl, ← hdl, ← hol, ← hcll] at HL HM
    rw [← hkl, ← hdl, ← hol, ← hcll]
    clear hR hkl hdl hol hcll hg hcl ho hp hcb e1 e2 e5 h1 h2 h3 h4 hl hl2 hl3 hl4
    go_enter Try.func44, Try.ntmps44
    go_wp2_with fail
    have x0 : Ext w (w.alloc (.cells #[.int .i64 (n.size : Int), .slice a1 dl c1, .slice a2 kl c2] 30)) := (Ext.rf _).al _
    have hM : (w.alloc (.cells #[.int .i64 (n.size : Int), .slice a1 dl c1, .slice a2 kl c2] 30)).heap[w.heap.size]? = some (.cells #[.int .i64 (n.size : Int), .slice a1 dl c1, .slice a2 kl c2] 30 (0, 0)) := hp_at rfl
    refine (HM.out _ x0).mono ?_
    rintro e w1 ⟨rfl, x1⟩
    have xw := x0.tr x1
    obtain ⟨p0, p1, p2, _, _, _⟩ := blk3 (x1.bk hM)
    clear hM x0 x1
    go_wp2_with fail
    refine (HL.out _ xw).mono ?_
    rintro e w2 ⟨a, c, rfl, o1, x2⟩
    go_wp2_with fail
    go_ret2
    exact FRes.up ⟨a, c, rfl, o1.mono xw.size, xw.tr x2⟩

end Go.Proofs.Ytkdncpglgdiicaa
