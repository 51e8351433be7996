/- The law FnExactTurnDoor: the walk. -/
import Derived.Test.YtkdncpglgdiicaaSTrap3
import Derived.Test.YtkdncpglgdiicaaLawGS
namespace Go.Proofs.Ytkdncpglgdiicaa
open Go Go.RowKit Go.Sort

theorem TrRes.up {n : Int} {ds : List ND} {ks L : List Nat} {b : Bool} {w : World} {e : Ending} {w' : World}
    (h : ∃ b1 d1 b2 d2 b3 d3, e = .returned (.tuple #[.agg #[.int .i64 n, .slice b1 ds.length d1, .slice b2 ks.length d2, .slice b3 L.length d3], .bool b]) ∧ Own EDN 140 w' w.heap.size b1 d1 ds ∧ Own EN 3 w' w.heap.size b2 d2 ks ∧ Own EN 3 w' w.heap.size b3 d3 L ∧ Apart b1 b2 ∧ Apart b1 b3 ∧ Apart b2 b3 ∧ Ext w w') :
    TrRes ((⟨n, ds.map upD, ks.map upN⟩, L.map upN), b) w e w' := by
  obtain ⟨b1, d1, b2, d2, b3, d3, rfl, o1, o2, o3, r⟩ := h
  exact ⟨b1, d1, b2, d2, b3, d3, by simp, o1.map upD rfl (fun _ => rfl), o2.map upN rfl (fun _ => rfl), o3.map upN rfl (fun _ => rfl), r⟩

theorem trapB_up {m : Mz} {l : List Int} {k : Int} (h : trapB m l = true) (hk : withinB k 0 ((m.doors.length : Int) - 1) = true) : ∃ (n : NM) (F : List Nat) (K : Nat), n.Ok ∧ m = n.up ∧ l = F.map upN ∧ F.Pairwise (· < ·) ∧ (∀ x ∈ F, x < n.doors.length) ∧ k = (K : Int) ∧ K < n.doors.length := by
  unfold trapB at h
  simp only [Bool.and_eq_true] at h
  obtain ⟨n, hn, rfl⟩ := Mz.ok_nm h.1
  have e1 : n.up.doors.length = n.doors.length := List.length_map _
  rw [e1] at h hk
  obtain ⟨F, hF, hs, hlt⟩ := risB_up h.2
  simp only [withinB, Bool.and_eq_true, decide_eq_true_eq] at hk
  exact ⟨n, F, k.toNat, hn, rfl, hF, hs, hlt, by omega, by omega⟩
theorem turnI_up {n : NM} {F : List Nat} {K : Nat} (h : trapB n.up (F.map upN) = true) (hk : K < n.doors.length) : turnI n.up (F.map upN) (K : Int) = ((⟨(n.size : Int), n.doors.map upD, n.keys.map upN⟩, (turned n.doors.length F K).map upN), true) := by
  unfold turnI
  have e1 : n.up.doors.length = n.doors.length := List.length_map _
  have hw : withinB (K : Int) 0 ((n.doors.length : Int) - 1) = true := by simp [withinB]; omega
  rw [h, e1, hw, upN_toNat, Int.toNat_natCast]
  rfl

theorem turnDoor_any (m : Mz) (l : List Int) (k : Int) (a1 a2 a3 : Option Addr) (c1 c2 c3 : Nat) (w : World) (h1 : Rd ED w a1 m.doors) (h2 : Rd EI w a2 m.keys) (h3 : Rd EI w a3 l) (hl : m.doors.length ≤ 9223372036854775807) (hl2 : m.keys.length ≤ 9223372036854775807) (hl3 : l.length ≤ 9223372036854775807) :
    Calls Try.prog 27 #[.agg #[.int .i64 m.size, .slice a1 m.doors.length c1, .slice a2 m.keys.length c2, .slice a3 l.length c3], .int .i64 k] w (TrRes (turnI m l k) w) := by
  cases hg : trapB m l
  · rw [turnI_no1 hg]
    exact turnDoor_no1 m l k hg a1 a2 a3 c1 c2 c3 w h1 h2 h3 hl hl2 hl3
  · cases hk : withinB k 0 ((m.doors.length : Int) - 1)
    · rw [turnI_no2 hk]
      exact turnDoor_no2 m l k hg hk a1 a2 a3 c1 c2 c3 w h1 h2 h3 hl hl2 hl3
    · obtain ⟨n, F, K, hn, rfl, rfl, hs, hlt, rfl, hK⟩ := trapB_up hg hk
      rw [turnI_up hg hK]
      have h := turnDoor_yes n hn F hs hlt K hK hg a1 a2 a3 c1 c2 c3 w (Rd.dDn h1) (Rd.iDn h2) (Rd.iDn h3)
      have e1 : n.up.doors.length = n.doors.length := List.length_map _
      have e2 : n.up.keys.length = n.keys.length := List.length_map _
      rw [e1, e2, List.length_map]
      exact h.mono fun e w' h => TrRes.up h
theorem sTurnDoor_any (m : Mz) (l : List Int) (k : Int) (a1 a2 a3 : Option Addr) (c1 c2 c3 : Nat) (w : World) (h1 : Rd ED w a1 m.doors) (h2 : Rd EI w a2 m.keys) (h3 : Rd EI w a3 l) (hl : m.doors.length ≤ 9223372036854775807) (hl2 : m.keys.length ≤ 9223372036854775807) (hl3 : l.length ≤ 9223372036854775807) :
    Calls Try.prog 25 #[.agg #[.int .i64 m.size, .slice a1 m.doors.length c1, .slice a2 m.keys.length c2, .slice a3 l.length c3], .int .i64 k] w (TrRes (turnI m l k) w) := by
  cases hg : trapB m l
  · rw [turnI_no1 hg]
    exact sTurnDoor_no1 m l k hg a1 a2 a3 c1 c2 c3 w h1 h2 h3 hl hl2 hl3
  · cases hk : withinB k 0 ((m.doors.length : Int) - 1)
    · rw [turnI_no2 hk]
      exact sTurnDoor_no2 m l k hg hk a1 a2 a3 c1 c2 c3 w h1 h2 h3 hl hl2 hl3
    · obtain ⟨n, F, K, hn, rfl, rfl, hs, hlt, rfl, hK⟩ := trapB_up hg hk
      rw [turnI_up hg hK]
      have h := sTurnDoor_yes n hn F hs hlt K hK hg a1 a2 a3 c1 c2 c3 w (Rd.dDn h1) (Rd.iDn h2) (Rd.iDn h3)
      have e1 : n.up.doors.length = n.doors.length := List.length_map _
      have e2 : n.up.keys.length = n.keys.length := List.length_map _
      rw [e1, e2, List.length_map]
      exact h.mono fun e w' h => TrRes.up h
theorem turnI_len (m : Mz) (l : List Int) (k : Int) (h1 : m.doors.length ≤ 1048576) (h2 : m.keys.length ≤ 1048576) : (turnI m l k).1.1.doors.length ≤ 1048576 ∧ (turnI m l k).1.1.keys.length ≤ 1048576 ∧ (turnI m l k).1.2.length ≤ 1048576 := by
  unfold turnI
  split
  · refine ⟨h1, h2, ?_⟩
    have := turned_len m.doors.length (l.map Int.toNat) k.toNat
    simp only [List.length_map]
    omega
  · simp

theorem entersToTrap : Enters Try.prog 26 := fun _ _ => by go_simp
theorem entersEqTrap : Enters Try.prog 28 := fun _ _ => by go_simp

set_option maxRecDepth 100000 in
set_option maxHeartbeats 1000000 in
theorem lawTD_any (m : Mz) (l : List Int) (k : Int) (a1 a2 a3 : Option Addr) (c1 c2 c3 : Nat) (w : World) (h1 : Rd ED w a1 m.doors) (h2 : Rd EI w a2 m.keys) (h3 : Rd EI w a3 l) (hl : m.doors.length ≤ 9223372036854775807) (hl2 : m.keys.length ≤ 9223372036854775807) (hl3 : l.length ≤ 9223372036854775807) :
    Calls Try.prog 4 #[.agg #[.int .i64 m.size, .slice a1 m.doors.length c1, .slice a2 m.keys.length c2, .slice a3 l.length c3], .int .i64 k] w fun e w' => e = .returned (.bool true) ∧ Ext w w' := by
  have HSZ := Lib.hid fun w' => szTrap_any m.size m.doors.length m.keys.length l.length 1048576 a1 a2 a3 c1 c2 c3 w' hl hl2 hl3 (by omega) (by omega)
  by_cases hs : szT m.doors.length m.keys.length l.length 1048576 < 0
  · obtain ⟨z, hz⟩ : ∃ z, z = szT m.doors.length m.keys.length l.length 1048576 := ⟨_, rfl⟩
    rw [← hz] at HSZ hs
    clear hz
    go_enter Try.func4, Try.ntmps4
    go_wp2_with fail
    refine (HSZ.out _).mono ?_
    rintro e w1 ⟨rfl, x1⟩
    go_wp2_with fail
    go_ret
    exact ⟨rfl, ((Ext.rf _).al _).tr x1⟩
  · have hsp := szT_pos (Int.not_lt.1 hs)
    have hb1 : m.doors.length ≤ 1048576 := by omega
    have hb2 : m.keys.length ≤ 1048576 := by omega
    have hb3 : l.length ≤ 1048576 := by omega
    obtain ⟨hR1, hR2, hR3⟩ := turnI_len m l k hb1 hb2
    have HTT := Lib.hid fun w' (hx : Ext w w') => toTrap_any m l a1 a2 a3 c1 c2 c3 w' (h1.ext hx) (h2.ext hx) (h3.ext hx) (by omega) (by omega) (by omega)
    have HST := Lib.hid fun w' b1 b2 b3 d1 d2 d3 (g1 : Rd ED w' b1 m.doors) (g2 : Rd EI w' b2 m.keys) (g3 : Rd EI w' b3 l) => sTurnDoor_any m l k b1 b2 b3 d1 d2 d3 w' g1 g2 g3 (by omega) (by omega) (by omega)
    have HIT := Lib.hid fun w' b1 b2 b3 d1 d2 d3 (g1 : Rd ED w' b1 m.doors) (g2 : Rd EI w' b2 m.keys) (g3 : Rd EI w' b3 l) => turnDoor_any m l k b1 b2 b3 d1 d2 d3 w' g1 g2 g3 (by omega) (by omega) (by omega)
    have HET := Lib.hid fun w' b1 b2 b3 e1 e2 e3 d1 d2 d3 g1 g2 g3 (r1 : Rd ED w' b1 m.doors) (r2 : Rd EI w' b2 m.keys) (r3 : Rd EI w' b3 l) (q1 : Rd ED w' e1 m.doors) (q2 : Rd EI w' e2 m.keys) (q3 : Rd EI w' e3 l) => eqTrap_yes m l b1 b2 b3 e1 e2 e3 d1 d2 d3 g1 g2 g3 w' r1 r2 r3 q1 q2 q3 (by omega) (by omega) (by omega)
    obtain ⟨sz, ds, ks⟩ := m
    simp only at *
    obtain ⟨z, hz⟩ : ∃ z, z = szT ds.length ks.length l.length 1048576 := ⟨_, rfl⟩
    rw [← hz] at HSZ hs hsp
    obtain ⟨RR, hRR⟩ : ∃ RR, RR = turnI ⟨sz, ds, ks⟩ l k := ⟨_, rfl⟩
    rw [← hRR] at HST HIT hR1 hR2 hR3
    obtain ⟨⟨R, L⟩, b⟩ := RR
    have HER := Lib.hid fun w' b1 b2 b3 e1 e2 e3 d1 d2 d3 g1 g2 g3 (r1 : Rd ED w' b1 R.doors) (r2 : Rd EI w' b2 R.keys) (r3 : Rd EI w' b3 L) (q1 : Rd ED w' e1 R.doors) (q2 : Rd EI w' e2 R.keys) (q3 : Rd EI w' e3 L) => eqTrap_yes R L b1 b2 b3 e1 e2 e3 d1 d2 d3 g1 g2 g3 w' r1 r2 r3 q1 q2 q3 (by simp only at hR1; omega) (by simp only at hR2; omega) (by simp only at hR3; omega)
    obtain ⟨rz, rd, rk⟩ := R
    simp only at *
    have tb : (b != b) = false := by simp
    clear hz hRR hl hl2 hl3 hsp
    go_enter Try.func4, Try.ntmps4
    go_wp2_with fail
    refine (HSZ.out _).mono ?_
    rintro e w1 ⟨rfl, x1⟩
    have hA := x1.bk (hp_at rfl : (w.alloc (.cells #[.int .i64 sz, .slice a1 ds.length c1, .slice a2 ks.length c2, .slice a3 l.length c3] 41)).heap[w.heap.size]? = _)
    have xw := ((Ext.rf w).al (.cells #[.int .i64 sz, .slice a1 ds.length c1, .slice a2 ks.length c2, .slice a3 l.length c3] 41)).tr x1
    clear x1
    obtain ⟨⟨p0, p1, p2, p3⟩, _⟩ := blk4 hA
    go_wp2_with fail
    refine (HTT.out _ xw).mono ?_
    rintro e w2 ⟨b1, d1, b2, d2, b3, d3, rfl, o1, o2, o3, _, _, _, x2⟩
    have hA := x2.bk hA
    have xw := xw.tr x2
    clear p0 p1 p2 p3 x2
    go_wp2_with fail
    refine (HST.out _ b1 b2 b3 d1 d2 d3 o1.rd o2.rd o3.rd).mono ?_
    rintro e w4 ⟨aw1, cw1, aw2, cw2, aw3, cw3, rfl, oW1, oW2, oW3, _, _, _, x4⟩
    have hA := x4.bk hA
    have xw := xw.tr x4
    have IW1 : Hid (In aw1 w2.heap.size w4.heap.size) := oW1.in_
    have IW2 : Hid (In aw2 w2.heap.size w4.heap.size) := oW2.in_
    have IW3 : Hid (In aw3 w2.heap.size w4.heap.size) := oW3.in_
    clear o1 o2 o3 x4
    obtain ⟨⟨p0, p1, p2, p3⟩, _⟩ := blk4 hA
    have hw4 : w.heap.size < w4.heap.size := lt_of_block hA
    go_wp2_with fail
    obtain ⟨W4, hW4⟩ : ∃ W4, W4 = w4.alloc (.cells #[.int .i64 rz, .slice aw1 rd.length cw1, .slice aw2 rk.length cw2, .slice aw3 L.length cw3] 44) := ⟨_, rfl⟩
    rw [← hW4]
    have x5 : Ext w4 W4 := by rw [hW4]; exact (Ext.rf _).al _
    have hW : W4.heap[w4.heap.size]? = some (.cells #[.int .i64 rz, .slice aw1 rd.length cw1, .slice aw2 rk.length cw2, .slice aw3 L.length cw3] 44 (0, 0)) := by rw [hW4]; exact hp_at rfl
    clear hW4 p0 p1 p2 p3
    have hA := x5.bk hA
    have oW1 := oW1.ext x5
    have oW2 := oW2.ext x5
    have oW3 := oW3.ext x5
    have xw := xw.tr x5
    have z4 : w4.heap.size < W4.heap.size := lt_of_block hW
    clear x5
    refine (HTT.out _ xw).mono ?_
    rintro e w5 ⟨e1, g1, e2, g2, e3, g3, rfl, o1, o2, o3, ap12, ap13, ap23, x5⟩
    have AP12 := Lib.hid ap12
    have AP13 := Lib.hid ap13
    have AP23 := Lib.hid ap23
    have I1 : Hid (In e1 W4.heap.size w5.heap.size) := o1.in_
    have I2 : Hid (In e2 W4.heap.size w5.heap.size) := o2.in_
    have I3 : Hid (In e3 W4.heap.size w5.heap.size) := o3.in_
    have hA := x5.bk hA
    have hW := x5.bk hW
    have oW1 := oW1.ext x5
    have oW2 := oW2.ext x5
    have oW3 := oW3.ext x5
    have xw := xw.tr x5
    have z45 : W4.heap.size ≤ w5.heap.size := x5.size
    clear x5 ap12 ap13 ap23
    have hw5 : w.heap.size < w5.heap.size := lt_of_block hA
    go_wp2_with fail
    obtain ⟨W5, hW5⟩ : ∃ W5, W5 = w5.alloc (.cells #[.int .i64 sz, .slice e1 ds.length g1, .slice e2 ks.length g2, .slice e3 l.length g3] 44) := ⟨_, rfl⟩
    rw [← hW5]
    have x5 : Ext w5 W5 := by rw [hW5]; exact (Ext.rf _).al _
    have hX : W5.heap[w5.heap.size]? = some (.cells #[.int .i64 sz, .slice e1 ds.length g1, .slice e2 ks.length g2, .slice e3 l.length g3] 44 (0, 0)) := by rw [hW5]; exact hp_at rfl
    clear hW5
    have hA := x5.bk hA
    have hW := x5.bk hW
    have oW1 := oW1.ext x5
    have oW2 := oW2.ext x5
    have oW3 := oW3.ext x5
    have o1 := o1.ext x5
    have o2 := o2.ext x5
    have o3 := o3.ext x5
    have xw := xw.tr x5
    have z55 : w5.heap.size < W5.heap.size := lt_of_block hX
    clear x5
    refine (HIT.out _ e1 e2 e3 g1 g2 g3 o1.rd o2.rd o3.rd).mono ?_
    rintro e w6 ⟨ag1, cg1, ag2, cg2, ag3, cg3, rfl, oG1, oG2, oG3, aq12, aq13, aq23, x6⟩
    have AQ12 := Lib.hid aq12
    have AQ13 := Lib.hid aq13
    have AQ23 := Lib.hid aq23
    have IG1 : Hid (In ag1 W5.heap.size w6.heap.size) := oG1.in_
    have IG2 : Hid (In ag2 W5.heap.size w6.heap.size) := oG2.in_
    have IG3 : Hid (In ag3 W5.heap.size w6.heap.size) := oG3.in_
    have hA := x6.bk hA
    have hW := x6.bk hW
    have hX := x6.bk hX
    have oW1 := oW1.ext x6
    have oW2 := oW2.ext x6
    have oW3 := oW3.ext x6
    have o1 := o1.ext x6
    have o2 := o2.ext x6
    have o3 := o3.ext x6
    have xw := xw.tr x6
    have z56 : W5.heap.size ≤ w6.heap.size := x6.size
    clear x6 aq12 aq13 aq23
    have hw4' : w4.heap.size < w6.heap.size := lt_of_block hW
    obtain ⟨⟨r0, r1, r2, r3⟩, _⟩ := blk4 hW
    go_wp2_with fail
    obtain ⟨W6, hW6⟩ : ∃ W6, W6 = w6.alloc (.cells #[.int .i64 rz, .slice ag1 rd.length cg1, .slice ag2 rk.length cg2, .slice ag3 L.length cg3] 44) := ⟨_, rfl⟩
    rw [← hW6]
    have x6 : Ext w6 W6 := by rw [hW6]; exact (Ext.rf _).al _
    have hG : W6.heap[w6.heap.size]? = some (.cells #[.int .i64 rz, .slice ag1 rd.length cg1, .slice ag2 rk.length cg2, .slice ag3 L.length cg3] 44 (0, 0)) := by rw [hW6]; exact hp_at rfl
    clear hW6 r0 r1 r2 r3
    have hA := x6.bk hA
    have hW := x6.bk hW
    have hX := x6.bk hX
    have oW1 := oW1.ext x6
    have oW2 := oW2.ext x6
    have oW3 := oW3.ext x6
    have o1 := o1.ext x6
    have o2 := o2.ext x6
    have o3 := o3.ext x6
    have oG1 := oG1.ext x6
    have oG2 := oG2.ext x6
    have oG3 := oG3.ext x6
    have xw := xw.tr x6
    clear x6
    refine (HER.out _ ag1 ag2 ag3 aw1 aw2 aw3 cg1 cg2 cg3 cw1 cw2 cw3 oG1.rd oG2.rd oG3.rd oW1.rd oW2.rd oW3.rd).mono ?_
    rintro e w7 ⟨rfl, x7⟩
    have hA := x7.bk hA
    have hW := x7.bk hW
    have hX := x7.bk hX
    have hG := x7.bk hG
    have oW1 := oW1.ext x7
    have oW2 := oW2.ext x7
    have oW3 := oW3.ext x7
    have o1 := o1.ext x7
    have o2 := o2.ext x7
    have o3 := o3.ext x7
    have oG1 := oG1.ext x7
    have oG2 := oG2.ext x7
    have oG3 := oG3.ext x7
    have xw := xw.tr x7
    clear x7
    obtain ⟨⟨p0, p1, p2, p3⟩, _⟩ := blk4 hA
    obtain ⟨⟨q0, q1, q2, q3⟩, _⟩ := blk4 hX
    go_wp2_with fail
    go_region_held3 (fun w' => w'.cell? ⟨w.heap.size, 0, none⟩ = some (.int .i64 sz) ∧ w'.cell? ⟨w.heap.size, 1, none⟩ = some (.slice a1 ds.length c1) ∧ w'.cell? ⟨w.heap.size, 2, none⟩ = some (.slice a2 ks.length c2) ∧ w'.cell? ⟨w.heap.size, 3, none⟩ = some (.slice a3 l.length c3) ∧ w'.cell? ⟨w5.heap.size, 0, none⟩ = some (.int .i64 sz) ∧ w'.cell? ⟨w5.heap.size, 1, none⟩ = some (.slice e1 ds.length g1) ∧ w'.cell? ⟨w5.heap.size, 2, none⟩ = some (.slice e2 ks.length g2) ∧ w'.cell? ⟨w5.heap.size, 3, none⟩ = some (.slice e3 l.length g3)) (go_keep) (first
      | (refine step_call rfl _ _ rfl #[.agg #[.int .i64 sz, .slice a1 ds.length c1, .slice a2 ks.length c2, .slice a3 l.length c3]] (by simp [go_sem]) entersToTrap (HTT.out _ xw.dr) ?_; rintro e wa ⟨b1, d1, b2, d2, b3, d3, rfl, oa, ob, oc, _, _, _, xa⟩; refine ⟨_, rfl, ?_⟩; have v0 := (Ext.tr (Ext.rf _).dr xa).cl p0; have v1 := (Ext.tr (Ext.rf _).dr xa).cl p1; have v2 := (Ext.tr (Ext.rf _).dr xa).cl p2; have v3 := (Ext.tr (Ext.rf _).dr xa).cl p3; have v4 := (Ext.tr (Ext.rf _).dr xa).cl q0; have v5 := (Ext.tr (Ext.rf _).dr xa).cl q1; have v6 := (Ext.tr (Ext.rf _).dr xa).cl q2; have v7 := (Ext.tr (Ext.rf _).dr xa).cl q3)
      | (refine step_call rfl _ _ rfl #[.agg #[.int .i64 sz, .slice e1 ds.length g1, .slice e2 ks.length g2, .slice e3 l.length g3], .agg #[.int .i64 sz, .slice b1 ds.length d1, .slice b2 ks.length d2, .slice b3 l.length d3]] (by simp [go_sem]) entersEqTrap (HET.out _ e1 e2 e3 b1 b2 b3 g1 g2 g3 d1 d2 d3 (o1.dr.ext xa).rd (o2.dr.ext xa).rd (o3.dr.ext xa).rd oa.rd ob.rd oc.rd) ?_; rintro e wb ⟨rfl, xb⟩; refine ⟨_, rfl, ?_⟩; have u0 := xb.cl v0; have u1 := xb.cl v1; have u2 := xb.cl v2; have u3 := xb.cl v3; have u4 := xb.cl v4; have u5 := xb.cl v5; have u6 := xb.cl v6; have u7 := xb.cl v7)
      | fail)
    have x9 : Ext w7 wb := ((Ext.rf _).dr.tr xa).tr xb
    have hA := x9.bk hA
    have hW := x9.bk hW
    have hX := x9.bk hX
    have hG := x9.bk hG
    have oW1 := oW1.ext x9
    have oW2 := oW2.ext x9
    have oW3 := oW3.ext x9
    have o1 := o1.ext x9
    have o2 := o2.ext x9
    have o3 := o3.ext x9
    have oG1 := oG1.ext x9
    have oG2 := oG2.ext x9
    have oG3 := oG3.ext x9
    have xw := xw.tr x9
    clear x9 xa xb oa ob oc v0 u0 v1 u1 v2 u2 v3 u3 v4 u4 v5 u5 v6 u6 v7 u7 p0 p1 p2 p3 q0 q1 q2 q3
    obtain ⟨⟨q0, q1, q2, q3⟩, _⟩ := blk4 hX
    go_wp2_with fail
    refine (markTrap_any sz ds ks l 1 e1 e2 e3 g1 g2 g3 _ _ o1 o2 o3 AP12.out AP13.out AP23.out (by omega) (by omega) (by omega) (by omega) (by omega)).mono ?_
    rintro e wc ⟨rfl, _, _, _, t1⟩
    have hS : ∀ k, ((inS e1 k ∨ inS e2 k) ∨ inS e3 k) → W4.heap.size ≤ k ∧ k < w5.heap.size := fun k h => by
      rcases h with (⟨p, hp, rfl⟩ | ⟨p, hp, rfl⟩) | ⟨p, hp, rfl⟩
      · exact I1.out p hp
      · exact I2.out p hp
      · exact I3.out p hp
    have hA := t1.bk hA (fun h => by have := hS _ h; omega)
    have hW := t1.bk hW (fun h => by have := hS _ h; omega)
    have hG := t1.bk hG (fun h => by have := hS _ h; omega)
    have oW1 := t1.own oW1 (fun p hp h => by have h5 := hS _ h; have h6 := (IW1.out p hp).2; omega)
    have oW2 := t1.own oW2 (fun p hp h => by have h5 := hS _ h; have h6 := (IW2.out p hp).2; omega)
    have oW3 := t1.own oW3 (fun p hp h => by have h5 := hS _ h; have h6 := (IW3.out p hp).2; omega)
    have oG1 := t1.own oG1 (fun p hp h => by have h5 := hS _ h; have h6 := (IG1.out p hp).1; omega)
    have oG2 := t1.own oG2 (fun p hp h => by have h5 := hS _ h; have h6 := (IG2.out p hp).1; omega)
    have oG3 := t1.own oG3 (fun p hp h => by have h5 := hS _ h; have h6 := (IG3.out p hp).1; omega)
    have xw := t1.ext xw (fun k h => by have := hS _ h; omega)
    clear q0 q1 q2 q3 hX o1 o2 o3 t1 hS
    obtain ⟨⟨r0, r1, r2, r3⟩, _⟩ := blk4 hW
    obtain ⟨⟨s0, s1, s2, s3⟩, _⟩ := blk4 hG
    go_wp2_with fail
    refine (HER.out _ ag1 ag2 ag3 aw1 aw2 aw3 cg1 cg2 cg3 cw1 cw2 cw3 oG1.rd oG2.rd oG3.rd oW1.rd oW2.rd oW3.rd).mono ?_
    rintro e w8 ⟨rfl, x7⟩
    have hA := x7.bk hA
    have hW := x7.bk hW
    have hG := x7.bk hG
    have oW1 := oW1.ext x7
    have oW2 := oW2.ext x7
    have oW3 := oW3.ext x7
    have oG1 := oG1.ext x7
    have oG2 := oG2.ext x7
    have oG3 := oG3.ext x7
    have xw := xw.tr x7
    clear x7 r0 r1 r2 r3 s0 s1 s2 s3
    obtain ⟨⟨s0, s1, s2, s3⟩, _⟩ := blk4 hG
    go_wp2_with fail
    refine (markTrap_any rz rd rk L 1 ag1 ag2 ag3 cg1 cg2 cg3 _ _ oG1 oG2 oG3 AQ12.out AQ13.out AQ23.out (by omega) (by omega) (by omega) (by omega) (by omega)).mono ?_
    rintro e wd ⟨rfl, oG1, oG2, oG3, t1⟩
    have hS : ∀ k, ((inS ag1 k ∨ inS ag2 k) ∨ inS ag3 k) → W5.heap.size ≤ k ∧ k < w6.heap.size := fun k h => by
      rcases h with (⟨p, hp, rfl⟩ | ⟨p, hp, rfl⟩) | ⟨p, hp, rfl⟩
      · exact IG1.out p hp
      · exact IG2.out p hp
      · exact IG3.out p hp
    have hA := t1.bk hA (fun h => by have := hS _ h; omega)
    have hW := t1.bk hW (fun h => by have := hS _ h; omega)
    have hG := t1.bk hG (fun h => by have := hS _ h; omega)
    have oW1 := t1.own oW1 (fun p hp h => by have h5 := hS _ h; have h6 := (IW1.out p hp).2; omega)
    have oW2 := t1.own oW2 (fun p hp h => by have h5 := hS _ h; have h6 := (IW2.out p hp).2; omega)
    have oW3 := t1.own oW3 (fun p hp h => by have h5 := hS _ h; have h6 := (IW3.out p hp).2; omega)
    have xw := t1.ext xw (fun k h => by have := hS _ h; omega)
    clear s0 s1 s2 s3 t1 hS
    obtain ⟨⟨s0, s1, s2, s3⟩, _⟩ := blk4 hG
    go_wp2_with fail
    refine (heldTrap_any rz rd.length rk.length L.length 1 ag1 ag2 ag3 cg1 cg2 cg3 _ oG1.rd oG2.rd oG3.rd (by omega) (by omega) (by omega) (by omega) (by omega)).mono ?_
    rintro e we ⟨rfl, x7⟩
    have hA := x7.bk hA
    have hW := x7.bk hW
    have hG := x7.bk hG
    have oW1 := oW1.ext x7
    have oW2 := oW2.ext x7
    have oW3 := oW3.ext x7
    have oG1 := oG1.ext x7
    have oG2 := oG2.ext x7
    have oG3 := oG3.ext x7
    have xw := xw.tr x7
    clear x7 s0 s1 s2 s3
    have tq : ((1 + 3 * (rd.length : Int) + (rk.length : Int) + (L.length : Int)) != (1 + 3 * (rd.length : Int) + (rk.length : Int) + (L.length : Int))) = false := by simp
    obtain ⟨⟨p0, p1, p2, p3⟩, _⟩ := blk4 hA
    go_wp2_with fail
    refine (HTT.out _ xw).mono ?_
    rintro e wf ⟨b1, d1, b2, d2, b3, d3, rfl, oa, ob, oc, _, _, _, x7⟩
    have hW := x7.bk hW
    have hG := x7.bk hG
    have oW1 := oW1.ext x7
    have oW2 := oW2.ext x7
    have oW3 := oW3.ext x7
    have oG1 := oG1.ext x7
    have oG2 := oG2.ext x7
    have oG3 := oG3.ext x7
    have xw := xw.tr x7
    clear x7 p0 p1 p2 p3 hA
    go_wp2_with fail
    refine (HIT.out _ b1 b2 b3 d1 d2 d3 oa.rd ob.rd oc.rd).mono ?_
    rintro e wg ⟨ah1, ch1, ah2, ch2, ah3, ch3, rfl, oH1, oH2, oH3, _, _, _, x7⟩
    have hW := x7.bk hW
    have hG := x7.bk hG
    have oW1 := oW1.ext x7
    have oW2 := oW2.ext x7
    have oW3 := oW3.ext x7
    have oG1 := oG1.ext x7
    have oG2 := oG2.ext x7
    have oG3 := oG3.ext x7
    have xw := xw.tr x7
    clear x7 oa ob oc
    have hw4' : w4.heap.size < wg.heap.size := lt_of_block hW
    obtain ⟨⟨r0, r1, r2, r3⟩, _⟩ := blk4 hW
    go_wp2_with fail
    refine (HER.out _ ah1 ah2 ah3 aw1 aw2 aw3 ch1 ch2 ch3 cw1 cw2 cw3 (oH1.al _).rd (oH2.al _).rd (oH3.al _).rd (oW1.al _).rd (oW2.al _).rd (oW3.al _).rd).mono ?_
    rintro e wh ⟨rfl, x7⟩
    have hG := x7.bk (hp_old hG)
    have oG1 := (oG1.al _).ext x7
    have oG2 := (oG2.al _).ext x7
    have oG3 := (oG3.al _).ext x7
    have xw := (xw.al _).tr x7
    clear x7 r0 r1 r2 r3 oH1 oH2 oH3 oW1 oW2 oW3 hW
    obtain ⟨⟨s0, s1, s2, s3⟩, _⟩ := blk4 hG
    go_wp2_with fail
    refine (heldTrap_any rz rd.length rk.length L.length 1 ag1 ag2 ag3 cg1 cg2 cg3 _ oG1.rd oG2.rd oG3.rd (by omega) (by omega) (by omega) (by omega) (by omega)).mono ?_
    rintro e wi ⟨rfl, x7⟩
    have xw := xw.tr x7
    go_wp2_with fail
    go_ret
    exact ⟨rfl, xw⟩

end Go.Proofs.Ytkdncpglgdiicaa
