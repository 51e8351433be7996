/- The law FnExactGoodSwaps: the walk. -/
import Derived.Test.YtkdncpglgdiicaaGSw
namespace Go.Proofs.Ytkdncpglgdiicaa
open Go Go.RowKit Go.Sort

theorem Ext.mid {w a b : World} (h : Ext w a) {lo hi : Nat} (m : Mid lo hi a b) (hlo : w.heap.size ≤ lo) : Ext w b := Below.trans h (m.bel.mono hlo)
theorem Mid.bk {lo hi : Nat} {a b : World} (m : Mid lo hi a b) {k : Nat} {o : Obj} (h : a.heap[k]? = some o) (hk : k < lo) : b.heap[k]? = some o := (m.bel.block k hk).trans h
theorem entersToMaze : Enters Try.prog 14 := fun _ _ => by go_simp
theorem entersEqMaze : Enters Try.prog 18 := fun _ _ => by go_simp

set_option maxRecDepth 100000 in
set_option maxHeartbeats 1000000 in
theorem lawGS_any (m : Mz) (s : Int) (f : List Int) (a1 a2 a3 : Option Addr) (c1 c2 c3 : Nat) (w : World) (h1 : Rd ED w a1 m.doors) (h2 : Rd EI w a2 m.keys) (h3 : Rd EI w a3 f) (hl : m.doors.length ≤ 9223372036854775807) (hl2 : m.keys.length ≤ 9223372036854775807) (hl3 : f.length ≤ 9223372036854775807) :
    Calls Try.prog 3 #[.agg #[.int .i64 m.size, .slice a1 m.doors.length c1, .slice a2 m.keys.length c2], .int .i64 s, .slice a3 f.length c3] w fun e w' => e = .returned (.bool true) ∧ Ext w w' := by
  by_cases hf : 1048576 < f.length
  · go_enter Try.func3, Try.ntmps3
    go_wp2_with fail
    go_ret
    exact ⟨rfl, (Ext.rf _).al _⟩
  · have HSZ := Lib.hid fun w' => szMaze_any m.size m.doors.length m.keys.length 1048576 a1 a2 c1 c2 w' hl hl2 (by omega) (by omega)
    by_cases hs : szM m.doors.length m.keys.length 1048576 < 0
    · obtain ⟨z, hz⟩ : ∃ z, z = szM m.doors.length m.keys.length 1048576 := ⟨_, rfl⟩
      rw [← hz] at HSZ hs
      clear hz
      go_enter Try.func3, Try.ntmps3
      go_wp2_with fail
      refine (HSZ.out _).mono ?_
      rintro e w1 ⟨rfl, x1⟩
      go_wp2_with fail
      go_ret
      exact ⟨rfl, ((Ext.rf _).al _).tr x1⟩
    · have hsp := szM_pos (Int.not_lt.1 hs)
      have hb1 : m.doors.length ≤ 1048576 := by omega
      have hb2 : m.keys.length ≤ 1048576 := by omega
      have hb3 : f.length ≤ 1048576 := by omega
      have hRl := gswI_len m s f
      have HTM := Lib.hid fun w' (hx : Ext w w') => toMaze_any m a1 a2 c1 c2 w' (h1.ext hx) (h2.ext hx) (by omega) (by omega)
      have HTI := Lib.hid fun w' (hx : Ext w w') => toIntS_any f a3 c3 w' (h3.ext hx) (by omega)
      have HSG := Lib.hid fun w' b1 b2 b3 d1 d2 d3 (g1 : Rd ED w' b1 m.doors) (g2 : Rd EI w' b2 m.keys) (g3 : Rd EI w' b3 f) => sGoodSwaps_any m s f b1 b2 b3 d1 d2 d3 w' g1 g2 g3 (by omega) (by omega) (by omega)
      have HIG := Lib.hid fun w' b1 b2 b3 d1 d2 d3 (g1 : Rd ED w' b1 m.doors) (g2 : Rd EI w' b2 m.keys) (g3 : Rd EI w' b3 f) => goodSwaps_any m s f b1 b2 b3 d1 d2 d3 w' g1 g2 g3 (by omega) (by omega) (by omega)
      have HEM := Lib.hid fun w' b1 b2 e1 e2 d1 d2 g1 g2 (r1 : Rd ED w' b1 m.doors) (r2 : Rd EI w' b2 m.keys) (q1 : Rd ED w' e1 m.doors) (q2 : Rd EI w' e2 m.keys) => eqMaze_yes m b1 b2 e1 e2 d1 d2 g1 g2 w' r1 r2 q1 q2 (by omega) (by omega)
      have HEI := Lib.hid fun w' b1 b2 d1 d2 (r1 : Rd EI w' b1 f) (r2 : Rd EI w' b2 f) => eqIntS_any f f b1 b2 d1 d2 w' r1 r2 (by omega) (by omega)
      have e1 : eqL f f = true := by simp [eqL]
      rw [e1] at HEI
      obtain ⟨sz, ds, ks⟩ := m
      simp only at *
      obtain ⟨z, hz⟩ : ∃ z, z = szM ds.length ks.length 1048576 := ⟨_, rfl⟩
      rw [← hz] at HSZ hs hsp
      obtain ⟨RR, hRR⟩ : ∃ RR, RR = gswI ⟨sz, ds, ks⟩ s f := ⟨_, rfl⟩
      rw [← hRR] at HSG HIG hRl
      obtain ⟨R, b⟩ := RR
      have HEP := Lib.hid fun w' b1 b2 d1 d2 (r1 : Rd EP w' b1 R) (r2 : Rd EP w' b2 R) => eqIntA2S_any R R b1 b2 d1 d2 w' r1 r2 (by simp only at hRl; omega) (by simp only at hRl; omega)
      have e2 : eqL R R = true := by simp [eqL]
      rw [e2] at HEP
      have tb : (b != b) = false := by simp
      have hRl : R.length ≤ 1000 := hRl
      clear hz hRR e1 e2 hf hl hl2 hl3 hsp
      go_enter Try.func3, Try.ntmps3
      go_wp2_with fail
      refine (HSZ.out _).mono ?_
      rintro e w1 ⟨rfl, x1⟩
      have hA := x1.bk (hp_at rfl : (w.alloc (.cells #[.int .i64 sz, .slice a1 ds.length c1, .slice a2 ks.length c2] 25)).heap[w.heap.size]? = _)
      have xw := ((Ext.rf w).al (.cells #[.int .i64 sz, .slice a1 ds.length c1, .slice a2 ks.length c2] 25)).tr x1
      clear x1
      obtain ⟨p0, p1, p2, _, _, _⟩ := blk3 hA
      go_wp2_with fail
      refine (HTM.out _ xw).mono ?_
      rintro e w2 ⟨b1, d1, b2, d2, rfl, o1, o2, _, x2⟩
      have hA := x2.bk hA
      have xw := xw.tr x2
      clear p0 p1 p2 x2
      go_wp2_with fail
      refine (HTI.out _ xw).mono ?_
      rintro e w3 ⟨b3, d3, rfl, o3, x3⟩
      have hA := x3.bk hA
      have xw := xw.tr x3
      go_wp2_with fail
      refine (HSG.out _ b1 b2 b3 d1 d2 d3 (o1.ext x3).rd (o2.ext x3).rd o3.rd).mono ?_
      rintro e w4 ⟨aw, cw, rfl, oW, x4⟩
      have hA := x4.bk hA
      have xw := xw.tr x4
      have hw4 : w.heap.size < w4.heap.size := lt_of_block hA
      have IW : Hid (In aw w3.heap.size w4.heap.size) := oW.in_
      clear o1 o2 o3 x3 x4
      obtain ⟨p0, p1, p2, _, _, _⟩ := blk3 hA
      go_wp2_with fail
      refine (HTM.out _ xw).mono ?_
      rintro e w5 ⟨e1, g1, e2, g2, rfl, o1, o2, ap, x5⟩
      have AP := Lib.hid ap
      have I1 : Hid (In e1 w4.heap.size w5.heap.size) := o1.in_
      have I2 : Hid (In e2 w4.heap.size w5.heap.size) := o2.in_
      have hA := x5.bk hA
      have xw := xw.tr x5
      have oW := oW.ext x5
      have z45 : w4.heap.size ≤ w5.heap.size := x5.size
      clear p0 p1 p2 x5 ap
      go_wp2_with fail
      have x6 : Ext w5 (w5.alloc (.cells #[.int .i64 sz, .slice e1 ds.length g1, .slice e2 ks.length g2] 30)) := (Ext.rf _).al _
      have z6 := x6.size
      refine (HTI.out _ (xw.tr x6)).mono ?_
      rintro e w7 ⟨e3, g3, rfl, o3, x7⟩
      have hX : w7.heap[w5.heap.size]? = some (.cells #[.int .i64 sz, .slice e1 ds.length g1, .slice e2 ks.length g2] 30 (0, 0)) := x7.bk (hp_at rfl)
      have x57 := x6.tr x7
      have hA := x57.bk hA
      have xw := xw.tr x57
      have oW := oW.ext x57
      have o1 := o1.ext x57
      have o2 := o2.ext x57
      have o3 := o3.mono z6
      have z57 := x57.size
      clear x6 x7 x57
      obtain ⟨q0, q1, q2, _, _, _⟩ := blk3 hX
      go_wp2_with fail
      refine (HIG.out _ e1 e2 e3 g1 g2 g3 o1.rd o2.rd o3.rd).mono ?_
      rintro e w8 ⟨ag, cg, rfl, oG, x8⟩
      have hA := x8.bk hA
      have hX := x8.bk hX
      have xw := xw.tr x8
      have oW := oW.ext x8
      have I3 : Hid (In e3 w5.heap.size w7.heap.size) := o3.in_
      have o1 := o1.ext x8
      have o2 := o2.ext x8
      have o3 := o3.ext x8
      have hz7 : w4.heap.size ≤ w7.heap.size := by omega
      have z78 := x8.size
      clear x8 q0 q1 q2
      go_wp2_with fail
      refine (HEP.out _ ag aw cg cw oG.rd oW.rd).mono ?_
      rintro e w9 ⟨rfl, x9⟩
      have IG : Hid (In ag w7.heap.size w8.heap.size) := oG.in_
      have hA := x9.bk hA
      have hX := x9.bk hX
      have xw := xw.tr x9
      have oW := oW.ext x9
      have oG := oG.ext x9
      have o1 := o1.ext x9
      have o2 := o2.ext x9
      have o3 := o3.ext x9
      have z89 := x9.size
      clear x9
      obtain ⟨p0, p1, p2, _, _, _⟩ := blk3 hA
      obtain ⟨q0, q1, q2, _, _, _⟩ := blk3 hX
      go_wp2_with fail
      go_region_held3 (fun w' => w'.cell? ⟨w.heap.size, 0, none⟩ = some (.int .i64 sz) ∧ w'.cell? ⟨w.heap.size, 1, none⟩ = some (.slice a1 ds.length c1) ∧ w'.cell? ⟨w.heap.size, 2, none⟩ = some (.slice a2 ks.length c2) ∧ w'.cell? ⟨w5.heap.size, 0, none⟩ = some (.int .i64 sz) ∧ w'.cell? ⟨w5.heap.size, 1, none⟩ = some (.slice e1 ds.length g1) ∧ w'.cell? ⟨w5.heap.size, 2, none⟩ = some (.slice e2 ks.length g2)) (go_keep) (first
        | (refine step_call rfl _ _ rfl #[.agg #[.int .i64 sz, .slice a1 ds.length c1, .slice a2 ks.length c2]] (by simp [go_sem]) entersToMaze (HTM.out _ xw.dr) ?_; rintro e wa ⟨b1, d1, b2, d2, rfl, oa, ob, _, xa⟩; refine ⟨_, rfl, ?_⟩; have v0 := (Ext.tr (Ext.rf _).dr xa).cl p0; have v1 := (Ext.tr (Ext.rf _).dr xa).cl p1; have v2 := (Ext.tr (Ext.rf _).dr xa).cl p2; have v3 := (Ext.tr (Ext.rf _).dr xa).cl q0; have v4 := (Ext.tr (Ext.rf _).dr xa).cl q1; have v5 := (Ext.tr (Ext.rf _).dr xa).cl q2)
        | (refine step_call rfl _ _ rfl #[.agg #[.int .i64 sz, .slice e1 ds.length g1, .slice e2 ks.length g2], .agg #[.int .i64 sz, .slice b1 ds.length d1, .slice b2 ks.length d2]] (by simp [go_sem]) entersEqMaze (HEM.out _ e1 e2 b1 b2 g1 g2 d1 d2 (o1.dr.ext xa).rd (o2.dr.ext xa).rd oa.rd ob.rd) ?_; rintro e wb ⟨rfl, xb⟩; refine ⟨_, rfl, ?_⟩; have u0 := xb.cl v0; have u1 := xb.cl v1; have u2 := xb.cl v2; have u3 := xb.cl v3; have u4 := xb.cl v4; have u5 := xb.cl v5)
        | fail)
      have x9 : Ext w9 wb := ((Ext.rf _).dr.tr xa).tr xb
      have hA := x9.bk hA
      have hX := x9.bk hX
      have xw := xw.tr x9
      have oW := oW.ext x9
      have oG := oG.ext x9
      have o1 := o1.ext x9
      have o2 := o2.ext x9
      have o3 := o3.ext x9
      have z9b := x9.size
      clear x9 xa xb oa ob v0 v1 v2 v3 v4 v5 u0 u1 u2 u3 u4 u5 p0 p1 p2 q0 q1 q2
      go_wp2_with fail
      refine (HTI.out _ xw).mono ?_
      rintro e wc ⟨b3, d3, rfl, oa, xa⟩
      go_wp2_with fail
      refine (HEI.out _ e3 b3 g3 d3 (o3.ext xa).rd oa.rd).mono ?_
      rintro e wd ⟨rfl, xb⟩
      have x9 := xa.tr xb
      have hA := x9.bk hA
      have hX := x9.bk hX
      have xw := xw.tr x9
      have oW := oW.ext x9
      have oG := oG.ext x9
      have o1 := o1.ext x9
      have o2 := o2.ext x9
      have o3 := o3.ext x9
      have zbd := x9.size
      clear x9 xa xb oa
      obtain ⟨q0, q1, q2, _, _, _⟩ := blk3 hX
      go_wp2_with fail
      refine (markMaze_any sz ds ks 1 e1 e2 g1 g2 _ _ o1 o2 AP.out (by omega) (by omega) (by omega) (by omega)).mono ?_
      rintro e we ⟨rfl, _, _, m1⟩
      have M1 := m1 w4.heap.size w5.heap.size (by omega) I1.out I2.out
      have hA := M1.bk hA hw4
      have xw := xw.mid M1 (Nat.le_of_lt hw4)
      have oW := oW.mid M1 (fun p hp => .inl (IW.out p hp).2)
      have oG := oG.mid M1 (fun p hp => .inr (Nat.le_trans z57 (IG.out p hp).1))
      have o3 := o3.mid M1 (fun p hp => .inr (I3.out p hp).1)
      have zde := M1.bel.size
      clear q0 q1 q2 hX o1 o2 m1 M1
      go_wp2_with fail
      refine (markIntS_any f _ e3 g3 _ _ o3 (by omega) (by omega) (by omega)).mono ?_
      rintro e wf ⟨rfl, _, m1⟩
      have M1 := m1.2 w5.heap.size w7.heap.size I3.out
      have hA := M1.bk hA (Nat.lt_of_lt_of_le hw4 z45)
      have xw := xw.mid M1 (Nat.le_trans (Nat.le_of_lt hw4) z45)
      have oW := oW.mid M1 (fun p hp => .inl (Nat.lt_of_lt_of_le (IW.out p hp).2 z45))
      have oG := oG.mid M1 (fun p hp => .inr (IG.out p hp).1)
      have zef := M1.bel.size
      clear o3 m1 M1
      go_wp2_with fail
      refine (HEP.out _ ag aw cg cw oG.rd oW.rd).mono ?_
      rintro e wg ⟨rfl, x9⟩
      have hA := x9.bk hA
      have xw := xw.tr x9
      have oW := oW.ext x9
      have oG := oG.ext x9
      have zfg := x9.size
      clear x9
      go_wp2_with fail
      refine (markIntA2S_any R 1 ag cg _ _ oG (by omega) (by omega) (by omega)).mono ?_
      rintro e wh ⟨rfl, oG, m1⟩
      have M1 := m1.2 w7.heap.size w8.heap.size IG.out
      have z47 : w4.heap.size ≤ w7.heap.size := by omega
      have hA := M1.bk hA (Nat.lt_of_lt_of_le hw4 z47)
      have xw := xw.mid M1 (Nat.le_trans (Nat.le_of_lt hw4) z47)
      have oW := oW.mid M1 (fun p hp => .inl (Nat.lt_of_lt_of_le (IW.out p hp).2 z47))
      have zgh := M1.bel.size
      clear m1 M1
      go_wp2_with fail
      refine (heldIntA2S_any R.length 1 ag cg _ oG.rd (by omega) (by omega) (by omega)).mono ?_
      rintro e wi ⟨rfl, rfl⟩
      obtain ⟨p0, p1, p2, _, _, _⟩ := blk3 hA
      have tq : ((1 + 2 * (R.length : Int)) != (1 + 2 * (R.length : Int))) = false := by simp
      go_wp2_with fail
      refine (HTM.out _ xw).mono ?_
      rintro e wj ⟨b1, d1, b2, d2, rfl, o1, o2, _, x2⟩
      clear p0 p1 p2 hA
      go_wp2_with fail
      refine (HTI.out _ (xw.tr x2)).mono ?_
      rintro e wk ⟨b3, d3, rfl, o3, x3⟩
      go_wp2_with fail
      refine (HIG.out _ b1 b2 b3 d1 d2 d3 (o1.ext x3).rd (o2.ext x3).rd o3.rd).mono ?_
      rintro e wl ⟨ah, ch, rfl, oH, x4⟩
      have x9 := (x2.tr x3).tr x4
      have xw := xw.tr x9
      have oW := oW.ext x9
      have oG := oG.ext x9
      clear x2 x3 x4 x9 o1 o2 o3
      go_wp2_with fail
      refine (HEP.out _ ah aw ch cw oH.rd oW.rd).mono ?_
      rintro e wm ⟨rfl, x9⟩
      have xw := xw.tr x9
      have oG := oG.ext x9
      clear x9 oH oW
      go_wp2_with fail
      refine (heldIntA2S_any R.length 1 ag cg _ oG.rd (by omega) (by omega) (by omega)).mono ?_
      rintro e wn ⟨rfl, rfl⟩
      go_wp2_with fail
      go_ret
      exact ⟨rfl, xw⟩

end Go.Proofs.Ytkdncpglgdiicaa
