/- The pairs of colours that can be swapped: the reference's walk. -/
import Derived.Test.YtkdncpglgdiicaaSwaps
namespace Go.Proofs.Ytkdncpglgdiicaa
open Go Go.RowKit Go.Sort

theorem apartRow {a : Option Addr} {b o : Nat} (h : Apart a (some ⟨b, o, none⟩)) : some b ≠ a.map (·.block) := by
  intro he
  cases ha : a with
  | none => rw [ha] at he; cases he
  | some p =>
    rw [ha] at he
    exact h p _ ha rfl (Option.some.inj he).symm
theorem ownRow {α : Type} {E : Enc α} {e : TypeId} {w : World} {base : Nat} {a : Option Addr} {c : Nat} {l : List α} (h : Own E e w base a c l) {b : Nat} (hb : b < base) : some b ≠ a.map (·.block) := by
  intro he
  cases ha : a with
  | none => rw [ha] at he; cases he
  | some p =>
    rw [ha] at he
    have h1 := (h.blk p ha).1
    have h2 : b = p.block := Option.some.inj he
    omega

theorem entersL9Swap : Enters Try.prog 62 := fun _ _ => by go_simp
theorem entersL9Depth : Enters Try.prog 60 := fun _ _ => by go_simp

theorem l9Good_up (m : NM) (hm : m.Ok) (N : Nat) (hN : N ≤ 63) (F : List Nat) (hF : F.length ≤ 9223372036854775807) (a1 a2 a3 : Option Addr) (c1 c2 c3 : Nat) (w : World) (h1 : Rd EDN w a1 m.doors) (h2 : Rd EN w a2 m.keys) (h3 : Rd EN w a3 F) :
    Calls Try.prog 59 #[.agg #[.int .i64 (m.size : Int), .slice a1 m.doors.length c1, .slice a2 m.keys.length c2], .int .i64 (N : Int), .slice a3 F.length c3] w fun e w' => e = .returned (.bool (fillB m.size (N : Int) (F.map upN))) ∧ Ext w w' := by
  have h := l9Good_any m.up (N : Int) (F.map upN) a1 a2 a3 c1 c2 c3 w h1.dUp h2.iUp h3.iUp (by have := hm.doors_len; simp [NM.up]; omega) (by have := hm.keys_len; have := hm.size_le; simp [NM.up]; omega) (by simpa using hF)
  have e1 : m.up.ok = true := hm.up_ok
  have e2 : setB (N : Int) = true := by simp [setB]; omega
  unfold goodB at h
  rw [e1, e2] at h
  simpa [NM.up] using h

theorem sGoodSwaps_no (m : Mz) (s : Int) (f : List Int) (hg : goodB m s f = false) (a1 a2 a3 : Option Addr) (c1 c2 c3 : Nat) (w : World) (h1 : Rd ED w a1 m.doors) (h2 : Rd EI w a2 m.keys) (h3 : Rd EI w a3 f) (hl : m.doors.length ≤ 9223372036854775807) (hl2 : m.keys.length ≤ 9223372036854775807) (hl3 : f.length ≤ 9223372036854775807) :
    Calls Try.prog 13 #[.agg #[.int .i64 m.size, .slice a1 m.doors.length c1, .slice a2 m.keys.length c2], .int .i64 s, .slice a3 f.length c3] w fun e w' =>
      ∃ a c, e = .returned (.tuple #[.slice a 0 c, .bool false]) ∧ Own EPN 95 w' w.heap.size a c [] ∧ Ext w w' := by
  have HB := Lib.hid hg
  clear hg
  go_enter Try.func13, Try.ntmps13
  go_wp2_with fail
  have x0 : Ext w ((w.alloc (.cells #[.int .i64 m.size, .slice a1 m.doors.length c1, .slice a2 m.keys.length c2] 30)).alloc (.cells #[] 95)) := ((Ext.rf _).al _).al _
  refine (l9Good_any m s f a1 a2 a3 c1 c2 c3 _ (h1.ext x0) (h2.ext x0) (h3.ext x0) hl hl2 hl3).mono ?_
  rintro e w' ⟨rfl, x1⟩
  have hO : w'.heap[w.heap.size + 1]? = some (.cells #[] 95 (0, 0)) := x1.bk (hp_at (by simp))
  rw [HB.out]
  go_wp2_with fail
  go_ret2
  exact ⟨_, _, rfl, Own.empty hO (Nat.le_succ _), x0.tr x1⟩

set_option maxRecDepth 100000 in
set_option maxHeartbeats 1000000 in
theorem sGoodSwaps_up (m : NM) (hm : m.Ok) (N : Nat) (hN : N ≤ 63) (F : List Nat) (hg : fillB m.size (N : Int) (F.map upN) = true) (a1 a2 a3 : Option Addr) (c1 c2 c3 : Nat) (w : World) (h1 : Rd EDN w a1 m.doors) (h2 : Rd EN w a2 m.keys) (h3 : Rd EN w a3 F) :
    Calls Try.prog 13 #[.agg #[.int .i64 (m.size : Int), .slice a1 m.doors.length c1, .slice a2 m.keys.length c2], .int .i64 (N : Int), .slice a3 F.length c3] w fun e w' =>
      ∃ a c, e = .returned (.tuple #[.slice a (if 0 < depN m.doors m.size N F then gswN m.doors m.size N F else []).length c, .bool (decide (0 < depN m.doors m.size N F))]) ∧ Own EPN 95 w' w.heap.size a c (if 0 < depN m.doors m.size N F then gswN m.doors m.size N F else []) ∧ Ext w w' := by
  obtain ⟨hfl, hfx⟩ := fillB_up hg
  have hm6 : (mem N).length ≤ 6 := mem_len_le (b := 6) (by omega) (by omega)
  have hdd : ∀ d ∈ m.doors, d.1 < d.2.1 ∧ d.2.1 < m.size ∧ d.2.2 ≤ 63 := hm.door
  have hsz := hm.size_le
  have hsp := hm.size_pos
  have hdl := hm.doors_len
  have hkl := hm.keys_len
  have HF := Lib.hid fun w' (hx : Ext w w') => l9Good_up m hm N hN F (by omega) a1 a2 a3 c1 c2 c3 w' (h1.ext hx) (h2.ext hx) (h3.ext hx)
  have HD := Lib.hid fun w' (hx : Ext w w') => l9Depth_any m.size N m.doors m.keys F a1 a2 a3 c1 c2 c3 w' (h1.ext hx) (h2.ext hx) (h3.ext hx) hdd hsz hsp (by omega) hkl hN hfx hfl
  have HD2 := Lib.hid fun i j w' a c (hx : Ext w w') (ha : Rd EN w' a (swapL F i j)) => l9Depth_any m.size N m.doors m.keys (swapL F i j) a1 a2 a c1 c2 c w' (h1.ext hx) (h2.ext hx) ha hdd hsz hsp (by omega) hkl hN (swapL_lt hfx hsp i j) (by rw [swapL_len]; exact hfl)
  obtain ⟨L, hL⟩ : ∃ L, L = mem N := ⟨_, rfl⟩
  have HS := Lib.hid fun i j ci cj w' (hx : Ext w w') (hi : i < L.length) (hj : j < L.length) (hci : ci = L[i]) (hcj : cj = L[j]) => l9Swap_any N L hL hN F i j hi hj (by rw [hL]; exact hfl) ci cj hci hcj a3 c3 w' (h3.ext hx) (by omega)
  rw [hg] at HF
  have HM := Lib.hid fun w' => l2Colours_any N w' (by omega)
  have HQ : Hid (gswN m.doors m.size N F = swAll (swQ m.doors m.size N F) (mem N) (mem N).length) := rfl
  have hQ2 : ∀ i k, swQ m.doors m.size N F i k = decide (0 < depN m.doors m.size N (swapL F i k)) := fun _ _ => rfl
  have HQ2 := Lib.hid hQ2
  obtain ⟨n, hn⟩ : ∃ n, n = m.size := ⟨_, rfl⟩
  obtain ⟨ds, hds⟩ : ∃ ds, ds = m.doors := ⟨_, rfl⟩
  obtain ⟨ks, hks⟩ : ∃ ks, ks = m.keys := ⟨_, rfl⟩
  rw [← hn, ← hds, ← hks] at HF HD HD2
  rw [← hn, ← hds] at HQ HQ2
  rw [← hn, ← hds, ← hks]
  rw [← hL] at HM HQ hm6 hfl
  have HFL := Lib.hid hfl
  obtain ⟨Q, hQ⟩ : ∃ Q, Q = swQ ds n N F := ⟨_, rfl⟩
  rw [← hQ] at HQ HQ2
  obtain ⟨D, hD⟩ : ∃ D, D = depN ds n N F := ⟨_, rfl⟩
  rw [← hD] at HD
  rw [← hD]
  obtain ⟨DD, hDD⟩ : ∃ DD : Nat → Nat → Nat, DD = fun i k => depN ds n N (swapL F i k) := ⟨_, rfl⟩
  have hDD' : ∀ i k, depN ds n N (swapL F i k) = DD i k := fun i k => by rw [hDD]
  simp only [hDD'] at HD2 HQ2
  clear hDD hDD' hD hQ hL hn hds hks hg hfx hdd hQ2 hfl hdl hkl hsz hsp hm h1 h2 h3
  have x0 : Ext w ((w.alloc (.cells #[.int .i64 (n : Int), .slice a1 ds.length c1, .slice a2 ks.length c2] 30)).alloc (.cells #[] 95)) := ((Ext.rf _).al _).al _
  by_cases hd0 : 0 < D
  · have t1 : ((D : Int) == 0) = false := by rw [beq_eq_false_iff_ne]; omega
    rw [if_pos hd0, decide_eq_true hd0, HQ.out]
    clear hd0
    go_enter Try.func13, Try.ntmps13
    go_wp2_with fail
    refine (HF.out _ x0).mono ?_
    rintro e w1 ⟨rfl, x1⟩
    have hM : w1.heap[w.heap.size]? = some (.cells #[.int .i64 (n : Int), .slice a1 ds.length c1, .slice a2 ks.length c2] 30 (0, 0)) := x1.bk (hp_old (hp_at rfl))
    have hO : w1.heap[w.heap.size + 1]? = some (.cells #[] 95 (0, 0)) := x1.bk (hp_at (by simp))
    obtain ⟨hM0, hM1, hM2, _, _, _⟩ := blk3 hM
    go_wp2_with fail
    refine (HD.out _ (x0.tr x1)).mono ?_
    rintro e w3 ⟨rfl, x3⟩
    clear hM0 hM1 hM2
    have hM := x3.bk hM
    have hO := x3.bk hO
    go_wp2_with fail
    refine (HM.out _).mono ?_
    rintro e w4 ⟨b, d, rfl, oL, x4⟩
    have hM := x4.bk hM
    have hO := x4.bk hO
    have e4 : Ext w w4 := ((x0.tr x1).tr x3).tr x4
    have hz3 : w.heap.size + 2 ≤ w3.heap.size := by have := x3.size; have := x1.size; simp at this; omega
    have oL := oL.mono hz3
    -- the colours and the maze lie apart from the result
    have hMl : w.heap.size < w4.heap.size := lt_of_block hM
    have oO : Own EPN 95 w4 (w.heap.size + 1) (some ⟨w.heap.size + 1, 0, none⟩) 0 [] := Own.empty hO (Nat.le_refl _)
    have HAP : Hid (Apart (some ⟨w.heap.size + 1, 0, none⟩) b) := Apart.older (n := w.heap.size + 2) (by intro p hp; cases hp; exact Nat.lt_succ_self _) (fun p hp => (oL.blk p hp).1)
    have HBL := Lib.hid fun p hp => (oL.blk p hp).2
    clear x1 x3 x4 t1 x0 hO
    go_wp2_with fail
    go_loopw [10, 8] (fun i v wr => ∃ k : Nat, ∃ a c, k ≤ L.length ∧ i = .int .i64 (k : Int) ∧ v = .slice a (swAll Q L k).length c ∧ Own EPN 95 wr (w.heap.size + 1) a c (swAll Q L k) ∧ Apart a b ∧ Own EN 3 wr (w.heap.size + 2) b d L ∧ Ext w wr ∧ wr.heap[w.heap.size]? = some (.cells #[.int .i64 (n : Int), .slice a1 ds.length c1, .slice a2 ks.length c2] 30 (0, 0))) (fun i _ _ => L.length - (intOf i).toNat)
    case atStart => exact ⟨0, _, _, by omega, rfl, rfl, oO, HAP.out, oL, e4, hM⟩
    case round =>
      clear oO oL e4 hM hMl
      obtain ⟨i, a, c, hi, rfl, rfl, ho, hap, oL, hx, hM⟩ := hrel
      by_cases hlt : i < L.length
      · have HS1 : Hid (swAll Q L (i + 1) = swAll Q L i ++ swRow Q L i L.length) := swAll_succ _ _ _
        have hAl : (swAll Q L i).length ≤ 36 := Nat.le_trans (swAll_len Q L i) (Nat.le_trans (Nat.mul_le_mul (by omega : i ≤ 6) hm6) (by decide))
        obtain ⟨A, hA⟩ : ∃ A, A = swAll Q L i := ⟨_, rfl⟩
        rw [← hA] at HS1 ho hAl
        rw [← hA]
        have HG : Hid (L.getD i 0 = L[i]) := by show _ = _; rw [List.getD_eq_getElem?_getD, List.getElem?_eq_getElem hlt]; rfl
        clear hA
        go_wp2_with fail
        go_loopw [11, 8] (fun kk v wq => ∃ k : Nat, ∃ a c, i + 1 ≤ k ∧ k ≤ L.length ∧ kk = .int .i64 (k : Int) ∧ v = .slice a (A ++ swRow Q L i k).length c ∧ Own EPN 95 wq (w.heap.size + 1) a c (A ++ swRow Q L i k) ∧ Apart a b ∧ Own EN 3 wq (w.heap.size + 2) b d L ∧ Ext w wq ∧ wq.heap[w.heap.size]? = some (.cells #[.int .i64 (n : Int), .slice a1 ds.length c1, .slice a2 ks.length c2] 30 (0, 0))) (fun kk _ _ => L.length - (intOf kk).toNat)
        case atStart => exact ⟨i + 1, a, c, by omega, by omega, by go_num, by rw [swRow_start]; simp, by rw [swRow_start]; simpa using ho, hap, oL, hx, hM⟩
        case round =>
          clear ho hx hap oL hM
          obtain ⟨k, a, c, hk1, hk2, rfl, rfl, ho, hap, oL, hx, hM⟩ := hrel
          have HAP := Lib.hid hap
          clear hap
          have hRl := swRow_len Q L i k
          have HSR : Hid (swRow Q L i (k + 1) = swRow Q L i k ++ (if Q i k then [(L.getD i 0, L.getD k 0)] else [])) := swRow_step Q L i k hk1
          obtain ⟨R, hR⟩ : ∃ R, R = swRow Q L i k := ⟨_, rfl⟩
          have HRR := Lib.hid hR
          rw [← hR] at HSR ho hRl
          rw [← hR]
          clear hR
          by_cases hkl : k < L.length
          · obtain ⟨hM0, hM1, hM2, _, _, _⟩ := blk3 hM
            have HGk : Hid (L.getD k 0 = L[k]) := by show _ = _; rw [List.getD_eq_getElem?_getD, List.getElem?_eq_getElem hkl]; rfl
            obtain ⟨lb, lo, hlb, hlc⟩ := oL.rd.n (by omega)
            have q0 := hlc i hlt
            have q1 := hlc k hkl
            clear hlc
            obtain ⟨y, hy⟩ : ∃ y, y = L[i] := ⟨_, rfl⟩
            obtain ⟨z, hz⟩ : ∃ z, z = L[k] := ⟨_, rfl⟩
            have HS3 := Lib.hid fun w' hx => HS.out i k y z w' hx hlt hkl hy hz
            rw [← hy] at q0 HG
            rw [← hz] at q1 HGk
            clear hy hz
            subst hlb
            have HQk := Lib.hid (HQ2.out i k)
            obtain ⟨dd, hdd⟩ : ∃ dd, dd = DD i k := ⟨_, rfl⟩
            have HD3 := HD2.out i k
            rw [← hdd] at HD3 HQk
            have HD4 := Lib.hid HD3
            clear HD3 hdd
            go_wp2_with fail
            go_region_held3 (fun w' => w'.cell? ⟨w.heap.size, 0, none⟩ = some (.int .i64 (n : Int)) ∧ w'.cell? ⟨w.heap.size, 1, none⟩ = some (.slice a1 ds.length c1) ∧ w'.cell? ⟨w.heap.size, 2, none⟩ = some (.slice a2 ks.length c2) ∧ w'.cell? ⟨lb, lo + i, none⟩ = some (.int .i64 (y : Int)) ∧ w'.cell? ⟨lb, lo + k, none⟩ = some (.int .i64 (z : Int))) (go_keep) (first
              | (refine step_call rfl _ _ rfl #[.int .i64 (N : Int), .slice a3 F.length c3, .int .i64 (y : Int), .int .i64 (z : Int)] (by simp [go_sem]) entersL9Swap (HS3.out _ hx.dr) ?_; rintro e w5 ⟨sb, sd, rfl, oS, x5⟩; refine ⟨_, rfl, ?_⟩; have v0 := (Ext.tr (Ext.rf _).dr x5).cl hM0; have v1 := (Ext.tr (Ext.rf _).dr x5).cl hM1; have v2 := (Ext.tr (Ext.rf _).dr x5).cl hM2; have v3 := (Ext.tr (Ext.rf _).dr x5).cl q0; have v4 := (Ext.tr (Ext.rf _).dr x5).cl q1)
              | (refine step_call rfl _ _ rfl #[.agg #[.int .i64 (n : Int), .slice a1 ds.length c1, .slice a2 ks.length c2], .int .i64 (N : Int), .slice sb (swapL F i k).length sd] (by simp [go_sem]) entersL9Depth (HD4.out _ sb sd (hx.dr.tr x5) oS.rd) ?_; rintro e w6 ⟨rfl, x6⟩; refine ⟨_, rfl, ?_⟩; have u0 := x6.cl v0; have u1 := x6.cl v1; have u2 := x6.cl v2; have u3 := x6.cl v3; have u4 := x6.cl v4)
              | fail)
            have hx6 : Ext w w6 := (hx.dr.tr x5).tr x6
            have ho6 := (ho.dr.ext x5).ext x6
            have oL6 := (oL.dr.ext x5).ext x6
            have hM6 := x6.bk (x5.bk (heapDr hM))
            clear hM0 hM1 hM2 v0 v1 v2 v3 v4 u0 u1 u2 ho x5 x6 oS q0 q1 oL hM hx
            by_cases hq : 0 < dd
            · have HK : Hid (A ++ swRow Q L i (k + 1) = (A ++ R) ++ [(y, z)]) := by
                show _ = _
                rw [HSR.out, HQk.out, decide_eq_true hq, HG.out, HGk.out]
                simp
              have HO := Lib.hid ho6
              have HOL := Lib.hid oL6
              have HM6 := Lib.hid hM6
              have HXX := Lib.hid hx6
              have hsz6 : w.heap.size + 1 ≤ w6.heap.size := lt_of_block hM6
              clear ho6 oL6 hM6 hx6
              go_wp2_with fail
              go_region_held3 (fun w' => w'.cell? ⟨lb, lo + i, none⟩ = some (.int .i64 (y : Int)) ∧ w'.cell? ⟨lb, lo + k, none⟩ = some (.int .i64 (z : Int))) (go_keep) (first
                | (refine step_app' (base := w.heap.size + 1) (aa := a) (c := c) (l := A ++ R) elemPN rfl _ _ rfl [(y, z)] rfl rfl ?_ ?_ ?_ ?_ ?_ ?_ ?_; exact HO.out.dr.al _; (first | rfl | simp); exact rdPair (hp_at rfl); rfl; (simp; omega); (simp; omega); intro aa' c7 w7 h7 g7 m7; have v5 := g7.cell (Ext.cl ((Ext.rf w6).dr.al _) u3) (apartRow HAP.out); have v6 := g7.cell (Ext.cl ((Ext.rf w6).dr.al _) u4) (apartRow HAP.out))
                | fail)
              have hL7 := (HOL.out.dr.al (.cells #[.int .i64 (y : Int), .int .i64 (z : Int)] 95)).keptA g7 HAP.out.symm
              have hM7 := heapKept g7 (hp_old (heapDr HM6.out)) (ownRow HO.out (Nat.lt_succ_self _))
              have hx7 := (HXX.out.dr.al (.cells #[.int .i64 (y : Int), .int .i64 (z : Int)] 95)).gr g7 (HO.out.dr.al _) (Nat.le_succ _)
              have ha7 : Apart aa' (some ⟨lb, lo, none⟩) := (Apart.moved HAP.out.symm m7 (fun p hp => by have := (HOL.out.blk p hp).2; simp; omega)).symm
              clear v5 v6 g7 m7
              go_wp2_with fail
              go_roundw
              case rel => exact ⟨k + 1, aa', c7, by omega, by omega, by go_num, by rw [HK.out]; simp [Nat.add_assoc], by rw [HK.out]; exact h7, ha7, hL7, hx7, hM7⟩
              case measure => simp [intOf]; omega
            · have HK : Hid (A ++ swRow Q L i (k + 1) = A ++ R) := by
                show _ = _
                rw [HSR.out, HQk.out, decide_eq_false hq]
                simp
              go_wp2_with fail
              go_roundw
              case rel => exact ⟨k + 1, a, c, by omega, by omega, by go_num, by rw [HK.out], by rw [HK.out]; exact ho6, HAP.out, oL6, hx6, hM6⟩
              case measure => simp [intOf]; omega
          · have HK : Hid (A ++ R = swAll Q L (i + 1)) := by
              show _ = _
              rw [HS1.out, HRR.out]
              congr 2
              omega
            go_wp2_with fail
            go_roundw
            case rel => exact ⟨i + 1, a, c, by omega, by go_num, by rw [← HK.out], by rw [← HK.out]; exact ho, HAP.out, oL, hx, hM⟩
            case measure => simp [intOf]; omega
      · have HK : Hid (swAll Q L i = swAll Q L L.length) := by show _ = _; congr 1; omega
        go_wp2_with fail
        go_ret2
        exact ⟨a, c, by rw [HK.out]; rfl, by rw [← HK.out]; exact ho.mono (Nat.le_succ _), hx⟩
  · have t1 : ((D : Int) == 0) = true := by rw [beq_iff_eq]; omega
    rw [if_neg hd0, decide_eq_false hd0]
    clear hd0
    go_enter Try.func13, Try.ntmps13
    go_wp2_with fail
    refine (HF.out _ x0).mono ?_
    rintro e w1 ⟨rfl, x1⟩
    have hM : w1.heap[w.heap.size]? = some (.cells #[.int .i64 (n : Int), .slice a1 ds.length c1, .slice a2 ks.length c2] 30 (0, 0)) := x1.bk (hp_old (hp_at rfl))
    have hO : w1.heap[w.heap.size + 1]? = some (.cells #[] 95 (0, 0)) := x1.bk (hp_at (by simp))
    obtain ⟨hM0, hM1, hM2, _, _, _⟩ := blk3 hM
    go_wp2_with fail
    refine (HD.out _ (x0.tr x1)).mono ?_
    rintro e w3 ⟨rfl, x3⟩
    go_wp2_with fail
    go_ret2
    exact ⟨_, _, rfl, Own.empty (x3.bk hO) (Nat.le_succ _), (x0.tr x1).tr x3⟩

end Go.Proofs.Ytkdncpglgdiicaa
