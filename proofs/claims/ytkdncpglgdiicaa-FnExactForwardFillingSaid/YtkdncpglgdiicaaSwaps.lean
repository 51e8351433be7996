/- The pairs of colours that can be swapped: the program's walk. -/
import Derived.Test.YtkdncpglgdiicaaSDepth
import Derived.Test.YtkdncpglgdiicaaPureSwap
namespace Go.Proofs.Ytkdncpglgdiicaa
open Go Go.RowKit Go.Sort

theorem elemPN : Elem Try.prog 27 95 EPN := Elem.of Try.underlying27 (z := .agg #[.int .i64 0, .int .i64 0]) (b := 16) (by kernel_rfl) rfl (by decide) (by decide)

theorem Rd.dUp {w : World} {a : Option Addr} {l : List ND} (h : Rd EDN w a l) : Rd ED w a (l.map upD) := Rd.unmap upD rfl (fun _ => rfl) h
theorem Rd.dDn {w : World} {a : Option Addr} {l : List ND} (h : Rd ED w a (l.map upD)) : Rd EDN w a l := Rd.map upD rfl (fun _ => rfl) rfl h
theorem Rd.iUp {w : World} {a : Option Addr} {l : List Nat} (h : Rd EN w a l) : Rd EI w a (l.map upN) := Rd.unmap upN rfl (fun _ => rfl) h
theorem Rd.iDn {w : World} {a : Option Addr} {l : List Nat} (h : Rd EI w a (l.map upN)) : Rd EN w a l := Rd.map upN rfl (fun _ => rfl) rfl h

theorem asked_yes (m : NM) (hm : m.Ok) (N : Nat) (hN : N ≤ 63) (a1 a2 : Option Addr) (c1 c2 : Nat) (w : World) (h1 : Rd EDN w a1 m.doors) (h2 : Rd EN w a2 m.keys) :
    Calls Try.prog 64 #[.agg #[.int .i64 (m.size : Int), .slice a1 m.doors.length c1, .slice a2 m.keys.length c2], .int .i64 (N : Int)] w fun e w' => e = .returned (.bool true) ∧ Ext w w' := by
  have h := asked_any m.up (N : Int) a1 a2 c1 c2 w h1.dUp h2.iUp (by have := hm.doors_len; simp [NM.up]; omega) (by have := hm.keys_len; have := hm.size_le; simp [NM.up]; omega)
  have e1 : m.up.ok = true := hm.up_ok
  have e2 : setB (N : Int) = true := by simp [setB]; omega
  rw [e1, e2] at h
  simpa [NM.up] using h

theorem isFilling_up (m : NM) (hm : m.Ok) (N : Nat) (hN : N ≤ 63) (F : List Nat) (hF : F.length ≤ 9223372036854775807) (a1 a2 a3 : Option Addr) (c1 c2 c3 : Nat) (w : World) (h1 : Rd EDN w a1 m.doors) (h2 : Rd EN w a2 m.keys) (h3 : Rd EN w a3 F) :
    Calls Try.prog 65 #[.agg #[.int .i64 (m.size : Int), .slice a1 m.doors.length c1, .slice a2 m.keys.length c2], .int .i64 (N : Int), .slice a3 F.length c3] w fun e w' => e = .returned (.bool (fillB m.size (N : Int) (F.map upN))) ∧ Ext w w' := by
  have h := isFilling_any m.up hm.up_ok (N : Int) (by simp [setB]; omega) (F.map upN) a1 a2 a3 c1 c2 c3 w h1.dUp h2.iUp h3.iUp (by have := hm.doors_len; simp [NM.up]; omega) (by have := hm.keys_len; have := hm.size_le; simp [NM.up]; omega) (by simpa using hF)
  simpa [NM.up] using h

/-- What a filling's test says. -/
theorem fillB_up {n N : Nat} {F : List Nat} (h : fillB (n : Int) (N : Int) (F.map upN) = true) : F.length = (mem N).length ∧ ∀ x ∈ F, x < n := by
  unfold fillB at h
  simp only [Bool.and_eq_true, decide_eq_true_eq, List.length_map, Int.toNat_natCast, List.all_eq_true, List.mem_map, forall_exists_index, and_imp, forall_apply_eq_imp_iff₂] at h
  refine ⟨h.1, fun x hx => ?_⟩
  have h5 : withinB (upN x) 0 ((n : Int) - 1) = true := h.2 x hx
  unfold withinB upN at h5
  simp only [Bool.and_eq_true, decide_eq_true_eq] at h5
  omega

/-- Places i and k: does the filling still win when they are swapped? -/
noncomputable def swQ (ds : List ND) (n N : Nat) (F : List Nat) (i k : Nat) : Bool := decide (0 < depN ds n N (swapL F i k))
noncomputable def gswN (ds : List ND) (n N : Nat) (F : List Nat) : List (Nat × Nat) := swAll (swQ ds n N F) (mem N) (mem N).length

theorem swapL_lt {n : Nat} {F : List Nat} (h : ∀ x ∈ F, x < n) (hn : 0 < n) (i j : Nat) : ∀ x ∈ swapL F i j, x < n := by
  intro x hx
  unfold swapL at hx
  have hg : ∀ k, F.getD k 0 < n := fun k => getD_lt hn h k
  rcases List.mem_or_eq_of_mem_set hx with hx | rfl
  · rcases List.mem_or_eq_of_mem_set hx with hx | rfl
    · exact h x hx
    · exact hg _
  · exact hg _

theorem entersSwapped : Enters Try.prog 68 := fun _ _ => by go_simp
theorem entersDepth : Enters Try.prog 66 := fun _ _ => by go_simp
theorem goodSwaps_no (m : Mz) (s : Int) (f : List Int) (hg : goodB m s f = false) (a1 a2 a3 : Option Addr) (c1 c2 c3 : Nat) (w : World) (h1 : Rd ED w a1 m.doors) (h2 : Rd EI w a2 m.keys) (h3 : Rd EI w a3 f) (hl : m.doors.length ≤ 9223372036854775807) (hl2 : m.keys.length ≤ 9223372036854775807) (hl3 : f.length ≤ 9223372036854775807) :
    Calls Try.prog 16 #[.agg #[.int .i64 m.size, .slice a1 m.doors.length c1, .slice a2 m.keys.length c2], .int .i64 s, .slice a3 f.length c3] w fun e w' => e = .returned (.tuple #[.slice none 0 0, .bool false]) ∧ Ext w w' := by
  cases hb : (m.ok && setB s)
  · have HB := Lib.hid hb
    clear hb hg
    go_enter Try.func16, Try.ntmps16
    go_wp2_with fail
    refine (asked_any m s a1 a2 c1 c2 _ (h1.ext ((Ext.rf _).al _)) (h2.ext ((Ext.rf _).al _)) hl hl2).mono ?_
    rintro e w' ⟨rfl, x1⟩
    rw [HB.out]
    go_wp2_with fail
    go_ret2
    exact ⟨rfl, ((Ext.rf _).al _).tr x1⟩
  · have HS : Hid (fillB m.size s f = false) := by show _ = _; unfold goodB at hg; rw [hb] at hg; simpa using hg
    have HB := Lib.hid hb
    have hq : m.ok = true ∧ setB s = true := by simpa using hb
    have HQ := Lib.hid hq
    clear hq hb hg
    go_enter Try.func16, Try.ntmps16
    go_wp2_with fail
    refine (asked_any m s a1 a2 c1 c2 _ (h1.ext ((Ext.rf _).al _)) (h2.ext ((Ext.rf _).al _)) hl hl2).mono ?_
    rintro e w1 ⟨rfl, x1⟩
    rw [HB.out]
    have hM : w1.heap[w.heap.size]? = some (.cells #[.int .i64 m.size, .slice a1 m.doors.length c1, .slice a2 m.keys.length c2] 30 (0, 0)) := x1.bk (hp_at rfl)
    obtain ⟨hM0, hM1, hM2, _, _, _⟩ := blk3 hM
    go_wp2_with fail
    refine (isFilling_any m HQ.out.1 s HQ.out.2 f a1 a2 a3 c1 c2 c3 _ (h1.ext (((Ext.rf _).al _).tr x1)) (h2.ext (((Ext.rf _).al _).tr x1)) (h3.ext (((Ext.rf _).al _).tr x1)) hl hl2 hl3).mono ?_
    rintro e w2 ⟨rfl, x2⟩
    rw [HS.out]
    go_wp2_with fail
    go_ret2
    exact ⟨rfl, (((Ext.rf _).al _).tr x1).tr x2⟩

set_option maxRecDepth 100000 in
set_option maxHeartbeats 1000000 in
theorem goodSwaps_up (m : NM) (hm : m.Ok) (N : Nat) (hN : N ≤ 63) (F : List Nat) (hg : fillB m.size (N : Int) (F.map upN) = true) (a1 a2 a3 : Option Addr) (c1 c2 c3 : Nat) (w : World) (h1 : Rd EDN w a1 m.doors) (h2 : Rd EN w a2 m.keys) (h3 : Rd EN w a3 F) :
    Calls Try.prog 16 #[.agg #[.int .i64 (m.size : Int), .slice a1 m.doors.length c1, .slice a2 m.keys.length c2], .int .i64 (N : Int), .slice a3 F.length c3] w fun e w' =>
      ∃ a c, e = .returned (.tuple #[.slice a (if 0 < depN m.doors m.size N F then gswN m.doors m.size N F else []).length c, .bool (decide (0 < depN m.doors m.size N F))]) ∧ Own EPN 95 w' w.heap.size a c (if 0 < depN m.doors m.size N F then gswN m.doors m.size N F else []) ∧ Ext w w' := by
  obtain ⟨hfl, hfx⟩ := fillB_up hg
  have hm6 : (mem N).length ≤ 6 := mem_len_le (b := 6) (by omega) (by omega)
  have hdd : ∀ d ∈ m.doors, d.1 < d.2.1 ∧ d.2.1 < m.size ∧ d.2.2 ≤ 63 := hm.door
  have hsz := hm.size_le
  have hsp := hm.size_pos
  have hdl := hm.doors_len
  have hkl := hm.keys_len
  have HA := Lib.hid fun w' (hx : Ext w w') => asked_yes m hm N hN a1 a2 c1 c2 w' (h1.ext hx) (h2.ext hx)
  have HF := Lib.hid fun w' (hx : Ext w w') => isFilling_up m hm N hN F (by omega) a1 a2 a3 c1 c2 c3 w' (h1.ext hx) (h2.ext hx) (h3.ext hx)
  have HD := Lib.hid fun w' (hx : Ext w w') => depth_any m.size N m.doors m.keys F a1 a2 a3 c1 c2 c3 w' (h1.ext hx) (h2.ext hx) (h3.ext hx) hdd hsz hsp (by omega) hkl hN hfx hfl
  have HD2 := Lib.hid fun i j w' a c (hx : Ext w w') (ha : Rd EN w' a (swapL F i j)) => depth_any m.size N m.doors m.keys (swapL F i j) a1 a2 a c1 c2 c w' (h1.ext hx) (h2.ext hx) ha hdd hsz hsp (by omega) hkl hN (swapL_lt hfx hsp i j) (by rw [swapL_len]; exact hfl)
  have HS := Lib.hid fun i j w' (hx : Ext w w') (hi : i < F.length) (hj : j < F.length) => swapped_any F i j hi hj a3 c3 w' (h3.ext hx) (by omega)
  rw [hg] at HF
  have HM := Lib.hid fun w' => members_any N w' (by omega)
  have HQ : Hid (gswN m.doors m.size N F = swAll (swQ m.doors m.size N F) (mem N) (mem N).length) := rfl
  have hQ2 : ∀ i k, swQ m.doors m.size N F i k = decide (0 < depN m.doors m.size N (swapL F i k)) := fun _ _ => rfl
  have HQ2 := Lib.hid hQ2
  obtain ⟨n, hn⟩ : ∃ n, n = m.size := ⟨_, rfl⟩
  obtain ⟨ds, hds⟩ : ∃ ds, ds = m.doors := ⟨_, rfl⟩
  obtain ⟨ks, hks⟩ : ∃ ks, ks = m.keys := ⟨_, rfl⟩
  rw [← hn, ← hds, ← hks] at HA HF HD HD2
  rw [← hn, ← hds] at HQ HQ2
  rw [← hn, ← hds, ← hks]
  obtain ⟨L, hL⟩ : ∃ L, L = mem N := ⟨_, rfl⟩
  rw [← hL] at HM HQ hm6 hfl
  have HFL := Lib.hid hfl
  obtain ⟨Q, hQ⟩ : ∃ Q, Q = swQ ds n N F := ⟨_, rfl⟩
  rw [← hQ] at HQ HQ2
  obtain ⟨D, hD⟩ : ∃ D, D = depN ds n N F := ⟨_, rfl⟩
  rw [← hD] at HD
  rw [← hD]
  obtain ⟨DD, hDD⟩ : ∃ DD : Nat → Nat → Nat, DD = fun i k => depN ds n N (swapL F i k) := ⟨_, rfl⟩
  have hDD' : ∀ i k, depN ds n N (swapL F i k) = DD i k := fun i k => by rw [hDD]
  simp only [hDD'] at HD2 HQ2
  clear hDD hDD' hD hQ hL hn hds hks hg hfx hdd hQ2 hfl hdl hkl hsz hsp hm h1 h2 h3
  by_cases hd0 : 0 < D
  · have t1 : ((D : Int) == 0) = false := by rw [beq_eq_false_iff_ne]; omega
    rw [if_pos hd0, decide_eq_true hd0, HQ.out]
    clear hd0
    go_enter Try.func16, Try.ntmps16
    go_wp2_with fail
    refine (HA.out _ ((Ext.rf _).al _)).mono ?_
    rintro e w1 ⟨rfl, x1⟩
    have hM : w1.heap[w.heap.size]? = some (.cells #[.int .i64 (n : Int), .slice a1 ds.length c1, .slice a2 ks.length c2] 30 (0, 0)) := x1.bk (hp_at rfl)
    obtain ⟨hM0, hM1, hM2, _, _, _⟩ := blk3 hM
    go_wp2_with fail
    refine (HF.out _ (((Ext.rf _).al _).tr x1)).mono ?_
    rintro e w2 ⟨rfl, x2⟩
    clear hM0 hM1 hM2
    have hM := x2.bk hM
    obtain ⟨hM0, hM1, hM2, _, _, _⟩ := blk3 hM
    go_wp2_with fail
    refine (HD.out _ ((((Ext.rf _).al _).tr x1).tr x2)).mono ?_
    rintro e w3 ⟨rfl, x3⟩
    clear hM0 hM1 hM2
    have hM := x3.bk hM
    go_wp2_with fail
    refine (HM.out _).mono ?_
    rintro e w4 ⟨b, d, rfl, oL, x4⟩
    have hM := x4.bk hM
    have e4 : Ext w w4 := ((((Ext.rf _).al _).tr x1).tr x2).tr x3 |>.tr x4
    clear x1 x2 x3 x4 t1
    go_wp2_with fail
    go_loopw [36, 9] (fun i v wr => ∃ k : Nat, ∃ a c, k ≤ L.length ∧ i = .int .i64 (k : Int) ∧ v = .slice a (swAll Q L k).length c ∧ Own EPN 95 wr w4.heap.size a c (swAll Q L k) ∧ Ext w4 wr) (fun i _ _ => L.length - (intOf i).toNat)
    case atStart => exact ⟨0, _, _, by omega, rfl, rfl, Own.empty (cur := #[]) (hp_at rfl) (Nat.le_refl _), (Ext.rf _).al _⟩
    case round =>
      obtain ⟨i, a, c, hi, rfl, rfl, ho, hx⟩ := hrel
      by_cases hlt : i < L.length
      · obtain ⟨lb, lo, rfl, hlc⟩ := (oL.ext hx).rd.n (by omega)
        have q0 := hlc i hlt
        clear hlc
        have HS1 : Hid (swAll Q L (i + 1) = swAll Q L i ++ swRow Q L i L.length) := swAll_succ _ _ _
        have hAl : (swAll Q L i).length ≤ 36 := Nat.le_trans (swAll_len Q L i) (Nat.le_trans (Nat.mul_le_mul (by omega : i ≤ 6) hm6) (by decide))
        obtain ⟨A, hA⟩ : ∃ A, A = swAll Q L i := ⟨_, rfl⟩
        rw [← hA] at HS1 ho hAl
        rw [← hA]
        have HG : Hid (L.getD i 0 = L[i]) := by show _ = _; rw [List.getD_eq_getElem?_getD, List.getElem?_eq_getElem hlt]; rfl
        obtain ⟨y, hy⟩ : ∃ y, y = L[i] := ⟨_, rfl⟩
        rw [← hy] at q0 HG
        clear hA hy
        go_wp2_with fail
        clear q0
        go_loopw [12, 9] (fun kk v wq => ∃ k : Nat, ∃ a c, i + 1 ≤ k ∧ k ≤ L.length ∧ kk = .int .i64 (k : Int) ∧ v = .slice a (A ++ swRow Q L i k).length c ∧ Own EPN 95 wq w4.heap.size a c (A ++ swRow Q L i k) ∧ Ext w4 wq) (fun kk _ _ => L.length - (intOf kk).toNat)
        case atStart => exact ⟨i + 1, a, c, by omega, by omega, by go_num, by rw [swRow_start]; simp, by rw [swRow_start]; simpa using ho, hx⟩
        case round =>
          clear ho hx
          obtain ⟨k, a, c, hk1, hk2, rfl, rfl, ho, hx⟩ := hrel
          have hRl := swRow_len Q L i k
          have HSR : Hid (swRow Q L i (k + 1) = swRow Q L i k ++ (if Q i k then [(L.getD i 0, L.getD k 0)] else [])) := swRow_step Q L i k hk1
          obtain ⟨R, hR⟩ : ∃ R, R = swRow Q L i k := ⟨_, rfl⟩
          have HRR := Lib.hid hR
          rw [← hR] at HSR ho hRl
          rw [← hR]
          clear hR
          by_cases hkl : k < L.length
          · obtain ⟨hM0, hM1, hM2, _, _, _⟩ := blk3 (hx.bk hM)
            have hiF : i < F.length := by have := HFL.out; omega
            have hkF : k < F.length := by have := HFL.out; omega
            have HGk : Hid (L.getD k 0 = L[k]) := by show _ = _; rw [List.getD_eq_getElem?_getD, List.getElem?_eq_getElem hkl]; rfl
            have HQk := Lib.hid (HQ2.out i k)
            obtain ⟨dd, hdd⟩ : ∃ dd, dd = DD i k := ⟨_, rfl⟩
            have HD3 := HD2.out i k
            rw [← hdd] at HD3 HQk
            have HD4 := Lib.hid HD3
            clear HD3 hdd
            go_wp2_with fail
            go_region_held3 (fun w' => w'.cell? ⟨w.heap.size, 0, none⟩ = some (.int .i64 (n : Int)) ∧ w'.cell? ⟨w.heap.size, 1, none⟩ = some (.slice a1 ds.length c1) ∧ w'.cell? ⟨w.heap.size, 2, none⟩ = some (.slice a2 ks.length c2)) (go_keep) (first
              | (refine step_call rfl _ _ rfl #[.slice a3 F.length c3, .int .i64 (i : Int), .int .i64 (k : Int)] (by simp [go_sem]) entersSwapped (HS.out i k _ (e4.tr hx.dr) hiF hkF) ?_; rintro e w5 ⟨sb, sd, rfl, oS, x5⟩; refine ⟨_, rfl, ?_⟩; have v0 := (Ext.tr (Ext.rf _).dr x5).cl hM0; have v1 := (Ext.tr (Ext.rf _).dr x5).cl hM1; have v2 := (Ext.tr (Ext.rf _).dr x5).cl hM2)
              | (refine step_call rfl _ _ rfl #[.agg #[.int .i64 (n : Int), .slice a1 ds.length c1, .slice a2 ks.length c2], .int .i64 (N : Int), .slice sb (swapL F i k).length sd] (by simp [go_sem]) entersDepth (HD4.out _ sb sd ((e4.tr hx.dr).tr x5) oS.rd) ?_; rintro e w6 ⟨rfl, x6⟩; refine ⟨_, rfl, ?_⟩; have u0 := x6.cl v0; have u1 := x6.cl v1; have u2 := x6.cl v2)
              | fail)
            have hx6 : Ext w4 w6 := (hx.dr.tr x5).tr x6
            have ho6 := (ho.dr.ext x5).ext x6
            clear hM0 hM1 hM2 v0 v1 v2 u0 u1 u2 ho x5 x6 oS
            by_cases hq : 0 < dd
            · have HK : Hid (A ++ swRow Q L i (k + 1) = (A ++ R) ++ [(y, L[k])]) := by
                show _ = _
                rw [HSR.out, HQk.out, decide_eq_true hq, HG.out, HGk.out]
                simp
              obtain ⟨lb', lo', hlb, hlc⟩ := (oL.ext hx6).rd.n (by omega)
              cases hlb
              have q1 := hlc k hkl
              obtain ⟨z, hz⟩ : ∃ z, z = L[k] := ⟨_, rfl⟩
              rw [← hz] at q1 HK
              clear hlc hz
              have HO := Lib.hid ho6
              clear ho6
              go_wp2_with (at_builtin; refine wpList_app elemPN rfl _ _ rfl [(y, z)] rfl rfl (HO.out.al _) rfl (rdPair (hp_at rfl)) rfl ?_ ?_ ?_; rotate_left 2)
              · intro aa' c7 w7 h7 g7
                have hx7 : Ext w4 w7 := (hx6.al _).gr g7 (HO.out.al _) (Nat.le_refl _)
                go_wp2_with fail
                go_roundw
                case rel => exact ⟨k + 1, aa', c7, by omega, by omega, by go_num, by rw [HK.out]; simp [Nat.add_assoc], by rw [HK.out, List.append_assoc]; exact h7, hx7⟩
                case measure => simp [intOf]; omega
              · simp; omega
              · simp; exact Nat.le_succ_of_le hx6.size
            · have HK : Hid (A ++ swRow Q L i (k + 1) = A ++ R) := by
                show _ = _
                rw [HSR.out, HQk.out, decide_eq_false hq]
                simp
              go_wp2_with fail
              go_roundw
              case rel => exact ⟨k + 1, a, c, by omega, by omega, by go_num, by rw [HK.out], by rw [HK.out]; exact ho6, hx6⟩
              case measure => simp [intOf]; omega
          · have HK : Hid (A ++ R = swAll Q L (i + 1)) := by
              show _ = _
              rw [HS1.out, HRR.out]
              congr 2
              omega
            go_wp2_with fail
            go_roundw
            case rel => exact ⟨i + 1, a, c, by omega, by go_num, by rw [← HK.out], by rw [← HK.out]; exact ho, hx⟩
            case measure => simp [intOf]; omega
      · have HK : Hid (swAll Q L i = swAll Q L L.length) := by show _ = _; congr 1; omega
        go_wp2_with fail
        go_ret2
        exact ⟨a, c, by rw [HK.out]; rfl, by rw [← HK.out]; exact ho.mono e4.size, e4.tr hx⟩
  · have t1 : ((D : Int) == 0) = true := by rw [beq_iff_eq]; omega
    rw [if_neg hd0, decide_eq_false hd0]
    clear hd0
    go_enter Try.func16, Try.ntmps16
    go_wp2_with fail
    refine (HA.out _ ((Ext.rf _).al _)).mono ?_
    rintro e w1 ⟨rfl, x1⟩
    have hM : w1.heap[w.heap.size]? = some (.cells #[.int .i64 (n : Int), .slice a1 ds.length c1, .slice a2 ks.length c2] 30 (0, 0)) := x1.bk (hp_at rfl)
    obtain ⟨hM0, hM1, hM2, _, _, _⟩ := blk3 hM
    go_wp2_with fail
    refine (HF.out _ (((Ext.rf _).al _).tr x1)).mono ?_
    rintro e w2 ⟨rfl, x2⟩
    clear hM0 hM1 hM2
    have hM := x2.bk hM
    obtain ⟨hM0, hM1, hM2, _, _, _⟩ := blk3 hM
    go_wp2_with fail
    refine (HD.out _ ((((Ext.rf _).al _).tr x1).tr x2)).mono ?_
    rintro e w3 ⟨rfl, x3⟩
    go_wp2_with fail
    go_ret2
    exact ⟨none, 0, rfl, Own.nil _ _ _ _, ((((Ext.rf _).al _).tr x1).tr x2).tr x3⟩

end Go.Proofs.Ytkdncpglgdiicaa
