/- What is reached at last; what a filling is made of: the walks. -/
import Derived.Test.YtkdncpglgdiicaaSlices2
import Derived.Test.YtkdncpglgdiicaaSEnt
namespace Go.Proofs.Ytkdncpglgdiicaa
open Go Go.RowKit Go.Sort

theorem clos_last {ds : List ND} {n : Nat} {ks : List Nat} {s : Nat} (h : gain ds n ks s = s) : clos ds n ks s = s := by
  unfold clos; rw [rnd_last _ _ h]; rfl
theorem clos_more {ds : List ND} {n : Nat} {ks : List Nat} {s : Nat} (h : gain ds n ks s ≠ s) (h1 : s ≤ gain ds n ks s) (h2 : gain ds n ks s ≤ 63) : clos ds n ks (gain ds n ks s) = clos ds n ks s := by
  unfold clos
  rw [rnd_more _ s h h1 h2]
  have := rnd_pos (gain ds n ks) (gain ds n ks s)
  rw [List.getLastD_eq_getLast?, List.getLastD_eq_getLast?, List.getLast?_cons]
  cases hl : (rnd (gain ds n ks) (gain ds n ks s)).getLast? with
  | none => rw [List.getLast?_eq_none_iff] at hl; rw [hl] at this; simp at this
  | some v => simp [List.getLastD_eq_getLast?, hl]
theorem clos_get (ds : List ND) (n : Nat) (ks : List Nat) (s : Nat) : (rnd (gain ds n ks) s)[(rnd (gain ds n ks) s).length - 1]? = some (clos ds n ks s) := by
  have hp := rnd_pos (gain ds n ks) s
  unfold clos
  rw [List.getLastD_eq_getLast?, List.getLast?_eq_getElem?, List.getElem?_eq_getElem (by omega)]
  rfl

set_option maxRecDepth 100000 in
set_option maxHeartbeats 1000000 in
theorem atLast_any (n : Nat) (ds : List ND) (ks : List Nat) (s0 : Nat) (a1 a2 : Option Addr) (c1 c2 : Nat) (w : World) (h1 : Rd EDN w a1 ds) (h2 : Rd EN w a2 ks) (hd : ∀ d ∈ ds, d.1 < d.2.1 ∧ d.2.1 < n ∧ d.2.2 ≤ 63) (hn : n ≤ 12) (hx : 0 < n) (hlen : ds.length ≤ 1000) (hkn : ks.length = n) (hk : ∀ k ∈ ks, k ≤ 63) (hs : s0 ≤ 63) :
    Calls Try.prog 164 #[.agg #[.int .i64 (n : Int), .slice a1 ds.length c1, .slice a2 ks.length c2], .int .i64 (s0 : Int)] w fun e w' => e = .returned (.agg #[.int .i64 (clos ds n ks s0 : Nat), .int .i64 (rN ds n (clos ds n ks s0) 0 : Nat)]) ∧ Ext w w' := by
  have HRO := Lib.hid fun w' (hx' : Ext w w') => rounds_any n ds ks s0 a1 a2 c1 c2 w' (h1.ext hx') (h2.ext hx') hd hn hx hlen hkn hk hs
  have hRl := rnd_len (gain ds n ks) s0 hs
  have hRp := rnd_pos (gain ds n ks) s0
  have hg2 := clos_get ds n ks s0
  obtain ⟨R, hR⟩ : ∃ R, R = rnd (gain ds n ks) s0 := ⟨_, rfl⟩
  rw [← hR] at HRO hRl hRp hg2
  obtain ⟨C, hC⟩ : ∃ C, C = clos ds n ks s0 := ⟨_, rfl⟩
  rw [← hC] at hg2
  rw [← hC]
  have HG := Lib.hid hg2
  clear hg2 hd hk hkn hR hC
  go_enter Try.func164, Try.ntmps164
  go_wp2_with fail
  have x0 : Ext w ((w.alloc (.cells #[.int .i64 (n : Int), .slice a1 ds.length c1, .slice a2 ks.length c2] 30)).alloc (.cells #[.int .i64 0, .int .i64 0] 172)) := ((Ext.rf _).al _).al _
  refine (HRO.out _ x0).mono ?_
  rintro e w1 ⟨b, d, rfl, oR, x1⟩
  have hO : w1.heap[w.heap.size + 1]? = some (.cells #[.int .i64 0, .int .i64 0] 172 (0, 0)) := x1.bk (hp_at (by simp))
  have xw := x0.tr x1
  have hml : (R.map (rpair ds n)).length = R.length := List.length_map _
  obtain ⟨rb, ro, rfl, q1, q2⟩ : ∃ rb ro, b = some ⟨rb, ro, none⟩ ∧ w1.cell? ⟨rb, ro + (R.length - 1) * 2, none⟩ = some (.int .i64 (C : Int)) ∧ w1.cell? ⟨rb, ro + (R.length - 1) * 2 + 1, none⟩ = some (.int .i64 (rN ds n C 0 : Int)) := by
    have hkm : R.length - 1 < (R.map (rpair ds n)).length := by omega
    have he : (R.map (rpair ds n))[R.length - 1] = (C, rN ds n C 0) := by
      apply Option.some.inj
      rw [← List.getElem?_eq_getElem hkm, List.getElem?_map, HG.out]
      rfl
    rcases oR.rd with h | ⟨rb, ro, hb, hc⟩
    · rw [h] at hkm; simp at hkm
    · refine ⟨rb, ro, hb, ?_, ?_⟩
      · have h5 := hc _ hkm 0 (by decide)
        rw [he] at h5
        simpa [EPN] using h5
      · have h5 := hc _ hkm 1 (by decide)
        rw [he] at h5
        simpa [EPN] using h5
  rw [hml]
  have hsub : IntKind.i64.wrap ((R.length : Int) - 1) = ((R.length - 1 : Nat) : Int) := by rw [IntWalk.i64_in _ ⟨by omega, by omega⟩]; omega
  have hlt : R.length - 1 < R.length := by omega
  obtain ⟨k, hk⟩ : ∃ k, k = R.length - 1 := ⟨_, rfl⟩
  rw [← hk] at q1 q2 hsub hlt
  clear hml oR x0 x1 hk
  have f0 : w1.frozen? ⟨w.heap.size + 1, 0, none⟩ = false := frozen_of_row w1 _ 0 _ _ hO
  have f1 : w1.frozen? ⟨w.heap.size + 1, 1, none⟩ = false := frozen_of_row w1 _ 1 _ _ hO
  have r0 : w1.cell? ⟨w.heap.size + 1, 0, none⟩ = some (.int .i64 0) := cell_of_row w1 _ 0 _ _ _ hO
  have r1 : w1.cell? ⟨w.heap.size + 1, 1, none⟩ = some (.int .i64 0) := cell_of_row w1 _ 1 _ _ _ hO
  clear hO
  go_wp2_with fail
  refine bodyPost_ret (v := .agg #[.int .i64 (C : Int), .int .i64 (rN ds n C 0 : Int)]) ?_ rfl ⟨rfl, (xw.cs ?_ _).cs ?_ _⟩
  · simp [results, Try.results164, go_sem, r0, r1]
  · exact Nat.le_succ _
  · exact Nat.le_succ _

set_option maxRecDepth 100000 in
set_option maxHeartbeats 1000000 in
theorem l2Close_any (n : Nat) (ds : List ND) (ks : List Nat) (s0 : Nat) (a1 a2 : Option Addr) (c1 c2 : Nat) (w : World) (h1 : Rd EDN w a1 ds) (h2 : Rd EN w a2 ks) (hd : ∀ d ∈ ds, d.1 < d.2.1 ∧ d.2.1 < n ∧ d.2.2 ≤ 63) (hn : n ≤ 12) (hx : 0 < n) (hlen : ds.length ≤ 1000) (hkn : ks.length = n) (hk : ∀ k ∈ ks, k ≤ 63) (hs : s0 ≤ 63) :
    Calls Try.prog 160 #[.agg #[.int .i64 (n : Int), .slice a1 ds.length c1, .slice a2 ks.length c2], .int .i64 (s0 : Int)] w fun e w' => ∃ a c, e = .returned (.tuple #[.int .i64 (clos ds n ks s0 : Nat), .slice a (freeL ds n ks s0).length c]) ∧ Own EN 3 w' w.heap.size a c (freeL ds n ks s0) ∧ Ext w w' := by
  have HD := Lib.hid hd
  have HK := Lib.hid hk
  have HKN := Lib.hid hkn
  clear hd hk hkn
  go_enter Try.func160, Try.ntmps160
  go_wp2_with fail
  obtain ⟨W0, hW0⟩ : ∃ W0, W0 = w.alloc (.cells #[.int .i64 (n : Int), .slice a1 ds.length c1, .slice a2 ks.length c2] 30) := ⟨_, rfl⟩
  rw [← hW0]
  have e0 : Ext w W0 := by rw [hW0]; exact (Ext.rf _).al _
  have hM : W0.heap[w.heap.size]? = some (.cells #[.int .i64 (n : Int), .slice a1 ds.length c1, .slice a2 ks.length c2] 30 (0, 0)) := by rw [hW0]; exact hp_at rfl
  clear hW0
  go_loopw [1] (fun v wr => ∃ s : Nat, s ≤ 63 ∧ v = .int .i64 (s : Int) ∧ Ext W0 wr ∧ clos ds n ks s = clos ds n ks s0) (fun v _ => 63 - (intOf v).toNat)
  case atStart => exact ⟨s0, hs, rfl, Ext.rf _, rfl⟩
  case round =>
    obtain ⟨s, hs, rfl, hx1, hcl⟩ := hrel
    have HCL := Lib.hid hcl
    clear hcl
    obtain ⟨hM0, hM1, hM2, _, _, _⟩ := blk3 (hx1.bk hM)
    go_wp2_with fail
    refine (l2Reach_any n 0 s ds a1 a2 c1 ks.length c2 _ (h1.ext (e0.tr hx1)) HD.out hn hx hlen hs).mono ?_
    rintro e w2 ⟨b, d, rfl, o2, x2⟩
    have hx2 := hx1.tr x2
    have hL12 : (rl ds n s 0).length ≤ n := by
      rw [← mem_rN ds n s 0 (by omega)]
      exact mem_len_le (rN_lt ds n s 0) (by omega)
    obtain ⟨L, hL⟩ : ∃ L, L = rl ds n s 0 := ⟨_, rfl⟩
    have HLL := Lib.hid hL
    have hLn : ∀ y ∈ L, y < n := by rw [hL]; exact fun y hy => rl_lt hy
    rw [← hL] at o2 hL12
    rw [← hL]
    clear hL
    have HLn := Lib.hid hLn
    have o2 := o2.mono (Nat.le_trans e0.size hx1.size)
    clear hLn hM0 hM1 hM2
    go_wp2_with fail
    go_loopw [7, 8] (fun h i wq => ∃ k : Nat, k ≤ L.length ∧ i = .int .i64 (k : Int) ∧ h = .int .i64 (gainL ks (L.take k) s : Nat) ∧ Ext w2 wq) (fun _ i _ => L.length - (intOf i).toNat)
    case atStart => exact ⟨0, by omega, rfl, rfl, Ext.rf _⟩
    case round =>
      obtain ⟨k, hkl, rfl, rfl, xq⟩ := hrel
      by_cases hlt : k < L.length
      · obtain ⟨b', off, rfl, hc⟩ := (o2.ext xq).rd.n (by omega)
        have q1 := hc k hlt
        clear hc
        have hy := HLn.out L[k] (List.getElem_mem hlt)
        have hy2 : L[k] < ks.length := by rw [HKN.out]; exact hy
        have hx3 := hx2.tr xq
        obtain ⟨hM0, hM1, hM2, _, _, _⟩ := blk3 (hx3.bk hM)
        obtain ⟨kb, ko, rfl, hkc⟩ := (h2.ext (e0.tr hx3)).n (by omega)
        have q2 := hkc L[k] hy2
        clear hkc
        have HS : Hid (gainL ks (L.take (k + 1)) s = gainL ks (L.take k) s ||| ks[L[k]]) := by
          show _ = _
          rw [gainL_take _ _ _ _ hlt, List.getD_eq_getElem?_getD, List.getElem?_eq_getElem hy2]
          rfl
        have hg : gainL ks (L.take k) s ≤ 63 := gainL_le ks HK.out _ _ hs
        have hkk : ks[L[k]] ≤ 63 := HK.out _ (List.getElem_mem _)
        obtain ⟨z, hz⟩ : ∃ z, z = ks[L[k]] := ⟨_, rfl⟩
        rw [← hz] at HS q2 hkk
        clear hz
        obtain ⟨y, hyy⟩ : ∃ y, y = L[k] := ⟨_, rfl⟩
        rw [← hyy] at q1 q2 hy hy2
        clear hyy
        have hB := bor_nat (gainL ks (L.take k) s) z (by omega) (by omega)
        go_wp2_with fail
        have k1 := cell_regrown q1
        have k2 := cell_regrown q2
        have k3 := cell_regrown hM2
        refine quietExt (by kernel_rfl) (by kernel_rfl) ?_
        repeat (first | go_big_quiet_step (fail) | quiet_step (fail))
        refine wpQuiet_nil ?_
        intro w4 hx4
        go_wp2_with fail
        go_roundw
        case rel => exact ⟨k + 1, by omega, by go_num, by rw [HS.out], xq.tr hx4⟩
        case measure => simp [intOf]; omega
      · have HG : Hid (gainL ks (L.take k) s = gain ds n ks s) := by
          show _ = _
          rw [List.take_of_length_le (by omega), HLL.out]
          rfl
        rw [HG.out]
        have g1 : s ≤ gain ds n ks s := gainL_ge _ _ _
        have g2 : gain ds n ks s ≤ 63 := gainL_le ks HK.out _ _ hs
        obtain ⟨G, hG⟩ : ∃ G, G = gain ds n ks s := ⟨_, rfl⟩
        have HGG := Lib.hid hG
        rw [← hG] at g1 g2
        rw [← hG]
        clear hG HG
        have hx3 := hx2.tr xq
        have o3 := o2.ext xq
        by_cases hgs : G = s
        · have ht : ((G : Int) == (s : Int)) = true := by rw [beq_iff_eq, hgs]
          have HE : Hid (clos ds n ks s0 = s) := by
            show _ = _
            rw [← HCL.out, clos_last (by rw [← HGG.out]; exact hgs)]
          have HF : Hid (freeL ds n ks s0 = L) := by
            show _ = _
            unfold freeL
            rw [HE.out, HLL.out]
          clear hgs
          go_wp2_with fail
          go_ret2
          exact ⟨b, d, by rw [HE.out, HF.out]; rfl, by rw [HF.out]; exact o3, e0.tr hx3⟩
        · have ht : ((G : Int) == (s : Int)) = false := by rw [beq_eq_false_iff_ne]; omega
          have HE : Hid (clos ds n ks G = clos ds n ks s0) := by
            show _ = _
            rw [← HCL.out, HGG.out]
            exact clos_more (by rw [← HGG.out]; exact hgs) (by rw [← HGG.out]; exact g1) (by rw [← HGG.out]; exact g2)
          go_wp2_with fail
          go_roundw
          case rel => exact ⟨G, g2, rfl, hx3, HE.out⟩
          case measure => simp [intOf]; omega

end Go.Proofs.Ytkdncpglgdiicaa
