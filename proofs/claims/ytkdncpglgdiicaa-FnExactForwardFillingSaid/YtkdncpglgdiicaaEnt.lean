/- Rounds at which nodes are entered: the walk. -/
import Derived.Test.YtkdncpglgdiicaaRounds
import Derived.Test.YtkdncpglgdiicaaClear
namespace Go.Proofs.Ytkdncpglgdiicaa
open Go Go.RowKit Go.Sort

set_option maxRecDepth 100000 in
set_option maxHeartbeats 1000000 in
theorem nodeRounds_any (n : Nat) (ds : List ND) (ks : List Nat) (s0 : Nat) (a1 a2 : Option Addr) (c1 c2 : Nat) (w : World) (h1 : Rd EDN w a1 ds) (h2 : Rd EN w a2 ks) (hd : ∀ d ∈ ds, d.1 < d.2.1 ∧ d.2.1 < n ∧ d.2.2 ≤ 63) (hn : n ≤ 12) (hx : 0 < n) (hlen : ds.length ≤ 1000) (hkn : ks.length = n) (hk : ∀ k ∈ ks, k ≤ 63) (hs : s0 ≤ 63) :
    Calls Try.prog 130 #[.agg #[.int .i64 (n : Int), .slice a1 ds.length c1, .slice a2 ks.length c2], .int .i64 (s0 : Int)] w fun e w' => ∃ a c, e = .returned (.slice a (ent ds n ks s0).length c) ∧ Own EN 3 w' w.heap.size a c (ent ds n ks s0) ∧ Ext w w' := by
  have HL := Lib.hid (rnd_len (gain ds n ks) s0 hs)
  have HLE := Lib.hid (rnd_le (gain ds n ks) s0 hs)
  have hcall := fun w' (hx' : Ext w w') => rounds_any n ds ks s0 a1 a2 c1 c2 w' (h1.ext hx') (h2.ext hx') hd hn hx hlen hkn hk hs
  have HC := Lib.hid hcall
  have HKN := Lib.hid hkn
  clear hcall hd hk hkn
  go_enter Try.func130, Try.ntmps130
  go_wp2_with (with_reducible refine wpList_make Try.underlying23 (by kernel_rfl) rfl _ _ rfl n rfl rfl (by omega) ?_; intro o1)
  have o1' : Own EN 3 ((w.alloc (.cells #[.int .i64 (n : Int), .slice a1 ds.length c1, .slice a2 ks.length c2] 30)).alloc (.cells (Array.replicate n (.int .i64 0)) 3)) (w.heap.size + 1) (some ⟨w.heap.size + 1, 0, none⟩) n (List.replicate n 0) := by simpa using o1
  clear o1
  have x0 : Ext w ((w.alloc (.cells #[.int .i64 (n : Int), .slice a1 ds.length c1, .slice a2 ks.length c2] 30)).alloc (.cells (Array.replicate n (.int .i64 0)) 3)) := ((Ext.rf _).al _).al _
  refine (HC.out _ x0).mono ?_
  rintro e w1 ⟨b, d, rfl, oR, x1⟩
  have oE := o1'.ext x1
  have xw := x0.tr x1
  have oR2 : Own EPN 172 w1 (w.heap.size + 2) b d ((rnd (gain ds n ks) s0).map (rpair ds n)) := by simpa using oR
  have hz : w.heap.size + 2 ≤ w1.heap.size := by simpa using x1.size
  obtain ⟨R, hR⟩ : ∃ R, R = rnd (gain ds n ks) s0 := ⟨_, rfl⟩
  have HRR : Hid (ent ds n ks s0 = entK ds n R R.length) := by show _ = _; rw [hR]; rfl
  rw [← hR] at oR2 HL HLE
  simp only [← hR]
  have hRl : R.length ≤ 64 := by have := HL.out; omega
  have hml : (R.map (rpair ds n)).length = R.length := List.length_map _
  clear hR oR o1' x0 x1
  rw [hml]
  have HML := Lib.hid hml
  clear hml
  go_wp2_with fail
  go_loopw [17] (fun i wr => ∃ k : Nat, k ≤ R.length ∧ i = .int .i64 (k : Int) ∧ Own EN 3 wr (w.heap.size + 1) (some ⟨w.heap.size + 1, 0, none⟩) n (entK ds n R k) ∧ Own EPN 172 wr (w.heap.size + 2) b d (R.map (rpair ds n)) ∧ Ext w wr) (fun i _ => R.length - (intOf i).toNat)
  case atStart => exact ⟨0, by omega, rfl, oE, oR2, xw⟩
  case round =>
    clear oE oR2 xw hz
    obtain ⟨k, hk, rfl, oE, oR, xw⟩ := hrel
    by_cases hlt : k < R.length
    · have hRk : R[k] ≤ 63 := HLE.out _ (List.getElem_mem hlt)
      obtain ⟨rb, ro, rfl, hrc⟩ : ∃ rb ro, b = some ⟨rb, ro, none⟩ ∧ wr.cell? ⟨rb, ro + k * 2, none⟩ = some (.int .i64 (R[k] : Int)) ∧ wr.cell? ⟨rb, ro + k * 2 + 1, none⟩ = some (.int .i64 (rN ds n R[k] 0 : Int)) := by
        have hkm : k < (R.map (rpair ds n)).length := by simpa using hlt
        rcases oR.rd with h | ⟨rb, ro, hb, hc⟩
        · rw [h] at hkm; simp at hkm
        · refine ⟨rb, ro, hb, ?_, ?_⟩
          · simpa [EPN, rpair] using hc k hkm 0 (by decide)
          · simpa [EPN, rpair] using hc k hkm 1 (by decide)
      obtain ⟨q1, q2⟩ := hrc
      have HM : Hid (mem (rN ds n R[k] 0) = rl ds n R[k] 0) := mem_rN ds n R[k] 0 (by omega)
      have HNL : Hid (rN ds n R[k] 0 < 2 ^ 60) := Nat.lt_of_lt_of_le (rN_lt ds n R[k] 0) (Nat.pow_le_pow_right (by decide) (by omega))
      obtain ⟨L, hL⟩ : ∃ L, L = rl ds n R[k] 0 := ⟨_, rfl⟩
      have hLn : ∀ y ∈ L, y < n := by rw [hL]; exact fun y hy => rl_lt hy
      have hL12 : L.length ≤ n := by
        rw [hL, ← mem_rN ds n R[k] 0 (by omega)]
        exact mem_len_le (rN_lt ds n R[k] 0) (by omega)
      have HSS : Hid (entK ds n R (k + 1) = markL k L (entK ds n R k)) := by show _ = _; rw [hL]; exact entK_succ _ _ _ _ hlt
      rw [← hL] at HM
      clear hL
      have HLn := Lib.hid hLn
      clear hLn
      have hE : (entK ds n R k).length = n := entK_len _ _ _ _ (by omega)
      have HE := Lib.hid hE
      clear hE
      obtain ⟨N, hN⟩ : ∃ N, N = rN ds n R[k] 0 := ⟨_, rfl⟩
      rw [← hN] at q2 HM HNL
      obtain ⟨z, hz⟩ : ∃ z, z = R[k] := ⟨_, rfl⟩
      rw [← hz] at q1 hRk
      clear hN hz
      go_wp2_with fail
      have hbig : w.heap.size + 2 ≤ wr.heap.size := by
        obtain ⟨g, o, hb, _, hg, _⟩ := oE.nAt 0 (by rw [HE.out]; exact hx)
        cases hb
        exact hg
      refine (members_any N _ HNL.out).mono ?_
      rw [HM.out]
      rintro e w2 ⟨lb, ld, rfl, oL, x2⟩
      have oL := oL.mono (by simp; omega : w.heap.size + 2 ≤ (wr.alloc (.cells #[.int .i64 (z : Int), .int .i64 (N : Int)] 172)).heap.size)
      have oE2 := (oE.al (.cells #[.int .i64 (z : Int), .int .i64 (N : Int)] 172)).ext x2
      have oR2 := (oR.al (.cells #[.int .i64 (z : Int), .int .i64 (N : Int)] 172)).ext x2
      have xw2 := (xw.al (.cells #[.int .i64 (z : Int), .int .i64 (N : Int)] 172)).tr x2
      clear oE oR xw q1 q2 x2
      go_wp2_with fail
      go_loopw [26] (fun i wq => ∃ j : Nat, j ≤ L.length ∧ i = .int .i64 (j : Int) ∧ Own EN 3 wq (w.heap.size + 1) (some ⟨w.heap.size + 1, 0, none⟩) n (markL k (L.take j) (entK ds n R k)) ∧ Own EPN 172 wq (w.heap.size + 2) (some ⟨rb, ro, none⟩) d (R.map (rpair ds n)) ∧ Own EN 3 wq (w.heap.size + 2) lb ld L ∧ Ext w wq) (fun i _ => L.length - (intOf i).toNat)
      case atStart => exact ⟨0, by omega, rfl, oE2, oR2, oL, xw2⟩
      case round =>
        clear oE2 oR2 oL xw2
        obtain ⟨j, hj, rfl, oE, oR, oL, xw⟩ := hrel
        by_cases hjl : j < L.length
        · obtain ⟨b', off, rfl, hc⟩ := oL.rd.n (by omega)
          have q1 := hc j hjl
          clear hc
          have hy := HLn.out L[j] (List.getElem_mem hjl)
          have HM2 : Hid (markL k (L.take (j + 1)) (entK ds n R k) = markS k (markL k (L.take j) (entK ds n R k)) L[j]) := markL_take _ _ _ _ hjl
          have hMl : (markL k (L.take j) (entK ds n R k)).length = n := by rw [markL_len]; exact HE.out
          obtain ⟨M, hM⟩ : ∃ M, M = markL k (L.take j) (entK ds n R k) := ⟨_, rfl⟩
          rw [← hM] at HM2 hMl oE
          clear hM
          obtain ⟨y, hyy⟩ : ∃ y, y = L[j] := ⟨_, rfl⟩
          rw [← hyy] at q1 hy HM2
          clear hyy
          obtain ⟨g, o, hgo, _, _, q2, qf⟩ := oE.nAt y (by rw [hMl]; exact hy)
          cases hgo
          have HG : Hid (M.getD y 0 = M[y]'(by rw [hMl]; exact hy)) := by
            show _ = _
            rw [List.getD_eq_getElem?_getD, List.getElem?_eq_getElem (by rw [hMl]; exact hy)]
            rfl
          have o6 := oE.setN y (by rw [hMl]; exact hy) (k + 1)
          have hcast : ((k + 1 : Nat) : Int) = (k : Int) + 1 := by omega
          rw [hcast] at o6
          have hoff : 0 + y = y := by omega
          rw [hoff] at q2 qf o6
          have HO := Lib.hid oE
          have HO6 := Lib.hid o6
          obtain ⟨x, hx'⟩ : ∃ x, x = M[y]'(by rw [hMl]; exact hy) := ⟨_, rfl⟩
          rw [← hx'] at q2 HG
          clear hx' oE o6 hoff hMl
          by_cases hz : x = 0
          · have ht : ((x : Int) == 0) = true := by rw [beq_iff_eq]; omega
            have HS : Hid (markS k M y = M.set y (k + 1)) := by show _ = _; unfold markS; rw [HG.out, if_pos hz]
            clear hz hcast
            go_wp2_with fail
            go_roundw
            case rel =>
              refine ⟨j + 1, by omega, by go_num, by rw [HM2.out, HS.out]; exact HO6.out.1, oR.kept HO6.out.2 ?_, oL.kept HO6.out.2 ?_, xw.cs (p := ⟨w.heap.size + 1, y, none⟩) (Nat.le_succ _) _⟩
              · intro p hp he
                have h5 := (oR.blk p hp).1
                have h6 := Option.some.inj he
                have h7 : p.block = w.heap.size + 1 := h6
                omega
              · intro p hp he
                have h5 := (oL.blk p hp).1
                have h6 := Option.some.inj he
                have h7 : p.block = w.heap.size + 1 := h6
                omega
            case measure => simp [intOf]; omega
          · have ht : ((x : Int) == 0) = false := by rw [beq_eq_false_iff_ne]; omega
            have HS : Hid (markS k M y = M) := by show _ = _; unfold markS; rw [HG.out, if_neg hz]
            clear hz hcast
            go_wp2_with fail
            go_roundw
            case rel => exact ⟨j + 1, by omega, by go_num, by rw [HM2.out, HS.out]; exact HO.out, oR, oL, xw⟩
            case measure => simp [intOf]; omega
        · have HT : Hid (markL k (L.take j) (entK ds n R k) = entK ds n R (k + 1)) := by
            show _ = _
            rw [HSS.out, List.take_of_length_le (by omega)]
          go_wp2_with fail
          go_roundw
          case rel => exact ⟨k + 1, by omega, by go_num, by rw [← HT.out]; exact oE, oR, xw⟩
          case measure => simp [intOf]; omega
    · go_wp2_with fail
      go_ret
      have hkR : k = R.length := by omega
      rw [hkR, ← HRR.out] at oE
      refine ⟨some ⟨w.heap.size + 1, 0, none⟩, n, by rw [ent_len]; rfl, oE.mono (Nat.le_succ _), xw⟩

end Go.Proofs.Ytkdncpglgdiicaa
