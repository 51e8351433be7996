/- The reference's rounds: the walk. -/
import Derived.Test.YtkdncpglgdiicaaDepth
namespace Go.Proofs.Ytkdncpglgdiicaa
open Go Go.RowKit Go.Sort

theorem rnd_pos (g : Nat → Nat) (s : Nat) : 1 ≤ (rnd g s).length := by
  rw [rnd]
  split <;> simp

set_option maxRecDepth 100000 in
set_option maxHeartbeats 1000000 in
theorem l3Rounds_any (n : Nat) (ds : List ND) (ks : List Nat) (s0 : Nat) (a1 a2 : Option Addr) (c1 c2 : Nat) (w : World) (h1 : Rd EDN w a1 ds) (h2 : Rd EN w a2 ks) (hd : ∀ d ∈ ds, d.1 < d.2.1 ∧ d.2.1 < n ∧ d.2.2 ≤ 63) (hn : n ≤ 12) (hx : 0 < n) (hlen : ds.length ≤ 1000) (hkn : ks.length = n) (hk : ∀ k ∈ ks, k ≤ 63) (hs : s0 ≤ 63) :
    Calls Try.prog 176 #[.agg #[.int .i64 (n : Int), .slice a1 ds.length c1, .slice a2 ks.length c2], .int .i64 (s0 : Int)] w fun e w' => ∃ a c, e = .returned (.slice a (rnd (gain ds n ks) s0).length c) ∧ Own EN 3 w' w.heap.size a c (rnd (gain ds n ks) s0) ∧ Ext w w' := by
  have HD := Lib.hid hd
  have HK := Lib.hid hk
  have HKN := Lib.hid hkn
  have HL := Lib.hid (rnd_len (gain ds n ks) s0 hs)
  clear hd hk hkn
  go_enter Try.func176, Try.ntmps176
  go_wp2_with fail
  obtain ⟨W0, hW0⟩ : ∃ W0, W0 = w.alloc (.cells #[.int .i64 (n : Int), .slice a1 ds.length c1, .slice a2 ks.length c2] 30) := ⟨_, rfl⟩
  rw [← hW0]
  have e0 : Ext w W0 := by rw [hW0]; exact (Ext.rf _).al _
  have hM : W0.heap[w.heap.size]? = some (.cells #[.int .i64 (n : Int), .slice a1 ds.length c1, .slice a2 ks.length c2] 30 (0, 0)) := by rw [hW0]; exact hp_at rfl
  have HZ : Hid (W0.heap.size = w.heap.size + 1) := by show _ = _; rw [hW0]; simp
  clear hW0
  go_loopw [5] (fun v wr => ∃ s : Nat, ∃ a c, ∃ l : List Nat, s ≤ 63 ∧ v = .slice a (l ++ [s]).length c ∧ Own EN 3 wr W0.heap.size a c (l ++ [s]) ∧ Ext W0 wr ∧ rnd (gain ds n ks) s0 = l ++ rnd (gain ds n ks) s) (fun v _ => 65 - lenOf v)
  case atStart =>
    refine ⟨s0, some ⟨w.heap.size + 1, 0, none⟩, 1, [], hs, rfl, ?_, (Ext.rf _).al _, rfl⟩
    rw [← HZ.out]
    exact Own.made (E := EN) W0 #[.int .i64 (s0 : Int)] (Nat.le_refl _) (by decide) (by simp) (by simp [EN]) (by simp [EN])
  case round =>
    obtain ⟨s, a, c, l, hs, rfl, ho, hx1, hrnd⟩ := hrel
    have HR := Lib.hid hrnd
    have hll : l.length ≤ 63 := by
      have h5 := congrArg List.length HR.out
      have h6 := HL.out
      have h7 := rnd_pos (gain ds n ks) s
      rw [List.length_append] at h5
      omega
    clear hrnd
    obtain ⟨hM0, hM1, hM2, _, _, _⟩ := blk3 (hx1.bk hM)
    obtain ⟨lb, lo, rfl, hlc⟩ := ho.rd.n (by simp)
    have q0 := hlc l.length (by simp)
    have hget : (l ++ [s])[l.length]'(by simp) = s := by simp
    rw [hget] at q0
    have hL1 : (l ++ [s]).length = l.length + 1 := by simp
    have HL1 := Lib.hid hL1
    have HO := Lib.hid ho
    clear hlc hget ho
    rw [hL1]
    clear hL1
    go_wp2_with fail
    refine (l2Reach_any n 0 s ds a1 a2 c1 ks.length c2 _ (h1.ext (e0.tr hx1)) HD.out hn hx hlen hs).mono ?_
    rintro e w2 ⟨b, d, rfl, o2, x2⟩
    have hx2 := hx1.tr x2
    have hL12 : (rl ds n s 0).length ≤ n := by
      rw [← mem_rN ds n s 0 (by omega)]
      exact mem_len_le (rN_lt ds n s 0) (by omega)
    obtain ⟨L, hL⟩ : ∃ L, L = rl ds n s 0 := ⟨_, rfl⟩
    have HLL := Lib.hid hL
    have hLn : ∀ y ∈ L, y < n := by rw [hL]; exact fun y hy => rl_lt hy
    rw [← hL] at o2 hL12
    rw [← hL]
    clear hL
    have HLn := Lib.hid hLn
    clear hLn hM0 hM1 hM2 q0
    go_wp2_with fail
    go_loopw [8, 9] (fun h i wq => ∃ k : Nat, k ≤ L.length ∧ i = .int .i64 (k : Int) ∧ h = .int .i64 (gainL ks (L.take k) s : Nat) ∧ Ext w2 wq) (fun _ i _ => L.length - (intOf i).toNat)
    case atStart => exact ⟨0, by omega, rfl, rfl, Ext.rf _⟩
    case round =>
      obtain ⟨k, hkl, rfl, rfl, xq⟩ := hrel
      by_cases hlt : k < L.length
      · obtain ⟨b', off, rfl, hc⟩ := (o2.ext xq).rd.n (by omega)
        have q1 := hc k hlt
        clear hc
        have hy := HLn.out L[k] (List.getElem_mem hlt)
        have hy2 : L[k] < ks.length := by rw [HKN.out]; exact hy
        have hx3 := hx2.tr xq
        obtain ⟨hM0, hM1, hM2, _, _, _⟩ := blk3 (hx3.bk hM)
        obtain ⟨kb, ko, rfl, hkc⟩ := (h2.ext (e0.tr hx3)).n (by omega)
        have q2 := hkc L[k] hy2
        clear hkc
        have HS : Hid (gainL ks (L.take (k + 1)) s = gainL ks (L.take k) s ||| ks[L[k]]) := by
          show _ = _
          rw [gainL_take _ _ _ _ hlt, List.getD_eq_getElem?_getD, List.getElem?_eq_getElem hy2]
          rfl
        have hg : gainL ks (L.take k) s ≤ 63 := gainL_le ks HK.out _ _ hs
        have hkk : ks[L[k]] ≤ 63 := HK.out _ (List.getElem_mem _)
        obtain ⟨z, hz⟩ : ∃ z, z = ks[L[k]] := ⟨_, rfl⟩
        rw [← hz] at HS q2 hkk
        clear hz
        obtain ⟨y, hyy⟩ : ∃ y, y = L[k] := ⟨_, rfl⟩
        rw [← hyy] at q1 q2 hy hy2
        clear hyy
        have hB := bor_nat (gainL ks (L.take k) s) z (by omega) (by omega)
        go_wp2_with fail
        have k1 := cell_regrown q1
        have k2 := cell_regrown q2
        have k3 := cell_regrown hM2
        refine quietExt (by kernel_rfl) (by kernel_rfl) ?_
        repeat (first | go_big_quiet_step (fail) | quiet_step (fail))
        refine wpQuiet_nil ?_
        intro w4 hx4
        go_wp2_with fail
        go_roundw
        case rel => exact ⟨k + 1, by omega, by go_num, by rw [HS.out], xq.tr hx4⟩
        case measure => simp [intOf]; omega
      · have HG : Hid (gainL ks (L.take k) s = gain ds n ks s) := by
          show _ = _
          rw [List.take_of_length_le (by omega), HLL.out]
          rfl
        rw [HG.out]
        have g1 : s ≤ gain ds n ks s := gainL_ge _ _ _
        have g2 : gain ds n ks s ≤ 63 := gainL_le ks HK.out _ _ hs
        obtain ⟨G, hG⟩ : ∃ G, G = gain ds n ks s := ⟨_, rfl⟩
        have HGG := Lib.hid hG
        rw [← hG] at g1 g2
        rw [← hG]
        clear hG HG
        have hx3 := hx2.tr xq
        have HO2 := Lib.hid ((HO.out.ext x2).ext xq)
        by_cases hgs : G = s
        · have ht : ((G : Int) == (s : Int)) = true := by rw [beq_iff_eq, hgs]
          have HE : Hid (rnd (gain ds n ks) s0 = l ++ [s]) := by
            show _ = _
            rw [HR.out, rnd_last _ _ (by rw [← HGG.out]; exact hgs)]
          clear hgs
          go_wp2_with fail
          go_ret
          refine ⟨some ⟨lb, lo, none⟩, c, by rw [HE.out, HL1.out]; rfl, ?_, e0.tr hx3⟩
          rw [HE.out]
          exact HO2.out.mono e0.size
        · have ht : ((G : Int) == (s : Int)) = false := by rw [beq_eq_false_iff_ne]; omega
          have HE : Hid (rnd (gain ds n ks) s0 = (l ++ [s]) ++ rnd (gain ds n ks) G) := by
            show _ = _
            rw [HR.out, rnd_more _ s (by rw [← HGG.out]; exact hgs) (by rw [← HGG.out]; exact g1) (by rw [← HGG.out]; exact g2), ← HGG.out]
            simp
          go_wp2_with (at_builtin; refine wpList_app elemN rfl _ _ rfl [G] rfl rfl (HO2.out.al _) HL1.out.symm (Rd.one _ _) rfl ?_ ?_ ?_; rotate_left 2)
          · intro aa' c4 w4 h4 g4
            have hx4 : Ext W0 w4 := (hx3.al _).gr g4 (HO2.out.al _) (Nat.le_refl _)
            go_wp2_with fail
            go_roundw
            case rel => exact ⟨G, aa', c4, l ++ [s], g2, by rw [List.length_append, HL1.out]; rfl, by simpa using h4, hx4, HE.out⟩
            case measure => simp [lenOf]; omega
          · rw [HL1.out]; simp; omega
          · simp; exact Nat.le_succ_of_le hx3.size

end Go.Proofs.Ytkdncpglgdiicaa
