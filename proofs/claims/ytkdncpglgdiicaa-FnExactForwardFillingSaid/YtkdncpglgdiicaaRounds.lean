/- Rounds of a run: the walk. -/
import Derived.Test.YtkdncpglgdiicaaNode
import Derived.Test.YtkdncpglgdiicaaReach2
import Derived.Test.YtkdncpglgdiicaaPureRnd
namespace Go.Proofs.Ytkdncpglgdiicaa
open Go Go.RowKit Go.Sort

theorem elemRound : Elem Try.prog 181 172 EPN := Elem.of Try.underlying181 (z := .agg #[.int .i64 0, .int .i64 0]) (b := 16) (by kernel_rfl) rfl (by decide) (by decide)

theorem rdPair {w : World} {g x y : Nat} {t : TypeId} (h : w.heap[g]? = some (.cells #[.int .i64 (x : Int), .int .i64 (y : Int)] t (0, 0))) : Rd EPN w (some ⟨g, 0, none⟩) [(x, y)] := by
  refine .inr ⟨g, 0, rfl, fun j hj i hi => ?_⟩
  simp only [List.length_singleton] at hj
  have hi' : i < 2 := hi
  obtain rfl : j = 0 := by omega
  rcases (by omega : i = 0 ∨ i = 1) with rfl | rfl
  · simp [EPN, World.cell?, h]
  · simp [EPN, World.cell?, h]

/-- A round: the set held, the nodes reached. -/
noncomputable def rpair (ds : List ND) (n s : Nat) : Nat × Nat := (s, rN ds n s 0)

set_option maxRecDepth 100000 in
set_option maxHeartbeats 1000000 in
theorem rounds_any (n : Nat) (ds : List ND) (ks : List Nat) (s0 : Nat) (a1 a2 : Option Addr) (c1 c2 : Nat) (w : World) (h1 : Rd EDN w a1 ds) (h2 : Rd EN w a2 ks) (hd : ∀ d ∈ ds, d.1 < d.2.1 ∧ d.2.1 < n ∧ d.2.2 ≤ 63) (hn : n ≤ 12) (hx : 0 < n) (hlen : ds.length ≤ 1000) (hkn : ks.length = n) (hk : ∀ k ∈ ks, k ≤ 63) (hs : s0 ≤ 63) :
    Calls Try.prog 180 #[.agg #[.int .i64 (n : Int), .slice a1 ds.length c1, .slice a2 ks.length c2], .int .i64 (s0 : Int)] w fun e w' => ∃ a c, e = .returned (.slice a ((rnd (gain ds n ks) s0).map (rpair ds n)).length c) ∧ Own EPN 172 w' w.heap.size a c ((rnd (gain ds n ks) s0).map (rpair ds n)) ∧ Ext w w' := by
  have HD := Lib.hid hd
  have HK := Lib.hid hk
  have HKN := Lib.hid hkn
  have HL := Lib.hid (rnd_len (gain ds n ks) s0 hs)
  clear hd hk hkn
  go_enter Try.func180, Try.ntmps180
  go_wp2_with fail
  obtain ⟨W0, hW0⟩ : ∃ W0, W0 = w.alloc (.cells #[.int .i64 (n : Int), .slice a1 ds.length c1, .slice a2 ks.length c2] 30) := ⟨_, rfl⟩
  rw [← hW0]
  have e0 : Ext w W0 := by rw [hW0]; exact (Ext.rf _).al _
  have hM : W0.heap[w.heap.size]? = some (.cells #[.int .i64 (n : Int), .slice a1 ds.length c1, .slice a2 ks.length c2] 30 (0, 0)) := by rw [hW0]; exact hp_at rfl
  have HZ : Hid (W0.heap.size = w.heap.size + 1) := by show _ = _; rw [hW0]; simp
  clear hW0
  go_loopw [5, 6] (fun v i wr => ∃ s : Nat, ∃ a c, ∃ l : List (Nat × Nat), s ≤ 63 ∧ i = .int .i64 (s : Int) ∧ v = .slice a l.length c ∧ Own EPN 172 wr W0.heap.size a c l ∧ Ext W0 wr ∧ (rnd (gain ds n ks) s0).map (rpair ds n) = l ++ (rnd (gain ds n ks) s).map (rpair ds n)) (fun _ i _ => 63 - (intOf i).toNat)
  case atStart =>
    refine ⟨s0, some ⟨w.heap.size + 1, 0, none⟩, 0, [], hs, rfl, rfl, ?_, (Ext.rf _).al _, rfl⟩
    rw [← HZ.out]
    exact Own.made (E := EPN) W0 #[] (Nat.le_refl _) (by decide) (by simp) (by simp) (by simp)
  case round =>
    obtain ⟨s, a, c, l, hs, rfl, rfl, ho, hx1, hrnd⟩ := hrel
    have HR := Lib.hid hrnd
    have hll : l.length ≤ 64 := by
      have h5 := congrArg List.length HR.out
      simp only [List.length_map, List.length_append] at h5
      have := HL.out
      omega
    clear hrnd
    obtain ⟨hM0, hM1, hM2, _, _, _⟩ := blk3 (hx1.bk hM)
    go_wp2_with fail
    refine (reach_any n 0 s ds a1 a2 c1 ks.length c2 _ (h1.ext (e0.tr hx1)) HD.out hn hx hlen hs).mono ?_
    rintro e w1 ⟨rfl, x1⟩
    go_wp2_with fail
    refine (members_any (rN ds n s 0) _ ?_).mono ?_
    · exact Nat.lt_of_lt_of_le (rN_lt ds n s 0) (Nat.pow_le_pow_right (by decide) (by omega))
    rw [mem_rN ds n s 0 (by omega)]
    rintro e w2 ⟨b, d, rfl, o2, x2⟩
    have hx2 := (hx1.tr x1).tr x2
    have ho2 := (ho.ext x1).ext x2
    obtain ⟨hM3, hM4, hM5, _, _, _⟩ := blk3 (hx2.bk hM)
    clear hM0 hM1 hM2
    have hL12 : (rl ds n s 0).length ≤ n := by
      rw [← mem_rN ds n s 0 (by omega)]
      exact mem_len_le (rN_lt ds n s 0) (by omega)
    obtain ⟨L, hL⟩ : ∃ L, L = rl ds n s 0 := ⟨_, rfl⟩
    have HLL := Lib.hid hL
    have hLn : ∀ y ∈ L, y < n := by rw [hL]; exact fun y hy => rl_lt hy
    rw [← hL] at o2 hL12
    rw [← hL]
    clear hL
    have HLn := Lib.hid hLn
    clear hLn
    go_wp2_with fail
    go_loop [8, 20] (fun h i => ∃ k : Nat, k ≤ L.length ∧ i = .int .i64 (k : Int) ∧ h = .int .i64 (gainL ks (L.take k) s : Nat)) (fun _ i => L.length - (intOf i).toNat)
    case atStart => exact ⟨0, by omega, rfl, rfl⟩
    case round =>
      obtain ⟨k, hkl, rfl, rfl⟩ := hrel
      by_cases hlt : k < L.length
      · obtain ⟨b', off, rfl, hc⟩ := o2.rd.n (by omega)
        have q1 := hc k hlt
        clear hc
        have hy := HLn.out L[k] (List.getElem_mem hlt)
        have hy2 : L[k] < ks.length := by rw [HKN.out]; exact hy
        obtain ⟨kb, ko, rfl, hkc⟩ := (h2.ext (e0.tr hx2)).n (by omega)
        have q2 := hkc L[k] hy2
        clear hkc
        have HS : Hid (gainL ks (L.take (k + 1)) s = gainL ks (L.take k) s ||| ks[L[k]]) := by
          show _ = _
          rw [gainL_take _ _ _ _ hlt, List.getD_eq_getElem?_getD, List.getElem?_eq_getElem hy2]
          rfl
        have hg : gainL ks (L.take k) s ≤ 63 := gainL_le ks HK.out _ _ hs
        have hkk : ks[L[k]] ≤ 63 := HK.out _ (List.getElem_mem _)
        obtain ⟨z, hz⟩ : ∃ z, z = ks[L[k]] := ⟨_, rfl⟩
        rw [← hz] at HS q2 hkk
        clear hz
        obtain ⟨y, hyy⟩ : ∃ y, y = L[k] := ⟨_, rfl⟩
        rw [← hyy] at q1 q2 hy hy2
        clear hyy
        have hB := bor_nat (gainL ks (L.take k) s) z (by omega) (by omega)
        go_wp2_with fail
        go_round
        case rel => exact ⟨k + 1, by omega, by go_num, by rw [HS.out]⟩
        case measure => simp [intOf]; omega
      · have HG : Hid (gainL ks (L.take k) s = gain ds n ks s) := by
          show _ = _
          rw [List.take_of_length_le (by omega), HLL.out]
          rfl
        rw [HG.out]
        have g1 : s ≤ gain ds n ks s := gainL_ge _ _ _
        have g2 : gain ds n ks s ≤ 63 := gainL_le ks HK.out _ _ hs
        obtain ⟨G, hG⟩ : ∃ G, G = gain ds n ks s := ⟨_, rfl⟩
        have HGG := Lib.hid hG
        rw [← hG] at g1 g2
        rw [← hG]
        clear hG HG
        obtain ⟨N, hN⟩ : ∃ N, N = rN ds n s 0 := ⟨_, rfl⟩
        have HNN := Lib.hid hN
        rw [← hN]
        clear hN
        have HO := Lib.hid ho2
        clear ho2 ho
        by_cases hgs : G = s
        · have ht : ((G : Int) == (s : Int)) = true := by rw [beq_iff_eq, hgs]
          have HE : Hid ((rnd (gain ds n ks) s0).map (rpair ds n) = l ++ [(s, N)]) := by
            show _ = _
            rw [HR.out, rnd_last _ _ (by rw [← HGG.out]; exact hgs), HNN.out]
            rfl
          clear hgs
          go_wp2_with (at_builtin; refine wpList_app elemRound rfl _ _ rfl [(s, N)] rfl rfl (HO.out.al _) rfl (rdPair (hp_at rfl)) rfl ?_ ?_ ?_; rotate_left 2)
          · intro aa' c4 w4 h4 g4
            have hx4 : Ext W0 w4 := (hx2.al _).gr g4 (HO.out.al _) (Nat.le_refl _)
            go_wp2_with fail
            go_ret
            refine ⟨aa', c4, by rw [HE.out, List.length_append]; rfl, ?_, e0.tr hx4⟩
            rw [HE.out]
            exact h4.mono e0.size
          · omega
          · exact Nat.le_succ_of_le hx2.size
        · have ht : ((G : Int) == (s : Int)) = false := by rw [beq_eq_false_iff_ne]; omega
          have HE : Hid ((rnd (gain ds n ks) s0).map (rpair ds n) = (l ++ [(s, N)]) ++ (rnd (gain ds n ks) G).map (rpair ds n)) := by
            show _ = _
            rw [HR.out, rnd_more _ s (by rw [← HGG.out]; exact hgs) (by rw [← HGG.out]; exact g1) (by rw [← HGG.out]; exact g2), HNN.out, ← HGG.out]
            simp [rpair]
          go_wp2_with (at_builtin; refine wpList_app elemRound rfl _ _ rfl [(s, N)] rfl rfl (HO.out.al _) rfl (rdPair (hp_at rfl)) rfl ?_ ?_ ?_; rotate_left 2)
          · intro aa' c4 w4 h4 g4
            have hx4 : Ext W0 w4 := (hx2.al _).gr g4 (HO.out.al _) (Nat.le_refl _)
            go_wp2_with fail
            go_roundw
            case rel => exact ⟨G, aa', c4, l ++ [(s, N)], g2, rfl, by rw [List.length_append]; rfl, h4, hx4, HE.out⟩
            case measure => simp [intOf]; omega
          · omega
          · exact Nat.le_succ_of_le hx2.size

end Go.Proofs.Ytkdncpglgdiicaa
