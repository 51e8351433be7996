/- The reference's rounds of entry: the walk (in progress). -/
import Derived.Test.YtkdncpglgdiicaaSRounds
namespace Go.Proofs.Ytkdncpglgdiicaa
open Go Go.RowKit Go.Sort

theorem entersL2Reach : Enters Try.prog 151 := fun _ _ => by go_simp
theorem entersSRounds : Enters Try.prog 176 := fun _ _ => by go_simp
theorem run_makeN (n : Nat) (hn : n ≤ 100000000) (w : World) : Sem.run Try.prog (Instr.makeSlice 23 (.int .i64 (n : Int)) (.int .i64 (n : Int))) w = .ok (.slice (some ⟨w.heap.size, 0, none⟩) n n) (w.alloc (.cells (Array.replicate n (.int .i64 0)) 3)) := by
  obtain ⟨i, hi1, hz0, hz1, hz2⟩ := info_parts (P := Try.prog) (e := 3) (z := .int .i64 0) (size := 1) (bytes := 8) (by kernel_rfl)
  have hr := run_make (P := Try.prog) w 23 3 i (.int .i64 0) Try.underlying23 hi1 hz0 .i64 .i64 n n (by omega) (Int.le_refl _) (by rw [hz2]; omega) (by omega)
  simp only [Int.toNat_natCast, hz1, Nat.mul_one] at hr
  have hm : madeCells (Value.int IntKind.i64 0).cells n = Array.replicate n (.int .i64 0) := by
    apply Array.toList_inj.1
    rw [Value.cells, toList_madeCells_one]
    · simp
    all_goals intros; simp_all
  rw [hm] at hr
  exact hr
theorem step_make {P : Program} {t e : TypeId} (ht : P.underlying t = some (.slice e)) (hi : (P.info? e).map (fun i => (i.zero, i.size, i.bytes)) = some (some (.int .i64 0), 1, 8)) {w : World} {ops : Array Oper} {o : Oper} {a : Act} {K : Act → World → Prop} {Q : Exit → Act → World → Prop} {D : Prop} (hg : o.guard = none) (l c : Operand) (hop : o.op = Op.makeSlice t l c)
    (n : Nat) (hl : a.eval l = .int .i64 (n : Int)) (hc : a.eval c = .int .i64 (n : Int)) (hn : n ≤ 100000000)
    (hK : Own EN e (w.alloc (.cells (Array.replicate n (.int .i64 0)) e)) w.heap.size (some ⟨w.heap.size, 0, none⟩) n (List.replicate n 0) → K (a.put o.dst (.slice (some ⟨w.heap.size, 0, none⟩) n n)) (w.alloc (.cells (Array.replicate n (.int .i64 0)) e))) :
    if Region.wanted o (yielded ops a.tmps) = true then Oper.wp P o a w K Q else D := by
  rw [if_pos (by simp [Region.wanted, hg])]
  obtain ⟨i, hi1, hz0, hz1, hz2⟩ := info_parts hi
  have hr := run_make (P := P) w t e i (.int .i64 0) ht hi1 hz0 .i64 .i64 n n (by omega) (Int.le_refl _) (by rw [hz2]; omega) (by omega)
  simp only [Int.toNat_natCast, hz1, Nat.mul_one] at hr
  have hm : madeCells (Value.int IntKind.i64 0).cells n = Array.replicate n (.int .i64 0) := by
    apply Array.toList_inj.1
    rw [Value.cells, toList_madeCells_one]
    · simp
    all_goals intros; simp_all
  rw [hm] at hr
  unfold Oper.wp
  simp [execOp, hop, hl, hc, hr, Result.andThen]
  refine hK ?_
  refine Own.made w _ (Nat.le_refl _) (by unfold maxLen; omega) (by simp) (by simp [EN]) ?_
  rw [rep_cells]
  simp [EN]

theorem ownRep (w : World) (e : TypeId) (n : Nat) (hn : n ≤ 100000000) : Own EN e (w.alloc (.cells (Array.replicate n (.int .i64 0)) e)) w.heap.size (some ⟨w.heap.size, 0, none⟩) n (List.replicate n 0) := by
  refine Own.made w _ (Nat.le_refl _) (by unfold maxLen; omega) (by simp) (by simp [EN]) ?_
  rw [rep_cells]
  simp [EN]

set_option maxRecDepth 100000 in
set_option maxHeartbeats 1000000 in
theorem l3Entered_any (n : Nat) (ds : List ND) (ks : List Nat) (s0 : Nat) (a1 a2 : Option Addr) (c1 c2 : Nat) (w : World) (h1 : Rd EDN w a1 ds) (h2 : Rd EN w a2 ks) (hd : ∀ d ∈ ds, d.1 < d.2.1 ∧ d.2.1 < n ∧ d.2.2 ≤ 63) (hn : n ≤ 12) (hx : 0 < n) (hlen : ds.length ≤ 1000) (hkn : ks.length = n) (hk : ∀ k ∈ ks, k ≤ 63) (hs : s0 ≤ 63) :
    Calls Try.prog 122 #[.agg #[.int .i64 (n : Int), .slice a1 ds.length c1, .slice a2 ks.length c2], .int .i64 (s0 : Int)] w fun e w' => ∃ a c, e = .returned (.slice a (ent ds n ks s0).length c) ∧ Own EN 3 w' w.heap.size a c (ent ds n ks s0) ∧ Ext w w' := by
  have HL := Lib.hid (rnd_len (gain ds n ks) s0 hs)
  have HLE := Lib.hid (rnd_le (gain ds n ks) s0 hs)
  have hcall := fun w' (hx' : Ext w w') => l3Rounds_any n ds ks s0 a1 a2 c1 c2 w' (h1.ext hx') (h2.ext hx') hd hn hx hlen hkn hk hs
  have HC := Lib.hid hcall
  have hre := fun s w' a c c2' n2 (hs : s ≤ 63) (hr : Rd EDN w' a ds) => l2Reach_any n 0 s ds a a2 c n2 c2' w' hr hd hn hx hlen hs
  have HRE := Lib.hid hre
  have HKN := Lib.hid hkn
  clear hcall hre hd hk hkn
  go_enter Try.func122, Try.ntmps122
  go_wp2_with fail
  obtain ⟨W1, hW1⟩ : ∃ W1, W1 = w.alloc (.cells #[.int .i64 (n : Int), .slice a1 ds.length c1, .slice a2 ks.length c2] 30) := ⟨_, rfl⟩
  rw [← hW1]
  have e1 : Ext w W1 := by rw [hW1]; exact (Ext.rf _).al _
  have f0 : W1.cell? ⟨w.heap.size, 0, none⟩ = some (.int .i64 (n : Int)) := by rw [hW1]; go_simp
  have f1 : W1.cell? ⟨w.heap.size, 1, none⟩ = some (.slice a1 ds.length c1) := by rw [hW1]; go_simp
  have f2 : W1.cell? ⟨w.heap.size, 2, none⟩ = some (.slice a2 ks.length c2) := by rw [hW1]; go_simp
  have HSZ : Hid (W1.heap.size = w.heap.size + 1) := by show _ = _; rw [hW1]; simp
  clear hW1
  have hmk : ∀ w', Sem.run Try.prog (Instr.makeSlice 23 (.int .i64 (n : Int)) (.int .i64 (n : Int))) w' = .ok (.slice (some ⟨w'.heap.size, 0, none⟩) n n) (w'.alloc (.cells (Array.replicate n (.int .i64 0)) 3)) := fun w' => run_makeN n (by omega) w'
  go_region_held3 (fun w' => w'.cell? ⟨w.heap.size, 0, none⟩ = some (.int .i64 (n : Int)) ∧ w'.cell? ⟨w.heap.size, 1, none⟩ = some (.slice a1 ds.length c1) ∧ w'.cell? ⟨w.heap.size, 2, none⟩ = some (.slice a2 ks.length c2) ∧ Ext W1 w') (first | ((with_reducible (repeat (first | apply Ext.dr | apply Ext.al))); first | (with_reducible exact Ext.rf _) | (with_reducible assumption)) | ((try dsimp only); (refine And.intro ?_ (And.intro ?_ (And.intro ?_ ?_))) <;> first | ((with_reducible (repeat (first | apply Ext.dr | apply Ext.al))); first | (with_reducible exact Ext.rf _) | (with_reducible assumption)) | go_keep) | go_keep) (first
    | (refine step_call rfl _ _ rfl #[.agg #[.int .i64 (n : Int), .slice a1 ds.length c1, .slice a2 ks.length c2], .int .i64 (s0 : Int)] (by simp [go_sem]) entersSRounds (HC.out _ (e1.tr (by (repeat (first | apply Ext.dr | apply Ext.al)); exact Ext.rf _))) ?_; rintro e w3 ⟨b1, d1, rfl, o3, x1⟩; refine ⟨_, rfl, ?_⟩; have x2 : Ext W1 w3 := Ext.tr (by (repeat (first | apply Ext.dr | apply Ext.al)); exact Ext.rf _) x1; have y0 := x2.cl f0; have y1 := x2.cl f1; have y2 := x2.cl f2)
    | fail)
  · have oO : Own EN 3 w3 W1.heap.size (some ⟨W1.heap.size, 0, none⟩) n (List.replicate n 0) := (ownRep W1 3 n (by omega)).ext (Ext.tr (Ext.rf _).dr x1)
    have oS : Own EN 3 w3 W1.heap.size b1 d1 (rnd (gain ds n ks) s0) := o3.mono (by simp)
    have HAP : Hid (Apart (some ⟨W1.heap.size, 0, none⟩) b1) := Apart.older (n := W1.heap.size + 1) (by intro p hp; cases hp; exact Nat.lt_succ_self _) (fun p hp => by have := (o3.blk p hp).1; simpa using this)
    have HGB : Hid (W1.heap.size ≤ W1.heap.size) := Nat.le_refl _
    have xW := x2
    obtain ⟨B, hB⟩ : ∃ B, B = W1.heap.size := ⟨_, rfl⟩
    have HB : Hid (w.heap.size ≤ B) := by show _ ≤ _; rw [hB]; exact e1.size
    have oO : Own EN 3 w3 B (some ⟨W1.heap.size, 0, none⟩) n (List.replicate n 0) := by rw [hB]; exact oO
    have oS : Own EN 3 w3 B b1 d1 (rnd (gain ds n ks) s0) := by rw [hB]; exact oS
    clear hB
    obtain ⟨g, hg⟩ : ∃ g, g = W1.heap.size := ⟨_, rfl⟩
    have HGB : Hid (W1.heap.size ≤ g) := by show _ ≤ _; omega
    rw [← hg] at oO HAP
    rw [← hg]
    obtain ⟨W2, rfl⟩ : ∃ W2 : World, W2 = w3 := ⟨_, rfl⟩
    clear hg x1 x2 y0 y1 y2 o3
    have hRl : (rnd (gain ds n ks) s0).length ≤ 64 := by have := HL.out; omega
    obtain ⟨R, hR⟩ : ∃ R, R = rnd (gain ds n ks) s0 := ⟨_, rfl⟩
    have HRR : Hid (ent ds n ks s0 = entK ds n R R.length) := by show _ = _; rw [hR]; rfl
    rw [← hR] at oS HLE hRl
    rw [← hR]
    clear hR
    go_wp2_with fail
    go_loopw [7] (fun i wr => ∃ k : Nat, k ≤ R.length ∧ i = .int .i64 (k : Int) ∧ Own EN 3 wr B (some ⟨g, 0, none⟩) n (entK ds n R k) ∧ Own EN 3 wr B b1 d1 R ∧ Ext W1 wr) (fun i _ => R.length - (intOf i).toNat)
    case atStart => exact ⟨0, by omega, rfl, oO, oS, xW⟩
    case round =>
      clear oO oS xW
      obtain ⟨k, hk, rfl, oO, oS, xW⟩ := hrel
      by_cases hlt : k < R.length
      · have hRk : R[k] ≤ 63 := HLE.out _ (List.getElem_mem hlt)
        obtain ⟨rb, ro, rfl, hrc⟩ := oS.rd.n (by omega)
        have q0 := hrc k hlt
        clear hrc
        obtain ⟨L, hL⟩ : ∃ L, L = rl ds n R[k] 0 := ⟨_, rfl⟩
        have hLn : ∀ y ∈ L, y < n := by rw [hL]; exact fun y hy => rl_lt hy
        have hL12 : L.length ≤ n := by
          rw [hL, ← mem_rN ds n R[k] 0 (by omega)]
          exact mem_len_le (rN_lt ds n R[k] 0) (by omega)
        have HSS : Hid (entK ds n R (k + 1) = markL k L (entK ds n R k)) := by show _ = _; rw [hL]; exact entK_succ _ _ _ _ hlt
        have HCR := Lib.hid fun w' (hx : Ext W1 w') => HRE.out R[k] w' a1 c1 c2 ks.length hRk (h1.ext (e1.tr hx))
        rw [← hL] at HCR
        clear hL
        have HLn := Lib.hid hLn
        clear hLn
        have hE : (entK ds n R k).length = n := entK_len _ _ _ _ (by omega)
        have HE := Lib.hid hE
        clear hE
        obtain ⟨z, hz⟩ : ∃ z, z = R[k] := ⟨_, rfl⟩
        rw [← hz] at q0 hRk HCR
        clear hz
        have y0 := xW.cl f0
        have y1 := xW.cl f1
        have y2 := xW.cl f2
        have k0 := cell_regrown q0
        go_wp2_with fail
        go_region_held3 (fun w' => w'.cell? ⟨w.heap.size, 0, none⟩ = some (.int .i64 (n : Int)) ∧ w'.cell? ⟨w.heap.size, 1, none⟩ = some (.slice a1 ds.length c1) ∧ w'.cell? ⟨w.heap.size, 2, none⟩ = some (.slice a2 ks.length c2) ∧ w'.cell? ⟨rb, ro + k, none⟩ = some (.int .i64 (z : Int))) (go_keep) (first
          | (refine step_call rfl _ _ rfl #[.agg #[.int .i64 (n : Int), .slice a1 ds.length c1, .slice a2 ks.length c2], .int .i64 0, .int .i64 (z : Int)] (by simp [go_sem]) entersL2Reach (HCR.out _ xW.dr) ?_; rintro e w4 ⟨lb, ld, rfl, oL, x4⟩; refine ⟨_, rfl, ?_⟩; have x5 : Ext wr w4 := Ext.tr (Ext.rf _).dr x4; have v0 := x5.cl y0; have v1 := x5.cl y1; have v2 := x5.cl y2; have v3 := x5.cl q0)
          | fail)
        have oO2 := oO.ext x5
        have oS2 := oS.ext x5
        have xW2 := xW.tr x5
        have hWz : W1.heap.size ≤ wr.heap.size := xW.size
        have oL2 : Own EN 3 w4 wr.heap.size lb ld L := oL
        have hgl : g < wr.heap.size := by
          obtain ⟨g', o', hb', _, hg', _⟩ := oO.nAt 0 (by rw [HE.out]; exact hx)
          cases hb'
          exact hg'
        have HAP2 : Hid (Apart (some ⟨rb, ro, none⟩) (some ⟨g, 0, none⟩)) := HAP.out.symm
        clear oO oS xW q0 y0 y1 y2 k0 x4 x5 oL v0 v1 v2 v3
        go_wp2_with fail
        go_loopw [9] (fun i wq => ∃ j : Nat, j ≤ L.length ∧ i = .int .i64 (j : Int) ∧ Own EN 3 wq B (some ⟨g, 0, none⟩) n (markL k (L.take j) (entK ds n R k)) ∧ Own EN 3 wq B (some ⟨rb, ro, none⟩) d1 R ∧ Own EN 3 wq wr.heap.size lb ld L ∧ Ext W1 wq) (fun i _ => L.length - (intOf i).toNat)
        case atStart => exact ⟨0, by omega, rfl, oO2, oS2, oL2, xW2⟩
        case round =>
          clear oO2 oS2 oL2 xW2
          obtain ⟨j, hj, rfl, oE, oR, oL, xw⟩ := hrel
          by_cases hjl : j < L.length
          · obtain ⟨b', off, rfl, hc⟩ := oL.rd.n (by omega)
            have q1 := hc j hjl
            clear hc
            have hy := HLn.out L[j] (List.getElem_mem hjl)
            have HM2 : Hid (markL k (L.take (j + 1)) (entK ds n R k) = markS k (markL k (L.take j) (entK ds n R k)) L[j]) := markL_take _ _ _ _ hjl
            have hMl : (markL k (L.take j) (entK ds n R k)).length = n := by rw [markL_len]; exact HE.out
            obtain ⟨M, hM⟩ : ∃ M, M = markL k (L.take j) (entK ds n R k) := ⟨_, rfl⟩
            rw [← hM] at HM2 hMl oE
            clear hM
            obtain ⟨y, hyy⟩ : ∃ y, y = L[j] := ⟨_, rfl⟩
            rw [← hyy] at q1 hy HM2
            clear hyy
            obtain ⟨g', o, hgo, _, _, q2, qf⟩ := oE.nAt y (by rw [hMl]; exact hy)
            cases hgo
            have HG : Hid (M.getD y 0 = M[y]'(by rw [hMl]; exact hy)) := by
              show _ = _
              rw [List.getD_eq_getElem?_getD, List.getElem?_eq_getElem (by rw [hMl]; exact hy)]
              rfl
            have o6 := oE.setN y (by rw [hMl]; exact hy) (k + 1)
            have hcast : ((k + 1 : Nat) : Int) = (k : Int) + 1 := by omega
            rw [hcast] at o6
            have hoff : 0 + y = y := by omega
            rw [hoff] at q2 qf o6
            have HO := Lib.hid oE
            have HO6 := Lib.hid o6
            obtain ⟨x, hx'⟩ : ∃ x, x = M[y]'(by rw [hMl]; exact hy) := ⟨_, rfl⟩
            rw [← hx'] at q2 HG
            clear hx' oE o6 hoff hMl
            by_cases hz : x = 0
            · have ht : ((x : Int) == 0) = true := by rw [beq_iff_eq]; omega
              have HS : Hid (markS k M y = M.set y (k + 1)) := by show _ = _; unfold markS; rw [HG.out, if_pos hz]
              clear hz hcast
              go_wp2_with fail
              go_roundw
              case rel =>
                refine ⟨j + 1, by omega, by go_num, by rw [HM2.out, HS.out]; exact HO6.out.1, oR.kept HO6.out.2 ?_, oL.kept HO6.out.2 ?_, xw.cs (p := ⟨g, y, none⟩) HGB.out _⟩
                · intro p hp he
                  exact HAP2.out p _ hp rfl (Option.some.inj he)
                · intro p hp he
                  have h5 := (oL.blk p hp).1
                  have h6 := Option.some.inj he
                  have h7 : p.block = g := h6
                  omega
              case measure => simp [intOf]; omega
            · have ht : ((x : Int) == 0) = false := by rw [beq_eq_false_iff_ne]; omega
              have HS : Hid (markS k M y = M) := by show _ = _; unfold markS; rw [HG.out, if_neg hz]
              clear hz hcast
              go_wp2_with fail
              go_roundw
              case rel => exact ⟨j + 1, by omega, by go_num, by rw [HM2.out, HS.out]; exact HO.out, oR, oL, xw⟩
              case measure => simp [intOf]; omega
          · have HT : Hid (markL k (L.take j) (entK ds n R k) = entK ds n R (k + 1)) := by
              show _ = _
              rw [HSS.out, List.take_of_length_le (by omega)]
            go_wp2_with fail
            go_roundw
            case rel => exact ⟨k + 1, by omega, by go_num, by rw [← HT.out]; exact oE, oR, xw⟩
            case measure => simp [intOf]; omega
      · go_wp2_with fail
        go_ret
        have hkR : k = R.length := by omega
        rw [hkR, ← HRR.out] at oO
        refine ⟨some ⟨g, 0, none⟩, n, by rw [ent_len]; rfl, oO.mono HB.out, e1.tr xW⟩
  · have oO : Own EN 3 (w3.alloc (.cells (Array.replicate n (.int .i64 0)) 3)) W1.heap.size (some ⟨w3.heap.size, 0, none⟩) n (List.replicate n 0) := (ownRep w3 3 n (by omega)).mono x2.size
    have oS : Own EN 3 (w3.alloc (.cells (Array.replicate n (.int .i64 0)) 3)) W1.heap.size b1 d1 (rnd (gain ds n ks) s0) := (o3.mono (by simp)).al _
    have HAP : Hid (Apart (some ⟨w3.heap.size, 0, none⟩) b1) := Apart.symm (Apart.older (n := w3.heap.size) (fun p hp => (o3.blk p hp).2) (by intro p hp; cases hp; exact Nat.le_refl _))
    have xW := x2.al (.cells (Array.replicate n (.int .i64 0)) 3)
    obtain ⟨B, hB⟩ : ∃ B, B = W1.heap.size := ⟨_, rfl⟩
    have HB : Hid (w.heap.size ≤ B) := by show _ ≤ _; rw [hB]; exact e1.size
    rw [← hB] at oO oS
    obtain ⟨g, hg⟩ : ∃ g, g = w3.heap.size := ⟨_, rfl⟩
    have HGB : Hid (W1.heap.size ≤ g) := by show _ ≤ _; rw [hg]; exact x2.size
    rw [← hg] at oO HAP
    rw [← hg]
    obtain ⟨W2, hW2⟩ : ∃ W2, W2 = w3.alloc (.cells (Array.replicate n (.int .i64 0)) 3) := ⟨_, rfl⟩
    rw [← hW2] at oO oS xW
    rw [← hW2]
    clear hW2 hg hB x1 x2 y0 y1 y2 o3
    have hRl : (rnd (gain ds n ks) s0).length ≤ 64 := by have := HL.out; omega
    obtain ⟨R, hR⟩ : ∃ R, R = rnd (gain ds n ks) s0 := ⟨_, rfl⟩
    have HRR : Hid (ent ds n ks s0 = entK ds n R R.length) := by show _ = _; rw [hR]; rfl
    rw [← hR] at oS HLE hRl
    rw [← hR]
    clear hR
    go_wp2_with fail
    go_loopw [7] (fun i wr => ∃ k : Nat, k ≤ R.length ∧ i = .int .i64 (k : Int) ∧ Own EN 3 wr B (some ⟨g, 0, none⟩) n (entK ds n R k) ∧ Own EN 3 wr B b1 d1 R ∧ Ext W1 wr) (fun i _ => R.length - (intOf i).toNat)
    case atStart => exact ⟨0, by omega, rfl, oO, oS, xW⟩
    case round =>
      clear oO oS xW
      obtain ⟨k, hk, rfl, oO, oS, xW⟩ := hrel
      by_cases hlt : k < R.length
      · have hRk : R[k] ≤ 63 := HLE.out _ (List.getElem_mem hlt)
        obtain ⟨rb, ro, rfl, hrc⟩ := oS.rd.n (by omega)
        have q0 := hrc k hlt
        clear hrc
        obtain ⟨L, hL⟩ : ∃ L, L = rl ds n R[k] 0 := ⟨_, rfl⟩
        have hLn : ∀ y ∈ L, y < n := by rw [hL]; exact fun y hy => rl_lt hy
        have hL12 : L.length ≤ n := by
          rw [hL, ← mem_rN ds n R[k] 0 (by omega)]
          exact mem_len_le (rN_lt ds n R[k] 0) (by omega)
        have HSS : Hid (entK ds n R (k + 1) = markL k L (entK ds n R k)) := by show _ = _; rw [hL]; exact entK_succ _ _ _ _ hlt
        have HCR := Lib.hid fun w' (hx : Ext W1 w') => HRE.out R[k] w' a1 c1 c2 ks.length hRk (h1.ext (e1.tr hx))
        rw [← hL] at HCR
        clear hL
        have HLn := Lib.hid hLn
        clear hLn
        have hE : (entK ds n R k).length = n := entK_len _ _ _ _ (by omega)
        have HE := Lib.hid hE
        clear hE
        obtain ⟨z, hz⟩ : ∃ z, z = R[k] := ⟨_, rfl⟩
        rw [← hz] at q0 hRk HCR
        clear hz
        have y0 := xW.cl f0
        have y1 := xW.cl f1
        have y2 := xW.cl f2
        have k0 := cell_regrown q0
        go_wp2_with fail
        go_region_held3 (fun w' => w'.cell? ⟨w.heap.size, 0, none⟩ = some (.int .i64 (n : Int)) ∧ w'.cell? ⟨w.heap.size, 1, none⟩ = some (.slice a1 ds.length c1) ∧ w'.cell? ⟨w.heap.size, 2, none⟩ = some (.slice a2 ks.length c2) ∧ w'.cell? ⟨rb, ro + k, none⟩ = some (.int .i64 (z : Int))) (go_keep) (first
          | (refine step_call rfl _ _ rfl #[.agg #[.int .i64 (n : Int), .slice a1 ds.length c1, .slice a2 ks.length c2], .int .i64 0, .int .i64 (z : Int)] (by simp [go_sem]) entersL2Reach (HCR.out _ xW.dr) ?_; rintro e w4 ⟨lb, ld, rfl, oL, x4⟩; refine ⟨_, rfl, ?_⟩; have x5 : Ext wr w4 := Ext.tr (Ext.rf _).dr x4; have v0 := x5.cl y0; have v1 := x5.cl y1; have v2 := x5.cl y2; have v3 := x5.cl q0)
          | fail)
        have oO2 := oO.ext x5
        have oS2 := oS.ext x5
        have xW2 := xW.tr x5
        have hWz : W1.heap.size ≤ wr.heap.size := xW.size
        have oL2 : Own EN 3 w4 wr.heap.size lb ld L := oL
        have hgl : g < wr.heap.size := by
          obtain ⟨g', o', hb', _, hg', _⟩ := oO.nAt 0 (by rw [HE.out]; exact hx)
          cases hb'
          exact hg'
        have HAP2 : Hid (Apart (some ⟨rb, ro, none⟩) (some ⟨g, 0, none⟩)) := HAP.out.symm
        clear oO oS xW q0 y0 y1 y2 k0 x4 x5 oL v0 v1 v2 v3
        go_wp2_with fail
        go_loopw [9] (fun i wq => ∃ j : Nat, j ≤ L.length ∧ i = .int .i64 (j : Int) ∧ Own EN 3 wq B (some ⟨g, 0, none⟩) n (markL k (L.take j) (entK ds n R k)) ∧ Own EN 3 wq B (some ⟨rb, ro, none⟩) d1 R ∧ Own EN 3 wq wr.heap.size lb ld L ∧ Ext W1 wq) (fun i _ => L.length - (intOf i).toNat)
        case atStart => exact ⟨0, by omega, rfl, oO2, oS2, oL2, xW2⟩
        case round =>
          clear oO2 oS2 oL2 xW2
          obtain ⟨j, hj, rfl, oE, oR, oL, xw⟩ := hrel
          by_cases hjl : j < L.length
          · obtain ⟨b', off, rfl, hc⟩ := oL.rd.n (by omega)
            have q1 := hc j hjl
            clear hc
            have hy := HLn.out L[j] (List.getElem_mem hjl)
            have HM2 : Hid (markL k (L.take (j + 1)) (entK ds n R k) = markS k (markL k (L.take j) (entK ds n R k)) L[j]) := markL_take _ _ _ _ hjl
            have hMl : (markL k (L.take j) (entK ds n R k)).length = n := by rw [markL_len]; exact HE.out
            obtain ⟨M, hM⟩ : ∃ M, M = markL k (L.take j) (entK ds n R k) := ⟨_, rfl⟩
            rw [← hM] at HM2 hMl oE
            clear hM
            obtain ⟨y, hyy⟩ : ∃ y, y = L[j] := ⟨_, rfl⟩
            rw [← hyy] at q1 hy HM2
            clear hyy
            obtain ⟨g', o, hgo, _, _, q2, qf⟩ := oE.nAt y (by rw [hMl]; exact hy)
            cases hgo
            have HG : Hid (M.getD y 0 = M[y]'(by rw [hMl]; exact hy)) := by
              show _ = _
              rw [List.getD_eq_getElem?_getD, List.getElem?_eq_getElem (by rw [hMl]; exact hy)]
              rfl
            have o6 := oE.setN y (by rw [hMl]; exact hy) (k + 1)
            have hcast : ((k + 1 : Nat) : Int) = (k : Int) + 1 := by omega
            rw [hcast] at o6
            have hoff : 0 + y = y := by omega
            rw [hoff] at q2 qf o6
            have HO := Lib.hid oE
            have HO6 := Lib.hid o6
            obtain ⟨x, hx'⟩ : ∃ x, x = M[y]'(by rw [hMl]; exact hy) := ⟨_, rfl⟩
            rw [← hx'] at q2 HG
            clear hx' oE o6 hoff hMl
            by_cases hz : x = 0
            · have ht : ((x : Int) == 0) = true := by rw [beq_iff_eq]; omega
              have HS : Hid (markS k M y = M.set y (k + 1)) := by show _ = _; unfold markS; rw [HG.out, if_pos hz]
              clear hz hcast
              go_wp2_with fail
              go_roundw
              case rel =>
                refine ⟨j + 1, by omega, by go_num, by rw [HM2.out, HS.out]; exact HO6.out.1, oR.kept HO6.out.2 ?_, oL.kept HO6.out.2 ?_, xw.cs (p := ⟨g, y, none⟩) HGB.out _⟩
                · intro p hp he
                  exact HAP2.out p _ hp rfl (Option.some.inj he)
                · intro p hp he
                  have h5 := (oL.blk p hp).1
                  have h6 := Option.some.inj he
                  have h7 : p.block = g := h6
                  omega
              case measure => simp [intOf]; omega
            · have ht : ((x : Int) == 0) = false := by rw [beq_eq_false_iff_ne]; omega
              have HS : Hid (markS k M y = M) := by show _ = _; unfold markS; rw [HG.out, if_neg hz]
              clear hz hcast
              go_wp2_with fail
              go_roundw
              case rel => exact ⟨j + 1, by omega, by go_num, by rw [HM2.out, HS.out]; exact HO.out, oR, oL, xw⟩
              case measure => simp [intOf]; omega
          · have HT : Hid (markL k (L.take j) (entK ds n R k) = entK ds n R (k + 1)) := by
              show _ = _
              rw [HSS.out, List.take_of_length_le (by omega)]
            go_wp2_with fail
            go_roundw
            case rel => exact ⟨k + 1, by omega, by go_num, by rw [← HT.out]; exact oE, oR, xw⟩
            case measure => simp [intOf]; omega
      · go_wp2_with fail
        go_ret
        have hkR : k = R.length := by omega
        rw [hkR, ← HRR.out] at oO
        refine ⟨some ⟨g, 0, none⟩, n, by rw [ent_len]; rfl, oO.mono HB.out, e1.tr xW⟩

end Go.Proofs.Ytkdncpglgdiicaa
