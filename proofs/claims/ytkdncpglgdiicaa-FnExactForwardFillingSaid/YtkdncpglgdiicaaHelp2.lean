/- The laws' own helpers: equality of doors and mazes, copies. -/
import Derived.Test.YtkdncpglgdiicaaHelp1
import Derived.Test.YtkdncpglgdiicaaMake
import Derived.Deep.RegionHeld3
namespace Go.Proofs.Ytkdncpglgdiicaa
open Go Go.RowKit Go.Sort

theorem zeroEI : Zero Try.prog 3 EI 0 := Zero.of (z := .int .i64 0) (b := 8) (by kernel_rfl) rfl (by decide)
theorem zeroED : Zero Try.prog 140 ED (0, 0, 0) := Zero.of (z := .agg #[.int .i64 0, .int .i64 0, .int .i64 0]) (b := 24) (by kernel_rfl) rfl (by decide)

set_option maxHeartbeats 1000000 in
theorem eqIntA3S_any (l m : List Door) (a b : Option Addr) (c d : Nat) (w : World) (h1 : Rd ED w a l) (h2 : Rd ED w b m) (hl : l.length ≤ 1000000000000000) (hm : m.length ≤ 1000000000000000) :
    Calls Try.prog 70 #[.slice a l.length c, .slice b m.length d] w fun e w' => e = .returned (.bool (eqL l m)) ∧ Ext w w' := by
  by_cases hn : l.length = m.length
  · have t0 : ((l.length : Int) != (m.length : Int)) = false := by simp [hn]
    have HN := Lib.hid hn
    clear hn
    go_enter Try.func70, Try.ntmps70
    go_wp2_with fail
    clear t0
    go_loopw [5] (fun i wr => ∃ k : Nat, k ≤ l.length ∧ i = .int .i64 k ∧ l.take k = m.take k ∧ Ext w wr) (fun i _ => l.length - (intOf i).toNat)
    case atStart => exact ⟨0, by omega, rfl, rfl, Ext.rf _⟩
    case round =>
      obtain ⟨k, hk, rfl, hf, hx⟩ := hrel
      have HF := Lib.hid hf
      clear hf
      by_cases hlt : k < l.length
      · have hlt2 : k < m.length := by have := HN.out; omega
        obtain ⟨ba, oa, rfl, hc1⟩ := h1.d (by omega)
        obtain ⟨bb, ob, rfl, hc2⟩ := h2.d (by omega)
        have q1 := hx.cl (hc1 k hlt).1
        have q2 := hx.cl (hc1 k hlt).2.1
        have q3 := hx.cl (hc1 k hlt).2.2
        have p1 := hx.cl (hc2 k hlt2).1
        have p2 := hx.cl (hc2 k hlt2).2.1
        have p3 := hx.cl (hc2 k hlt2).2.2
        clear hc1 hc2
        have HS1 : Hid (l[k] = m[k] → l.take (k + 1) = m.take (k + 1)) := by
          intro he
          rw [List.take_succ_eq_append_getElem hlt, List.take_succ_eq_append_getElem hlt2, HF.out, he]
        have HS2 : Hid (l[k] ≠ m[k] → eqL l m = false) := fun he => eqL_ne hlt hlt2 he
        obtain ⟨x, hx'⟩ : ∃ x, x = l[k] := ⟨_, rfl⟩
        obtain ⟨y, hy'⟩ : ∃ y, y = m[k] := ⟨_, rfl⟩
        rw [← hx'] at q1 q2 q3 HS1 HS2
        rw [← hy'] at p1 p2 p3 HS1 HS2
        clear hx' hy'
        have HC := Lib.hid (eqIntA3_any x y)
        have HV : Hid (x = y ↔ decide (x = y) = true) := by simp [Hid]
        obtain ⟨v, hv⟩ : ∃ v, v = decide (x = y) := ⟨_, rfl⟩
        rw [← hv] at HC HV
        clear hv
        have k1 := cell_regrown q1
        have k2 := cell_regrown q2
        have k3 := cell_regrown q3
        have k4 := cell_regrown p1
        have k5 := cell_regrown p2
        have k6 := cell_regrown p3
        go_wp2_with fail
        refine quietExt (by kernel_rfl) (by kernel_rfl) ?_
        repeat (first | go_big_quiet_step ((go_at_call 131; exact callExt (HC.out _))) | quiet_step (fail))
        refine wpQuiet_nil ?_
        intro w4 hx4
        cases v
        · have HE := Lib.hid (HS2.out (fun e => by have := HV.out.1 e; cases this))
          go_wp2_with fail
          go_ret
          exact ⟨ret_bool HE.out.symm, hx.tr hx4⟩
        · have HE := Lib.hid (HS1.out (HV.out.2 rfl))
          go_wp2_with fail
          go_roundw
          case rel => exact ⟨k + 1, by omega, by go_num, HE.out, hx.tr hx4⟩
          case measure => simp [intOf]; omega
      · have HS : Hid (eqL l m = true) := eqL_take HN.out (by omega) HF.out
        go_wp2_with fail
        go_ret
        exact ⟨ret_bool HS.out.symm, hx⟩
  · have HS : Hid (eqL l m = false) := eqL_len hn
    have t0 : ((l.length : Int) != (m.length : Int)) = true := by rw [bne_iff_ne]; omega
    clear hn
    go_enter Try.func70, Try.ntmps70
    go_wp2_with fail
    go_ret
    exact ⟨ret_bool HS.out.symm, Ext.rf _⟩

/-- Two mazes that read the same. -/
theorem eqMaze_yes (m : Mz) (a1 a2 b1 b2 : Option Addr) (c1 c2 d1 d2 : Nat) (w : World) (h1 : Rd ED w a1 m.doors) (h2 : Rd EI w a2 m.keys) (g1 : Rd ED w b1 m.doors) (g2 : Rd EI w b2 m.keys) (hl : m.doors.length ≤ 1000000000000000) (hl2 : m.keys.length ≤ 1000000000000000) :
    Calls Try.prog 18 #[.agg #[.int .i64 m.size, .slice a1 m.doors.length c1, .slice a2 m.keys.length c2], .agg #[.int .i64 m.size, .slice b1 m.doors.length d1, .slice b2 m.keys.length d2]] w fun e w' => e = .returned (.bool true) ∧ Ext w w' := by
  have t0 : (m.size != m.size) = false := by simp
  have HA := Lib.hid fun w' (hx : Ext w w') => eqIntA3S_any m.doors m.doors a1 b1 c1 d1 w' (h1.ext hx) (g1.ext hx) hl hl
  have HB := Lib.hid fun w' (hx : Ext w w') => eqIntS_any m.keys m.keys a2 b2 c2 d2 w' (h2.ext hx) (g2.ext hx) (by omega) (by omega)
  have e1 : eqL m.doors m.doors = true := by simp [eqL]
  have e2 : eqL m.keys m.keys = true := by simp [eqL]
  rw [e1] at HA
  rw [e2] at HB
  clear e1 e2
  go_enter Try.func18, Try.ntmps18
  go_wp2_with fail
  have x0 : Ext w ((w.alloc (.cells #[.int .i64 m.size, .slice a1 m.doors.length c1, .slice a2 m.keys.length c2] 30)).alloc (.cells #[.int .i64 m.size, .slice b1 m.doors.length d1, .slice b2 m.keys.length d2] 30)) := ((Ext.rf _).al _).al _
  have hM : ((w.alloc (.cells #[.int .i64 m.size, .slice a1 m.doors.length c1, .slice a2 m.keys.length c2] 30)).alloc (.cells #[.int .i64 m.size, .slice b1 m.doors.length d1, .slice b2 m.keys.length d2] 30)).heap[w.heap.size]? = some (.cells #[.int .i64 m.size, .slice a1 m.doors.length c1, .slice a2 m.keys.length c2] 30 (0, 0)) := hp_old (hp_at rfl)
  have hN : ((w.alloc (.cells #[.int .i64 m.size, .slice a1 m.doors.length c1, .slice a2 m.keys.length c2] 30)).alloc (.cells #[.int .i64 m.size, .slice b1 m.doors.length d1, .slice b2 m.keys.length d2] 30)).heap[w.heap.size + 1]? = some (.cells #[.int .i64 m.size, .slice b1 m.doors.length d1, .slice b2 m.keys.length d2] 30 (0, 0)) := hp_at (by simp)
  refine (HA.out _ x0).mono ?_
  rintro e w1 ⟨rfl, x1⟩
  obtain ⟨p0, p1, p2, _, _, _⟩ := blk3 (x1.bk hM)
  obtain ⟨q0, q1, q2, _, _, _⟩ := blk3 (x1.bk hN)
  clear hM hN
  go_wp2_with fail
  refine (HB.out _ (x0.tr x1)).mono ?_
  rintro e w2 ⟨rfl, x2⟩
  go_wp2_with fail
  go_ret
  exact ⟨rfl, (x0.tr x1).tr x2⟩

theorem toIntA3_any (x y z : Int) (w : World) :
    Calls Try.prog 126 #[.agg #[.int .i64 x, .int .i64 y, .int .i64 z]] w fun e w' => e = .returned (.agg #[.int .i64 x, .int .i64 y, .int .i64 z]) ∧ Ext w w' := by
  go_enter Try.func126, Try.ntmps126
  go_wp2_with fail
  refine wp_loop_rounds 4 ?_
  iterate 4
    try simp only [rounds_succ]
    go_wp2_with fail
    try (go_region; go_wp2_with fail)
  refine bodyPost_ret (v := .agg #[.int .i64 x, .int .i64 y, .int .i64 z]) ?_ rfl ⟨rfl, (((Ext.rf _).al _).al _).al _⟩
  simp [results, Try.results126, go_sem]

set_option maxHeartbeats 1000000 in
theorem toIntS_any (l : List Int) (a : Option Addr) (c : Nat) (w : World) (h1 : Rd EI w a l) (hl : l.length ≤ 100000000) :
    Calls Try.prog 15 #[.slice a l.length c] w fun e w' => ∃ b d, e = .returned (.slice b l.length d) ∧ Own EI 3 w' w.heap.size b d l ∧ Ext w w' := by
  go_enter Try.func15, Try.ntmps15
  go_wp2_with (with_reducible refine wpList_mk elemI zeroEI rfl _ _ rfl l.length rfl rfl hl ?_; intro w1 o1 x1 z1)
  have HZ := Lib.hid z1
  clear z1
  go_loopw [4] (fun i wr => ∃ k : Nat, k ≤ l.length ∧ i = .int .i64 k ∧ Own EI 3 wr w.heap.size (some ⟨w.heap.size, 0, none⟩) l.length (l.take k ++ List.replicate (l.length - k) 0) ∧ Ext w wr) (fun i _ => l.length - (intOf i).toNat)
  case atStart => exact ⟨0, by omega, rfl, by simpa using o1, x1⟩
  case round =>
    clear o1 x1
    obtain ⟨k, hk, rfl, ho, hx⟩ := hrel
    by_cases hlt : k < l.length
    · obtain ⟨ba, oa, rfl, hc1⟩ := h1.i (by omega)
      have q1 := hx.cl (hc1 k hlt)
      clear hc1
      have hlen : (l.take k ++ List.replicate (l.length - k) 0).length = l.length := by simp; omega
      have HS : Hid ((l.take k ++ List.replicate (l.length - k) 0).set k l[k] = l.take (k + 1) ++ List.replicate (l.length - (k + 1)) 0) := by
        show _ = _
        rw [List.set_append_right _ _ (by simp; omega)]
        have e1 : k - (l.take k).length = 0 := by simp; omega
        have e2 : l.length - k = (l.length - (k + 1)) + 1 := by omega
        rw [e1, e2, List.replicate_succ, List.set_cons_zero, List.take_succ_eq_append_getElem hlt, List.append_assoc]
        rfl
      have o2 := ho.setk k (by rw [hlen]; exact hlt) 0 (by decide) l[k] (.int .i64 l[k]) rfl
      rcases ho.cell with h0 | ⟨g, o, hg, _, _, hf, hc⟩
      · rw [h0] at hlen; simp at hlen; omega
      cases hg
      have f1 := hf (0 + k * 1 + 0)
      have f2 := hc k (by rw [hlen]; exact hlt) 0 (by decide)
      have f3 : ∃ v, wr.cell? ⟨w.heap.size, 0 + k * 1 + 0, none⟩ = some v := ⟨_, f2.trans rfl⟩
      obtain ⟨v, f3⟩ := f3
      clear hf hc f2
      simp only [EI, Nat.mul_one, Nat.add_zero, Nat.zero_add] at o2 f1 f3
      have HO := Lib.hid o2
      obtain ⟨x, hx'⟩ : ∃ x, x = l[k] := ⟨_, rfl⟩
      rw [← hx'] at q1 HO HS
      clear hx' o2 hlen ho
      go_wp2_with fail
      go_roundw
      case rel => exact ⟨k + 1, by omega, by go_num, by rw [← HS.out]; exact HO.out.1, hx.cs (p := ⟨w.heap.size, k, none⟩) (Nat.le_refl _) _⟩
      case measure => simp [intOf]; omega
    · have HK : Hid (l.take k ++ List.replicate (l.length - k) 0 = l) := by
        show _ = _
        obtain rfl : k = l.length := by omega
        simp
      go_wp2_with fail
      go_ret
      exact ⟨_, _, rfl, by rw [HK.out] at ho; exact ho, hx⟩

/-- All three cells of an element stored. -/
theorem Own.setD {e : TypeId} {w : World} {base g off c : Nat} {l : List Door} (h : Own ED e w base (some ⟨g, off, none⟩) c l) (j : Nat) (hj : j < l.length) (x y z : Int) :
    Own ED e (((w.setCell ⟨g, off + j * 3, none⟩ (.int .i64 x)).setCell ⟨g, off + j * 3 + 1, none⟩ (.int .i64 y)).setCell ⟨g, off + j * 3 + 2, none⟩ (.int .i64 z)) base (some ⟨g, off, none⟩) c (l.set j (x, y, z)) := by
  have h1 := (h.setk j hj 0 (by decide) (x, l[j].2) (.int .i64 x) rfl).1
  have h2 := (h1.setk j (by simpa using hj) 1 (by decide) (x, y, l[j].2.2) (.int .i64 y) (by simp [ED])).1
  have h3 := (h2.setk j (by simpa using hj) 2 (by decide) (x, y, z) (.int .i64 z) (by simp [ED])).1
  simpa [ED] using h3

set_option maxRecDepth 100000 in
set_option maxHeartbeats 1000000 in
theorem toIntA3S_any (l : List Door) (a : Option Addr) (c : Nat) (w : World) (h1 : Rd ED w a l) (hl : l.length ≤ 100000000) :
    Calls Try.prog 63 #[.slice a l.length c] w fun e w' => ∃ b d, e = .returned (.slice b l.length d) ∧ Own ED 140 w' w.heap.size b d l ∧ Ext w w' := by
  go_enter Try.func63, Try.ntmps63
  go_wp2_with (with_reducible refine wpList_mk elemD zeroED rfl _ _ rfl l.length rfl rfl hl ?_; intro w1 o1 x1 z1)
  have HZ := Lib.hid z1
  clear z1
  go_loopw [4] (fun i wr => ∃ k : Nat, k ≤ l.length ∧ i = .int .i64 k ∧ Own ED 140 wr w.heap.size (some ⟨w.heap.size, 0, none⟩) l.length (l.take k ++ List.replicate (l.length - k) (0, 0, 0)) ∧ Ext w wr) (fun i _ => l.length - (intOf i).toNat)
  case atStart => exact ⟨0, by omega, rfl, by simpa using o1, x1⟩
  case round =>
    clear o1 x1
    obtain ⟨k, hk, rfl, ho, hx⟩ := hrel
    by_cases hlt : k < l.length
    · obtain ⟨ba, oa, rfl, hc1⟩ := h1.d (by omega)
      have q1 := hx.cl (hc1 k hlt).1
      have q2 := hx.cl (hc1 k hlt).2.1
      have q3 := hx.cl (hc1 k hlt).2.2
      clear hc1
      have hlen : (l.take k ++ List.replicate (l.length - k) (0, 0, 0)).length = l.length := by simp; omega
      have HS : Hid ((l.take k ++ List.replicate (l.length - k) (0, 0, 0)).set k l[k] = l.take (k + 1) ++ List.replicate (l.length - (k + 1)) (0, 0, 0)) := by
        show _ = _
        rw [List.set_append_right _ _ (by simp; omega)]
        have e1 : k - (l.take k).length = 0 := by simp; omega
        have e2 : l.length - k = (l.length - (k + 1)) + 1 := by omega
        rw [e1, e2, List.replicate_succ, List.set_cons_zero, List.take_succ_eq_append_getElem hlt, List.append_assoc]
        rfl
      obtain ⟨x, hx'⟩ : ∃ x, x = l[k] := ⟨_, rfl⟩
      rw [← hx'] at q1 q2 q3 HS
      clear hx'
      go_wp2_with fail
      refine (toIntA3_any x.1 x.2.1 x.2.2 _).mono ?_
      rintro e w2 ⟨rfl, x2⟩
      have ho2 := ho.ext x2
      have HO := Lib.hid ho2
      rcases ho2.cell with h0 | ⟨g, o, hg, _, _, hf, hc⟩
      · rw [h0] at hlen; simp at hlen; omega
      cases hg
      have f1 := hf (k * 3)
      have f2 := hf (k * 3 + 1)
      have f3 := hf (k * 3 + 2)
      have c1 : ∃ v, w2.cell? ⟨w.heap.size, k * 3, none⟩ = some v := ⟨_, by have := hc k (by rw [hlen]; exact hlt) 0 (by decide); simpa [ED] using this⟩
      have c2 : ∃ v, w2.cell? ⟨w.heap.size, k * 3 + 1, none⟩ = some v := ⟨_, by have := hc k (by rw [hlen]; exact hlt) 1 (by decide); simpa [ED] using this⟩
      have c3 : ∃ v, w2.cell? ⟨w.heap.size, k * 3 + 2, none⟩ = some v := ⟨_, by have := hc k (by rw [hlen]; exact hlt) 2 (by decide); simpa [ED] using this⟩
      obtain ⟨v1, c1⟩ := c1
      obtain ⟨v2, c2⟩ := c2
      obtain ⟨v3, c3⟩ := c3
      have hlen2 : k < (l.take k ++ List.replicate (l.length - k) (0, 0, 0)).length := by rw [hlen]; exact hlt
      clear hf hc hlen q1 q2 q3 ho ho2
      have HLN := Lib.hid hlen2
      clear hlen2
      go_wp2_with fail
      go_roundw
      case rel => exact ⟨k + 1, by omega, by go_num, by rw [← HS.out]; have h5 := HO.out.setD k HLN.out x.1 x.2.1 x.2.2; simpa using h5, (((hx.tr x2).cs (p := ⟨w.heap.size, _, none⟩) (Nat.le_refl _) _).cs (p := ⟨w.heap.size, _, none⟩) (Nat.le_refl _) _).cs (p := ⟨w.heap.size, _, none⟩) (Nat.le_refl _) _⟩
      case measure => simp [intOf]; omega
    · have HK : Hid (l.take k ++ List.replicate (l.length - k) (0, 0, 0) = l) := by
        show _ = _
        obtain rfl : k = l.length := by omega
        simp
      go_wp2_with fail
      go_ret
      exact ⟨_, _, rfl, by rw [HK.out] at ho; exact ho, hx⟩

set_option maxRecDepth 100000 in
set_option maxHeartbeats 1000000 in
theorem toMaze_any (m : Mz) (a1 a2 : Option Addr) (c1 c2 : Nat) (w : World) (h1 : Rd ED w a1 m.doors) (h2 : Rd EI w a2 m.keys) (hl : m.doors.length ≤ 100000000) (hl2 : m.keys.length ≤ 100000000) :
    Calls Try.prog 14 #[.agg #[.int .i64 m.size, .slice a1 m.doors.length c1, .slice a2 m.keys.length c2]] w fun e w' => ∃ b1 d1 b2 d2, e = .returned (.agg #[.int .i64 m.size, .slice b1 m.doors.length d1, .slice b2 m.keys.length d2]) ∧ Own ED 140 w' w.heap.size b1 d1 m.doors ∧ Own EI 3 w' w.heap.size b2 d2 m.keys ∧ Apart b1 b2 ∧ Ext w w' := by
  obtain ⟨sz, ds, ks⟩ := m
  simp only at h1 h2 hl hl2
  show Calls _ _ #[.agg #[.int .i64 sz, .slice a1 ds.length c1, .slice a2 ks.length c2]] _ fun e w' => ∃ b1 d1 b2 d2, e = .returned (.agg #[.int .i64 sz, .slice b1 ds.length d1, .slice b2 ks.length d2]) ∧ Own ED 140 w' w.heap.size b1 d1 ds ∧ Own EI 3 w' w.heap.size b2 d2 ks ∧ Apart b1 b2 ∧ Ext w w'
  go_enter Try.func14, Try.ntmps14
  go_wp2_with fail
  have x0 : Ext w (((w.alloc (.cells #[.int .i64 sz, .slice a1 ds.length c1, .slice a2 ks.length c2] 25)).alloc (.cells #[.int .i64 0, .slice none 0 0, .slice none 0 0] 30)).alloc (.cells #[.int .i64 sz, .slice none 0 0, .slice none 0 0] 30)) := (((Ext.rf _).al _).al _).al _
  refine (toIntA3S_any ds a1 c1 _ (h1.ext x0) hl).mono ?_
  rintro e w1 ⟨b1, d1, rfl, o1, x1⟩
  have hA : w1.heap[w.heap.size]? = some (.cells #[.int .i64 sz, .slice a1 ds.length c1, .slice a2 ks.length c2] 25 (0, 0)) := x1.bk (hp_old (hp_old (hp_at rfl)))
  have hR : w1.heap[w.heap.size + 1]? = some (.cells #[.int .i64 0, .slice none 0 0, .slice none 0 0] 30 (0, 0)) := x1.bk (hp_old (hp_at (by simp)))
  have hO : w1.heap[w.heap.size + 1 + 1]? = some (.cells #[.int .i64 sz, .slice none 0 0, .slice none 0 0] 30 (0, 0)) := x1.bk (hp_at (by simp))
  have hz : w.heap.size + 3 ≤ w1.heap.size := by have h5 := x1.size; simp at h5; omega
  have o1 := o1.mono (by simp : w.heap.size + 3 ≤ _)
  have xw := x0.tr x1
  clear x0 x1
  obtain ⟨_, _, p2, _, _, _⟩ := blk3 hA
  obtain ⟨q0, q1, q2, g0, g1, g2⟩ := blk3 hO
  go_wp2_with fail
  obtain ⟨W1, hW1⟩ : ∃ W1, W1 = w1.setCell ⟨w.heap.size + 1 + 1, 1, none⟩ (.slice b1 ds.length d1) := ⟨_, rfl⟩
  rw [← hW1]
  have hA : W1.heap[w.heap.size]? = some (.cells #[.int .i64 sz, .slice a1 ds.length c1, .slice a2 ks.length c2] 25 (0, 0)) := by rw [hW1]; exact heapCs hA (by show w.heap.size ≠ w.heap.size + 1 + 1; omega)
  have hR : W1.heap[w.heap.size + 1]? = some (.cells #[.int .i64 0, .slice none 0 0, .slice none 0 0] 30 (0, 0)) := by rw [hW1]; exact heapCs hR (by show w.heap.size + 1 ≠ w.heap.size + 1 + 1; omega)
  have hO : W1.heap[w.heap.size + 1 + 1]? = some (.cells #[.int .i64 sz, .slice b1 ds.length d1, .slice none 0 0] 30 (0, 0)) := by rw [hW1]; have h5 := heap_setCell_same w1 (w.heap.size + 1 + 1) 1 _ _ (.slice b1 ds.length d1) hO; simpa using h5
  have xw : Ext w W1 := by rw [hW1]; exact xw.cs (by show w.heap.size ≤ w.heap.size + 1 + 1; omega) _
  have o1 : Own ED 140 W1 (w.heap.size + 3) b1 d1 ds := by rw [hW1]; exact o1.cs (by show w.heap.size + 1 + 1 < w.heap.size + 3; omega) _
  have hz : w.heap.size + 3 ≤ W1.heap.size := by rw [hW1]; simpa using hz
  clear hW1 p2 q0 q1 q2 g0 g1 g2
  refine (toIntS_any ks a2 c2 _ (h2.ext xw) hl2).mono ?_
  rintro e w2 ⟨b2, d2, rfl, o2, x2⟩
  have hap : Apart b1 b2 := Apart.older (fun p hp => (o1.blk p hp).2) (fun p hp => (o2.blk p hp).1)
  have hA := x2.bk hA
  have hR := x2.bk hR
  have hO := x2.bk hO
  have o1 := o1.ext x2
  have o2 := o2.mono hz
  have xw := xw.tr x2
  clear x2 hz hA
  obtain ⟨r0, r1, r2, s0, s1, s2⟩ := blk3 hR
  obtain ⟨q0, q1, q2, g0, g1, g2⟩ := blk3 hO
  go_wp2_with fail
  refine bodyPost_ret (v := .agg #[.int .i64 sz, .slice b1 ds.length d1, .slice b2 ks.length d2]) ?_ rfl ?_
  · simp [results, Try.results14, go_sem, r0, r1, r2]
  · refine ⟨b1, d1, b2, d2, rfl, ((((o1.cs ?_ _).cs ?_ _).cs ?_ _).cs ?_ _).mono (by omega), ((((o2.cs ?_ _).cs ?_ _).cs ?_ _).cs ?_ _).mono (by omega), hap, ((((xw.cs ?_ _).cs ?_ _).cs ?_ _).cs ?_ _)⟩
    all_goals first
      | (show w.heap.size + 1 < w.heap.size + 3; omega)
      | (show w.heap.size + 1 + 1 < w.heap.size + 3; omega)
      | (show w.heap.size ≤ w.heap.size + 1; omega)
      | (show w.heap.size ≤ w.heap.size + 1 + 1; omega)

end Go.Proofs.Ytkdncpglgdiicaa
