/- The laws' own helpers: marks, held marks. -/
import Derived.Test.YtkdncpglgdiicaaHelp2
namespace Go.Proofs.Ytkdncpglgdiicaa
open Go Go.RowKit Go.Sort

theorem elemP : Elem Try.prog 27 95 EP := Elem.of Try.underlying27 (z := .agg #[.int .i64 0, .int .i64 0]) (b := 16) (by kernel_rfl) rfl (by decide) (by decide)

/-- Marks from k on. -/
def mkI (k : Int) (n : Nat) : List Int := (List.range n).map fun i : Nat => k + (i : Int)
def mkD (k : Int) (n : Nat) : List Door := (List.range n).map fun i : Nat => (k + 3 * (i : Int), k + 3 * (i : Int) + 1, k + 3 * (i : Int) + 1 + 1)
def mkP (k : Int) (n : Nat) : List (Int × Int) := (List.range n).map fun i : Nat => (k + 2 * (i : Int), k + 2 * (i : Int) + 1)
theorem mkI_len (k : Int) (n : Nat) : (mkI k n).length = n := by simp [mkI]
theorem mkD_len (k : Int) (n : Nat) : (mkD k n).length = n := by simp [mkD]
theorem mkP_len (k : Int) (n : Nat) : (mkP k n).length = n := by simp [mkP]
theorem mkI_succ (k : Int) (n : Nat) : mkI k (n + 1) = mkI k n ++ [k + (n : Int)] := by simp [mkI, List.range_succ]
theorem mkD_succ (k : Int) (n : Nat) : mkD k (n + 1) = mkD k n ++ [(k + 3 * (n : Int), k + 3 * (n : Int) + 1, k + 3 * (n : Int) + 1 + 1)] := by simp [mkD, List.range_succ]
theorem mkP_succ (k : Int) (n : Nat) : mkP k (n + 1) = mkP k n ++ [(k + 2 * (n : Int), k + 2 * (n : Int) + 1)] := by simp [mkP, List.range_succ]

theorem set_mark {α : Type} (m l : List α) (j : Nat) (x : α) (hm : m.length = j) (hj : j < l.length) : (m ++ l.drop j).set j x = (m ++ [x]) ++ l.drop (j + 1) := by
  rw [List.set_append_right _ _ (by omega), hm, Nat.sub_self, List.drop_eq_getElem_cons hj, List.set_cons_zero, List.append_assoc]
  rfl

/-- The slice's own block alone has turned. -/
def Turned (a : Option Addr) (w w' : World) : Prop := w.heap.size = w'.heap.size ∧ ∀ lo hi, In a lo hi → Mid lo hi w w'

set_option maxHeartbeats 1000000 in
theorem markIntS_any (l : List Int) (k : Int) (a : Option Addr) (c base : Nat) (w : World) (h1 : Own EI 3 w base a c l) (hl : l.length ≤ 1000000000) (hk0 : 0 ≤ k) (hk1 : k ≤ 1000000000000) :
    Calls Try.prog 21 #[.slice a l.length c, .int .i64 k] w fun e w' => e = .returned (.int .i64 (k + l.length)) ∧ Own EI 3 w' base a c (mkI k l.length) ∧ Turned a w w' := by
  go_enter Try.func21, Try.ntmps21
  go_wp2_with fail
  go_loopw [5, 1] (fun i kk wr => ∃ j : Nat, j ≤ l.length ∧ i = .int .i64 j ∧ kk = .int .i64 (k + (j : Int)) ∧ Own EI 3 wr base a c (mkI k j ++ l.drop j) ∧ Turned a w wr) (fun i _ _ => l.length - (intOf i).toNat)
  case atStart => exact ⟨0, by omega, rfl, by simp, by simpa [mkI] using h1, rfl, fun lo hi _ => Mid.rf _ _ _⟩
  case round =>
    clear h1
    obtain ⟨j, hj, rfl, rfl, ho, ht⟩ := hrel
    by_cases hlt : j < l.length
    · have hlen : (mkI k j ++ l.drop j).length = l.length := by simp [mkI_len]; omega
      have HS : Hid ((mkI k j ++ l.drop j).set j (k + (j : Int)) = mkI k (j + 1) ++ l.drop (j + 1)) := by
        show _ = _
        rw [set_mark _ _ _ _ (mkI_len _ _) hlt, mkI_succ]
      rcases ho.cell with h0 | ⟨g, o, rfl, _, _, hf, hc⟩
      · rw [h0] at hlen; simp at hlen; omega
      have HO := Lib.hid (ho.setk j (by rw [hlen]; exact hlt) 0 (by decide) (k + (j : Int)) (.int .i64 (k + (j : Int))) rfl)
      have f1 := hf (o + j)
      have f2 : ∃ v, wr.cell? ⟨g, o + j, none⟩ = some v := ⟨_, by have h5 := hc j (by rw [hlen]; exact hlt) 0 (by decide); simpa [EI] using h5⟩
      obtain ⟨v, f2⟩ := f2
      have HT := Lib.hid ht
      clear hf hc hlen ho ht
      go_wp2_with fail
      go_roundw
      case rel =>
        refine ⟨j + 1, by omega, by go_num, by go_num, by rw [← HS.out]; simpa [EI] using HO.out.1, by simpa using HT.out.1, fun lo hi h5 => ?_⟩
        have h6 : lo ≤ g ∧ g < hi := h5 _ rfl
        have h7 := HT.out.2 lo hi h5
        exact h7.cs (p := ⟨g, o + j, none⟩) h6.1 h6.2 _
      case measure => simp [intOf]; omega
    · have HK : Hid (mkI k j ++ l.drop j = mkI k l.length) := by
        show _ = _
        obtain rfl : j = l.length := by omega
        simp
      have hjl : (j : Int) = (l.length : Int) := by omega
      go_wp2_with fail
      go_ret
      exact ⟨ret_int (by omega), by rw [← HK.out]; exact ho, ht⟩

set_option maxRecDepth 100000 in
set_option maxHeartbeats 1000000 in
theorem markIntA3S_any (l : List Door) (k : Int) (a : Option Addr) (c base : Nat) (w : World) (h1 : Own ED 140 w base a c l) (hl : l.length ≤ 1000000000) (hk0 : 0 ≤ k) (hk1 : k ≤ 1000000000000) :
    Calls Try.prog 71 #[.slice a l.length c, .int .i64 k] w fun e w' => e = .returned (.int .i64 (k + 3 * l.length)) ∧ Own ED 140 w' base a c (mkD k l.length) ∧ Turned a w w' := by
  go_enter Try.func71, Try.ntmps71
  go_wp2_with fail
  go_loopw [5, 1] (fun i kk wr => ∃ j : Nat, j ≤ l.length ∧ i = .int .i64 j ∧ kk = .int .i64 (k + 3 * (j : Int)) ∧ Own ED 140 wr base a c (mkD k j ++ l.drop j) ∧ Turned a w wr) (fun i _ _ => l.length - (intOf i).toNat)
  case atStart => exact ⟨0, by omega, rfl, by simp, by simpa [mkD] using h1, rfl, fun lo hi _ => Mid.rf _ _ _⟩
  case round =>
    clear h1
    obtain ⟨j, hj, rfl, rfl, ho, ht⟩ := hrel
    by_cases hlt : j < l.length
    · have hlen : (mkD k j ++ l.drop j).length = l.length := by simp [mkD_len]; omega
      have HS : Hid ((mkD k j ++ l.drop j).set j (k + 3 * (j : Int), k + 3 * (j : Int) + 1, k + 3 * (j : Int) + 1 + 1) = mkD k (j + 1) ++ l.drop (j + 1)) := by
        show _ = _
        rw [set_mark _ _ _ _ (mkD_len _ _) hlt, mkD_succ]
      rcases ho.cell with h0 | ⟨g, o, rfl, _, _, hf, hc⟩
      · rw [h0] at hlen; simp at hlen; omega
      have HO := Lib.hid (ho.setD j (by rw [hlen]; exact hlt) (k + 3 * (j : Int)) (k + 3 * (j : Int) + 1) (k + 3 * (j : Int) + 1 + 1))
      have f1 := hf (o + j * 3)
      have f2 := hf (o + j * 3 + 1)
      have f3 := hf (o + j * 3 + 2)
      have c1 : ∃ v, wr.cell? ⟨g, o + j * 3, none⟩ = some v := ⟨_, by have h5 := hc j (by rw [hlen]; exact hlt) 0 (by decide); simpa [ED] using h5⟩
      have c2 : ∃ v, wr.cell? ⟨g, o + j * 3 + 1, none⟩ = some v := ⟨_, by have h5 := hc j (by rw [hlen]; exact hlt) 1 (by decide); simpa [ED] using h5⟩
      have c3 : ∃ v, wr.cell? ⟨g, o + j * 3 + 2, none⟩ = some v := ⟨_, by have h5 := hc j (by rw [hlen]; exact hlt) 2 (by decide); simpa [ED] using h5⟩
      obtain ⟨v1, c1⟩ := c1
      obtain ⟨v2, c2⟩ := c2
      obtain ⟨v3, c3⟩ := c3
      have HT := Lib.hid ht
      clear hf hc hlen ho ht
      go_wp2_with fail
      refine wp_loop_rounds 4 ?_
      iterate 4
        try simp only [rounds_succ]
        go_wp2_with fail
      go_roundw
      case rel =>
        refine ⟨j + 1, by omega, by go_num, by go_num, by rw [← HS.out]; exact HO.out, by simpa using HT.out.1, fun lo hi h5 => ?_⟩
        have h6 : lo ≤ g ∧ g < hi := h5 _ rfl
        have h7 := HT.out.2 lo hi h5
        exact ((h7.cs (p := ⟨g, o + j * 3, none⟩) h6.1 h6.2 _).cs (p := ⟨g, o + j * 3 + 1, none⟩) h6.1 h6.2 _).cs (p := ⟨g, o + j * 3 + 2, none⟩) h6.1 h6.2 _
      case measure => simp [intOf]; omega
    · have HK : Hid (mkD k j ++ l.drop j = mkD k l.length) := by
        show _ = _
        obtain rfl : j = l.length := by omega
        simp
      have hjl : (j : Int) = (l.length : Int) := by omega
      go_wp2_with fail
      go_ret
      exact ⟨ret_int (by omega), by rw [← HK.out]; exact ho, ht⟩

theorem heldIntS_any (n : Nat) (k : Int) (a : Option Addr) (c : Nat) (w : World) (h1 : Rd EI w a (mkI k n)) (hl : n ≤ 1000000000) (hk0 : 0 ≤ k) (hk1 : k ≤ 1000000000000) :
    Calls Try.prog 35 #[.slice a n c, .int .i64 k] w fun e w' => e = .returned (.int .i64 (k + n)) ∧ w = w' := by
  go_enter Try.func35, Try.ntmps35
  go_wp2_with fail
  go_loop [5, 1] (fun i kk => ∃ j : Nat, j ≤ n ∧ i = .int .i64 j ∧ kk = .int .i64 (k + (j : Int))) (fun i _ => n - (intOf i).toNat)
  case atStart => exact ⟨0, by omega, rfl, by simp⟩
  case round =>
    obtain ⟨j, hj, rfl, rfl⟩ := hrel
    by_cases hlt : j < n
    · obtain ⟨b, o, rfl, hc⟩ := h1.i (by rw [mkI_len]; omega)
      have q1 := hc j (by rw [mkI_len]; exact hlt)
      have e1 : (mkI k n)[j]'(by rw [mkI_len]; exact hlt) = k + (j : Int) := by simp [mkI]
      rw [e1] at q1
      clear hc e1
      go_wp2_with fail
      go_round
      case rel => exact ⟨j + 1, by omega, by go_num, by go_num⟩
      case measure => simp [intOf]; omega
    · have hjl : (j : Int) = (n : Int) := by omega
      go_wp2_with fail
      go_ret
      exact ⟨ret_int (by omega), rfl⟩

set_option maxRecDepth 100000 in
set_option maxHeartbeats 1000000 in
theorem eqIntA2_any (d e : Int × Int) (w : World) :
    Calls Try.prog 69 #[.agg #[.int .i64 d.1, .int .i64 d.2], .agg #[.int .i64 e.1, .int .i64 e.2]] w fun en w' => en = .returned (.bool (decide (d = e))) ∧ Ext w w' := by
  have H : ∀ x0 x1 y0 y1 : Int, ∀ b : Bool, b = ((x0 == y0) && (x1 == y1)) → Calls Try.prog 69 #[.agg #[.int .i64 x0, .int .i64 x1], .agg #[.int .i64 y0, .int .i64 y1]] w fun en w' => en = .returned (.bool b) ∧ Ext w w' := by
    intro x0 x1 y0 y1 b hb
    have HB := Lib.hid hb
    clear hb
    cases h1 : (x0 != y0)
    · cases h2 : (x1 != y1)
      all_goals
        have HV : Hid (b = ((x0 == y0) && (x1 == y1))) := HB.out
        go_enter Try.func69, Try.ntmps69
        go_wp2_with fail
        refine wp_loop_rounds 3 ?_
        iterate 3
          try simp only [rounds_succ]
          go_wp2_with fail
          try (go_quiet (fail); go_wp2_with fail)
          try (go_quiet (fail); go_wp2_with fail)
        go_ret
        refine ⟨ret_bool ?_, ?_⟩
        · rw [HV.out]
          simp only [bne_eq_false_iff_eq, bne_iff_ne, ne_eq] at h1 h2
          simp [h1, h2]
        · repeat (first | apply Ext.drN | apply Ext.dr | apply Ext.al)
          exact Ext.rf _
    · have HV : Hid (b = ((x0 == y0) && (x1 == y1))) := HB.out
      go_enter Try.func69, Try.ntmps69
      go_wp2_with fail
      refine wp_loop_rounds 3 ?_
      iterate 3
        try simp only [rounds_succ]
        go_wp2_with fail
        try (go_quiet (fail); go_wp2_with fail)
        try (go_quiet (fail); go_wp2_with fail)
      go_ret
      refine ⟨ret_bool ?_, ?_⟩
      · rw [HV.out]
        simp only [bne_iff_ne, ne_eq] at h1
        simp [h1]
      · repeat (first | apply Ext.drN | apply Ext.dr | apply Ext.al)
        exact Ext.rf _
  refine H _ _ _ _ _ ?_
  obtain ⟨d0, d1⟩ := d
  obtain ⟨e0, e1⟩ := e
  rw [Bool.eq_iff_iff]
  simp

set_option maxHeartbeats 1000000 in
theorem eqIntA2S_any (l m : List (Int × Int)) (a b : Option Addr) (c d : Nat) (w : World) (h1 : Rd EP w a l) (h2 : Rd EP w b m) (hl : l.length ≤ 1000000000000000) (hm : m.length ≤ 1000000000000000) :
    Calls Try.prog 17 #[.slice a l.length c, .slice b m.length d] w fun e w' => e = .returned (.bool (eqL l m)) ∧ Ext w w' := by
  by_cases hn : l.length = m.length
  · have t0 : ((l.length : Int) != (m.length : Int)) = false := by simp [hn]
    have HN := Lib.hid hn
    clear hn
    go_enter Try.func17, Try.ntmps17
    go_wp2_with fail
    clear t0
    go_loopw [5] (fun i wr => ∃ k : Nat, k ≤ l.length ∧ i = .int .i64 k ∧ l.take k = m.take k ∧ Ext w wr) (fun i _ => l.length - (intOf i).toNat)
    case atStart => exact ⟨0, by omega, rfl, rfl, Ext.rf _⟩
    case round =>
      obtain ⟨k, hk, rfl, hf, hx⟩ := hrel
      have HF := Lib.hid hf
      clear hf
      by_cases hlt : k < l.length
      · have hlt2 : k < m.length := by have := HN.out; omega
        obtain ⟨ba, oa, rfl, hc1⟩ := h1.p (by omega)
        obtain ⟨bb, ob, rfl, hc2⟩ := h2.p (by omega)
        have q1 := hx.cl (hc1 k hlt).1
        have q2 := hx.cl (hc1 k hlt).2
        have p1 := hx.cl (hc2 k hlt2).1
        have p2 := hx.cl (hc2 k hlt2).2
        clear hc1 hc2
        have HS1 : Hid (l[k] = m[k] → l.take (k + 1) = m.take (k + 1)) := by
          intro he
          rw [List.take_succ_eq_append_getElem hlt, List.take_succ_eq_append_getElem hlt2, HF.out, he]
        have HS2 : Hid (l[k] ≠ m[k] → eqL l m = false) := fun he => eqL_ne hlt hlt2 he
        obtain ⟨x, hx'⟩ : ∃ x, x = l[k] := ⟨_, rfl⟩
        obtain ⟨y, hy'⟩ : ∃ y, y = m[k] := ⟨_, rfl⟩
        rw [← hx'] at q1 q2 HS1 HS2
        rw [← hy'] at p1 p2 HS1 HS2
        clear hx' hy'
        have HC := Lib.hid (eqIntA2_any x y)
        have HV : Hid (x = y ↔ decide (x = y) = true) := by simp [Hid]
        obtain ⟨v, hv⟩ : ∃ v, v = decide (x = y) := ⟨_, rfl⟩
        rw [← hv] at HC HV
        clear hv
        have k1 := cell_regrown q1
        have k2 := cell_regrown q2
        have k4 := cell_regrown p1
        have k5 := cell_regrown p2
        go_wp2_with fail
        refine quietExt (by kernel_rfl) (by kernel_rfl) ?_
        repeat (first | go_big_quiet_step ((go_at_call 69; exact callExt (HC.out _))) | quiet_step (fail))
        refine wpQuiet_nil ?_
        intro w4 hx4
        cases v
        · have HE := Lib.hid (HS2.out (fun e => by have := HV.out.1 e; cases this))
          go_wp2_with fail
          go_ret
          exact ⟨ret_bool HE.out.symm, hx.tr hx4⟩
        · have HE := Lib.hid (HS1.out (HV.out.2 rfl))
          go_wp2_with fail
          go_roundw
          case rel => exact ⟨k + 1, by omega, by go_num, HE.out, hx.tr hx4⟩
          case measure => simp [intOf]; omega
      · have HS : Hid (eqL l m = true) := eqL_take HN.out (by omega) HF.out
        go_wp2_with fail
        go_ret
        exact ⟨ret_bool HS.out.symm, hx⟩
  · have HS : Hid (eqL l m = false) := eqL_len hn
    have t0 : ((l.length : Int) != (m.length : Int)) = true := by rw [bne_iff_ne]; omega
    clear hn
    go_enter Try.func17, Try.ntmps17
    go_wp2_with fail
    go_ret
    exact ⟨ret_bool HS.out.symm, Ext.rf _⟩

/-- Both cells of an element stored. -/
theorem Own.setP {e : TypeId} {w : World} {base g off c : Nat} {l : List (Int × Int)} (h : Own EP e w base (some ⟨g, off, none⟩) c l) (j : Nat) (hj : j < l.length) (x y : Int) :
    Own EP e ((w.setCell ⟨g, off + j * 2, none⟩ (.int .i64 x)).setCell ⟨g, off + j * 2 + 1, none⟩ (.int .i64 y)) base (some ⟨g, off, none⟩) c (l.set j (x, y)) := by
  have h1 := (h.setk j hj 0 (by decide) (x, l[j].2) (.int .i64 x) rfl).1
  have h2 := (h1.setk j (by simpa using hj) 1 (by decide) (x, y) (.int .i64 y) (by simp [EP])).1
  simpa [EP] using h2

set_option maxRecDepth 100000 in
set_option maxHeartbeats 1000000 in
theorem markIntA2S_any (l : List (Int × Int)) (k : Int) (a : Option Addr) (c base : Nat) (w : World) (h1 : Own EP 95 w base a c l) (hl : l.length ≤ 1000000000) (hk0 : 0 ≤ k) (hk1 : k ≤ 1000000000000) :
    Calls Try.prog 22 #[.slice a l.length c, .int .i64 k] w fun e w' => e = .returned (.int .i64 (k + 2 * l.length)) ∧ Own EP 95 w' base a c (mkP k l.length) ∧ Turned a w w' := by
  go_enter Try.func22, Try.ntmps22
  go_wp2_with fail
  go_loopw [5, 1] (fun i kk wr => ∃ j : Nat, j ≤ l.length ∧ i = .int .i64 j ∧ kk = .int .i64 (k + 2 * (j : Int)) ∧ Own EP 95 wr base a c (mkP k j ++ l.drop j) ∧ Turned a w wr) (fun i _ _ => l.length - (intOf i).toNat)
  case atStart => exact ⟨0, by omega, rfl, by simp, by simpa [mkP] using h1, rfl, fun lo hi _ => Mid.rf _ _ _⟩
  case round =>
    clear h1
    obtain ⟨j, hj, rfl, rfl, ho, ht⟩ := hrel
    by_cases hlt : j < l.length
    · have hlen : (mkP k j ++ l.drop j).length = l.length := by simp [mkP_len]; omega
      have HS : Hid ((mkP k j ++ l.drop j).set j (k + 2 * (j : Int), k + 2 * (j : Int) + 1) = mkP k (j + 1) ++ l.drop (j + 1)) := by
        show _ = _
        rw [set_mark _ _ _ _ (mkP_len _ _) hlt, mkP_succ]
      rcases ho.cell with h0 | ⟨g, o, rfl, _, _, hf, hc⟩
      · rw [h0] at hlen; simp at hlen; omega
      have HO := Lib.hid (ho.setP j (by rw [hlen]; exact hlt) (k + 2 * (j : Int)) (k + 2 * (j : Int) + 1))
      have f1 := hf (o + j * 2)
      have f2 := hf (o + j * 2 + 1)
      have c1 : ∃ v, wr.cell? ⟨g, o + j * 2, none⟩ = some v := ⟨_, by have h5 := hc j (by rw [hlen]; exact hlt) 0 (by decide); simpa [EP] using h5⟩
      have c2 : ∃ v, wr.cell? ⟨g, o + j * 2 + 1, none⟩ = some v := ⟨_, by have h5 := hc j (by rw [hlen]; exact hlt) 1 (by decide); simpa [EP] using h5⟩
      obtain ⟨v1, c1⟩ := c1
      obtain ⟨v2, c2⟩ := c2
      have HT := Lib.hid ht
      clear hf hc hlen ho ht
      go_wp2_with fail
      refine wp_loop_rounds 3 ?_
      iterate 3
        try simp only [rounds_succ]
        go_wp2_with fail
      go_roundw
      case rel =>
        refine ⟨j + 1, by omega, by go_num, by go_num, by rw [← HS.out]; exact HO.out, by simpa using HT.out.1, fun lo hi h5 => ?_⟩
        have h6 : lo ≤ g ∧ g < hi := h5 _ rfl
        have h7 := HT.out.2 lo hi h5
        exact (h7.cs (p := ⟨g, o + j * 2, none⟩) h6.1 h6.2 _).cs (p := ⟨g, o + j * 2 + 1, none⟩) h6.1 h6.2 _
      case measure => simp [intOf]; omega
    · have HK : Hid (mkP k j ++ l.drop j = mkP k l.length) := by
        show _ = _
        obtain rfl : j = l.length := by omega
        simp
      have hjl : (j : Int) = (l.length : Int) := by omega
      go_wp2_with fail
      go_ret
      exact ⟨ret_int (by omega), by rw [← HK.out]; exact ho, ht⟩

set_option maxRecDepth 100000 in
theorem heldIntA2S_any (n : Nat) (k : Int) (a : Option Addr) (c : Nat) (w : World) (h1 : Rd EP w a (mkP k n)) (hl : n ≤ 1000000000) (hk0 : 0 ≤ k) (hk1 : k ≤ 1000000000000) :
    Calls Try.prog 23 #[.slice a n c, .int .i64 k] w fun e w' => e = .returned (.int .i64 (k + 2 * n)) ∧ w = w' := by
  go_enter Try.func23, Try.ntmps23
  go_wp2_with fail
  go_loop [5, 1] (fun i kk => ∃ j : Nat, j ≤ n ∧ i = .int .i64 j ∧ kk = .int .i64 (k + 2 * (j : Int))) (fun i _ => n - (intOf i).toNat)
  case atStart => exact ⟨0, by omega, rfl, by simp⟩
  case round =>
    obtain ⟨j, hj, rfl, rfl⟩ := hrel
    by_cases hlt : j < n
    · obtain ⟨b, o, rfl, hc⟩ := h1.p (by rw [mkP_len]; omega)
      obtain ⟨q1, q2⟩ := hc j (by rw [mkP_len]; exact hlt)
      have e1 : (mkP k n)[j]'(by rw [mkP_len]; exact hlt) = (k + 2 * (j : Int), k + 2 * (j : Int) + 1) := by simp [mkP]
      rw [e1] at q1 q2
      clear hc e1
      go_wp2_with fail
      refine wp_loop_rounds 3 ?_
      iterate 3
        try simp only [rounds_succ]
        go_wp2_with fail
      go_round
      case rel => exact ⟨j + 1, by omega, by go_num, by go_num⟩
      case measure => simp [intOf]; omega
    · have hjl : (j : Int) = (n : Int) := by omega
      go_wp2_with fail
      go_ret
      exact ⟨ret_int (by omega), rfl⟩

end Go.Proofs.Ytkdncpglgdiicaa
