/- The laws' own helpers: sizes, copies, equality: on slices of int and on doors. -/
import Derived.Test.YtkdncpglgdiicaaMaze2
import Derived.Test.YtkdncpglgdiicaaMid
import Derived.Test.YtkdncpglgdiicaaClear
namespace Go.Proofs.Ytkdncpglgdiicaa
open Go Go.RowKit Go.Sort

/-- What is left of a bound. -/
def szI (n : Nat) (left : Int) : Int := if left < n then -1 else left - n
theorem szI_ge (n : Nat) (left : Int) : -1 ≤ szI n left := by unfold szI; split <;> omega
theorem szI_le (n : Nat) (left : Int) (h : -1 ≤ left) : szI n left ≤ left := by unfold szI; split <;> omega
theorem szI_pos {n : Nat} {left : Int} (h : 0 ≤ szI n left) : szI n left = left - n := by unfold szI at *; split at h <;> simp_all; omega

theorem szIntS_any (n : Nat) (left : Int) (a : Option Addr) (c : Nat) (w : World) (hn : n ≤ 9223372036854775807) (h1 : -1 ≤ left) (h2 : left ≤ 1000000000000) :
    Calls Try.prog 58 #[.slice a n c, .int .i64 left] w fun e w' => e = .returned (.int .i64 (szI n left)) ∧ w = w' := by
  by_cases h : left - n < 0
  · go_enter Try.func58, Try.ntmps58
    go_wp2_with fail
    go_ret
    exact ⟨ret_int (by unfold szI; rw [if_pos (by omega)]), rfl⟩
  · go_enter Try.func58, Try.ntmps58
    go_wp2_with fail
    go_ret
    exact ⟨ret_int (by unfold szI; rw [if_neg (by omega)]), rfl⟩

theorem szIntA3S_any (n : Nat) (left : Int) (a : Option Addr) (c : Nat) (w : World) (hn : n ≤ 9223372036854775807) (h1 : -1 ≤ left) (h2 : left ≤ 1000000000000) :
    Calls Try.prog 57 #[.slice a n c, .int .i64 left] w fun e w' => e = .returned (.int .i64 (szI n left)) ∧ w = w' := by
  by_cases h : left - n < 0
  · go_enter Try.func57, Try.ntmps57
    go_wp2_with fail
    go_ret
    exact ⟨ret_int (by unfold szI; rw [if_pos (by omega)]), rfl⟩
  · go_enter Try.func57, Try.ntmps57
    go_wp2_with fail
    go_ret
    exact ⟨ret_int (by unfold szI; rw [if_neg (by omega)]), rfl⟩

def szM (n1 n2 : Nat) (left : Int) : Int := if szI n1 left < 0 then -1 else szI n2 (szI n1 left)
theorem szM_ge (n1 n2 : Nat) (left : Int) : -1 ≤ szM n1 n2 left := by unfold szM; have := szI_ge n2 (szI n1 left); split <;> omega
theorem szM_le (n1 n2 : Nat) (left : Int) (h : -1 ≤ left) : szM n1 n2 left ≤ left := by
  unfold szM
  have h1 := szI_le n1 left h
  have h2 := szI_le n2 _ (szI_ge n1 left)
  split <;> omega
theorem szM_pos {n1 n2 : Nat} {left : Int} (h : 0 ≤ szM n1 n2 left) : szM n1 n2 left = left - n1 - n2 := by
  unfold szM at *
  split at h
  · omega
  · rename_i h1
    rw [if_neg h1, szI_pos h, szI_pos (by omega)]

theorem szMaze_any (sz : Int) (n1 n2 : Nat) (left : Int) (a1 a2 : Option Addr) (c1 c2 : Nat) (w : World) (hn1 : n1 ≤ 9223372036854775807) (hn2 : n2 ≤ 9223372036854775807) (h1 : -1 ≤ left) (h2 : left ≤ 1000000000000) :
    Calls Try.prog 12 #[.agg #[.int .i64 sz, .slice a1 n1 c1, .slice a2 n2 c2], .int .i64 left] w fun e w' => e = .returned (.int .i64 (szM n1 n2 left)) ∧ Ext w w' := by
  have g1 := szI_ge n1 left
  have g2 := szI_le n1 left h1
  have g3 := szI_ge n2 (szI n1 left)
  have HM : Hid (szM n1 n2 left = if szI n1 left < 0 then -1 else szI n2 (szI n1 left)) := by show _ = _; rfl
  have HA := Lib.hid fun w' => szIntA3S_any n1 left a1 c1 w' hn1 h1 h2
  have HB := Lib.hid fun w' => szIntS_any n2 (szI n1 left) a2 c2 w' hn2 g1 (by omega)
  obtain ⟨z, hz⟩ : ∃ z, z = szI n1 left := ⟨_, rfl⟩
  rw [← hz] at g1 g2 g3 HM HA HB
  clear hz
  by_cases hs : z < 0
  · go_enter Try.func12, Try.ntmps12
    go_wp2_with fail
    refine (HA.out _).mono ?_
    rintro e w1 ⟨rfl, rfl⟩
    go_wp2_with fail
    go_ret
    exact ⟨ret_int (by rw [HM.out, if_pos hs]), (Ext.rf _).al _⟩
  · obtain ⟨y, hy⟩ : ∃ y, y = szI n2 z := ⟨_, rfl⟩
    rw [← hy] at g3 HM HB
    clear hy
    by_cases hs2 : y < 0
    · go_enter Try.func12, Try.ntmps12
      go_wp2_with fail
      refine (HA.out _).mono ?_
      rintro e w1 ⟨rfl, rfl⟩
      go_wp2_with fail
      refine (HB.out _).mono ?_
      rintro e w1 ⟨rfl, rfl⟩
      go_wp2_with fail
      go_ret
      exact ⟨ret_int (by rw [HM.out, if_neg (by omega)]; omega), (Ext.rf _).al _⟩
    · go_enter Try.func12, Try.ntmps12
      go_wp2_with fail
      refine (HA.out _).mono ?_
      rintro e w1 ⟨rfl, rfl⟩
      go_wp2_with fail
      refine (HB.out _).mono ?_
      rintro e w1 ⟨rfl, rfl⟩
      go_wp2_with fail
      go_ret
      exact ⟨ret_int (by rw [HM.out, if_neg (by omega)]), (Ext.rf _).al _⟩

def eqL {α : Type} [DecidableEq α] (l m : List α) : Bool := decide (l = m)
theorem eqL_len {α : Type} [DecidableEq α] {l m : List α} (h : l.length ≠ m.length) : eqL l m = false := by
  unfold eqL; exact decide_eq_false (fun e => h (by rw [e]))
theorem eqL_take {α : Type} [DecidableEq α] {l m : List α} {k : Nat} (h : l.length = m.length) (hk : l.length ≤ k) (ht : l.take k = m.take k) : eqL l m = true := by
  rw [List.take_of_length_le hk, List.take_of_length_le (by omega)] at ht
  unfold eqL; exact decide_eq_true ht
theorem eqL_ne {α : Type} [DecidableEq α] {l m : List α} {k : Nat} (h1 : k < l.length) (h2 : k < m.length) (hne : l[k] ≠ m[k]) : eqL l m = false := by
  unfold eqL; refine decide_eq_false (fun e => hne ?_); subst e; rfl

set_option maxHeartbeats 1000000 in
theorem eqIntS_any (l m : List Int) (a b : Option Addr) (c d : Nat) (w : World) (h1 : Rd EI w a l) (h2 : Rd EI w b m) (hl : l.length ≤ 9223372036854775807) (hm : m.length ≤ 9223372036854775807) :
    Calls Try.prog 19 #[.slice a l.length c, .slice b m.length d] w fun e w' => e = .returned (.bool (eqL l m)) ∧ Ext w w' := by
  by_cases hn : l.length = m.length
  · have t0 : ((l.length : Int) != (m.length : Int)) = false := by simp [hn]
    have HN := Lib.hid hn
    clear hn
    go_enter Try.func19, Try.ntmps19
    go_wp2_with fail
    clear t0
    go_loopw [5] (fun i wr => ∃ k : Nat, k ≤ l.length ∧ i = .int .i64 k ∧ l.take k = m.take k ∧ Ext w wr) (fun i _ => l.length - (intOf i).toNat)
    case atStart => exact ⟨0, by omega, rfl, rfl, Ext.rf _⟩
    case round =>
      obtain ⟨k, hk, rfl, hf, hx⟩ := hrel
      have HF := Lib.hid hf
      clear hf
      by_cases hlt : k < l.length
      · have hlt2 : k < m.length := by have := HN.out; omega
        obtain ⟨ba, oa, rfl, hc1⟩ := h1.i (by omega)
        obtain ⟨bb, ob, rfl, hc2⟩ := h2.i (by omega)
        have q1 := hx.cl (hc1 k hlt)
        have q2 := hx.cl (hc2 k hlt2)
        clear hc1 hc2
        by_cases he : l[k] = m[k]
        · have HS : Hid (l.take (k + 1) = m.take (k + 1)) := by
            show _ = _
            rw [List.take_succ_eq_append_getElem hlt, List.take_succ_eq_append_getElem hlt2, HF.out, he]
          have t1 : (l[k] != m[k]) = false := by simpa using he
          clear he
          obtain ⟨x, hx'⟩ : ∃ x, x = l[k] := ⟨_, rfl⟩
          obtain ⟨y, hy'⟩ : ∃ y, y = m[k] := ⟨_, rfl⟩
          rw [← hx'] at q1 t1
          rw [← hy'] at q2 t1
          clear hx' hy'
          go_wp2_with fail
          go_quiet (fail)
          go_wp2_with fail
          go_roundw
          case rel => exact ⟨k + 1, by omega, by go_num, HS.out, hx.drN _⟩
          case measure => simp [intOf]; omega
        · have HS : Hid (eqL l m = false) := eqL_ne hlt hlt2 he
          have t1 : (l[k] != m[k]) = true := by simpa using he
          clear he
          obtain ⟨x, hx'⟩ : ∃ x, x = l[k] := ⟨_, rfl⟩
          obtain ⟨y, hy'⟩ : ∃ y, y = m[k] := ⟨_, rfl⟩
          rw [← hx'] at q1 t1
          rw [← hy'] at q2 t1
          clear hx' hy'
          go_wp2_with fail
          go_quiet (fail)
          go_wp2_with fail
          go_ret
          exact ⟨ret_bool HS.out.symm, hx.drN _⟩
      · have HS : Hid (eqL l m = true) := eqL_take HN.out (by omega) HF.out
        go_wp2_with fail
        go_ret
        exact ⟨ret_bool HS.out.symm, hx⟩
  · have HS : Hid (eqL l m = false) := eqL_len hn
    have t0 : ((l.length : Int) != (m.length : Int)) = true := by rw [bne_iff_ne]; omega
    clear hn
    go_enter Try.func19, Try.ntmps19
    go_wp2_with fail
    go_ret
    exact ⟨ret_bool HS.out.symm, Ext.rf _⟩

set_option maxRecDepth 100000 in
set_option maxHeartbeats 1000000 in
theorem eqIntA3_any (d e : Door) (w : World) :
    Calls Try.prog 131 #[.agg #[.int .i64 d.1, .int .i64 d.2.1, .int .i64 d.2.2], .agg #[.int .i64 e.1, .int .i64 e.2.1, .int .i64 e.2.2]] w fun en w' => en = .returned (.bool (decide (d = e))) ∧ Ext w w' := by
  have H : ∀ x0 x1 x2 y0 y1 y2 : Int, ∀ b : Bool, b = ((x0 == y0) && (x1 == y1) && (x2 == y2)) → Calls Try.prog 131 #[.agg #[.int .i64 x0, .int .i64 x1, .int .i64 x2], .agg #[.int .i64 y0, .int .i64 y1, .int .i64 y2]] w fun en w' => en = .returned (.bool b) ∧ Ext w w' := by
    intro x0 x1 x2 y0 y1 y2 b hb
    have HB := Lib.hid hb
    clear hb
    cases h1 : (x0 != y0)
    · cases h2 : (x1 != y1)
      · cases h3 : (x2 != y2)
        all_goals
          have HV : Hid (b = ((x0 == y0) && (x1 == y1) && (x2 == y2))) := HB.out
          go_enter Try.func131, Try.ntmps131
          go_wp2_with fail
          refine wp_loop_rounds 4 ?_
          iterate 4
            try simp only [rounds_succ]
            go_wp2_with fail
            try (go_quiet (fail); go_wp2_with fail)
            try (go_quiet (fail); go_wp2_with fail)
          go_ret
          refine ⟨ret_bool ?_, ?_⟩
          · rw [HV.out]
            simp only [bne_eq_false_iff_eq, bne_iff_ne, ne_eq] at h1 h2 h3
            simp [h1, h2, h3]
          · repeat (first | apply Ext.drN | apply Ext.dr | apply Ext.al)
            exact Ext.rf _
      · have HV : Hid (b = ((x0 == y0) && (x1 == y1) && (x2 == y2))) := HB.out
        go_enter Try.func131, Try.ntmps131
        go_wp2_with fail
        refine wp_loop_rounds 4 ?_
        iterate 4
          try simp only [rounds_succ]
          go_wp2_with fail
          try (go_quiet (fail); go_wp2_with fail)
          try (go_quiet (fail); go_wp2_with fail)
        go_ret
        refine ⟨ret_bool ?_, ?_⟩
        · rw [HV.out]
          simp only [bne_eq_false_iff_eq, bne_iff_ne, ne_eq] at h1 h2
          simp [h2]
        · repeat (first | apply Ext.drN | apply Ext.dr | apply Ext.al)
          exact Ext.rf _
    · have HV : Hid (b = ((x0 == y0) && (x1 == y1) && (x2 == y2))) := HB.out
      go_enter Try.func131, Try.ntmps131
      go_wp2_with fail
      refine wp_loop_rounds 4 ?_
      iterate 4
        try simp only [rounds_succ]
        go_wp2_with fail
        try (go_quiet (fail); go_wp2_with fail)
        try (go_quiet (fail); go_wp2_with fail)
      go_ret
      refine ⟨ret_bool ?_, ?_⟩
      · rw [HV.out]
        simp only [bne_iff_ne, ne_eq] at h1
        simp [h1]
      · repeat (first | apply Ext.drN | apply Ext.dr | apply Ext.al)
        exact Ext.rf _
  refine H _ _ _ _ _ _ _ ?_
  obtain ⟨d0, d1, d2⟩ := d
  obtain ⟨e0, e1, e2⟩ := e
  rw [Bool.eq_iff_iff]
  simp [and_assoc]

end Go.Proofs.Ytkdncpglgdiicaa
