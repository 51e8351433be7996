/- The reference's small functions on lists and sets. -/
import Derived.Test.YtkdncpglgdiicaaWalk1
import Derived.Test.YtkdncpglgdiicaaMaze2
import Derived.Deep.RegionLaw
import Derived.BigRegion
namespace Go.Proofs.Ytkdncpglgdiicaa
open Go Go.RowKit Go.Sort

theorem and_has (s o : Nat) (hs : s < 2 ^ 62) (ho : o < 2 ^ 62) : (bits .and .i64 (s : Int) (o : Int) == (o : Int)) = opn s o := by
  rw [band_nat s o hs ho, Nat.and_comm]
  unfold opn
  rw [Bool.eq_iff_iff]
  simp only [beq_iff_eq, decide_eq_true_eq]
  omega
theorem l2Has_any (s o : Nat) (w : World) (hs : s ≤ 63) (ho : o ≤ 63) :
    Calls Try.prog 190 #[.int .i64 (s : Int), .int .i64 (o : Int)] w fun e w' => e = .returned (.bool (opn s o)) ∧ w = w' := by
  go_enter Try.func190, Try.ntmps190
  go_wp2_with fail
  go_ret
  exact ⟨ret_bool (and_has s o (by omega) (by omega)), rfl⟩

def hasI (l : List Int) (x : Int) : Bool := l.any (· == x)
theorem l1HasI_any (l : List Int) (x : Int) (a : Option Addr) (c : Nat) (w : World) (hr : Rd EI w a l) (hl : l.length ≤ 9223372036854775807) :
    Calls Try.prog 75 #[.slice a l.length c, .int .i64 x] w fun e w' => e = .returned (.bool (hasI l x)) ∧ w = w' := by
  go_enter Try.func75, Try.ntmps75
  go_wp2_with fail
  go_loop [5] (fun i => ∃ k : Nat, k ≤ l.length ∧ i = .int .i64 k ∧ hasI (l.take k) x = false) (fun i => l.length - (intOf i).toNat)
  case atStart => exact ⟨0, by omega, rfl, rfl⟩
  case round =>
    obtain ⟨k, hk, rfl, hf⟩ := hrel
    have HF := Lib.hid hf
    clear hf
    by_cases hlt : k < l.length
    · obtain ⟨b, off, rfl, hc⟩ := hr.i (by omega)
      have hc1 := hc k hlt
      clear hc
      cases hb : (l[k] == x)
      · have HS : Hid (hasI (l.take (k + 1)) x = false) := by
          have := HF.out
          unfold hasI at this
          show _ = _
          unfold hasI
          rw [List.take_succ_eq_append_getElem hlt, List.any_append, this]
          simp [hb]
        go_wp2_with fail
        go_round
        case rel => exact ⟨k + 1, by omega, by go_num, HS.out⟩
        case measure => simp [intOf]; omega
      · have HS : Hid (hasI l x = true) := by
          show _ = _
          unfold hasI
          rw [List.any_eq_true]
          exact ⟨l[k], List.getElem_mem hlt, hb⟩
        go_wp2_with fail
        go_ret
        exact ⟨ret_bool HS.out.symm, rfl⟩
    · go_wp2_with fail
      go_ret
      refine ⟨ret_bool ?_, rfl⟩
      have := HF.out
      rw [List.take_of_length_le (by omega)] at this
      exact this.symm

theorem hasI_up (l : List Nat) (x : Nat) : hasI (l.map upN) (x : Int) = decide (x ∈ l) := by
  unfold hasI
  rw [Bool.eq_iff_iff]
  simp only [List.any_map, List.any_eq_true, Function.comp, upN, beq_iff_eq, decide_eq_true_eq]
  constructor
  · rintro ⟨y, hy, h⟩
    obtain rfl : y = x := by omega
    exact hy
  · intro h
    exact ⟨x, h, rfl⟩
theorem l1Has_any (l : List Nat) (x : Nat) (a : Option Addr) (c : Nat) (w : World) (hr : Rd EN w a l) (hl : l.length ≤ 9223372036854775807) :
    Calls Try.prog 75 #[.slice a l.length c, .int .i64 (x : Int)] w fun e w' => e = .returned (.bool (decide (x ∈ l))) ∧ w = w' := by
  have h := l1HasI_any (l.map upN) x a c w (Rd.unmap upN rfl (fun _ => rfl) hr) (by simpa using hl)
  rw [hasI_up, List.length_map] at h
  exact h

theorem l1Own_any {α : Type} {E : Enc α} (hE : Elem Try.prog 23 3 E) (l : List α) (a : Option Addr) (c : Nat) (w : World) (hr : Rd E w a l) (hl : l.length ≤ 1000000000) :
    Calls Try.prog 124 #[.slice a l.length c] w fun e w' => ∃ a' c', e = .returned (.slice a' l.length c') ∧ Own E 3 w' w.heap.size a' c' l ∧ Ext w w' := by
  have HR := Lib.hid hr
  have HL := Lib.hid hl
  clear hr hl
  go_enter Try.func124, Try.ntmps124
  go_wp2_with (at_builtin; refine wpList_app hE rfl _ _ rfl l rfl rfl (Own.made (l := []) w #[] (Nat.le_refl _) (by decide) (by simp) (by simp) (by simp)) rfl (HR.out.ext ((Ext.rf _).al _)) rfl ?_ ?_ ?_; rotate_left 2)
  · intro aa c2 w' h1 h2
    have hx : Ext w w' := ((Ext.rf w).al _).grown h2 ((Ext.rf w).al _).size (fun q hq => by simp at hq; omega)
    go_wp2_with fail
    go_ret
    exact ⟨aa, c2, by simp, h1, hx⟩
  · have := HL.out
    simp only [List.length_nil]
    omega
  · simp

theorem bit_val (N k : Nat) (hN : N < 2 ^ 60) : bits BinOp.and IntKind.i64 ((N / 2 ^ k : Nat) : Int) 1 = ((if N.testBit k then 1 else 0 : Nat) : Int) := by
  have hq : N / 2 ^ k < 2 ^ 62 := Nat.lt_of_le_of_lt (Nat.div_le_self _ _) (by omega)
  have h1 : bits BinOp.and IntKind.i64 ((N / 2 ^ k : Nat) : Int) ((1 : Nat) : Int) = ((N / 2 ^ k &&& 1 : Nat) : Int) := band_nat _ 1 hq (by decide)
  have h2 : ((1 : Nat) : Int) = 1 := rfl
  rw [h2] at h1
  rw [h1, Nat.and_one_is_mod, testBit_div]
  by_cases h : N / 2 ^ k % 2 = 1
  · simp [h]
  · have : N / 2 ^ k % 2 = 0 := by omega
    simp [this]

set_option maxRecDepth 100000 in
theorem l2Many_any (N : Nat) (w : World) (hN : N < 2 ^ 60) :
    Calls Try.prog 144 #[.int .i64 (N : Int)] w fun e w' => e = .returned (.int .i64 ((mem N).length : Nat)) ∧ w = w' := by
  have HN := Lib.hid hN
  clear hN
  go_enter Try.func144, Try.ntmps144
  go_wp2_with fail
  go_loop [0, 3] (fun s o => ∃ k M C : Nat, k ≤ 60 ∧ s = .int .i64 (M : Int) ∧ o = .int .i64 (C : Int) ∧ M = N / 2 ^ k ∧ C = ((List.range k).filter (fun y => N.testBit y)).length) (fun s _ => (intOf s).toNat)
  case atStart => exact ⟨0, N, 0, by omega, rfl, rfl, by simp, rfl⟩
  case round =>
    obtain ⟨k, M, C, hk, rfl, rfl, hM, hC⟩ := hrel
    have HM := Lib.hid hM
    have HC := Lib.hid hC
    clear hM hC
    have hC60 : C ≤ 60 := by
      rw [HC.out]
      have := List.length_filter_le (fun y => N.testBit y) (List.range k)
      simp only [List.length_range] at this
      omega
    by_cases hpos : 0 < M
    · have hk60 : k < 60 := by
        rcases Nat.lt_or_ge k 60 with h | h
        · exact h
        · have : N / 2 ^ k = 0 := Nat.div_eq_of_lt (Nat.lt_of_lt_of_le HN.out (Nat.pow_le_pow_right (by decide) h))
          have := HM.out
          omega
      have d1 : decide (0 < (M : Int)) = true := by simpa using hpos
      have hb := bit_val N k HN.out
      rw [← HM.out] at hb
      have HS : Hid (C + (if N.testBit k then 1 else 0) = ((List.range (k + 1)).filter (fun y => N.testBit y)).length) := by
        show _ = _
        rw [mem_step, List.length_append, HC.out]
        congr 1
        by_cases h : N.testBit k = true <;> simp [h]
      have HM2 : Hid (M / 2 = N / 2 ^ (k + 1)) := by
        show _ = _
        rw [HM.out, Nat.div_div_eq_div_mul, Nat.pow_succ]
      obtain ⟨b, hbd⟩ : ∃ b : Nat, b = (if N.testBit k then 1 else 0) := ⟨_, rfl⟩
      rw [← hbd] at hb HS
      have hb1 : b ≤ 1 := by rw [hbd]; split <;> omega
      clear hbd
      go_wp2_with fail
      go_round
      case rel => exact ⟨k + 1, M / 2, C + b, by omega, by simp, by simp, HM2.out, HS.out⟩
      case measure => simp [intOf]; omega
    · have d1 : decide (0 < (M : Int)) = false := by simpa using hpos
      have HE : Hid (C = (mem N).length) := by
        show _ = _
        rw [HC.out]
        have hz : N / 2 ^ k = 0 := by rw [← HM.out]; omega
        have hlt : N < 2 ^ k := by
          rcases Nat.lt_or_ge N (2 ^ k) with h | h
          · exact h
          · have := Nat.div_pos h (Nat.two_pow_pos k)
            omega
        rw [mem_eq hlt (by omega)]
      go_wp2_with fail
      go_ret
      refine ⟨?_, rfl⟩
      rw [← HE.out]
      rfl

set_option maxRecDepth 100000 in
theorem l2Colours_any (N : Nat) (w : World) (hN : N ≤ 63) :
    Calls Try.prog 61 #[.int .i64 (N : Int)] w fun e w' => ∃ a c, e = .returned (.slice a (mem N).length c) ∧ Own EN 3 w' w.heap.size a c (mem N) ∧ Ext w w' := by
  have HN := Lib.hid hN
  clear hN
  go_enter Try.func61, Try.ntmps61
  go_wp2_with fail
  go_loopw [3, 4] (fun v i wr => ∃ k : Nat, ∃ a c, ∃ l : List Nat, k ≤ 6 ∧ i = .int .i64 k ∧ v = .slice a l.length c ∧ l = (List.range k).filter (fun y => N.testBit y) ∧ Own EN 3 wr w.heap.size a c l ∧ Ext w wr) (fun _ i _ => 6 - (intOf i).toNat)
  case atStart =>
    refine ⟨0, _, _, [], by omega, rfl, rfl, rfl, ?_, (Ext.rf _).al _⟩
    exact Own.made _ _ (Nat.le_refl _) (by decide) (by simp) (by simp) (by simp)
  case round =>
    obtain ⟨k, a, c, l, hk, rfl, rfl, hl, hown, hx⟩ := hrel
    have HL := Lib.hid hl
    clear hl
    have hll : l.length ≤ 60 := by
      rw [HL.out]
      have := List.length_filter_le (fun y => N.testBit y) (List.range k)
      simp only [List.length_range] at this
      omega
    by_cases hpos : k < 6
    · cases hb : N.testBit k
      · have d2 : (bits BinOp.and IntKind.i64 ((N : Int) / 2 ^ k) 1 == 1) = false := by rw [bit_at N k (by have := HN.out; omega), hb]
        have HS : Hid ((List.range (k + 1)).filter (fun y => N.testBit y) = (List.range k).filter (fun y => N.testBit y)) := by
          show _ = _
          rw [mem_step, hb]
          simp
        go_wp2_with fail
        go_roundw
        case rel => exact ⟨k + 1, a, c, l, by omega, by go_num, rfl, by rw [HS.out]; exact HL.out, hown, hx⟩
        case measure => simp [intOf]; omega
      · have d2 : (bits BinOp.and IntKind.i64 ((N : Int) / 2 ^ k) 1 == 1) = true := by rw [bit_at N k (by have := HN.out; omega), hb]
        have HS : Hid ((List.range (k + 1)).filter (fun y => N.testBit y) = (List.range k).filter (fun y => N.testBit y) ++ [k]) := by
          show _ = _
          rw [mem_step, hb]
          simp
        have HO := Lib.hid hown
        clear hown
        go_wp2_with (at_builtin; refine wpList_app elemN rfl _ _ rfl [k] rfl rfl (HO.out.al _) rfl (Rd.one _ _) rfl ?_ ?_ ?_; rotate_left 2)
        · intro aa' c2 w' h1 h2
          have hx2 : Ext w w' := (hx.al _).grown h2 (hx.al _).size (fun q hq => by
            obtain ⟨p, hp, rfl⟩ := Option.map_eq_some_iff.1 hq
            exact (HO.out.blk p hp).1)
          go_wp2_with fail
          go_roundw
          case rel => exact ⟨k + 1, aa', c2, l ++ [k], by omega, by go_num, by simp, by rw [HS.out, ← HL.out], h1, hx2⟩
          case measure => simp [intOf]; omega
        · simp; omega
        · simp; exact Nat.le_succ_of_le hx.size
    · have HE : Hid (l = mem N) := by
        show _ = _
        obtain rfl : k = 6 := by omega
        rw [HL.out, mem_eq (b := 6) (by have := HN.out; omega) (by decide)]
      go_wp2_with fail
      go_ret
      refine ⟨a, c, ?_, ?_, hx⟩
      · rw [← HE.out]; rfl
      · rw [← HE.out]; exact hown

end Go.Proofs.Ytkdncpglgdiicaa
