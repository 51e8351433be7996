/- Steps, members of a set, what is reached: the program's walks. -/
import Derived.Test.YtkdncpglgdiicaaMaze1
import Derived.Test.YtkdncpglgdiicaaReach
import Derived.RegionCalls
namespace Go.Proofs.Ytkdncpglgdiicaa
open Go Go.RowKit Go.Sort

theorem elemI : Elem Try.prog 23 3 EI := Elem.of Try.underlying23 (z := .int .i64 0) (b := 8) (by kernel_rfl) rfl (by decide) (by decide)
theorem elemN : Elem Try.prog 23 3 EN := Elem.of Try.underlying23 (z := .int .i64 0) (b := 8) (by kernel_rfl) rfl (by decide) (by decide)
theorem elemDN : Elem Try.prog 22 140 EDN := Elem.of Try.underlying22 (z := .agg #[.int .i64 0, .int .i64 0, .int .i64 0]) (b := 24) (by kernel_rfl) rfl (by decide) (by decide)
theorem elemD : Elem Try.prog 22 140 ED := Elem.of Try.underlying22 (z := .agg #[.int .i64 0, .int .i64 0, .int .i64 0]) (b := 24) (by kernel_rfl) rfl (by decide) (by decide)

theorem hasN_any (s o : Nat) (w : World) (hs : s ≤ 63) (ho : o ≤ 63) :
    Calls Try.prog 208 #[.int .i64 (s : Int), .int .i64 (o : Int)] w fun e w' => e = .returned (.bool (opn s o)) ∧ w = w' :=
  (has_any s o w).mono fun _ _ ⟨a, b⟩ => ⟨by rw [a]; exact ret_bool (has_nat s o (by omega) (by omega)), b⟩

set_option maxRecDepth 100000 in
set_option maxHeartbeats 1000000 in
theorem steps_any (sz : Int) (x set : Nat) (ds : List ND) (a a2 : Option Addr) (c n2 c2 : Nat) (w : World) (hr : Rd EDN w a ds) (hd : ∀ d ∈ ds, d.1 < d.2.1 ∧ d.2.1 < 12 ∧ d.2.2 ≤ 63) (hlen : ds.length ≤ 1000) (hset : set ≤ 63) :
    Calls Try.prog 193 #[.agg #[.int .i64 sz, .slice a ds.length c, .slice a2 n2 c2], .int .i64 (x : Int), .int .i64 (set : Int)] w fun e w' => e = .returned (.int .i64 (stepsN ds x set : Nat)) ∧ Ext w w' := by
  have HD := Lib.hid hd
  clear hd
  go_enter Try.func193, Try.ntmps193
  go_wp2_with fail
  go_loopw [13, 7] (fun i o wr => ∃ k : Nat, k ≤ ds.length ∧ i = .int .i64 k ∧ o = .int .i64 (((ds.take k).foldl (stepD x set) 0 : Nat) : Int) ∧ Ext w wr) (fun i _ _ => ds.length - (intOf i).toNat)
  case atStart => exact ⟨0, by omega, rfl, rfl, (Ext.rf _).al _⟩
  case round =>
    obtain ⟨k, hk, rfl, rfl, hx⟩ := hrel
    by_cases hlt : k < ds.length
    · obtain ⟨b, off, rfl, hc⟩ := hr.dn (by omega)
      have q1 := hx.cl (hc k hlt).1
      have q2 := hx.cl (hc k hlt).2.1
      have q3 := hx.cl (hc k hlt).2.2
      clear hc
      have HF : Hid ((ds.take (k + 1)).foldl (stepD x set) 0 = stepD x set ((ds.take k).foldl (stepD x set) 0) ds[k]) := by
        show _ = _
        rw [List.take_succ_eq_append_getElem hlt, List.foldl_append]
        rfl
      have HN : Hid ((ds.take k).foldl (stepD x set) 0 < 2 ^ 12) :=
        stepsN_lt' x set _ (fun d hm => by have := HD.out d (List.mem_of_mem_take hm); omega) 0 (by decide)
      obtain ⟨N, hN⟩ : ∃ N, N = (ds.take k).foldl (stepD x set) 0 := ⟨_, rfl⟩
      rw [← hN] at HF HN ⊢
      clear hN
      have hdk := HD.out ds[k] (List.getElem_mem hlt)
      obtain ⟨d, hde⟩ : ∃ d, d = ds[k] := ⟨_, rfl⟩
      rw [← hde] at hdk HF q1 q2 q3
      clear hde
      obtain ⟨hd1, hd2, hd3⟩ := hdk
      cases ho : opn set d.2.2
      · go_wp2_with (go_at_call 208; refine (hasN_any _ _ _ hset (by omega)).mono ?_; rintro e w' ⟨rfl, rfl⟩)
        go_roundw
        case rel => exact ⟨k + 1, by omega, by go_num, by rw [HF.out, stepD, ho]; rfl, hx.al _⟩
        case measure => simp [intOf]; omega
      · by_cases e1 : d.1 = x
        · have e1' := ieq e1
          by_cases e2 : d.2.1 = x
          · exfalso; omega
          · have e2' := ine e2
            go_wp2_with (go_at_call 208; refine (hasN_any _ _ _ hset (by omega)).mono ?_; rintro e w' ⟨rfl, rfl⟩)
            go_roundw
            case rel => exact ⟨k + 1, by omega, by go_num, by rw [HF.out, stepD, if_pos ho, if_neg (by omega), if_pos e1, or_pow _ _ (by have := HN.out; omega) (by omega)], hx.al _⟩
            case measure => simp [intOf]; omega
        · have e1' := ine e1
          by_cases e2 : d.2.1 = x
          · have e2' := ieq e2
            go_wp2_with (go_at_call 208; refine (hasN_any _ _ _ hset (by omega)).mono ?_; rintro e w' ⟨rfl, rfl⟩)
            go_roundw
            case rel => exact ⟨k + 1, by omega, by go_num, by rw [HF.out, stepD, if_pos ho, if_pos e2, if_neg e1, or_pow _ _ (by have := HN.out; omega) (by omega)], hx.al _⟩
            case measure => simp [intOf]; omega
          · have e2' := ine e2
            go_wp2_with (go_at_call 208; refine (hasN_any _ _ _ hset (by omega)).mono ?_; rintro e w' ⟨rfl, rfl⟩)
            go_roundw
            case rel => exact ⟨k + 1, by omega, by go_num, by rw [HF.out, stepD, if_pos ho, if_neg e2, if_neg e1], hx.al _⟩
            case measure => simp [intOf]; omega
    · go_wp2_with fail
      go_ret
      refine ⟨?_, hx⟩
      rw [List.take_of_length_le (by omega)]
      rfl

theorem Rd.one {w : World} (n : Nat) (t : TypeId) : Rd EN (w.alloc (.cells #[.int .i64 (n : Int)] t)) (some ⟨w.heap.size, 0, none⟩) [n] := by
  refine .inr ⟨w.heap.size, 0, rfl, fun j hj i hi => ?_⟩
  simp only [List.length_singleton] at hj
  have hi' : i < 1 := hi
  obtain rfl : j = 0 := by omega
  obtain rfl : i = 0 := by omega
  simp [EN]

def lenOf : Value → Nat | .slice _ n _ => n | _ => 0

theorem mem_step (N c : Nat) : (List.range (c + 1)).filter (fun y => N.testBit y) = (List.range c).filter (fun y => N.testBit y) ++ (if N.testBit c then [c] else []) := by
  rw [List.range_succ, List.filter_append]
  congr 1
  by_cases h : N.testBit c = true <;> simp [h]
theorem testBit_div (N c : Nat) : N.testBit c = decide (N / 2 ^ c % 2 = 1) := by
  rw [Nat.testBit_eq_decide_div_mod_eq]

set_option maxRecDepth 100000 in
set_option maxHeartbeats 1000000 in
theorem members_any (N : Nat) (w : World) (hN : N < 2 ^ 60) :
    Calls Try.prog 67 #[.int .i64 (N : Int)] w fun e w' => ∃ a c, e = .returned (.slice a (mem N).length c) ∧ Own EN 3 w' w.heap.size a c (mem N) ∧ Ext w w' := by
  have HN := Lib.hid hN
  clear hN
  go_enter Try.func67, Try.ntmps67
  go_wp2_with fail
  go_loopw [3, 4] (fun v i wr => ∃ k : Nat, ∃ a c, ∃ l : List Nat, k ≤ 60 ∧ i = .int .i64 k ∧ v = .slice a l.length c ∧ l = (List.range k).filter (fun y => N.testBit y) ∧ Own EN 3 wr w.heap.size a c l ∧ Ext w wr) (fun _ i _ => 60 - (intOf i).toNat)
  case atStart =>
    refine ⟨0, _, _, [], by omega, rfl, rfl, rfl, ?_, (Ext.rf _).al _⟩
    exact Own.made _ _ (Nat.le_refl _) (by decide) (by simp) (by simp) (by simp)
  case round =>
    obtain ⟨k, a, c, l, hk, rfl, rfl, hl, hown, hx⟩ := hrel
    have HL := Lib.hid hl
    clear hl
    have hll : l.length ≤ 60 := by
      rw [HL.out]
      have := List.length_filter_le (fun y => N.testBit y) (List.range k)
      simp only [List.length_range] at this
      omega
    by_cases hpos : 0 < N / 2 ^ k
    · have d1 : decide (0 < (N : Int) / 2 ^ k) = true := by rw [pos_at]; exact decide_eq_true hpos
      have hk60 : k < 60 := by
        rcases Nat.lt_or_ge k 60 with h | h
        · exact h
        · have : N / 2 ^ k = 0 := Nat.div_eq_of_lt (Nat.lt_of_lt_of_le HN.out (Nat.pow_le_pow_right (by decide) h))
          omega
      cases hb : N.testBit k
      · have d2 : (bits BinOp.and IntKind.i64 ((N : Int) / 2 ^ k) 1 == 1) = false := by rw [bit_at N k HN.out, hb]
        have HS : Hid ((List.range (k + 1)).filter (fun y => N.testBit y) = (List.range k).filter (fun y => N.testBit y)) := by
          show _ = _
          rw [mem_step, hb]
          simp
        go_wp2_with fail
        go_roundw
        case rel => exact ⟨k + 1, a, c, l, by omega, by go_num, rfl, by rw [HS.out]; exact HL.out, hown, hx⟩
        case measure => simp [intOf]; omega
      · have d2 : (bits BinOp.and IntKind.i64 ((N : Int) / 2 ^ k) 1 == 1) = true := by rw [bit_at N k HN.out, hb]
        have HS : Hid ((List.range (k + 1)).filter (fun y => N.testBit y) = (List.range k).filter (fun y => N.testBit y) ++ [k]) := by
          show _ = _
          rw [mem_step, hb]
          simp
        have HO := Lib.hid hown
        clear hown
        go_wp2_with (at_builtin; refine wpList_app elemN rfl _ _ rfl [k] rfl rfl (HO.out.al _) rfl (Rd.one _ _) rfl ?_ ?_ ?_; rotate_left 2)
        · intro aa' c2 w' h1 h2
          have hx2 : Ext w w' := (hx.al _).grown h2 (hx.al _).size (fun q hq => by
            obtain ⟨p, hp, rfl⟩ := Option.map_eq_some_iff.1 hq
            exact (HO.out.blk p hp).1)
          go_wp2_with fail
          go_roundw
          case rel => exact ⟨k + 1, aa', c2, l ++ [k], by omega, by go_num, by simp, by rw [HS.out, ← HL.out], h1, hx2⟩
          case measure => simp [intOf]; omega
        · simp; omega
        · simp; exact Nat.le_succ_of_le hx.size
    · have d1 : decide (0 < (N : Int) / 2 ^ k) = false := by rw [pos_at]; exact decide_eq_false hpos
      have HE : Hid (l = mem N) := by
        show _ = _
        rw [HL.out]
        have hz : N / 2 ^ k = 0 := Nat.eq_zero_of_not_pos hpos
        have hlt : N < 2 ^ k := by
          rcases Nat.lt_or_ge N (2 ^ k) with h | h
          · exact h
          · have := Nat.div_pos h (Nat.two_pow_pos k)
            omega
        rw [mem_eq hlt (by omega)]
      go_wp2_with fail
      go_ret
      refine ⟨a, c, ?_, ?_, hx⟩
      · rw [← HE.out]; rfl
      · rw [← HE.out]; exact hown

end Go.Proofs.Ytkdncpglgdiicaa
