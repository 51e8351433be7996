/- What is reached: the program's walk. -/
import Derived.Test.YtkdncpglgdiicaaWalk1
import Derived.Deep.RegionLaw
import Derived.BigRegion
namespace Go.Proofs.Ytkdncpglgdiicaa
open Go Go.RowKit Go.Sort

theorem entersMembers : Enters Try.prog 67 := fun _ _ => by go_simp
set_option maxRecDepth 100000 in
set_option maxHeartbeats 1000000 in
theorem reach_any (n x set : Nat) (ds : List ND) (a a2 : Option Addr) (c n2 c2 : Nat) (w : World) (hr : Rd EDN w a ds) (hd : ∀ d ∈ ds, d.1 < d.2.1 ∧ d.2.1 < n ∧ d.2.2 ≤ 63) (hn : n ≤ 12) (hx : x < n) (hlen : ds.length ≤ 1000) (hset : set ≤ 63) :
    Calls Try.prog 154 #[.agg #[.int .i64 (n : Int), .slice a ds.length c, .slice a2 n2 c2], .int .i64 (x : Int), .int .i64 (set : Int)] w fun e w' => e = .returned (.int .i64 (rN ds n set x : Nat)) ∧ Ext w w' := by
  have HD := Lib.hid hd
  clear hd
  go_enter Try.func154, Try.ntmps154
  go_wp2_with fail
  obtain ⟨W1, hW1⟩ : ∃ W1, W1 = w.alloc (.cells #[.int .i64 (n : Int), .slice a ds.length c, .slice a2 n2 c2] 30) := ⟨_, rfl⟩
  rw [← hW1]
  have e1 : Ext w W1 := by rw [hW1]; exact (Ext.rf _).al _
  have f0 : W1.cell? ⟨w.heap.size, 0, none⟩ = some (.int .i64 (n : Int)) := by rw [hW1]; go_simp
  have f1 : W1.cell? ⟨w.heap.size, 1, none⟩ = some (.slice a ds.length c) := by rw [hW1]; go_simp
  have f2 : W1.cell? ⟨w.heap.size, 2, none⟩ = some (.slice a2 n2 c2) := by rw [hW1]; go_simp
  have hsz : W1.heap.size = w.heap.size + 1 := by rw [hW1]; simp
  have o1 : Own EN 3 (W1.alloc (.cells #[.int .i64 (x : Int)] 3)) W1.heap.size (some ⟨W1.heap.size, 0, none⟩) 1 [x] :=
    Own.made (E := EN) (e := 3) (base := W1.heap.size) (c := 1) (l := [x]) W1 #[.int .i64 (x : Int)] (Nat.le_refl _) (by decide) (by simp) (by simp [EN]) (by simp [EN])
  clear hW1
  go_loopw [7, 8] (fun o t wr => ∃ N : Nat, ∃ a c, ∃ l : List Nat, o = .int .i64 N ∧ t = .slice a l.length c ∧ Own EN 3 wr W1.heap.size a c l ∧ Ext W1 wr ∧ RInv ds n set x N l) (fun o t _ => 2 * (12 - (mem (intOf o).toNat).length) + lenOf t)
  case atStart => exact ⟨2 ^ x, _, 1, [x], by rw [wrap_pow x (by omega)], by rw [hsz]; rfl, o1, (Ext.rf _).al _, RInv.start hx hn⟩
  case round =>
    obtain ⟨N, ta, tc, l, rfl, rfl, hown, hx1, hinv⟩ := hrel
    have HI := Lib.hid hinv
    clear hinv o1
    have g0 := hx1.cl f0
    have g1 := hx1.cl f1
    have g2 := hx1.cl f2
    clear f0 f1 f2
    cases l with
    | nil =>
      go_wp2_with fail
      go_ret
      exact ⟨by rw [RInv.end_ hx (fun d hm => by have := HD.out d hm; omega) HI.out]; rfl, e1.tr hx1⟩
    | cons y l =>
      have hst := RInv.step (fun d hm => by have := HD.out d hm; omega) hn HI.out
      obtain ⟨hst, hms, hlt⟩ := hst
      have HST := Lib.hid hst
      have HMS := Lib.hid hms
      have HLT := Lib.hid hlt
      clear hst hms hlt
      obtain ⟨g, off, rfl, hg1, hg2, hy⟩ := hown.n
      have HO := Lib.hid hown
      clear hown
      have k0 := cell_regrown g0
      have k1 := cell_regrown g1
      have k2 := cell_regrown g2
      have k3 := cell_regrown hy
      have hs0 : stepsN ds y set < 2 ^ 12 := stepsN_lt y set ds (fun d hm => by have := HD.out d hm; omega)
      have hN0 : N < 2 ^ 12 := Nat.lt_of_lt_of_le HI.out.lt (Nat.pow_le_pow_right (by decide) hn)
      have hB1 := bandNot_nat (stepsN ds y set) N (by omega) (by omega)
      obtain ⟨s, hs⟩ : ∃ s, s = nd (stepsN ds y set) N := ⟨_, rfl⟩
      rw [← hs] at HST HMS HLT hB1
      clear hs
      have hs1 : s < 2 ^ 12 := Nat.lt_of_lt_of_le HLT.out (Nat.pow_le_pow_right (by decide) hn)
      have hB2 := bor_nat N s (by omega) (by omega)
      obtain ⟨N', hN'⟩ : ∃ N', N' = N ||| s := ⟨_, rfl⟩
      rw [← hN'] at HST HMS hB2
      clear hN'
      have HS1 := Lib.hid hs1
      clear hs0 hN0 hs1
      go_wp2_with fail
      refine quietExt (by kernel_rfl) (by kernel_rfl) ?_
      repeat (first | go_big_quiet_step ((go_at_call 193; exact callExt (steps_any _ _ _ _ _ _ _ _ _ _ (hr.ext ((e1.tr hx1).tr (below_regrown _ _ _))) (fun d hm => by have := HD.out d hm; omega) hlen hset))) | quiet_step (fail))
      refine wpQuiet_nil ?_
      intro w2 hx2
      go_wp2_with fail
      have HC : Hid (l.length ≤ 100000) := by
        show _ ≤ _
        have h1 := HI.out.len
        have h2 := mem_len_le (Nat.lt_of_lt_of_le HI.out.lt (Nat.pow_le_pow_right (by decide) hn)) (show 12 ≤ 64 by decide)
        rw [List.length_cons] at h1
        omega
      have o2 := HO.out.ext hx2
      have hle : l.length + 1 ≤ tc := by simpa using o2.le
      have o2t := o2.drop 1 (by simp)
      have HM2 : Hid (2 * (12 - (mem N').length) + (l.length + (mem s).length) < 2 * (12 - (mem N).length) + (l.length + 1)) := by
        have := HMS.out
        rw [List.length_append] at this
        exact this
      have hlm : (mem s).length ≤ 12 := mem_len_le (Nat.lt_of_lt_of_le HLT.out (Nat.pow_le_pow_right (by decide) hn)) (by decide)
      by_cases htc : tc = 1
      · subst htc
        obtain rfl : l = [] := List.eq_nil_of_length_eq_zero (by omega)
        have HT : Hid (Own EN 3 w2 W1.heap.size (some ⟨g, off, none⟩) 0 []) := by show Own _ _ _ _ _ _ _; simpa using o2t
        have HLE : Hid (([] : List Nat).length + (mem s).length ≤ 1000000000000) := by show _ ≤ _; simp only [List.length_nil]; omega
        clear o2t o2 hle hlm
        go_region_law (first
          | (refine step_call rfl _ _ rfl #[.int .i64 (s : Int)] (by simp [go_sem]) entersMembers (members_any s _ (by have := HS1.out; omega)) ?_; rintro e w3 ⟨a3, c3, rfl, o3, hx3⟩; refine ⟨_, rfl, ?_⟩)
          | (refine step_app elemN rfl _ _ rfl (mem s) rfl rfl (HT.out.dr.ext hx3) rfl o3.rd rfl ?_ ?_ ?_; exact HLE.out; exact Nat.le_trans (hx1.tr hx2).size hx3.size; intro aa c4 w4 h1 h2))
        simp only [Act.put, List.getElem_toArray, List.getElem_cons_succ, List.getElem_cons_zero, List.setIfInBounds_toArray, List.set_cons_succ, List.set_cons_zero]
        go_wp2_with fail
        go_roundw
        case rel =>
          refine ⟨N', aa, c4, _, rfl, ?_, h1, ?_, HST.out⟩
          · simp
          · exact ((hx1.tr hx2).dr.tr hx3).grown h2 ((hx1.tr hx2).dr.tr hx3).size (fun q hq => by
              obtain ⟨p, hp, rfl⟩ := Option.map_eq_some_iff.1 hq
              exact (HT.out.blk p hp).1)
        case measure =>
          have := HM2.out
          simp [intOf, lenOf] at this ⊢
          omega
      · have HT : Hid (Own EN 3 w2 W1.heap.size (some ⟨g, off + 1, none⟩) (tc - 1) l) := by
          show Own _ _ _ _ _ _ _
          rw [if_neg htc] at o2t
          exact o2t
        have HLE : Hid (l.length + (mem s).length ≤ 1000000000000) := by
          show _ ≤ _
          have := HC.out
          omega
        have h1l : (1 : Int) ≤ (l.length : Int) + 1 := by omega
        clear o2t o2 hlm
        go_region_law (first
          | (refine step_call rfl _ _ rfl #[.int .i64 (s : Int)] (by simp [go_sem]) entersMembers (members_any s _ (by have := HS1.out; omega)) ?_; rintro e w3 ⟨a3, c3, rfl, o3, hx3⟩; refine ⟨_, rfl, ?_⟩)
          | (refine step_app elemN rfl _ _ rfl (mem s) rfl rfl (HT.out.dr.ext hx3) rfl o3.rd rfl ?_ ?_ ?_; exact HLE.out; exact Nat.le_trans (hx1.tr hx2).size hx3.size; intro aa c4 w4 h1 h2))
        simp only [Act.put, List.getElem_toArray, List.getElem_cons_succ, List.getElem_cons_zero, List.setIfInBounds_toArray, List.set_cons_succ, List.set_cons_zero]
        go_wp2_with fail
        go_roundw
        case rel =>
          refine ⟨N', aa, c4, _, rfl, ?_, h1, ?_, HST.out⟩
          · simp
          · exact ((hx1.tr hx2).dr.tr hx3).grown h2 ((hx1.tr hx2).dr.tr hx3).size (fun q hq => by
              obtain ⟨p, hp, rfl⟩ := Option.map_eq_some_iff.1 hq
              exact (HT.out.blk p hp).1)
        case measure =>
          have := HM2.out
          simp [intOf, lenOf] at this ⊢
          omega

end Go.Proofs.Ytkdncpglgdiicaa
