/- Copies: the program's own, the reference's own. -/
import Derived.Test.YtkdncpglgdiicaaSpec1
import Derived.Deep.RegionHeld3
namespace Go.Proofs.Ytkdncpglgdiicaa
open Go Go.RowKit Go.Sort

set_option maxRecDepth 100000 in
theorem cloneI_any {α : Type} {E : Enc α} (hE : Elem Try.prog 23 3 E) (l : List α) (a : Option Addr) (c : Nat) (w : World) (hr : Rd E w a l) (hl : l.length ≤ 1000000000) :
    Calls Try.prog 78 #[.slice a l.length c] w fun e w' => ∃ a' c', e = .returned (.slice a' l.length c') ∧ Own E 3 w' w.heap.size a' c' l ∧ Ext w w' := by
  have HR := Lib.hid hr
  have HL := Lib.hid hl
  clear hr hl
  cases a with
  | none =>
    have hl0 : l = [] := by
      rcases HR.out with h | ⟨b, off, ha, _⟩
      · exact h
      · cases ha
    subst hl0
    have hnil := fun (w : World) (n' c' : Nat) => Lib.run_eql_slice_nil (P := Try.prog) w 23 3 none 0 c n' c' Try.underlying23
    go_enter Try.func78, Try.ntmps78
    go_wp2_with fail
    go_ret
    exact ⟨none, 0, rfl, Own.nil _ _ _ _, Ext.rf _⟩
  | some p =>
    have hnil := fun (w : World) (n' c' : Nat) => Lib.run_eql_slice_nil (P := Try.prog) w 23 3 (some p) l.length c n' c' Try.underlying23
    go_enter Try.func78, Try.ntmps78
    go_wp2_with (at_builtin; refine wpList_app hE rfl _ _ rfl l rfl rfl (Own.made (l := []) w #[] (Nat.le_refl _) (by decide) (by simp) (by simp) (by simp)) rfl (HR.out.ext ((Ext.rf _).al _)) rfl ?_ ?_ ?_; rotate_left 2)
    · intro aa c2 w' h1 h2
      have hx : Ext w w' := ((Ext.rf w).al _).grown h2 ((Ext.rf w).al _).size (fun q hq => by simp at hq; omega)
      go_wp2_with fail
      go_ret
      exact ⟨aa, c2, by simp, h1, hx⟩
    · have := HL.out
      simp only [List.length_nil]
      omega
    · simp

set_option maxRecDepth 100000 in
theorem cloneD_any {α : Type} {E : Enc α} (hE : Elem Try.prog 22 140 E) (l : List α) (a : Option Addr) (c : Nat) (w : World) (hr : Rd E w a l) (hl : l.length ≤ 1000000000) :
    Calls Try.prog 138 #[.slice a l.length c] w fun e w' => ∃ a' c', e = .returned (.slice a' l.length c') ∧ Own E 140 w' w.heap.size a' c' l ∧ Ext w w' := by
  have HR := Lib.hid hr
  have HL := Lib.hid hl
  clear hr hl
  cases a with
  | none =>
    have hl0 : l = [] := by
      rcases HR.out with h | ⟨b, off, ha, _⟩
      · exact h
      · cases ha
    subst hl0
    have hnil := fun (w : World) (n' c' : Nat) => Lib.run_eql_slice_nil (P := Try.prog) w 22 140 none 0 c n' c' Try.underlying22
    go_enter Try.func138, Try.ntmps138
    go_wp2_with fail
    go_ret
    exact ⟨none, 0, rfl, Own.nil _ _ _ _, Ext.rf _⟩
  | some p =>
    have hnil := fun (w : World) (n' c' : Nat) => Lib.run_eql_slice_nil (P := Try.prog) w 22 140 (some p) l.length c n' c' Try.underlying22
    go_enter Try.func138, Try.ntmps138
    go_wp2_with (at_builtin; refine wpList_app hE rfl _ _ rfl l rfl rfl (Own.made (l := []) w #[] (Nat.le_refl _) (by decide) (by simp) (by simp) (by simp)) rfl (HR.out.ext ((Ext.rf _).al _)) rfl ?_ ?_ ?_; rotate_left 2)
    · intro aa c2 w' h1 h2
      have hx : Ext w w' := ((Ext.rf w).al _).grown h2 ((Ext.rf w).al _).size (fun q hq => by simp at hq; omega)
      go_wp2_with fail
      go_ret
      exact ⟨aa, c2, by simp, h1, hx⟩
    · have := HL.out
      simp only [List.length_nil]
      omega
    · simp

/-- A maze's value. -/
def mzv (n : Int) (a1 : Option Addr) (l1 c1 : Nat) (a2 : Option Addr) (l2 c2 : Nat) : Value := .agg #[.int .i64 n, .slice a1 l1 c1, .slice a2 l2 c2]

theorem entersCloneI : Enters Try.prog 78 := fun _ _ => by go_simp
theorem entersCloneD : Enters Try.prog 138 := fun _ _ => by go_simp

set_option maxRecDepth 100000 in
set_option maxHeartbeats 1000000 in
theorem own_any (n : Int) (ds : List ND) (ks : List Nat) (a1 a2 : Option Addr) (c1 c2 : Nat) (w : World) (h1 : Rd EDN w a1 ds) (h2 : Rd EN w a2 ks) (hl1 : ds.length ≤ 1000000) (hl2 : ks.length ≤ 1000000) :
    Calls Try.prog 82 #[.agg #[.int .i64 n, .slice a1 ds.length c1, .slice a2 ks.length c2]] w fun e w' => ∃ b1 d1 b2 d2, e = .returned (.agg #[.int .i64 n, .slice b1 ds.length d1, .slice b2 ks.length d2]) ∧ Own EDN 140 w' w.heap.size b1 d1 ds ∧ Own EN 3 w' w.heap.size b2 d2 ks ∧ Apart b1 b2 ∧ Ext w w' := by
  have H1 := Lib.hid h1
  have H2 := Lib.hid h2
  clear h1 h2
  go_enter Try.func82, Try.ntmps82
  go_wp2_with fail
  obtain ⟨W1, hW1⟩ : ∃ W1, W1 = (w.alloc (.cells #[.int .i64 n, .slice a1 ds.length c1, .slice a2 ks.length c2] 30)).alloc (.cells #[.int .i64 0, .slice none 0 0, .slice none 0 0] 30) := ⟨_, rfl⟩
  rw [← hW1]
  have e1 : Ext w W1 := by rw [hW1]; exact ((Ext.rf _).al _).al _
  have f0 : W1.cell? ⟨w.heap.size, 0, none⟩ = some (.int .i64 n) := by rw [hW1]; go_simp
  have f1 : W1.cell? ⟨w.heap.size, 1, none⟩ = some (.slice a1 ds.length c1) := by rw [hW1]; go_simp
  have f2 : W1.cell? ⟨w.heap.size, 2, none⟩ = some (.slice a2 ks.length c2) := by rw [hW1]; go_simp
  have g0 : W1.heap[w.heap.size + 1]? = some (.cells #[.int .i64 0, .slice none 0 0, .slice none 0 0] 30 (0, 0)) := by rw [hW1]; exact hp_at (by simp)
  have HSZ : Hid (W1.heap.size = w.heap.size + 2) := by show _ = _; rw [hW1]; simp
  clear hW1
  go_region_held3 (fun w' => w'.cell? ⟨w.heap.size, 0, none⟩ = some (.int .i64 n) ∧ w'.cell? ⟨w.heap.size, 1, none⟩ = some (.slice a1 ds.length c1) ∧ w'.cell? ⟨w.heap.size, 2, none⟩ = some (.slice a2 ks.length c2)) (go_keep) (first
    | (refine step_call rfl _ _ rfl #[.slice a1 ds.length c1] (by simp [go_sem]) entersCloneD (cloneD_any elemDN ds a1 c1 _ (H1.out.ext (by first | exact e1.dr)) (by omega)) ?_; rintro e w3 ⟨b1, d1, rfl, o1, x1⟩; refine ⟨_, rfl, ?_⟩; have y0 := x1.cl (Ext.cl (Ext.rf W1).dr f0); have y1 := x1.cl (Ext.cl (Ext.rf W1).dr f1); have y2 := x1.cl (Ext.cl (Ext.rf W1).dr f2))
    | (refine step_call rfl _ _ rfl #[.slice a2 ks.length c2] (by simp [go_sem]) entersCloneI (cloneI_any elemN ks a2 c2 _ (H2.out.ext (e1.dr.tr x1)) (by omega)) ?_; rintro e w4 ⟨b2, d2, rfl, o2, x2⟩; refine ⟨_, rfl, ?_⟩; have z0 := x2.cl y0; have z1 := x2.cl y1; have z2 := x2.cl y2; have zb := x2.bk (x1.bk g0); have zc0 : w4.cell? ⟨w.heap.size + 1, 0, none⟩ = some (.int .i64 0) := cell_of_row w4 _ 0 _ _ _ zb; have zc1 : w4.cell? ⟨w.heap.size + 1, 1, none⟩ = some (.slice none 0 0) := cell_of_row w4 _ 1 _ _ _ zb; have zc2 : w4.cell? ⟨w.heap.size + 1, 2, none⟩ = some (.slice none 0 0) := cell_of_row w4 _ 2 _ _ _ zb; have zf0 := frozen_of_row w4 _ 0 _ _ zb; have zf1 := frozen_of_row w4 _ 1 _ _ zb; have zf2 := frozen_of_row w4 _ 2 _ _ zb)
    | fail)
  all_goals
    clear zf0 zf1 zf2 z0 z1 z2 y0 y1 y2 zb
    go_wp2_with fail
    refine bodyPost_ret (v := .agg #[.int .i64 n, .slice b1 ds.length d1, .slice b2 ks.length d2]) ?_ rfl ?_
    · simp [results, Try.results82, go_sem, zc0, zc1, zc2]
    · have hlt : w.heap.size + 1 < W1.heap.size := by have := HSZ.out; omega
      have hs1 := x1.size
      refine ⟨b1, d1, b2, d2, rfl, ((((o1.ext x2).cs ?_ _).cs ?_ _).cs ?_ _).mono e1.size, (((o2.cs ?_ _).cs ?_ _).cs ?_ _).mono (Nat.le_trans e1.size hs1), Apart.older (fun p hp => (o1.blk p hp).2) (fun p hp => (o2.blk p hp).1), (((((e1.dr.tr x1).tr x2).cs ?_ _).cs ?_ _).cs ?_ _)⟩
      all_goals first
        | exact hlt
        | exact Nat.lt_of_lt_of_le hlt hs1
        | exact Nat.le_succ _

end Go.Proofs.Ytkdncpglgdiicaa
