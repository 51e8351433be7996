/- A maze's copy by the reference. -/
import Derived.Test.YtkdncpglgdiicaaWalk2
namespace Go.Proofs.Ytkdncpglgdiicaa
open Go Go.RowKit Go.Sort

theorem entersL1Own : Enters Try.prog 124 := fun _ _ => by go_simp

set_option maxRecDepth 100000 in
set_option maxHeartbeats 1000000 in
theorem l2Own_any (n : Int) (ds : List ND) (ks : List Nat) (a1 a2 : Option Addr) (c1 c2 : Nat) (w : World) (h1 : Rd EDN w a1 ds) (h2 : Rd EN w a2 ks) (hl1 : ds.length ≤ 1000000) (hl2 : ks.length ≤ 1000000) :
    Calls Try.prog 74 #[.agg #[.int .i64 n, .slice a1 ds.length c1, .slice a2 ks.length c2]] w fun e w' => ∃ b1 d1 b2 d2, e = .returned (.agg #[.int .i64 n, .slice b1 ds.length d1, .slice b2 ks.length d2]) ∧ Own EDN 140 w' w.heap.size b1 d1 ds ∧ Own EN 3 w' w.heap.size b2 d2 ks ∧ Apart b1 b2 ∧ Ext w w' := by
  have H1 := Lib.hid h1
  have H2 := Lib.hid h2
  clear h1 h2
  go_enter Try.func74, Try.ntmps74
  go_wp2_with fail
  obtain ⟨W1, hW1⟩ : ∃ W1, W1 = (w.alloc (.cells #[.int .i64 n, .slice a1 ds.length c1, .slice a2 ks.length c2] 30)).alloc (.cells #[.int .i64 0, .slice none 0 0, .slice none 0 0] 30) := ⟨_, rfl⟩
  rw [← hW1]
  have e1 : Ext w W1 := by rw [hW1]; exact ((Ext.rf _).al _).al _
  have f0 : W1.cell? ⟨w.heap.size, 0, none⟩ = some (.int .i64 n) := by rw [hW1]; go_simp
  have f1 : W1.cell? ⟨w.heap.size, 1, none⟩ = some (.slice a1 ds.length c1) := by rw [hW1]; go_simp
  have f2 : W1.cell? ⟨w.heap.size, 2, none⟩ = some (.slice a2 ks.length c2) := by rw [hW1]; go_simp
  have g0 : W1.heap[w.heap.size + 1]? = some (.cells #[.int .i64 0, .slice none 0 0, .slice none 0 0] 30 (0, 0)) := by rw [hW1]; exact hp_at (by simp)
  have HSZ : Hid (W1.heap.size = w.heap.size + 2) := by show _ = _; rw [hW1]; simp
  have hb0 : w.heap.size < W1.heap.size := by have := HSZ.out; omega
  have hb1 : w.heap.size + 1 < W1.heap.size := by have := HSZ.out; omega
  clear hW1
  have HB1 : Hid (([] : List ND).length + ds.length ≤ 1000000000000) := by show _ ≤ _; simp only [List.length_nil]; omega
  go_region_held3 (fun w' => w'.cell? ⟨w.heap.size, 0, none⟩ = some (.int .i64 n) ∧ w'.cell? ⟨w.heap.size, 1, none⟩ = some (.slice a1 ds.length c1) ∧ w'.cell? ⟨w.heap.size, 2, none⟩ = some (.slice a2 ks.length c2)) (go_keep) (first
    | (refine step_app' (base := W1.heap.size) (l := []) elemDN rfl _ _ rfl ds rfl rfl ?_ ?_ ?_ ?_ ?_ ?_ ?_; refine Own.empty (cur := #[]) ?_ ?_; ((try refine hp_dr ?_); first | (refine hp_at ?_; solve | simp) | (refine hp_old (hp_at ?_); solve | simp)); (solve | simp | (simp; omega)); rfl; refine H1.out.ext (e1.tr ?_); (repeat (first | apply Ext.dr | apply Ext.al)); exact Ext.rf _; rfl; exact HB1.out; (solve | simp | (simp; omega)); intro b1 d1 w3 o1 q1 q2; have x1 : Ext W1 w3 := Below.grown (by (repeat (first | apply Ext.dr | apply Ext.al)); exact Ext.rf _) q1 (by first | (simp; done) | (simp; omega)) (by intro q hq; simp at hq; omega); have y0 := x1.cl f0; have y1 := x1.cl f1; have y2 := x1.cl f2)
    | (refine step_call rfl _ _ rfl #[.slice a2 ks.length c2] (by simp [go_sem]) entersL1Own (l1Own_any elemN ks a2 c2 _ (H2.out.ext (e1.tr x1)) (by omega)) ?_; rintro e w4 ⟨b2, d2, rfl, o2, x2⟩; refine ⟨_, rfl, ?_⟩; have z0 := x2.cl y0; have z1 := x2.cl y1; have z2 := x2.cl y2; have zb := x2.bk (x1.bk g0); have zc0 : w4.cell? ⟨w.heap.size + 1, 0, none⟩ = some (.int .i64 0) := cell_of_row w4 _ 0 _ _ _ zb; have zc1 : w4.cell? ⟨w.heap.size + 1, 1, none⟩ = some (.slice none 0 0) := cell_of_row w4 _ 1 _ _ _ zb; have zc2 : w4.cell? ⟨w.heap.size + 1, 2, none⟩ = some (.slice none 0 0) := cell_of_row w4 _ 2 _ _ _ zb; have zf0 := frozen_of_row w4 _ 0 _ _ zb; have zf1 := frozen_of_row w4 _ 1 _ _ zb; have zf2 := frozen_of_row w4 _ 2 _ _ zb)
    | fail)
  all_goals
    clear zf0 zf1 zf2 z0 z1 z2 y0 y1 y2 zb
    go_wp2_with fail
    refine bodyPost_ret (v := .agg #[.int .i64 n, .slice b1 ds.length d1, .slice b2 ks.length d2]) ?_ rfl ?_
    · simp [results, Try.results74, go_sem, zc0, zc1, zc2]
    · have hlt : w.heap.size + 1 < W1.heap.size := hb1
      have hs1 := x1.size
      refine ⟨b1, d1, b2, d2, rfl, ((((o1.ext x2).cs ?_ _).cs ?_ _).cs ?_ _).mono e1.size, (((o2.cs ?_ _).cs ?_ _).cs ?_ _).mono (Nat.le_trans e1.size hs1), Apart.older (fun p hp => (o1.blk p hp).2) (fun p hp => (o2.blk p hp).1), (((((e1.tr x1).tr x2).cs ?_ _).cs ?_ _).cs ?_ _)⟩
      all_goals first
        | exact hlt
        | exact Nat.lt_of_lt_of_le hlt hs1
        | exact Nat.le_succ _

end Go.Proofs.Ytkdncpglgdiicaa
