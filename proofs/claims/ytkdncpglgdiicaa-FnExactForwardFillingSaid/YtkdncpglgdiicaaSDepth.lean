/- The depth of a filling by the reference: the walk. -/
import Derived.Test.YtkdncpglgdiicaaSEnt
namespace Go.Proofs.Ytkdncpglgdiicaa
open Go Go.RowKit Go.Sort

theorem entersL2Colours : Enters Try.prog 61 := fun _ _ => by go_simp
theorem entersL9Lay : Enters Try.prog 123 := fun _ _ => by go_simp
theorem entersL3Entered : Enters Try.prog 122 := fun _ _ => by go_simp

set_option maxRecDepth 100000 in
set_option maxHeartbeats 1000000 in
theorem l9Depth_any (n N : Nat) (ds : List ND) (ks ns : List Nat) (a1 a2 a3 : Option Addr) (c1 c2 c3 : Nat) (w : World) (h1 : Rd EDN w a1 ds) (h2 : Rd EN w a2 ks) (h3 : Rd EN w a3 ns) (hd : ∀ d ∈ ds, d.1 < d.2.1 ∧ d.2.1 < n ∧ d.2.2 ≤ 63) (hn : n ≤ 12) (hx : 0 < n) (hlen : ds.length ≤ 1000) (hkn : ks.length = n) (hN : N ≤ 63) (hns : ∀ x ∈ ns, x < n) (hfl : ns.length = (mem N).length) :
    Calls Try.prog 60 #[.agg #[.int .i64 (n : Int), .slice a1 ds.length c1, .slice a2 ks.length c2], .int .i64 (N : Int), .slice a3 ns.length c3] w fun e w' => e = .returned (.int .i64 (depN ds n N ns : Nat)) ∧ Ext w w' := by
  have hm6 : (mem N).length ≤ 6 := mem_len_le (b := 6) (by omega) (by omega)
  have hmc : ∀ c ∈ mem N, c < 6 := fun c hc => mem_lt (N := N) (b := 6) (by omega) hc
  have HLA := Lib.hid fun (b : Option Addr) (d : Nat) w' (hx1 : Ext w w') (hb : Rd EN w' b (mem N)) => l9Lay_any n ds ks (mem N) ns a1 a2 b a3 c1 c2 d c3 w' (h1.ext hx1) (h2.ext hx1) hb (h3.ext hx1) hlen (by omega) (by omega) (by omega) hkn (fun x hx => by rw [hkn]; exact hns x hx) hmc
  have HNR := Lib.hid fun (b1 b2 : Option Addr) (d1 d2 : Nat) w' (hb1 : Rd EDN w' b1 ds) (hb2 : Rd EN w' b2 (layN ks.length (mem N) ns)) => l3Entered_any n ds (layN ks.length (mem N) ns) 0 b1 b2 d1 d2 w' hb1 hb2 hd hn hx hlen (by rw [layN_len, hkn]) (layN_le _ _ _ hmc) (by decide)
  have HD : Hid (depN ds n N ns = (ent ds n (layN ks.length (mem N) ns) 0).getD (n - 1) 0) := by show _ = _; rw [hkn]; rfl
  have HMA := Lib.hid fun w' => l2Colours_any N w' (by omega)
  obtain ⟨L, hL⟩ : ∃ L, L = mem N := ⟨_, rfl⟩
  rw [← hL] at HLA HNR HD HMA
  obtain ⟨K, hK⟩ : ∃ K, K = layN ks.length L ns := ⟨_, rfl⟩
  rw [← hK] at HLA HNR HD
  have hee : (ent ds n K 0).length = n := ent_len _ _ _ _
  obtain ⟨E, hE⟩ : ∃ E, E = ent ds n K 0 := ⟨_, rfl⟩
  rw [← hE] at HNR HD hee
  have hKl : n - 1 < E.length := by rw [hee]; omega
  have HEE := Lib.hid hee
  have hsub : IntKind.i64.wrap ((n : Int) - 1) = ((n - 1 : Nat) : Int) := by rw [IntWalk.i64_in _ ⟨by omega, by omega⟩]; omega
  clear hL hK hE hee hkn h1 h2 h3 hd hns hfl hmc hm6
  go_enter Try.func60, Try.ntmps60
  go_wp2_with fail
  obtain ⟨W1, hW1⟩ : ∃ W1, W1 = w.alloc (.cells #[.int .i64 (n : Int), .slice a1 ds.length c1, .slice a2 ks.length c2] 30) := ⟨_, rfl⟩
  rw [← hW1]
  have e1 : Ext w W1 := by rw [hW1]; exact (Ext.rf _).al _
  have f0 : W1.cell? ⟨w.heap.size, 0, none⟩ = some (.int .i64 (n : Int)) := by rw [hW1]; go_simp
  have f1 : W1.cell? ⟨w.heap.size, 1, none⟩ = some (.slice a1 ds.length c1) := by rw [hW1]; go_simp
  have f2 : W1.cell? ⟨w.heap.size, 2, none⟩ = some (.slice a2 ks.length c2) := by rw [hW1]; go_simp
  clear hW1
  go_region_law (first
    | (refine step_call rfl _ _ rfl #[.int .i64 (N : Int)] (by simp [go_sem]) entersL2Colours (HMA.out _) ?_; rintro e w3 ⟨b1, d1, rfl, o1, x1⟩; refine ⟨_, rfl, ?_⟩; have y0 := x1.cl (Ext.cl (Ext.rf W1).dr f0); have y1 := x1.cl (Ext.cl (Ext.rf W1).dr f1); have y2 := x1.cl (Ext.cl (Ext.rf W1).dr f2))
    | (refine step_call rfl _ _ rfl #[.agg #[.int .i64 (n : Int), .slice a1 ds.length c1, .slice a2 ks.length c2], .slice b1 L.length d1, .slice a3 ns.length c3] (by simp [go_sem]) entersL9Lay (HLA.out b1 d1 _ (e1.dr.tr x1) o1.rd) ?_; rintro e w4 ⟨p1, q1, p2, q2, rfl, m1, m2, mp, x2⟩; refine ⟨_, rfl, ?_⟩; have z0 := x2.cl y0; have z1 := x2.cl y1; have z2 := x2.cl y2)
    | (refine step_call rfl _ _ rfl #[.agg #[.int .i64 (n : Int), .slice p1 ds.length q1, .slice p2 K.length q2], .int .i64 0] (by simp [go_sem]) entersL3Entered (HNR.out p1 p2 q1 q2 _ m1.rd m2.rd) ?_; rintro e w5 ⟨r1, r2, rfl, o5, x3⟩; refine ⟨_, rfl, ?_⟩; have u0 := x3.cl z0; have u1 := x3.cl z1; have u2 := x3.cl z2; obtain ⟨g, off, hgo, _, _, q5, _⟩ := o5.nAt (n - 1) hKl; subst hgo)
    | fail)
  all_goals
    simp only [Act.put, List.getElem_toArray, List.getElem_cons_succ, List.getElem_cons_zero, List.setIfInBounds_toArray, List.set_cons_succ, List.set_cons_zero]
    go_wp2_with fail
    go_ret
    refine ⟨?_, ((e1.dr.tr x1).tr x2).tr x3⟩
    have h : depN ds n N ns = E[n - 1] := by
      rw [HD.out, List.getD_eq_getElem?_getD, List.getElem?_eq_getElem hKl]
      rfl
    rw [h]
    rfl

end Go.Proofs.Ytkdncpglgdiicaa
