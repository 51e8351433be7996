/- Keys laid at nodes: the program's walk. -/
import Derived.Test.YtkdncpglgdiicaaWalk3
import Derived.Test.YtkdncpglgdiicaaClear
import Derived.Test.YtkdncpglgdiicaaPureLay
namespace Go.Proofs.Ytkdncpglgdiicaa
open Go Go.RowKit Go.Sort

theorem zeroI : (zeroValue 3).run Try.prog = fun w => .ok (.int .i64 0) w := by
  funext w
  kernel_rfl

/-- What a call leaves that makes a maze. -/
def MzRes (w : World) (n : Int) (ds : List ND) (ks : List Nat) (e : Ending) (w' : World) : Prop :=
  ∃ b1 d1 b2 d2, e = .returned (.agg #[.int .i64 n, .slice b1 ds.length d1, .slice b2 ks.length d2]) ∧ Own EDN 140 w' w.heap.size b1 d1 ds ∧ Own EN 3 w' w.heap.size b2 d2 ks ∧ Apart b1 b2 ∧ Ext w w'

set_option maxRecDepth 100000 in
set_option maxHeartbeats 1000000 in
theorem laid_any (n : Int) (ds : List ND) (ks cs ns : List Nat) (a1 a2 a3 a4 : Option Addr) (c1 c2 c3 c4 : Nat) (w : World) (h1 : Rd EDN w a1 ds) (h2 : Rd EN w a2 ks) (h3 : Rd EN w a3 cs) (h4 : Rd EN w a4 ns) (hl1 : ds.length ≤ 1000) (hl2 : ks.length ≤ 1000) (hl3 : ns.length ≤ cs.length) (hl4 : cs.length ≤ 1000)
    (hns : ∀ x ∈ ns, x < ks.length) (hcs : ∀ x ∈ cs, x < 6) :
    Calls Try.prog 101 #[.agg #[.int .i64 n, .slice a1 ds.length c1, .slice a2 ks.length c2], .slice a3 cs.length c3, .slice a4 ns.length c4] w (MzRes w n ds (layN ks.length cs ns)) := by
  have HN := Lib.hid hns
  have HC := Lib.hid hcs
  have H3 := Lib.hid h3
  have H4 := Lib.hid h4
  clear hns hcs h3 h4
  go_enter Try.func101, Try.ntmps101
  go_wp2_with fail
  refine (own_any n ds ks a1 a2 c1 c2 _ (h1.ext (((Ext.rf _).al _).al _)) (h2.ext (((Ext.rf _).al _).al _)) (by omega) (by omega)).mono ?_
  rintro e w1 ⟨b1, d1, b2, d2, rfl, o1, o2, hap, x1⟩
  have hz1 := x1.size
  go_wp2_with (with_reducible refine wpList_clear elemN zeroI rfl _ rfl rfl (o2.al _) rfl ?_)
  intro w2 o3 g3
  have hb2 : ∀ p, b2 = some p → w.heap.size + 2 ≤ p.block ∧ p.block < w1.heap.size := fun p hp => by
    have h5 := o2.blk p hp
    have h6 : w.heap.size + 1 + 1 ≤ p.block := by simpa using h5.1
    exact ⟨h6, h5.2⟩
  have hne : ∀ q, (q < w.heap.size + 2 ∨ w1.heap.size ≤ q) → some q ≠ Option.map (fun x : Addr => x.block) b2 := by
    intro q hq he
    cases hb : b2 with
    | none => rw [hb] at he; cases he
    | some p =>
      rw [hb] at he
      have h5 := hb2 p hb
      have h6 : q = p.block := by simpa using he
      omega
  have hO : w2.heap[w1.heap.size]? = some (.cells #[.int .i64 n, .slice b1 ds.length d1, .slice b2 ks.length d2] 30 (0, 0)) :=
    heapKept g3 (hp_at rfl) (hne _ (.inr (Nat.le_refl _)))
  have hR : w2.heap[w.heap.size + 1]? = some (.cells #[.int .i64 0, .slice none 0 0, .slice none 0 0] 30 (0, 0)) :=
    heapKept g3 (hp_old (x1.bk (hp_at (by simp)))) (hne _ (.inl (by omega)))
  have xw : Ext w w2 := Ext.gr ((((Ext.rf w).al _).al _).tr x1 |>.al _) g3 (o2.al _) (by simp; omega)
  have o4 : Own EDN 140 w2 (w.heap.size + 1 + 1) b1 d1 ds := by simpa using (o1.al _).keptA g3 hap
  have o5 : Own EN 3 w2 (w.heap.size + 1 + 1) b2 d2 (layK cs ns (List.replicate ks.length 0) 0) := by rw [layK_zero]; simpa using o3
  have hz2 := x1.size
  clear o1 o2 o3 g3 x1 h1 h2
  have HB2 := Lib.hid hb2
  have HAP := Lib.hid hap
  clear hb2 hne hap
  have hz3 : w.heap.size + 2 ≤ w1.heap.size := by simpa using hz2
  clear hz1 hz2
  go_wp2_with fail
  go_loopw [16] (fun i wr => ∃ k : Nat, k ≤ ns.length ∧ i = .int .i64 k ∧ Own EDN 140 wr (w.heap.size + 1 + 1) b1 d1 ds ∧ Own EN 3 wr (w.heap.size + 1 + 1) b2 d2 (layK cs ns (List.replicate ks.length 0) k) ∧
      wr.heap[w1.heap.size]? = some (.cells #[.int .i64 n, .slice b1 ds.length d1, .slice b2 ks.length d2] 30 (0, 0)) ∧ wr.heap[w.heap.size + 1]? = some (.cells #[.int .i64 0, .slice none 0 0, .slice none 0 0] 30 (0, 0)) ∧ Ext w wr) (fun i _ => ns.length - (intOf i).toNat)
  case atStart => exact ⟨0, by omega, rfl, o4, o5, hO, hR, xw⟩
  case round =>
    clear o4 o5 hO hR xw
    obtain ⟨k, hk, rfl, o4, o5, hO, hR, xw⟩ := hrel
    by_cases hlt : k < ns.length
    · have hx := HN.out ns[k] (List.getElem_mem hlt)
      have hlk : (layK cs ns (List.replicate ks.length 0) k).length = ks.length := by rw [layK_len _ _ _ _ (by omega), List.length_replicate]
      obtain ⟨g, off, hbe, hg1, hg2, hcell, hfz⟩ := o5.nAt ns[k] (by omega)
      obtain ⟨hO0, hO1, hO2, _, _, _⟩ := blk3 hO
      obtain ⟨ab, ao, rfl, hn4⟩ := (H4.out.ext xw).n (by omega)
      obtain ⟨cb, co, rfl, hn3⟩ := (H3.out.ext xw).n (by omega)
      have hn4' := hn4 k hlt
      have hn3' := hn3 k (by omega)
      have hc6 := HC.out (cs[k]'(by omega)) (List.getElem_mem _)
      have HS : Hid (layK cs ns (List.replicate ks.length 0) (k + 1) = (layK cs ns (List.replicate ks.length 0) k).set ns[k] ((layK cs ns (List.replicate ks.length 0) k)[ns[k]]'(by omega) ||| 2 ^ (cs[k]'(by omega)))) := by
        show _ = _
        rw [layK_succ _ _ _ _ hlt]
        unfold layS
        simp only [List.getD_eq_getElem?_getD]
        rw [List.getElem?_eq_getElem (by omega), List.getElem?_eq_getElem (by omega)]
        rfl
      have h63 : (layK cs ns (List.replicate ks.length 0) k)[ns[k]]'(by omega) ≤ 63 := layK_le cs ns _ HC.out (fun z hz => by rw [List.eq_of_mem_replicate hz]; decide) k (by omega) _ (List.getElem_mem _)
      obtain ⟨K, hK⟩ : ∃ K, K = (layK cs ns (List.replicate ks.length 0) k)[ns[k]]'(by omega) := ⟨_, rfl⟩
      obtain ⟨c, hc⟩ : ∃ c, c = cs[k]'(by omega) := ⟨_, rfl⟩
      have hnk : ns[k] < (layK cs ns (List.replicate ks.length 0) k).length := by omega
      rw [← hK] at HS hcell h63
      rw [← hc] at HS hn3' hc6
      obtain ⟨y, hy⟩ : ∃ y, y = ns[k] := ⟨_, rfl⟩
      rw [← hy] at HS hcell hfz hn4' hx hnk
      clear hK hc hy hn3 hn4 hlk
      subst hbe
      have hB := or_pow K c (by omega) (by omega)
      go_wp2_with fail
      go_region
      go_wp2_with fail
      have hgg := HB2.out _ rfl
      have o6 := o5.setN y hnk (K ||| 2 ^ c)
      go_roundw
      case rel =>
        refine ⟨k + 1, by omega, by go_num, (o4.keptA (b := some ⟨g, off, none⟩) o6.2 HAP.out).dr, ?_, heapDr (heapCs hO (by have h : g < w1.heap.size := hgg.2; show w1.heap.size ≠ g; omega)), heapDr (heapCs hR (by have h : w.heap.size + 2 ≤ g := hgg.1; show w.heap.size + 1 ≠ g; omega)), (xw.cs (by have h : w.heap.size + 2 ≤ g := hgg.1; show w.heap.size ≤ g; omega) _).dr⟩
        rw [HS.out]
        exact o6.1.dr
      case measure => simp [intOf]; omega
    · obtain ⟨hO0, hO1, hO2, _, _, _⟩ := blk3 hO
      obtain ⟨hR0, hR1, hR2, hF0, hF1, hF2⟩ := blk3 hR
      have HK : Hid (layK cs ns (List.replicate ks.length 0) k = layN ks.length cs ns) := by
        show _ = _
        obtain rfl : k = ns.length := by omega
        rfl
      have hlen : (layN ks.length cs ns).length = ks.length := layN_len _ _ _
      go_wp2_with fail
      refine bodyPost_ret (v := .agg #[.int .i64 n, .slice b1 ds.length d1, .slice b2 ks.length d2]) ?_ rfl ?_
      · simp [results, Try.results101, go_sem, hR0, hR1, hR2]
      · rw [HK.out] at o5
        refine ⟨b1, d1, b2, d2, by rw [hlen], (((o4.cs ?_ _).cs ?_ _).cs ?_ _).mono (by omega), (((o5.cs ?_ _).cs ?_ _).cs ?_ _).mono (by omega), HAP.out, (((xw.cs ?_ _).cs ?_ _).cs ?_ _)⟩
        all_goals first
          | exact Nat.lt_succ_self _
          | exact Nat.le_succ _

end Go.Proofs.Ytkdncpglgdiicaa
