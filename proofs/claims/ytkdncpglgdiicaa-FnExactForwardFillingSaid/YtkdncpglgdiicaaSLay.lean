/- Keys laid at nodes: the reference's walk. -/
import Derived.Test.YtkdncpglgdiicaaLay
namespace Go.Proofs.Ytkdncpglgdiicaa
open Go Go.RowKit Go.Sort

set_option maxRecDepth 100000 in
set_option maxHeartbeats 1000000 in
theorem l9Lay_any (n : Nat) (ds : List ND) (ks cs ns : List Nat) (a1 a2 a3 a4 : Option Addr) (c1 c2 c3 c4 : Nat) (w : World) (h1 : Rd EDN w a1 ds) (h2 : Rd EN w a2 ks) (h3 : Rd EN w a3 cs) (h4 : Rd EN w a4 ns) (hl1 : ds.length ≤ 1000) (hl2 : ks.length ≤ 1000) (hl3 : ns.length ≤ cs.length) (hl4 : cs.length ≤ 1000)
    (hkn : ks.length = n) (hns : ∀ x ∈ ns, x < ks.length) (hcs : ∀ x ∈ cs, x < 6) :
    Calls Try.prog 123 #[.agg #[.int .i64 (n : Int), .slice a1 ds.length c1, .slice a2 ks.length c2], .slice a3 cs.length c3, .slice a4 ns.length c4] w (MzRes w n ds (layN ks.length cs ns)) := by
  have HN := Lib.hid hns
  have HC := Lib.hid hcs
  have H3 := Lib.hid h3
  have H4 := Lib.hid h4
  have HKN := Lib.hid hkn
  clear hns hcs h3 h4 hkn
  go_enter Try.func123, Try.ntmps123
  go_wp2_with fail
  refine (l2Own_any n ds ks a1 a2 c1 c2 _ (h1.ext (((Ext.rf _).al _).al _)) (h2.ext (((Ext.rf _).al _).al _)) (by omega) (by omega)).mono ?_
  rintro e w1 ⟨b1, d1, b2, d2, rfl, o1, o2, hap, x1⟩
  have hb2 : ∀ p, b2 = some p → w.heap.size + 2 ≤ p.block ∧ p.block < w1.heap.size := fun p hp => by
    have h5 := o2.blk p hp
    have h6 : w.heap.size + 1 + 1 ≤ p.block := by simpa using h5.1
    exact ⟨h6, h5.2⟩
  have hz2 := x1.size
  have hz3 : w.heap.size + 2 ≤ w1.heap.size := by simpa using hz2
  have hO : (w1.alloc (.cells #[.int .i64 (n : Int), .slice b1 ds.length d1, .slice b2 ks.length d2] 30)).heap[w1.heap.size]? = some (.cells #[.int .i64 (n : Int), .slice b1 ds.length d1, .slice b2 ks.length d2] 30 (0, 0)) := hp_at rfl
  have hM : (w1.alloc (.cells #[.int .i64 (n : Int), .slice b1 ds.length d1, .slice b2 ks.length d2] 30)).heap[w.heap.size]? = some (.cells #[.int .i64 (n : Int), .slice a1 ds.length c1, .slice a2 ks.length c2] 30 (0, 0)) := hp_old (x1.bk (hp_old (hp_at rfl)))
  have hR : (w1.alloc (.cells #[.int .i64 (n : Int), .slice b1 ds.length d1, .slice b2 ks.length d2] 30)).heap[w.heap.size + 1]? = some (.cells #[.int .i64 0, .slice none 0 0, .slice none 0 0] 30 (0, 0)) := hp_old (x1.bk (hp_at (by simp)))
  have xw : Ext w (w1.alloc (.cells #[.int .i64 (n : Int), .slice b1 ds.length d1, .slice b2 ks.length d2] 30)) := (((Ext.rf w).al _).al _).tr x1 |>.al _
  have o4 : Own EDN 140 (w1.alloc (.cells #[.int .i64 (n : Int), .slice b1 ds.length d1, .slice b2 ks.length d2] 30)) (w.heap.size + 1 + 1) b1 d1 ds := by simpa using o1.al _
  have o5 : Own EN 3 (w1.alloc (.cells #[.int .i64 (n : Int), .slice b1 ds.length d1, .slice b2 ks.length d2] 30)) (w.heap.size + 1 + 1) b2 d2 ks := by simpa using o2.al _
  have HB2 := Lib.hid hb2
  have HAP := Lib.hid hap
  clear o1 o2 x1 h1 h2 hb2 hap hz2
  go_wp2_with fail
  go_loopw [8] (fun i wr => ∃ k : Nat, k ≤ n ∧ i = .int .i64 k ∧ Own EDN 140 wr (w.heap.size + 1 + 1) b1 d1 ds ∧ Own EN 3 wr (w.heap.size + 1 + 1) b2 d2 (List.replicate k 0 ++ ks.drop k) ∧
      wr.heap[w1.heap.size]? = some (.cells #[.int .i64 (n : Int), .slice b1 ds.length d1, .slice b2 ks.length d2] 30 (0, 0)) ∧ wr.heap[w.heap.size]? = some (.cells #[.int .i64 (n : Int), .slice a1 ds.length c1, .slice a2 ks.length c2] 30 (0, 0)) ∧ wr.heap[w.heap.size + 1]? = some (.cells #[.int .i64 0, .slice none 0 0, .slice none 0 0] 30 (0, 0)) ∧ Ext w wr) (fun i _ => n - (intOf i).toNat)
  case atStart => exact ⟨0, by omega, rfl, o4, by simpa using o5, hO, hM, hR, xw⟩
  case round =>
    clear o4 o5 hO hM hR xw
    obtain ⟨k, hk, rfl, o4, o5, hO, hM, hR, xw⟩ := hrel
    obtain ⟨hO0, hO1, hO2, _, _, _⟩ := blk3 hO
    obtain ⟨hM0, hM1, hM2, _, _, _⟩ := blk3 hM
    by_cases hlt : k < n
    · have hkl := HKN.out
      have hl1 : (List.replicate k 0 ++ ks.drop k).length = ks.length := by simp; omega
      obtain ⟨g, off, hbe, hg1, hg2, hcell, hfz⟩ := o5.nAt k (by rw [hl1, hkl]; exact hlt)
      have HS : Hid ((List.replicate k 0 ++ ks.drop k).set k 0 = List.replicate (k + 1) 0 ++ ks.drop (k + 1)) := by
        show _ = _
        rw [List.set_append_right _ _ (by simp), List.length_replicate, Nat.sub_self, List.drop_eq_getElem_cons (by omega), List.set_cons_zero, List.replicate_succ']
        simp
      subst hbe
      have o6 := o5.setN k (by rw [hl1, hkl]; exact hlt) 0
      have hkk : k < ks.length := by omega
      obtain ⟨v, hv⟩ : ∃ v, v = (List.replicate k 0 ++ ks.drop k)[k]'(by rw [hl1, hkl]; exact hlt) := ⟨_, rfl⟩
      rw [← hv] at hcell
      clear hv
      clear hkl hl1
      go_wp2_with fail
      have hgg := HB2.out _ rfl
      go_roundw
      case rel =>
        refine ⟨k + 1, by omega, by go_num, o4.keptA (b := some ⟨g, off, none⟩) o6.2 HAP.out, ?_, heapCs hO (by have h : g < w1.heap.size := hgg.2; show w1.heap.size ≠ g; omega), heapCs hM (by have h : w.heap.size + 2 ≤ g := hgg.1; show w.heap.size ≠ g; omega), heapCs hR (by have h : w.heap.size + 2 ≤ g := hgg.1; show w.heap.size + 1 ≠ g; omega), xw.cs (by have h : w.heap.size + 2 ≤ g := hgg.1; show w.heap.size ≤ g; omega) _⟩
        rw [← HS.out]
        exact o6.1
      case measure => simp [intOf]; omega
    · have o7 : Own EN 3 wr (w.heap.size + 1 + 1) b2 d2 (layK cs ns (List.replicate ks.length 0) 0) := by
        have hkl := HKN.out
        rw [layK_zero]
        have : List.replicate k 0 ++ ks.drop k = List.replicate ks.length 0 := by
          rw [List.drop_eq_nil_of_le (by omega), List.append_nil]
          congr 1
          omega
        rwa [this] at o5
      clear o5
      go_wp2_with fail
      clear hM0 hM1 hM2 hO0 hO1 hO2
      obtain ⟨wo, rfl⟩ : ∃ wo : World, wo = wr := ⟨_, rfl⟩
      go_loopw [9] (fun i wr => ∃ k : Nat, k ≤ ns.length ∧ i = .int .i64 k ∧ Own EDN 140 wr (w.heap.size + 1 + 1) b1 d1 ds ∧ Own EN 3 wr (w.heap.size + 1 + 1) b2 d2 (layK cs ns (List.replicate ks.length 0) k) ∧
          wr.heap[w1.heap.size]? = some (.cells #[.int .i64 (n : Int), .slice b1 ds.length d1, .slice b2 ks.length d2] 30 (0, 0)) ∧ wr.heap[w.heap.size]? = some (.cells #[.int .i64 (n : Int), .slice a1 ds.length c1, .slice a2 ks.length c2] 30 (0, 0)) ∧ wr.heap[w.heap.size + 1]? = some (.cells #[.int .i64 0, .slice none 0 0, .slice none 0 0] 30 (0, 0)) ∧ Ext w wr) (fun i _ => ns.length - (intOf i).toNat)
      case atStart => exact ⟨0, by omega, rfl, o4, o7, hO, hM, hR, xw⟩
      case round =>
        clear o4 o7 hO hM hR xw hk
        obtain ⟨k, hk, rfl, o4, o5, hO, hM, hR, xw⟩ := hrel
        by_cases hlt : k < ns.length
        · have hx := HN.out ns[k] (List.getElem_mem hlt)
          have hlk : (layK cs ns (List.replicate ks.length 0) k).length = ks.length := by rw [layK_len _ _ _ _ (by omega), List.length_replicate]
          obtain ⟨g, off, hbe, hg1, hg2, hcell, hfz⟩ := o5.nAt ns[k] (by omega)
          obtain ⟨hO0, hO1, hO2, _, _, _⟩ := blk3 hO
          obtain ⟨ab, ao, rfl, hn4⟩ := (H4.out.ext xw).n (by omega)
          obtain ⟨cb, co, rfl, hn3⟩ := (H3.out.ext xw).n (by omega)
          have hn4' := hn4 k hlt
          have hn3' := hn3 k (by omega)
          have hc6 := HC.out (cs[k]'(by omega)) (List.getElem_mem _)
          have HS : Hid (layK cs ns (List.replicate ks.length 0) (k + 1) = (layK cs ns (List.replicate ks.length 0) k).set ns[k] ((layK cs ns (List.replicate ks.length 0) k)[ns[k]]'(by omega) ||| 2 ^ (cs[k]'(by omega)))) := by
            show _ = _
            rw [layK_succ _ _ _ _ hlt]
            unfold layS
            simp only [List.getD_eq_getElem?_getD]
            rw [List.getElem?_eq_getElem (by omega), List.getElem?_eq_getElem (by omega)]
            rfl
          have h63 : (layK cs ns (List.replicate ks.length 0) k)[ns[k]]'(by omega) ≤ 63 := layK_le cs ns _ HC.out (fun z hz => by rw [List.eq_of_mem_replicate hz]; decide) k (by omega) _ (List.getElem_mem _)
          obtain ⟨K, hK⟩ : ∃ K, K = (layK cs ns (List.replicate ks.length 0) k)[ns[k]]'(by omega) := ⟨_, rfl⟩
          obtain ⟨c, hc⟩ : ∃ c, c = cs[k]'(by omega) := ⟨_, rfl⟩
          have hnk : ns[k] < (layK cs ns (List.replicate ks.length 0) k).length := by omega
          rw [← hK] at HS hcell h63
          rw [← hc] at HS hn3' hc6
          obtain ⟨y, hy⟩ : ∃ y, y = ns[k] := ⟨_, rfl⟩
          rw [← hy] at HS hcell hfz hn4' hx hnk
          clear hK hc hy hn3 hn4 hlk
          subst hbe
          have hB := or_pow K c (by omega) (by omega)
          go_wp2_with fail
          go_region
          go_wp2_with fail
          have hgg := HB2.out _ rfl
          have o6 := o5.setN y hnk (K ||| 2 ^ c)
          go_roundw
          case rel =>
            refine ⟨k + 1, by omega, by go_num, (o4.keptA (b := some ⟨g, off, none⟩) o6.2 HAP.out).dr, ?_, heapDr (heapCs hO (by have h : g < w1.heap.size := hgg.2; show w1.heap.size ≠ g; omega)), heapDr (heapCs hM (by have h : w.heap.size + 2 ≤ g := hgg.1; show w.heap.size ≠ g; omega)), heapDr (heapCs hR (by have h : w.heap.size + 2 ≤ g := hgg.1; show w.heap.size + 1 ≠ g; omega)), (xw.cs (by have h : w.heap.size + 2 ≤ g := hgg.1; show w.heap.size ≤ g; omega) _).dr⟩
            rw [HS.out]
            exact o6.1.dr
          case measure => simp [intOf]; omega
        · obtain ⟨hO0, hO1, hO2, _, _, _⟩ := blk3 hO
          obtain ⟨hR0, hR1, hR2, hF0, hF1, hF2⟩ := blk3 hR
          have HK : Hid (layK cs ns (List.replicate ks.length 0) k = layN ks.length cs ns) := by
            show _ = _
            obtain rfl : k = ns.length := by omega
            rfl
          have hlen : (layN ks.length cs ns).length = ks.length := layN_len _ _ _
          go_wp2_with fail
          refine bodyPost_ret (v := .agg #[.int .i64 (n : Int), .slice b1 ds.length d1, .slice b2 ks.length d2]) ?_ rfl ?_
          · simp [results, Try.results123, go_sem, hR0, hR1, hR2]
          · rw [HK.out] at o5
            refine ⟨b1, d1, b2, d2, by rw [hlen], (((o4.cs ?_ _).cs ?_ _).cs ?_ _).mono (by omega), (((o5.cs ?_ _).cs ?_ _).cs ?_ _).mono (by omega), HAP.out, (((xw.cs ?_ _).cs ?_ _).cs ?_ _)⟩
            all_goals first
              | exact Nat.lt_succ_self _
              | exact Nat.le_succ _


end Go.Proofs.Ytkdncpglgdiicaa
