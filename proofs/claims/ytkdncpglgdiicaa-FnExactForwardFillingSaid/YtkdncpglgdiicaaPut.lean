/- A number put to its place: the reference's walk. -/
import Derived.Test.YtkdncpglgdiicaaSpec1
import Derived.Test.YtkdncpglgdiicaaSReach
namespace Go.Proofs.Ytkdncpglgdiicaa
open Go Go.RowKit Go.Sort

theorem takeWhile_len (l : List Nat) (n k : Nat) (hk : k ≤ l.length) (h1 : ∀ j (h : j < k), l[j] < n) (h2 : ∀ h : k < l.length, ¬ l[k] < n) : l.takeWhile (· < n) = l.take k ∧ l.dropWhile (· < n) = l.drop k := by
  induction l generalizing k with
  | nil => simp
  | cons x l ih =>
    cases k with
    | zero =>
      have := h2 (by simp)
      simp only [List.getElem_cons_zero] at this
      simp [this]
    | succ k =>
      have hx := h1 0 (by omega)
      simp only [List.getElem_cons_zero] at hx
      have := ih k (by simpa using hk) (fun j hj => by simpa using h1 (j + 1) (by omega)) (fun h => h2 (by simpa using h))
      simp [hx, this.1, this.2]

set_option maxRecDepth 100000 in
set_option maxHeartbeats 1000000 in
/-- A number that is not there. -/
theorem l1Put_any (l : List Nat) (n : Nat) (a : Option Addr) (c : Nat) (w : World) (hr : Rd EN w a l) (hl : l.length ≤ 1000000) (hlc : l.length ≤ c) (hn : n ∉ l) (hpos : 0 < l.length) :
    Calls Try.prog 191 #[.slice a l.length c, .int .i64 (n : Int)] w fun e w' => ∃ a' c', e = .returned (.slice a' (putN l n).length c') ∧ Own EN 3 w' w.heap.size a' c' (putN l n) ∧ Ext w w' := by
  have HN := Lib.hid hn
  have HR := Lib.hid hr
  clear hn
  obtain ⟨b, off, rfl, hc0⟩ := hr.n hpos
  have HC := Lib.hid hc0
  clear hc0
  go_enter Try.func191, Try.ntmps191
  go_wp2_with fail
  go_loop [5] (fun i => ∃ k : Nat, k ≤ l.length ∧ i = .int .i64 k ∧ ∀ j (h : j < k) (h' : j < l.length), l[j] < n) (fun i => l.length - (intOf i).toNat)
  case atStart => exact ⟨0, by omega, rfl, fun j h => by omega⟩
  case round =>
    obtain ⟨k, hk, rfl, hf⟩ := hrel
    have HF := Lib.hid hf
    clear hf
    by_cases hlt : k < l.length
    · have hc1 := HC.out k hlt
      have hne : l[k] ≠ n := fun e => HN.out (by rw [← e]; exact List.getElem_mem hlt)
      by_cases hln : l[k] < n
      · have d1 : decide (l[k] < n) = true := by simpa using hln
        have HS : Hid (∀ j (h : j < k + 1) (h' : j < l.length), l[j] < n) := by
          intro j h h'
          by_cases e : j = k
          · subst e; exact hln
          · exact HF.out j (by omega) h'
        go_wp2_with fail
        go_round
        case rel => exact ⟨k + 1, by omega, by go_num, HS.out⟩
        case measure => simp [intOf]; omega
      · have d1 : decide (l[k] < n) = false := by simpa using hln
        have d2 := ine hne
        have HT := Lib.hid (takeWhile_len l n k (by omega) (fun j h => HF.out j h (by omega)) (fun _ => hln))
        clear hne
        go_wp2_with fail
        have HB1 : Hid (([] : List Nat).length + (l.take k).length ≤ 1000000000000) := by show _ ≤ _; simp only [List.length_nil, List.length_take]; omega
        have HB2 : Hid (([] ++ l.take k).length + [n].length ≤ 1000000000000) := by show _ ≤ _; simp only [List.nil_append, List.length_singleton, List.length_take]; omega
        have HB3 : Hid (([] ++ l.take k ++ [n]).length + (l.drop k).length ≤ 1000000000000) := by show _ ≤ _; simp only [List.nil_append, List.length_append, List.length_singleton, List.length_take, List.length_drop]; omega
        have HRD : Hid (Rd EN w (some ⟨b, off + k, none⟩) (l.drop k)) := by
          have := HR.out.drop k
          simpa [EN, Hid] using this
        have hkc : (k : Int) ≤ (c : Int) := by omega
        have hkl : (k : Int) ≤ (l.length : Int) := by omega
        have hck : ¬ c = k := by omega
        go_region_law (first
          | (refine step_app (base := w.heap.size) (l := []) elemN rfl _ _ rfl (l.take k) rfl rfl ?_ ?_ ?_ ?_ ?_ ?_ ?_; refine Own.empty (cur := #[]) ?_ ?_; ((try refine hp_dr ?_); first | (refine hp_at ?_; solve | simp) | (refine hp_old (hp_at ?_); solve | simp)); (solve | simp | (simp; omega)); rfl; refine (HR.out.take k).ext ?_; (repeat (first | apply Ext.dr | apply Ext.al)); exact Ext.rf _; (simp only [List.length_take]; omega); exact HB1.out; (solve | simp | (simp; omega)); intro a1 c1 w1 h1 g1; have x1 : Ext w w1 := Below.grown (by (repeat (first | apply Ext.dr | apply Ext.al)); exact Ext.rf _) g1 (by first | (simp; done) | (simp; omega)) (by intro q hq; simp at hq; omega))
          | (refine step_app (base := w.heap.size) (l := [] ++ l.take k) elemN rfl _ _ rfl [n] rfl rfl ?_ ?_ ?_ ?_ ?_ ?_ ?_; (first | exact h1 | exact h1.al _); (simp only [List.nil_append, List.length_take, Nat.zero_add]; omega); (first | exact Rd.one _ _ | (refine Rd.oneAt (heapKept g1 (o := .cells #[.int .i64 (n : Int)] 3) ?_ ?_); ((try refine hp_dr ?_); first | (refine hp_at ?_; solve | simp) | (refine hp_old (hp_at ?_); solve | simp)); simp)); rfl; exact HB2.out; (first | exact x1.size | exact (x1.al _).size); intro a2 c2 w2 h2 g2; have x2 : Ext w w2 := (by first | exact x1.gr g2 h1 (Nat.le_refl _) | exact (x1.al _).gr g2 (h1.al _) (Nat.le_refl _)))
          | (refine step_app (base := w.heap.size) (l := [] ++ l.take k ++ [n]) elemN rfl _ _ rfl (l.drop k) rfl rfl h2 ?_ ?_ ?_ ?_ ?_ ?_; (simp only [List.nil_append, List.length_append, List.length_singleton, List.length_take]; omega); exact HRD.out.ext x2; (solve | simp only [List.length_drop] | (simp only [List.length_drop]; omega)); exact HB3.out; exact x2.size; intro a3 c3 w3 h3 g3; have x3 : Ext w w3 := x2.gr g3 h2 (Nat.le_refl _))
          | fail)
        all_goals
          simp only [Act.put, List.getElem_toArray, List.getElem_cons_succ, List.getElem_cons_zero, List.setIfInBounds_toArray, List.set_cons_succ, List.set_cons_zero]
          go_wp2_with fail
          go_ret
          have e : putN l n = [] ++ l.take k ++ [n] ++ l.drop k := by unfold putN; rw [HT.out.1, HT.out.2]; simp
          rw [e]
          refine ⟨a3, c3, ?_, h3, x3⟩
          simp only [List.nil_append, List.length_append, List.length_singleton, List.length_take, List.length_drop]
          refine ret_slice ?_
          omega
    · have HT := Lib.hid (takeWhile_len l n k (by omega) (fun j h => HF.out j h (by omega)) (fun h => absurd h hlt))
      have HKL : Hid (k = l.length) := by show _ = _; omega
      go_wp2_with fail
      have hkc : (k : Int) ≤ (c : Int) := by omega
      have hkl : (k : Int) ≤ (l.length : Int) := by omega
      by_cases hck : c = k
      · have HRD : Hid (Rd EN w (some ⟨b, off, none⟩) (l.drop k)) := by
          show Rd _ _ _ _
          rw [List.drop_eq_nil_of_le (by rw [HKL.out]; exact Nat.le_refl _)]
          exact Rd.nil _ _ _
        have hck' := hck.symm
        clear hck
        subst hck'
        have HB1 : Hid (([] : List Nat).length + (l.take k).length ≤ 1000000000000) := by show _ ≤ _; simp only [List.length_nil, List.length_take]; omega
        have HB2 : Hid (([] ++ l.take k).length + [n].length ≤ 1000000000000) := by show _ ≤ _; simp only [List.nil_append, List.length_singleton, List.length_take]; omega
        have HB3 : Hid (([] ++ l.take k ++ [n]).length + (l.drop k).length ≤ 1000000000000) := by show _ ≤ _; simp only [List.nil_append, List.length_append, List.length_singleton, List.length_take, List.length_drop]; omega
        go_region_law (first
          | (refine step_app (base := w.heap.size) (l := []) elemN rfl _ _ rfl (l.take k) rfl rfl ?_ ?_ ?_ ?_ ?_ ?_ ?_; refine Own.empty (cur := #[]) ?_ ?_; ((try refine hp_dr ?_); first | (refine hp_at ?_; solve | simp) | (refine hp_old (hp_at ?_); solve | simp)); (solve | simp | (simp; omega)); rfl; refine (HR.out.take k).ext ?_; (repeat (first | apply Ext.dr | apply Ext.al)); exact Ext.rf _; (simp only [List.length_take]; omega); exact HB1.out; (solve | simp | (simp; omega)); intro a1 c1 w1 h1 g1; have x1 : Ext w w1 := Below.grown (by (repeat (first | apply Ext.dr | apply Ext.al)); exact Ext.rf _) g1 (by first | (simp; done) | (simp; omega)) (by intro q hq; simp at hq; omega))
          | (refine step_app (base := w.heap.size) (l := [] ++ l.take k) elemN rfl _ _ rfl [n] rfl rfl ?_ ?_ ?_ ?_ ?_ ?_ ?_; (first | exact h1 | exact h1.al _); (simp only [List.nil_append, List.length_take, Nat.zero_add]; omega); (first | exact Rd.one _ _ | (refine Rd.oneAt (heapKept g1 (o := .cells #[.int .i64 (n : Int)] 3) ?_ ?_); ((try refine hp_dr ?_); first | (refine hp_at ?_; solve | simp) | (refine hp_old (hp_at ?_); solve | simp)); simp)); rfl; exact HB2.out; (first | exact x1.size | exact (x1.al _).size); intro a2 c2 w2 h2 g2; have x2 : Ext w w2 := (by first | exact x1.gr g2 h1 (Nat.le_refl _) | exact (x1.al _).gr g2 (h1.al _) (Nat.le_refl _)))
          | (refine step_app (base := w.heap.size) (l := [] ++ l.take k ++ [n]) elemN rfl _ _ rfl (l.drop k) rfl rfl h2 ?_ ?_ ?_ ?_ ?_ ?_; (simp only [List.nil_append, List.length_append, List.length_singleton, List.length_take]; omega); exact HRD.out.ext x2; (solve | simp only [List.length_drop] | (simp only [List.length_drop]; omega)); exact HB3.out; exact x2.size; intro a3 c3 w3 h3 g3; have x3 : Ext w w3 := x2.gr g3 h2 (Nat.le_refl _))
          | fail)
        all_goals
          simp only [Act.put, List.getElem_toArray, List.getElem_cons_succ, List.getElem_cons_zero, List.setIfInBounds_toArray, List.set_cons_succ, List.set_cons_zero]
          go_wp2_with fail
          go_ret
          have e : putN l n = [] ++ l.take k ++ [n] ++ l.drop k := by unfold putN; rw [HT.out.1, HT.out.2]; simp
          rw [e]
          refine ⟨a3, c3, ?_, h3, x3⟩
          simp only [List.nil_append, List.length_append, List.length_singleton, List.length_take, List.length_drop]
          refine ret_slice ?_
          omega
      · have HRD : Hid (Rd EN w (some ⟨b, off + k, none⟩) (l.drop k)) := by
          have := HR.out.drop k
          simpa [EN, Hid] using this
        have HB1 : Hid (([] : List Nat).length + (l.take k).length ≤ 1000000000000) := by show _ ≤ _; simp only [List.length_nil, List.length_take]; omega
        have HB2 : Hid (([] ++ l.take k).length + [n].length ≤ 1000000000000) := by show _ ≤ _; simp only [List.nil_append, List.length_singleton, List.length_take]; omega
        have HB3 : Hid (([] ++ l.take k ++ [n]).length + (l.drop k).length ≤ 1000000000000) := by show _ ≤ _; simp only [List.nil_append, List.length_append, List.length_singleton, List.length_take, List.length_drop]; omega
        go_region_law (first
          | (refine step_app (base := w.heap.size) (l := []) elemN rfl _ _ rfl (l.take k) rfl rfl ?_ ?_ ?_ ?_ ?_ ?_ ?_; refine Own.empty (cur := #[]) ?_ ?_; ((try refine hp_dr ?_); first | (refine hp_at ?_; solve | simp) | (refine hp_old (hp_at ?_); solve | simp)); (solve | simp | (simp; omega)); rfl; refine (HR.out.take k).ext ?_; (repeat (first | apply Ext.dr | apply Ext.al)); exact Ext.rf _; (simp only [List.length_take]; omega); exact HB1.out; (solve | simp | (simp; omega)); intro a1 c1 w1 h1 g1; have x1 : Ext w w1 := Below.grown (by (repeat (first | apply Ext.dr | apply Ext.al)); exact Ext.rf _) g1 (by first | (simp; done) | (simp; omega)) (by intro q hq; simp at hq; omega))
          | (refine step_app (base := w.heap.size) (l := [] ++ l.take k) elemN rfl _ _ rfl [n] rfl rfl ?_ ?_ ?_ ?_ ?_ ?_ ?_; (first | exact h1 | exact h1.al _); (simp only [List.nil_append, List.length_take, Nat.zero_add]; omega); (first | exact Rd.one _ _ | (refine Rd.oneAt (heapKept g1 (o := .cells #[.int .i64 (n : Int)] 3) ?_ ?_); ((try refine hp_dr ?_); first | (refine hp_at ?_; solve | simp) | (refine hp_old (hp_at ?_); solve | simp)); simp)); rfl; exact HB2.out; (first | exact x1.size | exact (x1.al _).size); intro a2 c2 w2 h2 g2; have x2 : Ext w w2 := (by first | exact x1.gr g2 h1 (Nat.le_refl _) | exact (x1.al _).gr g2 (h1.al _) (Nat.le_refl _)))
          | (refine step_app (base := w.heap.size) (l := [] ++ l.take k ++ [n]) elemN rfl _ _ rfl (l.drop k) rfl rfl h2 ?_ ?_ ?_ ?_ ?_ ?_; (simp only [List.nil_append, List.length_append, List.length_singleton, List.length_take]; omega); exact HRD.out.ext x2; (solve | simp only [List.length_drop] | (simp only [List.length_drop]; omega)); exact HB3.out; exact x2.size; intro a3 c3 w3 h3 g3; have x3 : Ext w w3 := x2.gr g3 h2 (Nat.le_refl _))
          | fail)
        all_goals
          simp only [Act.put, List.getElem_toArray, List.getElem_cons_succ, List.getElem_cons_zero, List.setIfInBounds_toArray, List.set_cons_succ, List.set_cons_zero]
          go_wp2_with fail
          go_ret
          have e : putN l n = [] ++ l.take k ++ [n] ++ l.drop k := by unfold putN; rw [HT.out.1, HT.out.2]; simp
          rw [e]
          refine ⟨a3, c3, ?_, h3, x3⟩
          simp only [List.nil_append, List.length_append, List.length_singleton, List.length_take, List.length_drop]
          refine ret_slice ?_
          omega

end Go.Proofs.Ytkdncpglgdiicaa
