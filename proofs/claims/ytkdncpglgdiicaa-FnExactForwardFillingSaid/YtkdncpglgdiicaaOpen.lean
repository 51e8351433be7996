/- Arguments opened: what a slice or a maze that came in reads as. No program. -/
import Derived.Test.YtkdncpglgdiicaaLib
import Derived.ProofKit
import Derived.OpenShut
import Derived.Deep.Slices
import Derived.Lib.SmallJoins
namespace Go.Proofs.Ytkdncpglgdiicaa
open Go Go.RowKit Go.ChangeShapes Go.WideShapes Go.Deep Go.Joins

section
variable {H : Type} {enc : TypeId × Value → H} {P : Program} {w : World} {base : Nat} {sp : Nat → Bool} {held : Bool} {fuel : Nat} {cs : List Value} {x : DataW H × List MemPlace}

/-- A slice of int. -/
theorem opI {t e : TypeId} (ht : P.underlying t = some (.slice e)) (he : P.underlying e = some (.int .i64)) (hc : P.cellsOf e = 1) (h : DataW.trod enc P w base sp held fuel t cs = some x) :
    ∃ (a : Option Addr) (l : List Int) (c : Nat), cs = [.slice a l.length c] ∧ Rd EI w a l ∧ l.length ≤ c ∧ c ≤ maxLen ∧ ∀ n ∈ l, -9223372036854775808 ≤ n ∧ n ≤ 9223372036854775807 := by
  rcases open_ints ht he hc h with ⟨rfl, _⟩ | ⟨a, len, cap, zs, rfl, _, hl, hm, hz, _, hcell, hwf⟩
  · exact ⟨none, [], 0, rfl, Rd.nil _ _ _, Nat.le_refl _, Nat.zero_le _, by simp⟩
  · have hlen : len ≤ zs.length := by rw [hz]; split <;> omega
    have htl : (zs.take len).length = len := by rw [List.length_take]; omega
    refine ⟨some a, zs.take len, cap, by rw [htl], ?_, by omega, hm, ?_⟩
    · by_cases h0 : 0 < zs.length
      · obtain ⟨b, off, rfl, hc2⟩ := ints_at hcell h0
        refine .inr ⟨b, off, rfl, fun j hj i hi => ?_⟩
        have hi' : i < 1 := hi
        obtain rfl : i = 0 := by omega
        have hj' : j < zs.length := by omega
        rw [List.getElem_take]
        have := hc2 j hj'
        simp only [EI, Nat.mul_one, Nat.add_zero, this, List.getD_eq_getElem?_getD, List.getElem?_eq_getElem hj']
        rfl
      · have : zs = [] := List.eq_nil_of_length_eq_zero (by omega)
        subst this
        exact .inl (by simp)
    · intro n hn
      have := hwf n (List.mem_of_mem_take hn)
      simpa [Lit.wf, IntKind.min, IntKind.max, IntKind.signed, IntKind.bits] using this

theorem byIdx {α : Type} (Q : Nat → α → Prop) : ∀ (n : Nat), (∀ i, i < n → ∃ d, Q i d) → ∃ l : List α, l.length = n ∧ ∀ i (h : i < l.length), Q i l[i]
  | 0, _ => ⟨[], rfl, fun i h => by simp at h⟩
  | n + 1, h => by
    obtain ⟨l, h1, h2⟩ := byIdx Q n (fun i hi => h i (by omega))
    obtain ⟨d, hd⟩ := h n (by omega)
    refine ⟨l ++ [d], by simp [h1], fun i hi => ?_⟩
    by_cases e : i < l.length
    · rw [List.getElem_append_left e]; exact h2 i e
    · have : i = l.length := by simp at hi; omega
      subst this
      simp only [List.getElem_append_right (Nat.le_refl _), Nat.sub_self, List.getElem_singleton]
      rw [h1]; exact hd

/-- A slice of [3]int. -/
theorem opD {t e q : TypeId} (ht : P.underlying t = some (.slice e)) (he : P.underlying e = some (.array 3 q)) (hq : P.underlying q = some (.int .i64)) (hce : P.cellsOf e = 3) (hcq : P.cellsOf q = 1) (h : DataW.trod enc P w base sp held fuel t cs = some x) :
    ∃ (a : Option Addr) (l : List (Int × Int × Int)) (c : Nat), cs = [.slice a l.length c] ∧ Rd ED w a l ∧ l.length ≤ c ∧ c ≤ maxLen ∧ ∀ d ∈ l, (-9223372036854775808 ≤ d.1 ∧ d.1 ≤ 9223372036854775807) ∧ (-9223372036854775808 ≤ d.2.1 ∧ d.2.1 ≤ 9223372036854775807) ∧ (-9223372036854775808 ≤ d.2.2 ∧ d.2.2 ≤ 9223372036854775807) := by
  rcases open_slice ht h with ⟨rfl, _⟩ | ⟨a, len, cap, m, n, D, Pl, rfl, _, hl, hm, hmm, _, hi⟩
  · exact ⟨none, [], 0, rfl, Rd.nil _ _ _, Nat.le_refl _, Nat.zero_le _, by simp⟩
  · have hlen : len ≤ m := by rw [hmm]; split <;> omega
    have hel : ∀ i, i < len → ∃ d : Int × Int × Int, (w.cell? (a.add (i * 3)) = some (.int .i64 d.1) ∧ w.cell? (a.add (i * 3 + 1)) = some (.int .i64 d.2.1) ∧ w.cell? (a.add (i * 3 + 2)) = some (.int .i64 d.2.2)) ∧
        (-9223372036854775808 ≤ d.1 ∧ d.1 ≤ 9223372036854775807) ∧ (-9223372036854775808 ≤ d.2.1 ∧ d.2.1 ≤ 9223372036854775807) ∧ (-9223372036854775808 ≤ d.2.2 ∧ d.2.2 ≤ 9223372036854775807) := by
      intro i hil
      obtain ⟨cs', h1, h2⟩ := hi i (by omega)
      rw [hce] at h1
      obtain ⟨_, hcl, hat⟩ := World.cells?_some h1
      obtain ⟨xs, k, _, _, hl3, _, hx⟩ := DataW.trod_array he h2
      match cs', hcl with
      | [c0, c1, c2], _ =>
        have x0 := hx 0 (by omega)
        have x1 := hx 1 (by omega)
        have x2 := hx 2 (by omega)
        simp only [hcq, Nat.mul_one, List.drop_zero, List.take_succ_cons, List.take_zero, List.drop_succ_cons] at x0 x1 x2
        have ex : ∀ j, j < 3 → ∃ y, xs[j]? = some y := fun j hj => by
          have hxl : xs.length = 3 := by assumption
          exact ⟨xs[j], List.getElem?_eq_getElem (by omega)⟩
        obtain ⟨y0, e0⟩ := ex 0 (by omega)
        obtain ⟨y1, e1⟩ := ex 1 (by omega)
        obtain ⟨y2, e2⟩ := ex 2 (by omega)
        rw [e0] at x0
        rw [e1] at x1
        rw [e2] at x2
        obtain ⟨n0, g0, _, w0⟩ := DataW.trod_int hq x0
        obtain ⟨n1, g1, _, w1⟩ := DataW.trod_int hq x1
        obtain ⟨n2, g2, _, w2⟩ := DataW.trod_int hq x2
        simp only [List.cons.injEq, and_true] at g0 g1 g2
        subst g0 g1 g2
        have q0 := hat 0 (by omega)
        have q1 := hat 1 (by omega)
        have q2 := hat 2 (by omega)
        rw [Go.Deep.add_add] at q0 q1 q2
        refine ⟨(n0, n1, n2), ⟨by simpa using q0, by simpa using q1, by simpa using q2⟩, ?_, ?_, ?_⟩
        · simpa [Lit.wf, IntKind.min, IntKind.max, IntKind.signed, IntKind.bits] using w0
        · simpa [Lit.wf, IntKind.min, IntKind.max, IntKind.signed, IntKind.bits] using w1
        · simpa [Lit.wf, IntKind.min, IntKind.max, IntKind.signed, IntKind.bits] using w2
    obtain ⟨l, hll, hle⟩ := byIdx _ len hel
    subst hll
    refine ⟨some a, l, cap, rfl, ?_, hl, hm, ?_⟩
    · by_cases h0 : l = []
      · exact .inl h0
      · have hp := List.length_pos_iff.2 h0
        obtain ⟨b, off, spot⟩ := a
        have hspot : spot = none := by
          have := (hle 0 hp).1.1
          simpa [Addr.add] using World.cell?_spot this
        subst hspot
        refine .inr ⟨b, off, rfl, fun j hj i hi => ?_⟩
        obtain ⟨⟨q0, q1, q2⟩, _⟩ := hle j hj
        rw [Go.WideShapes.add_plain] at q0 q1 q2
        have hi' : i < 3 := hi
        rcases (by omega : i = 0 ∨ i = 1 ∨ i = 2) with rfl | rfl | rfl
        · simpa [ED] using q0
        · simpa [ED, Nat.add_assoc] using q1
        · simpa [ED, Nat.add_assoc] using q2
    · intro d hd
      obtain ⟨i, hi, rfl⟩ := List.mem_iff_getElem.1 hd
      exact (hle i hi).2
end

end Go.Proofs.Ytkdncpglgdiicaa
