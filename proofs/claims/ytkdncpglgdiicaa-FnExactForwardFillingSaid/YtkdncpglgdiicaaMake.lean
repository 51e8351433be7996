/- make, whatever the elements. No program. -/
import Derived.Test.YtkdncpglgdiicaaMid
import Derived.Deep.RegionLaw
namespace Go.Proofs.Ytkdncpglgdiicaa
open Go Go.RowKit

theorem made_flat {α : Type} (E : Enc α) (hk : 0 < E.k) (x0 : α) (zc : Array Value) (hz : zc.toList = E.cells x0) (n : Nat) : (madeCells zc (n * E.k)).toList = (List.replicate n x0).flatMap E.cells := by
  have hzs : zc.size = E.k := by rw [← Array.length_toList, hz, E.len]
  apply List.ext_getElem?
  intro j
  by_cases hj : j < n * E.k
  · have hdiv : j / E.k < n := Nat.div_lt_of_lt_mul (by rw [Nat.mul_comm]; exact hj)
    have hmod := Nat.mod_lt j hk
    have he : j / E.k * E.k + j % E.k = j := by rw [Nat.mul_comm]; exact Nat.div_add_mod j E.k
    have h1 := E.get_flat (List.replicate n x0) (j / E.k) (by simpa using hdiv) (j % E.k) hmod
    rw [he] at h1
    rw [h1, List.getElem_replicate, ← hz]
    have hm2 : j % zc.size < zc.size := by rw [hzs]; exact hmod
    simp only [madeCells, Array.toList_map, Array.toList_range, List.getElem?_map, List.getElem?_range hj, Option.map_some]
    rw [getElem!_pos zc _ hm2, ← hzs]
    simp [hm2]
  · rw [List.getElem?_eq_none (by rw [Array.length_toList, size_madeCells]; omega), List.getElem?_eq_none (by rw [E.len_flat, List.length_replicate]; omega)]

/-- What a program's tables say of an element and its zero. -/
structure Zero {α : Type} (P : Program) (e : TypeId) (E : Enc α) (x0 : α) : Prop where
  info : ∃ i z, P.info? e = some i ∧ i.zero = some z ∧ i.size = E.k ∧ i.bytes ≤ 64 ∧ z.cells.toList = E.cells x0
theorem Zero.of {α : Type} {P : Program} {e : TypeId} {E : Enc α} {x0 : α} {z : Value} {b : Nat} (h2 : (P.info? e).map (fun i => (i.zero, i.size, i.bytes)) = some (some z, E.k, b)) (h3 : z.cells.toList = E.cells x0) (h4 : b ≤ 64) : Zero P e E x0 := by
  obtain ⟨i, hi, a, b', c⟩ := info_parts h2
  exact ⟨i, z, hi, a, b', by omega, h3⟩

theorem run_mk {α : Type} {E : Enc α} {P : Program} {t e : TypeId} {x0 : α} (hE : Elem P t e E) (hz : Zero P e E x0) (w : World) (n : Nat) (hn : n ≤ 100000000) :
    ∃ w', Sem.run P (Instr.makeSlice t (.int .i64 (n : Int)) (.int .i64 (n : Int))) w = .ok (.slice (some ⟨w.heap.size, 0, none⟩) n n) w' ∧ Own E e w' w.heap.size (some ⟨w.heap.size, 0, none⟩) n (List.replicate n x0) ∧ Ext w w' ∧ w'.heap.size = w.heap.size + 1 := by
  obtain ⟨i, z, hi, h0, h1, h2, h3⟩ := hz.info
  have hb : n * i.bytes ≤ 100000000 * 64 := Nat.mul_le_mul hn h2
  have hr := run_make (P := P) w t e i z hE.und hi h0 .i64 .i64 n n (by omega) (Int.le_refl _) (by rw [Int.mul_comm, ← Int.natCast_mul]; omega) (by omega)
  simp only [Int.toNat_natCast, h1] at hr
  refine ⟨_, hr, Own.made w _ (Nat.le_refl _) (by unfold maxLen; omega) (by simp) (by rw [size_madeCells]; exact Nat.le_refl _) ?_, (Ext.rf _).al _, by simp⟩
  rw [made_flat E hE.pos x0 _ h3, List.length_replicate, List.take_of_length_le (by rw [E.len_flat, List.length_replicate]; exact Nat.le_refl _)]

/-- make(T, n), as a step of a walk. -/
theorem wpList_mk {α : Type} {E : Enc α} {P : Program} {t e : TypeId} {x0 : α} (hE : Elem P t e E) (hz : Zero P e E x0) {w : World} {ops : Array Oper} {rest : List Oper} {o : Oper} {a : Act} {Q : Exit → Act → World → Prop} (hg : o.guard = none) (l c : Operand) (hop : o.op = Op.makeSlice t l c)
    (n : Nat) (hl : a.eval l = .int .i64 (n : Int)) (hc : a.eval c = .int .i64 (n : Int)) (hn : n ≤ 100000000)
    (hK : ∀ w', Own E e w' w.heap.size (some ⟨w.heap.size, 0, none⟩) n (List.replicate n x0) → Ext w w' → w'.heap.size = w.heap.size + 1 → wpList P ops Q rest (a.put o.dst (.slice (some ⟨w.heap.size, 0, none⟩) n n)) w') :
    wpList P ops Q (o :: rest) a w := by
  obtain ⟨w', hr, h1, h2, h3⟩ := run_mk hE hz w n hn
  refine wpList_plain hg fun K hK' => ?_
  unfold Oper.wp
  simp [execOp, hop, hl, hc, hr, Result.andThen]
  exact hK' _ _ (hK w' h1 h2 h3)

/-- make(T, n), as a step of a region that draws its order. -/
theorem step_mk {α : Type} {E : Enc α} {P : Program} {t e : TypeId} {x0 : α} (hE : Elem P t e E) (hz : Zero P e E x0) {w : World} {ops : Array Oper} {o : Oper} {a : Act} {K : Act → World → Prop} {Q : Exit → Act → World → Prop} {D : Prop} (hg : o.guard = none) (l c : Operand) (hop : o.op = Op.makeSlice t l c)
    (n : Nat) (hl : a.eval l = .int .i64 (n : Int)) (hc : a.eval c = .int .i64 (n : Int)) (hn : n ≤ 100000000)
    (hK : ∀ w', Own E e w' w.heap.size (some ⟨w.heap.size, 0, none⟩) n (List.replicate n x0) → Ext w w' → w'.heap.size = w.heap.size + 1 → K (a.put o.dst (.slice (some ⟨w.heap.size, 0, none⟩) n n)) w') :
    if Region.wanted o (yielded ops a.tmps) = true then Oper.wp P o a w K Q else D := by
  obtain ⟨w', hr, h1, h2, h3⟩ := run_mk hE hz w n hn
  rw [if_pos (by simp [Region.wanted, hg])]
  unfold Oper.wp
  simp [execOp, hop, hl, hc, hr, Result.andThen]
  exact hK w' h1 h2 h3

/-- The same cells, read otherwise. -/
theorem Own.map {α β : Type} {E : Enc α} {F : Enc β} {e : TypeId} {w : World} {base c : Nat} {a : Option Addr} {l : List β} (f : β → α) (hk : E.k = F.k) (hc : ∀ y, E.cells (f y) = F.cells y) (h : Own F e w base a c l) : Own E e w base a c (l.map f) := by
  rcases h with ⟨h1, h2, h3⟩ | ⟨g, off, cur, h1, h2, h3, h4, h5, h6, h7⟩
  · exact .inl ⟨h1, h2, by rw [h3]; rfl⟩
  · refine .inr ⟨g, off, cur, h1, h2, h3, by simpa using h4, h5, by rw [hk]; exact h6, ?_⟩
    rw [List.length_map, hk, h7, List.flatMap_map]
    congr 1
    funext y
    exact (hc y).symm

end Go.Proofs.Ytkdncpglgdiicaa
