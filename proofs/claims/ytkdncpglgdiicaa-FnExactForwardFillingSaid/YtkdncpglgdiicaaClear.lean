/- The builtin clear on what is owned; make. -/
import Derived.Test.YtkdncpglgdiicaaSpec1
namespace Go.Proofs.Ytkdncpglgdiicaa
open Go Go.RowKit

theorem zeroCells_one (z : Value) (n : Nat) : (Builtin.zeroCells #[z] n).toList = List.replicate n z := by
  apply List.ext_getElem?
  intro i
  simp only [Builtin.zeroCells, Array.toList_map, Array.toList_range, List.getElem?_map, List.size_toArray, List.length_singleton, Nat.mul_one]
  by_cases h : i < n
  · simp [h, Nat.mod_one]
  · simp [h]
theorem rep_cells (n : Nat) : (List.replicate n (0 : Nat)).flatMap EN.cells = List.replicate n (Value.int .i64 0) := by
  induction n with
  | zero => rfl
  | succ n ih => rw [List.replicate_succ, List.flatMap_cons, ih, List.replicate_succ]; rfl

theorem run_clear_Own {P : Program} {t e : TypeId} (hE : Elem P t e EN) (hz : (zeroValue e).run P = fun w => .ok (.int .i64 0) w) (ty : TypeId) (w : World) {base : Nat} {a : Option Addr} {c : Nat} {l : List Nat} (h : Own EN e w base a c l) :
    ∃ w', (Builtin.clear_ #[t] ty #[.slice a l.length c]).run P w = .ok (.tuple #[]) w' ∧ Own EN e w' base a c (List.replicate l.length 0) ∧ w.grownBy w' (a.map (·.block)) := by
  rcases h with ⟨rfl, rfl, rfl⟩ | ⟨g, off, cur, rfl, hb, hg, hle, hcm, hs, ht⟩
  · refine ⟨w, ?_, .inl ⟨rfl, rfl, rfl⟩, World.grownBy.refl _ _⟩
    simp [Builtin.clear_, run_underlying hE.und]
  · by_cases hl : l = []
    · subst hl
      refine ⟨w, ?_, .inr ⟨g, off, cur, rfl, hb, hg, hle, hcm, hs, ht⟩, World.grownBy.refl _ _⟩
      simp [Builtin.clear_, run_underlying hE.und]
    · have hk : EN.k = 1 := rfl
      have hpos := List.length_pos_iff.2 hl
      rw [hk, Nat.mul_one] at hs ht
      have hst := run_storeCells_at P g off e (List.replicate l.length (Value.int .i64 0)) 0 cur w hg (by rw [List.length_replicate]; omega) (by intro v hv; rw [List.eq_of_mem_replicate hv]; rfl)
      simp only [Nat.add_zero, List.length_replicate] at hst
      obtain ⟨cs, hcs⟩ : ∃ cs, cs = (cur.toList.take off ++ List.replicate l.length (Value.int .i64 0) ++ cur.toList.drop (off + l.length)).toArray := ⟨_, rfl⟩
      rw [← hcs] at hst
      refine ⟨w.setRow g cs, ?_, .inr ⟨g, off, cs, rfl, hb, setRow_heap w g cur _ e _ hg, by simpa using hle, hcm, ?_, ?_⟩, ⟨rfl, rfl, rfl, by simp, fun k _ hk => setRow_other w g k _ (fun e => hk (by simp [e]))⟩⟩
      · obtain ⟨n, hn⟩ : ∃ n, l.length = n + 1 := ⟨l.length - 1, by omega⟩
        rw [hn] at hst ⊢
        simp [Builtin.clear_, run_underlying hE.und, hz, Value.cells, zeroCells_one, hst]
      · rw [hcs]
        simp only [List.size_toArray, List.length_append, List.length_take, List.length_drop, List.length_replicate, Array.length_toList, hk]
        omega
      · rw [hk, Nat.mul_one, rep_cells, List.length_replicate, hcs]
        have h1 : (cur.toList.take off).length = off := by rw [List.length_take, Array.length_toList]; omega
        simp only [List.append_assoc]
        rw [List.drop_left' h1, List.take_left' (by simp)]

/-- clear(s), as a step of a walk. -/
theorem wpList_clear {P : Program} {t e : TypeId} (hE : Elem P t e EN) (hz : (zeroValue e).run P = fun w => .ok (.int .i64 0) w) {w : World} {ops : Array Oper} {rest : List Oper} {o : Oper} {a : Act} {Q : Exit → Act → World → Prop} (hgd : o.guard = none) (s : Operand)
    (ho : o.op = .call { callee := .builtin .clear, args := #[s], argTypes := #[t] }) {base : Nat} {aa : Option Addr} {c n : Nat} {l : List Nat}
    (hs : a.eval s = .slice aa n c) (hown : Own EN e w base aa c l) (hn : n = l.length)
    (h : ∀ w', Own EN e w' base aa c (List.replicate l.length 0) → w.grownBy w' (aa.map (·.block)) → wpList P ops Q rest (a.put o.dst (.tuple #[])) w') : wpList P ops Q (o :: rest) a w := by
  subst hn
  obtain ⟨w', hr, h1, h2⟩ := run_clear_Own hE hz o.type w hown
  refine wpList_plain hgd fun K hK => ?_
  unfold Oper.wp execOp
  simp only [ho, resolve, invoke, builtin, Sem.run_bind, Sem.run_pure, Result.andThen_ok, List.map_toArray, List.map_cons, List.map_nil, hs, hr]
  exact hK _ _ (h w' h1 h2)

/-- make([]int, n), as a step of a walk. -/
theorem wpList_make {P : Program} {t e : TypeId} (ht : P.underlying t = some (.slice e)) (hi : (P.info? e).map (fun i => (i.zero, i.size, i.bytes)) = some (some (.int .i64 0), 1, 8)) {w : World} {ops : Array Oper} {rest : List Oper} {o : Oper} {a : Act} {Q : Exit → Act → World → Prop} (hg : o.guard = none) (l c : Operand) (hop : o.op = Op.makeSlice t l c)
    (n : Nat) (hl : a.eval l = .int .i64 (n : Int)) (hc : a.eval c = .int .i64 (n : Int)) (hn : n ≤ 100000000)
    (hK : Own EN e (w.alloc (.cells (Array.replicate n (.int .i64 0)) e)) w.heap.size (some ⟨w.heap.size, 0, none⟩) n (List.replicate n 0) → wpList P ops Q rest (a.put o.dst (.slice (some ⟨w.heap.size, 0, none⟩) n n)) (w.alloc (.cells (Array.replicate n (.int .i64 0)) e))) :
    wpList P ops Q (o :: rest) a w := by
  obtain ⟨i, hi1, hz0, hz1, hz2⟩ := info_parts hi
  refine wpList_plain hg fun K hK' => ?_
  have hr := run_make (P := P) w t e i (.int .i64 0) ht hi1 hz0 .i64 .i64 n n (by omega) (Int.le_refl _) (by rw [hz2]; omega) (by omega)
  simp only [Int.toNat_natCast, hz1, Nat.mul_one] at hr
  have hm : madeCells (Value.int IntKind.i64 0).cells n = Array.replicate n (.int .i64 0) := by
    apply Array.toList_inj.1
    rw [Value.cells, toList_madeCells_one]
    · simp
    all_goals intros; simp_all
  rw [hm] at hr
  unfold Oper.wp
  simp [execOp, hop, hl, hc, hr, Result.andThen]
  refine hK' _ _ (hK ?_)
  refine Own.made w _ (Nat.le_refl _) (by unfold maxLen; omega) (by simp) (by simp [EN]) ?_
  rw [rep_cells]
  simp [EN]

end Go.Proofs.Ytkdncpglgdiicaa
