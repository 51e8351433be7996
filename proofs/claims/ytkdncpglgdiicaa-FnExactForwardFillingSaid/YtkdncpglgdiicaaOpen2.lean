/- Arguments of this program opened: mazes, traps. -/
import Derived.Test.YtkdncpglgdiicaaRows
import Derived.Test.YtkdncpglgdiicaaOpen
namespace Go.Proofs.Ytkdncpglgdiicaa
open Go Go.RowKit Go.ChangeShapes Go.WideShapes Go.Deep Go.Joins

theorem kInt : Try.prog.cellsOf 3 = 1 := by kernel_rfl
theorem kInts : Try.prog.cellsOf 23 = 1 := by kernel_rfl
theorem kDoors : Try.prog.cellsOf 22 = 1 := by kernel_rfl
theorem kDoor : Try.prog.cellsOf 140 = 3 := by kernel_rfl
theorem kMaze : Try.prog.cellsOf 25 = 3 := by kernel_rfl

theorem list3 {α : Type} : ∀ {l : List α}, l.length = 3 → ∃ a b c, l = [a, b, c]
  | [a, b, c], _ => ⟨a, b, c, rfl⟩
theorem list4 {α : Type} : ∀ {l : List α}, l.length = 4 → ∃ a b c d, l = [a, b, c, d]
  | [a, b, c, d], _ => ⟨a, b, c, d, rfl⟩
theorem toBig {n : Nat} (h : n ≤ maxLen) : n ≤ 9223372036854775807 := h
theorem at_some {α : Type} {xs : List α} {n : Nat} (h : xs.length = n) {i : Nat} (hi : i < n) : ∃ y, xs[i]? = some y := ⟨xs[i], List.getElem?_eq_getElem (by omega)⟩

section
variable {H : Type} {enc : TypeId × Value → H} {w : World} {base : Nat} {sp : Nat → Bool} {held : Bool} {fuel : Nat} {cs : List Value} {x : DataW H × List MemPlace}
theorem opInts (h : DataW.trod enc Try.prog w base sp held fuel 23 cs = some x) :
    ∃ (a : Option Addr) (l : List Int) (c : Nat), cs = [.slice a l.length c] ∧ Rd EI w a l ∧ l.length ≤ maxLen := by
  obtain ⟨a, l, c, h1, h2, h3, h4, _⟩ := opI Try.underlying23 Try.underlying3 kInt h
  exact ⟨a, l, c, h1, h2, Nat.le_trans h3 h4⟩
theorem opDoors (h : DataW.trod enc Try.prog w base sp held fuel 22 cs = some x) :
    ∃ (a : Option Addr) (l : List (Int × Int × Int)) (c : Nat), cs = [.slice a l.length c] ∧ Rd ED w a l ∧ l.length ≤ maxLen := by
  obtain ⟨a, l, c, h1, h2, h3, h4, _⟩ := opD Try.underlying22 Try.underlying140 Try.underlying3 kDoor kInt h
  exact ⟨a, l, c, h1, h2, Nat.le_trans h3 h4⟩

/-- A maze among the arguments. -/
theorem opM (h : DataW.trod enc Try.prog w base sp held fuel 25 cs = some x) :
    ∃ (sz : Int) (a1 : Option Addr) (l1 : List (Int × Int × Int)) (c1 : Nat) (a2 : Option Addr) (l2 : List Int) (c2 : Nat), cs = [.int .i64 sz, .slice a1 l1.length c1, .slice a2 l2.length c2] ∧
      Rd ED w a1 l1 ∧ l1.length ≤ maxLen ∧ Rd EI w a2 l2 ∧ l2.length ≤ maxLen := by
  obtain ⟨xs, n, _, _, hl, hxl, hf⟩ := DataW.trod_struct Try.underlying25 h
  obtain ⟨c0, c1, c2, rfl⟩ := list3 (hl.trans kMaze)
  have x0 := hf 0 _ rfl
  have x1 := hf 1 _ rfl
  have x2 := hf 2 _ rfl
  obtain ⟨y0, e0⟩ := at_some hxl (i := 0) (by decide)
  obtain ⟨y1, e1⟩ := at_some hxl (i := 1) (by decide)
  obtain ⟨y2, e2⟩ := at_some hxl (i := 2) (by decide)
  simp only [List.getElem_toArray, List.getElem_cons_zero, List.getElem_cons_succ, kInt, kInts, kDoors, List.drop_zero, List.take_succ_cons, List.take_zero, List.drop_succ_cons] at x0 x1 x2
  rw [e0] at x0
  rw [e1] at x1
  rw [e2] at x2
  obtain ⟨sz, g0, _, _⟩ := DataW.trod_int Try.underlying3 x0
  obtain ⟨a1, l1, d1, g1, r1, m1⟩ := opDoors x1
  obtain ⟨a2, l2, d2, g2, r2, m2⟩ := opInts x2
  simp only [List.cons.injEq, and_true] at g0 g1 g2
  subst g0 g1 g2
  exact ⟨sz, a1, l1, d1, a2, l2, d2, rfl, r1, m1, r2, m2⟩

theorem kTrap : Try.prog.cellsOf 41 = 4 := by kernel_rfl
/-- A trap among the arguments. -/
theorem opT (h : DataW.trod enc Try.prog w base sp held fuel 41 cs = some x) :
    ∃ (sz : Int) (a1 : Option Addr) (l1 : List (Int × Int × Int)) (c1 : Nat) (a2 : Option Addr) (l2 : List Int) (c2 : Nat) (a3 : Option Addr) (l3 : List Int) (c3 : Nat), cs = [.int .i64 sz, .slice a1 l1.length c1, .slice a2 l2.length c2, .slice a3 l3.length c3] ∧
      Rd ED w a1 l1 ∧ l1.length ≤ maxLen ∧ Rd EI w a2 l2 ∧ l2.length ≤ maxLen ∧ Rd EI w a3 l3 ∧ l3.length ≤ maxLen := by
  obtain ⟨xs, n, _, _, hl, hxl, hf⟩ := DataW.trod_struct Try.underlying41 h
  obtain ⟨c0, c1, c2, c3, rfl⟩ := list4 (hl.trans kTrap)
  have x0 := hf 0 _ rfl
  have x1 := hf 1 _ rfl
  obtain ⟨y0, e0⟩ := at_some hxl (i := 0) (by decide)
  obtain ⟨y1, e1⟩ := at_some hxl (i := 1) (by decide)
  simp only [List.getElem_toArray, List.getElem_cons_zero, List.getElem_cons_succ, kMaze, kInts, List.drop_zero, List.take_succ_cons, List.take_zero, List.drop_succ_cons] at x0 x1
  rw [e0] at x0
  rw [e1] at x1
  obtain ⟨sz, a1, l1, d1, a2, l2, d2, g0, r1, m1, r2, m2⟩ := opM x0
  obtain ⟨a3, l3, d3, g3, r3, m3⟩ := opInts x1
  simp only [List.cons.injEq, and_true] at g0 g3
  obtain ⟨h0, h1, h2⟩ := g0
  subst h0 h1 h2 g3
  exact ⟨sz, a1, l1, d1, a2, l2, d2, a3, l3, d3, rfl, r1, m1, r2, m2, r3, m3⟩
end

/-- A struct's cells, as a value. -/
theorem agg_of {P : Program} {t : TypeId} {fs : Array Field} {w : World} {r : Reach} {b0 : Nat} {v : Value} (ht : P.underlying t = some (.struct fs)) (hv : Value.okWide P w r b0 t v) : ∃ cs : List Value, v = .agg cs.toArray ∧ v.cells.toList = cs := by
  obtain ⟨cs, rfl, _⟩ := okWide_struct ht hv
  exact ⟨cs.toList, by simp, rfl⟩

end Go.Proofs.Ytkdncpglgdiicaa
