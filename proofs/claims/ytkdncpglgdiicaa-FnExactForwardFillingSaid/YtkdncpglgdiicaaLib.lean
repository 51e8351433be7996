/- Words on memory: what a slice reads as, what a call owns, and how both stay while memory grows. They speak of no program. -/
import Derived.WalkKit
import Derived.WalkSpells
import Derived.WalkLawsBesides
import Derived.KernelRfl
import Derived.Lib.Hide
import Derived.Deep.Draws
namespace Go.Proofs.Ytkdncpglgdiicaa
open Go Go.RowKit

/-- All that was there is as it was; more may have come. -/
abbrev Ext (w w' : World) : Prop := Below w.heap.size w w'

theorem Ext.tr {a b c : World} (h : Ext a b) (k : Ext b c) : Ext a c := Below.trans h (Below.mono k h.size)
theorem Ext.al {a w : World} (h : Ext a w) (o : Obj) : Ext a (w.alloc o) := Below.alloc h h.size o
theorem Ext.dr {a w : World} (h : Ext a w) : Ext a w.drew := Below.drew h
theorem Ext.drN {a w : World} (h : Ext a w) (n : Nat) : Ext a (w.drewN n) := ⟨h.os, h.tape, h.output, h.size, h.block⟩
theorem Ext.cs {a w : World} (h : Ext a w) {p : Addr} (hp : a.heap.size ≤ p.block) (u : Value) : Ext a (w.setCell p u) := Below.setCell h hp u
theorem Ext.rf (w : World) : Ext w w := Below.refl _ _
theorem Ext.cl {w w' : World} (h : Ext w w') {p : Addr} {v : Value} (hc : w.cell? p = some v) : w'.cell? p = some v :=
  (Below.cell h (World.block_lt_of_cell? w p hc)).trans hc
theorem Ext.bk {w w' : World} (h : Ext w w') {b : Nat} {o : Obj} (hc : w.heap[b]? = some o) : w'.heap[b]? = some o :=
  (h.block b (lt_of_block hc)).trans hc

theorem hp_at {w : World} {o : Obj} {n : Nat} (h : n = w.heap.size) : (w.alloc o).heap[n]? = some o := by subst h; exact heap_alloc_new w o
theorem hp_old {w : World} {o p : Obj} {n : Nat} (h : w.heap[n]? = some p) : (w.alloc o).heap[n]? = some p := (Below.heap_alloc w o n (lt_of_block h)).trans h
theorem hp_dr {w : World} {p : Obj} {n : Nat} (h : w.heap[n]? = some p) : w.drew.heap[n]? = some p := h
theorem hp_drN {w : World} {p : Obj} {n k : Nat} (h : w.heap[n]? = some p) : (w.drewN k).heap[n]? = some p := h
theorem ret_bool {a b : Bool} (h : a = b) : Ending.returned (.bool a) = .returned (.bool b) := by rw [h]
theorem ret_slice {a : Option Addr} {x y c : Nat} (h : x = y) : Ending.returned (.slice a x c) = .returned (.slice a y c) := by rw [h]
theorem ret_int {k : IntKind} {a b : Int} (h : a = b) : Ending.returned (.int k a) = .returned (.int k b) := by rw [h]
theorem blk3 {w : World} {b : Nat} {x y z : Value} {t : TypeId} (h : w.heap[b]? = some (.cells #[x, y, z] t (0, 0))) :
    w.cell? ⟨b, 0, none⟩ = some x ∧ w.cell? ⟨b, 1, none⟩ = some y ∧ w.cell? ⟨b, 2, none⟩ = some z ∧ w.frozen? ⟨b, 0, none⟩ = false ∧ w.frozen? ⟨b, 1, none⟩ = false ∧ w.frozen? ⟨b, 2, none⟩ = false :=
  ⟨cell_of_row w b 0 _ t _ h, cell_of_row w b 1 _ t _ h, cell_of_row w b 2 _ t _ h, frozen_of_row w b 0 _ t h, frozen_of_row w b 1 _ t h, frozen_of_row w b 2 _ t h⟩
theorem heapCs {w : World} {b : Nat} {o : Obj} {p : Addr} {u : Value} (h : w.heap[b]? = some o) (hne : b ≠ p.block) : (w.setCell p u).heap[b]? = some o := (Below.heap_setCell w p u b hne).trans h
theorem heapDr {w : World} {b : Nat} {o : Obj} (h : w.heap[b]? = some o) : w.drew.heap[b]? = some o := h
/-- How an element lies in cells. -/
structure Enc (α : Type) where
  k : Nat
  cells : α → List Value
  len : ∀ x, (cells x).length = k
  one : ∀ x, ∀ u ∈ cells x, u.oneCell' = true

def EI : Enc Int := ⟨1, fun n => [.int .i64 n], fun _ => rfl, by intro x u hu; simp at hu; subst hu; rfl⟩
def EN : Enc Nat := ⟨1, fun n => [.int .i64 (n : Int)], fun _ => rfl, by intro x u hu; simp at hu; subst hu; rfl⟩
def ED : Enc (Int × Int × Int) := ⟨3, fun d => [.int .i64 d.1, .int .i64 d.2.1, .int .i64 d.2.2], fun _ => rfl, by
  intro x u hu; simp at hu; rcases hu with rfl | rfl | rfl <;> rfl⟩
def EDN : Enc (Nat × Nat × Nat) := ⟨3, fun d => [.int .i64 (d.1 : Int), .int .i64 (d.2.1 : Int), .int .i64 (d.2.2 : Int)], fun _ => rfl, by
  intro x u hu; simp at hu; rcases hu with rfl | rfl | rfl <;> rfl⟩
def EPN : Enc (Nat × Nat) := ⟨2, fun d => [.int .i64 (d.1 : Int), .int .i64 (d.2 : Int)], fun _ => rfl, by
  intro x u hu; simp at hu; rcases hu with rfl | rfl <;> rfl⟩
def EP : Enc (Int × Int) := ⟨2, fun d => [.int .i64 d.1, .int .i64 d.2], fun _ => rfl, by
  intro x u hu; simp at hu; rcases hu with rfl | rfl <;> rfl⟩
def ES : Enc ByteArray := ⟨1, fun s => [.string s], fun _ => rfl, by intro x u hu; simp at hu; subst hu; rfl⟩
/-- A slice that lies in a cell: its address, its length, its capacity. -/
def EV : Enc (Option Addr × Nat × Nat) := ⟨1, fun s => [.slice s.1 s.2.1 s.2.2], fun _ => rfl, by intro x u hu; simp at hu; subst hu; rfl⟩

theorem Enc.len_flat {α : Type} (E : Enc α) (l : List α) : (l.flatMap E.cells).length = l.length * E.k := by
  induction l with
  | nil => simp
  | cons x l ih => simp [List.flatMap_cons, E.len, ih, Nat.add_mul, Nat.add_comm]

theorem Enc.get_flat {α : Type} (E : Enc α) (l : List α) (j : Nat) (h : j < l.length) (i : Nat) (hi : i < E.k) : (l.flatMap E.cells)[j * E.k + i]? = (E.cells l[j])[i]? := by
  induction l generalizing j with
  | nil => simp at h
  | cons x l ih =>
    rw [List.flatMap_cons]
    cases j with
    | zero => rw [List.getElem?_append_left (by rw [E.len]; omega)]; simp
    | succ j =>
      rw [List.getElem?_append_right (by rw [E.len, Nat.add_mul]; omega), E.len]
      have : (j + 1) * E.k + i - E.k = j * E.k + i := by rw [Nat.add_mul]; omega
      rw [this]
      simpa using ih j (by simpa using h)

theorem Enc.one_flat {α : Type} (E : Enc α) (l : List α) : ∀ u ∈ l.flatMap E.cells, u.oneCell' = true := by
  intro u hu
  obtain ⟨x, _, hx⟩ := List.mem_flatMap.1 hu
  exact E.one x u hx

theorem Enc.set_flat {α : Type} (E : Enc α) (hk : E.k = 1) (l : List α) (j : Nat) (h : j < l.length) (x : α) (u : Value) (hu : E.cells x = [u]) : (l.flatMap E.cells).set j u = (l.set j x).flatMap E.cells := by
  induction l generalizing j with
  | nil => simp at h
  | cons y l ih =>
    obtain ⟨v, hv⟩ : ∃ v, E.cells y = [v] := by
      have := E.len y
      rw [hk] at this
      exact List.length_eq_one_iff.1 this
    cases j with
    | zero => simp [hv, hu]
    | succ j => simpa [hv] using ih j (by simpa using h)

/-- A slice with this address reads as the list. -/
def Rd {α : Type} (E : Enc α) (w : World) (a : Option Addr) (l : List α) : Prop :=
  l = [] ∨ ∃ b off, a = some ⟨b, off, none⟩ ∧ ∀ j (h : j < l.length) i, i < E.k → w.cell? ⟨b, off + j * E.k + i, none⟩ = (E.cells l[j])[i]?

section
variable {α : Type} {E : Enc α} {w w' : World} {a : Option Addr} {l : List α}

theorem Rd.nil (E : Enc α) (w : World) (a : Option Addr) : Rd E w a [] := .inl rfl

theorem Rd.ext (h : Rd E w a l) (hx : Ext w w') : Rd E w' a l := by
  rcases h with h | ⟨b, off, ha, h⟩
  · exact .inl h
  · refine .inr ⟨b, off, ha, fun j hj i hi => ?_⟩
    have h1 := h j hj i hi
    have h2 : i < (E.cells l[j]).length := by rw [E.len]; exact hi
    rw [List.getElem?_eq_getElem h2] at h1 ⊢
    exact hx.cl h1

theorem Rd.pos (h : Rd E w a l) (hl : 0 < l.length) : ∃ b off, a = some ⟨b, off, none⟩ ∧ ∀ j (h : j < l.length) i, i < E.k → w.cell? ⟨b, off + j * E.k + i, none⟩ = (E.cells l[j])[i]? := by
  rcases h with rfl | h
  · simp at hl
  · exact h
end

theorem Rd.oneAt {w : World} {g n : Nat} {t : TypeId} (h : w.heap[g]? = some (.cells #[.int .i64 (n : Int)] t (0, 0))) : Rd EN w (some ⟨g, 0, none⟩) [n] := by
  refine .inr ⟨g, 0, rfl, fun j hj i hi => ?_⟩
  simp only [List.length_singleton] at hj
  have hi' : i < 1 := hi
  obtain rfl : j = 0 := by omega
  obtain rfl : i = 0 := by omega
  simp [EN, World.cell?, h]
/-- A block that no step has touched. -/
theorem heapKept {w w' : World} {row : Option Nat} {g : Nat} {o : Obj} (hg : w.grownBy w' row) (h : w.heap[g]? = some o) (hne : some g ≠ row) : w'.heap[g]? = some o :=
  (hg.block g (lt_of_block h) hne).trans h
theorem Rd.take {α : Type} {E : Enc α} {w : World} {a : Option Addr} {l : List α} (h : Rd E w a l) (k : Nat) : Rd E w a (l.take k) := by
  rcases h with rfl | ⟨b, off, ha, h⟩
  · exact .inl (by simp)
  · refine .inr ⟨b, off, ha, fun j hj i hi => ?_⟩
    have hj' : j < l.length := by simp only [List.length_take] at hj; omega
    rw [List.getElem_take]
    exact h j hj' i hi
theorem Rd.drop {α : Type} {E : Enc α} {w : World} {b off : Nat} {l : List α} (h : Rd E w (some ⟨b, off, none⟩) l) (k : Nat) : Rd E w (some ⟨b, off + k * E.k, none⟩) (l.drop k) := by
  rcases h with rfl | ⟨b', off', ha, h⟩
  · exact .inl (by simp)
  · cases ha
    refine .inr ⟨b, _, rfl, fun j hj i hi => ?_⟩
    have hj' : k + j < l.length := by simp only [List.length_drop] at hj; omega
    rw [List.getElem_drop, ← h (k + j) hj' i hi, Nat.add_mul]
    congr 2
    omega
theorem Rd.i {w : World} {a : Option Addr} {l : List Int} (h : Rd EI w a l) (hl : 0 < l.length) : ∃ b off, a = some ⟨b, off, none⟩ ∧ ∀ j (h : j < l.length), w.cell? ⟨b, off + j, none⟩ = some (.int .i64 l[j]) := by
  obtain ⟨b, off, ha, h⟩ := h.pos hl
  exact ⟨b, off, ha, fun j hj => by simpa [EI] using h j hj 0 (by decide)⟩
theorem Rd.n {w : World} {a : Option Addr} {l : List Nat} (h : Rd EN w a l) (hl : 0 < l.length) : ∃ b off, a = some ⟨b, off, none⟩ ∧ ∀ j (h : j < l.length), w.cell? ⟨b, off + j, none⟩ = some (.int .i64 (l[j] : Int)) := by
  obtain ⟨b, off, ha, h⟩ := h.pos hl
  exact ⟨b, off, ha, fun j hj => by simpa [EN] using h j hj 0 (by decide)⟩
theorem Rd.v {w : World} {a : Option Addr} {l : List (Option Addr × Nat × Nat)} (h : Rd EV w a l) (hl : 0 < l.length) : ∃ b off, a = some ⟨b, off, none⟩ ∧ ∀ j (h : j < l.length), w.cell? ⟨b, off + j, none⟩ = some (.slice l[j].1 l[j].2.1 l[j].2.2) := by
  obtain ⟨b, off, ha, h⟩ := h.pos hl
  exact ⟨b, off, ha, fun j hj => by simpa [EV] using h j hj 0 (by decide)⟩
theorem Rd.d {w : World} {a : Option Addr} {l : List (Int × Int × Int)} (h : Rd ED w a l) (hl : 0 < l.length) : ∃ b off, a = some ⟨b, off, none⟩ ∧ ∀ j (h : j < l.length),
    w.cell? ⟨b, off + j * 3, none⟩ = some (.int .i64 l[j].1) ∧ w.cell? ⟨b, off + j * 3 + 1, none⟩ = some (.int .i64 l[j].2.1) ∧ w.cell? ⟨b, off + j * 3 + 2, none⟩ = some (.int .i64 l[j].2.2) := by
  obtain ⟨b, off, ha, h⟩ := h.pos hl
  exact ⟨b, off, ha, fun j hj => ⟨by simpa [ED] using h j hj 0 (by decide), by simpa [ED] using h j hj 1 (by decide), by simpa [ED] using h j hj 2 (by decide)⟩⟩
theorem Rd.dn {w : World} {a : Option Addr} {l : List (Nat × Nat × Nat)} (h : Rd EDN w a l) (hl : 0 < l.length) : ∃ b off, a = some ⟨b, off, none⟩ ∧ ∀ j (h : j < l.length),
    w.cell? ⟨b, off + j * 3, none⟩ = some (.int .i64 (l[j].1 : Int)) ∧ w.cell? ⟨b, off + j * 3 + 1, none⟩ = some (.int .i64 (l[j].2.1 : Int)) ∧ w.cell? ⟨b, off + j * 3 + 2, none⟩ = some (.int .i64 (l[j].2.2 : Int)) := by
  obtain ⟨b, off, ha, h⟩ := h.pos hl
  exact ⟨b, off, ha, fun j hj => ⟨by simpa [EDN] using h j hj 0 (by decide), by simpa [EDN] using h j hj 1 (by decide), by simpa [EDN] using h j hj 2 (by decide)⟩⟩
/-- The same cells, read otherwise. -/
theorem Rd.map {α β : Type} {E : Enc α} {F : Enc β} {w : World} {a : Option Addr} {l : List α} (f : β → α) (hk : E.k = F.k) (hc : ∀ y, E.cells (f y) = F.cells y) {l' : List β} (hl : l = l'.map f) (h : Rd E w a l) : Rd F w a l' := by
  subst hl
  rcases h with h | ⟨b, off, ha, h⟩
  · exact .inl (by simpa using h)
  · refine .inr ⟨b, off, ha, fun j hj i hi => ?_⟩
    have := h j (by simpa using hj) i (by rw [hk]; exact hi)
    rw [List.getElem_map, hc, hk] at this
    exact this
theorem Rd.unmap {α β : Type} {E : Enc α} {F : Enc β} {w : World} {a : Option Addr} (f : β → α) (hk : E.k = F.k) (hc : ∀ y, E.cells (f y) = F.cells y) {l' : List β} (h : Rd F w a l') : Rd E w a (l'.map f) := by
  rcases h with h | ⟨b, off, ha, h⟩
  · exact .inl (by simpa using h)
  · refine .inr ⟨b, off, ha, fun j hj i hi => ?_⟩
    rw [List.getElem_map, hc, hk]
    exact h j (by simpa using hj) i (by rw [← hk]; exact hi)
theorem Rd.p {w : World} {a : Option Addr} {l : List (Int × Int)} (h : Rd EP w a l) (hl : 0 < l.length) : ∃ b off, a = some ⟨b, off, none⟩ ∧ ∀ j (h : j < l.length),
    w.cell? ⟨b, off + j * 2, none⟩ = some (.int .i64 l[j].1) ∧ w.cell? ⟨b, off + j * 2 + 1, none⟩ = some (.int .i64 l[j].2) := by
  obtain ⟨b, off, ha, h⟩ := h.pos hl
  exact ⟨b, off, ha, fun j hj => ⟨by simpa [EP] using h j hj 0 (by decide), by simpa [EP] using h j hj 1 (by decide)⟩⟩

/-- The call owns the slice, from block 'base' on: a window of a block of its own, or nil. -/
def Own {α : Type} (E : Enc α) (e : TypeId) (w : World) (base : Nat) (a : Option Addr) (c : Nat) (l : List α) : Prop :=
  (a = none ∧ c = 0 ∧ l = []) ∨ ∃ g off cur, a = some ⟨g, off, none⟩ ∧ base ≤ g ∧ w.heap[g]? = some (.cells cur e (0, 0)) ∧ l.length ≤ c ∧ c ≤ maxLen ∧ off + c * E.k ≤ cur.size ∧
    (cur.toList.drop off).take (l.length * E.k) = l.flatMap E.cells

section
variable {α : Type} {E : Enc α} {e : TypeId} {w w' : World} {base : Nat} {a : Option Addr} {c : Nat} {l : List α}

theorem Own.ext (h : Own E e w base a c l) (hx : Ext w w') : Own E e w' base a c l := by
  rcases h with h | ⟨g, off, cur, hv, hb, hg, r⟩
  · exact .inl h
  · exact .inr ⟨g, off, cur, hv, hb, hx.bk hg, r⟩
theorem Own.al (h : Own E e w base a c l) (o : Obj) : Own E e (w.alloc o) base a c l := h.ext ((Ext.rf w).al o)
theorem Own.dr (h : Own E e w base a c l) : Own E e w.drew base a c l := h.ext (Ext.rf w).dr
theorem Own.mono {base' : Nat} (h : Own E e w base a c l) (hb : base' ≤ base) : Own E e w base' a c l := by
  rcases h with h | ⟨g, off, cur, hv, hb', r⟩
  · exact .inl h
  · exact .inr ⟨g, off, cur, hv, Nat.le_trans hb hb', r⟩
theorem Own.cell (h : Own E e w base a c l) : l = [] ∨ ∃ g off, a = some ⟨g, off, none⟩ ∧ base ≤ g ∧ g < w.heap.size ∧ (∀ j, w.frozen? ⟨g, j, none⟩ = false) ∧ ∀ j (h : j < l.length) i, i < E.k → w.cell? ⟨g, off + j * E.k + i, none⟩ = (E.cells l[j])[i]? := by
  rcases h with ⟨_, _, h⟩ | ⟨g, off, cur, hv, hb, hg, hl, hc, hs, ht⟩
  · exact .inl h
  · refine .inr ⟨g, off, hv, hb, lt_of_block hg, fun j => frozen_of_row w g j cur e hg, fun j hj i hi => ?_⟩
    have hlt : j * E.k + i < l.length * E.k := by
      have : (j + 1) * E.k ≤ l.length * E.k := Nat.mul_le_mul_right _ (by omega)
      rw [Nat.add_mul] at this
      omega
    rw [cell_of_row w g _ cur e (0, 0) hg, ← E.get_flat l j hj i hi, ← ht, List.getElem?_take, if_pos hlt, List.getElem?_drop]
    simp [Nat.add_assoc]
theorem Own.rd (h : Own E e w base a c l) : Rd E w a l := by
  rcases h.cell with h | ⟨g, off, ha, _, _, _, h⟩
  · exact .inl h
  · exact .inr ⟨g, off, ha, h⟩
theorem Own.blk (h : Own E e w base a c l) : ∀ p, a = some p → base ≤ p.block ∧ p.block < w.heap.size := by
  intro p hp
  rcases h with ⟨h, _, _⟩ | ⟨g, off, cur, rfl, hb, hg, _⟩
  · rw [h] at hp; cases hp
  · cases hp
    exact ⟨hb, lt_of_block hg⟩
/-- What is owned stays while another block turns. -/
theorem Own.kept {row : Option Nat} (h : Own E e w base a c l) (hg : w.grownBy w' row) (hne : ∀ p, a = .some p → .some p.block ≠ row) : Own E e w' base a c l := by
  rcases h with h | ⟨g, off, cur, rfl, hb, hh, r⟩
  · exact .inl h
  · exact .inr ⟨g, off, cur, rfl, hb, (hg.block g (lt_of_block hh) (hne _ rfl)).trans hh, r⟩
/-- A store into an older block. -/
theorem Own.cs (h : Own E e w base a c l) {p : Addr} (hp : p.block < base) (u : Value) : Own E e (w.setCell p u) base a c l := by
  rcases h with h | ⟨g, off, cur, rfl, hb, hh, r⟩
  · exact .inl h
  · refine .inr ⟨g, off, cur, rfl, hb, ?_, r⟩
    rw [Below.heap_setCell _ _ _ _ (by omega)]
    exact hh
theorem Own.nil (E : Enc α) (e : TypeId) (w : World) (base : Nat) : Own E e w base none 0 ([] : List α) := .inl ⟨rfl, rfl, rfl⟩
theorem Own.le (h : Own E e w base a c l) : l.length ≤ c := by
  rcases h with ⟨_, _, h⟩ | ⟨g, off, cur, rfl, hb, hh, h, _⟩
  · subst h; simp
  · exact h
/-- A new block that is the slice's own. -/
theorem Own.made (w : World) (cs : Array Value) (hb : base ≤ w.heap.size) (hm : c ≤ maxLen) (hl : l.length ≤ c) (hs : c * E.k ≤ cs.size) (hc : cs.toList.take (l.length * E.k) = l.flatMap E.cells) :
    Own E e (w.alloc (.cells cs e)) base (some ⟨w.heap.size, 0, none⟩) c l :=
  .inr ⟨w.heap.size, 0, cs, rfl, hb, heap_alloc_new w _, hl, hm, by omega, by simpa using hc⟩
/-- A block that is all the slice's own. -/
theorem Own.at0 {g : Nat} {cur : Array Value} (hh : w.heap[g]? = some (.cells cur e (0, 0))) (hb : base ≤ g) (hm : c ≤ maxLen) (hl : l.length ≤ c) (hs : c * E.k ≤ cur.size) (hc : cur.toList.take (l.length * E.k) = l.flatMap E.cells) :
    Own E e w base (some ⟨g, 0, none⟩) c l := .inr ⟨g, 0, cur, rfl, hb, hh, hl, hm, by omega, by simpa using hc⟩
theorem Own.empty {g : Nat} {cur : Array Value} (hh : w.heap[g]? = some (.cells cur e (0, 0))) (hb : base ≤ g) : Own E e w base (some ⟨g, 0, none⟩) 0 ([] : List α) :=
  Own.at0 hh hb (Nat.zero_le _) (by simp) (by simp) (by simp)
/-- Less of it from the front. -/
theorem Own.drop {g off : Nat} (h : Own E e w base (some ⟨g, off, none⟩) c l) (j : Nat) (hj : j ≤ l.length) : Own E e w base (some (if c = j then ⟨g, off, none⟩ else ⟨g, off + j * E.k, none⟩)) (c - j) (l.drop j) := by
  rcases h with ⟨h, _⟩ | ⟨g', off', cur, hv, hb, hh, hl, hc, hs, ht⟩
  · cases h
  · cases hv
    have hmul : j * E.k ≤ c * E.k := Nat.mul_le_mul_right _ (by omega)
    have h2 : (l.drop j).length * E.k = l.length * E.k - j * E.k := by rw [List.length_drop, Nat.sub_mul]
    split
    · rename_i hcj
      refine .inr ⟨g, off, cur, rfl, hb, hh, by rw [List.length_drop]; omega, by omega, ?_, ?_⟩
      · subst hcj; simp; omega
      · have : l.length = j := by omega
        subst this
        simp
    · refine .inr ⟨g, _, cur, rfl, hb, hh, by rw [List.length_drop]; omega, by omega, ?_, ?_⟩
      · rw [Nat.sub_mul]; omega
      · have h3 : (l.drop j).flatMap E.cells = (l.flatMap E.cells).drop (j * E.k) := by
          conv => rhs; rw [← List.take_append_drop j l, List.flatMap_append]
          rw [List.drop_left' (by rw [E.len_flat, List.length_take]; congr 1; omega)]
        rw [h3, ← ht, h2, List.drop_take, List.drop_drop]
/-- Less of it from the end. -/
theorem Own.take (h : Own E e w base a c l) (j : Nat) : Own E e w base a c (l.take j) := by
  rcases h with ⟨h, h1, h2⟩ | ⟨g', off', cur, hv, hb, hh, hl, hc, hs, ht⟩
  · subst h2; exact .inl ⟨h, h1, by simp⟩
  · refine .inr ⟨g', off', cur, hv, hb, hh, by rw [List.length_take]; omega, hc, hs, ?_⟩
    have h3 : (l.take j).flatMap E.cells = (l.flatMap E.cells).take ((l.take j).length * E.k) := by
      conv => rhs; rw [← List.take_append_drop j l, List.flatMap_append, List.take_left' (by rw [E.len_flat, List.take_append_drop])]
    have h4 : (l.take j).length * E.k ≤ l.length * E.k := Nat.mul_le_mul_right _ (by rw [List.length_take]; omega)
    rw [h3, ← ht, List.take_take]
    congr 1
    omega
end

theorem Own.n {e : TypeId} {w : World} {base : Nat} {a : Option Addr} {c y : Nat} {l : List Nat} (h : Own EN e w base a c (y :: l)) : ∃ g off, a = some ⟨g, off, none⟩ ∧ base ≤ g ∧ g < w.heap.size ∧ w.cell? ⟨g, off, none⟩ = some (.int .i64 (y : Int)) := by
  rcases h.cell with h | ⟨g, off, ha, hb, hg, _, hc⟩
  · cases h
  · exact ⟨g, off, ha, hb, hg, hc 0 (by simp) 0 (by decide)⟩

/-- Element j of what is owned. -/
theorem Own.nAt {e : TypeId} {w : World} {base : Nat} {a : Option Addr} {c : Nat} {l : List Nat} (h : Own EN e w base a c l) (j : Nat) (hj : j < l.length) : ∃ g off, a = some ⟨g, off, none⟩ ∧ base ≤ g ∧ g < w.heap.size ∧ w.cell? ⟨g, off + j, none⟩ = some (.int .i64 (l[j] : Int)) ∧ w.frozen? ⟨g, off + j, none⟩ = false := by
  rcases h.cell with rfl | ⟨g, off, ha, hb, hg, hf, hc⟩
  · simp at hj
  · exact ⟨g, off, ha, hb, hg, by simpa [EN] using hc j hj 0 (by decide), hf _⟩

theorem Enc.set_flatk {α : Type} (E : Enc α) (l : List α) (j : Nat) (h : j < l.length) (i : Nat) (hi : i < E.k) (x : α) (u : Value) (hu : E.cells x = (E.cells l[j]).set i u) : (l.flatMap E.cells).set (j * E.k + i) u = (l.set j x).flatMap E.cells := by
  induction l generalizing j with
  | nil => simp at h
  | cons y l ih =>
    cases j with
    | zero =>
      simp only [List.getElem_cons_zero] at hu
      simp only [List.flatMap_cons, Nat.zero_mul, Nat.zero_add, List.set_cons_zero, hu]
      rw [List.set_append_left _ _ (by rw [E.len]; exact hi)]
    | succ j =>
      simp only [List.getElem_cons_succ] at hu
      rw [List.flatMap_cons, List.set_cons_succ, List.flatMap_cons, List.set_append_right _ _ (by rw [E.len, Nat.add_mul]; omega), E.len]
      have : (j + 1) * E.k + i - E.k = j * E.k + i := by rw [Nat.add_mul]; omega
      rw [this, ih j (by simpa using h) hu]

/-- A store into a cell of what is owned. -/
theorem Own.setk {α : Type} {E : Enc α} {e : TypeId} {w : World} {base g off c : Nat} {l : List α} (h : Own E e w base (some ⟨g, off, none⟩) c l) (j : Nat) (hj : j < l.length) (i : Nat) (hi : i < E.k) (x : α) (u : Value) (hu : E.cells x = (E.cells l[j]).set i u) :
    Own E e (w.setCell ⟨g, off + j * E.k + i, none⟩ u) base (some ⟨g, off, none⟩) c (l.set j x) ∧ w.grownBy (w.setCell ⟨g, off + j * E.k + i, none⟩ u) (some g) := by
  rcases h with ⟨h, _⟩ | ⟨g', off', cur, hv, hb, hh, hl, hc, hs, ht⟩
  · cases h
  · cases hv
    refine ⟨.inr ⟨g, off, cur.setIfInBounds (off + j * E.k + i) u, rfl, hb, heap_setCell_same w g _ cur e u hh, by simpa using hl, hc, by simpa using hs, ?_⟩,
      ⟨rfl, rfl, rfl, by simp, fun k _ hk => heap_setCell_other w ⟨g, _, none⟩ k u (fun e => hk (by simp [e]))⟩⟩
    rw [Array.toList_setIfInBounds, List.length_set, ← E.set_flatk l j hj i hi x u hu, ← ht, List.drop_set, if_neg (by omega), List.take_set]
    congr 1
    omega

/-- Behind an append to what is owned. -/
theorem Ext.gr {α : Type} {E : Enc α} {e : TypeId} {w wa wb : World} {base : Nat} {a : Option Addr} {c : Nat} {l : List α} (hx : Ext w wa) (hg : wa.grownBy wb (a.map (·.block))) (h : Own E e wa base a c l) (hb : w.heap.size ≤ base) : Ext w wb :=
  hx.grown hg hx.size fun q hq => by
    obtain ⟨p, hp, rfl⟩ := Option.map_eq_some_iff.1 hq
    exact Nat.le_trans hb (h.blk p hp).1
theorem Own.setN {e : TypeId} {w : World} {base g off c : Nat} {l : List Nat} (h : Own EN e w base (some ⟨g, off, none⟩) c l) (j : Nat) (hj : j < l.length) (y : Nat) :
    Own EN e (w.setCell ⟨g, off + j, none⟩ (.int .i64 (y : Int))) base (some ⟨g, off, none⟩) c (l.set j y) ∧ w.grownBy (w.setCell ⟨g, off + j, none⟩ (.int .i64 (y : Int))) (some g) := by
  have := h.setk j hj 0 (by decide) y (.int .i64 (y : Int)) rfl
  simpa [EN] using this
/-- What a program's tables say of a slice type and its elements. -/
structure Elem {α : Type} (P : Program) (t e : TypeId) (E : Enc α) : Prop where
  und : P.underlying t = some (.slice e)
  info : ∃ i z, P.info? e = some i ∧ i.zero = some z ∧ i.size = E.k ∧ z.cells.size = E.k ∧ i.bytes ≤ 64
  pos : 0 < E.k

theorem Elem.of {α : Type} {P : Program} {t e : TypeId} {E : Enc α} {z : Value} {b : Nat} (h1 : P.underlying t = some (.slice e)) (h2 : (P.info? e).map (fun i => (i.zero, i.size, i.bytes)) = some (some z, E.k, b)) (h3 : z.cells.size = E.k) (h4 : b ≤ 64) (h5 : 0 < E.k) : Elem P t e E := by
  obtain ⟨i, hi, a, b', c⟩ := info_parts h2
  exact ⟨h1, ⟨i, z, hi, a, b', h3, by omega⟩, h5⟩

section
variable {P : Program} (w : World)
theorem run_append_room_off (t ty e : TypeId) (i : TypeInfo) (ht : P.underlying t = some (.slice e)) (hi : P.info? e = some i)
    (g off sLen sCap : Nat) (cur : Array Value) (hg : w.heap[g]? = some (.cells cur e (0, 0)))
    (a : Addr) (m c : Nat) (news : List Value) (hl : news.length = m * i.size) (hnews : ∀ j u, news[j]? = some u → w.cell? (a.add j) = some u) (h1 : ∀ u ∈ news, u.oneCell' = true)
    (hroom : sLen + m ≤ sCap) (hfit : off + sLen * i.size + news.length ≤ cur.size) :
    (Builtin.append_ #[t, t] ty #[.slice (some ⟨g, off, none⟩) sLen sCap, .slice (some a) m c]).run P w =
      .ok (.slice (some ⟨g, off, none⟩) (sLen + m) sCap) (w.setRow g (cur.toList.take (off + sLen * i.size) ++ news ++ cur.toList.drop (off + sLen * i.size + news.length)).toArray) := by
  have hf := run_firstCells_some (P := P) w i.size m a m c news hl hnews
  have hst := run_storeCells_at P g (off + sLen * i.size) e news 0 cur w hg (by simpa using hfit) h1
  simp only [Nat.add_zero] at hst
  simp [Builtin.append_, run_underlying ht, sizeOf, typeInfo, hi, Builtin.lenOf, hroom, hf, Addr.add_lit, hst]

theorem run_append_nothing (t ty e : TypeId) (i : TypeInfo) (ht : P.underlying t = some (.slice e)) (hi : P.info? e = some i) (s : Option Addr) (sLen sCap : Nat) (h : sLen ≤ sCap) (b : Option Addr) (c : Nat) :
    (Builtin.append_ #[t, t] ty #[.slice s sLen sCap, .slice b 0 c]).run P w = .ok (.slice s sLen sCap) w := by
  cases s <;> cases b <;> simp [Builtin.append_, run_underlying ht, sizeOf, typeInfo, hi, Builtin.lenOf, h, Builtin.firstCells, loadCells, loadCellsFrom, storeCells]
end

/-- Where an append leaves the slice: in its block, or in a new one. -/
def Moved (a a' : Option Addr) (n : Nat) : Prop := ∀ p, a' = some p → (∃ q, a = some q ∧ q.block = p.block) ∨ n ≤ p.block
theorem Moved.rf (a : Option Addr) (n : Nat) : Moved a a n := fun p hp => .inl ⟨p, hp, rfl⟩
theorem Moved.new (a : Option Addr) (n k : Nat) : Moved a (some ⟨n, k, none⟩) n := fun p hp => .inr (by cases hp; exact Nat.le_refl _)
/-- No two of them lie in one block. -/
def Apart (a b : Option Addr) : Prop := ∀ p q, a = some p → b = some q → p.block ≠ q.block
theorem Apart.symm {a b : Option Addr} (h : Apart a b) : Apart b a := fun p q hp hq e => h q p hq hp e.symm
theorem Apart.moved {a b b' : Option Addr} {n : Nat} (h : Apart a b) (hm : Moved b b' n) (ha : ∀ p, a = some p → p.block < n) : Apart a b' := by
  intro p q hp hq e
  rcases hm q hq with ⟨r, hr, he⟩ | hn
  · exact h p r hp hr (e.trans he.symm)
  · have := ha p hp
    omega
theorem Apart.none (a : Option Addr) : Apart a none := fun _ _ _ h => by cases h
/-- Older against newer. -/
theorem Apart.older {a b : Option Addr} {n : Nat} (ha : ∀ p, a = some p → p.block < n) (hb : ∀ p, b = some p → n ≤ p.block) : Apart a b := fun p q hp hq e => by
  have := ha p hp
  have := hb q hq
  omega
theorem Own.keptA {α : Type} {E : Enc α} {e : TypeId} {w w' : World} {base : Nat} {a b : Option Addr} {c : Nat} {l : List α} (h : Own E e w base a c l) (hg : w.grownBy w' (b.map (·.block))) (hne : Apart a b) : Own E e w' base a c l :=
  h.kept hg fun p hp he => by
    cases hb : b with
    | none => rw [hb] at he; cases he
    | some q =>
      rw [hb] at he
      exact hne p q hp hb (by simpa using he)

/-- append(s, ys...): what it makes, whatever there was room for. -/
theorem run_append_Own' {α : Type} {E : Enc α} {P : Program} {t e : TypeId} (hE : Elem P t e E) (ty : TypeId) (w : World) {base : Nat} {aa : Option Addr} {c : Nat} {l : List α} (hown : Own E e w base aa c l)
    {b : Option Addr} {c' : Nat} {ys : List α} (hy : Rd E w b ys) (hlen : l.length + ys.length ≤ 1000000000000) (hbase : base ≤ w.heap.size) :
    ∃ aa' c2 w', (Builtin.append_ #[t, t] ty #[.slice aa l.length c, .slice b ys.length c']).run P w = .ok (.slice aa' (l.length + ys.length) c2) w' ∧ Own E e w' base aa' c2 (l ++ ys) ∧ w.grownBy w' (aa.map (·.block)) ∧ Moved aa aa' w.heap.size := by
  obtain ⟨i, z, hi, hz, hsz, hzs, hby⟩ := hE.info
  have hbytes : (l.length + ys.length) * i.bytes ≤ 1000000000000 * 64 := Nat.mul_le_mul hlen hby
  by_cases hys : ys = []
  · subst hys
    refine ⟨aa, c, w, ?_, by simpa using hown, World.grownBy.refl _ _, Moved.rf _ _⟩
    exact run_append_nothing w t ty e i hE.und hi aa l.length c hown.le b c'
  · obtain ⟨sb, so, rfl, hcell⟩ := hy.pos (List.length_pos_iff.2 hys)
    have hnews : ∀ j u, (ys.flatMap E.cells)[j]? = some u → w.cell? ((⟨sb, so, none⟩ : Addr).add j) = some u := by
      intro j u hu
      have hj : j < ys.length * E.k := by
        have := (List.getElem?_eq_some_iff.1 hu).1
        rwa [E.len_flat] at this
      have hk := hE.pos
      have hdiv : j / E.k < ys.length := Nat.div_lt_of_lt_mul (by rw [Nat.mul_comm]; exact hj)
      have hmod : j % E.k < E.k := Nat.mod_lt _ hk
      have he : j / E.k * E.k + j % E.k = j := by rw [Nat.mul_comm]; exact Nat.div_add_mod j E.k
      have h1 := hcell (j / E.k) hdiv (j % E.k) hmod
      rw [← E.get_flat ys _ hdiv _ hmod, he, hu, Nat.add_assoc, he] at h1
      rw [Addr.add_lit]
      exact h1
    have hnl : (ys.flatMap E.cells).length = ys.length * i.size := by rw [E.len_flat, hsz]
    have hlen' : ((l.length + ys.length : Nat) : Int) ≤ 9223372036854775807 := by omega
    have hgr : ∀ (old : Nat), old < l.length + ys.length → ∀ (row : Option Nat),
        Own E e (w.drew.alloc (.cells ((l.flatMap E.cells).toArray ++ (ys.flatMap E.cells).toArray ++ Builtin.zeroCells z.cells (grownCap w (l.length + ys.length) old e - (l.length + ys.length))) e)) base
          (some ⟨w.heap.size, 0, none⟩) (grownCap w (l.length + ys.length) old e) (l ++ ys) ∧
        w.grownBy (w.drew.alloc (.cells ((l.flatMap E.cells).toArray ++ (ys.flatMap E.cells).toArray ++ Builtin.zeroCells z.cells (grownCap w (l.length + ys.length) old e - (l.length + ys.length))) e)) row := by
      intro old ho row
      have hge := grownCap_ge w (l.length + ys.length) old e
      have hcm : grownCap w (l.length + ys.length) old e ≤ maxLen := grownCap_le_maxLen w (l.length + ys.length) old e (by unfold maxLen; omega)
      refine ⟨.inr ⟨w.heap.size, 0, _, rfl, hbase, heap_alloc_new w.drew _, by simpa using hge, hcm, ?_, ?_⟩, ⟨rfl, rfl, rfl, by simp, fun k hk _ => Below.heap_alloc w.drew _ k hk⟩⟩
      · simp only [Array.size_append, List.size_toArray, size_zeroCells, hzs, E.len_flat, ← Nat.add_mul]
        refine Nat.le_of_eq ?_
        rw [Nat.zero_add]
        congr 1
        omega
      · simp only [Array.toList_append, List.drop_zero, List.append_assoc, List.flatMap_append]
        rw [← List.append_assoc, List.take_left' (by simp only [List.length_append, E.len_flat, Nat.add_mul])]
    rcases hown with ⟨rfl, rfl, rfl⟩ | ⟨g, off, cur, rfl, hb, hg, hle, hcm, hsize, htake⟩
    · have hr := run_append_nil (P := P) w t ty e i z hE.und hi hz ⟨sb, so, none⟩ ys.length c' (ys.flatMap E.cells) hnl hnews (List.length_pos_iff.2 hys) (by omega) (by simp only [List.length_nil, Nat.zero_add] at hbytes; omega)
      have hg2 := hgr 0 (by have := List.length_pos_iff.2 hys; omega) (Option.map (·.block) (none : Option Addr))
      simp only [List.length_nil, Nat.zero_add, List.nil_append, List.flatMap_nil, Array.empty_append] at hg2 ⊢
      exact ⟨_, _, _, hr, hg2.1, hg2.2, Moved.new _ _ _⟩
    · by_cases hroom : l.length + ys.length ≤ c
      · have hm : (l.length + ys.length) * E.k ≤ c * E.k := Nat.mul_le_mul_right _ hroom
        rw [Nat.add_mul] at hm
        have hr := run_append_room_off (P := P) w t ty e i hE.und hi g off l.length c cur hg ⟨sb, so, none⟩ ys.length c' (ys.flatMap E.cells) hnl hnews (E.one_flat ys) hroom (by rw [hnl, hsz]; omega)
        refine ⟨_, _, _, hr, .inr ⟨g, off, _, rfl, hb, setRow_heap w g cur _ e _ hg, by simpa using hroom, hcm, ?_, ?_⟩, ⟨rfl, rfl, rfl, by simp, fun k _ hk => setRow_other w g k _ (fun e => hk (by simp [e]))⟩, Moved.rf _ _⟩
        · simp only [List.size_toArray, List.length_append, List.length_take, List.length_drop, Array.length_toList, E.len_flat, hsz]
          omega
        · rw [hsz, List.flatMap_append, ← htake]
          apply List.ext_getElem?
          intro q
          simp only [List.getElem?_take, List.getElem?_drop, List.getElem?_append, List.length_append, List.length_take, List.length_drop, Array.length_toList, E.len_flat, Nat.add_mul]
          by_cases hq : q < l.length * E.k
          · rw [if_pos (by omega), if_pos (by omega), if_pos (by omega), if_pos (by omega), if_pos (by omega), if_pos hq]
          · by_cases hq2 : q < l.length * E.k + ys.length * E.k
            · rw [if_pos (by omega), if_pos (by omega), if_neg (by omega), if_neg (by omega)]
              congr 1
              omega
            · rw [if_neg (by omega), if_neg (by omega), List.getElem?_eq_none (by rw [E.len_flat]; omega)]
      · have holds : ∀ j u, (l.flatMap E.cells)[j]? = some u → w.cell? ((⟨g, off, none⟩ : Addr).add j) = some u := by
          intro j u hu
          have hj : j < l.length * E.k := by
            have := (List.getElem?_eq_some_iff.1 hu).1
            rwa [E.len_flat] at this
          rw [Addr.add_lit, cell_of_row w g _ cur e (0, 0) hg]
          rw [← htake, List.getElem?_take, if_pos hj, List.getElem?_drop] at hu
          simpa using hu
        have hr := run_append_grow (P := P) w t ty e i z hE.und hi hz ⟨g, off, none⟩ l.length c (l.flatMap E.cells) (by rw [E.len_flat, hsz]) holds ⟨sb, so, none⟩ ys.length c' (ys.flatMap E.cells) hnl hnews (by omega) hlen' (growslice_fits (by omega) (by omega))
        have hg2 := hgr c (by omega) (Option.map (·.block) (some (⟨g, off, none⟩ : Addr)))
        exact ⟨_, _, _, hr, hg2.1, hg2.2, Moved.new _ _ _⟩

theorem run_append_Own {α : Type} {E : Enc α} {P : Program} {t e : TypeId} (hE : Elem P t e E) (ty : TypeId) (w : World) {base : Nat} {aa : Option Addr} {c : Nat} {l : List α} (hown : Own E e w base aa c l)
    {b : Option Addr} {c' : Nat} {ys : List α} (hy : Rd E w b ys) (hlen : l.length + ys.length ≤ 1000000000000) (hbase : base ≤ w.heap.size) :
    ∃ aa' c2 w', (Builtin.append_ #[t, t] ty #[.slice aa l.length c, .slice b ys.length c']).run P w = .ok (.slice aa' (l.length + ys.length) c2) w' ∧ Own E e w' base aa' c2 (l ++ ys) ∧ w.grownBy w' (aa.map (·.block)) := by
  obtain ⟨aa', c2, w', h1, h2, h3, _⟩ := run_append_Own' hE ty w hown (c' := c') hy hlen hbase
  exact ⟨aa', c2, w', h1, h2, h3⟩

/-- append(s, ys...), as a step of a walk. -/
theorem wpList_app {α : Type} {E : Enc α} {P : Program} {t e : TypeId} (hE : Elem P t e E) {w : World} {ops : Array Oper} {rest : List Oper} {o : Oper} {a : Act} {Q : Exit → Act → World → Prop} (hgd : o.guard = none) (s x : Operand)
    (ho : o.op = .call { callee := .builtin .append, args := #[s, x], argTypes := #[t, t] }) {base : Nat} {aa b : Option Addr} {c n m c' : Nat} {l : List α} (ys : List α)
    (hs : a.eval s = .slice aa n c) (hx : a.eval x = .slice b m c') (hown : Own E e w base aa c l) (hn : n = l.length) (hy : Rd E w b ys) (hm : m = ys.length) (hlen : l.length + ys.length ≤ 1000000000000) (hbase : base ≤ w.heap.size)
    (h : ∀ aa' c2 w', Own E e w' base aa' c2 (l ++ ys) → w.grownBy w' (aa.map (·.block)) → wpList P ops Q rest (a.put o.dst (.slice aa' (n + m) c2)) w') : wpList P ops Q (o :: rest) a w := by
  subst hn hm
  obtain ⟨aa', c2, w', hr, h1, h2⟩ := run_append_Own hE o.type w hown (c' := c') hy hlen hbase
  refine wpList_plain hgd fun K hK => ?_
  unfold Oper.wp execOp
  simp only [ho, resolve, invoke, builtin, Sem.run_bind, Sem.run_pure, Result.andThen_ok, List.map_toArray, List.map_cons, List.map_nil, hs, hx, hr]
  exact hK _ _ (h aa' c2 w' h1 h2)

/-- append(s, ys...), as a step of a walk. -/
theorem wpList_app' {α : Type} {E : Enc α} {P : Program} {t e : TypeId} (hE : Elem P t e E) {w : World} {ops : Array Oper} {rest : List Oper} {o : Oper} {a : Act} {Q : Exit → Act → World → Prop} (hgd : o.guard = none) (s x : Operand)
    (ho : o.op = .call { callee := .builtin .append, args := #[s, x], argTypes := #[t, t] }) {base : Nat} {aa b : Option Addr} {c n m c' : Nat} {l : List α} (ys : List α)
    (hs : a.eval s = .slice aa n c) (hx : a.eval x = .slice b m c') (hown : Own E e w base aa c l) (hn : n = l.length) (hy : Rd E w b ys) (hm : m = ys.length) (hlen : l.length + ys.length ≤ 1000000000000) (hbase : base ≤ w.heap.size)
    (h : ∀ aa' c2 w', Own E e w' base aa' c2 (l ++ ys) → w.grownBy w' (aa.map (·.block)) → Moved aa aa' w.heap.size → wpList P ops Q rest (a.put o.dst (.slice aa' (n + m) c2)) w') : wpList P ops Q (o :: rest) a w := by
  subst hn hm
  obtain ⟨aa', c2, w', hr, h1, h2, h3⟩ := run_append_Own' hE o.type w hown (c' := c') hy hlen hbase
  refine wpList_plain hgd fun K hK => ?_
  unfold Oper.wp execOp
  simp only [ho, resolve, invoke, builtin, Sem.run_bind, Sem.run_pure, Result.andThen_ok, List.map_toArray, List.map_cons, List.map_nil, hs, hx, hr]
  exact hK _ _ (h aa' c2 w' h1 h2 h3)

/-- A function by its number is entered. -/
def Enters (P : Program) (n : Nat) : Prop := ∀ args w, Sem.run P (callFunc n args) w = .ok (.enter n args) w

/-- append(s, ys...), as a step of a region that draws its order. -/
theorem step_app {α : Type} {E : Enc α} {P : Program} {t e : TypeId} (hE : Elem P t e E) {w : World} {ops : Array Oper} {o : Oper} {a : Act} {K : Act → World → Prop} {Q : Exit → Act → World → Prop} {D : Prop} (hgd : o.guard = none) (s x : Operand)
    (ho : o.op = .call { callee := .builtin .append, args := #[s, x], argTypes := #[t, t] }) {base : Nat} {aa b : Option Addr} {c n m c' : Nat} {l : List α} (ys : List α)
    (hs : a.eval s = .slice aa n c) (hx : a.eval x = .slice b m c') (hown : Own E e w base aa c l) (hn : n = l.length) (hy : Rd E w b ys) (hm : m = ys.length) (hlen : l.length + ys.length ≤ 1000000000000) (hbase : base ≤ w.heap.size)
    (h : ∀ aa' c2 w', Own E e w' base aa' c2 (l ++ ys) → w.grownBy w' (aa.map (·.block)) → K (a.put o.dst (.slice aa' (n + m) c2)) w') :
    if Region.wanted o (yielded ops a.tmps) = true then Oper.wp P o a w K Q else D := by
  subst hn hm
  obtain ⟨aa', c2, w', hr, h1, h2⟩ := run_append_Own hE o.type w hown (c' := c') hy hlen hbase
  rw [if_pos (by simp [Region.wanted, hgd])]
  unfold Oper.wp execOp
  simp only [ho, resolve, invoke, builtin, Sem.run_bind, Sem.run_pure, Result.andThen_ok, List.map_toArray, List.map_cons, List.map_nil, hs, hx, hr]
  exact h aa' c2 w' h1 h2

/-- append(s, ys...), as a step of a region that draws its order. -/
theorem step_app' {α : Type} {E : Enc α} {P : Program} {t e : TypeId} (hE : Elem P t e E) {w : World} {ops : Array Oper} {o : Oper} {a : Act} {K : Act → World → Prop} {Q : Exit → Act → World → Prop} {D : Prop} (hgd : o.guard = none) (s x : Operand)
    (ho : o.op = .call { callee := .builtin .append, args := #[s, x], argTypes := #[t, t] }) {base : Nat} {aa b : Option Addr} {c n m c' : Nat} {l : List α} (ys : List α)
    (hs : a.eval s = .slice aa n c) (hx : a.eval x = .slice b m c') (hown : Own E e w base aa c l) (hn : n = l.length) (hy : Rd E w b ys) (hm : m = ys.length) (hlen : l.length + ys.length ≤ 1000000000000) (hbase : base ≤ w.heap.size)
    (h : ∀ aa' c2 w', Own E e w' base aa' c2 (l ++ ys) → w.grownBy w' (aa.map (·.block)) → Moved aa aa' w.heap.size → K (a.put o.dst (.slice aa' (n + m) c2)) w') :
    if Region.wanted o (yielded ops a.tmps) = true then Oper.wp P o a w K Q else D := by
  subst hn hm
  obtain ⟨aa', c2, w', hr, h1, h2, h3⟩ := run_append_Own' hE o.type w hown (c' := c') hy hlen hbase
  rw [if_pos (by simp [Region.wanted, hgd])]
  unfold Oper.wp execOp
  simp only [ho, resolve, invoke, builtin, Sem.run_bind, Sem.run_pure, Result.andThen_ok, List.map_toArray, List.map_cons, List.map_nil, hs, hx, hr]
  exact h aa' c2 w' h1 h2 h3

/-- A call by a contract, as a step of a region that draws its order. -/
theorem step_call {P : Program} {ops : Array Oper} {o : Oper} {a : Act} {w : World} {K : Act → World → Prop} {Q : Exit → Act → World → Prop} {D : Prop} {f : Nat} {R : Ending → World → Prop} (hgd : o.guard = none) (A : Array Operand) (T : Array TypeId)
    (hop : o.op = .call { callee := .value (.func f), args := A, argTypes := T }) (args : Array Value) (ha : A.map a.eval = args) (hn : Enters P f) (hc : Calls P f args w R)
    (h : ∀ e w', R e w' → ∃ v, e = .returned v ∧ K (a.put o.dst v) w') :
    if Region.wanted o (yielded ops a.tmps) = true then Oper.wp P o a w K Q else D := by
  subst ha
  rw [if_pos (by simp [Region.wanted, hgd])]
  unfold Oper.wp execOp
  have e1 : Act.eval a (Operand.func f) = .func (.func f) #[] #[] := rfl
  have hn' := hn (A.map a.eval) w
  simp [hop, resolve, invoke, e1, Deferred.ofValue, hn']
  refine hc.mono fun e w' hr => ?_
  obtain ⟨v, rfl, hk⟩ := h e w' hr
  exact hk

end Go.Proofs.Ytkdncpglgdiicaa
