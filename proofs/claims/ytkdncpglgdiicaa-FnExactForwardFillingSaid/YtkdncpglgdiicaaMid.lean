/- What stays while blocks of a range turn. No program. -/
import Derived.Test.YtkdncpglgdiicaaLib
namespace Go.Proofs.Ytkdncpglgdiicaa
open Go Go.RowKit

/-- Only blocks from lo on, and below hi, may have turned; more may have come. -/
structure Mid (lo hi : Nat) (w w' : World) : Prop where
  bel : Below lo w w'
  blk : ∀ k, k < w.heap.size → hi ≤ k → w'.heap[k]? = w.heap[k]?

theorem Mid.rf (lo hi : Nat) (w : World) : Mid lo hi w w := ⟨Below.refl _ _, fun _ _ _ => rfl⟩
theorem Mid.tr {lo hi : Nat} {a b c : World} (h : Mid lo hi a b) (k : Mid lo hi b c) : Mid lo hi a c :=
  ⟨h.bel.trans k.bel, fun i h1 h2 => (k.blk i (Nat.lt_of_lt_of_le h1 h.bel.size) h2).trans (h.blk i h1 h2)⟩
theorem Mid.mono {lo hi lo' hi' : Nat} {a b : World} (h : Mid lo hi a b) (h1 : lo' ≤ lo) (h2 : hi ≤ hi') : Mid lo' hi' a b :=
  ⟨h.bel.mono h1, fun i a b => h.blk i a (Nat.le_trans h2 b)⟩
theorem Mid.ofExt {a b : World} (h : Ext a b) {lo hi : Nat} (hl : lo ≤ a.heap.size) : Mid lo hi a b := ⟨h.mono hl, fun i h1 _ => h.block i h1⟩
theorem Mid.dr {lo hi : Nat} {a w : World} (h : Mid lo hi a w) : Mid lo hi a w.drew := ⟨h.bel.drew, h.blk⟩
theorem Mid.al {lo hi : Nat} {a w : World} (h : Mid lo hi a w) (hl : lo ≤ w.heap.size) (o : Obj) : Mid lo hi a (w.alloc o) := ⟨h.bel.alloc hl o, fun i h1 h2 => (Below.heap_alloc _ _ _ (Nat.lt_of_lt_of_le h1 h.bel.size)).trans (h.blk i h1 h2)⟩
theorem Mid.cs {lo hi : Nat} {a w : World} (h : Mid lo hi a w) {p : Addr} (h1 : lo ≤ p.block) (h2 : p.block < hi) (u : Value) : Mid lo hi a (w.setCell p u) :=
  ⟨h.bel.setCell h1 u, fun i a b => (Below.heap_setCell _ _ _ _ (by omega)).trans (h.blk i a b)⟩
theorem Mid.gr {lo hi g : Nat} {a w w' : World} (h : Mid lo hi a w) (hg : w.grownBy w' (some g)) (hl : lo ≤ w.heap.size) (h1 : lo ≤ g) (h2 : g < hi) : Mid lo hi a w' :=
  ⟨h.bel.grown hg hl (fun k hk => by cases hk; exact h1), fun i a b => (hg.block i (Nat.lt_of_lt_of_le a h.bel.size) (fun e => by cases e; omega)).trans (h.blk i a b)⟩

section
variable {α : Type} {E : Enc α} {e : TypeId} {w w' : World} {base c lo hi : Nat} {a : Option Addr} {l : List α}
theorem Own.mid (h : Own E e w base a c l) (hm : Mid lo hi w w') (ho : ∀ p, a = some p → p.block < lo ∨ hi ≤ p.block) : Own E e w' base a c l := by
  rcases h with h | ⟨g, off, cur, rfl, hb, hg, r⟩
  · exact .inl h
  · refine .inr ⟨g, off, cur, rfl, hb, ?_, r⟩
    rcases ho _ rfl with h1 | h1
    · exact (hm.bel.block g h1).trans hg
    · exact (hm.blk g (lt_of_block hg) h1).trans hg
theorem Rd.mid (h : Rd E w a l) (hm : Mid lo hi w w') (ho : ∀ p, a = some p → p.block < lo ∨ (hi ≤ p.block ∧ p.block < w.heap.size)) : Rd E w' a l := by
  rcases h with h | ⟨b, off, rfl, h⟩
  · exact .inl h
  · refine .inr ⟨b, off, rfl, fun j hj i hi => ?_⟩
    rw [← h j hj i hi]
    rcases ho _ rfl with h1 | ⟨h1, h2⟩
    · exact World.cell?_of_block (w := w) (hm.bel.block b h1)
    · exact World.cell?_of_block (w := w) (hm.blk b h2 h1)
/-- An owned slice in a range of blocks. -/
def In (a : Option Addr) (lo hi : Nat) : Prop := ∀ p, a = some p → lo ≤ p.block ∧ p.block < hi
theorem In.before (h : In a lo hi) {lo' : Nat} (hl : hi ≤ lo') {hi' : Nat} : ∀ p, a = some p → p.block < lo' ∨ hi' ≤ p.block := fun p hp => .inl (Nat.lt_of_lt_of_le (h p hp).2 hl)
theorem In.behind (h : In a lo hi) {hi' : Nat} (hl : hi' ≤ lo) {lo' : Nat} : ∀ p, a = some p → p.block < lo' ∨ hi' ≤ p.block := fun p hp => .inr (Nat.le_trans hl (h p hp).1)
theorem In.mono (h : In a lo hi) {lo' hi' : Nat} (h1 : lo' ≤ lo) (h2 : hi ≤ hi') : In a lo' hi' := fun p hp => ⟨Nat.le_trans h1 (h p hp).1, Nat.lt_of_lt_of_le (h p hp).2 h2⟩
theorem Own.in_ (h : Own E e w base a c l) : In a base w.heap.size := h.blk
theorem Own.reb (h : Own E e w base a c l) {b' : Nat} (hi : In a b' hi) : Own E e w b' a c l := by
  rcases h with h | ⟨g, off, cur, rfl, hb, r⟩
  · exact .inl h
  · exact .inr ⟨g, off, cur, rfl, (hi _ rfl).1, r⟩
end

end Go.Proofs.Ytkdncpglgdiicaa
