/- Contracts of the smallest functions. -/
import Derived.Test.YtkdncpglgdiicaaProg
import Derived.Test.YtkdncpglgdiicaaLib
import Derived.Lib.QuietBelow
import Derived.Deep.QuietTactic
import Derived.BigQuiet
import Derived.StillTailTactics
namespace Go.Proofs.Ytkdncpglgdiicaa
open Go Go.RowKit Go.Sort

/-- Reads and quiet calls, then a tail in one order. -/
theorem stillTail {P : Program} {id : Nat} {Q : Exit → Act → World → Prop} {a : Act} {w : World} {l : List Oper} (n : Nat) (hm : P.follows .mixedOrders = true) (hB : Region.lexTailB .any l.toArray n = true)
    (h : wpStill P l.toArray w.drew (fun a' => wpList P l.toArray Q (l.drop n) a' w.drew) (l.take n) a) : (Code.region id l.toArray true).wp P Q a w :=
  wp_region_still_tail n hm hB h

def withinB (n lo hi : Int) : Bool := decide (lo ≤ n) && decide (n ≤ hi)
theorem within_any (n lo hi : Int) (w : World) :
    Calls Try.prog 77 #[.int .i64 n, .int .i64 lo, .int .i64 hi] w fun e w' => e = .returned (.bool (withinB n lo hi)) ∧ w = w' := by
  by_cases h1 : lo ≤ n
  · go_enter Try.func77, Try.ntmps77
    go_wp2
    go_ret
    exact ⟨by simp [withinB, h1], rfl⟩
  · have h1' : decide (lo ≤ n) = false := by simpa using h1
    go_enter Try.func77, Try.ntmps77
    go_wp2
    go_ret
    exact ⟨by simp [withinB, h1'], rfl⟩

theorem isSet_any (n : Int) (w : World) :
    Calls Try.prog 128 #[.int .i64 n] w fun e w' => e = .returned (.bool (withinB n 0 63)) ∧ w = w' := by
  go_enter Try.func128, Try.ntmps128
  go_wp2_with (go_at_call 77; refine (within_any _ _ _ _).mono ?_; rintro e w' ⟨rfl, rfl⟩)
  go_ret
  exact ⟨rfl, rfl⟩

def hasB (s o : Int) : Bool := bits BinOp.andNot IntKind.i64 o s == 0
theorem has_any (s o : Int) (w : World) :
    Calls Try.prog 208 #[.int .i64 s, .int .i64 o] w fun e w' => e = .returned (.bool (hasB s o)) ∧ w = w' := by
  go_enter Try.func208, Try.ntmps208
  go_wp2
  go_ret
  exact ⟨rfl, rfl⟩

def cmpI (a b : Int) : Int := if a < b then -1 else if b < a then 1 else 0
theorem isNaN_any (a : Int) (w : World) :
    Calls Try.prog 182 #[.int .i64 a] w fun e w' => e = .returned (.bool false) ∧ w = w' := by
  go_enter Try.func182, Try.ntmps182
  go_wp2
  go_ret
  exact ⟨by simp, rfl⟩

theorem cmpCompare_any (a b : Int) (w : World) :
    Calls Try.prog 206 #[.int .i64 a, .int .i64 b] w fun e w' => e = .returned (.int .i64 (cmpI a b)) ∧ w = w' := by
  go_enter Try.func206, Try.ntmps206
  go_wp2_with (go_at_call 182; refine (isNaN_any _ _).mono ?_; rintro e w' ⟨rfl, rfl⟩)
  all_goals
    go_ret
    refine ⟨?_, rfl⟩
    unfold cmpI
    (repeat' split) <;> first | rfl | omega

theorem callsSwap {P : Program} {f : FuncId} {args : Array Value} {w : World} {v : Value} (h : Calls P f args w fun e w' => e = .returned v ∧ w = w') : Calls P f args w fun e w' => e = .returned v ∧ w' = w :=
  h.mono fun _ _ ⟨a, b⟩ => ⟨a, b.symm⟩
theorem cmpCompare_still (a b : Int) (w : World) :
    Calls Try.prog 206 #[.int .i64 a, .int .i64 b] w fun e w' => e = .returned (.int .i64 (cmpI a b)) ∧ w' = w := callsSwap (cmpCompare_any a b w)

def orI (a b c : Int) : Int := if a ≠ 0 then a else if b ≠ 0 then b else c

theorem cmpOr_any (a b c : Int) (g : Nat) (cp : Nat) (w : World) (h0 : w.cell? ⟨g, 0, none⟩ = some (.int .i64 a)) (h1 : w.cell? ⟨g, 1, none⟩ = some (.int .i64 b)) (h2 : w.cell? ⟨g, 2, none⟩ = some (.int .i64 c)) :
    Calls Try.prog 205 #[.slice (some ⟨g, 0, none⟩) 3 cp] w fun e w' => e = .returned (.int .i64 (orI a b c)) ∧ w = w' := by
  go_enter Try.func205, Try.ntmps205
  go_wp2_with fail
  refine wp_loop_rounds 4 ?_
  iterate 4 (all_goals (try simp only [rounds_succ]); go_wp2_with fail)
  all_goals
    go_ret
    refine ⟨?_, rfl⟩
    unfold orI
    simp_all

def cmpD (d e : Int × Int × Int) : Int := orI (cmpI d.1 e.1) (cmpI d.2.1 e.2.1) (cmpI d.2.2 e.2.2)
set_option maxRecDepth 100000 in
theorem compareDoors_any (d e : Int × Int × Int) (w : World) :
    Calls Try.prog 177 #[.agg #[.int .i64 d.1, .int .i64 d.2.1, .int .i64 d.2.2], .agg #[.int .i64 e.1, .int .i64 e.2.1, .int .i64 e.2.2]] w fun en w' => en = .returned (.int .i64 (cmpD d e)) ∧ Ext w w' := by
  go_enter Try.func177, Try.ntmps177
  go_wp2_with fail
  refine stillTail 15 (by kernel_rfl) (by kernel_rfl) ?_
  simp only [List.take_succ_cons, List.take_zero, List.drop_succ_cons, List.drop_zero]
  repeat (first | still_step | still_call (cmpCompare_still _ _ _))
  refine wpStill_nil ?_
  go_wp2_with fail
  refine (cmpOr_any (cmpI d.1 e.1) (cmpI d.2.1 e.2.1) (cmpI d.2.2 e.2.2) _ _ _ (by go_simp) (by go_simp) (by go_simp)).mono ?_
  rintro e w' ⟨rfl, rfl⟩
  go_wp2_with fail
  go_ret
  refine ⟨rfl, ?_⟩
  repeat (first | apply Ext.dr | apply Ext.al)
  exact Ext.rf _

end Go.Proofs.Ytkdncpglgdiicaa
