/- ForwardFilling of the program returns what the reference returns, for every maze, set, order and choices. -/
import Derived.Test.YtkdncpglgdiicaaRows
import Derived.Test.YtkdncpglgdiicaaLawFF
import Derived.Test.YtkdncpglgdiicaaRow
import Derived.Test.YtkdncpglgdiicaaOpen2
import Derived.Carry
namespace Go.Proofs.Ytkdncpglgdiicaa
open Go.ChangeShapes Go.WideShapes Go.ChangeAt Go.RowKit Go.Joins
set_option linter.unusedVariables false

theorem progOwnFF : ownKnob Try.prog.godebug = none := by kernel_rfl
theorem progLaidFF : laidOutB Try.prog = true := by kernel_rfl

set_option maxRecDepth 100000 in
theorem ff_lifted (os : Os) (started : os.Started) (H : Type) (enc : TypeId × Value → H) :
    ReturnsInHanded {} Try.checked os 9 .any (Rows.fnExactForwardFillingSpec.pre6 enc Try.prog Try.f9 Rows.fnExactForwardFillingRow.domain false) (Rows.fnExactForwardFillingSpec.post enc Try.prog Try.f9 false true false false) := by
  refine returnsInHanded_of_change (C := Try.checked) progOwnFF started (by kernel_rfl) Try.func9
    (ChangeSpec.witness6 (enc := enc) (C := Try.checked) false ⟨#[], #[.agg #[.int .i64 0, .slice none 0 0, .slice none 0 0], .int .i64 0, .slice none 0 0, .slice none 0 0], []⟩ 8 (by kernel_rfl) (by kernel_rfl) (by kernel_rfl) (by kernel_rfl)) ?_
  intro W base args ds gs before hval0 hW hcnd _
  have hval : ∀ (j : Nat) t v, Try.f9.params[j]? = some t → args[j]? = some v → Value.okWide Try.prog W .any base t v := hval0
  have hW' := hW
  obtain ⟨p, q, hA0, hV, rfl, hfz, hnd⟩ := hW
  have hA : DataW.TrodAll enc Try.prog W 0 (fun _ => true) true Try.f9.params.toList args.toList ds p := hA0
  rw [Try.params9] at hA hval
  obtain ⟨v0, v1, v2, v3, d0, d1, d2, d3, p0, p1, p2, p3, rfl, rfl, rfl, h0, h1, h2, h3⟩ := trodAll_four hA
  obtain ⟨rfl, rfl⟩ := trodVars_none hV
  have k0 := h0
  have k1 := h1
  have k2 := h2
  have k3 := h3
  obtain ⟨u0, u1, u2, y0, y1, y2, n, rfl, _, _, t0, t1, t2⟩ := open_agg3 Try.underlying25 (by kernel_rfl) (by kernel_rfl) (hval 0 25 v0 rfl rfl) h0
  obtain ⟨sz, e0, _, _⟩ := DataW.trod_int Try.underlying3 t0
  obtain ⟨a1, l1, c1, e1, r1, g1, m1, _⟩ := opD Try.underlying22 Try.underlying140 Try.underlying3 (by kernel_rfl) (by kernel_rfl) t1
  obtain ⟨a2, l2, c2, e2, r2, g2, m2, _⟩ := opI Try.underlying23 Try.underlying3 (by kernel_rfl) t2
  simp only [List.cons.injEq, and_true] at e0 e1 e2
  subst e0 e1 e2
  obtain ⟨s, rfl, _, _, _⟩ := open_int Try.underlying3 (hval 1 3 v1 rfl rfl) h1
  obtain ⟨b0, len, cap, rfl⟩ := okWide_slice Try.underlying23 (hval 2 23 v2 rfl rfl)
  obtain ⟨fuel, hf⟩ := h2
  obtain ⟨a3, l3, c3, e3, r3, g3, m3, _⟩ := opI Try.underlying23 Try.underlying3 (by kernel_rfl) hf
  obtain ⟨b0', len', cap', rfl⟩ := okWide_slice Try.underlying23 (hval 3 23 v3 rfl rfl)
  obtain ⟨fuel', hf'⟩ := h3
  obtain ⟨a4, l4, c4, e4, r4, g4, m4, hb4⟩ := opI Try.underlying23 Try.underlying3 (by kernel_rfl) hf'
  simp only [Value.cells, List.cons.injEq, and_true] at e3 e4
  clear hA0 hval0 hA hV hfz hnd hval t0 t1 t2 h0 h1
  simp only [List.append_nil] at hW'
  have hlt : ∀ x ∈ p0 ++ (p1 ++ (p2 ++ p3)), x.block < W.heap.size := fun x hx => hW'.lt x (by simpa [List.append_assoc] using hx)
  rw [e3] at k2 hW' ⊢
  rw [e4] at k3 hW' ⊢
  refine (lawForward_any ⟨sz, l1, l2⟩ s l3 l4 a1 a2 a3 a4 c1 c2 c3 c4 W r1 r2 r3 r4 (Nat.le_trans g1 (toBig m1)) (Nat.le_trans g2 (toBig m2)) (Nat.le_trans g3 (toBig m3)) (Nat.le_trans g4 (toBig m4)) (fun x hx => (hb4 x hx).2)).mono fun e W' ⟨he, hx⟩ => ?_
  subst he
  refine ⟨_, rfl, lawPost hW' rfl rfl Try.underlying4 rfl (fun sp hsp => ?_) hx⟩
  simp only [List.append_assoc]
  exact trodAll_mk4 (argStays progLaidFF (by kernel_rfl) (of_decide_eq_true (by kernel_rfl)) k0 hx (fun x h => hlt x (by simp [h])) (fun x h => hsp x (by simp [h])))
    (argStays progLaidFF (by kernel_rfl) (of_decide_eq_true (by kernel_rfl)) k1 hx (fun x h => hlt x (by simp [h])) (fun x h => hsp x (by simp [h])))
    (argStays progLaidFF (by kernel_rfl) (of_decide_eq_true (by kernel_rfl)) k2 hx (fun x h => hlt x (by simp [h])) (fun x h => hsp x (by simp [h])))
    (argStays progLaidFF (by kernel_rfl) (of_decide_eq_true (by kernel_rfl)) k3 hx (fun x h => hlt x (by simp [h])) (fun x h => hsp x (by simp [h])))

theorem fnExactForwardFilling_holds : Rows.FnExactForwardFillingSaid :=
  OpenClaim.holds_of_wide 9 Try.f9 rfl rfl rfl rfl rfl rfl rfl ⟨rfl, rfl, rfl, rfl, rfl⟩ rfl rfl rfl rfl rfl (by kernel_rfl) Try.func9 (by kernel_rfl)
    (of_decide_eq_true (by kernel_rfl)) (by unfold Func.isWrapper; first | (rw [if_pos (by decide +kernel)]; kernel_rfl) | (rw [if_neg (by decide +kernel)]; exact ⟨rfl, rfl⟩))
    (fun os started H enc _ => ff_lifted os started H enc)

end Go.Proofs.Ytkdncpglgdiicaa
