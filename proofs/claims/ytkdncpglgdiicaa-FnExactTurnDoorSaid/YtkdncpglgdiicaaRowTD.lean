/- TurnDoor of the program returns what the reference returns, for every trap and door. -/
import Derived.Test.YtkdncpglgdiicaaLawTD
import Derived.Test.YtkdncpglgdiicaaRow
import Derived.Test.YtkdncpglgdiicaaOpen2
namespace Go.Proofs.Ytkdncpglgdiicaa
open Go.ChangeShapes Go.WideShapes Go.ChangeAt Go.RowKit Go.Joins
set_option linter.unusedVariables false

theorem progOwnTD : ownKnob Try.prog.godebug = none := by kernel_rfl
theorem progLaidTD : laidOutB Try.prog = true := by kernel_rfl

set_option maxRecDepth 100000 in
theorem td_lifted (os : Os) (started : os.Started) (H : Type) (enc : TypeId × Value → H) :
    ReturnsInHanded {} Try.checked os 4 .any (Rows.fnExactTurnDoorSpec.pre6 enc Try.prog Try.f4 Rows.fnExactTurnDoorRow.domain false) (Rows.fnExactTurnDoorSpec.post enc Try.prog Try.f4 false true false false) := by
  refine returnsInHanded_of_change (C := Try.checked) progOwnTD started (by kernel_rfl) Try.func4
    (ChangeSpec.witness6 (enc := enc) (C := Try.checked) false ⟨#[], #[.agg #[.int .i64 0, .slice none 0 0, .slice none 0 0, .slice none 0 0], .int .i64 0], []⟩ 8 (by kernel_rfl) (by kernel_rfl) (by kernel_rfl) (by kernel_rfl)) ?_
  intro W base args ds gs before hval0 hW hcnd _
  have hval : ∀ (j : Nat) t v, Try.f4.params[j]? = some t → args[j]? = some v → Value.okWide Try.prog W .any base t v := hval0
  have hW' := hW
  obtain ⟨p, q, hA0, hV, rfl, hfz, hnd⟩ := hW
  have hA : DataW.TrodAll enc Try.prog W 0 (fun _ => true) true Try.f4.params.toList args.toList ds p := hA0
  rw [Try.params4] at hA hval
  obtain ⟨v0, v1, d0, d1, p0, p1, rfl, rfl, rfl, h0, h1⟩ := trodAll_two hA
  obtain ⟨rfl, rfl⟩ := trodVars_none hV
  have k0 := h0
  have k1 := h1
  obtain ⟨cs, hv0, hcs⟩ := agg_of Try.underlying41 (hval 0 41 v0 rfl rfl)
  obtain ⟨fuel, hf⟩ := h0
  rw [hcs] at hf
  obtain ⟨sz, a1, l1, c1, a2, l2, c2, a3, l3, c3, rfl, r1, m1, r2, m2, r3, m3⟩ := opT hf
  subst hv0
  obtain ⟨s, rfl, _, _, _⟩ := open_int Try.underlying3 (hval 1 3 v1 rfl rfl) h1
  clear hA0 hval0 hA hV hfz hnd hval hf hcs h1
  simp only [List.append_nil] at hW'
  have hlt : ∀ x ∈ p0 ++ p1, x.block < W.heap.size := fun x hx => hW'.lt x hx
  refine (lawTD_any ⟨sz, l1, l2⟩ l3 s a1 a2 a3 c1 c2 c3 W r1 r2 r3 (toBig m1) (toBig m2) (toBig m3)).mono fun e W' ⟨he, hx⟩ => ?_
  subst he
  refine ⟨_, rfl, lawPost hW' rfl rfl Try.underlying4 rfl (fun sp hsp => ?_) hx⟩
  exact trodAll_mk2 (argStays progLaidTD (by kernel_rfl) (of_decide_eq_true (by kernel_rfl)) k0 hx (fun x h => hlt x (by simp [h])) (fun x h => hsp x (by simp [h])))
    (argStays progLaidTD (by kernel_rfl) (of_decide_eq_true (by kernel_rfl)) k1 hx (fun x h => hlt x (by simp [h])) (fun x h => hsp x (by simp [h])))

theorem fnExactTurnDoor_holds : Rows.FnExactTurnDoorSaid :=
  OpenClaim.holds_of_wide 4 Try.f4 rfl rfl rfl rfl rfl rfl rfl ⟨rfl, rfl, rfl, rfl, rfl⟩ rfl rfl rfl rfl rfl (by kernel_rfl) Try.func4 (by kernel_rfl)
    (of_decide_eq_true (by kernel_rfl)) (by unfold Func.isWrapper; first | (rw [if_pos (by decide +kernel)]; kernel_rfl) | (rw [if_neg (by decide +kernel)]; exact ⟨rfl, rfl⟩))
    (fun os started H enc _ => td_lifted os started H enc)

end Go.Proofs.Ytkdncpglgdiicaa
