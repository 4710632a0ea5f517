/-
  WirePayloads: WHATEVER THE INPUT the law returns true, and the input reads as it did. No condition.
-/
import Derived.Test.YtkimilghfbgjmaaQ30
import Derived.Test.YtkimilghfbgjmaaQ29
import Derived.Test.YtkimilghfbgjmaaRows

namespace Go.Proofs.Ytkimilghfbgjmaa
open Go.Abs Go.ChangeShapes Go.WideShapes Go.ChangeAt Go.RowKit
set_option maxRecDepth 100000 in
theorem Zw2 (os : Os) (started : os.Started) (H : Type) (enc : TypeId × Value → H) :
    ReturnsInHanded {} Try.checked os 5 .any (Rows.wirePayloadsSpec.pre6 enc Try.prog Try.f5 Rows.wirePayloadsRow.domain false) (Rows.wirePayloadsSpec.post enc Try.prog Try.f5 false true false false) := by
  refine returnsInHanded_of_change (C := Try.checked) own_knob started (by kernel_rfl) Try.func5
    (ChangeSpec.witness6 (enc := enc) (C := Try.checked) false ⟨#[], #[.slice none 0 0], []⟩ 8 (by kernel_rfl) (by kernel_rfl) (by kernel_rfl) (by kernel_rfl)) ?_
  intro W base args ds gs before hval0 hW hcnd _
  have hval : ∀ (j : Nat) t v, Try.f5.params[j]? = some t → args[j]? = some v → Value.okWide Try.prog W .any base t v := hval0
  have hW' := hW
  obtain ⟨p, q, hA0, hV, rfl, hfz, hnd⟩ := hW
  have hA : DataW.TrodAll enc Try.prog W 0 (fun _ => true) true Try.f5.params.toList args.toList ds p := hA0
  rw [Try.params5] at hA hval
  obtain ⟨v0, d0, rfl, rfl, h0⟩ := trodAll_one hA
  obtain ⟨rfl, rfl⟩ := trodVars_none hV
  obtain ⟨xs, rm⟩ := Zuf (hval 0 31 v0 rfl rfl) h0
  have hc := w5 _ xs Rd.e []
  refine (calls_of (vs := [v0]) hc rfl ?_ ?_).mono fun e W' ⟨he, hk⟩ => ?_
  · intro i v d hi hd
    match i with
    | 0 => cases hi; cases hd; exact rm
    | i + 1 => simp at hi
  · intro d hd
    simp only [List.mem_cons, List.not_mem_nil, or_false] at hd
    subst hd
    exact .e _
  · subst he
    exact ⟨_, rfl, Zwt hW' rfl hk laid_out (by rw [Try.params5]; decide +kernel) (fun _ _ _ => trodAll_mk1 (shut_bool Try.underlying4 true)) rfl rfl (ok_one (t := 4) (by kernel_rfl) rfl Zwc)⟩
theorem wirePayloads_holds : Rows.WirePayloadsSaid :=
  OpenClaim.holds_of_wide 5 Try.f5 rfl rfl rfl rfl rfl rfl rfl ⟨rfl, rfl, rfl, rfl, rfl⟩ rfl rfl rfl rfl rfl (by kernel_rfl) Try.func5 (by kernel_rfl)
    (of_decide_eq_true (by kernel_rfl)) (by unfold Func.isWrapper; first | (rw [if_pos (by decide +kernel)]; kernel_rfl) | (rw [if_neg (by decide +kernel)]; exact ⟨rfl, rfl⟩))
    (fun os started H enc _ => Zw2 os started H enc)
end Go.Proofs.Ytkimilghfbgjmaa
