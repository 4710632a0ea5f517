/-
  WireApart: WHATEVER THE INPUT the law returns true, and the input reads as it did. No condition.
-/
import Derived.Test.YtkimilghfbgjmaaP24
import Derived.Test.YtkimilghfbgjmaaP25
import Derived.Test.YtkimilghfbgjmaaRows

namespace Go.Proofs.Ytkimilghfbgjmaa
open Go.Abs Go.ChangeShapes Go.WideShapes Go.ChangeAt Go.RowKit

set_option maxRecDepth 100000 in
theorem f_lifted (os : Os) (started : os.Started) (H : Type) (enc : TypeId × Value → H) :
    ReturnsInHanded {} Try.checked os 6 .any (Rows.wireApartSpec.pre6 enc Try.prog Try.f6 Rows.wireApartRow.domain false) (Rows.wireApartSpec.post enc Try.prog Try.f6 false true false false) := by
  refine returnsInHanded_of_change (C := Try.checked) own_knob started (by kernel_rfl) Try.func6
    (ChangeSpec.witness6 (enc := enc) (C := Try.checked) false ⟨#[], #[.agg #[.int .u8 0, .int .i64 0, .int .i64 0, .int .i64 0, .int .i64 0, .bool false, .bool false, .int .i64 0, .int .i64 0, .slice none 0 0, .string ⟨#[]⟩, .int .i64 0, .int .i64 0, .bool false, .int .i64 0], .agg #[.int .u8 0, .int .i64 0, .int .i64 0, .int .i64 0, .int .i64 0, .bool false, .bool false, .int .i64 0, .int .i64 0, .slice none 0 0, .string ⟨#[]⟩, .int .i64 0, .int .i64 0, .bool false, .int .i64 0]], []⟩ 8 (by kernel_rfl) (by kernel_rfl) (by kernel_rfl) (by kernel_rfl)) ?_
  intro W base args ds gs before hval0 hW hcnd _
  have hval : ∀ (j : Nat) t v, Try.f6.params[j]? = some t → args[j]? = some v → Value.okWide Try.prog W .any base t v := hval0
  have hW' := hW
  obtain ⟨p, q, hA0, hV, rfl, hfz, hnd⟩ := hW
  have hA : DataW.TrodAll enc Try.prog W 0 (fun _ => true) true Try.f6.params.toList args.toList ds p := hA0
  rw [Try.params6] at hA hval
  obtain ⟨v0, v1, d0, d1, p0, p1, rfl, rfl, rfl, h0, h1⟩ := trodAll_two hA
  obtain ⟨rfl, rfl⟩ := trodVars_none hV
  obtain ⟨m, xs, em, rm, c1, c2⟩ := msg_open (hval 0 27 v0 rfl rfl) h0
  obtain ⟨o, ys, eo, ro, c3, c4⟩ := msg_open (hval 1 27 v1 rfl rfl) h1
  have hc := w6 m o _ _ Rd.e Rd.e ⟨c1, c2⟩ ⟨c3, c4⟩ []
  refine (calls_of (vs := [v0, v1]) hc rfl ?_ ?_).mono fun e W' ⟨he, hk⟩ => ?_
  · intro i v d hi hd
    match i with
    | 0 => cases hi; cases hd; exact rm
    | 1 => cases hi; cases hd; exact ro
    | i + 2 => simp at hi
  · intro d hd
    simp only [List.mem_cons, List.not_mem_nil, or_false] at hd
    rcases hd with rfl | rfl
    · rw [em]; exact .agg xs
    · rw [eo]; exact .agg ys
  · subst he
    exact ⟨_, rfl, post_kept hW' rfl hk laid_out (by rw [Try.params6]; decide +kernel) (fun _ _ _ => trodAll_mk1 (shut_bool Try.underlying4 true)) rfl rfl (ok_one (t := 4) (by kernel_rfl) rfl wide_true)⟩

theorem wireApart_holds : Rows.WireApartSaid :=
  OpenClaim.holds_of_wide 6 Try.f6 rfl rfl rfl rfl rfl rfl rfl ⟨rfl, rfl, rfl, rfl, rfl⟩ rfl rfl rfl rfl rfl (by kernel_rfl) Try.func6 (by kernel_rfl)
    (of_decide_eq_true (by kernel_rfl)) (by unfold Func.isWrapper; first | (rw [if_pos (by decide +kernel)]; kernel_rfl) | (rw [if_neg (by decide +kernel)]; exact ⟨rfl, rfl⟩))
    (fun os started H enc _ => f_lifted os started H enc)

end Go.Proofs.Ytkimilghfbgjmaa
