/-
  WireBack: WHATEVER THE INPUT the law returns true, and the input reads as it did. No condition.
-/
import Derived.Test.YtkimilghfbgjmaaP26
import Derived.Test.YtkimilghfbgjmaaP25
import Derived.Test.YtkimilghfbgjmaaRows

namespace Go.Proofs.Ytkimilghfbgjmaa
open Go.Abs Go.ChangeShapes Go.WideShapes Go.ChangeAt Go.RowKit

set_option maxRecDepth 100000 in
theorem f_lifted (os : Os) (started : os.Started) (H : Type) (enc : TypeId × Value → H) :
    ReturnsInHanded {} Try.checked os 3 .any (Rows.wireBackSpec.pre6 enc Try.prog Try.f3 Rows.wireBackRow.domain false) (Rows.wireBackSpec.post enc Try.prog Try.f3 false true false false) := by
  refine returnsInHanded_of_change (C := Try.checked) own_knob started (by kernel_rfl) Try.func3
    (ChangeSpec.witness6 (enc := enc) (C := Try.checked) false ⟨#[], #[.agg #[.int .u8 0, .int .i64 0, .int .i64 0, .int .i64 0, .int .i64 0, .bool false, .bool false, .int .i64 0, .int .i64 0, .slice none 0 0, .string ⟨#[]⟩, .int .i64 0, .int .i64 0, .bool false, .int .i64 0], .int .i64 0, .int .u32 0], []⟩ 8 (by kernel_rfl) (by kernel_rfl) (by kernel_rfl) (by kernel_rfl)) ?_
  intro W base args ds gs before hval0 hW hcnd _
  have hval : ∀ (j : Nat) t v, Try.f3.params[j]? = some t → args[j]? = some v → Value.okWide Try.prog W .any base t v := hval0
  have hW' := hW
  obtain ⟨p, q, hA0, hV, rfl, hfz, hnd⟩ := hW
  have hA : DataW.TrodAll enc Try.prog W 0 (fun _ => true) true Try.f3.params.toList args.toList ds p := hA0
  rw [Try.params3] at hA hval
  obtain ⟨v0, v1, v2, d0, d1, d2, p0, p1, p2, rfl, rfl, rfl, h0, h1, h2⟩ := trodAll_three hA
  obtain ⟨rfl, rfl⟩ := trodVars_none hV
  obtain ⟨m, xs, em, rm, c1, c2⟩ := msg_open (hval 0 27 v0 rfl rfl) h0
  obtain ⟨at_, rfl, c3, c4⟩ := Zii (k := .i64) Try.underlying3 (by have := hval 1 3 v1 rfl rfl; simpa only [Value.okWide, Try.underlying3] using this)
  obtain ⟨by_, rfl, c5, c6⟩ := Zii (k := .u32) Try.underlying28 (by have := hval 2 28 v2 rfl rfl; simpa only [Value.okWide, Try.underlying28] using this)
  have c5' : (0 : Int) ≤ by_ := c5
  have c6' : by_ ≤ 4294967295 := c6
  have hc := w3 m _ Rd.e ⟨c1, c2⟩ at_ ⟨c3, c4⟩ by_.toNat (by omega) []
  rw [show ((by_.toNat : Nat) : Int) = by_ by omega] at hc
  refine (calls_of (vs := [v0, .int .i64 at_, .int .u32 by_]) hc rfl ?_ ?_).mono fun e W' ⟨he, hk⟩ => ?_
  · intro i v d hi hd
    match i with
    | 0 => cases hi; cases hd; exact rm
    | 1 => cases hi; cases hd; exact .e _ _ (.int .i64 at_)
    | 2 => cases hi; cases hd; exact .e _ _ (.int .u32 by_)
    | i + 3 => simp at hi
  · intro d hd
    simp only [List.mem_cons, List.not_mem_nil, or_false] at hd
    rcases hd with rfl | rfl | rfl
    · rw [em]; exact .agg xs
    · exact .e _
    · exact .e _
  · subst he
    exact ⟨_, rfl, post_kept hW' rfl hk laid_out (by rw [Try.params3]; decide +kernel) (fun _ _ _ => trodAll_mk1 (shut_bool Try.underlying4 true)) rfl rfl (ok_one (t := 4) (by kernel_rfl) rfl wide_true)⟩

theorem wireBack_holds : Rows.WireBackSaid :=
  OpenClaim.holds_of_wide 3 Try.f3 rfl rfl rfl rfl rfl rfl rfl ⟨rfl, rfl, rfl, rfl, rfl⟩ rfl rfl rfl rfl rfl (by kernel_rfl) Try.func3 (by kernel_rfl)
    (of_decide_eq_true (by kernel_rfl)) (by unfold Func.isWrapper; first | (rw [if_pos (by decide +kernel)]; kernel_rfl) | (rw [if_neg (by decide +kernel)]; exact ⟨rfl, rfl⟩))
    (fun os started H enc _ => f_lifted os started H enc)

end Go.Proofs.Ytkimilghfbgjmaa
