/-
  WIRE: the list of a message, its end. WIRE: msg.Right. No condition.
-/
import Derived.Test.YtkimilghfbgjmaaP18

namespace Go.Abs
open Go Go.Proofs
set_option maxRecDepth 10000
set_option maxHeartbeats 4000000

def good78 (n : Int) (b : Bool) : Bool := b && isPlace n
/-- The loop's body has returned. -/
def doneAt (H : List O) (L : Nat) : List O := match H[L]? with
  | some (.loop _ _ f env ps asg body) => H.set L (.loop .done (some .ret) f env ps asg body)
  | _ => H
theorem kRng_of {P : Program} {pr : FuncId → List D → Option D} {cv : FuncId → Nat → List Cv} {β : Type} {k : X × St → Option β} {s : St} {c v : Option (Out × List O)} {r : Option β} (hc : c = v) (h : kRng s k v = r) : kRng s k c = r := hc ▸ h

theorem all78 (xs : List Int) (frm : Int) : AllG xs frm good78 ↔ ListN xs frm xs.length := by
  constructor
  · intro hall j x hj hx
    have := hall j x hx
    simp only [good78, Bool.and_eq_true, bne_iff_ne, ne_eq, Bool.not_eq_true', decide_eq_false_iff_not] at this
    refine ⟨this.2, this.1.1, fun k y hk hy e => this.1.2 ?_⟩
    subst e
    exact List.mem_of_getElem? (i := k) (by rw [List.getElem?_take_of_lt hk]; exact hy)
  · intro hl i x hx
    obtain ⟨h1, h2, h3⟩ := hl i x (List.getElem?_eq_some_iff.1 hx).1 hx
    simp only [good78, Bool.and_eq_true, bne_iff_ne, ne_eq, Bool.not_eq_true', decide_eq_false_iff_not]
    refine ⟨⟨h2, fun hm => ?_⟩, h1⟩
    obtain ⟨k, hk⟩ := List.mem_iff_getElem?.1 hm
    have hki : k < i := by
      have := (List.getElem?_eq_some_iff.1 hk).1
      simp at this; omega
    rw [List.getElem?_take_of_lt hki] at hk
    exact h3 k x hki hk rfl

open Classical in
theorem w92b (H : List O) (L p1 p2 i0 : Nat) (a : D) (xs : List Int) (frm : Int) (ha : Rd a (isE xs)) (hx : xs.length ≤ 1099511627776) (hc1 : getCells H p1 = some [a]) (hc2 : getCells H p2 = some [.int .i64 frm]) (good : Int → Bool → Bool)
    (hr : ∀ n b, call Try.prog wpr wcv (.round L) [.int .i64 n, .bool b] H = some (.val (.bool (good n b)), if good n b then H else doneAt (H.set i0 (.cells [.bool false])) L)) (hgc : gc H.length H (doneAt (H.set i0 (.cells [.bool false])) L) undefD = doneAt (H.set i0 (.cells [.bool false])) L) :
    call Try.prog wpr wcv (.fn 92) [.func (.yield L) [] [], .ptr p1 0, .ptr p2 0] H = some (.val undefD, if AllG xs frm good then H else doneAt (H.set i0 (.cells [.bool false])) L) := w92 H _ L p1 p2 a xs frm ha hx hc1 hc2 good hr hgc
theorem doneAt_eq {H : List O} {L : Nat} {st : LoopState} {pd : Option Code} {f : FuncId} {env : List D} {ps : List Tmp} {asg body : Code} (hl : H[L]? = some (.loop st pd f env ps asg body)) : doneAt H L = H.set L (.loop .done (some .ret) f env ps asg body) := by simp [doneAt, hl]
theorem doneAt_len {H : List O} {L : Nat} : (doneAt H L).length = H.length := by unfold doneAt; split <;> simp
theorem gc_len {n : Nat} {h h' : List O} {d : D} (hl : h'.length = n) : gc n h h' d = h' := by
  unfold gc; split
  · exact List.take_of_length_le (by omega)
  · rfl
section
variable {β : Type} {k : X × St → Option β} {tl : List D} {df : List (FuncId × List D)} {r : Rc} {h h' : List O}
theorem kRng_nrm' {n : Nat} {d : D} {st : LoopState} {f : FuncId} {env : List D} {ps : List Tmp} {asg body : Code} (hn : h.length = n) (hl : h'[n]? = some (.loop st none f env ps asg body)) (hs : st ≠ .busy) :
    kRng ⟨tl, df, r, h⟩ k (some (.val d, h')) = k (.nrm, ⟨tl.map kep, df, r, gc n h (h'.set n .dead) undefD⟩) := by subst hn; exact kRng_nrm hl hs
theorem kRng_ret' {n : Nat} {d : D} {st : LoopState} {f : FuncId} {env : List D} {ps : List Tmp} {asg body : Code} (hn : h.length = n) (hl : h'[n]? = some (.loop st (some .ret) f env ps asg body)) (hs : st ≠ .busy) :
    kRng ⟨tl, df, r, h⟩ k (some (.val d, h')) = k (.ret, ⟨tl.map kep, df, r, gc n h (h'.set n .dead) undefD⟩) := by subst hn; exact kRng_ret hl hs
end
/-- The objects l are as they were in lx's front, or fit. -/
def FrontO (n : Nat) : List O → List O → Prop
  | [], _ => True
  | a :: l, b :: lx => (b = a ∨ FitO n b) ∧ FrontO n l lx
  | _ :: _, [] => False
theorem frontO_len {n : Nat} {l lx : List O} (h : FrontO n l lx) : l.length ≤ lx.length := by
  induction l generalizing lx with
  | nil => simp
  | cons a l ih =>
    cases lx with
    | nil => exact h.elim
    | cons b lx => have := ih h.2; simp; omega
theorem frontO_get {n : Nat} {l lx : List O} (h : FrontO n l lx) {j : Nat} {o o' : O} (h1 : l[j]? = some o) (h2 : lx[j]? = some o') : o' = o ∨ FitO n o' := by
  induction l generalizing lx j with
  | nil => simp at h1
  | cons a l ih =>
    cases lx with
    | nil => exact h.elim
    | cons b lx =>
      cases j with
      | zero => simp at h1 h2; subst h1; subst h2; exact h.1
      | succ j => exact ih h.2 (by simpa using h1) (by simpa using h2)
theorem gc_tail {n : Nat} {h l lx : List O} {d : D} (hn : n = h.length + l.length) (hf : Fit n d) (hk : FrontO n l lx) : gc n (h ++ l) (h ++ lx) d = h ++ lx.take l.length := by
  have hle := frontO_len hk
  have hkeep : Keeps n (h ++ l) (h ++ lx) := by
    refine ⟨by simp; omega, fun i hi o o' h1 h2 => ?_⟩
    by_cases hih : i < h.length
    · rw [List.getElem?_append_left hih] at h1 h2
      rw [h1] at h2; cases h2; exact .inl (.refl _)
    · rw [List.getElem?_append_right (by omega)] at h1 h2
      rcases frontO_get hk h1 h2 with h4 | h4
      · subst h4; exact .inl (.refl _)
      · exact .inr h4
  unfold gc
  rw [if_pos ⟨hf, hkeep⟩, hn, List.take_append, List.take_of_length_le (by omega)]
  congr 2
  omega
theorem shrT_undef : shrT undefD = undefD := rfl
theorem shrT_e {x : E} : shrT (.e x) = .e x := rfl
theorem shrT_ptr {i o : Nat} : shrT (.ptr i o) = .ptr i o := rfl
theorem shrT_func {f : Fn} {a b : List D} : shrT (.func f a b) = .func f a b := rfl
theorem shrT_rd {d : D} {es : List (List E)} (h : Rd d es) : shrT d = d := by
  have h1 := h.own
  have h2 := h.sl
  cases d with
  | osl ex fu sz es' => cases ex <;> cases fu <;> simp_all [own0, shrT, shr, shr0]
  | _ => simp_all [slOf, shrT, shr, shr0]

theorem kep_undef : kep undefD = undefD := rfl
theorem kep_e {x : E} : kep (.e x) = .e x := rfl
theorem kep_ptr {i o : Nat} : kep (.ptr i o) = .ptr i o := rfl
theorem kep_func {f : Fn} {a b : List D} : kep (.func f a b) = .func f a b := rfl
theorem kep_rd {d : D} {es : List (List E)} (h : Rd d es) : kep d = d := by
  have h1 := h.own
  have h2 := h.sl
  cases d with
  | osl ex fu sz es' => cases ex <;> cases fu <;> simp_all [own0, kep, kep0]
  | _ => simp_all [slOf, kep, kep0]

open Classical in
theorem w78 (a : D) (xs : List Int) (frm : Int) (ha : Rd a (isE xs)) (hx : xs.length ≤ 1099511627776) (h : List O) : wc 78 [a, .int .i64 frm] h = some (.val (.bool (listZ xs frm)), h) := by
  have la := rd_len ha
  have h89 := w89 a xs frm ha
  have hcv : ∀ i, wcv 78 i = [] := fun _ => rfl
  have hres : Try.f78.results.toList = [ResultVar.cell 4 4] := rfl
  rw [wc, call_fn rfl Try.func78 rfl]
  simp only [enterT, List.length_cons, List.length_nil, Nat.reduceAdd, Nat.reduceSub, List.replicate, List.cons_append, List.nil_append, kx_seq, kx_block, kSeq_nrm, ko_nil, ko_op, ko_func, kT_some, kR_val, kC_val, ne_eq, reduceCtorEq, not_false_eq_true, implies_true, List.set_cons_succ, List.set_cons_zero, List.getD_cons_succ, List.getD_cons_zero, own_e, ↓reduceIte, exO_move_tmp, exO_alloc, tk_plain, tks_nil, tks_cons, hlen, cellsOf_e, notTup_e, Nat.zero_add, kx_region (hcv _), Try.ntmps78, ha.ownD, zo4, h89]
  rw [kx_range rfl rfl rfl]
  simp only [List.length_cons, List.length_nil, Nat.reduceAdd, List.cons_append, List.nil_append, hlen, List.map_cons, List.map_nil, Nat.zero_add, List.append_assoc, Nat.add_assoc, shrT_undef, shrT_e, shrT_ptr, shrT_func, shrT_rd ha]
  refine kRng_of (P := Try.prog) (pr := wpr) (cv := wcv) (w92b _ _ _ _ h.length a xs frm ha hx (by simp [getCells]) (by simp [getCells]) good78 ?_ ?_) ?_
  · intro n b
    refine (call_round (hgetn.trans rfl) rfl).trans ?_
    simp only [kx_seq, kSeq_nrm, ko_nil, ko_op, kR_val, ne_eq, reduceCtorEq, not_false_eq_true, implies_true, Option.map_some, List.set_cons_succ, List.set_cons_zero, List.getD_cons_succ, List.getD_cons_zero, own_e, exO_assign, tk_plain, List.foldl_nil, hset0, kx_region (hcv _), List.zip_cons_cons, List.zip_nil_right, List.foldl_cons]
    rw [kBody_nrm (hgetn.trans rfl), doneAt_eq (hgetn.trans rfl)]
    cases b
    · simp only [List.length_cons, List.length_nil, Nat.reduceAdd, List.nil_append, kx_seq, kx_ret, kx_block, kx_cond_tmp, kCond_true, kSeq_nrm, kBlk_ret, ko_nil, ko_op, ko_guard, kR_val, kR_val0, kG_no, St.put, List.getElem?_toArray, List.getElem?_cons_succ, List.getElem?_cons_zero, Option.bind_some, Nat.reduceLT, ne_eq, reduceCtorEq, not_false_eq_true, implies_true, Bool.not_false, Bool.false_eq_true, Option.map_some, List.set_cons_succ, List.set_cons_zero, List.getD_cons_succ, List.getD_cons_zero, own_e, ↓reduceIte, exO_move_tmp, exO_unOp, exO_pick, exO_store, tk_const, sh_const, rd_tmp, ofV_bool, Int.reduceLT, unD_not, and_self, Option.some.injEq, Prod.mk.injEq, List.append_nil, gc_app0, gc_hd, hset0, hsetn, adOf_ptr, putAt_eq', cellsOf_e, notTup_e, store1, List.take_zero, List.drop_succ_cons, List.drop_zero, Bool.false_and, Nat.zero_add, Nat.le_refl, sz4, kx_region (hcv _), good78]
      rw [rout_ret (hgetn.trans rfl)]
      simp only [List.set_cons_succ, List.set_cons_zero, hsetn]
    · simp only [List.length_cons, List.length_nil, Nat.reduceAdd, kx_seq, kx_block, kx_cond_tmp, kSeq_nrm, ko_nil, ko_op, ko_func, kT_some, ko_guard, kR_val, kC_val, kG_yes, List.getElem?_toArray, List.getElem?_cons_succ, List.getElem?_cons_zero, Option.bind_some, Nat.reduceLT, ne_eq, reduceCtorEq, not_false_eq_true, implies_true, Bool.not_true, Bool.false_eq_true, Option.map_some, List.set_cons_succ, List.set_cons_zero, List.getD_cons_succ, List.getD_cons_zero, own_e, ↓reduceIte, exO_move_tmp, exO_unOp, exO_pick, tk_plain, sh_plain, rd_tmp, tks_nil, tks_cons, Int.reduceLT, unD_not, Option.some.injEq, Prod.mk.injEq, true_and, hsetn, Bool.true_and, Nat.zero_add, kx_region (hcv _), good78, w42]
      cases hp : isPlace n
      · simp only [List.length_cons, List.length_nil, List.nil_append, kx_seq, kx_ret, kCond_true, kSeq_nrm, kBlk_ret, ko_nil, ko_op, kR_val0, Option.bind_some, ne_eq, reduceCtorEq, not_false_eq_true, implies_true, Bool.not_false, Bool.false_eq_true, Option.map_some, List.getD_cons_succ, List.getD_cons_zero, ↓reduceIte, exO_store, tk_const, rd_tmp, ofV_bool, and_self, List.append_nil, gc_app0, gc_hd, hset0, adOf_ptr, putAt_eq', cellsOf_e, notTup_e, store1, List.take_zero, List.drop_succ_cons, List.drop_zero, Nat.zero_add, Nat.le_refl, sz4, kx_region (hcv _)]
        rw [rout_ret (hgetn.trans rfl)]
        simp only [List.set_cons_succ, List.set_cons_zero, hsetn]
      · simp only [kx_skip, kCond_false, kBlk_nrm, Bool.not_true, ↓reduceIte]
        rw [rout_nrm (hgetn.trans rfl)]
        simp only [List.set_cons_succ, List.set_cons_zero, hsetn]
  · exact gc_len (by rw [doneAt_len, List.length_set])
  · by_cases hall : AllG xs frm good78
    · rw [if_pos hall, kRng_nrm' (n := h.length + 3) (by simp) (hgetn.trans rfl) (by simp)]
      simp only [kx_seq, kSeq_nrm, kBlk_nrm, ko_op, ne_eq, reduceCtorEq, not_false_eq_true, implies_true, List.set_cons_succ, List.set_cons_zero, hsetn, List.map_cons, List.map_nil, kx_region (hcv _)]
      rw [gc_tail (n := h.length + 3) (h := h) (l := [_, _, _]) rfl (.tup [] (by simp)) ?_]
      rotate_left
      · exact ⟨.inl rfl, .inl rfl, .inl rfl, trivial⟩
      have hz : listZ xs frm = decide ((xs.length : Int) ≤ 3) := by simp [listZ, (all78 xs frm).1 hall]
      simp only [List.length_cons, List.length_nil, Nat.reduceAdd, List.nil_append, kx_ret, kSeq_nrm, ko_nil, ko_op, ko_builtin, kR_val, kR_val0, List.getElem?_toArray, List.getElem?_cons_zero, Option.bind_some, ne_eq, reduceCtorEq, not_false_eq_true, implies_true, Bool.false_eq_true, Option.map_some, List.set_cons_succ, List.set_cons_zero, List.getD_cons_succ, List.getD_cons_zero, own_e, own0_e, ↓reduceIte, exO_move_tmp, exO_binOp, exO_store, tk_plain, rd_tmp, rd_const, ofV_int, binD_leq, arith_leq, exB_len, kF_ret, leave_eq, resD_nil, resD_cell, tupD_one, fit_e, and_self, List.append_nil, gc_app0, gc_hd, hset0, adOf_ptr, putAt_eq', cellsOf_e, notTup_e, load1, store1, gc_more, List.take_succ_cons, List.take_zero, List.drop_succ_cons, List.drop_zero, Option.bind_eq_bind, Nat.zero_add, Option.pure_def, Nat.le_refl, sz4, ag4, hres, kep_undef, kep_e, kep_ptr, kep_func, kep_rd ha, ha.ownD, la, hz]
    · rw [if_neg hall, hset0, doneAt_eq (hgetn.trans rfl), kRng_ret' (n := h.length + 3) (by simp) (by rw [hsetn]; exact hgetn.trans rfl) (by simp)]
      simp only [kSeq_ret, kBlk_ret, List.set_cons_succ, List.set_cons_zero, List.getD_cons_succ, List.getD_cons_zero, kF_ret, leave_eq, resD_nil, resD_cell, hsetn, List.map_cons, List.map_nil, hres]
      rw [gc_tail (n := h.length + 3) (h := h) (l := [_, _, _]) rfl (.tup [] (by simp)) ?_]
      rotate_left
      · exact ⟨.inr (.cells _ (by simp [fit_e])), .inl rfl, .inl rfl, trivial⟩
      have hz : listZ xs frm = false := by simp only [listZ, Bool.and_eq_false_iff, decide_eq_false_iff_not]; exact .inl fun hl => hall ((all78 xs frm).2 hl)
      simp only [List.length_cons, List.length_nil, Nat.reduceAdd, List.getElem?_cons_zero, Bool.false_eq_true, own0_e, ↓reduceIte, tupD_one, fit_e, gc_app0, gc_hd, adOf_ptr, load1, gc_more, List.take_succ_cons, List.take_zero, Nat.zero_add, Nat.le_refl, sz4, ag4, kep_undef, kep_e, kep_ptr, kep_func, kep_rd ha, hz]

end Go.Abs

namespace Go.Abs
open Go Go.Proofs
set_option maxRecDepth 10000
set_option maxHeartbeats 4000000

/-- Is what its kind may have as it is to be? -/
noncomputable def Msg.fine (m : Msg) : Bool :=
  if m.kind == 4 then isPlace m.key else
  if m.kind == 5 then finePair m.ikey m.ival m.iver else
  if m.kind == 6 then fineKey m.ikey else
  if m.kind == 7 then ((m.pred == -1) || isPlace m.pred) && listZ m.list m.frm else
  if m.kind == 10 then isPlace m.place else
  if m.kind == 11 then (m.code == 0) || (m.code == 200) else
  if m.kind == 12 then ((m.code == 0) && finePair m.ikey m.ival m.iver) || ((m.code == 201) && ((m.ikey == { data := #[] }) && ((m.ival == 0) && ((m.iver == 0) && (m.gone == false))))) else true

theorem w44 (m : Msg) (l : D) (hl : Rd l (isE m.list)) (hx : m.list.length ≤ 1099511627776) (h : List O) : wc 44 [.agg (m.cs l)] h = some (.val (.bool m.fine), h) := by
  have hp := w76 m.ikey m.ival m.iver m.gone
  have hll := w78 l m.list m.frm hl hx
  simp only [itemCs] at hp
  have hcv : ∀ i, wcv 44 i = [] := fun _ => rfl
  have hres : Try.f44.results.toList = [ResultVar.tmp 2] := rfl
  rw [wc, call_fn rfl Try.func44 rfl]
  simp only [enterT, List.length_cons, List.length_nil, Nat.reduceAdd, Nat.reduceSub, List.replicate, List.cons_append, List.nil_append, kx_seq, kx_block, kx_cond_tmp, kSeq_nrm, ko_nil, ko_op, kR_val, List.getElem?_cons_zero, Option.bind_some, Nat.reduceLeDiff, ne_eq, reduceCtorEq, not_false_eq_true, implies_true, Bool.false_eq_true, Option.map_some, List.set_cons_succ, List.set_cons_zero, List.getD_cons_succ, List.getD_cons_zero, own_e, own_agg, List.any_cons, List.any_nil, own0_e, ↓reduceIte, exO_assign, exO_binOp, exO_box, exO_fieldAddr, tk_plain, tk_const, rd_tmp, rd_const, ofV_int, ofV_bool, binD_eql, Int.reduceNeg, arith_eql, gc_app0, gc_hd, adOf_ptr, adD_ob, add_ob, cellsOf_agg, notTup_agg, load1, fieldAddrD, exO_load, Bool.or_self, Nat.add_zero, Nat.zero_add, Nat.succ_ne_zero, sz5, ag5, st27, kx_region (hcv _), Try.ntmps44, Msg.cs, hl.own]
  cases h4 : m.kind == 4
  rotate_left
  · simp only [List.length_cons, List.length_nil, Nat.reduceAdd, kx_seq, kx_ret, kCond_true, kSeq_nrm, kSeq_ret, kBlk_ret, ko_nil, ko_op, ko_func, kT_some, kR_val, kC_val, List.getElem?_cons_succ, List.getElem?_cons_zero, Option.bind_some, Nat.reduceLeDiff, ne_eq, reduceCtorEq, not_false_eq_true, implies_true, Bool.false_eq_true, Option.map_some, List.set_cons_succ, List.set_cons_zero, List.getD_cons_succ, List.getD_cons_zero, own_e, own0_e, ↓reduceIte, exO_assign, exO_fieldAddr, tk_plain, rd_tmp, tks_nil, tks_cons, Int.reduceNeg, kF_ret, leave_eq, resD_nil, resD_tmp, tupD_one, fit_e, gc_app0, gc_hd, adOf_ptr, adD_ob, add_ob, load1, gc_more, fieldAddrD, exO_load, Nat.zero_add, Nat.succ_ne_zero, sz3, ag3, st27, kx_region (hcv _), hres, h4, w42, Msg.fine]
  simp only [kx_seq, kx_cond_tmp, kCond_false, kSeq_nrm, ko_nil, ko_op, kR_val, ne_eq, reduceCtorEq, not_false_eq_true, implies_true, Option.map_some, List.set_cons_succ, List.set_cons_zero, List.getD_cons_succ, List.getD_cons_zero, own_e, exO_assign, exO_binOp, tk_plain, rd_tmp, rd_const, ofV_int, binD_eql, Int.reduceNeg, arith_eql, kx_region (hcv _)]
  cases h5 : m.kind == 5
  rotate_left
  · simp only [List.length_cons, List.length_nil, Nat.reduceAdd, kx_seq, kx_ret, kCond_true, kSeq_nrm, kSeq_ret, kBlk_ret, ko_nil, ko_op, ko_func, kT_some, kR_val, kC_val, List.getElem?_cons_succ, List.getElem?_cons_zero, Option.bind_some, Nat.reduceLeDiff, ne_eq, reduceCtorEq, not_false_eq_true, implies_true, Bool.false_eq_true, Option.map_some, List.set_cons_succ, List.set_cons_zero, List.getD_cons_succ, List.getD_cons_zero, own_e, own_agg, List.any_cons, List.any_nil, own0_e, ↓reduceIte, exO_assign, exO_fieldAddr, tk_plain, rd_tmp, tks_nil, tks_cons, Int.reduceNeg, kF_ret, leave_eq, resD_nil, resD_tmp, tupD_one, fit_e, gc_app0, gc_hd, adOf_ptr, adD_ob, add_ob, load1, gc_more, List.take_succ_cons, List.take_zero, List.drop_succ_cons, List.drop_zero, fieldAddrD, exO_load, Bool.or_self, Nat.zero_add, Nat.succ_ne_zero, sz24, ag24, st27, kx_region (hcv _), hres, h5, hp, Msg.fine, h4]
  simp only [kx_seq, kx_cond_tmp, kCond_false, kSeq_nrm, ko_nil, ko_op, kR_val, ne_eq, reduceCtorEq, not_false_eq_true, implies_true, Option.map_some, List.set_cons_succ, List.set_cons_zero, List.getD_cons_succ, List.getD_cons_zero, own_e, exO_assign, exO_binOp, tk_plain, rd_tmp, rd_const, ofV_int, binD_eql, Int.reduceNeg, arith_eql, kx_region (hcv _)]
  cases h6 : m.kind == 6
  rotate_left
  · simp only [List.length_cons, List.length_nil, Nat.reduceAdd, kx_seq, kx_ret, kCond_true, kSeq_nrm, kSeq_ret, kBlk_ret, ko_nil, ko_op, ko_func, kT_some, kR_val, kC_val, List.getElem?_cons_succ, List.getElem?_cons_zero, Option.bind_some, Nat.reduceLeDiff, ne_eq, reduceCtorEq, not_false_eq_true, implies_true, Bool.false_eq_true, Option.map_some, List.set_cons_succ, List.set_cons_zero, List.getD_cons_succ, List.getD_cons_zero, own_e, own0_e, ↓reduceIte, exO_assign, exO_fieldAddr, tk_plain, rd_tmp, tks_nil, tks_cons, Int.reduceNeg, kF_ret, leave_eq, resD_nil, resD_tmp, tupD_one, fit_e, gc_app0, gc_hd, adOf_ptr, adD_ob, add_ob, load1, gc_more, fieldAddrD, exO_load, Nat.add_zero, Nat.zero_add, Nat.succ_ne_zero, sz9, sz24, ag9, st24, st27, kx_region (hcv _), hres, h6, w77, Msg.fine, h4, h5]
  simp only [kx_seq, kx_cond_tmp, kCond_false, kSeq_nrm, ko_nil, ko_op, kR_val, ne_eq, reduceCtorEq, not_false_eq_true, implies_true, Option.map_some, List.set_cons_succ, List.set_cons_zero, List.getD_cons_succ, List.getD_cons_zero, own_e, exO_assign, exO_binOp, tk_plain, rd_tmp, rd_const, ofV_int, binD_eql, Int.reduceNeg, arith_eql, kx_region (hcv _)]
  cases h7 : m.kind == 7
  rotate_left
  · simp only [List.length_cons, List.length_nil, Nat.reduceAdd, kx_seq, kCond_true, ko_op, ko_guard, kR_val, List.getElem?_toArray, List.getElem?_cons_succ, List.getElem?_cons_zero, Option.bind_some, Nat.reduceLT, Nat.reduceLeDiff, ne_eq, reduceCtorEq, not_false_eq_true, implies_true, Bool.false_eq_true, Option.map_some, List.set_cons_succ, List.set_cons_zero, List.getD_cons_succ, List.getD_cons_zero, own_e, own0_e, ↓reduceIte, exO_move_tmp, exO_binOp, exO_fieldAddr, rd_tmp, rd_const, ofV_int, binD_eql, Int.reduceLT, Int.reduceNeg, arith_eql, Option.some.injEq, Prod.mk.injEq, gc_app0, gc_hd, adOf_ptr, adD_ob, add_ob, load1, fieldAddrD, exO_load, Nat.zero_add, Nat.succ_ne_zero, sz3, ag3, st27, kx_region (hcv _), h7, Msg.fine, h4, h5, h6]
    cases h71 : m.pred == -1
    · simp only [List.length_cons, List.length_nil, Nat.reduceAdd, ko_op, ko_func, kT_some, ko_guard, kR_val, kC_val, kG_yes, List.getElem?_toArray, List.getElem?_cons_succ, List.getElem?_cons_zero, Option.bind_some, Nat.reduceLT, Nat.reduceLeDiff, ne_eq, reduceCtorEq, not_false_eq_true, implies_true, Bool.false_eq_true, Option.map_some, List.set_cons_succ, List.set_cons_zero, List.getD_cons_succ, List.getD_cons_zero, own_e, own0_e, Bool.false_or, ↓reduceIte, exO_move_tmp, exO_pick, exO_fieldAddr, tk_plain, sh_plain, rd_tmp, tks_nil, tks_cons, Int.reduceLT, Int.reduceNeg, Option.some.injEq, Prod.mk.injEq, gc_app0, gc_hd, adOf_ptr, adD_ob, add_ob, load1, fieldAddrD, exO_load, Nat.zero_add, Nat.succ_ne_zero, sz3, ag3, st27, w42]
      try simp only [enterT, List.length_cons, List.length_nil, Nat.reduceAdd, Nat.reduceSub, List.replicate, List.cons_append, List.nil_append, List.append_eq, kx_seq, kx_skip, kx_ret, kx_exit, kx_label, kx_goto, kx_block, kx_scope, kIn_eq, kx_cond_tmp, kCond_true, kCond_false, kSeq_nrm, kSeq_ret, kSeq_ext, kSeq_gto, kSeq_pan, kBlk_nrm, kBlk_ret, kBlk_ext, kBlk_gto, kBlk_pan, kLoop_nrm, kLoop_ret, kLoop_ext, kLoop_gto, kLoop_pan, kScope_nrm, kScope_ret, kScope_ext, kScope_pan, ko_nil, ko_op, ko_builtin, ko_func, kT_some, ko_guard, kR_val, kR_val0, kR_pan, kC_val, kC_val0, kC_pan, kG_yes, kG_no, kG_undef, St.put, List.getElem?_toArray, List.getElem?_cons_succ, List.getElem?_cons_zero, Option.bind_some, Nat.reduceLT, Nat.reduceLeDiff, ne_eq, reduceCtorEq, not_false_eq_true, implies_true, forall_const, Bool.not_true, Bool.not_false, not_true_eq_false, Bool.true_eq_false, Bool.false_eq_true, Option.map_some, List.set_cons_succ, List.set_cons_zero, List.getD_cons_succ, List.getD_cons_zero, own_e, own_undef, own_osl, own_agg, own_ptr, own_func, own_map, own_asl, own_rptr, own_hdr, own_iface, List.any_cons, List.any_nil, own0_e, own0_osl, own0_hdr, Bool.or_false, Bool.false_or, Bool.not_eq_true', if_false, if_true, ite_true, ite_false, ↓reduceIte, exO_move_tmp, exO_move_const, exO_assign, exO_binOp, exO_unOp, exO_convert, exO_pick, exO_alloc, exO_box, exO_build, exO_buildSlice, exO_store, exO_nilCheck, exO_makeInterface, exO_makeFunc, exO_makeMap, exO_slice, exO_fieldAddr, exO_indexAddr, exO_panic, exO_extract, tk_plain, sh_plain, tk_const, sh_const, rd_tmp, rd_const, rd_func, tks_nil, tks_cons, shs_nil, shs_cons, ofV_int, ofV_bool, ofV_str, ofV_nilsl, ofV_nilfn, ofV_nilif, ofV_nilptr, optO_none, optO_some, binD_add, binD_sub, binD_mul, binD_quo, binD_rem, binD_and, binD_or, binD_xor, binD_eql, binD_neq, binD_lss, binD_leq, binD_gtr, binD_geq, binD_shl, binD_shr, binS_add, binS_eql, binS_neq, strD_eql, strD_neq, binB_eql, binB_neq, shiftD_shl, shiftD_shr, arith_quo, arith_rem, Int.reduceLT, Int.reduceToNat, Int.reduceNe, Int.reduceNeg, IntKind.bits, arith_add, arith_sub, arith_mul, arith_and, arith_or, arith_xor, arith_eql, arith_neq, arith_lss, arith_leq, arith_gtr, arith_geq, unD_not, unD_neg, exB_len, exB_append, exB_min, exB_max, kF_ret, kF_nrm, kF_pan, leave_eq, leave_pan, resD_nil, resD_tmp, resD_cell, tupD_one, tupD_two, tupD_three, tupD_nil, gc_same, fit_e, fit_osl, fit_hdr, fit_tup, fit_agg, List.forall_mem_cons, List.not_mem_nil, false_imp_iff, and_true, and_self, List.toList_toArray, Option.some.injEq, Prod.mk.injEq, exists_eq_left', true_and, kd_nil, kd_l, kdL_some, kdV_some, kd_r, kdRO_some, kdR_nil, sealD_plain, preSeal_nil, preSeal_move, preSeal_other, exL_move, exL_const, exL_gen, exL_load, exLd_ob, exLd_ro, outV_some, ownOp_tmp, ownOp_const, ownOp_func, lo_pick, lo_build, lo_buildSlice, lo_nilCheck, lo_binOp, lo_unOp, lo_convert, lo_makeInterface, lo_makeFunc, lo_slice, lo_fieldAddr, lo_field, lo_indexAddr, lo_index, lo_lookup, lo_len, lo_typeAssert, Op.operands, Call.operands, exc0_e, exc0_osl, shr0_e, shr0_osl, shr0_osl', List.any_cons, List.any_nil, preCv, mkT, List.foldl_nil, Array.toList_append, List.append_nil, List.forall_mem_nil, gc_app0, gc_appn, gc_hd, gc_tl, hset0, hsetn, hlen, hpush, hget0, hgetn, adOf_ptr, adOf_rptr, adD_ob, adD_ro, add_ob, add_ro, putAt_eq', cellsOf_agg, cellsOf_e, cellsOf_osl, cellsOf_ptr, cellsOf_map, cellsOf_func, notTup_agg, notTup_e, notTup_osl, notTup_ptr, notTup_map, notTup_func, load1, load0, store1, gc_more, List.take_succ_cons, List.take_zero, List.drop_succ_cons, List.drop_zero, List.map_cons, List.map_nil, fieldAddrD, Option.bind_eq_bind, exO_load, Bool.or_self, Bool.and_false, Bool.and_true, Bool.true_and, Bool.false_and, Bool.or_true, Bool.true_or, Nat.add_zero, Nat.zero_add, Nat.reduceEqDiff, Nat.succ_ne_zero, len0_str, Option.pure_def, slOf_e, slOf_osl, Nat.le_refl, and_self, Try.underlying3, Try.underlying4, Try.underlying5, Try.underlying9, Try.underlying22, Try.underlying24, Try.underlying25, Try.underlying27, Try.underlying28, Try.underlying31, Try.underlying38, Try.underlying105, sz3, sz4, sz5, sz9, sz22, sz24, sz25, sz27, sz28, sz31, ag3, ag4, ag5, ag9, ag22, ag24, ag25, ag27, ag28, ag31, st24, st27, el22, el31, el105, kx_region (hcv _), hcv, Try.ntmps44, hres, hl.own, hl.ownD, h4, h5, h6, h7, Msg.fine, hll]
      cases hp0 : isPlace m.pred
      · simp only [List.length_cons, List.length_nil, Nat.reduceAdd, kx_ret, kSeq_nrm, kSeq_ret, kBlk_ret, ko_nil, ko_op, ko_guard, kR_val, kG_no, St.put, List.getElem?_toArray, List.getElem?_cons_succ, List.getElem?_cons_zero, Option.bind_some, Nat.reduceLT, ne_eq, reduceCtorEq, not_false_eq_true, implies_true, Bool.not_true, Bool.false_eq_true, Option.map_some, List.set_cons_succ, List.set_cons_zero, List.getD_cons_succ, List.getD_cons_zero, own_e, ↓reduceIte, exO_assign, exO_pick, tk_plain, sh_const, rd_tmp, ofV_bool, Int.reduceLT, Int.reduceNeg, kF_ret, leave_eq, resD_nil, resD_tmp, tupD_one, fit_e, Option.some.injEq, Prod.mk.injEq, gc_more, Bool.false_and, Nat.zero_add, hres]
      simp only [List.length_cons, List.length_nil, Nat.reduceAdd, kx_ret, kSeq_nrm, kSeq_ret, kBlk_ret, ko_nil, ko_op, ko_func, kT_some, ko_guard, kR_val, kC_val, kG_yes, List.getElem?_toArray, List.getElem?_cons_succ, List.getElem?_cons_zero, Option.bind_some, Nat.reduceLT, Nat.reduceLeDiff, ne_eq, reduceCtorEq, not_false_eq_true, implies_true, Bool.false_eq_true, Option.map_some, List.set_cons_succ, List.set_cons_zero, List.getD_cons_succ, List.getD_cons_zero, own_e, own0_e, ↓reduceIte, exO_assign, exO_pick, exO_fieldAddr, tk_plain, sh_plain, rd_tmp, tks_nil, tks_cons, Int.reduceLT, Int.reduceNeg, kF_ret, leave_eq, resD_nil, resD_tmp, tupD_one, fit_e, Option.some.injEq, Prod.mk.injEq, true_and, gc_app0, gc_hd, adOf_ptr, adD_ob, add_ob, load1, gc_more, fieldAddrD, exO_load, Bool.true_and, Nat.zero_add, Nat.succ_ne_zero, sz3, sz22, ag3, ag22, st27, hres, hl.own, hl.ownD, hll]
    · simp only [List.length_cons, List.length_nil, Nat.reduceAdd, kx_ret, kSeq_nrm, kSeq_ret, kBlk_ret, ko_nil, ko_op, ko_func, kT_some, ko_guard, kR_val, kC_val, kG_yes, kG_no, St.put, List.getElem?_toArray, List.getElem?_cons_succ, List.getElem?_cons_zero, Option.bind_some, Nat.reduceLT, Nat.reduceLeDiff, ne_eq, reduceCtorEq, not_false_eq_true, implies_true, Bool.not_false, Bool.false_eq_true, Option.map_some, List.set_cons_succ, List.set_cons_zero, List.getD_cons_succ, List.getD_cons_zero, own_e, own0_e, ↓reduceIte, exO_move_tmp, exO_assign, exO_pick, exO_fieldAddr, tk_plain, sh_plain, sh_const, rd_tmp, tks_nil, tks_cons, ofV_bool, Int.reduceLT, Int.reduceNeg, kF_ret, leave_eq, resD_nil, resD_tmp, tupD_one, fit_e, Option.some.injEq, Prod.mk.injEq, true_and, gc_app0, gc_hd, adOf_ptr, adD_ob, add_ob, load1, gc_more, fieldAddrD, exO_load, Bool.true_and, Bool.true_or, Nat.zero_add, Nat.succ_ne_zero, sz3, sz22, ag3, ag22, st27, hres, hl.own, hl.ownD, hll]
  simp only [kx_seq, kx_cond_tmp, kCond_false, kSeq_nrm, ko_nil, ko_op, kR_val, ne_eq, reduceCtorEq, not_false_eq_true, implies_true, Option.map_some, List.set_cons_succ, List.set_cons_zero, List.getD_cons_succ, List.getD_cons_zero, own_e, exO_assign, exO_binOp, tk_plain, rd_tmp, rd_const, ofV_int, binD_eql, Int.reduceNeg, arith_eql, kx_region (hcv _)]
  cases h10 : m.kind == 10
  rotate_left
  · simp only [List.length_cons, List.length_nil, Nat.reduceAdd, kx_seq, kx_ret, kCond_true, kSeq_nrm, kSeq_ret, kBlk_ret, ko_nil, ko_op, ko_func, kT_some, kR_val, kC_val, List.getElem?_cons_succ, List.getElem?_cons_zero, Option.bind_some, Nat.reduceLeDiff, ne_eq, reduceCtorEq, not_false_eq_true, implies_true, Bool.false_eq_true, Option.map_some, List.set_cons_succ, List.set_cons_zero, List.getD_cons_succ, List.getD_cons_zero, own_e, own0_e, ↓reduceIte, exO_assign, exO_fieldAddr, tk_plain, rd_tmp, tks_nil, tks_cons, kF_ret, leave_eq, resD_nil, resD_tmp, tupD_one, fit_e, gc_app0, gc_hd, adOf_ptr, adD_ob, add_ob, load1, gc_more, fieldAddrD, exO_load, Nat.zero_add, Nat.succ_ne_zero, sz3, ag3, st27, kx_region (hcv _), hres, h10, w42, Msg.fine, h4, h5, h6, h7]
  simp only [kx_seq, kx_cond_tmp, kCond_false, kSeq_nrm, ko_nil, ko_op, kR_val, ne_eq, reduceCtorEq, not_false_eq_true, implies_true, Option.map_some, List.set_cons_succ, List.set_cons_zero, List.getD_cons_succ, List.getD_cons_zero, own_e, exO_assign, exO_binOp, tk_plain, rd_tmp, rd_const, ofV_int, binD_eql, arith_eql, kx_region (hcv _)]
  cases h11 : m.kind == 11
  rotate_left
  · simp only [List.length_cons, List.length_nil, Nat.reduceAdd, kx_seq, kCond_true, ko_op, ko_guard, kR_val, List.getElem?_toArray, List.getElem?_cons_succ, List.getElem?_cons_zero, Option.bind_some, Nat.reduceLT, ne_eq, reduceCtorEq, not_false_eq_true, implies_true, Bool.false_eq_true, Option.map_some, List.set_cons_succ, List.set_cons_zero, List.getD_cons_succ, List.getD_cons_zero, own_e, own0_e, ↓reduceIte, exO_move_tmp, exO_binOp, exO_fieldAddr, rd_tmp, rd_const, ofV_int, binD_eql, Int.reduceLT, arith_eql, Option.some.injEq, Prod.mk.injEq, gc_app0, gc_hd, adOf_ptr, adD_ob, add_ob, load1, fieldAddrD, exO_load, Nat.zero_add, Nat.succ_ne_zero, Nat.le_refl, sz25, ag25, st27, kx_region (hcv _), h11, Msg.fine, h4, h5, h6, h7, h10]
    try simp only [enterT, List.length_cons, List.length_nil, Nat.reduceAdd, Nat.reduceSub, List.replicate, List.cons_append, List.nil_append, List.append_eq, kx_seq, kx_skip, kx_ret, kx_exit, kx_label, kx_goto, kx_block, kx_scope, kIn_eq, kx_cond_tmp, kCond_true, kCond_false, kSeq_nrm, kSeq_ret, kSeq_ext, kSeq_gto, kSeq_pan, kBlk_nrm, kBlk_ret, kBlk_ext, kBlk_gto, kBlk_pan, kLoop_nrm, kLoop_ret, kLoop_ext, kLoop_gto, kLoop_pan, kScope_nrm, kScope_ret, kScope_ext, kScope_pan, ko_nil, ko_op, ko_builtin, ko_func, kT_some, ko_guard, kR_val, kR_val0, kR_pan, kC_val, kC_val0, kC_pan, kG_yes, kG_no, kG_undef, St.put, List.getElem?_toArray, List.getElem?_cons_succ, List.getElem?_cons_zero, Option.bind_some, Nat.reduceLT, Nat.reduceLeDiff, ne_eq, reduceCtorEq, not_false_eq_true, implies_true, forall_const, Bool.not_true, Bool.not_false, not_true_eq_false, Bool.true_eq_false, Bool.false_eq_true, Option.map_some, List.set_cons_succ, List.set_cons_zero, List.getD_cons_succ, List.getD_cons_zero, own_e, own_undef, own_osl, own_agg, own_ptr, own_func, own_map, own_asl, own_rptr, own_hdr, own_iface, List.any_cons, List.any_nil, own0_e, own0_osl, own0_hdr, Bool.or_false, Bool.false_or, Bool.not_eq_true', if_false, if_true, ite_true, ite_false, ↓reduceIte, exO_move_tmp, exO_move_const, exO_assign, exO_binOp, exO_unOp, exO_convert, exO_pick, exO_alloc, exO_box, exO_build, exO_buildSlice, exO_store, exO_nilCheck, exO_makeInterface, exO_makeFunc, exO_makeMap, exO_slice, exO_fieldAddr, exO_indexAddr, exO_panic, exO_extract, tk_plain, sh_plain, tk_const, sh_const, rd_tmp, rd_const, rd_func, tks_nil, tks_cons, shs_nil, shs_cons, ofV_int, ofV_bool, ofV_str, ofV_nilsl, ofV_nilfn, ofV_nilif, ofV_nilptr, optO_none, optO_some, binD_add, binD_sub, binD_mul, binD_quo, binD_rem, binD_and, binD_or, binD_xor, binD_eql, binD_neq, binD_lss, binD_leq, binD_gtr, binD_geq, binD_shl, binD_shr, binS_add, binS_eql, binS_neq, strD_eql, strD_neq, binB_eql, binB_neq, shiftD_shl, shiftD_shr, arith_quo, arith_rem, Int.reduceLT, Int.reduceToNat, Int.reduceNe, Int.reduceNeg, IntKind.bits, arith_add, arith_sub, arith_mul, arith_and, arith_or, arith_xor, arith_eql, arith_neq, arith_lss, arith_leq, arith_gtr, arith_geq, unD_not, unD_neg, exB_len, exB_append, exB_min, exB_max, kF_ret, kF_nrm, kF_pan, leave_eq, leave_pan, resD_nil, resD_tmp, resD_cell, tupD_one, tupD_two, tupD_three, tupD_nil, gc_same, fit_e, fit_osl, fit_hdr, fit_tup, fit_agg, List.forall_mem_cons, List.not_mem_nil, false_imp_iff, and_true, and_self, List.toList_toArray, Option.some.injEq, Prod.mk.injEq, exists_eq_left', true_and, kd_nil, kd_l, kdL_some, kdV_some, kd_r, kdRO_some, kdR_nil, sealD_plain, preSeal_nil, preSeal_move, preSeal_other, exL_move, exL_const, exL_gen, exL_load, exLd_ob, exLd_ro, outV_some, ownOp_tmp, ownOp_const, ownOp_func, lo_pick, lo_build, lo_buildSlice, lo_nilCheck, lo_binOp, lo_unOp, lo_convert, lo_makeInterface, lo_makeFunc, lo_slice, lo_fieldAddr, lo_field, lo_indexAddr, lo_index, lo_lookup, lo_len, lo_typeAssert, Op.operands, Call.operands, exc0_e, exc0_osl, shr0_e, shr0_osl, shr0_osl', List.any_cons, List.any_nil, preCv, mkT, List.foldl_nil, Array.toList_append, List.append_nil, List.forall_mem_nil, gc_app0, gc_appn, gc_hd, gc_tl, hset0, hsetn, hlen, hpush, hget0, hgetn, adOf_ptr, adOf_rptr, adD_ob, adD_ro, add_ob, add_ro, putAt_eq', cellsOf_agg, cellsOf_e, cellsOf_osl, cellsOf_ptr, cellsOf_map, cellsOf_func, notTup_agg, notTup_e, notTup_osl, notTup_ptr, notTup_map, notTup_func, load1, load0, store1, gc_more, List.take_succ_cons, List.take_zero, List.drop_succ_cons, List.drop_zero, List.map_cons, List.map_nil, fieldAddrD, Option.bind_eq_bind, exO_load, Bool.or_self, Bool.and_false, Bool.and_true, Bool.true_and, Bool.false_and, Bool.or_true, Bool.true_or, Nat.add_zero, Nat.zero_add, Nat.reduceEqDiff, Nat.succ_ne_zero, len0_str, Option.pure_def, slOf_e, slOf_osl, Nat.le_refl, and_self, Try.underlying3, Try.underlying4, Try.underlying5, Try.underlying9, Try.underlying22, Try.underlying24, Try.underlying25, Try.underlying27, Try.underlying28, Try.underlying31, Try.underlying38, Try.underlying105, sz3, sz4, sz5, sz9, sz22, sz24, sz25, sz27, sz28, sz31, ag3, ag4, ag5, ag9, ag22, ag24, ag25, ag27, ag28, ag31, st24, st27, el22, el31, el105, kx_region (hcv _), hcv, Try.ntmps44, hres, hl.own, hl.ownD, h4, h5, h6, h7, h10, h11, Msg.fine]
    cases hp0 : m.code == 0
    rotate_left
    · simp only [List.length_cons, List.length_nil, Nat.reduceAdd, kx_ret, kSeq_nrm, kSeq_ret, kBlk_ret, ko_nil, ko_op, ko_guard, kR_val, kG_no, St.put, List.getElem?_toArray, List.getElem?_cons_succ, List.getElem?_cons_zero, Option.bind_some, Nat.reduceLT, ne_eq, reduceCtorEq, not_false_eq_true, implies_true, Bool.not_false, Option.map_some, List.set_cons_succ, List.set_cons_zero, List.getD_cons_succ, List.getD_cons_zero, own_e, ↓reduceIte, exO_assign, exO_pick, tk_plain, sh_const, rd_tmp, ofV_bool, Int.reduceLT, kF_ret, leave_eq, resD_nil, resD_tmp, tupD_one, fit_e, Option.some.injEq, Prod.mk.injEq, gc_more, Bool.true_or, Nat.zero_add, hres]
    simp only [List.length_cons, List.length_nil, Nat.reduceAdd, kx_ret, kSeq_nrm, kSeq_ret, kBlk_ret, ko_nil, ko_op, ko_guard, kR_val, kG_yes, List.getElem?_toArray, List.getElem?_cons_succ, List.getElem?_cons_zero, Option.bind_some, Nat.reduceLT, ne_eq, reduceCtorEq, not_false_eq_true, implies_true, Bool.false_eq_true, Option.map_some, List.set_cons_succ, List.set_cons_zero, List.getD_cons_succ, List.getD_cons_zero, own_e, own0_e, Bool.false_or, ↓reduceIte, exO_assign, exO_binOp, exO_pick, exO_fieldAddr, tk_plain, sh_plain, rd_tmp, rd_const, ofV_int, binD_eql, Int.reduceLT, arith_eql, kF_ret, leave_eq, resD_nil, resD_tmp, tupD_one, fit_e, Option.some.injEq, Prod.mk.injEq, gc_app0, gc_hd, adOf_ptr, adD_ob, add_ob, load1, gc_more, fieldAddrD, exO_load, Nat.zero_add, Nat.succ_ne_zero, Nat.le_refl, sz25, ag25, st27, hres]
  simp only [kx_seq, kx_cond_tmp, kCond_false, kSeq_nrm, ko_nil, ko_op, kR_val, ne_eq, reduceCtorEq, not_false_eq_true, implies_true, Option.map_some, List.set_cons_succ, List.set_cons_zero, List.getD_cons_succ, List.getD_cons_zero, own_e, exO_assign, exO_binOp, tk_plain, rd_tmp, rd_const, ofV_int, binD_eql, arith_eql, kx_region (hcv _)]
  cases h12 : m.kind == 12
  rotate_left
  · simp only [List.length_cons, List.length_nil, Nat.reduceAdd, kx_seq, kCond_true, ko_op, ko_guard, kR_val, List.getElem?_toArray, List.getElem?_cons_succ, List.getElem?_cons_zero, Option.bind_some, Nat.reduceLT, ne_eq, reduceCtorEq, not_false_eq_true, implies_true, Bool.false_eq_true, Option.map_some, List.set_cons_succ, List.set_cons_zero, List.getD_cons_succ, List.getD_cons_zero, own_e, own0_e, ↓reduceIte, exO_move_tmp, exO_binOp, exO_fieldAddr, rd_tmp, rd_const, ofV_int, binD_eql, Int.reduceLT, arith_eql, Option.some.injEq, Prod.mk.injEq, gc_app0, gc_hd, adOf_ptr, adD_ob, add_ob, load1, fieldAddrD, exO_load, Nat.zero_add, Nat.succ_ne_zero, Nat.le_refl, sz25, ag25, st27, kx_region (hcv _), h12, Msg.fine, h4, h5, h6, h7, h10, h11]
    cases h121 : m.code == 0
    · simp only [List.length_cons, List.length_nil, Nat.reduceAdd, ko_op, ko_guard, kR_val, kG_yes, kG_no, St.put, List.getElem?_toArray, List.getElem?_cons_succ, List.getElem?_cons_zero, Option.bind_some, Nat.reduceLT, ne_eq, reduceCtorEq, not_false_eq_true, implies_true, Bool.not_true, Bool.false_eq_true, Option.map_some, List.set_cons_succ, List.set_cons_zero, List.getD_cons_succ, List.getD_cons_zero, own_e, own0_e, Bool.false_or, ↓reduceIte, exO_move_tmp, exO_binOp, exO_pick, exO_fieldAddr, sh_const, rd_tmp, rd_const, ofV_int, ofV_bool, binD_eql, Int.reduceLT, arith_eql, Option.some.injEq, Prod.mk.injEq, gc_app0, gc_hd, adOf_ptr, adD_ob, add_ob, load1, fieldAddrD, exO_load, Bool.false_and, Nat.zero_add, Nat.succ_ne_zero, Nat.le_refl, sz25, ag25, st27]
      try simp only [enterT, List.length_cons, List.length_nil, Nat.reduceAdd, Nat.reduceSub, List.replicate, List.cons_append, List.nil_append, List.append_eq, kx_seq, kx_skip, kx_ret, kx_exit, kx_label, kx_goto, kx_block, kx_scope, kIn_eq, kx_cond_tmp, kCond_true, kCond_false, kSeq_nrm, kSeq_ret, kSeq_ext, kSeq_gto, kSeq_pan, kBlk_nrm, kBlk_ret, kBlk_ext, kBlk_gto, kBlk_pan, kLoop_nrm, kLoop_ret, kLoop_ext, kLoop_gto, kLoop_pan, kScope_nrm, kScope_ret, kScope_ext, kScope_pan, ko_nil, ko_op, ko_builtin, ko_func, kT_some, ko_guard, kR_val, kR_val0, kR_pan, kC_val, kC_val0, kC_pan, kG_yes, kG_no, kG_undef, St.put, List.getElem?_toArray, List.getElem?_cons_succ, List.getElem?_cons_zero, Option.bind_some, Nat.reduceLT, Nat.reduceLeDiff, ne_eq, reduceCtorEq, not_false_eq_true, implies_true, forall_const, Bool.not_true, Bool.not_false, not_true_eq_false, Bool.true_eq_false, Bool.false_eq_true, Option.map_some, List.set_cons_succ, List.set_cons_zero, List.getD_cons_succ, List.getD_cons_zero, own_e, own_undef, own_osl, own_agg, own_ptr, own_func, own_map, own_asl, own_rptr, own_hdr, own_iface, List.any_cons, List.any_nil, own0_e, own0_osl, own0_hdr, Bool.or_false, Bool.false_or, Bool.not_eq_true', if_false, if_true, ite_true, ite_false, ↓reduceIte, exO_move_tmp, exO_move_const, exO_assign, exO_binOp, exO_unOp, exO_convert, exO_pick, exO_alloc, exO_box, exO_build, exO_buildSlice, exO_store, exO_nilCheck, exO_makeInterface, exO_makeFunc, exO_makeMap, exO_slice, exO_fieldAddr, exO_indexAddr, exO_panic, exO_extract, tk_plain, sh_plain, tk_const, sh_const, rd_tmp, rd_const, rd_func, tks_nil, tks_cons, shs_nil, shs_cons, ofV_int, ofV_bool, ofV_str, ofV_nilsl, ofV_nilfn, ofV_nilif, ofV_nilptr, optO_none, optO_some, binD_add, binD_sub, binD_mul, binD_quo, binD_rem, binD_and, binD_or, binD_xor, binD_eql, binD_neq, binD_lss, binD_leq, binD_gtr, binD_geq, binD_shl, binD_shr, binS_add, binS_eql, binS_neq, strD_eql, strD_neq, binB_eql, binB_neq, shiftD_shl, shiftD_shr, arith_quo, arith_rem, Int.reduceLT, Int.reduceToNat, Int.reduceNe, Int.reduceNeg, IntKind.bits, arith_add, arith_sub, arith_mul, arith_and, arith_or, arith_xor, arith_eql, arith_neq, arith_lss, arith_leq, arith_gtr, arith_geq, unD_not, unD_neg, exB_len, exB_append, exB_min, exB_max, kF_ret, kF_nrm, kF_pan, leave_eq, leave_pan, resD_nil, resD_tmp, resD_cell, tupD_one, tupD_two, tupD_three, tupD_nil, gc_same, fit_e, fit_osl, fit_hdr, fit_tup, fit_agg, List.forall_mem_cons, List.not_mem_nil, false_imp_iff, and_true, and_self, List.toList_toArray, Option.some.injEq, Prod.mk.injEq, exists_eq_left', true_and, kd_nil, kd_l, kdL_some, kdV_some, kd_r, kdRO_some, kdR_nil, sealD_plain, preSeal_nil, preSeal_move, preSeal_other, exL_move, exL_const, exL_gen, exL_load, exLd_ob, exLd_ro, outV_some, ownOp_tmp, ownOp_const, ownOp_func, lo_pick, lo_build, lo_buildSlice, lo_nilCheck, lo_binOp, lo_unOp, lo_convert, lo_makeInterface, lo_makeFunc, lo_slice, lo_fieldAddr, lo_field, lo_indexAddr, lo_index, lo_lookup, lo_len, lo_typeAssert, Op.operands, Call.operands, exc0_e, exc0_osl, shr0_e, shr0_osl, shr0_osl', List.any_cons, List.any_nil, preCv, mkT, List.foldl_nil, Array.toList_append, List.append_nil, List.forall_mem_nil, gc_app0, gc_appn, gc_hd, gc_tl, hset0, hsetn, hlen, hpush, hget0, hgetn, adOf_ptr, adOf_rptr, adD_ob, adD_ro, add_ob, add_ro, putAt_eq', cellsOf_agg, cellsOf_e, cellsOf_osl, cellsOf_ptr, cellsOf_map, cellsOf_func, notTup_agg, notTup_e, notTup_osl, notTup_ptr, notTup_map, notTup_func, load1, load0, store1, gc_more, List.take_succ_cons, List.take_zero, List.drop_succ_cons, List.drop_zero, List.map_cons, List.map_nil, fieldAddrD, Option.bind_eq_bind, exO_load, Bool.or_self, Bool.and_false, Bool.and_true, Bool.true_and, Bool.false_and, Bool.or_true, Bool.true_or, Nat.add_zero, Nat.zero_add, Nat.reduceEqDiff, Nat.succ_ne_zero, len0_str, Option.pure_def, slOf_e, slOf_osl, Nat.le_refl, and_self, Try.underlying3, Try.underlying4, Try.underlying5, Try.underlying9, Try.underlying22, Try.underlying24, Try.underlying25, Try.underlying27, Try.underlying28, Try.underlying31, Try.underlying38, Try.underlying105, sz3, sz4, sz5, sz9, sz22, sz24, sz25, sz27, sz28, sz31, ag3, ag4, ag5, ag9, ag22, ag24, ag25, ag27, ag28, ag31, st24, st27, el22, el31, el105, kx_region (hcv _), hcv, Try.ntmps44, hres, hl.own, hl.ownD, h4, h5, h6, h7, h10, h11, h12, Msg.fine, build24_nil, eq24, List.zip_nil_left, List.zip_nil_right]
      cases hp0 : m.code == 201
      · simp only [List.length_cons, List.length_nil, Nat.reduceAdd, kx_ret, kSeq_nrm, kSeq_ret, kBlk_ret, ko_nil, ko_op, ko_guard, kR_val, kG_yes, kG_no, St.put, List.getElem?_toArray, List.getElem?_cons_succ, List.getElem?_cons_zero, Option.bind_some, Nat.reduceLT, ne_eq, reduceCtorEq, not_false_eq_true, implies_true, Bool.not_true, Bool.false_eq_true, Option.map_some, List.set_cons_succ, List.set_cons_zero, List.getD_cons_succ, List.getD_cons_zero, own_e, ↓reduceIte, exO_assign, exO_pick, tk_plain, sh_plain, sh_const, rd_tmp, ofV_bool, Int.reduceLT, kF_ret, leave_eq, resD_nil, resD_tmp, tupD_one, fit_e, Option.some.injEq, Prod.mk.injEq, gc_more, Bool.false_and, Nat.zero_add, hres]
      simp only [List.length_cons, List.length_nil, Nat.reduceAdd, kx_ret, kSeq_nrm, kSeq_ret, kBlk_ret, ko_nil, ko_op, ko_guard, kR_val, kG_yes, List.getElem?_toArray, List.getElem?_cons_succ, List.getElem?_cons_zero, Option.bind_some, Nat.reduceLT, Nat.reduceLeDiff, ne_eq, reduceCtorEq, not_false_eq_true, implies_true, Bool.false_eq_true, Option.map_some, List.set_cons_succ, List.set_cons_zero, List.getD_cons_succ, List.getD_cons_zero, own_e, List.any_cons, List.any_nil, own0_e, ↓reduceIte, exO_assign, exO_binOp, exO_pick, exO_build, exO_fieldAddr, tk_plain, sh_plain, rd_tmp, tks_nil, Int.reduceLT, kF_ret, leave_eq, resD_nil, resD_tmp, tupD_one, fit_e, Option.some.injEq, Prod.mk.injEq, true_and, gc_app0, gc_hd, adOf_ptr, adD_ob, add_ob, load1, gc_more, List.take_succ_cons, List.take_zero, List.drop_succ_cons, List.drop_zero, List.map_nil, fieldAddrD, exO_load, Bool.or_self, Bool.true_and, Nat.zero_add, Nat.succ_ne_zero, sz24, ag24, st27, hres, build24_nil, eq24, List.zip_nil_right]
    · simp only [List.length_cons, List.length_nil, Nat.reduceAdd, ko_op, ko_func, kT_some, ko_guard, kR_val, kC_val, kG_yes, List.getElem?_toArray, List.getElem?_cons_succ, List.getElem?_cons_zero, Option.bind_some, Nat.reduceLT, Nat.reduceLeDiff, ne_eq, reduceCtorEq, not_false_eq_true, implies_true, Bool.false_eq_true, Option.map_some, List.set_cons_succ, List.set_cons_zero, List.getD_cons_succ, List.getD_cons_zero, own_e, own_agg, List.any_cons, List.any_nil, own0_e, ↓reduceIte, exO_move_tmp, exO_pick, exO_fieldAddr, tk_plain, sh_plain, rd_tmp, tks_nil, tks_cons, Int.reduceLT, Option.some.injEq, Prod.mk.injEq, true_and, gc_app0, gc_hd, adOf_ptr, adD_ob, add_ob, load1, List.take_succ_cons, List.take_zero, List.drop_succ_cons, List.drop_zero, fieldAddrD, exO_load, Bool.or_self, Bool.true_and, Nat.zero_add, Nat.succ_ne_zero, sz24, ag24, st27, hp]
      cases h122 : finePair m.ikey m.ival m.iver
      · simp only [List.length_cons, List.length_nil, Nat.reduceAdd, ko_op, ko_guard, kR_val, kG_yes, List.getElem?_toArray, List.getElem?_cons_succ, List.getElem?_cons_zero, Option.bind_some, Nat.reduceLT, ne_eq, reduceCtorEq, not_false_eq_true, implies_true, Bool.false_eq_true, Option.map_some, List.set_cons_succ, List.set_cons_zero, List.getD_cons_succ, List.getD_cons_zero, own_e, own0_e, Bool.false_or, ↓reduceIte, exO_move_tmp, exO_binOp, exO_fieldAddr, rd_tmp, rd_const, ofV_int, binD_eql, Int.reduceLT, arith_eql, Option.some.injEq, Prod.mk.injEq, gc_app0, gc_hd, adOf_ptr, adD_ob, add_ob, load1, fieldAddrD, exO_load, Nat.zero_add, Nat.succ_ne_zero, Nat.le_refl, sz25, ag25, st27]
        have hc : (m.code == 201) = false := by simp at h121 ⊢; omega
        simp only [List.length_cons, List.length_nil, Nat.reduceAdd, kx_ret, kSeq_nrm, kSeq_ret, kBlk_ret, ko_nil, ko_op, ko_guard, kR_val, kG_yes, kG_no, St.put, List.getElem?_toArray, List.getElem?_cons_succ, List.getElem?_cons_zero, Option.bind_some, Nat.reduceLT, ne_eq, reduceCtorEq, not_false_eq_true, implies_true, Bool.not_true, Bool.false_eq_true, Option.map_some, List.set_cons_succ, List.set_cons_zero, List.getD_cons_succ, List.getD_cons_zero, own_e, ↓reduceIte, exO_assign, exO_pick, tk_plain, sh_plain, sh_const, rd_tmp, ofV_bool, Int.reduceLT, kF_ret, leave_eq, resD_nil, resD_tmp, tupD_one, fit_e, Option.some.injEq, Prod.mk.injEq, gc_more, Bool.false_and, Nat.zero_add, hres, hc]
      · simp only [List.length_cons, List.length_nil, Nat.reduceAdd, kx_ret, kSeq_nrm, kSeq_ret, kBlk_ret, ko_nil, ko_op, ko_guard, kR_val, kG_no, kG_undef, St.put, List.getElem?_toArray, List.getElem?_cons_succ, List.getElem?_cons_zero, Option.bind_some, Nat.reduceLT, ne_eq, reduceCtorEq, not_false_eq_true, implies_true, Bool.not_false, Option.map_some, List.set_cons_succ, List.set_cons_zero, List.getD_cons_succ, List.getD_cons_zero, own_e, ↓reduceIte, exO_assign, exO_pick, tk_plain, sh_const, rd_tmp, ofV_bool, Int.reduceLT, kF_ret, leave_eq, resD_nil, resD_tmp, tupD_one, fit_e, Option.some.injEq, Prod.mk.injEq, gc_more, Bool.true_or, Nat.zero_add, hres]
  simp only [kx_seq, kx_skip, kx_ret, kCond_false, kSeq_nrm, kBlk_nrm, ko_nil, ko_op, kR_val, ne_eq, reduceCtorEq, not_false_eq_true, implies_true, Bool.false_eq_true, Option.map_some, List.set_cons_succ, List.set_cons_zero, List.getD_cons_succ, List.getD_cons_zero, own_e, ↓reduceIte, exO_assign, tk_plain, tk_const, ofV_bool, kF_ret, leave_eq, resD_nil, resD_tmp, tupD_one, fit_e, gc_more, kx_region (hcv _), hres, h12, Msg.fine, h4, h5, h6, h7, h10, h11]

/-- A message behind msg.off. -/
def Msg.off (m : Msg) : Msg :=
  if m.kind == 4 then { m with key := 0, slow := false } else
  if m.kind == 5 then m.noItem else
  if m.kind == 6 then { m with ikey := { data := #[] } } else
  if m.kind == 7 then { m with pred := 0, list := [] } else
  if m.kind == 10 then { m with place := 0, done := false } else
  if m.kind == 11 then { m with code := 0 } else
  if m.kind == 12 then { m.noItem with code := 0 } else m
theorem offL_rd {m : Msg} {l : D} (hl : Rd l (isE m.list)) : Rd (bareL m l) (isE m.off.list) := by
  unfold bareL Msg.off
  split
  · exact hl
  · split
    · exact hl
    · split
      · exact hl
      · split
        · exact Rd.osl
        · split
          · exact hl
          · split
            · exact hl
            · split
              · exact hl
              · exact hl

theorem w45 (m : Msg) (l : D) (hl : Rd l (isE m.list)) (h ex : List O) : wc 45 [.ptr h.length 0] (h ++ .cells (m.cs l) :: ex) = some (.val undefD, h ++ .cells (m.off.cs (bareL m l)) :: ex) := by
  have hcv : ∀ i, wcv 45 i = [] := fun _ => rfl
  have hres : Try.f45.results.toList = [] := rfl
  rw [wc, call_fn rfl Try.func45 rfl]
  try simp only [enterT, List.length_cons, List.length_nil, Nat.reduceAdd, Nat.reduceSub, List.replicate, List.cons_append, List.nil_append, kx_seq, kx_block, kx_cond_tmp, kSeq_nrm, ko_nil, ko_op, kR_val, List.getElem?_cons_zero, Option.bind_some, Nat.reduceLeDiff, ne_eq, reduceCtorEq, not_false_eq_true, implies_true, Bool.false_eq_true, Option.map_some, List.set_cons_succ, List.set_cons_zero, List.getD_cons_succ, List.getD_cons_zero, own_e, own_ptr, own0_e, ↓reduceIte, exO_move_tmp, exO_assign, exO_binOp, exO_nilCheck, exO_fieldAddr, tk_plain, rd_tmp, rd_const, ofV_int, binD_eql, arith_eql, gc_app0, gc_hd, adOf_ptr, adD_ob, add_ob, load1, fieldAddrD, exO_load, Nat.add_zero, Nat.zero_add, Nat.succ_ne_zero, sz5, ag5, st27, kx_region (hcv _), Try.ntmps45, Msg.cs, Msg.off, bareL, Msg.noItem]
  cases hp0 : m.kind == 4
  rotate_left
  · simp only [List.length_cons, List.length_nil, Nat.reduceAdd, List.cons_append, List.nil_append, kCond_true, kBlk_nrm, ko_nil, ko_op, kR_val, kR_val0, List.getElem?_cons_succ, List.getElem?_cons_zero, Option.bind_some, Nat.reduceLeDiff, ne_eq, reduceCtorEq, not_false_eq_true, implies_true, Option.map_some, List.set_cons_succ, List.set_cons_zero, List.getD_cons_succ, List.getD_cons_zero, own_ptr, ↓reduceIte, exO_move_tmp, exO_store, exO_nilCheck, exO_fieldAddr, tk_const, rd_tmp, ofV_int, ofV_bool, kF_nrm, leave_eq, resD_nil, tupD_nil, and_self, gc_app0, gc_hd, hset0, hlen, adOf_ptr, adD_ob, add_ob, putAt_eq', cellsOf_e, notTup_e, store1, List.take_succ_cons, List.take_zero, List.drop_succ_cons, List.drop_zero, fieldAddrD, Nat.zero_add, Nat.succ_ne_zero, sz3, sz4, st27, kx_region (hcv _), hres, gc_len]
  simp only [kx_seq, kx_cond_tmp, kCond_false, kSeq_nrm, ko_nil, ko_op, kR_val, ne_eq, reduceCtorEq, not_false_eq_true, implies_true, Bool.false_eq_true, Option.map_some, List.set_cons_succ, List.set_cons_zero, List.getD_cons_succ, List.getD_cons_zero, own_e, ↓reduceIte, exO_assign, exO_binOp, tk_plain, rd_tmp, rd_const, ofV_int, binD_eql, arith_eql, kx_region (hcv _)]
  cases hp1 : m.kind == 5
  rotate_left
  · simp only [List.length_cons, List.length_nil, Nat.reduceAdd, List.cons_append, List.nil_append, kCond_true, kBlk_nrm, ko_nil, ko_op, kR_val, kR_val0, List.getElem?_cons_succ, List.getElem?_cons_zero, Option.bind_some, Nat.reduceLeDiff, ne_eq, reduceCtorEq, not_false_eq_true, implies_true, Option.map_some, List.set_cons_succ, List.set_cons_zero, List.getD_cons_succ, List.getD_cons_zero, own_agg, own_ptr, List.any_cons, List.any_nil, own0_e, ↓reduceIte, exO_move_tmp, exO_build, exO_store, exO_nilCheck, exO_fieldAddr, tk_plain, rd_tmp, tks_nil, kF_nrm, leave_eq, resD_nil, tupD_nil, and_self, gc_app0, gc_hd, hset0, hlen, adOf_ptr, adD_ob, add_ob, putAt_eq', cellsOf_agg, notTup_agg, store1, List.take_succ_cons, List.take_zero, List.drop_succ_cons, List.drop_zero, List.map_nil, fieldAddrD, Bool.or_self, Nat.zero_add, Nat.succ_ne_zero, sz24, st27, kx_region (hcv _), hres, build24_nil, List.zip_nil_right, gc_len]
  simp only [kx_seq, kx_cond_tmp, kCond_false, kSeq_nrm, ko_nil, ko_op, kR_val, ne_eq, reduceCtorEq, not_false_eq_true, implies_true, Bool.false_eq_true, Option.map_some, List.set_cons_succ, List.set_cons_zero, List.getD_cons_succ, List.getD_cons_zero, own_e, ↓reduceIte, exO_assign, exO_binOp, tk_plain, rd_tmp, rd_const, ofV_int, binD_eql, arith_eql, kx_region (hcv _)]
  cases hp2 : m.kind == 6
  rotate_left
  · simp only [List.length_cons, List.length_nil, Nat.reduceAdd, List.cons_append, List.nil_append, kCond_true, kBlk_nrm, ko_nil, ko_op, kR_val, kR_val0, List.getElem?_cons_succ, List.getElem?_cons_zero, Option.bind_some, Nat.reduceLeDiff, ne_eq, reduceCtorEq, not_false_eq_true, implies_true, Option.map_some, List.set_cons_succ, List.set_cons_zero, List.getD_cons_succ, List.getD_cons_zero, own_ptr, ↓reduceIte, exO_move_tmp, exO_store, exO_nilCheck, exO_fieldAddr, tk_const, rd_tmp, ofV_str, kF_nrm, leave_eq, resD_nil, tupD_nil, and_self, gc_app0, gc_hd, hset0, hlen, adOf_ptr, adD_ob, add_ob, putAt_eq', cellsOf_e, notTup_e, store1, List.take_succ_cons, List.take_zero, List.drop_succ_cons, List.drop_zero, fieldAddrD, Nat.add_zero, Nat.zero_add, Nat.succ_ne_zero, sz9, sz24, st24, st27, kx_region (hcv _), hres, gc_len]
  simp only [kx_seq, kx_cond_tmp, kCond_false, kSeq_nrm, ko_nil, ko_op, kR_val, ne_eq, reduceCtorEq, not_false_eq_true, implies_true, Bool.false_eq_true, Option.map_some, List.set_cons_succ, List.set_cons_zero, List.getD_cons_succ, List.getD_cons_zero, own_e, ↓reduceIte, exO_assign, exO_binOp, tk_plain, rd_tmp, rd_const, ofV_int, binD_eql, arith_eql, kx_region (hcv _)]
  cases hp3 : m.kind == 7
  rotate_left
  · simp only [List.length_cons, List.length_nil, Nat.reduceAdd, List.cons_append, List.nil_append, kCond_true, kBlk_nrm, ko_nil, ko_op, kR_val, kR_val0, List.getElem?_cons_succ, List.getElem?_cons_zero, Option.bind_some, Nat.reduceLeDiff, ne_eq, reduceCtorEq, not_false_eq_true, implies_true, Option.map_some, List.set_cons_succ, List.set_cons_zero, List.getD_cons_succ, List.getD_cons_zero, own_ptr, ↓reduceIte, exO_move_tmp, exO_store, exO_nilCheck, exO_fieldAddr, tk_const, rd_tmp, ofV_int, ofV_nilsl, kF_nrm, leave_eq, resD_nil, tupD_nil, and_self, gc_app0, gc_hd, hset0, hlen, adOf_ptr, adD_ob, add_ob, putAt_eq', cellsOf_e, cellsOf_osl, notTup_e, notTup_osl, store1, List.take_succ_cons, List.take_zero, List.drop_succ_cons, List.drop_zero, fieldAddrD, Nat.zero_add, Nat.succ_ne_zero, sz3, sz22, st27, kx_region (hcv _), hres, gc_len]
  simp only [kx_seq, kx_cond_tmp, kCond_false, kSeq_nrm, ko_nil, ko_op, kR_val, ne_eq, reduceCtorEq, not_false_eq_true, implies_true, Bool.false_eq_true, Option.map_some, List.set_cons_succ, List.set_cons_zero, List.getD_cons_succ, List.getD_cons_zero, own_e, ↓reduceIte, exO_assign, exO_binOp, tk_plain, rd_tmp, rd_const, ofV_int, binD_eql, arith_eql, kx_region (hcv _)]
  cases hp4 : m.kind == 10
  rotate_left
  · simp only [List.length_cons, List.length_nil, Nat.reduceAdd, List.cons_append, List.nil_append, kCond_true, kBlk_nrm, ko_nil, ko_op, kR_val, kR_val0, List.getElem?_cons_succ, List.getElem?_cons_zero, Option.bind_some, Nat.reduceLeDiff, ne_eq, reduceCtorEq, not_false_eq_true, implies_true, Option.map_some, List.set_cons_succ, List.set_cons_zero, List.getD_cons_succ, List.getD_cons_zero, own_ptr, ↓reduceIte, exO_move_tmp, exO_store, exO_nilCheck, exO_fieldAddr, tk_const, rd_tmp, ofV_int, ofV_bool, kF_nrm, leave_eq, resD_nil, tupD_nil, and_self, gc_app0, gc_hd, hset0, hlen, adOf_ptr, adD_ob, add_ob, putAt_eq', cellsOf_e, notTup_e, store1, List.take_succ_cons, List.take_zero, List.drop_succ_cons, List.drop_zero, fieldAddrD, Nat.zero_add, Nat.succ_ne_zero, sz3, sz4, st27, kx_region (hcv _), hres, gc_len]
  simp only [kx_seq, kx_cond_tmp, kCond_false, kSeq_nrm, ko_nil, ko_op, kR_val, ne_eq, reduceCtorEq, not_false_eq_true, implies_true, Bool.false_eq_true, Option.map_some, List.set_cons_succ, List.set_cons_zero, List.getD_cons_succ, List.getD_cons_zero, own_e, ↓reduceIte, exO_assign, exO_binOp, tk_plain, rd_tmp, rd_const, ofV_int, binD_eql, arith_eql, kx_region (hcv _)]
  cases hp5 : m.kind == 11
  rotate_left
  · simp only [List.length_cons, List.length_nil, Nat.reduceAdd, List.cons_append, List.nil_append, kCond_true, kBlk_nrm, ko_nil, ko_op, kR_val, kR_val0, List.getElem?_cons_succ, List.getElem?_cons_zero, Option.bind_some, ne_eq, reduceCtorEq, not_false_eq_true, implies_true, Option.map_some, List.set_cons_succ, List.set_cons_zero, List.getD_cons_succ, List.getD_cons_zero, own_ptr, ↓reduceIte, exO_move_tmp, exO_store, exO_nilCheck, exO_fieldAddr, tk_const, rd_tmp, ofV_int, kF_nrm, leave_eq, resD_nil, tupD_nil, and_self, List.append_nil, gc_app0, gc_hd, hset0, hlen, adOf_ptr, adD_ob, add_ob, putAt_eq', cellsOf_e, notTup_e, store1, List.take_succ_cons, List.take_zero, List.drop_succ_cons, List.drop_zero, fieldAddrD, Nat.zero_add, Nat.succ_ne_zero, Nat.le_refl, sz25, st27, kx_region (hcv _), hres, gc_len]
  simp only [kx_seq, kx_cond_tmp, kCond_false, kSeq_nrm, ko_nil, ko_op, kR_val, ne_eq, reduceCtorEq, not_false_eq_true, implies_true, Bool.false_eq_true, Option.map_some, List.set_cons_succ, List.set_cons_zero, List.getD_cons_succ, List.getD_cons_zero, own_e, ↓reduceIte, exO_assign, exO_binOp, tk_plain, rd_tmp, rd_const, ofV_int, binD_eql, arith_eql, kx_region (hcv _)]
  cases hp6 : m.kind == 12
  rotate_left
  · simp only [List.length_cons, List.length_nil, Nat.reduceAdd, List.cons_append, List.nil_append, kCond_true, kBlk_nrm, ko_nil, ko_op, kR_val, kR_val0, List.getElem?_cons_succ, List.getElem?_cons_zero, Option.bind_some, Nat.reduceLeDiff, ne_eq, reduceCtorEq, not_false_eq_true, implies_true, Option.map_some, List.set_cons_succ, List.set_cons_zero, List.getD_cons_succ, List.getD_cons_zero, own_agg, own_ptr, List.any_cons, List.any_nil, own0_e, ↓reduceIte, exO_move_tmp, exO_build, exO_store, exO_nilCheck, exO_fieldAddr, tk_plain, tk_const, rd_tmp, tks_nil, ofV_int, kF_nrm, leave_eq, resD_nil, tupD_nil, and_self, List.append_nil, gc_app0, gc_hd, hset0, hlen, adOf_ptr, adD_ob, add_ob, putAt_eq', cellsOf_agg, cellsOf_e, notTup_agg, notTup_e, store1, List.take_succ_cons, List.take_zero, List.drop_succ_cons, List.drop_zero, List.map_nil, fieldAddrD, Bool.or_self, Nat.zero_add, Nat.succ_ne_zero, Nat.le_refl, sz24, sz25, st27, kx_region (hcv _), hres, build24_nil, List.zip_nil_right, gc_len]
  simp only [List.length_cons, kx_skip, kCond_false, kBlk_nrm, Bool.false_eq_true, ↓reduceIte, kF_nrm, leave_eq, resD_nil, tupD_nil, hlen, hres, gc_len]

end Go.Abs
