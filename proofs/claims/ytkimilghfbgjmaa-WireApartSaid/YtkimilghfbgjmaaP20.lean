/-
  MORE RULES: jumps within a scope. WIRE: msg.Right. WIRE: bytes. WIRE: the bits of bytes, the sum. WIRE: the sum. No condition.
-/
import Derived.Test.YtkimilghfbgjmaaP19
import Derived.Laws.Strings2

namespace Go.Abs

section
variable {P : Program} {pr : FuncId → List D → Option D} {cv : FuncId → Nat → List Cv} {β : Type} {k : X × St → Option β} {fn : FuncId} {s : St} {c a b : Code} {l : Nat}
noncomputable def kGo (P : Program) (pr : FuncId → List D → Option D) (cv : FuncId → Nat → List Cv) (fn : FuncId) (c : Code) (s : St) (l : Nat) (k : X × St → Option β) (o : Option Code) : Option β :=
  match o with
  | some rest => kIn P pr cv fn c rest s k
  | none => k (.gto l, s)
theorem kScope_go : kScope P pr cv fn c k (.gto l, s) = kGo P pr cv fn c s l k (findLabel c l) := by
  cases h : findLabel c l with
  | none => simp [kScope, kGo, h]
  | some r => rw [kScope_gto h]; rfl
theorem kGo_some : kGo P pr cv fn c s l k (some a) = kIn P pr cv fn c a s k := rfl
def flS (b : Code) (l : Nat) (o : Option Code) : Option Code := match o with | some r => some (.seq r b) | none => findLabel b l
theorem fl_seq : findLabel (.seq a b) l = flS b l (findLabel a l) := by simp only [findLabel]; rfl
theorem flS_some : flS b l (some a) = some (.seq a b) := rfl
theorem flS_none : flS b l none = findLabel b l := rfl
theorem fl_label {l' : Nat} : findLabel (.label l') l = if l' == l then some .skip else none := by simp only [findLabel]
theorem fl_ret : findLabel .ret l = none := by simp only [findLabel]
theorem fl_region {i : Nat} {ops : Array Oper} {d : Bool} : findLabel (.region i ops d) l = none := by simp only [findLabel]
theorem fl_cond {x : Operand} : findLabel (.cond x a b) l = none := by simp only [findLabel]
theorem fl_block {i : Nat} : findLabel (.block i a) l = none := by simp only [findLabel]
end

/-! ### slices that are one's own -/
section
variable {tl : List D} {df : List (FuncId × List D)} {r : Rc} {h : List O} {t : Tmp} {d : D} {fu ex : Bool} {sz : Nat} {es : List (List E)}
def tkV (tl : List D) (df : List (FuncId × List D)) (r : Rc) (h : List O) (t : Tmp) (d : D) : Option (D × St) := if ownD d then some (d, ⟨tl.set t (leftT d), df, r, h⟩) else some (d, ⟨tl, df, r, h⟩)
theorem tk_tmp : tk ⟨tl, df, r, h⟩ (.tmp t) = tkV tl df r h t (tl.getD t undefD) := rfl
theorem tkV_own (ho : ownD d = true) : tkV tl df r h t d = some (d, ⟨tl.set t (leftT d), df, r, h⟩) := by simp [tkV, ho]
def shV (tl : List D) (df : List (FuncId × List D)) (r : Rc) (h : List O) (t : Tmp) (d : D) : Option (D × St) := if ownD d then (match d with | .tup _ => none | _ => some (shr d, ⟨tl.set t (kep d), df, r, h⟩)) else some (d, ⟨tl, df, r, h⟩)
theorem sh_tmp : sh ⟨tl, df, r, h⟩ (.tmp t) = shV tl df r h t (tl.getD t undefD) := rfl
theorem shV_osl (ho : ownD (.osl ex fu sz es) = true) : shV tl df r h t (.osl ex fu sz es) = some (shr (.osl ex fu sz es), ⟨tl.set t (kep (.osl ex fu sz es)), df, r, h⟩) := by simp [shV, ho]
theorem ownD_ex : ownD (.osl true fu sz es) = true := of_decide_eq_true rfl
theorem ownD_nf : ownD (.osl ex false sz es) = true := by cases ex <;> exact of_decide_eq_true rfl
theorem own0_nf : own0 (.osl ex false sz es) = true := by cases ex <;> exact of_decide_eq_true rfl
theorem leftT_ex : leftT (.osl true fu sz es) = .hdr es.length := rfl
theorem leftT_nf : leftT (.osl false false sz es) = .e (.sl es) := rfl
theorem left_ex : left (.osl true fu sz es) = .hdr es.length := rfl
theorem left_nf : left (.osl false false sz es) = .e (.sl es) := rfl
theorem left0_ex : left0 (.osl true fu sz es) = .hdr es.length := rfl
theorem left0_nf : left0 (.osl false false sz es) = .e (.sl es) := rfl
theorem shr_fu : shr (.osl ex true sz es) = .osl false true sz es := rfl
theorem shr_nf : shr (.osl ex false sz es) = .e (.sl es) := rfl
theorem kep_osl : kep (.osl ex fu sz es) = .osl false fu sz es := rfl
theorem kep0_osl : kep0 (.osl ex fu sz es) = .osl false fu sz es := rfl
theorem ownD_tup {vs : List D} : ownD (.tup vs) = vs.any ownA := rfl
theorem ownA_e {x : E} : ownA (.e x) = false := of_decide_eq_true rfl
theorem ownA_osl0 : ownA (.osl false true sz es) = false := of_decide_eq_true rfl
theorem ownA_nf : ownA (.osl ex false sz es) = true := by cases ex <;> exact of_decide_eq_true rfl
theorem ownA_agg {cs : List D} : ownA (.agg cs) = cs.any own0 := rfl
theorem leftT_tup {vs : List D} : leftT (.tup vs) = .tup (vs.map left) := rfl
theorem left_e {x : E} : left (.e x) = .e x := rfl
theorem left_agg {cs : List D} : left (.agg cs) = .agg (cs.map left0) := rfl
theorem left0_e {x : E} : left0 (.e x) = .e x := rfl
end

/-! ### calls of values -/
section
variable {P : Program} {pr : FuncId → List D → Option D} {cv : FuncId → Nat → List Cv} {β : Type} {k : X × St → Option β} {tl : List D} {df : List (FuncId × List D)} {r : Rc} {h : List O} {all : Array Oper} {l : List Oper}
noncomputable def kY (P : Program) (pr : FuncId → List D → Option D) (cv : FuncId → Nat → List Cv) (all : Array Oper) (l : List Oper) (dst : Option Tmp) (k : X × St → Option β) (f : D) (v : Option (List D × St)) : Option β :=
  match f, v with
  | .func (.yield lp) [] [], some (ds, s1) => kC P pr cv all l dst s1 k (call P pr cv (.round lp) ds s1.h)
  | .func (.func g) first cap, some (ds, s1) => if noOwn first && noOwn cap then kC P pr cv all l dst s1 k (call P pr cv (.fn g) (first ++ ds ++ cap) s1.h) else none
  | _, _ => none
theorem kY_yield {dst : Option Tmp} {lp : Nat} {ds : List D} : kY P pr cv all l dst k (.func (.yield lp) [] []) (some (ds, ⟨tl, df, r, h⟩)) = kC P pr cv all l dst ⟨tl, df, r, h⟩ k (call P pr cv (.round lp) ds h) := rfl
theorem kY_func {dst : Option Tmp} {g : FuncId} {first cap ds : List D} : kY P pr cv all l dst k (.func (.func g) first cap) (some (ds, ⟨tl, df, r, h⟩)) = if noOwn first && noOwn cap then kC P pr cv all l dst ⟨tl, df, r, h⟩ k (call P pr cv (.fn g) (first ++ ds ++ cap) h) else none := rfl
theorem noOwn_nil : noOwn [] = true := rfl
theorem noOwn_cons {d : D} {ds : List D} : noOwn (d :: ds) = (!ownD d && noOwn ds) := by simp [noOwn]
theorem ko_val {dst : Option Tmp} {t : Tmp} {args : Array Operand} {ats : Array TypeId} {ty : TypeId} {pos : String} {af : Array Edge} :
    ko P pr cv all (⟨dst, .call { callee := .value (.tmp t), args := args, argTypes := ats }, ty, pos, af, none⟩ :: l) ⟨tl, df, r, h⟩ k = kY P pr cv all l dst k (tl.getD t undefD) (tks ⟨tl, df, r, h⟩ args.toList) := by
  have hbad : kindOf ⟨dst, .call { callee := .value (.tmp t), args := args, argTypes := ats }, ty, pos, af, none⟩ ⟨tl, df, r, h⟩ = .bad → ko P pr cv all (⟨dst, .call { callee := .value (.tmp t), args := args, argTypes := ats }, ty, pos, af, none⟩ :: l) ⟨tl, df, r, h⟩ k = none := by
    intro hb
    unfold ko
    rw [exOps_cons rfl, hb]
    rfl
  cases ht : tks ⟨tl, df, r, h⟩ args.toList with
  | none =>
    rw [hbad (by
      simp only [kindOf, rd, ht]
      generalize tl.getD t undefD = v
      split <;> simp_all)]
    unfold kY
    split <;> simp_all
  | some q =>
    obtain ⟨ds, s1⟩ := q
    generalize hv : tl.getD t undefD = v
    cases v with
    | func fn first cap =>
      cases fn with
      | func g =>
        by_cases hno : (noOwn first && noOwn cap) = true
        · rw [ko_go (g := .fn g) (args := first ++ ds ++ cap) (s1 := s1) rfl (by simp only [kindOf, rd, hv, ht, hno, if_true])]
          simp only [kY, hno, if_true]
        · rw [hbad (by simp only [kindOf, rd, hv, ht, if_neg hno])]
          simp only [kY, if_neg hno]
      | yield lp =>
        cases first with
        | nil => cases cap with
          | nil =>
            rw [ko_go (g := .round lp) (args := ds) (s1 := s1) rfl (by simp only [kindOf, rd, hv, ht])]
            rfl
          | cons c cs =>
            rw [hbad (by simp only [kindOf, rd, hv, ht])]
            rfl
        | cons c cs =>
          rw [hbad (by simp only [kindOf, rd, hv, ht])]
          rfl
      | _ =>
        rw [hbad (by simp only [kindOf, rd, hv, ht])]
        rfl
    | _ =>
      rw [hbad (by simp only [kindOf, rd, hv, ht])]
      rfl
end

theorem cv1_kp {tl : List D} {df : List (FuncId × List D)} {r : Rc} {h : List O} {t : Tmp} : cv1 ⟨tl, df, r, h⟩ (.kp t) = if ownD (tl.getD t undefD) && notTup (tl.getD t undefD) then ⟨tl.set t (kep (tl.getD t undefD)), df, r, h⟩ else ⟨tl, df, r, h⟩ := rfl
theorem exO_mv {P : Program} {l : List Oper} {dst : Option Tmp} {ty : TypeId} {pos : String} {af : Array Edge} {g : Option (Nat × Bool)} {x : Operand} {s : St} : exOp P l ⟨dst, .move x, ty, pos, af, g⟩ s = (if taken l dst then tk s x else sh s x).map fun r => (.val r.1, r.2) := rfl
theorem bab (a b : ByteArray) : (a == b) = decide (a = b) := by
  show (a.data == b.data) = _
  by_cases h : a = b
  · subst h; simp
  · have : a.data ≠ b.data := fun e => h (by cases a; cases b; simp_all)
    simp [h, this]

end Go.Abs

namespace Go.Abs
open Go Go.Proofs
set_option maxRecDepth 10000
set_option maxHeartbeats 4000000

def Msg.asker' (m : Msg) : Int := if asks' m.kind = true then m.frm else m.to
/-- What msg.Right tells. -/
noncomputable def Msg.right (m : Msg) : Bool :=
  !decide (m.kind < 1) && (!decide (13 ≤ m.kind) && (isPlace m.frm && (isPlace m.to && (!(m.frm == m.to) && (!decide (m.call < 1) && ((IntKind.i64.wrap (Int.tdiv (IntKind.i64.wrap (m.call - 1)) 1048576) == m.asker') &&
    (m.fine && (decide (m.off.list = m.head.list) && sameCs m.off m.head))))))))

theorem w25 (m : Msg) (l : D) (hl : Rd l (isE m.list)) (hx : m.list.length ≤ 1099511627776) (h : List O) : wc 25 [.agg (m.cs l)] h = some (.val (.bool m.right), h) := by
  have h43 := w43 m l hl
  have h44 := w44 m l hl hx
  have h45 := w45 m l hl
  have hbl := offL_rd (m := m) hl
  have hbx : m.off.list.length ≤ 1099511627776 := by
    unfold Msg.off; repeat' split
    all_goals first | exact hx | simp [Msg.noItem]; exact hx | simp
  have h46 := w46 m.off m.head (bareL m l) (.osl false true 0 []) hbl Rd.osl hbx
  generalize hr' : (decide (m.off.list = m.head.list) && sameCs m.off m.head) = same at h46
  simp only [Msg.cs] at h43 h44 h45 h46
  simp only [Msg.head] at h46
  have hask : (if asks' m.kind = true then m.frm else m.to) = m.asker' := rfl
  rw [hask] at h43
  have hcv : ∀ i, wcv 25 i = [] := fun _ => rfl
  have hres : Try.f25.results.toList = [ResultVar.tmp 2] := rfl
  rw [wc, call_fn rfl Try.func25 rfl]
  simp only [enterT, List.length_cons, List.length_nil, Nat.reduceAdd, Nat.reduceSub, List.replicate, List.cons_append, List.nil_append, kx_seq, kx_scope, kIn_eq, kSeq_nrm, ko_nil, ko_op, ko_guard, kR_val, kR_val0, List.getElem?_toArray, List.getElem?_cons_succ, List.getElem?_cons_zero, Option.bind_some, Nat.reduceLT, Nat.reduceLeDiff, ne_eq, reduceCtorEq, not_false_eq_true, implies_true, Bool.false_eq_true, Option.map_some, List.set_cons_succ, List.set_cons_zero, List.getD_cons_succ, List.getD_cons_zero, own_e, own_agg, List.any_cons, List.any_nil, own0_e, own0_osl, ↓reduceIte, exO_move_tmp, exO_assign, exO_binOp, exO_alloc, exO_box, exO_build, exO_store, exO_fieldAddr, tk_plain, tk_const, rd_tmp, rd_const, tks_nil, tks_cons, ofV_int, ofV_bool, binD_lss, Int.reduceLT, arith_lss, and_self, Option.some.injEq, Prod.mk.injEq, List.append_nil, gc_app0, gc_appn, gc_hd, gc_tl, hsetn, hlen, hpush, adOf_ptr, adD_ob, add_ob, putAt_eq', cellsOf_agg, notTup_agg, load1, store1, List.take_zero, List.drop_succ_cons, List.drop_zero, List.map_cons, List.map_nil, fieldAddrD, exO_load, Bool.or_self, Nat.add_zero, Nat.zero_add, Nat.succ_ne_zero, Nat.le_refl, sz3, sz5, sz27, ag3, ag5, st27, kx_region (hcv _), Try.ntmps25, Msg.cs, hl.own, zo27, build27, List.zip_cons_cons, List.zip_nil_right]
  cases h1 : decide (m.kind < 1)
  rotate_left
  · simp only [List.length_cons, List.length_nil, Nat.reduceAdd, kx_seq, kx_skip, kx_ret, kx_goto, kIn_eq, kx_cond_tmp, kCond_true, kSeq_nrm, kSeq_gto, kScope_ret, ko_nil, ko_op, ko_guard, kR_val, kG_no, St.put, List.getElem?_toArray, List.getElem?_cons_succ, List.getElem?_cons_zero, Option.bind_some, Nat.reduceLT, ne_eq, reduceCtorEq, not_false_eq_true, implies_true, Bool.not_true, Bool.not_false, Option.map_some, List.set_cons_succ, List.set_cons_zero, List.getD_cons_succ, List.getD_cons_zero, own_e, ↓reduceIte, exO_move_tmp, exO_assign, exO_pick, tk_plain, tk_const, sh_const, rd_tmp, ofV_bool, Int.reduceLT, kF_ret, leave_eq, resD_nil, resD_tmp, tupD_one, fit_e, Option.some.injEq, Prod.mk.injEq, gc_more, Bool.false_and, Nat.zero_add, kx_region (hcv _), hres, h1, Msg.right, kScope_go, kGo_some, fl_seq, flS_some, flS_none, fl_label, fl_ret, fl_region, fl_cond, beq_self_eq_true]
  simp only [List.length_cons, List.length_nil, Nat.reduceAdd, ko_op, ko_guard, kR_val, kG_yes, List.getElem?_toArray, List.getElem?_cons_succ, List.getElem?_cons_zero, Option.bind_some, Nat.reduceLT, Nat.reduceLeDiff, ne_eq, reduceCtorEq, not_false_eq_true, implies_true, Bool.false_eq_true, Option.map_some, List.set_cons_succ, List.set_cons_zero, List.getD_cons_succ, List.getD_cons_zero, own_e, own0_e, ↓reduceIte, exO_move_tmp, exO_binOp, exO_pick, exO_fieldAddr, sh_plain, rd_tmp, rd_const, ofV_int, binD_geq, Int.reduceLT, arith_geq, Option.some.injEq, Prod.mk.injEq, gc_app0, gc_hd, adOf_ptr, adD_ob, add_ob, load1, fieldAddrD, exO_load, Nat.add_zero, Nat.zero_add, Nat.succ_ne_zero, sz5, ag5, st27]
  cases h2 : decide (13 ≤ m.kind)
  rotate_left
  · simp only [List.length_cons, List.length_nil, Nat.reduceAdd, kx_seq, kx_skip, kx_ret, kx_goto, kIn_eq, kx_cond_tmp, kCond_true, kSeq_nrm, kSeq_gto, kScope_ret, ko_nil, ko_op, ko_guard, kR_val, kG_no, St.put, List.getElem?_toArray, List.getElem?_cons_succ, List.getElem?_cons_zero, Option.bind_some, Nat.reduceLT, ne_eq, reduceCtorEq, not_false_eq_true, implies_true, Bool.not_true, Bool.not_false, Option.map_some, List.set_cons_succ, List.set_cons_zero, List.getD_cons_succ, List.getD_cons_zero, own_e, ↓reduceIte, exO_move_tmp, exO_assign, exO_pick, tk_plain, tk_const, sh_const, rd_tmp, ofV_bool, Int.reduceLT, kF_ret, leave_eq, resD_nil, resD_tmp, tupD_one, fit_e, Option.some.injEq, Prod.mk.injEq, gc_more, Bool.and_false, Bool.false_and, Nat.zero_add, kx_region (hcv _), hres, h2, h1, Msg.right, kScope_go, kGo_some, fl_seq, flS_some, flS_none, fl_label, fl_ret, fl_region, fl_cond, beq_self_eq_true]
  simp only [List.length_cons, List.length_nil, Nat.reduceAdd, ko_op, ko_func, kT_some, ko_guard, kR_val, kC_val, kG_yes, List.getElem?_toArray, List.getElem?_cons_succ, List.getElem?_cons_zero, Option.bind_some, Nat.reduceLT, Nat.reduceLeDiff, ne_eq, reduceCtorEq, not_false_eq_true, implies_true, Bool.false_eq_true, Option.map_some, List.set_cons_succ, List.set_cons_zero, List.getD_cons_succ, List.getD_cons_zero, own_e, own0_e, ↓reduceIte, exO_move_tmp, exO_unOp, exO_pick, exO_fieldAddr, tk_plain, sh_plain, rd_tmp, tks_nil, tks_cons, Int.reduceLT, unD_not, Option.some.injEq, Prod.mk.injEq, gc_app0, gc_hd, adOf_ptr, adD_ob, add_ob, load1, fieldAddrD, exO_load, Nat.zero_add, Nat.succ_ne_zero, sz3, ag3, st27, w42]
  cases h3 : isPlace m.frm
  · simp only [List.length_cons, List.length_nil, Nat.reduceAdd, kx_seq, kx_skip, kx_ret, kx_goto, kIn_eq, kx_cond_tmp, kCond_true, kSeq_nrm, kSeq_gto, kScope_ret, ko_nil, ko_op, ko_guard, kR_val, kG_no, St.put, List.getElem?_toArray, List.getElem?_cons_succ, List.getElem?_cons_zero, Option.bind_some, Nat.reduceLT, ne_eq, reduceCtorEq, not_false_eq_true, implies_true, Bool.not_false, Option.map_some, List.set_cons_succ, List.set_cons_zero, List.getD_cons_succ, List.getD_cons_zero, own_e, ↓reduceIte, exO_move_tmp, exO_assign, exO_pick, tk_plain, tk_const, sh_const, rd_tmp, ofV_bool, Int.reduceLT, kF_ret, leave_eq, resD_nil, resD_tmp, tupD_one, fit_e, Option.some.injEq, Prod.mk.injEq, gc_more, Bool.and_false, Bool.false_and, Nat.zero_add, kx_region (hcv _), hres, h3, h2, h1, Msg.right, kScope_go, kGo_some, fl_seq, flS_some, flS_none, fl_label, fl_ret, fl_region, fl_cond, beq_self_eq_true]
  simp only [List.length_cons, List.length_nil, Nat.reduceAdd, ko_op, ko_func, kT_some, ko_guard, kR_val, kC_val, kG_yes, List.getElem?_toArray, List.getElem?_cons_succ, List.getElem?_cons_zero, Option.bind_some, Nat.reduceLT, Nat.reduceLeDiff, ne_eq, reduceCtorEq, not_false_eq_true, implies_true, Bool.not_true, Bool.false_eq_true, Option.map_some, List.set_cons_succ, List.set_cons_zero, List.getD_cons_succ, List.getD_cons_zero, own_e, own0_e, ↓reduceIte, exO_move_tmp, exO_unOp, exO_pick, exO_fieldAddr, tk_plain, sh_plain, rd_tmp, tks_nil, tks_cons, Int.reduceLT, unD_not, Option.some.injEq, Prod.mk.injEq, gc_app0, gc_hd, adOf_ptr, adD_ob, add_ob, load1, fieldAddrD, exO_load, Nat.zero_add, Nat.succ_ne_zero, sz3, ag3, st27, w42]
  cases h4 : isPlace m.to
  · simp only [List.length_cons, List.length_nil, Nat.reduceAdd, kx_seq, kx_skip, kx_ret, kx_goto, kIn_eq, kx_cond_tmp, kCond_true, kSeq_nrm, kSeq_gto, kScope_ret, ko_nil, ko_op, ko_guard, kR_val, kG_no, St.put, List.getElem?_toArray, List.getElem?_cons_succ, List.getElem?_cons_zero, Option.bind_some, Nat.reduceLT, ne_eq, reduceCtorEq, not_false_eq_true, implies_true, Bool.not_false, Option.map_some, List.set_cons_succ, List.set_cons_zero, List.getD_cons_succ, List.getD_cons_zero, own_e, ↓reduceIte, exO_assign, exO_pick, tk_plain, tk_const, sh_const, rd_tmp, ofV_bool, Int.reduceLT, kF_ret, leave_eq, resD_nil, resD_tmp, tupD_one, fit_e, Option.some.injEq, Prod.mk.injEq, gc_more, Bool.and_false, Bool.false_and, Nat.zero_add, kx_region (hcv _), hres, h4, h3, h2, h1, Msg.right, kScope_go, kGo_some, fl_seq, flS_some, flS_none, fl_label, fl_ret, fl_region, fl_cond, beq_self_eq_true]
  simp only [List.length_cons, List.length_nil, Nat.reduceAdd, kx_cond_tmp, kSeq_nrm, ko_nil, ko_op, ko_guard, kR_val, kG_yes, List.getElem?_toArray, List.getElem?_cons_succ, List.getElem?_cons_zero, Option.bind_some, Nat.reduceLT, Nat.reduceLeDiff, ne_eq, reduceCtorEq, not_false_eq_true, implies_true, Bool.not_true, Bool.false_eq_true, Option.map_some, List.set_cons_succ, List.set_cons_zero, List.getD_cons_succ, List.getD_cons_zero, own_e, own0_e, ↓reduceIte, exO_binOp, exO_pick, exO_fieldAddr, sh_plain, rd_tmp, binD_eql, Int.reduceLT, arith_eql, Option.some.injEq, Prod.mk.injEq, gc_app0, gc_hd, adOf_ptr, adD_ob, add_ob, load1, fieldAddrD, exO_load, Nat.zero_add, Nat.succ_ne_zero, sz3, ag3, st27]
  cases h5 : m.frm == m.to
  rotate_left
  · simp only [kx_seq, kx_skip, kx_ret, kx_goto, kIn_eq, kCond_true, kSeq_nrm, kSeq_gto, kScope_ret, ko_nil, ko_op, kR_val, ne_eq, reduceCtorEq, not_false_eq_true, implies_true, Bool.not_true, Bool.not_false, Option.map_some, List.set_cons_succ, List.set_cons_zero, List.getD_cons_succ, List.getD_cons_zero, own_e, ↓reduceIte, exO_assign, tk_plain, tk_const, ofV_bool, kF_ret, leave_eq, resD_nil, resD_tmp, tupD_one, fit_e, gc_more, Bool.and_false, Bool.false_and, kx_region (hcv _), hres, h5, h4, h3, h2, h1, Msg.right, kScope_go, kGo_some, fl_seq, flS_some, flS_none, fl_label, fl_ret, fl_region, fl_cond, beq_self_eq_true]
  simp only [kx_seq, kx_skip, kCond_false, kSeq_nrm]
  refine (kx_draw (l := plan25_3) (by exact plan25_3_eq)).trans ?_
  simp only [List.length_cons, List.length_nil, Nat.reduceAdd, List.getElem?_toArray, List.getElem?_cons_succ, List.getElem?_cons_zero, Option.bind_some, Nat.reduceLT, Nat.reduceLeDiff, ne_eq, reduceCtorEq, not_false_eq_true, implies_true, Bool.false_eq_true, Option.map_some, List.set_cons_succ, List.set_cons_zero, List.getD_cons_succ, List.getD_cons_zero, own_e, own_undef, own_ptr, List.any_cons, List.any_nil, ↓reduceIte, exO_binOp, exO_fieldAddr, rd_tmp, rd_const, ofV_int, binD_lss, Int.reduceLT, arith_lss, List.toList_toArray, Option.some.injEq, Prod.mk.injEq, kd_l, kdL_some, kdV_some, kd_r, kdRO_some, kdR_nil, sealD_plain, preSeal_nil, preSeal_move, preSeal_other, exL_move, exL_gen, exL_load, exLd_ob, outV_some, ownOp_tmp, ownOp_const, lo_binOp, lo_fieldAddr, Op.operands, Call.operands, exc0_e, shr0_e, preCv, List.foldl_nil, gc_app0, gc_hd, adOf_ptr, adD_ob, add_ob, fieldAddrD, Bool.or_self, Nat.zero_add, Nat.succ_ne_zero, sz3, ag3, st27, hcv, kdL_g, plan25_3]
  cases h6 : decide (m.call < 1)
  rotate_left
  · simp only [List.length_cons, List.length_nil, Nat.reduceAdd, kx_seq, kx_skip, kx_ret, kx_goto, kIn_eq, kx_cond_tmp, kCond_true, kSeq_nrm, kSeq_gto, kScope_ret, ko_nil, ko_op, kR_val, St.put, List.getElem?_toArray, List.getElem?_cons_succ, List.getElem?_cons_zero, Option.bind_some, Nat.reduceLT, ne_eq, reduceCtorEq, not_false_eq_true, implies_true, Bool.not_true, Bool.not_false, Option.map_some, List.set_cons_succ, List.set_cons_zero, List.getD_cons_succ, List.getD_cons_zero, own_e, own_undef, List.any_cons, List.any_nil, ↓reduceIte, exO_assign, exO_pick, tk_plain, tk_const, sh_const, rd_tmp, ofV_bool, Int.reduceLT, kF_ret, leave_eq, resD_nil, resD_tmp, tupD_one, fit_e, List.toList_toArray, Option.some.injEq, Prod.mk.injEq, kd_nil, kd_l, kdL_some, kdV_some, kd_r, exL_move, exL_gen, outV_some, ownOp_tmp, ownOp_const, lo_pick, Op.operands, Call.operands, gc_more, Bool.or_self, Bool.and_false, Bool.false_and, Nat.zero_add, kx_region (hcv _), hres, kd_h, kdL_g, kdLG_no, kdRO_g, kdRG_no, kdHO_g, kdHG_no, h6, h5, h4, h3, h2, h1, Msg.right, kScope_go, kGo_some, fl_seq, flS_some, flS_none, fl_label, fl_ret, fl_region, fl_cond, beq_self_eq_true]
  simp only [List.length_cons, List.length_nil, Nat.reduceAdd, List.getElem?_toArray, List.getElem?_cons_succ, List.getElem?_cons_zero, Option.bind_some, Nat.reduceLT, Nat.reduceLeDiff, implies_true, Bool.not_false, Bool.false_eq_true, Option.map_some, List.set_cons_succ, List.set_cons_zero, List.getD_cons_succ, List.getD_cons_zero, own_e, own_agg, own_ptr, List.any_cons, List.any_nil, own0_e, ↓reduceIte, exO_binOp, exO_pick, exO_fieldAddr, tk_plain, sh_plain, rd_tmp, rd_const, tks_nil, tks_cons, ofV_int, binD_sub, binD_quo, binD_neq, Int.reduceLT, arith_sub, arith_neq, and_self, List.toList_toArray, Option.some.injEq, Prod.mk.injEq, kd_l, kdL_some, kdV_some, kd_r, kdR_nil, exL_move, exL_gen, exL_load, exLd_ob, outV_some, ownOp_tmp, ownOp_const, lo_pick, lo_binOp, lo_fieldAddr, Op.operands, Call.operands, exc0_e, shr0_e, gc_app0, gc_hd, adOf_ptr, adD_ob, add_ob, List.take_succ_cons, List.take_zero, List.drop_zero, List.map_cons, List.map_nil, fieldAddrD, Bool.or_self, Nat.zero_add, Nat.succ_ne_zero, Nat.le_refl, sz3, sz27, ag3, ag27, st27, kd_h, kdHO_some, kdL_g, kdLG_yes, kdRO_g, kdRG_yes, kdHO_g, kdHG_yes, kdT_some, kdK_func, kdC_val, kdE_val, calmAt_eq, again_nil, again_cons, List.all_cons, List.all_nil, Bool.and_self, hl.own, hl.exc, hl.shr, h43, arith_quo (show (1048576 : Int) ≠ 0 by decide)]
  cases h7 : (IntKind.i64.wrap (Int.tdiv (IntKind.i64.wrap (m.call - 1)) 1048576) == m.asker')
  · have h7' : (IntKind.i64.wrap (Int.tdiv (IntKind.i64.wrap (m.call - 1)) 1048576) != m.asker') = true := by simp [bne, h7]
    simp only [List.length_cons, List.length_nil, Nat.reduceAdd, kx_seq, kx_skip, kx_ret, kx_goto, kIn_eq, kx_cond_tmp, kCond_true, kSeq_nrm, kSeq_gto, kScope_ret, ko_nil, ko_op, kR_val, St.put, List.getElem?_toArray, List.getElem?_cons_succ, List.getElem?_cons_zero, Option.bind_some, Nat.reduceLT, ne_eq, reduceCtorEq, not_false_eq_true, implies_true, Bool.not_false, Option.map_some, List.set_cons_succ, List.set_cons_zero, List.getD_cons_succ, List.getD_cons_zero, own_e, own_undef, List.any_cons, List.any_nil, ↓reduceIte, exO_assign, exO_pick, tk_plain, tk_const, sh_const, rd_tmp, ofV_bool, Int.reduceLT, kF_ret, leave_eq, resD_nil, resD_tmp, tupD_one, fit_e, List.toList_toArray, Option.some.injEq, Prod.mk.injEq, kd_nil, kd_l, kdL_some, kdV_some, exL_gen, outV_some, ownOp_tmp, ownOp_const, lo_pick, Op.operands, Call.operands, gc_more, Bool.or_self, Bool.and_false, Bool.false_and, Nat.zero_add, kx_region (hcv _), hres, kd_h, kdL_g, kdLG_no, kdRG_no, kdHO_g, kdHG_no, h7, h7', h6, h5, h4, h3, h2, h1, Msg.right, kScope_go, kGo_some, fl_seq, flS_some, flS_none, fl_label, fl_ret, fl_region, fl_cond, beq_self_eq_true]
  have h7' : (IntKind.i64.wrap (Int.tdiv (IntKind.i64.wrap (m.call - 1)) 1048576) != m.asker') = false := by simp [bne, h7]
  simp only [List.length_cons, List.length_nil, Nat.reduceAdd, kx_cond_tmp, kSeq_nrm, St.put, List.getElem?_toArray, List.getElem?_cons_succ, List.getElem?_cons_zero, Option.bind_some, Nat.reduceLT, Nat.reduceLeDiff, implies_true, Bool.false_eq_true, Option.map_some, List.set_cons_succ, List.set_cons_zero, List.getD_cons_succ, List.getD_cons_zero, own_e, own_agg, List.any_cons, List.any_nil, own0_e, ↓reduceIte, exO_unOp, exO_pick, tk_plain, sh_plain, rd_tmp, tks_nil, tks_cons, Int.reduceLT, unD_not, and_self, List.toList_toArray, Option.some.injEq, Prod.mk.injEq, kd_nil, kd_l, kdL_some, kdV_some, exL_gen, exL_load, exLd_ob, outV_some, ownOp_tmp, ownOp_const, lo_pick, lo_unOp, Op.operands, Call.operands, exc0_e, shr0_e, gc_app0, gc_hd, adOf_ptr, List.take_succ_cons, List.take_zero, List.drop_zero, List.map_cons, List.map_nil, Bool.or_self, Nat.zero_add, Nat.le_refl, sz3, sz27, ag3, ag27, kd_h, kdHO_some, kdL_g, kdLG_yes, kdRG_yes, kdHO_g, kdHG_yes, kdT_some, kdK_func, kdC_val, kdE_val, calmAt_eq, again_nil, again_cons, same_nil, same_cons, kdR_cons, List.all_nil, Bool.and_self, h7', hl.own, hl.exc, hl.shr, h44]
  cases h8 : m.fine
  · simp only [kx_seq, kx_skip, kx_ret, kx_goto, kIn_eq, kCond_true, kSeq_nrm, kSeq_gto, kScope_ret, ko_nil, ko_op, kR_val, ne_eq, reduceCtorEq, not_false_eq_true, implies_true, Bool.not_false, Option.map_some, List.set_cons_succ, List.set_cons_zero, List.getD_cons_succ, List.getD_cons_zero, own_e, ↓reduceIte, exO_assign, tk_plain, tk_const, ofV_bool, kF_ret, leave_eq, resD_nil, resD_tmp, tupD_one, fit_e, gc_more, Bool.and_false, Bool.false_and, kx_region (hcv _), hres, h8, h7, h6, h5, h4, h3, h2, h1, Msg.right, kScope_go, kGo_some, fl_seq, flS_some, flS_none, fl_label, fl_ret, fl_region, fl_cond, beq_self_eq_true]
  simp only [List.length_cons, List.length_nil, Nat.reduceAdd, kx_seq, kx_skip, kx_ret, kCond_false, kSeq_nrm, kSeq_ret, kScope_ret, ko_nil, ko_op, ko_func, kT_some, kR_val, kC_val, Option.bind_some, ne_eq, reduceCtorEq, not_false_eq_true, implies_true, Bool.not_true, Bool.not_false, Bool.false_eq_true, Option.map_some, List.set_cons_succ, List.set_cons_zero, List.getD_cons_succ, List.getD_cons_zero, own_e, own_agg, own_ptr, List.any_cons, List.any_nil, own0_e, own0_osl, ↓reduceIte, exO_assign, tk_plain, rd_tmp, tks_nil, tks_cons, kF_ret, leave_eq, resD_nil, resD_tmp, tupD_one, fit_e, true_and, gc_app0, gc_appn, gc_hd, gc_tl, adOf_ptr, load1, gc_more, List.take_succ_cons, List.take_zero, List.drop_zero, exO_load, Bool.or_self, Bool.true_and, Nat.zero_add, Nat.le_refl, sz27, ag27, kx_region (hcv _), hres, h8, hl.own, h45, hbl.own, h46, h7, h6, h5, h4, h3, h2, h1, Msg.right, hr']

end Go.Abs

namespace Go.Abs
open Go Go.Proofs
set_option maxRecDepth 10000
set_option maxHeartbeats 4000000

theorem wu32 (x : Int) : IntKind.u32.wrap x = ((BitVec.ofInt 32 x).toNat : Int) := by
  rw [BitVec.toNat_ofInt]
  simp only [IntKind.wrap, IntKind.bits, IntKind.signed]
  simp
  omega
theorem ofInt_toNat {w : Nat} (v : BitVec w) : BitVec.ofInt w (v.toNat : Int) = v := by
  apply BitVec.eq_of_toNat_eq
  rw [BitVec.toNat_ofInt]
  have := v.isLt
  have h2 : ((v.toNat : Int) % ((2 ^ w : Nat) : Int)) = v.toNat := Int.emod_eq_of_lt (by omega) (by exact_mod_cast this)
  rw [h2]; simp
def stp (s : BitVec 32) (b : Bool) : BitVec 32 := ((s <<< 1) + (if b then 1#32 else 0#32)) ^^^ ((-(s >>> 31)) &&& 1947962583#32)
theorem shl1 (s : BitVec 32) : BitVec.ofInt 32 ((s.toNat : Int) * 2 ^ min 1 32) = s <<< 1 := by
  apply BitVec.eq_of_toNat_eq
  rw [BitVec.toNat_ofInt, BitVec.toNat_shiftLeft]
  simp [Nat.shiftLeft_eq]
  omega
theorem shr32 (s : BitVec 32) (k : Nat) (hk : k ≤ 32) : ((s.toNat : Int).fdiv (2 ^ min k 32)) = ((s >>> k).toNat : Int) := by
  rw [BitVec.toNat_ushiftRight, Nat.shiftRight_eq_div_pow, Nat.min_eq_left hk]
  rw [Int.fdiv_eq_ediv_of_nonneg _ (Int.le_of_lt (Int.pow_pos (by decide)))]
  norm_cast
theorem neg32 (s : BitVec 32) : BitVec.ofInt 32 (0 - (s.toNat : Int)) = -s := by
  apply BitVec.eq_of_toNat_eq
  rw [BitVec.toNat_ofInt, BitVec.toNat_neg]
  have := s.isLt
  simp
  omega
theorem add1 (s : BitVec 32) : BitVec.ofInt 32 ((s.toNat : Int) + 1) = s + 1#32 := by
  apply BitVec.eq_of_toNat_eq
  rw [BitVec.toNat_ofInt, BitVec.toNat_add]
  have := s.isLt
  simp
  omega

theorem u8_of (v : BitVec 32) : IntKind.u8.wrap (v.toNat : Int) = ((UInt8.ofBitVec (v.setWidth 8)).toNat : Int) := by
  rw [IntKind.wrap_u8]
  simp [← UInt8.toNat_toBitVec]

/-- Rows of bytes. -/
def byR (b : UInt8) : List E := [.int .u8 (b.toNat : Int)]
def byE (l : List UInt8) : List (List E) := l.map byR
def BA (l : List UInt8) : ByteArray := ⟨l.toArray⟩
theorem toB_byE (l : List UInt8) : toBytes (byE l) = some l := by
  induction l with
  | nil => rfl
  | cons b l ih =>
    have : toByte (byR b) = some b := by simp [toByte, byR]
    simp only [byE, List.map_cons, toBytes, this] at ih ⊢
    rw [ih]
theorem ok_byE (l : List UInt8) : okRows 1 (byE l) = true := by simp [okRows, byE, byR]
theorem BA_inj {a b : List UInt8} : (BA a == BA b) = decide (a = b) := by
  rw [bab]
  by_cases h : a = b
  · subst h; simp
  · have : BA a ≠ BA b := fun e => h (by simpa [BA] using e)
    simp [h, this]
theorem by_len {a : D} {xs : List UInt8} (ha : Rd a (byE xs)) (H : List O) : len0 Try.prog 31 a H = some xs.length := by rw [len0_of Try.underlying31 ha.sl]; simp [byE]
theorem by_ix {a : D} {xs : List UInt8} (ha : Rd a (byE xs)) {i : Nat} {x : UInt8} (hx : xs[i]? = some x) : indexAddrD Try.prog 31 a (.e (.int .i64 i)) = some (.rptr [.int .u8 (x.toNat : Int)] 0) :=
  ix_of Try.underlying31 sz5 ha.sl (by omega) (by simp [byE, hx]; rfl) rfl (by omega)
theorem conv_str {a : D} {xs : List UInt8} (hs : slOf a = some (byE xs)) : convD Try.prog 31 9 a = some (.str (BA xs)) := by
  unfold convD
  simp only [Try.underlying31, Try.underlying9]
  cases a with
  | e v =>
    simp only [Try.underlying5, hs, toB_byE]; rfl
  | osl => simp only [Try.underlying5, hs, toB_byE]; rfl
  | _ => simp [slOf] at hs
theorem convD_int {P : Program} {src dt : TypeId} {a k kk : IntKind} {n : Int} (h1 : P.underlying src = some (.int a)) (h2 : P.underlying dt = some (.int k)) : convD P src dt (.e (.int kk n)) = some (.int k (k.wrap n)) := by
  simp [convD, h1, h2]
/-- bytes.Clone. -/
theorem w31 (d : D) (es : List (List E)) (hd : Rd d es) (hok : (toBytes es).isSome = true) (hl : es.length ≤ 1073741824) (h : List O) : wc 31 [d] h = some (.val (.osl true false 1 es), h) := by
  refine call_pr ?_
  simp [wpr, hd.ownD, hd.sl, hok, hl]
theorem bs31_4 {a b c d : Int} : buildSliceD Try.prog 31 4 [(0, .e (.int .u8 a)), (1, .e (.int .u8 b)), (2, .e (.int .u8 c)), (3, .e (.int .u8 d))] = some (.osl true true 1 [[.int .u8 a], [.int .u8 b], [.int .u8 c], [.int .u8 d]]) := by
  simp [buildSliceD, el31, sz5, zeroCellsOf, zo5, replD, fillD, cellsOf, notTup, putAt, chunk, rowsE, toEs, toE]
theorem bs31_1 {a : Int} : buildSliceD Try.prog 31 1 [(0, .e (.int .u8 a))] = some (.osl true true 1 [[.int .u8 a]]) := by
  simp [buildSliceD, el31, sz5, zeroCellsOf, zo5, replD, fillD, cellsOf, notTup, putAt, chunk, rowsE, toEs, toE]
/-- Bytes behind own bytes. -/
theorem app31 {ex fu : Bool} {es xs : List (List E)} {a : D} (ha : slOf a = some xs) (hok : okRows 1 xs = true) (hl : es.length + xs.length ≤ 1073741824) : appendD Try.prog 31 (.osl ex fu 1 es) a false = some (.osl (ex || es.isEmpty) false 1 (es ++ xs)) := by
  unfold appendD
  rw [el31]
  simp only [sz5, by5, zeroCellsOf, zo5]
  cases a with
  | e v =>
    cases v with
    | str => simp [slOf] at ha
    | _ => simp_all [notTup, cellsOf]
  | osl => simp_all [notTup, cellsOf]
  | _ => simp [slOf] at ha

theorem w15 (a b : D) (xs ys : List UInt8) (ha : Rd a (byE xs)) (hb : Rd b (byE ys)) (h : List O) : wc 15 [a, b] h = some (.val (.bool (decide (xs = ys))), h) := by
  have hcv : ∀ i, wcv 15 i = [] := fun _ => rfl
  have hres : Try.f15.results.toList = [ResultVar.tmp 4] := rfl
  rw [wc, call_fn rfl Try.func15 rfl]
  simp only [enterT, List.length_cons, List.length_nil, Nat.reduceAdd, Nat.reduceSub, List.replicate, List.cons_append, List.nil_append, kx_seq, kx_ret, kSeq_nrm, ko_nil, ko_op, kR_val, ne_eq, reduceCtorEq, not_false_eq_true, implies_true, Option.map_some, List.set_cons_succ, List.set_cons_zero, List.getD_cons_succ, List.getD_cons_zero, own_e, exO_move_tmp, exO_assign, exO_binOp, exO_convert, tk_plain, sh_plain, tk_const, rd_tmp, ofV_bool, binS_eql, strD_eql, kF_ret, leave_eq, resD_nil, resD_tmp, tupD_one, gc_same, fit_e, Nat.zero_add, kx_region (hcv _), Try.ntmps15, hres, ha.ownD, hb.ownD, conv_str ha.sl, conv_str hb.sl, BA_inj]
theorem w74 (s : BitVec 32) (b : Bool) (h : List O) : wc 74 [.int .u32 s.toNat, .bool b] h = some (.val (.int .u32 (stp s b).toNat), h) := by
  have hcv : ∀ i, wcv 74 i = [] := fun _ => rfl
  have hres : Try.f74.results.toList = [ResultVar.tmp 4] := rfl
  rw [wc, call_fn rfl Try.func74 rfl]
  cases b
  · simp only [enterT, List.length_cons, List.length_nil, Nat.reduceAdd, Nat.reduceSub, List.replicate, List.cons_append, List.nil_append, kx_seq, kx_skip, kx_ret, kx_cond_tmp, kCond_false, kSeq_nrm, ko_nil, ko_op, kR_val, Nat.reduceLT, ne_eq, reduceCtorEq, not_false_eq_true, implies_true, Option.map_some, List.set_cons_succ, List.set_cons_zero, List.getD_cons_succ, List.getD_cons_zero, own_e, exO_move_tmp, exO_assign, exO_binOp, exO_unOp, tk_plain, tk_const, rd_tmp, rd_const, ofV_int, binD_and, binD_xor, binD_shl, binD_shr, shiftD_shl, shiftD_shr, Int.reduceLT, Int.reduceToNat, IntKind.bits, arith_and, arith_xor, unD_neg, kF_ret, leave_eq, resD_nil, resD_tmp, tupD_one, gc_same, fit_e, and_true, Option.some.injEq, Prod.mk.injEq, Bool.and_true, Nat.zero_add, kx_region (hcv _), Try.ntmps74, hres, shr32 _ 31 (by decide)]
    simp only [wu32, ofInt_toNat, shl1, neg32, stp, Bool.false_eq_true, if_false, BitVec.add_zero]
    rfl
  · simp only [enterT, List.length_cons, List.length_nil, Nat.reduceAdd, Nat.reduceSub, List.replicate, List.cons_append, List.nil_append, kx_seq, kx_ret, kx_cond_tmp, kCond_true, kSeq_nrm, ko_nil, ko_op, kR_val, Nat.reduceLT, ne_eq, reduceCtorEq, not_false_eq_true, implies_true, Option.map_some, List.set_cons_succ, List.set_cons_zero, List.getD_cons_succ, List.getD_cons_zero, own_e, exO_move_tmp, exO_assign, exO_binOp, exO_unOp, tk_plain, tk_const, rd_tmp, rd_const, ofV_int, binD_add, binD_and, binD_xor, binD_shl, binD_shr, shiftD_shl, shiftD_shr, Int.reduceLT, Int.reduceToNat, IntKind.bits, arith_add, arith_and, arith_xor, unD_neg, kF_ret, leave_eq, resD_nil, resD_tmp, tupD_one, gc_same, fit_e, and_true, Option.some.injEq, Prod.mk.injEq, Bool.and_true, Nat.zero_add, kx_region (hcv _), Try.ntmps74, hres, shr32 _ 31 (by decide)]
    simp only [wu32, ofInt_toNat, shl1, neg32, add1, stp, if_true]
    rfl
/-- Four bytes, the highest first. -/
def tail4 (s : BitVec 32) : List UInt8 := [.ofBitVec ((s >>> 24).setWidth 8), .ofBitVec ((s >>> 16).setWidth 8), .ofBitVec ((s >>> 8).setWidth 8), .ofBitVec (s.setWidth 8)]
theorem w36 (s : BitVec 32) (h : List O) : wc 36 [.int .u32 s.toNat] h = some (.val (.osl true true 1 (byE (tail4 s))), h) := by
  have hcv : ∀ i, wcv 36 i = [] := fun _ => rfl
  have hres : Try.f36.results.toList = [ResultVar.tmp 2] := rfl
  rw [wc, call_fn rfl Try.func36 rfl]
  simp only [enterT, List.length_cons, List.length_nil, Nat.reduceAdd, Nat.reduceSub, List.replicate, List.cons_append, List.nil_append, kx_seq, kx_ret, kSeq_nrm, ko_nil, ko_op, kR_val, Nat.reduceLT, ne_eq, reduceCtorEq, not_false_eq_true, implies_true, Bool.false_eq_true, Option.map_some, List.set_cons_succ, List.set_cons_zero, List.getD_cons_succ, List.getD_cons_zero, own_e, List.any_cons, List.any_nil, ↓reduceIte, exO_assign, exO_binOp, exO_convert, exO_buildSlice, sh_plain, tk_const, rd_tmp, rd_const, shs_nil, shs_cons, ofV_int, ofV_nilsl, binD_shr, shiftD_shr, Int.reduceLT, Int.reduceToNat, IntKind.bits, kF_ret, leave_eq, resD_nil, resD_tmp, tupD_one, gc_same, fit_osl, and_true, Option.some.injEq, Prod.mk.injEq, List.map_cons, List.map_nil, Bool.or_self, Bool.and_true, Nat.zero_add, Try.underlying5, kx_region (hcv _), Try.ntmps36, hres, shr32 _ 24 (by decide), shr32 _ 16 (by decide), shr32 _ 8 (by decide), convD_int Try.underlying28 Try.underlying5, List.zip_cons_cons, List.zip_nil_right, u8_of, bs31_4, exO_mv, taken, consumes, isTmp, Nat.reduceBEq, tk_tmp, tkV_own, ownD_ex, leftT_ex]
  rfl

end Go.Abs

namespace Go.Abs
open Go Go.Proofs
set_option maxRecDepth 10000
set_option maxHeartbeats 4000000

def bitE (x : UInt8) (m : Int) : Bool := IntKind.u8.wrap ((BitVec.ofInt 8 (x.toNat : Int) &&& BitVec.ofInt 8 m).toNat : Int) != 0
def bits8 (x : UInt8) : List Bool := [bitE x 128, bitE x 64, bitE x 32, bitE x 16, bitE x 8, bitE x 4, bitE x 2, bitE x 1]
def bitsOf (l : List UInt8) : List Bool := l.flatMap bits8
theorem m128 : Int.fdiv 128 (2 ^ min 1 8) = 64 := by decide
theorem m64 : Int.fdiv 64 (2 ^ min 1 8) = 32 := by decide
theorem m32 : Int.fdiv 32 (2 ^ min 1 8) = 16 := by decide
theorem m16 : Int.fdiv 16 (2 ^ min 1 8) = 8 := by decide
theorem m8 : Int.fdiv 8 (2 ^ min 1 8) = 4 := by decide
theorem m4 : Int.fdiv 4 (2 ^ min 1 8) = 2 := by decide
theorem m2 : Int.fdiv 2 (2 ^ min 1 8) = 1 := by decide
theorem m1 : Int.fdiv 1 (2 ^ min 1 8) = 0 := by decide

theorem w87 {σ : Type} (H : σ → List O) (L p1 : Nat) (f : σ → Bool → σ) (a : D) (xs : List UInt8) (ha : Rd a (byE xs)) (hx : xs.length ≤ 1000000) (hc1 : ∀ s, getCells (H s) p1 = some [a])
    (hr : ∀ s b, call Try.prog wpr wcv (.round L) [.bool b] (H s) = some (.val (.bool true), H (f s b))) (hgc : ∀ s s' d, gc (H s).length (H s) (H s') d = H s') (s0 : σ) :
    wc 87 [.func (.yield L) [] [], .ptr p1 0] (H s0) = some (.val undefD, H ((bitsOf (xs ++ [0, 0, 0, 0])).foldl f s0)) := by
  have h31 := w31 a (byE xs) ha (by rw [toB_byE]; rfl) (by simp [byE]; omega)
  have happ : ∀ (ex : Bool), appendD Try.prog 31 (.osl true false 1 (byE xs)) (.osl false true 1 [[.int .u8 0], [.int .u8 0], [.int .u8 0], [.int .u8 0]]) false = some (.osl true false 1 (byE (xs ++ [0, 0, 0, 0]))) := by
    intro _
    rw [app31 slOf_osl (by decide) (by simp [byE]; omega)]
    simp [byE, byR]
  have hlen : ∀ h, len0 Try.prog 31 (.osl true false 1 (byE (xs ++ [0, 0, 0, 0]))) h = some (xs ++ [0, 0, 0, 0]).length := fun h => by rw [len0_of Try.underlying31 slOf_osl]; simp [byE]
  generalize hys : xs ++ [0, 0, 0, 0] = ys at happ hlen
  have hyl : ys.length ≤ 1000004 := by rw [← hys]; simp; omega
  have hcv : ∀ i, wcv 87 i = [] := fun _ => rfl
  have hres : Try.f87.results.toList = [] := rfl
  rw [wc, call_fn rfl Try.func87 rfl]
  simp only [enterT, List.length_cons, List.length_nil, Nat.reduceAdd, Nat.reduceSub, List.replicate, List.cons_append, List.nil_append, kx_seq, kx_block, kSeq_nrm, ko_nil, ko_op, ko_builtin, ko_func, kT_some, kR_val, kC_val, List.getElem?_toArray, List.getElem?_cons_succ, List.getElem?_cons_zero, Option.bind_some, ne_eq, reduceCtorEq, not_false_eq_true, implies_true, Bool.false_eq_true, Option.map_some, List.set_cons_succ, List.set_cons_zero, List.getD_cons_succ, List.getD_cons_zero, List.any_cons, List.any_nil, ↓reduceIte, exO_buildSlice, tk_plain, sh_const, rd_tmp, tks_nil, tks_cons, shs_nil, shs_cons, ofV_int, exB_len, exB_append, hlen, adOf_ptr, load1, List.map_cons, List.map_nil, Option.bind_eq_bind, exO_load, Bool.or_self, Nat.zero_add, Option.pure_def, Nat.le_refl, Try.underlying31, sz31, ag31, kx_region (hcv _), Try.ntmps87, ha.own, ha.ownD, hc1, h31, List.zip_cons_cons, List.zip_nil_right, bs31_4, back, exO_mv, taken, consumes, isTmp, Nat.reduceBEq, tk_tmp, tkV_own, sh_tmp, shV_osl, ownD_ex, ownD_nf, leftT_ex, shr_fu, kep_osl, happ true]
  refine kx_loop_ind (fun (n : Nat) (s : St) => ∃ (i : Nat) (ex : Bool) (q : σ), (i + n = ys.length ∧ (bitsOf (ys.drop i)).foldl f q = (bitsOf ys).foldl f s0) ∧ ∃ zs_, s = ⟨mkT [some (.func (.yield L) [] []), some (.ptr p1 0), none, none, none, none, none, none, none, some (.osl ex false 1 (byE ys)), some (.int .i64 ys.length), some (.int .i64 i), none, none, none, none, none, none, none, none, none, none, none, none, none, none, none] zs_ 0, [], .no, H q⟩) ?_ (ys.length) ⟨0, true, s0, ⟨by omega, by simp⟩, inv_intro rfl rfl rfl rfl⟩
  rintro n _ ⟨i, ex, q, hf_o, zs_o, rfl⟩ IH_o
  obtain ⟨hn, ht⟩ := hf_o
  by_cases hi : i < ys.length
  rotate_left
  · have e2 : decide ((i : Int) < ys.length) = false := by simp; omega
    have hz : (bitsOf ys).foldl f s0 = q := by rw [← ht, List.drop_of_length_le (by omega)]; rfl
    simp only [Nat.reduceAdd, kx_seq, kx_exit, kx_cond_tmp, kCond_false, kSeq_nrm, kSeq_ext, kBlk_ext, kLoop_ext, ko_nil, ko_op, kR_val, ne_eq, reduceCtorEq, not_false_eq_true, implies_true, Option.map_some, List.set_cons_succ, List.set_cons_zero, List.getD_cons_succ, List.getD_cons_zero, ↓reduceIte, exO_binOp, rd_tmp, binD_lss, arith_lss, kF_nrm, leave_eq, resD_nil, tupD_nil, mkT, Nat.zero_add, kx_region (hcv _), hres, e2, hz, hgc]
  have e2 : decide ((i : Int) < ys.length) = true := by simp; omega
  have hxi : ys[i]? = some ys[i] := List.getElem?_eq_getElem hi
  have hd : ys.drop i = ys[i] :: ys.drop (i + 1) := List.drop_eq_getElem_cons hi
  generalize ys[i] = x at hxi hd
  have ia := by_ix (a := .e (.sl (byE ys))) Rd.e hxi
  simp only [List.length_cons, List.length_nil, Nat.reduceAdd, kx_seq, kx_skip, kx_label, kx_goto, kx_block, kx_scope, kIn_eq, kx_cond_tmp, kCond_true, kCond_false, kSeq_nrm, kBlk_nrm, kLoop_nrm, kScope_nrm, ko_nil, ko_op, kR_val, kC_val, List.getElem?_cons_zero, Option.bind_some, Nat.reduceLT, ne_eq, reduceCtorEq, not_false_eq_true, implies_true, Bool.not_true, Bool.false_eq_true, Option.map_some, List.set_cons_succ, List.set_cons_zero, List.getD_cons_succ, List.getD_cons_zero, own_e, own_func, List.any_cons, List.any_nil, Bool.or_false, ↓reduceIte, exO_assign, exO_binOp, exO_unOp, exO_indexAddr, tk_plain, sh_plain, tk_const, rd_tmp, rd_const, tks_nil, tks_cons, ofV_int, binD_add, binD_and, binD_neq, binD_lss, binD_gtr, binD_shr, shiftD_shr, Int.reduceLT, Int.reduceToNat, IntKind.bits, arith_add, arith_and, arith_neq, arith_lss, arith_gtr, unD_not, mkT, adOf_rptr, load0, exO_load, Bool.or_self, Nat.zero_add, Nat.le_refl, sz5, ag5, kx_region (hcv _), e2, ia, back, exO_mv, taken, consumes, isTmp, beq_self_eq_true, Nat.reduceBEq, sh_tmp, shV_osl, ownD_nf, shr_nf, kep_osl, ko_val, kY_yield, kScope_go, kGo_some, fl_seq, flS_some, flS_none, fl_label, fl_region, hr, inc64 hi (show ys.length ≤ 1099511627776 by omega), m128, m64, m32, m16, m8, m4, m2, m1, decide_true, decide_false]
  refine IH_o (ys.length - (i + 1)) _ (by omega) ⟨i + 1, false, (bits8 x).foldl f q, ⟨by omega, ?_⟩, inv_intro rfl rfl rfl rfl⟩
  rw [← ht, hd, bitsOf, bitsOf, List.flatMap_cons, List.foldl_append]

end Go.Abs

namespace Go.Abs
open Go Go.Proofs
set_option maxRecDepth 10000
set_option maxHeartbeats 4000000

theorem w73 (a : D) (xs : List UInt8) (ha : Rd a (byE xs)) (h : List O) : wc 73 [a] h = some (.val (.func (.func 87) [] [.ptr h.length 0]), h ++ [.cells [a]]) := by
  have hcv : ∀ i, wcv 73 i = [] := fun _ => rfl
  have hres : Try.f73.results.toList = [ResultVar.tmp 2] := rfl
  rw [wc, call_fn rfl Try.func73 rfl]
  simp only [enterT, List.length_cons, List.length_nil, Nat.reduceSub, List.replicate, List.cons_append, List.nil_append, kx_seq, kx_ret, kSeq_nrm, ko_nil, ko_op, kR_val, ne_eq, reduceCtorEq, not_false_eq_true, implies_true, Option.map_some, List.set_cons_succ, List.set_cons_zero, List.getD_cons_succ, List.getD_cons_zero, own_ptr, own_func, ↓reduceIte, exO_assign, exO_box, exO_makeFunc, tk_plain, sh_plain, tk_const, shs_nil, shs_cons, ofV_nilfn, kF_ret, leave_eq, resD_nil, resD_tmp, tupD_one, Option.some.injEq, Prod.mk.injEq, true_and, Bool.true_and, Nat.zero_add, kx_region (hcv _), Try.ntmps73, hres, ha.ownD, ha.cells, ha.notTup]
  rw [gc_not]
  simp [fit_func, fit_ptr]

def sumC (s : BitVec 32) : O := .cells [.int .u32 (s.toNat : Int)]
theorem set_self' {H : List O} {i : Nat} {o : O} (h : H[i]? = some o) : H.set i o = H := by
  apply List.ext_getElem?
  intro j
  by_cases e : i = j
  · subst e; rw [List.getElem?_set_self (List.getElem?_eq_some_iff.1 h).1, h]
  · rw [List.getElem?_set_ne e]
theorem w87b (H : List O) (L p1 i0 : Nat) (s0 : BitVec 32) (a : D) (xs : List UInt8) (ha : Rd a (byE xs)) (hx : xs.length ≤ 1000000) (h0 : H[i0]? = some (sumC s0)) (hi : i0 ≠ p1) (hc1 : getCells H p1 = some [a])
    (hr : ∀ s b, call Try.prog wpr wcv (.round L) [.bool b] (H.set i0 (sumC s)) = some (.val (.bool true), H.set i0 (sumC (stp s b)))) :
    call Try.prog wpr wcv (.fn 87) [.func (.yield L) [] [], .ptr p1 0] H = some (.val undefD, H.set i0 (sumC ((bitsOf (xs ++ [0, 0, 0, 0])).foldl stp s0))) := by
  have := w87 (fun s => H.set i0 (sumC s)) L p1 stp a xs ha hx (fun s => by unfold getCells at hc1 ⊢; rw [List.getElem?_set_ne hi]; exact hc1) hr (fun s s' d => gc_len (by simp)) s0
  rw [set_self' h0] at this
  exact this
/-- The sum of bytes, by frame.Sum. -/
def crc (xs : List UInt8) : BitVec 32 := (bitsOf (xs ++ [0, 0, 0, 0])).foldl stp 4294967295#32

theorem w37 (a : D) (xs : List UInt8) (ha : Rd a (byE xs)) (hx : xs.length ≤ 1000000) (h : List O) : wc 37 [a] h = some (.val (.int .u32 (crc xs).toNat), h) := by
  have h73 := w73 a xs ha
  have hcv : ∀ i, wcv 37 i = [] := fun _ => rfl
  have hres : Try.f37.results.toList = [ResultVar.tmp 2] := rfl
  rw [wc, call_fn rfl Try.func37 rfl]
  simp only [enterT, List.length_cons, List.length_nil, Nat.reduceSub, List.replicate, List.cons_append, List.nil_append, kx_seq, kx_block, kSeq_nrm, ko_nil, ko_op, ko_func, kT_some, kR_val, kR_val0, kC_val, Option.bind_some, ne_eq, reduceCtorEq, not_false_eq_true, implies_true, Option.map_some, List.set_cons_succ, List.set_cons_zero, List.getD_cons_succ, List.getD_cons_zero, ↓reduceIte, exO_move_tmp, exO_assign, exO_alloc, exO_store, tk_plain, tk_const, rd_tmp, tks_nil, tks_cons, ofV_int, and_self, List.append_nil, gc_app0, gc_hd, hset0, hlen, hpush, adOf_ptr, putAt_eq', cellsOf_e, notTup_e, store1, List.take_zero, List.drop_succ_cons, List.drop_zero, Nat.zero_add, Nat.le_refl, sz28, kx_region (hcv _), Try.ntmps37, ha.ownD, zo28, h73]
  rw [kx_range rfl rfl rfl]
  simp only [List.length_cons, List.length_nil, Nat.reduceAdd, List.cons_append, List.nil_append, hlen, List.map_cons, List.map_nil, Nat.zero_add, List.append_assoc, shrT_undef, shrT_e, shrT_ptr, shrT_func, shrT_rd ha]
  refine kRng_of (P := Try.prog) (pr := wpr) (cv := wcv) (w87b _ _ _ h.length 4294967295#32 a xs ha hx (by simp [sumC]) (by omega) (by simp [getCells]) ?_) ?_
  · intro s b
    rw [hset0]
    refine (call_round (hgetn.trans rfl) rfl).trans ?_
    simp only [ko_nil, ko_op, kR_val, ne_eq, reduceCtorEq, not_false_eq_true, implies_true, Option.map_some, List.set_cons_succ, List.set_cons_zero, List.getD_cons_succ, List.getD_cons_zero, own_e, exO_assign, tk_plain, List.foldl_nil, hset0, kx_region (hcv _), List.zip_cons_cons, List.zip_nil_right, List.foldl_cons]
    rw [kBody_nrm (hgetn.trans rfl)]
    simp only [List.length_cons, List.length_nil, List.nil_append, kx_block, kBlk_nrm, ko_nil, ko_op, ko_func, kT_some, kR_val, kR_val0, kC_val, List.getElem?_cons_zero, Option.bind_some, ne_eq, reduceCtorEq, not_false_eq_true, implies_true, Bool.false_eq_true, Option.map_some, List.set_cons_succ, List.set_cons_zero, List.getD_cons_succ, List.getD_cons_zero, own_e, own0_e, ↓reduceIte, exO_move_tmp, exO_store, tk_plain, rd_tmp, tks_nil, tks_cons, and_self, List.append_nil, gc_app0, gc_hd, hset0, hsetn, adOf_ptr, putAt_eq', cellsOf_e, notTup_e, load1, store1, List.take_zero, List.drop_succ_cons, List.drop_zero, exO_load, Nat.zero_add, Nat.le_refl, sz28, ag28, kx_region (hcv _), sumC, w74]
    rw [rout_nrm (hgetn.trans rfl)]
    simp only [List.set_cons_succ, List.set_cons_zero, hsetn]
  · rw [hset0, kRng_nrm' (n := h.length + 2) (by simp) (hgetn.trans rfl) (by simp)]
    simp only [kx_seq, kSeq_nrm, kBlk_nrm, ko_op, Option.bind_some, ne_eq, reduceCtorEq, not_false_eq_true, implies_true, List.set_cons_succ, List.set_cons_zero, List.getD_cons_succ, List.getD_cons_zero, rd_tmp, hsetn, List.map_cons, List.map_nil, exO_load, kx_region (hcv _)]
    rw [gc_tail (n := h.length + 2) (h := h) (l := [_, _]) rfl (.tup [] (by simp)) ?_]
    rotate_left
    · exact ⟨.inr (.cells _ (by simp [fit_e])), .inl rfl, trivial⟩
    simp only [List.length_cons, List.length_nil, Nat.reduceAdd, kx_ret, kSeq_nrm, ko_nil, ko_op, kR_val, List.getElem?_cons_zero, ne_eq, reduceCtorEq, not_false_eq_true, implies_true, Bool.false_eq_true, Option.map_some, List.set_cons_succ, List.set_cons_zero, List.getD_cons_succ, List.getD_cons_zero, own_e, own0_e, ↓reduceIte, exO_assign, tk_plain, kF_ret, leave_eq, resD_nil, resD_tmp, tupD_one, fit_e, and_true, Option.some.injEq, Prod.mk.injEq, gc_app0, gc_hd, adOf_ptr, load1, gc_more, List.take_succ_cons, List.take_zero, Bool.and_true, Nat.zero_add, Nat.le_refl, sz28, ag28, hres, kep_undef, kep_e, kep_ptr, kep_func, kep_rd ha, sumC]
    rfl

end Go.Abs
