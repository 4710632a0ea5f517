/-
  WIRE: msg.Right. MORE RULES: jumps within a scope. WIRE: msg.Right. No condition.
-/
import Derived.Test.YtkimilghfbgjmaaP17

namespace Go.Abs
open Go Go.Proofs
set_option maxRecDepth 10000
set_option maxHeartbeats 4000000

/-- Is what its kind may have as it is to be? -/
noncomputable def Msg.fine (m : Msg) : Bool :=
  if m.kind == 4 then Zej m.key else
  if m.kind == 5 then Zik m.ikey m.ival m.iver else
  if m.kind == 6 then fineKey m.ikey else
  if m.kind == 7 then ((m.pred == -1) || Zej m.pred) && listZ m.list m.frm else
  if m.kind == 10 then Zej m.place else
  if m.kind == 11 then (m.code == 0) || (m.code == 200) else
  if m.kind == 12 then ((m.code == 0) && Zik m.ikey m.ival m.iver) || ((m.code == 201) && ((m.ikey == { data := #[] }) && ((m.ival == 0) && ((m.iver == 0) && (m.gone == false))))) else true

theorem w44 (m : Msg) (l : D) (hl : Rd l (isE m.list)) (hx : m.list.length ≤ 1099511627776) (h : List O) : wc 44 [.agg (m.cs l)] h = some (.val (.bool m.fine), h) := by
  have hp := w76 m.ikey m.ival m.iver m.gone
  have hll := w78 l m.list m.frm hl hx
  simp only [Zh8] at hp
  have hcv : ∀ i, wcv 44 i = [] := fun _ => rfl
  have hres : Try.f44.results.toList = [ResultVar.tmp 2] := rfl
  rw [wc, Zbt rfl Try.func44 rfl]
  simp only [Zbi, List.length_cons, List.length_nil, Nat.reduceAdd, Nat.reduceSub, List.replicate, List.cons_append, List.nil_append, Zaj, Zc3, Za7, Za3, Zae, Zao, Za9, List.getElem?_cons_zero, Option.bind_some, Nat.reduceLeDiff, ne_eq, reduceCtorEq, not_false_eq_true, implies_true, Bool.false_eq_true, Option.map_some, List.set_cons_succ, List.set_cons_zero, List.getD_cons_succ, List.getD_cons_zero, Zau, Zbo, List.any_cons, List.any_nil, Zb3, ↓reduceIte, Za0, Za6, Zd2, Za5, Za4, Zaq, Zac, Zai, Zan, Zax, Zb8, Int.reduceNeg, Zay, Zas, Zbg, Zad, Zb6, Zb5, Zb1, Zb9, Zbs, Za8, Zag, Bool.or_self, Nat.add_zero, Nat.zero_add, Nat.succ_ne_zero, sz5, ag5, st27, Za1 (hcv _), Try.ntmps44, Msg.cs, hl.own]
  cases h4 : m.kind == 4
  rotate_left
  · simp only [List.length_cons, List.length_nil, Nat.reduceAdd, Zaj, Zaz, Zal, Za3, Zbr, Zcl, Zae, Zao, Zbe, Zbf, Za9, Zbq, List.getElem?_cons_succ, List.getElem?_cons_zero, Option.bind_some, Nat.reduceLeDiff, ne_eq, reduceCtorEq, not_false_eq_true, implies_true, Bool.false_eq_true, Option.map_some, List.set_cons_succ, List.set_cons_zero, List.getD_cons_succ, List.getD_cons_zero, Zau, Zb3, ↓reduceIte, Za0, Za5, Za4, Zac, Zaw, Zap, Int.reduceNeg, Zb0, Zab, Zaa, Zah, Zat, Zbm, Zas, Zbg, Zad, Zb6, Zb5, Zbs, Zb2, Za8, Zag, Nat.zero_add, Nat.succ_ne_zero, sz3, ag3, st27, Za1 (hcv _), hres, h4, w42, Msg.fine]
  simp only [Zaj, Za7, Zar, Za3, Zae, Zao, Za9, ne_eq, reduceCtorEq, not_false_eq_true, implies_true, Option.map_some, List.set_cons_succ, List.set_cons_zero, List.getD_cons_succ, List.getD_cons_zero, Zau, Za0, Za6, Za4, Zac, Zai, Zan, Zb8, Int.reduceNeg, Zay, Za1 (hcv _)]
  cases h5 : m.kind == 5
  rotate_left
  · simp only [List.length_cons, List.length_nil, Nat.reduceAdd, Zaj, Zaz, Zal, Za3, Zbr, Zcl, Zae, Zao, Zbe, Zbf, Za9, Zbq, List.getElem?_cons_succ, List.getElem?_cons_zero, Option.bind_some, Nat.reduceLeDiff, ne_eq, reduceCtorEq, not_false_eq_true, implies_true, Bool.false_eq_true, Option.map_some, List.set_cons_succ, List.set_cons_zero, List.getD_cons_succ, List.getD_cons_zero, Zau, Zbo, List.any_cons, List.any_nil, Zb3, ↓reduceIte, Za0, Za5, Za4, Zac, Zaw, Zap, Int.reduceNeg, Zb0, Zab, Zaa, Zah, Zat, Zbm, Zas, Zbg, Zad, Zb6, Zb5, Zbs, Zb2, List.take_succ_cons, List.take_zero, List.drop_succ_cons, List.drop_zero, Za8, Zag, Bool.or_self, Nat.zero_add, Nat.succ_ne_zero, sz24, ag24, st27, Za1 (hcv _), hres, h5, hp, Msg.fine, h4]
  simp only [Zaj, Za7, Zar, Za3, Zae, Zao, Za9, ne_eq, reduceCtorEq, not_false_eq_true, implies_true, Option.map_some, List.set_cons_succ, List.set_cons_zero, List.getD_cons_succ, List.getD_cons_zero, Zau, Za0, Za6, Za4, Zac, Zai, Zan, Zb8, Int.reduceNeg, Zay, Za1 (hcv _)]
  cases h6 : m.kind == 6
  rotate_left
  · simp only [List.length_cons, List.length_nil, Nat.reduceAdd, Zaj, Zaz, Zal, Za3, Zbr, Zcl, Zae, Zao, Zbe, Zbf, Za9, Zbq, List.getElem?_cons_succ, List.getElem?_cons_zero, Option.bind_some, Nat.reduceLeDiff, ne_eq, reduceCtorEq, not_false_eq_true, implies_true, Bool.false_eq_true, Option.map_some, List.set_cons_succ, List.set_cons_zero, List.getD_cons_succ, List.getD_cons_zero, Zau, Zb3, ↓reduceIte, Za0, Za5, Za4, Zac, Zaw, Zap, Int.reduceNeg, Zb0, Zab, Zaa, Zah, Zat, Zbm, Zas, Zbg, Zad, Zb6, Zb5, Zbs, Zb2, Za8, Zag, Nat.add_zero, Nat.zero_add, Nat.succ_ne_zero, sz9, sz24, ag9, st24, st27, Za1 (hcv _), hres, h6, w77, Msg.fine, h4, h5]
  simp only [Zaj, Za7, Zar, Za3, Zae, Zao, Za9, ne_eq, reduceCtorEq, not_false_eq_true, implies_true, Option.map_some, List.set_cons_succ, List.set_cons_zero, List.getD_cons_succ, List.getD_cons_zero, Zau, Za0, Za6, Za4, Zac, Zai, Zan, Zb8, Int.reduceNeg, Zay, Za1 (hcv _)]
  cases h7 : m.kind == 7
  rotate_left
  · simp only [List.length_cons, List.length_nil, Nat.reduceAdd, Zaj, Zal, Zao, Zak, Za9, List.getElem?_toArray, List.getElem?_cons_succ, List.getElem?_cons_zero, Option.bind_some, Nat.reduceLT, Nat.reduceLeDiff, ne_eq, reduceCtorEq, not_false_eq_true, implies_true, Bool.false_eq_true, Option.map_some, List.set_cons_succ, List.set_cons_zero, List.getD_cons_succ, List.getD_cons_zero, Zau, Zb3, ↓reduceIte, Za2, Za6, Za5, Zac, Zai, Zan, Zb8, Int.reduceNeg, Zay, Option.some.injEq, Zas, Zbg, Zad, Zb6, Zb5, Zbs, Za8, Zag, Nat.zero_add, Nat.succ_ne_zero, sz3, ag3, st27, Za1 (hcv _), h7, Msg.fine, h4, h5, h6]
    cases h71 : m.pred == -1
    · simp only [List.length_cons, List.length_nil, Nat.reduceAdd, Zao, Zbe, Zbf, Zak, Za9, Zbq, Zc0, List.getElem?_toArray, List.getElem?_cons_succ, List.getElem?_cons_zero, Option.bind_some, Nat.reduceLT, Nat.reduceLeDiff, ne_eq, reduceCtorEq, not_false_eq_true, implies_true, Bool.false_eq_true, Option.map_some, List.set_cons_succ, List.set_cons_zero, List.getD_cons_succ, List.getD_cons_zero, Zau, Zb3, Bool.false_or, ↓reduceIte, Za2, Zam, Za5, Za4, Zaf, Zac, Zaw, Zap, Int.reduceNeg, Option.some.injEq, Zas, Zbg, Zad, Zb6, Zb5, Zbs, Za8, Zag, Nat.zero_add, Nat.succ_ne_zero, sz3, ag3, st27, w42]
      try simp only [Zbi, List.length_cons, List.length_nil, Nat.reduceAdd, Nat.reduceSub, List.replicate, List.cons_append, List.nil_append, List.append_eq, Zaj, Zbz, Zaz, Zfe, kx_label, Zh6, Zc3, Zhm, Zht, Za7, Zal, Zar, Za3, Zbr, Zeg, Zgc, kSeq_pan, Zc8, Zcl, Zeh, kBlk_gto, kBlk_pan, Ze8, Zfy, Zdu, kLoop_gto, kLoop_pan, Ziv, Zdq, kScope_ext, kScope_pan, Zae, Zao, Zbb, Zbe, Zbf, Zak, Za9, Zce, kR_pan, Zbq, kC_val0, kC_pan, Zc0, Zdl, kG_undef, St.put, List.getElem?_toArray, List.getElem?_cons_succ, List.getElem?_cons_zero, Option.bind_some, Nat.reduceLT, Nat.reduceLeDiff, ne_eq, reduceCtorEq, not_false_eq_true, implies_true, forall_const, Bool.not_true, Bool.not_false, not_true_eq_false, Bool.true_eq_false, Bool.false_eq_true, Option.map_some, List.set_cons_succ, List.set_cons_zero, List.getD_cons_succ, List.getD_cons_zero, Zau, Zef, Zdj, Zbo, Zbk, Zda, Zfu, own_asl, own_rptr, own_hdr, own_iface, List.any_cons, List.any_nil, Zb3, Zds, own0_hdr, Bool.or_false, Bool.false_or, Bool.not_eq_true', if_false, if_true, ite_true, ite_false, ↓reduceIte, Za2, Zep, Za0, Za6, Zdn, Zck, Zam, Zdz, Zd2, Zdv, Zby, Zbc, Zbd, Zf4, Zec, Zhe, Zg9, Za5, Zbl, exO_panic, Zc7, Za4, Zaf, Zaq, Zb7, Zac, Zai, rd_func, Zaw, Zap, Ze7, Zd9, Zan, Zax, Zj2, Zcj, Zdt, Zj4, ofV_nilptr, Zg8, Zg7, Zdf, Zgn, binD_mul, binD_quo, binD_rem, binD_and, binD_or, binD_xor, Zb8, Zel, Zc2, Zfg, Zf6, Zem, binD_shl, Zh4, binS_add, binS_eql, binS_neq, strD_eql, strD_neq, Zfh, binB_neq, Zhi, Zfj, arith_quo, Zig, Int.reduceLT, Int.reduceToNat, Int.reduceNe, Int.reduceNeg, IntKind.bits, Zcv, Zft, Zih, Zhw, arith_or, Zif, Zay, Ze0, Zbv, Zeo, Zei, Ze1, Zes, unD_neg, Zd0, Zdi, exB_min, exB_max, Zb0, Zer, kF_pan, Zab, leave_pan, Zaa, Zah, Zdy, Zat, Zd6, Zea, Zcr, Zcn, Zbm, Zcx, fit_hdr, Zcw, Zg6, List.forall_mem_cons, List.not_mem_nil, false_imp_iff, and_true, and_self, List.toList_toArray, Option.some.injEq, Prod.mk.injEq, exists_eq_left', true_and, Ze5, kd_l, Zc5, Zc4, kd_r, Zcf, Zee, Zch, Zbn, Zc6, Zba, Zdg, exL_const, Zcs, Zci, Zde, exLd_ro, Zbx, Zbw, Zdc, ownOp_func, Zhc, lo_build, Zga, Zdx, Zg1, lo_unOp, Zhj, Zg5, Zin, lo_slice, Zbu, lo_field, Zfl, lo_index, Zeb, lo_len, Zgy, Op.operands, Call.operands, Zg3, Zj5, Zfp, Ziy, Zfx, List.any_cons, List.any_nil, Ze2, mkT, List.foldl_nil, Array.toList_append, List.append_nil, List.forall_mem_nil, Zas, Zbh, Zbg, Zcz, Zeu, Ze4, hlen, Zi9, hget0, hgetn, Zad, Zdh, Zb6, adD_ro, Zb5, add_ro, Zb4, Zb1, Zc9, Zd3, Zhf, Zir, Zhv, Zb9, Zco, Zcm, Zhy, notTup_map, Zil, Zbs, Zim, Zcq, Zb2, List.take_succ_cons, List.take_zero, List.drop_succ_cons, List.drop_zero, List.map_cons, List.map_nil, Za8, Option.bind_eq_bind, Zag, Bool.or_self, Bool.and_false, Bool.and_true, Bool.true_and, Bool.false_and, Bool.or_true, Bool.true_or, Nat.add_zero, Nat.zero_add, Nat.reduceEqDiff, Nat.succ_ne_zero, Zh0, Option.pure_def, slOf_e, Zg0, Nat.le_refl, and_self, Try.underlying3, Try.underlying4, Try.underlying5, Try.underlying9, Try.underlying22, Try.underlying24, Try.underlying25, Try.underlying27, Try.underlying28, Try.underlying31, Try.underlying38, Try.underlying105, sz3, sz4, sz5, sz9, sz22, sz24, sz25, sz27, sz28, sz31, ag3, ag4, ag5, ag9, ag22, ag24, ag25, ag27, ag28, ag31, st24, st27, el22, el31, el105, Za1 (hcv _), hcv, Try.ntmps44, hres, hl.own, hl.ownD, h4, h5, h6, h7, Msg.fine, hll]
      cases hp0 : Zej m.pred
      · simp only [List.length_cons, List.length_nil, Nat.reduceAdd, Zaz, Za3, Zbr, Zcl, Zae, Zao, Zak, Za9, Zdl, St.put, List.getElem?_toArray, List.getElem?_cons_succ, List.getElem?_cons_zero, Option.bind_some, Nat.reduceLT, ne_eq, reduceCtorEq, not_false_eq_true, implies_true, Bool.not_true, Bool.false_eq_true, Option.map_some, List.set_cons_succ, List.set_cons_zero, List.getD_cons_succ, List.getD_cons_zero, Zau, ↓reduceIte, Za0, Zam, Za4, Zb7, Zac, Zax, Int.reduceNeg, Zb0, Zab, Zaa, Zah, Zat, Zbm, Option.some.injEq, Zb2, Bool.false_and, Nat.zero_add, hres]
      simp only [List.length_cons, List.length_nil, Nat.reduceAdd, Zaz, Za3, Zbr, Zcl, Zae, Zao, Zbe, Zbf, Zak, Za9, Zbq, Zc0, List.getElem?_toArray, List.getElem?_cons_succ, List.getElem?_cons_zero, Option.bind_some, Nat.reduceLT, Nat.reduceLeDiff, ne_eq, reduceCtorEq, not_false_eq_true, implies_true, Bool.false_eq_true, Option.map_some, List.set_cons_succ, List.set_cons_zero, List.getD_cons_succ, List.getD_cons_zero, Zau, Zb3, ↓reduceIte, Za0, Zam, Za5, Za4, Zaf, Zac, Zaw, Zap, Int.reduceNeg, Zb0, Zab, Zaa, Zah, Zat, Zbm, Option.some.injEq, Zas, Zbg, Zad, Zb6, Zb5, Zbs, Zb2, Za8, Zag, Bool.true_and, Nat.zero_add, Nat.succ_ne_zero, sz3, sz22, ag3, ag22, st27, hres, hl.own, hl.ownD, hll]
    · simp only [List.length_cons, List.length_nil, Nat.reduceAdd, Zaz, Za3, Zbr, Zcl, Zae, Zao, Zbe, Zbf, Zak, Za9, Zbq, Zc0, Zdl, St.put, List.getElem?_toArray, List.getElem?_cons_succ, List.getElem?_cons_zero, Option.bind_some, Nat.reduceLT, Nat.reduceLeDiff, ne_eq, reduceCtorEq, not_false_eq_true, implies_true, Bool.not_false, Bool.false_eq_true, Option.map_some, List.set_cons_succ, List.set_cons_zero, List.getD_cons_succ, List.getD_cons_zero, Zau, Zb3, ↓reduceIte, Za2, Za0, Zam, Za5, Za4, Zaf, Zb7, Zac, Zaw, Zap, Zax, Int.reduceNeg, Zb0, Zab, Zaa, Zah, Zat, Zbm, Option.some.injEq, Zas, Zbg, Zad, Zb6, Zb5, Zbs, Zb2, Za8, Zag, Bool.true_and, Bool.true_or, Nat.zero_add, Nat.succ_ne_zero, sz3, sz22, ag3, ag22, st27, hres, hl.own, hl.ownD, hll]
  simp only [Zaj, Za7, Zar, Za3, Zae, Zao, Za9, ne_eq, reduceCtorEq, not_false_eq_true, implies_true, Option.map_some, List.set_cons_succ, List.set_cons_zero, List.getD_cons_succ, List.getD_cons_zero, Zau, Za0, Za6, Za4, Zac, Zai, Zan, Zb8, Int.reduceNeg, Zay, Za1 (hcv _)]
  cases h10 : m.kind == 10
  rotate_left
  · simp only [List.length_cons, List.length_nil, Nat.reduceAdd, Zaj, Zaz, Zal, Za3, Zbr, Zcl, Zae, Zao, Zbe, Zbf, Za9, Zbq, List.getElem?_cons_succ, List.getElem?_cons_zero, Option.bind_some, Nat.reduceLeDiff, ne_eq, reduceCtorEq, not_false_eq_true, implies_true, Bool.false_eq_true, Option.map_some, List.set_cons_succ, List.set_cons_zero, List.getD_cons_succ, List.getD_cons_zero, Zau, Zb3, ↓reduceIte, Za0, Za5, Za4, Zac, Zaw, Zap, Zb0, Zab, Zaa, Zah, Zat, Zbm, Zas, Zbg, Zad, Zb6, Zb5, Zbs, Zb2, Za8, Zag, Nat.zero_add, Nat.succ_ne_zero, sz3, ag3, st27, Za1 (hcv _), hres, h10, w42, Msg.fine, h4, h5, h6, h7]
  simp only [Zaj, Za7, Zar, Za3, Zae, Zao, Za9, ne_eq, reduceCtorEq, not_false_eq_true, implies_true, Option.map_some, List.set_cons_succ, List.set_cons_zero, List.getD_cons_succ, List.getD_cons_zero, Zau, Za0, Za6, Za4, Zac, Zai, Zan, Zb8, Zay, Za1 (hcv _)]
  cases h11 : m.kind == 11
  rotate_left
  · simp only [List.length_cons, List.length_nil, Nat.reduceAdd, Zaj, Zal, Zao, Zak, Za9, List.getElem?_toArray, List.getElem?_cons_succ, List.getElem?_cons_zero, Option.bind_some, Nat.reduceLT, ne_eq, reduceCtorEq, not_false_eq_true, implies_true, Bool.false_eq_true, Option.map_some, List.set_cons_succ, List.set_cons_zero, List.getD_cons_succ, List.getD_cons_zero, Zau, Zb3, ↓reduceIte, Za2, Za6, Za5, Zac, Zai, Zan, Zb8, Zay, Option.some.injEq, Zas, Zbg, Zad, Zb6, Zb5, Zbs, Za8, Zag, Nat.zero_add, Nat.succ_ne_zero, Nat.le_refl, sz25, ag25, st27, Za1 (hcv _), h11, Msg.fine, h4, h5, h6, h7, h10]
    try simp only [Zbi, List.length_cons, List.length_nil, Nat.reduceAdd, Nat.reduceSub, List.replicate, List.cons_append, List.nil_append, List.append_eq, Zaj, Zbz, Zaz, Zfe, kx_label, Zh6, Zc3, Zhm, Zht, Za7, Zal, Zar, Za3, Zbr, Zeg, Zgc, kSeq_pan, Zc8, Zcl, Zeh, kBlk_gto, kBlk_pan, Ze8, Zfy, Zdu, kLoop_gto, kLoop_pan, Ziv, Zdq, kScope_ext, kScope_pan, Zae, Zao, Zbb, Zbe, Zbf, Zak, Za9, Zce, kR_pan, Zbq, kC_val0, kC_pan, Zc0, Zdl, kG_undef, St.put, List.getElem?_toArray, List.getElem?_cons_succ, List.getElem?_cons_zero, Option.bind_some, Nat.reduceLT, Nat.reduceLeDiff, ne_eq, reduceCtorEq, not_false_eq_true, implies_true, forall_const, Bool.not_true, Bool.not_false, not_true_eq_false, Bool.true_eq_false, Bool.false_eq_true, Option.map_some, List.set_cons_succ, List.set_cons_zero, List.getD_cons_succ, List.getD_cons_zero, Zau, Zef, Zdj, Zbo, Zbk, Zda, Zfu, own_asl, own_rptr, own_hdr, own_iface, List.any_cons, List.any_nil, Zb3, Zds, own0_hdr, Bool.or_false, Bool.false_or, Bool.not_eq_true', if_false, if_true, ite_true, ite_false, ↓reduceIte, Za2, Zep, Za0, Za6, Zdn, Zck, Zam, Zdz, Zd2, Zdv, Zby, Zbc, Zbd, Zf4, Zec, Zhe, Zg9, Za5, Zbl, exO_panic, Zc7, Za4, Zaf, Zaq, Zb7, Zac, Zai, rd_func, Zaw, Zap, Ze7, Zd9, Zan, Zax, Zj2, Zcj, Zdt, Zj4, ofV_nilptr, Zg8, Zg7, Zdf, Zgn, binD_mul, binD_quo, binD_rem, binD_and, binD_or, binD_xor, Zb8, Zel, Zc2, Zfg, Zf6, Zem, binD_shl, Zh4, binS_add, binS_eql, binS_neq, strD_eql, strD_neq, Zfh, binB_neq, Zhi, Zfj, arith_quo, Zig, Int.reduceLT, Int.reduceToNat, Int.reduceNe, Int.reduceNeg, IntKind.bits, Zcv, Zft, Zih, Zhw, arith_or, Zif, Zay, Ze0, Zbv, Zeo, Zei, Ze1, Zes, unD_neg, Zd0, Zdi, exB_min, exB_max, Zb0, Zer, kF_pan, Zab, leave_pan, Zaa, Zah, Zdy, Zat, Zd6, Zea, Zcr, Zcn, Zbm, Zcx, fit_hdr, Zcw, Zg6, List.forall_mem_cons, List.not_mem_nil, false_imp_iff, and_true, and_self, List.toList_toArray, Option.some.injEq, Prod.mk.injEq, exists_eq_left', true_and, Ze5, kd_l, Zc5, Zc4, kd_r, Zcf, Zee, Zch, Zbn, Zc6, Zba, Zdg, exL_const, Zcs, Zci, Zde, exLd_ro, Zbx, Zbw, Zdc, ownOp_func, Zhc, lo_build, Zga, Zdx, Zg1, lo_unOp, Zhj, Zg5, Zin, lo_slice, Zbu, lo_field, Zfl, lo_index, Zeb, lo_len, Zgy, Op.operands, Call.operands, Zg3, Zj5, Zfp, Ziy, Zfx, List.any_cons, List.any_nil, Ze2, mkT, List.foldl_nil, Array.toList_append, List.append_nil, List.forall_mem_nil, Zas, Zbh, Zbg, Zcz, Zeu, Ze4, hlen, Zi9, hget0, hgetn, Zad, Zdh, Zb6, adD_ro, Zb5, add_ro, Zb4, Zb1, Zc9, Zd3, Zhf, Zir, Zhv, Zb9, Zco, Zcm, Zhy, notTup_map, Zil, Zbs, Zim, Zcq, Zb2, List.take_succ_cons, List.take_zero, List.drop_succ_cons, List.drop_zero, List.map_cons, List.map_nil, Za8, Option.bind_eq_bind, Zag, Bool.or_self, Bool.and_false, Bool.and_true, Bool.true_and, Bool.false_and, Bool.or_true, Bool.true_or, Nat.add_zero, Nat.zero_add, Nat.reduceEqDiff, Nat.succ_ne_zero, Zh0, Option.pure_def, slOf_e, Zg0, Nat.le_refl, and_self, Try.underlying3, Try.underlying4, Try.underlying5, Try.underlying9, Try.underlying22, Try.underlying24, Try.underlying25, Try.underlying27, Try.underlying28, Try.underlying31, Try.underlying38, Try.underlying105, sz3, sz4, sz5, sz9, sz22, sz24, sz25, sz27, sz28, sz31, ag3, ag4, ag5, ag9, ag22, ag24, ag25, ag27, ag28, ag31, st24, st27, el22, el31, el105, Za1 (hcv _), hcv, Try.ntmps44, hres, hl.own, hl.ownD, h4, h5, h6, h7, h10, h11, Msg.fine]
    cases hp0 : m.code == 0
    rotate_left
    · simp only [List.length_cons, List.length_nil, Nat.reduceAdd, Zaz, Za3, Zbr, Zcl, Zae, Zao, Zak, Za9, Zdl, St.put, List.getElem?_toArray, List.getElem?_cons_succ, List.getElem?_cons_zero, Option.bind_some, Nat.reduceLT, ne_eq, reduceCtorEq, not_false_eq_true, implies_true, Bool.not_false, Option.map_some, List.set_cons_succ, List.set_cons_zero, List.getD_cons_succ, List.getD_cons_zero, Zau, ↓reduceIte, Za0, Zam, Za4, Zb7, Zac, Zax, Zb0, Zab, Zaa, Zah, Zat, Zbm, Option.some.injEq, Zb2, Bool.true_or, Nat.zero_add, hres]
    simp only [List.length_cons, List.length_nil, Nat.reduceAdd, Zaz, Za3, Zbr, Zcl, Zae, Zao, Zak, Za9, Zc0, List.getElem?_toArray, List.getElem?_cons_succ, List.getElem?_cons_zero, Option.bind_some, Nat.reduceLT, ne_eq, reduceCtorEq, not_false_eq_true, implies_true, Bool.false_eq_true, Option.map_some, List.set_cons_succ, List.set_cons_zero, List.getD_cons_succ, List.getD_cons_zero, Zau, Zb3, Bool.false_or, ↓reduceIte, Za0, Za6, Zam, Za5, Za4, Zaf, Zac, Zai, Zan, Zb8, Zay, Zb0, Zab, Zaa, Zah, Zat, Zbm, Option.some.injEq, Zas, Zbg, Zad, Zb6, Zb5, Zbs, Zb2, Za8, Zag, Nat.zero_add, Nat.succ_ne_zero, Nat.le_refl, sz25, ag25, st27, hres]
  simp only [Zaj, Za7, Zar, Za3, Zae, Zao, Za9, ne_eq, reduceCtorEq, not_false_eq_true, implies_true, Option.map_some, List.set_cons_succ, List.set_cons_zero, List.getD_cons_succ, List.getD_cons_zero, Zau, Za0, Za6, Za4, Zac, Zai, Zan, Zb8, Zay, Za1 (hcv _)]
  cases h12 : m.kind == 12
  rotate_left
  · simp only [List.length_cons, List.length_nil, Nat.reduceAdd, Zaj, Zal, Zao, Zak, Za9, List.getElem?_toArray, List.getElem?_cons_succ, List.getElem?_cons_zero, Option.bind_some, Nat.reduceLT, ne_eq, reduceCtorEq, not_false_eq_true, implies_true, Bool.false_eq_true, Option.map_some, List.set_cons_succ, List.set_cons_zero, List.getD_cons_succ, List.getD_cons_zero, Zau, Zb3, ↓reduceIte, Za2, Za6, Za5, Zac, Zai, Zan, Zb8, Zay, Option.some.injEq, Zas, Zbg, Zad, Zb6, Zb5, Zbs, Za8, Zag, Nat.zero_add, Nat.succ_ne_zero, Nat.le_refl, sz25, ag25, st27, Za1 (hcv _), h12, Msg.fine, h4, h5, h6, h7, h10, h11]
    cases h121 : m.code == 0
    · simp only [List.length_cons, List.length_nil, Nat.reduceAdd, Zao, Zak, Za9, Zc0, Zdl, St.put, List.getElem?_toArray, List.getElem?_cons_succ, List.getElem?_cons_zero, Option.bind_some, Nat.reduceLT, ne_eq, reduceCtorEq, not_false_eq_true, implies_true, Bool.not_true, Bool.false_eq_true, Option.map_some, List.set_cons_succ, List.set_cons_zero, List.getD_cons_succ, List.getD_cons_zero, Zau, Zb3, Bool.false_or, ↓reduceIte, Za2, Za6, Zam, Za5, Zb7, Zac, Zai, Zan, Zax, Zb8, Zay, Option.some.injEq, Zas, Zbg, Zad, Zb6, Zb5, Zbs, Za8, Zag, Bool.false_and, Nat.zero_add, Nat.succ_ne_zero, Nat.le_refl, sz25, ag25, st27]
      try simp only [Zbi, List.length_cons, List.length_nil, Nat.reduceAdd, Nat.reduceSub, List.replicate, List.cons_append, List.nil_append, List.append_eq, Zaj, Zbz, Zaz, Zfe, kx_label, Zh6, Zc3, Zhm, Zht, Za7, Zal, Zar, Za3, Zbr, Zeg, Zgc, kSeq_pan, Zc8, Zcl, Zeh, kBlk_gto, kBlk_pan, Ze8, Zfy, Zdu, kLoop_gto, kLoop_pan, Ziv, Zdq, kScope_ext, kScope_pan, Zae, Zao, Zbb, Zbe, Zbf, Zak, Za9, Zce, kR_pan, Zbq, kC_val0, kC_pan, Zc0, Zdl, kG_undef, St.put, List.getElem?_toArray, List.getElem?_cons_succ, List.getElem?_cons_zero, Option.bind_some, Nat.reduceLT, Nat.reduceLeDiff, ne_eq, reduceCtorEq, not_false_eq_true, implies_true, forall_const, Bool.not_true, Bool.not_false, not_true_eq_false, Bool.true_eq_false, Bool.false_eq_true, Option.map_some, List.set_cons_succ, List.set_cons_zero, List.getD_cons_succ, List.getD_cons_zero, Zau, Zef, Zdj, Zbo, Zbk, Zda, Zfu, own_asl, own_rptr, own_hdr, own_iface, List.any_cons, List.any_nil, Zb3, Zds, own0_hdr, Bool.or_false, Bool.false_or, Bool.not_eq_true', if_false, if_true, ite_true, ite_false, ↓reduceIte, Za2, Zep, Za0, Za6, Zdn, Zck, Zam, Zdz, Zd2, Zdv, Zby, Zbc, Zbd, Zf4, Zec, Zhe, Zg9, Za5, Zbl, exO_panic, Zc7, Za4, Zaf, Zaq, Zb7, Zac, Zai, rd_func, Zaw, Zap, Ze7, Zd9, Zan, Zax, Zj2, Zcj, Zdt, Zj4, ofV_nilptr, Zg8, Zg7, Zdf, Zgn, binD_mul, binD_quo, binD_rem, binD_and, binD_or, binD_xor, Zb8, Zel, Zc2, Zfg, Zf6, Zem, binD_shl, Zh4, binS_add, binS_eql, binS_neq, strD_eql, strD_neq, Zfh, binB_neq, Zhi, Zfj, arith_quo, Zig, Int.reduceLT, Int.reduceToNat, Int.reduceNe, Int.reduceNeg, IntKind.bits, Zcv, Zft, Zih, Zhw, arith_or, Zif, Zay, Ze0, Zbv, Zeo, Zei, Ze1, Zes, unD_neg, Zd0, Zdi, exB_min, exB_max, Zb0, Zer, kF_pan, Zab, leave_pan, Zaa, Zah, Zdy, Zat, Zd6, Zea, Zcr, Zcn, Zbm, Zcx, fit_hdr, Zcw, Zg6, List.forall_mem_cons, List.not_mem_nil, false_imp_iff, and_true, and_self, List.toList_toArray, Option.some.injEq, Prod.mk.injEq, exists_eq_left', true_and, Ze5, kd_l, Zc5, Zc4, kd_r, Zcf, Zee, Zch, Zbn, Zc6, Zba, Zdg, exL_const, Zcs, Zci, Zde, exLd_ro, Zbx, Zbw, Zdc, ownOp_func, Zhc, lo_build, Zga, Zdx, Zg1, lo_unOp, Zhj, Zg5, Zin, lo_slice, Zbu, lo_field, Zfl, lo_index, Zeb, lo_len, Zgy, Op.operands, Call.operands, Zg3, Zj5, Zfp, Ziy, Zfx, List.any_cons, List.any_nil, Ze2, mkT, List.foldl_nil, Array.toList_append, List.append_nil, List.forall_mem_nil, Zas, Zbh, Zbg, Zcz, Zeu, Ze4, hlen, Zi9, hget0, hgetn, Zad, Zdh, Zb6, adD_ro, Zb5, add_ro, Zb4, Zb1, Zc9, Zd3, Zhf, Zir, Zhv, Zb9, Zco, Zcm, Zhy, notTup_map, Zil, Zbs, Zim, Zcq, Zb2, List.take_succ_cons, List.take_zero, List.drop_succ_cons, List.drop_zero, List.map_cons, List.map_nil, Za8, Option.bind_eq_bind, Zag, Bool.or_self, Bool.and_false, Bool.and_true, Bool.true_and, Bool.false_and, Bool.or_true, Bool.true_or, Nat.add_zero, Nat.zero_add, Nat.reduceEqDiff, Nat.succ_ne_zero, Zh0, Option.pure_def, slOf_e, Zg0, Nat.le_refl, and_self, Try.underlying3, Try.underlying4, Try.underlying5, Try.underlying9, Try.underlying22, Try.underlying24, Try.underlying25, Try.underlying27, Try.underlying28, Try.underlying31, Try.underlying38, Try.underlying105, sz3, sz4, sz5, sz9, sz22, sz24, sz25, sz27, sz28, sz31, ag3, ag4, ag5, ag9, ag22, ag24, ag25, ag27, ag28, ag31, st24, st27, el22, el31, el105, Za1 (hcv _), hcv, Try.ntmps44, hres, hl.own, hl.ownD, h4, h5, h6, h7, h10, h11, h12, Msg.fine, Zhg, eq24, List.zip_nil_left, List.zip_nil_right]
      cases hp0 : m.code == 201
      · simp only [List.length_cons, List.length_nil, Nat.reduceAdd, Zaz, Za3, Zbr, Zcl, Zae, Zao, Zak, Za9, Zc0, Zdl, St.put, List.getElem?_toArray, List.getElem?_cons_succ, List.getElem?_cons_zero, Option.bind_some, Nat.reduceLT, ne_eq, reduceCtorEq, not_false_eq_true, implies_true, Bool.not_true, Bool.false_eq_true, Option.map_some, List.set_cons_succ, List.set_cons_zero, List.getD_cons_succ, List.getD_cons_zero, Zau, ↓reduceIte, Za0, Zam, Za4, Zaf, Zb7, Zac, Zax, Zb0, Zab, Zaa, Zah, Zat, Zbm, Option.some.injEq, Zb2, Bool.false_and, Nat.zero_add, hres]
      simp only [List.length_cons, List.length_nil, Nat.reduceAdd, Zaz, Za3, Zbr, Zcl, Zae, Zao, Zak, Za9, Zc0, List.getElem?_toArray, List.getElem?_cons_succ, List.getElem?_cons_zero, Option.bind_some, Nat.reduceLT, Nat.reduceLeDiff, ne_eq, reduceCtorEq, not_false_eq_true, implies_true, Bool.false_eq_true, Option.map_some, List.set_cons_succ, List.set_cons_zero, List.getD_cons_succ, List.getD_cons_zero, Zau, List.any_cons, List.any_nil, Zb3, ↓reduceIte, Za0, Za6, Zam, Zdv, Za5, Za4, Zaf, Zac, Zaw, Zb0, Zab, Zaa, Zah, Zat, Zbm, Option.some.injEq, Zas, Zbg, Zad, Zb6, Zb5, Zbs, Zb2, List.take_succ_cons, List.take_zero, List.drop_succ_cons, List.drop_zero, List.map_nil, Za8, Zag, Bool.or_self, Bool.true_and, Nat.zero_add, Nat.succ_ne_zero, sz24, ag24, st27, hres, Zhg, eq24, List.zip_nil_right]
    · simp only [List.length_cons, List.length_nil, Nat.reduceAdd, Zao, Zbe, Zbf, Zak, Za9, Zbq, Zc0, List.getElem?_toArray, List.getElem?_cons_succ, List.getElem?_cons_zero, Option.bind_some, Nat.reduceLT, Nat.reduceLeDiff, ne_eq, reduceCtorEq, not_false_eq_true, implies_true, Bool.false_eq_true, Option.map_some, List.set_cons_succ, List.set_cons_zero, List.getD_cons_succ, List.getD_cons_zero, Zau, Zbo, List.any_cons, List.any_nil, Zb3, ↓reduceIte, Za2, Zam, Za5, Za4, Zaf, Zac, Zaw, Zap, Option.some.injEq, Zas, Zbg, Zad, Zb6, Zb5, Zbs, List.take_succ_cons, List.take_zero, List.drop_succ_cons, List.drop_zero, Za8, Zag, Bool.or_self, Bool.true_and, Nat.zero_add, Nat.succ_ne_zero, sz24, ag24, st27, hp]
      cases h122 : Zik m.ikey m.ival m.iver
      · simp only [List.length_cons, List.length_nil, Nat.reduceAdd, Zao, Zak, Za9, Zc0, List.getElem?_toArray, List.getElem?_cons_succ, List.getElem?_cons_zero, Option.bind_some, Nat.reduceLT, ne_eq, reduceCtorEq, not_false_eq_true, implies_true, Bool.false_eq_true, Option.map_some, List.set_cons_succ, List.set_cons_zero, List.getD_cons_succ, List.getD_cons_zero, Zau, Zb3, Bool.false_or, ↓reduceIte, Za2, Za6, Za5, Zac, Zai, Zan, Zb8, Zay, Option.some.injEq, Zas, Zbg, Zad, Zb6, Zb5, Zbs, Za8, Zag, Nat.zero_add, Nat.succ_ne_zero, Nat.le_refl, sz25, ag25, st27]
        have hc : (m.code == 201) = false := by simp at h121 ⊢; omega
        simp only [List.length_cons, List.length_nil, Nat.reduceAdd, Zaz, Za3, Zbr, Zcl, Zae, Zao, Zak, Za9, Zc0, Zdl, St.put, List.getElem?_toArray, List.getElem?_cons_succ, List.getElem?_cons_zero, Option.bind_some, Nat.reduceLT, ne_eq, reduceCtorEq, not_false_eq_true, implies_true, Bool.not_true, Bool.false_eq_true, Option.map_some, List.set_cons_succ, List.set_cons_zero, List.getD_cons_succ, List.getD_cons_zero, Zau, ↓reduceIte, Za0, Zam, Za4, Zaf, Zb7, Zac, Zax, Zb0, Zab, Zaa, Zah, Zat, Zbm, Option.some.injEq, Zb2, Bool.false_and, Nat.zero_add, hres, hc]
      · simp only [List.length_cons, List.length_nil, Nat.reduceAdd, Zaz, Za3, Zbr, Zcl, Zae, Zao, Zak, Za9, Zdl, kG_undef, St.put, List.getElem?_toArray, List.getElem?_cons_succ, List.getElem?_cons_zero, Option.bind_some, Nat.reduceLT, ne_eq, reduceCtorEq, not_false_eq_true, implies_true, Bool.not_false, Option.map_some, List.set_cons_succ, List.set_cons_zero, List.getD_cons_succ, List.getD_cons_zero, Zau, ↓reduceIte, Za0, Zam, Za4, Zb7, Zac, Zax, Zb0, Zab, Zaa, Zah, Zat, Zbm, Option.some.injEq, Zb2, Bool.true_or, Nat.zero_add, hres]
  simp only [Zaj, Zbz, Zaz, Zar, Za3, Zc8, Zae, Zao, Za9, ne_eq, reduceCtorEq, not_false_eq_true, implies_true, Bool.false_eq_true, Option.map_some, List.set_cons_succ, List.set_cons_zero, List.getD_cons_succ, List.getD_cons_zero, Zau, ↓reduceIte, Za0, Za4, Zaq, Zax, Zb0, Zab, Zaa, Zah, Zat, Zbm, Zb2, Za1 (hcv _), hres, h12, Msg.fine, h4, h5, h6, h7, h10, h11]

/-- A message behind msg.off. -/
def Msg.off (m : Msg) : Msg :=
  if m.kind == 4 then { m with key := 0, slow := false } else
  if m.kind == 5 then m.noItem else
  if m.kind == 6 then { m with ikey := { data := #[] } } else
  if m.kind == 7 then { m with pred := 0, list := [] } else
  if m.kind == 10 then { m with place := 0, done := false } else
  if m.kind == 11 then { m with code := 0 } else
  if m.kind == 12 then { m.noItem with code := 0 } else m
theorem offL_rd {m : Msg} {l : D} (hl : Rd l (isE m.list)) : Rd (bareL m l) (isE m.off.list) := by
  unfold bareL Msg.off
  split
  · exact hl
  · split
    · exact hl
    · split
      · exact hl
      · split
        · exact Rd.osl
        · split
          · exact hl
          · split
            · exact hl
            · split
              · exact hl
              · exact hl

theorem w45 (m : Msg) (l : D) (hl : Rd l (isE m.list)) (h ex : List O) : wc 45 [.ptr h.length 0] (h ++ .cells (m.cs l) :: ex) = some (.val Zav, h ++ .cells (m.off.cs (bareL m l)) :: ex) := by
  have hcv : ∀ i, wcv 45 i = [] := fun _ => rfl
  have hres : Try.f45.results.toList = [] := rfl
  rw [wc, Zbt rfl Try.func45 rfl]
  try simp only [Zbi, List.length_cons, List.length_nil, Nat.reduceAdd, Nat.reduceSub, List.replicate, List.cons_append, List.nil_append, Zaj, Zc3, Za7, Za3, Zae, Zao, Za9, List.getElem?_cons_zero, Option.bind_some, Nat.reduceLeDiff, ne_eq, reduceCtorEq, not_false_eq_true, implies_true, Bool.false_eq_true, Option.map_some, List.set_cons_succ, List.set_cons_zero, List.getD_cons_succ, List.getD_cons_zero, Zau, Zbk, Zb3, ↓reduceIte, Za2, Za0, Za6, Zbd, Za5, Za4, Zac, Zai, Zan, Zb8, Zay, Zas, Zbg, Zad, Zb6, Zb5, Zbs, Za8, Zag, Nat.add_zero, Nat.zero_add, Nat.succ_ne_zero, sz5, ag5, st27, Za1 (hcv _), Try.ntmps45, Msg.cs, Msg.off, bareL, Msg.noItem]
  cases hp0 : m.kind == 4
  rotate_left
  · simp only [List.length_cons, List.length_nil, Nat.reduceAdd, List.cons_append, List.nil_append, Zal, Zc8, Zae, Zao, Za9, Zce, List.getElem?_cons_succ, List.getElem?_cons_zero, Option.bind_some, Nat.reduceLeDiff, ne_eq, reduceCtorEq, not_false_eq_true, implies_true, Option.map_some, List.set_cons_succ, List.set_cons_zero, List.getD_cons_succ, List.getD_cons_zero, Zbk, ↓reduceIte, Za2, Zbc, Zbd, Za5, Zaq, Zac, Zan, Zax, Zer, Zab, Zaa, Zcr, and_self, Zas, Zbg, Zeu, hlen, Zad, Zb6, Zb5, Zb4, Zc9, Zco, Zcq, List.take_succ_cons, List.take_zero, List.drop_succ_cons, List.drop_zero, Za8, Nat.zero_add, Nat.succ_ne_zero, sz3, sz4, st27, Za1 (hcv _), hres, Zf0]
  simp only [Zaj, Za7, Zar, Za3, Zae, Zao, Za9, ne_eq, reduceCtorEq, not_false_eq_true, implies_true, Bool.false_eq_true, Option.map_some, List.set_cons_succ, List.set_cons_zero, List.getD_cons_succ, List.getD_cons_zero, Zau, ↓reduceIte, Za0, Za6, Za4, Zac, Zai, Zan, Zb8, Zay, Za1 (hcv _)]
  cases hp1 : m.kind == 5
  rotate_left
  · simp only [List.length_cons, List.length_nil, Nat.reduceAdd, List.cons_append, List.nil_append, Zal, Zc8, Zae, Zao, Za9, Zce, List.getElem?_cons_succ, List.getElem?_cons_zero, Option.bind_some, Nat.reduceLeDiff, ne_eq, reduceCtorEq, not_false_eq_true, implies_true, Option.map_some, List.set_cons_succ, List.set_cons_zero, List.getD_cons_succ, List.getD_cons_zero, Zbo, Zbk, List.any_cons, List.any_nil, Zb3, ↓reduceIte, Za2, Zdv, Zbc, Zbd, Za5, Za4, Zac, Zaw, Zer, Zab, Zaa, Zcr, and_self, Zas, Zbg, Zeu, hlen, Zad, Zb6, Zb5, Zb4, Zb1, Zb9, Zcq, List.take_succ_cons, List.take_zero, List.drop_succ_cons, List.drop_zero, List.map_nil, Za8, Bool.or_self, Nat.zero_add, Nat.succ_ne_zero, sz24, st27, Za1 (hcv _), hres, Zhg, List.zip_nil_right, Zf0]
  simp only [Zaj, Za7, Zar, Za3, Zae, Zao, Za9, ne_eq, reduceCtorEq, not_false_eq_true, implies_true, Bool.false_eq_true, Option.map_some, List.set_cons_succ, List.set_cons_zero, List.getD_cons_succ, List.getD_cons_zero, Zau, ↓reduceIte, Za0, Za6, Za4, Zac, Zai, Zan, Zb8, Zay, Za1 (hcv _)]
  cases hp2 : m.kind == 6
  rotate_left
  · simp only [List.length_cons, List.length_nil, Nat.reduceAdd, List.cons_append, List.nil_append, Zal, Zc8, Zae, Zao, Za9, Zce, List.getElem?_cons_succ, List.getElem?_cons_zero, Option.bind_some, Nat.reduceLeDiff, ne_eq, reduceCtorEq, not_false_eq_true, implies_true, Option.map_some, List.set_cons_succ, List.set_cons_zero, List.getD_cons_succ, List.getD_cons_zero, Zbk, ↓reduceIte, Za2, Zbc, Zbd, Za5, Zaq, Zac, Zj2, Zer, Zab, Zaa, Zcr, and_self, Zas, Zbg, Zeu, hlen, Zad, Zb6, Zb5, Zb4, Zc9, Zco, Zcq, List.take_succ_cons, List.take_zero, List.drop_succ_cons, List.drop_zero, Za8, Nat.add_zero, Nat.zero_add, Nat.succ_ne_zero, sz9, sz24, st24, st27, Za1 (hcv _), hres, Zf0]
  simp only [Zaj, Za7, Zar, Za3, Zae, Zao, Za9, ne_eq, reduceCtorEq, not_false_eq_true, implies_true, Bool.false_eq_true, Option.map_some, List.set_cons_succ, List.set_cons_zero, List.getD_cons_succ, List.getD_cons_zero, Zau, ↓reduceIte, Za0, Za6, Za4, Zac, Zai, Zan, Zb8, Zay, Za1 (hcv _)]
  cases hp3 : m.kind == 7
  rotate_left
  · simp only [List.length_cons, List.length_nil, Nat.reduceAdd, List.cons_append, List.nil_append, Zal, Zc8, Zae, Zao, Za9, Zce, List.getElem?_cons_succ, List.getElem?_cons_zero, Option.bind_some, Nat.reduceLeDiff, ne_eq, reduceCtorEq, not_false_eq_true, implies_true, Option.map_some, List.set_cons_succ, List.set_cons_zero, List.getD_cons_succ, List.getD_cons_zero, Zbk, ↓reduceIte, Za2, Zbc, Zbd, Za5, Zaq, Zac, Zan, Zcj, Zer, Zab, Zaa, Zcr, and_self, Zas, Zbg, Zeu, hlen, Zad, Zb6, Zb5, Zb4, Zc9, Zd3, Zco, Zcm, Zcq, List.take_succ_cons, List.take_zero, List.drop_succ_cons, List.drop_zero, Za8, Nat.zero_add, Nat.succ_ne_zero, sz3, sz22, st27, Za1 (hcv _), hres, Zf0]
  simp only [Zaj, Za7, Zar, Za3, Zae, Zao, Za9, ne_eq, reduceCtorEq, not_false_eq_true, implies_true, Bool.false_eq_true, Option.map_some, List.set_cons_succ, List.set_cons_zero, List.getD_cons_succ, List.getD_cons_zero, Zau, ↓reduceIte, Za0, Za6, Za4, Zac, Zai, Zan, Zb8, Zay, Za1 (hcv _)]
  cases hp4 : m.kind == 10
  rotate_left
  · simp only [List.length_cons, List.length_nil, Nat.reduceAdd, List.cons_append, List.nil_append, Zal, Zc8, Zae, Zao, Za9, Zce, List.getElem?_cons_succ, List.getElem?_cons_zero, Option.bind_some, Nat.reduceLeDiff, ne_eq, reduceCtorEq, not_false_eq_true, implies_true, Option.map_some, List.set_cons_succ, List.set_cons_zero, List.getD_cons_succ, List.getD_cons_zero, Zbk, ↓reduceIte, Za2, Zbc, Zbd, Za5, Zaq, Zac, Zan, Zax, Zer, Zab, Zaa, Zcr, and_self, Zas, Zbg, Zeu, hlen, Zad, Zb6, Zb5, Zb4, Zc9, Zco, Zcq, List.take_succ_cons, List.take_zero, List.drop_succ_cons, List.drop_zero, Za8, Nat.zero_add, Nat.succ_ne_zero, sz3, sz4, st27, Za1 (hcv _), hres, Zf0]
  simp only [Zaj, Za7, Zar, Za3, Zae, Zao, Za9, ne_eq, reduceCtorEq, not_false_eq_true, implies_true, Bool.false_eq_true, Option.map_some, List.set_cons_succ, List.set_cons_zero, List.getD_cons_succ, List.getD_cons_zero, Zau, ↓reduceIte, Za0, Za6, Za4, Zac, Zai, Zan, Zb8, Zay, Za1 (hcv _)]
  cases hp5 : m.kind == 11
  rotate_left
  · simp only [List.length_cons, List.length_nil, Nat.reduceAdd, List.cons_append, List.nil_append, Zal, Zc8, Zae, Zao, Za9, Zce, List.getElem?_cons_succ, List.getElem?_cons_zero, Option.bind_some, ne_eq, reduceCtorEq, not_false_eq_true, implies_true, Option.map_some, List.set_cons_succ, List.set_cons_zero, List.getD_cons_succ, List.getD_cons_zero, Zbk, ↓reduceIte, Za2, Zbc, Zbd, Za5, Zaq, Zac, Zan, Zer, Zab, Zaa, Zcr, and_self, List.append_nil, Zas, Zbg, Zeu, hlen, Zad, Zb6, Zb5, Zb4, Zc9, Zco, Zcq, List.take_succ_cons, List.take_zero, List.drop_succ_cons, List.drop_zero, Za8, Nat.zero_add, Nat.succ_ne_zero, Nat.le_refl, sz25, st27, Za1 (hcv _), hres, Zf0]
  simp only [Zaj, Za7, Zar, Za3, Zae, Zao, Za9, ne_eq, reduceCtorEq, not_false_eq_true, implies_true, Bool.false_eq_true, Option.map_some, List.set_cons_succ, List.set_cons_zero, List.getD_cons_succ, List.getD_cons_zero, Zau, ↓reduceIte, Za0, Za6, Za4, Zac, Zai, Zan, Zb8, Zay, Za1 (hcv _)]
  cases hp6 : m.kind == 12
  rotate_left
  · simp only [List.length_cons, List.length_nil, Nat.reduceAdd, List.cons_append, List.nil_append, Zal, Zc8, Zae, Zao, Za9, Zce, List.getElem?_cons_succ, List.getElem?_cons_zero, Option.bind_some, Nat.reduceLeDiff, ne_eq, reduceCtorEq, not_false_eq_true, implies_true, Option.map_some, List.set_cons_succ, List.set_cons_zero, List.getD_cons_succ, List.getD_cons_zero, Zbo, Zbk, List.any_cons, List.any_nil, Zb3, ↓reduceIte, Za2, Zdv, Zbc, Zbd, Za5, Za4, Zaq, Zac, Zaw, Zan, Zer, Zab, Zaa, Zcr, and_self, List.append_nil, Zas, Zbg, Zeu, hlen, Zad, Zb6, Zb5, Zb4, Zb1, Zc9, Zb9, Zco, Zcq, List.take_succ_cons, List.take_zero, List.drop_succ_cons, List.drop_zero, List.map_nil, Za8, Bool.or_self, Nat.zero_add, Nat.succ_ne_zero, Nat.le_refl, sz24, sz25, st27, Za1 (hcv _), hres, Zhg, List.zip_nil_right, Zf0]
  simp only [List.length_cons, Zbz, Zar, Zc8, Bool.false_eq_true, ↓reduceIte, Zer, Zab, Zaa, Zcr, hlen, hres, Zf0]

end Go.Abs

namespace Go.Abs

section
variable {P : Program} {pr : FuncId → List D → Option D} {cv : FuncId → Nat → List Cv} {β : Type} {k : X × St → Option β} {fn : FuncId} {s : St} {c a b : Code} {l : Nat}
noncomputable def kGo (P : Program) (pr : FuncId → List D → Option D) (cv : FuncId → Nat → List Cv) (fn : FuncId) (c : Code) (s : St) (l : Nat) (k : X × St → Option β) (o : Option Code) : Option β :=
  match o with
  | some rest => kIn P pr cv fn c rest s k
  | none => k (.gto l, s)
theorem Zh7 : kScope P pr cv fn c k (.gto l, s) = kGo P pr cv fn c s l k (findLabel c l) := by
  cases h : findLabel c l with
  | none => simp [kScope, kGo, h]
  | some r => rw [kScope_gto h]; rfl
theorem Zi0 : kGo P pr cv fn c s l k (some a) = kIn P pr cv fn c a s k := rfl
def flS (b : Code) (l : Nat) (o : Option Code) : Option Code := match o with | some r => some (.seq r b) | none => findLabel b l
theorem fl_seq : findLabel (.seq a b) l = flS b l (findLabel a l) := by simp only [findLabel]; rfl
theorem Zi4 : flS b l (some a) = some (.seq a b) := rfl
theorem Zi5 : flS b l none = findLabel b l := rfl
theorem Zi3 {l' : Nat} : findLabel (.label l') l = if l' == l then some .skip else none := by simp only [findLabel]
theorem fl_ret : findLabel .ret l = none := by simp only [findLabel]
theorem Zh9 {i : Nat} {ops : Array Oper} {d : Bool} : findLabel (.region i ops d) l = none := by simp only [findLabel]
theorem fl_cond {x : Operand} : findLabel (.cond x a b) l = none := by simp only [findLabel]
theorem fl_block {i : Nat} : findLabel (.block i a) l = none := by simp only [findLabel]
end

/-! ### slices that are one's own -/
section
variable {tl : List D} {df : List (FuncId × List D)} {r : Rc} {h : List O} {t : Tmp} {d : D} {fu ex : Bool} {sz : Nat} {es : List (List E)}
def tkV (tl : List D) (df : List (FuncId × List D)) (r : Rc) (h : List O) (t : Tmp) (d : D) : Option (D × St) := if ownD d then some (d, ⟨tl.set t (leftT d), df, r, h⟩) else some (d, ⟨tl, df, r, h⟩)
theorem Zdb : tk ⟨tl, df, r, h⟩ (.tmp t) = tkV tl df r h t (tl.getD t Zav) := rfl
theorem Zcg (ho : ownD d = true) : tkV tl df r h t d = some (d, ⟨tl.set t (leftT d), df, r, h⟩) := by simp [tkV, ho]
def shV (tl : List D) (df : List (FuncId × List D)) (r : Rc) (h : List O) (t : Tmp) (d : D) : Option (D × St) := if ownD d then (match d with | .tup _ => none | _ => some (shr d, ⟨tl.set t (kep d), df, r, h⟩)) else some (d, ⟨tl, df, r, h⟩)
theorem Zgo : sh ⟨tl, df, r, h⟩ (.tmp t) = shV tl df r h t (tl.getD t Zav) := rfl
theorem Zf7 (ho : ownD (.osl ex fu sz es) = true) : shV tl df r h t (.osl ex fu sz es) = some (shr (.osl ex fu sz es), ⟨tl.set t (kep (.osl ex fu sz es)), df, r, h⟩) := by simp [shV, ho]
theorem Zev : ownD (.osl true fu sz es) = true := of_decide_eq_true rfl
theorem Zd1 : ownD (.osl ex false sz es) = true := by cases ex <;> exact of_decide_eq_true rfl
theorem Zfn : own0 (.osl ex false sz es) = true := by cases ex <;> exact of_decide_eq_true rfl
theorem Zc1 : leftT (.osl true fu sz es) = .hdr es.length := rfl
theorem leftT_nf : leftT (.osl false false sz es) = .e (.sl es) := rfl
theorem Zi8 : left (.osl true fu sz es) = .hdr es.length := rfl
theorem left_nf : left (.osl false false sz es) = .e (.sl es) := rfl
theorem Zh1 : Zgq (.osl true fu sz es) = .hdr es.length := rfl
theorem left0_nf : Zgq (.osl false false sz es) = .e (.sl es) := rfl
theorem shr_fu : shr (.osl ex true sz es) = .osl false true sz es := rfl
theorem shr_nf : shr (.osl ex false sz es) = .e (.sl es) := rfl
theorem Zf2 : kep (.osl ex fu sz es) = .osl false fu sz es := rfl
theorem kep0_osl : kep0 (.osl ex fu sz es) = .osl false fu sz es := rfl
theorem Zdd {vs : List D} : ownD (.tup vs) = vs.any ownA := rfl
theorem Zgp {x : E} : ownA (.e x) = false := of_decide_eq_true rfl
theorem Zj1 : ownA (.osl false true sz es) = false := of_decide_eq_true rfl
theorem Zhr : ownA (.osl ex false sz es) = true := by cases ex <;> exact of_decide_eq_true rfl
theorem ownA_agg {cs : List D} : ownA (.agg cs) = cs.any own0 := rfl
theorem Zfr {vs : List D} : leftT (.tup vs) = .tup (vs.map left) := rfl
theorem left_e {x : E} : left (.e x) = .e x := rfl
theorem left_osl0 : left (.osl false true sz es) = .osl false true sz es := rfl
theorem left_agg {cs : List D} : left (.agg cs) = .agg (cs.map Zgq) := rfl
theorem left0_e {x : E} : Zgq (.e x) = .e x := rfl
end

/-! ### calls of values -/
section
variable {P : Program} {pr : FuncId → List D → Option D} {cv : FuncId → Nat → List Cv} {β : Type} {k : X × St → Option β} {tl : List D} {df : List (FuncId × List D)} {r : Rc} {h : List O} {all : Array Oper} {l : List Oper}
noncomputable def kY (P : Program) (pr : FuncId → List D → Option D) (cv : FuncId → Nat → List Cv) (all : Array Oper) (l : List Oper) (dst : Option Tmp) (k : X × St → Option β) (f : D) (v : Option (List D × St)) : Option β :=
  match f, v with
  | .func (.yield lp) [] [], some (ds, s1) => kC P pr cv all l dst s1 k (call P pr cv (.round lp) ds s1.h)
  | .func (.func g) first cap, some (ds, s1) => if noOwn first && noOwn cap then kC P pr cv all l dst s1 k (call P pr cv (.fn g) (first ++ ds ++ cap) s1.h) else none
  | _, _ => none
theorem kY_yield {dst : Option Tmp} {lp : Nat} {ds : List D} : kY P pr cv all l dst k (.func (.yield lp) [] []) (some (ds, ⟨tl, df, r, h⟩)) = kC P pr cv all l dst ⟨tl, df, r, h⟩ k (call P pr cv (.round lp) ds h) := rfl
theorem Zio {dst : Option Tmp} {g : FuncId} {first cap ds : List D} : kY P pr cv all l dst k (.func (.func g) first cap) (some (ds, ⟨tl, df, r, h⟩)) = if noOwn first && noOwn cap then kC P pr cv all l dst ⟨tl, df, r, h⟩ k (call P pr cv (.fn g) (first ++ ds ++ cap) h) else none := rfl
theorem Zgi : noOwn [] = true := rfl
theorem Zfv {d : D} {ds : List D} : noOwn (d :: ds) = (!ownD d && noOwn ds) := by simp [noOwn]
theorem ko_val {dst : Option Tmp} {t : Tmp} {args : Array Operand} {ats : Array TypeId} {ty : TypeId} {pos : String} {af : Array Edge} :
    ko P pr cv all (⟨dst, .call { callee := .value (.tmp t), args := args, argTypes := ats }, ty, pos, af, none⟩ :: l) ⟨tl, df, r, h⟩ k = kY P pr cv all l dst k (tl.getD t Zav) (tks ⟨tl, df, r, h⟩ args.toList) := by
  have hbad : Zfb ⟨dst, .call { callee := .value (.tmp t), args := args, argTypes := ats }, ty, pos, af, none⟩ ⟨tl, df, r, h⟩ = .bad → ko P pr cv all (⟨dst, .call { callee := .value (.tmp t), args := args, argTypes := ats }, ty, pos, af, none⟩ :: l) ⟨tl, df, r, h⟩ k = none := by
    intro hb
    unfold ko
    rw [exOps_cons rfl, hb]
    rfl
  cases ht : tks ⟨tl, df, r, h⟩ args.toList with
  | none =>
    rw [hbad (by
      simp only [Zfb, rd, ht]
      generalize tl.getD t Zav = v
      split <;> simp_all)]
    unfold kY
    split <;> simp_all
  | some q =>
    obtain ⟨ds, s1⟩ := q
    generalize hv : tl.getD t Zav = v
    cases v with
    | func fn first cap =>
      cases fn with
      | func g =>
        by_cases hno : (noOwn first && noOwn cap) = true
        · rw [ko_go (g := .fn g) (args := first ++ ds ++ cap) (s1 := s1) rfl (by simp only [Zfb, rd, hv, ht, hno, if_true])]
          simp only [kY, hno, if_true]
        · rw [hbad (by simp only [Zfb, rd, hv, ht, if_neg hno])]
          simp only [kY, if_neg hno]
      | yield lp =>
        cases first with
        | nil => cases cap with
          | nil =>
            rw [ko_go (g := .round lp) (args := ds) (s1 := s1) rfl (by simp only [Zfb, rd, hv, ht])]
            rfl
          | cons c cs =>
            rw [hbad (by simp only [Zfb, rd, hv, ht])]
            rfl
        | cons c cs =>
          rw [hbad (by simp only [Zfb, rd, hv, ht])]
          rfl
      | _ =>
        rw [hbad (by simp only [Zfb, rd, hv, ht])]
        rfl
    | _ =>
      rw [hbad (by simp only [Zfb, rd, hv, ht])]
      rfl
end

theorem cv1_kp {tl : List D} {df : List (FuncId × List D)} {r : Rc} {h : List O} {t : Tmp} : cv1 ⟨tl, df, r, h⟩ (.kp t) = if ownD (tl.getD t Zav) && notTup (tl.getD t Zav) then ⟨tl.set t (kep (tl.getD t Zav)), df, r, h⟩ else ⟨tl, df, r, h⟩ := rfl
theorem Zcp {P : Program} {l : List Oper} {dst : Option Tmp} {ty : TypeId} {pos : String} {af : Array Edge} {g : Option (Nat × Bool)} {x : Operand} {s : St} : exOp P l ⟨dst, .move x, ty, pos, af, g⟩ s = (if taken l dst then tk s x else sh s x).map fun r => (.val r.1, r.2) := rfl
theorem bab (a b : ByteArray) : (a == b) = decide (a = b) := by
  show (a.data == b.data) = _
  by_cases h : a = b
  · subst h; simp
  · have : a.data ≠ b.data := fun e => h (by cases a; cases b; simp_all)
    simp [h, this]

end Go.Abs

namespace Go.Abs
open Go Go.Proofs
set_option maxRecDepth 10000
set_option maxHeartbeats 4000000

def Msg.asker' (m : Msg) : Int := if asks' m.kind = true then m.frm else m.to
/-- What msg.Right tells. -/
noncomputable def Msg.right (m : Msg) : Bool :=
  !decide (m.kind < 1) && (!decide (13 ≤ m.kind) && (Zej m.frm && (Zej m.to && (!(m.frm == m.to) && (!decide (m.call < 1) && ((IntKind.i64.wrap (Int.tdiv (IntKind.i64.wrap (m.call - 1)) 1048576) == m.asker') &&
    (m.fine && (decide (m.off.list = m.head.list) && sameCs m.off m.head))))))))

theorem w25 (m : Msg) (l : D) (hl : Rd l (isE m.list)) (hx : m.list.length ≤ 1099511627776) (h : List O) : wc 25 [.agg (m.cs l)] h = some (.val (.bool m.right), h) := by
  have h43 := w43 m l hl
  have h44 := w44 m l hl hx
  have h45 := w45 m l hl
  have hbl := offL_rd (m := m) hl
  have hbx : m.off.list.length ≤ 1099511627776 := by
    unfold Msg.off; repeat' split
    all_goals first | exact hx | simp []; exact hx | simp
  have h46 := w46 m.off m.head (bareL m l) (.osl false true 0 []) hbl Rd.osl hbx
  generalize hr' : (decide (m.off.list = m.head.list) && sameCs m.off m.head) = same at h46
  simp only [Msg.cs] at h43 h44 h45 h46
  simp only [Msg.head] at h46
  have hask : (if asks' m.kind = true then m.frm else m.to) = m.asker' := rfl
  rw [hask] at h43
  have hcv : ∀ i, wcv 25 i = [] := fun _ => rfl
  have hres : Try.f25.results.toList = [ResultVar.tmp 2] := rfl
  rw [wc, Zbt rfl Try.func25 rfl]
  simp only [Zbi, List.length_cons, List.length_nil, Nat.reduceAdd, Nat.reduceSub, List.replicate, List.cons_append, List.nil_append, Zaj, Zhm, Zht, Za3, Zae, Zao, Zak, Za9, Zce, List.getElem?_toArray, List.getElem?_cons_succ, List.getElem?_cons_zero, Option.bind_some, Nat.reduceLT, Nat.reduceLeDiff, ne_eq, reduceCtorEq, not_false_eq_true, implies_true, Bool.false_eq_true, Option.map_some, List.set_cons_succ, List.set_cons_zero, List.getD_cons_succ, List.getD_cons_zero, Zau, Zbo, List.any_cons, List.any_nil, Zb3, Zds, ↓reduceIte, Za2, Za0, Za6, Zdz, Zd2, Zdv, Zbc, Za5, Za4, Zaq, Zac, Zai, Zaw, Zap, Zan, Zax, Zc2, Zbv, and_self, Option.some.injEq, List.append_nil, Zas, Zbh, Zbg, Zcz, Ze4, hlen, Zi9, Zad, Zb6, Zb5, Zb4, Zb1, Zb9, Zbs, Zcq, List.take_zero, List.drop_succ_cons, List.drop_zero, List.map_cons, List.map_nil, Za8, Zag, Bool.or_self, Nat.add_zero, Nat.zero_add, Nat.succ_ne_zero, Nat.le_refl, sz3, sz5, sz27, ag3, ag5, st27, Za1 (hcv _), Try.ntmps25, Msg.cs, hl.own, zo27, build27, List.zip_cons_cons, List.zip_nil_right]
  cases h1 : decide (m.kind < 1)
  rotate_left
  · simp only [List.length_cons, List.length_nil, Nat.reduceAdd, Zaj, Zbz, Zaz, Zh6, Zht, Za7, Zal, Za3, Zgc, Zdq, Zae, Zao, Zak, Za9, Zdl, St.put, List.getElem?_toArray, List.getElem?_cons_succ, List.getElem?_cons_zero, Option.bind_some, Nat.reduceLT, ne_eq, reduceCtorEq, not_false_eq_true, implies_true, Bool.not_true, Bool.not_false, Option.map_some, List.set_cons_succ, List.set_cons_zero, List.getD_cons_succ, List.getD_cons_zero, Zau, ↓reduceIte, Za2, Za0, Zam, Za4, Zaq, Zb7, Zac, Zax, Zb0, Zab, Zaa, Zah, Zat, Zbm, Option.some.injEq, Zb2, Bool.false_and, Nat.zero_add, Za1 (hcv _), hres, h1, Msg.right, Zh7, Zi0, fl_seq, Zi4, Zi5, Zi3, fl_ret, Zh9, fl_cond, beq_self_eq_true]
  simp only [List.length_cons, List.length_nil, Nat.reduceAdd, Zao, Zak, Za9, Zc0, List.getElem?_toArray, List.getElem?_cons_succ, List.getElem?_cons_zero, Option.bind_some, Nat.reduceLT, Nat.reduceLeDiff, ne_eq, reduceCtorEq, not_false_eq_true, implies_true, Bool.false_eq_true, Option.map_some, List.set_cons_succ, List.set_cons_zero, List.getD_cons_succ, List.getD_cons_zero, Zau, Zb3, ↓reduceIte, Za2, Za6, Zam, Za5, Zaf, Zac, Zai, Zan, Zem, Ze1, Option.some.injEq, Zas, Zbg, Zad, Zb6, Zb5, Zbs, Za8, Zag, Nat.add_zero, Nat.zero_add, Nat.succ_ne_zero, sz5, ag5, st27]
  cases h2 : decide (13 ≤ m.kind)
  rotate_left
  · simp only [List.length_cons, List.length_nil, Nat.reduceAdd, Zaj, Zbz, Zaz, Zh6, Zht, Za7, Zal, Za3, Zgc, Zdq, Zae, Zao, Zak, Za9, Zdl, St.put, List.getElem?_toArray, List.getElem?_cons_succ, List.getElem?_cons_zero, Option.bind_some, Nat.reduceLT, ne_eq, reduceCtorEq, not_false_eq_true, implies_true, Bool.not_true, Bool.not_false, Option.map_some, List.set_cons_succ, List.set_cons_zero, List.getD_cons_succ, List.getD_cons_zero, Zau, ↓reduceIte, Za2, Za0, Zam, Za4, Zaq, Zb7, Zac, Zax, Zb0, Zab, Zaa, Zah, Zat, Zbm, Option.some.injEq, Zb2, Bool.and_false, Bool.false_and, Nat.zero_add, Za1 (hcv _), hres, h2, h1, Msg.right, Zh7, Zi0, fl_seq, Zi4, Zi5, Zi3, fl_ret, Zh9, fl_cond, beq_self_eq_true]
  simp only [List.length_cons, List.length_nil, Nat.reduceAdd, Zao, Zbe, Zbf, Zak, Za9, Zbq, Zc0, List.getElem?_toArray, List.getElem?_cons_succ, List.getElem?_cons_zero, Option.bind_some, Nat.reduceLT, Nat.reduceLeDiff, ne_eq, reduceCtorEq, not_false_eq_true, implies_true, Bool.false_eq_true, Option.map_some, List.set_cons_succ, List.set_cons_zero, List.getD_cons_succ, List.getD_cons_zero, Zau, Zb3, ↓reduceIte, Za2, Zdn, Zam, Za5, Za4, Zaf, Zac, Zaw, Zap, Zes, Option.some.injEq, Zas, Zbg, Zad, Zb6, Zb5, Zbs, Za8, Zag, Nat.zero_add, Nat.succ_ne_zero, sz3, ag3, st27, w42]
  cases h3 : Zej m.frm
  · simp only [List.length_cons, List.length_nil, Nat.reduceAdd, Zaj, Zbz, Zaz, Zh6, Zht, Za7, Zal, Za3, Zgc, Zdq, Zae, Zao, Zak, Za9, Zdl, St.put, List.getElem?_toArray, List.getElem?_cons_succ, List.getElem?_cons_zero, Option.bind_some, Nat.reduceLT, ne_eq, reduceCtorEq, not_false_eq_true, implies_true, Bool.not_false, Option.map_some, List.set_cons_succ, List.set_cons_zero, List.getD_cons_succ, List.getD_cons_zero, Zau, ↓reduceIte, Za2, Za0, Zam, Za4, Zaq, Zb7, Zac, Zax, Zb0, Zab, Zaa, Zah, Zat, Zbm, Option.some.injEq, Zb2, Bool.and_false, Bool.false_and, Nat.zero_add, Za1 (hcv _), hres, h3, h2, h1, Msg.right, Zh7, Zi0, fl_seq, Zi4, Zi5, Zi3, fl_ret, Zh9, fl_cond, beq_self_eq_true]
  simp only [List.length_cons, List.length_nil, Nat.reduceAdd, Zao, Zbe, Zbf, Zak, Za9, Zbq, Zc0, List.getElem?_toArray, List.getElem?_cons_succ, List.getElem?_cons_zero, Option.bind_some, Nat.reduceLT, Nat.reduceLeDiff, ne_eq, reduceCtorEq, not_false_eq_true, implies_true, Bool.not_true, Bool.false_eq_true, Option.map_some, List.set_cons_succ, List.set_cons_zero, List.getD_cons_succ, List.getD_cons_zero, Zau, Zb3, ↓reduceIte, Za2, Zdn, Zam, Za5, Za4, Zaf, Zac, Zaw, Zap, Zes, Option.some.injEq, Zas, Zbg, Zad, Zb6, Zb5, Zbs, Za8, Zag, Nat.zero_add, Nat.succ_ne_zero, sz3, ag3, st27, w42]
  cases h4 : Zej m.to
  · simp only [List.length_cons, List.length_nil, Nat.reduceAdd, Zaj, Zbz, Zaz, Zh6, Zht, Za7, Zal, Za3, Zgc, Zdq, Zae, Zao, Zak, Za9, Zdl, St.put, List.getElem?_toArray, List.getElem?_cons_succ, List.getElem?_cons_zero, Option.bind_some, Nat.reduceLT, ne_eq, reduceCtorEq, not_false_eq_true, implies_true, Bool.not_false, Option.map_some, List.set_cons_succ, List.set_cons_zero, List.getD_cons_succ, List.getD_cons_zero, Zau, ↓reduceIte, Za0, Zam, Za4, Zaq, Zb7, Zac, Zax, Zb0, Zab, Zaa, Zah, Zat, Zbm, Option.some.injEq, Zb2, Bool.and_false, Bool.false_and, Nat.zero_add, Za1 (hcv _), hres, h4, h3, h2, h1, Msg.right, Zh7, Zi0, fl_seq, Zi4, Zi5, Zi3, fl_ret, Zh9, fl_cond, beq_self_eq_true]
  simp only [List.length_cons, List.length_nil, Nat.reduceAdd, Za7, Za3, Zae, Zao, Zak, Za9, Zc0, List.getElem?_toArray, List.getElem?_cons_succ, List.getElem?_cons_zero, Option.bind_some, Nat.reduceLT, Nat.reduceLeDiff, ne_eq, reduceCtorEq, not_false_eq_true, implies_true, Bool.not_true, Bool.false_eq_true, Option.map_some, List.set_cons_succ, List.set_cons_zero, List.getD_cons_succ, List.getD_cons_zero, Zau, Zb3, ↓reduceIte, Za6, Zam, Za5, Zaf, Zac, Zb8, Zay, Option.some.injEq, Zas, Zbg, Zad, Zb6, Zb5, Zbs, Za8, Zag, Nat.zero_add, Nat.succ_ne_zero, sz3, ag3, st27]
  cases h5 : m.frm == m.to
  rotate_left
  · simp only [Zaj, Zbz, Zaz, Zh6, Zht, Zal, Za3, Zgc, Zdq, Zae, Zao, Za9, ne_eq, reduceCtorEq, not_false_eq_true, implies_true, Bool.not_true, Bool.not_false, Option.map_some, List.set_cons_succ, List.set_cons_zero, List.getD_cons_succ, List.getD_cons_zero, Zau, ↓reduceIte, Za0, Za4, Zaq, Zax, Zb0, Zab, Zaa, Zah, Zat, Zbm, Zb2, Bool.and_false, Bool.false_and, Za1 (hcv _), hres, h5, h4, h3, h2, h1, Msg.right, Zh7, Zi0, fl_seq, Zi4, Zi5, Zi3, fl_ret, Zh9, fl_cond, beq_self_eq_true]
  simp only [Zaj, Zbz, Zar, Za3]
  refine (Zf8 (l := plan25_3) (by exact plan25_3_eq)).trans ?_
  simp only [List.length_cons, List.length_nil, Nat.reduceAdd, List.getElem?_toArray, List.getElem?_cons_succ, List.getElem?_cons_zero, Option.bind_some, Nat.reduceLT, Nat.reduceLeDiff, ne_eq, reduceCtorEq, not_false_eq_true, implies_true, Bool.false_eq_true, Option.map_some, List.set_cons_succ, List.set_cons_zero, List.getD_cons_succ, List.getD_cons_zero, Zau, Zef, Zbk, List.any_cons, List.any_nil, ↓reduceIte, Za6, Za5, Zac, Zai, Zan, Zc2, Zbv, List.toList_toArray, Option.some.injEq, kd_l, Zc5, Zc4, kd_r, Zcf, Zee, Zch, Zbn, Zc6, Zba, Zdg, Zcs, Zci, Zde, Zbx, Zbw, Zdc, Zg1, Zbu, Op.operands, Zg3, Zfp, Ze2, List.foldl_nil, Zas, Zbg, Zad, Zb6, Zb5, Za8, Bool.or_self, Nat.zero_add, Nat.succ_ne_zero, sz3, ag3, st27, hcv, kdL_g, plan25_3]
  cases h6 : decide (m.call < 1)
  rotate_left
  · simp only [List.length_cons, List.length_nil, Nat.reduceAdd, Zaj, Zbz, Zaz, Zh6, Zht, Za7, Zal, Za3, Zgc, Zdq, Zae, Zao, Za9, St.put, List.getElem?_toArray, List.getElem?_cons_succ, List.getElem?_cons_zero, Option.bind_some, Nat.reduceLT, ne_eq, reduceCtorEq, not_false_eq_true, implies_true, Bool.not_true, Bool.not_false, Option.map_some, List.set_cons_succ, List.set_cons_zero, List.getD_cons_succ, List.getD_cons_zero, Zau, Zef, List.any_cons, List.any_nil, ↓reduceIte, Za0, Zam, Za4, Zaq, Zb7, Zac, Zax, Zb0, Zab, Zaa, Zah, Zat, Zbm, List.toList_toArray, Option.some.injEq, Ze5, kd_l, Zc5, Zc4, kd_r, Zdg, Zcs, Zbx, Zbw, Zdc, Zhc, Op.operands, Zb2, Bool.or_self, Bool.and_false, Bool.false_and, Nat.zero_add, Za1 (hcv _), hres, kd_h, kdL_g, kdLG_no, kdRO_g, kdRG_no, kdHO_g, kdHG_no, h6, h5, h4, h3, h2, h1, Msg.right, Zh7, Zi0, fl_seq, Zi4, Zi5, Zi3, fl_ret, Zh9, fl_cond, beq_self_eq_true]
  simp only [List.length_cons, List.length_nil, Nat.reduceAdd, List.getElem?_toArray, List.getElem?_cons_succ, List.getElem?_cons_zero, Option.bind_some, Nat.reduceLT, Nat.reduceLeDiff, implies_true, Bool.not_false, Bool.false_eq_true, Option.map_some, List.set_cons_succ, List.set_cons_zero, List.getD_cons_succ, List.getD_cons_zero, Zau, Zbo, Zbk, List.any_cons, List.any_nil, Zb3, ↓reduceIte, Za6, Zam, Za5, Za4, Zaf, Zac, Zai, Zaw, Zap, Zan, Zgn, binD_quo, Zel, Zft, Ze0, and_self, List.toList_toArray, Option.some.injEq, kd_l, Zc5, Zc4, kd_r, Zee, Zdg, Zcs, Zci, Zde, Zbx, Zbw, Zdc, Zhc, Zg1, Zbu, Op.operands, Zg3, Zfp, Zas, Zbg, Zad, Zb6, Zb5, List.take_succ_cons, List.take_zero, List.drop_zero, List.map_cons, List.map_nil, Za8, Bool.or_self, Nat.zero_add, Nat.succ_ne_zero, Nat.le_refl, sz3, sz27, ag3, ag27, st27, kd_h, Zca, kdL_g, kdLG_yes, kdRO_g, kdRG_yes, kdHO_g, kdHG_yes, Zd4, Zd5, Ze3, Zdk, Zcb, Zcc, Zcd, List.all_cons, List.all_nil, Bool.and_self, hl.own, hl.exc, hl.shr, h43, arith_quo (show (1048576 : Int) ≠ 0 by decide)]
  cases h7 : (IntKind.i64.wrap (Int.tdiv (IntKind.i64.wrap (m.call - 1)) 1048576) == m.asker')
  · have h7' : (IntKind.i64.wrap (Int.tdiv (IntKind.i64.wrap (m.call - 1)) 1048576) != m.asker') = true := by simp [bne, h7]
    simp only [List.length_cons, List.length_nil, Nat.reduceAdd, Zaj, Zbz, Zaz, Zh6, Zht, Za7, Zal, Za3, Zgc, Zdq, Zae, Zao, Za9, St.put, List.getElem?_toArray, List.getElem?_cons_succ, List.getElem?_cons_zero, Option.bind_some, Nat.reduceLT, ne_eq, reduceCtorEq, not_false_eq_true, implies_true, Bool.not_false, Option.map_some, List.set_cons_succ, List.set_cons_zero, List.getD_cons_succ, List.getD_cons_zero, Zau, Zef, List.any_cons, List.any_nil, ↓reduceIte, Za0, Zam, Za4, Zaq, Zb7, Zac, Zax, Zb0, Zab, Zaa, Zah, Zat, Zbm, List.toList_toArray, Option.some.injEq, Ze5, kd_l, Zc5, Zc4, Zcs, Zbx, Zbw, Zdc, Zhc, Op.operands, Zb2, Bool.or_self, Bool.and_false, Bool.false_and, Nat.zero_add, Za1 (hcv _), hres, kd_h, kdL_g, kdLG_no, kdRG_no, kdHO_g, kdHG_no, h7, h7', h6, h5, h4, h3, h2, h1, Msg.right, Zh7, Zi0, fl_seq, Zi4, Zi5, Zi3, fl_ret, Zh9, fl_cond, beq_self_eq_true]
  have h7' : (IntKind.i64.wrap (Int.tdiv (IntKind.i64.wrap (m.call - 1)) 1048576) != m.asker') = false := by simp [bne, h7]
  simp only [List.length_cons, List.length_nil, Nat.reduceAdd, Za7, Za3, St.put, List.getElem?_toArray, List.getElem?_cons_succ, List.getElem?_cons_zero, Option.bind_some, Nat.reduceLT, Nat.reduceLeDiff, implies_true, Bool.false_eq_true, Option.map_some, List.set_cons_succ, List.set_cons_zero, List.getD_cons_succ, List.getD_cons_zero, Zau, Zbo, List.any_cons, List.any_nil, Zb3, ↓reduceIte, Zdn, Zam, Za4, Zaf, Zac, Zaw, Zap, Zes, and_self, List.toList_toArray, Option.some.injEq, Ze5, kd_l, Zc5, Zc4, Zcs, Zci, Zde, Zbx, Zbw, Zdc, Zhc, lo_unOp, Op.operands, Zg3, Zfp, Zas, Zbg, Zad, List.take_succ_cons, List.take_zero, List.drop_zero, List.map_cons, List.map_nil, Bool.or_self, Nat.zero_add, Nat.le_refl, sz3, sz27, ag3, ag27, kd_h, Zca, kdL_g, kdLG_yes, kdRG_yes, kdHO_g, kdHG_yes, Zd4, Zd5, Ze3, Zdk, Zcb, Zcc, Zcd, Zfc, Zen, Zff, List.all_nil, Bool.and_self, h7', hl.own, hl.exc, hl.shr, h44]
  cases h8 : m.fine
  · simp only [Zaj, Zbz, Zaz, Zh6, Zht, Zal, Za3, Zgc, Zdq, Zae, Zao, Za9, ne_eq, reduceCtorEq, not_false_eq_true, implies_true, Bool.not_false, Option.map_some, List.set_cons_succ, List.set_cons_zero, List.getD_cons_succ, List.getD_cons_zero, Zau, ↓reduceIte, Za0, Za4, Zaq, Zax, Zb0, Zab, Zaa, Zah, Zat, Zbm, Zb2, Bool.and_false, Bool.false_and, Za1 (hcv _), hres, h8, h7, h6, h5, h4, h3, h2, h1, Msg.right, Zh7, Zi0, fl_seq, Zi4, Zi5, Zi3, fl_ret, Zh9, fl_cond, beq_self_eq_true]
  simp only [List.length_cons, List.length_nil, Nat.reduceAdd, Zaj, Zbz, Zaz, Zar, Za3, Zbr, Zdq, Zae, Zao, Zbe, Zbf, Za9, Zbq, Option.bind_some, ne_eq, reduceCtorEq, not_false_eq_true, implies_true, Bool.not_true, Bool.not_false, Bool.false_eq_true, Option.map_some, List.set_cons_succ, List.set_cons_zero, List.getD_cons_succ, List.getD_cons_zero, Zau, Zbo, Zbk, List.any_cons, List.any_nil, Zb3, Zds, ↓reduceIte, Za0, Za4, Zac, Zaw, Zap, Zb0, Zab, Zaa, Zah, Zat, Zbm, Zas, Zbh, Zbg, Zcz, Zad, Zbs, Zb2, List.take_succ_cons, List.take_zero, List.drop_zero, Zag, Bool.or_self, Bool.true_and, Nat.zero_add, Nat.le_refl, sz27, ag27, Za1 (hcv _), hres, h8, h45, hbl.own, h46, h7, h6, h5, h4, h3, h2, h1, Msg.right, hr']

end Go.Abs
