/-
  WIRE: msg.Right. MORE RULES: jumps within a scope. WIRE: msg.Right. No condition.
-/
import Derived.Test.YtkimilghfbgjmaaQ18

open List renaming any_cons → Yax, any_nil → Yay, append_nil → Yaf, cons_append → Yaj, drop_succ_cons → Yb7, drop_zero → Yb8, getD_cons_succ → Yak, getD_cons_zero → Yal, getElem?_cons_succ → Yam, getElem?_cons_zero → Yan, getElem?_toArray → Yao, length_cons → Yap, length_nil → Yaq, map_cons → Ybi, map_nil → Yba, nil_append → Yar, replicate → Yae, set_cons_succ → Yas, set_cons_zero → Yat, take_succ_cons → Ybc, take_zero → Ybd, toList_toArray → Ybj
open Option renaming bind_some → Yau, map_some → Ya2
open Bool renaming and_false → Yb0, false_and → Yb1, false_eq_true → Yav, false_or → Ybf, not_false → Ybg, not_true → Yb2, or_self → Yb3, true_and → Yb6, true_or → Ybh
open Nat renaming add_zero → Yb4, le_refl → Yab, succ_ne_zero → Yb5, zero_add → Yaw
namespace Go.Abs
open Go Go.Proofs
set_option maxRecDepth 10000
set_option maxHeartbeats 4000000
noncomputable def Msg.fine (m : Msg) : Bool :=
  if m.kind == 4 then Zfc m.key else
  if m.kind == 5 then Zj7 m.ikey m.ival m.iver else
  if m.kind == 6 then Zo0 m.ikey else
  if m.kind == 7 then ((m.pred == -1) || Zfc m.pred) && Znj m.list m.frm else
  if m.kind == 10 then Zfc m.place else
  if m.kind == 11 then (m.code == 0) || (m.code == 200) else
  if m.kind == 12 then ((m.code == 0) && Zj7 m.ikey m.ival m.iver) || ((m.code == 201) && ((m.ikey == { data := #[] }) && ((m.ival == 0) && ((m.iver == 0) && (m.gone == false))))) else true
theorem w44 (m : Msg) (l : D) (hl : Rd l (isE m.list)) (hx : m.list.length ≤ 1099511627776) (h : List O) : wc 44 [.agg (m.cs l)] h = some (.val (.bool m.fine), h) := by
  have hp := w76 m.ikey m.ival m.iver m.gone
  have hll := w78 l m.list m.frm hl hx
  simp only [Zgi] at hp
  have hcv : ∀ i, wcv 44 i = [] := fun _ => rfl
  have hres : Try.f44.results.toList = [ResultVar.tmp 2] := rfl
  rw [wc, Zbm rfl Try.func44 rfl]
  simp only [Zbj, Yap, Yaq, Nat.reduceAdd, Nat.reduceSub, Yae, Yaj, Yar, Zai, Zc5, Za7, Za3, Zae, Zan, Za9, Yan, Yau, Nat.reduceLeDiff, ne_eq, reduceCtorEq, not_false_eq_true, implies_true, Yav, Ya2, Yas, Yat, Yak, Yal, Zau, Zbu, Yax, Yay, Zb7, ↓reduceIte, Za0, Za6, Zdq, Za5, Za2, Zap, Zab, Zag, Zam, Zax, Zb6, Int.reduceNeg, Zay, Zar, Zbk, Za8, Zba, Zb9, Zb0, Zb8, Zbt, Zaa, Zaj, Yb3, Yb4, Yaw, Yb5, sz5, ag5, st27, Za1 (hcv _), Try.ntmps44, Msg.cs, hl.own]
  cases h4 : m.kind == 4
  rotate_left
  · simp only [Yap, Yaq, Nat.reduceAdd, Zai, Zb2, Zak, Za3, Zc0, Zd3, Zae, Zan, Zbf, Zbg, Za9, Zbq, Yam, Yan, Yau, Nat.reduceLeDiff, ne_eq, reduceCtorEq, not_false_eq_true, implies_true, Yav, Ya2, Yas, Yat, Yak, Yal, Zau, Zb7, ↓reduceIte, Za0, Za5, Za2, Zab, Zaq, Zah, Int.reduceNeg, Zb3, Zad, Zac, Zal, Zav, Zbr, Zar, Zbk, Za8, Zba, Zb9, Zbt, Zb4, Zaa, Zaj, Yaw, Yb5, sz3, ag3, st27, Za1 (hcv _), hres, h4, w42, Msg.fine]
  simp only [Zai, Za7, Zao, Za3, Zae, Zan, Za9, ne_eq, reduceCtorEq, not_false_eq_true, implies_true, Ya2, Yas, Yat, Yak, Yal, Zau, Za0, Za6, Za2, Zab, Zag, Zam, Zb6, Int.reduceNeg, Zay, Za1 (hcv _)]
  cases h5 : m.kind == 5
  rotate_left
  · simp only [Yap, Yaq, Nat.reduceAdd, Zai, Zb2, Zak, Za3, Zc0, Zd3, Zae, Zan, Zbf, Zbg, Za9, Zbq, Yam, Yan, Yau, Nat.reduceLeDiff, ne_eq, reduceCtorEq, not_false_eq_true, implies_true, Yav, Ya2, Yas, Yat, Yak, Yal, Zau, Zbu, Yax, Yay, Zb7, ↓reduceIte, Za0, Za5, Za2, Zab, Zaq, Zah, Int.reduceNeg, Zb3, Zad, Zac, Zal, Zav, Zbr, Zar, Zbk, Za8, Zba, Zb9, Zbt, Zb4, Ybc, Ybd, Yb7, Yb8, Zaa, Zaj, Yb3, Yaw, Yb5, sz24, ag24, st27, Za1 (hcv _), hres, h5, hp, Msg.fine, h4]
  simp only [Zai, Za7, Zao, Za3, Zae, Zan, Za9, ne_eq, reduceCtorEq, not_false_eq_true, implies_true, Ya2, Yas, Yat, Yak, Yal, Zau, Za0, Za6, Za2, Zab, Zag, Zam, Zb6, Int.reduceNeg, Zay, Za1 (hcv _)]
  cases h6 : m.kind == 6
  rotate_left
  · simp only [Yap, Yaq, Nat.reduceAdd, Zai, Zb2, Zak, Za3, Zc0, Zd3, Zae, Zan, Zbf, Zbg, Za9, Zbq, Yam, Yan, Yau, Nat.reduceLeDiff, ne_eq, reduceCtorEq, not_false_eq_true, implies_true, Yav, Ya2, Yas, Yat, Yak, Yal, Zau, Zb7, ↓reduceIte, Za0, Za5, Za2, Zab, Zaq, Zah, Int.reduceNeg, Zb3, Zad, Zac, Zal, Zav, Zbr, Zar, Zbk, Za8, Zba, Zb9, Zbt, Zb4, Zaa, Zaj, Yb4, Yaw, Yb5, sz9, sz24, ag9, st24, st27, Za1 (hcv _), hres, h6, w77, Msg.fine, h4, h5]
  simp only [Zai, Za7, Zao, Za3, Zae, Zan, Za9, ne_eq, reduceCtorEq, not_false_eq_true, implies_true, Ya2, Yas, Yat, Yak, Yal, Zau, Za0, Za6, Za2, Zab, Zag, Zam, Zb6, Int.reduceNeg, Zay, Za1 (hcv _)]
  cases h7 : m.kind == 7
  rotate_left
  · simp only [Yap, Yaq, Nat.reduceAdd, Zai, Zak, Zan, Zas, Za9, Yao, Yam, Yan, Yau, Nat.reduceLT, Nat.reduceLeDiff, ne_eq, reduceCtorEq, not_false_eq_true, implies_true, Yav, Ya2, Yas, Yat, Yak, Yal, Zau, Zb7, ↓reduceIte, Za4, Za6, Za5, Zab, Zag, Zam, Zb6, Int.reduceNeg, Zay, Option.some.injEq, Zar, Zbk, Za8, Zba, Zb9, Zbt, Zaa, Zaj, Yaw, Yb5, sz3, ag3, st27, Za1 (hcv _), h7, Msg.fine, h4, h5, h6]
    cases h71 : m.pred == -1
    · simp only [Yap, Yaq, Nat.reduceAdd, Zan, Zbf, Zbg, Zas, Za9, Zbq, Zch, Yao, Yam, Yan, Yau, Nat.reduceLT, Nat.reduceLeDiff, ne_eq, reduceCtorEq, not_false_eq_true, implies_true, Yav, Ya2, Yas, Yat, Yak, Yal, Zau, Zb7, Ybf, ↓reduceIte, Za4, Zat, Za5, Za2, Zaf, Zab, Zaq, Zah, Int.reduceNeg, Option.some.injEq, Zar, Zbk, Za8, Zba, Zb9, Zbt, Zaa, Zaj, Yaw, Yb5, sz3, ag3, st27, w42]
      try simp only [Zbj, Yap, Yaq, Nat.reduceAdd, Nat.reduceSub, Yae, Yaj, Yar, List.append_eq, Zai, Zbw, Zb2, Zfv, Zkc, Zhn, Zc5, Zi4, Zic, Za7, Zak, Zao, Za3, Zc0, Zeq, Zgy, Ze7, Zcd, Zd3, Zer, Zm5, Zj6, Zdx, Zgh, Ze2, Zkm, Zib, Zji, Zeg, Zk3, Zk2, Zae, Zan, Zbd, Zbf, Zbg, Zas, Za9, Zcf, Zra, Zbq, Zp6, Zgz, Zch, Ze8, Zke, St.put, Yao, Yam, Yan, Yau, Nat.reduceLT, Nat.reduceLeDiff, ne_eq, reduceCtorEq, not_false_eq_true, implies_true, forall_const, Yb2, Ybg, not_true_eq_false, Bool.true_eq_false, Yav, Ya2, Yas, Yat, Yak, Yal, Zau, Ze5, Zdv, Zbu, Zb5, Zcp, Zfi, Zkq, Zm0, Zp4, Zll, Yax, Yay, Zb7, Zd5, Zm2, Bool.or_false, Ybf, Bool.not_eq_true', if_false, if_true, ite_true, ite_false, ↓reduceIte, Za4, Zea, Za0, Za6, Ze0, Zcs, Zat, Zd4, Zdq, Zdk, Zca, Zbb, Zbl, Zg0, Zel, Zhv, Zgt, Za5, Zbo, Zkn, Zc8, Za2, Zaf, Zap, Zbh, Zab, Zag, Zoz, Zaq, Zah, Zec, Zdg, Zam, Zax, Zja, Zcw, Zdi, Zjq, Zjz, Zgr, Zgq, Zdc, Zgn, Zkh, Zlb, Zkg, Zj9, Zmd, Zj8, Zb6, Zem, Zc6, Zfx, Zeo, Zf2, Zi5, Zgd, Znb, Zkf, Zla, Zk7, Zkz, Zg3, Znc, Zgj, Zev, Zju, Zj2, Int.reduceLT, Int.reduceToNat, Int.reduceNe, Int.reduceNeg, IntKind.bits, Zcz, Zg1, Zj3, Zie, Zki, Zhy, Zay, Zdm, Zbs, Zf0, Zdr, Zeb, Zf4, Zmq, Zd0, Ze4, Zpb, Zpc, Zb3, Zfh, Zgs, Zad, Zdw, Zac, Zal, Zde, Zav, Zd2, Zeu, Zd9, Zcq, Zbr, Zcy, Zpa, Zcx, Zfl, List.forall_mem_cons, List.not_mem_nil, false_imp_iff, and_true, and_self, Ybj, Option.some.injEq, Prod.mk.injEq, exists_eq_left', true_and, Zdy, kd_l, Zc3, Zc2, kd_r, Zc4, Zdo, Zc7, Zbc, Zbv, Zaz, Zd1, Zls, Zcv, Zcb, Zcu, Zlr, Zby, Zbx, Zdz, Zjy, Zi1, Zm3, Zgv, Zdt, Zgk, Zma, Zhz, Zgp, Zjc, Zkb, Zbp, Zn5, Zg9, Zn4, Ze1, Zr9, Zhg, Op.operands, Call.operands, Zg6, Zjs, Zfm, Zjm, Zfe, Yax, Yay, Zdn, mkT, List.foldl_nil, Array.toList_append, Yaf, List.forall_mem_nil, Zar, Zbe, Zbk, Zcr, Zet, Zdh, hlen, Zin, hget0, hgetn, Za8, Ze3, Zba, Zta, Zb9, Zt8, Zb1, Zb0, Zc9, Zdl, Zhw, Zjf, Zid, Zb8, Zcl, Zct, Zij, Zk0, Zjb, Zbt, Zj0, Zco, Zb4, Ybc, Ybd, Yb7, Yb8, Ybi, Yba, Zaa, Option.bind_eq_bind, Zaj, Yb3, Yb0, Bool.and_true, Yb6, Yb1, Bool.or_true, Ybh, Yb4, Yaw, Nat.reduceEqDiff, Yb5, Zhj, Option.pure_def, Zkw, Zgg, Yab, and_self, Try.underlying3, Try.underlying4, Try.underlying5, Try.underlying9, Try.underlying22, Try.underlying24, Try.underlying25, Try.underlying27, Try.underlying28, Try.underlying31, Try.underlying38, Try.underlying105, sz3, sz4, sz5, sz9, sz22, sz24, sz25, sz27, sz28, sz31, ag3, ag4, ag5, ag9, ag22, ag24, ag25, ag27, ag28, ag31, st24, st27, el22, el31, Zxl, Za1 (hcv _), hcv, Try.ntmps44, hres, hl.own, hl.ownD, h4, h5, h6, h7, Msg.fine, hll]
      cases hp0 : Zfc m.pred
      · simp only [Yap, Yaq, Nat.reduceAdd, Zb2, Za3, Zc0, Zd3, Zae, Zan, Zas, Za9, Ze8, St.put, Yao, Yam, Yan, Yau, Nat.reduceLT, ne_eq, reduceCtorEq, not_false_eq_true, implies_true, Yb2, Yav, Ya2, Yas, Yat, Yak, Yal, Zau, ↓reduceIte, Za0, Zat, Za2, Zbh, Zab, Zax, Int.reduceNeg, Zb3, Zad, Zac, Zal, Zav, Zbr, Option.some.injEq, Zb4, Yb1, Yaw, hres]
      simp only [Yap, Yaq, Nat.reduceAdd, Zb2, Za3, Zc0, Zd3, Zae, Zan, Zbf, Zbg, Zas, Za9, Zbq, Zch, Yao, Yam, Yan, Yau, Nat.reduceLT, Nat.reduceLeDiff, ne_eq, reduceCtorEq, not_false_eq_true, implies_true, Yav, Ya2, Yas, Yat, Yak, Yal, Zau, Zb7, ↓reduceIte, Za0, Zat, Za5, Za2, Zaf, Zab, Zaq, Zah, Int.reduceNeg, Zb3, Zad, Zac, Zal, Zav, Zbr, Option.some.injEq, Zar, Zbk, Za8, Zba, Zb9, Zbt, Zb4, Zaa, Zaj, Yb6, Yaw, Yb5, sz3, sz22, ag3, ag22, st27, hres, hl.own, hl.ownD, hll]
    · simp only [Yap, Yaq, Nat.reduceAdd, Zb2, Za3, Zc0, Zd3, Zae, Zan, Zbf, Zbg, Zas, Za9, Zbq, Zch, Ze8, St.put, Yao, Yam, Yan, Yau, Nat.reduceLT, Nat.reduceLeDiff, ne_eq, reduceCtorEq, not_false_eq_true, implies_true, Ybg, Yav, Ya2, Yas, Yat, Yak, Yal, Zau, Zb7, ↓reduceIte, Za4, Za0, Zat, Za5, Za2, Zaf, Zbh, Zab, Zaq, Zah, Zax, Int.reduceNeg, Zb3, Zad, Zac, Zal, Zav, Zbr, Option.some.injEq, Zar, Zbk, Za8, Zba, Zb9, Zbt, Zb4, Zaa, Zaj, Yb6, Ybh, Yaw, Yb5, sz3, sz22, ag3, ag22, st27, hres, hl.own, hl.ownD, hll]
  simp only [Zai, Za7, Zao, Za3, Zae, Zan, Za9, ne_eq, reduceCtorEq, not_false_eq_true, implies_true, Ya2, Yas, Yat, Yak, Yal, Zau, Za0, Za6, Za2, Zab, Zag, Zam, Zb6, Int.reduceNeg, Zay, Za1 (hcv _)]
  cases h10 : m.kind == 10
  rotate_left
  · simp only [Yap, Yaq, Nat.reduceAdd, Zai, Zb2, Zak, Za3, Zc0, Zd3, Zae, Zan, Zbf, Zbg, Za9, Zbq, Yam, Yan, Yau, Nat.reduceLeDiff, ne_eq, reduceCtorEq, not_false_eq_true, implies_true, Yav, Ya2, Yas, Yat, Yak, Yal, Zau, Zb7, ↓reduceIte, Za0, Za5, Za2, Zab, Zaq, Zah, Zb3, Zad, Zac, Zal, Zav, Zbr, Zar, Zbk, Za8, Zba, Zb9, Zbt, Zb4, Zaa, Zaj, Yaw, Yb5, sz3, ag3, st27, Za1 (hcv _), hres, h10, w42, Msg.fine, h4, h5, h6, h7]
  simp only [Zai, Za7, Zao, Za3, Zae, Zan, Za9, ne_eq, reduceCtorEq, not_false_eq_true, implies_true, Ya2, Yas, Yat, Yak, Yal, Zau, Za0, Za6, Za2, Zab, Zag, Zam, Zb6, Zay, Za1 (hcv _)]
  cases h11 : m.kind == 11
  rotate_left
  · simp only [Yap, Yaq, Nat.reduceAdd, Zai, Zak, Zan, Zas, Za9, Yao, Yam, Yan, Yau, Nat.reduceLT, ne_eq, reduceCtorEq, not_false_eq_true, implies_true, Yav, Ya2, Yas, Yat, Yak, Yal, Zau, Zb7, ↓reduceIte, Za4, Za6, Za5, Zab, Zag, Zam, Zb6, Zay, Option.some.injEq, Zar, Zbk, Za8, Zba, Zb9, Zbt, Zaa, Zaj, Yaw, Yb5, Yab, sz25, ag25, st27, Za1 (hcv _), h11, Msg.fine, h4, h5, h6, h7, h10]
    try simp only [Zbj, Yap, Yaq, Nat.reduceAdd, Nat.reduceSub, Yae, Yaj, Yar, List.append_eq, Zai, Zbw, Zb2, Zfv, Zkc, Zhn, Zc5, Zi4, Zic, Za7, Zak, Zao, Za3, Zc0, Zeq, Zgy, Ze7, Zcd, Zd3, Zer, Zm5, Zj6, Zdx, Zgh, Ze2, Zkm, Zib, Zji, Zeg, Zk3, Zk2, Zae, Zan, Zbd, Zbf, Zbg, Zas, Za9, Zcf, Zra, Zbq, Zp6, Zgz, Zch, Ze8, Zke, St.put, Yao, Yam, Yan, Yau, Nat.reduceLT, Nat.reduceLeDiff, ne_eq, reduceCtorEq, not_false_eq_true, implies_true, forall_const, Yb2, Ybg, not_true_eq_false, Bool.true_eq_false, Yav, Ya2, Yas, Yat, Yak, Yal, Zau, Ze5, Zdv, Zbu, Zb5, Zcp, Zfi, Zkq, Zm0, Zp4, Zll, Yax, Yay, Zb7, Zd5, Zm2, Bool.or_false, Ybf, Bool.not_eq_true', if_false, if_true, ite_true, ite_false, ↓reduceIte, Za4, Zea, Za0, Za6, Ze0, Zcs, Zat, Zd4, Zdq, Zdk, Zca, Zbb, Zbl, Zg0, Zel, Zhv, Zgt, Za5, Zbo, Zkn, Zc8, Za2, Zaf, Zap, Zbh, Zab, Zag, Zoz, Zaq, Zah, Zec, Zdg, Zam, Zax, Zja, Zcw, Zdi, Zjq, Zjz, Zgr, Zgq, Zdc, Zgn, Zkh, Zlb, Zkg, Zj9, Zmd, Zj8, Zb6, Zem, Zc6, Zfx, Zeo, Zf2, Zi5, Zgd, Znb, Zkf, Zla, Zk7, Zkz, Zg3, Znc, Zgj, Zev, Zju, Zj2, Int.reduceLT, Int.reduceToNat, Int.reduceNe, Int.reduceNeg, IntKind.bits, Zcz, Zg1, Zj3, Zie, Zki, Zhy, Zay, Zdm, Zbs, Zf0, Zdr, Zeb, Zf4, Zmq, Zd0, Ze4, Zpb, Zpc, Zb3, Zfh, Zgs, Zad, Zdw, Zac, Zal, Zde, Zav, Zd2, Zeu, Zd9, Zcq, Zbr, Zcy, Zpa, Zcx, Zfl, List.forall_mem_cons, List.not_mem_nil, false_imp_iff, and_true, and_self, Ybj, Option.some.injEq, Prod.mk.injEq, exists_eq_left', true_and, Zdy, kd_l, Zc3, Zc2, kd_r, Zc4, Zdo, Zc7, Zbc, Zbv, Zaz, Zd1, Zls, Zcv, Zcb, Zcu, Zlr, Zby, Zbx, Zdz, Zjy, Zi1, Zm3, Zgv, Zdt, Zgk, Zma, Zhz, Zgp, Zjc, Zkb, Zbp, Zn5, Zg9, Zn4, Ze1, Zr9, Zhg, Op.operands, Call.operands, Zg6, Zjs, Zfm, Zjm, Zfe, Yax, Yay, Zdn, mkT, List.foldl_nil, Array.toList_append, Yaf, List.forall_mem_nil, Zar, Zbe, Zbk, Zcr, Zet, Zdh, hlen, Zin, hget0, hgetn, Za8, Ze3, Zba, Zta, Zb9, Zt8, Zb1, Zb0, Zc9, Zdl, Zhw, Zjf, Zid, Zb8, Zcl, Zct, Zij, Zk0, Zjb, Zbt, Zj0, Zco, Zb4, Ybc, Ybd, Yb7, Yb8, Ybi, Yba, Zaa, Option.bind_eq_bind, Zaj, Yb3, Yb0, Bool.and_true, Yb6, Yb1, Bool.or_true, Ybh, Yb4, Yaw, Nat.reduceEqDiff, Yb5, Zhj, Option.pure_def, Zkw, Zgg, Yab, and_self, Try.underlying3, Try.underlying4, Try.underlying5, Try.underlying9, Try.underlying22, Try.underlying24, Try.underlying25, Try.underlying27, Try.underlying28, Try.underlying31, Try.underlying38, Try.underlying105, sz3, sz4, sz5, sz9, sz22, sz24, sz25, sz27, sz28, sz31, ag3, ag4, ag5, ag9, ag22, ag24, ag25, ag27, ag28, ag31, st24, st27, el22, el31, Zxl, Za1 (hcv _), hcv, Try.ntmps44, hres, hl.own, hl.ownD, h4, h5, h6, h7, h10, h11, Msg.fine]
    cases hp0 : m.code == 0
    rotate_left
    · simp only [Yap, Yaq, Nat.reduceAdd, Zb2, Za3, Zc0, Zd3, Zae, Zan, Zas, Za9, Ze8, St.put, Yao, Yam, Yan, Yau, Nat.reduceLT, ne_eq, reduceCtorEq, not_false_eq_true, implies_true, Ybg, Ya2, Yas, Yat, Yak, Yal, Zau, ↓reduceIte, Za0, Zat, Za2, Zbh, Zab, Zax, Zb3, Zad, Zac, Zal, Zav, Zbr, Option.some.injEq, Zb4, Ybh, Yaw, hres]
    simp only [Yap, Yaq, Nat.reduceAdd, Zb2, Za3, Zc0, Zd3, Zae, Zan, Zas, Za9, Zch, Yao, Yam, Yan, Yau, Nat.reduceLT, ne_eq, reduceCtorEq, not_false_eq_true, implies_true, Yav, Ya2, Yas, Yat, Yak, Yal, Zau, Zb7, Ybf, ↓reduceIte, Za0, Za6, Zat, Za5, Za2, Zaf, Zab, Zag, Zam, Zb6, Zay, Zb3, Zad, Zac, Zal, Zav, Zbr, Option.some.injEq, Zar, Zbk, Za8, Zba, Zb9, Zbt, Zb4, Zaa, Zaj, Yaw, Yb5, Yab, sz25, ag25, st27, hres]
  simp only [Zai, Za7, Zao, Za3, Zae, Zan, Za9, ne_eq, reduceCtorEq, not_false_eq_true, implies_true, Ya2, Yas, Yat, Yak, Yal, Zau, Za0, Za6, Za2, Zab, Zag, Zam, Zb6, Zay, Za1 (hcv _)]
  cases h12 : m.kind == 12
  rotate_left
  · simp only [Yap, Yaq, Nat.reduceAdd, Zai, Zak, Zan, Zas, Za9, Yao, Yam, Yan, Yau, Nat.reduceLT, ne_eq, reduceCtorEq, not_false_eq_true, implies_true, Yav, Ya2, Yas, Yat, Yak, Yal, Zau, Zb7, ↓reduceIte, Za4, Za6, Za5, Zab, Zag, Zam, Zb6, Zay, Option.some.injEq, Zar, Zbk, Za8, Zba, Zb9, Zbt, Zaa, Zaj, Yaw, Yb5, Yab, sz25, ag25, st27, Za1 (hcv _), h12, Msg.fine, h4, h5, h6, h7, h10, h11]
    cases h121 : m.code == 0
    · simp only [Yap, Yaq, Nat.reduceAdd, Zan, Zas, Za9, Zch, Ze8, St.put, Yao, Yam, Yan, Yau, Nat.reduceLT, ne_eq, reduceCtorEq, not_false_eq_true, implies_true, Yb2, Yav, Ya2, Yas, Yat, Yak, Yal, Zau, Zb7, Ybf, ↓reduceIte, Za4, Za6, Zat, Za5, Zbh, Zab, Zag, Zam, Zax, Zb6, Zay, Option.some.injEq, Zar, Zbk, Za8, Zba, Zb9, Zbt, Zaa, Zaj, Yb1, Yaw, Yb5, Yab, sz25, ag25, st27]
      try simp only [Zbj, Yap, Yaq, Nat.reduceAdd, Nat.reduceSub, Yae, Yaj, Yar, List.append_eq, Zai, Zbw, Zb2, Zfv, Zkc, Zhn, Zc5, Zi4, Zic, Za7, Zak, Zao, Za3, Zc0, Zeq, Zgy, Ze7, Zcd, Zd3, Zer, Zm5, Zj6, Zdx, Zgh, Ze2, Zkm, Zib, Zji, Zeg, Zk3, Zk2, Zae, Zan, Zbd, Zbf, Zbg, Zas, Za9, Zcf, Zra, Zbq, Zp6, Zgz, Zch, Ze8, Zke, St.put, Yao, Yam, Yan, Yau, Nat.reduceLT, Nat.reduceLeDiff, ne_eq, reduceCtorEq, not_false_eq_true, implies_true, forall_const, Yb2, Ybg, not_true_eq_false, Bool.true_eq_false, Yav, Ya2, Yas, Yat, Yak, Yal, Zau, Ze5, Zdv, Zbu, Zb5, Zcp, Zfi, Zkq, Zm0, Zp4, Zll, Yax, Yay, Zb7, Zd5, Zm2, Bool.or_false, Ybf, Bool.not_eq_true', if_false, if_true, ite_true, ite_false, ↓reduceIte, Za4, Zea, Za0, Za6, Ze0, Zcs, Zat, Zd4, Zdq, Zdk, Zca, Zbb, Zbl, Zg0, Zel, Zhv, Zgt, Za5, Zbo, Zkn, Zc8, Za2, Zaf, Zap, Zbh, Zab, Zag, Zoz, Zaq, Zah, Zec, Zdg, Zam, Zax, Zja, Zcw, Zdi, Zjq, Zjz, Zgr, Zgq, Zdc, Zgn, Zkh, Zlb, Zkg, Zj9, Zmd, Zj8, Zb6, Zem, Zc6, Zfx, Zeo, Zf2, Zi5, Zgd, Znb, Zkf, Zla, Zk7, Zkz, Zg3, Znc, Zgj, Zev, Zju, Zj2, Int.reduceLT, Int.reduceToNat, Int.reduceNe, Int.reduceNeg, IntKind.bits, Zcz, Zg1, Zj3, Zie, Zki, Zhy, Zay, Zdm, Zbs, Zf0, Zdr, Zeb, Zf4, Zmq, Zd0, Ze4, Zpb, Zpc, Zb3, Zfh, Zgs, Zad, Zdw, Zac, Zal, Zde, Zav, Zd2, Zeu, Zd9, Zcq, Zbr, Zcy, Zpa, Zcx, Zfl, List.forall_mem_cons, List.not_mem_nil, false_imp_iff, and_true, and_self, Ybj, Option.some.injEq, Prod.mk.injEq, exists_eq_left', true_and, Zdy, kd_l, Zc3, Zc2, kd_r, Zc4, Zdo, Zc7, Zbc, Zbv, Zaz, Zd1, Zls, Zcv, Zcb, Zcu, Zlr, Zby, Zbx, Zdz, Zjy, Zi1, Zm3, Zgv, Zdt, Zgk, Zma, Zhz, Zgp, Zjc, Zkb, Zbp, Zn5, Zg9, Zn4, Ze1, Zr9, Zhg, Op.operands, Call.operands, Zg6, Zjs, Zfm, Zjm, Zfe, Yax, Yay, Zdn, mkT, List.foldl_nil, Array.toList_append, Yaf, List.forall_mem_nil, Zar, Zbe, Zbk, Zcr, Zet, Zdh, hlen, Zin, hget0, hgetn, Za8, Ze3, Zba, Zta, Zb9, Zt8, Zb1, Zb0, Zc9, Zdl, Zhw, Zjf, Zid, Zb8, Zcl, Zct, Zij, Zk0, Zjb, Zbt, Zj0, Zco, Zb4, Ybc, Ybd, Yb7, Yb8, Ybi, Yba, Zaa, Option.bind_eq_bind, Zaj, Yb3, Yb0, Bool.and_true, Yb6, Yb1, Bool.or_true, Ybh, Yb4, Yaw, Nat.reduceEqDiff, Yb5, Zhj, Option.pure_def, Zkw, Zgg, Yab, and_self, Try.underlying3, Try.underlying4, Try.underlying5, Try.underlying9, Try.underlying22, Try.underlying24, Try.underlying25, Try.underlying27, Try.underlying28, Try.underlying31, Try.underlying38, Try.underlying105, sz3, sz4, sz5, sz9, sz22, sz24, sz25, sz27, sz28, sz31, ag3, ag4, ag5, ag9, ag22, ag24, ag25, ag27, ag28, ag31, st24, st27, el22, el31, Zxl, Za1 (hcv _), hcv, Try.ntmps44, hres, hl.own, hl.ownD, h4, h5, h6, h7, h10, h11, h12, Msg.fine, Zhx, eq24, List.zip_nil_left, List.zip_nil_right]
      cases hp0 : m.code == 201
      · simp only [Yap, Yaq, Nat.reduceAdd, Zb2, Za3, Zc0, Zd3, Zae, Zan, Zas, Za9, Zch, Ze8, St.put, Yao, Yam, Yan, Yau, Nat.reduceLT, ne_eq, reduceCtorEq, not_false_eq_true, implies_true, Yb2, Yav, Ya2, Yas, Yat, Yak, Yal, Zau, ↓reduceIte, Za0, Zat, Za2, Zaf, Zbh, Zab, Zax, Zb3, Zad, Zac, Zal, Zav, Zbr, Option.some.injEq, Zb4, Yb1, Yaw, hres]
      simp only [Yap, Yaq, Nat.reduceAdd, Zb2, Za3, Zc0, Zd3, Zae, Zan, Zas, Za9, Zch, Yao, Yam, Yan, Yau, Nat.reduceLT, Nat.reduceLeDiff, ne_eq, reduceCtorEq, not_false_eq_true, implies_true, Yav, Ya2, Yas, Yat, Yak, Yal, Zau, Yax, Yay, Zb7, ↓reduceIte, Za0, Za6, Zat, Zdk, Za5, Za2, Zaf, Zab, Zaq, Zb3, Zad, Zac, Zal, Zav, Zbr, Option.some.injEq, Zar, Zbk, Za8, Zba, Zb9, Zbt, Zb4, Ybc, Ybd, Yb7, Yb8, Yba, Zaa, Zaj, Yb3, Yb6, Yaw, Yb5, sz24, ag24, st27, hres, Zhx, eq24, List.zip_nil_right]
    · simp only [Yap, Yaq, Nat.reduceAdd, Zan, Zbf, Zbg, Zas, Za9, Zbq, Zch, Yao, Yam, Yan, Yau, Nat.reduceLT, Nat.reduceLeDiff, ne_eq, reduceCtorEq, not_false_eq_true, implies_true, Yav, Ya2, Yas, Yat, Yak, Yal, Zau, Zbu, Yax, Yay, Zb7, ↓reduceIte, Za4, Zat, Za5, Za2, Zaf, Zab, Zaq, Zah, Option.some.injEq, Zar, Zbk, Za8, Zba, Zb9, Zbt, Ybc, Ybd, Yb7, Yb8, Zaa, Zaj, Yb3, Yb6, Yaw, Yb5, sz24, ag24, st27, hp]
      cases h122 : Zj7 m.ikey m.ival m.iver
      · simp only [Yap, Yaq, Nat.reduceAdd, Zan, Zas, Za9, Zch, Yao, Yam, Yan, Yau, Nat.reduceLT, ne_eq, reduceCtorEq, not_false_eq_true, implies_true, Yav, Ya2, Yas, Yat, Yak, Yal, Zau, Zb7, Ybf, ↓reduceIte, Za4, Za6, Za5, Zab, Zag, Zam, Zb6, Zay, Option.some.injEq, Zar, Zbk, Za8, Zba, Zb9, Zbt, Zaa, Zaj, Yaw, Yb5, Yab, sz25, ag25, st27]
        have hc : (m.code == 201) = false := by simp at h121 ⊢; omega
        simp only [Yap, Yaq, Nat.reduceAdd, Zb2, Za3, Zc0, Zd3, Zae, Zan, Zas, Za9, Zch, Ze8, St.put, Yao, Yam, Yan, Yau, Nat.reduceLT, ne_eq, reduceCtorEq, not_false_eq_true, implies_true, Yb2, Yav, Ya2, Yas, Yat, Yak, Yal, Zau, ↓reduceIte, Za0, Zat, Za2, Zaf, Zbh, Zab, Zax, Zb3, Zad, Zac, Zal, Zav, Zbr, Option.some.injEq, Zb4, Yb1, Yaw, hres, hc]
      · simp only [Yap, Yaq, Nat.reduceAdd, Zb2, Za3, Zc0, Zd3, Zae, Zan, Zas, Za9, Ze8, Zke, St.put, Yao, Yam, Yan, Yau, Nat.reduceLT, ne_eq, reduceCtorEq, not_false_eq_true, implies_true, Ybg, Ya2, Yas, Yat, Yak, Yal, Zau, ↓reduceIte, Za0, Zat, Za2, Zbh, Zab, Zax, Zb3, Zad, Zac, Zal, Zav, Zbr, Option.some.injEq, Zb4, Ybh, Yaw, hres]
  simp only [Zai, Zbw, Zb2, Zao, Za3, Zcd, Zae, Zan, Za9, ne_eq, reduceCtorEq, not_false_eq_true, implies_true, Yav, Ya2, Yas, Yat, Yak, Yal, Zau, ↓reduceIte, Za0, Za2, Zap, Zax, Zb3, Zad, Zac, Zal, Zav, Zbr, Zb4, Za1 (hcv _), hres, h12, Msg.fine, h4, h5, h6, h7, h10, h11]
def Msg.off (m : Msg) : Msg :=
  if m.kind == 4 then { m with key := 0, slow := false } else
  if m.kind == 5 then m.noItem else
  if m.kind == 6 then { m with ikey := { data := #[] } } else
  if m.kind == 7 then { m with pred := 0, list := [] } else
  if m.kind == 10 then { m with place := 0, done := false } else
  if m.kind == 11 then { m with code := 0 } else
  if m.kind == 12 then { m.noItem with code := 0 } else m
theorem offL_rd {m : Msg} {l : D} (hl : Rd l (isE m.list)) : Rd (Zti m l) (isE m.off.list) := by
  unfold Zti Msg.off
  split
  · exact hl
  · split
    · exact hl
    · split
      · exact hl
      · split
        · exact Rd.osl
        · split
          · exact hl
          · split
            · exact hl
            · split
              · exact hl
              · exact hl
theorem w45 (m : Msg) (l : D) (hl : Rd l (isE m.list)) (h ex : List O) : wc 45 [.ptr h.length 0] (h ++ .cells (m.cs l) :: ex) = some (.val Zaw, h ++ .cells (m.off.cs (Zti m l)) :: ex) := by
  have hcv : ∀ i, wcv 45 i = [] := fun _ => rfl
  have hres : Try.f45.results.toList = [] := rfl
  rw [wc, Zbm rfl Try.func45 rfl]
  try simp only [Zbj, Yap, Yaq, Nat.reduceAdd, Nat.reduceSub, Yae, Yaj, Yar, Zai, Zc5, Za7, Za3, Zae, Zan, Za9, Yan, Yau, Nat.reduceLeDiff, ne_eq, reduceCtorEq, not_false_eq_true, implies_true, Yav, Ya2, Yas, Yat, Yak, Yal, Zau, Zb5, Zb7, ↓reduceIte, Za4, Za0, Za6, Zbl, Za5, Za2, Zab, Zag, Zam, Zb6, Zay, Zar, Zbk, Za8, Zba, Zb9, Zbt, Zaa, Zaj, Yb4, Yaw, Yb5, sz5, ag5, st27, Za1 (hcv _), Try.ntmps45, Msg.cs, Msg.off, Zti, Msg.noItem]
  cases hp0 : m.kind == 4
  rotate_left
  · simp only [Yap, Yaq, Nat.reduceAdd, Yaj, Yar, Zak, Zcd, Zae, Zan, Za9, Zcf, Yam, Yan, Yau, Nat.reduceLeDiff, ne_eq, reduceCtorEq, not_false_eq_true, implies_true, Ya2, Yas, Yat, Yak, Yal, Zb5, ↓reduceIte, Za4, Zbb, Zbl, Za5, Zap, Zab, Zam, Zax, Zfh, Zad, Zac, Zd9, and_self, Zar, Zbk, Zet, hlen, Za8, Zba, Zb9, Zb1, Zc9, Zcl, Zco, Ybc, Ybd, Yb7, Yb8, Zaa, Yaw, Yb5, sz3, sz4, st27, Za1 (hcv _), hres, Ze6]
  simp only [Zai, Za7, Zao, Za3, Zae, Zan, Za9, ne_eq, reduceCtorEq, not_false_eq_true, implies_true, Yav, Ya2, Yas, Yat, Yak, Yal, Zau, ↓reduceIte, Za0, Za6, Za2, Zab, Zag, Zam, Zb6, Zay, Za1 (hcv _)]
  cases hp1 : m.kind == 5
  rotate_left
  · simp only [Yap, Yaq, Nat.reduceAdd, Yaj, Yar, Zak, Zcd, Zae, Zan, Za9, Zcf, Yam, Yan, Yau, Nat.reduceLeDiff, ne_eq, reduceCtorEq, not_false_eq_true, implies_true, Ya2, Yas, Yat, Yak, Yal, Zbu, Zb5, Yax, Yay, Zb7, ↓reduceIte, Za4, Zdk, Zbb, Zbl, Za5, Za2, Zab, Zaq, Zfh, Zad, Zac, Zd9, and_self, Zar, Zbk, Zet, hlen, Za8, Zba, Zb9, Zb1, Zb0, Zb8, Zco, Ybc, Ybd, Yb7, Yb8, Yba, Zaa, Yb3, Yaw, Yb5, sz24, st27, Za1 (hcv _), hres, Zhx, List.zip_nil_right, Ze6]
  simp only [Zai, Za7, Zao, Za3, Zae, Zan, Za9, ne_eq, reduceCtorEq, not_false_eq_true, implies_true, Yav, Ya2, Yas, Yat, Yak, Yal, Zau, ↓reduceIte, Za0, Za6, Za2, Zab, Zag, Zam, Zb6, Zay, Za1 (hcv _)]
  cases hp2 : m.kind == 6
  rotate_left
  · simp only [Yap, Yaq, Nat.reduceAdd, Yaj, Yar, Zak, Zcd, Zae, Zan, Za9, Zcf, Yam, Yan, Yau, Nat.reduceLeDiff, ne_eq, reduceCtorEq, not_false_eq_true, implies_true, Ya2, Yas, Yat, Yak, Yal, Zb5, ↓reduceIte, Za4, Zbb, Zbl, Za5, Zap, Zab, Zja, Zfh, Zad, Zac, Zd9, and_self, Zar, Zbk, Zet, hlen, Za8, Zba, Zb9, Zb1, Zc9, Zcl, Zco, Ybc, Ybd, Yb7, Yb8, Zaa, Yb4, Yaw, Yb5, sz9, sz24, st24, st27, Za1 (hcv _), hres, Ze6]
  simp only [Zai, Za7, Zao, Za3, Zae, Zan, Za9, ne_eq, reduceCtorEq, not_false_eq_true, implies_true, Yav, Ya2, Yas, Yat, Yak, Yal, Zau, ↓reduceIte, Za0, Za6, Za2, Zab, Zag, Zam, Zb6, Zay, Za1 (hcv _)]
  cases hp3 : m.kind == 7
  rotate_left
  · simp only [Yap, Yaq, Nat.reduceAdd, Yaj, Yar, Zak, Zcd, Zae, Zan, Za9, Zcf, Yam, Yan, Yau, Nat.reduceLeDiff, ne_eq, reduceCtorEq, not_false_eq_true, implies_true, Ya2, Yas, Yat, Yak, Yal, Zb5, ↓reduceIte, Za4, Zbb, Zbl, Za5, Zap, Zab, Zam, Zcw, Zfh, Zad, Zac, Zd9, and_self, Zar, Zbk, Zet, hlen, Za8, Zba, Zb9, Zb1, Zc9, Zdl, Zcl, Zct, Zco, Ybc, Ybd, Yb7, Yb8, Zaa, Yaw, Yb5, sz3, sz22, st27, Za1 (hcv _), hres, Ze6]
  simp only [Zai, Za7, Zao, Za3, Zae, Zan, Za9, ne_eq, reduceCtorEq, not_false_eq_true, implies_true, Yav, Ya2, Yas, Yat, Yak, Yal, Zau, ↓reduceIte, Za0, Za6, Za2, Zab, Zag, Zam, Zb6, Zay, Za1 (hcv _)]
  cases hp4 : m.kind == 10
  rotate_left
  · simp only [Yap, Yaq, Nat.reduceAdd, Yaj, Yar, Zak, Zcd, Zae, Zan, Za9, Zcf, Yam, Yan, Yau, Nat.reduceLeDiff, ne_eq, reduceCtorEq, not_false_eq_true, implies_true, Ya2, Yas, Yat, Yak, Yal, Zb5, ↓reduceIte, Za4, Zbb, Zbl, Za5, Zap, Zab, Zam, Zax, Zfh, Zad, Zac, Zd9, and_self, Zar, Zbk, Zet, hlen, Za8, Zba, Zb9, Zb1, Zc9, Zcl, Zco, Ybc, Ybd, Yb7, Yb8, Zaa, Yaw, Yb5, sz3, sz4, st27, Za1 (hcv _), hres, Ze6]
  simp only [Zai, Za7, Zao, Za3, Zae, Zan, Za9, ne_eq, reduceCtorEq, not_false_eq_true, implies_true, Yav, Ya2, Yas, Yat, Yak, Yal, Zau, ↓reduceIte, Za0, Za6, Za2, Zab, Zag, Zam, Zb6, Zay, Za1 (hcv _)]
  cases hp5 : m.kind == 11
  rotate_left
  · simp only [Yap, Yaq, Nat.reduceAdd, Yaj, Yar, Zak, Zcd, Zae, Zan, Za9, Zcf, Yam, Yan, Yau, ne_eq, reduceCtorEq, not_false_eq_true, implies_true, Ya2, Yas, Yat, Yak, Yal, Zb5, ↓reduceIte, Za4, Zbb, Zbl, Za5, Zap, Zab, Zam, Zfh, Zad, Zac, Zd9, and_self, Yaf, Zar, Zbk, Zet, hlen, Za8, Zba, Zb9, Zb1, Zc9, Zcl, Zco, Ybc, Ybd, Yb7, Yb8, Zaa, Yaw, Yb5, Yab, sz25, st27, Za1 (hcv _), hres, Ze6]
  simp only [Zai, Za7, Zao, Za3, Zae, Zan, Za9, ne_eq, reduceCtorEq, not_false_eq_true, implies_true, Yav, Ya2, Yas, Yat, Yak, Yal, Zau, ↓reduceIte, Za0, Za6, Za2, Zab, Zag, Zam, Zb6, Zay, Za1 (hcv _)]
  cases hp6 : m.kind == 12
  rotate_left
  · simp only [Yap, Yaq, Nat.reduceAdd, Yaj, Yar, Zak, Zcd, Zae, Zan, Za9, Zcf, Yam, Yan, Yau, Nat.reduceLeDiff, ne_eq, reduceCtorEq, not_false_eq_true, implies_true, Ya2, Yas, Yat, Yak, Yal, Zbu, Zb5, Yax, Yay, Zb7, ↓reduceIte, Za4, Zdk, Zbb, Zbl, Za5, Za2, Zap, Zab, Zaq, Zam, Zfh, Zad, Zac, Zd9, and_self, Yaf, Zar, Zbk, Zet, hlen, Za8, Zba, Zb9, Zb1, Zb0, Zc9, Zb8, Zcl, Zco, Ybc, Ybd, Yb7, Yb8, Yba, Zaa, Yb3, Yaw, Yb5, Yab, sz24, sz25, st27, Za1 (hcv _), hres, Zhx, List.zip_nil_right, Ze6]
  simp only [Yap, Zbw, Zao, Zcd, Yav, ↓reduceIte, Zfh, Zad, Zac, Zd9, hlen, hres, Ze6]
end Go.Abs
namespace Go.Abs
section
variable {P : Program} {pr : FuncId → List D → Option D} {cv : FuncId → Nat → List Cv} {β : Type} {k : X × St → Option β} {fn : FuncId} {s : St} {c a b : Code} {l : Nat}
noncomputable def kGo (P : Program) (pr : FuncId → List D → Option D) (cv : FuncId → Nat → List Cv) (fn : FuncId) (c : Code) (s : St) (l : Nat) (k : X × St → Option β) (o : Option Code) : Option β :=
  match o with
  | some rest => kIn P pr cv fn c rest s k
  | none => k (.gto l, s)
theorem Zho : Zop P pr cv fn c k (.gto l, s) = kGo P pr cv fn c s l k (findLabel c l) := by
  cases h : findLabel c l with
  | none => simp [Zop, kGo, h]
  | some r => rw [kScope_gto h]; rfl
theorem Zil : kGo P pr cv fn c s l k (some a) = kIn P pr cv fn c a s k := rfl
def flS (b : Code) (l : Nat) (o : Option Code) : Option Code := match o with | some r => some (.seq r b) | none => findLabel b l
theorem Zmk : findLabel (.seq a b) l = flS b l (findLabel a l) := by simp only [findLabel]; rfl
theorem Ziq : flS b l (some a) = some (.seq a b) := rfl
theorem Zir : flS b l none = findLabel b l := rfl
theorem Zip {l' : Nat} : findLabel (.label l') l = if l' == l then some .skip else none := by simp only [findLabel]
theorem Zqh : findLabel .ret l = none := by simp only [findLabel]
theorem Zhp {i : Nat} {ops : Array Oper} {d : Bool} : findLabel (.region i ops d) l = none := by simp only [findLabel]
theorem Zks {x : Operand} : findLabel (.cond x a b) l = none := by simp only [findLabel]
theorem Zrs {i : Nat} : findLabel (.block i a) l = none := by simp only [findLabel]
end
section
variable {tl : List D} {df : List (FuncId × List D)} {r : Rc} {h : List O} {t : Tmp} {d : D} {fu ex : Bool} {sz : Nat} {es : List (List E)}
def tkV (tl : List D) (df : List (FuncId × List D)) (r : Rc) (h : List O) (t : Tmp) (d : D) : Option (D × St) := if ownD d then some (d, ⟨tl.set t (Zlo d), df, r, h⟩) else some (d, ⟨tl, df, r, h⟩)
theorem Zdd : tk ⟨tl, df, r, h⟩ (.tmp t) = tkV tl df r h t (tl.getD t Zaw) := rfl
theorem Zcn (ho : ownD d = true) : tkV tl df r h t d = some (d, ⟨tl.set t (Zlo d), df, r, h⟩) := by simp [tkV, ho]
def shV (tl : List D) (df : List (FuncId × List D)) (r : Rc) (h : List O) (t : Tmp) (d : D) : Option (D × St) := if ownD d then (match d with | .tup _ => none | _ => some (shr d, ⟨tl.set t (kep d), df, r, h⟩)) else some (d, ⟨tl, df, r, h⟩)
theorem Zgf : sh ⟨tl, df, r, h⟩ (.tmp t) = shV tl df r h t (tl.getD t Zaw) := rfl
theorem Zfb (ho : ownD (.osl ex fu sz es) = true) : shV tl df r h t (.osl ex fu sz es) = some (shr (.osl ex fu sz es), ⟨tl.set t (kep (.osl ex fu sz es)), df, r, h⟩) := by simp [shV, ho]
theorem Zfj : ownD (.osl true fu sz es) = true := of_decide_eq_true rfl
theorem Zd6 : ownD (.osl ex false sz es) = true := by cases ex <;> exact of_decide_eq_true rfl
theorem Zf5 : own0 (.osl ex false sz es) = true := by cases ex <;> exact of_decide_eq_true rfl
theorem Zcg : Zlo (.osl true fu sz es) = .hdr es.length := rfl
theorem Zj5 : Zlo (.osl false false sz es) = .e (.sl es) := rfl
theorem Zi2 : left (.osl true fu sz es) = .hdr es.length := rfl
theorem Zn6 : left (.osl false false sz es) = .e (.sl es) := rfl
theorem Zgx : Zh7 (.osl true fu sz es) = .hdr es.length := rfl
theorem Zoa : Zh7 (.osl false false sz es) = .e (.sl es) := rfl
theorem Zkk : shr (.osl ex true sz es) = .osl false true sz es := rfl
theorem Zi8 : shr (.osl ex false sz es) = .e (.sl es) := rfl
theorem Zf6 : kep (.osl ex fu sz es) = .osl false fu sz es := rfl
theorem Zhk : kep0 (.osl ex fu sz es) = .osl false fu sz es := rfl
theorem Zd7 {vs : List D} : ownD (.tup vs) = vs.any ownA := rfl
theorem Zg4 {x : E} : ownA (.e x) = false := of_decide_eq_true rfl
theorem Zhm : ownA (.osl false true sz es) = false := of_decide_eq_true rfl
theorem Zhh : ownA (.osl ex false sz es) = true := by cases ex <;> exact of_decide_eq_true rfl
theorem Zii {cs : List D} : ownA (.agg cs) = cs.any own0 := rfl
theorem Zfp {vs : List D} : Zlo (.tup vs) = .tup (vs.map left) := rfl
theorem Ziw {x : E} : left (.e x) = .e x := rfl
theorem left_osl0 : left (.osl false true sz es) = .osl false true sz es := rfl
theorem Zq9 {cs : List D} : left (.agg cs) = .agg (cs.map Zh7) := rfl
theorem Zqu {x : E} : Zh7 (.e x) = .e x := rfl
end
section
variable {P : Program} {pr : FuncId → List D → Option D} {cv : FuncId → Nat → List Cv} {β : Type} {k : X × St → Option β} {tl : List D} {df : List (FuncId × List D)} {r : Rc} {h : List O} {all : Array Oper} {l : List Oper}
noncomputable def kY (P : Program) (pr : FuncId → List D → Option D) (cv : FuncId → Nat → List Cv) (all : Array Oper) (l : List Oper) (dst : Option Tmp) (k : X × St → Option β) (f : D) (v : Option (List D × St)) : Option β :=
  match f, v with
  | .func (.yield lp) [] [], some (ds, s1) => kC P pr cv all l dst s1 k (call P pr cv (.round lp) ds s1.h)
  | .func (.func g) first cap, some (ds, s1) => if Zlu first && Zlu cap then kC P pr cv all l dst s1 k (call P pr cv (.fn g) (first ++ ds ++ cap) s1.h) else none
  | _, _ => none
theorem Zod {dst : Option Tmp} {lp : Nat} {ds : List D} : kY P pr cv all l dst k (.func (.yield lp) [] []) (some (ds, ⟨tl, df, r, h⟩)) = kC P pr cv all l dst ⟨tl, df, r, h⟩ k (call P pr cv (.round lp) ds h) := rfl
theorem Zh8 {dst : Option Tmp} {g : FuncId} {first cap ds : List D} : kY P pr cv all l dst k (.func (.func g) first cap) (some (ds, ⟨tl, df, r, h⟩)) = if Zlu first && Zlu cap then kC P pr cv all l dst ⟨tl, df, r, h⟩ k (call P pr cv (.fn g) (first ++ ds ++ cap) h) else none := rfl
theorem Zfo : Zlu [] = true := rfl
theorem Zew {d : D} {ds : List D} : Zlu (d :: ds) = (!ownD d && Zlu ds) := by simp [Zlu]
theorem Zhi {dst : Option Tmp} {t : Tmp} {args : Array Operand} {ats : Array TypeId} {ty : TypeId} {pos : String} {af : Array Edge} :
    ko P pr cv all (⟨dst, .call { callee := .value (.tmp t), args := args, argTypes := ats }, ty, pos, af, none⟩ :: l) ⟨tl, df, r, h⟩ k = kY P pr cv all l dst k (tl.getD t Zaw) (tks ⟨tl, df, r, h⟩ args.toList) := by
  have hbad : Zfy ⟨dst, .call { callee := .value (.tmp t), args := args, argTypes := ats }, ty, pos, af, none⟩ ⟨tl, df, r, h⟩ = .bad → ko P pr cv all (⟨dst, .call { callee := .value (.tmp t), args := args, argTypes := ats }, ty, pos, af, none⟩ :: l) ⟨tl, df, r, h⟩ k = none := by
    intro hb
    unfold ko
    rw [Zlg rfl, hb]
    rfl
  cases ht : tks ⟨tl, df, r, h⟩ args.toList with
  | none =>
    rw [hbad (by
      simp only [Zfy, rd, ht]
      generalize tl.getD t Zaw = v
      split <;> simp_all)]
    unfold kY
    split <;> simp_all
  | some q =>
    obtain ⟨ds, s1⟩ := q
    generalize hv : tl.getD t Zaw = v
    cases v with
    | func fn first cap =>
      cases fn with
      | func g =>
        by_cases hno : (Zlu first && Zlu cap) = true
        · rw [ko_go (g := .fn g) (args := first ++ ds ++ cap) (s1 := s1) rfl (by simp only [Zfy, rd, hv, ht, hno, if_true])]
          simp only [kY, hno, if_true]
        · rw [hbad (by simp only [Zfy, rd, hv, ht, if_neg hno])]
          simp only [kY, if_neg hno]
      | yield lp =>
        cases first with
        | nil => cases cap with
          | nil =>
            rw [ko_go (g := .round lp) (args := ds) (s1 := s1) rfl (by simp only [Zfy, rd, hv, ht])]
            rfl
          | cons c cs =>
            rw [hbad (by simp only [Zfy, rd, hv, ht])]
            rfl
        | cons c cs =>
          rw [hbad (by simp only [Zfy, rd, hv, ht])]
          rfl
      | _ =>
        rw [hbad (by simp only [Zfy, rd, hv, ht])]
        rfl
    | _ =>
      rw [hbad (by simp only [Zfy, rd, hv, ht])]
      rfl
end
theorem cv1_kp {tl : List D} {df : List (FuncId × List D)} {r : Rc} {h : List O} {t : Tmp} : cv1 ⟨tl, df, r, h⟩ (.kp t) = if ownD (tl.getD t Zaw) && notTup (tl.getD t Zaw) then ⟨tl.set t (kep (tl.getD t Zaw)), df, r, h⟩ else ⟨tl, df, r, h⟩ := rfl
theorem Zci {P : Program} {l : List Oper} {dst : Option Tmp} {ty : TypeId} {pos : String} {af : Array Edge} {g : Option (Nat × Bool)} {x : Operand} {s : St} : exOp P l ⟨dst, .move x, ty, pos, af, g⟩ s = (if taken l dst then tk s x else sh s x).map fun r => (.val r.1, r.2) := rfl
theorem bab (a b : ByteArray) : (a == b) = decide (a = b) := by
  show (a.data == b.data) = _
  by_cases h : a = b
  · subst h; simp
  · have : a.data ≠ b.data := fun e => h (by cases a; cases b; simp_all)
    simp [h, this]
end Go.Abs
namespace Go.Abs
open Go Go.Proofs
set_option maxRecDepth 10000
set_option maxHeartbeats 4000000
def Msg.asker' (m : Msg) : Int := if Zwa m.kind = true then m.frm else m.to
noncomputable def Msg.right (m : Msg) : Bool :=
  !decide (m.kind < 1) && (!decide (13 ≤ m.kind) && (Zfc m.frm && (Zfc m.to && (!(m.frm == m.to) && (!decide (m.call < 1) && ((IntKind.i64.wrap (Int.tdiv (IntKind.i64.wrap (m.call - 1)) 1048576) == m.asker') &&
    (m.fine && (decide (m.off.list = m.head.list) && Zlk m.off m.head))))))))
theorem w25 (m : Msg) (l : D) (hl : Rd l (isE m.list)) (hx : m.list.length ≤ 1099511627776) (h : List O) : wc 25 [.agg (m.cs l)] h = some (.val (.bool m.right), h) := by
  have h43 := w43 m l hl
  have h44 := w44 m l hl hx
  have h45 := w45 m l hl
  have hbl := offL_rd (m := m) hl
  have hbx : m.off.list.length ≤ 1099511627776 := by
    unfold Msg.off; repeat' split
    all_goals first | exact hx | simp []; exact hx | simp
  have h46 := w46 m.off m.head (Zti m l) (.osl false true 0 []) hbl Rd.osl hbx
  generalize hr' : (decide (m.off.list = m.head.list) && Zlk m.off m.head) = same at h46
  simp only [Msg.cs] at h43 h44 h45 h46
  simp only [Msg.head] at h46
  have hask : (if Zwa m.kind = true then m.frm else m.to) = m.asker' := rfl
  rw [hask] at h43
  have hcv : ∀ i, wcv 25 i = [] := fun _ => rfl
  have hres : Try.f25.results.toList = [ResultVar.tmp 2] := rfl
  rw [wc, Zbm rfl Try.func25 rfl]
  simp only [Zbj, Yap, Yaq, Nat.reduceAdd, Nat.reduceSub, Yae, Yaj, Yar, Zai, Zi4, Zic, Za3, Zae, Zan, Zas, Za9, Zcf, Yao, Yam, Yan, Yau, Nat.reduceLT, Nat.reduceLeDiff, ne_eq, reduceCtorEq, not_false_eq_true, implies_true, Yav, Ya2, Yas, Yat, Yak, Yal, Zau, Zbu, Yax, Yay, Zb7, Zd5, ↓reduceIte, Za4, Za0, Za6, Zd4, Zdq, Zdk, Zbb, Za5, Za2, Zap, Zab, Zag, Zaq, Zah, Zam, Zax, Zc6, Zbs, and_self, Option.some.injEq, Yaf, Zar, Zbe, Zbk, Zcr, Zdh, hlen, Zin, Za8, Zba, Zb9, Zb1, Zb0, Zb8, Zbt, Zco, Ybd, Yb7, Yb8, Ybi, Yba, Zaa, Zaj, Yb3, Yb4, Yaw, Yb5, Yab, sz3, sz5, sz27, ag3, ag5, st27, Za1 (hcv _), Try.ntmps25, Msg.cs, hl.own, zo27, Zpe, List.zip_cons_cons, List.zip_nil_right]
  cases h1 : decide (m.kind < 1)
  rotate_left
  · simp only [Yap, Yaq, Nat.reduceAdd, Zai, Zbw, Zb2, Zhn, Zic, Za7, Zak, Za3, Zgy, Zeg, Zae, Zan, Zas, Za9, Ze8, St.put, Yao, Yam, Yan, Yau, Nat.reduceLT, ne_eq, reduceCtorEq, not_false_eq_true, implies_true, Yb2, Ybg, Ya2, Yas, Yat, Yak, Yal, Zau, ↓reduceIte, Za4, Za0, Zat, Za2, Zap, Zbh, Zab, Zax, Zb3, Zad, Zac, Zal, Zav, Zbr, Option.some.injEq, Zb4, Yb1, Yaw, Za1 (hcv _), hres, h1, Msg.right, Zho, Zil, Zmk, Ziq, Zir, Zip, Zqh, Zhp, Zks, beq_self_eq_true]
  simp only [Yap, Yaq, Nat.reduceAdd, Zan, Zas, Za9, Zch, Yao, Yam, Yan, Yau, Nat.reduceLT, Nat.reduceLeDiff, ne_eq, reduceCtorEq, not_false_eq_true, implies_true, Yav, Ya2, Yas, Yat, Yak, Yal, Zau, Zb7, ↓reduceIte, Za4, Za6, Zat, Za5, Zaf, Zab, Zag, Zam, Zf2, Zeb, Option.some.injEq, Zar, Zbk, Za8, Zba, Zb9, Zbt, Zaa, Zaj, Yb4, Yaw, Yb5, sz5, ag5, st27]
  cases h2 : decide (13 ≤ m.kind)
  rotate_left
  · simp only [Yap, Yaq, Nat.reduceAdd, Zai, Zbw, Zb2, Zhn, Zic, Za7, Zak, Za3, Zgy, Zeg, Zae, Zan, Zas, Za9, Ze8, St.put, Yao, Yam, Yan, Yau, Nat.reduceLT, ne_eq, reduceCtorEq, not_false_eq_true, implies_true, Yb2, Ybg, Ya2, Yas, Yat, Yak, Yal, Zau, ↓reduceIte, Za4, Za0, Zat, Za2, Zap, Zbh, Zab, Zax, Zb3, Zad, Zac, Zal, Zav, Zbr, Option.some.injEq, Zb4, Yb0, Yb1, Yaw, Za1 (hcv _), hres, h2, h1, Msg.right, Zho, Zil, Zmk, Ziq, Zir, Zip, Zqh, Zhp, Zks, beq_self_eq_true]
  simp only [Yap, Yaq, Nat.reduceAdd, Zan, Zbf, Zbg, Zas, Za9, Zbq, Zch, Yao, Yam, Yan, Yau, Nat.reduceLT, Nat.reduceLeDiff, ne_eq, reduceCtorEq, not_false_eq_true, implies_true, Yav, Ya2, Yas, Yat, Yak, Yal, Zau, Zb7, ↓reduceIte, Za4, Ze0, Zat, Za5, Za2, Zaf, Zab, Zaq, Zah, Zf4, Option.some.injEq, Zar, Zbk, Za8, Zba, Zb9, Zbt, Zaa, Zaj, Yaw, Yb5, sz3, ag3, st27, w42]
  cases h3 : Zfc m.frm
  · simp only [Yap, Yaq, Nat.reduceAdd, Zai, Zbw, Zb2, Zhn, Zic, Za7, Zak, Za3, Zgy, Zeg, Zae, Zan, Zas, Za9, Ze8, St.put, Yao, Yam, Yan, Yau, Nat.reduceLT, ne_eq, reduceCtorEq, not_false_eq_true, implies_true, Ybg, Ya2, Yas, Yat, Yak, Yal, Zau, ↓reduceIte, Za4, Za0, Zat, Za2, Zap, Zbh, Zab, Zax, Zb3, Zad, Zac, Zal, Zav, Zbr, Option.some.injEq, Zb4, Yb0, Yb1, Yaw, Za1 (hcv _), hres, h3, h2, h1, Msg.right, Zho, Zil, Zmk, Ziq, Zir, Zip, Zqh, Zhp, Zks, beq_self_eq_true]
  simp only [Yap, Yaq, Nat.reduceAdd, Zan, Zbf, Zbg, Zas, Za9, Zbq, Zch, Yao, Yam, Yan, Yau, Nat.reduceLT, Nat.reduceLeDiff, ne_eq, reduceCtorEq, not_false_eq_true, implies_true, Yb2, Yav, Ya2, Yas, Yat, Yak, Yal, Zau, Zb7, ↓reduceIte, Za4, Ze0, Zat, Za5, Za2, Zaf, Zab, Zaq, Zah, Zf4, Option.some.injEq, Zar, Zbk, Za8, Zba, Zb9, Zbt, Zaa, Zaj, Yaw, Yb5, sz3, ag3, st27, w42]
  cases h4 : Zfc m.to
  · simp only [Yap, Yaq, Nat.reduceAdd, Zai, Zbw, Zb2, Zhn, Zic, Za7, Zak, Za3, Zgy, Zeg, Zae, Zan, Zas, Za9, Ze8, St.put, Yao, Yam, Yan, Yau, Nat.reduceLT, ne_eq, reduceCtorEq, not_false_eq_true, implies_true, Ybg, Ya2, Yas, Yat, Yak, Yal, Zau, ↓reduceIte, Za0, Zat, Za2, Zap, Zbh, Zab, Zax, Zb3, Zad, Zac, Zal, Zav, Zbr, Option.some.injEq, Zb4, Yb0, Yb1, Yaw, Za1 (hcv _), hres, h4, h3, h2, h1, Msg.right, Zho, Zil, Zmk, Ziq, Zir, Zip, Zqh, Zhp, Zks, beq_self_eq_true]
  simp only [Yap, Yaq, Nat.reduceAdd, Za7, Za3, Zae, Zan, Zas, Za9, Zch, Yao, Yam, Yan, Yau, Nat.reduceLT, Nat.reduceLeDiff, ne_eq, reduceCtorEq, not_false_eq_true, implies_true, Yb2, Yav, Ya2, Yas, Yat, Yak, Yal, Zau, Zb7, ↓reduceIte, Za6, Zat, Za5, Zaf, Zab, Zb6, Zay, Option.some.injEq, Zar, Zbk, Za8, Zba, Zb9, Zbt, Zaa, Zaj, Yaw, Yb5, sz3, ag3, st27]
  cases h5 : m.frm == m.to
  rotate_left
  · simp only [Zai, Zbw, Zb2, Zhn, Zic, Zak, Za3, Zgy, Zeg, Zae, Zan, Za9, ne_eq, reduceCtorEq, not_false_eq_true, implies_true, Yb2, Ybg, Ya2, Yas, Yat, Yak, Yal, Zau, ↓reduceIte, Za0, Za2, Zap, Zax, Zb3, Zad, Zac, Zal, Zav, Zbr, Zb4, Yb0, Yb1, Za1 (hcv _), hres, h5, h4, h3, h2, h1, Msg.right, Zho, Zil, Zmk, Ziq, Zir, Zip, Zqh, Zhp, Zks, beq_self_eq_true]
  simp only [Zai, Zbw, Zao, Za3]
  refine (Zed (l := Zv5) (by exact Zyg)).trans ?_
  simp only [Yap, Yaq, Nat.reduceAdd, Yao, Yam, Yan, Yau, Nat.reduceLT, Nat.reduceLeDiff, ne_eq, reduceCtorEq, not_false_eq_true, implies_true, Yav, Ya2, Yas, Yat, Yak, Yal, Zau, Ze5, Zb5, Yax, Yay, ↓reduceIte, Za6, Za5, Zab, Zag, Zam, Zc6, Zbs, Ybj, Option.some.injEq, kd_l, Zc3, Zc2, kd_r, Zc4, Zdo, Zc7, Zbc, Zbv, Zaz, Zd1, Zcv, Zcb, Zcu, Zby, Zbx, Zdz, Zgk, Zbp, Op.operands, Zg6, Zfm, Zdn, List.foldl_nil, Zar, Zbk, Za8, Zba, Zb9, Zaa, Yb3, Yaw, Yb5, sz3, ag3, st27, hcv, Zsr, Zv5]
  cases h6 : decide (m.call < 1)
  rotate_left
  · simp only [Yap, Yaq, Nat.reduceAdd, Zai, Zbw, Zb2, Zhn, Zic, Za7, Zak, Za3, Zgy, Zeg, Zae, Zan, Za9, St.put, Yao, Yam, Yan, Yau, Nat.reduceLT, ne_eq, reduceCtorEq, not_false_eq_true, implies_true, Yb2, Ybg, Ya2, Yas, Yat, Yak, Yal, Zau, Ze5, Yax, Yay, ↓reduceIte, Za0, Zat, Za2, Zap, Zbh, Zab, Zax, Zb3, Zad, Zac, Zal, Zav, Zbr, Ybj, Option.some.injEq, Zdy, kd_l, Zc3, Zc2, kd_r, Zd1, Zcv, Zby, Zbx, Zdz, Zi1, Op.operands, Zb4, Yb3, Yb0, Yb1, Yaw, Za1 (hcv _), hres, kd_h, Zsr, Zvs, kdRO_g, Zyx, Znz, Zss, h6, h5, h4, h3, h2, h1, Msg.right, Zho, Zil, Zmk, Ziq, Zir, Zip, Zqh, Zhp, Zks, beq_self_eq_true]
  simp only [Yap, Yaq, Nat.reduceAdd, Yao, Yam, Yan, Yau, Nat.reduceLT, Nat.reduceLeDiff, implies_true, Ybg, Yav, Ya2, Yas, Yat, Yak, Yal, Zau, Zbu, Zb5, Yax, Yay, Zb7, ↓reduceIte, Za6, Zat, Za5, Za2, Zaf, Zab, Zag, Zaq, Zah, Zam, Zgn, Zlb, Zem, Zg1, Zdm, and_self, Ybj, Option.some.injEq, kd_l, Zc3, Zc2, kd_r, Zdo, Zd1, Zcv, Zcb, Zcu, Zby, Zbx, Zdz, Zi1, Zgk, Zbp, Op.operands, Zg6, Zfm, Zar, Zbk, Za8, Zba, Zb9, Ybc, Ybd, Yb8, Ybi, Yba, Zaa, Yb3, Yaw, Yb5, Yab, sz3, sz27, ag3, ag27, st27, kd_h, Zbz, Zsr, Zqc, kdRO_g, Zrp, Znz, Zoc, Zcj, Zck, Zdp, Zdf, Zc1, Zce, Zcc, List.all_cons, List.all_nil, Bool.and_self, hl.own, hl.exc, hl.shr, h43, Zju (show (1048576 : Int) ≠ 0 by decide)]
  cases h7 : (IntKind.i64.wrap (Int.tdiv (IntKind.i64.wrap (m.call - 1)) 1048576) == m.asker')
  · have h7' : (IntKind.i64.wrap (Int.tdiv (IntKind.i64.wrap (m.call - 1)) 1048576) != m.asker') = true := by simp [bne, h7]
    simp only [Yap, Yaq, Nat.reduceAdd, Zai, Zbw, Zb2, Zhn, Zic, Za7, Zak, Za3, Zgy, Zeg, Zae, Zan, Za9, St.put, Yao, Yam, Yan, Yau, Nat.reduceLT, ne_eq, reduceCtorEq, not_false_eq_true, implies_true, Ybg, Ya2, Yas, Yat, Yak, Yal, Zau, Ze5, Yax, Yay, ↓reduceIte, Za0, Zat, Za2, Zap, Zbh, Zab, Zax, Zb3, Zad, Zac, Zal, Zav, Zbr, Ybj, Option.some.injEq, Zdy, kd_l, Zc3, Zc2, Zcv, Zby, Zbx, Zdz, Zi1, Op.operands, Zb4, Yb3, Yb0, Yb1, Yaw, Za1 (hcv _), hres, kd_h, Zsr, Zvs, Zyx, Znz, Zss, h7, h7', h6, h5, h4, h3, h2, h1, Msg.right, Zho, Zil, Zmk, Ziq, Zir, Zip, Zqh, Zhp, Zks, beq_self_eq_true]
  have h7' : (IntKind.i64.wrap (Int.tdiv (IntKind.i64.wrap (m.call - 1)) 1048576) != m.asker') = false := by simp [bne, h7]
  simp only [Yap, Yaq, Nat.reduceAdd, Za7, Za3, St.put, Yao, Yam, Yan, Yau, Nat.reduceLT, Nat.reduceLeDiff, implies_true, Yav, Ya2, Yas, Yat, Yak, Yal, Zau, Zbu, Yax, Yay, Zb7, ↓reduceIte, Ze0, Zat, Za2, Zaf, Zab, Zaq, Zah, Zf4, and_self, Ybj, Option.some.injEq, Zdy, kd_l, Zc3, Zc2, Zcv, Zcb, Zcu, Zby, Zbx, Zdz, Zi1, Zma, Op.operands, Zg6, Zfm, Zar, Zbk, Za8, Ybc, Ybd, Yb8, Ybi, Yba, Yb3, Yaw, Yab, sz3, sz27, ag3, ag27, kd_h, Zbz, Zsr, Zqc, Zrp, Znz, Zoc, Zcj, Zck, Zdp, Zdf, Zc1, Zce, Zcc, Zf8, Zej, Zf9, List.all_nil, Bool.and_self, h7', hl.own, hl.exc, hl.shr, h44]
  cases h8 : m.fine
  · simp only [Zai, Zbw, Zb2, Zhn, Zic, Zak, Za3, Zgy, Zeg, Zae, Zan, Za9, ne_eq, reduceCtorEq, not_false_eq_true, implies_true, Ybg, Ya2, Yas, Yat, Yak, Yal, Zau, ↓reduceIte, Za0, Za2, Zap, Zax, Zb3, Zad, Zac, Zal, Zav, Zbr, Zb4, Yb0, Yb1, Za1 (hcv _), hres, h8, h7, h6, h5, h4, h3, h2, h1, Msg.right, Zho, Zil, Zmk, Ziq, Zir, Zip, Zqh, Zhp, Zks, beq_self_eq_true]
  simp only [Yap, Yaq, Nat.reduceAdd, Zai, Zbw, Zb2, Zao, Za3, Zc0, Zeg, Zae, Zan, Zbf, Zbg, Za9, Zbq, Yau, ne_eq, reduceCtorEq, not_false_eq_true, implies_true, Yb2, Ybg, Yav, Ya2, Yas, Yat, Yak, Yal, Zau, Zbu, Zb5, Yax, Yay, Zb7, Zd5, ↓reduceIte, Za0, Za2, Zab, Zaq, Zah, Zb3, Zad, Zac, Zal, Zav, Zbr, Zar, Zbe, Zbk, Zcr, Za8, Zbt, Zb4, Ybc, Ybd, Yb8, Zaj, Yb3, Yb6, Yaw, Yab, sz27, ag27, Za1 (hcv _), hres, h8, h45, hbl.own, h46, h7, h6, h5, h4, h3, h2, h1, Msg.right, hr']
end Go.Abs
