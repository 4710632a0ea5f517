/-
  WIRE: Payload. WIRE: how long payloads are; Put. WIRE: the reader. WIRE: the reader, texts, lists, truths, pairs. WIRE: the reader, pairs. WIRE: a message's head, read. No condition.
-/
import Derived.Test.YtkimilghfbgjmaaP21

namespace Go.Abs
open Go Go.Proofs
set_option maxRecDepth 10000
set_option maxHeartbeats 4000000

def Ziw (m : Msg) : List UInt8 := Zdm [m.kind, m.call, m.frm, m.to]
/-- What its kind has. -/
def bodyL (m : Msg) : List UInt8 :=
  if m.kind == 4 then Zdm [m.key] ++ Zdm [bitZ m.slow] else
  if m.kind == 5 then pairL m.ikey m.ival m.iver m.gone else
  if m.kind == 6 then textL m.ikey else
  if m.kind == 7 then Zdm [IntKind.i64.wrap (m.pred + 1)] ++ listB m.list else
  if m.kind == 10 then Zdm [m.place] ++ Zdm [bitZ m.done] else
  if m.kind == 11 then Zdm [m.code] else
  if m.kind == 12 then Zdm [m.code] ++ (if m.code == 0 then pairL m.ikey m.ival m.iver m.gone else []) else []
def payL (m : Msg) : List UInt8 := Ziw m ++ bodyL m

theorem Zgl {P : Program} {t : TypeId} {ps rs : Array TypeId} {v : Bool} {f : Fn} {a b : List D} (hu : P.underlying t = some (.func ps rs v)) : binD P .neq t (.func f a b) (.e .nilfn) true = some (.e (.bool true)) := by simp [binD, nilCmp, hu]
theorem binF_nil {P : Program} {t : TypeId} {ps rs : Array TypeId} {v : Bool} (hu : P.underlying t = some (.func ps rs v)) : binD P .neq t (.e .nilfn) (.e .nilfn) true = some (.e (.bool false)) := by simp [binD, nilCmp, hu]
theorem Zcu {v : Value} : Region.isConst (.const v) = true := rfl
theorem build49 : buildD Try.prog 49 [] = some (.agg [.osl false true 0 []]) := by kernel_rfl

theorem Zfq {h : List O} {i : Nat} {k : E} : mapGet h (.map i) k = (match h[i]? with | some (.map es) => findD k es | _ => none) := by
  simp only [mapGet, mapEs]; cases h[i]? with
  | none => rfl
  | some o => cases o <;> rfl
theorem slD_ne {l : List UInt8} (h : l ≠ []) : slD l = .osl true false 1 (byE l) := by cases l; exact absurd rfl h; rfl
theorem okN_place {n : Int} (h : Zej n = true) : okN n = true := by rw [isPlace_iff] at h; simp [okN]; omega
theorem okN_val {n : Int} (h : 0 ≤ n ∧ n ≤ 1048576) : okN n = true := by simp [okN]; omega

theorem w12_bad (m : Msg) (l : D) (hl : Rd l (isE m.list)) (hx : m.list.length ≤ 1099511627776) (hr : m.right = false) (h : List O) : wc 12 [.agg (m.cs l)] h = some (.val (.tup [.osl false true 0 [], .int .i64 2]), h) := by
  have h25 := w25 m l hl hx
  rw [hr] at h25
  simp only [Msg.cs] at h25
  have hcv : ∀ i, wcv 12 i = [] := fun _ => rfl
  have hres : Try.f12.results.toList = [ResultVar.tmp 2, ResultVar.tmp 3] := rfl
  rw [wc, Zbt rfl Try.func12 rfl]
  simp only [Zbi, List.length_cons, List.length_nil, Nat.reduceAdd, Nat.reduceSub, List.replicate, List.cons_append, List.nil_append, Zaj, Zaz, Za7, Zal, Za3, Zbr, Zae, Zao, Zbe, Zbf, Za9, Zbq, Option.bind_some, ne_eq, reduceCtorEq, not_false_eq_true, implies_true, Bool.not_false, Bool.false_eq_true, Option.map_some, List.set_cons_succ, List.set_cons_zero, List.getD_cons_succ, List.getD_cons_zero, Zau, Zdj, Zbo, List.any_cons, List.any_nil, Zb3, ↓reduceIte, Za0, Zdn, Zd2, Za4, Zaq, Zac, Zaw, Zap, Zan, Zcj, Zes, Zb0, Zab, Zaa, Zah, Zd6, Zbm, Zcx, Zcw, List.forall_mem_cons, List.not_mem_nil, false_imp_iff, and_self, Zas, Zbg, Zad, Zb1, Zb9, Zbs, Zb2, List.take_succ_cons, List.take_zero, List.drop_zero, Zag, Bool.or_self, Nat.zero_add, Nat.le_refl, sz27, ag27, Za1 (hcv _), Try.ntmps12, hres, Msg.cs, hl.own, h25]

theorem w12 (m : Msg) (l : D) (hl : Rd l (isE m.list)) (hx : m.list.length ≤ 1099511627776) (hr : m.right = true) (hf : m.Fits) (h : List O) : wc 12 [.agg (m.cs l)] h = some (.val (.tup [.osl true false 1 (byE (payL m)), .int .i64 0]), h) := by
  have h25 := w25 m l hl hx
  rw [hr] at h25
  obtain ⟨n1, n2, n3, n4⟩ := fits_okN hf
  have hk1 := hf.k1
  have hk2 := hf.k2
  have hh : (Ziw m).length ≤ 28 := numsL_len (xs := [m.kind, m.call, m.frm, m.to]) (by simp [n1, n2, n3, n4])
  have h26 := w26 (h ++ [.cells (m.cs l), .cells [slD []]]) (h.length + 1) [] [m.kind, m.call, m.frm, m.to] (by simp [Zbp]) (by simp [n1, n2, n3, n4]) (by simp) (by simp)
  rw [Ze4] at h26
  have hhd : [] ++ Zdm [m.kind, m.call, m.frm, m.to] = Ziw m := rfl
  rw [hhd] at h26
  have h27 := w27 m l hl (h ++ [.cells (m.cs l), .cells [slD (Ziw m)]])
  have wk : IntKind.i64.wrap m.kind = m.kind := Zf9 (by omega) (by omega)
  obtain ⟨z, zs, hz⟩ : ∃ z zs, Ziw m = z :: zs := List.exists_cons_of_ne_nil (by simp [Ziw, Zdm, putL_ne])
  have isE4 : ∀ a b c d : Int, [[E.int .i64 a], [E.int .i64 b], [E.int .i64 c], [E.int .i64 d]] = isE [a, b, c, d] := fun _ _ _ _ => rfl
  simp only [Msg.cs, slD_nil, List.set_cons_succ, List.set_cons_zero, List.append_assoc, List.cons_append, List.nil_append, hlen, List.length_cons, List.length_nil, Nat.add_assoc, Nat.reduceAdd] at h25 h26 h27
  have hcv : ∀ i, wcv 12 i = [] := fun _ => rfl
  have hres : Try.f12.results.toList = [ResultVar.tmp 2, ResultVar.tmp 3] := rfl
  rw [wc, Zbt rfl Try.func12 rfl]
  simp only [Zbi, List.length_cons, List.length_nil, Nat.reduceAdd, Nat.reduceSub, List.replicate, List.cons_append, List.nil_append, Zaj, Zbz, Za7, Zar, Za3, Zae, Zao, Zbe, Zbf, Za9, Zbq, List.getElem?_cons_succ, List.getElem?_cons_zero, Option.bind_some, Nat.reduceLeDiff, ne_eq, reduceCtorEq, not_false_eq_true, implies_true, Bool.not_true, Bool.false_eq_true, Option.map_some, List.set_cons_succ, List.set_cons_zero, List.getD_cons_succ, List.getD_cons_zero, Zau, Zbo, Zbk, List.any_cons, List.any_nil, Zb3, Zds, ↓reduceIte, Za0, Zdn, Zck, Zd2, Zdv, Zby, Za5, Za4, Zaf, Zaq, Zac, Zaw, Zap, Ze7, Zd9, Zan, Zcj, Zes, Zas, Zbg, hlen, Zi9, Zad, Zb6, Zb5, Zb1, Zb9, Zbs, List.take_succ_cons, List.take_zero, List.drop_zero, List.map_cons, List.map_nil, Za8, Zag, Bool.or_self, Nat.add_zero, Nat.zero_add, Nat.succ_ne_zero, Nat.le_refl, sz3, sz5, sz27, ag3, ag5, ag27, st27, Za1 (hcv _), Try.ntmps12, Msg.cs, hl.own, h25, build49, List.zip_nil_right, List.zip_cons_cons, Zey Try.underlying5 Try.underlying3, wk, bs22_4, isE4, back, Zcp, taken, Zbj, Zdo, Zdb, Zcg, Zev, Zc1, h26]
  refine (Zf8 (l := plan12_5) (by exact plan12_5_eq)).trans ?_
  have hne : Ziw m ≠ [] := by rw [hz]; simp
  have hfi := hf.fine
  have HP : Zbp (h ++ [.cells (m.cs l), .cells [slD (Ziw m)], .cells (m.cs l), .map (Zhk (h.length + 2))]) (h.length + 1) = some [slD (Ziw m)] := by simp [Zbp]
  have HQ : Zbp (h ++ [.cells (m.cs l), .cells [slD (Ziw m)], .cells (m.cs l), .map (Zhk (h.length + 2))]) (h.length + 2) = some (m.cs l) := by simp [Zbp]
  have HPQ : h.length + 1 ≠ h.length + 2 := by omega
  have HC : (Ziw m).length ≤ 1000 := by omega
  cases k4 : m.kind == 4
  rotate_left
  · simp only [Msg.fine, k4, if_true, beq_iff_eq] at hfi
    have hcl := w48 _ _ _ (Ziw m) m l HP HQ HPQ HC (okN_place hfi)
    have hb : payL m = Ziw m ++ (Zdm [m.key] ++ Zdm [bitZ m.slow]) := by simp only [payL, bodyL, k4, if_true]
    try rw [List.append_assoc] at hcl
    rw [← hb, Ze4, slD_ne (l := payL m) (by rw [hb, hz]; simp)] at hcl
    simp only [Msg.cs, Zhk, List.set_cons_succ, List.set_cons_zero] at hcl
    simp only [List.length_cons, List.length_nil, Nat.reduceAdd, List.cons_append, List.nil_append, Zaj, Zaz, Za7, Zal, Za3, Zae, Zao, Za9, Zbq, St.put, List.getElem?_toArray, List.getElem?_cons_succ, List.getElem?_cons_zero, Option.bind_some, Nat.reduceLeDiff, ne_eq, reduceCtorEq, not_false_eq_true, implies_true, Bool.not_false, Bool.true_eq_false, Bool.false_eq_true, Option.map_some, List.set_cons_succ, List.set_cons_zero, List.getD_cons_succ, List.getD_cons_zero, Zau, Zbo, Zbk, Zda, Zfu, List.any_cons, List.any_nil, Zb3, Bool.or_false, ↓reduceIte, Za0, Za6, Zbd, Za5, Za4, Zaf, Zaq, Zac, Zai, Zaw, Zap, Zan, Zdt, Zb0, Zab, Zaa, Zah, Zd6, Zbm, Zcx, Zcw, List.forall_mem_cons, List.not_mem_nil, false_imp_iff, and_self, List.toList_toArray, Option.some.injEq, Ze5, kd_l, Zc5, Zc4, kd_r, Zcf, Zee, Zbn, Zba, Zcs, Zci, Zde, Zbx, Zbw, Zbu, Zeb, Op.operands, Zg3, Zfp, Ze2, List.foldl_nil, List.append_nil, Zas, Zbh, Zbg, Zcz, Ze4, hgetn, Zad, Zb6, Zb5, Zb4, Zbs, Zb2, List.take_succ_cons, List.take_zero, List.drop_succ_cons, List.drop_zero, List.map_cons, List.map_nil, Za8, Zag, Bool.or_self, Nat.add_zero, Nat.zero_add, Nat.succ_ne_zero, Nat.le_refl, sz5, sz27, sz31, ag5, ag27, ag31, st27, Za1 (hcv _), hcv, hres, kd_h, Zca, Zd4, Zd5, Zex, Ze3, Zdk, Zcb, Zcc, Zcd, Zfc, Zen, Zff, List.all_cons, List.all_nil, Bool.and_self, plan12_5, hl.own, hl.exc, hl.shr, h27, Zdd, back, Zcp, taken, Zbj, Zdo, beq_self_eq_true, Nat.reduceBEq, Zdb, Zcg, Zd1, Zfn, Zc1, Zh1, ko_val, Zio, Zgi, Zfv, Zew, mp52, key5, Zfq, Zhk, Zhd, show Nat.testBit 15 1 = true by decide, show Nat.testBit 31 3 = true by decide, show Nat.testBit 31 4 = true by decide, show Nat.testBit 31 0 = true by decide, show Nat.testBit 1 0 = true by decide, st49, zo51, Zcu, Zgl Try.underlying51, k4, hcl]
  cases k5 : m.kind == 5
  rotate_left
  · simp only [Msg.fine, k4, k5, if_true, Bool.false_eq_true, if_false, finePair_iff, beq_iff_eq] at hfi
    have hcl := w50 _ _ _ (Ziw m) m l HP HQ HPQ hl HC (by omega) (okN_val hfi.2.1) (okN_val hfi.2.2)
    have hb : payL m = Ziw m ++ (pairL m.ikey m.ival m.iver m.gone) := by simp only [payL, bodyL, k4, k5, if_true, Bool.false_eq_true, if_false]
    try rw [List.append_assoc] at hcl
    rw [← hb, Ze4, slD_ne (l := payL m) (by rw [hb, hz]; simp)] at hcl
    simp only [Msg.cs, Zhk, List.set_cons_succ, List.set_cons_zero] at hcl
    simp only [List.length_cons, List.length_nil, Nat.reduceAdd, List.cons_append, List.nil_append, Zaj, Zaz, Za7, Zal, Za3, Zae, Zao, Za9, Zbq, St.put, List.getElem?_toArray, List.getElem?_cons_succ, List.getElem?_cons_zero, Option.bind_some, Nat.reduceLeDiff, ne_eq, reduceCtorEq, not_false_eq_true, implies_true, Bool.not_false, Bool.true_eq_false, Bool.false_eq_true, Option.map_some, List.set_cons_succ, List.set_cons_zero, List.getD_cons_succ, List.getD_cons_zero, Zau, Zbo, Zbk, Zda, Zfu, List.any_cons, List.any_nil, Zb3, Bool.or_false, ↓reduceIte, Za0, Za6, Zbd, Za5, Za4, Zaf, Zaq, Zac, Zai, Zaw, Zap, Zan, Zdt, Zb0, Zab, Zaa, Zah, Zd6, Zbm, Zcx, Zcw, List.forall_mem_cons, List.not_mem_nil, false_imp_iff, and_self, List.toList_toArray, Option.some.injEq, Ze5, kd_l, Zc5, Zc4, kd_r, Zcf, Zee, Zbn, Zba, Zcs, Zci, Zde, Zbx, Zbw, Zbu, Zeb, Op.operands, Zg3, Zfp, Ze2, List.foldl_nil, List.append_nil, Zas, Zbh, Zbg, Zcz, Ze4, hgetn, Zad, Zb6, Zb5, Zb4, Zbs, Zb2, List.take_succ_cons, List.take_zero, List.drop_succ_cons, List.drop_zero, List.map_cons, List.map_nil, Za8, Zag, Bool.or_self, Nat.add_zero, Nat.zero_add, Nat.succ_ne_zero, Nat.le_refl, sz5, sz27, sz31, ag5, ag27, ag31, st27, Za1 (hcv _), hcv, hres, kd_h, Zca, Zd4, Zd5, Zex, Ze3, Zdk, Zcb, Zcc, Zcd, Zfc, Zen, Zff, List.all_cons, List.all_nil, Bool.and_self, plan12_5, hl.own, hl.exc, hl.shr, h27, Zdd, back, Zcp, taken, Zbj, Zdo, beq_self_eq_true, Nat.reduceBEq, Zdb, Zcg, Zd1, Zfn, Zc1, Zh1, ko_val, Zio, Zgi, Zfv, Zew, mp52, key5, Zfq, Zhk, Zia, Zhd, show Nat.testBit 15 1 = true by decide, show Nat.testBit 31 3 = true by decide, show Nat.testBit 31 4 = true by decide, show Nat.testBit 31 0 = true by decide, show Nat.testBit 1 0 = true by decide, st49, zo51, Zcu, Zgl Try.underlying51, k4, k5, hcl]
  cases k6 : m.kind == 6
  rotate_left
  · simp only [Msg.fine, k4, k5, k6, if_true, Bool.false_eq_true, if_false, fineKey_iff, beq_iff_eq] at hfi
    have hcl := w52 _ _ _ (Ziw m) m l HP HQ HPQ hl HC (by omega)
    have hb : payL m = Ziw m ++ (textL m.ikey) := by simp only [payL, bodyL, k4, k5, k6, if_true, Bool.false_eq_true, if_false]
    try rw [List.append_assoc] at hcl
    rw [← hb, Ze4, slD_ne (l := payL m) (by rw [hb, hz]; simp)] at hcl
    simp only [Msg.cs, Zhk, List.set_cons_succ, List.set_cons_zero] at hcl
    simp only [List.length_cons, List.length_nil, Nat.reduceAdd, List.cons_append, List.nil_append, Zaj, Zaz, Za7, Zal, Za3, Zae, Zao, Za9, Zbq, St.put, List.getElem?_toArray, List.getElem?_cons_succ, List.getElem?_cons_zero, Option.bind_some, Nat.reduceLeDiff, ne_eq, reduceCtorEq, not_false_eq_true, implies_true, Bool.not_false, Bool.true_eq_false, Bool.false_eq_true, Option.map_some, List.set_cons_succ, List.set_cons_zero, List.getD_cons_succ, List.getD_cons_zero, Zau, Zbo, Zbk, Zda, Zfu, List.any_cons, List.any_nil, Zb3, Bool.or_false, ↓reduceIte, Za0, Za6, Zbd, Za5, Za4, Zaf, Zaq, Zac, Zai, Zaw, Zap, Zan, Zdt, Zb0, Zab, Zaa, Zah, Zd6, Zbm, Zcx, Zcw, List.forall_mem_cons, List.not_mem_nil, false_imp_iff, and_self, List.toList_toArray, Option.some.injEq, Ze5, kd_l, Zc5, Zc4, kd_r, Zcf, Zee, Zbn, Zba, Zcs, Zci, Zde, Zbx, Zbw, Zbu, Zeb, Op.operands, Zg3, Zfp, Ze2, List.foldl_nil, List.append_nil, Zas, Zbh, Zbg, Zcz, Ze4, hgetn, Zad, Zb6, Zb5, Zb4, Zbs, Zb2, List.take_succ_cons, List.take_zero, List.drop_succ_cons, List.drop_zero, List.map_cons, List.map_nil, Za8, Zag, Bool.or_self, Nat.add_zero, Nat.zero_add, Nat.succ_ne_zero, Nat.le_refl, sz5, sz27, sz31, ag5, ag27, ag31, st27, Za1 (hcv _), hcv, hres, kd_h, Zca, Zd4, Zd5, Zex, Ze3, Zdk, Zcb, Zcc, Zcd, Zfc, Zen, Zff, List.all_cons, List.all_nil, Bool.and_self, plan12_5, hl.own, hl.exc, hl.shr, h27, Zdd, back, Zcp, taken, Zbj, Zdo, beq_self_eq_true, Nat.reduceBEq, Zdb, Zcg, Zd1, Zfn, Zc1, Zh1, ko_val, Zio, Zgi, Zfv, Zew, mp52, key5, Zfq, Zhk, Zia, Zhd, show Nat.testBit 15 1 = true by decide, show Nat.testBit 31 3 = true by decide, show Nat.testBit 31 4 = true by decide, show Nat.testBit 31 0 = true by decide, show Nat.testBit 1 0 = true by decide, st49, zo51, Zcu, Zgl Try.underlying51, k4, k5, k6, hcl]
  cases k7 : m.kind == 7
  rotate_left
  · simp only [Msg.fine, k4, k5, k6, k7, if_true, Bool.false_eq_true, if_false, Bool.or_eq_true, Bool.and_eq_true, beq_iff_eq] at hfi
    have hp1 : okN (IntKind.i64.wrap (m.pred + 1)) = true := by
      rcases hfi.1 with e | e
      · rw [e]; decide
      · rw [isPlace_iff] at e; rw [Zf9 (by omega) (by omega)]; simp [okN]; omega
    have hli := hfi.2
    simp only [listZ, Bool.and_eq_true, decide_eq_true_eq] at hli
    have hp2 : m.list.length < 256 := by omega
    have hp3 : m.list.all okN = true := by
      rw [List.all_eq_true]
      intro x hx
      obtain ⟨j, hj⟩ := List.mem_iff_getElem?.1 hx
      exact okN_place (hli.1 j x (List.getElem?_eq_some_iff.1 hj).1 hj).1
    have hcl := w54 _ _ _ (Ziw m) m l HP HQ HPQ hl HC hp1 hp2 hp3
    have hb : payL m = Ziw m ++ (Zdm [IntKind.i64.wrap (m.pred + 1)] ++ listB m.list) := by simp only [payL, bodyL, k4, k5, k6, k7, if_true, Bool.false_eq_true, if_false]
    try rw [List.append_assoc] at hcl
    rw [← hb, Ze4, slD_ne (l := payL m) (by rw [hb, hz]; simp)] at hcl
    simp only [Msg.cs, Zhk, List.set_cons_succ, List.set_cons_zero] at hcl
    simp only [List.length_cons, List.length_nil, Nat.reduceAdd, List.cons_append, List.nil_append, Zaj, Zaz, Za7, Zal, Za3, Zae, Zao, Za9, Zbq, St.put, List.getElem?_toArray, List.getElem?_cons_succ, List.getElem?_cons_zero, Option.bind_some, Nat.reduceLeDiff, ne_eq, reduceCtorEq, not_false_eq_true, implies_true, Bool.not_false, Bool.true_eq_false, Bool.false_eq_true, Option.map_some, List.set_cons_succ, List.set_cons_zero, List.getD_cons_succ, List.getD_cons_zero, Zau, Zbo, Zbk, Zda, Zfu, List.any_cons, List.any_nil, Zb3, Bool.or_false, ↓reduceIte, Za0, Za6, Zbd, Za5, Za4, Zaf, Zaq, Zac, Zai, Zaw, Zap, Zan, Zdt, Zb0, Zab, Zaa, Zah, Zd6, Zbm, Zcx, Zcw, List.forall_mem_cons, List.not_mem_nil, false_imp_iff, and_self, List.toList_toArray, Option.some.injEq, Ze5, kd_l, Zc5, Zc4, kd_r, Zcf, Zee, Zbn, Zba, Zcs, Zci, Zde, Zbx, Zbw, Zbu, Zeb, Op.operands, Zg3, Zfp, Ze2, List.foldl_nil, List.append_nil, Zas, Zbh, Zbg, Zcz, Ze4, hgetn, Zad, Zb6, Zb5, Zb4, Zbs, Zb2, List.take_succ_cons, List.take_zero, List.drop_succ_cons, List.drop_zero, List.map_cons, List.map_nil, Za8, Zag, Bool.or_self, Nat.add_zero, Nat.zero_add, Nat.succ_ne_zero, Nat.le_refl, sz5, sz27, sz31, ag5, ag27, ag31, st27, Za1 (hcv _), hcv, hres, kd_h, Zca, Zd4, Zd5, Zex, Ze3, Zdk, Zcb, Zcc, Zcd, Zfc, Zen, Zff, List.all_cons, List.all_nil, Bool.and_self, plan12_5, hl.own, hl.exc, hl.shr, h27, Zdd, back, Zcp, taken, Zbj, Zdo, beq_self_eq_true, Nat.reduceBEq, Zdb, Zcg, Zd1, Zfn, Zc1, Zh1, ko_val, Zio, Zgi, Zfv, Zew, mp52, key5, Zfq, Zhk, Zia, Zhd, show Nat.testBit 15 1 = true by decide, show Nat.testBit 31 3 = true by decide, show Nat.testBit 31 4 = true by decide, show Nat.testBit 31 0 = true by decide, show Nat.testBit 1 0 = true by decide, st49, zo51, Zcu, Zgl Try.underlying51, k4, k5, k6, k7, hcl]
  cases k10 : m.kind == 10
  rotate_left
  · simp only [Msg.fine, k4, k5, k6, k7, k10, if_true, Bool.false_eq_true, if_false, beq_iff_eq] at hfi
    have hcl := w56 _ _ _ (Ziw m) m l HP HQ HPQ HC (okN_place hfi)
    have hb : payL m = Ziw m ++ (Zdm [m.place] ++ Zdm [bitZ m.done]) := by simp only [payL, bodyL, k4, k5, k6, k7, k10, if_true, Bool.false_eq_true, if_false]
    try rw [List.append_assoc] at hcl
    rw [← hb, Ze4, slD_ne (l := payL m) (by rw [hb, hz]; simp)] at hcl
    simp only [Msg.cs, Zhk, List.set_cons_succ, List.set_cons_zero] at hcl
    simp only [List.length_cons, List.length_nil, Nat.reduceAdd, List.cons_append, List.nil_append, Zaj, Zaz, Za7, Zal, Za3, Zae, Zao, Za9, Zbq, St.put, List.getElem?_toArray, List.getElem?_cons_succ, List.getElem?_cons_zero, Option.bind_some, Nat.reduceLeDiff, ne_eq, reduceCtorEq, not_false_eq_true, implies_true, Bool.not_false, Bool.true_eq_false, Bool.false_eq_true, Option.map_some, List.set_cons_succ, List.set_cons_zero, List.getD_cons_succ, List.getD_cons_zero, Zau, Zbo, Zbk, Zda, Zfu, List.any_cons, List.any_nil, Zb3, Bool.or_false, ↓reduceIte, Za0, Za6, Zbd, Za5, Za4, Zaf, Zaq, Zac, Zai, Zaw, Zap, Zan, Zdt, Zb0, Zab, Zaa, Zah, Zd6, Zbm, Zcx, Zcw, List.forall_mem_cons, List.not_mem_nil, false_imp_iff, and_self, List.toList_toArray, Option.some.injEq, Ze5, kd_l, Zc5, Zc4, kd_r, Zcf, Zee, Zbn, Zba, Zcs, Zci, Zde, Zbx, Zbw, Zbu, Zeb, Op.operands, Zg3, Zfp, Ze2, List.foldl_nil, List.append_nil, Zas, Zbh, Zbg, Zcz, Ze4, hgetn, Zad, Zb6, Zb5, Zb4, Zbs, Zb2, List.take_succ_cons, List.take_zero, List.drop_succ_cons, List.drop_zero, List.map_cons, List.map_nil, Za8, Zag, Bool.or_self, Nat.add_zero, Nat.zero_add, Nat.succ_ne_zero, Nat.le_refl, sz5, sz27, sz31, ag5, ag27, ag31, st27, Za1 (hcv _), hcv, hres, kd_h, Zca, Zd4, Zd5, Zex, Ze3, Zdk, Zcb, Zcc, Zcd, Zfc, Zen, Zff, List.all_cons, List.all_nil, Bool.and_self, plan12_5, hl.own, hl.exc, hl.shr, h27, Zdd, back, Zcp, taken, Zbj, Zdo, beq_self_eq_true, Nat.reduceBEq, Zdb, Zcg, Zd1, Zfn, Zc1, Zh1, ko_val, Zio, Zgi, Zfv, Zew, mp52, key5, Zfq, Zhk, Zia, Zhd, show Nat.testBit 15 1 = true by decide, show Nat.testBit 31 3 = true by decide, show Nat.testBit 31 4 = true by decide, show Nat.testBit 31 0 = true by decide, show Nat.testBit 1 0 = true by decide, st49, zo51, Zcu, Zgl Try.underlying51, k4, k5, k6, k7, k10, hcl]
  cases k11 : m.kind == 11
  rotate_left
  · simp only [Msg.fine, k4, k5, k6, k7, k10, k11, if_true, Bool.false_eq_true, if_false, Bool.or_eq_true, beq_iff_eq] at hfi
    have hcl := w57 _ _ _ (Ziw m) m l HP HQ HPQ hl HC (by rcases hfi with e | e <;> rw [e] <;> decide)
    have hb : payL m = Ziw m ++ (Zdm [m.code]) := by simp only [payL, bodyL, k4, k5, k6, k7, k10, k11, if_true, Bool.false_eq_true, if_false]
    try rw [List.append_assoc] at hcl
    rw [← hb, Ze4, slD_ne (l := payL m) (by rw [hb, hz]; simp)] at hcl
    simp only [Msg.cs, Zhk, List.set_cons_succ, List.set_cons_zero] at hcl
    simp only [List.length_cons, List.length_nil, Nat.reduceAdd, List.cons_append, List.nil_append, Zaj, Zaz, Za7, Zal, Za3, Zae, Zao, Za9, Zbq, St.put, List.getElem?_toArray, List.getElem?_cons_succ, List.getElem?_cons_zero, Option.bind_some, Nat.reduceLeDiff, ne_eq, reduceCtorEq, not_false_eq_true, implies_true, Bool.not_false, Bool.true_eq_false, Bool.false_eq_true, Option.map_some, List.set_cons_succ, List.set_cons_zero, List.getD_cons_succ, List.getD_cons_zero, Zau, Zbo, Zbk, Zda, Zfu, List.any_cons, List.any_nil, Zb3, Bool.or_false, ↓reduceIte, Za0, Za6, Zbd, Za5, Za4, Zaf, Zaq, Zac, Zai, Zaw, Zap, Zan, Zdt, Zb0, Zab, Zaa, Zah, Zd6, Zbm, Zcx, Zcw, List.forall_mem_cons, List.not_mem_nil, false_imp_iff, and_self, List.toList_toArray, Option.some.injEq, Ze5, kd_l, Zc5, Zc4, kd_r, Zcf, Zee, Zbn, Zba, Zcs, Zci, Zde, Zbx, Zbw, Zbu, Zeb, Op.operands, Zg3, Zfp, Ze2, List.foldl_nil, List.append_nil, Zas, Zbh, Zbg, Zcz, Ze4, hgetn, Zad, Zb6, Zb5, Zb4, Zbs, Zb2, List.take_succ_cons, List.take_zero, List.drop_succ_cons, List.drop_zero, List.map_cons, List.map_nil, Za8, Zag, Bool.or_self, Nat.add_zero, Nat.zero_add, Nat.succ_ne_zero, Nat.le_refl, sz5, sz27, sz31, ag5, ag27, ag31, st27, Za1 (hcv _), hcv, hres, kd_h, Zca, Zd4, Zd5, Zex, Ze3, Zdk, Zcb, Zcc, Zcd, Zfc, Zen, Zff, List.all_cons, List.all_nil, Bool.and_self, plan12_5, hl.own, hl.exc, hl.shr, h27, Zdd, back, Zcp, taken, Zbj, Zdo, beq_self_eq_true, Nat.reduceBEq, Zdb, Zcg, Zd1, Zfn, Zc1, Zh1, ko_val, Zio, Zgi, Zfv, Zew, mp52, key5, Zfq, Zhk, Zia, Zhd, show Nat.testBit 15 1 = true by decide, show Nat.testBit 31 3 = true by decide, show Nat.testBit 31 4 = true by decide, show Nat.testBit 31 0 = true by decide, show Nat.testBit 1 0 = true by decide, st49, zo51, Zcu, Zgl Try.underlying51, k4, k5, k6, k7, k10, k11, hcl]
  cases k12 : m.kind == 12
  rotate_left
  · simp only [Msg.fine, k4, k5, k6, k7, k10, k11, k12, if_true, Bool.false_eq_true, if_false, finePair_iff, Bool.or_eq_true, Bool.and_eq_true, beq_iff_eq] at hfi
    have hp1 : okN m.code = true := by rcases hfi with e | e <;> rw [e.1] <;> decide
    have hz0 : ({ data := #[] } : ByteArray).size = 0 := rfl
    have hp2 : m.ikey.size < 256 := by
      rcases hfi with e | e
      · omega
      · have := e.2.1; rw [bab, decide_eq_true_eq] at this; rw [this, hz0]; omega
    have hp3 : okN m.ival = true := by
      rcases hfi with e | e
      · exact okN_val e.2.2.1
      · rw [e.2.2.1]; decide
    have hp4 : okN m.iver = true := by
      rcases hfi with e | e
      · exact okN_val e.2.2.2
      · rw [e.2.2.2.1]; decide
    have hcl := w58 _ _ _ (Ziw m) m l HP HQ HPQ hl HC hp1 hp2 hp3 hp4
    have hb : payL m = Ziw m ++ (Zdm [m.code] ++ (if m.code == 0 then pairL m.ikey m.ival m.iver m.gone else [])) := by simp only [payL, bodyL, k4, k5, k6, k7, k10, k11, k12, if_true, Bool.false_eq_true, if_false]
    try rw [List.append_assoc] at hcl
    rw [← hb, Ze4, slD_ne (l := payL m) (by rw [hb, hz]; simp)] at hcl
    simp only [Msg.cs, Zhk, List.set_cons_succ, List.set_cons_zero] at hcl
    simp only [List.length_cons, List.length_nil, Nat.reduceAdd, List.cons_append, List.nil_append, Zaj, Zaz, Za7, Zal, Za3, Zae, Zao, Za9, Zbq, St.put, List.getElem?_toArray, List.getElem?_cons_succ, List.getElem?_cons_zero, Option.bind_some, Nat.reduceLeDiff, ne_eq, reduceCtorEq, not_false_eq_true, implies_true, Bool.not_false, Bool.true_eq_false, Bool.false_eq_true, Option.map_some, List.set_cons_succ, List.set_cons_zero, List.getD_cons_succ, List.getD_cons_zero, Zau, Zbo, Zbk, Zda, Zfu, List.any_cons, List.any_nil, Zb3, Bool.or_false, ↓reduceIte, Za0, Za6, Zbd, Za5, Za4, Zaf, Zaq, Zac, Zai, Zaw, Zap, Zan, Zdt, Zb0, Zab, Zaa, Zah, Zd6, Zbm, Zcx, Zcw, List.forall_mem_cons, List.not_mem_nil, false_imp_iff, and_self, List.toList_toArray, Option.some.injEq, Ze5, kd_l, Zc5, Zc4, kd_r, Zcf, Zee, Zbn, Zba, Zcs, Zci, Zde, Zbx, Zbw, Zbu, Zeb, Op.operands, Zg3, Zfp, Ze2, List.foldl_nil, List.append_nil, Zas, Zbh, Zbg, Zcz, Ze4, hgetn, Zad, Zb6, Zb5, Zb4, Zbs, Zb2, List.take_succ_cons, List.take_zero, List.drop_succ_cons, List.drop_zero, List.map_cons, List.map_nil, Za8, Zag, Bool.or_self, Nat.add_zero, Nat.zero_add, Nat.succ_ne_zero, Nat.le_refl, sz5, sz27, sz31, ag5, ag27, ag31, st27, Za1 (hcv _), hcv, hres, kd_h, Zca, Zd4, Zd5, Zex, Ze3, Zdk, Zcb, Zcc, Zcd, Zfc, Zen, Zff, List.all_cons, List.all_nil, Bool.and_self, plan12_5, hl.own, hl.exc, hl.shr, h27, Zdd, back, Zcp, taken, Zbj, Zdo, beq_self_eq_true, Nat.reduceBEq, Zdb, Zcg, Zd1, Zfn, Zc1, Zh1, ko_val, Zio, Zgi, Zfv, Zew, mp52, key5, Zfq, Zhk, Zia, Zhd, show Nat.testBit 15 1 = true by decide, show Nat.testBit 31 3 = true by decide, show Nat.testBit 31 4 = true by decide, show Nat.testBit 31 0 = true by decide, show Nat.testBit 1 0 = true by decide, st49, zo51, Zcu, Zgl Try.underlying51, k4, k5, k6, k7, k10, k11, k12, hcl]
  have hb : payL m = Ziw m := by simp only [payL, bodyL, k4, k5, k6, k7, k10, k11, k12, Bool.false_eq_true, if_false, List.append_nil]
  rw [hb]
  simp only [List.length_cons, List.length_nil, Nat.reduceAdd, Zaj, Zbz, Za7, Zar, Za3, Zae, Zao, Za9, St.put, List.getElem?_toArray, List.getElem?_cons_succ, List.getElem?_cons_zero, Option.bind_some, Nat.reduceLeDiff, ne_eq, reduceCtorEq, not_false_eq_true, implies_true, Bool.not_false, Bool.true_eq_false, Bool.false_eq_true, Option.map_some, List.set_cons_succ, List.set_cons_zero, List.getD_cons_succ, List.getD_cons_zero, Zau, Zbo, Zbk, Zfu, List.any_cons, List.any_nil, Zb3, ↓reduceIte, Za0, Za6, Zbd, Za5, Za4, Zaf, Zac, Zai, Zaw, Zap, Zdt, false_imp_iff, and_self, List.toList_toArray, Option.some.injEq, Ze5, kd_l, Zc5, Zc4, kd_r, Zcf, Zee, Zbn, Zba, Zcs, Zci, Zde, Zbx, Zbw, Zbu, Zeb, Op.operands, Zg3, Zfp, Ze2, List.foldl_nil, Zas, Zbg, hgetn, Zad, Zb6, Zb5, List.take_succ_cons, List.take_zero, List.drop_zero, List.map_cons, List.map_nil, Za8, Bool.or_self, Nat.add_zero, Nat.zero_add, Nat.succ_ne_zero, Nat.le_refl, sz5, sz27, ag5, ag27, st27, Za1 (hcv _), hcv, kd_h, Zca, Zd4, Zd5, Zex, Ze3, Zdk, Zcb, Zcc, Zcd, Zfc, Zen, Zff, List.all_cons, List.all_nil, Bool.and_self, plan12_5, hl.own, hl.exc, hl.shr, h27, Zdd, Zcp, taken, Zbj, Zdo, Nat.reduceBEq, Zew, mp52, key5, Zfq, Zhk, Zia, find_nil, show Nat.testBit 15 1 = true by decide, show Nat.testBit 31 3 = true by decide, show Nat.testBit 31 4 = true by decide, show Nat.testBit 31 0 = true by decide, show Nat.testBit 1 0 = true by decide, zo51, Zcu, binF_nil Try.underlying51, k4, k5, k6, k7, k10, k11, k12]
  simp only [List.length_cons, List.length_nil, List.nil_append, Zaz, Za3, Zae, Zao, Za9, List.getElem?_cons_zero, Option.bind_some, ne_eq, reduceCtorEq, not_false_eq_true, implies_true, Option.map_some, List.set_cons_succ, List.set_cons_zero, List.getD_cons_succ, List.getD_cons_zero, Zau, List.any_cons, List.any_nil, Bool.or_false, ↓reduceIte, Za0, Za4, Zaq, Zac, Zan, Zb0, Zab, Zaa, Zah, Zd6, Zbm, Zcx, Zcw, List.forall_mem_cons, List.not_mem_nil, false_imp_iff, and_self, List.append_nil, Zbh, Zbg, Zcz, Ze4, Zad, Zb6, Zb5, Zb4, Zbs, Zb2, List.take_zero, List.drop_succ_cons, List.drop_zero, Zag, Bool.or_self, Nat.add_zero, Nat.zero_add, Nat.succ_ne_zero, Nat.le_refl, sz31, ag31, hres, slD_ne hne, st49, back, taken, Zbj, Zdo, beq_self_eq_true, Zdb, Zcg, Zd1, Zfn, Zc1, Zh1]

end Go.Abs

namespace Go.Abs
open Go Go.Proofs
set_option maxRecDepth 10000
set_option maxHeartbeats 4000000

theorem digs_le : ∀ (k n : Nat), n < 256 ^ k → (digs n).length ≤ k := by
  intro k
  induction k with
  | zero => intro m hm; have : m = 0 := by simpa using hm
            subst this; rw [digs]; simp
  | succ k ih =>
    intro m hm
    rw [digs]
    split
    · have := ih (m / 256) (by rw [Nat.pow_succ] at hm; omega)
      simp; omega
    · simp
theorem putL_le (k n : Nat) (h : n < 256 ^ k) : (putL n).length ≤ k + 1 := by
  have := digs_le k n h
  simp [putL]; omega
theorem num1 {n : Int} : (Zdm [n]).length = (putL n.toNat).length := by simp [Zdm]
theorem bit_len {b : Bool} : (Zdm [bitZ b]).length ≤ 2 := by rw [num1]; cases b <;> exact putL_le 1 _ (by decide)
theorem pair_len {k : ByteArray} {v n : Int} {g : Bool} (h : Zik k v n = true) : (pairL k v n g).length ≤ 31 := by
  rw [finePair_iff] at h
  have h1 := putL_le 3 v.toNat (by omega)
  have h2 := putL_le 3 n.toNat (by omega)
  have h3 := bit_len (b := g)
  simp only [pairL, List.length_append, textL_len, Zdm, List.flatMap_cons, List.flatMap_nil, List.append_nil] at h3 ⊢
  omega
theorem place_len {n : Int} (h : Zej n = true) : (Zdm [n]).length ≤ 3 := by
  rw [isPlace_iff] at h
  rw [num1]; exact putL_le 2 _ (by omega)

theorem payL_len {m : Msg} (hf : m.Fits) : (payL m).length ≤ 46 := by
  have hp := asker_lt hf.frm hf.to
  have hk1 := hf.k1; have hk2 := hf.k2; have hc1 := hf.c1; have hc2 := hf.c2
  have a1 : (Zdm [m.kind]).length ≤ 2 := by rw [num1]; exact putL_le 1 _ (by omega)
  have a2 : (Zdm [m.call]).length ≤ 6 := by rw [num1]; exact putL_le 5 _ (by omega)
  have a3 := place_len hf.frm
  have a4 := place_len hf.to
  have hh : (Ziw m).length ≤ 14 := by
    simp only [Ziw, Zdm, List.flatMap_cons, List.flatMap_nil, List.append_nil, List.length_append] at a1 a2 a3 a4 ⊢
    omega
  have hb : (bodyL m).length ≤ 32 := by
    have hfi := hf.fine
    unfold bodyL
    unfold Msg.fine at hfi
    split
    · rename_i k; rw [if_pos k] at hfi
      have := place_len hfi; have := bit_len (b := m.slow); simp; omega
    rename_i k4; rw [if_neg k4] at hfi
    split
    · rename_i k; rw [if_pos k] at hfi
      have := pair_len (g := m.gone) hfi; omega
    rename_i k5; rw [if_neg k5] at hfi
    split
    · rename_i k; rw [if_pos k, fineKey_iff] at hfi
      rw [textL_len]; omega
    rename_i k6; rw [if_neg k6] at hfi
    split
    · rename_i k; rw [if_pos k] at hfi
      simp only [Bool.and_eq_true, Bool.or_eq_true, beq_iff_eq] at hfi
      have b1 : (Zdm [IntKind.i64.wrap (m.pred + 1)]).length ≤ 4 := by
        rw [num1]
        rcases hfi.1 with e | e
        · rw [e]; decide +kernel
        · rw [isPlace_iff] at e; rw [Zf9 (by omega) (by omega)]; exact putL_le 3 _ (by omega)
      have hli := hfi.2
      simp only [listZ, Bool.and_eq_true, decide_eq_true_eq] at hli
      have b2 : ∀ (xs : List Int), (∀ x ∈ xs, Zej x = true) → (Zdm xs).length ≤ 3 * xs.length := by
        intro xs
        induction xs with
        | nil => intro _; simp [Zdm]
        | cons x xs ih =>
          intro hx
          have c1 := ih fun y hy => hx y (by simp [hy])
          have c2 := place_len (hx x (by simp))
          rw [num1] at c2
          simp only [Zdm, List.flatMap_cons, List.length_append, List.length_cons] at c1 c2 ⊢
          omega
      have b3 := b2 m.list (fun x hx => by
        obtain ⟨j, hj⟩ := List.mem_iff_getElem?.1 hx
        exact (hli.1 j x (List.getElem?_eq_some_iff.1 hj).1 hj).1)
      simp only [List.length_append, listB, List.length_cons]; omega
    rename_i k7; rw [if_neg k7] at hfi
    split
    · rename_i k; rw [if_pos k] at hfi
      have := place_len hfi; have := bit_len (b := m.done); simp; omega
    rename_i k10; rw [if_neg k10] at hfi
    have codes : m.code = 0 ∨ m.code = 200 ∨ m.code = 201 → (Zdm [m.code]).length ≤ 2 := by
      intro h
      rw [num1]
      rcases h with e | e | e <;> rw [e] <;> exact putL_le 1 _ (by decide)
    split
    · rename_i k; rw [if_pos k] at hfi
      simp only [Bool.or_eq_true, beq_iff_eq] at hfi
      have := codes (hfi.imp id .inl); omega
    rename_i k11; rw [if_neg k11] at hfi
    split
    · rename_i k; rw [if_pos k] at hfi
      simp only [Bool.or_eq_true, Bool.and_eq_true, beq_iff_eq] at hfi
      split
      · rename_i c0
        have c0 : m.code = 0 := by simpa using c0
        have hfp : Zik m.ikey m.ival m.iver = true := by
          rcases hfi with e | e
          · exact e.2
          · have := e.1; omega
        have := pair_len (g := m.gone) hfp
        have : (Zdm [m.code]).length ≤ 1 := by rw [num1, c0]; exact putL_le 0 _ (by decide)
        simp; omega
      · have := codes (by rcases hfi with e | e; exact .inl e.1; exact .inr (.inr e.1))
        simp; omega
    · simp
  simp only [payL, List.length_append]; omega

theorem w9_bad (m : Msg) (l : D) (hl : Rd l (isE m.list)) (hx : m.list.length ≤ 1099511627776) (hr : m.right = false) (h : List O) : wc 9 [.agg (m.cs l)] h = some (.val (.tup [.osl false true 0 [], .int .i64 2]), h) := by
  have h12 := w12_bad m l hl hx hr
  have e1 : ((2 : Int) != 0) = true := by decide
  simp only [Msg.cs] at h12
  have hcv : ∀ i, wcv 9 i = [] := fun _ => rfl
  have hres : Try.f9.results.toList = [ResultVar.tmp 2, ResultVar.tmp 3] := rfl
  rw [wc, Zbt rfl Try.func9 rfl]
  simp only [Zbi, List.length_cons, List.length_nil, Nat.reduceAdd, Nat.reduceSub, List.replicate, List.cons_append, List.nil_append, Zaj, Zaz, Za7, Zal, Za3, Zbr, Zae, Zao, Zbe, Zbf, Za9, Zbq, List.getElem?_cons_succ, List.getElem?_cons_zero, Option.bind_some, ne_eq, reduceCtorEq, not_false_eq_true, implies_true, Bool.false_eq_true, Option.map_some, List.set_cons_succ, List.set_cons_zero, List.getD_cons_succ, List.getD_cons_zero, Zau, Zdj, Zbo, List.any_cons, List.any_nil, Zb3, Bool.or_false, ↓reduceIte, Za0, Za6, Zd2, Zc7, Za4, Zaf, Zaq, Zac, Zai, Zaw, Zap, Zan, Zcj, Zel, Ze0, Zb0, Zab, Zaa, Zah, Zd6, Zbm, Zcx, Zcw, List.forall_mem_cons, List.not_mem_nil, false_imp_iff, and_self, Zas, Zbg, Zad, Zb1, Zb9, Zbs, Zb2, List.take_succ_cons, List.take_zero, List.drop_zero, Zag, Bool.or_self, Bool.or_true, Nat.zero_add, Nat.le_refl, sz27, ag27, Za1 (hcv _), Try.ntmps9, hres, Msg.cs, hl.own, h12, e1, Zdd, Zgp, Zj1, back, Zcp, taken, Zbj, Zdo, beq_self_eq_true, Nat.reduceBEq]
theorem w9 (m : Msg) (l : D) (hl : Rd l (isE m.list)) (hx : m.list.length ≤ 1099511627776) (hr : m.right = true) (hf : m.Fits) (h : List O) : wc 9 [.agg (m.cs l)] h = some (.val (.tup [.osl false false 1 (byE (Zgk (payL m))), .int .i64 0]), h) := by
  have h12 := w12 m l hl hx hr hf
  have hpl := payL_len hf
  have h19 := w19 (.e (.sl (byE (payL m)))) (payL m) Rd.e (by omega)
  rw [if_pos (show (payL m).length ≤ 112 by omega)] at h19
  have e1 : ((0 : Int) != 0) = false := by decide
  simp only [Msg.cs] at h12
  have hcv : ∀ i, wcv 9 i = [] := fun _ => rfl
  have hres : Try.f9.results.toList = [ResultVar.tmp 2, ResultVar.tmp 3] := rfl
  rw [wc, Zbt rfl Try.func9 rfl]
  simp only [Zbi, List.length_cons, List.length_nil, Nat.reduceAdd, Nat.reduceSub, List.replicate, List.cons_append, List.nil_append, Zaj, Zbz, Zaz, Za7, Zar, Za3, Zae, Zao, Zbe, Zbf, Za9, Zbq, List.getElem?_cons_succ, List.getElem?_cons_zero, Option.bind_some, ne_eq, reduceCtorEq, not_false_eq_true, implies_true, Bool.false_eq_true, Option.map_some, List.set_cons_succ, List.set_cons_zero, List.getD_cons_succ, List.getD_cons_zero, Zau, Zbo, List.any_cons, List.any_nil, Zb3, Bool.or_false, ↓reduceIte, Za0, Za6, Zd2, Zc7, Za4, Zaf, Zaq, Zac, Zai, Zaw, Zap, Zan, Zcj, Zel, Ze0, Zb0, Zab, Zaa, Zah, Zd6, Zbm, Zcx, Zcw, List.forall_mem_cons, List.not_mem_nil, false_imp_iff, and_self, Zas, Zbg, Zad, Zb1, Zb9, Zcm, Zbs, Zb2, List.take_succ_cons, List.take_zero, List.drop_zero, List.map_cons, List.map_nil, Zag, Bool.or_self, Nat.zero_add, Nat.le_refl, sz27, ag27, Za1 (hcv _), Try.ntmps9, hres, Msg.cs, hl.own, h12, e1, h19, Zdd, Zgp, Zhr, Zfr, left_e, back, Zcp, taken, Zbj, Zdo, beq_self_eq_true, Nat.reduceBEq, Zdb, Zcg, Zgo, Zf7, Zd1, Zc1, leftT_nf, Zi8, left_nf, shr_nf, Zf2]

end Go.Abs

namespace Go.Abs
open Go Go.Proofs
set_option maxRecDepth 10000
set_option maxHeartbeats 4000000

/-- What leaves by a panic. -/
def ferr : D := .e (.iface 25 (.int .i64 12))
def rdC (l : List UInt8) : D := .osl true false 1 (byE l)
def rdX (l : List UInt8) : D := .osl false false 1 (byE l)

theorem w61_ok (H : List O) (p : Nat) (l rest : List UInt8) (n : Nat) (hp : Zbp H p = some [rdC l]) (hl : l.length ≤ 100000) (ht : takeB l = .ok n rest) :
    wc 61 [.ptr p 0] H = some (.val (.int .i64 (n : Int)), H.set p (.cells [rdC rest])) := by
  obtain ⟨hlt, hpe⟩ := Zf3 hp
  have h84 := w84 (.e (.sl (byE l))) l Rd.e hl
  rw [ht] at h84
  simp only [TakeR.d] at h84
  have h33 := w33 true
  have e0 : ((0 : Int) == 0) = true := by decide
  simp only [rdC] at hp ⊢
  have hcv : ∀ i, wcv 61 i = [] := fun _ => rfl
  have hres : Try.f61.results.toList = [ResultVar.tmp 2] := rfl
  rw [wc, Zbt rfl Try.func61 rfl]
  simp only [Zbi, List.length_cons, List.length_nil, Nat.reduceSub, List.replicate, List.cons_append, List.nil_append, Zaj, Zaz, Za3, Zae, Zao, Zbe, Zbf, Za9, Zce, Zbq, List.getElem?_cons_succ, List.getElem?_cons_zero, Option.bind_some, ne_eq, reduceCtorEq, not_false_eq_true, implies_true, Bool.false_eq_true, Option.map_some, List.set_cons_succ, List.set_cons_zero, List.getD_cons_succ, List.getD_cons_zero, Zau, Zbk, List.any_cons, List.any_nil, Bool.or_false, ↓reduceIte, Za0, Za6, Zbc, Zbd, Za5, Zc7, Za4, Zaf, Zaq, Zac, Zai, Zaw, Zap, Zan, Zb8, Zay, Zb0, Zab, Zaa, Zah, Zat, and_self, Zfx, List.append_nil, Zad, Zb6, Zb5, Zb4, Zd3, Zcm, Zbs, Zcq, List.take_zero, List.drop_succ_cons, List.drop_zero, List.map_cons, List.map_nil, Za8, Zag, Bool.or_self, Bool.or_true, Nat.add_zero, Nat.zero_add, Nat.succ_ne_zero, Nat.le_refl, sz31, ag31, Za1 (hcv _), Try.ntmps61, hres, st58, hp, h84, e0, h33, List.set_set, Zfz hlt, Zf0, List.length_set, Zdd, Zgp, Zhr, Zfr, left_e, back, Zcp, taken, Zbj, Zdo, beq_self_eq_true, Nat.reduceBEq, Zdb, Zcg, Zd1, Zfn, Zc1, Zi8, kep0_osl]

end Go.Abs

namespace Go.Abs
open Go Go.Proofs
set_option maxRecDepth 10000
set_option maxHeartbeats 4000000

def parN (l : List UInt8) : Option (Nat × List UInt8) := match takeB l with | .ok n r => some (n, r) | _ => none
def parL (l : List UInt8) : Option (List Nat × List UInt8) := match takeL l with | .ok q => some q | .error _ => none
def parB (l : List UInt8) : Option (Bool × List UInt8) := match parN l with | some (n, r) => if n < 2 then some (n == 1, r) else none | none => none
theorem Zfw {l r : List UInt8} {n : Nat} (h : parN l = some (n, r)) : r.length ≤ l.length := by
  unfold parN at h
  cases ht : takeB l with
  | ok n' r' => rw [ht] at h; simp at h; obtain ⟨_, rfl⟩ := h; exact takeB_rest ht
  | _ => rw [ht] at h; simp at h

theorem rdC_fit {n : Nat} {l : List UInt8} : Fit n (rdC l) := .osl _ _ _ _
section
variable (H : List O) (p : Nat) (l : List UInt8) (hp : Zbp H p = some [rdC l]) (hl : l.length ≤ 100000)
  include hp hl
theorem r61_ok {n : Nat} {rest : List UInt8} (ht : parN l = some (n, rest)) : wc 61 [.ptr p 0] H = some (.val (.int .i64 (n : Int)), H.set p (.cells [rdC rest])) := by
  refine w61_ok H p l rest n hp hl ?_
  unfold parN at ht
  cases hb : takeB l with
  | ok n' r' => rw [hb] at ht; simp at ht; obtain ⟨rfl, rfl⟩ := ht; rfl
  | _ => rw [hb] at ht; simp at ht
theorem r67_ok {s rest : List UInt8} (ht : takeT l = some (s, rest)) : wc 67 [.ptr p 0] H = some (.val (.str (BA s)), H.set p (.cells [rdC rest])) := by
  obtain ⟨hlt, hpe⟩ := Zf3 hp
  have h84 := w85 (.e (.sl (byE l))) l Rd.e hl
  rw [ht] at h84
  simp only [textD] at h84
  have h33 := w33 true
  have e0 : ((0 : Int) == 0) = true := by decide
  simp only [rdC] at hp ⊢
  have hcv : ∀ i, wcv 67 i = [] := fun _ => rfl
  have hres : Try.f67.results.toList = [ResultVar.tmp 2] := rfl
  rw [wc, Zbt rfl Try.func67 rfl]
  simp only [Zbi, List.length_cons, List.length_nil, Nat.reduceSub, List.replicate, List.cons_append, List.nil_append, Zaj, Zaz, Za3, Zae, Zao, Zbe, Zbf, Za9, Zce, Zbq, List.getElem?_cons_succ, List.getElem?_cons_zero, Option.bind_some, ne_eq, reduceCtorEq, not_false_eq_true, implies_true, Bool.false_eq_true, Option.map_some, List.set_cons_succ, List.set_cons_zero, List.getD_cons_succ, List.getD_cons_zero, Zau, Zbk, List.any_cons, List.any_nil, Bool.or_false, ↓reduceIte, Za0, Za6, Zbc, Zbd, Za5, Zc7, Za4, Zaf, Zaq, Zac, Zai, Zaw, Zap, Zan, Zj2, Zb8, Zay, Zb0, Zab, Zaa, Zah, Zat, and_self, Zfx, List.append_nil, Zad, Zb6, Zb5, Zb4, Zd3, Zcm, Zbs, Zcq, List.take_zero, List.drop_succ_cons, List.drop_zero, List.map_cons, List.map_nil, Za8, Zag, Bool.or_self, Bool.or_true, Nat.add_zero, Nat.zero_add, Nat.succ_ne_zero, Nat.le_refl, sz31, ag31, Za1 (hcv _), Try.ntmps67, hres, st58, hp, h84, e0, h33, List.set_set, Zfz hlt, Zf0, List.length_set, Zdd, Zgp, Zhr, Zfr, left_e, back, Zcp, taken, Zbj, Zdo, beq_self_eq_true, Nat.reduceBEq, Zdb, Zcg, Zd1, Zfn, Zc1, Zi8, kep0_osl]
theorem r69_ok {ns : List Nat} {rest : List UInt8} (ht : parL l = some (ns, rest)) : wc 69 [.ptr p 0] H = some (.val (slN ns), H.set p (.cells [rdC rest])) := by
  obtain ⟨hlt, hpe⟩ := Zf3 hp
  have h84 := w86 (.e (.sl (byE l))) l Rd.e hl
  have htl : takeL l = .ok (ns, rest) := by
    unfold parL at ht
    split at ht
    · rename_i q hq; cases ht; exact hq
    · cases ht
  rw [htl] at h84
  simp only [listD] at h84
  have h33 := w33 true
  have e0 : ((0 : Int) == 0) = true := by decide
  simp only [rdC] at hp ⊢
  have hcv : ∀ i, wcv 69 i = [] := fun _ => rfl
  have hres : Try.f69.results.toList = [ResultVar.tmp 2] := rfl
  rw [wc, Zbt rfl Try.func69 rfl]
  cases ns with
  | nil =>
    simp only [slN] at h84 ⊢
    simp only [Zbi, List.length_cons, List.length_nil, Nat.reduceSub, List.replicate, List.cons_append, List.nil_append, Zaj, Zaz, Za3, Zae, Zao, Zbe, Zbf, Za9, Zce, Zbq, List.getElem?_cons_succ, List.getElem?_cons_zero, Option.bind_some, ne_eq, reduceCtorEq, not_false_eq_true, implies_true, Bool.false_eq_true, Option.map_some, List.set_cons_succ, List.set_cons_zero, List.getD_cons_succ, List.getD_cons_zero, Zau, Zdj, Zbk, List.any_cons, List.any_nil, Bool.or_false, ↓reduceIte, Za0, Za6, Zbc, Zbd, Za5, Zc7, Za4, Zaf, Zaq, Zac, Zai, Zaw, Zap, Zan, Zcj, Zb8, Zay, Zb0, Zab, Zaa, Zah, Zat, and_self, Zfx, List.append_nil, Zad, Zb6, Zb5, Zb4, Zd3, Zcm, Zbs, Zcq, List.take_zero, List.drop_succ_cons, List.drop_zero, List.map_cons, List.map_nil, Za8, Zag, Bool.or_self, Bool.or_true, Nat.add_zero, Nat.zero_add, Nat.succ_ne_zero, Nat.le_refl, sz31, ag31, Za1 (hcv _), Try.ntmps69, hres, st58, hp, h84, e0, h33, List.set_set, Zfz hlt, Zf0, List.length_set, Zdd, Zgp, Zj1, Zhr, Zfr, left_e, left_osl0, back, Zcp, taken, Zbj, Zdo, beq_self_eq_true, Nat.reduceBEq, Zdb, Zcg, Zd1, Zfn, Zc1, Zi8, kep0_osl]
  | cons a ns =>
    simp only [slN] at h84 ⊢
    simp only [Zbi, List.length_cons, List.length_nil, Nat.reduceSub, List.replicate, List.cons_append, List.nil_append, Zaj, Zaz, Za3, Zae, Zao, Zbe, Zbf, Za9, Zce, Zbq, List.getElem?_cons_succ, List.getElem?_cons_zero, Option.bind_some, ne_eq, reduceCtorEq, not_false_eq_true, implies_true, Bool.false_eq_true, Option.map_some, List.set_cons_succ, List.set_cons_zero, List.getD_cons_succ, List.getD_cons_zero, Zau, Zbk, List.any_cons, List.any_nil, Bool.or_false, ↓reduceIte, Za0, Za6, Zbc, Zbd, Za5, Zc7, Za4, Zaf, Zaq, Zac, Zai, Zaw, Zap, Zan, Zcj, Zb8, Zay, Zb0, Zab, Zaa, Zah, Zat, and_self, Zfx, List.append_nil, Zad, Zb6, Zb5, Zb4, Zd3, Zcm, Zbs, Zcq, List.take_zero, List.drop_succ_cons, List.drop_zero, List.map_cons, List.map_nil, Za8, Zag, Bool.or_self, Bool.or_true, Nat.add_zero, Nat.zero_add, Nat.succ_ne_zero, Nat.le_refl, sz31, ag31, Za1 (hcv _), Try.ntmps69, hres, st58, hp, h84, e0, h33, List.set_set, Zfz hlt, Zf0, List.length_set, Zdd, Zgp, Zhr, Zfr, left_e, back, Zcp, taken, Zbj, Zdo, beq_self_eq_true, Nat.reduceBEq, Zdb, Zcg, Zd1, Zfn, Zc1, Zi8, kep0_osl]
theorem r63_ok {b : Bool} {rest : List UInt8} (ht : parB l = some (b, rest)) : wc 63 [.ptr p 0] H = some (.val (.bool b), H.set p (.cells [rdC rest])) := by
  unfold parB at ht
  cases hn : parN l with
  | none => rw [hn] at ht; simp at ht
  | some q =>
    obtain ⟨n, r⟩ := q
    rw [hn] at ht
    simp only at ht
    split at ht
    · rename_i h2
      simp only [Option.some.injEq, Prod.mk.injEq] at ht
      obtain ⟨rfl, rfl⟩ := ht
      have h61 := r61_ok H p l hp hl hn
      have h33 := w33 true
      have e1 : decide ((n : Int) < 2) = true := by simp; omega
      have e2 : ((n : Int) == 1) = (n == 1) := by rw [Bool.eq_iff_iff, beq_iff_eq, beq_iff_eq]; omega
      have hcv : ∀ i, wcv 63 i = [] := fun _ => rfl
      have hres : Try.f63.results.toList = [ResultVar.tmp 2] := rfl
      rw [wc, Zbt rfl Try.func63 rfl]
      simp only [Zbi, List.length_cons, List.length_nil, Nat.reduceSub, List.replicate, List.cons_append, List.nil_append, Zaj, Zaz, Za3, Zae, Zao, Zbe, Zbf, Za9, Zbq, ne_eq, reduceCtorEq, not_false_eq_true, implies_true, Option.map_some, List.set_cons_succ, List.set_cons_zero, List.getD_cons_succ, List.getD_cons_zero, Zau, Zbk, ↓reduceIte, Za2, Za0, Za6, Za4, Zaq, Zac, Zai, Zaw, Zap, Zan, Zax, Zb8, Zc2, Zay, Zbv, Zb0, Zab, Zaa, Zah, Zat, Nat.zero_add, Za1 (hcv _), Try.ntmps63, hres, h61, h33, e1, e2, Zf0, List.length_set]
    · cases ht
end

end Go.Abs

namespace Go.Abs
open Go Go.Proofs
set_option maxRecDepth 10000
set_option maxHeartbeats 4000000

structure ItemV where
  key : List UInt8
  val : Nat
  ver : Nat
  gone : Bool
def parP (l : List UInt8) : Option (ItemV × List UInt8) := match takeT l with
  | some (s, r) => match parN r with
    | some (v, r) => match parN r with
      | some (n, r) => match parB r with
        | some (g, r) => some (⟨s, v, n, g⟩, r)
        | none => none
      | none => none
    | none => none
  | none => none
theorem takeT_len {l s r : List UInt8} (h : takeT l = some (s, r)) : r.length ≤ l.length := by
  cases l with
  | nil => simp [takeT] at h
  | cons m ys =>
    simp only [takeT] at h
    split at h
    · cases h
    · simp at h; obtain ⟨_, rfl⟩ := h; simp; omega
theorem hset0' {H l : List O} {a o : O} {n : Nat} (hl : H.length = n) : (H ++ a :: l).set n o = H ++ o :: l := by subst hl; exact Zeu
theorem gc_one {H ex : List O} {p : Nat} {o : O} {d d' : D} (hp : p < H.length) (hd : Fit H.length d) (hd' : ∀ n, Fit n d') : gc H.length H (H.set p (.cells [d']) ++ ex) d = H.set p (.cells [d']) :=
  gc_set hd (List.getElem?_eq_getElem hp) (.cells _ (by simp [hd']))

section
variable (H : List O) (p : Nat) (l : List UInt8) (hp : Zbp H p = some [rdC l]) (hl : l.length ≤ 100000)
  include hp hl
theorem r65_ok {x : ItemV} {rest : List UInt8} (ht : parP l = some (x, rest)) : wc 65 [.ptr p 0] H = some (.val (.agg (Zh8 (BA x.key) x.val x.ver x.gone)), H.set p (.cells [rdC rest])) := by
  obtain ⟨hlt, hpe⟩ := Zf3 hp
  unfold parP at ht
  split at ht
  · rename_i s r1 q1
    split at ht
    · rename_i v r2 q2
      split at ht
      · rename_i n r3 q3
        split at ht
        · rename_i g r4 q4
          simp only [Option.some.injEq, Prod.mk.injEq] at ht
          obtain ⟨rfl, rfl⟩ := ht
          have b1 := takeT_len q1
          have b2 := Zfw q2
          have b3 := Zfw q3
          have hlt1 : ∀ d : D, p < (H.set p (.cells [d])).length := fun d => by simpa using hlt
          have h1 := fun I => r67_ok (H ++ [I]) p l (by rw [Zhu hlt]; exact hp) hl q1
          have h2 := fun I => r61_ok (H.set p (.cells [rdC r1]) ++ [I]) p r1 (by rw [Zhu (hlt1 _)]; exact Zfz hlt) (by omega) q2
          have h3 := fun I => r61_ok (H.set p (.cells [rdC r2]) ++ [I]) p r2 (by rw [Zhu (hlt1 _)]; exact Zfz hlt) (by omega) q3
          have h4 := fun I => r63_ok (H.set p (.cells [rdC r3]) ++ [I]) p r3 (by rw [Zhu (hlt1 _)]; exact Zfz hlt) (by omega) q4
          have hgc := fun ex => gc_one (H := H) (ex := ex) (p := p) (o := .dead) (d := .agg (Zh8 (BA s) v n g)) (d' := rdC r4) hlt (.agg _ (by simp [Zh8, Zbm])) (fun n => rdC_fit)
          simp only [set_app hlt, set_app (hlt1 _), List.set_set] at h1 h2 h3 h4
          simp only [Zh8] at hgc ⊢
          have hcv : ∀ i, wcv 65 i = [] := fun _ => rfl
          have hres : Try.f65.results.toList = [ResultVar.cell 2 24] := rfl
          rw [wc, Zbt rfl Try.func65 rfl]
          simp only [Zbi, List.length_cons, List.length_nil, Nat.reduceAdd, Nat.reduceSub, List.replicate, List.cons_append, List.nil_append, Zaj, Zaz, Za3, Zae, Zao, Zbe, Zbf, Za9, Zce, Zbq, List.getElem?_cons_succ, List.getElem?_cons_zero, Option.bind_some, Nat.reduceLeDiff, ne_eq, reduceCtorEq, not_false_eq_true, implies_true, Bool.false_eq_true, Option.map_some, List.set_cons_succ, List.set_cons_zero, List.getD_cons_succ, List.getD_cons_zero, Zau, Zbo, Zbk, List.any_cons, List.any_nil, Zb3, Bool.or_false, ↓reduceIte, Zdz, Zbc, Za5, Za4, Zaf, Zac, Zaw, Zap, Zb0, Zab, Zaa, Zdy, Zat, and_self, List.append_nil, Zbg, Zad, Zb6, Zb5, Zb4, Zb1, Zc9, Zb9, Zco, Zbs, Zcq, List.take_succ_cons, List.take_zero, List.drop_succ_cons, List.drop_zero, Za8, Zag, Bool.or_self, Nat.add_zero, Nat.zero_add, Nat.succ_ne_zero, Nat.le_refl, sz3, sz4, sz9, sz24, ag24, st24, Za1 (hcv _), Try.ntmps65, hres, zo24, h1, h2, h3, h4, hset0', gc_app0', List.length_set, hgc, back, Zcp, taken, Zbj, Zdo, beq_self_eq_true, Nat.reduceBEq]
        · cases ht
      · cases ht
    · cases ht
  · cases ht
end

end Go.Abs

namespace Go.Abs
open Go Go.Proofs
set_option maxRecDepth 10000
set_option maxHeartbeats 4000000

theorem own0_ptr {i o : Nat} : own0 (.ptr i o) = false := of_decide_eq_true rfl
theorem w32 (p : Nat) (h : List O) : wc 32 [.ptr p 0] h = some (.val (.func (.func 60) [] [.ptr h.length 0]), h ++ [.cells [.ptr p 0]]) := by
  have hcv : ∀ i, wcv 32 i = [] := fun _ => rfl
  have hres : Try.f32.results.toList = [ResultVar.tmp 2] := rfl
  rw [wc, Zbt rfl Try.func32 rfl]
  simp only [Zbi, List.length_cons, List.length_nil, Nat.reduceSub, List.replicate, List.cons_append, List.nil_append, Zaj, Zaz, Za3, Zae, Zao, Za9, ne_eq, reduceCtorEq, not_false_eq_true, implies_true, Option.map_some, List.set_cons_succ, List.set_cons_zero, List.getD_cons_succ, List.getD_cons_zero, Zbk, Zda, ↓reduceIte, Za0, Zd2, Zec, Za4, Zaf, Zaq, Ze7, Zd9, Zdt, Zb0, Zab, Zaa, Zah, Zat, Option.some.injEq, Prod.mk.injEq, true_and, Zhf, Zhy, Nat.zero_add, Za1 (hcv _), Try.ntmps32, hres]
  rw [gc_not]
  simp [fit_func, fit_ptr]

def Zh5 (q : Nat) : List (E × D) := [(.int .u8 4, .func (.func 62) [] [.ptr q 0]), (.int .u8 5, .func (.func 64) [] [.ptr q 0]), (.int .u8 6, .func (.func 66) [] [.ptr q 0]), (.int .u8 7, .func (.func 68) [] [.ptr q 0]), (.int .u8 10, .func (.func 70) [] [.ptr q 0]), (.int .u8 11, .func (.func 71) [] [.ptr q 0]), (.int .u8 12, .func (.func 72) [] [.ptr q 0])]
theorem w34 (p : Nat) (h : List O) : wc 34 [.ptr p 0] h = some (.val (.map (h.length + 1)), h ++ [.cells [.ptr p 0], .map (Zh5 h.length)]) := by
  have hcv : ∀ i, wcv 34 i = [] := fun _ => rfl
  have hres : Try.f34.results.toList = [ResultVar.tmp 2] := rfl
  rw [wc, Zbt rfl Try.func34 rfl]
  simp only [Zbi, List.length_cons, List.length_nil, Nat.reduceSub, List.replicate, List.cons_append, List.nil_append, Zaj, Zaz, Za3, Zae, Zao, Za9, Zce, List.getElem?_cons_succ, List.getElem?_cons_zero, ne_eq, reduceCtorEq, not_false_eq_true, implies_true, Option.map_some, List.set_cons_succ, List.set_cons_zero, List.getD_cons_succ, List.getD_cons_zero, Zbk, Zda, Zfu, ↓reduceIte, Za2, Za0, Zd2, Zec, Zhe, Za4, Zaf, Zaq, Zac, Zai, Ze7, Zd9, Zan, Zb0, Zab, Zaa, Zah, Zat, Option.some.injEq, Prod.mk.injEq, true_and, Ze4, hlen, Zi9, hgetn, Zhf, Zhy, Bool.and_true, Nat.zero_add, Za1 (hcv _), Try.ntmps34, hres, exO_insert, mp65, key5, plain_func, setD_nil, setD_ne, Int.reduceBEq, ofV_nilmap]
  rw [gc_not]
  · rfl
  · intro hf; cases hf; omega

/-- A head's numbers, one by one. -/
structure Heads (l0 l4 : List UInt8) (n0 n1 n2 n3 : Nat) : Prop where
  ex : ∃ l1 l2 l3, parN l0 = some (n0, l1) ∧ parN l1 = some (n1, l2) ∧ parN l2 = some (n2, l3) ∧ parN l3 = some (n3, l4)

theorem w60 (h : List O) (cM cE lo : O) (l0 l4 : List UInt8) (n0 n1 n2 n3 : Nat) (z0 z1 z2 z3 : D) (hl : l0.length ≤ 100000) (hh : Heads l0 l4 n0 n1 n2 n3)
    (hr : ∀ (l : List UInt8) (hs : List D) (i : Nat) (n : Nat), i < 4 → hs.length = 4 → call Try.prog wpr wcv (.round (h.length + 5)) [.int .i64 (i : Int), .int .i64 (n : Int)] (h ++ [cM, cE, .cells [rdC l], .cells hs, .cells [.ptr (h.length + 2) 0], lo]) =
      some (.val (.bool true), h ++ [cM, cE, .cells [rdC l], .cells (hs.set i (.int .i64 (n : Int))), .cells [.ptr (h.length + 2) 0], lo])) :
    wc 60 [.func (.yield (h.length + 5)) [] [], .ptr (h.length + 4) 0] (h ++ [cM, cE, .cells [rdC l0], .cells [z0, z1, z2, z3], .cells [.ptr (h.length + 2) 0], lo]) =
      some (.val Zav, h ++ [cM, cE, .cells [rdC l4], .cells [.int .i64 (n0 : Int), .int .i64 (n1 : Int), .int .i64 (n2 : Int), .int .i64 (n3 : Int)], .cells [.ptr (h.length + 2) 0], lo]) := by
  obtain ⟨l1, l2, l3, p0, p1, p2, p3⟩ := hh.ex
  have b0 := Zfw p0
  have b1 := Zfw p1
  have b2 := Zfw p2
  have e0 := r61_ok (h ++ [cM, cE, .cells [rdC l0], .cells [z0, z1, z2, z3], .cells [.ptr (h.length + 2) 0], lo]) (h.length + 2) l0 (by simp [Zbp]) hl p0
  have e1 := r61_ok (h ++ [cM, cE, .cells [rdC l1], .cells [.int .i64 (n0 : Int), z1, z2, z3], .cells [.ptr (h.length + 2) 0], lo]) (h.length + 2) l1 (by simp [Zbp]) (by omega) p1
  have e2 := r61_ok (h ++ [cM, cE, .cells [rdC l2], .cells [.int .i64 (n0 : Int), .int .i64 (n1 : Int), z2, z3], .cells [.ptr (h.length + 2) 0], lo]) (h.length + 2) l2 (by simp [Zbp]) (by omega) p2
  have e3 := r61_ok (h ++ [cM, cE, .cells [rdC l3], .cells [.int .i64 (n0 : Int), .int .i64 (n1 : Int), .int .i64 (n2 : Int), z3], .cells [.ptr (h.length + 2) 0], lo]) (h.length + 2) l3 (by simp [Zbp]) (by omega) p3
  have r0 := hr l1 [z0, z1, z2, z3] 0 n0 (by omega) rfl
  have r1 := hr l2 [.int .i64 (n0 : Int), z1, z2, z3] 1 n1 (by omega) rfl
  have r2 := hr l3 [.int .i64 (n0 : Int), .int .i64 (n1 : Int), z2, z3] 2 n2 (by omega) rfl
  have r3 := hr l4 [.int .i64 (n0 : Int), .int .i64 (n1 : Int), .int .i64 (n2 : Int), z3] 3 n3 (by omega) rfl
  have w0 : IntKind.i64.wrap (0 + 1) = 1 := by decide
  have w1 : IntKind.i64.wrap (1 + 1) = 2 := by decide
  have w2 : IntKind.i64.wrap (2 + 1) = 3 := by decide
  have w3 : IntKind.i64.wrap (3 + 1) = 4 := by decide
  have c0 : ((0 : Nat) : Int) = 0 := rfl
  have c1 : ((1 : Nat) : Int) = 1 := rfl
  have c2 : ((2 : Nat) : Int) = 2 := rfl
  have c3 : ((3 : Nat) : Int) = 3 := rfl
  rw [c0] at r0; rw [c1] at r1; rw [c2] at r2; rw [c3] at r3
  simp only [Ze4, List.set_cons_succ, List.set_cons_zero] at e0 e1 e2 e3 r0 r1 r2 r3
  have hcv : ∀ i, wcv 60 i = [] := fun _ => rfl
  have hres : Try.f60.results.toList = [] := rfl
  rw [wc, Zbt rfl Try.func60 rfl]
  simp only [Zbi, List.length_cons, List.length_nil, Nat.reduceAdd, Nat.reduceSub, List.replicate, List.cons_append, List.nil_append, Zaj, Zbz, Zfe, Zc3, Za7, Zal, Zar, Za3, Zeg, Zc8, Zeh, Ze8, Zdu, Zae, Zao, Zbe, Zbf, Za9, Zbq, List.getElem?_cons_zero, Option.bind_some, ne_eq, reduceCtorEq, not_false_eq_true, implies_true, Bool.not_true, Bool.false_eq_true, Option.map_some, List.set_cons_succ, List.set_cons_zero, List.getD_cons_succ, List.getD_cons_zero, Zau, Zbk, Zda, ↓reduceIte, Za2, Zep, Za0, Za6, Zdn, Za4, Zac, Zai, Zaw, Zap, Zan, Zdf, Zc2, Int.reduceLT, Zcv, Zbv, Zes, Zer, Zab, Zaa, Zcr, Zbh, Zbg, Zcz, hlen, Zad, Zbs, Zag, Nat.zero_add, Nat.le_refl, Za1 (hcv _), Try.ntmps60, hres, kx_loop, decide_true, decide_false, sz56, ag56, own0_ptr, e0, e1, e2, e3, ko_val, kY_yield, r0, r1, r2, r3, w0, w1, w2, w3, Zf0]

end Go.Abs
