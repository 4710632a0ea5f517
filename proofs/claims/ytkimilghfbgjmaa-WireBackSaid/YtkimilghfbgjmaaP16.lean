/-
  WIRE: what kinds have. MORE RULES: heavy ones in regions whose order is open. No condition.
-/
import Derived.Test.YtkimilghfbgjmaaP15

namespace Go.Abs
open Go Go.Proofs
set_option maxRecDepth 10000
set_option maxHeartbeats 4000000

def Msg.noItem (m : Msg) : Msg := { m with ikey := { data := #[] }, ival := 0, iver := 0, gone := false }
/-- A message without what its kind may have. -/
def Msg.bare (m : Msg) : Msg :=
  if m.kind == 4 then { m with key := 0, slow := false } else
  if m.kind == 5 then m.noItem else
  if m.kind == 6 then m.noItem else
  if m.kind == 7 then { m with pred := 0, list := [] } else
  if m.kind == 10 then { m with place := 0, done := false } else
  if m.kind == 11 then { m with code := 0 } else
  if m.kind == 12 then { m.noItem with code := 0 } else m
def bareL (m : Msg) (l : D) : D := if m.kind == 4 then l else if m.kind == 5 then l else if m.kind == 6 then l else if m.kind == 7 then .osl false true 0 [] else l
theorem bareL_rd {m : Msg} {l : D} (hl : Rd l (isE m.list)) : Rd (bareL m l) (isE m.bare.list) := by
  unfold bareL Msg.bare
  split
  · exact hl
  · split
    · exact hl
    · split
      · exact hl
      · split
        · exact Rd.osl
        · split
          · exact hl
          · split
            · exact hl
            · split
              · exact hl
              · exact hl

theorem Zhg : buildD Try.prog 24 [] = some (.agg [.str { data := #[] }, .int .i64 0, .int .i64 0, .bool false]) := by kernel_rfl
theorem build24_key {k : ByteArray} : buildD Try.prog 24 [(0, .str k)] = some (.agg [.str k, .int .i64 0, .int .i64 0, .bool false]) := by
  simp only [buildD, zo24, Try.underlying24]
  simp [sz9, sz3, sz4, fillD, cellsOf, Zeq, notTup]
theorem build27 {k c f t : Int} : buildD Try.prog 27 [(0, .int .u8 k), (1, .int .i64 c), (2, .int .i64 f), (3, .int .i64 t)] = some (.agg [.int .u8 k, .int .i64 c, .int .i64 f, .int .i64 t, .int .i64 0, .bool false, .bool false, .int .i64 0, .int .i64 0, .osl false true 0 [], .str { data := #[] }, .int .i64 0, .int .i64 0, .bool false, .int .i64 0]) := by
  simp only [buildD, zo27, Try.underlying27]
  simp [sz3, sz4, sz5, sz22, sz24, sz25, fillD, cellsOf, Zeq, notTup]

theorem w22 (m : Msg) (l : D) (hl : Rd l (isE m.list)) (h : List O) : wc 22 [.agg (m.cs l)] h = some (.val (.agg ((m.bare).cs (bareL m l))), h) := by
  have hcv : ∀ i, wcv 22 i = [] := fun _ => rfl
  have hres : Try.f22.results.toList = [ResultVar.cell 2 27] := rfl
  rw [wc, Zbt rfl Try.func22 rfl]
  try simp only [Zbi, List.length_cons, List.length_nil, Nat.reduceAdd, Nat.reduceSub, List.replicate, List.cons_append, List.nil_append, Zaj, Zc3, Za7, Za3, Zae, Zao, Za9, List.getElem?_cons_zero, Option.bind_some, Nat.reduceLeDiff, ne_eq, reduceCtorEq, not_false_eq_true, implies_true, Bool.false_eq_true, Option.map_some, List.set_cons_succ, List.set_cons_zero, List.getD_cons_succ, List.getD_cons_zero, Zau, Zbo, List.any_cons, List.any_nil, Zb3, ↓reduceIte, Za0, Za6, Zdz, Zd2, Za5, Za4, Zac, Zai, Zan, Zb8, Zay, Zas, Zbg, hlen, Zi9, Zad, Zb6, Zb5, Zb1, Zb9, Zbs, Za8, Zag, Bool.or_self, Nat.add_zero, Nat.zero_add, Nat.succ_ne_zero, sz5, ag5, st27, Za1 (hcv _), Try.ntmps22, Msg.cs, hl.own, zo27, Msg.bare, bareL, Msg.noItem]
  cases hp0 : m.kind == 4
  rotate_left
  · simp only [List.length_cons, List.length_nil, Nat.reduceAdd, List.cons_append, List.nil_append, Zaj, Zaz, Zal, Za3, Zc8, Zae, Zao, Za9, Zce, List.getElem?_cons_succ, List.getElem?_cons_zero, Option.bind_some, Nat.reduceLeDiff, ne_eq, reduceCtorEq, not_false_eq_true, implies_true, Bool.false_eq_true, Option.map_some, List.set_cons_succ, List.set_cons_zero, List.getD_cons_succ, List.getD_cons_zero, Zbo, List.any_cons, List.any_nil, Zb3, ↓reduceIte, Zbc, Za5, Za4, Zaq, Zac, Zan, Zax, Zb0, Zab, Zaa, Zdy, Zat, Zbm, Zg6, List.forall_mem_cons, List.not_mem_nil, false_imp_iff, and_self, List.append_nil, Zas, Zbh, Zbg, Zcz, Zeu, Ze4, Zad, Zb6, Zb5, Zb4, Zb1, Zc9, Zb9, Zco, Zbs, Zcq, Zb2, List.take_succ_cons, List.take_zero, List.drop_succ_cons, List.drop_zero, Za8, Zag, Bool.or_self, Nat.zero_add, Nat.succ_ne_zero, Nat.le_refl, sz3, sz4, sz27, ag27, st27, Za1 (hcv _), hres, hl.own, hl.fit]
  simp only [Zaj, Za7, Zar, Za3, Zae, Zao, Za9, ne_eq, reduceCtorEq, not_false_eq_true, implies_true, Bool.false_eq_true, Option.map_some, List.set_cons_succ, List.set_cons_zero, List.getD_cons_succ, List.getD_cons_zero, Zau, ↓reduceIte, Za0, Za6, Za4, Zac, Zai, Zan, Zb8, Zay, Za1 (hcv _)]
  cases hp1 : m.kind == 5
  rotate_left
  · simp only [List.length_cons, List.length_nil, Nat.reduceAdd, List.cons_append, List.nil_append, Zaj, Zbz, Zaz, Za7, Zal, Za3, Zc8, Zae, Zao, Za9, Zce, List.getElem?_cons_succ, List.getElem?_cons_zero, Option.bind_some, Nat.reduceLeDiff, ne_eq, reduceCtorEq, not_false_eq_true, implies_true, Bool.false_eq_true, Option.map_some, List.set_cons_succ, List.set_cons_zero, List.getD_cons_succ, List.getD_cons_zero, Zbo, List.any_cons, List.any_nil, Zb3, ↓reduceIte, Zdv, Zbc, Za5, Za4, Zac, Zaw, Zb0, Zab, Zaa, Zdy, Zat, Zbm, Zg6, List.forall_mem_cons, List.not_mem_nil, false_imp_iff, and_self, List.append_nil, Zas, Zbh, Zbg, Zcz, Zeu, Ze4, Zad, Zb6, Zb5, Zb4, Zb1, Zb9, Zbs, Zcq, Zb2, List.take_succ_cons, List.take_zero, List.drop_succ_cons, List.drop_zero, List.map_nil, Za8, Zag, Bool.or_self, Nat.zero_add, Nat.succ_ne_zero, Nat.le_refl, sz24, sz27, ag27, st27, Za1 (hcv _), hres, hl.own, hl.fit, Zhg, List.zip_nil_right]
  simp only [Za7, Zar, Za3, Zae, Zao, Za9, ne_eq, reduceCtorEq, not_false_eq_true, implies_true, Bool.false_eq_true, Option.map_some, List.set_cons_succ, List.set_cons_zero, List.getD_cons_succ, List.getD_cons_zero, Zau, ↓reduceIte, Za0, Za6, Za4, Zac, Zai, Zan, Zb8, Zay, Za1 (hcv _)]
  cases hp2 : m.kind == 6
  rotate_left
  · simp only [List.length_cons, List.length_nil, Nat.reduceAdd, List.cons_append, List.nil_append, Zaj, Zaz, Zal, Za3, Zc8, Zae, Zao, Za9, Zce, List.getElem?_cons_succ, List.getElem?_cons_zero, Option.bind_some, Nat.reduceLeDiff, ne_eq, reduceCtorEq, not_false_eq_true, implies_true, Bool.false_eq_true, Option.map_some, List.set_cons_succ, List.set_cons_zero, List.getD_cons_succ, List.getD_cons_zero, Zbo, List.any_cons, List.any_nil, Zb3, ↓reduceIte, Zdv, Zbc, Za5, Za4, Zac, Zaw, Zb0, Zab, Zaa, Zdy, Zat, Zbm, Zg6, List.forall_mem_cons, List.not_mem_nil, false_imp_iff, and_self, List.append_nil, Zas, Zbh, Zbg, Zcz, Zeu, Ze4, Zad, Zb6, Zb5, Zb4, Zb1, Zb9, Zbs, Zcq, Zb2, List.take_succ_cons, List.take_zero, List.drop_succ_cons, List.drop_zero, List.map_nil, Za8, Zag, Bool.or_self, Nat.zero_add, Nat.succ_ne_zero, Nat.le_refl, sz24, sz27, ag27, st27, Za1 (hcv _), hres, hl.own, hl.fit, Zhg, List.zip_nil_right]
  simp only [Zaj, Za7, Zar, Za3, Zae, Zao, Za9, ne_eq, reduceCtorEq, not_false_eq_true, implies_true, Bool.false_eq_true, Option.map_some, List.set_cons_succ, List.set_cons_zero, List.getD_cons_succ, List.getD_cons_zero, Zau, ↓reduceIte, Za0, Za6, Za4, Zac, Zai, Zan, Zb8, Zay, Za1 (hcv _)]
  cases hp3 : m.kind == 7
  rotate_left
  · simp only [List.length_cons, List.length_nil, Nat.reduceAdd, List.cons_append, List.nil_append, Zaj, Zaz, Zal, Za3, Zc8, Zae, Zao, Za9, Zce, List.getElem?_cons_succ, List.getElem?_cons_zero, Option.bind_some, Nat.reduceLeDiff, ne_eq, reduceCtorEq, not_false_eq_true, implies_true, Bool.false_eq_true, Option.map_some, List.set_cons_succ, List.set_cons_zero, List.getD_cons_succ, List.getD_cons_zero, Zbo, List.any_cons, List.any_nil, Zb3, Zds, ↓reduceIte, Zbc, Za5, Za4, Zaq, Zac, Zan, Zcj, Zb0, Zab, Zaa, Zdy, Zat, Zbm, Zcx, Zg6, List.forall_mem_cons, List.not_mem_nil, false_imp_iff, and_self, List.append_nil, Zas, Zbh, Zbg, Zcz, Zeu, Ze4, Zad, Zb6, Zb5, Zb4, Zb1, Zc9, Zd3, Zb9, Zco, Zcm, Zbs, Zcq, Zb2, List.take_succ_cons, List.take_zero, List.drop_succ_cons, List.drop_zero, Za8, Zag, Bool.or_self, Nat.zero_add, Nat.succ_ne_zero, Nat.le_refl, sz3, sz22, sz27, ag27, st27, Za1 (hcv _), hres]
  simp only [Zaj, Za7, Zar, Za3, Zae, Zao, Za9, ne_eq, reduceCtorEq, not_false_eq_true, implies_true, Bool.false_eq_true, Option.map_some, List.set_cons_succ, List.set_cons_zero, List.getD_cons_succ, List.getD_cons_zero, Zau, ↓reduceIte, Za0, Za6, Za4, Zac, Zai, Zan, Zb8, Zay, Za1 (hcv _)]
  cases hp4 : m.kind == 10
  rotate_left
  · simp only [List.length_cons, List.length_nil, Nat.reduceAdd, List.cons_append, List.nil_append, Zaj, Zaz, Zal, Za3, Zc8, Zae, Zao, Za9, Zce, List.getElem?_cons_succ, List.getElem?_cons_zero, Option.bind_some, Nat.reduceLeDiff, ne_eq, reduceCtorEq, not_false_eq_true, implies_true, Bool.false_eq_true, Option.map_some, List.set_cons_succ, List.set_cons_zero, List.getD_cons_succ, List.getD_cons_zero, Zbo, List.any_cons, List.any_nil, Zb3, ↓reduceIte, Zbc, Za5, Za4, Zaq, Zac, Zan, Zax, Zb0, Zab, Zaa, Zdy, Zat, Zbm, Zg6, List.forall_mem_cons, List.not_mem_nil, false_imp_iff, and_self, List.append_nil, Zas, Zbh, Zbg, Zcz, Zeu, Ze4, Zad, Zb6, Zb5, Zb4, Zb1, Zc9, Zb9, Zco, Zbs, Zcq, Zb2, List.take_succ_cons, List.take_zero, List.drop_succ_cons, List.drop_zero, Za8, Zag, Bool.or_self, Nat.zero_add, Nat.succ_ne_zero, Nat.le_refl, sz3, sz4, sz27, ag27, st27, Za1 (hcv _), hres, hl.own, hl.fit]
  simp only [Zaj, Za7, Zar, Za3, Zae, Zao, Za9, ne_eq, reduceCtorEq, not_false_eq_true, implies_true, Bool.false_eq_true, Option.map_some, List.set_cons_succ, List.set_cons_zero, List.getD_cons_succ, List.getD_cons_zero, Zau, ↓reduceIte, Za0, Za6, Za4, Zac, Zai, Zan, Zb8, Zay, Za1 (hcv _)]
  cases hp5 : m.kind == 11
  rotate_left
  · simp only [List.length_cons, List.length_nil, Nat.reduceAdd, List.cons_append, List.nil_append, Zaj, Zaz, Zal, Za3, Zc8, Zae, Zao, Za9, Zce, List.getElem?_cons_succ, List.getElem?_cons_zero, Option.bind_some, ne_eq, reduceCtorEq, not_false_eq_true, implies_true, Bool.false_eq_true, Option.map_some, List.set_cons_succ, List.set_cons_zero, List.getD_cons_succ, List.getD_cons_zero, Zbo, List.any_cons, List.any_nil, Zb3, ↓reduceIte, Zbc, Za5, Za4, Zaq, Zac, Zan, Zb0, Zab, Zaa, Zdy, Zat, Zbm, Zg6, List.forall_mem_cons, List.not_mem_nil, false_imp_iff, and_self, List.append_nil, Zas, Zbh, Zbg, Zcz, Zeu, Ze4, Zad, Zb6, Zb5, Zb4, Zb1, Zc9, Zb9, Zco, Zbs, Zcq, Zb2, List.take_succ_cons, List.take_zero, List.drop_succ_cons, List.drop_zero, Za8, Zag, Bool.or_self, Nat.zero_add, Nat.succ_ne_zero, Nat.le_refl, sz25, sz27, ag27, st27, Za1 (hcv _), hres, hl.own, hl.fit]
  simp only [Zaj, Za7, Zar, Za3, Zae, Zao, Za9, ne_eq, reduceCtorEq, not_false_eq_true, implies_true, Bool.false_eq_true, Option.map_some, List.set_cons_succ, List.set_cons_zero, List.getD_cons_succ, List.getD_cons_zero, Zau, ↓reduceIte, Za0, Za6, Za4, Zac, Zai, Zan, Zb8, Zay, Za1 (hcv _)]
  cases hp6 : m.kind == 12
  rotate_left
  · simp only [List.length_cons, List.length_nil, Nat.reduceAdd, List.cons_append, List.nil_append, Zaj, Zaz, Zal, Za3, Zc8, Zae, Zao, Za9, Zce, List.getElem?_cons_succ, List.getElem?_cons_zero, Option.bind_some, Nat.reduceLeDiff, ne_eq, reduceCtorEq, not_false_eq_true, implies_true, Bool.false_eq_true, Option.map_some, List.set_cons_succ, List.set_cons_zero, List.getD_cons_succ, List.getD_cons_zero, Zbo, List.any_cons, List.any_nil, Zb3, ↓reduceIte, Zdv, Zbc, Za5, Za4, Zaq, Zac, Zaw, Zan, Zb0, Zab, Zaa, Zdy, Zat, Zbm, Zg6, List.forall_mem_cons, List.not_mem_nil, false_imp_iff, and_self, List.append_nil, Zas, Zbh, Zbg, Zcz, Zeu, Ze4, Zad, Zb6, Zb5, Zb4, Zb1, Zc9, Zb9, Zco, Zbs, Zcq, Zb2, List.take_succ_cons, List.take_zero, List.drop_succ_cons, List.drop_zero, List.map_nil, Za8, Zag, Bool.or_self, Nat.zero_add, Nat.succ_ne_zero, Nat.le_refl, sz24, sz25, sz27, ag27, st27, Za1 (hcv _), hres, hl.own, hl.fit, Zhg, List.zip_nil_right]
  simp only [List.length_cons, List.length_nil, Nat.reduceAdd, List.nil_append, Zaj, Zbz, Zaz, Zar, Za3, Zc8, Zae, Zao, Za9, Zce, Option.bind_some, ne_eq, reduceCtorEq, not_false_eq_true, implies_true, Bool.false_eq_true, Option.map_some, List.set_cons_succ, List.set_cons_zero, List.getD_cons_succ, List.getD_cons_zero, Zbo, List.any_cons, List.any_nil, Zb3, ↓reduceIte, Zbc, Za4, Zac, Zb0, Zab, Zaa, Zdy, Zat, Zbm, Zg6, List.forall_mem_cons, List.not_mem_nil, false_imp_iff, and_self, List.append_nil, Zas, Zbh, Zbg, Zcz, Ze4, Zad, Zb4, Zb1, Zb9, Zbs, Zcq, Zb2, List.take_succ_cons, List.take_zero, List.drop_succ_cons, List.drop_zero, Zag, Bool.or_self, Nat.zero_add, Nat.le_refl, sz27, ag27, Za1 (hcv _), hres, hl.own, hl.fit]


open Classical in
/-- Is what its kind may have as it is to be? -/
noncomputable def Msg.has (m : Msg) : Bool :=
  if m.kind == 4 then Zej m.key else
  if m.kind == 5 then Zgj m.ikey m.ival m.iver else
  if m.kind == 6 then Zgj m.ikey m.ival m.iver && ((m.ikey == m.ikey) && ((m.ival == 0) && ((m.iver == 0) && (m.gone == false)))) else
  if m.kind == 7 then ((m.pred == -1) || Zej m.pred) && listZ m.list m.frm else
  if m.kind == 10 then Zej m.place else
  if m.kind == 11 then (m.code == 0) || (m.code == 200) else
  if m.kind == 12 then ((m.code == 0) && Zgj m.ikey m.ival m.iver) || ((m.code == 201) && ((m.ikey == { data := #[] }) && ((m.ival == 0) && ((m.iver == 0) && (m.gone == false))))) else true

theorem w23 (m : Msg) (l : D) (hl : Rd l (isE m.list)) (hx : m.list.length ≤ 1099511627776) (h : List O) : wc 23 [.agg (m.cs l)] h = some (.val (.bool m.has), h) := by
  have hp := w39 m.ikey m.ival m.iver m.gone
  have hll := w40 l m.list m.frm hl hx
  simp only [Zh8] at hp
  have hcv : ∀ i, wcv 23 i = [] := fun _ => rfl
  have hres : Try.f23.results.toList = [ResultVar.tmp 2] := rfl
  rw [wc, Zbt rfl Try.func23 rfl]
  simp only [Zbi, List.length_cons, List.length_nil, Nat.reduceAdd, Nat.reduceSub, List.replicate, List.cons_append, List.nil_append, Zaj, Zc3, Za7, Za3, Zae, Zao, Za9, List.getElem?_cons_zero, Option.bind_some, Nat.reduceLeDiff, ne_eq, reduceCtorEq, not_false_eq_true, implies_true, Bool.false_eq_true, Option.map_some, List.set_cons_succ, List.set_cons_zero, List.getD_cons_succ, List.getD_cons_zero, Zau, Zbo, List.any_cons, List.any_nil, Zb3, ↓reduceIte, Za0, Za6, Zd2, Za5, Za4, Zaq, Zac, Zai, Zan, Zax, Zb8, Int.reduceNeg, Zay, Zas, Zbg, Zad, Zb6, Zb5, Zb1, Zb9, Zbs, Za8, Zag, Bool.or_self, Nat.add_zero, Nat.zero_add, Nat.succ_ne_zero, sz5, ag5, st27, Za1 (hcv _), Try.ntmps23, Msg.cs, hl.own]
  cases h4 : m.kind == 4
  rotate_left
  · simp only [List.length_cons, List.length_nil, Nat.reduceAdd, Zaj, Zaz, Zal, Za3, Zbr, Zcl, Zae, Zao, Zbe, Zbf, Za9, Zbq, List.getElem?_cons_succ, List.getElem?_cons_zero, Option.bind_some, Nat.reduceLeDiff, ne_eq, reduceCtorEq, not_false_eq_true, implies_true, Bool.false_eq_true, Option.map_some, List.set_cons_succ, List.set_cons_zero, List.getD_cons_succ, List.getD_cons_zero, Zau, Zb3, ↓reduceIte, Za0, Za5, Za4, Zac, Zaw, Zap, Int.reduceNeg, Zb0, Zab, Zaa, Zah, Zat, Zbm, Zas, Zbg, Zad, Zb6, Zb5, Zbs, Zb2, Za8, Zag, Nat.zero_add, Nat.succ_ne_zero, sz3, ag3, st27, Za1 (hcv _), hres, h4, w20, Msg.has]
  simp only [Zaj, Za7, Zar, Za3, Zae, Zao, Za9, ne_eq, reduceCtorEq, not_false_eq_true, implies_true, Option.map_some, List.set_cons_succ, List.set_cons_zero, List.getD_cons_succ, List.getD_cons_zero, Zau, Za0, Za6, Za4, Zac, Zai, Zan, Zb8, Int.reduceNeg, Zay, Za1 (hcv _)]
  cases h5 : m.kind == 5
  rotate_left
  · simp only [List.length_cons, List.length_nil, Nat.reduceAdd, Zaj, Zaz, Zal, Za3, Zbr, Zcl, Zae, Zao, Zbe, Zbf, Za9, Zbq, List.getElem?_cons_succ, List.getElem?_cons_zero, Option.bind_some, Nat.reduceLeDiff, ne_eq, reduceCtorEq, not_false_eq_true, implies_true, Bool.false_eq_true, Option.map_some, List.set_cons_succ, List.set_cons_zero, List.getD_cons_succ, List.getD_cons_zero, Zau, Zbo, List.any_cons, List.any_nil, Zb3, ↓reduceIte, Za0, Za5, Za4, Zac, Zaw, Zap, Int.reduceNeg, Zb0, Zab, Zaa, Zah, Zat, Zbm, Zas, Zbg, Zad, Zb6, Zb5, Zbs, Zb2, List.take_succ_cons, List.take_zero, List.drop_succ_cons, List.drop_zero, Za8, Zag, Bool.or_self, Nat.zero_add, Nat.succ_ne_zero, sz24, ag24, st27, Za1 (hcv _), hres, h5, hp, Msg.has, h4]
  simp only [Zaj, Za7, Zar, Za3, Zae, Zao, Za9, ne_eq, reduceCtorEq, not_false_eq_true, implies_true, Option.map_some, List.set_cons_succ, List.set_cons_zero, List.getD_cons_succ, List.getD_cons_zero, Zau, Za0, Za6, Za4, Zac, Zai, Zan, Zb8, Int.reduceNeg, Zay, Za1 (hcv _)]
  cases h6 : m.kind == 6
  rotate_left
  · simp only [List.length_cons, List.length_nil, Nat.reduceAdd, Zaj, Zal, Zao, Zbe, Zbf, Zak, Za9, Zbq, List.getElem?_toArray, List.getElem?_cons_succ, List.getElem?_cons_zero, Option.bind_some, Nat.reduceLT, Nat.reduceLeDiff, ne_eq, reduceCtorEq, not_false_eq_true, implies_true, Bool.false_eq_true, Option.map_some, List.set_cons_succ, List.set_cons_zero, List.getD_cons_succ, List.getD_cons_zero, Zau, Zbo, List.any_cons, List.any_nil, Zb3, ↓reduceIte, Za2, Za5, Za4, Zac, Zaw, Zap, Int.reduceNeg, Option.some.injEq, Zas, Zbg, Zad, Zb6, Zb5, Zbs, List.take_succ_cons, List.take_zero, List.drop_succ_cons, List.drop_zero, Za8, Zag, Bool.or_self, Nat.zero_add, Nat.succ_ne_zero, sz24, ag24, st27, Za1 (hcv _), h6, hp, Msg.has, h4, h5]
    try simp only [Zbi, List.length_cons, List.length_nil, Nat.reduceAdd, Nat.reduceSub, List.replicate, List.cons_append, List.nil_append, List.append_eq, Zaj, Zbz, Zaz, Zfe, kx_label, Zh6, Zc3, Zhm, Zht, Za7, Zal, Zar, Za3, Zbr, Zeg, Zgc, kSeq_pan, Zc8, Zcl, Zeh, kBlk_gto, kBlk_pan, Ze8, Zfy, Zdu, kLoop_gto, kLoop_pan, Ziv, Zdq, kScope_ext, kScope_pan, Zae, Zao, Zbb, Zbe, Zbf, Zak, Za9, Zce, kR_pan, Zbq, kC_val0, kC_pan, Zc0, Zdl, kG_undef, St.put, List.getElem?_toArray, List.getElem?_cons_succ, List.getElem?_cons_zero, Option.bind_some, Nat.reduceLT, Nat.reduceLeDiff, ne_eq, reduceCtorEq, not_false_eq_true, implies_true, forall_const, Bool.not_true, Bool.not_false, not_true_eq_false, Bool.true_eq_false, Bool.false_eq_true, Option.map_some, List.set_cons_succ, List.set_cons_zero, List.getD_cons_succ, List.getD_cons_zero, Zau, Zef, Zdj, Zbo, Zbk, Zda, Zfu, own_asl, own_rptr, own_hdr, own_iface, List.any_cons, List.any_nil, Zb3, Zds, own0_hdr, Bool.or_false, Bool.false_or, Bool.not_eq_true', if_false, if_true, ite_true, ite_false, ↓reduceIte, Za2, Zep, Za0, Za6, Zdn, Zck, Zam, Zdz, Zd2, Zdv, Zby, Zbc, Zbd, Zf4, Zec, Zhe, Zg9, Za5, Zbl, exO_panic, Zc7, Za4, Zaf, Zaq, Zb7, Zac, Zai, rd_func, Zaw, Zap, Ze7, Zd9, Zan, Zax, Zj2, Zcj, Zdt, Zj4, ofV_nilptr, Zg8, Zg7, Zdf, Zgn, binD_mul, binD_quo, binD_rem, binD_and, binD_or, binD_xor, Zb8, Zel, Zc2, Zfg, Zf6, Zem, binD_shl, Zh4, binS_add, binS_eql, binS_neq, strD_eql, strD_neq, Zfh, binB_neq, Zhi, Zfj, arith_quo, Zig, Int.reduceLT, Int.reduceToNat, Int.reduceNe, Int.reduceNeg, IntKind.bits, Zcv, Zft, Zih, Zhw, arith_or, Zif, Zay, Ze0, Zbv, Zeo, Zei, Ze1, Zes, unD_neg, Zd0, Zdi, exB_min, exB_max, Zb0, Zer, kF_pan, Zab, leave_pan, Zaa, Zah, Zdy, Zat, Zd6, Zea, Zcr, Zcn, Zbm, Zcx, fit_hdr, Zcw, Zg6, List.forall_mem_cons, List.not_mem_nil, false_imp_iff, and_true, and_self, List.toList_toArray, Option.some.injEq, Prod.mk.injEq, exists_eq_left', true_and, Ze5, kd_l, Zc5, Zc4, kd_r, Zcf, Zee, Zch, Zbn, Zc6, Zba, Zdg, exL_const, Zcs, Zci, Zde, exLd_ro, Zbx, Zbw, Zdc, ownOp_func, Zhc, lo_build, Zga, Zdx, Zg1, lo_unOp, Zhj, Zg5, Zin, lo_slice, Zbu, lo_field, Zfl, lo_index, Zeb, lo_len, Zgy, Op.operands, Call.operands, Zg3, Zj5, Zfp, Ziy, Zfx, List.any_cons, List.any_nil, Ze2, mkT, List.foldl_nil, Array.toList_append, List.append_nil, List.forall_mem_nil, Zas, Zbh, Zbg, Zcz, Zeu, Ze4, hlen, Zi9, hget0, hgetn, Zad, Zdh, Zb6, adD_ro, Zb5, add_ro, Zb4, Zb1, Zc9, Zd3, Zhf, Zir, Zhv, Zb9, Zco, Zcm, Zhy, notTup_map, Zil, Zbs, Zim, Zcq, Zb2, List.take_succ_cons, List.take_zero, List.drop_succ_cons, List.drop_zero, List.map_cons, List.map_nil, Za8, Option.bind_eq_bind, Zag, Bool.or_self, Bool.and_false, Bool.and_true, Bool.true_and, Bool.false_and, Bool.or_true, Bool.true_or, Nat.add_zero, Nat.zero_add, Nat.reduceEqDiff, Nat.succ_ne_zero, Zh0, Option.pure_def, slOf_e, Zg0, Nat.le_refl, and_self, Try.underlying3, Try.underlying4, Try.underlying5, Try.underlying9, Try.underlying22, Try.underlying24, Try.underlying25, Try.underlying27, Try.underlying28, Try.underlying31, Try.underlying38, Try.underlying105, sz3, sz4, sz5, sz9, sz22, sz24, sz25, sz27, sz28, sz31, ag3, ag4, ag5, ag9, ag22, ag24, ag25, ag27, ag28, ag31, st24, st27, el22, el31, el105, Za1 (hcv _), hcv, Try.ntmps23, hres, hl.own, hl.ownD, build24_key, eq24, h4, h5, h6, Msg.has, List.zip_cons_cons, List.zip_nil_right]
    cases hp0 : Zgj m.ikey m.ival m.iver
    · simp only [List.length_cons, List.length_nil, Nat.reduceAdd, Zaz, Za3, Zbr, Zcl, Zae, Zao, Zak, Za9, Zdl, St.put, List.getElem?_toArray, List.getElem?_cons_succ, List.getElem?_cons_zero, Option.bind_some, Nat.reduceLT, ne_eq, reduceCtorEq, not_false_eq_true, implies_true, Bool.not_true, Bool.false_eq_true, Option.map_some, List.set_cons_succ, List.set_cons_zero, List.getD_cons_succ, List.getD_cons_zero, Zau, ↓reduceIte, Za0, Zam, Za4, Zb7, Zac, Zax, Zb0, Zab, Zaa, Zah, Zat, Zbm, Option.some.injEq, Zb2, Bool.false_and, Nat.zero_add, hres]
    simp only [List.length_cons, List.length_nil, Nat.reduceAdd, Zaz, Za3, Zbr, Zcl, Zae, Zao, Zak, Za9, Zc0, List.getElem?_toArray, List.getElem?_cons_succ, List.getElem?_cons_zero, Option.bind_some, Nat.reduceLT, Nat.reduceLeDiff, ne_eq, reduceCtorEq, not_false_eq_true, implies_true, Bool.false_eq_true, Option.map_some, List.set_cons_succ, List.set_cons_zero, List.getD_cons_succ, List.getD_cons_zero, Zau, List.any_cons, List.any_nil, Zb3, ↓reduceIte, Za0, Za6, Zam, Zdv, Za5, Za4, Zaf, Zac, Zaw, Zap, Zb0, Zab, Zaa, Zah, Zat, Zbm, Option.some.injEq, Zas, Zbg, Zad, Zb6, Zb5, Zbs, Zb2, List.take_succ_cons, List.take_zero, List.drop_succ_cons, List.drop_zero, List.map_cons, List.map_nil, Za8, Zag, Bool.or_self, Bool.true_and, Nat.add_zero, Nat.zero_add, Nat.succ_ne_zero, sz9, sz24, ag9, ag24, st24, st27, hres, build24_key, eq24, List.zip_cons_cons, List.zip_nil_right]
  simp only [Zaj, Za7, Zar, Za3, Zae, Zao, Za9, ne_eq, reduceCtorEq, not_false_eq_true, implies_true, Option.map_some, List.set_cons_succ, List.set_cons_zero, List.getD_cons_succ, List.getD_cons_zero, Zau, Za0, Za6, Za4, Zac, Zai, Zan, Zb8, Int.reduceNeg, Zay, Za1 (hcv _)]
  cases h7 : m.kind == 7
  rotate_left
  · simp only [List.length_cons, List.length_nil, Nat.reduceAdd, Zaj, Zal, Zao, Zak, Za9, List.getElem?_toArray, List.getElem?_cons_succ, List.getElem?_cons_zero, Option.bind_some, Nat.reduceLT, Nat.reduceLeDiff, ne_eq, reduceCtorEq, not_false_eq_true, implies_true, Bool.false_eq_true, Option.map_some, List.set_cons_succ, List.set_cons_zero, List.getD_cons_succ, List.getD_cons_zero, Zau, Zb3, ↓reduceIte, Za2, Za6, Za5, Zac, Zai, Zan, Zb8, Int.reduceNeg, Zay, Option.some.injEq, Zas, Zbg, Zad, Zb6, Zb5, Zbs, Za8, Zag, Nat.zero_add, Nat.succ_ne_zero, sz3, ag3, st27, Za1 (hcv _), h7, Msg.has, h4, h5, h6]
    cases h71 : m.pred == -1
    · simp only [List.length_cons, List.length_nil, Nat.reduceAdd, Zao, Zbe, Zbf, Zak, Za9, Zbq, Zc0, List.getElem?_toArray, List.getElem?_cons_succ, List.getElem?_cons_zero, Option.bind_some, Nat.reduceLT, Nat.reduceLeDiff, ne_eq, reduceCtorEq, not_false_eq_true, implies_true, Bool.false_eq_true, Option.map_some, List.set_cons_succ, List.set_cons_zero, List.getD_cons_succ, List.getD_cons_zero, Zau, Zb3, Bool.false_or, ↓reduceIte, Za2, Zam, Za5, Za4, Zaf, Zac, Zaw, Zap, Int.reduceNeg, Option.some.injEq, Zas, Zbg, Zad, Zb6, Zb5, Zbs, Za8, Zag, Nat.zero_add, Nat.succ_ne_zero, sz3, ag3, st27, w20]
      try simp only [Zbi, List.length_cons, List.length_nil, Nat.reduceAdd, Nat.reduceSub, List.replicate, List.cons_append, List.nil_append, List.append_eq, Zaj, Zbz, Zaz, Zfe, kx_label, Zh6, Zc3, Zhm, Zht, Za7, Zal, Zar, Za3, Zbr, Zeg, Zgc, kSeq_pan, Zc8, Zcl, Zeh, kBlk_gto, kBlk_pan, Ze8, Zfy, Zdu, kLoop_gto, kLoop_pan, Ziv, Zdq, kScope_ext, kScope_pan, Zae, Zao, Zbb, Zbe, Zbf, Zak, Za9, Zce, kR_pan, Zbq, kC_val0, kC_pan, Zc0, Zdl, kG_undef, St.put, List.getElem?_toArray, List.getElem?_cons_succ, List.getElem?_cons_zero, Option.bind_some, Nat.reduceLT, Nat.reduceLeDiff, ne_eq, reduceCtorEq, not_false_eq_true, implies_true, forall_const, Bool.not_true, Bool.not_false, not_true_eq_false, Bool.true_eq_false, Bool.false_eq_true, Option.map_some, List.set_cons_succ, List.set_cons_zero, List.getD_cons_succ, List.getD_cons_zero, Zau, Zef, Zdj, Zbo, Zbk, Zda, Zfu, own_asl, own_rptr, own_hdr, own_iface, List.any_cons, List.any_nil, Zb3, Zds, own0_hdr, Bool.or_false, Bool.false_or, Bool.not_eq_true', if_false, if_true, ite_true, ite_false, ↓reduceIte, Za2, Zep, Za0, Za6, Zdn, Zck, Zam, Zdz, Zd2, Zdv, Zby, Zbc, Zbd, Zf4, Zec, Zhe, Zg9, Za5, Zbl, exO_panic, Zc7, Za4, Zaf, Zaq, Zb7, Zac, Zai, rd_func, Zaw, Zap, Ze7, Zd9, Zan, Zax, Zj2, Zcj, Zdt, Zj4, ofV_nilptr, Zg8, Zg7, Zdf, Zgn, binD_mul, binD_quo, binD_rem, binD_and, binD_or, binD_xor, Zb8, Zel, Zc2, Zfg, Zf6, Zem, binD_shl, Zh4, binS_add, binS_eql, binS_neq, strD_eql, strD_neq, Zfh, binB_neq, Zhi, Zfj, arith_quo, Zig, Int.reduceLT, Int.reduceToNat, Int.reduceNe, Int.reduceNeg, IntKind.bits, Zcv, Zft, Zih, Zhw, arith_or, Zif, Zay, Ze0, Zbv, Zeo, Zei, Ze1, Zes, unD_neg, Zd0, Zdi, exB_min, exB_max, Zb0, Zer, kF_pan, Zab, leave_pan, Zaa, Zah, Zdy, Zat, Zd6, Zea, Zcr, Zcn, Zbm, Zcx, fit_hdr, Zcw, Zg6, List.forall_mem_cons, List.not_mem_nil, false_imp_iff, and_true, and_self, List.toList_toArray, Option.some.injEq, Prod.mk.injEq, exists_eq_left', true_and, Ze5, kd_l, Zc5, Zc4, kd_r, Zcf, Zee, Zch, Zbn, Zc6, Zba, Zdg, exL_const, Zcs, Zci, Zde, exLd_ro, Zbx, Zbw, Zdc, ownOp_func, Zhc, lo_build, Zga, Zdx, Zg1, lo_unOp, Zhj, Zg5, Zin, lo_slice, Zbu, lo_field, Zfl, lo_index, Zeb, lo_len, Zgy, Op.operands, Call.operands, Zg3, Zj5, Zfp, Ziy, Zfx, List.any_cons, List.any_nil, Ze2, mkT, List.foldl_nil, Array.toList_append, List.append_nil, List.forall_mem_nil, Zas, Zbh, Zbg, Zcz, Zeu, Ze4, hlen, Zi9, hget0, hgetn, Zad, Zdh, Zb6, adD_ro, Zb5, add_ro, Zb4, Zb1, Zc9, Zd3, Zhf, Zir, Zhv, Zb9, Zco, Zcm, Zhy, notTup_map, Zil, Zbs, Zim, Zcq, Zb2, List.take_succ_cons, List.take_zero, List.drop_succ_cons, List.drop_zero, List.map_cons, List.map_nil, Za8, Option.bind_eq_bind, Zag, Bool.or_self, Bool.and_false, Bool.and_true, Bool.true_and, Bool.false_and, Bool.or_true, Bool.true_or, Nat.add_zero, Nat.zero_add, Nat.reduceEqDiff, Nat.succ_ne_zero, Zh0, Option.pure_def, slOf_e, Zg0, Nat.le_refl, and_self, Try.underlying3, Try.underlying4, Try.underlying5, Try.underlying9, Try.underlying22, Try.underlying24, Try.underlying25, Try.underlying27, Try.underlying28, Try.underlying31, Try.underlying38, Try.underlying105, sz3, sz4, sz5, sz9, sz22, sz24, sz25, sz27, sz28, sz31, ag3, ag4, ag5, ag9, ag22, ag24, ag25, ag27, ag28, ag31, st24, st27, el22, el31, el105, Za1 (hcv _), hcv, Try.ntmps23, hres, hl.own, hl.ownD, h4, h5, h6, h7, Msg.has, hll]
      cases hp0 : Zej m.pred
      · simp only [List.length_cons, List.length_nil, Nat.reduceAdd, Zaz, Za3, Zbr, Zcl, Zae, Zao, Zak, Za9, Zdl, St.put, List.getElem?_toArray, List.getElem?_cons_succ, List.getElem?_cons_zero, Option.bind_some, Nat.reduceLT, ne_eq, reduceCtorEq, not_false_eq_true, implies_true, Bool.not_true, Bool.false_eq_true, Option.map_some, List.set_cons_succ, List.set_cons_zero, List.getD_cons_succ, List.getD_cons_zero, Zau, ↓reduceIte, Za0, Zam, Za4, Zb7, Zac, Zax, Int.reduceNeg, Zb0, Zab, Zaa, Zah, Zat, Zbm, Option.some.injEq, Zb2, Bool.false_and, Nat.zero_add, hres]
      simp only [List.length_cons, List.length_nil, Nat.reduceAdd, Zaz, Za3, Zbr, Zcl, Zae, Zao, Zbe, Zbf, Zak, Za9, Zbq, Zc0, List.getElem?_toArray, List.getElem?_cons_succ, List.getElem?_cons_zero, Option.bind_some, Nat.reduceLT, Nat.reduceLeDiff, ne_eq, reduceCtorEq, not_false_eq_true, implies_true, Bool.false_eq_true, Option.map_some, List.set_cons_succ, List.set_cons_zero, List.getD_cons_succ, List.getD_cons_zero, Zau, Zb3, ↓reduceIte, Za0, Zam, Za5, Za4, Zaf, Zac, Zaw, Zap, Int.reduceNeg, Zb0, Zab, Zaa, Zah, Zat, Zbm, Option.some.injEq, Zas, Zbg, Zad, Zb6, Zb5, Zbs, Zb2, Za8, Zag, Bool.true_and, Nat.zero_add, Nat.succ_ne_zero, sz3, sz22, ag3, ag22, st27, hres, hl.own, hl.ownD, hll]
    · simp only [List.length_cons, List.length_nil, Nat.reduceAdd, Zaz, Za3, Zbr, Zcl, Zae, Zao, Zbe, Zbf, Zak, Za9, Zbq, Zc0, Zdl, St.put, List.getElem?_toArray, List.getElem?_cons_succ, List.getElem?_cons_zero, Option.bind_some, Nat.reduceLT, Nat.reduceLeDiff, ne_eq, reduceCtorEq, not_false_eq_true, implies_true, Bool.not_false, Bool.false_eq_true, Option.map_some, List.set_cons_succ, List.set_cons_zero, List.getD_cons_succ, List.getD_cons_zero, Zau, Zb3, ↓reduceIte, Za2, Za0, Zam, Za5, Za4, Zaf, Zb7, Zac, Zaw, Zap, Zax, Int.reduceNeg, Zb0, Zab, Zaa, Zah, Zat, Zbm, Option.some.injEq, Zas, Zbg, Zad, Zb6, Zb5, Zbs, Zb2, Za8, Zag, Bool.true_and, Bool.true_or, Nat.zero_add, Nat.succ_ne_zero, sz3, sz22, ag3, ag22, st27, hres, hl.own, hl.ownD, hll]
  simp only [Zaj, Za7, Zar, Za3, Zae, Zao, Za9, ne_eq, reduceCtorEq, not_false_eq_true, implies_true, Option.map_some, List.set_cons_succ, List.set_cons_zero, List.getD_cons_succ, List.getD_cons_zero, Zau, Za0, Za6, Za4, Zac, Zai, Zan, Zb8, Int.reduceNeg, Zay, Za1 (hcv _)]
  cases h10 : m.kind == 10
  rotate_left
  · simp only [List.length_cons, List.length_nil, Nat.reduceAdd, Zaj, Zaz, Zal, Za3, Zbr, Zcl, Zae, Zao, Zbe, Zbf, Za9, Zbq, List.getElem?_cons_succ, List.getElem?_cons_zero, Option.bind_some, Nat.reduceLeDiff, ne_eq, reduceCtorEq, not_false_eq_true, implies_true, Bool.false_eq_true, Option.map_some, List.set_cons_succ, List.set_cons_zero, List.getD_cons_succ, List.getD_cons_zero, Zau, Zb3, ↓reduceIte, Za0, Za5, Za4, Zac, Zaw, Zap, Zb0, Zab, Zaa, Zah, Zat, Zbm, Zas, Zbg, Zad, Zb6, Zb5, Zbs, Zb2, Za8, Zag, Nat.zero_add, Nat.succ_ne_zero, sz3, ag3, st27, Za1 (hcv _), hres, h10, w20, Msg.has, h4, h5, h6, h7]
  simp only [Zaj, Za7, Zar, Za3, Zae, Zao, Za9, ne_eq, reduceCtorEq, not_false_eq_true, implies_true, Option.map_some, List.set_cons_succ, List.set_cons_zero, List.getD_cons_succ, List.getD_cons_zero, Zau, Za0, Za6, Za4, Zac, Zai, Zan, Zb8, Zay, Za1 (hcv _)]
  cases h11 : m.kind == 11
  rotate_left
  · simp only [List.length_cons, List.length_nil, Nat.reduceAdd, Zaj, Zal, Zao, Zak, Za9, List.getElem?_toArray, List.getElem?_cons_succ, List.getElem?_cons_zero, Option.bind_some, Nat.reduceLT, ne_eq, reduceCtorEq, not_false_eq_true, implies_true, Bool.false_eq_true, Option.map_some, List.set_cons_succ, List.set_cons_zero, List.getD_cons_succ, List.getD_cons_zero, Zau, Zb3, ↓reduceIte, Za2, Za6, Za5, Zac, Zai, Zan, Zb8, Zay, Option.some.injEq, Zas, Zbg, Zad, Zb6, Zb5, Zbs, Za8, Zag, Nat.zero_add, Nat.succ_ne_zero, Nat.le_refl, sz25, ag25, st27, Za1 (hcv _), h11, Msg.has, h4, h5, h6, h7, h10]
    try simp only [Zbi, List.length_cons, List.length_nil, Nat.reduceAdd, Nat.reduceSub, List.replicate, List.cons_append, List.nil_append, List.append_eq, Zaj, Zbz, Zaz, Zfe, kx_label, Zh6, Zc3, Zhm, Zht, Za7, Zal, Zar, Za3, Zbr, Zeg, Zgc, kSeq_pan, Zc8, Zcl, Zeh, kBlk_gto, kBlk_pan, Ze8, Zfy, Zdu, kLoop_gto, kLoop_pan, Ziv, Zdq, kScope_ext, kScope_pan, Zae, Zao, Zbb, Zbe, Zbf, Zak, Za9, Zce, kR_pan, Zbq, kC_val0, kC_pan, Zc0, Zdl, kG_undef, St.put, List.getElem?_toArray, List.getElem?_cons_succ, List.getElem?_cons_zero, Option.bind_some, Nat.reduceLT, Nat.reduceLeDiff, ne_eq, reduceCtorEq, not_false_eq_true, implies_true, forall_const, Bool.not_true, Bool.not_false, not_true_eq_false, Bool.true_eq_false, Bool.false_eq_true, Option.map_some, List.set_cons_succ, List.set_cons_zero, List.getD_cons_succ, List.getD_cons_zero, Zau, Zef, Zdj, Zbo, Zbk, Zda, Zfu, own_asl, own_rptr, own_hdr, own_iface, List.any_cons, List.any_nil, Zb3, Zds, own0_hdr, Bool.or_false, Bool.false_or, Bool.not_eq_true', if_false, if_true, ite_true, ite_false, ↓reduceIte, Za2, Zep, Za0, Za6, Zdn, Zck, Zam, Zdz, Zd2, Zdv, Zby, Zbc, Zbd, Zf4, Zec, Zhe, Zg9, Za5, Zbl, exO_panic, Zc7, Za4, Zaf, Zaq, Zb7, Zac, Zai, rd_func, Zaw, Zap, Ze7, Zd9, Zan, Zax, Zj2, Zcj, Zdt, Zj4, ofV_nilptr, Zg8, Zg7, Zdf, Zgn, binD_mul, binD_quo, binD_rem, binD_and, binD_or, binD_xor, Zb8, Zel, Zc2, Zfg, Zf6, Zem, binD_shl, Zh4, binS_add, binS_eql, binS_neq, strD_eql, strD_neq, Zfh, binB_neq, Zhi, Zfj, arith_quo, Zig, Int.reduceLT, Int.reduceToNat, Int.reduceNe, Int.reduceNeg, IntKind.bits, Zcv, Zft, Zih, Zhw, arith_or, Zif, Zay, Ze0, Zbv, Zeo, Zei, Ze1, Zes, unD_neg, Zd0, Zdi, exB_min, exB_max, Zb0, Zer, kF_pan, Zab, leave_pan, Zaa, Zah, Zdy, Zat, Zd6, Zea, Zcr, Zcn, Zbm, Zcx, fit_hdr, Zcw, Zg6, List.forall_mem_cons, List.not_mem_nil, false_imp_iff, and_true, and_self, List.toList_toArray, Option.some.injEq, Prod.mk.injEq, exists_eq_left', true_and, Ze5, kd_l, Zc5, Zc4, kd_r, Zcf, Zee, Zch, Zbn, Zc6, Zba, Zdg, exL_const, Zcs, Zci, Zde, exLd_ro, Zbx, Zbw, Zdc, ownOp_func, Zhc, lo_build, Zga, Zdx, Zg1, lo_unOp, Zhj, Zg5, Zin, lo_slice, Zbu, lo_field, Zfl, lo_index, Zeb, lo_len, Zgy, Op.operands, Call.operands, Zg3, Zj5, Zfp, Ziy, Zfx, List.any_cons, List.any_nil, Ze2, mkT, List.foldl_nil, Array.toList_append, List.append_nil, List.forall_mem_nil, Zas, Zbh, Zbg, Zcz, Zeu, Ze4, hlen, Zi9, hget0, hgetn, Zad, Zdh, Zb6, adD_ro, Zb5, add_ro, Zb4, Zb1, Zc9, Zd3, Zhf, Zir, Zhv, Zb9, Zco, Zcm, Zhy, notTup_map, Zil, Zbs, Zim, Zcq, Zb2, List.take_succ_cons, List.take_zero, List.drop_succ_cons, List.drop_zero, List.map_cons, List.map_nil, Za8, Option.bind_eq_bind, Zag, Bool.or_self, Bool.and_false, Bool.and_true, Bool.true_and, Bool.false_and, Bool.or_true, Bool.true_or, Nat.add_zero, Nat.zero_add, Nat.reduceEqDiff, Nat.succ_ne_zero, Zh0, Option.pure_def, slOf_e, Zg0, Nat.le_refl, and_self, Try.underlying3, Try.underlying4, Try.underlying5, Try.underlying9, Try.underlying22, Try.underlying24, Try.underlying25, Try.underlying27, Try.underlying28, Try.underlying31, Try.underlying38, Try.underlying105, sz3, sz4, sz5, sz9, sz22, sz24, sz25, sz27, sz28, sz31, ag3, ag4, ag5, ag9, ag22, ag24, ag25, ag27, ag28, ag31, st24, st27, el22, el31, el105, Za1 (hcv _), hcv, Try.ntmps23, hres, hl.own, hl.ownD, h4, h5, h6, h7, h10, h11, Msg.has]
    cases hp0 : m.code == 0
    rotate_left
    · simp only [List.length_cons, List.length_nil, Nat.reduceAdd, Zaz, Za3, Zbr, Zcl, Zae, Zao, Zak, Za9, Zdl, St.put, List.getElem?_toArray, List.getElem?_cons_succ, List.getElem?_cons_zero, Option.bind_some, Nat.reduceLT, ne_eq, reduceCtorEq, not_false_eq_true, implies_true, Bool.not_false, Option.map_some, List.set_cons_succ, List.set_cons_zero, List.getD_cons_succ, List.getD_cons_zero, Zau, ↓reduceIte, Za0, Zam, Za4, Zb7, Zac, Zax, Zb0, Zab, Zaa, Zah, Zat, Zbm, Option.some.injEq, Zb2, Bool.true_or, Nat.zero_add, hres]
    simp only [List.length_cons, List.length_nil, Nat.reduceAdd, Zaz, Za3, Zbr, Zcl, Zae, Zao, Zak, Za9, Zc0, List.getElem?_toArray, List.getElem?_cons_succ, List.getElem?_cons_zero, Option.bind_some, Nat.reduceLT, ne_eq, reduceCtorEq, not_false_eq_true, implies_true, Bool.false_eq_true, Option.map_some, List.set_cons_succ, List.set_cons_zero, List.getD_cons_succ, List.getD_cons_zero, Zau, Zb3, Bool.false_or, ↓reduceIte, Za0, Za6, Zam, Za5, Za4, Zaf, Zac, Zai, Zan, Zb8, Zay, Zb0, Zab, Zaa, Zah, Zat, Zbm, Option.some.injEq, Zas, Zbg, Zad, Zb6, Zb5, Zbs, Zb2, Za8, Zag, Nat.zero_add, Nat.succ_ne_zero, Nat.le_refl, sz25, ag25, st27, hres]
  simp only [Zaj, Za7, Zar, Za3, Zae, Zao, Za9, ne_eq, reduceCtorEq, not_false_eq_true, implies_true, Option.map_some, List.set_cons_succ, List.set_cons_zero, List.getD_cons_succ, List.getD_cons_zero, Zau, Za0, Za6, Za4, Zac, Zai, Zan, Zb8, Zay, Za1 (hcv _)]
  cases h12 : m.kind == 12
  rotate_left
  · simp only [List.length_cons, List.length_nil, Nat.reduceAdd, Zaj, Zal, Zao, Zak, Za9, List.getElem?_toArray, List.getElem?_cons_succ, List.getElem?_cons_zero, Option.bind_some, Nat.reduceLT, ne_eq, reduceCtorEq, not_false_eq_true, implies_true, Bool.false_eq_true, Option.map_some, List.set_cons_succ, List.set_cons_zero, List.getD_cons_succ, List.getD_cons_zero, Zau, Zb3, ↓reduceIte, Za2, Za6, Za5, Zac, Zai, Zan, Zb8, Zay, Option.some.injEq, Zas, Zbg, Zad, Zb6, Zb5, Zbs, Za8, Zag, Nat.zero_add, Nat.succ_ne_zero, Nat.le_refl, sz25, ag25, st27, Za1 (hcv _), h12, Msg.has, h4, h5, h6, h7, h10, h11]
    cases h121 : m.code == 0
    · simp only [List.length_cons, List.length_nil, Nat.reduceAdd, Zao, Zak, Za9, Zc0, Zdl, St.put, List.getElem?_toArray, List.getElem?_cons_succ, List.getElem?_cons_zero, Option.bind_some, Nat.reduceLT, ne_eq, reduceCtorEq, not_false_eq_true, implies_true, Bool.not_true, Bool.false_eq_true, Option.map_some, List.set_cons_succ, List.set_cons_zero, List.getD_cons_succ, List.getD_cons_zero, Zau, Zb3, Bool.false_or, ↓reduceIte, Za2, Za6, Zam, Za5, Zb7, Zac, Zai, Zan, Zax, Zb8, Zay, Option.some.injEq, Zas, Zbg, Zad, Zb6, Zb5, Zbs, Za8, Zag, Bool.false_and, Nat.zero_add, Nat.succ_ne_zero, Nat.le_refl, sz25, ag25, st27]
      try simp only [Zbi, List.length_cons, List.length_nil, Nat.reduceAdd, Nat.reduceSub, List.replicate, List.cons_append, List.nil_append, List.append_eq, Zaj, Zbz, Zaz, Zfe, kx_label, Zh6, Zc3, Zhm, Zht, Za7, Zal, Zar, Za3, Zbr, Zeg, Zgc, kSeq_pan, Zc8, Zcl, Zeh, kBlk_gto, kBlk_pan, Ze8, Zfy, Zdu, kLoop_gto, kLoop_pan, Ziv, Zdq, kScope_ext, kScope_pan, Zae, Zao, Zbb, Zbe, Zbf, Zak, Za9, Zce, kR_pan, Zbq, kC_val0, kC_pan, Zc0, Zdl, kG_undef, St.put, List.getElem?_toArray, List.getElem?_cons_succ, List.getElem?_cons_zero, Option.bind_some, Nat.reduceLT, Nat.reduceLeDiff, ne_eq, reduceCtorEq, not_false_eq_true, implies_true, forall_const, Bool.not_true, Bool.not_false, not_true_eq_false, Bool.true_eq_false, Bool.false_eq_true, Option.map_some, List.set_cons_succ, List.set_cons_zero, List.getD_cons_succ, List.getD_cons_zero, Zau, Zef, Zdj, Zbo, Zbk, Zda, Zfu, own_asl, own_rptr, own_hdr, own_iface, List.any_cons, List.any_nil, Zb3, Zds, own0_hdr, Bool.or_false, Bool.false_or, Bool.not_eq_true', if_false, if_true, ite_true, ite_false, ↓reduceIte, Za2, Zep, Za0, Za6, Zdn, Zck, Zam, Zdz, Zd2, Zdv, Zby, Zbc, Zbd, Zf4, Zec, Zhe, Zg9, Za5, Zbl, exO_panic, Zc7, Za4, Zaf, Zaq, Zb7, Zac, Zai, rd_func, Zaw, Zap, Ze7, Zd9, Zan, Zax, Zj2, Zcj, Zdt, Zj4, ofV_nilptr, Zg8, Zg7, Zdf, Zgn, binD_mul, binD_quo, binD_rem, binD_and, binD_or, binD_xor, Zb8, Zel, Zc2, Zfg, Zf6, Zem, binD_shl, Zh4, binS_add, binS_eql, binS_neq, strD_eql, strD_neq, Zfh, binB_neq, Zhi, Zfj, arith_quo, Zig, Int.reduceLT, Int.reduceToNat, Int.reduceNe, Int.reduceNeg, IntKind.bits, Zcv, Zft, Zih, Zhw, arith_or, Zif, Zay, Ze0, Zbv, Zeo, Zei, Ze1, Zes, unD_neg, Zd0, Zdi, exB_min, exB_max, Zb0, Zer, kF_pan, Zab, leave_pan, Zaa, Zah, Zdy, Zat, Zd6, Zea, Zcr, Zcn, Zbm, Zcx, fit_hdr, Zcw, Zg6, List.forall_mem_cons, List.not_mem_nil, false_imp_iff, and_true, and_self, List.toList_toArray, Option.some.injEq, Prod.mk.injEq, exists_eq_left', true_and, Ze5, kd_l, Zc5, Zc4, kd_r, Zcf, Zee, Zch, Zbn, Zc6, Zba, Zdg, exL_const, Zcs, Zci, Zde, exLd_ro, Zbx, Zbw, Zdc, ownOp_func, Zhc, lo_build, Zga, Zdx, Zg1, lo_unOp, Zhj, Zg5, Zin, lo_slice, Zbu, lo_field, Zfl, lo_index, Zeb, lo_len, Zgy, Op.operands, Call.operands, Zg3, Zj5, Zfp, Ziy, Zfx, List.any_cons, List.any_nil, Ze2, mkT, List.foldl_nil, Array.toList_append, List.append_nil, List.forall_mem_nil, Zas, Zbh, Zbg, Zcz, Zeu, Ze4, hlen, Zi9, hget0, hgetn, Zad, Zdh, Zb6, adD_ro, Zb5, add_ro, Zb4, Zb1, Zc9, Zd3, Zhf, Zir, Zhv, Zb9, Zco, Zcm, Zhy, notTup_map, Zil, Zbs, Zim, Zcq, Zb2, List.take_succ_cons, List.take_zero, List.drop_succ_cons, List.drop_zero, List.map_cons, List.map_nil, Za8, Option.bind_eq_bind, Zag, Bool.or_self, Bool.and_false, Bool.and_true, Bool.true_and, Bool.false_and, Bool.or_true, Bool.true_or, Nat.add_zero, Nat.zero_add, Nat.reduceEqDiff, Nat.succ_ne_zero, Zh0, Option.pure_def, slOf_e, Zg0, Nat.le_refl, and_self, Try.underlying3, Try.underlying4, Try.underlying5, Try.underlying9, Try.underlying22, Try.underlying24, Try.underlying25, Try.underlying27, Try.underlying28, Try.underlying31, Try.underlying38, Try.underlying105, sz3, sz4, sz5, sz9, sz22, sz24, sz25, sz27, sz28, sz31, ag3, ag4, ag5, ag9, ag22, ag24, ag25, ag27, ag28, ag31, st24, st27, el22, el31, el105, Za1 (hcv _), hcv, Try.ntmps23, hres, hl.own, hl.ownD, h4, h5, h6, h7, h10, h11, h12, Msg.has, Zhg, eq24, List.zip_nil_left, List.zip_nil_right]
      cases hp0 : m.code == 201
      · simp only [List.length_cons, List.length_nil, Nat.reduceAdd, Zaz, Za3, Zbr, Zcl, Zae, Zao, Zak, Za9, Zc0, Zdl, St.put, List.getElem?_toArray, List.getElem?_cons_succ, List.getElem?_cons_zero, Option.bind_some, Nat.reduceLT, ne_eq, reduceCtorEq, not_false_eq_true, implies_true, Bool.not_true, Bool.false_eq_true, Option.map_some, List.set_cons_succ, List.set_cons_zero, List.getD_cons_succ, List.getD_cons_zero, Zau, ↓reduceIte, Za0, Zam, Za4, Zaf, Zb7, Zac, Zax, Zb0, Zab, Zaa, Zah, Zat, Zbm, Option.some.injEq, Zb2, Bool.false_and, Nat.zero_add, hres]
      simp only [List.length_cons, List.length_nil, Nat.reduceAdd, Zaz, Za3, Zbr, Zcl, Zae, Zao, Zak, Za9, Zc0, List.getElem?_toArray, List.getElem?_cons_succ, List.getElem?_cons_zero, Option.bind_some, Nat.reduceLT, Nat.reduceLeDiff, ne_eq, reduceCtorEq, not_false_eq_true, implies_true, Bool.false_eq_true, Option.map_some, List.set_cons_succ, List.set_cons_zero, List.getD_cons_succ, List.getD_cons_zero, Zau, List.any_cons, List.any_nil, Zb3, ↓reduceIte, Za0, Za6, Zam, Zdv, Za5, Za4, Zaf, Zac, Zaw, Zb0, Zab, Zaa, Zah, Zat, Zbm, Option.some.injEq, Zas, Zbg, Zad, Zb6, Zb5, Zbs, Zb2, List.take_succ_cons, List.take_zero, List.drop_succ_cons, List.drop_zero, List.map_nil, Za8, Zag, Bool.or_self, Bool.true_and, Nat.zero_add, Nat.succ_ne_zero, sz24, ag24, st27, hres, Zhg, eq24, List.zip_nil_right]
    · simp only [List.length_cons, List.length_nil, Nat.reduceAdd, Zao, Zbe, Zbf, Zak, Za9, Zbq, Zc0, List.getElem?_toArray, List.getElem?_cons_succ, List.getElem?_cons_zero, Option.bind_some, Nat.reduceLT, Nat.reduceLeDiff, ne_eq, reduceCtorEq, not_false_eq_true, implies_true, Bool.false_eq_true, Option.map_some, List.set_cons_succ, List.set_cons_zero, List.getD_cons_succ, List.getD_cons_zero, Zau, Zbo, List.any_cons, List.any_nil, Zb3, ↓reduceIte, Za2, Zam, Za5, Za4, Zaf, Zac, Zaw, Zap, Option.some.injEq, Zas, Zbg, Zad, Zb6, Zb5, Zbs, List.take_succ_cons, List.take_zero, List.drop_succ_cons, List.drop_zero, Za8, Zag, Bool.or_self, Bool.true_and, Nat.zero_add, Nat.succ_ne_zero, sz24, ag24, st27, hp]
      cases h122 : Zgj m.ikey m.ival m.iver
      · simp only [List.length_cons, List.length_nil, Nat.reduceAdd, Zao, Zak, Za9, Zc0, List.getElem?_toArray, List.getElem?_cons_succ, List.getElem?_cons_zero, Option.bind_some, Nat.reduceLT, ne_eq, reduceCtorEq, not_false_eq_true, implies_true, Bool.false_eq_true, Option.map_some, List.set_cons_succ, List.set_cons_zero, List.getD_cons_succ, List.getD_cons_zero, Zau, Zb3, Bool.false_or, ↓reduceIte, Za2, Za6, Za5, Zac, Zai, Zan, Zb8, Zay, Option.some.injEq, Zas, Zbg, Zad, Zb6, Zb5, Zbs, Za8, Zag, Nat.zero_add, Nat.succ_ne_zero, Nat.le_refl, sz25, ag25, st27]
        have hc : (m.code == 201) = false := by simp at h121 ⊢; omega
        simp only [List.length_cons, List.length_nil, Nat.reduceAdd, Zaz, Za3, Zbr, Zcl, Zae, Zao, Zak, Za9, Zc0, Zdl, St.put, List.getElem?_toArray, List.getElem?_cons_succ, List.getElem?_cons_zero, Option.bind_some, Nat.reduceLT, ne_eq, reduceCtorEq, not_false_eq_true, implies_true, Bool.not_true, Bool.false_eq_true, Option.map_some, List.set_cons_succ, List.set_cons_zero, List.getD_cons_succ, List.getD_cons_zero, Zau, ↓reduceIte, Za0, Zam, Za4, Zaf, Zb7, Zac, Zax, Zb0, Zab, Zaa, Zah, Zat, Zbm, Option.some.injEq, Zb2, Bool.false_and, Nat.zero_add, hres, hc]
      · simp only [List.length_cons, List.length_nil, Nat.reduceAdd, Zaz, Za3, Zbr, Zcl, Zae, Zao, Zak, Za9, Zdl, kG_undef, St.put, List.getElem?_toArray, List.getElem?_cons_succ, List.getElem?_cons_zero, Option.bind_some, Nat.reduceLT, ne_eq, reduceCtorEq, not_false_eq_true, implies_true, Bool.not_false, Option.map_some, List.set_cons_succ, List.set_cons_zero, List.getD_cons_succ, List.getD_cons_zero, Zau, ↓reduceIte, Za0, Zam, Za4, Zb7, Zac, Zax, Zb0, Zab, Zaa, Zah, Zat, Zbm, Option.some.injEq, Zb2, Bool.true_or, Nat.zero_add, hres]
  simp only [Zaj, Zbz, Zaz, Zar, Za3, Zc8, Zae, Zao, Za9, ne_eq, reduceCtorEq, not_false_eq_true, implies_true, Bool.false_eq_true, Option.map_some, List.set_cons_succ, List.set_cons_zero, List.getD_cons_succ, List.getD_cons_zero, Zau, ↓reduceIte, Za0, Za4, Zaq, Zax, Zb0, Zab, Zaa, Zah, Zat, Zbm, Zb2, Za1 (hcv _), hres, h12, Msg.has, h4, h5, h6, h7, h10, h11]

end Go.Abs

namespace Go.Abs

section
variable {P : Program} {pr : FuncId → List D → Option D} {cv : FuncId → Nat → List Cv} {β : Type} {k : X × St → Option β} {all : Array Oper} {hs : List (Nat × List O)} {ag : List Again} {rest : List Todo} {i bf : Nat} {nm mv : List Tmp} {rds : Bool} {s : St}

open Classical in
/-- Behind a heavy one. -/
noncomputable def kdE (P : Program) (pr : FuncId → List D → Option D) (cv : FuncId → Nat → List Cv) (all : Array Oper) (i bf : Nat) (rest : List Todo) (hs : List (Nat × List O)) (ag : List Again) (h0 : List O) (dst : Option Tmp) (k : X × St → Option β) (r : Option (Out × St)) : Option β :=
  match r with
  | some (.val d, s1) => if Zis P bf s1.h ag then kd P pr cv all rest ((i, h0) :: hs) ag (s1.put dst d) k else none
  | _ => none
noncomputable def kdC (P : Program) (pr : FuncId → List D → Option D) (cv : FuncId → Nat → List Cv) (all : Array Oper) (i bf : Nat) (rest : List Todo) (hs : List (Nat × List O)) (ag : List Again) (h0 : List O) (dst : Option Tmp) (s1 : St) (k : X × St → Option β) (r : Option (Out × List O)) : Option β :=
  match r with
  | some (.val d, h) => kdE P pr cv all i bf rest hs ag h0 dst k (some (.val d, { s1 with h := h }))
  | _ => none
noncomputable def kdK (P : Program) (pr : FuncId → List D → Option D) (cv : FuncId → Nat → List Cv) (all : Array Oper) (i bf : Nat) (rest : List Todo) (hs : List (Nat × List O)) (ag : List Again) (o : Oper) (s : St) (k : X × St → Option β) : Option β :=
  match Zfb o s with
  | .bad => none
  | .go g args s1 => kdC P pr cv all i bf rest hs ag s.h o.dst s1 k (call P pr cv g args s1.h)
  | .other => kdE P pr cv all i bf rest hs ag s.h o.dst k (exOp P [] o s)
noncomputable def kdHO (P : Program) (pr : FuncId → List D → Option D) (cv : FuncId → Nat → List Cv) (all : Array Oper) (td : Todo) (rest : List Todo) (hs : List (Nat × List O)) (ag : List Again) (s : St) (k : X × St → Option β) (o : Option Oper) : Option β :=
  match o with
  | some o => if want all o s then (if calmAt td s.t then kdK P pr cv all td.i td.bf rest hs ag o s k else none) else kd P pr cv all rest hs ag (s.put o.dst Zav) k
  | none => none
theorem kd_h : kd P pr cv all (⟨i, true, rds, bf, nm, mv⟩ :: rest) hs ag s k = kdHO P pr cv all ⟨i, true, rds, bf, nm, mv⟩ rest hs ag s k all[i]? := by
  cases ho : all[i]? with
  | none => unfold kd; rw [Zge]; simp [ho, kdHO]
  | some o =>
    cases hw : want all o s with
    | false => rw [kd_skip ho hw]; simp [kdHO, hw]
    | true =>
      simp only [kdHO, hw, if_true]
      by_cases hc : calmAt ⟨i, true, rds, bf, nm, mv⟩ s.t = true
      · rw [if_pos hc]
        unfold kdK
        cases hk : Zfb o s with
        | bad => unfold kd; rw [Zge]; simp [ho, hw, hc, hk]
        | go g args s1 =>
          simp only
          cases hx : call P pr cv g args s1.h with
          | none => unfold kd; rw [Zge]; simp [ho, hw, hc, hk, hx, kdC]
          | some r =>
            obtain ⟨out, h⟩ := r
            cases out with
            | val d =>
              by_cases ha : Zis P bf h ag
              · rw [kd_call ho hw hc hk hx ha]; simp [kdC, kdE, ha]
              · unfold kd; rw [Zge]; simp [ho, hw, hc, hk, hx, kdC, kdE, ha]
            | pan d => unfold kd; rw [Zge]; simp [ho, hw, hc, hk, hx, kdC]
            | rcv d => unfold kd; rw [Zge]; simp [ho, hw, hc, hk, hx, kdC]
        | other =>
          simp only
          cases hx : exOp P [] o s with
          | none => unfold kd; rw [Zge]; simp [ho, hw, hc, hk, hx, kdE]
          | some r =>
            obtain ⟨out, s1⟩ := r
            cases out with
            | val d =>
              by_cases ha : Zis P bf s1.h ag
              · rw [kd_oper ho hw hc hk hx ha]; simp [kdE, ha]
              · unfold kd; rw [Zge]; simp [ho, hw, hc, hk, hx, kdE, ha]
            | pan d => unfold kd; rw [Zge]; simp [ho, hw, hc, hk, hx, kdE]
            | rcv d => unfold kd; rw [Zge]; simp [ho, hw, hc, hk, hx, kdE]
      · rw [if_neg hc]
        unfold kd; rw [Zge]; simp [ho, hw, hc]

section
variable {dst : Option Tmp} {op : Op} {ty : TypeId} {pos : String} {af : Array Edge} {tl : List D} {df : List (FuncId × List D)} {r : Rc} {h h0 : List O} {td : Todo}
theorem Zca : kdHO P pr cv all td rest hs ag ⟨tl, df, r, h⟩ k (some ⟨dst, op, ty, pos, af, none⟩) = if calmAt td tl then kdK P pr cv all td.i td.bf rest hs ag ⟨dst, op, ty, pos, af, none⟩ ⟨tl, df, r, h⟩ k else none := by simp [kdHO, want]
noncomputable def kdT (P : Program) (pr : FuncId → List D → Option D) (cv : FuncId → Nat → List Cv) (f : FuncId) (all : Array Oper) (i bf : Nat) (rest : List Todo) (hs : List (Nat × List O)) (ag : List Again) (h0 : List O) (dst : Option Tmp) (k : X × St → Option β) (r : Option (List D × St)) : Option β :=
  match r with
  | some (ds, s1) => kdC P pr cv all i bf rest hs ag h0 dst s1 k (call P pr cv (.fn f) ds s1.h)
  | none => none
theorem Zd4 {f : FuncId} {ds : List D} : kdT P pr cv f all i bf rest hs ag h0 dst k (some (ds, ⟨tl, df, r, h⟩)) = kdC P pr cv all i bf rest hs ag h0 dst ⟨tl, df, r, h⟩ k (call P pr cv (.fn f) ds h) := rfl
theorem Zd5 {f : FuncId} {args : Array Operand} {ats : Array TypeId} : kdK P pr cv all i bf rest hs ag ⟨dst, .call { callee := .value (.func f), args := args, argTypes := ats }, ty, pos, af, none⟩ ⟨tl, df, r, h⟩ k = kdT P pr cv f all i bf rest hs ag h dst k (tks ⟨tl, df, r, h⟩ args.toList) := by
  unfold kdK kdT
  cases ht : tks ⟨tl, df, r, h⟩ args.toList with
  | none => simp [Zfb, rd, ht]
  | some r => obtain ⟨ds, s1⟩ := r; simp [Zfb, rd, ht, noOwn]
def gIs (v : D) (b : Bool) : Bool := match v with | .e (.bool c) => c == b | _ => false
theorem want_gIs {j t : Nat} {b : Bool} (hj : (all[j]?).bind (·.dst) = some t) (ht : t < tl.length) : want all ⟨dst, op, ty, pos, af, some (j, b)⟩ ⟨tl, df, r, h⟩ = gIs (tl.getD t Zav) b := by
  simp only [want, hj, gIs]
  rw [List.getD_eq_getElem?_getD, List.getElem?_eq_getElem ht]
  simp only [Option.getD_some]
  cases tl[t] with
  | e x => cases x <;> rfl
  | _ => rfl
noncomputable def kdLG (P : Program) (pr : FuncId → List D → Option D) (cv : FuncId → Nat → List Cv) (v : D) (b : Bool) (all : Array Oper) (rest : List Todo) (hs : List (Nat × List O)) (ag : List Again) (o : Oper) (s : St) (k : X × St → Option β) : Option β :=
  if gIs v b then kdL P pr cv all rest hs ag s k (some { o with guard := none }) else kd P pr cv all rest hs ag (s.put o.dst Zav) k
theorem kdL_g {j t : Nat} {b : Bool} (hj : (all[j]?).bind (·.dst) = some t) (ht : t < tl.length) :
    kdL P pr cv all rest hs ag ⟨tl, df, r, h⟩ k (some ⟨dst, op, ty, pos, af, some (j, b)⟩) = kdLG P pr cv (tl.getD t Zav) b all rest hs ag ⟨dst, op, ty, pos, af, none⟩ ⟨tl, df, r, h⟩ k := by
  have hx : Zdp P ⟨dst, op, ty, pos, af, some (j, b)⟩ ⟨tl, df, r, h⟩ = Zdp P ⟨dst, op, ty, pos, af, none⟩ ⟨tl, df, r, h⟩ := rfl
  simp only [kdL, kdLG, want_gIs hj ht, hx]
  cases gIs (tl.getD t Zav) b <;> simp [want]
theorem kdLG_yes {o : Oper} {c b : Bool} (hc : c = b) : kdLG P pr cv (.e (.bool c)) b all rest hs ag o s k = kdL P pr cv all rest hs ag s k (some { o with guard := none }) := by simp [kdLG, gIs, hc]
theorem kdLG_no {o : Oper} {c b : Bool} (hc : c = !b) : kdLG P pr cv (.e (.bool c)) b all rest hs ag o s k = kd P pr cv all rest hs ag (s.put o.dst Zav) k := by cases c <;> cases b <;> simp_all [kdLG, gIs]
noncomputable def kdRG (P : Program) (pr : FuncId → List D → Option D) (cv : FuncId → Nat → List Cv) (v : D) (b : Bool) (all : Array Oper) (i bf : Nat) (rest : List Todo) (hs : List (Nat × List O)) (ag : List Again) (o0 o : Oper) (s : St) (k : X × St → Option β) : Option β :=
  if gIs v b then kdR P pr cv all i bf rest hs ag o0 s k (Zdp P o s) else kd P pr cv all rest hs ag (s.put o.dst Zav) k
theorem kdRO_g {j t : Nat} {b : Bool} (hj : (all[j]?).bind (·.dst) = some t) (ht : t < tl.length) :
    kdRO P pr cv all i bf rest hs ag ⟨tl, df, r, h⟩ k (some ⟨dst, op, ty, pos, af, some (j, b)⟩) = kdRG P pr cv (tl.getD t Zav) b all i bf rest hs ag ⟨dst, op, ty, pos, af, some (j, b)⟩ ⟨dst, op, ty, pos, af, none⟩ ⟨tl, df, r, h⟩ k := by
  have hx : Zdp P ⟨dst, op, ty, pos, af, some (j, b)⟩ ⟨tl, df, r, h⟩ = Zdp P ⟨dst, op, ty, pos, af, none⟩ ⟨tl, df, r, h⟩ := rfl
  simp only [kdRO, kdRG, want_gIs hj ht, hx]
theorem kdRG_yes {o0 o : Oper} {c b : Bool} (hc : c = b) : kdRG P pr cv (.e (.bool c)) b all i bf rest hs ag o0 o s k = kdR P pr cv all i bf rest hs ag o0 s k (Zdp P o s) := by simp [kdRG, gIs, hc]
theorem kdRG_no {o0 o : Oper} {c b : Bool} (hc : c = !b) : kdRG P pr cv (.e (.bool c)) b all i bf rest hs ag o0 o s k = kd P pr cv all rest hs ag (s.put o.dst Zav) k := by cases c <;> cases b <;> simp_all [kdRG, gIs]
noncomputable def kdHG (P : Program) (pr : FuncId → List D → Option D) (cv : FuncId → Nat → List Cv) (v : D) (b : Bool) (all : Array Oper) (td : Todo) (rest : List Todo) (hs : List (Nat × List O)) (ag : List Again) (o : Oper) (s : St) (k : X × St → Option β) : Option β :=
  if gIs v b then kdHO P pr cv all td rest hs ag s k (some { o with guard := none }) else kd P pr cv all rest hs ag (s.put o.dst Zav) k
theorem kdHO_g {j t : Nat} {b : Bool} (hj : (all[j]?).bind (·.dst) = some t) (ht : t < tl.length) :
    kdHO P pr cv all td rest hs ag ⟨tl, df, r, h⟩ k (some ⟨dst, op, ty, pos, af, some (j, b)⟩) = kdHG P pr cv (tl.getD t Zav) b all td rest hs ag ⟨dst, op, ty, pos, af, none⟩ ⟨tl, df, r, h⟩ k := by
  have hx : kdK P pr cv all td.i td.bf rest hs ag ⟨dst, op, ty, pos, af, some (j, b)⟩ ⟨tl, df, r, h⟩ k = kdK P pr cv all td.i td.bf rest hs ag ⟨dst, op, ty, pos, af, none⟩ ⟨tl, df, r, h⟩ k := rfl
  simp only [kdHO, kdHG, want_gIs hj ht, hx]
  cases gIs (tl.getD t Zav) b <;> simp [want]
theorem kdHG_yes {o : Oper} {c b : Bool} (hc : c = b) : kdHG P pr cv (.e (.bool c)) b all td rest hs ag o s k = kdHO P pr cv all td rest hs ag s k (some { o with guard := none }) := by simp [kdHG, gIs, hc]
theorem kdHG_no {o : Oper} {c b : Bool} (hc : c = !b) : kdHG P pr cv (.e (.bool c)) b all td rest hs ag o s k = kd P pr cv all rest hs ag (s.put o.dst Zav) k := by cases c <;> cases b <;> simp_all [kdHG, gIs]
theorem Zex (hk : ∀ c, op ≠ .call c) : kdK P pr cv all i bf rest hs ag ⟨dst, op, ty, pos, af, none⟩ ⟨tl, df, r, h⟩ k = kdE P pr cv all i bf rest hs ag h dst k (exOp P [] ⟨dst, op, ty, pos, af, none⟩ ⟨tl, df, r, h⟩) := by
  unfold kdK
  have : Zfb ⟨dst, op, ty, pos, af, none⟩ ⟨tl, df, r, h⟩ = .other := by
    unfold Zfb; cases op <;> simp_all
  rw [this]
theorem Ze3 {d : D} {h1 : List O} : kdC P pr cv all i bf rest hs ag h0 dst ⟨tl, df, r, h⟩ k (some (.val d, h1)) = kdE P pr cv all i bf rest hs ag h0 dst k (some (.val d, ⟨tl, df, r, h1⟩)) := rfl
open Classical in
theorem Zdk {d : D} {x : Tmp} : kdE P pr cv all i bf rest hs ag h0 (some x) k (some (.val d, ⟨tl, df, r, h⟩)) = if Zis P bf h ag then kd P pr cv all rest ((i, h0) :: hs) ag ⟨tl.set x d, df, r, h⟩ k else none := rfl
open Classical in
theorem Zh2 {d : D} : kdE P pr cv all i bf rest hs ag h0 none k (some (.val d, ⟨tl, df, r, h⟩)) = if Zis P bf h ag then kd P pr cv all rest ((i, h0) :: hs) ag ⟨tl, df, r, h⟩ k else none := rfl
theorem Zcb {n : Nat} {a b : Bool} {bf : Nat} {nm mv : List Tmp} {t : List D} : calmAt ⟨n, a, b, bf, nm, mv⟩ t = (nm.all (fun x => !ownD (t.getD x Zav)) && mv.all (fun x => !excD (t.getD x Zav))) := rfl
theorem Zcc : Zis P bf h [] = True := eq_true (fun a ha => by simp at ha)
theorem Zcd {a : Again} {ag : List Again} : Zis P bf h (a :: ag) = ((bf.testBit a.i = false → Zdp P a.o { t := a.t, d := [], r := .no, h := h } = some a.d) ∧ Zis P bf h ag) := by
  simp only [Zis, List.mem_cons, forall_eq_or_imp]
theorem Zfc {o : Oper} {t : List D} {d : D} : Ziz P o bf t d [] = True := eq_true (fun a ha => by simp at ha)
theorem Zen {o : Oper} {t : List D} {d : D} {x : Nat × List O} {hs : List (Nat × List O)} : Ziz P o bf t d (x :: hs) = ((bf.testBit x.1 = false → Zdp P o { t := t, d := [], r := .no, h := x.2 } = some d) ∧ Ziz P o bf t d hs) := by
  simp only [Ziz, List.mem_cons, forall_eq_or_imp]
open Classical in
theorem Zff {o : Oper} {d : D} {x : Nat × List O} : kdR P pr cv all i bf rest (x :: hs) ag o s k (some d) = if Ziz P o bf s.t d (x :: hs) then kd P pr cv all rest (x :: hs) ({ i := i, o := o, t := s.t, d := d } :: ag) (s.put o.dst d) k else none := rfl
theorem excD_e {x : E} : excD (.e x) = false := of_decide_eq_true rfl
theorem Rd.excD {d : D} {es : List (List E)} (h : Rd d es) : excD d = false := by
  have h1 := h.own
  have h2 := h.sl
  cases d <;> simp_all [own0, Abs.excD, exc0, slOf]
end
end

end Go.Abs
