/-
  WIRE: what kinds have. MORE RULES: heavy ones in regions whose order is open. No condition.
-/
import Derived.Test.YtkimilghfbgjmaaQ16

open List renaming any_cons → Yax, any_nil → Yay, append_nil → Yaf, cons_append → Yaj, drop_succ_cons → Yb7, drop_zero → Yb8, forall_mem_cons → Yb9, getD_cons_succ → Yak, getD_cons_zero → Yal, getElem?_cons_succ → Yam, getElem?_cons_zero → Yan, getElem?_toArray → Yao, length_cons → Yap, length_nil → Yaq, map_nil → Yba, nil_append → Yar, not_mem_nil → Ybb, replicate → Yae, set_cons_succ → Yas, set_cons_zero → Yat, take_succ_cons → Ybc, take_zero → Ybd, zip_nil_right → Ybe
open Option renaming bind_eq_bind → Yah, bind_some → Yau, map_some → Ya2
open Bool renaming false_and → Yb1, false_eq_true → Yav, false_or → Ybf, not_false → Ybg, not_true → Yb2, or_self → Yb3, true_and → Yb6, true_or → Ybh
open Nat renaming add_zero → Yb4, le_refl → Yab, succ_ne_zero → Yb5, zero_add → Yaw
namespace Go.Abs
open Go Go.Proofs
set_option maxRecDepth 10000
set_option maxHeartbeats 4000000
def Msg.noItem (m : Msg) : Msg := { m with ikey := { data := #[] }, ival := 0, iver := 0, gone := false }
def Msg.bare (m : Msg) : Msg :=
  if m.kind == 4 then { m with key := 0, slow := false } else
  if m.kind == 5 then m.noItem else
  if m.kind == 6 then m.noItem else
  if m.kind == 7 then { m with pred := 0, list := [] } else
  if m.kind == 10 then { m with place := 0, done := false } else
  if m.kind == 11 then { m with code := 0 } else
  if m.kind == 12 then { m.noItem with code := 0 } else m
def Zti (m : Msg) (l : D) : D := if m.kind == 4 then l else if m.kind == 5 then l else if m.kind == 6 then l else if m.kind == 7 then .osl false true 0 [] else l
theorem bareL_rd {m : Msg} {l : D} (hl : Rd l (isE m.list)) : Rd (Zti m l) (isE m.bare.list) := by
  unfold Zti Msg.bare
  split
  · exact hl
  · split
    · exact hl
    · split
      · exact hl
      · split
        · exact Rd.osl
        · split
          · exact hl
          · split
            · exact hl
            · split
              · exact hl
              · exact hl
theorem Zhx : Zm7 Try.prog 24 [] = some (.agg [.str { data := #[] }, .int .i64 0, .int .i64 0, .bool false]) := by kernel_rfl
theorem Zt5 {k : ByteArray} : Zm7 Try.prog 24 [(0, .str k)] = some (.agg [.str k, .int .i64 0, .int .i64 0, .bool false]) := by
  simp only [Zm7, zo24, Try.underlying24]
  simp [sz9, sz3, sz4, Zkt, cellsOf, Zfg, notTup]
theorem Zpe {k c f t : Int} : Zm7 Try.prog 27 [(0, .int .u8 k), (1, .int .i64 c), (2, .int .i64 f), (3, .int .i64 t)] = some (.agg [.int .u8 k, .int .i64 c, .int .i64 f, .int .i64 t, .int .i64 0, .bool false, .bool false, .int .i64 0, .int .i64 0, .osl false true 0 [], .str { data := #[] }, .int .i64 0, .int .i64 0, .bool false, .int .i64 0]) := by
  simp only [Zm7, zo27, Try.underlying27]
  simp [sz3, sz4, sz5, sz22, sz24, sz25, Zkt, cellsOf, Zfg, notTup]
theorem w22 (m : Msg) (l : D) (hl : Rd l (isE m.list)) (h : List O) : wc 22 [.agg (m.cs l)] h = some (.val (.agg ((m.bare).cs (Zti m l))), h) := by
  have hcv : ∀ i, wcv 22 i = [] := fun _ => rfl
  have hres : Try.f22.results.toList = [ResultVar.cell 2 27] := rfl
  rw [wc, Zbm rfl Try.func22 rfl]
  try simp only [Zbj, Yap, Yaq, Nat.reduceAdd, Nat.reduceSub, Yae, Yaj, Yar, Zai, Zc5, Za7, Za3, Zae, Zan, Za9, Yan, Yau, Nat.reduceLeDiff, ne_eq, reduceCtorEq, not_false_eq_true, implies_true, Yav, Ya2, Yas, Yat, Yak, Yal, Zau, Zbu, Yax, Yay, Zb7, ↓reduceIte, Za0, Za6, Zd4, Zdq, Za5, Za2, Zab, Zag, Zam, Zb6, Zay, Zar, Zbk, hlen, Zin, Za8, Zba, Zb9, Zb0, Zb8, Zbt, Zaa, Zaj, Yb3, Yb4, Yaw, Yb5, sz5, ag5, st27, Za1 (hcv _), Try.ntmps22, Msg.cs, hl.own, zo27, Msg.bare, Zti, Msg.noItem]
  cases hp0 : m.kind == 4
  rotate_left
  · simp only [Yap, Yaq, Nat.reduceAdd, Yaj, Yar, Zai, Zb2, Zak, Za3, Zcd, Zae, Zan, Za9, Zcf, Yam, Yan, Yau, Nat.reduceLeDiff, ne_eq, reduceCtorEq, not_false_eq_true, implies_true, Yav, Ya2, Yas, Yat, Yak, Yal, Zbu, Yax, Yay, Zb7, ↓reduceIte, Zbb, Za5, Za2, Zap, Zab, Zam, Zax, Zb3, Zad, Zac, Zde, Zav, Zbr, Zfl, Yb9, Ybb, false_imp_iff, and_self, Yaf, Zar, Zbe, Zbk, Zcr, Zet, Zdh, Za8, Zba, Zb9, Zb1, Zb0, Zc9, Zb8, Zcl, Zbt, Zco, Zb4, Ybc, Ybd, Yb7, Yb8, Zaa, Zaj, Yb3, Yaw, Yb5, Yab, sz3, sz4, sz27, ag27, st27, Za1 (hcv _), hres, hl.own, hl.fit]
  simp only [Zai, Za7, Zao, Za3, Zae, Zan, Za9, ne_eq, reduceCtorEq, not_false_eq_true, implies_true, Yav, Ya2, Yas, Yat, Yak, Yal, Zau, ↓reduceIte, Za0, Za6, Za2, Zab, Zag, Zam, Zb6, Zay, Za1 (hcv _)]
  cases hp1 : m.kind == 5
  rotate_left
  · simp only [Yap, Yaq, Nat.reduceAdd, Yaj, Yar, Zai, Zbw, Zb2, Za7, Zak, Za3, Zcd, Zae, Zan, Za9, Zcf, Yam, Yan, Yau, Nat.reduceLeDiff, ne_eq, reduceCtorEq, not_false_eq_true, implies_true, Yav, Ya2, Yas, Yat, Yak, Yal, Zbu, Yax, Yay, Zb7, ↓reduceIte, Zdk, Zbb, Za5, Za2, Zab, Zaq, Zb3, Zad, Zac, Zde, Zav, Zbr, Zfl, Yb9, Ybb, false_imp_iff, and_self, Yaf, Zar, Zbe, Zbk, Zcr, Zet, Zdh, Za8, Zba, Zb9, Zb1, Zb0, Zb8, Zbt, Zco, Zb4, Ybc, Ybd, Yb7, Yb8, Yba, Zaa, Zaj, Yb3, Yaw, Yb5, Yab, sz24, sz27, ag27, st27, Za1 (hcv _), hres, hl.own, hl.fit, Zhx, Ybe]
  simp only [Za7, Zao, Za3, Zae, Zan, Za9, ne_eq, reduceCtorEq, not_false_eq_true, implies_true, Yav, Ya2, Yas, Yat, Yak, Yal, Zau, ↓reduceIte, Za0, Za6, Za2, Zab, Zag, Zam, Zb6, Zay, Za1 (hcv _)]
  cases hp2 : m.kind == 6
  rotate_left
  · simp only [Yap, Yaq, Nat.reduceAdd, Yaj, Yar, Zai, Zb2, Zak, Za3, Zcd, Zae, Zan, Za9, Zcf, Yam, Yan, Yau, Nat.reduceLeDiff, ne_eq, reduceCtorEq, not_false_eq_true, implies_true, Yav, Ya2, Yas, Yat, Yak, Yal, Zbu, Yax, Yay, Zb7, ↓reduceIte, Zdk, Zbb, Za5, Za2, Zab, Zaq, Zb3, Zad, Zac, Zde, Zav, Zbr, Zfl, Yb9, Ybb, false_imp_iff, and_self, Yaf, Zar, Zbe, Zbk, Zcr, Zet, Zdh, Za8, Zba, Zb9, Zb1, Zb0, Zb8, Zbt, Zco, Zb4, Ybc, Ybd, Yb7, Yb8, Yba, Zaa, Zaj, Yb3, Yaw, Yb5, Yab, sz24, sz27, ag27, st27, Za1 (hcv _), hres, hl.own, hl.fit, Zhx, Ybe]
  simp only [Zai, Za7, Zao, Za3, Zae, Zan, Za9, ne_eq, reduceCtorEq, not_false_eq_true, implies_true, Yav, Ya2, Yas, Yat, Yak, Yal, Zau, ↓reduceIte, Za0, Za6, Za2, Zab, Zag, Zam, Zb6, Zay, Za1 (hcv _)]
  cases hp3 : m.kind == 7
  rotate_left
  · simp only [Yap, Yaq, Nat.reduceAdd, Yaj, Yar, Zai, Zb2, Zak, Za3, Zcd, Zae, Zan, Za9, Zcf, Yam, Yan, Yau, Nat.reduceLeDiff, ne_eq, reduceCtorEq, not_false_eq_true, implies_true, Yav, Ya2, Yas, Yat, Yak, Yal, Zbu, Yax, Yay, Zb7, Zd5, ↓reduceIte, Zbb, Za5, Za2, Zap, Zab, Zam, Zcw, Zb3, Zad, Zac, Zde, Zav, Zbr, Zcy, Zfl, Yb9, Ybb, false_imp_iff, and_self, Yaf, Zar, Zbe, Zbk, Zcr, Zet, Zdh, Za8, Zba, Zb9, Zb1, Zb0, Zc9, Zdl, Zb8, Zcl, Zct, Zbt, Zco, Zb4, Ybc, Ybd, Yb7, Yb8, Zaa, Zaj, Yb3, Yaw, Yb5, Yab, sz3, sz22, sz27, ag27, st27, Za1 (hcv _), hres]
  simp only [Zai, Za7, Zao, Za3, Zae, Zan, Za9, ne_eq, reduceCtorEq, not_false_eq_true, implies_true, Yav, Ya2, Yas, Yat, Yak, Yal, Zau, ↓reduceIte, Za0, Za6, Za2, Zab, Zag, Zam, Zb6, Zay, Za1 (hcv _)]
  cases hp4 : m.kind == 10
  rotate_left
  · simp only [Yap, Yaq, Nat.reduceAdd, Yaj, Yar, Zai, Zb2, Zak, Za3, Zcd, Zae, Zan, Za9, Zcf, Yam, Yan, Yau, Nat.reduceLeDiff, ne_eq, reduceCtorEq, not_false_eq_true, implies_true, Yav, Ya2, Yas, Yat, Yak, Yal, Zbu, Yax, Yay, Zb7, ↓reduceIte, Zbb, Za5, Za2, Zap, Zab, Zam, Zax, Zb3, Zad, Zac, Zde, Zav, Zbr, Zfl, Yb9, Ybb, false_imp_iff, and_self, Yaf, Zar, Zbe, Zbk, Zcr, Zet, Zdh, Za8, Zba, Zb9, Zb1, Zb0, Zc9, Zb8, Zcl, Zbt, Zco, Zb4, Ybc, Ybd, Yb7, Yb8, Zaa, Zaj, Yb3, Yaw, Yb5, Yab, sz3, sz4, sz27, ag27, st27, Za1 (hcv _), hres, hl.own, hl.fit]
  simp only [Zai, Za7, Zao, Za3, Zae, Zan, Za9, ne_eq, reduceCtorEq, not_false_eq_true, implies_true, Yav, Ya2, Yas, Yat, Yak, Yal, Zau, ↓reduceIte, Za0, Za6, Za2, Zab, Zag, Zam, Zb6, Zay, Za1 (hcv _)]
  cases hp5 : m.kind == 11
  rotate_left
  · simp only [Yap, Yaq, Nat.reduceAdd, Yaj, Yar, Zai, Zb2, Zak, Za3, Zcd, Zae, Zan, Za9, Zcf, Yam, Yan, Yau, ne_eq, reduceCtorEq, not_false_eq_true, implies_true, Yav, Ya2, Yas, Yat, Yak, Yal, Zbu, Yax, Yay, Zb7, ↓reduceIte, Zbb, Za5, Za2, Zap, Zab, Zam, Zb3, Zad, Zac, Zde, Zav, Zbr, Zfl, Yb9, Ybb, false_imp_iff, and_self, Yaf, Zar, Zbe, Zbk, Zcr, Zet, Zdh, Za8, Zba, Zb9, Zb1, Zb0, Zc9, Zb8, Zcl, Zbt, Zco, Zb4, Ybc, Ybd, Yb7, Yb8, Zaa, Zaj, Yb3, Yaw, Yb5, Yab, sz25, sz27, ag27, st27, Za1 (hcv _), hres, hl.own, hl.fit]
  simp only [Zai, Za7, Zao, Za3, Zae, Zan, Za9, ne_eq, reduceCtorEq, not_false_eq_true, implies_true, Yav, Ya2, Yas, Yat, Yak, Yal, Zau, ↓reduceIte, Za0, Za6, Za2, Zab, Zag, Zam, Zb6, Zay, Za1 (hcv _)]
  cases hp6 : m.kind == 12
  rotate_left
  · simp only [Yap, Yaq, Nat.reduceAdd, Yaj, Yar, Zai, Zb2, Zak, Za3, Zcd, Zae, Zan, Za9, Zcf, Yam, Yan, Yau, Nat.reduceLeDiff, ne_eq, reduceCtorEq, not_false_eq_true, implies_true, Yav, Ya2, Yas, Yat, Yak, Yal, Zbu, Yax, Yay, Zb7, ↓reduceIte, Zdk, Zbb, Za5, Za2, Zap, Zab, Zaq, Zam, Zb3, Zad, Zac, Zde, Zav, Zbr, Zfl, Yb9, Ybb, false_imp_iff, and_self, Yaf, Zar, Zbe, Zbk, Zcr, Zet, Zdh, Za8, Zba, Zb9, Zb1, Zb0, Zc9, Zb8, Zcl, Zbt, Zco, Zb4, Ybc, Ybd, Yb7, Yb8, Yba, Zaa, Zaj, Yb3, Yaw, Yb5, Yab, sz24, sz25, sz27, ag27, st27, Za1 (hcv _), hres, hl.own, hl.fit, Zhx, Ybe]
  simp only [Yap, Yaq, Nat.reduceAdd, Yar, Zai, Zbw, Zb2, Zao, Za3, Zcd, Zae, Zan, Za9, Zcf, Yau, ne_eq, reduceCtorEq, not_false_eq_true, implies_true, Yav, Ya2, Yas, Yat, Yak, Yal, Zbu, Yax, Yay, Zb7, ↓reduceIte, Zbb, Za2, Zab, Zb3, Zad, Zac, Zde, Zav, Zbr, Zfl, Yb9, Ybb, false_imp_iff, and_self, Yaf, Zar, Zbe, Zbk, Zcr, Zdh, Za8, Zb1, Zb0, Zb8, Zbt, Zco, Zb4, Ybc, Ybd, Yb7, Yb8, Zaj, Yb3, Yaw, Yab, sz27, ag27, Za1 (hcv _), hres, hl.own, hl.fit]
open Classical in
noncomputable def Msg.has (m : Msg) : Bool :=
  if m.kind == 4 then Zfc m.key else
  if m.kind == 5 then Zh2 m.ikey m.ival m.iver else
  if m.kind == 6 then Zh2 m.ikey m.ival m.iver && ((m.ikey == m.ikey) && ((m.ival == 0) && ((m.iver == 0) && (m.gone == false)))) else
  if m.kind == 7 then ((m.pred == -1) || Zfc m.pred) && Znj m.list m.frm else
  if m.kind == 10 then Zfc m.place else
  if m.kind == 11 then (m.code == 0) || (m.code == 200) else
  if m.kind == 12 then ((m.code == 0) && Zh2 m.ikey m.ival m.iver) || ((m.code == 201) && ((m.ikey == { data := #[] }) && ((m.ival == 0) && ((m.iver == 0) && (m.gone == false))))) else true
theorem w23 (m : Msg) (l : D) (hl : Rd l (isE m.list)) (hx : m.list.length ≤ 1099511627776) (h : List O) : wc 23 [.agg (m.cs l)] h = some (.val (.bool m.has), h) := by
  have hp := w39 m.ikey m.ival m.iver m.gone
  have hll := w40 l m.list m.frm hl hx
  simp only [Zgi] at hp
  have hcv : ∀ i, wcv 23 i = [] := fun _ => rfl
  have hres : Try.f23.results.toList = [ResultVar.tmp 2] := rfl
  rw [wc, Zbm rfl Try.func23 rfl]
  simp only [Zbj, Yap, Yaq, Nat.reduceAdd, Nat.reduceSub, Yae, Yaj, Yar, Zai, Zc5, Za7, Za3, Zae, Zan, Za9, Yan, Yau, Nat.reduceLeDiff, ne_eq, reduceCtorEq, not_false_eq_true, implies_true, Yav, Ya2, Yas, Yat, Yak, Yal, Zau, Zbu, Yax, Yay, Zb7, ↓reduceIte, Za0, Za6, Zdq, Za5, Za2, Zap, Zab, Zag, Zam, Zax, Zb6, Int.reduceNeg, Zay, Zar, Zbk, Za8, Zba, Zb9, Zb0, Zb8, Zbt, Zaa, Zaj, Yb3, Yb4, Yaw, Yb5, sz5, ag5, st27, Za1 (hcv _), Try.ntmps23, Msg.cs, hl.own]
  cases h4 : m.kind == 4
  rotate_left
  · simp only [Yap, Yaq, Nat.reduceAdd, Zai, Zb2, Zak, Za3, Zc0, Zd3, Zae, Zan, Zbf, Zbg, Za9, Zbq, Yam, Yan, Yau, Nat.reduceLeDiff, ne_eq, reduceCtorEq, not_false_eq_true, implies_true, Yav, Ya2, Yas, Yat, Yak, Yal, Zau, Zb7, ↓reduceIte, Za0, Za5, Za2, Zab, Zaq, Zah, Int.reduceNeg, Zb3, Zad, Zac, Zal, Zav, Zbr, Zar, Zbk, Za8, Zba, Zb9, Zbt, Zb4, Zaa, Zaj, Yaw, Yb5, sz3, ag3, st27, Za1 (hcv _), hres, h4, w20, Msg.has]
  simp only [Zai, Za7, Zao, Za3, Zae, Zan, Za9, ne_eq, reduceCtorEq, not_false_eq_true, implies_true, Ya2, Yas, Yat, Yak, Yal, Zau, Za0, Za6, Za2, Zab, Zag, Zam, Zb6, Int.reduceNeg, Zay, Za1 (hcv _)]
  cases h5 : m.kind == 5
  rotate_left
  · simp only [Yap, Yaq, Nat.reduceAdd, Zai, Zb2, Zak, Za3, Zc0, Zd3, Zae, Zan, Zbf, Zbg, Za9, Zbq, Yam, Yan, Yau, Nat.reduceLeDiff, ne_eq, reduceCtorEq, not_false_eq_true, implies_true, Yav, Ya2, Yas, Yat, Yak, Yal, Zau, Zbu, Yax, Yay, Zb7, ↓reduceIte, Za0, Za5, Za2, Zab, Zaq, Zah, Int.reduceNeg, Zb3, Zad, Zac, Zal, Zav, Zbr, Zar, Zbk, Za8, Zba, Zb9, Zbt, Zb4, Ybc, Ybd, Yb7, Yb8, Zaa, Zaj, Yb3, Yaw, Yb5, sz24, ag24, st27, Za1 (hcv _), hres, h5, hp, Msg.has, h4]
  simp only [Zai, Za7, Zao, Za3, Zae, Zan, Za9, ne_eq, reduceCtorEq, not_false_eq_true, implies_true, Ya2, Yas, Yat, Yak, Yal, Zau, Za0, Za6, Za2, Zab, Zag, Zam, Zb6, Int.reduceNeg, Zay, Za1 (hcv _)]
  cases h6 : m.kind == 6
  rotate_left
  · simp only [Yap, Yaq, Nat.reduceAdd, Zai, Zak, Zan, Zbf, Zbg, Zas, Za9, Zbq, Yao, Yam, Yan, Yau, Nat.reduceLT, Nat.reduceLeDiff, ne_eq, reduceCtorEq, not_false_eq_true, implies_true, Yav, Ya2, Yas, Yat, Yak, Yal, Zau, Zbu, Yax, Yay, Zb7, ↓reduceIte, Za4, Za5, Za2, Zab, Zaq, Zah, Int.reduceNeg, Option.some.injEq, Zar, Zbk, Za8, Zba, Zb9, Zbt, Ybc, Ybd, Yb7, Yb8, Zaa, Zaj, Yb3, Yaw, Yb5, sz24, ag24, st27, Za1 (hcv _), h6, hp, Msg.has, h4, h5]
    try simp only [Zbj, Yap, Yaq, Nat.reduceAdd, Nat.reduceSub, Yae, Yaj, Yar, List.append_eq, Zai, Zbw, Zb2, Zfv, Zkc, Zhn, Zc5, Zi4, Zic, Za7, Zak, Zao, Za3, Zc0, Zeq, Zgy, Ze7, Zcd, Zd3, Zer, Zm5, Zj6, Zdx, Zgh, Ze2, Zkm, Zib, Zji, Zeg, Zk3, Zk2, Zae, Zan, Zbd, Zbf, Zbg, Zas, Za9, Zcf, Zra, Zbq, Zp6, Zgz, Zch, Ze8, Zke, St.put, Yao, Yam, Yan, Yau, Nat.reduceLT, Nat.reduceLeDiff, ne_eq, reduceCtorEq, not_false_eq_true, implies_true, forall_const, Yb2, Ybg, not_true_eq_false, Bool.true_eq_false, Yav, Ya2, Yas, Yat, Yak, Yal, Zau, Ze5, Zdv, Zbu, Zb5, Zcp, Zfi, Zkq, Zm0, Zp4, Zll, Yax, Yay, Zb7, Zd5, Zm2, Bool.or_false, Ybf, Bool.not_eq_true', if_false, if_true, ite_true, ite_false, ↓reduceIte, Za4, Zea, Za0, Za6, Ze0, Zcs, Zat, Zd4, Zdq, Zdk, Zca, Zbb, Zbl, Zg0, Zel, Zhv, Zgt, Za5, Zbo, Zkn, Zc8, Za2, Zaf, Zap, Zbh, Zab, Zag, Zoz, Zaq, Zah, Zec, Zdg, Zam, Zax, Zja, Zcw, Zdi, Zjq, Zjz, Zgr, Zgq, Zdc, Zgn, Zkh, Zlb, Zkg, Zj9, Zmd, Zj8, Zb6, Zem, Zc6, Zfx, Zeo, Zf2, Zi5, Zgd, Znb, Zkf, Zla, Zk7, Zkz, Zg3, Znc, Zgj, Zev, Zju, Zj2, Int.reduceLT, Int.reduceToNat, Int.reduceNe, Int.reduceNeg, IntKind.bits, Zcz, Zg1, Zj3, Zie, Zki, Zhy, Zay, Zdm, Zbs, Zf0, Zdr, Zeb, Zf4, Zmq, Zd0, Ze4, Zpb, Zpc, Zb3, Zfh, Zgs, Zad, Zdw, Zac, Zal, Zde, Zav, Zd2, Zeu, Zd9, Zcq, Zbr, Zcy, Zpa, Zcx, Zfl, Yb9, Ybb, false_imp_iff, and_true, and_self, List.toList_toArray, Option.some.injEq, Prod.mk.injEq, exists_eq_left', true_and, Zdy, kd_l, Zc3, Zc2, kd_r, Zc4, Zdo, Zc7, Zbc, Zbv, Zaz, Zd1, Zls, Zcv, Zcb, Zcu, Zlr, Zby, Zbx, Zdz, Zjy, Zi1, Zm3, Zgv, Zdt, Zgk, Zma, Zhz, Zgp, Zjc, Zkb, Zbp, Zn5, Zg9, Zn4, Ze1, Zr9, Zhg, Op.operands, Call.operands, Zg6, Zjs, Zfm, Zjm, Zfe, Yax, Yay, Zdn, mkT, List.foldl_nil, Array.toList_append, Yaf, List.forall_mem_nil, Zar, Zbe, Zbk, Zcr, Zet, Zdh, hlen, Zin, hget0, hgetn, Za8, Ze3, Zba, Zta, Zb9, Zt8, Zb1, Zb0, Zc9, Zdl, Zhw, Zjf, Zid, Zb8, Zcl, Zct, Zij, Zk0, Zjb, Zbt, Zj0, Zco, Zb4, Ybc, Ybd, Yb7, Yb8, List.map_cons, Yba, Zaa, Yah, Zaj, Yb3, Bool.and_false, Bool.and_true, Yb6, Yb1, Bool.or_true, Ybh, Yb4, Yaw, Nat.reduceEqDiff, Yb5, Zhj, Option.pure_def, Zkw, Zgg, Yab, and_self, Try.underlying3, Try.underlying4, Try.underlying5, Try.underlying9, Try.underlying22, Try.underlying24, Try.underlying25, Try.underlying27, Try.underlying28, Try.underlying31, Try.underlying38, Try.underlying105, sz3, sz4, sz5, sz9, sz22, sz24, sz25, sz27, sz28, sz31, ag3, ag4, ag5, ag9, ag22, ag24, ag25, ag27, ag28, ag31, st24, st27, el22, el31, Zxl, Za1 (hcv _), hcv, Try.ntmps23, hres, hl.own, hl.ownD, Zt5, eq24, h4, h5, h6, Msg.has, List.zip_cons_cons, Ybe]
    cases hp0 : Zh2 m.ikey m.ival m.iver
    · simp only [Yap, Yaq, Nat.reduceAdd, Zb2, Za3, Zc0, Zd3, Zae, Zan, Zas, Za9, Ze8, St.put, Yao, Yam, Yan, Yau, Nat.reduceLT, ne_eq, reduceCtorEq, not_false_eq_true, implies_true, Yb2, Yav, Ya2, Yas, Yat, Yak, Yal, Zau, ↓reduceIte, Za0, Zat, Za2, Zbh, Zab, Zax, Zb3, Zad, Zac, Zal, Zav, Zbr, Option.some.injEq, Zb4, Yb1, Yaw, hres]
    simp only [Yap, Yaq, Nat.reduceAdd, Zb2, Za3, Zc0, Zd3, Zae, Zan, Zas, Za9, Zch, Yao, Yam, Yan, Yau, Nat.reduceLT, Nat.reduceLeDiff, ne_eq, reduceCtorEq, not_false_eq_true, implies_true, Yav, Ya2, Yas, Yat, Yak, Yal, Zau, Yax, Yay, Zb7, ↓reduceIte, Za0, Za6, Zat, Zdk, Za5, Za2, Zaf, Zab, Zaq, Zah, Zb3, Zad, Zac, Zal, Zav, Zbr, Option.some.injEq, Zar, Zbk, Za8, Zba, Zb9, Zbt, Zb4, Ybc, Ybd, Yb7, Yb8, List.map_cons, Yba, Zaa, Zaj, Yb3, Yb6, Yb4, Yaw, Yb5, sz9, sz24, ag9, ag24, st24, st27, hres, Zt5, eq24, List.zip_cons_cons, Ybe]
  simp only [Zai, Za7, Zao, Za3, Zae, Zan, Za9, ne_eq, reduceCtorEq, not_false_eq_true, implies_true, Ya2, Yas, Yat, Yak, Yal, Zau, Za0, Za6, Za2, Zab, Zag, Zam, Zb6, Int.reduceNeg, Zay, Za1 (hcv _)]
  cases h7 : m.kind == 7
  rotate_left
  · simp only [Yap, Yaq, Nat.reduceAdd, Zai, Zak, Zan, Zas, Za9, Yao, Yam, Yan, Yau, Nat.reduceLT, Nat.reduceLeDiff, ne_eq, reduceCtorEq, not_false_eq_true, implies_true, Yav, Ya2, Yas, Yat, Yak, Yal, Zau, Zb7, ↓reduceIte, Za4, Za6, Za5, Zab, Zag, Zam, Zb6, Int.reduceNeg, Zay, Option.some.injEq, Zar, Zbk, Za8, Zba, Zb9, Zbt, Zaa, Zaj, Yaw, Yb5, sz3, ag3, st27, Za1 (hcv _), h7, Msg.has, h4, h5, h6]
    cases h71 : m.pred == -1
    · simp only [Yap, Yaq, Nat.reduceAdd, Zan, Zbf, Zbg, Zas, Za9, Zbq, Zch, Yao, Yam, Yan, Yau, Nat.reduceLT, Nat.reduceLeDiff, ne_eq, reduceCtorEq, not_false_eq_true, implies_true, Yav, Ya2, Yas, Yat, Yak, Yal, Zau, Zb7, Ybf, ↓reduceIte, Za4, Zat, Za5, Za2, Zaf, Zab, Zaq, Zah, Int.reduceNeg, Option.some.injEq, Zar, Zbk, Za8, Zba, Zb9, Zbt, Zaa, Zaj, Yaw, Yb5, sz3, ag3, st27, w20]
      try simp only [Zbj, Yap, Yaq, Nat.reduceAdd, Nat.reduceSub, Yae, Yaj, Yar, List.append_eq, Zai, Zbw, Zb2, Zfv, Zkc, Zhn, Zc5, Zi4, Zic, Za7, Zak, Zao, Za3, Zc0, Zeq, Zgy, Ze7, Zcd, Zd3, Zer, Zm5, Zj6, Zdx, Zgh, Ze2, Zkm, Zib, Zji, Zeg, Zk3, Zk2, Zae, Zan, Zbd, Zbf, Zbg, Zas, Za9, Zcf, Zra, Zbq, Zp6, Zgz, Zch, Ze8, Zke, St.put, Yao, Yam, Yan, Yau, Nat.reduceLT, Nat.reduceLeDiff, ne_eq, reduceCtorEq, not_false_eq_true, implies_true, forall_const, Yb2, Ybg, not_true_eq_false, Bool.true_eq_false, Yav, Ya2, Yas, Yat, Yak, Yal, Zau, Ze5, Zdv, Zbu, Zb5, Zcp, Zfi, Zkq, Zm0, Zp4, Zll, Yax, Yay, Zb7, Zd5, Zm2, Bool.or_false, Ybf, Bool.not_eq_true', if_false, if_true, ite_true, ite_false, ↓reduceIte, Za4, Zea, Za0, Za6, Ze0, Zcs, Zat, Zd4, Zdq, Zdk, Zca, Zbb, Zbl, Zg0, Zel, Zhv, Zgt, Za5, Zbo, Zkn, Zc8, Za2, Zaf, Zap, Zbh, Zab, Zag, Zoz, Zaq, Zah, Zec, Zdg, Zam, Zax, Zja, Zcw, Zdi, Zjq, Zjz, Zgr, Zgq, Zdc, Zgn, Zkh, Zlb, Zkg, Zj9, Zmd, Zj8, Zb6, Zem, Zc6, Zfx, Zeo, Zf2, Zi5, Zgd, Znb, Zkf, Zla, Zk7, Zkz, Zg3, Znc, Zgj, Zev, Zju, Zj2, Int.reduceLT, Int.reduceToNat, Int.reduceNe, Int.reduceNeg, IntKind.bits, Zcz, Zg1, Zj3, Zie, Zki, Zhy, Zay, Zdm, Zbs, Zf0, Zdr, Zeb, Zf4, Zmq, Zd0, Ze4, Zpb, Zpc, Zb3, Zfh, Zgs, Zad, Zdw, Zac, Zal, Zde, Zav, Zd2, Zeu, Zd9, Zcq, Zbr, Zcy, Zpa, Zcx, Zfl, Yb9, Ybb, false_imp_iff, and_true, and_self, List.toList_toArray, Option.some.injEq, Prod.mk.injEq, exists_eq_left', true_and, Zdy, kd_l, Zc3, Zc2, kd_r, Zc4, Zdo, Zc7, Zbc, Zbv, Zaz, Zd1, Zls, Zcv, Zcb, Zcu, Zlr, Zby, Zbx, Zdz, Zjy, Zi1, Zm3, Zgv, Zdt, Zgk, Zma, Zhz, Zgp, Zjc, Zkb, Zbp, Zn5, Zg9, Zn4, Ze1, Zr9, Zhg, Op.operands, Call.operands, Zg6, Zjs, Zfm, Zjm, Zfe, Yax, Yay, Zdn, mkT, List.foldl_nil, Array.toList_append, Yaf, List.forall_mem_nil, Zar, Zbe, Zbk, Zcr, Zet, Zdh, hlen, Zin, hget0, hgetn, Za8, Ze3, Zba, Zta, Zb9, Zt8, Zb1, Zb0, Zc9, Zdl, Zhw, Zjf, Zid, Zb8, Zcl, Zct, Zij, Zk0, Zjb, Zbt, Zj0, Zco, Zb4, Ybc, Ybd, Yb7, Yb8, List.map_cons, Yba, Zaa, Yah, Zaj, Yb3, Bool.and_false, Bool.and_true, Yb6, Yb1, Bool.or_true, Ybh, Yb4, Yaw, Nat.reduceEqDiff, Yb5, Zhj, Option.pure_def, Zkw, Zgg, Yab, and_self, Try.underlying3, Try.underlying4, Try.underlying5, Try.underlying9, Try.underlying22, Try.underlying24, Try.underlying25, Try.underlying27, Try.underlying28, Try.underlying31, Try.underlying38, Try.underlying105, sz3, sz4, sz5, sz9, sz22, sz24, sz25, sz27, sz28, sz31, ag3, ag4, ag5, ag9, ag22, ag24, ag25, ag27, ag28, ag31, st24, st27, el22, el31, Zxl, Za1 (hcv _), hcv, Try.ntmps23, hres, hl.own, hl.ownD, h4, h5, h6, h7, Msg.has, hll]
      cases hp0 : Zfc m.pred
      · simp only [Yap, Yaq, Nat.reduceAdd, Zb2, Za3, Zc0, Zd3, Zae, Zan, Zas, Za9, Ze8, St.put, Yao, Yam, Yan, Yau, Nat.reduceLT, ne_eq, reduceCtorEq, not_false_eq_true, implies_true, Yb2, Yav, Ya2, Yas, Yat, Yak, Yal, Zau, ↓reduceIte, Za0, Zat, Za2, Zbh, Zab, Zax, Int.reduceNeg, Zb3, Zad, Zac, Zal, Zav, Zbr, Option.some.injEq, Zb4, Yb1, Yaw, hres]
      simp only [Yap, Yaq, Nat.reduceAdd, Zb2, Za3, Zc0, Zd3, Zae, Zan, Zbf, Zbg, Zas, Za9, Zbq, Zch, Yao, Yam, Yan, Yau, Nat.reduceLT, Nat.reduceLeDiff, ne_eq, reduceCtorEq, not_false_eq_true, implies_true, Yav, Ya2, Yas, Yat, Yak, Yal, Zau, Zb7, ↓reduceIte, Za0, Zat, Za5, Za2, Zaf, Zab, Zaq, Zah, Int.reduceNeg, Zb3, Zad, Zac, Zal, Zav, Zbr, Option.some.injEq, Zar, Zbk, Za8, Zba, Zb9, Zbt, Zb4, Zaa, Zaj, Yb6, Yaw, Yb5, sz3, sz22, ag3, ag22, st27, hres, hl.own, hl.ownD, hll]
    · simp only [Yap, Yaq, Nat.reduceAdd, Zb2, Za3, Zc0, Zd3, Zae, Zan, Zbf, Zbg, Zas, Za9, Zbq, Zch, Ze8, St.put, Yao, Yam, Yan, Yau, Nat.reduceLT, Nat.reduceLeDiff, ne_eq, reduceCtorEq, not_false_eq_true, implies_true, Ybg, Yav, Ya2, Yas, Yat, Yak, Yal, Zau, Zb7, ↓reduceIte, Za4, Za0, Zat, Za5, Za2, Zaf, Zbh, Zab, Zaq, Zah, Zax, Int.reduceNeg, Zb3, Zad, Zac, Zal, Zav, Zbr, Option.some.injEq, Zar, Zbk, Za8, Zba, Zb9, Zbt, Zb4, Zaa, Zaj, Yb6, Ybh, Yaw, Yb5, sz3, sz22, ag3, ag22, st27, hres, hl.own, hl.ownD, hll]
  simp only [Zai, Za7, Zao, Za3, Zae, Zan, Za9, ne_eq, reduceCtorEq, not_false_eq_true, implies_true, Ya2, Yas, Yat, Yak, Yal, Zau, Za0, Za6, Za2, Zab, Zag, Zam, Zb6, Int.reduceNeg, Zay, Za1 (hcv _)]
  cases h10 : m.kind == 10
  rotate_left
  · simp only [Yap, Yaq, Nat.reduceAdd, Zai, Zb2, Zak, Za3, Zc0, Zd3, Zae, Zan, Zbf, Zbg, Za9, Zbq, Yam, Yan, Yau, Nat.reduceLeDiff, ne_eq, reduceCtorEq, not_false_eq_true, implies_true, Yav, Ya2, Yas, Yat, Yak, Yal, Zau, Zb7, ↓reduceIte, Za0, Za5, Za2, Zab, Zaq, Zah, Zb3, Zad, Zac, Zal, Zav, Zbr, Zar, Zbk, Za8, Zba, Zb9, Zbt, Zb4, Zaa, Zaj, Yaw, Yb5, sz3, ag3, st27, Za1 (hcv _), hres, h10, w20, Msg.has, h4, h5, h6, h7]
  simp only [Zai, Za7, Zao, Za3, Zae, Zan, Za9, ne_eq, reduceCtorEq, not_false_eq_true, implies_true, Ya2, Yas, Yat, Yak, Yal, Zau, Za0, Za6, Za2, Zab, Zag, Zam, Zb6, Zay, Za1 (hcv _)]
  cases h11 : m.kind == 11
  rotate_left
  · simp only [Yap, Yaq, Nat.reduceAdd, Zai, Zak, Zan, Zas, Za9, Yao, Yam, Yan, Yau, Nat.reduceLT, ne_eq, reduceCtorEq, not_false_eq_true, implies_true, Yav, Ya2, Yas, Yat, Yak, Yal, Zau, Zb7, ↓reduceIte, Za4, Za6, Za5, Zab, Zag, Zam, Zb6, Zay, Option.some.injEq, Zar, Zbk, Za8, Zba, Zb9, Zbt, Zaa, Zaj, Yaw, Yb5, Yab, sz25, ag25, st27, Za1 (hcv _), h11, Msg.has, h4, h5, h6, h7, h10]
    try simp only [Zbj, Yap, Yaq, Nat.reduceAdd, Nat.reduceSub, Yae, Yaj, Yar, List.append_eq, Zai, Zbw, Zb2, Zfv, Zkc, Zhn, Zc5, Zi4, Zic, Za7, Zak, Zao, Za3, Zc0, Zeq, Zgy, Ze7, Zcd, Zd3, Zer, Zm5, Zj6, Zdx, Zgh, Ze2, Zkm, Zib, Zji, Zeg, Zk3, Zk2, Zae, Zan, Zbd, Zbf, Zbg, Zas, Za9, Zcf, Zra, Zbq, Zp6, Zgz, Zch, Ze8, Zke, St.put, Yao, Yam, Yan, Yau, Nat.reduceLT, Nat.reduceLeDiff, ne_eq, reduceCtorEq, not_false_eq_true, implies_true, forall_const, Yb2, Ybg, not_true_eq_false, Bool.true_eq_false, Yav, Ya2, Yas, Yat, Yak, Yal, Zau, Ze5, Zdv, Zbu, Zb5, Zcp, Zfi, Zkq, Zm0, Zp4, Zll, Yax, Yay, Zb7, Zd5, Zm2, Bool.or_false, Ybf, Bool.not_eq_true', if_false, if_true, ite_true, ite_false, ↓reduceIte, Za4, Zea, Za0, Za6, Ze0, Zcs, Zat, Zd4, Zdq, Zdk, Zca, Zbb, Zbl, Zg0, Zel, Zhv, Zgt, Za5, Zbo, Zkn, Zc8, Za2, Zaf, Zap, Zbh, Zab, Zag, Zoz, Zaq, Zah, Zec, Zdg, Zam, Zax, Zja, Zcw, Zdi, Zjq, Zjz, Zgr, Zgq, Zdc, Zgn, Zkh, Zlb, Zkg, Zj9, Zmd, Zj8, Zb6, Zem, Zc6, Zfx, Zeo, Zf2, Zi5, Zgd, Znb, Zkf, Zla, Zk7, Zkz, Zg3, Znc, Zgj, Zev, Zju, Zj2, Int.reduceLT, Int.reduceToNat, Int.reduceNe, Int.reduceNeg, IntKind.bits, Zcz, Zg1, Zj3, Zie, Zki, Zhy, Zay, Zdm, Zbs, Zf0, Zdr, Zeb, Zf4, Zmq, Zd0, Ze4, Zpb, Zpc, Zb3, Zfh, Zgs, Zad, Zdw, Zac, Zal, Zde, Zav, Zd2, Zeu, Zd9, Zcq, Zbr, Zcy, Zpa, Zcx, Zfl, Yb9, Ybb, false_imp_iff, and_true, and_self, List.toList_toArray, Option.some.injEq, Prod.mk.injEq, exists_eq_left', true_and, Zdy, kd_l, Zc3, Zc2, kd_r, Zc4, Zdo, Zc7, Zbc, Zbv, Zaz, Zd1, Zls, Zcv, Zcb, Zcu, Zlr, Zby, Zbx, Zdz, Zjy, Zi1, Zm3, Zgv, Zdt, Zgk, Zma, Zhz, Zgp, Zjc, Zkb, Zbp, Zn5, Zg9, Zn4, Ze1, Zr9, Zhg, Op.operands, Call.operands, Zg6, Zjs, Zfm, Zjm, Zfe, Yax, Yay, Zdn, mkT, List.foldl_nil, Array.toList_append, Yaf, List.forall_mem_nil, Zar, Zbe, Zbk, Zcr, Zet, Zdh, hlen, Zin, hget0, hgetn, Za8, Ze3, Zba, Zta, Zb9, Zt8, Zb1, Zb0, Zc9, Zdl, Zhw, Zjf, Zid, Zb8, Zcl, Zct, Zij, Zk0, Zjb, Zbt, Zj0, Zco, Zb4, Ybc, Ybd, Yb7, Yb8, List.map_cons, Yba, Zaa, Yah, Zaj, Yb3, Bool.and_false, Bool.and_true, Yb6, Yb1, Bool.or_true, Ybh, Yb4, Yaw, Nat.reduceEqDiff, Yb5, Zhj, Option.pure_def, Zkw, Zgg, Yab, and_self, Try.underlying3, Try.underlying4, Try.underlying5, Try.underlying9, Try.underlying22, Try.underlying24, Try.underlying25, Try.underlying27, Try.underlying28, Try.underlying31, Try.underlying38, Try.underlying105, sz3, sz4, sz5, sz9, sz22, sz24, sz25, sz27, sz28, sz31, ag3, ag4, ag5, ag9, ag22, ag24, ag25, ag27, ag28, ag31, st24, st27, el22, el31, Zxl, Za1 (hcv _), hcv, Try.ntmps23, hres, hl.own, hl.ownD, h4, h5, h6, h7, h10, h11, Msg.has]
    cases hp0 : m.code == 0
    rotate_left
    · simp only [Yap, Yaq, Nat.reduceAdd, Zb2, Za3, Zc0, Zd3, Zae, Zan, Zas, Za9, Ze8, St.put, Yao, Yam, Yan, Yau, Nat.reduceLT, ne_eq, reduceCtorEq, not_false_eq_true, implies_true, Ybg, Ya2, Yas, Yat, Yak, Yal, Zau, ↓reduceIte, Za0, Zat, Za2, Zbh, Zab, Zax, Zb3, Zad, Zac, Zal, Zav, Zbr, Option.some.injEq, Zb4, Ybh, Yaw, hres]
    simp only [Yap, Yaq, Nat.reduceAdd, Zb2, Za3, Zc0, Zd3, Zae, Zan, Zas, Za9, Zch, Yao, Yam, Yan, Yau, Nat.reduceLT, ne_eq, reduceCtorEq, not_false_eq_true, implies_true, Yav, Ya2, Yas, Yat, Yak, Yal, Zau, Zb7, Ybf, ↓reduceIte, Za0, Za6, Zat, Za5, Za2, Zaf, Zab, Zag, Zam, Zb6, Zay, Zb3, Zad, Zac, Zal, Zav, Zbr, Option.some.injEq, Zar, Zbk, Za8, Zba, Zb9, Zbt, Zb4, Zaa, Zaj, Yaw, Yb5, Yab, sz25, ag25, st27, hres]
  simp only [Zai, Za7, Zao, Za3, Zae, Zan, Za9, ne_eq, reduceCtorEq, not_false_eq_true, implies_true, Ya2, Yas, Yat, Yak, Yal, Zau, Za0, Za6, Za2, Zab, Zag, Zam, Zb6, Zay, Za1 (hcv _)]
  cases h12 : m.kind == 12
  rotate_left
  · simp only [Yap, Yaq, Nat.reduceAdd, Zai, Zak, Zan, Zas, Za9, Yao, Yam, Yan, Yau, Nat.reduceLT, ne_eq, reduceCtorEq, not_false_eq_true, implies_true, Yav, Ya2, Yas, Yat, Yak, Yal, Zau, Zb7, ↓reduceIte, Za4, Za6, Za5, Zab, Zag, Zam, Zb6, Zay, Option.some.injEq, Zar, Zbk, Za8, Zba, Zb9, Zbt, Zaa, Zaj, Yaw, Yb5, Yab, sz25, ag25, st27, Za1 (hcv _), h12, Msg.has, h4, h5, h6, h7, h10, h11]
    cases h121 : m.code == 0
    · simp only [Yap, Yaq, Nat.reduceAdd, Zan, Zas, Za9, Zch, Ze8, St.put, Yao, Yam, Yan, Yau, Nat.reduceLT, ne_eq, reduceCtorEq, not_false_eq_true, implies_true, Yb2, Yav, Ya2, Yas, Yat, Yak, Yal, Zau, Zb7, Ybf, ↓reduceIte, Za4, Za6, Zat, Za5, Zbh, Zab, Zag, Zam, Zax, Zb6, Zay, Option.some.injEq, Zar, Zbk, Za8, Zba, Zb9, Zbt, Zaa, Zaj, Yb1, Yaw, Yb5, Yab, sz25, ag25, st27]
      try simp only [Zbj, Yap, Yaq, Nat.reduceAdd, Nat.reduceSub, Yae, Yaj, Yar, List.append_eq, Zai, Zbw, Zb2, Zfv, Zkc, Zhn, Zc5, Zi4, Zic, Za7, Zak, Zao, Za3, Zc0, Zeq, Zgy, Ze7, Zcd, Zd3, Zer, Zm5, Zj6, Zdx, Zgh, Ze2, Zkm, Zib, Zji, Zeg, Zk3, Zk2, Zae, Zan, Zbd, Zbf, Zbg, Zas, Za9, Zcf, Zra, Zbq, Zp6, Zgz, Zch, Ze8, Zke, St.put, Yao, Yam, Yan, Yau, Nat.reduceLT, Nat.reduceLeDiff, ne_eq, reduceCtorEq, not_false_eq_true, implies_true, forall_const, Yb2, Ybg, not_true_eq_false, Bool.true_eq_false, Yav, Ya2, Yas, Yat, Yak, Yal, Zau, Ze5, Zdv, Zbu, Zb5, Zcp, Zfi, Zkq, Zm0, Zp4, Zll, Yax, Yay, Zb7, Zd5, Zm2, Bool.or_false, Ybf, Bool.not_eq_true', if_false, if_true, ite_true, ite_false, ↓reduceIte, Za4, Zea, Za0, Za6, Ze0, Zcs, Zat, Zd4, Zdq, Zdk, Zca, Zbb, Zbl, Zg0, Zel, Zhv, Zgt, Za5, Zbo, Zkn, Zc8, Za2, Zaf, Zap, Zbh, Zab, Zag, Zoz, Zaq, Zah, Zec, Zdg, Zam, Zax, Zja, Zcw, Zdi, Zjq, Zjz, Zgr, Zgq, Zdc, Zgn, Zkh, Zlb, Zkg, Zj9, Zmd, Zj8, Zb6, Zem, Zc6, Zfx, Zeo, Zf2, Zi5, Zgd, Znb, Zkf, Zla, Zk7, Zkz, Zg3, Znc, Zgj, Zev, Zju, Zj2, Int.reduceLT, Int.reduceToNat, Int.reduceNe, Int.reduceNeg, IntKind.bits, Zcz, Zg1, Zj3, Zie, Zki, Zhy, Zay, Zdm, Zbs, Zf0, Zdr, Zeb, Zf4, Zmq, Zd0, Ze4, Zpb, Zpc, Zb3, Zfh, Zgs, Zad, Zdw, Zac, Zal, Zde, Zav, Zd2, Zeu, Zd9, Zcq, Zbr, Zcy, Zpa, Zcx, Zfl, Yb9, Ybb, false_imp_iff, and_true, and_self, List.toList_toArray, Option.some.injEq, Prod.mk.injEq, exists_eq_left', true_and, Zdy, kd_l, Zc3, Zc2, kd_r, Zc4, Zdo, Zc7, Zbc, Zbv, Zaz, Zd1, Zls, Zcv, Zcb, Zcu, Zlr, Zby, Zbx, Zdz, Zjy, Zi1, Zm3, Zgv, Zdt, Zgk, Zma, Zhz, Zgp, Zjc, Zkb, Zbp, Zn5, Zg9, Zn4, Ze1, Zr9, Zhg, Op.operands, Call.operands, Zg6, Zjs, Zfm, Zjm, Zfe, Yax, Yay, Zdn, mkT, List.foldl_nil, Array.toList_append, Yaf, List.forall_mem_nil, Zar, Zbe, Zbk, Zcr, Zet, Zdh, hlen, Zin, hget0, hgetn, Za8, Ze3, Zba, Zta, Zb9, Zt8, Zb1, Zb0, Zc9, Zdl, Zhw, Zjf, Zid, Zb8, Zcl, Zct, Zij, Zk0, Zjb, Zbt, Zj0, Zco, Zb4, Ybc, Ybd, Yb7, Yb8, List.map_cons, Yba, Zaa, Yah, Zaj, Yb3, Bool.and_false, Bool.and_true, Yb6, Yb1, Bool.or_true, Ybh, Yb4, Yaw, Nat.reduceEqDiff, Yb5, Zhj, Option.pure_def, Zkw, Zgg, Yab, and_self, Try.underlying3, Try.underlying4, Try.underlying5, Try.underlying9, Try.underlying22, Try.underlying24, Try.underlying25, Try.underlying27, Try.underlying28, Try.underlying31, Try.underlying38, Try.underlying105, sz3, sz4, sz5, sz9, sz22, sz24, sz25, sz27, sz28, sz31, ag3, ag4, ag5, ag9, ag22, ag24, ag25, ag27, ag28, ag31, st24, st27, el22, el31, Zxl, Za1 (hcv _), hcv, Try.ntmps23, hres, hl.own, hl.ownD, h4, h5, h6, h7, h10, h11, h12, Msg.has, Zhx, eq24, List.zip_nil_left, Ybe]
      cases hp0 : m.code == 201
      · simp only [Yap, Yaq, Nat.reduceAdd, Zb2, Za3, Zc0, Zd3, Zae, Zan, Zas, Za9, Zch, Ze8, St.put, Yao, Yam, Yan, Yau, Nat.reduceLT, ne_eq, reduceCtorEq, not_false_eq_true, implies_true, Yb2, Yav, Ya2, Yas, Yat, Yak, Yal, Zau, ↓reduceIte, Za0, Zat, Za2, Zaf, Zbh, Zab, Zax, Zb3, Zad, Zac, Zal, Zav, Zbr, Option.some.injEq, Zb4, Yb1, Yaw, hres]
      simp only [Yap, Yaq, Nat.reduceAdd, Zb2, Za3, Zc0, Zd3, Zae, Zan, Zas, Za9, Zch, Yao, Yam, Yan, Yau, Nat.reduceLT, Nat.reduceLeDiff, ne_eq, reduceCtorEq, not_false_eq_true, implies_true, Yav, Ya2, Yas, Yat, Yak, Yal, Zau, Yax, Yay, Zb7, ↓reduceIte, Za0, Za6, Zat, Zdk, Za5, Za2, Zaf, Zab, Zaq, Zb3, Zad, Zac, Zal, Zav, Zbr, Option.some.injEq, Zar, Zbk, Za8, Zba, Zb9, Zbt, Zb4, Ybc, Ybd, Yb7, Yb8, Yba, Zaa, Zaj, Yb3, Yb6, Yaw, Yb5, sz24, ag24, st27, hres, Zhx, eq24, Ybe]
    · simp only [Yap, Yaq, Nat.reduceAdd, Zan, Zbf, Zbg, Zas, Za9, Zbq, Zch, Yao, Yam, Yan, Yau, Nat.reduceLT, Nat.reduceLeDiff, ne_eq, reduceCtorEq, not_false_eq_true, implies_true, Yav, Ya2, Yas, Yat, Yak, Yal, Zau, Zbu, Yax, Yay, Zb7, ↓reduceIte, Za4, Zat, Za5, Za2, Zaf, Zab, Zaq, Zah, Option.some.injEq, Zar, Zbk, Za8, Zba, Zb9, Zbt, Ybc, Ybd, Yb7, Yb8, Zaa, Zaj, Yb3, Yb6, Yaw, Yb5, sz24, ag24, st27, hp]
      cases h122 : Zh2 m.ikey m.ival m.iver
      · simp only [Yap, Yaq, Nat.reduceAdd, Zan, Zas, Za9, Zch, Yao, Yam, Yan, Yau, Nat.reduceLT, ne_eq, reduceCtorEq, not_false_eq_true, implies_true, Yav, Ya2, Yas, Yat, Yak, Yal, Zau, Zb7, Ybf, ↓reduceIte, Za4, Za6, Za5, Zab, Zag, Zam, Zb6, Zay, Option.some.injEq, Zar, Zbk, Za8, Zba, Zb9, Zbt, Zaa, Zaj, Yaw, Yb5, Yab, sz25, ag25, st27]
        have hc : (m.code == 201) = false := by simp at h121 ⊢; omega
        simp only [Yap, Yaq, Nat.reduceAdd, Zb2, Za3, Zc0, Zd3, Zae, Zan, Zas, Za9, Zch, Ze8, St.put, Yao, Yam, Yan, Yau, Nat.reduceLT, ne_eq, reduceCtorEq, not_false_eq_true, implies_true, Yb2, Yav, Ya2, Yas, Yat, Yak, Yal, Zau, ↓reduceIte, Za0, Zat, Za2, Zaf, Zbh, Zab, Zax, Zb3, Zad, Zac, Zal, Zav, Zbr, Option.some.injEq, Zb4, Yb1, Yaw, hres, hc]
      · simp only [Yap, Yaq, Nat.reduceAdd, Zb2, Za3, Zc0, Zd3, Zae, Zan, Zas, Za9, Ze8, Zke, St.put, Yao, Yam, Yan, Yau, Nat.reduceLT, ne_eq, reduceCtorEq, not_false_eq_true, implies_true, Ybg, Ya2, Yas, Yat, Yak, Yal, Zau, ↓reduceIte, Za0, Zat, Za2, Zbh, Zab, Zax, Zb3, Zad, Zac, Zal, Zav, Zbr, Option.some.injEq, Zb4, Ybh, Yaw, hres]
  simp only [Zai, Zbw, Zb2, Zao, Za3, Zcd, Zae, Zan, Za9, ne_eq, reduceCtorEq, not_false_eq_true, implies_true, Yav, Ya2, Yas, Yat, Yak, Yal, Zau, ↓reduceIte, Za0, Za2, Zap, Zax, Zb3, Zad, Zac, Zal, Zav, Zbr, Zb4, Za1 (hcv _), hres, h12, Msg.has, h4, h5, h6, h7, h10, h11]
end Go.Abs
namespace Go.Abs
section
variable {P : Program} {pr : FuncId → List D → Option D} {cv : FuncId → Nat → List Cv} {β : Type} {k : X × St → Option β} {all : Array Oper} {hs : List (Nat × List O)} {ag : List Again} {rest : List Todo} {i bf : Nat} {nm mv : List Tmp} {rds : Bool} {s : St}
open Classical in
noncomputable def kdE (P : Program) (pr : FuncId → List D → Option D) (cv : FuncId → Nat → List Cv) (all : Array Oper) (i bf : Nat) (rest : List Todo) (hs : List (Nat × List O)) (ag : List Again) (h0 : List O) (dst : Option Tmp) (k : X × St → Option β) (r : Option (Out × St)) : Option β :=
  match r with
  | some (.val d, s1) => if Zjg P bf s1.h ag then kd P pr cv all rest ((i, h0) :: hs) ag (s1.put dst d) k else none
  | _ => none
noncomputable def kdC (P : Program) (pr : FuncId → List D → Option D) (cv : FuncId → Nat → List Cv) (all : Array Oper) (i bf : Nat) (rest : List Todo) (hs : List (Nat × List O)) (ag : List Again) (h0 : List O) (dst : Option Tmp) (s1 : St) (k : X × St → Option β) (r : Option (Out × List O)) : Option β :=
  match r with
  | some (.val d, h) => kdE P pr cv all i bf rest hs ag h0 dst k (some (.val d, { s1 with h := h }))
  | some (.pan d, h) => open Classical in if s1.d = [] ∧ ∀ t ∈ rest, t.bf.testBit i = true then k (.pan d, { t := [], d := [], r := s1.r, h := h }) else none
  | _ => none
noncomputable def kdK (P : Program) (pr : FuncId → List D → Option D) (cv : FuncId → Nat → List Cv) (all : Array Oper) (i bf : Nat) (rest : List Todo) (hs : List (Nat × List O)) (ag : List Again) (o : Oper) (s : St) (k : X × St → Option β) : Option β :=
  match Zfy o s with
  | .bad => none
  | .go g args s1 => kdC P pr cv all i bf rest hs ag s.h o.dst s1 k (call P pr cv g args s1.h)
  | .other => kdE P pr cv all i bf rest hs ag s.h o.dst k (exOp P [] o s)
noncomputable def kdHO (P : Program) (pr : FuncId → List D → Option D) (cv : FuncId → Nat → List Cv) (all : Array Oper) (td : Todo) (rest : List Todo) (hs : List (Nat × List O)) (ag : List Again) (s : St) (k : X × St → Option β) (o : Option Oper) : Option β :=
  match o with
  | some o => if want all o s then (if Zo3 td s.t then kdK P pr cv all td.i td.bf rest hs ag o s k else none) else kd P pr cv all rest hs ag (s.put o.dst Zaw) k
  | none => none
theorem kd_h : kd P pr cv all (⟨i, true, rds, bf, nm, mv⟩ :: rest) hs ag s k = kdHO P pr cv all ⟨i, true, rds, bf, nm, mv⟩ rest hs ag s k all[i]? := by
  cases ho : all[i]? with
  | none => unfold kd; rw [Zgu]; simp [ho, kdHO]
  | some o =>
    cases hw : want all o s with
    | false => rw [Zyw ho hw]; simp [kdHO, hw]
    | true =>
      simp only [kdHO, hw, if_true]
      by_cases hc : Zo3 ⟨i, true, rds, bf, nm, mv⟩ s.t = true
      · rw [if_pos hc]
        unfold kdK
        cases hk : Zfy o s with
        | bad => unfold kd; rw [Zgu]; simp [ho, hw, hc, hk]
        | go g args s1 =>
          simp only
          cases hx : call P pr cv g args s1.h with
          | none => unfold kd; rw [Zgu]; simp [ho, hw, hc, hk, hx, kdC]
          | some r =>
            obtain ⟨out, h⟩ := r
            cases out with
            | val d =>
              by_cases ha : Zjg P bf h ag
              · rw [kd_call ho hw hc hk hx ha]; simp [kdC, kdE, ha]
              · unfold kd; rw [Zgu]; simp [ho, hw, hc, hk, hx, kdC, kdE, ha]
            | pan d =>
              by_cases hp : s1.d = [] ∧ ∀ t ∈ rest, t.bf.testBit i = true
              · unfold kd; rw [Zgu]; simp only [ho, hw, hc, hk, hx, kdC, if_true, Yah, Yau]; rw [if_pos hp, if_pos hp]; rfl
              · unfold kd; rw [Zgu]; simp only [ho, hw, hc, hk, hx, kdC, if_true, Yah, Yau]; rw [if_neg hp, if_neg hp]; rfl
            | rcv d => unfold kd; rw [Zgu]; simp [ho, hw, hc, hk, hx, kdC]
        | other =>
          simp only
          cases hx : exOp P [] o s with
          | none => unfold kd; rw [Zgu]; simp [ho, hw, hc, hk, hx, kdE]
          | some r =>
            obtain ⟨out, s1⟩ := r
            cases out with
            | val d =>
              by_cases ha : Zjg P bf s1.h ag
              · rw [kd_oper ho hw hc hk hx ha]; simp [kdE, ha]
              · unfold kd; rw [Zgu]; simp [ho, hw, hc, hk, hx, kdE, ha]
            | pan d => unfold kd; rw [Zgu]; simp [ho, hw, hc, hk, hx, kdE]
            | rcv d => unfold kd; rw [Zgu]; simp [ho, hw, hc, hk, hx, kdE]
      · rw [if_neg hc]
        unfold kd; rw [Zgu]; simp [ho, hw, hc]
section
variable {dst : Option Tmp} {op : Op} {ty : TypeId} {pos : String} {af : Array Edge} {tl : List D} {df : List (FuncId × List D)} {r : Rc} {h h0 : List O} {td : Todo}
theorem Zbz : kdHO P pr cv all td rest hs ag ⟨tl, df, r, h⟩ k (some ⟨dst, op, ty, pos, af, none⟩) = if Zo3 td tl then kdK P pr cv all td.i td.bf rest hs ag ⟨dst, op, ty, pos, af, none⟩ ⟨tl, df, r, h⟩ k else none := by simp [kdHO, want]
noncomputable def kdT (P : Program) (pr : FuncId → List D → Option D) (cv : FuncId → Nat → List Cv) (f : FuncId) (all : Array Oper) (i bf : Nat) (rest : List Todo) (hs : List (Nat × List O)) (ag : List Again) (h0 : List O) (dst : Option Tmp) (k : X × St → Option β) (r : Option (List D × St)) : Option β :=
  match r with
  | some (ds, s1) => kdC P pr cv all i bf rest hs ag h0 dst s1 k (call P pr cv (.fn f) ds s1.h)
  | none => none
theorem Zcj {f : FuncId} {ds : List D} : kdT P pr cv f all i bf rest hs ag h0 dst k (some (ds, ⟨tl, df, r, h⟩)) = kdC P pr cv all i bf rest hs ag h0 dst ⟨tl, df, r, h⟩ k (call P pr cv (.fn f) ds h) := rfl
theorem Zck {f : FuncId} {args : Array Operand} {ats : Array TypeId} : kdK P pr cv all i bf rest hs ag ⟨dst, .call { callee := .value (.func f), args := args, argTypes := ats }, ty, pos, af, none⟩ ⟨tl, df, r, h⟩ k = kdT P pr cv f all i bf rest hs ag h dst k (tks ⟨tl, df, r, h⟩ args.toList) := by
  unfold kdK kdT
  cases ht : tks ⟨tl, df, r, h⟩ args.toList with
  | none => simp [Zfy, rd, ht]
  | some r => obtain ⟨ds, s1⟩ := r; simp [Zfy, rd, ht, Zlu]
def gIs (v : D) (b : Bool) : Bool := match v with | .e (.bool c) => c == b | _ => false
theorem Zuj {j t : Nat} {b : Bool} (hj : (all[j]?).bind (·.dst) = some t) (ht : t < tl.length) : want all ⟨dst, op, ty, pos, af, some (j, b)⟩ ⟨tl, df, r, h⟩ = gIs (tl.getD t Zaw) b := by
  simp only [want, hj, gIs]
  rw [List.getD_eq_getElem?_getD, List.getElem?_eq_getElem ht]
  simp only [Option.getD_some]
  cases tl[t] with
  | e x => cases x <;> rfl
  | _ => rfl
noncomputable def kdLG (P : Program) (pr : FuncId → List D → Option D) (cv : FuncId → Nat → List Cv) (v : D) (b : Bool) (all : Array Oper) (rest : List Todo) (hs : List (Nat × List O)) (ag : List Again) (o : Oper) (s : St) (k : X × St → Option β) : Option β :=
  if gIs v b then kdL P pr cv all rest hs ag s k (some { o with guard := none }) else kd P pr cv all rest hs ag (s.put o.dst Zaw) k
theorem Zsr {j t : Nat} {b : Bool} (hj : (all[j]?).bind (·.dst) = some t) (ht : t < tl.length) :
    kdL P pr cv all rest hs ag ⟨tl, df, r, h⟩ k (some ⟨dst, op, ty, pos, af, some (j, b)⟩) = kdLG P pr cv (tl.getD t Zaw) b all rest hs ag ⟨dst, op, ty, pos, af, none⟩ ⟨tl, df, r, h⟩ k := by
  have hx : Zee P ⟨dst, op, ty, pos, af, some (j, b)⟩ ⟨tl, df, r, h⟩ = Zee P ⟨dst, op, ty, pos, af, none⟩ ⟨tl, df, r, h⟩ := rfl
  simp only [kdL, kdLG, Zuj hj ht, hx]
  cases gIs (tl.getD t Zaw) b <;> simp [want]
theorem Zqc {o : Oper} {c b : Bool} (hc : c = b) : kdLG P pr cv (.e (.bool c)) b all rest hs ag o s k = kdL P pr cv all rest hs ag s k (some { o with guard := none }) := by simp [kdLG, gIs, hc]
theorem Zvs {o : Oper} {c b : Bool} (hc : c = !b) : kdLG P pr cv (.e (.bool c)) b all rest hs ag o s k = kd P pr cv all rest hs ag (s.put o.dst Zaw) k := by cases c <;> cases b <;> simp_all [kdLG, gIs]
noncomputable def kdRG (P : Program) (pr : FuncId → List D → Option D) (cv : FuncId → Nat → List Cv) (v : D) (b : Bool) (all : Array Oper) (i bf : Nat) (rest : List Todo) (hs : List (Nat × List O)) (ag : List Again) (o0 o : Oper) (s : St) (k : X × St → Option β) : Option β :=
  if gIs v b then kdR P pr cv all i bf rest hs ag o0 s k (Zee P o s) else kd P pr cv all rest hs ag (s.put o.dst Zaw) k
theorem kdRO_g {j t : Nat} {b : Bool} (hj : (all[j]?).bind (·.dst) = some t) (ht : t < tl.length) :
    kdRO P pr cv all i bf rest hs ag ⟨tl, df, r, h⟩ k (some ⟨dst, op, ty, pos, af, some (j, b)⟩) = kdRG P pr cv (tl.getD t Zaw) b all i bf rest hs ag ⟨dst, op, ty, pos, af, some (j, b)⟩ ⟨dst, op, ty, pos, af, none⟩ ⟨tl, df, r, h⟩ k := by
  have hx : Zee P ⟨dst, op, ty, pos, af, some (j, b)⟩ ⟨tl, df, r, h⟩ = Zee P ⟨dst, op, ty, pos, af, none⟩ ⟨tl, df, r, h⟩ := rfl
  simp only [kdRO, kdRG, Zuj hj ht, hx]
theorem Zrp {o0 o : Oper} {c b : Bool} (hc : c = b) : kdRG P pr cv (.e (.bool c)) b all i bf rest hs ag o0 o s k = kdR P pr cv all i bf rest hs ag o0 s k (Zee P o s) := by simp [kdRG, gIs, hc]
theorem Zyx {o0 o : Oper} {c b : Bool} (hc : c = !b) : kdRG P pr cv (.e (.bool c)) b all i bf rest hs ag o0 o s k = kd P pr cv all rest hs ag (s.put o.dst Zaw) k := by cases c <;> cases b <;> simp_all [kdRG, gIs]
noncomputable def kdHG (P : Program) (pr : FuncId → List D → Option D) (cv : FuncId → Nat → List Cv) (v : D) (b : Bool) (all : Array Oper) (td : Todo) (rest : List Todo) (hs : List (Nat × List O)) (ag : List Again) (o : Oper) (s : St) (k : X × St → Option β) : Option β :=
  if gIs v b then kdHO P pr cv all td rest hs ag s k (some { o with guard := none }) else kd P pr cv all rest hs ag (s.put o.dst Zaw) k
theorem Znz {j t : Nat} {b : Bool} (hj : (all[j]?).bind (·.dst) = some t) (ht : t < tl.length) :
    kdHO P pr cv all td rest hs ag ⟨tl, df, r, h⟩ k (some ⟨dst, op, ty, pos, af, some (j, b)⟩) = kdHG P pr cv (tl.getD t Zaw) b all td rest hs ag ⟨dst, op, ty, pos, af, none⟩ ⟨tl, df, r, h⟩ k := by
  have hx : kdK P pr cv all td.i td.bf rest hs ag ⟨dst, op, ty, pos, af, some (j, b)⟩ ⟨tl, df, r, h⟩ k = kdK P pr cv all td.i td.bf rest hs ag ⟨dst, op, ty, pos, af, none⟩ ⟨tl, df, r, h⟩ k := rfl
  simp only [kdHO, kdHG, Zuj hj ht, hx]
  cases gIs (tl.getD t Zaw) b <;> simp [want]
theorem Zoc {o : Oper} {c b : Bool} (hc : c = b) : kdHG P pr cv (.e (.bool c)) b all td rest hs ag o s k = kdHO P pr cv all td rest hs ag s k (some { o with guard := none }) := by simp [kdHG, gIs, hc]
theorem Zss {o : Oper} {c b : Bool} (hc : c = !b) : kdHG P pr cv (.e (.bool c)) b all td rest hs ag o s k = kd P pr cv all rest hs ag (s.put o.dst Zaw) k := by cases c <;> cases b <;> simp_all [kdHG, gIs]
theorem Zes (hk : ∀ c, op ≠ .call c) : kdK P pr cv all i bf rest hs ag ⟨dst, op, ty, pos, af, none⟩ ⟨tl, df, r, h⟩ k = kdE P pr cv all i bf rest hs ag h dst k (exOp P [] ⟨dst, op, ty, pos, af, none⟩ ⟨tl, df, r, h⟩) := by
  unfold kdK
  have : Zfy ⟨dst, op, ty, pos, af, none⟩ ⟨tl, df, r, h⟩ = .other := by
    unfold Zfy; cases op <;> simp_all
  rw [this]
theorem Zlp {d : D} {h1 : List O} (hr : (rest.all fun t => t.bf.testBit i) = true) : kdC P pr cv all i bf rest hs ag h0 dst ⟨tl, [], r, h⟩ k (some (.pan d, h1)) = k (.pan d, ⟨[], [], r, h1⟩) := by
  have : ∀ t ∈ rest, t.bf.testBit i = true := by simpa using hr
  simp only [kdC]; rw [if_pos ⟨trivial, this⟩]
theorem Zdp {d : D} {h1 : List O} : kdC P pr cv all i bf rest hs ag h0 dst ⟨tl, df, r, h⟩ k (some (.val d, h1)) = kdE P pr cv all i bf rest hs ag h0 dst k (some (.val d, ⟨tl, df, r, h1⟩)) := rfl
open Classical in
theorem Zdf {d : D} {x : Tmp} : kdE P pr cv all i bf rest hs ag h0 (some x) k (some (.val d, ⟨tl, df, r, h⟩)) = if Zjg P bf h ag then kd P pr cv all rest ((i, h0) :: hs) ag ⟨tl.set x d, df, r, h⟩ k else none := rfl
open Classical in
theorem Zgm {d : D} : kdE P pr cv all i bf rest hs ag h0 none k (some (.val d, ⟨tl, df, r, h⟩)) = if Zjg P bf h ag then kd P pr cv all rest ((i, h0) :: hs) ag ⟨tl, df, r, h⟩ k else none := rfl
theorem Zc1 {n : Nat} {a b : Bool} {bf : Nat} {nm mv : List Tmp} {t : List D} : Zo3 ⟨n, a, b, bf, nm, mv⟩ t = (nm.all (fun x => !ownD (t.getD x Zaw)) && mv.all (fun x => !excD (t.getD x Zaw))) := rfl
theorem Zce : Zjg P bf h [] = True := eq_true (fun a ha => by simp at ha)
theorem Zcc {a : Again} {ag : List Again} : Zjg P bf h (a :: ag) = ((bf.testBit a.i = false → Zee P a.o { t := a.t, d := [], r := .no, h := h } = some a.d) ∧ Zjg P bf h ag) := by
  simp only [Zjg, List.mem_cons, forall_eq_or_imp]
theorem Zf8 {o : Oper} {t : List D} {d : D} : Zjn P o bf t d [] = True := eq_true (fun a ha => by simp at ha)
theorem Zej {o : Oper} {t : List D} {d : D} {x : Nat × List O} {hs : List (Nat × List O)} : Zjn P o bf t d (x :: hs) = ((bf.testBit x.1 = false → Zee P o { t := t, d := [], r := .no, h := x.2 } = some d) ∧ Zjn P o bf t d hs) := by
  simp only [Zjn, List.mem_cons, forall_eq_or_imp]
open Classical in
theorem Zf9 {o : Oper} {d : D} {x : Nat × List O} : kdR P pr cv all i bf rest (x :: hs) ag o s k (some d) = if Zjn P o bf s.t d (x :: hs) then kd P pr cv all rest (x :: hs) ({ i := i, o := o, t := s.t, d := d } :: ag) (s.put o.dst d) k else none := rfl
theorem excD_e {x : E} : excD (.e x) = false := of_decide_eq_true rfl
theorem Rd.excD {d : D} {es : List (List E)} (h : Rd d es) : excD d = false := by
  have h1 := h.own
  have h2 := h.sl
  cases d <;> simp_all [own0, Abs.excD, exc0, slOf]
end
end
end Go.Abs
