/-
  WIRE: Payload. WIRE: how long payloads are; Put. WIRE: the reader. WIRE: the reader, texts, lists, truths, pairs. No condition.
-/
import Derived.Test.YtkimilghfbgjmaaQ22

open List renaming all_cons → Ybu, all_nil → Ybk, any_cons → Yax, any_nil → Yay, append_assoc → Ybv, append_nil → Yaf, cons_append → Yaj, drop_succ_cons → Yb7, drop_zero → Yb8, foldl_nil → Ybl, forall_mem_cons → Yb9, getD_cons_succ → Yak, getD_cons_zero → Yal, getElem?_cons_succ → Yam, getElem?_cons_zero → Yan, getElem?_toArray → Yao, length_cons → Yap, length_nil → Yaq, length_set → Ybr, map_cons → Ybi, map_nil → Yba, nil_append → Yar, not_mem_nil → Ybb, replicate → Yae, set_cons_succ → Yas, set_cons_zero → Yat, take_succ_cons → Ybc, take_zero → Ybd, toList_toArray → Ybj
open Option renaming bind_some → Yau, map_some → Ya2
open Bool renaming and_eq_true → Ybt, and_self → Ybm, false_eq_true → Yav, not_false → Ybg, or_eq_true → Ybw, or_false → Ybp, or_self → Yb3, true_eq_false → Ybx
open Nat renaming add_zero → Yb4, le_refl → Yab, succ_ne_zero → Yb5, testBit → Yby, zero_add → Yaw
namespace Go.Abs
open Go Go.Proofs
set_option maxRecDepth 10000
set_option maxHeartbeats 4000000
def Zjd (m : Msg) : List UInt8 := Zds [m.kind, m.call, m.frm, m.to]
def Zjt (m : Msg) : List UInt8 :=
  if m.kind == 4 then Zds [m.key] ++ Zds [bitZ m.slow] else
  if m.kind == 5 then Zn0 m.ikey m.ival m.iver m.gone else
  if m.kind == 6 then Zky m.ikey else
  if m.kind == 7 then Zds [IntKind.i64.wrap (m.pred + 1)] ++ Znv m.list else
  if m.kind == 10 then Zds [m.place] ++ Zds [bitZ m.done] else
  if m.kind == 11 then Zds [m.code] else
  if m.kind == 12 then Zds [m.code] ++ (if m.code == 0 then Zn0 m.ikey m.ival m.iver m.gone else []) else []
def payL (m : Msg) : List UInt8 := Zjd m ++ Zjt m
theorem Zfs {P : Program} {t : TypeId} {ps rs : Array TypeId} {v : Bool} {f : Fn} {a b : List D} (hu : P.underlying t = some (.func ps rs v)) : binD P .neq t (.func f a b) (.e .nilfn) true = some (.e (.bool true)) := by simp [binD, Zmi, hu]
theorem Zw7 {P : Program} {t : TypeId} {ps rs : Array TypeId} {v : Bool} (hu : P.underlying t = some (.func ps rs v)) : binD P .neq t (.e .nilfn) (.e .nilfn) true = some (.e (.bool false)) := by simp [binD, Zmi, hu]
theorem Zcm {v : Value} : Region.isConst (.const v) = true := rfl
theorem build49 : Zm7 Try.prog 49 [] = some (.agg [.osl false true 0 []]) := by kernel_rfl
theorem Zey {h : List O} {i : Nat} {k : E} : Zu2 h (.map i) k = (match h[i]? with | some (.map es) => Zqz k es | _ => none) := by
  simp only [Zu2, Zyr]; cases h[i]? with
  | none => rfl
  | some o => cases o <;> rfl
theorem Zr5 {l : List UInt8} (h : l ≠ []) : slD l = .osl true false 1 (byE l) := by cases l; exact absurd rfl h; rfl
theorem Zso {n : Int} (h : Zfc n = true) : okN n = true := by rw [isPlace_iff] at h; simp [okN]; omega
theorem Zvi {n : Int} (h : 0 ≤ n ∧ n ≤ 1048576) : okN n = true := by simp [okN]; omega
theorem w12_bad (m : Msg) (l : D) (hl : Rd l (isE m.list)) (hx : m.list.length ≤ 1099511627776) (hr : m.right = false) (h : List O) : wc 12 [.agg (m.cs l)] h = some (.val (.tup [.osl false true 0 [], .int .i64 2]), h) := by
  have h25 := w25 m l hl hx
  rw [hr] at h25
  simp only [Msg.cs] at h25
  have hcv : ∀ i, wcv 12 i = [] := fun _ => rfl
  have hres : Try.f12.results.toList = [ResultVar.tmp 2, ResultVar.tmp 3] := rfl
  rw [wc, Zbm rfl Try.func12 rfl]
  simp only [Zbj, Yap, Yaq, Nat.reduceAdd, Nat.reduceSub, Yae, Yaj, Yar, Zai, Zb2, Za7, Zak, Za3, Zc0, Zae, Zan, Zbf, Zbg, Za9, Zbq, Yau, ne_eq, reduceCtorEq, not_false_eq_true, implies_true, Ybg, Yav, Ya2, Yas, Yat, Yak, Yal, Zau, Zdv, Zbu, Yax, Yay, Zb7, ↓reduceIte, Za0, Ze0, Zdq, Za2, Zap, Zab, Zaq, Zah, Zam, Zcw, Zf4, Zb3, Zad, Zac, Zal, Zd2, Zbr, Zcy, Zcx, Yb9, Ybb, false_imp_iff, and_self, Zar, Zbk, Za8, Zb0, Zb8, Zbt, Zb4, Ybc, Ybd, Yb8, Zaj, Yb3, Yaw, Yab, sz27, ag27, Za1 (hcv _), Try.ntmps12, hres, Msg.cs, hl.own, h25]
theorem w12 (m : Msg) (l : D) (hl : Rd l (isE m.list)) (hx : m.list.length ≤ 1099511627776) (hr : m.right = true) (hf : m.Fits) (h : List O) : wc 12 [.agg (m.cs l)] h = some (.val (.tup [.osl true false 1 (byE (payL m)), .int .i64 0]), h) := by
  have h25 := w25 m l hl hx
  rw [hr] at h25
  obtain ⟨n1, n2, n3, n4⟩ := Zvw hf
  have hk1 := hf.k1
  have hk2 := hf.k2
  have hh : (Zjd m).length ≤ 28 := Zmh (xs := [m.kind, m.call, m.frm, m.to]) (by simp [n1, n2, n3, n4])
  have h26 := w26 (h ++ [.cells (m.cs l), .cells [slD []]]) (h.length + 1) [] [m.kind, m.call, m.frm, m.to] (by simp [Zbn]) (by simp [n1, n2, n3, n4]) (by simp) (by simp)
  rw [Zdh] at h26
  have hhd : [] ++ Zds [m.kind, m.call, m.frm, m.to] = Zjd m := rfl
  rw [hhd] at h26
  have h27 := w27 m l hl (h ++ [.cells (m.cs l), .cells [slD (Zjd m)]])
  have wk : IntKind.i64.wrap m.kind = m.kind := Zft (by omega) (by omega)
  obtain ⟨z, zs, hz⟩ : ∃ z zs, Zjd m = z :: zs := List.exists_cons_of_ne_nil (by simp [Zjd, Zds, Zy7])
  have isE4 : ∀ a b c d : Int, [[E.int .i64 a], [E.int .i64 b], [E.int .i64 c], [E.int .i64 d]] = isE [a, b, c, d] := fun _ _ _ _ => rfl
  simp only [Msg.cs, Zs5, Yas, Yat, Ybv, Yaj, Yar, hlen, Yap, Yaq, Nat.add_assoc, Nat.reduceAdd] at h25 h26 h27
  have hcv : ∀ i, wcv 12 i = [] := fun _ => rfl
  have hres : Try.f12.results.toList = [ResultVar.tmp 2, ResultVar.tmp 3] := rfl
  rw [wc, Zbm rfl Try.func12 rfl]
  simp only [Zbj, Yap, Yaq, Nat.reduceAdd, Nat.reduceSub, Yae, Yaj, Yar, Zai, Zbw, Za7, Zao, Za3, Zae, Zan, Zbf, Zbg, Za9, Zbq, Yam, Yan, Yau, Nat.reduceLeDiff, ne_eq, reduceCtorEq, not_false_eq_true, implies_true, Bool.not_true, Yav, Ya2, Yas, Yat, Yak, Yal, Zau, Zbu, Zb5, Yax, Yay, Zb7, Zd5, ↓reduceIte, Za0, Ze0, Zcs, Zdq, Zdk, Zca, Za5, Za2, Zaf, Zap, Zab, Zaq, Zah, Zec, Zdg, Zam, Zcw, Zf4, Zar, Zbk, hlen, Zin, Za8, Zba, Zb9, Zb0, Zb8, Zbt, Ybc, Ybd, Yb8, Ybi, Yba, Zaa, Zaj, Yb3, Yb4, Yaw, Yb5, Yab, sz3, sz5, sz27, ag3, ag5, ag27, st27, Za1 (hcv _), Try.ntmps12, Msg.cs, hl.own, h25, build49, List.zip_nil_right, List.zip_cons_cons, Zez Try.underlying5 Try.underlying3, wk, bs22_4, isE4, back, Zci, taken, Zbi, Zdj, Zdd, Zcn, Zfj, Zcg, h26]
  refine (Zed (l := Zka) (by exact Zyj)).trans ?_
  have hne : Zjd m ≠ [] := by rw [hz]; simp
  have hfi := hf.fine
  have HP : Zbn (h ++ [.cells (m.cs l), .cells [slD (Zjd m)], .cells (m.cs l), .map (Zi0 (h.length + 2))]) (h.length + 1) = some [slD (Zjd m)] := by simp [Zbn]
  have HQ : Zbn (h ++ [.cells (m.cs l), .cells [slD (Zjd m)], .cells (m.cs l), .map (Zi0 (h.length + 2))]) (h.length + 2) = some (m.cs l) := by simp [Zbn]
  have HPQ : h.length + 1 ≠ h.length + 2 := by omega
  have HC : (Zjd m).length ≤ 1000 := by omega
  cases k4 : m.kind == 4
  rotate_left
  · simp only [Msg.fine, k4, if_true, beq_iff_eq] at hfi
    have hcl := w48 _ _ _ (Zjd m) m l HP HQ HPQ HC (Zso hfi)
    have hb : payL m = Zjd m ++ (Zds [m.key] ++ Zds [bitZ m.slow]) := by simp only [payL, Zjt, k4, if_true]
    try rw [Ybv] at hcl
    rw [← hb, Zdh, Zr5 (l := payL m) (by rw [hb, hz]; simp)] at hcl
    simp only [Msg.cs, Zi0, Yas, Yat] at hcl
    simp only [Yap, Yaq, Nat.reduceAdd, Yaj, Yar, Zai, Zb2, Za7, Zak, Za3, Zae, Zan, Za9, Zbq, St.put, Yao, Yam, Yan, Yau, Nat.reduceLeDiff, ne_eq, reduceCtorEq, not_false_eq_true, implies_true, Ybg, Ybx, Yav, Ya2, Yas, Yat, Yak, Yal, Zau, Zbu, Zb5, Zcp, Zfi, Yax, Yay, Zb7, Ybp, ↓reduceIte, Za0, Za6, Zbl, Za5, Za2, Zaf, Zap, Zab, Zag, Zaq, Zah, Zam, Zdi, Zb3, Zad, Zac, Zal, Zd2, Zbr, Zcy, Zcx, Yb9, Ybb, false_imp_iff, and_self, Ybj, Option.some.injEq, Zdy, kd_l, Zc3, Zc2, kd_r, Zc4, Zdo, Zbc, Zaz, Zcv, Zcb, Zcu, Zby, Zbx, Zbp, Ze1, Op.operands, Zg6, Zfm, Zdn, Ybl, Yaf, Zar, Zbe, Zbk, Zcr, Zdh, hgetn, Za8, Zba, Zb9, Zb1, Zbt, Zb4, Ybc, Ybd, Yb7, Yb8, Ybi, Yba, Zaa, Zaj, Yb3, Yb4, Yaw, Yb5, Yab, sz5, sz27, sz31, ag5, ag27, ag31, st27, Za1 (hcv _), hcv, hres, kd_h, Zbz, Zcj, Zck, Zes, Zdp, Zdf, Zc1, Zce, Zcc, Zf8, Zej, Zf9, Ybu, Ybk, Ybm, Zka, hl.own, hl.exc, hl.shr, h27, Zd7, back, Zci, taken, Zbi, Zdj, beq_self_eq_true, Nat.reduceBEq, Zdd, Zcn, Zd6, Zf5, Zcg, Zgx, Zhi, Zh8, Zfo, Zew, Zei, mp52, key5, Zey, Zi0, Zgc, show Yby 15 1 = true by decide, show Yby 31 3 = true by decide, show Yby 31 4 = true by decide, show Yby 31 0 = true by decide, show Yby 1 0 = true by decide, st49, zo51, Zcm, Zfs Try.underlying51, k4, hcl]
  cases k5 : m.kind == 5
  rotate_left
  · simp only [Msg.fine, k4, k5, if_true, Yav, if_false, finePair_iff, beq_iff_eq] at hfi
    have hcl := w50 _ _ _ (Zjd m) m l HP HQ HPQ hl HC (by omega) (Zvi hfi.2.1) (Zvi hfi.2.2)
    have hb : payL m = Zjd m ++ (Zn0 m.ikey m.ival m.iver m.gone) := by simp only [payL, Zjt, k4, k5, if_true, Yav, if_false]
    try rw [Ybv] at hcl
    rw [← hb, Zdh, Zr5 (l := payL m) (by rw [hb, hz]; simp)] at hcl
    simp only [Msg.cs, Zi0, Yas, Yat] at hcl
    simp only [Yap, Yaq, Nat.reduceAdd, Yaj, Yar, Zai, Zb2, Za7, Zak, Za3, Zae, Zan, Za9, Zbq, St.put, Yao, Yam, Yan, Yau, Nat.reduceLeDiff, ne_eq, reduceCtorEq, not_false_eq_true, implies_true, Ybg, Ybx, Yav, Ya2, Yas, Yat, Yak, Yal, Zau, Zbu, Zb5, Zcp, Zfi, Yax, Yay, Zb7, Ybp, ↓reduceIte, Za0, Za6, Zbl, Za5, Za2, Zaf, Zap, Zab, Zag, Zaq, Zah, Zam, Zdi, Zb3, Zad, Zac, Zal, Zd2, Zbr, Zcy, Zcx, Yb9, Ybb, false_imp_iff, and_self, Ybj, Option.some.injEq, Zdy, kd_l, Zc3, Zc2, kd_r, Zc4, Zdo, Zbc, Zaz, Zcv, Zcb, Zcu, Zby, Zbx, Zbp, Ze1, Op.operands, Zg6, Zfm, Zdn, Ybl, Yaf, Zar, Zbe, Zbk, Zcr, Zdh, hgetn, Za8, Zba, Zb9, Zb1, Zbt, Zb4, Ybc, Ybd, Yb7, Yb8, Ybi, Yba, Zaa, Zaj, Yb3, Yb4, Yaw, Yb5, Yab, sz5, sz27, sz31, ag5, ag27, ag31, st27, Za1 (hcv _), hcv, hres, kd_h, Zbz, Zcj, Zck, Zes, Zdp, Zdf, Zc1, Zce, Zcc, Zf8, Zej, Zf9, Ybu, Ybk, Ybm, Zka, hl.own, hl.exc, hl.shr, h27, Zd7, back, Zci, taken, Zbi, Zdj, beq_self_eq_true, Nat.reduceBEq, Zdd, Zcn, Zd6, Zf5, Zcg, Zgx, Zhi, Zh8, Zfo, Zew, Zei, mp52, key5, Zey, Zi0, Zh9, Zgc, show Yby 15 1 = true by decide, show Yby 31 3 = true by decide, show Yby 31 4 = true by decide, show Yby 31 0 = true by decide, show Yby 1 0 = true by decide, st49, zo51, Zcm, Zfs Try.underlying51, k4, k5, hcl]
  cases k6 : m.kind == 6
  rotate_left
  · simp only [Msg.fine, k4, k5, k6, if_true, Yav, if_false, fineKey_iff, beq_iff_eq] at hfi
    have hcl := w52 _ _ _ (Zjd m) m l HP HQ HPQ hl HC (by omega)
    have hb : payL m = Zjd m ++ (Zky m.ikey) := by simp only [payL, Zjt, k4, k5, k6, if_true, Yav, if_false]
    try rw [Ybv] at hcl
    rw [← hb, Zdh, Zr5 (l := payL m) (by rw [hb, hz]; simp)] at hcl
    simp only [Msg.cs, Zi0, Yas, Yat] at hcl
    simp only [Yap, Yaq, Nat.reduceAdd, Yaj, Yar, Zai, Zb2, Za7, Zak, Za3, Zae, Zan, Za9, Zbq, St.put, Yao, Yam, Yan, Yau, Nat.reduceLeDiff, ne_eq, reduceCtorEq, not_false_eq_true, implies_true, Ybg, Ybx, Yav, Ya2, Yas, Yat, Yak, Yal, Zau, Zbu, Zb5, Zcp, Zfi, Yax, Yay, Zb7, Ybp, ↓reduceIte, Za0, Za6, Zbl, Za5, Za2, Zaf, Zap, Zab, Zag, Zaq, Zah, Zam, Zdi, Zb3, Zad, Zac, Zal, Zd2, Zbr, Zcy, Zcx, Yb9, Ybb, false_imp_iff, and_self, Ybj, Option.some.injEq, Zdy, kd_l, Zc3, Zc2, kd_r, Zc4, Zdo, Zbc, Zaz, Zcv, Zcb, Zcu, Zby, Zbx, Zbp, Ze1, Op.operands, Zg6, Zfm, Zdn, Ybl, Yaf, Zar, Zbe, Zbk, Zcr, Zdh, hgetn, Za8, Zba, Zb9, Zb1, Zbt, Zb4, Ybc, Ybd, Yb7, Yb8, Ybi, Yba, Zaa, Zaj, Yb3, Yb4, Yaw, Yb5, Yab, sz5, sz27, sz31, ag5, ag27, ag31, st27, Za1 (hcv _), hcv, hres, kd_h, Zbz, Zcj, Zck, Zes, Zdp, Zdf, Zc1, Zce, Zcc, Zf8, Zej, Zf9, Ybu, Ybk, Ybm, Zka, hl.own, hl.exc, hl.shr, h27, Zd7, back, Zci, taken, Zbi, Zdj, beq_self_eq_true, Nat.reduceBEq, Zdd, Zcn, Zd6, Zf5, Zcg, Zgx, Zhi, Zh8, Zfo, Zew, Zei, mp52, key5, Zey, Zi0, Zh9, Zgc, show Yby 15 1 = true by decide, show Yby 31 3 = true by decide, show Yby 31 4 = true by decide, show Yby 31 0 = true by decide, show Yby 1 0 = true by decide, st49, zo51, Zcm, Zfs Try.underlying51, k4, k5, k6, hcl]
  cases k7 : m.kind == 7
  rotate_left
  · simp only [Msg.fine, k4, k5, k6, k7, if_true, Yav, if_false, Ybw, Ybt, beq_iff_eq] at hfi
    have hp1 : okN (IntKind.i64.wrap (m.pred + 1)) = true := by
      rcases hfi.1 with e | e
      · rw [e]; decide
      · rw [isPlace_iff] at e; rw [Zft (by omega) (by omega)]; simp [okN]; omega
    have hli := hfi.2
    simp only [Znj, Ybt, decide_eq_true_eq] at hli
    have hp2 : m.list.length < 256 := by omega
    have hp3 : m.list.all okN = true := by
      rw [List.all_eq_true]
      intro x hx
      obtain ⟨j, hj⟩ := List.mem_iff_getElem?.1 hx
      exact Zso (hli.1 j x (List.getElem?_eq_some_iff.1 hj).1 hj).1
    have hcl := w54 _ _ _ (Zjd m) m l HP HQ HPQ hl HC hp1 hp2 hp3
    have hb : payL m = Zjd m ++ (Zds [IntKind.i64.wrap (m.pred + 1)] ++ Znv m.list) := by simp only [payL, Zjt, k4, k5, k6, k7, if_true, Yav, if_false]
    try rw [Ybv] at hcl
    rw [← hb, Zdh, Zr5 (l := payL m) (by rw [hb, hz]; simp)] at hcl
    simp only [Msg.cs, Zi0, Yas, Yat] at hcl
    simp only [Yap, Yaq, Nat.reduceAdd, Yaj, Yar, Zai, Zb2, Za7, Zak, Za3, Zae, Zan, Za9, Zbq, St.put, Yao, Yam, Yan, Yau, Nat.reduceLeDiff, ne_eq, reduceCtorEq, not_false_eq_true, implies_true, Ybg, Ybx, Yav, Ya2, Yas, Yat, Yak, Yal, Zau, Zbu, Zb5, Zcp, Zfi, Yax, Yay, Zb7, Ybp, ↓reduceIte, Za0, Za6, Zbl, Za5, Za2, Zaf, Zap, Zab, Zag, Zaq, Zah, Zam, Zdi, Zb3, Zad, Zac, Zal, Zd2, Zbr, Zcy, Zcx, Yb9, Ybb, false_imp_iff, and_self, Ybj, Option.some.injEq, Zdy, kd_l, Zc3, Zc2, kd_r, Zc4, Zdo, Zbc, Zaz, Zcv, Zcb, Zcu, Zby, Zbx, Zbp, Ze1, Op.operands, Zg6, Zfm, Zdn, Ybl, Yaf, Zar, Zbe, Zbk, Zcr, Zdh, hgetn, Za8, Zba, Zb9, Zb1, Zbt, Zb4, Ybc, Ybd, Yb7, Yb8, Ybi, Yba, Zaa, Zaj, Yb3, Yb4, Yaw, Yb5, Yab, sz5, sz27, sz31, ag5, ag27, ag31, st27, Za1 (hcv _), hcv, hres, kd_h, Zbz, Zcj, Zck, Zes, Zdp, Zdf, Zc1, Zce, Zcc, Zf8, Zej, Zf9, Ybu, Ybk, Ybm, Zka, hl.own, hl.exc, hl.shr, h27, Zd7, back, Zci, taken, Zbi, Zdj, beq_self_eq_true, Nat.reduceBEq, Zdd, Zcn, Zd6, Zf5, Zcg, Zgx, Zhi, Zh8, Zfo, Zew, Zei, mp52, key5, Zey, Zi0, Zh9, Zgc, show Yby 15 1 = true by decide, show Yby 31 3 = true by decide, show Yby 31 4 = true by decide, show Yby 31 0 = true by decide, show Yby 1 0 = true by decide, st49, zo51, Zcm, Zfs Try.underlying51, k4, k5, k6, k7, hcl]
  cases k10 : m.kind == 10
  rotate_left
  · simp only [Msg.fine, k4, k5, k6, k7, k10, if_true, Yav, if_false, beq_iff_eq] at hfi
    have hcl := w56 _ _ _ (Zjd m) m l HP HQ HPQ HC (Zso hfi)
    have hb : payL m = Zjd m ++ (Zds [m.place] ++ Zds [bitZ m.done]) := by simp only [payL, Zjt, k4, k5, k6, k7, k10, if_true, Yav, if_false]
    try rw [Ybv] at hcl
    rw [← hb, Zdh, Zr5 (l := payL m) (by rw [hb, hz]; simp)] at hcl
    simp only [Msg.cs, Zi0, Yas, Yat] at hcl
    simp only [Yap, Yaq, Nat.reduceAdd, Yaj, Yar, Zai, Zb2, Za7, Zak, Za3, Zae, Zan, Za9, Zbq, St.put, Yao, Yam, Yan, Yau, Nat.reduceLeDiff, ne_eq, reduceCtorEq, not_false_eq_true, implies_true, Ybg, Ybx, Yav, Ya2, Yas, Yat, Yak, Yal, Zau, Zbu, Zb5, Zcp, Zfi, Yax, Yay, Zb7, Ybp, ↓reduceIte, Za0, Za6, Zbl, Za5, Za2, Zaf, Zap, Zab, Zag, Zaq, Zah, Zam, Zdi, Zb3, Zad, Zac, Zal, Zd2, Zbr, Zcy, Zcx, Yb9, Ybb, false_imp_iff, and_self, Ybj, Option.some.injEq, Zdy, kd_l, Zc3, Zc2, kd_r, Zc4, Zdo, Zbc, Zaz, Zcv, Zcb, Zcu, Zby, Zbx, Zbp, Ze1, Op.operands, Zg6, Zfm, Zdn, Ybl, Yaf, Zar, Zbe, Zbk, Zcr, Zdh, hgetn, Za8, Zba, Zb9, Zb1, Zbt, Zb4, Ybc, Ybd, Yb7, Yb8, Ybi, Yba, Zaa, Zaj, Yb3, Yb4, Yaw, Yb5, Yab, sz5, sz27, sz31, ag5, ag27, ag31, st27, Za1 (hcv _), hcv, hres, kd_h, Zbz, Zcj, Zck, Zes, Zdp, Zdf, Zc1, Zce, Zcc, Zf8, Zej, Zf9, Ybu, Ybk, Ybm, Zka, hl.own, hl.exc, hl.shr, h27, Zd7, back, Zci, taken, Zbi, Zdj, beq_self_eq_true, Nat.reduceBEq, Zdd, Zcn, Zd6, Zf5, Zcg, Zgx, Zhi, Zh8, Zfo, Zew, Zei, mp52, key5, Zey, Zi0, Zh9, Zgc, show Yby 15 1 = true by decide, show Yby 31 3 = true by decide, show Yby 31 4 = true by decide, show Yby 31 0 = true by decide, show Yby 1 0 = true by decide, st49, zo51, Zcm, Zfs Try.underlying51, k4, k5, k6, k7, k10, hcl]
  cases k11 : m.kind == 11
  rotate_left
  · simp only [Msg.fine, k4, k5, k6, k7, k10, k11, if_true, Yav, if_false, Ybw, beq_iff_eq] at hfi
    have hcl := w57 _ _ _ (Zjd m) m l HP HQ HPQ hl HC (by rcases hfi with e | e <;> rw [e] <;> decide)
    have hb : payL m = Zjd m ++ (Zds [m.code]) := by simp only [payL, Zjt, k4, k5, k6, k7, k10, k11, if_true, Yav, if_false]
    try rw [Ybv] at hcl
    rw [← hb, Zdh, Zr5 (l := payL m) (by rw [hb, hz]; simp)] at hcl
    simp only [Msg.cs, Zi0, Yas, Yat] at hcl
    simp only [Yap, Yaq, Nat.reduceAdd, Yaj, Yar, Zai, Zb2, Za7, Zak, Za3, Zae, Zan, Za9, Zbq, St.put, Yao, Yam, Yan, Yau, Nat.reduceLeDiff, ne_eq, reduceCtorEq, not_false_eq_true, implies_true, Ybg, Ybx, Yav, Ya2, Yas, Yat, Yak, Yal, Zau, Zbu, Zb5, Zcp, Zfi, Yax, Yay, Zb7, Ybp, ↓reduceIte, Za0, Za6, Zbl, Za5, Za2, Zaf, Zap, Zab, Zag, Zaq, Zah, Zam, Zdi, Zb3, Zad, Zac, Zal, Zd2, Zbr, Zcy, Zcx, Yb9, Ybb, false_imp_iff, and_self, Ybj, Option.some.injEq, Zdy, kd_l, Zc3, Zc2, kd_r, Zc4, Zdo, Zbc, Zaz, Zcv, Zcb, Zcu, Zby, Zbx, Zbp, Ze1, Op.operands, Zg6, Zfm, Zdn, Ybl, Yaf, Zar, Zbe, Zbk, Zcr, Zdh, hgetn, Za8, Zba, Zb9, Zb1, Zbt, Zb4, Ybc, Ybd, Yb7, Yb8, Ybi, Yba, Zaa, Zaj, Yb3, Yb4, Yaw, Yb5, Yab, sz5, sz27, sz31, ag5, ag27, ag31, st27, Za1 (hcv _), hcv, hres, kd_h, Zbz, Zcj, Zck, Zes, Zdp, Zdf, Zc1, Zce, Zcc, Zf8, Zej, Zf9, Ybu, Ybk, Ybm, Zka, hl.own, hl.exc, hl.shr, h27, Zd7, back, Zci, taken, Zbi, Zdj, beq_self_eq_true, Nat.reduceBEq, Zdd, Zcn, Zd6, Zf5, Zcg, Zgx, Zhi, Zh8, Zfo, Zew, Zei, mp52, key5, Zey, Zi0, Zh9, Zgc, show Yby 15 1 = true by decide, show Yby 31 3 = true by decide, show Yby 31 4 = true by decide, show Yby 31 0 = true by decide, show Yby 1 0 = true by decide, st49, zo51, Zcm, Zfs Try.underlying51, k4, k5, k6, k7, k10, k11, hcl]
  cases k12 : m.kind == 12
  rotate_left
  · simp only [Msg.fine, k4, k5, k6, k7, k10, k11, k12, if_true, Yav, if_false, finePair_iff, Ybw, Ybt, beq_iff_eq] at hfi
    have hp1 : okN m.code = true := by rcases hfi with e | e <;> rw [e.1] <;> decide
    have hz0 : ({ data := #[] } : ByteArray).size = 0 := rfl
    have hp2 : m.ikey.size < 256 := by
      rcases hfi with e | e
      · omega
      · have := e.2.1; rw [bab, decide_eq_true_eq] at this; rw [this, hz0]; omega
    have hp3 : okN m.ival = true := by
      rcases hfi with e | e
      · exact Zvi e.2.2.1
      · rw [e.2.2.1]; decide
    have hp4 : okN m.iver = true := by
      rcases hfi with e | e
      · exact Zvi e.2.2.2
      · rw [e.2.2.2.1]; decide
    have hcl := w58 _ _ _ (Zjd m) m l HP HQ HPQ hl HC hp1 hp2 hp3 hp4
    have hb : payL m = Zjd m ++ (Zds [m.code] ++ (if m.code == 0 then Zn0 m.ikey m.ival m.iver m.gone else [])) := by simp only [payL, Zjt, k4, k5, k6, k7, k10, k11, k12, if_true, Yav, if_false]
    try rw [Ybv] at hcl
    rw [← hb, Zdh, Zr5 (l := payL m) (by rw [hb, hz]; simp)] at hcl
    simp only [Msg.cs, Zi0, Yas, Yat] at hcl
    simp only [Yap, Yaq, Nat.reduceAdd, Yaj, Yar, Zai, Zb2, Za7, Zak, Za3, Zae, Zan, Za9, Zbq, St.put, Yao, Yam, Yan, Yau, Nat.reduceLeDiff, ne_eq, reduceCtorEq, not_false_eq_true, implies_true, Ybg, Ybx, Yav, Ya2, Yas, Yat, Yak, Yal, Zau, Zbu, Zb5, Zcp, Zfi, Yax, Yay, Zb7, Ybp, ↓reduceIte, Za0, Za6, Zbl, Za5, Za2, Zaf, Zap, Zab, Zag, Zaq, Zah, Zam, Zdi, Zb3, Zad, Zac, Zal, Zd2, Zbr, Zcy, Zcx, Yb9, Ybb, false_imp_iff, and_self, Ybj, Option.some.injEq, Zdy, kd_l, Zc3, Zc2, kd_r, Zc4, Zdo, Zbc, Zaz, Zcv, Zcb, Zcu, Zby, Zbx, Zbp, Ze1, Op.operands, Zg6, Zfm, Zdn, Ybl, Yaf, Zar, Zbe, Zbk, Zcr, Zdh, hgetn, Za8, Zba, Zb9, Zb1, Zbt, Zb4, Ybc, Ybd, Yb7, Yb8, Ybi, Yba, Zaa, Zaj, Yb3, Yb4, Yaw, Yb5, Yab, sz5, sz27, sz31, ag5, ag27, ag31, st27, Za1 (hcv _), hcv, hres, kd_h, Zbz, Zcj, Zck, Zes, Zdp, Zdf, Zc1, Zce, Zcc, Zf8, Zej, Zf9, Ybu, Ybk, Ybm, Zka, hl.own, hl.exc, hl.shr, h27, Zd7, back, Zci, taken, Zbi, Zdj, beq_self_eq_true, Nat.reduceBEq, Zdd, Zcn, Zd6, Zf5, Zcg, Zgx, Zhi, Zh8, Zfo, Zew, Zei, mp52, key5, Zey, Zi0, Zh9, Zgc, show Yby 15 1 = true by decide, show Yby 31 3 = true by decide, show Yby 31 4 = true by decide, show Yby 31 0 = true by decide, show Yby 1 0 = true by decide, st49, zo51, Zcm, Zfs Try.underlying51, k4, k5, k6, k7, k10, k11, k12, hcl]
  have hb : payL m = Zjd m := by simp only [payL, Zjt, k4, k5, k6, k7, k10, k11, k12, Yav, if_false, Yaf]
  rw [hb]
  simp only [Yap, Yaq, Nat.reduceAdd, Zai, Zbw, Za7, Zao, Za3, Zae, Zan, Za9, St.put, Yao, Yam, Yan, Yau, Nat.reduceLeDiff, ne_eq, reduceCtorEq, not_false_eq_true, implies_true, Ybg, Ybx, Yav, Ya2, Yas, Yat, Yak, Yal, Zau, Zbu, Zb5, Zfi, Yax, Yay, Zb7, ↓reduceIte, Za0, Za6, Zbl, Za5, Za2, Zaf, Zab, Zag, Zaq, Zah, Zdi, false_imp_iff, and_self, Ybj, Option.some.injEq, Zdy, kd_l, Zc3, Zc2, kd_r, Zc4, Zdo, Zbc, Zaz, Zcv, Zcb, Zcu, Zby, Zbx, Zbp, Ze1, Op.operands, Zg6, Zfm, Zdn, Ybl, Zar, Zbk, hgetn, Za8, Zba, Zb9, Ybc, Ybd, Yb8, Ybi, Yba, Zaa, Yb3, Yb4, Yaw, Yb5, Yab, sz5, sz27, ag5, ag27, st27, Za1 (hcv _), hcv, kd_h, Zbz, Zcj, Zck, Zes, Zdp, Zdf, Zc1, Zce, Zcc, Zf8, Zej, Zf9, Ybu, Ybk, Ybm, Zka, hl.own, hl.exc, hl.shr, h27, Zd7, Zci, taken, Zbi, Zdj, Nat.reduceBEq, Zei, mp52, key5, Zey, Zi0, Zh9, Zw0, show Yby 15 1 = true by decide, show Yby 31 3 = true by decide, show Yby 31 4 = true by decide, show Yby 31 0 = true by decide, show Yby 1 0 = true by decide, zo51, Zcm, Zw7 Try.underlying51, k4, k5, k6, k7, k10, k11, k12]
  simp only [Yap, Yaq, Yar, Zb2, Za3, Zae, Zan, Za9, Yan, Yau, ne_eq, reduceCtorEq, not_false_eq_true, implies_true, Ya2, Yas, Yat, Yak, Yal, Zau, Yax, Yay, Ybp, ↓reduceIte, Za0, Za2, Zap, Zab, Zam, Zb3, Zad, Zac, Zal, Zd2, Zbr, Zcy, Zcx, Yb9, Ybb, false_imp_iff, and_self, Yaf, Zbe, Zbk, Zcr, Zdh, Za8, Zba, Zb9, Zb1, Zbt, Zb4, Ybd, Yb7, Yb8, Zaj, Yb3, Yb4, Yaw, Yb5, Yab, sz31, ag31, hres, Zr5 hne, st49, back, taken, Zbi, Zdj, beq_self_eq_true, Zdd, Zcn, Zd6, Zf5, Zcg, Zgx]
end Go.Abs
namespace Go.Abs
open Go Go.Proofs
set_option maxRecDepth 10000
set_option maxHeartbeats 4000000
theorem digs_le : ∀ (k n : Nat), n < 256 ^ k → (digs n).length ≤ k := by
  intro k
  induction k with
  | zero => intro m hm; have : m = 0 := by simpa using hm
            subst this; rw [digs]; simp
  | succ k ih =>
    intro m hm
    rw [digs]
    split
    · have := ih (m / 256) (by rw [Nat.pow_succ] at hm; omega)
      simp; omega
    · simp
theorem Zmu (k n : Nat) (h : n < 256 ^ k) : (putL n).length ≤ k + 1 := by
  have := digs_le k n h
  simp [putL]; omega
theorem num1 {n : Int} : (Zds [n]).length = (putL n.toNat).length := by simp [Zds]
theorem bit_len {b : Bool} : (Zds [bitZ b]).length ≤ 2 := by rw [num1]; cases b <;> exact Zmu 1 _ (by decide)
theorem pair_len {k : ByteArray} {v n : Int} {g : Bool} (h : Zj7 k v n = true) : (Zn0 k v n g).length ≤ 31 := by
  rw [finePair_iff] at h
  have h1 := Zmu 3 v.toNat (by omega)
  have h2 := Zmu 3 n.toNat (by omega)
  have h3 := bit_len (b := g)
  simp only [Zn0, List.length_append, Zpj, Zds, List.flatMap_cons, List.flatMap_nil, Yaf] at h3 ⊢
  omega
theorem Znr {n : Int} (h : Zfc n = true) : (Zds [n]).length ≤ 3 := by
  rw [isPlace_iff] at h
  rw [num1]; exact Zmu 2 _ (by omega)
theorem Zrn {m : Msg} (hf : m.Fits) : (payL m).length ≤ 46 := by
  have hp := Zog hf.frm hf.to
  have hk1 := hf.k1; have hk2 := hf.k2; have hc1 := hf.c1; have hc2 := hf.c2
  have a1 : (Zds [m.kind]).length ≤ 2 := by rw [num1]; exact Zmu 1 _ (by omega)
  have a2 : (Zds [m.call]).length ≤ 6 := by rw [num1]; exact Zmu 5 _ (by omega)
  have a3 := Znr hf.frm
  have a4 := Znr hf.to
  have hh : (Zjd m).length ≤ 14 := by
    simp only [Zjd, Zds, List.flatMap_cons, List.flatMap_nil, Yaf, List.length_append] at a1 a2 a3 a4 ⊢
    omega
  have hb : (Zjt m).length ≤ 32 := by
    have hfi := hf.fine
    unfold Zjt
    unfold Msg.fine at hfi
    split
    · rename_i k; rw [if_pos k] at hfi
      have := Znr hfi; have := bit_len (b := m.slow); simp; omega
    rename_i k4; rw [if_neg k4] at hfi
    split
    · rename_i k; rw [if_pos k] at hfi
      have := pair_len (g := m.gone) hfi; omega
    rename_i k5; rw [if_neg k5] at hfi
    split
    · rename_i k; rw [if_pos k, fineKey_iff] at hfi
      rw [Zpj]; omega
    rename_i k6; rw [if_neg k6] at hfi
    split
    · rename_i k; rw [if_pos k] at hfi
      simp only [Ybt, Ybw, beq_iff_eq] at hfi
      have b1 : (Zds [IntKind.i64.wrap (m.pred + 1)]).length ≤ 4 := by
        rw [num1]
        rcases hfi.1 with e | e
        · rw [e]; decide +kernel
        · rw [isPlace_iff] at e; rw [Zft (by omega) (by omega)]; exact Zmu 3 _ (by omega)
      have hli := hfi.2
      simp only [Znj, Ybt, decide_eq_true_eq] at hli
      have b2 : ∀ (xs : List Int), (∀ x ∈ xs, Zfc x = true) → (Zds xs).length ≤ 3 * xs.length := by
        intro xs
        induction xs with
        | nil => intro _; simp [Zds]
        | cons x xs ih =>
          intro hx
          have c1 := ih fun y hy => hx y (by simp [hy])
          have c2 := Znr (hx x (by simp))
          rw [num1] at c2
          simp only [Zds, List.flatMap_cons, List.length_append, Yap] at c1 c2 ⊢
          omega
      have b3 := b2 m.list (fun x hx => by
        obtain ⟨j, hj⟩ := List.mem_iff_getElem?.1 hx
        exact (hli.1 j x (List.getElem?_eq_some_iff.1 hj).1 hj).1)
      simp only [List.length_append, Znv, Yap]; omega
    rename_i k7; rw [if_neg k7] at hfi
    split
    · rename_i k; rw [if_pos k] at hfi
      have := Znr hfi; have := bit_len (b := m.done); simp; omega
    rename_i k10; rw [if_neg k10] at hfi
    have codes : m.code = 0 ∨ m.code = 200 ∨ m.code = 201 → (Zds [m.code]).length ≤ 2 := by
      intro h
      rw [num1]
      rcases h with e | e | e <;> rw [e] <;> exact Zmu 1 _ (by decide)
    split
    · rename_i k; rw [if_pos k] at hfi
      simp only [Ybw, beq_iff_eq] at hfi
      have := codes (hfi.imp id .inl); omega
    rename_i k11; rw [if_neg k11] at hfi
    split
    · rename_i k; rw [if_pos k] at hfi
      simp only [Ybw, Ybt, beq_iff_eq] at hfi
      split
      · rename_i c0
        have c0 : m.code = 0 := by simpa using c0
        have hfp : Zj7 m.ikey m.ival m.iver = true := by
          rcases hfi with e | e
          · exact e.2
          · have := e.1; omega
        have := pair_len (g := m.gone) hfp
        have : (Zds [m.code]).length ≤ 1 := by rw [num1, c0]; exact Zmu 0 _ (by decide)
        simp; omega
      · have := codes (by rcases hfi with e | e; exact .inl e.1; exact .inr (.inr e.1))
        simp; omega
    · simp
  simp only [payL, List.length_append]; omega
theorem w9_bad (m : Msg) (l : D) (hl : Rd l (isE m.list)) (hx : m.list.length ≤ 1099511627776) (hr : m.right = false) (h : List O) : wc 9 [.agg (m.cs l)] h = some (.val (.tup [.osl false true 0 [], .int .i64 2]), h) := by
  have h12 := w12_bad m l hl hx hr
  have e1 : ((2 : Int) != 0) = true := by decide
  simp only [Msg.cs] at h12
  have hcv : ∀ i, wcv 9 i = [] := fun _ => rfl
  have hres : Try.f9.results.toList = [ResultVar.tmp 2, ResultVar.tmp 3] := rfl
  rw [wc, Zbm rfl Try.func9 rfl]
  simp only [Zbj, Yap, Yaq, Nat.reduceAdd, Nat.reduceSub, Yae, Yaj, Yar, Zai, Zb2, Za7, Zak, Za3, Zc0, Zae, Zan, Zbf, Zbg, Za9, Zbq, Yam, Yan, Yau, ne_eq, reduceCtorEq, not_false_eq_true, implies_true, Yav, Ya2, Yas, Yat, Yak, Yal, Zau, Zdv, Zbu, Yax, Yay, Zb7, Ybp, ↓reduceIte, Za0, Za6, Zdq, Zc8, Za2, Zaf, Zap, Zab, Zag, Zaq, Zah, Zam, Zcw, Zem, Zdm, Zb3, Zad, Zac, Zal, Zd2, Zbr, Zcy, Zcx, Yb9, Ybb, false_imp_iff, and_self, Zar, Zbk, Za8, Zb0, Zb8, Zbt, Zb4, Ybc, Ybd, Yb8, Zaj, Yb3, Bool.or_true, Yaw, Yab, sz27, ag27, Za1 (hcv _), Try.ntmps9, hres, Msg.cs, hl.own, h12, e1, Zd7, Zg4, Zhm, back, Zci, taken, Zbi, Zdj, beq_self_eq_true, Nat.reduceBEq]
theorem w9 (m : Msg) (l : D) (hl : Rd l (isE m.list)) (hx : m.list.length ≤ 1099511627776) (hr : m.right = true) (hf : m.Fits) (h : List O) : wc 9 [.agg (m.cs l)] h = some (.val (.tup [.osl false false 1 (byE (Zg7 (payL m))), .int .i64 0]), h) := by
  have h12 := w12 m l hl hx hr hf
  have hpl := Zrn hf
  have h19 := w19 (.e (.sl (byE (payL m)))) (payL m) Rd.e (by omega)
  rw [if_pos (show (payL m).length ≤ 112 by omega)] at h19
  have e1 : ((0 : Int) != 0) = false := by decide
  simp only [Msg.cs] at h12
  have hcv : ∀ i, wcv 9 i = [] := fun _ => rfl
  have hres : Try.f9.results.toList = [ResultVar.tmp 2, ResultVar.tmp 3] := rfl
  rw [wc, Zbm rfl Try.func9 rfl]
  simp only [Zbj, Yap, Yaq, Nat.reduceAdd, Nat.reduceSub, Yae, Yaj, Yar, Zai, Zbw, Zb2, Za7, Zao, Za3, Zae, Zan, Zbf, Zbg, Za9, Zbq, Yam, Yan, Yau, ne_eq, reduceCtorEq, not_false_eq_true, implies_true, Yav, Ya2, Yas, Yat, Yak, Yal, Zau, Zbu, Yax, Yay, Zb7, Ybp, ↓reduceIte, Za0, Za6, Zdq, Zc8, Za2, Zaf, Zap, Zab, Zag, Zaq, Zah, Zam, Zcw, Zem, Zdm, Zb3, Zad, Zac, Zal, Zd2, Zbr, Zcy, Zcx, Yb9, Ybb, false_imp_iff, and_self, Zar, Zbk, Za8, Zb0, Zb8, Zct, Zbt, Zb4, Ybc, Ybd, Yb8, Ybi, Yba, Zaj, Yb3, Yaw, Yab, sz27, ag27, Za1 (hcv _), Try.ntmps9, hres, Msg.cs, hl.own, h12, e1, h19, Zd7, Zg4, Zhh, Zfp, Ziw, back, Zci, taken, Zbi, Zdj, beq_self_eq_true, Nat.reduceBEq, Zdd, Zcn, Zgf, Zfb, Zd6, Zcg, Zj5, Zi2, Zn6, Zi8, Zf6]
end Go.Abs
namespace Go.Abs
open Go Go.Proofs
set_option maxRecDepth 10000
set_option maxHeartbeats 4000000
def ferr : D := .e (.iface 25 (.int .i64 12))
def rdC (l : List UInt8) : D := .osl true false 1 (byE l)
def rdX (l : List UInt8) : D := .osl false false 1 (byE l)
theorem w61_ok (H : List O) (p : Nat) (l rest : List UInt8) (n : Nat) (hp : Zbn H p = some [rdC l]) (hl : l.length ≤ 100000) (ht : Zmf l = .ok n rest) :
    wc 61 [.ptr p 0] H = some (.val (.int .i64 (n : Int)), H.set p (.cells [rdC rest])) := by
  obtain ⟨hlt, hpe⟩ := Zex hp
  have h84 := w84 (.e (.sl (byE l))) l Rd.e hl
  rw [ht] at h84
  simp only [TakeR.d] at h84
  have h33 := w33 true
  have e0 : ((0 : Int) == 0) = true := by decide
  simp only [rdC] at hp ⊢
  have hcv : ∀ i, wcv 61 i = [] := fun _ => rfl
  have hres : Try.f61.results.toList = [ResultVar.tmp 2] := rfl
  rw [wc, Zbm rfl Try.func61 rfl]
  simp only [Zbj, Yap, Yaq, Nat.reduceSub, Yae, Yaj, Yar, Zai, Zb2, Za3, Zae, Zan, Zbf, Zbg, Za9, Zcf, Zbq, Yam, Yan, Yau, ne_eq, reduceCtorEq, not_false_eq_true, implies_true, Yav, Ya2, Yas, Yat, Yak, Yal, Zau, Zb5, Yax, Yay, Ybp, ↓reduceIte, Za0, Za6, Zbb, Zbl, Za5, Zc8, Za2, Zaf, Zap, Zab, Zag, Zaq, Zah, Zam, Zb6, Zay, Zb3, Zad, Zac, Zal, Zav, and_self, Zfe, Yaf, Za8, Zba, Zb9, Zb1, Zdl, Zct, Zbt, Zco, Ybd, Yb7, Yb8, Ybi, Yba, Zaa, Zaj, Yb3, Bool.or_true, Yb4, Yaw, Yb5, Yab, sz31, ag31, Za1 (hcv _), Try.ntmps61, hres, st58, hp, h84, e0, h33, List.set_set, Zfq hlt, Ze6, Ybr, Zd7, Zg4, Zhh, Zfp, Ziw, back, Zci, taken, Zbi, Zdj, beq_self_eq_true, Nat.reduceBEq, Zdd, Zcn, Zd6, Zf5, Zcg, Zi2, Zhk]
theorem w61_bad (H : List O) (p : Nat) (l : List UInt8) (hp : Zbn H p = some [rdC l]) (hl : l.length ≤ 100000) (ht : ∀ n rest, Zmf l ≠ .ok n rest) :
    wc 61 [.ptr p 0] H = some (.pan ferr, H.set p (.cells [rdX l])) := by
  obtain ⟨hlt, hpe⟩ := Zex hp
  have h84 := w84 (.e (.sl (byE l))) l Rd.e hl
  have h33 := w33 false
  have e0 : ((11 : Int) == 0) = false := by decide
  have e1 : ((12 : Int) == 0) = false := by decide
  simp only [rdC] at hp
  simp only [rdX, ferr]
  have hcv : ∀ i, wcv 61 i = [] := fun _ => rfl
  have hres : Try.f61.results.toList = [ResultVar.tmp 2] := rfl
  rw [wc, Zbm rfl Try.func61 rfl]
  cases hb : Zmf l with
  | ok n rest => exact absurd hb (ht n rest)
  | short =>
    rw [hb] at h84
    simp only [TakeR.d] at h84
    simp only [Zbj, Yap, Yaq, Nat.reduceSub, Yae, Yaj, Yar, Zai, Za3, Ze7, Zae, Zan, Zbf, Zbg, Za9, Zbq, Zgz, Yam, Yan, Yau, ne_eq, reduceCtorEq, not_false_eq_true, implies_true, Yav, Ya2, Yas, Yat, Yak, Yal, Zau, Zdv, Zb5, Yax, Yay, Ybp, ↓reduceIte, Za0, Za6, Zbl, Za5, Zc8, Za2, Zaf, Zap, Zab, Zag, Zaq, Zah, Zam, Zb6, Zay, Zgs, Zdw, Zfe, Yaf, Za8, Zba, Zb9, Zb1, Zbt, Ybd, Yb7, Yb8, Zaa, Zaj, Yb3, Yb4, Yaw, Yb5, Yab, sz31, ag31, Za1 (hcv _), Try.ntmps61, st58, hp, h84, e0, h33, Ze6, Ybr, Zd7, Zg4, Zhm, back, Zci, taken, Zbi, Zdj, beq_self_eq_true, Nat.reduceBEq, Zf5, Zhk]
    trace_state
  | form =>
    rw [hb] at h84
    simp only [TakeR.d] at h84
    simp only [Zbj, Yap, Yaq, Nat.reduceSub, Yae, Yaj, Yar, Zai, Za3, Ze7, Zae, Zan, Zbf, Zbg, Za9, Zbq, Zgz, Yam, Yan, Yau, ne_eq, reduceCtorEq, not_false_eq_true, implies_true, Yav, Ya2, Yas, Yat, Yak, Yal, Zau, Zdv, Zb5, Yax, Yay, Ybp, ↓reduceIte, Za0, Za6, Zbl, Za5, Zc8, Za2, Zaf, Zap, Zab, Zag, Zaq, Zah, Zam, Zb6, Zay, Zgs, Zdw, Zfe, Yaf, Za8, Zba, Zb9, Zb1, Zbt, Ybd, Yb7, Yb8, Zaa, Zaj, Yb3, Yb4, Yaw, Yb5, Yab, sz31, ag31, Za1 (hcv _), Try.ntmps61, st58, hp, h84, e1, h33, Ze6, Ybr, Zd7, Zg4, Zhm, back, Zci, taken, Zbi, Zdj, beq_self_eq_true, Nat.reduceBEq, Zf5, Zhk]
end Go.Abs
namespace Go.Abs
open Go Go.Proofs
set_option maxRecDepth 10000
set_option maxHeartbeats 4000000
def parN (l : List UInt8) : Option (Nat × List UInt8) := match Zmf l with | .ok n r => some (n, r) | _ => none
def parL (l : List UInt8) : Option (List Nat × List UInt8) := match Zrc l with | .ok q => some q | .error _ => none
def parB (l : List UInt8) : Option (Bool × List UInt8) := match parN l with | some (n, r) => if n < 2 then some (n == 1, r) else none | none => none
theorem Zf1 {l r : List UInt8} {n : Nat} (h : parN l = some (n, r)) : r.length ≤ l.length := by
  unfold parN at h
  cases ht : Zmf l with
  | ok n' r' => rw [ht] at h; simp at h; obtain ⟨_, rfl⟩ := h; exact Zqm ht
  | _ => rw [ht] at h; simp at h
def BadR (f : FuncId) (H : List O) (p : Nat) : Prop := ∃ d', (∀ n, Fit n d') ∧ wc f [.ptr p 0] H = some (.pan ferr, H.set p (.cells [d']))
theorem Zy4 {n : Nat} {l : List UInt8} : Fit n (rdX l) := .osl _ _ _ _
theorem Zp0 {n : Nat} {l : List UInt8} : Fit n (rdC l) := .osl _ _ _ _
section
variable (H : List O) (p : Nat) (l : List UInt8) (hp : Zbn H p = some [rdC l]) (hl : l.length ≤ 100000)
  include hp hl
theorem Zi9 {n : Nat} {rest : List UInt8} (ht : parN l = some (n, rest)) : wc 61 [.ptr p 0] H = some (.val (.int .i64 (n : Int)), H.set p (.cells [rdC rest])) := by
  refine w61_ok H p l rest n hp hl ?_
  unfold parN at ht
  cases hb : Zmf l with
  | ok n' r' => rw [hb] at ht; simp at ht; obtain ⟨rfl, rfl⟩ := ht; rfl
  | _ => rw [hb] at ht; simp at ht
theorem Znq (ht : parN l = none) : BadR 61 H p := by
  refine ⟨_, fun n => Zy4, w61_bad H p l hp hl fun n rest hb => ?_⟩
  unfold parN at ht
  rw [hb] at ht; simp at ht
theorem r67_ok {s rest : List UInt8} (ht : Znh l = some (s, rest)) : wc 67 [.ptr p 0] H = some (.val (.str (BA s)), H.set p (.cells [rdC rest])) := by
  obtain ⟨hlt, hpe⟩ := Zex hp
  have h84 := w85 (.e (.sl (byE l))) l Rd.e hl
  rw [ht] at h84
  simp only [textD] at h84
  have h33 := w33 true
  have e0 : ((0 : Int) == 0) = true := by decide
  simp only [rdC] at hp ⊢
  have hcv : ∀ i, wcv 67 i = [] := fun _ => rfl
  have hres : Try.f67.results.toList = [ResultVar.tmp 2] := rfl
  rw [wc, Zbm rfl Try.func67 rfl]
  simp only [Zbj, Yap, Yaq, Nat.reduceSub, Yae, Yaj, Yar, Zai, Zb2, Za3, Zae, Zan, Zbf, Zbg, Za9, Zcf, Zbq, Yam, Yan, Yau, ne_eq, reduceCtorEq, not_false_eq_true, implies_true, Yav, Ya2, Yas, Yat, Yak, Yal, Zau, Zb5, Yax, Yay, Ybp, ↓reduceIte, Za0, Za6, Zbb, Zbl, Za5, Zc8, Za2, Zaf, Zap, Zab, Zag, Zaq, Zah, Zam, Zja, Zb6, Zay, Zb3, Zad, Zac, Zal, Zav, and_self, Zfe, Yaf, Za8, Zba, Zb9, Zb1, Zdl, Zct, Zbt, Zco, Ybd, Yb7, Yb8, Ybi, Yba, Zaa, Zaj, Yb3, Bool.or_true, Yb4, Yaw, Yb5, Yab, sz31, ag31, Za1 (hcv _), Try.ntmps67, hres, st58, hp, h84, e0, h33, List.set_set, Zfq hlt, Ze6, Ybr, Zd7, Zg4, Zhh, Zfp, Ziw, back, Zci, taken, Zbi, Zdj, beq_self_eq_true, Nat.reduceBEq, Zdd, Zcn, Zd6, Zf5, Zcg, Zi2, Zhk]
theorem r67_bad (ht : Znh l = none) : BadR 67 H p := by
  refine ⟨rdX l, fun n => Zy4, ?_⟩
  obtain ⟨hlt, hpe⟩ := Zex hp
  have h84 := w85 (.e (.sl (byE l))) l Rd.e hl
  rw [ht] at h84
  simp only [textD] at h84
  have h33 := w33 false
  have e0 : ((11 : Int) == 0) = false := by decide
  simp only [rdC] at hp
  simp only [rdX, ferr]
  have hcv : ∀ i, wcv 67 i = [] := fun _ => rfl
  have hres : Try.f67.results.toList = [ResultVar.tmp 2] := rfl
  rw [wc, Zbm rfl Try.func67 rfl]
  simp only [Zbj, Yap, Yaq, Nat.reduceSub, Yae, Yaj, Yar, Zai, Za3, Ze7, Zae, Zan, Zbf, Zbg, Za9, Zbq, Zgz, Yam, Yan, Yau, ne_eq, reduceCtorEq, not_false_eq_true, implies_true, Yav, Ya2, Yas, Yat, Yak, Yal, Zau, Zdv, Zb5, Yax, Yay, Ybp, ↓reduceIte, Za0, Za6, Zbl, Za5, Zc8, Za2, Zaf, Zap, Zab, Zag, Zaq, Zah, Zam, Zja, Zb6, Zay, Zgs, Zdw, Zfe, Yaf, Za8, Zba, Zb9, Zb1, Zbt, Ybd, Yb7, Yb8, Zaa, Zaj, Yb3, Yb4, Yaw, Yb5, Yab, sz31, ag31, Za1 (hcv _), Try.ntmps67, st58, hp, h84, e0, h33, Ze6, Ybr, Zd7, Zg4, Zhm, back, Zci, taken, Zbi, Zdj, beq_self_eq_true, Nat.reduceBEq, Zf5, Zhk]
theorem r69_ok {ns : List Nat} {rest : List UInt8} (ht : parL l = some (ns, rest)) : wc 69 [.ptr p 0] H = some (.val (slN ns), H.set p (.cells [rdC rest])) := by
  obtain ⟨hlt, hpe⟩ := Zex hp
  have h84 := w86 (.e (.sl (byE l))) l Rd.e hl
  have htl : Zrc l = .ok (ns, rest) := by
    unfold parL at ht
    split at ht
    · rename_i q hq; cases ht; exact hq
    · cases ht
  rw [htl] at h84
  simp only [listD] at h84
  have h33 := w33 true
  have e0 : ((0 : Int) == 0) = true := by decide
  simp only [rdC] at hp ⊢
  have hcv : ∀ i, wcv 69 i = [] := fun _ => rfl
  have hres : Try.f69.results.toList = [ResultVar.tmp 2] := rfl
  rw [wc, Zbm rfl Try.func69 rfl]
  cases ns with
  | nil =>
    simp only [slN] at h84 ⊢
    simp only [Zbj, Yap, Yaq, Nat.reduceSub, Yae, Yaj, Yar, Zai, Zb2, Za3, Zae, Zan, Zbf, Zbg, Za9, Zcf, Zbq, Yam, Yan, Yau, ne_eq, reduceCtorEq, not_false_eq_true, implies_true, Yav, Ya2, Yas, Yat, Yak, Yal, Zau, Zdv, Zb5, Yax, Yay, Ybp, ↓reduceIte, Za0, Za6, Zbb, Zbl, Za5, Zc8, Za2, Zaf, Zap, Zab, Zag, Zaq, Zah, Zam, Zcw, Zb6, Zay, Zb3, Zad, Zac, Zal, Zav, and_self, Zfe, Yaf, Za8, Zba, Zb9, Zb1, Zdl, Zct, Zbt, Zco, Ybd, Yb7, Yb8, Ybi, Yba, Zaa, Zaj, Yb3, Bool.or_true, Yb4, Yaw, Yb5, Yab, sz31, ag31, Za1 (hcv _), Try.ntmps69, hres, st58, hp, h84, e0, h33, List.set_set, Zfq hlt, Ze6, Ybr, Zd7, Zg4, Zhm, Zhh, Zfp, Ziw, left_osl0, back, Zci, taken, Zbi, Zdj, beq_self_eq_true, Nat.reduceBEq, Zdd, Zcn, Zd6, Zf5, Zcg, Zi2, Zhk]
  | cons a ns =>
    simp only [slN] at h84 ⊢
    simp only [Zbj, Yap, Yaq, Nat.reduceSub, Yae, Yaj, Yar, Zai, Zb2, Za3, Zae, Zan, Zbf, Zbg, Za9, Zcf, Zbq, Yam, Yan, Yau, ne_eq, reduceCtorEq, not_false_eq_true, implies_true, Yav, Ya2, Yas, Yat, Yak, Yal, Zau, Zb5, Yax, Yay, Ybp, ↓reduceIte, Za0, Za6, Zbb, Zbl, Za5, Zc8, Za2, Zaf, Zap, Zab, Zag, Zaq, Zah, Zam, Zcw, Zb6, Zay, Zb3, Zad, Zac, Zal, Zav, and_self, Zfe, Yaf, Za8, Zba, Zb9, Zb1, Zdl, Zct, Zbt, Zco, Ybd, Yb7, Yb8, Ybi, Yba, Zaa, Zaj, Yb3, Bool.or_true, Yb4, Yaw, Yb5, Yab, sz31, ag31, Za1 (hcv _), Try.ntmps69, hres, st58, hp, h84, e0, h33, List.set_set, Zfq hlt, Ze6, Ybr, Zd7, Zg4, Zhh, Zfp, Ziw, back, Zci, taken, Zbi, Zdj, beq_self_eq_true, Nat.reduceBEq, Zdd, Zcn, Zd6, Zf5, Zcg, Zi2, Zhk]
theorem r69_bad (ht : parL l = none) : BadR 69 H p := by
  refine ⟨rdX l, fun n => Zy4, ?_⟩
  obtain ⟨hlt, hpe⟩ := Zex hp
  have h84 := w86 (.e (.sl (byE l))) l Rd.e hl
  have htl : ∃ e, Zrc l = .error e := by
    unfold parL at ht
    split at ht
    · cases ht
    · rename_i e he; exact ⟨e, he⟩
  obtain ⟨e, htl⟩ := htl
  have he : e = 11 ∨ e = 12 := by
    have hns : ∀ k xs e, Zhq k xs = .error e → e = 11 ∨ e = 12 := by
      intro k
      induction k with
      | zero => intro xs e h; cases h
      | succ k ih =>
        intro xs e h
        simp only [Zhq] at h
        split at h
        · cases h; exact .inl rfl
        · cases h; exact .inr rfl
        · split at h
          · cases h
          · rename_i h2; cases h; exact ih _ _ h2
    cases l with
    | nil => simp only [Zrc] at htl; cases htl; exact .inl rfl
    | cons m ys => exact hns _ _ _ htl
  rw [htl] at h84
  simp only [listD] at h84
  have h33 := w33 false
  have e0 : (e == 0) = false := by rcases he with rfl | rfl <;> decide
  simp only [rdC] at hp
  simp only [rdX, ferr]
  have hcv : ∀ i, wcv 69 i = [] := fun _ => rfl
  have hres : Try.f69.results.toList = [ResultVar.tmp 2] := rfl
  rw [wc, Zbm rfl Try.func69 rfl]
  simp only [Zbj, Yap, Yaq, Nat.reduceSub, Yae, Yaj, Yar, Zai, Za3, Ze7, Zae, Zan, Zbf, Zbg, Za9, Zbq, Zgz, Yam, Yan, Yau, ne_eq, reduceCtorEq, not_false_eq_true, implies_true, Yav, Ya2, Yas, Yat, Yak, Yal, Zau, Zdv, Zb5, Yax, Yay, Ybp, ↓reduceIte, Za0, Za6, Zbl, Za5, Zc8, Za2, Zaf, Zap, Zab, Zag, Zaq, Zah, Zam, Zcw, Zb6, Zay, Zgs, Zdw, Zfe, Yaf, Za8, Zba, Zb9, Zb1, Zbt, Ybd, Yb7, Yb8, Zaa, Zaj, Yb3, Yb4, Yaw, Yb5, Yab, sz31, ag31, Za1 (hcv _), Try.ntmps69, st58, hp, h84, e0, h33, Ze6, Ybr, Zd7, Zg4, Zhm, back, Zci, taken, Zbi, Zdj, beq_self_eq_true, Nat.reduceBEq, Zf5, Zhk]
theorem r63_ok {b : Bool} {rest : List UInt8} (ht : parB l = some (b, rest)) : wc 63 [.ptr p 0] H = some (.val (.bool b), H.set p (.cells [rdC rest])) := by
  unfold parB at ht
  cases hn : parN l with
  | none => rw [hn] at ht; simp at ht
  | some q =>
    obtain ⟨n, r⟩ := q
    rw [hn] at ht
    simp only at ht
    split at ht
    · rename_i h2
      simp only [Option.some.injEq, Prod.mk.injEq] at ht
      obtain ⟨rfl, rfl⟩ := ht
      have h61 := Zi9 H p l hp hl hn
      have h33 := w33 true
      have e1 : decide ((n : Int) < 2) = true := by simp; omega
      have e2 : ((n : Int) == 1) = (n == 1) := by rw [Bool.eq_iff_iff, beq_iff_eq, beq_iff_eq]; omega
      have hcv : ∀ i, wcv 63 i = [] := fun _ => rfl
      have hres : Try.f63.results.toList = [ResultVar.tmp 2] := rfl
      rw [wc, Zbm rfl Try.func63 rfl]
      simp only [Zbj, Yap, Yaq, Nat.reduceSub, Yae, Yaj, Yar, Zai, Zb2, Za3, Zae, Zan, Zbf, Zbg, Za9, Zbq, ne_eq, reduceCtorEq, not_false_eq_true, implies_true, Ya2, Yas, Yat, Yak, Yal, Zau, Zb5, ↓reduceIte, Za4, Za0, Za6, Za2, Zap, Zab, Zag, Zaq, Zah, Zam, Zax, Zb6, Zc6, Zay, Zbs, Zb3, Zad, Zac, Zal, Zav, Yaw, Za1 (hcv _), Try.ntmps63, hres, h61, h33, e1, e2, Ze6, Ybr]
    · cases ht
theorem Zy5 (ht : parB l = none) : BadR 63 H p := by
  unfold parB at ht
  cases hn : parN l with
  | none =>
    obtain ⟨d', hd, h61⟩ := Znq H p l hp hl hn
    refine ⟨d', hd, ?_⟩
    simp only [ferr] at h61 ⊢
    have hcv : ∀ i, wcv 63 i = [] := fun _ => rfl
    have hres : Try.f63.results.toList = [ResultVar.tmp 2] := rfl
    rw [wc, Zbm rfl Try.func63 rfl]
    simp only [Zbj, Yap, Yaq, Nat.reduceSub, Yae, Yaj, Yar, Zai, Za3, Ze7, Zae, Zan, Zbf, Zbg, Za9, Zgz, ne_eq, reduceCtorEq, not_false_eq_true, implies_true, Ya2, Yas, Yat, Yak, Yal, Zb5, Za4, Za0, Za2, Zap, Zaq, Zah, Zax, Zgs, Zdw, Yaw, Za1 (hcv _), Try.ntmps63, h61, Ze6, Ybr]
  | some q =>
    obtain ⟨n, r⟩ := q
    rw [hn] at ht
    simp only at ht
    split at ht
    · cases ht
    · rename_i h2
      have h61 := Zi9 H p l hp hl hn
      have h33 := w33 false
      have e1 : decide ((n : Int) < 2) = false := by simp; omega
      refine ⟨rdC r, fun n => Zp0, ?_⟩
      simp only [ferr]
      have hcv : ∀ i, wcv 63 i = [] := fun _ => rfl
      have hres : Try.f63.results.toList = [ResultVar.tmp 2] := rfl
      rw [wc, Zbm rfl Try.func63 rfl]
      simp only [Zbj, Yap, Yaq, Nat.reduceSub, Yae, Yaj, Yar, Zai, Za3, Ze7, Zae, Zan, Zbf, Zbg, Za9, Zbq, Zgz, ne_eq, reduceCtorEq, not_false_eq_true, implies_true, Yav, Ya2, Yas, Yat, Yak, Yal, Zau, Zb5, ↓reduceIte, Za4, Za0, Za6, Za2, Zap, Zab, Zag, Zaq, Zah, Zam, Zax, Zc6, Zbs, Zgs, Zdw, Yaw, Za1 (hcv _), Try.ntmps63, h61, h33, e1, Ze6, Ybr]
end
end Go.Abs
