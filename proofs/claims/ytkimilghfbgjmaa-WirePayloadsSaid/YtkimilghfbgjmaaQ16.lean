/-
  WIRE: messages are compared. WIRE: messages are compared, once more. WIRE: lists of places. No condition.
-/
import Derived.Test.YtkimilghfbgjmaaQ15

open List renaming any_cons → Yax, any_nil → Yay, getD_cons_succ → Yak, getD_cons_zero → Yal, getElem?_cons_succ → Yam, getElem?_cons_zero → Yan, getElem?_toArray → Yao, length_cons → Yap, length_nil → Yaq, set_cons_succ → Yas, set_cons_zero → Yat
open Option renaming bind_some → Yau, map_some → Ya2
open Bool renaming and_false → Yb0, false_and → Yb1, false_eq_true → Yav, not_true → Yb2, or_self → Yb3, true_and → Yb6
open Nat renaming le_refl → Yab, succ_ne_zero → Yb5, zero_add → Yaw
namespace Go.Abs
open Go Go.Proofs
set_option maxRecDepth 10000
set_option maxHeartbeats 2000000
theorem stood24 : Try.prog.stoodInHeld 24 = false := by kernel_rfl
theorem eq24 {k k' : ByteArray} {v v' n n' : Int} {g g' : Bool} {yc : Bool} : binD Try.prog .eql 24 (.agg [.str k, .int .i64 v, .int .i64 n, .bool g]) (.agg [.str k', .int .i64 v', .int .i64 n', .bool g']) yc =
    some (.bool ((k == k') && ((v == v') && ((n == n') && (g == g'))))) := by
  simp only [binD, Try.eqGuardType24, Yav, if_false, eqT, Try.underlying24, stood24, aggs, Yax, Yay, own0, Yb3, eqT.eqF]
  simp [Zyl, ag9, ag3, ag4, Try.underlying9, Try.underlying3, Try.underlying4, eqS, eqI, eqB]
def Zlk (m o : Msg) : Bool :=
  (m.kind == o.kind) && ((m.call == o.call) && ((m.frm == o.frm) && ((m.to == o.to) && ((m.key == o.key) && ((m.slow == o.slow) && ((m.done == o.done) && ((m.place == o.place) && ((m.pred == o.pred) &&
    (((m.ikey == o.ikey) && ((m.ival == o.ival) && ((m.iver == o.iver) && (m.gone == o.gone)))) && (m.code == o.code))))))))))
theorem w13 (m o : Msg) (a b : D) (ha : Rd a (isE m.list)) (hb : Rd b (isE o.list)) (hx : m.list.length ≤ 1099511627776) (h : List O) :
    wc 13 [.agg (m.cs a), .agg (o.cs b)] h = some (.val (.bool (decide (m.list = o.list) && Zlk m o)), h) := by
  generalize hxs : m.list = xs at ha hx
  generalize hys : o.list = ys at hb
  have la : ∀ H, len0 Try.prog 22 a H = some xs.length := fun H => by rw [Zk1 Try.underlying22 ha.sl]; simp [isE]
  have lb : ∀ H, len0 Try.prog 22 b H = some ys.length := fun H => by rw [Zk1 Try.underlying22 hb.sl]; simp [isE]
  have hcv : ∀ i, wcv 13 i = [] := fun _ => rfl
  have hres : Try.f13.results.toList = [ResultVar.tmp 4] := rfl
  rw [wc, Zbm rfl Try.func13 rfl]
  simp only [Zbj, Yap, Yaq, Nat.reduceAdd, Nat.reduceSub, List.replicate, List.cons_append, List.nil_append, List.append_eq, Zai, Za7, Za3, Zae, Zan, Zbd, Za9, Yao, Yam, Yan, Yau, Nat.reduceLeDiff, ne_eq, reduceCtorEq, not_false_eq_true, implies_true, Yav, Ya2, Yas, Yat, Yak, Yal, Zbu, Yax, Yay, Zb7, ↓reduceIte, Za0, Za6, Zdq, Za5, Za2, Zap, Zab, Zax, Zem, Zdm, Zd0, Zar, Zbe, Zbk, Zcr, hlen, Zin, Za8, Zba, Zb9, Zb0, Zb8, Zbt, Zaa, Option.bind_eq_bind, Zaj, Yb3, Yaw, Yb5, Option.pure_def, sz22, ag22, st27, Za1 (hcv _), Try.ntmps13, ha.own, hb.own, la, lb, Msg.cs]
  by_cases hl : xs.length = ys.length
  rotate_left
  · have e1 : ((xs.length : Int) != (ys.length : Int)) = true := by simp; omega
    simp only [Zai, Zb2, Zak, Za3, Zc0, Zae, Zan, Za9, ne_eq, reduceCtorEq, not_false_eq_true, implies_true, Ya2, Yas, Yat, Yak, Yal, Zau, Za0, Za2, Zap, Zax, Zb3, Zad, Zac, Zal, Zav, Zbr, and_true, Option.some.injEq, Prod.mk.injEq, Zb4, Za1 (hcv _), hres, e1]
    have : ¬ xs = ys := fun e => hl (by rw [e])
    simp [this]
  have e1 : ((xs.length : Int) != (ys.length : Int)) = false := by simp [hl]
  simp only [Zai, Zbw, Zc5, Zao, Za3, Zae, Zan, Za9, ne_eq, reduceCtorEq, not_false_eq_true, implies_true, Ya2, Yas, Yat, Za0, Zap, Zam, Za1 (hcv _), e1]
  refine Zff (fun (n : Nat) (s : St) => ∃ i : Nat, (i + n = xs.length ∧ xs.take i = ys.take i) ∧ ∃ zs_, s = ⟨mkT [some (.agg (m.cs a)), some (.agg (o.cs b)), some (.ptr h.length 0), some (.ptr (h.length + 1) 0), some (.e (.bool false)), some (.int .i64 i), none, none, none, none, none, none, none, none, none, none, none, none, none, none, none, none, none, none, none, none, none, none, none, none, none, none, none, none, none, none, none, none, none, none, none, none, none, none, none, none, none, none, none, none, none, none, none, none, none, none, none, none, none, none, none, none, none, none, none, none, none, none, none, none, none, none, none, none, none, none, none, none, none, none, none, none, none, none, none, none, none, none, none, none, none, none, none, none, none, none, none, none, none, none, none, none, none, none, none, none] zs_ 0, [], .no, h ++ [.cells (m.cs a), .cells (o.cs b)]⟩) ?_ (xs.length) ⟨0, ⟨by omega, by simp⟩, Zd8 rfl rfl rfl rfl⟩
  rintro n _ ⟨i, hf_l, zs_l, rfl⟩ IH_l
  obtain ⟨hn, ht⟩ := hf_l
  by_cases hi : i < xs.length
  · have e2 : decide ((i : Int) < xs.length) = true := by simp; omega
    have hxi : xs[i]? = some xs[i] := List.getElem?_eq_getElem hi
    have hyi : ys[i]? = some (ys[i]'(by omega)) := List.getElem?_eq_getElem (by omega)
    generalize xs[i] = x at hxi
    generalize ys[i]'(by omega) = y at hyi
    have ia : Zeh Try.prog 22 a (.e (.int .i64 i)) = some (.rptr [.int .i64 x] 0) := Zxc Try.underlying22 sz3 ha.sl (by omega) (by simp [isE, hxi]) rfl (by omega)
    have ib : Zeh Try.prog 22 b (.e (.int .i64 i)) = some (.rptr [.int .i64 y] 0) := Zxc Try.underlying22 sz3 hb.sl (by omega) (by simp [isE, hyi]) rfl (by omega)
    have hw : IntKind.i64.wrap ((i : Int) + 1) = ((i + 1 : Nat) : Int) := by rw [Zft (by omega) (by omega)]; omega
    simp only [Yap, Yaq, Nat.reduceAdd, Zai, Zbw, Zc5, Za7, Zak, Za3, Zae, Zan, Zbd, Za9, Yao, Yam, Yan, Yau, Nat.reduceLeDiff, ne_eq, reduceCtorEq, not_false_eq_true, implies_true, Yav, Ya2, Yas, Yat, Yak, Yal, Zau, ↓reduceIte, Za4, Za6, Za5, Zab, Zc6, Zbs, Zd0, mkT, Zar, Zbk, Za8, Zba, Zb9, Zbt, Zaa, Option.bind_eq_bind, Zaj, Yaw, Yb5, Option.pure_def, sz22, ag22, st27, Za1 (hcv _), e2, ha.own, la, Msg.cs]
    refine (Zed (l := Zv7) (by exact Zyi)).trans ?_
    simp only [Yap, Yaq, Nat.reduceAdd, Za7, Za3, Yao, Yam, Yan, Yau, Nat.reduceLeDiff, ne_eq, reduceCtorEq, not_false_eq_true, implies_true, Yav, Ya2, Yas, Yat, Yak, Yal, Zau, Zb5, Yax, Yay, ↓reduceIte, Za6, Za5, Zbo, Zaf, Zab, Zem, Zdm, List.toList_toArray, Option.some.injEq, Zdy, kd_l, Zc3, Zc2, kd_r, Zc4, Zdo, Zc7, Zbc, Zbv, Zaz, Zd1, Zcv, Zcb, Zcu, Zlr, Zby, Zbx, Zgk, Zbp, Zg9, Op.operands, Zdn, List.foldl_nil, Zar, Zbe, Zbk, Zcr, Za8, Ze3, Zba, Zb9, Zj0, Zaa, Yb3, Yaw, Yb5, Yab, sz3, sz22, ag3, ag22, st27, hcv, Zv7, ha.ownD, hb.ownD, ha.exc, hb.exc, ha.shr, hb.shr, ia, ib]
    by_cases hxy : x = y
    · subst hxy
      have e3 : (x != x) = false := by simp
      simp only [Zbw, Zao, Za3, Zcd, Zdx, Zae, Zan, Za9, ne_eq, reduceCtorEq, not_false_eq_true, implies_true, Ya2, Yas, Yat, Yak, Yal, Zau, Za4, Za0, Za6, Za2, Zab, Zag, Zam, Zdc, Zcz, Za1 (hcv _), e3, hw]
      refine IH_l (xs.length - (i + 1)) _ (by omega) ⟨i + 1, ⟨by omega, by rw [List.take_add_one, List.take_add_one, ht, hxi, hyi]⟩, Zd8 rfl rfl rfl rfl⟩
    · have e3 : (x != y) = true := by simp [hxy]
      simp only [Zai, Zb2, Zak, Za3, Zc0, Zd3, Zgh, Zae, Zan, Za9, ne_eq, reduceCtorEq, not_false_eq_true, implies_true, Ya2, Yas, Yat, Yak, Yal, Zau, Za0, Za2, Zap, Zax, Zb3, Zad, Zac, Zal, Zav, Zbr, and_true, Option.some.injEq, Prod.mk.injEq, Zb4, Za1 (hcv _), hres, e3]
      have : ¬ xs = ys := fun e => by subst e; rw [hxi] at hyi; cases hyi; exact hxy rfl
      simp [this]
  · have e2 : decide ((i : Int) < xs.length) = false := by simp; omega
    have hxy : xs = ys := by
      rw [List.take_of_length_le (by omega), List.take_of_length_le (by omega)] at ht; exact ht
    rw [decide_eq_true hxy]
    try simp only [Yap, Yaq, Nat.reduceAdd, Zai, Zfv, Za7, Zao, Za3, Zeq, Zer, Ze2, Zae, Zan, Zbd, Zas, Za9, Yao, Yam, Yan, Yau, Nat.reduceLT, Nat.reduceLeDiff, ne_eq, reduceCtorEq, not_false_eq_true, implies_true, Yav, Ya2, Yas, Yat, Yak, Yal, Zau, Zb7, ↓reduceIte, Za4, Za6, Za5, Zab, Zb6, Zc6, Zay, Zbs, Zd0, Option.some.injEq, mkT, Zar, Zbe, Zbk, Zcr, Za8, Zba, Zb9, Zbt, Zaa, Option.bind_eq_bind, Zaj, Yb6, Nat.add_zero, Yaw, Yb5, Option.pure_def, sz5, sz22, ag5, ag22, st27, Za1 (hcv _), e2, ha.own, la, Msg.cs, Zlk]
    cases hp0 : m.kind == o.kind
    · simp only [Yap, Yaq, Nat.reduceAdd, Zb2, Za3, Zae, Zan, Zas, Za9, Ze8, St.put, Yao, Yam, Yan, Yau, Nat.reduceLT, ne_eq, reduceCtorEq, not_false_eq_true, implies_true, Yb2, Yav, Ya2, Yas, Yat, Yak, Yal, Zau, ↓reduceIte, Za4, Za0, Zat, Za2, Zbh, Zab, Zax, Zb3, Zad, Zac, Zal, Zav, Zbr, Option.some.injEq, Zb4, Yb1, Yaw, hres]
    simp only [Yap, Yaq, Nat.reduceAdd, Zan, Zas, Za9, Zch, Yao, Yam, Yan, Yau, Nat.reduceLT, Nat.reduceLeDiff, ne_eq, reduceCtorEq, not_false_eq_true, implies_true, Yav, Ya2, Yas, Yat, Yak, Yal, Zau, Zb7, ↓reduceIte, Za4, Za6, Zat, Za5, Zaf, Zab, Zb6, Zay, Option.some.injEq, Zar, Zbe, Zbk, Zcr, Za8, Zba, Zb9, Zbt, Zaa, Zaj, Yb6, Yaw, Yb5, sz3, ag3, st27]
    cases hp1 : m.call == o.call
    · simp only [Yap, Yaq, Nat.reduceAdd, Zb2, Za3, Zae, Zan, Zas, Za9, Ze8, St.put, Yao, Yam, Yan, Yau, Nat.reduceLT, ne_eq, reduceCtorEq, not_false_eq_true, implies_true, Yb2, Yav, Ya2, Yas, Yat, Yak, Yal, Zau, ↓reduceIte, Za4, Za0, Zat, Za2, Zbh, Zab, Zax, Zb3, Zad, Zac, Zal, Zav, Zbr, Option.some.injEq, Zb4, Yb1, Yaw, hres]
    simp only [Yap, Yaq, Nat.reduceAdd, Zan, Zas, Za9, Zch, Yao, Yam, Yan, Yau, Nat.reduceLT, Nat.reduceLeDiff, ne_eq, reduceCtorEq, not_false_eq_true, implies_true, Yav, Ya2, Yas, Yat, Yak, Yal, Zau, Zb7, ↓reduceIte, Za4, Za6, Zat, Za5, Zaf, Zab, Zb6, Zay, Option.some.injEq, Zar, Zbe, Zbk, Zcr, Za8, Zba, Zb9, Zbt, Zaa, Zaj, Yb6, Yaw, Yb5, sz3, ag3, st27]
    cases hp2 : m.frm == o.frm
    · simp only [Yap, Yaq, Nat.reduceAdd, Zb2, Za3, Zae, Zan, Zas, Za9, Ze8, St.put, Yao, Yam, Yan, Yau, Nat.reduceLT, ne_eq, reduceCtorEq, not_false_eq_true, implies_true, Yb2, Yav, Ya2, Yas, Yat, Yak, Yal, Zau, ↓reduceIte, Za4, Za0, Zat, Za2, Zbh, Zab, Zax, Zb3, Zad, Zac, Zal, Zav, Zbr, Option.some.injEq, Zb4, Yb1, Yaw, hres]
    simp only [Yap, Yaq, Nat.reduceAdd, Zan, Zas, Za9, Zch, Yao, Yam, Yan, Yau, Nat.reduceLT, Nat.reduceLeDiff, ne_eq, reduceCtorEq, not_false_eq_true, implies_true, Yav, Ya2, Yas, Yat, Yak, Yal, Zau, Zb7, ↓reduceIte, Za4, Za6, Zat, Za5, Zaf, Zab, Zb6, Zay, Option.some.injEq, Zar, Zbe, Zbk, Zcr, Za8, Zba, Zb9, Zbt, Zaa, Zaj, Yb6, Yaw, Yb5, sz3, ag3, st27]
    cases hp3 : m.to == o.to
    · simp only [Yap, Yaq, Nat.reduceAdd, Zb2, Za3, Zae, Zan, Zas, Za9, Ze8, St.put, Yao, Yam, Yan, Yau, Nat.reduceLT, ne_eq, reduceCtorEq, not_false_eq_true, implies_true, Yb2, Yav, Ya2, Yas, Yat, Yak, Yal, Zau, ↓reduceIte, Za4, Za0, Zat, Za2, Zbh, Zab, Zax, Zb3, Zad, Zac, Zal, Zav, Zbr, Option.some.injEq, Zb4, Yb1, Yaw, hres]
    simp only [Yap, Yaq, Nat.reduceAdd, Zan, Zas, Za9, Zch, Yao, Yam, Yan, Yau, Nat.reduceLT, Nat.reduceLeDiff, ne_eq, reduceCtorEq, not_false_eq_true, implies_true, Yav, Ya2, Yas, Yat, Yak, Yal, Zau, Zb7, ↓reduceIte, Za4, Za6, Zat, Za5, Zaf, Zab, Zb6, Zay, Option.some.injEq, Zar, Zbe, Zbk, Zcr, Za8, Zba, Zb9, Zbt, Zaa, Zaj, Yb6, Yaw, Yb5, sz3, ag3, st27]
    cases hp4 : m.key == o.key
    · simp only [Yap, Yaq, Nat.reduceAdd, Zb2, Za3, Zae, Zan, Zas, Za9, Ze8, St.put, Yao, Yam, Yan, Yau, Nat.reduceLT, ne_eq, reduceCtorEq, not_false_eq_true, implies_true, Yb2, Yav, Ya2, Yas, Yat, Yak, Yal, Zau, ↓reduceIte, Za4, Za0, Zat, Za2, Zbh, Zab, Zax, Zb3, Zad, Zac, Zal, Zav, Zbr, Option.some.injEq, Zb4, Yb1, Yaw, hres]
    simp only [Yap, Yaq, Nat.reduceAdd, Zan, Zas, Za9, Zch, Yao, Yam, Yan, Yau, Nat.reduceLT, Nat.reduceLeDiff, ne_eq, reduceCtorEq, not_false_eq_true, implies_true, Yav, Ya2, Yas, Yat, Yak, Yal, Zau, Zb7, ↓reduceIte, Za4, Za6, Zat, Za5, Zaf, Zab, Option.some.injEq, Zar, Zbe, Zbk, Zcr, Za8, Zba, Zb9, Zbt, Zaa, Zaj, Yb6, Yaw, Yb5, sz4, ag4, st27, Zg3 Try.underlying4]
    cases hp5 : m.slow == o.slow
    · simp only [Yap, Yaq, Nat.reduceAdd, Zb2, Za3, Zae, Zan, Zas, Za9, Ze8, St.put, Yao, Yam, Yan, Yau, Nat.reduceLT, ne_eq, reduceCtorEq, not_false_eq_true, implies_true, Yb2, Yav, Ya2, Yas, Yat, Yak, Yal, Zau, ↓reduceIte, Za4, Za0, Zat, Za2, Zbh, Zab, Zax, Zb3, Zad, Zac, Zal, Zav, Zbr, Option.some.injEq, Zb4, Yb1, Yaw, hres]
    simp only [Yap, Yaq, Nat.reduceAdd, Zan, Zas, Za9, Zch, Yao, Yam, Yan, Yau, Nat.reduceLT, Nat.reduceLeDiff, ne_eq, reduceCtorEq, not_false_eq_true, implies_true, Yav, Ya2, Yas, Yat, Yak, Yal, Zau, Zb7, ↓reduceIte, Za4, Za6, Zat, Za5, Zaf, Zab, Option.some.injEq, Zar, Zbe, Zbk, Zcr, Za8, Zba, Zb9, Zbt, Zaa, Zaj, Yb6, Yaw, Yb5, sz4, ag4, st27, Zg3 Try.underlying4]
    cases hp6 : m.done == o.done
    · simp only [Yap, Yaq, Nat.reduceAdd, Zb2, Za3, Zae, Zan, Zas, Za9, Ze8, St.put, Yao, Yam, Yan, Yau, Nat.reduceLT, ne_eq, reduceCtorEq, not_false_eq_true, implies_true, Yb2, Yav, Ya2, Yas, Yat, Yak, Yal, Zau, ↓reduceIte, Za4, Za0, Zat, Za2, Zbh, Zab, Zax, Zb3, Zad, Zac, Zal, Zav, Zbr, Option.some.injEq, Zb4, Yb1, Yaw, hres]
    simp only [Yap, Yaq, Nat.reduceAdd, Zan, Zas, Za9, Zch, Yao, Yam, Yan, Yau, Nat.reduceLT, Nat.reduceLeDiff, ne_eq, reduceCtorEq, not_false_eq_true, implies_true, Yav, Ya2, Yas, Yat, Yak, Yal, Zau, Zb7, ↓reduceIte, Za4, Za6, Zat, Za5, Zaf, Zab, Zb6, Zay, Option.some.injEq, Zar, Zbe, Zbk, Zcr, Za8, Zba, Zb9, Zbt, Zaa, Zaj, Yb6, Yaw, Yb5, sz3, ag3, st27]
    cases hp7 : m.place == o.place
    · simp only [Yap, Yaq, Nat.reduceAdd, Zb2, Za3, Zae, Zan, Zas, Za9, Ze8, St.put, Yao, Yam, Yan, Yau, Nat.reduceLT, ne_eq, reduceCtorEq, not_false_eq_true, implies_true, Yb2, Yav, Ya2, Yas, Yat, Yak, Yal, Zau, ↓reduceIte, Za4, Za0, Zat, Za2, Zbh, Zab, Zax, Zb3, Zad, Zac, Zal, Zav, Zbr, Option.some.injEq, Zb4, Yb1, Yaw, hres]
    simp only [Yap, Yaq, Nat.reduceAdd, Zan, Zas, Za9, Zch, Yao, Yam, Yan, Yau, Nat.reduceLT, Nat.reduceLeDiff, ne_eq, reduceCtorEq, not_false_eq_true, implies_true, Yav, Ya2, Yas, Yat, Yak, Yal, Zau, Zb7, ↓reduceIte, Za4, Za6, Zat, Za5, Zaf, Zab, Zb6, Zay, Option.some.injEq, Zar, Zbe, Zbk, Zcr, Za8, Zba, Zb9, Zbt, Zaa, Zaj, Yb6, Yaw, Yb5, sz3, ag3, st27]
    cases hp8 : m.pred == o.pred
    · simp only [Yap, Yaq, Nat.reduceAdd, Zb2, Za3, Zae, Zan, Zas, Za9, Ze8, St.put, Yao, Yam, Yan, Yau, Nat.reduceLT, ne_eq, reduceCtorEq, not_false_eq_true, implies_true, Yb2, Yav, Ya2, Yas, Yat, Yak, Yal, Zau, ↓reduceIte, Za4, Za0, Zat, Za2, Zbh, Zab, Zax, Zb3, Zad, Zac, Zal, Zav, Zbr, Option.some.injEq, Zb4, Yb1, Yaw, hres]
    simp only [Yap, Yaq, Nat.reduceAdd, Zan, Zas, Za9, Zch, Yao, Yam, Yan, Yau, Nat.reduceLT, Nat.reduceLeDiff, ne_eq, reduceCtorEq, not_false_eq_true, implies_true, Yav, Ya2, Yas, Yat, Yak, Yal, Zau, Yax, Yay, Zb7, ↓reduceIte, Za4, Za6, Zat, Za5, Zaf, Zab, Option.some.injEq, Zar, Zbe, Zbk, Zcr, Za8, Zba, Zb9, Zbt, List.take_succ_cons, List.take_zero, List.drop_succ_cons, List.drop_zero, Zaa, Zaj, Yb3, Yb6, Yaw, Yb5, sz24, ag24, st27, eq24]
    cases hp9 : ((m.ikey == o.ikey) && ((m.ival == o.ival) && ((m.iver == o.iver) && (m.gone == o.gone))))
    · simp only [Yap, Yaq, Nat.reduceAdd, Zb2, Za3, Zae, Zan, Zas, Za9, Ze8, St.put, Yao, Yam, Yan, Yau, Nat.reduceLT, ne_eq, reduceCtorEq, not_false_eq_true, implies_true, Yb2, Yav, Ya2, Yas, Yat, Yak, Yal, Zau, ↓reduceIte, Za0, Zat, Za2, Zbh, Zab, Zax, Zb3, Zad, Zac, Zal, Zav, Zbr, Option.some.injEq, Zb4, Yb1, Yaw, hres]
    simp only [Yap, Yaq, Nat.reduceAdd, Zb2, Za3, Zae, Zan, Zas, Za9, Zch, Yao, Yam, Yan, Yau, Nat.reduceLT, ne_eq, reduceCtorEq, not_false_eq_true, implies_true, Yav, Ya2, Yas, Yat, Yak, Yal, Zau, Zb7, ↓reduceIte, Za0, Za6, Zat, Za5, Za2, Zaf, Zab, Zb6, Zay, Zb3, Zad, Zac, Zal, Zav, Zbr, Option.some.injEq, Zar, Zbe, Zbk, Zcr, Za8, Zba, Zb9, Zbt, Zb4, Zaa, Zaj, Yb6, Yaw, Yb5, Yab, sz25, ag25, st27, hres]
end Go.Abs
namespace Go.Abs
open Go Go.Proofs
set_option maxRecDepth 10000
set_option maxHeartbeats 4000000
theorem w46 (m o : Msg) (a b : D) (ha : Rd a (isE m.list)) (hb : Rd b (isE o.list)) (hx : m.list.length ≤ 1099511627776) (h : List O) :
    wc 46 [.agg (m.cs a), .agg (o.cs b)] h = some (.val (.bool (decide (m.list = o.list) && Zlk m o)), h) := by
  have heq := w79 a b m.list o.list ha hb hx
  have hcv : ∀ i, wcv 46 i = [] := fun _ => rfl
  have hres : Try.f46.results.toList = [ResultVar.tmp 4] := rfl
  rw [wc, Zbm rfl Try.func46 rfl]
  simp only [Zbj, Yap, Yaq, Nat.reduceAdd, Nat.reduceSub, List.replicate, List.cons_append, List.nil_append, Zai, Za3, Zae, Zan, Zas, Za9, Yao, Yam, Yan, Yau, Nat.reduceLT, Nat.reduceLeDiff, ne_eq, reduceCtorEq, not_false_eq_true, implies_true, Yav, Ya2, Yas, Yat, Yak, Yal, Zau, Zbu, Yax, Yay, Zb7, ↓reduceIte, Za4, Za0, Za6, Zdq, Za5, Za2, Zap, Zab, Zax, Zb6, Zay, Option.some.injEq, Zar, Zbe, Zbk, Zcr, hlen, Zin, Za8, Zba, Zb9, Zb0, Zb8, Zbt, Zaa, Zaj, Yb3, Nat.add_zero, Yaw, Yb5, sz5, ag5, st27, Za1 (hcv _), Try.ntmps46, ha.own, hb.own, Msg.cs, Zlk]
  cases ht0 : m.kind == o.kind
  · simp only [Yap, Yaq, Nat.reduceAdd, Zai, Za3, Zae, Zan, Zas, Za9, Ze8, St.put, Yao, Yam, Yan, Yau, Nat.reduceLT, Nat.reduceLeDiff, ne_eq, reduceCtorEq, not_false_eq_true, implies_true, Yb2, Yav, Ya2, Yas, Yat, Yak, Yal, Zau, Zb7, ↓reduceIte, Za4, Za0, Za6, Zat, Za5, Za2, Zbh, Zab, Zax, Zb6, Zay, Option.some.injEq, Zar, Zbe, Zbk, Zcr, Za8, Zba, Zb9, Zbt, Zaa, Zaj, Yb0, Yb1, Yaw, Yb5, sz3, ag3, st27, Za1 (hcv _)]
    cases ht1 : m.key == o.key
    · simp only [Yap, Yaq, Nat.reduceAdd, Zai, Zb2, Za3, Zae, Zan, Zas, Za9, Ze8, St.put, Yao, Yam, Yan, Yau, Nat.reduceLT, ne_eq, reduceCtorEq, not_false_eq_true, implies_true, Yb2, Yav, Ya2, Yas, Yat, Yak, Yal, Zau, ↓reduceIte, Za4, Za0, Zat, Za2, Zbh, Zab, Zax, Zb3, Zad, Zac, Zal, Zav, Zbr, Option.some.injEq, Zb4, Yaw, Za1 (hcv _), hres]
    simp only [Yap, Yaq, Nat.reduceAdd, Zan, Zas, Za9, Zch, Yao, Yam, Yan, Yau, Nat.reduceLT, Nat.reduceLeDiff, ne_eq, reduceCtorEq, not_false_eq_true, implies_true, Yav, Ya2, Yas, Yat, Yak, Yal, Zau, Zb7, ↓reduceIte, Za4, Za6, Zat, Za5, Zaf, Zab, Option.some.injEq, Zar, Zbe, Zbk, Zcr, Za8, Zba, Zb9, Zbt, Zaa, Zaj, Yaw, Yb5, sz4, ag4, st27, Zg3 Try.underlying4]
    cases ht2 : m.slow == o.slow
    · simp only [Yap, Yaq, Nat.reduceAdd, Zai, Zb2, Za3, Zae, Zan, Zas, Za9, Ze8, St.put, Yao, Yam, Yan, Yau, Nat.reduceLT, ne_eq, reduceCtorEq, not_false_eq_true, implies_true, Yb2, Yav, Ya2, Yas, Yat, Yak, Yal, Zau, ↓reduceIte, Za4, Za0, Zat, Za2, Zbh, Zab, Zax, Zb3, Zad, Zac, Zal, Zav, Zbr, Option.some.injEq, Zb4, Yaw, Za1 (hcv _), hres]
    simp only [Yap, Yaq, Nat.reduceAdd, Zan, Zas, Za9, Zch, Yao, Yam, Yan, Yau, Nat.reduceLT, Nat.reduceLeDiff, ne_eq, reduceCtorEq, not_false_eq_true, implies_true, Yav, Ya2, Yas, Yat, Yak, Yal, Zau, Zb7, ↓reduceIte, Za4, Za6, Zat, Za5, Zaf, Zab, Option.some.injEq, Zar, Zbe, Zbk, Zcr, Za8, Zba, Zb9, Zbt, Zaa, Zaj, Yaw, Yb5, sz4, ag4, st27, Zg3 Try.underlying4]
    cases ht3 : m.done == o.done
    · simp only [Yap, Yaq, Nat.reduceAdd, Zai, Zb2, Za3, Zae, Zan, Zas, Za9, Ze8, St.put, Yao, Yam, Yan, Yau, Nat.reduceLT, ne_eq, reduceCtorEq, not_false_eq_true, implies_true, Yb2, Yav, Ya2, Yas, Yat, Yak, Yal, Zau, ↓reduceIte, Za4, Za0, Zat, Za2, Zbh, Zab, Zax, Zb3, Zad, Zac, Zal, Zav, Zbr, Option.some.injEq, Zb4, Yaw, Za1 (hcv _), hres]
    simp only [Yap, Yaq, Nat.reduceAdd, Zai, Zb2, Za3, Zae, Zan, Zas, Za9, Zch, Ze8, St.put, Yao, Yam, Yan, Yau, Nat.reduceLT, Nat.reduceLeDiff, ne_eq, reduceCtorEq, not_false_eq_true, implies_true, Yb2, Yav, Ya2, Yas, Yat, Yak, Yal, Zau, Zb7, ↓reduceIte, Za4, Za0, Za6, Zat, Za5, Za2, Zaf, Zbh, Zab, Zax, Zb6, Zay, Zb3, Zad, Zac, Zal, Zav, Zbr, Option.some.injEq, Zar, Zbe, Zbk, Zcr, Za8, Zba, Zb9, Zbt, Zb4, Zaa, Zaj, Yaw, Yb5, sz3, ag3, st27, Za1 (hcv _), hres]
  simp only [Yap, Yaq, Nat.reduceAdd, Zan, Zas, Za9, Zch, Yao, Yam, Yan, Yau, Nat.reduceLT, Nat.reduceLeDiff, ne_eq, reduceCtorEq, not_false_eq_true, implies_true, Yav, Ya2, Yas, Yat, Yak, Yal, Zau, Zb7, ↓reduceIte, Za4, Za6, Zat, Za5, Zaf, Zab, Zb6, Zay, Option.some.injEq, Zar, Zbe, Zbk, Zcr, Za8, Zba, Zb9, Zbt, Zaa, Zaj, Yb6, Yaw, Yb5, sz3, ag3, st27]
  cases ht4 : m.call == o.call
  · simp only [Yap, Yaq, Nat.reduceAdd, Zai, Za3, Zae, Zan, Zas, Za9, Ze8, St.put, Yao, Yam, Yan, Yau, Nat.reduceLT, Nat.reduceLeDiff, ne_eq, reduceCtorEq, not_false_eq_true, implies_true, Yb2, Yav, Ya2, Yas, Yat, Yak, Yal, Zau, Zb7, ↓reduceIte, Za4, Za0, Za6, Zat, Za5, Za2, Zbh, Zab, Zax, Zb6, Zay, Option.some.injEq, Zar, Zbe, Zbk, Zcr, Za8, Zba, Zb9, Zbt, Zaa, Zaj, Yb0, Yb1, Yaw, Yb5, sz3, ag3, st27, Za1 (hcv _)]
    cases ht5 : m.key == o.key
    · simp only [Yap, Yaq, Nat.reduceAdd, Zai, Zb2, Za3, Zae, Zan, Zas, Za9, Ze8, St.put, Yao, Yam, Yan, Yau, Nat.reduceLT, ne_eq, reduceCtorEq, not_false_eq_true, implies_true, Yb2, Yav, Ya2, Yas, Yat, Yak, Yal, Zau, ↓reduceIte, Za4, Za0, Zat, Za2, Zbh, Zab, Zax, Zb3, Zad, Zac, Zal, Zav, Zbr, Option.some.injEq, Zb4, Yaw, Za1 (hcv _), hres]
    simp only [Yap, Yaq, Nat.reduceAdd, Zan, Zas, Za9, Zch, Yao, Yam, Yan, Yau, Nat.reduceLT, Nat.reduceLeDiff, ne_eq, reduceCtorEq, not_false_eq_true, implies_true, Yav, Ya2, Yas, Yat, Yak, Yal, Zau, Zb7, ↓reduceIte, Za4, Za6, Zat, Za5, Zaf, Zab, Option.some.injEq, Zar, Zbe, Zbk, Zcr, Za8, Zba, Zb9, Zbt, Zaa, Zaj, Yaw, Yb5, sz4, ag4, st27, Zg3 Try.underlying4]
    cases ht6 : m.slow == o.slow
    · simp only [Yap, Yaq, Nat.reduceAdd, Zai, Zb2, Za3, Zae, Zan, Zas, Za9, Ze8, St.put, Yao, Yam, Yan, Yau, Nat.reduceLT, ne_eq, reduceCtorEq, not_false_eq_true, implies_true, Yb2, Yav, Ya2, Yas, Yat, Yak, Yal, Zau, ↓reduceIte, Za4, Za0, Zat, Za2, Zbh, Zab, Zax, Zb3, Zad, Zac, Zal, Zav, Zbr, Option.some.injEq, Zb4, Yaw, Za1 (hcv _), hres]
    simp only [Yap, Yaq, Nat.reduceAdd, Zan, Zas, Za9, Zch, Yao, Yam, Yan, Yau, Nat.reduceLT, Nat.reduceLeDiff, ne_eq, reduceCtorEq, not_false_eq_true, implies_true, Yav, Ya2, Yas, Yat, Yak, Yal, Zau, Zb7, ↓reduceIte, Za4, Za6, Zat, Za5, Zaf, Zab, Option.some.injEq, Zar, Zbe, Zbk, Zcr, Za8, Zba, Zb9, Zbt, Zaa, Zaj, Yaw, Yb5, sz4, ag4, st27, Zg3 Try.underlying4]
    cases ht7 : m.done == o.done
    · simp only [Yap, Yaq, Nat.reduceAdd, Zai, Zb2, Za3, Zae, Zan, Zas, Za9, Ze8, St.put, Yao, Yam, Yan, Yau, Nat.reduceLT, ne_eq, reduceCtorEq, not_false_eq_true, implies_true, Yb2, Yav, Ya2, Yas, Yat, Yak, Yal, Zau, ↓reduceIte, Za4, Za0, Zat, Za2, Zbh, Zab, Zax, Zb3, Zad, Zac, Zal, Zav, Zbr, Option.some.injEq, Zb4, Yaw, Za1 (hcv _), hres]
    simp only [Yap, Yaq, Nat.reduceAdd, Zai, Zb2, Za3, Zae, Zan, Zas, Za9, Zch, Ze8, St.put, Yao, Yam, Yan, Yau, Nat.reduceLT, Nat.reduceLeDiff, ne_eq, reduceCtorEq, not_false_eq_true, implies_true, Yb2, Yav, Ya2, Yas, Yat, Yak, Yal, Zau, Zb7, ↓reduceIte, Za4, Za0, Za6, Zat, Za5, Za2, Zaf, Zbh, Zab, Zax, Zb6, Zay, Zb3, Zad, Zac, Zal, Zav, Zbr, Option.some.injEq, Zar, Zbe, Zbk, Zcr, Za8, Zba, Zb9, Zbt, Zb4, Zaa, Zaj, Yaw, Yb5, sz3, ag3, st27, Za1 (hcv _), hres]
  simp only [Yap, Yaq, Nat.reduceAdd, Zan, Zas, Za9, Zch, Yao, Yam, Yan, Yau, Nat.reduceLT, Nat.reduceLeDiff, ne_eq, reduceCtorEq, not_false_eq_true, implies_true, Yav, Ya2, Yas, Yat, Yak, Yal, Zau, Zb7, ↓reduceIte, Za4, Za6, Zat, Za5, Zaf, Zab, Zb6, Zay, Option.some.injEq, Zar, Zbe, Zbk, Zcr, Za8, Zba, Zb9, Zbt, Zaa, Zaj, Yb6, Yaw, Yb5, sz3, ag3, st27]
  cases ht8 : m.frm == o.frm
  · simp only [Yap, Yaq, Nat.reduceAdd, Zai, Za3, Zae, Zan, Zas, Za9, Ze8, St.put, Yao, Yam, Yan, Yau, Nat.reduceLT, Nat.reduceLeDiff, ne_eq, reduceCtorEq, not_false_eq_true, implies_true, Yb2, Yav, Ya2, Yas, Yat, Yak, Yal, Zau, Zb7, ↓reduceIte, Za4, Za0, Za6, Zat, Za5, Za2, Zbh, Zab, Zax, Zb6, Zay, Option.some.injEq, Zar, Zbe, Zbk, Zcr, Za8, Zba, Zb9, Zbt, Zaa, Zaj, Yb0, Yb1, Yaw, Yb5, sz3, ag3, st27, Za1 (hcv _)]
    cases ht9 : m.key == o.key
    · simp only [Yap, Yaq, Nat.reduceAdd, Zai, Zb2, Za3, Zae, Zan, Zas, Za9, Ze8, St.put, Yao, Yam, Yan, Yau, Nat.reduceLT, ne_eq, reduceCtorEq, not_false_eq_true, implies_true, Yb2, Yav, Ya2, Yas, Yat, Yak, Yal, Zau, ↓reduceIte, Za4, Za0, Zat, Za2, Zbh, Zab, Zax, Zb3, Zad, Zac, Zal, Zav, Zbr, Option.some.injEq, Zb4, Yaw, Za1 (hcv _), hres]
    simp only [Yap, Yaq, Nat.reduceAdd, Zan, Zas, Za9, Zch, Yao, Yam, Yan, Yau, Nat.reduceLT, Nat.reduceLeDiff, ne_eq, reduceCtorEq, not_false_eq_true, implies_true, Yav, Ya2, Yas, Yat, Yak, Yal, Zau, Zb7, ↓reduceIte, Za4, Za6, Zat, Za5, Zaf, Zab, Option.some.injEq, Zar, Zbe, Zbk, Zcr, Za8, Zba, Zb9, Zbt, Zaa, Zaj, Yaw, Yb5, sz4, ag4, st27, Zg3 Try.underlying4]
    cases ht10 : m.slow == o.slow
    · simp only [Yap, Yaq, Nat.reduceAdd, Zai, Zb2, Za3, Zae, Zan, Zas, Za9, Ze8, St.put, Yao, Yam, Yan, Yau, Nat.reduceLT, ne_eq, reduceCtorEq, not_false_eq_true, implies_true, Yb2, Yav, Ya2, Yas, Yat, Yak, Yal, Zau, ↓reduceIte, Za4, Za0, Zat, Za2, Zbh, Zab, Zax, Zb3, Zad, Zac, Zal, Zav, Zbr, Option.some.injEq, Zb4, Yaw, Za1 (hcv _), hres]
    simp only [Yap, Yaq, Nat.reduceAdd, Zan, Zas, Za9, Zch, Yao, Yam, Yan, Yau, Nat.reduceLT, Nat.reduceLeDiff, ne_eq, reduceCtorEq, not_false_eq_true, implies_true, Yav, Ya2, Yas, Yat, Yak, Yal, Zau, Zb7, ↓reduceIte, Za4, Za6, Zat, Za5, Zaf, Zab, Option.some.injEq, Zar, Zbe, Zbk, Zcr, Za8, Zba, Zb9, Zbt, Zaa, Zaj, Yaw, Yb5, sz4, ag4, st27, Zg3 Try.underlying4]
    cases ht11 : m.done == o.done
    · simp only [Yap, Yaq, Nat.reduceAdd, Zai, Zb2, Za3, Zae, Zan, Zas, Za9, Ze8, St.put, Yao, Yam, Yan, Yau, Nat.reduceLT, ne_eq, reduceCtorEq, not_false_eq_true, implies_true, Yb2, Yav, Ya2, Yas, Yat, Yak, Yal, Zau, ↓reduceIte, Za4, Za0, Zat, Za2, Zbh, Zab, Zax, Zb3, Zad, Zac, Zal, Zav, Zbr, Option.some.injEq, Zb4, Yaw, Za1 (hcv _), hres]
    simp only [Yap, Yaq, Nat.reduceAdd, Zai, Zb2, Za3, Zae, Zan, Zas, Za9, Zch, Ze8, St.put, Yao, Yam, Yan, Yau, Nat.reduceLT, Nat.reduceLeDiff, ne_eq, reduceCtorEq, not_false_eq_true, implies_true, Yb2, Yav, Ya2, Yas, Yat, Yak, Yal, Zau, Zb7, ↓reduceIte, Za4, Za0, Za6, Zat, Za5, Za2, Zaf, Zbh, Zab, Zax, Zb6, Zay, Zb3, Zad, Zac, Zal, Zav, Zbr, Option.some.injEq, Zar, Zbe, Zbk, Zcr, Za8, Zba, Zb9, Zbt, Zb4, Zaa, Zaj, Yaw, Yb5, sz3, ag3, st27, Za1 (hcv _), hres]
  simp only [Yap, Yaq, Nat.reduceAdd, Zai, Za3, Zae, Zan, Zas, Za9, Zch, Yao, Yam, Yan, Yau, Nat.reduceLT, Nat.reduceLeDiff, ne_eq, reduceCtorEq, not_false_eq_true, implies_true, Yav, Ya2, Yas, Yat, Yak, Yal, Zau, Zb7, ↓reduceIte, Za4, Za0, Za6, Zat, Za5, Za2, Zaf, Zab, Zb6, Zay, Option.some.injEq, Zar, Zbe, Zbk, Zcr, Za8, Zba, Zb9, Zbt, Zaa, Zaj, Yb6, Yaw, Yb5, sz3, ag3, st27, Za1 (hcv _)]
  cases ht12 : m.to == o.to
  · simp only [Yb0, Yb1]
    cases ht13 : m.key == o.key
    · simp only [Yap, Yaq, Nat.reduceAdd, Zai, Zb2, Za3, Zae, Zan, Zas, Za9, Ze8, St.put, Yao, Yam, Yan, Yau, Nat.reduceLT, ne_eq, reduceCtorEq, not_false_eq_true, implies_true, Yb2, Yav, Ya2, Yas, Yat, Yak, Yal, Zau, ↓reduceIte, Za4, Za0, Zat, Za2, Zbh, Zab, Zax, Zb3, Zad, Zac, Zal, Zav, Zbr, Option.some.injEq, Zb4, Yaw, Za1 (hcv _), hres]
    simp only [Yap, Yaq, Nat.reduceAdd, Zan, Zas, Za9, Zch, Yao, Yam, Yan, Yau, Nat.reduceLT, Nat.reduceLeDiff, ne_eq, reduceCtorEq, not_false_eq_true, implies_true, Yav, Ya2, Yas, Yat, Yak, Yal, Zau, Zb7, ↓reduceIte, Za4, Za6, Zat, Za5, Zaf, Zab, Option.some.injEq, Zar, Zbe, Zbk, Zcr, Za8, Zba, Zb9, Zbt, Zaa, Zaj, Yaw, Yb5, sz4, ag4, st27, Zg3 Try.underlying4]
    cases ht14 : m.slow == o.slow
    · simp only [Yap, Yaq, Nat.reduceAdd, Zai, Zb2, Za3, Zae, Zan, Zas, Za9, Ze8, St.put, Yao, Yam, Yan, Yau, Nat.reduceLT, ne_eq, reduceCtorEq, not_false_eq_true, implies_true, Yb2, Yav, Ya2, Yas, Yat, Yak, Yal, Zau, ↓reduceIte, Za4, Za0, Zat, Za2, Zbh, Zab, Zax, Zb3, Zad, Zac, Zal, Zav, Zbr, Option.some.injEq, Zb4, Yaw, Za1 (hcv _), hres]
    simp only [Yap, Yaq, Nat.reduceAdd, Zan, Zas, Za9, Zch, Yao, Yam, Yan, Yau, Nat.reduceLT, Nat.reduceLeDiff, ne_eq, reduceCtorEq, not_false_eq_true, implies_true, Yav, Ya2, Yas, Yat, Yak, Yal, Zau, Zb7, ↓reduceIte, Za4, Za6, Zat, Za5, Zaf, Zab, Option.some.injEq, Zar, Zbe, Zbk, Zcr, Za8, Zba, Zb9, Zbt, Zaa, Zaj, Yaw, Yb5, sz4, ag4, st27, Zg3 Try.underlying4]
    cases ht15 : m.done == o.done
    · simp only [Yap, Yaq, Nat.reduceAdd, Zai, Zb2, Za3, Zae, Zan, Zas, Za9, Ze8, St.put, Yao, Yam, Yan, Yau, Nat.reduceLT, ne_eq, reduceCtorEq, not_false_eq_true, implies_true, Yb2, Yav, Ya2, Yas, Yat, Yak, Yal, Zau, ↓reduceIte, Za4, Za0, Zat, Za2, Zbh, Zab, Zax, Zb3, Zad, Zac, Zal, Zav, Zbr, Option.some.injEq, Zb4, Yaw, Za1 (hcv _), hres]
    simp only [Yap, Yaq, Nat.reduceAdd, Zai, Zb2, Za3, Zae, Zan, Zas, Za9, Zch, Ze8, St.put, Yao, Yam, Yan, Yau, Nat.reduceLT, Nat.reduceLeDiff, ne_eq, reduceCtorEq, not_false_eq_true, implies_true, Yb2, Yav, Ya2, Yas, Yat, Yak, Yal, Zau, Zb7, ↓reduceIte, Za4, Za0, Za6, Zat, Za5, Za2, Zaf, Zbh, Zab, Zax, Zb6, Zay, Zb3, Zad, Zac, Zal, Zav, Zbr, Option.some.injEq, Zar, Zbe, Zbk, Zcr, Za8, Zba, Zb9, Zbt, Zb4, Zaa, Zaj, Yaw, Yb5, sz3, ag3, st27, Za1 (hcv _), hres]
  simp only [Yb6]
  cases ht16 : m.key == o.key
  · simp only [Yap, Yaq, Nat.reduceAdd, Zai, Zb2, Za3, Zae, Zan, Zas, Za9, Zch, Ze8, St.put, Yao, Yam, Yan, Yau, Nat.reduceLT, ne_eq, reduceCtorEq, not_false_eq_true, implies_true, Yb2, Yav, Ya2, Yas, Yat, Yak, Yal, Zau, ↓reduceIte, Za4, Za0, Zat, Za2, Zaf, Zbh, Zab, Zax, Zb3, Zad, Zac, Zal, Zav, Zbr, Option.some.injEq, Zb4, Yb0, Yb1, Yaw, Za1 (hcv _), hres]
  simp only [Yap, Yaq, Nat.reduceAdd, Zan, Zas, Za9, Zch, Yao, Yam, Yan, Yau, Nat.reduceLT, Nat.reduceLeDiff, ne_eq, reduceCtorEq, not_false_eq_true, implies_true, Yav, Ya2, Yas, Yat, Yak, Yal, Zau, Zb7, ↓reduceIte, Za4, Za6, Zat, Za5, Zaf, Zab, Option.some.injEq, Zar, Zbe, Zbk, Zcr, Za8, Zba, Zb9, Zbt, Zaa, Zaj, Yb6, Yaw, Yb5, sz4, ag4, st27, Zg3 Try.underlying4]
  cases ht17 : m.slow == o.slow
  · simp only [Yap, Yaq, Nat.reduceAdd, Zai, Zb2, Za3, Zae, Zan, Zas, Za9, Zch, Ze8, St.put, Yao, Yam, Yan, Yau, Nat.reduceLT, ne_eq, reduceCtorEq, not_false_eq_true, implies_true, Yb2, Yav, Ya2, Yas, Yat, Yak, Yal, Zau, ↓reduceIte, Za4, Za0, Zat, Za2, Zaf, Zbh, Zab, Zax, Zb3, Zad, Zac, Zal, Zav, Zbr, Option.some.injEq, Zb4, Yb0, Yb1, Yaw, Za1 (hcv _), hres]
  simp only [Yap, Yaq, Nat.reduceAdd, Zan, Zas, Za9, Zch, Yao, Yam, Yan, Yau, Nat.reduceLT, Nat.reduceLeDiff, ne_eq, reduceCtorEq, not_false_eq_true, implies_true, Yav, Ya2, Yas, Yat, Yak, Yal, Zau, Zb7, ↓reduceIte, Za4, Za6, Zat, Za5, Zaf, Zab, Option.some.injEq, Zar, Zbe, Zbk, Zcr, Za8, Zba, Zb9, Zbt, Zaa, Zaj, Yb6, Yaw, Yb5, sz4, ag4, st27, Zg3 Try.underlying4]
  cases ht18 : m.done == o.done
  · simp only [Yap, Yaq, Nat.reduceAdd, Zai, Zb2, Za3, Zae, Zan, Zas, Za9, Zch, Ze8, St.put, Yao, Yam, Yan, Yau, Nat.reduceLT, ne_eq, reduceCtorEq, not_false_eq_true, implies_true, Yb2, Yav, Ya2, Yas, Yat, Yak, Yal, Zau, ↓reduceIte, Za4, Za0, Zat, Za2, Zaf, Zbh, Zab, Zax, Zb3, Zad, Zac, Zal, Zav, Zbr, Option.some.injEq, Zb4, Yb0, Yb1, Yaw, Za1 (hcv _), hres]
  simp only [Yap, Yaq, Nat.reduceAdd, Zai, Za3, Zae, Zan, Zas, Za9, Zch, Yao, Yam, Yan, Yau, Nat.reduceLT, Nat.reduceLeDiff, ne_eq, reduceCtorEq, not_false_eq_true, implies_true, Yav, Ya2, Yas, Yat, Yak, Yal, Zau, Zb7, ↓reduceIte, Za4, Za0, Za6, Zat, Za5, Za2, Zaf, Zab, Zb6, Zay, Option.some.injEq, Zar, Zbe, Zbk, Zcr, Za8, Zba, Zb9, Zbt, Zaa, Zaj, Yb6, Yaw, Yb5, sz3, ag3, st27, Za1 (hcv _)]
  cases ht19 : m.place == o.place
  · simp only [Yap, Yaq, Nat.reduceAdd, Zb2, Za3, Zae, Zan, Zas, Za9, Ze8, St.put, Yao, Yam, Yan, Yau, Nat.reduceLT, ne_eq, reduceCtorEq, not_false_eq_true, implies_true, Yb2, Yav, Ya2, Yas, Yat, Yak, Yal, Zau, ↓reduceIte, Za4, Za0, Zat, Za2, Zbh, Zab, Zax, Zb3, Zad, Zac, Zal, Zav, Zbr, Option.some.injEq, Zb4, Yb0, Yb1, Yaw, hres]
  simp only [Yap, Yaq, Nat.reduceAdd, Zan, Zas, Za9, Zch, Yao, Yam, Yan, Yau, Nat.reduceLT, Nat.reduceLeDiff, ne_eq, reduceCtorEq, not_false_eq_true, implies_true, Yav, Ya2, Yas, Yat, Yak, Yal, Zau, Zb7, ↓reduceIte, Za4, Za6, Zat, Za5, Zaf, Zab, Zb6, Zay, Option.some.injEq, Zar, Zbe, Zbk, Zcr, Za8, Zba, Zb9, Zbt, Zaa, Zaj, Yb6, Yaw, Yb5, sz3, ag3, st27]
  cases ht20 : m.pred == o.pred
  · simp only [Yap, Yaq, Nat.reduceAdd, Zb2, Za3, Zae, Zan, Zas, Za9, Ze8, St.put, Yao, Yam, Yan, Yau, Nat.reduceLT, ne_eq, reduceCtorEq, not_false_eq_true, implies_true, Yb2, Yav, Ya2, Yas, Yat, Yak, Yal, Zau, ↓reduceIte, Za4, Za0, Zat, Za2, Zbh, Zab, Zax, Zb3, Zad, Zac, Zal, Zav, Zbr, Option.some.injEq, Zb4, Yb0, Yb1, Yaw, hres]
  simp only [Yap, Yaq, Nat.reduceAdd, Zan, Zas, Za9, Zch, Yao, Yam, Yan, Yau, Nat.reduceLT, Nat.reduceLeDiff, ne_eq, reduceCtorEq, not_false_eq_true, implies_true, Yav, Ya2, Yas, Yat, Yak, Yal, Zau, Yax, Yay, Zb7, ↓reduceIte, Za4, Za6, Zat, Za5, Zaf, Zab, Option.some.injEq, Zar, Zbe, Zbk, Zcr, Za8, Zba, Zb9, Zbt, List.take_succ_cons, List.take_zero, List.drop_succ_cons, List.drop_zero, Zaa, Zaj, Yb3, Yb6, Yaw, Yb5, sz24, ag24, st27, eq24]
  cases ht21 : ((m.ikey == o.ikey) && ((m.ival == o.ival) && ((m.iver == o.iver) && (m.gone == o.gone))))
  · simp only [Yap, Yaq, Nat.reduceAdd, Zb2, Za3, Zae, Zan, Zas, Za9, Ze8, St.put, Yao, Yam, Yan, Yau, Nat.reduceLT, ne_eq, reduceCtorEq, not_false_eq_true, implies_true, Yb2, Yav, Ya2, Yas, Yat, Yak, Yal, Zau, ↓reduceIte, Za4, Za0, Zat, Za2, Zbh, Zab, Zax, Zb3, Zad, Zac, Zal, Zav, Zbr, Option.some.injEq, Zb4, Yb0, Yb1, Yaw, hres]
  simp only [Yap, Yaq, Nat.reduceAdd, Zan, Zas, Za9, Zch, Yao, Yam, Yan, Yau, Nat.reduceLT, ne_eq, reduceCtorEq, not_false_eq_true, implies_true, Yav, Ya2, Yas, Yat, Yak, Yal, Zau, Zb7, ↓reduceIte, Za4, Za6, Zat, Za5, Zaf, Zab, Zb6, Zay, Option.some.injEq, Zar, Zbe, Zbk, Zcr, Za8, Zba, Zb9, Zbt, Zaa, Zaj, Yb6, Yaw, Yb5, Yab, sz25, ag25, st27]
  cases ht22 : m.code == o.code
  · simp only [Yap, Yaq, Nat.reduceAdd, Zb2, Za3, Zae, Zan, Zas, Za9, Ze8, St.put, Yao, Yam, Yan, Yau, Nat.reduceLT, ne_eq, reduceCtorEq, not_false_eq_true, implies_true, Yb2, Yav, Ya2, Yas, Yat, Yak, Yal, Zau, ↓reduceIte, Za0, Zat, Za2, Zbh, Zab, Zax, Zb3, Zad, Zac, Zal, Zav, Zbr, Option.some.injEq, Zb4, Yb0, Yaw, hres]
  simp only [Yap, Yaq, Nat.reduceAdd, Zb2, Za3, Zae, Zan, Zbf, Zbg, Zas, Za9, Zbq, Zch, Yao, Yam, Yan, Yau, Nat.reduceLT, Nat.reduceLeDiff, ne_eq, reduceCtorEq, not_false_eq_true, implies_true, Yav, Ya2, Yas, Yat, Yak, Yal, Zau, ↓reduceIte, Za0, Zat, Za5, Za2, Zaf, Zab, Zaq, Zah, Zb3, Zad, Zac, Zal, Zav, Zbr, Option.some.injEq, Zar, Zbe, Zbk, Zcr, Za8, Zba, Zb9, Zbt, Zb4, Zaa, Zaj, Bool.and_true, Yaw, Yb5, sz22, ag22, st27, hres, ha.ownD, hb.ownD, ha.own, hb.own, heq]
end Go.Abs
namespace Go.Abs
open Go Go.Proofs
set_option maxRecDepth 10000
set_option maxHeartbeats 4000000
def ListN (l : List Int) (frm : Int) (n : Nat) : Prop := ∀ (j : Nat) x, j < n → l[j]? = some x → Zfc x = true ∧ x ≠ frm ∧ ∀ (k : Nat) y, k < j → l[k]? = some y → y ≠ x
open Classical in
noncomputable def Znj (l : List Int) (frm : Int) : Bool := decide (ListN l frm l.length) && decide ((l.length : Int) ≤ 3)
theorem rd_ix {a : D} {xs : List Int} (ha : Rd a (isE xs)) {i : Nat} {x : Int} (hx : xs[i]? = some x) : Zeh Try.prog 22 a (.e (.int .i64 i)) = some (.rptr [.int .i64 x] 0) :=
  Zxc Try.underlying22 sz3 ha.sl (by omega) (by simp [isE, hx]) rfl (by omega)
theorem Zws {a : D} {xs : List Int} (ha : Rd a (isE xs)) (H : List O) : len0 Try.prog 22 a H = some xs.length := by rw [Zk1 Try.underlying22 ha.sl]; simp [isE]
theorem Zp7 {i n : Nat} (h : i < n) (hn : n ≤ 1099511627776) : IntKind.i64.wrap ((i : Int) + 1) = ((i + 1 : Nat) : Int) := by rw [Zft (by omega) (by omega)]; omega
theorem w40 (a : D) (xs : List Int) (frm : Int) (ha : Rd a (isE xs)) (hx : xs.length ≤ 1099511627776) (h : List O) : wc 40 [a, .int .i64 frm] h = some (.val (.bool (Znj xs frm)), h) := by
  have la := Zws ha
  have hcv : ∀ i, wcv 40 i = [] := fun _ => rfl
  have hres : Try.f40.results.toList = [ResultVar.tmp 4] := rfl
  rw [wc, Zbm rfl Try.func40 rfl]
  simp only [Zbj, Yap, Yaq, Nat.reduceAdd, Nat.reduceSub, List.replicate, List.cons_append, List.nil_append, Zai, Zc5, Za3, Zae, Zan, Za9, ne_eq, reduceCtorEq, not_false_eq_true, implies_true, Ya2, Yas, Yat, Za0, Zap, Zam, Zax, Yaw, Za1 (hcv _), Try.ntmps40]
  refine Zff (fun (n : Nat) (s : St) => ∃ i : Nat, (i + n = xs.length ∧ ListN xs frm i) ∧ ∃ zs_, s = ⟨mkT [some (a), some (.int .i64 frm), none, none, some (.e (.bool false)), some (.int .i64 i), none, none, none, none, none, none, none, none, none, none, none, none, none, none, none, none, none, none, none, none, none, none, none, none, none, none, none, none, none, none, none, none, none, none, none, none, none, none] zs_ 0, [], .no, h⟩) ?_ (xs.length) ⟨0, ⟨by omega, fun j x hj => absurd hj (by omega)⟩, Zd8 rfl rfl rfl rfl⟩
  rintro n _ ⟨i, hf_o, zs_o, rfl⟩ IH_o
  obtain ⟨hn, ht⟩ := hf_o
  by_cases hi : i < xs.length
  rotate_left
  · have e2 : decide ((i : Int) < xs.length) = false := by simp; omega
    have hz : Znj xs frm = decide ((xs.length : Int) ≤ 3) := by
      have : ListN xs frm xs.length := by rw [show xs.length = i by omega]; exact ht
      simp [Znj, this]
    simp only [Nat.reduceAdd, Zai, Zb2, Zfv, Za7, Zao, Za3, Zeq, Zer, Ze2, Zae, Zan, Zbd, Za9, Yao, Yan, Yau, ne_eq, reduceCtorEq, not_false_eq_true, implies_true, Ya2, Yas, Yat, Yak, Yal, Zau, ↓reduceIte, Za4, Za0, Za6, Za2, Zab, Zag, Zam, Zc6, Zfx, Zbs, Zf0, Zd0, Zb3, Zad, Zac, Zal, Zav, Zcq, Zbr, mkT, Option.bind_eq_bind, Yaw, Option.pure_def, Za1 (hcv _), hres, e2, ha.ownD, la, hz]
  have e2 : decide ((i : Int) < xs.length) = true := by simp; omega
  have hxi : xs[i]? = some xs[i] := List.getElem?_eq_getElem hi
  generalize xs[i] = x at hxi
  have ia := rd_ix ha hxi
  have bad : (Zfc x = false ∨ x = frm) → Znj xs frm = false := by
    intro hb
    simp only [Znj, Bool.and_eq_false_iff, decide_eq_false_iff_not]
    left
    intro hl
    obtain ⟨h1, h2, _⟩ := hl i x hi hxi
    rcases hb with hb | hb
    · rw [h1] at hb; cases hb
    · exact h2 hb
  simp only [Yap, Yaq, Nat.reduceAdd, Zai, Zbw, Zc5, Za7, Zak, Za3, Zae, Zan, Zbd, Zbf, Zbg, Zas, Za9, Zbq, Yao, Yam, Yan, Yau, Nat.reduceLT, ne_eq, reduceCtorEq, not_false_eq_true, implies_true, Ya2, Yas, Yat, Yak, Yal, Zau, ↓reduceIte, Za4, Za6, Ze0, Zbo, Za2, Zaf, Zab, Zaq, Zah, Zc6, Zbs, Zf4, Zd0, Option.some.injEq, mkT, Ze3, Zj0, Option.bind_eq_bind, Zaj, Yaw, Option.pure_def, Yab, sz3, ag3, Za1 (hcv _), e2, ha.ownD, la, ia, w20]
  cases hp : Zfc x
  · simp only [Yap, Yaq, Nat.reduceAdd, Zai, Zb2, Za7, Zak, Za3, Zc0, Zd3, Zgh, Zae, Zan, Zas, Za9, Ze8, St.put, Yao, Yam, Yan, Yau, Nat.reduceLT, ne_eq, reduceCtorEq, not_false_eq_true, implies_true, Bool.not_false, Ya2, Yas, Yat, Yak, Yal, Zau, ↓reduceIte, Za0, Zat, Za2, Zap, Zbh, Zab, Zax, Zb3, Zad, Zac, Zal, Zav, Zcq, Zbr, Option.some.injEq, Yaw, Za1 (hcv _), hres, bad (.inl hp)]
  simp only [Yap, Yaq, Nat.reduceAdd, Za7, Za3, Zae, Zan, Zas, Za9, Zch, Yao, Yam, Yan, Yau, Nat.reduceLT, ne_eq, reduceCtorEq, not_false_eq_true, implies_true, Yb2, Yav, Ya2, Yas, Yat, Yak, Yal, Zau, ↓reduceIte, Za4, Za6, Zat, Zbo, Zaf, Zab, Zb6, Zay, Option.some.injEq, Ze3, Zj0, Zaj, Yaw, Yab, sz3, ag3, ha.ownD, ia]
  by_cases hxf : x = frm
  · have e3 : (x == frm) = true := by simp [hxf]
    simp only [Zai, Zb2, Zak, Za3, Zc0, Zd3, Zgh, Zae, Zan, Za9, ne_eq, reduceCtorEq, not_false_eq_true, implies_true, Ya2, Yas, Yat, Yak, Yal, Zau, Za0, Za2, Zap, Zax, Zb3, Zad, Zac, Zal, Zav, Zcq, Zbr, Za1 (hcv _), hres, e3, bad (.inr hxf)]
  have e3 : (x == frm) = false := by simp [hxf]
  simp only [Zai, Zbw, Zc5, Zao, Za3, Zae, Zan, Za9, ne_eq, reduceCtorEq, not_false_eq_true, implies_true, Ya2, Yas, Yat, Za0, Zap, Zam, Za1 (hcv _), e3]
  refine Zff (fun (n : Nat) (s : St) => ∃ k : Nat, (k + n = i ∧ ∀ (k' : Nat) y, k' < k → xs[k']? = some y → y ≠ x) ∧ ∃ zs_, s = ⟨mkT [some (a), some (.int .i64 frm), none, none, some (.e (.bool false)), some (.int .i64 i), some (.int .i64 k), none, none, none, none, none, none, none, none, none, none, none, none, none, none, none, none, none, none, none, none, none, none, none, none, none, none, none, none, none, none, none, none, none, none, none, none, none] zs_ 0, [], .no, h⟩) ?_ (i) ⟨0, ⟨by omega, fun j x hj => absurd hj (by omega)⟩, Zd8 rfl rfl rfl rfl⟩
  rintro n _ ⟨k, hf_k, zs_k, rfl⟩ IH_k
  obtain ⟨hn2, ht2⟩ := hf_k
  by_cases hk : k < i
  rotate_left
  · have e4 : decide ((k : Int) < i) = false := by simp; omega
    simp only [Nat.reduceAdd, Zai, Zfv, Za7, Zao, Za3, Zeq, Zcd, Zer, Zdx, Ze2, Zae, Zan, Za9, ne_eq, reduceCtorEq, not_false_eq_true, implies_true, Ya2, Yas, Yat, Yak, Yal, Zau, ↓reduceIte, Za4, Za0, Za6, Za2, Zab, Zag, Zam, Zdc, Zc6, Zcz, Zbs, mkT, Yaw, Za1 (hcv _), e4, Zp7 hi hx]
    refine IH_o (xs.length - (i + 1)) _ (by omega) ⟨i + 1, ⟨by omega, fun j y hj hy => ?_⟩, Zd8 rfl rfl rfl rfl⟩
    by_cases hji : j = i
    · subst hji
      rw [hxi] at hy; cases hy
      exact ⟨hp, hxf, fun k' z hk' hz => ht2 k' z (by omega) hz⟩
    · exact ht j y (by omega) hy
  have e4 : decide ((k : Int) < i) = true := by simp; omega
  have hyi : xs[k]? = some (xs[k]'(by omega)) := List.getElem?_eq_getElem (by omega)
  generalize xs[k]'(by omega) = y at hyi
  have ib := rd_ix ha hyi
  simp only [Nat.reduceAdd, Zai, Zbw, Zc5, Za7, Zak, Za3, Zae, Zan, Za9, ne_eq, reduceCtorEq, not_false_eq_true, implies_true, Ya2, Yas, Yat, Yak, Yal, Zau, Za4, Za6, Zab, Zc6, Zbs, mkT, Yaw, Za1 (hcv _), e4]
  refine (Zed (l := Zv3) (by exact Zye)).trans ?_
  simp only [Yap, Yaq, Za7, Za3, Yao, Yam, Yan, Yau, ne_eq, reduceCtorEq, not_false_eq_true, implies_true, Ya2, Yas, Yat, Yak, Yal, Zau, Yax, Yay, ↓reduceIte, Za6, Zbo, Zaf, Zab, Zb6, Zay, List.toList_toArray, Option.some.injEq, Zdy, kd_l, Zc3, Zc2, kd_r, Zc4, Zdo, Zc7, Zbc, Zbv, Zaz, Zd1, Zcv, Zcb, Zlr, Zby, Zbx, Zgk, Zg9, Op.operands, Zdn, List.foldl_nil, Ze3, Zj0, Yb3, Yaw, Yab, sz3, ag3, hcv, Zv3, ha.ownD, ia, ib]
  by_cases hxy : y = x
  · have e5 : (y == x) = true := by simp [hxy]
    have : Znj xs frm = false := by
      simp only [Znj, Bool.and_eq_false_iff, decide_eq_false_iff_not]
      left
      intro hl
      exact (hl i x hi hxi).2.2 k y hk hyi hxy
    simp only [Zai, Zb2, Zak, Za3, Zc0, Zd3, Zgh, Zae, Zan, Za9, ne_eq, reduceCtorEq, not_false_eq_true, implies_true, Ya2, Yas, Yat, Yak, Yal, Zau, Za0, Za2, Zap, Zax, Zb3, Zad, Zac, Zal, Zav, Zcq, Zbr, Za1 (hcv _), hres, e5, this]
  · have e5 : (y == x) = false := by simp [hxy]
    simp only [Zbw, Zao, Za3, Zcd, Zdx, Zae, Zan, Za9, ne_eq, reduceCtorEq, not_false_eq_true, implies_true, Ya2, Yas, Yat, Yak, Yal, Zau, Za4, Za0, Za6, Za2, Zab, Zag, Zam, Zdc, Zcz, Za1 (hcv _), e5, Zp7 (show k < xs.length by omega) hx]
    refine IH_k (i - (k + 1)) _ (by omega) ⟨k + 1, ⟨by omega, fun k' z hk' hz => ?_⟩, Zd8 rfl rfl rfl rfl⟩
    by_cases hkk : k' = k
    · subst hkk; rw [hyi] at hz; cases hz; exact hxy
    · exact ht2 k' z (by omega) hz
end Go.Abs
