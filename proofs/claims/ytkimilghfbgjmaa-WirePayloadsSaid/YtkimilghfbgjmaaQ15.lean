/-
  WIRE: more of the small functions. WIRE: the plans of the regions whose order is open. WIRE: lists are compared. No condition.
-/
import Derived.Test.YtkimilghfbgjmaaQ14

open List renaming any_cons → Yax, any_nil → Yay, cons_append → Yaj, getD_cons_succ → Yak, getD_cons_zero → Yal, getElem?_cons_succ → Yam, getElem?_cons_zero → Yan, getElem?_toArray → Yao, length_cons → Yap, length_nil → Yaq, nil_append → Yar, replicate → Yae, set_cons_succ → Yas, set_cons_zero → Yat
open Option renaming bind_eq_bind → Yah, bind_some → Yau, map_some → Ya2, pure_def → Yaz
open Bool renaming and_false → Yb0, false_and → Yb1, false_eq_true → Yav, not_true → Yb2, or_self → Yb3
open Nat renaming add_zero → Yb4, succ_ne_zero → Yb5, zero_add → Yaw
namespace Go.Abs
open Go Go.Proofs
set_option maxRecDepth 10000
def Zwa (k : Int) : Bool := decide (0 < k) && decide (k ≤ 6)
theorem w75 (m : Msg) (l : D) (hl : Rd l (isE m.list)) (h : List O) : wc 75 [.agg (m.cs l)] h = some (.val (.bool (Zwa m.kind)), h) := by
  have hcv : ∀ i, wcv 75 i = [] := fun _ => rfl
  have hres : Try.f75.results.toList = [ResultVar.tmp 2] := rfl
  rw [wc, Zbm rfl Try.func75 rfl]
  cases hc0 : decide (0 < m.kind)
  · simp only [Zbj, Yap, Yaq, Nat.reduceAdd, Nat.reduceSub, Yae, Yaj, Yar, Zai, Zb2, Za3, Zae, Zan, Zas, Za9, Ze8, St.put, Yao, Yam, Yan, Yau, Nat.reduceLT, Nat.reduceLeDiff, ne_eq, reduceCtorEq, not_false_eq_true, implies_true, Yb2, Yav, Ya2, Yas, Yat, Yak, Yal, Zau, Zbu, Yax, Yay, Zb7, ↓reduceIte, Za4, Za0, Za6, Zat, Zdq, Za5, Za2, Zap, Zbh, Zab, Zag, Zam, Zax, Zeo, Zdr, Zb3, Zad, Zac, Zal, Zav, Zbr, Option.some.injEq, Zar, Zbk, Za8, Zba, Zb9, Zb0, Zb8, Zbt, Zb4, Zaa, Zaj, Yb3, Yb1, Yb4, Yaw, Yb5, sz5, ag5, st27, Za1 (hcv _), Try.ntmps75, hres, hc0, Zwa, Msg.cs, hl.own]
  simp only [Zbj, Yap, Yaq, Nat.reduceAdd, Nat.reduceSub, Yae, Yaj, Yar, Zai, Zb2, Za3, Zae, Zan, Zas, Za9, Zch, Yao, Yam, Yan, Yau, Nat.reduceLT, Nat.reduceLeDiff, ne_eq, reduceCtorEq, not_false_eq_true, implies_true, Yav, Ya2, Yas, Yat, Yak, Yal, Zau, Zbu, Yax, Yay, Zb7, ↓reduceIte, Za4, Za0, Za6, Zat, Zdq, Za5, Za2, Zaf, Zap, Zab, Zag, Zam, Zax, Zfx, Zeo, Zf0, Zdr, Zb3, Zad, Zac, Zal, Zav, Zbr, Option.some.injEq, Zar, Zbk, Za8, Zba, Zb9, Zb0, Zb8, Zbt, Zb4, Zaa, Zaj, Yb3, Bool.true_and, Yb4, Yaw, Yb5, sz5, ag5, st27, Za1 (hcv _), Try.ntmps75, hres, hc0, Zwa, Msg.cs, hl.own]
theorem w21 (m : Msg) (l : D) (hl : Rd l (isE m.list)) (h : List O) : wc 21 [.agg (m.cs l)] h = some (.val (.int .i64 (if asks m.kind then m.frm else m.to)), h) := by
  have hf := w38 m l hl
  simp only [Msg.cs] at hf
  have hcv : ∀ i, wcv 21 i = [] := fun _ => rfl
  have hres : Try.f21.results.toList = [ResultVar.tmp 2] := rfl
  rw [wc, Zbm rfl Try.func21 rfl]
  cases h1 : asks m.kind <;> simp only [Zbj, Yap, Yaq, Nat.reduceAdd, Nat.reduceSub, Yae, Yaj, Yar, Zai, Zbw, Zb2, Za7, Zak, Zao, Za3, Zc0, Zae, Zan, Zbf, Zbg, Za9, Zbq, Yam, Yan, Yau, Nat.reduceLeDiff, ne_eq, reduceCtorEq, not_false_eq_true, implies_true, Yav, Ya2, Yas, Yat, Yak, Yal, Zau, Zbu, Yax, Yay, Zb7, ↓reduceIte, Za0, Zdq, Za5, Za2, Zap, Zab, Zaq, Zah, Zam, Zb3, Zad, Zac, Zal, Zav, Zbr, Zar, Zbk, Za8, Zba, Zb9, Zb0, Zb8, Zbt, Zb4, List.take_succ_cons, List.take_zero, List.drop_zero, Zaa, Zaj, Yb3, Yaw, Yb5, Nat.le_refl, sz3, sz27, ag3, ag27, st27, Za1 (hcv _), Try.ntmps21, hres, h1, Msg.cs, hl.own, hf]
theorem w43 (m : Msg) (l : D) (hl : Rd l (isE m.list)) (h : List O) : wc 43 [.agg (m.cs l)] h = some (.val (.int .i64 (if Zwa m.kind then m.frm else m.to)), h) := by
  have hf := w75 m l hl
  simp only [Msg.cs] at hf
  have hcv : ∀ i, wcv 43 i = [] := fun _ => rfl
  have hres : Try.f43.results.toList = [ResultVar.tmp 2] := rfl
  rw [wc, Zbm rfl Try.func43 rfl]
  cases h1 : Zwa m.kind <;> simp only [Zbj, Yap, Yaq, Nat.reduceAdd, Nat.reduceSub, Yae, Yaj, Yar, Zai, Zbw, Zb2, Za7, Zak, Zao, Za3, Zc0, Zae, Zan, Zbf, Zbg, Za9, Zbq, Yam, Yan, Yau, Nat.reduceLeDiff, ne_eq, reduceCtorEq, not_false_eq_true, implies_true, Yav, Ya2, Yas, Yat, Yak, Yal, Zau, Zbu, Yax, Yay, Zb7, ↓reduceIte, Za0, Zdq, Za5, Za2, Zap, Zab, Zaq, Zah, Zam, Zb3, Zad, Zac, Zal, Zav, Zbr, Zar, Zbk, Za8, Zba, Zb9, Zb0, Zb8, Zbt, Zb4, List.take_succ_cons, List.take_zero, List.drop_zero, Zaa, Zaj, Yb3, Yaw, Yb5, Nat.le_refl, sz3, sz27, ag3, ag27, st27, Za1 (hcv _), Try.ntmps43, hres, h1, Msg.cs, hl.own, hf]
def Zgi (k : ByteArray) (v n : Int) (g : Bool) : List D := [.str k, .int .i64 v, .int .i64 n, .bool g]
def Zj7 (k : ByteArray) (v n : Int) : Bool := Zo0 k && Zn8 v && Zn8 n
theorem w76 (k : ByteArray) (v n : Int) (g : Bool) (h : List O) : wc 76 [.agg (Zgi k v n g)] h = some (.val (.bool (Zj7 k v n)), h) := by
  have hcv : ∀ i, wcv 76 i = [] := fun _ => rfl
  have hres : Try.f76.results.toList = [ResultVar.tmp 2] := rfl
  rw [wc, Zbm rfl Try.func76 rfl]
  cases hc0 : Zo0 k
  · simp only [Zbj, Yap, Yaq, Nat.reduceAdd, Nat.reduceSub, Yae, Yaj, Yar, Zai, Zb2, Za3, Zae, Zan, Zbf, Zbg, Zas, Za9, Zbq, Ze8, St.put, Yao, Yam, Yan, Yau, Nat.reduceLT, Nat.reduceLeDiff, ne_eq, reduceCtorEq, not_false_eq_true, implies_true, Yb2, Yav, Ya2, Yas, Yat, Yak, Yal, Zau, Zbu, Yax, Yay, Zb7, ↓reduceIte, Za4, Za0, Zat, Zdq, Za5, Za2, Zap, Zbh, Zab, Zaq, Zah, Zax, Zb3, Zad, Zac, Zal, Zav, Zbr, Option.some.injEq, Zar, Zbk, Za8, Zba, Zb9, Zb0, Zb8, Zbt, Zb4, Zaa, Zaj, Yb3, Yb1, Yb4, Yaw, Yb5, sz9, ag9, st24, Za1 (hcv _), Try.ntmps76, hres, hc0, Zgi, w77, Zj7]
  cases hc1 : Zn8 v
  · simp only [Zbj, Yap, Yaq, Nat.reduceAdd, Nat.reduceSub, Yae, Yaj, Yar, Zai, Zb2, Za3, Zae, Zan, Zbf, Zbg, Zas, Za9, Zbq, Zch, Ze8, St.put, Yao, Yam, Yan, Yau, Nat.reduceLT, Nat.reduceLeDiff, ne_eq, reduceCtorEq, not_false_eq_true, implies_true, Yb2, Yav, Ya2, Yas, Yat, Yak, Yal, Zau, Zbu, Yax, Yay, Zb7, ↓reduceIte, Za4, Za0, Zat, Zdq, Za5, Za2, Zaf, Zap, Zbh, Zab, Zaq, Zah, Zax, Zb3, Zad, Zac, Zal, Zav, Zbr, Option.some.injEq, Zar, Zbk, Za8, Zba, Zb9, Zb0, Zb8, Zbt, Zb4, Zaa, Zaj, Yb3, Yb0, Yb1, Yb4, Yaw, Yb5, sz3, sz9, ag3, ag9, st24, Za1 (hcv _), Try.ntmps76, hres, hc0, hc1, Zgi, w77, w88, Zj7]
  simp only [Zbj, Yap, Yaq, Nat.reduceAdd, Nat.reduceSub, Yae, Yaj, Yar, Zai, Zb2, Za3, Zae, Zan, Zbf, Zbg, Zas, Za9, Zbq, Zch, Yao, Yam, Yan, Yau, Nat.reduceLT, Nat.reduceLeDiff, ne_eq, reduceCtorEq, not_false_eq_true, implies_true, Yav, Ya2, Yas, Yat, Yak, Yal, Zau, Zbu, Yax, Yay, Zb7, ↓reduceIte, Za4, Za0, Zat, Zdq, Za5, Za2, Zaf, Zap, Zab, Zaq, Zah, Zax, Zb3, Zad, Zac, Zal, Zav, Zbr, Option.some.injEq, Zar, Zbk, Za8, Zba, Zb9, Zb0, Zb8, Zbt, Zb4, Zaa, Zaj, Yb3, Bool.and_true, Bool.true_and, Yb4, Yaw, Yb5, sz3, sz9, ag3, ag9, st24, Za1 (hcv _), Try.ntmps76, hres, hc0, hc1, Zgi, w77, w88, Zj7]
def Zh2 (k : ByteArray) (v n : Int) : Bool := decide ((1 : Int) ≤ k.size) && (decide ((k.size : Int) ≤ 20) && (decide (0 ≤ v) && (decide (v ≤ 1048576) && (decide (0 ≤ n) && decide (n ≤ 1048576)))))
theorem w39 (k : ByteArray) (v n : Int) (g : Bool) (h : List O) : wc 39 [.agg (Zgi k v n g)] h = some (.val (.bool (Zh2 k v n)), h) := by
  have hcv : ∀ i, wcv 39 i = [] := fun _ => rfl
  have hres : Try.f39.results.toList = [ResultVar.tmp 2] := rfl
  rw [wc, Zbm rfl Try.func39 rfl]
  cases hc0 : decide ((1 : Int) ≤ k.size)
  · simp only [Zbj, Yap, Yaq, Nat.reduceAdd, Nat.reduceSub, Yae, Yaj, Yar, Zai, Zb2, Za3, Zae, Zan, Zbd, Zas, Za9, Ze8, St.put, Yao, Yam, Yan, Yau, Nat.reduceLT, Nat.reduceLeDiff, ne_eq, reduceCtorEq, not_false_eq_true, implies_true, Yb2, Yav, Ya2, Yas, Yat, Yak, Yal, Zau, Zbu, Yax, Yay, Zb7, ↓reduceIte, Za4, Za0, Za6, Zat, Zdq, Za5, Za2, Zap, Zbh, Zab, Zag, Zam, Zax, Zf2, Zeb, Zd0, Zb3, Zad, Zac, Zal, Zav, Zbr, Option.some.injEq, Zar, Zbk, Za8, Zba, Zb9, Zb0, Zb8, Zbt, Zb4, Zaa, Yah, Zaj, Yb3, Yb1, Yb4, Yaw, Yb5, Zhj, Yaz, Try.underlying9, sz9, ag9, st24, Za1 (hcv _), Try.ntmps39, hres, hc0, Zgi, Zh2]
  cases hc1 : decide ((k.size : Int) ≤ 20)
  · simp only [Zbj, Yap, Yaq, Nat.reduceAdd, Nat.reduceSub, Yae, Yaj, Yar, Zai, Zb2, Za3, Zae, Zan, Zbd, Zas, Za9, Zch, Ze8, St.put, Yao, Yam, Yan, Yau, Nat.reduceLT, Nat.reduceLeDiff, ne_eq, reduceCtorEq, not_false_eq_true, implies_true, Yb2, Yav, Ya2, Yas, Yat, Yak, Yal, Zau, Zbu, Yax, Yay, Zb7, ↓reduceIte, Za4, Za0, Za6, Zat, Zdq, Za5, Za2, Zaf, Zap, Zbh, Zab, Zag, Zam, Zax, Zfx, Zf2, Zf0, Zeb, Zd0, Zb3, Zad, Zac, Zal, Zav, Zbr, Option.some.injEq, Zar, Zbk, Za8, Zba, Zb9, Zb0, Zb8, Zbt, Zb4, Zaa, Yah, Zaj, Yb3, Yb0, Yb1, Yb4, Yaw, Yb5, Zhj, Yaz, Try.underlying9, sz9, ag9, st24, Za1 (hcv _), Try.ntmps39, hres, hc0, hc1, Zgi, Zh2]
  cases hc2 : decide (0 ≤ v)
  · simp only [Zbj, Yap, Yaq, Nat.reduceAdd, Nat.reduceSub, Yae, Yaj, Yar, Zai, Zb2, Za3, Zae, Zan, Zbd, Zas, Za9, Zch, Ze8, St.put, Yao, Yam, Yan, Yau, Nat.reduceLT, Nat.reduceLeDiff, ne_eq, reduceCtorEq, not_false_eq_true, implies_true, Yb2, Yav, Ya2, Yas, Yat, Yak, Yal, Zau, Zbu, Yax, Yay, Zb7, ↓reduceIte, Za4, Za0, Za6, Zat, Zdq, Za5, Za2, Zaf, Zap, Zbh, Zab, Zag, Zam, Zax, Zfx, Zf2, Zf0, Zeb, Zd0, Zb3, Zad, Zac, Zal, Zav, Zbr, Option.some.injEq, Zar, Zbk, Za8, Zba, Zb9, Zb0, Zb8, Zbt, Zb4, Zaa, Yah, Zaj, Yb3, Yb0, Yb1, Yb4, Yaw, Yb5, Zhj, Yaz, Try.underlying9, sz3, sz9, ag3, ag9, st24, Za1 (hcv _), Try.ntmps39, hres, hc0, hc1, hc2, Zgi, Zh2]
  cases hc3 : decide (v ≤ 1048576)
  · simp only [Zbj, Yap, Yaq, Nat.reduceAdd, Nat.reduceSub, Yae, Yaj, Yar, Zai, Zb2, Za3, Zae, Zan, Zbd, Zas, Za9, Zch, Ze8, St.put, Yao, Yam, Yan, Yau, Nat.reduceLT, Nat.reduceLeDiff, ne_eq, reduceCtorEq, not_false_eq_true, implies_true, Yb2, Yav, Ya2, Yas, Yat, Yak, Yal, Zau, Zbu, Yax, Yay, Zb7, ↓reduceIte, Za4, Za0, Za6, Zat, Zdq, Za5, Za2, Zaf, Zap, Zbh, Zab, Zag, Zam, Zax, Zfx, Zf2, Zf0, Zeb, Zd0, Zb3, Zad, Zac, Zal, Zav, Zbr, Option.some.injEq, Zar, Zbk, Za8, Zba, Zb9, Zb0, Zb8, Zbt, Zb4, Zaa, Yah, Zaj, Yb3, Yb0, Yb1, Yb4, Yaw, Yb5, Zhj, Yaz, Try.underlying9, sz3, sz9, ag3, ag9, st24, Za1 (hcv _), Try.ntmps39, hres, hc0, hc1, hc2, hc3, Zgi, Zh2]
  cases hc4 : decide (0 ≤ n)
  · simp only [Zbj, Yap, Yaq, Nat.reduceAdd, Nat.reduceSub, Yae, Yaj, Yar, Zai, Zb2, Za3, Zae, Zan, Zbd, Zas, Za9, Zch, Ze8, St.put, Yao, Yam, Yan, Yau, Nat.reduceLT, Nat.reduceLeDiff, ne_eq, reduceCtorEq, not_false_eq_true, implies_true, Yb2, Yav, Ya2, Yas, Yat, Yak, Yal, Zau, Zbu, Yax, Yay, Zb7, ↓reduceIte, Za4, Za0, Za6, Zat, Zdq, Za5, Za2, Zaf, Zap, Zbh, Zab, Zag, Zam, Zax, Zfx, Zf2, Zf0, Zeb, Zd0, Zb3, Zad, Zac, Zal, Zav, Zbr, Option.some.injEq, Zar, Zbk, Za8, Zba, Zb9, Zb0, Zb8, Zbt, Zb4, Zaa, Yah, Zaj, Yb3, Yb0, Yb1, Yb4, Yaw, Yb5, Zhj, Yaz, Try.underlying9, sz3, sz9, ag3, ag9, st24, Za1 (hcv _), Try.ntmps39, hres, hc0, hc1, hc2, hc3, hc4, Zgi, Zh2]
  simp only [Zbj, Yap, Yaq, Nat.reduceAdd, Nat.reduceSub, Yae, Yaj, Yar, Zai, Zb2, Za3, Zae, Zan, Zbd, Zas, Za9, Zch, Yao, Yam, Yan, Yau, Nat.reduceLT, Nat.reduceLeDiff, ne_eq, reduceCtorEq, not_false_eq_true, implies_true, Yav, Ya2, Yas, Yat, Yak, Yal, Zau, Zbu, Yax, Yay, Zb7, ↓reduceIte, Za4, Za0, Za6, Zat, Zdq, Za5, Za2, Zaf, Zap, Zab, Zag, Zam, Zax, Zfx, Zf2, Zf0, Zeb, Zd0, Zb3, Zad, Zac, Zal, Zav, Zbr, Option.some.injEq, Zar, Zbk, Za8, Zba, Zb9, Zb0, Zb8, Zbt, Zb4, Zaa, Yah, Zaj, Yb3, Bool.true_and, Yb4, Yaw, Yb5, Zhj, Yaz, Try.underlying9, sz3, sz9, ag3, ag9, st24, Za1 (hcv _), Try.ntmps39, hres, hc0, hc1, hc2, hc3, hc4, Zgi, Zh2]
def sizeZ (n : Int) : Int := if decide (0 ≤ n) && decide (n ≤ 112) then IntKind.i64.wrap (n + 8) else 0
theorem w35 (n : Int) (h : List O) : wc 35 [.int .i64 n] h = some (.val (.int .i64 (sizeZ n)), h) := by
  have hcv : ∀ i, wcv 35 i = [] := fun _ => rfl
  have hres : Try.f35.results.toList = [ResultVar.tmp 2] := rfl
  rw [wc, Zbm rfl Try.func35 rfl]
  cases h1 : decide (0 ≤ n) <;> cases h2 : decide (n ≤ 112) <;> simp only [Zbj, Yap, Yaq, Nat.reduceAdd, Nat.reduceSub, Yae, Yaj, Yar, Zai, Zbw, Zb2, Za7, Zak, Zao, Za3, Zc0, Zae, Zan, Zas, Za9, Zch, Ze8, St.put, Yao, Yam, Yan, Yau, Nat.reduceLT, ne_eq, reduceCtorEq, not_false_eq_true, implies_true, Yb2, Yav, Ya2, Yas, Yat, Yak, Yal, Zau, ↓reduceIte, Za4, Za0, Za6, Zat, Za2, Zaf, Zap, Zbh, Zab, Zag, Zam, Zax, Zdc, Zfx, Zf2, Zcz, Zf0, Zeb, Zb3, Zad, Zac, Zal, Zav, Zcq, Zbr, Option.some.injEq, Yb0, Bool.and_true, Yaw, Za1 (hcv _), Try.ntmps35, hres, h1, h2, sizeZ]
theorem w28 (n : Int) (h : List O) : wc 28 [.int .i64 n] h = some (.val (.int .i64 (if decide (n < 0) || decide (112 < n) then 0 else IntKind.i64.wrap (n + 8))), h) := by
  have hcv : ∀ i, wcv 28 i = [] := fun _ => rfl
  have hres : Try.f28.results.toList = [ResultVar.tmp 2] := rfl
  rw [wc, Zbm rfl Try.func28 rfl]
  cases h1 : decide (n < 0) <;> cases h2 : decide (112 < n) <;> simp only [Zbj, Yap, Yaq, Nat.reduceAdd, Nat.reduceSub, Yae, Yaj, Yar, Zai, Zbw, Zb2, Za7, Zak, Zao, Za3, Zc0, Zae, Zan, Zas, Za9, Zch, Ze8, St.put, Yao, Yam, Yan, Yau, Nat.reduceLT, ne_eq, reduceCtorEq, not_false_eq_true, implies_true, Bool.not_false, Yav, Ya2, Yas, Yat, Yak, Yal, Zau, Bool.or_false, ↓reduceIte, Za4, Za0, Za6, Zat, Za2, Zaf, Zap, Zbh, Zab, Zag, Zam, Zax, Zdc, Zc6, Zeo, Zcz, Zbs, Zdr, Zb3, Zad, Zac, Zal, Zav, Zcq, Zbr, Option.some.injEq, Yb3, Bool.or_true, Yaw, Za1 (hcv _), Try.ntmps28, hres, h1, h2]
theorem w14 (h : List O) : wc 14 [] h = some (.val (.int .i64 46), h) := by
  have hcv : ∀ i, wcv 14 i = [] := fun _ => rfl
  have hres : Try.f14.results.toList = [ResultVar.tmp 0] := rfl
  rw [wc, Zbm rfl Try.func14 rfl]
  simp only [Zbj, Yaq, Nat.reduceSub, Yae, Yar, Zai, Zb2, Za3, Zae, Zan, Za9, ne_eq, reduceCtorEq, not_false_eq_true, implies_true, Ya2, Yat, Yal, Zau, Za0, Za2, Zap, Zam, Zb3, Zad, Zac, Zal, Zav, Zcq, Zbr, Za1 (hcv _), Try.ntmps14, hres]
theorem w33 (b : Bool) (h : List O) : wc 33 [.bool b] h = some (if b then .val Zaw else .pan (.e (.iface 25 (.int .i64 12))), h) := by
  have hcv : ∀ i, wcv 33 i = [] := fun _ => rfl
  have hres : Try.f33.results.toList = [] := rfl
  rw [wc, Zbm rfl Try.func33 rfl]
  cases b <;> simp only [Zbj, Yap, Yaq, Nat.reduceSub, Yae, Yaj, Yar, Zai, Zbw, Za7, Zak, Zao, Za3, Zae, Zan, Za9, Zra, ne_eq, reduceCtorEq, not_false_eq_true, implies_true, Yb2, Bool.not_false, Yav, Ya2, Yas, Yat, Yak, Yal, Zau, ↓reduceIte, Za4, Ze0, Zg0, Zkn, Zbh, Zab, Zam, Zf4, Zfh, Zgs, Zad, Zdw, Zac, Zd9, Zcq, Zbr, Zcx, List.not_mem_nil, false_imp_iff, Yaw, Try.underlying25, Za1 (hcv _), Try.ntmps33, hres, Zk4]
theorem w7 (m : Msg) (l : D) (hl : Rd l (isE m.list)) (h : List O) : wc 7 [.agg (m.cs l)] h = some (.val (.bool (decide ((40 : Int) < m.list.length) || decide ((300 : Int) < m.ikey.size))), h) := by
  have hlen : ∀ H, len0 Try.prog 22 l H = some m.list.length := fun H => by rw [Zk1 Try.underlying22 hl.sl]; simp [isE]
  have hcv : ∀ i, wcv 7 i = [] := fun _ => rfl
  have hres : Try.f7.results.toList = [ResultVar.tmp 2] := rfl
  rw [wc, Zbm rfl Try.func7 rfl]
  cases hc0 : decide ((40 : Int) < m.list.length)
  rotate_left
  · simp only [Zbj, Yap, Yaq, Nat.reduceAdd, Nat.reduceSub, Yae, Yaj, Yar, Zai, Zb2, Za3, Zae, Zan, Zbd, Zas, Za9, Ze8, St.put, Yao, Yam, Yan, Yau, Nat.reduceLT, Nat.reduceLeDiff, ne_eq, reduceCtorEq, not_false_eq_true, implies_true, Bool.not_false, Yav, Ya2, Yas, Yat, Yak, Yal, Zau, Zbu, Yax, Yay, Zb7, ↓reduceIte, Za4, Za0, Za6, Zat, Zdq, Za5, Za2, Zap, Zbh, Zab, Zag, Zam, Zax, Zeo, Zdr, Zd0, Zb3, Zad, Zac, Zal, Zav, Zbr, Option.some.injEq, Zar, Zbk, hlen, Za8, Zba, Zb9, Zb0, Zb8, Zbt, Zb4, Zaa, Yah, Zaj, Yb3, Bool.true_or, Yaw, Yb5, Yaz, sz22, ag22, st27, Za1 (hcv _), Try.ntmps7, hres, hc0, Msg.cs, hl.own]
  simp only [Zbj, Yap, Yaq, Nat.reduceAdd, Nat.reduceSub, Yae, Yaj, Yar, Zai, Zb2, Za3, Zae, Zan, Zbd, Zas, Za9, Zch, Yao, Yam, Yan, Yau, Nat.reduceLT, Nat.reduceLeDiff, ne_eq, reduceCtorEq, not_false_eq_true, implies_true, Yav, Ya2, Yas, Yat, Yak, Yal, Zau, Zbu, Yax, Yay, Zb7, Bool.false_or, ↓reduceIte, Za4, Za0, Za6, Zat, Zdq, Za5, Za2, Zaf, Zap, Zab, Zag, Zam, Zax, Zeo, Zdr, Zd0, Zb3, Zad, Zac, Zal, Zav, Zbr, Option.some.injEq, Zar, Zbk, hlen, Za8, Zba, Zb9, Zb0, Zb8, Zbt, Zb4, Zaa, Yah, Zaj, Yb3, Yb4, Yaw, Yb5, Zhj, Yaz, Try.underlying9, sz9, sz22, sz24, ag9, ag22, st24, st27, Za1 (hcv _), Try.ntmps7, hres, hc0, Msg.cs, hl.own]
end Go.Abs
namespace Go.Abs
open Go Go.Proofs
def Zte (id : Nat) : Code → Option (Array Oper)
  | .region i ops _ => if i = id then some ops else none
  | .seq a b => (Zte id a).or (Zte id b)
  | .cond _ a b => (Zte id a).or (Zte id b)
  | .block _ a => Zte id a
  | .loop a => Zte id a
  | .scope a => Zte id a
  | .rangeFunc _ _ a b => (Zte id a).or (Zte id b)
  | _ => none
def Zi3 (f : Func) (id : Nat) : Array Oper := ((f.body.bind (Zte id)).getD #[])
set_option maxRecDepth 100000
def Zy9 : List Todo := [⟨0, false, false, 0, [], []⟩,
  ⟨1, false, false, 1, [], []⟩,
  ⟨2, false, false, 3, [], []⟩,
  ⟨3, false, false, 7, [], []⟩,
  ⟨4, false, false, 7, [], []⟩,
  ⟨5, true, false, 31, [], []⟩,
  ⟨6, false, false, 63, [], []⟩,
  ⟨7, false, false, 127, [], []⟩,
  ⟨8, false, false, 255, [], []⟩,
  ⟨9, false, false, 511, [], []⟩,
  ⟨10, false, false, 1023, [], []⟩,
  ⟨11, false, false, 2047, [], []⟩,
  ⟨12, false, true, 4095, [], []⟩,
  ⟨13, true, false, 4095, [3, 61], []⟩,
  ⟨14, true, false, 16383, [], []⟩,
  ⟨15, false, false, 32767, [], []⟩,
  ⟨16, false, false, 65535, [], []⟩,
  ⟨17, false, false, 131071, [], []⟩,
  ⟨18, false, false, 262143, [], []⟩,
  ⟨19, false, false, 524287, [], []⟩,
  ⟨20, false, false, 1048575, [], []⟩,
  ⟨21, false, false, 2097151, [], []⟩,
  ⟨22, false, true, 4194303, [], []⟩,
  ⟨23, false, false, 8388607, [], []⟩,
  ⟨24, false, false, 16777215, [], []⟩,
  ⟨25, false, false, 33554431, [], []⟩,
  ⟨26, false, false, 67108863, [], []⟩,
  ⟨27, false, false, 134217727, [], []⟩,
  ⟨28, false, false, 268435455, [], []⟩,
  ⟨29, false, false, 536870911, [], []⟩,
  ⟨30, false, true, 1073741823, [], []⟩,
  ⟨31, true, false, 1073741823, [7, 79], []⟩,
  ⟨32, true, false, 4294967295, [], []⟩,
  ⟨33, false, false, 8589934591, [], []⟩,
  ⟨34, false, false, 17179869183, [], []⟩,
  ⟨35, false, false, 34359738367, [], []⟩,
  ⟨36, false, false, 68719476735, [], []⟩,
  ⟨37, false, false, 137438953471, [], []⟩,
  ⟨38, false, false, 274877906943, [], []⟩,
  ⟨39, false, false, 549755813887, [], []⟩,
  ⟨40, false, false, 1099511627775, [], []⟩,
  ⟨41, false, false, 2199023255551, [], []⟩,
  ⟨42, false, false, 4398046511103, [], []⟩,
  ⟨43, false, false, 8796093022207, [], []⟩,
  ⟨44, false, false, 17592186044415, [], []⟩,
  ⟨45, false, false, 35184372088831, [], []⟩,
  ⟨46, false, false, 70368744177663, [], []⟩,
  ⟨47, true, false, 140737488355327, [], []⟩,
  ⟨48, false, false, 281474976710655, [], []⟩,
  ⟨49, false, false, 562949953421311, [], []⟩,
  ⟨50, true, false, 1125899906842623, [], []⟩]
theorem plan8_8_eq : Zh4 (Zi3 Try.f8 8) = some Zy9 := by kernel_rfl
def Zv8 : List Todo := [⟨0, false, true, 0, [], []⟩,
  ⟨1, true, false, 1, [4], []⟩,
  ⟨2, false, true, 0, [], []⟩,
  ⟨3, true, false, 7, [], []⟩,
  ⟨4, false, false, 15, [], []⟩,
  ⟨5, false, true, 31, [], []⟩,
  ⟨6, true, false, 63, [], []⟩,
  ⟨7, false, false, 127, [], []⟩,
  ⟨8, true, false, 255, [], []⟩]
theorem Zyk : Zh4 (Zi3 Try.f10 7) = some Zv8 := by kernel_rfl
def Zka : List Todo := [⟨0, false, true, 0, [], []⟩,
  ⟨1, true, false, 1, [1, 25], []⟩,
  ⟨2, false, false, 0, [], []⟩,
  ⟨3, false, true, 4, [], []⟩,
  ⟨4, false, true, 15, [], []⟩,
  ⟨5, true, false, 31, [], []⟩]
theorem Zyj : Zh4 (Zi3 Try.f12 5) = some Zka := by kernel_rfl
def Zv7 : List Todo := [⟨0, false, false, 0, [], []⟩,
  ⟨1, false, true, 1, [], []⟩,
  ⟨2, false, false, 0, [], []⟩,
  ⟨3, false, false, 7, [], []⟩,
  ⟨4, false, true, 15, [], []⟩,
  ⟨5, false, false, 0, [], []⟩,
  ⟨6, false, true, 32, [], []⟩,
  ⟨7, false, false, 0, [], []⟩,
  ⟨8, false, false, 224, [], []⟩,
  ⟨9, false, true, 480, [], []⟩,
  ⟨10, false, false, 1023, [], []⟩]
theorem Zyi : Zh4 (Zi3 Try.f13 6) = some Zv7 := by kernel_rfl
def Zfn : List Todo := [⟨0, true, false, 0, [2, 36], []⟩,
  ⟨1, false, false, 0, [], []⟩,
  ⟨2, false, true, 2, [], []⟩,
  ⟨3, false, true, 7, [], []⟩,
  ⟨4, true, false, 15, [], []⟩]
theorem Zlz : Zh4 (Zi3 Try.f17 10) = some Zfn := by kernel_rfl
def Zv6 : List Todo := [⟨0, false, false, 0, [], []⟩,
  ⟨1, true, false, 1, [], []⟩,
  ⟨2, false, false, 3, [], []⟩,
  ⟨3, false, false, 7, [], []⟩,
  ⟨4, false, false, 15, [], []⟩,
  ⟨5, false, false, 31, [], []⟩,
  ⟨6, false, false, 15, [], []⟩,
  ⟨7, false, false, 79, [], []⟩,
  ⟨8, false, false, 207, [], []⟩,
  ⟨9, false, false, 15, [], []⟩,
  ⟨10, false, false, 527, [], []⟩,
  ⟨11, false, false, 1999, [], []⟩,
  ⟨12, true, false, 4095, [], []⟩,
  ⟨13, false, false, 8191, [], []⟩,
  ⟨14, false, false, 16383, [], []⟩,
  ⟨15, false, false, 32767, [], []⟩,
  ⟨16, false, false, 65535, [], []⟩,
  ⟨17, false, false, 65535, [], []⟩,
  ⟨18, false, false, 196607, [], []⟩,
  ⟨19, false, false, 524287, [], []⟩,
  ⟨20, false, false, 65535, [], []⟩,
  ⟨21, false, false, 65535, [], []⟩,
  ⟨22, false, false, 2162687, [], []⟩,
  ⟨23, false, false, 7405567, [], []⟩,
  ⟨24, true, false, 15794175, [27, 27, 29, 27, 28, 30, 27], [0, 4]⟩,
  ⟨25, true, false, 32571391, [27, 27, 29, 27, 28, 30, 27], [0, 4]⟩,
  ⟨26, true, false, 67108863, [], []⟩,
  ⟨27, false, false, 134217727, [], []⟩,
  ⟨28, false, false, 268435455, [], []⟩,
  ⟨29, true, false, 536870911, [], []⟩]
theorem Zyh : Zh4 (Zi3 Try.f24 4) = some Zv6 := by kernel_rfl
def Zv5 : List Todo := [⟨0, false, false, 0, [], []⟩,
  ⟨1, false, true, 1, [], []⟩,
  ⟨2, false, false, 3, [], []⟩,
  ⟨3, false, false, 7, [], []⟩,
  ⟨4, false, false, 15, [], []⟩,
  ⟨5, false, true, 31, [], []⟩,
  ⟨6, false, false, 63, [], []⟩,
  ⟨7, false, false, 127, [], []⟩,
  ⟨8, false, true, 15, [], []⟩,
  ⟨9, true, false, 271, [1, 43, 44, 43, 45, 43, 46, 43], []⟩,
  ⟨10, false, false, 1023, [], []⟩,
  ⟨11, false, false, 2047, [], []⟩,
  ⟨12, false, false, 4095, [], []⟩,
  ⟨13, false, true, 8191, [], []⟩,
  ⟨14, true, false, 16383, [], []⟩,
  ⟨15, false, false, 32767, [], []⟩,
  ⟨16, false, false, 65535, [], []⟩]
theorem Zyg : Zh4 (Zi3 Try.f25 3) = some Zv5 := by kernel_rfl
def Zv4 : List Todo := [⟨0, false, false, 0, [], []⟩,
  ⟨1, false, false, 0, [], []⟩,
  ⟨2, false, false, 2, [], []⟩,
  ⟨3, true, false, 1, [7], [2]⟩,
  ⟨4, true, false, 15, [], []⟩]
theorem Zyf : Zh4 (Zi3 Try.f30 2) = some Zv4 := by kernel_rfl
def Zv3 : List Todo := [⟨0, false, false, 0, [], []⟩,
  ⟨1, false, false, 0, [], []⟩,
  ⟨2, false, false, 3, [], []⟩,
  ⟨3, false, true, 7, [], []⟩,
  ⟨4, false, false, 0, [], []⟩,
  ⟨5, false, false, 0, [], []⟩,
  ⟨6, false, false, 48, [], []⟩,
  ⟨7, false, true, 112, [], []⟩,
  ⟨8, false, false, 255, [], []⟩]
theorem Zye : Zh4 (Zi3 Try.f40 9) = some Zv3 := by kernel_rfl
def Zmz : List Todo := [⟨0, false, true, 0, [], []⟩,
  ⟨1, false, false, 0, [], []⟩,
  ⟨2, true, false, 2, [1], []⟩,
  ⟨3, false, false, 7, [], []⟩,
  ⟨4, false, false, 15, [], []⟩,
  ⟨5, true, false, 31, [], []⟩]
theorem Zp3 : Zh4 (Zi3 Try.f62 0) = some Zmz := by kernel_rfl
def Zq3 : List Todo := [⟨0, false, true, 0, [], []⟩,
  ⟨1, false, false, 0, [], []⟩,
  ⟨2, true, false, 2, [1], []⟩,
  ⟨3, false, false, 7, [], []⟩,
  ⟨4, false, false, 15, [], []⟩,
  ⟨5, true, false, 31, [], []⟩]
theorem Zsl : Zh4 (Zi3 Try.f62 1) = some Zq3 := by kernel_rfl
def Zq2 : List Todo := [⟨0, false, true, 0, [], []⟩,
  ⟨1, false, false, 0, [], []⟩,
  ⟨2, true, false, 2, [1], []⟩,
  ⟨3, false, false, 7, [], []⟩,
  ⟨4, false, false, 15, [], []⟩,
  ⟨5, true, false, 31, [], []⟩]
theorem Zsk : Zh4 (Zi3 Try.f64 0) = some Zq2 := by kernel_rfl
def Zq1 : List Todo := [⟨0, false, true, 0, [], []⟩,
  ⟨1, false, false, 0, [], []⟩,
  ⟨2, true, false, 2, [1], []⟩,
  ⟨3, false, false, 7, [], []⟩,
  ⟨4, false, false, 15, [], []⟩,
  ⟨5, false, false, 31, [], []⟩,
  ⟨6, true, false, 63, [], []⟩]
theorem Zsj : Zh4 (Zi3 Try.f66 0) = some Zq1 := by kernel_rfl
def Zl4 : List Todo := [⟨0, false, true, 0, [], []⟩,
  ⟨1, false, false, 0, [], []⟩,
  ⟨2, true, false, 2, [1], []⟩,
  ⟨3, false, false, 6, [], []⟩,
  ⟨4, false, false, 15, [], []⟩,
  ⟨5, false, false, 31, [], []⟩,
  ⟨6, true, false, 63, [], []⟩]
theorem Zmy : Zh4 (Zi3 Try.f68 0) = some Zl4 := by kernel_rfl
def Zmx : List Todo := [⟨0, false, true, 0, [], []⟩,
  ⟨1, false, false, 0, [], []⟩,
  ⟨2, true, false, 2, [1], []⟩,
  ⟨3, false, false, 7, [], []⟩,
  ⟨4, false, false, 15, [], []⟩,
  ⟨5, true, false, 31, [], []⟩]
theorem Zp2 : Zh4 (Zi3 Try.f68 1) = some Zmx := by kernel_rfl
def Zmw : List Todo := [⟨0, false, true, 0, [], []⟩,
  ⟨1, false, false, 0, [], []⟩,
  ⟨2, true, false, 2, [1], []⟩,
  ⟨3, false, false, 7, [], []⟩,
  ⟨4, false, false, 15, [], []⟩,
  ⟨5, true, false, 31, [], []⟩]
theorem Zp1 : Zh4 (Zi3 Try.f70 0) = some Zmw := by kernel_rfl
def Zq0 : List Todo := [⟨0, false, true, 0, [], []⟩,
  ⟨1, false, false, 0, [], []⟩,
  ⟨2, true, false, 2, [1], []⟩,
  ⟨3, false, false, 7, [], []⟩,
  ⟨4, false, false, 15, [], []⟩,
  ⟨5, true, false, 31, [], []⟩]
theorem Zsi : Zh4 (Zi3 Try.f70 1) = some Zq0 := by kernel_rfl
def Zpz : List Todo := [⟨0, false, true, 0, [], []⟩,
  ⟨1, false, false, 0, [], []⟩,
  ⟨2, true, false, 2, [1], []⟩,
  ⟨3, false, false, 7, [], []⟩,
  ⟨4, false, false, 15, [], []⟩,
  ⟨5, true, false, 31, [], []⟩]
theorem Zsh : Zh4 (Zi3 Try.f71 0) = some Zpz := by kernel_rfl
def Zl3 : List Todo := [⟨0, false, true, 0, [], []⟩,
  ⟨1, false, false, 0, [], []⟩,
  ⟨2, true, false, 2, [1], []⟩,
  ⟨3, false, false, 7, [], []⟩,
  ⟨4, false, false, 15, [], []⟩,
  ⟨5, true, false, 31, [], []⟩]
theorem Zmv : Zh4 (Zi3 Try.f72 0) = some Zl3 := by kernel_rfl
def Zpy : List Todo := [⟨0, false, true, 0, [], []⟩,
  ⟨1, false, false, 0, [], []⟩,
  ⟨2, true, false, 2, [1], []⟩,
  ⟨3, false, false, 7, [], []⟩,
  ⟨4, false, false, 15, [], []⟩,
  ⟨5, true, false, 31, [], []⟩]
theorem Zsg : Zh4 (Zi3 Try.f72 2) = some Zpy := by kernel_rfl
def Zv2 : List Todo := [⟨0, false, false, 0, [], []⟩,
  ⟨1, false, false, 0, [], []⟩,
  ⟨2, false, false, 3, [], []⟩,
  ⟨3, false, true, 7, [], []⟩,
  ⟨4, false, false, 0, [], []⟩,
  ⟨5, false, false, 0, [], []⟩,
  ⟨6, false, false, 48, [], []⟩,
  ⟨7, false, true, 112, [], []⟩,
  ⟨8, false, false, 255, [], []⟩]
theorem Zyd : Zh4 (Zi3 Try.f79 6) = some Zv2 := by kernel_rfl
def Zv1 : List Todo := [⟨0, false, false, 0, [], []⟩,
  ⟨1, false, false, 0, [], []⟩,
  ⟨2, false, false, 0, [], []⟩,
  ⟨3, false, false, 0, [], []⟩,
  ⟨4, false, false, 0, [], []⟩,
  ⟨5, false, false, 0, [], []⟩,
  ⟨6, false, false, 48, [], []⟩,
  ⟨7, false, true, 112, [], []⟩,
  ⟨8, false, false, 0, [], []⟩,
  ⟨9, false, false, 0, [], []⟩,
  ⟨10, false, false, 768, [], []⟩,
  ⟨11, false, true, 1792, [], []⟩,
  ⟨12, false, false, 4083, [], []⟩,
  ⟨13, true, false, 8179, [], [0, 3]⟩,
  ⟨14, false, false, 16383, [], []⟩,
  ⟨15, true, false, 32767, [], []⟩]
theorem Zyc : Zh4 (Zi3 Try.f81 3) = some Zv1 := by kernel_rfl
def Zv0 : List Todo := [⟨0, false, false, 0, [], []⟩,
  ⟨1, false, false, 0, [], []⟩,
  ⟨2, false, false, 2, [], []⟩,
  ⟨3, false, true, 6, [], []⟩,
  ⟨4, false, false, 14, [], []⟩,
  ⟨5, false, false, 30, [], []⟩,
  ⟨6, false, false, 63, [], []⟩,
  ⟨7, false, false, 0, [], []⟩,
  ⟨8, false, false, 0, [], []⟩,
  ⟨9, false, false, 256, [], []⟩,
  ⟨10, false, true, 768, [], []⟩,
  ⟨11, false, false, 1792, [], []⟩,
  ⟨12, false, false, 3840, [], []⟩,
  ⟨13, false, false, 8064, [], []⟩,
  ⟨14, true, false, 511, [26, 27, 28, 29, 25, 30], []⟩,
  ⟨15, true, false, 32767, [], []⟩]
theorem Zyb : Zh4 (Zi3 Try.f85 3) = some Zv0 := by kernel_rfl
def Zuz : List Todo := [⟨0, false, false, 0, [], []⟩,
  ⟨1, false, false, 1, [], []⟩,
  ⟨2, false, false, 0, [], []⟩,
  ⟨3, true, false, 4, [32], [0]⟩,
  ⟨4, true, false, 15, [], []⟩,
  ⟨5, true, false, 31, [], []⟩,
  ⟨6, true, false, 63, [], []⟩]
theorem Zya : Zh4 (Zi3 Try.f85 4) = some Zuz := by kernel_rfl
end Go.Abs
namespace Go.Abs
open Go Go.Proofs
set_option maxRecDepth 10000
set_option maxHeartbeats 1000000
theorem Zft {n : Int} (h1 : -9223372036854775808 ≤ n) (h2 : n ≤ 9223372036854775807) : IntKind.i64.wrap n = n := by
  rw [IntKind.wrap_i64]; omega
theorem w79 (a b : D) (xs ys : List Int) (ha : Rd a (isE xs)) (hb : Rd b (isE ys)) (hx : xs.length ≤ 1099511627776) (h : List O) : wc 79 [a, b] h = some (.val (.bool (decide (xs = ys))), h) := by
  have la : ∀ H, len0 Try.prog 22 a H = some xs.length := fun H => by rw [Zk1 Try.underlying22 ha.sl]; simp [isE]
  have lb : ∀ H, len0 Try.prog 22 b H = some ys.length := fun H => by rw [Zk1 Try.underlying22 hb.sl]; simp [isE]
  have hcv : ∀ i, wcv 79 i = [] := fun _ => rfl
  have hres : Try.f79.results.toList = [ResultVar.tmp 4] := rfl
  rw [wc, Zbm rfl Try.func79 rfl]
  simp only [Zbj, Yap, Yaq, Nat.reduceAdd, Nat.reduceSub, Yae, Yaj, Yar, Zai, Za7, Za3, Zae, Zan, Zbd, Za9, Yao, Yan, Yau, ne_eq, reduceCtorEq, not_false_eq_true, implies_true, Ya2, Yas, Yat, Yak, Yal, Za4, Za0, Za6, Zap, Zab, Zax, Zem, Zdm, Zd0, Yah, Yaw, Yaz, Za1 (hcv _), Try.ntmps79, ha.ownD, hb.ownD, la, lb]
  by_cases hl : xs.length = ys.length
  rotate_left
  · have e1 : ((xs.length : Int) != (ys.length : Int)) = true := by simp; omega
    simp only [Zai, Zb2, Zak, Za3, Zc0, Zae, Zan, Za9, ne_eq, reduceCtorEq, not_false_eq_true, implies_true, Ya2, Yas, Yat, Yak, Yal, Zau, Za0, Za2, Zap, Zax, Zb3, Zad, Zac, Zal, Zav, Zcq, Zbr, and_true, Option.some.injEq, Prod.mk.injEq, Za1 (hcv _), hres, e1]
    have : ¬ xs = ys := fun e => hl (by rw [e])
    simp [this]
  have e1 : ((xs.length : Int) != (ys.length : Int)) = false := by simp [hl]
  simp only [Zai, Zbw, Zc5, Zao, Za3, Zae, Zan, Zbd, Za9, Yao, Yan, Yau, ne_eq, reduceCtorEq, not_false_eq_true, implies_true, Ya2, Yas, Yat, Yak, Yal, Za4, Zea, Zab, Zam, Zd0, Yah, Yaz, Za1 (hcv _), e1, ha.ownD, la]
  refine Zff (fun (n : Nat) (s : St) => ∃ i : Nat, (i + n = xs.length ∧ xs.take i = ys.take i) ∧ ∃ zs_, s = ⟨mkT [some (a), some (b), none, none, some (.e (.bool false)), none, none, none, none, none, none, none, some (.int .i64 xs.length), some (.int .i64 i), none, none, none, none, none, none, none, none, none, none, none, none] zs_ 0, [], .no, h⟩) ?_ (xs.length) ⟨0, ⟨by omega, by simp⟩, Zd8 rfl rfl rfl rfl⟩
  rintro n _ ⟨i, hf_l, zs_l, rfl⟩ IH_l
  obtain ⟨hn, ht⟩ := hf_l
  by_cases hi : i < xs.length
  rotate_left
  · have e2 : decide ((i : Int) < xs.length) = false := by simp; omega
    simp only [Nat.reduceAdd, Zai, Zb2, Zfv, Za7, Zao, Za3, Zeq, Zer, Ze2, Zae, Zan, Za9, ne_eq, reduceCtorEq, not_false_eq_true, implies_true, Ya2, Yas, Yat, Yak, Yal, Zau, ↓reduceIte, Za0, Za6, Za2, Zap, Zab, Zax, Zc6, Zbs, Zb3, Zad, Zac, Zal, Zav, Zcq, Zbr, and_true, Option.some.injEq, Prod.mk.injEq, mkT, Yaw, Za1 (hcv _), hres, e2]
    have : xs = ys := by
      rw [List.take_of_length_le (by omega), List.take_of_length_le (by omega)] at ht; exact ht
    simp [this]
  have e2 : decide ((i : Int) < xs.length) = true := by simp; omega
  have hxi : xs[i]? = some xs[i] := List.getElem?_eq_getElem hi
  have hyi : ys[i]? = some (ys[i]'(by omega)) := List.getElem?_eq_getElem (by omega)
  generalize xs[i] = x at hxi
  generalize ys[i]'(by omega) = y at hyi
  have ia : Zeh Try.prog 22 a (.e (.int .i64 i)) = some (.rptr [.int .i64 x] 0) := Zxc Try.underlying22 sz3 ha.sl (by omega) (by simp [isE, hxi]) rfl (by omega)
  have ib : Zeh Try.prog 22 b (.e (.int .i64 i)) = some (.rptr [.int .i64 y] 0) := Zxc Try.underlying22 sz3 hb.sl (by omega) (by simp [isE, hyi]) rfl (by omega)
  have hw : IntKind.i64.wrap ((i : Int) + 1) = ((i + 1 : Nat) : Int) := by rw [Zft (by omega) (by omega)]; omega
  simp only [Nat.reduceAdd, Zai, Zbw, Zc5, Za7, Zak, Za3, Zae, Zan, Za9, ne_eq, reduceCtorEq, not_false_eq_true, implies_true, Ya2, Yas, Yat, Yak, Yal, Zau, Za4, Za0, Za6, Za2, Zab, Zc6, Zbs, mkT, Yaw, Za1 (hcv _), e2]
  refine (Zed (l := Zv2) (by exact Zyd)).trans ?_
  simp only [Yap, Yaq, Za7, Za3, Yao, Yam, Yan, Yau, ne_eq, reduceCtorEq, not_false_eq_true, implies_true, Ya2, Yas, Yat, Yak, Yal, Zau, Yax, Yay, ↓reduceIte, Za6, Zbo, Zaf, Zab, Zem, Zdm, List.toList_toArray, Option.some.injEq, Zdy, kd_l, Zc3, Zc2, kd_r, Zc4, Zdo, Zc7, Zbc, Zbv, Zaz, Zd1, Zcv, Zcb, Zlr, Zby, Zbx, Zgk, Zg9, Op.operands, Zdn, List.foldl_nil, Ze3, Zj0, Yb3, Yaw, Nat.le_refl, sz3, ag3, hcv, Zv2, ha.ownD, hb.ownD, ia, ib]
  by_cases hxy : x = y
  · subst hxy
    have e3 : (x != x) = false := by simp
    simp only [Zbw, Zao, Za3, Zcd, Zdx, Zae, Zan, Za9, ne_eq, reduceCtorEq, not_false_eq_true, implies_true, Ya2, Yas, Yat, Yak, Yal, Zau, Za4, Za6, Zab, Zag, Zam, Zdc, Zcz, Za1 (hcv _), e3, hw]
    refine IH_l (xs.length - (i + 1)) _ (by omega) ⟨i + 1, ⟨by omega, by rw [List.take_add_one, List.take_add_one, ht, hxi, hyi]⟩, Zd8 rfl rfl rfl rfl⟩
  · have e3 : (x != y) = true := by simp [hxy]
    simp only [Zai, Zb2, Zak, Za3, Zc0, Zd3, Zgh, Zae, Zan, Za9, ne_eq, reduceCtorEq, not_false_eq_true, implies_true, Ya2, Yas, Yat, Yak, Yal, Zau, Za0, Za2, Zap, Zax, Zb3, Zad, Zac, Zal, Zav, Zcq, Zbr, and_true, Option.some.injEq, Prod.mk.injEq, Za1 (hcv _), hres, e3]
    have : ¬ xs = ys := fun e => by subst e; rw [hxi] at hyi; cases hyi; exact hxy rfl
    simp [this]
end Go.Abs
