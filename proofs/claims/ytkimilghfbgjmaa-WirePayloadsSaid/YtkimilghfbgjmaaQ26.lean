/-
  WIRE: what a message of its kind has is not read. WIRE: heads, read or not. WIRE: what is taken is what would be put. No condition.
-/
import Derived.Test.YtkimilghfbgjmaaQ25

open List renaming all_cons → Ybu, all_nil → Ybk, cons_append → Yaj, foldl_nil → Ybl, getD_cons_succ → Yak, getD_cons_zero → Yal, getElem?_cons_succ → Yam, getElem?_cons_zero → Yan, getElem?_toArray → Yao, length_cons → Yap, length_nil → Yaq, nil_append → Yar, replicate → Yae, set_cons_succ → Yas, set_cons_zero → Yat
open Option renaming bind_some → Yau, map_some → Ya2
open Bool renaming and_self → Ybm, false_eq_true → Yav, not_false → Ybg
open Nat renaming le_refl → Yab, testBit → Yby, zero_add → Yaw
namespace Go.Abs
open Go Go.Proofs
set_option maxRecDepth 10000
set_option maxHeartbeats 8000000
def BadC (f : FuncId) (h : List O) (m : Msg) (lst e0 : D) (l : List UInt8) (hs : List D) (mp : O) : Prop :=
  ∃ (cM : List D) (d' : D), cM.length = 15 ∧ (∀ n, Fit n d') ∧ wc f [.ptr (h.length + 2) 0, .ptr (h.length + 5) 0] (h ++ [.cells (m.cs lst), .cells [e0], .cells [rdC l], .cells hs, .cells [.ptr (h.length + 2) 0], .cells [.ptr h.length 0], mp]) = some (.pan ferr, h ++ [.cells (cM), .cells [e0], .cells [d'], .cells hs, .cells [.ptr (h.length + 2) 0], .cells [.ptr h.length 0], mp])
section
variable (h : List O) (m : Msg) (lst e0 : D) (l : List UInt8) (hs : List D) (mp : O) (hl : l.length ≤ 100000)
  include hl
theorem x62a (t1 : parN l = none) : BadC 62 h m lst e0 l hs mp := by
  obtain ⟨d', hd', a1⟩ := Znq (h ++ [.cells (m.cs lst), .cells [e0], .cells [rdC l], .cells hs, .cells [.ptr (h.length + 2) 0], .cells [.ptr h.length 0], mp]) (h.length + 2) l (by simp [Zbn]) hl t1
  simp only [Msg.cs, Zdh, ferr] at a1
  refine ⟨m.cs lst, d', rfl, hd', ?_⟩
  simp only [ferr]
  have hcv : ∀ i, wcv 62 i = [] := fun _ => rfl
  have hres : Try.f62.results.toList = [] := rfl
  rw [wc, Zbm rfl Try.func62 rfl]
  simp only [Zbj, Yap, Yaq, Nat.reduceAdd, Nat.reduceSub, Yae, Yaj, Yar, Zai, Yaw, Try.ntmps62]
  refine (Zed (l := Zmz) (by exact Zp3)).trans ?_
  simp only [Yap, Yaq, Nat.reduceAdd, Ze7, Yao, Yam, Yan, Yau, ne_eq, reduceCtorEq, not_false_eq_true, implies_true, Ybg, Yav, Yas, Yat, Yak, Yal, Zb5, ↓reduceIte, Za2, Zab, Zaq, Zah, Zgs, Zdw, Option.some.injEq, kd_l, Zc3, Zc2, kd_r, Zc4, Zdo, Zc7, Zbc, Zbv, Zaz, Zd1, Zcb, Zcu, Zdn, Ybl, Zbe, Zbk, Zcr, hlen, Za8, Yaw, Yab, hcv, kd_h, Zbz, Zcj, Zck, Zc1, Ybu, Ybk, Ybm, Zmz, a1, Msg.cs, sz67, ag67, Zfa, Zf7, Ze6, Zlp, show Yby 7 2 = true by decide, show Yby 15 2 = true by decide, show Yby 31 2 = true by decide]
theorem x62b {k : Nat} {r1 : List UInt8} (t1 : parN l = some (k, r1)) (t2 : parB r1 = none) : BadC 62 h m lst e0 l hs mp := by
  have b1 := Zf1 t1
  have a1 := Zi9 (h ++ [.cells (m.cs lst), .cells [e0], .cells [rdC l], .cells hs, .cells [.ptr (h.length + 2) 0], .cells [.ptr h.length 0], mp]) (h.length + 2) l (by simp [Zbn]) hl t1
  obtain ⟨d', hd', a2⟩ := Zy5 (h ++ [.cells (({ m with key := k } : Msg).cs lst), .cells [e0], .cells [rdC r1], .cells hs, .cells [.ptr (h.length + 2) 0], .cells [.ptr h.length 0], mp]) (h.length + 2) r1 (by simp [Zbn]) (by omega) t2
  simp only [Msg.cs, Zdh, ferr] at a1 a2
  refine ⟨({ m with key := k } : Msg).cs lst, d', rfl, hd', ?_⟩
  simp only [ferr]
  have hcv : ∀ i, wcv 62 i = [] := fun _ => rfl
  have hres : Try.f62.results.toList = [] := rfl
  rw [wc, Zbm rfl Try.func62 rfl]
  simp only [Zbj, Yap, Yaq, Nat.reduceAdd, Nat.reduceSub, Yae, Yaj, Yar, Zai, Yaw, Try.ntmps62]
  refine (Zed (l := Zmz) (by exact Zp3)).trans ?_
  simp only [Yap, Yaq, Nat.reduceAdd, Yaj, Yar, Za3, Yao, Yam, Yan, Yau, Nat.reduceLeDiff, ne_eq, reduceCtorEq, not_false_eq_true, implies_true, Ybg, Yav, Ya2, Yas, Yat, Yak, Yal, Zau, Zb5, List.any_cons, List.any_nil, ↓reduceIte, Zbb, Zbl, Za5, Za2, Zab, Zaq, Zah, and_self, List.toList_toArray, Option.some.injEq, Zdy, kd_l, Zc3, Zc2, kd_r, Zc4, Zdo, Zc7, Zbc, Zbv, Zaz, Zd1, Zcv, Zcb, Zcu, Zby, Zbx, Zdt, Zbp, Op.operands, Zdn, Ybl, Zar, Zbe, Zbk, Zcr, Zet, Za8, Zba, Zb9, Zb1, Zc9, Zcl, Zco, List.take_succ_cons, List.take_zero, List.drop_succ_cons, List.drop_zero, Zaa, Bool.or_self, Yaw, Nat.succ_ne_zero, Yab, sz3, st27, hcv, kd_h, Zbz, Zcj, Zck, Zes, Zdp, Zdf, Zgm, Zc1, Zce, Zcc, Ybu, Ybk, Ybm, Zmz, a1, Msg.cs, sz67, ag67, Zfa, Zf7]
  refine (Zed (l := Zq3) (by exact Zsl)).trans ?_
  simp only [Yap, Yaq, Nat.reduceAdd, Yao, Yam, Yan, Yau, ne_eq, reduceCtorEq, not_false_eq_true, implies_true, Ybg, Yav, Yas, Yat, Yak, Yal, Zb5, ↓reduceIte, Za2, Zab, Zaq, Zah, Zgs, Zdw, Option.some.injEq, kd_l, Zc3, Zc2, kd_r, Zc4, Zdo, Zc7, Zbc, Zbv, Zaz, Zd1, Zcb, Zcu, Zdn, Ybl, Zbe, Zbk, Zcr, hlen, Za8, Yaw, Yab, hcv, kd_h, Zbz, Zcj, Zck, Zc1, Ybu, Ybk, Ybm, Zq3, a2, sz67, ag67, Zfa, Zf7, Ze6, Zlp, show Yby 7 2 = true by decide, show Yby 15 2 = true by decide, show Yby 31 2 = true by decide]
theorem x64a (t1 : parP l = none) : BadC 64 h m lst e0 l hs mp := by
  obtain ⟨d', hd', a1⟩ := r65_bad (h ++ [.cells (m.cs lst), .cells [e0], .cells [rdC l], .cells hs, .cells [.ptr (h.length + 2) 0], .cells [.ptr h.length 0], mp]) (h.length + 2) l (by simp [Zbn]) hl t1
  simp only [Msg.cs, Zdh, ferr] at a1
  refine ⟨m.cs lst, d', rfl, hd', ?_⟩
  simp only [ferr]
  have hcv : ∀ i, wcv 64 i = [] := fun _ => rfl
  have hres : Try.f64.results.toList = [] := rfl
  rw [wc, Zbm rfl Try.func64 rfl]
  simp only [Zbj, Yap, Yaq, Nat.reduceAdd, Nat.reduceSub, Yae, Yaj, Yar, Yaw, Try.ntmps64]
  refine (Zed (l := Zq2) (by exact Zsk)).trans ?_
  simp only [Yap, Yaq, Nat.reduceAdd, Yao, Yam, Yan, Yau, ne_eq, reduceCtorEq, not_false_eq_true, implies_true, Ybg, Yav, Yas, Yat, Yak, Yal, Zb5, ↓reduceIte, Za2, Zab, Zaq, Zah, Zgs, Zdw, Option.some.injEq, kd_l, Zc3, Zc2, kd_r, Zc4, Zdo, Zc7, Zbc, Zbv, Zaz, Zd1, Zcb, Zcu, Zdn, Ybl, Zbe, Zbk, Zcr, hlen, Za8, Yaw, Yab, hcv, kd_h, Zbz, Zcj, Zck, Zc1, Ybu, Ybk, Ybm, Zq2, a1, Msg.cs, sz67, ag67, Zfa, Zf7, Ze6, Zlp, show Yby 7 2 = true by decide, show Yby 15 2 = true by decide, show Yby 31 2 = true by decide]
theorem x66a (t1 : Znh l = none) : BadC 66 h m lst e0 l hs mp := by
  obtain ⟨d', hd', a1⟩ := r67_bad (h ++ [.cells (m.cs lst), .cells [e0], .cells [rdC l], .cells hs, .cells [.ptr (h.length + 2) 0], .cells [.ptr h.length 0], mp]) (h.length + 2) l (by simp [Zbn]) hl t1
  simp only [Msg.cs, Zdh, ferr] at a1
  refine ⟨m.cs lst, d', rfl, hd', ?_⟩
  simp only [ferr]
  have hcv : ∀ i, wcv 66 i = [] := fun _ => rfl
  have hres : Try.f66.results.toList = [] := rfl
  rw [wc, Zbm rfl Try.func66 rfl]
  simp only [Zbj, Yap, Yaq, Nat.reduceAdd, Nat.reduceSub, Yae, Yaj, Yar, Yaw, Try.ntmps66]
  refine (Zed (l := Zq1) (by exact Zsj)).trans ?_
  simp only [Yap, Yaq, Nat.reduceAdd, Yao, Yam, Yan, Yau, ne_eq, reduceCtorEq, not_false_eq_true, implies_true, Ybg, Yav, Yas, Yat, Yak, Yal, Zb5, ↓reduceIte, Za2, Zab, Zaq, Zah, Zgs, Zdw, Option.some.injEq, kd_l, Zc3, Zc2, kd_r, Zc4, Zdo, Zc7, Zbc, Zbv, Zaz, Zd1, Zcb, Zcu, Zdn, Ybl, Zbe, Zbk, Zcr, hlen, Za8, Yaw, Yab, hcv, kd_h, Zbz, Zcj, Zck, Zc1, Ybu, Ybk, Ybm, Zq1, a1, Msg.cs, sz67, ag67, Zfa, Zf7, Ze6, Zlp, show Yby 7 2 = true by decide, show Yby 15 2 = true by decide, show Yby 31 2 = true by decide, show Yby 63 2 = true by decide]
theorem x68a (t1 : parN l = none) : BadC 68 h m lst e0 l hs mp := by
  obtain ⟨d', hd', a1⟩ := Znq (h ++ [.cells (m.cs lst), .cells [e0], .cells [rdC l], .cells hs, .cells [.ptr (h.length + 2) 0], .cells [.ptr h.length 0], mp]) (h.length + 2) l (by simp [Zbn]) hl t1
  simp only [Msg.cs, Zdh, ferr] at a1
  refine ⟨m.cs lst, d', rfl, hd', ?_⟩
  simp only [ferr]
  have hcv : ∀ i, wcv 68 i = [] := fun _ => rfl
  have hres : Try.f68.results.toList = [] := rfl
  rw [wc, Zbm rfl Try.func68 rfl]
  simp only [Zbj, Yap, Yaq, Nat.reduceAdd, Nat.reduceSub, Yae, Yaj, Yar, Zai, Yaw, Try.ntmps68]
  refine (Zed (l := Zl4) (by exact Zmy)).trans ?_
  simp only [Yap, Yaq, Nat.reduceAdd, Ze7, Yao, Yam, Yan, Yau, ne_eq, reduceCtorEq, not_false_eq_true, implies_true, Ybg, Yav, Yas, Yat, Yak, Yal, Zb5, ↓reduceIte, Za2, Zab, Zaq, Zah, Zgs, Zdw, Option.some.injEq, kd_l, Zc3, Zc2, kd_r, Zc4, Zdo, Zc7, Zbc, Zbv, Zaz, Zd1, Zcb, Zcu, Zdn, Ybl, Zbe, Zbk, Zcr, hlen, Za8, Yaw, Yab, hcv, kd_h, Zbz, Zcj, Zck, Zc1, Ybu, Ybk, Ybm, Zl4, a1, Msg.cs, sz67, ag67, Zfa, Zf7, Ze6, Zlp, show Yby 6 2 = true by decide, show Yby 15 2 = true by decide, show Yby 31 2 = true by decide, show Yby 63 2 = true by decide]
theorem x68b {k : Nat} {r1 : List UInt8} (t1 : parN l = some (k, r1)) (t2 : parL r1 = none) : BadC 68 h m lst e0 l hs mp := by
  have b1 := Zf1 t1
  have a1 := Zi9 (h ++ [.cells (m.cs lst), .cells [e0], .cells [rdC l], .cells hs, .cells [.ptr (h.length + 2) 0], .cells [.ptr h.length 0], mp]) (h.length + 2) l (by simp [Zbn]) hl t1
  obtain ⟨d', hd', a2⟩ := r69_bad (h ++ [.cells (({ m with pred := IntKind.i64.wrap ((k : Int) - 1) } : Msg).cs lst), .cells [e0], .cells [rdC r1], .cells hs, .cells [.ptr (h.length + 2) 0], .cells [.ptr h.length 0], mp]) (h.length + 2) r1 (by simp [Zbn]) (by omega) t2
  simp only [Msg.cs, Zdh, ferr] at a1 a2
  refine ⟨({ m with pred := IntKind.i64.wrap ((k : Int) - 1) } : Msg).cs lst, d', rfl, hd', ?_⟩
  simp only [ferr]
  have hcv : ∀ i, wcv 68 i = [] := fun _ => rfl
  have hres : Try.f68.results.toList = [] := rfl
  rw [wc, Zbm rfl Try.func68 rfl]
  simp only [Zbj, Yap, Yaq, Nat.reduceAdd, Nat.reduceSub, Yae, Yaj, Yar, Zai, Yaw, Try.ntmps68]
  refine (Zed (l := Zl4) (by exact Zmy)).trans ?_
  simp only [Yap, Yaq, Nat.reduceAdd, Yaj, Yar, Za3, Yao, Yam, Yan, Yau, Nat.reduceLeDiff, ne_eq, reduceCtorEq, not_false_eq_true, implies_true, Ybg, Yav, Ya2, Yas, Yat, Yak, Yal, Zau, Zb5, List.any_cons, List.any_nil, ↓reduceIte, Za6, Zbb, Zbl, Za5, Za2, Zab, Zag, Zaq, Zah, Zam, Zgn, Zg1, and_self, List.toList_toArray, Option.some.injEq, Zdy, kd_l, Zc3, Zc2, kd_r, Zc4, Zdo, Zc7, Zbc, Zbv, Zaz, Zd1, Zcv, Zcb, Zcu, Zby, Zbx, Zdz, Zdt, Zgk, Zbp, Op.operands, Zdn, Ybl, Zar, Zbe, Zbk, Zcr, Zet, Za8, Zba, Zb9, Zb1, Zc9, Zcl, Zco, List.take_succ_cons, List.take_zero, List.drop_succ_cons, List.drop_zero, Zaa, Bool.or_self, Yaw, Nat.succ_ne_zero, Yab, sz3, st27, hcv, kd_h, Zbz, Zcj, Zck, Zes, Zdp, Zdf, Zgm, Zc1, Zce, Zcc, Ybu, Ybk, Ybm, Zl4, a1, Msg.cs, sz67, ag67, Zfa, Zf7]
  refine (Zed (l := Zmx) (by exact Zp2)).trans ?_
  simp only [Yap, Yaq, Nat.reduceAdd, Yao, Yam, Yan, Yau, ne_eq, reduceCtorEq, not_false_eq_true, implies_true, Ybg, Yav, Yas, Yat, Yak, Yal, Zb5, ↓reduceIte, Za2, Zab, Zaq, Zah, Zgs, Zdw, Option.some.injEq, kd_l, Zc3, Zc2, kd_r, Zc4, Zdo, Zc7, Zbc, Zbv, Zaz, Zd1, Zcb, Zcu, Zdn, Ybl, Zbe, Zbk, Zcr, hlen, Za8, Yaw, Yab, hcv, kd_h, Zbz, Zcj, Zck, Zc1, Ybu, Ybk, Ybm, Zmx, a2, sz67, ag67, Zfa, Zf7, Ze6, Zlp, show Yby 7 2 = true by decide, show Yby 15 2 = true by decide, show Yby 31 2 = true by decide]
theorem x70a (t1 : parN l = none) : BadC 70 h m lst e0 l hs mp := by
  obtain ⟨d', hd', a1⟩ := Znq (h ++ [.cells (m.cs lst), .cells [e0], .cells [rdC l], .cells hs, .cells [.ptr (h.length + 2) 0], .cells [.ptr h.length 0], mp]) (h.length + 2) l (by simp [Zbn]) hl t1
  simp only [Msg.cs, Zdh, ferr] at a1
  refine ⟨m.cs lst, d', rfl, hd', ?_⟩
  simp only [ferr]
  have hcv : ∀ i, wcv 70 i = [] := fun _ => rfl
  have hres : Try.f70.results.toList = [] := rfl
  rw [wc, Zbm rfl Try.func70 rfl]
  simp only [Zbj, Yap, Yaq, Nat.reduceAdd, Nat.reduceSub, Yae, Yaj, Yar, Zai, Yaw, Try.ntmps70]
  refine (Zed (l := Zmw) (by exact Zp1)).trans ?_
  simp only [Yap, Yaq, Nat.reduceAdd, Ze7, Yao, Yam, Yan, Yau, ne_eq, reduceCtorEq, not_false_eq_true, implies_true, Ybg, Yav, Yas, Yat, Yak, Yal, Zb5, ↓reduceIte, Za2, Zab, Zaq, Zah, Zgs, Zdw, Option.some.injEq, kd_l, Zc3, Zc2, kd_r, Zc4, Zdo, Zc7, Zbc, Zbv, Zaz, Zd1, Zcb, Zcu, Zdn, Ybl, Zbe, Zbk, Zcr, hlen, Za8, Yaw, Yab, hcv, kd_h, Zbz, Zcj, Zck, Zc1, Ybu, Ybk, Ybm, Zmw, a1, Msg.cs, sz67, ag67, Zfa, Zf7, Ze6, Zlp, show Yby 7 2 = true by decide, show Yby 15 2 = true by decide, show Yby 31 2 = true by decide]
theorem x70b {k : Nat} {r1 : List UInt8} (t1 : parN l = some (k, r1)) (t2 : parB r1 = none) : BadC 70 h m lst e0 l hs mp := by
  have b1 := Zf1 t1
  have a1 := Zi9 (h ++ [.cells (m.cs lst), .cells [e0], .cells [rdC l], .cells hs, .cells [.ptr (h.length + 2) 0], .cells [.ptr h.length 0], mp]) (h.length + 2) l (by simp [Zbn]) hl t1
  obtain ⟨d', hd', a2⟩ := Zy5 (h ++ [.cells (({ m with place := k } : Msg).cs lst), .cells [e0], .cells [rdC r1], .cells hs, .cells [.ptr (h.length + 2) 0], .cells [.ptr h.length 0], mp]) (h.length + 2) r1 (by simp [Zbn]) (by omega) t2
  simp only [Msg.cs, Zdh, ferr] at a1 a2
  refine ⟨({ m with place := k } : Msg).cs lst, d', rfl, hd', ?_⟩
  simp only [ferr]
  have hcv : ∀ i, wcv 70 i = [] := fun _ => rfl
  have hres : Try.f70.results.toList = [] := rfl
  rw [wc, Zbm rfl Try.func70 rfl]
  simp only [Zbj, Yap, Yaq, Nat.reduceAdd, Nat.reduceSub, Yae, Yaj, Yar, Zai, Yaw, Try.ntmps70]
  refine (Zed (l := Zmw) (by exact Zp1)).trans ?_
  simp only [Yap, Yaq, Nat.reduceAdd, Yaj, Yar, Za3, Yao, Yam, Yan, Yau, Nat.reduceLeDiff, ne_eq, reduceCtorEq, not_false_eq_true, implies_true, Ybg, Yav, Ya2, Yas, Yat, Yak, Yal, Zau, Zb5, List.any_cons, List.any_nil, ↓reduceIte, Zbb, Zbl, Za5, Za2, Zab, Zaq, Zah, and_self, List.toList_toArray, Option.some.injEq, Zdy, kd_l, Zc3, Zc2, kd_r, Zc4, Zdo, Zc7, Zbc, Zbv, Zaz, Zd1, Zcv, Zcb, Zcu, Zby, Zbx, Zdt, Zbp, Op.operands, Zdn, Ybl, Zar, Zbe, Zbk, Zcr, Zet, Za8, Zba, Zb9, Zb1, Zc9, Zcl, Zco, List.take_succ_cons, List.take_zero, List.drop_succ_cons, List.drop_zero, Zaa, Bool.or_self, Yaw, Nat.succ_ne_zero, Yab, sz3, st27, hcv, kd_h, Zbz, Zcj, Zck, Zes, Zdp, Zdf, Zgm, Zc1, Zce, Zcc, Ybu, Ybk, Ybm, Zmw, a1, Msg.cs, sz67, ag67, Zfa, Zf7]
  refine (Zed (l := Zq0) (by exact Zsi)).trans ?_
  simp only [Yap, Yaq, Nat.reduceAdd, Yao, Yam, Yan, Yau, ne_eq, reduceCtorEq, not_false_eq_true, implies_true, Ybg, Yav, Yas, Yat, Yak, Yal, Zb5, ↓reduceIte, Za2, Zab, Zaq, Zah, Zgs, Zdw, Option.some.injEq, kd_l, Zc3, Zc2, kd_r, Zc4, Zdo, Zc7, Zbc, Zbv, Zaz, Zd1, Zcb, Zcu, Zdn, Ybl, Zbe, Zbk, Zcr, hlen, Za8, Yaw, Yab, hcv, kd_h, Zbz, Zcj, Zck, Zc1, Ybu, Ybk, Ybm, Zq0, a2, sz67, ag67, Zfa, Zf7, Ze6, Zlp, show Yby 7 2 = true by decide, show Yby 15 2 = true by decide, show Yby 31 2 = true by decide]
theorem x71a (t1 : parN l = none) : BadC 71 h m lst e0 l hs mp := by
  obtain ⟨d', hd', a1⟩ := Znq (h ++ [.cells (m.cs lst), .cells [e0], .cells [rdC l], .cells hs, .cells [.ptr (h.length + 2) 0], .cells [.ptr h.length 0], mp]) (h.length + 2) l (by simp [Zbn]) hl t1
  simp only [Msg.cs, Zdh, ferr] at a1
  refine ⟨m.cs lst, d', rfl, hd', ?_⟩
  simp only [ferr]
  have hcv : ∀ i, wcv 71 i = [] := fun _ => rfl
  have hres : Try.f71.results.toList = [] := rfl
  rw [wc, Zbm rfl Try.func71 rfl]
  simp only [Zbj, Yap, Yaq, Nat.reduceAdd, Nat.reduceSub, Yae, Yaj, Yar, Yaw, Try.ntmps71]
  refine (Zed (l := Zpz) (by exact Zsh)).trans ?_
  simp only [Yap, Yaq, Nat.reduceAdd, Yao, Yam, Yan, Yau, ne_eq, reduceCtorEq, not_false_eq_true, implies_true, Ybg, Yav, Yas, Yat, Yak, Yal, Zb5, ↓reduceIte, Za2, Zab, Zaq, Zah, Zgs, Zdw, Option.some.injEq, kd_l, Zc3, Zc2, kd_r, Zc4, Zdo, Zc7, Zbc, Zbv, Zaz, Zd1, Zcb, Zcu, Zdn, Ybl, Zbe, Zbk, Zcr, hlen, Za8, Yaw, Yab, hcv, kd_h, Zbz, Zcj, Zck, Zc1, Ybu, Ybk, Ybm, Zpz, a1, Msg.cs, sz67, ag67, Zfa, Zf7, Ze6, Zlp, show Yby 7 2 = true by decide, show Yby 15 2 = true by decide, show Yby 31 2 = true by decide]
theorem x72a (t1 : parN l = none) : BadC 72 h m lst e0 l hs mp := by
  obtain ⟨d', hd', a1⟩ := Znq (h ++ [.cells (m.cs lst), .cells [e0], .cells [rdC l], .cells hs, .cells [.ptr (h.length + 2) 0], .cells [.ptr h.length 0], mp]) (h.length + 2) l (by simp [Zbn]) hl t1
  simp only [Msg.cs, Zdh, ferr] at a1
  refine ⟨m.cs lst, d', rfl, hd', ?_⟩
  simp only [ferr]
  have hcv : ∀ i, wcv 72 i = [] := fun _ => rfl
  have hres : Try.f72.results.toList = [] := rfl
  rw [wc, Zbm rfl Try.func72 rfl]
  simp only [Zbj, Yap, Yaq, Nat.reduceAdd, Nat.reduceSub, Yae, Yaj, Yar, Zai, Yaw, Try.ntmps72]
  refine (Zed (l := Zl3) (by exact Zmv)).trans ?_
  simp only [Yap, Yaq, Nat.reduceAdd, Ze7, Yao, Yam, Yan, Yau, ne_eq, reduceCtorEq, not_false_eq_true, implies_true, Ybg, Yav, Yas, Yat, Yak, Yal, Zb5, ↓reduceIte, Za2, Zab, Zaq, Zah, Zgs, Zdw, Option.some.injEq, kd_l, Zc3, Zc2, kd_r, Zc4, Zdo, Zc7, Zbc, Zbv, Zaz, Zd1, Zcb, Zcu, Zdn, Ybl, Zbe, Zbk, Zcr, hlen, Za8, Yaw, Yab, hcv, kd_h, Zbz, Zcj, Zck, Zc1, Ybu, Ybk, Ybm, Zl3, a1, Msg.cs, sz67, ag67, Zfa, Zf7, Ze6, Zlp, show Yby 7 2 = true by decide, show Yby 15 2 = true by decide, show Yby 31 2 = true by decide]
theorem x72b {r1 : List UInt8} (t1 : parN l = some (0, r1)) (t2 : parP r1 = none) : BadC 72 h m lst e0 l hs mp := by
  have b1 := Zf1 t1
  have a1 := Zi9 (h ++ [.cells (m.cs lst), .cells [e0], .cells [rdC l], .cells hs, .cells [.ptr (h.length + 2) 0], .cells [.ptr h.length 0], mp]) (h.length + 2) l (by simp [Zbn]) hl t1
  obtain ⟨d', hd', a2⟩ := r65_bad (h ++ [.cells (({ m with code := 0 } : Msg).cs lst), .cells [e0], .cells [rdC r1], .cells hs, .cells [.ptr (h.length + 2) 0], .cells [.ptr h.length 0], mp]) (h.length + 2) r1 (by simp [Zbn]) (by omega) t2
  simp only [Msg.cs, Zdh, ferr] at a1 a2
  refine ⟨({ m with code := 0 } : Msg).cs lst, d', rfl, hd', ?_⟩
  simp only [ferr]
  have ek : (((0 : Nat) : Int) == 0) = true := by decide
  have ek' : ((0 : Int) == 0) = true := by decide
  have hcv : ∀ i, wcv 72 i = [] := fun _ => rfl
  have hres : Try.f72.results.toList = [] := rfl
  rw [wc, Zbm rfl Try.func72 rfl]
  simp only [Zbj, Yap, Yaq, Nat.reduceAdd, Nat.reduceSub, Yae, Yaj, Yar, Zai, Yaw, Try.ntmps72]
  refine (Zed (l := Zl3) (by exact Zmv)).trans ?_
  simp only [Yap, Yaq, Nat.reduceAdd, Yaj, Yar, Zai, Za7, Zak, Za3, Zae, Zan, Za9, Yao, Yam, Yan, Yau, ne_eq, reduceCtorEq, not_false_eq_true, implies_true, Ybg, Yav, Ya2, Yas, Yat, Yak, Yal, Zau, Zb5, List.any_cons, List.any_nil, Zb7, ↓reduceIte, Za6, Zbb, Zbl, Za5, Za2, Zab, Zag, Zaq, Zah, Zam, Zb6, Zay, and_self, List.toList_toArray, Option.some.injEq, Zdy, kd_l, Zc3, Zc2, kd_r, Zc4, Zdo, Zc7, Zbc, Zbv, Zaz, Zd1, Zcv, Zcb, Zcu, Zby, Zbx, Zdt, Zbp, Op.operands, Zdn, Ybl, List.append_nil, Zar, Zbe, Zbk, Zcr, Zet, Za8, Zba, Zb9, Zb1, Zc9, Zcl, Zbt, Zco, List.take_succ_cons, List.take_zero, List.drop_succ_cons, List.drop_zero, Zaa, Zaj, Bool.or_self, Yaw, Nat.succ_ne_zero, Yab, sz25, ag25, st27, Za1 (hcv _), hcv, kd_h, Zbz, Zcj, Zck, Zes, Zdp, Zdf, Zgm, Zc1, Zce, Zcc, Ybu, Ybk, Ybm, back, taken, Zbi, Zdj, beq_self_eq_true, Zl3, a1, Int.ofNat_zero, Msg.cs, sz67, ag67, Zfa, Zf7, Zm1]
  refine (Zed (l := Zpy) (by exact Zsg)).trans ?_
  simp only [Yap, Yaq, Nat.reduceAdd, Yao, Yam, Yan, Yau, ne_eq, reduceCtorEq, not_false_eq_true, implies_true, Ybg, Yav, Yas, Yat, Yak, Yal, Zb5, ↓reduceIte, Za2, Zab, Zaq, Zah, Zgs, Zdw, Option.some.injEq, kd_l, Zc3, Zc2, kd_r, Zc4, Zdo, Zc7, Zbc, Zbv, Zaz, Zd1, Zcb, Zcu, Zdn, Ybl, Zbe, Zbk, Zcr, hlen, Za8, Yaw, Yab, hcv, kd_h, Zbz, Zcj, Zck, Zc1, Ybu, Ybk, Ybm, Zpy, a2, sz67, ag67, Zfa, Zf7, Ze6, Zlp, show Yby 7 2 = true by decide, show Yby 15 2 = true by decide, show Yby 31 2 = true by decide]
end
end Go.Abs
namespace Go.Abs
open Go Go.Proofs
set_option maxRecDepth 10000
set_option maxHeartbeats 8000000
theorem r61_no (H : List O) (p : Nat) (l : List UInt8) (hp : Zbn H p = some [rdC l]) (hl : l.length ≤ 100000) (ht : parN l = none) : wc 61 [.ptr p 0] H = some (.pan ferr, H.set p (.cells [rdX l])) :=
  w61_bad H p l hp hl fun n rest hb => by
    unfold parN at ht
    rw [hb] at ht; simp at ht
def Ztd (l0 : List UInt8) (z0 z1 z2 z3 : D) : Out × D × List D := match parN l0 with
  | none => (.pan ferr, rdX l0, [z0, z1, z2, z3])
  | some (n0, l1) => match parN l1 with
    | none => (.pan ferr, rdX l1, [.int .i64 (n0 : Int), z1, z2, z3])
    | some (n1, l2) => match parN l2 with
      | none => (.pan ferr, rdX l2, [.int .i64 (n0 : Int), .int .i64 (n1 : Int), z2, z3])
      | some (n2, l3) => match parN l3 with
        | none => (.pan ferr, rdX l3, [.int .i64 (n0 : Int), .int .i64 (n1 : Int), .int .i64 (n2 : Int), z3])
        | some (n3, l4) => (.val Zaw, rdC l4, [.int .i64 (n0 : Int), .int .i64 (n1 : Int), .int .i64 (n2 : Int), .int .i64 (n3 : Int)])
theorem w60_any (h : List O) (cM cE lo : O) (l0 : List UInt8) (z0 z1 z2 z3 : D) (hl : l0.length ≤ 100000)
    (hr : ∀ (l : List UInt8) (hs : List D) (i : Nat) (n : Nat), i < 4 → hs.length = 4 → call Try.prog wpr wcv (.round (h.length + 5)) [.int .i64 (i : Int), .int .i64 (n : Int)] (h ++ [cM, cE, .cells [rdC l], .cells hs, .cells [.ptr (h.length + 2) 0], lo]) =
      some (.val (.bool true), h ++ [cM, cE, .cells [rdC l], .cells (hs.set i (.int .i64 (n : Int))), .cells [.ptr (h.length + 2) 0], lo])) :
    wc 60 [.func (.yield (h.length + 5)) [] [], .ptr (h.length + 4) 0] (h ++ [cM, cE, .cells [rdC l0], .cells [z0, z1, z2, z3], .cells [.ptr (h.length + 2) 0], lo]) =
      some ((Ztd l0 z0 z1 z2 z3).1, h ++ [cM, cE, .cells [(Ztd l0 z0 z1 z2 z3).2.1], .cells (Ztd l0 z0 z1 z2 z3).2.2, .cells [.ptr (h.length + 2) 0], lo]) := by
  have w0 : IntKind.i64.wrap (0 + 1) = 1 := by decide
  have w1 : IntKind.i64.wrap (1 + 1) = 2 := by decide
  have w2 : IntKind.i64.wrap (2 + 1) = 3 := by decide
  have c0 : ((0 : Nat) : Int) = 0 := rfl
  have c1 : ((1 : Nat) : Int) = 1 := rfl
  have c2 : ((2 : Nat) : Int) = 2 := rfl
  cases p0 : parN l0 with
  | none =>
    have e0 := r61_no (h ++ [cM, cE, .cells [rdC l0], .cells [z0, z1, z2, z3], .cells [.ptr (h.length + 2) 0], lo]) (h.length + 2) l0 (by simp [Zbn]) hl p0
    simp only [Zdh, Yas, Yat, ferr] at e0
    simp only [Ztd, p0, ferr]
    have hcv : ∀ i, wcv 60 i = [] := fun _ => rfl
    have hres : Try.f60.results.toList = [] := rfl
    rw [wc, Zbm rfl Try.func60 rfl]
    simp only [Zbj, Yap, Yaq, Nat.reduceAdd, Nat.reduceSub, Yae, Yaj, Yar, Zai, Zbw, Zc5, Za7, Zak, Za3, Ze7, Zj6, Zib, Zae, Zan, Zbf, Zbg, Za9, Zgz, Yan, Yau, ne_eq, reduceCtorEq, not_false_eq_true, implies_true, Yav, Ya2, Yas, Yat, Yak, Yal, Zau, Zb5, Zcp, ↓reduceIte, Za4, Zea, Za0, Za6, Za2, Zab, Zag, Zaq, Zah, Zam, Zc6, Int.reduceLT, Zbs, Zgs, Zdw, Zbe, Zbk, Zcr, hlen, Za8, Zbt, Zaj, Yaw, Yab, Za1 (hcv _), Try.ntmps60, Zp5, decide_true, sz56, ag56, Zm1, e0, Ze6]
  | some q0 =>
  obtain ⟨n0, l1⟩ := q0
  have b0 := Zf1 p0
  have e0 := Zi9 (h ++ [cM, cE, .cells [rdC l0], .cells [z0, z1, z2, z3], .cells [.ptr (h.length + 2) 0], lo]) (h.length + 2) l0 (by simp [Zbn]) hl p0
  have r0 := hr l1 [z0, z1, z2, z3] 0 n0 (by omega) rfl
  rw [c0] at r0
  cases p1 : parN l1 with
  | none =>
    have e1 := r61_no (h ++ [cM, cE, .cells [rdC l1], .cells [.int .i64 (n0 : Int), z1, z2, z3], .cells [.ptr (h.length + 2) 0], lo]) (h.length + 2) l1 (by simp [Zbn]) (by omega) p1
    simp only [Zdh, Yas, Yat, ferr] at e0 e1 r0
    simp only [Ztd, p0, p1, ferr]
    have hcv : ∀ i, wcv 60 i = [] := fun _ => rfl
    have hres : Try.f60.results.toList = [] := rfl
    rw [wc, Zbm rfl Try.func60 rfl]
    simp only [Zbj, Yap, Yaq, Nat.reduceAdd, Nat.reduceSub, Yae, Yaj, Yar, Zai, Zbw, Zc5, Za7, Zak, Zao, Za3, Ze7, Zcd, Zj6, Zdx, Zib, Zae, Zan, Zbf, Zbg, Za9, Zbq, Zgz, Yan, Yau, ne_eq, reduceCtorEq, not_false_eq_true, implies_true, Bool.not_true, Yav, Ya2, Yas, Yat, Yak, Yal, Zau, Zb5, Zcp, ↓reduceIte, Za4, Zea, Za0, Za6, Ze0, Za2, Zab, Zag, Zaq, Zah, Zam, Zdc, Zc6, Int.reduceLT, Zcz, Zbs, Zf4, Zgs, Zdw, Zbe, Zbk, Zcr, hlen, Za8, Zbt, Zaj, Yaw, Yab, Za1 (hcv _), Try.ntmps60, Zp5, decide_true, sz56, ag56, Zm1, e0, e1, Zhi, Zod, r0, w0, Ze6]
  | some q1 =>
  obtain ⟨n1, l2⟩ := q1
  have b1 := Zf1 p1
  have e1 := Zi9 (h ++ [cM, cE, .cells [rdC l1], .cells [.int .i64 (n0 : Int), z1, z2, z3], .cells [.ptr (h.length + 2) 0], lo]) (h.length + 2) l1 (by simp [Zbn]) (by omega) p1
  have r1 := hr l2 [.int .i64 (n0 : Int), z1, z2, z3] 1 n1 (by omega) rfl
  rw [c1] at r1
  cases p2 : parN l2 with
  | none =>
    have e2 := r61_no (h ++ [cM, cE, .cells [rdC l2], .cells [.int .i64 (n0 : Int), .int .i64 (n1 : Int), z2, z3], .cells [.ptr (h.length + 2) 0], lo]) (h.length + 2) l2 (by simp [Zbn]) (by omega) p2
    simp only [Zdh, Yas, Yat, ferr] at e0 e1 e2 r0 r1
    simp only [Ztd, p0, p1, p2, ferr]
    have hcv : ∀ i, wcv 60 i = [] := fun _ => rfl
    have hres : Try.f60.results.toList = [] := rfl
    rw [wc, Zbm rfl Try.func60 rfl]
    simp only [Zbj, Yap, Yaq, Nat.reduceAdd, Nat.reduceSub, Yae, Yaj, Yar, Zai, Zbw, Zc5, Za7, Zak, Zao, Za3, Ze7, Zcd, Zj6, Zdx, Zib, Zae, Zan, Zbf, Zbg, Za9, Zbq, Zgz, Yan, Yau, ne_eq, reduceCtorEq, not_false_eq_true, implies_true, Bool.not_true, Yav, Ya2, Yas, Yat, Yak, Yal, Zau, Zb5, Zcp, ↓reduceIte, Za4, Zea, Za0, Za6, Ze0, Za2, Zab, Zag, Zaq, Zah, Zam, Zdc, Zc6, Int.reduceLT, Zcz, Zbs, Zf4, Zgs, Zdw, Zbe, Zbk, Zcr, hlen, Za8, Zbt, Zaj, Yaw, Yab, Za1 (hcv _), Try.ntmps60, Zp5, decide_true, sz56, ag56, Zm1, e0, e1, e2, Zhi, Zod, r0, r1, w0, w1, Ze6]
  | some q2 =>
  obtain ⟨n2, l3⟩ := q2
  have b2 := Zf1 p2
  have e2 := Zi9 (h ++ [cM, cE, .cells [rdC l2], .cells [.int .i64 (n0 : Int), .int .i64 (n1 : Int), z2, z3], .cells [.ptr (h.length + 2) 0], lo]) (h.length + 2) l2 (by simp [Zbn]) (by omega) p2
  have r2 := hr l3 [.int .i64 (n0 : Int), .int .i64 (n1 : Int), z2, z3] 2 n2 (by omega) rfl
  rw [c2] at r2
  cases p3 : parN l3 with
  | none =>
    have e3 := r61_no (h ++ [cM, cE, .cells [rdC l3], .cells [.int .i64 (n0 : Int), .int .i64 (n1 : Int), .int .i64 (n2 : Int), z3], .cells [.ptr (h.length + 2) 0], lo]) (h.length + 2) l3 (by simp [Zbn]) (by omega) p3
    simp only [Zdh, Yas, Yat, ferr] at e0 e1 e2 e3 r0 r1 r2
    simp only [Ztd, p0, p1, p2, p3, ferr]
    have hcv : ∀ i, wcv 60 i = [] := fun _ => rfl
    have hres : Try.f60.results.toList = [] := rfl
    rw [wc, Zbm rfl Try.func60 rfl]
    simp only [Zbj, Yap, Yaq, Nat.reduceAdd, Nat.reduceSub, Yae, Yaj, Yar, Zai, Zbw, Zc5, Za7, Zak, Zao, Za3, Ze7, Zcd, Zj6, Zdx, Zib, Zae, Zan, Zbf, Zbg, Za9, Zbq, Zgz, Yan, Yau, ne_eq, reduceCtorEq, not_false_eq_true, implies_true, Bool.not_true, Yav, Ya2, Yas, Yat, Yak, Yal, Zau, Zb5, Zcp, ↓reduceIte, Za4, Zea, Za0, Za6, Ze0, Za2, Zab, Zag, Zaq, Zah, Zam, Zdc, Zc6, Int.reduceLT, Zcz, Zbs, Zf4, Zgs, Zdw, Zbe, Zbk, Zcr, hlen, Za8, Zbt, Zaj, Yaw, Yab, Za1 (hcv _), Try.ntmps60, Zp5, decide_true, sz56, ag56, Zm1, e0, e1, e2, e3, Zhi, Zod, r0, r1, r2, w0, w1, w2, Ze6]
  | some q3 =>
    obtain ⟨n3, l4⟩ := q3
    simp only [Ztd, p0, p1, p2, p3]
    exact w60 h cM cE lo l0 l4 n0 n1 n2 n3 z0 z1 z2 z3 hl ⟨l1, l2, l3, p0, p1, p2, p3⟩ hr
end Go.Abs
namespace Go.Abs
open Go Go.Proofs
theorem Zot (b : UInt8) : UInt8.ofNat b.toNat = b := by simp
theorem digs_valB : ∀ (n : Nat) (ys : List UInt8), ys.length = n → 0 < (ys.getD 0 0).toNat → digs (valB ys) = ys.reverse ∧ 0 < valB ys := by
  intro n
  induction n with
  | zero =>
    intro ys h hp
    have : ys = [] := List.length_eq_zero_iff.1 h
    subst this; simp at hp
  | succ n ih =>
    intro ys h hp
    have hne : ys ≠ [] := by intro e; subst e; simp at h
    have e := (List.dropLast_concat_getLast hne).symm
    generalize ys.dropLast = zs at e
    generalize ys.getLast hne = b at e
    subst e
    have hb := b.toNat_lt
    rw [Zry]
    have hz : zs.length = n := by simpa using h
    cases zs with
    | nil =>
      have hb0 : 0 < b.toNat := by simpa using hp
      have e0 : valB [] * 256 + b.toNat = b.toNat := by simp [valB]
      rw [e0]
      refine ⟨?_, hb0⟩
      rw [Zko hb0, show b.toNat / 256 = 0 by omega, Zmm]; simp
    | cons z zs =>
      obtain ⟨h1, h2⟩ := ih (z :: zs) hz (by simpa using hp)
      refine ⟨?_, by omega⟩
      rw [Zko (by omega), show (valB (z :: zs) * 256 + b.toNat) / 256 = valB (z :: zs) by omega, h1]
      have : UInt8.ofNat (valB (z :: zs) * 256 + b.toNat) = b := by
        apply UInt8.toNat_inj.1
        rw [Ztm]; omega
      rw [this]; simp
theorem Zwh {l r : List UInt8} {n : Nat} (h : Zmf l = .ok n r) : l = putL n ++ r ∧ n ≤ 1099511627776 := by
  cases l with
  | nil => simp [Zmf] at h
  | cons m xs =>
    simp only [Zmf] at h
    split at h
    · cases h
    · rename_i h6
      split at h
      · cases h
      · rename_i hl
        split at h
        · rename_i hm
          cases h
          refine ⟨?_, by omega⟩
          have : m = 0 := UInt8.toNat_inj.1 (by simpa using hm)
          subst this
          simp [Zy8, Zmm]
        · rename_i hm
          split at h
          · rename_i hv
            cases h
            refine ⟨?_, hv.2⟩
            have hlen : (xs.take m.toNat).length = m.toNat := by simp; omega
            have hg : (xs.take m.toNat).getD 0 0 = xs.getD 0 0 := by
              cases xs with
              | nil => simp at hl; omega
              | cons x xs =>
                have : m.toNat = (m.toNat - 1) + 1 := by omega
                rw [this]; simp
            obtain ⟨d1, _⟩ := digs_valB m.toNat (xs.take m.toNat) hlen (by rw [hg]; exact hv.1)
            rw [Zy8, d1, List.length_reverse, hlen, Zot, List.reverse_reverse, Yaj, List.take_append_drop]
          · cases h
theorem Zih {l r : List UInt8} {n : Nat} (h : parN l = some (n, r)) : l = putL n ++ r ∧ n ≤ 1099511627776 := by
  unfold parN at h
  cases hb : Zmf l with
  | ok n' r' => rw [hb] at h; simp at h; obtain ⟨rfl, rfl⟩ := h; exact Zwh hb
  | _ => rw [hb] at h; simp at h
theorem nums1 (n : Nat) : Zds [(n : Int)] = putL n := by simp [Zds]
theorem Zvb {l r : List UInt8} {b : Bool} (h : parB l = some (b, r)) : l = Zds [bitZ b] ++ r := by
  unfold parB at h
  split at h
  · rename_i n q hq
    split at h
    · rename_i h2
      simp at h
      obtain ⟨rfl, rfl⟩ := h
      rw [(Zih hq).1]
      have : n = 0 ∨ n = 1 := by omega
      rcases this with rfl | rfl <;> simp [Zds, bitZ]
    · cases h
  · cases h
theorem Zwg {l s r : List UInt8} (h : Znh l = some (s, r)) : l = Zky (BA s) ++ r := by
  cases l with
  | nil => simp [Znh] at h
  | cons m ys =>
    simp only [Znh] at h
    split at h
    · cases h
    · rename_i hl
      simp at h
      obtain ⟨rfl, rfl⟩ := h
      have e : (BA (ys.take m.toNat)).size = m.toNat := by
        show (ys.take m.toNat).toArray.size = _
        simp; omega
      rw [Zky, e, Zot]
      simp only [sL, BA, Yaj, List.toList_toArray, List.take_append_drop]
theorem takeNs_inv : ∀ (k : Nat) (l : List UInt8) (ns : List Nat) (r : List UInt8), Zhq k l = .ok (ns, r) → l = Zds (Zhu ns) ++ r := by
  intro k
  induction k with
  | zero => intro l ns r h; simp [Zhq] at h; obtain ⟨rfl, rfl⟩ := h; simp [Zds, Zhu]
  | succ k ih =>
    intro l ns r h
    simp only [Zhq] at h
    split at h
    · cases h
    · cases h
    · rename_i n rest ht
      split at h
      · rename_i q r' hq
        simp at h
        obtain ⟨rfl, rfl⟩ := h
        have h1 := ih _ _ _ hq
        rw [(Zwh ht).1, h1]
        simp [Zds, Zhu]
      · cases h
theorem parL_inv {l r : List UInt8} {ns : List Nat} (h : parL l = some (ns, r)) : l = Znv (Zhu ns) ++ r := by
  unfold parL at h
  split at h
  · rename_i q hq
    cases h
    cases l with
    | nil => simp [Zrc] at hq
    | cons m ys =>
      simp only [Zrc] at hq
      have h1 := takeNs_inv _ _ _ _ hq
      have h2 := (Zto _ _ _ _ hq).1
      rw [Znv, Yaj, ← h1]
      have : (Zhu ns).length = m.toNat := by simp [Zhu, h2]
      rw [this, Zot]
  · cases h
theorem parP_inv {l r : List UInt8} {x : ItemV} (h : parP l = some (x, r)) : l = Zn0 (BA x.key) x.val x.ver x.gone ++ r := by
  unfold parP at h
  split at h
  · rename_i s r1 q1
    split at h
    · rename_i v r2 q2
      split at h
      · rename_i n r3 q3
        split at h
        · rename_i g r4 q4
          cases h
          rw [Zwg q1, (Zih q2).1, (Zih q3).1, Zvb q4]
          simp [Zn0, Zds]
        · cases h
      · cases h
    · cases h
  · cases h
theorem fill_inv {n0 n1 n2 n3 : Nat} {l4 l5 : List UInt8} {m : Msg} (h : Zjv (Ze9 n0 n1 n2 n3) l4 = some (m, l5)) : l4 = Zjt m ++ l5 ∧ m.kind = n0 ∧ m.call = n1 ∧ m.frm = n2 ∧ m.to = n3 := by
  simp only [Zjv, show (Ze9 n0 n1 n2 n3).kind = n0 from rfl] at h
  by_cases h4 : (n0 : Int) = 4
  · rw [if_pos h4] at h
    split at h
    · rename_i k r q1
      split at h
      · rename_i b r2 q2
        cases h
        refine ⟨?_, rfl, rfl, rfl, rfl⟩
        rw [(Zih q1).1, Zvb q2]
        simp [Zjt, h4, nums1]
      · cases h
    · cases h
  rw [if_neg h4] at h
  by_cases h5 : (n0 : Int) = 5
  · rw [if_pos h5] at h
    split at h
    · rename_i x r q1
      cases h
      refine ⟨?_, rfl, rfl, rfl, rfl⟩
      rw [parP_inv q1]
      simp [Zjt, h5]
    · cases h
  rw [if_neg h5] at h
  by_cases h6 : (n0 : Int) = 6
  · rw [if_pos h6] at h
    split at h
    · rename_i x r q1
      cases h
      refine ⟨?_, rfl, rfl, rfl, rfl⟩
      rw [Zwg q1]
      simp [Zjt, h6]
    · cases h
  rw [if_neg h6] at h
  by_cases h7 : (n0 : Int) = 7
  · rw [if_pos h7] at h
    split at h
    · rename_i k r q1
      split at h
      · rename_i b r2 q2
        cases h
        refine ⟨?_, rfl, rfl, rfl, rfl⟩
        obtain ⟨e1, e2⟩ := Zih q1
        rw [e1, parL_inv q2]
        have w : IntKind.i64.wrap (IntKind.i64.wrap ((k : Int) - 1) + 1) = (k : Int) := by
          rw [Zft (n := (k : Int) - 1) (by omega) (by omega), Zft (by omega) (by omega)]; omega
        simp [Zjt, h7, w, nums1]
      · cases h
    · cases h
  rw [if_neg h7] at h
  by_cases h10 : (n0 : Int) = 10
  · rw [if_pos h10] at h
    split at h
    · rename_i k r q1
      split at h
      · rename_i b r2 q2
        cases h
        refine ⟨?_, rfl, rfl, rfl, rfl⟩
        rw [(Zih q1).1, Zvb q2]
        simp [Zjt, h10, nums1]
      · cases h
    · cases h
  rw [if_neg h10] at h
  by_cases h11 : (n0 : Int) = 11
  · rw [if_pos h11] at h
    split at h
    · rename_i k r q1
      cases h
      refine ⟨?_, rfl, rfl, rfl, rfl⟩
      rw [(Zih q1).1]
      simp [Zjt, h11, nums1]
    · cases h
  rw [if_neg h11] at h
  by_cases h12 : (n0 : Int) = 12
  · rw [if_pos h12] at h
    split at h
    · rename_i k r q1
      split at h
      · rename_i hk
        split at h
        · rename_i x r2 q2
          cases h
          subst hk
          refine ⟨?_, rfl, rfl, rfl, rfl⟩
          rw [(Zih q1).1, parP_inv q2]
          have e : Zds [0] = putL 0 := nums1 0
          simp [Zjt, h12, e]
        · cases h
      · rename_i hk
        cases h
        refine ⟨?_, rfl, rfl, rfl, rfl⟩
        rw [(Zih q1).1]
        have : ¬ (k : Int) = 0 := by omega
        simp [Zjt, h12, nums1, hk]
    · cases h
  rw [if_neg h12] at h
  cases h
  refine ⟨?_, rfl, rfl, rfl, rfl⟩
  simp [Zjt, show (Ze9 n0 n1 n2 n3).kind = n0 from rfl, h4, h5, h6, h7, h10, h11, h12]
theorem Heads.inv {l r : List UInt8} {a b c d : Nat} (h : Heads l r a b c d) : l = Zds [(a : Int), b, c, d] ++ r ∧ a ≤ 1099511627776 ∧ b ≤ 1099511627776 ∧ c ≤ 1099511627776 ∧ d ≤ 1099511627776 := by
  obtain ⟨l1, l2, l3, p0, p1, p2, p3⟩ := h.ex
  obtain ⟨e0, b0⟩ := Zih p0
  obtain ⟨e1, b1⟩ := Zih p1
  obtain ⟨e2, b2⟩ := Zih p2
  obtain ⟨e3, b3⟩ := Zih p3
  refine ⟨?_, b0, b1, b2, b3⟩
  rw [e0, e1, e2, e3]
  simp [Zds]
theorem read_pay {l l4 : List UInt8} {a b c d : Nat} {m : Msg} (h : Heads l l4 a b c d) (hf : Zjv (Ze9 a b c d) l4 = some (m, [])) : payL m = l ∧ m.call = b ∧ b ≤ 1099511627776 := by
  obtain ⟨e1, _, hb, _, _⟩ := h.inv
  obtain ⟨e2, k0, k1, k2, k3⟩ := fill_inv hf
  refine ⟨?_, k1, hb⟩
  rw [e1, e2, payL, Zjd, k0, k1, k2, k3]; simp
def parH (l : List UInt8) : Option ((Nat × Nat × Nat × Nat) × List UInt8) := match parN l with
  | none => none
  | some (a, l1) => match parN l1 with
    | none => none
    | some (b, l2) => match parN l2 with
      | none => none
      | some (c, l3) => match parN l3 with
        | none => none
        | some (d, l4) => some ((a, b, c, d), l4)
theorem Zty {l l4 : List UInt8} {a b c d : Nat} (h : parH l = some ((a, b, c, d), l4)) : Heads l l4 a b c d := by
  unfold parH at h
  split at h
  · cases h
  · rename_i a' l1 p0
    split at h
    · cases h
    · rename_i b' l2 p1
      split at h
      · cases h
      · rename_i c' l3 p2
        split at h
        · cases h
        · rename_i d' l4' p3
          cases h
          exact ⟨l1, l2, l3, p0, p1, p2, p3⟩
def readL (l : List UInt8) : Option (Msg × List UInt8) := match parH l with
  | none => none
  | some ((a, b, c, d), l4) => if a < 13 then Zjv (Ze9 a b c d) l4 else none
theorem fill_list {n0 n1 n2 n3 : Nat} {l4 l5 : List UInt8} {m : Msg} (h : Zjv (Ze9 n0 n1 n2 n3) l4 = some (m, l5)) : ∃ ns, m.list = Zhu ns := by
  simp only [Zjv] at h
  repeat' split at h
  all_goals first
    | (cases h; done)
    | (cases h; exact ⟨_, rfl⟩)
    | (cases h; exact ⟨[], rfl⟩)
end Go.Abs
