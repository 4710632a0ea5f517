/-
  WIRE: what a message of its kind has is read. WIRE: Read, whatever is read to its end. No condition.
-/
import Derived.Test.YtkimilghfbgjmaaQ24

open List renaming all_cons → Ybu, all_nil → Ybk, any_cons → Yax, any_nil → Yay, cons_append → Yaj, drop_succ_cons → Yb7, drop_zero → Yb8, foldl_nil → Ybl, getD_cons_succ → Yak, getD_cons_zero → Yal, getElem?_cons_succ → Yam, getElem?_cons_zero → Yan, getElem?_toArray → Yao, length_cons → Yap, length_nil → Yaq, map_cons → Ybi, nil_append → Yar, replicate → Yae, set_cons_succ → Yas, set_cons_zero → Yat, take_succ_cons → Ybc, take_zero → Ybd, toList_toArray → Ybj
open Option renaming bind_some → Yau, map_some → Ya2
open Bool renaming and_self → Ybm, and_true → Ybz, false_eq_true → Yav, not_false → Ybg, or_self → Yb3, true_eq_false → Ybx
open Nat renaming add_zero → Yb4, le_refl → Yab, succ_ne_zero → Yb5, testBit → Yby, zero_add → Yaw
namespace Go.Abs
open Go Go.Proofs
set_option maxRecDepth 10000
set_option maxHeartbeats 4000000
theorem Zfa {i o : Nat} : exc0 (.ptr i o) = false := rfl
theorem Zf7 {i o : Nat} : shr0 (.ptr i o) = .ptr i o := rfl
section
variable (h : List O) (m : Msg) (lst e0 : D) (l : List UInt8) (hs : List D) (mp : O) (hl : l.length ≤ 100000)
  include hl
theorem c62 {k : Nat} {b : Bool} {r1 r2 : List UInt8} (t1 : parN l = some (k, r1)) (t2 : parB r1 = some (b, r2)) :
    wc 62 [.ptr (h.length + 2) 0, .ptr (h.length + 5) 0] (h ++ [.cells (m.cs lst), .cells [e0], .cells [rdC l], .cells hs, .cells [.ptr (h.length + 2) 0], .cells [.ptr h.length 0], mp]) =
      some (.val Zaw, h ++ [.cells (({ m with key := k, slow := b } : Msg).cs lst), .cells [e0], .cells [rdC r2], .cells hs, .cells [.ptr (h.length + 2) 0], .cells [.ptr h.length 0], mp]) := by
  have b1 := Zf1 t1
  have a1 := Zi9 (h ++ [.cells (m.cs lst), .cells [e0], .cells [rdC l], .cells hs, .cells [.ptr (h.length + 2) 0], .cells [.ptr h.length 0], mp]) (h.length + 2) l (by simp [Zbn]) hl t1
  have a2 := r63_ok (h ++ [.cells (({ m with key := k } : Msg).cs lst), .cells [e0], .cells [rdC r1], .cells hs, .cells [.ptr (h.length + 2) 0], .cells [.ptr h.length 0], mp]) (h.length + 2) r1 (by simp [Zbn]) (by omega) t2
  simp only [Msg.cs, Zdh] at a1 a2
  have hcv : ∀ i, wcv 62 i = [] := fun _ => rfl
  have hres : Try.f62.results.toList = [] := rfl
  rw [wc, Zbm rfl Try.func62 rfl]
  simp only [Zbj, Yap, Yaq, Nat.reduceAdd, Nat.reduceSub, Yae, Yaj, Yar, Zai, Yaw, Try.ntmps62]
  refine (Zed (l := Zmz) (by exact Zp3)).trans ?_
  simp only [Yap, Yaq, Nat.reduceAdd, Yaj, Yar, Za3, Yao, Yam, Yan, Yau, Nat.reduceLeDiff, ne_eq, reduceCtorEq, not_false_eq_true, implies_true, Ybg, Yav, Ya2, Yas, Yat, Yak, Yal, Zau, Zb5, Yax, Yay, ↓reduceIte, Zbb, Zbl, Za5, Za2, Zab, Zaq, Zah, and_self, Ybj, Option.some.injEq, Zdy, kd_l, Zc3, Zc2, kd_r, Zc4, Zdo, Zc7, Zbc, Zbv, Zaz, Zd1, Zcv, Zcb, Zcu, Zby, Zbx, Zdt, Zbp, Op.operands, Zdn, Ybl, Zar, Zbe, Zbk, Zcr, Zet, Za8, Zba, Zb9, Zb1, Zc9, Zcl, Zco, Ybc, Ybd, Yb7, Yb8, Zaa, Yb3, Yaw, Yb5, Yab, sz3, st27, hcv, kd_h, Zbz, Zcj, Zck, Zes, Zdp, Zdf, Zgm, Zc1, Zce, Zcc, Ybu, Ybk, Ybm, Zmz, a1, Msg.cs, sz67, ag67, Zfa, Zf7]
  refine (Zed (l := Zq3) (by exact Zsl)).trans ?_
  simp only [Yap, Yaq, Nat.reduceAdd, Yaj, Yar, Yao, Yam, Yan, Yau, Nat.reduceLeDiff, ne_eq, reduceCtorEq, not_false_eq_true, implies_true, Ybg, Yav, Ya2, Yas, Yat, Yak, Yal, Zau, Zb5, Yax, Yay, ↓reduceIte, Zbb, Zbl, Za5, Za2, Zab, Zaq, Zah, Zfh, Zad, Zac, Zd9, and_self, Ybj, Option.some.injEq, Zdy, kd_l, Zc3, Zc2, kd_r, Zc4, Zdo, Zc7, Zbc, Zbv, Zaz, Zd1, Zcv, Zcb, Zcu, Zby, Zbx, Zdt, Zbp, Op.operands, Zdn, Ybl, Zar, Zbe, Zbk, Zcr, Zet, hlen, Za8, Zba, Zb9, Zb1, Zc9, Zcl, Zco, Ybc, Ybd, Yb7, Yb8, Zaa, Yb3, Yaw, Yb5, Yab, sz4, st27, hcv, hres, kd_h, Zbz, Zcj, Zck, Zes, Zdp, Zdf, Zgm, Zc1, Zce, Zcc, Ybu, Ybk, Ybm, Zq3, a2, sz67, ag67, Zfa, Zf7, Ze6]
theorem c70 {k : Nat} {b : Bool} {r1 r2 : List UInt8} (t1 : parN l = some (k, r1)) (t2 : parB r1 = some (b, r2)) :
    wc 70 [.ptr (h.length + 2) 0, .ptr (h.length + 5) 0] (h ++ [.cells (m.cs lst), .cells [e0], .cells [rdC l], .cells hs, .cells [.ptr (h.length + 2) 0], .cells [.ptr h.length 0], mp]) =
      some (.val Zaw, h ++ [.cells (({ m with place := k, done := b } : Msg).cs lst), .cells [e0], .cells [rdC r2], .cells hs, .cells [.ptr (h.length + 2) 0], .cells [.ptr h.length 0], mp]) := by
  have b1 := Zf1 t1
  have a1 := Zi9 (h ++ [.cells (m.cs lst), .cells [e0], .cells [rdC l], .cells hs, .cells [.ptr (h.length + 2) 0], .cells [.ptr h.length 0], mp]) (h.length + 2) l (by simp [Zbn]) hl t1
  have a2 := r63_ok (h ++ [.cells (({ m with place := k } : Msg).cs lst), .cells [e0], .cells [rdC r1], .cells hs, .cells [.ptr (h.length + 2) 0], .cells [.ptr h.length 0], mp]) (h.length + 2) r1 (by simp [Zbn]) (by omega) t2
  simp only [Msg.cs, Zdh] at a1 a2
  have hcv : ∀ i, wcv 70 i = [] := fun _ => rfl
  have hres : Try.f70.results.toList = [] := rfl
  rw [wc, Zbm rfl Try.func70 rfl]
  simp only [Zbj, Yap, Yaq, Nat.reduceAdd, Nat.reduceSub, Yae, Yaj, Yar, Zai, Yaw, Try.ntmps70]
  refine (Zed (l := Zmw) (by exact Zp1)).trans ?_
  simp only [Yap, Yaq, Nat.reduceAdd, Yaj, Yar, Za3, Yao, Yam, Yan, Yau, Nat.reduceLeDiff, ne_eq, reduceCtorEq, not_false_eq_true, implies_true, Ybg, Yav, Ya2, Yas, Yat, Yak, Yal, Zau, Zb5, Yax, Yay, ↓reduceIte, Zbb, Zbl, Za5, Za2, Zab, Zaq, Zah, and_self, Ybj, Option.some.injEq, Zdy, kd_l, Zc3, Zc2, kd_r, Zc4, Zdo, Zc7, Zbc, Zbv, Zaz, Zd1, Zcv, Zcb, Zcu, Zby, Zbx, Zdt, Zbp, Op.operands, Zdn, Ybl, Zar, Zbe, Zbk, Zcr, Zet, Za8, Zba, Zb9, Zb1, Zc9, Zcl, Zco, Ybc, Ybd, Yb7, Yb8, Zaa, Yb3, Yaw, Yb5, Yab, sz3, st27, hcv, kd_h, Zbz, Zcj, Zck, Zes, Zdp, Zdf, Zgm, Zc1, Zce, Zcc, Ybu, Ybk, Ybm, Zmw, a1, Msg.cs, sz67, ag67, Zfa, Zf7]
  refine (Zed (l := Zq0) (by exact Zsi)).trans ?_
  simp only [Yap, Yaq, Nat.reduceAdd, Yaj, Yar, Yao, Yam, Yan, Yau, Nat.reduceLeDiff, ne_eq, reduceCtorEq, not_false_eq_true, implies_true, Ybg, Yav, Ya2, Yas, Yat, Yak, Yal, Zau, Zb5, Yax, Yay, ↓reduceIte, Zbb, Zbl, Za5, Za2, Zab, Zaq, Zah, Zfh, Zad, Zac, Zd9, and_self, Ybj, Option.some.injEq, Zdy, kd_l, Zc3, Zc2, kd_r, Zc4, Zdo, Zc7, Zbc, Zbv, Zaz, Zd1, Zcv, Zcb, Zcu, Zby, Zbx, Zdt, Zbp, Op.operands, Zdn, Ybl, Zar, Zbe, Zbk, Zcr, Zet, hlen, Za8, Zba, Zb9, Zb1, Zc9, Zcl, Zco, Ybc, Ybd, Yb7, Yb8, Zaa, Yb3, Yaw, Yb5, Yab, sz4, st27, hcv, hres, kd_h, Zbz, Zcj, Zck, Zes, Zdp, Zdf, Zgm, Zc1, Zce, Zcc, Ybu, Ybk, Ybm, Zq0, a2, sz67, ag67, Zfa, Zf7, Ze6]
theorem c64 {x : ItemV} {r1 : List UInt8} (t1 : parP l = some (x, r1)) :
    wc 64 [.ptr (h.length + 2) 0, .ptr (h.length + 5) 0] (h ++ [.cells (m.cs lst), .cells [e0], .cells [rdC l], .cells hs, .cells [.ptr (h.length + 2) 0], .cells [.ptr h.length 0], mp]) =
      some (.val Zaw, h ++ [.cells (({ m with ikey := BA x.key, ival := x.val, iver := x.ver, gone := x.gone } : Msg).cs lst), .cells [e0], .cells [rdC r1], .cells hs, .cells [.ptr (h.length + 2) 0], .cells [.ptr h.length 0], mp]) := by
  have a1 := r65_ok (h ++ [.cells (m.cs lst), .cells [e0], .cells [rdC l], .cells hs, .cells [.ptr (h.length + 2) 0], .cells [.ptr h.length 0], mp]) (h.length + 2) l (by simp [Zbn]) hl t1
  simp only [Msg.cs, Zdh, Zgi] at a1
  have hcv : ∀ i, wcv 64 i = [] := fun _ => rfl
  have hres : Try.f64.results.toList = [] := rfl
  rw [wc, Zbm rfl Try.func64 rfl]
  simp only [Zbj, Yap, Yaq, Nat.reduceAdd, Nat.reduceSub, Yae, Yaj, Yar, Yaw, Try.ntmps64]
  refine (Zed (l := Zq2) (by exact Zsk)).trans ?_
  simp only [Yap, Yaq, Nat.reduceAdd, Yaj, Yar, Yao, Yam, Yan, Yau, Nat.reduceLeDiff, ne_eq, reduceCtorEq, not_false_eq_true, implies_true, Ybg, Yav, Ya2, Yas, Yat, Yak, Yal, Zbu, Zb5, Yax, Yay, Zb7, ↓reduceIte, Zbb, Zbl, Za5, Za2, Zab, Zaq, Zah, Zfh, Zad, Zac, Zd9, and_self, Ybj, Option.some.injEq, Zdy, kd_l, Zc3, Zc2, kd_r, Zc4, Zdo, Zc7, Zbc, Zbv, Zaz, Zd1, Zcv, Zcb, Zcu, Zby, Zbx, Zdt, Zbp, Op.operands, Zdn, Ybl, Zar, Zbe, Zbk, Zcr, Zet, hlen, Za8, Zba, Zb9, Zb1, Zb0, Zb8, Zco, Ybc, Ybd, Yb7, Yb8, Zaa, Yb3, Yaw, Yb5, Yab, sz24, st27, hcv, hres, kd_h, Zbz, Zcj, Zck, Zes, Zdp, Zdf, Zgm, Zc1, Zce, Zcc, Ybu, Ybk, Ybm, Zq2, a1, Msg.cs, sz67, ag67, Zfa, Zf7, Ze6]
theorem c66 {x : List UInt8} {r1 : List UInt8} (t1 : Znh l = some (x, r1)) :
    wc 66 [.ptr (h.length + 2) 0, .ptr (h.length + 5) 0] (h ++ [.cells (m.cs lst), .cells [e0], .cells [rdC l], .cells hs, .cells [.ptr (h.length + 2) 0], .cells [.ptr h.length 0], mp]) =
      some (.val Zaw, h ++ [.cells (({ m with ikey := BA x } : Msg).cs lst), .cells [e0], .cells [rdC r1], .cells hs, .cells [.ptr (h.length + 2) 0], .cells [.ptr h.length 0], mp]) := by
  have a1 := r67_ok (h ++ [.cells (m.cs lst), .cells [e0], .cells [rdC l], .cells hs, .cells [.ptr (h.length + 2) 0], .cells [.ptr h.length 0], mp]) (h.length + 2) l (by simp [Zbn]) hl t1
  simp only [Msg.cs, Zdh] at a1
  have hcv : ∀ i, wcv 66 i = [] := fun _ => rfl
  have hres : Try.f66.results.toList = [] := rfl
  rw [wc, Zbm rfl Try.func66 rfl]
  simp only [Zbj, Yap, Yaq, Nat.reduceAdd, Nat.reduceSub, Yae, Yaj, Yar, Yaw, Try.ntmps66]
  refine (Zed (l := Zq1) (by exact Zsj)).trans ?_
  simp only [Yap, Yaq, Nat.reduceAdd, Yaj, Yar, Yao, Yam, Yan, Yau, Nat.reduceLeDiff, ne_eq, reduceCtorEq, not_false_eq_true, implies_true, Ybg, Yav, Ya2, Yas, Yat, Yak, Yal, Zau, Zb5, Yax, Yay, ↓reduceIte, Zbb, Zbl, Za5, Za2, Zab, Zaq, Zah, Zfh, Zad, Zac, Zd9, and_self, Ybj, Option.some.injEq, Zdy, kd_l, Zc3, Zc2, kd_r, Zc4, Zdo, Zc7, Zbc, Zbv, Zaz, Zd1, Zcv, Zcb, Zcu, Zby, Zbx, Zdt, Zbp, Op.operands, Zdn, Ybl, Zar, Zbe, Zbk, Zcr, Zet, hlen, Za8, Zba, Zb9, Zb1, Zc9, Zcl, Zco, Ybc, Ybd, Yb7, Yb8, Zaa, Yb3, Yb4, Yaw, Yb5, Yab, sz9, sz24, st24, st27, hcv, hres, kd_h, Zbz, Zcj, Zck, Zes, Zdp, Zdf, Zgm, Zc1, Zce, Zcc, Ybu, Ybk, Ybm, Zq1, a1, Msg.cs, sz67, ag67, Zfa, Zf7, Ze6]
theorem c71 {k : Nat} {r1 : List UInt8} (t1 : parN l = some (k, r1)) :
    wc 71 [.ptr (h.length + 2) 0, .ptr (h.length + 5) 0] (h ++ [.cells (m.cs lst), .cells [e0], .cells [rdC l], .cells hs, .cells [.ptr (h.length + 2) 0], .cells [.ptr h.length 0], mp]) =
      some (.val Zaw, h ++ [.cells (({ m with code := k } : Msg).cs lst), .cells [e0], .cells [rdC r1], .cells hs, .cells [.ptr (h.length + 2) 0], .cells [.ptr h.length 0], mp]) := by
  have a1 := Zi9 (h ++ [.cells (m.cs lst), .cells [e0], .cells [rdC l], .cells hs, .cells [.ptr (h.length + 2) 0], .cells [.ptr h.length 0], mp]) (h.length + 2) l (by simp [Zbn]) hl t1
  simp only [Msg.cs, Zdh] at a1
  have hcv : ∀ i, wcv 71 i = [] := fun _ => rfl
  have hres : Try.f71.results.toList = [] := rfl
  rw [wc, Zbm rfl Try.func71 rfl]
  simp only [Zbj, Yap, Yaq, Nat.reduceAdd, Nat.reduceSub, Yae, Yaj, Yar, Yaw, Try.ntmps71]
  refine (Zed (l := Zpz) (by exact Zsh)).trans ?_
  simp only [Yap, Yaq, Nat.reduceAdd, Yaj, Yar, Yao, Yam, Yan, Yau, ne_eq, reduceCtorEq, not_false_eq_true, implies_true, Ybg, Yav, Ya2, Yas, Yat, Yak, Yal, Zau, Zb5, Yax, Yay, ↓reduceIte, Zbb, Zbl, Za5, Za2, Zab, Zaq, Zah, Zfh, Zad, Zac, Zd9, and_self, Ybj, Option.some.injEq, Zdy, kd_l, Zc3, Zc2, kd_r, Zc4, Zdo, Zc7, Zbc, Zbv, Zaz, Zd1, Zcv, Zcb, Zcu, Zby, Zbx, Zdt, Zbp, Op.operands, Zdn, Ybl, List.append_nil, Zar, Zbe, Zbk, Zcr, Zet, hlen, Za8, Zba, Zb9, Zb1, Zc9, Zcl, Zco, Ybc, Ybd, Yb7, Yb8, Zaa, Yb3, Yaw, Yb5, Yab, sz25, st27, hcv, hres, kd_h, Zbz, Zcj, Zck, Zes, Zdp, Zdf, Zgm, Zc1, Zce, Zcc, Ybu, Ybk, Ybm, Zpz, a1, Msg.cs, sz67, ag67, Zfa, Zf7, Ze6]
theorem c72n {k : Nat} {r1 : List UInt8} (t1 : parN l = some (k, r1)) (hk : k ≠ 0) :
    wc 72 [.ptr (h.length + 2) 0, .ptr (h.length + 5) 0] (h ++ [.cells (m.cs lst), .cells [e0], .cells [rdC l], .cells hs, .cells [.ptr (h.length + 2) 0], .cells [.ptr h.length 0], mp]) =
      some (.val Zaw, h ++ [.cells (({ m with code := k } : Msg).cs lst), .cells [e0], .cells [rdC r1], .cells hs, .cells [.ptr (h.length + 2) 0], .cells [.ptr h.length 0], mp]) := by
  have a1 := Zi9 (h ++ [.cells (m.cs lst), .cells [e0], .cells [rdC l], .cells hs, .cells [.ptr (h.length + 2) 0], .cells [.ptr h.length 0], mp]) (h.length + 2) l (by simp [Zbn]) hl t1
  simp only [Msg.cs, Zdh] at a1
  have ek : ((k : Int) == 0) = false := by simp; omega
  have hcv : ∀ i, wcv 72 i = [] := fun _ => rfl
  have hres : Try.f72.results.toList = [] := rfl
  rw [wc, Zbm rfl Try.func72 rfl]
  simp only [Zbj, Yap, Yaq, Nat.reduceAdd, Nat.reduceSub, Yae, Yaj, Yar, Zai, Yaw, Try.ntmps72]
  refine (Zed (l := Zl3) (by exact Zmv)).trans ?_
  simp only [Yap, Yaq, Nat.reduceAdd, Yaj, Yar, Zai, Zbw, Za7, Zao, Za3, Zae, Zan, Za9, Yao, Yam, Yan, Yau, ne_eq, reduceCtorEq, not_false_eq_true, implies_true, Ybg, Yav, Ya2, Yas, Yat, Yak, Yal, Zau, Zb5, Yax, Yay, Zb7, ↓reduceIte, Za6, Zbb, Zbl, Za5, Za2, Zab, Zag, Zaq, Zah, Zam, Zb6, Zay, Zfh, Zad, Zac, Zd9, and_self, Ybj, Option.some.injEq, Zdy, kd_l, Zc3, Zc2, kd_r, Zc4, Zdo, Zc7, Zbc, Zbv, Zaz, Zd1, Zcv, Zcb, Zcu, Zby, Zbx, Zdt, Zbp, Op.operands, Zdn, Ybl, List.append_nil, Zar, Zbe, Zbk, Zcr, Zet, hlen, Za8, Zba, Zb9, Zb1, Zc9, Zcl, Zbt, Zco, Ybc, Ybd, Yb7, Yb8, Zaa, Zaj, Yb3, Yaw, Yb5, Yab, sz25, ag25, st27, Za1 (hcv _), hcv, hres, kd_h, Zbz, Zcj, Zck, Zes, Zdp, Zdf, Zgm, Zc1, Zce, Zcc, Ybu, Ybk, Ybm, back, taken, Zbi, Zdj, Zl3, ek, a1, Msg.cs, sz67, ag67, Zfa, Zf7, Zm1, Ze6]
theorem c72z {x : ItemV} {r1 r2 : List UInt8} (t1 : parN l = some (0, r1)) (t2 : parP r1 = some (x, r2)) :
    wc 72 [.ptr (h.length + 2) 0, .ptr (h.length + 5) 0] (h ++ [.cells (m.cs lst), .cells [e0], .cells [rdC l], .cells hs, .cells [.ptr (h.length + 2) 0], .cells [.ptr h.length 0], mp]) =
      some (.val Zaw, h ++ [.cells (({ m with code := 0, ikey := BA x.key, ival := x.val, iver := x.ver, gone := x.gone } : Msg).cs lst), .cells [e0], .cells [rdC r2], .cells hs, .cells [.ptr (h.length + 2) 0], .cells [.ptr h.length 0], mp]) := by
  have b1 := Zf1 t1
  have a1 := Zi9 (h ++ [.cells (m.cs lst), .cells [e0], .cells [rdC l], .cells hs, .cells [.ptr (h.length + 2) 0], .cells [.ptr h.length 0], mp]) (h.length + 2) l (by simp [Zbn]) hl t1
  have a2 := r65_ok (h ++ [.cells (({ m with code := 0 } : Msg).cs lst), .cells [e0], .cells [rdC r1], .cells hs, .cells [.ptr (h.length + 2) 0], .cells [.ptr h.length 0], mp]) (h.length + 2) r1 (by simp [Zbn]) (by omega) t2
  simp only [Msg.cs, Zdh, Zgi] at a1 a2
  have ek : (((0 : Nat) : Int) == 0) = true := by decide
  have ek' : ((0 : Int) == 0) = true := by decide
  have hcv : ∀ i, wcv 72 i = [] := fun _ => rfl
  have hres : Try.f72.results.toList = [] := rfl
  rw [wc, Zbm rfl Try.func72 rfl]
  simp only [Zbj, Yap, Yaq, Nat.reduceAdd, Nat.reduceSub, Yae, Yaj, Yar, Zai, Yaw, Try.ntmps72]
  refine (Zed (l := Zl3) (by exact Zmv)).trans ?_
  simp only [Yap, Yaq, Nat.reduceAdd, Yaj, Yar, Zai, Za7, Zak, Za3, Zae, Zan, Za9, Yao, Yam, Yan, Yau, ne_eq, reduceCtorEq, not_false_eq_true, implies_true, Ybg, Yav, Ya2, Yas, Yat, Yak, Yal, Zau, Zb5, Yax, Yay, Zb7, ↓reduceIte, Za6, Zbb, Zbl, Za5, Za2, Zab, Zag, Zaq, Zah, Zam, Zb6, Zay, and_self, Ybj, Option.some.injEq, Zdy, kd_l, Zc3, Zc2, kd_r, Zc4, Zdo, Zc7, Zbc, Zbv, Zaz, Zd1, Zcv, Zcb, Zcu, Zby, Zbx, Zdt, Zbp, Op.operands, Zdn, Ybl, List.append_nil, Zar, Zbe, Zbk, Zcr, Zet, Za8, Zba, Zb9, Zb1, Zc9, Zcl, Zbt, Zco, Ybc, Ybd, Yb7, Yb8, Zaa, Zaj, Yb3, Yaw, Yb5, Yab, sz25, ag25, st27, Za1 (hcv _), hcv, kd_h, Zbz, Zcj, Zck, Zes, Zdp, Zdf, Zgm, Zc1, Zce, Zcc, Ybu, Ybk, Ybm, back, taken, Zbi, Zdj, beq_self_eq_true, Zl3, Int.ofNat_zero, a1, Msg.cs, sz67, ag67, Zfa, Zf7, Zm1]
  refine (Zed (l := Zpy) (by exact Zsg)).trans ?_
  simp only [Yap, Yaq, Nat.reduceAdd, Yaj, Yar, Yao, Yam, Yan, Yau, Nat.reduceLeDiff, ne_eq, reduceCtorEq, not_false_eq_true, implies_true, Ybg, Yav, Ya2, Yas, Yat, Yak, Yal, Zbu, Zb5, Yax, Yay, Zb7, ↓reduceIte, Zbb, Zbl, Za5, Za2, Zab, Zaq, Zah, Zfh, Zad, Zac, Zd9, and_self, Ybj, Option.some.injEq, Zdy, kd_l, Zc3, Zc2, kd_r, Zc4, Zdo, Zc7, Zbc, Zbv, Zaz, Zd1, Zcv, Zcb, Zcu, Zby, Zbx, Zdt, Zbp, Op.operands, Zdn, Ybl, Zar, Zbe, Zbk, Zcr, Zet, hlen, Za8, Zba, Zb9, Zb1, Zb0, Zb8, Zco, Ybc, Ybd, Yb7, Yb8, Zaa, Yb3, Yaw, Yb5, Yab, sz24, st27, hcv, hres, kd_h, Zbz, Zcj, Zck, Zes, Zdp, Zdf, Zgm, Zc1, Zce, Zcc, Ybu, Ybk, Ybm, Zpy, a2, sz67, ag67, Zfa, Zf7, Ze6]
end
section
variable (h : List O) (m : Msg) (e0 : D) (l : List UInt8) (hs : List D) (mp : O) (hl : l.length ≤ 100000)
  include hl
theorem c68 {k : Nat} {ns : List Nat} {r1 r2 : List UInt8} (t1 : parN l = some (k, r1)) (t2 : parL r1 = some (ns, r2)) :
    wc 68 [.ptr (h.length + 2) 0, .ptr (h.length + 5) 0] (h ++ [.cells (m.cs (.osl false true 0 [])), .cells [e0], .cells [rdC l], .cells hs, .cells [.ptr (h.length + 2) 0], .cells [.ptr h.length 0], mp]) =
      some (.val Zaw, h ++ [.cells (({ m with pred := IntKind.i64.wrap ((k : Int) - 1), list := Zhu ns } : Msg).cs (slN ns)), .cells [e0], .cells [rdC r2], .cells hs, .cells [.ptr (h.length + 2) 0], .cells [.ptr h.length 0], mp]) := by
  have b1 := Zf1 t1
  have a1 := Zi9 (h ++ [.cells (m.cs (.osl false true 0 [])), .cells [e0], .cells [rdC l], .cells hs, .cells [.ptr (h.length + 2) 0], .cells [.ptr h.length 0], mp]) (h.length + 2) l (by simp [Zbn]) hl t1
  have a2 := r69_ok (h ++ [.cells (({ m with pred := IntKind.i64.wrap ((k : Int) - 1) } : Msg).cs (.osl false true 0 [])), .cells [e0], .cells [rdC r1], .cells hs, .cells [.ptr (h.length + 2) 0], .cells [.ptr h.length 0], mp]) (h.length + 2) r1 (by simp [Zbn]) (by omega) t2
  simp only [Msg.cs, Zdh] at a1 a2
  cases ns with
  | nil =>
    simp only [slN] at a2
    have hcv : ∀ i, wcv 68 i = [] := fun _ => rfl
    have hres : Try.f68.results.toList = [] := rfl
    rw [wc, Zbm rfl Try.func68 rfl]
    simp only [Zbj, Yap, Yaq, Nat.reduceAdd, Nat.reduceSub, Yae, Yaj, Yar, Zai, Yaw, Try.ntmps68]
    refine (Zed (l := Zl4) (by exact Zmy)).trans ?_
    simp only [Yap, Yaq, Nat.reduceAdd, Yaj, Yar, Za3, Yao, Yam, Yan, Yau, Nat.reduceLeDiff, ne_eq, reduceCtorEq, not_false_eq_true, implies_true, Ybg, Yav, Ya2, Yas, Yat, Yak, Yal, Zau, Zb5, Yax, Yay, ↓reduceIte, Za6, Zbb, Zbl, Za5, Za2, Zab, Zag, Zaq, Zah, Zam, Zgn, Zg1, and_self, Ybj, Option.some.injEq, Zdy, kd_l, Zc3, Zc2, kd_r, Zc4, Zdo, Zc7, Zbc, Zbv, Zaz, Zd1, Zcv, Zcb, Zcu, Zby, Zbx, Zdz, Zdt, Zgk, Zbp, Op.operands, Zdn, Ybl, Zar, Zbe, Zbk, Zcr, Zet, Za8, Zba, Zb9, Zb1, Zc9, Zcl, Zco, Ybc, Ybd, Yb7, Yb8, Zaa, Yb3, Yaw, Yb5, Yab, sz3, st27, hcv, kd_h, Zbz, Zcj, Zck, Zes, Zdp, Zdf, Zgm, Zc1, Zce, Zcc, Ybu, Ybk, Ybm, Zl4, a1, Msg.cs, sz67, ag67, Zfa, Zf7, slN]
    refine (Zed (l := Zmx) (by exact Zp2)).trans ?_
    simp only [Yap, Yaq, Nat.reduceAdd, Yaj, Yar, Yao, Yam, Yan, Yau, Nat.reduceLeDiff, ne_eq, reduceCtorEq, not_false_eq_true, implies_true, Ybg, Yav, Ya2, Yas, Yat, Yak, Yal, Zdv, Zb5, Yax, Yay, ↓reduceIte, Zbb, Zbl, Za5, Za2, Zab, Zaq, Zah, Zfh, Zad, Zac, Zd9, and_self, Ybj, Option.some.injEq, Zdy, kd_l, Zc3, Zc2, kd_r, Zc4, Zdo, Zc7, Zbc, Zbv, Zaz, Zd1, Zcv, Zcb, Zcu, Zby, Zbx, Zdt, Zbp, Op.operands, Zdn, Ybl, Zar, Zbe, Zbk, Zcr, Zet, hlen, Za8, Zba, Zb9, Zb1, Zdl, Zct, Zco, Ybc, Ybd, Yb7, Yb8, Zaa, Yb3, Yaw, Yb5, Yab, sz22, st27, hcv, hres, kd_h, Zbz, Zcj, Zck, Zes, Zdp, Zdf, Zgm, Zc1, Zce, Zcc, Ybu, Ybk, Ybm, Zmx, a2, sz67, ag67, Zfa, Zf7, Ze6]
  | cons n ns =>
    simp only [slN] at a2
    have hcv : ∀ i, wcv 68 i = [] := fun _ => rfl
    have hres : Try.f68.results.toList = [] := rfl
    rw [wc, Zbm rfl Try.func68 rfl]
    simp only [Zbj, Yap, Yaq, Nat.reduceAdd, Nat.reduceSub, Yae, Yaj, Yar, Zai, Yaw, Try.ntmps68]
    refine (Zed (l := Zl4) (by exact Zmy)).trans ?_
    simp only [Yap, Yaq, Nat.reduceAdd, Yaj, Yar, Za3, Yao, Yam, Yan, Yau, Nat.reduceLeDiff, ne_eq, reduceCtorEq, not_false_eq_true, implies_true, Ybg, Yav, Ya2, Yas, Yat, Yak, Yal, Zau, Zb5, Yax, Yay, ↓reduceIte, Za6, Zbb, Zbl, Za5, Za2, Zab, Zag, Zaq, Zah, Zam, Zgn, Zg1, and_self, Ybj, Option.some.injEq, Zdy, kd_l, Zc3, Zc2, kd_r, Zc4, Zdo, Zc7, Zbc, Zbv, Zaz, Zd1, Zcv, Zcb, Zcu, Zby, Zbx, Zdz, Zdt, Zgk, Zbp, Op.operands, Zdn, Ybl, Zar, Zbe, Zbk, Zcr, Zet, Za8, Zba, Zb9, Zb1, Zc9, Zcl, Zco, Ybc, Ybd, Yb7, Yb8, Zaa, Yb3, Yaw, Yb5, Yab, sz3, st27, hcv, kd_h, Zbz, Zcj, Zck, Zes, Zdp, Zdf, Zgm, Zc1, Zce, Zcc, Ybu, Ybk, Ybm, Zl4, a1, Msg.cs, sz67, ag67, Zfa, Zf7, slN]
    refine (Zed (l := Zmx) (by exact Zp2)).trans ?_
    simp only [Yap, Yaq, Nat.reduceAdd, Yaj, Yar, Yao, Yam, Yan, Yau, Nat.reduceLeDiff, ne_eq, reduceCtorEq, not_false_eq_true, implies_true, Ybg, Yav, Ya2, Yas, Yat, Yak, Yal, Zb5, Yax, Yay, ↓reduceIte, Zbb, Zbl, Za5, Za2, Zab, Zaq, Zah, Zfh, Zad, Zac, Zd9, and_self, Ybj, Option.some.injEq, Zdy, kd_l, Zc3, Zc2, kd_r, Zc4, Zdo, Zc7, Zbc, Zbv, Zaz, Zd1, Zcv, Zcb, Zcu, Zby, Zbx, Zdt, Zbp, Op.operands, Zdn, Ybl, Zar, Zbe, Zbk, Zcr, Zet, hlen, Za8, Zba, Zb9, Zb1, Zdl, Zct, Zco, Ybc, Ybd, Yb7, Yb8, Zaa, Yb3, Yaw, Yb5, Yab, sz22, st27, hcv, hres, kd_h, Zbz, Zcj, Zck, Zes, Zdp, Zdf, Zgm, Zc1, Zce, Zcc, Ybu, Ybk, Ybm, Zdd, Zcn, Zd6, Zcg, Zmx, a2, sz67, ag67, Zfa, Zf7, Ze6]
end
end Go.Abs
namespace Go.Abs
open Go Go.Proofs
set_option maxRecDepth 10000
set_option maxHeartbeats 8000000
theorem Zto : ∀ (k : Nat) (l : List UInt8) (ns : List Nat) (r : List UInt8), Zhq k l = .ok (ns, r) → ns.length = k ∧ r.length ≤ l.length := by
  intro k
  induction k with
  | zero => intro l ns r h; simp [Zhq] at h; obtain ⟨rfl, rfl⟩ := h; simp
  | succ k ih =>
    intro l ns r h
    simp only [Zhq] at h
    split at h
    · cases h
    · cases h
    · rename_i n rest ht
      split at h
      · rename_i q r' hq
        simp at h
        obtain ⟨rfl, rfl⟩ := h
        have := ih _ _ _ hq
        have h2 := Zqm ht
        simp; omega
      · cases h
theorem parL_len {l r : List UInt8} {ns : List Nat} (h : parL l = some (ns, r)) : ns.length ≤ 255 ∧ r.length ≤ l.length := by
  unfold parL at h
  split at h
  · rename_i q hq
    cases h
    cases l with
    | nil => simp [Zrc] at hq
    | cons m ys =>
      simp only [Zrc] at hq
      have := Zto _ _ _ _ hq
      have hm := m.toNat_lt
      simp; omega
  · cases h
theorem Zva {l r : List UInt8} {b : Bool} (h : parB l = some (b, r)) : r.length ≤ l.length := by
  unfold parB at h
  split at h
  · rename_i n q hq
    split at h
    · cases h; exact Zf1 hq
    · cases h
  · cases h
theorem parP_len {l r : List UInt8} {x : ItemV} (h : parP l = some (x, r)) : r.length ≤ l.length := by
  unfold parP at h
  split at h
  · rename_i s r1 q1
    split at h
    · rename_i v r2 q2
      split at h
      · rename_i n r3 q3
        split at h
        · rename_i g r4 q4
          cases h
          have := Zpm q1; have := Zf1 q2; have := Zf1 q3; have := Zva q4
          omega
        · cases h
      · cases h
    · cases h
  · cases h
theorem intsN_inj {a b : List Nat} (h : Zhu a = Zhu b) : a = b := by
  induction a generalizing b with
  | nil => cases b with
    | nil => rfl
    | cons y b => simp [Zhu] at h
  | cons x a ih => cases b with
    | nil => simp [Zhu] at h
    | cons y b =>
      simp only [Zhu, Ybi, List.cons.injEq] at h ih ⊢
      exact ⟨by omega, ih h.2⟩
theorem w17_ok (a : D) (xs l4 l5 : List UInt8) (n0 n1 n2 n3 : Nat) (m1 : Msg) (ns : List Nat) (ha : Rd a (byE xs)) (hx : xs.length ≤ 100000) (hh : Heads xs l4 n0 n1 n2 n3) (h13 : n0 < 13)
    (hf : Zjv (Ze9 n0 n1 n2 n3) l4 = some (m1, l5)) (hm : m1.list = Zhu ns) (h : List O) :
    wc 17 [a] h = some (.val (if l5 = [] ∧ m1.right = true then .tup [.agg (m1.cs (lrD ns)), .int .i64 0] else .tup [.agg (msg0.cs (.osl false true 0 [])), .int .i64 12]), h) := by
  by_cases hk : n0 ≠ 4 ∧ n0 ≠ 5 ∧ n0 ≠ 6 ∧ n0 ≠ 7 ∧ n0 ≠ 10 ∧ n0 ≠ 11 ∧ n0 ≠ 12
  · have hw := w17_none a xs l4 n0 n1 n2 n3 ha hx hh h13 hk h
    obtain ⟨k4, k5, k6, k7, k10, k11, k12⟩ := hk
    simp only [Zjv, show (Ze9 n0 n1 n2 n3).kind = n0 from rfl] at hf
    rw [if_neg (by omega), if_neg (by omega), if_neg (by omega), if_neg (by omega), if_neg (by omega), if_neg (by omega), if_neg (by omega)] at hf
    cases hf
    have : ns = [] := by cases ns with
      | nil => rfl
      | cons n ns => simp [Zhu, Ze9] at hm
    subst this
    exact hw
  have h31 := Zmc ha (by omega)
  have b58 := Zr2 (d := .osl true false 1 (byE xs)) rfl rfl
  have h32 := w32 (h.length + 2)
  have hx4 : l4.length ≤ 100000 := by have := hh.len; omega
  have hcv : ∀ i, wcv 17 i = [] := fun _ => rfl
  have hres : Try.f17.results.toList = [ResultVar.cell 2 27, ResultVar.cell 3 25] := rfl
  rw [wc, Zbm rfl Try.func17 rfl]
  simp only [Zbj, Yap, Yaq, Nat.reduceAdd, Nat.reduceSub, Yae, Yaj, Yar, Zai, Zc5, Za3, Zae, Zan, Zbf, Zbg, Za9, Zcf, Zbq, ne_eq, reduceCtorEq, not_false_eq_true, implies_true, Yav, Ya2, Yas, Yat, Yak, Yal, Zbu, Zb5, Yax, Yay, Bool.or_false, ↓reduceIte, Za0, Zd4, Zdq, Zdk, Zel, Za2, Zaf, Zab, Zaq, Zah, Zec, Zdg, List.append_nil, hlen, Zin, Zb0, Zc9, Zb8, Zcl, Ybi, List.map_nil, Yb3, Yaw, Za1 (hcv _), Try.ntmps17, ha.ownD, zo27, zo25, Zml, h31, b58, zo59, List.zip_cons_cons, List.zip_nil_right, h32, List.any_toArray, Zci, taken, Zbi, Zdj, Nat.reduceBEq, Zdd, Zcn, Zd6, Zf5, Zcg]
  rw [Zl7 rfl rfl rfl]
  simp only [Yap, Yaq, Nat.reduceAdd, Yaj, Yar, hlen, Ybi, List.map_nil, Yaw, List.append_assoc, Zif, Zl1, Zjl, Znm ha, Zmj, Zgx, Zo7, Zo8, Zo9]
  refine Zn7 (P := Try.prog) (pr := wpr) (cv := wcv) (w60 h _ _ _ xs l4 n0 n1 n2 n3 _ _ _ _ hx hh ?_) ?_
  · intro l hs i n hi hl4
    refine (Zit (hgetn.trans rfl) rfl).trans ?_
    simp only [Zai, Za3, Zae, Zan, Za9, ne_eq, reduceCtorEq, not_false_eq_true, implies_true, Ya2, Yas, Yat, Yak, Yal, Zau, Za0, Za2, Ybl, Za1 (hcv _), List.zip_cons_cons, List.zip_nil_right, List.foldl_cons]
    rw [Zjr (hgetn.trans rfl)]
    have hi1 : i + 1 ≤ hs.length := by omega
    simp only [Yap, Yaq, Zc5, Zcd, Zae, Zan, Za9, Zcf, Yau, ne_eq, reduceCtorEq, not_false_eq_true, implies_true, Ya2, Yas, Yat, Yak, Yal, Zau, Zb5, ↓reduceIte, Za4, Zbb, Zbo, Za2, Zaf, Zab, and_self, Zbe, Zbk, Zcr, Zdh, Za8, Zb1, Zc9, Zcl, Zco, Yaw, sz3, Za1 (hcv _), ix59 hi, hi1, Zqo (show i < hs.length by omega)]
    rw [Zk8 (hgetn.trans rfl)]
    simp only [Yas, Yat, Zdh]
  · rw [Zkl (n := h.length + 5) (by simp) (hgetn.trans rfl) (by simp)]
    simp only [Zai, Za3, Zcd, Zan, ne_eq, reduceCtorEq, not_false_eq_true, implies_true, Yas, Yat, Zbo, Zag, Zam, Zdh, Ybi, List.map_nil, Za1 (hcv _)]
    rw [Zn9 (n := h.length + 5) (h := h) (l := [_, _, _, _, _]) rfl (.tup [] (by simp)) ?_]
    rotate_left
    · exact ⟨.inl rfl, .inl rfl, .inr (.cells _ (by simp [Zp0])), .inr (.cells _ (by simp [Zbr])), .inl rfl, trivial⟩
    simp only [Yap, Yaq, Nat.reduceAdd, Zan, Zbf, Zbg, Za9, Yan, Yau, Nat.reduceLeDiff, ne_eq, reduceCtorEq, not_false_eq_true, implies_true, Yav, Ya2, Yas, Yat, Yak, Yal, Zau, Zb5, Zb7, ↓reduceIte, Za6, Za2, Zaf, Zab, Zag, Zaq, Zah, Zam, Zc6, Zbs, Zbe, Zbk, Zcr, Za8, Zbt, Ybc, Ybd, Ybi, List.map_nil, Zaj, Yaw, sz3, ag3, Zj1, Zmb, Zkd, Zqb ha, Zqw, Zqx, Zob, Zqd]
    have h33 := w33 true
    have e13 : decide ((n0 : Int) < 13) = true := by simp; omega
    have wk : IntKind.u8.wrap (n0 : Int) = (n0 : Int) := by rw [IntKind.wrap_u8]; omega
    have h34 := w34 h.length (h ++ [.cells ((Ze9 n0 n1 n2 n3).cs (.osl false true 0 [])), .cells [.e (.int .i64 0)], .cells [rdC l4], .cells [.int .i64 (n0 : Int), .int .i64 (n1 : Int), .int .i64 (n2 : Int), .int .i64 (n3 : Int)], .cells [.ptr (h.length + 2) 0]])
    have b27 := @Zpe n0 n1 n2 n3
    simp only [Msg.cs, Ze9, List.append_assoc, Yaj, Yar, hlen, Yap, Yaq, Nat.add_assoc, Nat.reduceAdd] at h34
    simp only [Yap, Yaq, Nat.reduceAdd, Yar, Zai, Za3, Zae, Zan, Za9, Zcf, Zbq, Yam, Yan, Yau, Nat.reduceLeDiff, ne_eq, reduceCtorEq, not_false_eq_true, implies_true, Yav, Ya2, Yas, Yat, Yak, Yal, Zau, Zbu, Zb5, Yax, Yay, Zb7, Zd5, ↓reduceIte, Zcs, Zdk, Zbb, Zbo, Za2, Zaf, Zab, Zag, Zaq, Zah, Zam, and_self, List.append_nil, Zar, Zbe, Zbk, Zcr, Zet, Za8, Zb1, Zb0, Zb8, Zbt, Zco, Ybd, Yb7, Yb8, Ybi, List.map_nil, Zaj, Yb3, Yaw, Yab, sz3, sz27, ag3, Za1 (hcv _), e13, h33, Zqd, ix59_1, ix59_2, ix59_3, Zez Try.underlying3 Try.underlying5, wk, b27, List.zip_cons_cons, List.zip_nil_right]
    refine (Zed (l := Zfn) (by exact Zlz)).trans ?_
    by_cases k4 : n0 = 4
    · skip
      have g4 : ((n0 : Int) == 4) = true := by simp; omega
      simp only [Zjv, show (Ze9 n0 n1 n2 n3).kind = n0 from rfl] at hf
      rw [if_pos (by omega)] at hf
      split at hf
      rotate_left
      · cases hf
      rename_i kk r1 t1
      split at hf
      rotate_left
      · cases hf
      rename_i bb r2 t2
      cases hf
      have b1 := Zf1 t1; have b2 := Zva t2
      have : ns = [] := by cases ns with
        | nil => rfl
        | cons n ns => simp [Zhu, Ze9] at hm
      subst this
      have hc := c62 h (Ze9 n0 n1 n2 n3) (.osl false true 0 []) (.e (.int .i64 0)) l4 [.int .i64 (n0 : Int), .int .i64 (n1 : Int), .int .i64 (n2 : Int), .int .i64 (n3 : Int)] (.map (Zek (h.length + 5))) hx4 t1 t2
      simp only [Msg.cs, Ze9, Zek] at hc
      simp only [Yap, Yaq, Nat.reduceAdd, Zai, Za3, Zan, Za9, St.put, Yao, Yam, Yan, Yau, Nat.reduceLeDiff, ne_eq, reduceCtorEq, not_false_eq_true, implies_true, Ybg, Ybx, Yav, Ya2, Yas, Yat, Yak, Yal, Zau, Ze5, Zb5, Zcp, Zfi, Yax, Yay, ↓reduceIte, Za4, Za0, Za6, Za5, Za2, Zab, Zag, Zaq, Zah, Zdi, false_imp_iff, and_self, Ybj, Zdy, kd_l, Zc3, Zc2, kd_r, Zc4, Zbc, Zaz, Zcv, Zcb, Zcu, Zby, Zbx, Zbp, Ze1, Op.operands, Zg6, Zfm, Zdn, Ybl, Zar, Zbk, hgetn, Za8, Zba, Zb9, Zaa, Yb3, Yb4, Yaw, Yb5, sz5, ag5, st27, Za1 (hcv _), hcv, kd_h, Zbz, Zcj, Zck, Zes, Zdp, Zdf, Zc1, Zce, Zcc, Zf8, Zej, Zf9, Ybu, Ybk, Ybm, Zfn, h34, Zei, mp65, key5, Zey, Zek, Zgc, g4, zo64, show Yby 7 0 = true by decide, show Yby 15 2 = true by decide, show Yby 15 3 = true by decide]
      simp only [Yaj, Yar, Za7, Zak, Za3, Zae, Zan, Za9, Zbq, ne_eq, reduceCtorEq, not_false_eq_true, implies_true, Ybg, Ya2, Yas, Yat, Yak, Yal, Zb5, Zcp, ↓reduceIte, Za4, Za2, Zaq, Zah, Ybz, Za1 (hcv _), Zfs Try.underlying64, Zcm, Zhi, Zh8, Zfo, Zew, hc, ↓Zol]
      exact Zm8 _ _ [] l5 h _ _ rfl hm (by omega) (by first | omega | simp) rfl rfl rfl rfl
    by_cases k5 : n0 = 5
    · skip
      have g4 : ((n0 : Int) == 4) = false := by simp; omega
      have g5 : ((n0 : Int) == 5) = true := by simp; omega
      simp only [Zjv, show (Ze9 n0 n1 n2 n3).kind = n0 from rfl] at hf
      rw [if_neg (by omega)] at hf; rw [if_pos (by omega)] at hf
      split at hf
      rotate_left
      · cases hf
      rename_i x r1 t1
      cases hf
      have b1 := parP_len t1
      have : ns = [] := by cases ns with
        | nil => rfl
        | cons n ns => simp [Zhu, Ze9] at hm
      subst this
      have hc := c64 h (Ze9 n0 n1 n2 n3) (.osl false true 0 []) (.e (.int .i64 0)) l4 [.int .i64 (n0 : Int), .int .i64 (n1 : Int), .int .i64 (n2 : Int), .int .i64 (n3 : Int)] (.map (Zek (h.length + 5))) hx4 t1
      simp only [Msg.cs, Ze9, Zek] at hc
      simp only [Yap, Yaq, Nat.reduceAdd, Zai, Za3, Zan, Za9, St.put, Yao, Yam, Yan, Yau, Nat.reduceLeDiff, ne_eq, reduceCtorEq, not_false_eq_true, implies_true, Ybg, Ybx, Yav, Ya2, Yas, Yat, Yak, Yal, Zau, Ze5, Zb5, Zcp, Zfi, Yax, Yay, ↓reduceIte, Za4, Za0, Za6, Za5, Za2, Zab, Zag, Zaq, Zah, Zdi, false_imp_iff, and_self, Ybj, Zdy, kd_l, Zc3, Zc2, kd_r, Zc4, Zbc, Zaz, Zcv, Zcb, Zcu, Zby, Zbx, Zbp, Ze1, Op.operands, Zg6, Zfm, Zdn, Ybl, Zar, Zbk, hgetn, Za8, Zba, Zb9, Zaa, Yb3, Yb4, Yaw, Yb5, sz5, ag5, st27, Za1 (hcv _), hcv, kd_h, Zbz, Zcj, Zck, Zes, Zdp, Zdf, Zc1, Zce, Zcc, Zf8, Zej, Zf9, Ybu, Ybk, Ybm, Zfn, h34, Zei, mp65, key5, Zey, Zek, Zh9, Zgc, g4, g5, zo64, show Yby 7 0 = true by decide, show Yby 15 2 = true by decide, show Yby 15 3 = true by decide]
      simp only [Yaj, Yar, Za7, Zak, Za3, Zae, Zan, Za9, Zbq, ne_eq, reduceCtorEq, not_false_eq_true, implies_true, Ybg, Ya2, Yas, Yat, Yak, Yal, Zb5, Zcp, ↓reduceIte, Za4, Za2, Zaq, Zah, Ybz, Za1 (hcv _), Zfs Try.underlying64, Zcm, Zhi, Zh8, Zfo, Zew, hc, ↓Zol]
      exact Zm8 _ _ [] l5 h _ _ rfl hm (by omega) (by first | omega | simp) rfl rfl rfl rfl
    by_cases k6 : n0 = 6
    · skip
      have g4 : ((n0 : Int) == 4) = false := by simp; omega
      have g5 : ((n0 : Int) == 5) = false := by simp; omega
      have g6 : ((n0 : Int) == 6) = true := by simp; omega
      simp only [Zjv, show (Ze9 n0 n1 n2 n3).kind = n0 from rfl] at hf
      rw [if_neg (by omega)] at hf; rw [if_neg (by omega)] at hf; rw [if_pos (by omega)] at hf
      split at hf
      rotate_left
      · cases hf
      rename_i x r1 t1
      cases hf
      have b1 := Zpm t1
      have : ns = [] := by cases ns with
        | nil => rfl
        | cons n ns => simp [Zhu, Ze9] at hm
      subst this
      have hc := c66 h (Ze9 n0 n1 n2 n3) (.osl false true 0 []) (.e (.int .i64 0)) l4 [.int .i64 (n0 : Int), .int .i64 (n1 : Int), .int .i64 (n2 : Int), .int .i64 (n3 : Int)] (.map (Zek (h.length + 5))) hx4 t1
      simp only [Msg.cs, Ze9, Zek] at hc
      simp only [Yap, Yaq, Nat.reduceAdd, Zai, Za3, Zan, Za9, St.put, Yao, Yam, Yan, Yau, Nat.reduceLeDiff, ne_eq, reduceCtorEq, not_false_eq_true, implies_true, Ybg, Ybx, Yav, Ya2, Yas, Yat, Yak, Yal, Zau, Ze5, Zb5, Zcp, Zfi, Yax, Yay, ↓reduceIte, Za4, Za0, Za6, Za5, Za2, Zab, Zag, Zaq, Zah, Zdi, false_imp_iff, and_self, Ybj, Zdy, kd_l, Zc3, Zc2, kd_r, Zc4, Zbc, Zaz, Zcv, Zcb, Zcu, Zby, Zbx, Zbp, Ze1, Op.operands, Zg6, Zfm, Zdn, Ybl, Zar, Zbk, hgetn, Za8, Zba, Zb9, Zaa, Yb3, Yb4, Yaw, Yb5, sz5, ag5, st27, Za1 (hcv _), hcv, kd_h, Zbz, Zcj, Zck, Zes, Zdp, Zdf, Zc1, Zce, Zcc, Zf8, Zej, Zf9, Ybu, Ybk, Ybm, Zfn, h34, Zei, mp65, key5, Zey, Zek, Zh9, Zgc, g4, g5, g6, zo64, show Yby 7 0 = true by decide, show Yby 15 2 = true by decide, show Yby 15 3 = true by decide]
      simp only [Yaj, Yar, Za7, Zak, Za3, Zae, Zan, Za9, Zbq, ne_eq, reduceCtorEq, not_false_eq_true, implies_true, Ybg, Ya2, Yas, Yat, Yak, Yal, Zb5, Zcp, ↓reduceIte, Za4, Za2, Zaq, Zah, Ybz, Za1 (hcv _), Zfs Try.underlying64, Zcm, Zhi, Zh8, Zfo, Zew, hc, ↓Zol]
      exact Zm8 _ _ [] l5 h _ _ rfl hm (by omega) (by first | omega | simp) rfl rfl rfl rfl
    by_cases k7 : n0 = 7
    · skip
      have g4 : ((n0 : Int) == 4) = false := by simp; omega
      have g5 : ((n0 : Int) == 5) = false := by simp; omega
      have g6 : ((n0 : Int) == 6) = false := by simp; omega
      have g7 : ((n0 : Int) == 7) = true := by simp; omega
      simp only [Zjv, show (Ze9 n0 n1 n2 n3).kind = n0 from rfl] at hf
      rw [if_neg (by omega)] at hf; rw [if_neg (by omega)] at hf; rw [if_neg (by omega)] at hf; rw [if_pos (by omega)] at hf
      split at hf
      rotate_left
      · cases hf
      rename_i kk r1 t1
      split at hf
      rotate_left
      · cases hf
      rename_i nn r2 t2
      cases hf
      have b1 := Zf1 t1; have b2 := parL_len t2
      have : nn = ns := intsN_inj hm
      subst this
      have hc := c68 h (Ze9 n0 n1 n2 n3) (.e (.int .i64 0)) l4 [.int .i64 (n0 : Int), .int .i64 (n1 : Int), .int .i64 (n2 : Int), .int .i64 (n3 : Int)] (.map (Zek (h.length + 5))) hx4 t1 t2
      simp only [Msg.cs, Ze9, Zek] at hc
      simp only [Yap, Yaq, Nat.reduceAdd, Zai, Za3, Zan, Za9, St.put, Yao, Yam, Yan, Yau, Nat.reduceLeDiff, ne_eq, reduceCtorEq, not_false_eq_true, implies_true, Ybg, Ybx, Yav, Ya2, Yas, Yat, Yak, Yal, Zau, Ze5, Zb5, Zcp, Zfi, Yax, Yay, ↓reduceIte, Za4, Za0, Za6, Za5, Za2, Zab, Zag, Zaq, Zah, Zdi, false_imp_iff, and_self, Ybj, Zdy, kd_l, Zc3, Zc2, kd_r, Zc4, Zbc, Zaz, Zcv, Zcb, Zcu, Zby, Zbx, Zbp, Ze1, Op.operands, Zg6, Zfm, Zdn, Ybl, Zar, Zbk, hgetn, Za8, Zba, Zb9, Zaa, Yb3, Yb4, Yaw, Yb5, sz5, ag5, st27, Za1 (hcv _), hcv, kd_h, Zbz, Zcj, Zck, Zes, Zdp, Zdf, Zc1, Zce, Zcc, Zf8, Zej, Zf9, Ybu, Ybk, Ybm, Zfn, h34, Zei, mp65, key5, Zey, Zek, Zh9, Zgc, g4, g5, g6, g7, zo64, show Yby 7 0 = true by decide, show Yby 15 2 = true by decide, show Yby 15 3 = true by decide]
      simp only [Yaj, Yar, Za7, Zak, Za3, Zae, Zan, Za9, Zbq, ne_eq, reduceCtorEq, not_false_eq_true, implies_true, Ybg, Ya2, Yas, Yat, Yak, Yal, Zb5, Zcp, ↓reduceIte, Za4, Za2, Zaq, Zah, Ybz, Za1 (hcv _), Zfs Try.underlying64, Zcm, Zhi, Zh8, Zfo, Zew, hc, ↓Zol]
      exact Zm8 _ _ nn l5 h _ _ rfl hm (by omega) (by first | omega | simp) rfl rfl rfl rfl
    by_cases k10 : n0 = 10
    · skip
      have g4 : ((n0 : Int) == 4) = false := by simp; omega
      have g5 : ((n0 : Int) == 5) = false := by simp; omega
      have g6 : ((n0 : Int) == 6) = false := by simp; omega
      have g7 : ((n0 : Int) == 7) = false := by simp; omega
      have g10 : ((n0 : Int) == 10) = true := by simp; omega
      simp only [Zjv, show (Ze9 n0 n1 n2 n3).kind = n0 from rfl] at hf
      rw [if_neg (by omega)] at hf; rw [if_neg (by omega)] at hf; rw [if_neg (by omega)] at hf; rw [if_neg (by omega)] at hf; rw [if_pos (by omega)] at hf
      split at hf
      rotate_left
      · cases hf
      rename_i kk r1 t1
      split at hf
      rotate_left
      · cases hf
      rename_i bb r2 t2
      cases hf
      have b1 := Zf1 t1; have b2 := Zva t2
      have : ns = [] := by cases ns with
        | nil => rfl
        | cons n ns => simp [Zhu, Ze9] at hm
      subst this
      have hc := c70 h (Ze9 n0 n1 n2 n3) (.osl false true 0 []) (.e (.int .i64 0)) l4 [.int .i64 (n0 : Int), .int .i64 (n1 : Int), .int .i64 (n2 : Int), .int .i64 (n3 : Int)] (.map (Zek (h.length + 5))) hx4 t1 t2
      simp only [Msg.cs, Ze9, Zek] at hc
      simp only [Yap, Yaq, Nat.reduceAdd, Zai, Za3, Zan, Za9, St.put, Yao, Yam, Yan, Yau, Nat.reduceLeDiff, ne_eq, reduceCtorEq, not_false_eq_true, implies_true, Ybg, Ybx, Yav, Ya2, Yas, Yat, Yak, Yal, Zau, Ze5, Zb5, Zcp, Zfi, Yax, Yay, ↓reduceIte, Za4, Za0, Za6, Za5, Za2, Zab, Zag, Zaq, Zah, Zdi, false_imp_iff, and_self, Ybj, Zdy, kd_l, Zc3, Zc2, kd_r, Zc4, Zbc, Zaz, Zcv, Zcb, Zcu, Zby, Zbx, Zbp, Ze1, Op.operands, Zg6, Zfm, Zdn, Ybl, Zar, Zbk, hgetn, Za8, Zba, Zb9, Zaa, Yb3, Yb4, Yaw, Yb5, sz5, ag5, st27, Za1 (hcv _), hcv, kd_h, Zbz, Zcj, Zck, Zes, Zdp, Zdf, Zc1, Zce, Zcc, Zf8, Zej, Zf9, Ybu, Ybk, Ybm, Zfn, h34, Zei, mp65, key5, Zey, Zek, Zh9, Zgc, g4, g5, g6, g7, g10, zo64, show Yby 7 0 = true by decide, show Yby 15 2 = true by decide, show Yby 15 3 = true by decide]
      simp only [Yaj, Yar, Za7, Zak, Za3, Zae, Zan, Za9, Zbq, ne_eq, reduceCtorEq, not_false_eq_true, implies_true, Ybg, Ya2, Yas, Yat, Yak, Yal, Zb5, Zcp, ↓reduceIte, Za4, Za2, Zaq, Zah, Ybz, Za1 (hcv _), Zfs Try.underlying64, Zcm, Zhi, Zh8, Zfo, Zew, hc, ↓Zol]
      exact Zm8 _ _ [] l5 h _ _ rfl hm (by omega) (by first | omega | simp) rfl rfl rfl rfl
    by_cases k11 : n0 = 11
    · skip
      have g4 : ((n0 : Int) == 4) = false := by simp; omega
      have g5 : ((n0 : Int) == 5) = false := by simp; omega
      have g6 : ((n0 : Int) == 6) = false := by simp; omega
      have g7 : ((n0 : Int) == 7) = false := by simp; omega
      have g10 : ((n0 : Int) == 10) = false := by simp; omega
      have g11 : ((n0 : Int) == 11) = true := by simp; omega
      simp only [Zjv, show (Ze9 n0 n1 n2 n3).kind = n0 from rfl] at hf
      rw [if_neg (by omega)] at hf; rw [if_neg (by omega)] at hf; rw [if_neg (by omega)] at hf; rw [if_neg (by omega)] at hf; rw [if_neg (by omega)] at hf; rw [if_pos (by omega)] at hf
      split at hf
      rotate_left
      · cases hf
      rename_i kk r1 t1
      cases hf
      have b1 := Zf1 t1
      have : ns = [] := by cases ns with
        | nil => rfl
        | cons n ns => simp [Zhu, Ze9] at hm
      subst this
      have hc := c71 h (Ze9 n0 n1 n2 n3) (.osl false true 0 []) (.e (.int .i64 0)) l4 [.int .i64 (n0 : Int), .int .i64 (n1 : Int), .int .i64 (n2 : Int), .int .i64 (n3 : Int)] (.map (Zek (h.length + 5))) hx4 t1
      simp only [Msg.cs, Ze9, Zek] at hc
      simp only [Yap, Yaq, Nat.reduceAdd, Zai, Za3, Zan, Za9, St.put, Yao, Yam, Yan, Yau, Nat.reduceLeDiff, ne_eq, reduceCtorEq, not_false_eq_true, implies_true, Ybg, Ybx, Yav, Ya2, Yas, Yat, Yak, Yal, Zau, Ze5, Zb5, Zcp, Zfi, Yax, Yay, ↓reduceIte, Za4, Za0, Za6, Za5, Za2, Zab, Zag, Zaq, Zah, Zdi, false_imp_iff, and_self, Ybj, Zdy, kd_l, Zc3, Zc2, kd_r, Zc4, Zbc, Zaz, Zcv, Zcb, Zcu, Zby, Zbx, Zbp, Ze1, Op.operands, Zg6, Zfm, Zdn, Ybl, Zar, Zbk, hgetn, Za8, Zba, Zb9, Zaa, Yb3, Yb4, Yaw, Yb5, sz5, ag5, st27, Za1 (hcv _), hcv, kd_h, Zbz, Zcj, Zck, Zes, Zdp, Zdf, Zc1, Zce, Zcc, Zf8, Zej, Zf9, Ybu, Ybk, Ybm, Zfn, h34, Zei, mp65, key5, Zey, Zek, Zh9, Zgc, g4, g5, g6, g7, g10, g11, zo64, show Yby 7 0 = true by decide, show Yby 15 2 = true by decide, show Yby 15 3 = true by decide]
      simp only [Yaj, Yar, Za7, Zak, Za3, Zae, Zan, Za9, Zbq, ne_eq, reduceCtorEq, not_false_eq_true, implies_true, Ybg, Ya2, Yas, Yat, Yak, Yal, Zb5, Zcp, ↓reduceIte, Za4, Za2, Zaq, Zah, Ybz, Za1 (hcv _), Zfs Try.underlying64, Zcm, Zhi, Zh8, Zfo, Zew, hc, ↓Zol]
      exact Zm8 _ _ [] l5 h _ _ rfl hm (by omega) (by first | omega | simp) rfl rfl rfl rfl
    have k12 : n0 = 12 := by omega
    have g4 : ((n0 : Int) == 4) = false := by simp; omega
    have g5 : ((n0 : Int) == 5) = false := by simp; omega
    have g6 : ((n0 : Int) == 6) = false := by simp; omega
    have g7 : ((n0 : Int) == 7) = false := by simp; omega
    have g10 : ((n0 : Int) == 10) = false := by simp; omega
    have g11 : ((n0 : Int) == 11) = false := by simp; omega
    have g12 : ((n0 : Int) == 12) = true := by simp; omega
    simp only [Zjv, show (Ze9 n0 n1 n2 n3).kind = n0 from rfl] at hf
    rw [if_neg (by omega)] at hf; rw [if_neg (by omega)] at hf; rw [if_neg (by omega)] at hf; rw [if_neg (by omega)] at hf; rw [if_neg (by omega)] at hf; rw [if_neg (by omega)] at hf; rw [if_pos (by omega)] at hf
    split at hf
    rotate_left
    · cases hf
    rename_i kk r1 t1
    have b1 := Zf1 t1
    by_cases hz : kk = 0
    · subst hz
      rw [if_pos rfl] at hf
      split at hf
      rotate_left
      · cases hf
      rename_i x r2 t2
      cases hf
      have b2 := parP_len t2
      have : ns = [] := by cases ns with
        | nil => rfl
        | cons n ns => simp [Zhu, Ze9] at hm
      subst this
      have hc := c72z h (Ze9 n0 n1 n2 n3) (.osl false true 0 []) (.e (.int .i64 0)) l4 [.int .i64 (n0 : Int), .int .i64 (n1 : Int), .int .i64 (n2 : Int), .int .i64 (n3 : Int)] (.map (Zek (h.length + 5))) hx4 t1 t2
      simp only [Msg.cs, Ze9, Zek] at hc
      simp only [Yap, Yaq, Nat.reduceAdd, Zai, Za3, Zan, Za9, St.put, Yao, Yam, Yan, Yau, Nat.reduceLeDiff, ne_eq, reduceCtorEq, not_false_eq_true, implies_true, Ybg, Ybx, Yav, Ya2, Yas, Yat, Yak, Yal, Zau, Ze5, Zb5, Zcp, Zfi, Yax, Yay, ↓reduceIte, Za4, Za0, Za6, Za5, Za2, Zab, Zag, Zaq, Zah, Zdi, false_imp_iff, and_self, Ybj, Zdy, kd_l, Zc3, Zc2, kd_r, Zc4, Zbc, Zaz, Zcv, Zcb, Zcu, Zby, Zbx, Zbp, Ze1, Op.operands, Zg6, Zfm, Zdn, Ybl, Zar, Zbk, hgetn, Za8, Zba, Zb9, Zaa, Yb3, Yb4, Yaw, Yb5, sz5, ag5, st27, Za1 (hcv _), hcv, kd_h, Zbz, Zcj, Zck, Zes, Zdp, Zdf, Zc1, Zce, Zcc, Zf8, Zej, Zf9, Ybu, Ybk, Ybm, Zfn, h34, Zei, mp65, key5, Zey, Zek, Zh9, Zgc, g4, g5, g6, g7, g10, g11, g12, zo64, show Yby 7 0 = true by decide, show Yby 15 2 = true by decide, show Yby 15 3 = true by decide]
      simp only [Yaj, Yar, Za7, Zak, Za3, Zae, Zan, Za9, Zbq, ne_eq, reduceCtorEq, not_false_eq_true, implies_true, Ybg, Ya2, Yas, Yat, Yak, Yal, Zb5, Zcp, ↓reduceIte, Za4, Za2, Zaq, Zah, Ybz, Za1 (hcv _), Zfs Try.underlying64, Zcm, Zhi, Zh8, Zfo, Zew, hc, ↓Zol]
      exact Zm8 _ _ [] l5 h _ _ rfl hm (by omega) (by first | omega | simp) rfl rfl rfl rfl
    · rw [if_neg hz] at hf
      cases hf
      have : ns = [] := by cases ns with
        | nil => rfl
        | cons n ns => simp [Zhu, Ze9] at hm
      subst this
      have hc := c72n h (Ze9 n0 n1 n2 n3) (.osl false true 0 []) (.e (.int .i64 0)) l4 [.int .i64 (n0 : Int), .int .i64 (n1 : Int), .int .i64 (n2 : Int), .int .i64 (n3 : Int)] (.map (Zek (h.length + 5))) hx4 t1 hz
      simp only [Msg.cs, Ze9, Zek] at hc
      simp only [Yap, Yaq, Nat.reduceAdd, Zai, Za3, Zan, Za9, St.put, Yao, Yam, Yan, Yau, Nat.reduceLeDiff, ne_eq, reduceCtorEq, not_false_eq_true, implies_true, Ybg, Ybx, Yav, Ya2, Yas, Yat, Yak, Yal, Zau, Ze5, Zb5, Zcp, Zfi, Yax, Yay, ↓reduceIte, Za4, Za0, Za6, Za5, Za2, Zab, Zag, Zaq, Zah, Zdi, false_imp_iff, and_self, Ybj, Zdy, kd_l, Zc3, Zc2, kd_r, Zc4, Zbc, Zaz, Zcv, Zcb, Zcu, Zby, Zbx, Zbp, Ze1, Op.operands, Zg6, Zfm, Zdn, Ybl, Zar, Zbk, hgetn, Za8, Zba, Zb9, Zaa, Yb3, Yb4, Yaw, Yb5, sz5, ag5, st27, Za1 (hcv _), hcv, kd_h, Zbz, Zcj, Zck, Zes, Zdp, Zdf, Zc1, Zce, Zcc, Zf8, Zej, Zf9, Ybu, Ybk, Ybm, Zfn, h34, Zei, mp65, key5, Zey, Zek, Zh9, Zgc, g4, g5, g6, g7, g10, g11, g12, zo64, show Yby 7 0 = true by decide, show Yby 15 2 = true by decide, show Yby 15 3 = true by decide]
      simp only [Yaj, Yar, Za7, Zak, Za3, Zae, Zan, Za9, Zbq, ne_eq, reduceCtorEq, not_false_eq_true, implies_true, Ybg, Ya2, Yas, Yat, Yak, Yal, Zb5, Zcp, ↓reduceIte, Za4, Za2, Zaq, Zah, Ybz, Za1 (hcv _), Zfs Try.underlying64, Zcm, Zhi, Zh8, Zfo, Zew, hc, ↓Zol]
      exact Zm8 _ _ [] l5 h _ _ rfl hm (by omega) (by first | omega | simp) rfl rfl rfl rfl
end Go.Abs
