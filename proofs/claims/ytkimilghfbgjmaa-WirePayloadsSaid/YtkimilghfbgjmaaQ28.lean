/-
  WIRE: Take; a ping. WIRE: what the document says of a ping. WIRE: two messages that may be have one datagram just if they are the same. WIRE: WireBack. No condition.
-/
import Derived.Test.YtkimilghfbgjmaaQ24
import Derived.Test.YtkimilghfbgjmaaQ25
import Derived.Test.YtkimilghfbgjmaaQ27

open List renaming any_cons → Yax, any_nil → Yay, append_nil → Yaf, cons_append → Yaj, drop_succ_cons → Yb7, drop_zero → Yb8, foldl_nil → Ybl, getD_cons_succ → Yak, getD_cons_zero → Yal, getElem?_cons_succ → Yam, getElem?_cons_zero → Yan, getElem?_toArray → Yao, length_cons → Yap, length_nil → Yaq, map_cons → Ybi, map_nil → Yba, nil_append → Yar, replicate → Yae, set_cons_succ → Yas, set_cons_zero → Yat, take_succ_cons → Ybc, take_zero → Ybd, zip_cons_cons → Ybo, zip_nil_right → Ybe
open Option renaming bind_some → Yau, map_some → Ya2
open Bool renaming false_eq_true → Yav, or_false → Ybp, or_self → Yb3
open Nat renaming le_refl → Yab, zero_add → Yaw
namespace Go.Abs
open Go Go.Proofs
set_option maxRecDepth 10000
set_option maxHeartbeats 4000000
theorem Zl6 (xs : List UInt8) (h : xs.length ≤ 112) : Zh6 (Zg7 xs) xs.length = true := by
  have e : (hdr4 xs.length).length = 4 := rfl
  have e1 : (Zg7 xs).take 4 = hdr4 xs.length := by simp [Zg7, e]
  have e2 : (Zg7 xs).take (4 + xs.length) = hdr4 xs.length ++ xs := by
    rw [Zg7, List.take_append_of_le_length (by simp [e]), List.take_of_length_le (by simp [e])]
  have e3 : (Zg7 xs).drop (4 + xs.length) = Zlh (crc (hdr4 xs.length ++ xs)) := by
    rw [Zg7, List.drop_append_of_le_length (by simp [e]), List.drop_of_length_le (by simp [e])]; rfl
  simp only [Zh6, e1, e2, e3, decide_true, Bool.and_true, decide_eq_true_eq]
  exact h
theorem w11_bad (a : D) (xs : List UInt8) (e : Int) (ha : Rd a (byE xs)) (he : (e != 0) = true) (h24 : ∀ h, wc 24 [a] h = some (.val (.tup [.osl false true 0 [], .int .i64 e]), h)) (h : List O) :
    wc 11 [a] h = some (.val (.tup [.agg (msg0.cs (.osl false true 0 [])), .int .i64 e]), h) := by
  have b27 := Zlt
  simp only [Msg.cs, msg0] at b27
  have hcv : ∀ i, wcv 11 i = [] := fun _ => rfl
  have hres : Try.f11.results.toList = [ResultVar.cell 2 27, ResultVar.tmp 3] := rfl
  rw [wc, Zbm rfl Try.func11 rfl]
  simp only [Zbj, Yap, Yaq, Nat.reduceAdd, Nat.reduceSub, Yae, Yaj, Yar, Zai, Zb2, Za7, Zak, Za3, Zc0, Zae, Zan, Zbf, Zbg, Za9, Zcf, Zbq, Yam, Yan, Yau, ne_eq, reduceCtorEq, not_false_eq_true, implies_true, Yav, Ya2, Yas, Yat, Yak, Yal, Zau, Zdv, Zbu, Yax, Yay, Zb7, Zd5, Ybp, ↓reduceIte, Za0, Za6, Zd4, Zdk, Zbb, Zc8, Za2, Zaf, Zap, Zab, Zag, Zaq, Zah, Zam, Zem, Zdm, Zb3, Zad, Zac, Zal, Zde, Zd2, Zbr, Zcy, Zcx, Zfl, List.forall_mem_cons, List.not_mem_nil, false_imp_iff, and_self, Yaf, Zar, Zbk, Zet, Za8, Zb1, Zb0, Zb8, Zbt, Zco, Zb4, Ybc, Ybd, Yb7, Yb8, Yba, Yb3, Bool.or_true, Yaw, Yab, sz27, ag27, Za1 (hcv _), Try.ntmps11, hres, ha.ownD, zo27, h24, he, b27, Ybe, Msg.cs, msg0, Zd7, Zg4, Zhm, Zci, taken, Zbi, Zdj, beq_self_eq_true, Nat.reduceBEq]
theorem w11_ok (a : D) (xs p : List UInt8) (m : Msg) (ns : List Nat) (e : Int) (ha : Rd a (byE xs)) (h24 : ∀ h, wc 24 [a] h = some (.val (.tup [.osl true false 1 (byE p), .int .i64 0]), h))
    (h17 : ∀ b, Rd b (byE p) → ∀ h, wc 17 [b] h = some (.val (.tup [.agg (m.cs (lrD ns)), .int .i64 e]), h)) (h : List O) :
    wc 11 [a] h = some (.val (.tup [.agg (m.cs (lrD ns)), .int .i64 e]), h) := by
  have h17 := h17 (.e (.sl (byE p))) Rd.e
  have e0 : ((0 : Int) != 0) = false := by decide
  simp only [Msg.cs] at h17
  have hcv : ∀ i, wcv 11 i = [] := fun _ => rfl
  have hres : Try.f11.results.toList = [ResultVar.cell 2 27, ResultVar.tmp 3] := rfl
  rw [wc, Zbm rfl Try.func11 rfl]
  cases ns with
  | nil =>
    simp only [lrD] at h17
    simp only [Zbj, Yap, Yaq, Nat.reduceAdd, Nat.reduceSub, Yae, Yaj, Yar, Zai, Zbw, Zb2, Za7, Zao, Za3, Zae, Zan, Zbf, Zbg, Za9, Zcf, Zbq, Yam, Yan, Yau, ne_eq, reduceCtorEq, not_false_eq_true, implies_true, Yav, Ya2, Yas, Yat, Yak, Yal, Zau, Zbu, Yax, Yay, Zb7, Zd5, Ybp, ↓reduceIte, Za0, Za6, Zd4, Zbb, Zc8, Za2, Zaf, Zap, Zab, Zag, Zaq, Zah, Zam, Zem, Zdm, Zb3, Zad, Zac, Zal, Zde, Zd2, Zbr, Zcy, Zcx, Zfl, List.forall_mem_cons, List.not_mem_nil, false_imp_iff, and_self, Yaf, Zar, Zbk, Zet, Za8, Zb1, Zb0, Zb8, Zct, Zbt, Zco, Zb4, Ybc, Ybd, Yb7, Yb8, Ybi, Yba, Yb3, Yaw, Yab, sz27, ag27, Za1 (hcv _), Try.ntmps11, hres, ha.ownD, zo27, h24, e0, h17, Msg.cs, lrD, Zd7, Zg4, Zhh, Zfp, Ziw, Zci, taken, Zbi, Zdj, beq_self_eq_true, Nat.reduceBEq, Zdd, Zcn, Zgf, Zfb, Zd6, Zcg, Zi2, Zi8, Zf6]
  | cons n ns =>
    simp only [lrD] at h17
    simp only [Zbj, Yap, Yaq, Nat.reduceAdd, Nat.reduceSub, Yae, Yaj, Yar, Zai, Zbw, Zb2, Za7, Zao, Za3, Zae, Zan, Zbf, Zbg, Za9, Zcf, Zbq, Yam, Yan, Yau, ne_eq, reduceCtorEq, not_false_eq_true, implies_true, Yav, Ya2, Yas, Yat, Yak, Yal, Zau, Zbu, Yax, Yay, Zb7, Ybp, ↓reduceIte, Za0, Za6, Zd4, Zbb, Zc8, Za2, Zaf, Zap, Zab, Zag, Zaq, Zah, Zam, Zem, Zdm, Zb3, Zad, Zac, Zal, Zde, Zd2, Zbr, Zcy, Zcx, Zfl, List.forall_mem_cons, List.not_mem_nil, false_imp_iff, and_self, Yaf, Zar, Zbk, Zet, Za8, Zb1, Zb0, Zb8, Zct, Zbt, Zco, Zb4, Ybc, Ybd, Yb7, Yb8, Ybi, Yba, Yb3, Bool.or_true, Yaw, Yab, sz27, ag27, Za1 (hcv _), Try.ntmps11, hres, ha.ownD, zo27, h24, e0, h17, Msg.cs, lrD, Zd7, Zg4, Zhh, Zfp, Ziw, Zq9, Zqu, Zci, taken, Zbi, Zdj, beq_self_eq_true, Nat.reduceBEq, Zdd, Zcn, Zgf, Zfb, Zd6, Zf5, Zcg, Zi2, Zoa, Zi8, Zf6]
def pingM : Msg := { kind := 2, call := 1048577, frm := 1, to := 2, key := 0, slow := false, done := false, place := 0, pred := 0, list := [], ikey := { data := #[] }, ival := 0, iver := 0, gone := false, code := 0 }
theorem w18 (h : List O) : wc 18 [] h = some (.val (.agg (pingM.cs (.osl false true 0 []))), h) := by
  have b27 := @Zpe 2 1048577 1 2
  have hcv : ∀ i, wcv 18 i = [] := fun _ => rfl
  have hres : Try.f18.results.toList = [ResultVar.cell 0 27] := rfl
  rw [wc, Zbm rfl Try.func18 rfl]
  simp only [Zbj, Yap, Yaq, Nat.reduceAdd, Nat.reduceSub, Yae, Yar, Zai, Zb2, Za3, Zae, Zan, Za9, Zcf, Yau, ne_eq, reduceCtorEq, not_false_eq_true, implies_true, Yav, Ya2, Yas, Yat, Yak, Yal, Zbu, Yax, Yay, Zb7, Zd5, ↓reduceIte, Zd4, Zdk, Zbb, Za2, Zap, Zab, Zaq, Zah, Zam, Zb3, Zad, Zac, Zde, Zav, Zbr, Zcy, Zfl, List.forall_mem_cons, List.not_mem_nil, false_imp_iff, and_self, Yaf, Zar, Zbk, Zet, Za8, Zb1, Zb0, Zb8, Zbt, Zco, Zb4, Ybc, Ybd, Yb7, Yb8, Ybi, Yba, Yb3, Yaw, Yab, sz27, ag27, Za1 (hcv _), Try.ntmps18, hres, zo27, Ybo, Ybe, b27, Msg.cs, pingM]
end Go.Abs
namespace Go.Abs
open Go Go.Proofs
set_option maxRecDepth 10000
set_option maxHeartbeats 4000000
def mvL (d : D) : Option D := if excD d then none else (match d with | .tup _ => some d | d => some (shr d))
theorem exL_moveG {P : Program} {dst : Option Tmp} {t : Tmp} {ty : TypeId} {pos : String} {af : Array Edge} {g : Option (Nat × Bool)} {tl : List D} {df : List (FuncId × List D)} {r : Rc} {h : List O} :
    Zee P ⟨dst, .move (.tmp t), ty, pos, af, g⟩ ⟨tl, df, r, h⟩ = mvL (tl.getD t Zaw) := by
  rfl
theorem sealD_ff {sz : Nat} {es : List (List E)} : sealD (.osl false false sz es) = .osl false false sz es := rfl
theorem mvL_osl {sz : Nat} {es : List (List E)} : mvL (.osl false false sz es) = some (.e (.sl es)) := rfl
theorem exO_builtin {P : Program} {l : List Oper} {s : St} {dst : Option Tmp} {b : Builtin} {args : Array Operand} {ats : Array TypeId} {ty : TypeId} {pos : String} {af : Array Edge} {g : Option (Nat × Bool)} :
    exOp P l ⟨dst, .call { callee := .builtin b, args := args, argTypes := ats }, ty, pos, af, g⟩ s = Zge P b ats args.toList s := rfl
theorem bs31_10 : Zef Try.prog 31 10 [(0, .e (.int .u8 1)), (1, .e (.int .u8 2)), (2, .e (.int .u8 3)), (3, .e (.int .u8 16)), (4, .e (.int .u8 0)), (5, .e (.int .u8 1)), (6, .e (.int .u8 1)), (7, .e (.int .u8 1)), (8, .e (.int .u8 1)), (9, .e (.int .u8 2))] = some (.osl true true 1 (byE [1, 2, 3, 16, 0, 1, 1, 1, 1, 2])) := by
  simp [Zef, el31, sz5, Zf3, zo5, Zoj, Zkt, cellsOf, notTup, Zfg, Zpd, Zoy, toEs, toE, byE, byR]
theorem w11o_bad (xs : List UInt8) (e : Int) (he : (e != 0) = true) (h24 : ∀ h, wc 24 [.osl false true 1 (byE xs)] h = some (.val (.tup [.osl false true 0 [], .int .i64 e]), h)) (h : List O) :
    wc 11 [.osl true true 1 (byE xs)] h = some (.val (.tup [.agg (msg0.cs (.osl false true 0 [])), .int .i64 e]), h) := by
  have b27 := Zlt
  simp only [Msg.cs, msg0] at b27
  have hcv : ∀ i, wcv 11 i = [] := fun _ => rfl
  have hres : Try.f11.results.toList = [ResultVar.cell 2 27, ResultVar.tmp 3] := rfl
  rw [wc, Zbm rfl Try.func11 rfl]
  simp only [Zbj, Yap, Yaq, Nat.reduceAdd, Nat.reduceSub, Yae, Yaj, Yar, Zai, Zb2, Za7, Zak, Za3, Zc0, Zae, Zan, Zbf, Zbg, Za9, Zcf, Zbq, Yam, Yan, Yau, ne_eq, reduceCtorEq, not_false_eq_true, implies_true, Yav, Ya2, Yas, Yat, Yak, Yal, Zau, Zdv, Zbu, Yax, Yay, Zb7, Zd5, Ybp, ↓reduceIte, Za0, Za6, Zd4, Zdk, Zbb, Zc8, Za2, Zaf, Zap, Zab, Zag, Zaq, Zah, Zam, Zem, Zdm, Zb3, Zad, Zac, Zal, Zde, Zd2, Zbr, Zcy, Zcx, Zfl, List.forall_mem_cons, List.not_mem_nil, false_imp_iff, and_self, Yaf, Zar, Zbk, Zet, Za8, Zb1, Zb0, Zb8, Zbt, Zco, Zb4, Ybc, Ybd, Yb7, Yb8, Yba, Yb3, Bool.or_true, Yaw, Yab, sz27, ag27, Za1 (hcv _), Try.ntmps11, hres, zo27, h24, he, b27, Ybe, Msg.cs, msg0, Zd7, Zg4, Zhm, Zci, taken, Zbi, Zdj, beq_self_eq_true, Nat.reduceBEq, Zgf, Zfb, Zfj, Zkk, Zf6]
theorem w15o (a : D) (xs ys : List UInt8) (ha : Rd a (byE xs)) (h : List O) : wc 15 [a, .osl true true 1 (byE ys)] h = some (.val (.bool (decide (xs = ys))), h) := by
  have hcv : ∀ i, wcv 15 i = [] := fun _ => rfl
  have hres : Try.f15.results.toList = [ResultVar.tmp 4] := rfl
  rw [wc, Zbm rfl Try.func15 rfl]
  simp only [Zbj, Yap, Yaq, Nat.reduceAdd, Nat.reduceSub, Yae, Yaj, Yar, Zai, Zb2, Za3, Zae, Zan, Za9, ne_eq, reduceCtorEq, not_false_eq_true, implies_true, Yav, Ya2, Yas, Yat, Yak, Yal, Zau, Zdv, Yax, Yay, ↓reduceIte, Za0, Za6, Zcs, Za2, Zaf, Zap, Zab, Zax, Zkf, Zk7, Zb3, Zad, Zac, Zal, Zav, Zcq, Zbr, Yb3, Yaw, Za1 (hcv _), Try.ntmps15, hres, ha.ownD, Zna ha.sl, Zna (a := .osl false true 1 (byE ys)) Zgg, BA_inj, Zci, taken, Zbi, Zdj, Nat.reduceBEq, Zgf, Zfb, Zfj, Zkk, Zf6]
open Classical in
theorem w17o_none (xs l4 : List UInt8) (n0 n1 n2 n3 : Nat) (hx : xs.length ≤ 100000) (hh : Heads xs l4 n0 n1 n2 n3) (h13 : n0 < 13)
    (hk : n0 ≠ 4 ∧ n0 ≠ 5 ∧ n0 ≠ 6 ∧ n0 ≠ 7 ∧ n0 ≠ 10 ∧ n0 ≠ 11 ∧ n0 ≠ 12) (h : List O) :
    wc 17 [.osl true true 1 (byE xs)] h = some (.val (if l4 = [] ∧ (Ze9 n0 n1 n2 n3).right = true then .tup [.agg ((Ze9 n0 n1 n2 n3).cs (lrD [])), .int .i64 0] else .tup [.agg (msg0.cs (.osl false true 0 [])), .int .i64 12]), h) := by
  have h31 := Zmc (a := .osl false true 1 (byE xs)) Rd.osl (by omega)
  have b58 := Zr2 (d := .osl true false 1 (byE xs)) rfl rfl
  have h32 := w32 (h.length + 2)
  have hx4 : l4.length ≤ 100000 := by have := hh.len; omega
  have hcv : ∀ i, wcv 17 i = [] := fun _ => rfl
  have hres : Try.f17.results.toList = [ResultVar.cell 2 27, ResultVar.cell 3 25] := rfl
  rw [wc, Zbm rfl Try.func17 rfl]
  simp only [Zbj, Yap, Yaq, Nat.reduceAdd, Nat.reduceSub, Yae, Yaj, Yar, Zai, Zc5, Za3, Zae, Zan, Zbf, Zbg, Za9, Zcf, Zbq, ne_eq, reduceCtorEq, not_false_eq_true, implies_true, Yav, Ya2, Yas, Yat, Yak, Yal, Zdv, Zbu, Zb5, Yax, Yay, Ybp, ↓reduceIte, Za0, Zd4, Zdq, Zdk, Zel, Za2, Zaf, Zab, Zaq, Zah, Zec, Zdg, Yaf, hlen, Zin, Zb0, Zc9, Zb8, Zcl, Ybi, Yba, Yb3, Yaw, Za1 (hcv _), Try.ntmps17, zo27, zo25, Zml, h31, b58, zo59, Ybo, Ybe, h32, List.any_toArray, Zci, taken, Zbi, Zdj, Nat.reduceBEq, Zdd, Zcn, Zgf, Zfb, Zfj, Zd6, Zf5, Zcg, Zkk, Zf6]
  rw [Zl7 rfl rfl rfl]
  simp only [Yap, Yaq, Nat.reduceAdd, Yaj, Yar, hlen, Ybi, Yba, Yaw, List.append_assoc, Zif, Zl1, Zjl, Zmj, Zgx, Zo7, Zo8, Zo9]
  refine Zn7 (P := Try.prog) (pr := wpr) (cv := wcv) (w60 h _ _ _ xs l4 n0 n1 n2 n3 _ _ _ _ hx hh ?_) ?_
  · intro l hs i n hi hl4
    refine (Zit (hgetn.trans rfl) rfl).trans ?_
    simp only [Zai, Za3, Zae, Zan, Za9, ne_eq, reduceCtorEq, not_false_eq_true, implies_true, Ya2, Yas, Yat, Yak, Yal, Zau, Za0, Za2, Ybl, Za1 (hcv _), Ybo, Ybe, List.foldl_cons]
    rw [Zjr (hgetn.trans rfl)]
    have hi1 : i + 1 ≤ hs.length := by omega
    simp only [Yap, Yaq, Zc5, Zcd, Zae, Zan, Za9, Zcf, Yau, ne_eq, reduceCtorEq, not_false_eq_true, implies_true, Ya2, Yas, Yat, Yak, Yal, Zau, Zb5, ↓reduceIte, Za4, Zbb, Zbo, Za2, Zaf, Zab, and_self, Zbe, Zbk, Zcr, Zdh, Za8, Zb1, Zc9, Zcl, Zco, Yaw, sz3, Za1 (hcv _), ix59 hi, hi1, Zqo (show i < hs.length by omega)]
    rw [Zk8 (hgetn.trans rfl)]
    simp only [Yas, Yat, Zdh]
  · rw [Zkl (n := h.length + 5) (by simp) (hgetn.trans rfl) (by simp)]
    simp only [Zai, Za3, Zcd, Zan, ne_eq, reduceCtorEq, not_false_eq_true, implies_true, Yas, Yat, Zbo, Zag, Zam, Zdh, Ybi, Yba, Za1 (hcv _)]
    rw [Zn9 (n := h.length + 5) (h := h) (l := [_, _, _, _, _]) rfl (.tup [] (by simp)) ?_]
    rotate_left
    · exact ⟨.inl rfl, .inl rfl, .inr (.cells _ (by simp [Zp0])), .inr (.cells _ (by simp [Zbr])), .inl rfl, trivial⟩
    simp only [Yap, Yaq, Nat.reduceAdd, Zan, Zbf, Zbg, Za9, Yan, Yau, Nat.reduceLeDiff, ne_eq, reduceCtorEq, not_false_eq_true, implies_true, Yav, Ya2, Yas, Yat, Yak, Yal, Zau, Zb5, Zb7, ↓reduceIte, Za6, Za2, Zaf, Zab, Zag, Zaq, Zah, Zam, Zc6, Zbs, Zbe, Zbk, Zcr, Za8, Zbt, Ybc, Ybd, Ybi, Yba, Zaj, Yaw, sz3, ag3, Zj1, Zmb, Zkd, Zqw, Zqx, Zob, Zqd]
    have h33 := w33 true
    have e13 : decide ((n0 : Int) < 13) = true := by simp; omega
    have wk : IntKind.u8.wrap (n0 : Int) = (n0 : Int) := by rw [IntKind.wrap_u8]; omega
    have h34 := w34 h.length (h ++ [.cells ((Ze9 n0 n1 n2 n3).cs (.osl false true 0 [])), .cells [.e (.int .i64 0)], .cells [rdC l4], .cells [.int .i64 (n0 : Int), .int .i64 (n1 : Int), .int .i64 (n2 : Int), .int .i64 (n3 : Int)], .cells [.ptr (h.length + 2) 0]])
    have b27 := @Zpe n0 n1 n2 n3
    simp only [Msg.cs, Ze9, List.append_assoc, Yaj, Yar, hlen, Yap, Yaq, Nat.add_assoc, Nat.reduceAdd] at h34
    simp only [Yap, Yaq, Nat.reduceAdd, Yar, Zai, Za3, Zae, Zan, Za9, Zcf, Zbq, Yam, Yan, Yau, Nat.reduceLeDiff, ne_eq, reduceCtorEq, not_false_eq_true, implies_true, Yav, Ya2, Yas, Yat, Yak, Yal, Zau, Zbu, Zb5, Yax, Yay, Zb7, Zd5, ↓reduceIte, Zcs, Zdk, Zbb, Zbo, Za2, Zaf, Zab, Zag, Zaq, Zah, Zam, and_self, Yaf, Zar, Zbe, Zbk, Zcr, Zet, Za8, Zb1, Zb0, Zb8, Zbt, Zco, Ybd, Yb7, Yb8, Ybi, Yba, Zaj, Yb3, Yaw, Yab, sz3, sz27, ag3, Za1 (hcv _), e13, h33, Zqd, ix59_1, ix59_2, ix59_3, Zez Try.underlying3 Try.underlying5, wk, b27, Ybo, Ybe]
    refine (Zed (l := Zfn) (by exact Zlz)).trans ?_
    obtain ⟨k4, k5, k6, k7, k10, k11, k12⟩ := hk
    have f4 : ((n0 : Int) == 4) = false := by simp; omega
    have f5 : ((n0 : Int) == 5) = false := by simp; omega
    have f6 : ((n0 : Int) == 6) = false := by simp; omega
    have f7 : ((n0 : Int) == 7) = false := by simp; omega
    have f10 : ((n0 : Int) == 10) = false := by simp; omega
    have f11 : ((n0 : Int) == 11) = false := by simp; omega
    have f12 : ((n0 : Int) == 12) = false := by simp; omega
    simp only [Yap, Yaq, Nat.reduceAdd, Zai, Za3, Zan, Za9, St.put, Yao, Yam, Yan, Yau, Nat.reduceLeDiff, ne_eq, reduceCtorEq, not_false_eq_true, implies_true, Bool.not_false, Bool.true_eq_false, Yav, Ya2, Yas, Yat, Yak, Yal, Zau, Ze5, Zb5, Zfi, Yax, Yay, ↓reduceIte, Za4, Za0, Za6, Za5, Za2, Zab, Zag, Zaq, Zah, Zdi, false_imp_iff, and_self, List.toList_toArray, Zdy, kd_l, Zc3, Zc2, kd_r, Zc4, Zbc, Zaz, Zcv, Zcb, Zcu, Zby, Zbx, Zbp, Ze1, Op.operands, Zg6, Zfm, Zdn, Ybl, Zar, Zbk, hgetn, Za8, Zba, Zb9, Zaa, Yb3, Nat.add_zero, Yaw, Nat.succ_ne_zero, sz5, ag5, st27, Za1 (hcv _), hcv, kd_h, Zbz, Zcj, Zck, Zes, Zdp, Zdf, Zc1, Zce, Zcc, Zf8, Zej, Zf9, List.all_cons, List.all_nil, Bool.and_self, Zfn, h34, Zei, mp65, key5, Zey, Zek, Zh9, Zw0, f4, f5, f6, f7, f10, f11, f12, zo64, show Nat.testBit 7 0 = true by decide, show Nat.testBit 15 2 = true by decide, show Nat.testBit 15 3 = true by decide]
    simp only [Zbw, Za7, Zao, Za3, Zae, Za9, Ya2, Yas, Yat, Yak, Yal, Zw7 Try.underlying64, Zcm, ↓Zol]
    exact Zm8 _ (Ze9 n0 n1 n2 n3) [] l4 h _ _ rfl rfl hx4 (by simp) rfl rfl rfl rfl
theorem Zq5 : pingM.Fits := by
  refine ⟨by decide, by decide, by decide, by decide, by decide, by decide, by decide, ?_, ?_⟩
  · simp [Msg.fine, pingM]
  · simp [Msg.off, Msg.head, pingM]
theorem Zqq : pingM.right = true := (Zle (by decide) (by decide)).2 Zq5
theorem Ztj : msg0.right = false := by simp [Msg.right, msg0]
theorem Zq4 : payL pingM = [1, 2, 3, 16, 0, 1, 1, 1, 1, 2] := by
  simp [payL, Zjd, Zjt, Zds, putL, pingM, Zko, Zmm]
theorem Zwu (b : D) (hb : Rd b (byE (payL pingM))) (h : List O) : wc 17 [b] h = some (.val (.tup [.agg (pingM.cs (lrD [])), .int .i64 0]), h) := by
  have hh := Zqf pingM Zq5 []
  simp only [Yaf] at hh
  have e : Zjt pingM = [] := by simp [Zjt, pingM]
  rw [e] at hh
  have := w17_none b (payL pingM) [] 2 1048577 1 2 hb (by rw [Zq4]; decide) hh (by decide) (by decide) h
  have e2 : Ze9 2 1048577 1 2 = pingM := rfl
  rw [e2, if_pos ⟨rfl, Zqq⟩] at this
  exact this
theorem zero_read (h : List O) : wc 17 [.osl true true 1 (byE [0, 0, 0, 0])] h = some (.val (.tup [.agg (msg0.cs (.osl false true 0 [])), .int .i64 12]), h) := by
  have hh : Heads [0, 0, 0, 0] [] 0 0 0 0 := ⟨[0, 0, 0], [0, 0], [0], rfl, rfl, rfl, rfl⟩
  have := w17o_none [0, 0, 0, 0] [] 0 0 0 0 (by decide) hh (by decide) (by decide) h
  have e2 : Ze9 0 0 0 0 = msg0 := rfl
  rw [e2, if_neg (by rw [Ztj]; simp)] at this
  exact this
theorem ping_take (b : D) (hb : Rd b (byE (Zg7 (payL pingM)))) (h : List O) : wc 11 [b] h = some (.val (.tup [.agg (pingM.cs (lrD [])), .int .i64 0]), h) := by
  refine w11_ok b _ (payL pingM) pingM [] 0 hb (fun h => ?_) (fun b hb h => Zwu b hb h) h
  have := w24 b (Zg7 (payL pingM)) hb (payL pingM).length (Zis _) (by rw [Zis, Zq4]; decide) h
  have e : ((Zg7 (payL pingM)).take (4 + (payL pingM).length)).drop 4 = payL pingM := by
    rw [List.drop_take, show 4 + (payL pingM).length - 4 = (payL pingM).length by omega, Zmn]
  rw [Zl6 _ (by rw [Zq4]; decide), if_pos rfl, e] at this
  exact this
theorem short_take (h : List O) : wc 11 [.osl true true 1 (byE [71, 1, 0, 0])] h = some (.val (.tup [.agg (msg0.cs (.osl false true 0 [])), .int .i64 11]), h) :=
  w11o_bad _ 11 (by decide) (fun h => Zwe _ _ Rd.osl (by decide) h) h
theorem w8 (h : List O) : wc 8 [] h = some (.val (.bool true), h) := by
  have h18 := w18
  have h12 := w12 pingM (.osl false true 0 []) Rd.osl (by decide) Zqq Zq5
  have h9 := w9 pingM (.osl false true 0 []) Rd.osl (by decide) Zqq Zq5
  have h9z := w9_bad msg0 (.osl false true 0 []) Rd.osl (by decide) Ztj
  have h17 := Zwu (.e (.sl (byE (payL pingM)))) Rd.e
  have h17z := zero_read
  have h11 := ping_take (.e (.sl (byE (Zg7 (payL pingM))))) Rd.e
  have h11s := short_take
  have h13 := w13 pingM pingM (.osl false true 0 []) (.osl false true 0 []) Rd.osl Rd.osl (by decide)
  have e13 : (decide (pingM.list = pingM.list) && Zlk pingM pingM) = true := by rw [Zms]
  have h14 := w14
  have b27 := Zlt
  have hpy := Zq4
  have hcl : (Zg7 (payL pingM)).length = 18 := by rw [Zis, Zq4]; rfl
  generalize payL pingM = py at h12 h9 h17 h11 hpy hcl
  generalize Zg7 py = cl at h9 h11 hcl
  have h15 := w15o (.e (.sl (byE py))) py [1, 2, 3, 16, 0, 1, 1, 1, 1, 2] Rd.e
  rw [e13] at h13
  have z4 : byE [0, 0, 0, 0] = [[.int .u8 0], [.int .u8 0], [.int .u8 0], [.int .u8 0]] := rfl
  have s4 : byE [71, 1, 0, 0] = [[.int .u8 71], [.int .u8 1], [.int .u8 0], [.int .u8 0]] := rfl
  rw [z4] at h17z
  rw [s4] at h11s
  simp only [Msg.cs, msg0, pingM, lrD] at h18 h12 h9 h9z h17 h17z h11 h11s h13 b27
  have hcv : ∀ i, wcv 8 i = [] := fun _ => rfl
  have hres : Try.f8.results.toList = [ResultVar.tmp 0] := rfl
  rw [wc, Zbm rfl Try.func8 rfl]
  simp only [Zbj, Yap, Yaq, Nat.reduceAdd, Nat.reduceSub, Yae, Yaj, Yar, Zai, Za3, Zae, Zan, Zbf, Zbg, Za9, Zcf, Zbq, Yam, Yan, Yau, ne_eq, reduceCtorEq, not_false_eq_true, implies_true, Yav, Ya2, Yas, Yat, Yak, Yal, Zau, Zdv, Zbu, Yax, Yay, Zb7, Zd5, Ybp, ↓reduceIte, Za0, Zd4, Zdk, Zca, Zbb, Zc8, Za2, Zap, Zbh, Zab, Zaq, Zah, Zec, Zdg, Zam, Zax, and_self, Yaf, Zar, Zbe, Zbk, Zcr, Zet, Zdh, hlen, Zin, Za8, Zb1, Zb0, Zb8, Zct, Zco, Ybd, Yb7, Yb8, Ybi, Yba, Yb3, Yaw, Yab, sz27, Za1 (hcv _), Try.ntmps8, h18, h12, h17, h9, h11, zo27, b27, Ybe, Ybo, h9z, Zt6, h11s, h17z, Zd7, Zg4, Zhm, Zhh, Zii, Zfp, Ziw, Zci, taken, Zbi, Zdj, beq_self_eq_true, Nat.reduceBEq, Zdd, Zcn, Zgf, Zfb, Zfj, Zd6, Zcg, Zj5, Zi2, Zn6, Zi8, Zf6]
  refine (Zed (l := Zy9) (by exact plan8_8_eq)).trans ?_
  have l1 : ∀ H, len0 Try.prog 31 (.e (.sl (byE cl))) H = some 18 := fun H => by rw [Zu4, ← hcl]; simp [byE]
  have e1 : decide (py = [1, 2, 3, 16, 0, 1, 1, 1, 1, 2]) = true := by simp [hpy]
  rw [e1] at h15
  have e18 : (((18 : Nat) : Int) == 18) = true := by decide
  have e0 : ((0 : Int) == 0) = true := by decide
  have e2 : ((2 : Int) == 2) = true := by decide
  have e11 : ((11 : Int) == 11) = true := by decide
  have e12 : ((12 : Int) == 12) = true := by decide
  have e46 : ((46 : Int) == 46) = true := by decide
  simp only [Yap, Yaq, Nat.reduceAdd, Yar, Zb2, Za3, St.put, Yao, Yam, Yan, Yau, Nat.reduceLT, ne_eq, reduceCtorEq, not_false_eq_true, implies_true, Bool.not_false, Yav, Ya2, Yas, Yat, Yak, Yal, Zau, Zbu, Zb5, Yax, Yay, Zb7, Zd5, ↓reduceIte, Za0, Za6, Zat, Zca, Za2, Zaf, Zbh, Zab, Zag, Zaq, Zah, Zec, Zdg, Zam, Zb6, Zay, Zd0, Zb3, Zad, Zac, Zal, Zav, Zbr, and_self, List.toList_toArray, Option.some.injEq, Zdy, kd_l, Zc3, Zc2, kd_r, Zc7, Zbc, Zbv, Zaz, Zd1, Zcv, Zcb, Zcu, Zby, Zbx, Zdz, Zi1, Zgv, Zgk, Zr9, Op.operands, Call.operands, Zg6, Zjs, Zfm, Zjm, Zdn, Ybl, Array.toList_append, Zar, Zbe, Zbk, Zcr, Za8, Zb4, Ybc, Ybd, Yb8, Ybi, Yba, Option.bind_eq_bind, Yb3, Yaw, Option.pure_def, Yab, sz27, ag27, hcv, hres, kd_h, Zbz, Zsr, Zqc, kdRO_g, Zrp, Znz, Zoc, Zcj, Zck, Zes, Zdp, Zdf, Zc1, Zce, Zcc, Zf8, Zej, Zf9, List.all_cons, List.all_nil, Bool.and_self, Zy9, beq_self_eq_true, Zdd, Zcn, Zfj, Zcg, exL_moveG, mvL_osl, sealD_ff, exO_builtin, e18, Ybe, Ybo, bs31_10, h15, h18, h13, h14, l1]
  trace_state
end Go.Abs
namespace Go.Abs
open Go Go.Proofs
set_option maxRecDepth 10000
set_option maxHeartbeats 4000000
end Go.Abs
namespace Go.Abs
open Go Go.Proofs
set_option maxRecDepth 10000
set_option maxHeartbeats 8000000
section
variable {tl : List D} {df : List (FuncId × List D)} {r : Rc} {h : List O} {t : Tmp}
theorem cv1_opnM : cv1 ⟨tl, df, r, h⟩ (.opn t) = (match Ztg h.length (tl.getD t Zaw) with
    | some (d, o) => ⟨tl.set t d, df, r, h ++ [o]⟩
    | none => ⟨tl, df, r, h⟩) := rfl
theorem Zt4 : cv1 ⟨tl, df, r, h⟩ (.shut t) = (match tl.getD t Zaw with
    | .asl i 0 n => (match Zwl h i n with
      | some d => ⟨tl.set t d, df, r, h.set i .dead⟩
      | none => ⟨tl, df, r, h⟩)
    | _ => ⟨tl, df, r, h⟩) := rfl
theorem open_by {n : Nat} {fu : Bool} {c : List UInt8} (h : c ≠ []) : Ztg n (.osl true fu 1 (byE c)) = some (.asl n 0 c.length, .cells (bD c)) := by
  cases c with
  | nil => exact absurd rfl h
  | cons b c =>
    have hf : ∀ l : List UInt8, (byE l).flatten.map D.e = bD l := fun l => by
      induction l with
      | nil => rfl
      | cons x l ih => simp only [byE, bD, Ybi, List.flatten_cons, List.map_append] at ih ⊢; rw [ih]; rfl
    show Ztg n (.osl true fu 1 (byR b :: byE c)) = _
    simp only [Ztg]
    have := hf (b :: c)
    simp only [byE, Ybi] at this
    rw [show (byR b :: byE c) = (byR b :: List.map byR c) from rfl, this]
    simp [byE]
end
theorem Zqi {m : Msg} (hf : m.Fits) : m.list = Zhu (Zjj m.list) ∧ m.list.length ≤ 3 := by
  have ho := hf.off
  have hff := hf.fine
  by_cases h7 : m.kind = 7
  · simp [Msg.fine, h7] at hff
    obtain ⟨hl, hx⟩ := Zx6 hff.2
    exact ⟨(Zst m.list hx).symm, hl⟩
  · have e : m.list = [] := by
      have e7 : (m.kind == 7) = false := by simpa using h7
      have := congrArg Msg.list ho
      simp only [Msg.off, e7, Yav, if_false, Msg.head, Msg.noItem] at this
      repeat' (split at this)
      all_goals simpa using this
    rw [e]; exact ⟨rfl, by simp⟩
theorem Zwf (m : Msg) (hf : m.Fits) (hr : m.right = true) (b : D) (hb : Rd b (byE (Zg7 (payL m)))) (h : List O) :
    wc 11 [b] h = some (.val (.tup [.agg (m.cs (lrD (Zjj m.list))), .int .i64 0]), h) := by
  have hpl := Zrn hf
  refine w11_ok b _ (payL m) m (Zjj m.list) 0 hb (fun h => ?_) (fun b hb h => ?_) h
  · have := w24 b (Zg7 (payL m)) hb (payL m).length (Zis _) (by rw [Zis]; omega) h
    have e : ((Zg7 (payL m)).take (4 + (payL m).length)).drop 4 = payL m := by
      rw [List.drop_take, show 4 + (payL m).length - 4 = (payL m).length by omega, Zmn]
    rw [Zl6 _ (by omega), if_pos rfl, e] at this
    exact this
  · have hh := Zqf m hf []
    simp only [Yaf] at hh
    have x := Zvx hf
    have k1 := hf.k1
    have k2 := hf.k2
    have hfill := Zt2 m hf []
    simp only [Yaf] at hfill
    have e : Ze9 m.kind.toNat m.call.toNat m.frm.toNat m.to.toNat = m.head := by
      simp only [Ze9, Msg.head, Msg.mk.injEq]
      refine ⟨by omega, by omega, by omega, by omega, ?_⟩; simp
    have := w17_ok b (payL m) (Zjt m) [] m.kind.toNat m.call.toNat m.frm.toNat m.to.toNat m (Zjj m.list) hb (by omega) hh (by omega) (by rw [e]; exact hfill) (Zqi hf).1 h
    rw [if_pos ⟨rfl, hr⟩] at this
    exact this
theorem take_no (c : List UInt8) (k : Nat) (hc : c.length = k + 8) (hx : c.length ≤ 100000) (hok : Zh6 c k = false) (b : D) (hb : Rd b (byE c)) (h : List O) :
    wc 11 [b] h = some (.val (.tup [.agg (msg0.cs (.osl false true 0 [])), .int .i64 12]), h) :=
  w11_bad b c 12 hb (by decide) (fun h => by
    have := w24 b c hb k hc hx h
    rw [hok] at this
    simpa using this) h
theorem w3_pre (m : Msg) (a : D) (ha : Rd a (isE m.list)) (hcm : -9223372036854775808 ≤ m.call ∧ m.call ≤ 9223372036854775807) (p0 : Int) (y : Nat) (h : List O)
    (hn : ¬ ((40 : Int) < m.list.length ∨ (300 : Int) < m.ikey.size) → m.Fits → wc 3 [.agg (m.cs a), .int .i64 p0, .int .u32 (y : Int)] h = some (.val (.bool true), h)) :
    wc 3 [.agg (m.cs a), .int .i64 p0, .int .u32 (y : Int)] h = some (.val (.bool true), h) := by
  have h7 := w7 m a ha
  have h8 := w8
  simp only [Msg.cs] at h7
  by_cases hg : (40 : Int) < m.list.length ∨ (300 : Int) < m.ikey.size
  · have hgm : (decide ((40 : Int) < m.list.length) || decide ((300 : Int) < m.ikey.size)) = true := by simpa using hg
    rw [hgm] at h7
    have hcv0 : wcv 3 0 = [] := rfl
    have hcv1 : wcv 3 1 = [] := rfl
    have hcv2 : wcv 3 2 = [] := rfl
    have hcv3 : wcv 3 3 = [] := rfl
    have hcv4 : wcv 3 4 = [] := rfl
    have hcv5 : wcv 3 5 = [] := rfl
    have hcv6 : wcv 3 6 = [] := rfl
    have hcv7 : wcv 3 7 = [] := rfl
    have hcv8 : wcv 3 8 = [] := rfl
    have hcv9 : wcv 3 9 = [] := rfl
    have hcv10 : wcv 3 10 = [] := rfl
    have hcv11 : wcv 3 11 = [] := rfl
    have hcv12 : wcv 3 12 = [] := rfl
    have hcv13 : wcv 3 13 = [.opn 14] := rfl
    have hcv14 : wcv 3 14 = [] := rfl
    have hcv15 : wcv 3 15 = [] := rfl
    have hcv16 : wcv 3 16 = [] := rfl
    have hcv17 : wcv 3 17 = [] := rfl
    have hcv18 : wcv 3 18 = [.shut 14] := rfl
    have hcv19 : wcv 3 19 = [] := rfl
    have hres : Try.f3.results.toList = [ResultVar.tmp 6] := rfl
    rw [wc, Zbm rfl Try.func3 rfl]
    simp only [Zbj, Yap, Yaq, Nat.reduceAdd, Nat.reduceSub, Yae, Yaj, Yar, Zai, Zb2, Za7, Zak, Za3, Zc0, Zae, Zan, Zbf, Zbg, Za9, Zbq, Yau, ne_eq, reduceCtorEq, not_false_eq_true, implies_true, Yav, Ya2, Yas, Yat, Yak, Yal, Zau, Zbu, Yax, Yay, Zb7, ↓reduceIte, Za0, Zdq, Za2, Zap, Zab, Zaq, Zah, Zax, Zb3, Zad, Zac, Zal, Zav, Zbr, Zdn, Ybl, Zar, Zbk, Za8, Zb0, Zb8, Zbt, Zb4, Ybc, Ybd, Yb8, Zaj, Yb3, Yaw, Yab, sz27, ag27, Zdb, hcv0, hcv1, hcv2, Try.ntmps3, hres, Msg.cs, ha.own, h7, h8]
  have hgm : (decide ((40 : Int) < m.list.length) || decide ((300 : Int) < m.ikey.size)) = false := by rw [Bool.eq_false_iff]; simpa using hg
  have hxm : m.list.length ≤ 1099511627776 := by omega
  have hr6 := w10 m a ha hxm
  cases hrm : m.right with
  | true => exact hn hg ((Zle hcm.1 hcm.2).1 hrm)
  | false =>
    have rm : m.right6 = false := by
      rw [Bool.eq_false_iff, ne_eq, right6_fits, ← Zle hcm.1 hcm.2, hrm]; simp
    have h9 := w9_bad m a ha hxm hrm
    rw [hgm] at h7
    rw [rm] at hr6
    have e2 : ((2 : Int) == 2) = true := by decide
    have e0 : (((0 : Nat) : Int) == 0) = true := by decide
    have l0 : ∀ H, len0 Try.prog 31 (.osl false true 0 []) H = some 0 := fun H => Zk1 Try.underlying31 Zgg
    simp only [Msg.cs] at h9 hr6
    have hcv0 : wcv 3 0 = [] := rfl
    have hcv1 : wcv 3 1 = [] := rfl
    have hcv2 : wcv 3 2 = [] := rfl
    have hcv3 : wcv 3 3 = [] := rfl
    have hcv4 : wcv 3 4 = [] := rfl
    have hcv5 : wcv 3 5 = [] := rfl
    have hcv6 : wcv 3 6 = [] := rfl
    have hcv7 : wcv 3 7 = [] := rfl
    have hcv8 : wcv 3 8 = [] := rfl
    have hcv9 : wcv 3 9 = [] := rfl
    have hcv10 : wcv 3 10 = [] := rfl
    have hcv11 : wcv 3 11 = [] := rfl
    have hcv12 : wcv 3 12 = [] := rfl
    have hcv13 : wcv 3 13 = [.opn 14] := rfl
    have hcv14 : wcv 3 14 = [] := rfl
    have hcv15 : wcv 3 15 = [] := rfl
    have hcv16 : wcv 3 16 = [] := rfl
    have hcv17 : wcv 3 17 = [] := rfl
    have hcv18 : wcv 3 18 = [.shut 14] := rfl
    have hcv19 : wcv 3 19 = [] := rfl
    have hres : Try.f3.results.toList = [ResultVar.tmp 6] := rfl
    rw [wc, Zbm rfl Try.func3 rfl]
    simp only [Zbj, Yap, Yaq, Nat.reduceAdd, Nat.reduceSub, Yae, Yaj, Yar, Zai, Zbw, Zb2, Za7, Zak, Zao, Za3, Zc0, Zae, Zan, Zbd, Zbf, Zbg, Zas, Za9, Zbq, Zch, Yao, Yam, Yan, Yau, Nat.reduceLT, ne_eq, reduceCtorEq, not_false_eq_true, implies_true, Bool.not_false, Yav, Ya2, Yas, Yat, Yak, Yal, Zau, Zdv, Zbu, Yax, Yay, Zb7, Ybp, ↓reduceIte, Za0, Za6, Ze0, Zat, Zdq, Zc8, Za2, Zaf, Zap, Zab, Zag, Zaq, Zah, Zam, Zax, Zb6, Zay, Zf4, Zd0, Zb3, Zad, Zac, Zal, Zav, Zbr, Option.some.injEq, Zdn, Ybl, Zar, Zbk, Za8, Zb0, Zb8, Zbt, Zb4, Ybc, Ybd, Yb8, Option.bind_eq_bind, Zaj, Yb3, Yaw, Option.pure_def, Yab, sz27, ag27, Zdb, hcv0, hcv1, hcv3, hcv4, hcv5, Try.ntmps3, hres, Msg.cs, ha.own, h7, h8, h9, hr6, e2, e0, l0, Zd7, Zg4, Zhm, back, Zci, taken, Zbi, Zdj, beq_self_eq_true, Nat.reduceBEq]
noncomputable def tl3 : Option Code := Try.f3.body.bind (fromR 12)
theorem stop12 {β : Type} {P : Program} {pr : FuncId → List D → Option D} {cv : FuncId → Nat → List Cv} {f : FuncId} {r : Code} {s : St} {k : X × St → Option β} {a : Array Oper} {b : Bool} :
    kSeq P pr cv f (.seq (.region 12 a b) r) k (.nrm, s) = Stop P pr cv f (.seq (.region 12 a b) r) s k := rfl
def pat3 (cl : List UInt8) (pos y : Nat) : List (Option D) := [none, some (.int .i64 (pos : Int)), some (.int .u32 (y : Int)), none, none, none, none, some (.osl false false 1 (byE cl)), none, none, none, none, none, none, none, none, none, none, none, none, none, none, none, none, none, none, none, none, none, none, none, none, none, none, none, none, none, none, none, none, none, none, none, none, none, none, none, none, none, none, none, none, none, none, none, none, none, none, none, none, none, none, none, none, none, none, none, none, none, none, none, none, none, none, none, none, none, none, none, none, none, none, none, none, none, none, none, none, none, none, none, none, none, none, none, none, none, none, none, none, none, none, none, none, none, none, none, none, none, none, none, none, none, none, none, none, none, none, none, none, none, none, none, none, none, none, none, none, none, none, none, none, none, none, none, none]
theorem app31o {xs : List UInt8} (hl : xs.length ≤ 100000) : Zfz Try.prog 31 (.osl true true 1 []) (.e (.sl (byE xs))) false = some (.osl true false 1 (byE xs)) := by
  have := app31 (ex := true) (fu := true) (es := []) (xs := byE xs) Zkw (Zq6 _) (by simp [byE]; omega)
  simpa using this
theorem bit_test {y i : Nat} (hi : i < 32) (hy : y < 4294967296) : (IntKind.u32.wrap ((BitVec.ofInt 32 ((y : Int).fdiv (2 ^ min i 32)) &&& BitVec.ofInt 32 1).toNat : Int) == 1) = y.testBit i := by
  have h1 : (y : Int).fdiv (2 ^ min i 32) = ((y / 2 ^ i : Nat) : Int) := by
    rw [show min i 32 = i by omega, Int.fdiv_eq_ediv_of_nonneg _ (by exact Int.le_of_lt (Int.pow_pos (by decide)))]
    norm_cast
  have h2 : (BitVec.ofInt 32 ((y / 2 ^ i : Nat) : Int) &&& BitVec.ofInt 32 1).toNat = y / 2 ^ i % 2 := by
    have hle : y / 2 ^ i ≤ y := Nat.div_le_self _ _
    generalize y / 2 ^ i = z at hle
    rw [BitVec.toNat_and, show (BitVec.ofInt 32 1).toNat = 1 by decide, Nat.and_one_is_mod, BitVec.toNat_ofInt]
    congr 1; simp; omega
  rw [h1, h2]
  have h3 : IntKind.u32.wrap ((y / 2 ^ i % 2 : Nat) : Int) = ((y / 2 ^ i % 2 : Nat) : Int) := by rw [IntKind.wrap]; simp [IntKind.bits, IntKind.signed]; omega
  rw [h3, Nat.testBit_eq_decide_div_mod_eq, Bool.eq_iff_iff]
  generalize y / 2 ^ i % 2 = z
  simp
  omega
theorem kCond_is {β : Type} {P : Program} {pr : FuncId → List D → Option D} {cv : FuncId → Nat → List Cv} {f : FuncId} {A B : Code} {s : St} {k : X × St → Option β} {b b' : Bool} {R : Option β} (h : b = b')
    (hk : Zyy P pr cv f (.e (.bool b')) A B s k = R) : Zyy P pr cv f (.e (.bool b)) A B s k = R := by subst h; exact hk
theorem xor_byte (x : UInt8) (r : Nat) (hr : r < 8) : IntKind.u8.wrap ((BitVec.ofInt 8 (x.toNat : Int) ^^^ BitVec.ofInt 8 (Int.fdiv 128 (2 ^ min r 8))).toNat : Int) = ((x ^^^ UInt8.ofNat (128 / 2 ^ r)).toNat : Int) := by
  have key : ∀ n : Fin 256, ∀ r : Fin 8, IntKind.u8.wrap ((BitVec.ofInt 8 ((UInt8.ofNat n.val).toNat : Int) ^^^ BitVec.ofInt 8 (Int.fdiv 128 (2 ^ min r.val 8))).toNat : Int) = ((UInt8.ofNat n.val ^^^ UInt8.ofNat (128 / 2 ^ r.val)).toNat : Int) := by decide +kernel
  have := key ⟨x.toNat, x.toNat_lt⟩ ⟨r, hr⟩
  simpa only [UInt8.ofNat_toNat] using this
theorem w3_tail (zs : List D) (A B : O) (m : Msg) (ns : List Nat) (cl : List UInt8) (k pos y : Nat) (h : List O) (c : Code) (hc : tl3 = some c) (hcl : cl.length = k + 8) (hx : cl.length ≤ 1000) (hok : Zh6 cl k = true) (hy : y < 4294967296)
    (hpos : pos + 32 ≤ 8 * cl.length) (hbk : ∀ b, Rd b (byE cl) → ∀ h, wc 11 [b] h = some (.val (.tup [.agg (m.cs (lrD ns)), .int .i64 0]), h)) :
    kx Try.prog wpr wcv 3 c ⟨mkT (pat3 cl pos y) zs 0, [], .no, h ++ [A, B]⟩ (kF Try.prog wpr wcv Try.f3 h) = some (.val (.bool true), h) := by
  have h8 := w8
  have ap := app31o (xs := cl) (by omega)
  have hne : cl ≠ [] := by intro e; rw [e] at hcl; simp at hcl
  have hop := fun n => open_by (n := n) (fu := false) hne
  obtain rfl := Option.some.inj ((rfl : tl3 = some _).symm.trans hc)
  rw [pat3]
  have hcv0 : wcv 3 0 = [] := rfl
  have hcv1 : wcv 3 1 = [] := rfl
  have hcv2 : wcv 3 2 = [] := rfl
  have hcv3 : wcv 3 3 = [] := rfl
  have hcv4 : wcv 3 4 = [] := rfl
  have hcv5 : wcv 3 5 = [] := rfl
  have hcv6 : wcv 3 6 = [] := rfl
  have hcv7 : wcv 3 7 = [] := rfl
  have hcv8 : wcv 3 8 = [] := rfl
  have hcv9 : wcv 3 9 = [] := rfl
  have hcv10 : wcv 3 10 = [] := rfl
  have hcv11 : wcv 3 11 = [] := rfl
  have hcv12 : wcv 3 12 = [] := rfl
  have hcv13 : wcv 3 13 = [.opn 14] := rfl
  have hcv14 : wcv 3 14 = [] := rfl
  have hcv15 : wcv 3 15 = [] := rfl
  have hcv16 : wcv 3 16 = [] := rfl
  have hcv17 : wcv 3 17 = [] := rfl
  have hcv18 : wcv 3 18 = [.shut 14] := rfl
  have hcv19 : wcv 3 19 = [] := rfl
  have hres : Try.f3.results.toList = [ResultVar.tmp 6] := rfl
  simp only [Yap, Yaq, Nat.reduceAdd, Yaj, Yar, Zai, Zc5, Za3, Zae, Zan, Zbd, Za9, Yao, Yam, Yan, ne_eq, reduceCtorEq, not_false_eq_true, implies_true, Yav, Ya2, Yas, Yat, Yak, Yal, Zau, Yax, Yay, ↓reduceIte, Za0, Zca, Zaf, Zap, Zec, Zam, Ze4, Zdn, mkT, Ybl, hlen, Zin, Yba, Yb3, Yaw, Try.underlying31, Zdb, List.foldl_cons, hcv12, hcv13, bs31_0, ap, Ybe, cv1_opnM, hop, Zci, taken, Zbi, Zdj, Nat.reduceBEq, Zdd, Zcn, Zgf, Zfb, Zfj, Zd6, Zcg, Zi8, Zf6]
  refine Zff (fun (n : Nat) (s : St) => ∃ (i : Nat), (i + n = 33 ∧ i ≤ 32) ∧ ∃ zs_, s = ⟨mkT [none, some (.int .i64 (pos : Int)), some (.int .u32 (y : Int)), none, none, none, none, none, none, none, none, none, none, none, some (.asl (h.length + 2) 0 cl.length), some (.int .i64 (i : Int)), none, none, none, none, none, none, none, none, none, none, none, none, none, none, none, none, none, none, none, none, none, none, none, none, none, none, none, none, none, none, none, none, none, none, none, none, none, none, none, none, none, none, none, none, none, none, none, none, none, none, none, none, none, none, none, none, none, none, none, none, none, none, none, none, none, none, none, none, none, none, none, none, none, none, none, none, none, none, none, none, none, none, none, none, none, none, none, none, none, none, none, none, none, none, none, none, none, none, none, none, none, none, none, none, none, none, none, none, none, none, none, none, none, none, none, none, none, none, none, none] zs_ 0, [], .no, h ++ [A, B, .cells (bD (Zje cl pos y i))]⟩) ?_ (33) ⟨0, ⟨by omega, by omega⟩, Zd8 rfl rfl rfl rfl⟩
  rintro n _ ⟨i, hf_o, zs_o, rfl⟩ IH_o
  obtain ⟨hn, hi2⟩ := hf_o
  by_cases hi : i < 32
  rotate_left
  · have e2 : decide ((i : Int) < 32) = false := by simp; omega
    have hi32 : i = 32 := by omega
    subst hi32
    have hsh : ∀ (A B : O) (c : List UInt8), c ≠ [] → Zwl (h ++ [A, B, .cells (bD c)]) (h.length + 2) c.length = some (.e (.sl (byE c))) := fun A B c hc => shutD_bD (by simp [Zbn]) hc
    have hfl : (Zje cl pos y 32).length = cl.length := Zt0
    have hfn : Zje cl pos y 32 ≠ [] := by intro e; rw [e] at hfl; simp at hfl; omega
    have hsh := hsh A B (Zje cl pos y 32) hfn
    rw [hfl] at hsh
    by_cases hy0 : y = 0
    · subst hy0
      have h11 := hbk (.e (.sl (byE cl))) Rd.e
      rw [Zqy] at hsh
      have q1 : ((0 : Int) == 0) = true := by decide
      have q2 : (((0 : Nat) : Int) == 0) = true := by decide
      cases ns with
      | nil =>
        simp only [lrD, Msg.cs] at h11
        simp only [Yap, Yaq, Nat.reduceAdd, Yaj, Yar, Zai, Zb2, Zfv, Za7, Zao, Za3, Zeq, Zer, Ze2, Zae, Zan, Zbf, Zbg, Zas, Za9, Zcf, Zbq, Zch, Yao, Yam, Yan, Yau, Nat.reduceLT, ne_eq, reduceCtorEq, not_false_eq_true, implies_true, Yav, Ya2, Yas, Yat, Yak, Yal, Zau, Zbu, Yax, Yay, Zb7, Zd5, Ybp, ↓reduceIte, Za0, Za6, Zat, Zd4, Zbb, Zc8, Za2, Zaf, Zab, Zag, Zaq, Zah, Zam, Zb6, Zc6, Zg3, Zay, Zbs, Zb3, Zad, Zac, Zal, Zav, Zbr, and_self, Option.some.injEq, Zdn, mkT, Ybl, Yaf, Zbe, Zbk, Zcr, Zdh, hlen, Zin, Za8, Zb1, Zb0, Zb8, Zco, Zb4, Ybd, Yb7, Yb8, Yb3, Yaw, Yab, Try.underlying4, sz27, Zdb, List.foldl_cons, hcv14, hcv18, hcv19, hres, e2, Zqy, Zt4, hsh, h11, h8, zo27, q1, q2, Zd7, Zg4, Zii, Zci, taken, Zbi, Zdj, beq_self_eq_true, Nat.reduceBEq, Zcm]
      | cons n ns =>
        simp only [lrD, Msg.cs] at h11
        simp only [Yap, Yaq, Nat.reduceAdd, Yaj, Yar, Zai, Zb2, Zfv, Za7, Zao, Za3, Zeq, Zer, Ze2, Zae, Zan, Zbf, Zbg, Zas, Za9, Zcf, Zbq, Zch, Yao, Yam, Yan, Yau, Nat.reduceLT, ne_eq, reduceCtorEq, not_false_eq_true, implies_true, Yav, Ya2, Yas, Yat, Yak, Yal, Zau, Zbu, Yax, Yay, Zb7, Ybp, ↓reduceIte, Za0, Za6, Zat, Zd4, Zbb, Zc8, Za2, Zaf, Zab, Zag, Zaq, Zah, Zam, Zb6, Zc6, Zg3, Zay, Zbs, Zb3, Zad, Zac, Zal, Zav, Zbr, and_self, Option.some.injEq, Zdn, mkT, Ybl, Yaf, Zbe, Zbk, Zcr, Zdh, hlen, Zin, Za8, Zb1, Zb0, Zb8, Zco, Zb4, Ybd, Yb7, Yb8, Ybi, Yba, Yb3, Bool.or_true, Yaw, Yab, Try.underlying4, sz27, Zdb, List.foldl_cons, hcv14, hcv18, hcv19, hres, e2, Zqy, Zt4, hsh, h11, h8, zo27, q1, q2, Zd7, Zg4, Zii, Zfp, Ziw, Zq9, Zqu, Zci, taken, Zbi, Zdj, beq_self_eq_true, Nat.reduceBEq, Zdd, Zcn, Zf5, Zoa, Zcm]
    · have h11 := take_no (Zje cl pos y 32) k (by rw [hfl, hcl]) (by omega) (flips_frame hok hy0 hy hpos) (.e (.sl (byE (Zje cl pos y 32)))) Rd.e
      simp only [Msg.cs, msg0] at h11
      have q1 : ((12 : Int) == 0) = false := by decide
      have q2 : ((y : Int) == 0) = false := by simp; omega
      simp only [Yap, Yaq, Nat.reduceAdd, Yaj, Yar, Zai, Zb2, Zfv, Za7, Zao, Za3, Zeq, Zer, Ze2, Zae, Zan, Zbf, Zbg, Zas, Za9, Zcf, Zbq, Zch, Yao, Yam, Yan, Yau, Nat.reduceLT, ne_eq, reduceCtorEq, not_false_eq_true, implies_true, Yav, Ya2, Yas, Yat, Yak, Yal, Zau, Zbu, Yax, Yay, Zb7, Zd5, Ybp, ↓reduceIte, Za0, Za6, Zat, Zd4, Zbb, Zc8, Za2, Zaf, Zab, Zag, Zaq, Zah, Zam, Zb6, Zc6, Zg3, Zay, Zbs, Zb3, Zad, Zac, Zal, Zav, Zbr, and_self, Option.some.injEq, Zdn, mkT, Ybl, Yaf, Zbe, Zbk, Zcr, Zdh, hlen, Zin, Za8, Zb1, Zb0, Zb8, Zco, Zb4, Ybd, Yb7, Yb8, Yb3, Yaw, Yab, Try.underlying4, sz27, Zdb, List.foldl_cons, hcv14, hcv18, hcv19, hres, e2, Zt4, hsh, h11, h8, zo27, q1, q2, Zd7, Zg4, Zii, Zci, taken, Zbi, Zdj, beq_self_eq_true, Nat.reduceBEq, Zcm]
  have e2 : decide ((i : Int) < 32) = true := by simp; omega
  have hwu : IntKind.u64.wrap (i : Int) = (i : Int) := by rw [IntKind.wrap]; simp [IntKind.bits, IntKind.signed]; omega
  have hnn : ¬ ((i : Int) < 0) := by omega
  have hbt := bit_test hi hy
  simp only [Nat.reduceAdd, Zai, Zbw, Zc5, Za7, Zak, Za3, Zae, Zan, Za9, ne_eq, reduceCtorEq, not_false_eq_true, implies_true, Ya2, Yas, Yat, Yak, Yal, Zau, Za4, Za6, Zcs, Zaf, Zab, Zag, Zam, Zj9, Zb6, Zc6, Zgd, IntKind.bits, Zie, Zay, Zbs, Zdn, mkT, Ybl, Yaw, Zdb, hcv14, hcv16, e2, Zez Try.underlying3 Try.underlying38, hwu, Zev hnn, Int.toNat_natCast]
  refine kCond_is hbt ?_
  cases hb : y.testBit i with
  | false =>
    have hfi : Zje cl pos y i = Zje cl pos y (i + 1) := by simp [Zje, hb]
    simp only [Zbw, Zao, Za3, Zcd, Zdx, Zae, Zan, Za9, ne_eq, reduceCtorEq, not_false_eq_true, implies_true, Ya2, Yas, Yat, Yak, Yal, Zau, Za4, Za0, Za6, Za2, Zab, Zag, Zam, Zdc, Zcz, Zdn, Ybl, Zdb, hcv15, Zp7 (show i < 33 by omega) (by omega)]
    rw [hfi]
    refine IH_o (33 - (i + 1)) _ (by omega) ⟨i + 1, ⟨by omega, by omega⟩, Zd8 rfl rfl rfl rfl⟩
  | true =>
    have hlen : (Zje cl pos y i).length = cl.length := Zt0
    have hj : (pos + i) / 8 < cl.length := by omega
    have hxi : (Zje cl pos y i)[(pos + i) / 8]? = some ((Zje cl pos y i)[(pos + i) / 8]'(by omega)) := List.getElem?_eq_getElem (by omega)
    generalize hx' : (Zje cl pos y i)[(pos + i) / 8]'(by omega) = x at hxi
    have hfi : Zje cl pos y (i + 1) = (Zje cl pos y i).set ((pos + i) / 8) (x ^^^ UInt8.ofNat (128 / 2 ^ ((pos + i) % 8))) := by
      have : (Zje cl pos y i).getD ((pos + i) / 8) 0 = x := by rw [List.getD_eq_getElem?_getD, hxi]; rfl
      simp only [Zje, hb, if_true, flip1, this]
    have hw1 : IntKind.i64.wrap ((pos : Int) + (i : Int)) = ((pos + i : Nat) : Int) := by rw [Zft (by omega) (by omega)]; omega
    have hq : IntKind.i64.wrap (((pos + i : Nat) : Int).tdiv 8) = (((pos + i) / 8 : Nat) : Int) := by
      rw [Int.tdiv_eq_ediv_of_nonneg (by omega), Zft (by omega) (by omega)]; omega
    have hm : ((pos + i : Nat) : Int).tmod 8 = (((pos + i) % 8 : Nat) : Int) := by
      rw [Int.tmod_eq_emod_of_nonneg (by omega)]; omega
    have hwr : IntKind.u64.wrap (((pos + i) % 8 : Nat) : Int) = (((pos + i) % 8 : Nat) : Int) := by rw [IntKind.wrap]; simp [IntKind.bits, IntKind.signed]; omega
    have hnn2 : ¬ ((((pos + i) % 8 : Nat) : Int) < 0) := by omega
    simp only [Yap, Yaq, Zak, Za3, Zcd, Zdx, Zae, Zan, Za9, Zcf, Yau, ne_eq, reduceCtorEq, not_false_eq_true, implies_true, Yav, Ya2, Yas, Yat, Yak, Yal, Zau, Zkq, Zb7, ↓reduceIte, Za4, Za0, Za6, Zcs, Zbb, Zbo, Za2, Zaf, Zab, Zag, Zam, Zdc, Zlb, Zkg, Zj8, Zgd, IntKind.bits, Zcz, Zhy, and_self, Zdn, Ybl, Zbe, Zbk, Zcr, Zdh, hlen, Za8, Zb1, Zc9, Zcl, Zbt, Zco, Zaj, Yaw, sz5, ag5, Zdb, hcv15, hcv17, Zp7 (show i < 33 by omega) (by omega), hw1, Zju (b := 8) (by decide), Zj2 (b := 8) (by decide), hq, hm, Zez Try.underlying3 Try.underlying38, hwr, Zev hnn2, Int.toNat_natCast, ix_asl hj, bD_len, bD_get hxi, show (pos + i) / 8 + 1 ≤ cl.length by omega]
    refine IH_o (33 - (i + 1)) _ (by omega) ⟨i + 1, ⟨by omega, by omega⟩, Zd8 rfl rfl ?_ rfl⟩
    have hb8 := bD_put (l := Zje cl pos y i) (i := (pos + i) / 8) (b := x ^^^ UInt8.ofNat (128 / 2 ^ ((pos + i) % 8))) (by omega)
    rw [← hfi, ← xor_byte x _ (Nat.mod_lt _ (by decide))] at hb8
    exact congrArg (fun q => h ++ [A, B, O.cells q]) hb8
def N3 (n : Nat) : Nat := 8 * (n + 8) - 31
theorem pos3 {p0 : Int} {n : Nat} (hp0 : -9223372036854775808 ≤ p0 ∧ p0 ≤ 9223372036854775807) (hn : n ≤ 1000) :
    IntKind.i64.wrap (p0.tmod (N3 n : Nat) + (N3 n : Nat)) = p0.tmod (N3 n : Nat) + (N3 n : Nat) ∧ ∃ pos : Nat, (p0.tmod (N3 n : Nat) + (N3 n : Nat)).tmod (N3 n : Nat) = (pos : Int) ∧ pos < N3 n := by
  have h1 : 0 < N3 n := by simp [N3]; omega
  have h2 : N3 n ≤ 10000 := by simp [N3]; omega
  generalize N3 n = N at h1 h2
  have a1 := Int.tmod_lt_of_pos p0 (show (0 : Int) < (N : Int) by omega)
  have a2 := Int.tmod_lt_of_pos (-p0) (show (0 : Int) < (N : Int) by omega)
  rw [Int.neg_tmod] at a2
  refine ⟨by rw [Zft (by omega) (by omega)], ((p0.tmod N + N).tmod N).toNat, ?_, ?_⟩
  · rw [Int.tmod_eq_emod_of_nonneg (by omega)]
    have := Int.emod_nonneg (p0.tmod N + N) (show (N : Int) ≠ 0 by omega)
    omega
  · rw [Int.tmod_eq_emod_of_nonneg (by omega)]
    have := Int.emod_nonneg (p0.tmod N + N) (show (N : Int) ≠ 0 by omega)
    have := Int.emod_lt_of_pos (p0.tmod N + N) (show (0 : Int) < (N : Int) by omega)
    omega
theorem w3_end (s : St) (A B : O) (m : Msg) (ns : List Nat) (cl : List UInt8) (k pos y : Nat) (h : List O) (c : Code) (hc : tl3 = some c) (hcl : cl.length = k + 8) (hx : cl.length ≤ 1000) (hok : Zh6 cl k = true) (hy : y < 4294967296)
    (hpos : pos + 32 ≤ 8 * cl.length) (hbk : ∀ b, Rd b (byE cl) → ∀ h, wc 11 [b] h = some (.val (.tup [.agg (m.cs (lrD ns)), .int .i64 0]), h))
    (h1 : s.d = []) (h2 : s.r = .no) (h3 : s.h = h ++ [A, B]) (h4 : mkT (pat3 cl pos y) s.t 0 = s.t) :
    kx Try.prog wpr wcv 3 c s (kF Try.prog wpr wcv Try.f3 h) = some (.val (.bool true), h) := by
  obtain ⟨zs, rfl⟩ := Zd8 h1 h2 h3 h4
  exact w3_tail zs A B m ns cl k pos y h c hc hcl hx hok hy hpos hbk
theorem w3 (m : Msg) (a : D) (ha : Rd a (isE m.list)) (hcm : -9223372036854775808 ≤ m.call ∧ m.call ≤ 9223372036854775807) (p0 : Int) (hp0 : -9223372036854775808 ≤ p0 ∧ p0 ≤ 9223372036854775807) (y : Nat) (hy : y < 4294967296) (h : List O) :
    wc 3 [.agg (m.cs a), .int .i64 p0, .int .u32 (y : Int)] h = some (.val (.bool true), h) := by
  refine w3_pre m a ha hcm p0 y h fun hg hf => ?_
  have hgm : (decide ((40 : Int) < m.list.length) || decide ((300 : Int) < m.ikey.size)) = false := by rw [Bool.eq_false_iff]; simpa using hg
  have h7 := w7 m a ha
  have h8 := w8
  have hxm : m.list.length ≤ 1099511627776 := by omega
  have hr := (Zle hcm.1 hcm.2).2 hf
  have rm : m.right6 = true := right6_fits.2 hf
  have hr6 := w10 m a ha hxm
  have h9 := w9 m a ha hxm hr hf
  have h12 := w12 m a ha hxm hr hf
  have h11 := Zwf m hf hr (.e (.sl (byE (Zg7 (payL m))))) Rd.e
  obtain ⟨hml, hm3⟩ := Zqi hf
  have h13 := w13 m m (lsD (Zjj m.list)) a (by have := lsD_rd (Zjj m.list); rwa [← hml] at this) ha hxm
  have e13 : (decide (m.list = m.list) && Zlk m m) = true := by rw [Zms]
  have h14 := w14
  have hpl := Zrn hf
  have hcl := Zis (payL m)
  have hok := Zl6 (payL m) (by omega)
  have hbk := fun b hb => Zwf m hf hr b hb
  rw [hgm] at h7
  rw [rm] at hr6
  rw [e13] at h13
  generalize payL m = py at h9 h12 h11 hpl hcl hok hbk
  generalize Zg7 py = cl at h9 h11 hcl hok hbk
  generalize Zjj m.list = ns at h11 h13 hbk
  have e0 : ((0 : Int) != 0) = false := by decide
  have lc : ∀ H, len0 Try.prog 31 (.e (.sl (byE cl))) H = some (py.length + 8) := fun H => by rw [Zu4]; simp [byE, hcl]
  have lp : ∀ H, len0 Try.prog 31 (.e (.sl (byE py))) H = some py.length := fun H => by rw [Zu4]; simp [byE]
  have w1 : IntKind.i64.wrap ((py.length : Int) + 8) = ((py.length + 8 : Nat) : Int) := by rw [Zft (by omega) (by omega)]; omega
  have wn : IntKind.i64.wrap (IntKind.i64.wrap (8 * ((py.length + 8 : Nat) : Int)) - 31) = (N3 py.length : Nat) := by
    rw [Zft (n := 8 * ((py.length + 8 : Nat) : Int)) (by omega) (by omega), Zft (by omega) (by omega)]; simp [N3]; omega
  have hN0 : ((N3 py.length : Nat) : Int) ≠ 0 := by simp [N3]; omega
  obtain ⟨wp, pos, hpe, hpl2⟩ := pos3 hp0 (show py.length ≤ 1000 by omega)
  have hpc : pos + 32 ≤ 8 * cl.length := by rw [hcl]; simp [N3] at hpl2; omega
  have g1 : decide ((46 : Int) < (py.length : Int)) = false := by simp; omega
  have g2 : (((py.length + 8 : Nat) : Int) != ((py.length + 8 : Nat) : Int)) = false := by simp
  simp only [Msg.cs] at h7 h9 hr6 h12 h11 h13
  have hcv0 : wcv 3 0 = [] := rfl
  have hcv1 : wcv 3 1 = [] := rfl
  have hcv2 : wcv 3 2 = [] := rfl
  have hcv3 : wcv 3 3 = [] := rfl
  have hcv4 : wcv 3 4 = [] := rfl
  have hcv5 : wcv 3 5 = [] := rfl
  have hcv6 : wcv 3 6 = [] := rfl
  have hcv7 : wcv 3 7 = [] := rfl
  have hcv8 : wcv 3 8 = [] := rfl
  have hcv9 : wcv 3 9 = [] := rfl
  have hcv10 : wcv 3 10 = [] := rfl
  have hcv11 : wcv 3 11 = [] := rfl
  have hcv12 : wcv 3 12 = [] := rfl
  have hcv13 : wcv 3 13 = [.opn 14] := rfl
  have hcv14 : wcv 3 14 = [] := rfl
  have hcv15 : wcv 3 15 = [] := rfl
  have hcv16 : wcv 3 16 = [] := rfl
  have hcv17 : wcv 3 17 = [] := rfl
  have hcv18 : wcv 3 18 = [.shut 14] := rfl
  have hcv19 : wcv 3 19 = [] := rfl
  have hres : Try.f3.results.toList = [ResultVar.tmp 6] := rfl
  rw [wc, Zbm rfl Try.func3 rfl]
  cases ns with
  | nil =>
    simp only [lrD, lsD] at h11 h13
    simp only [Zbj, Yap, Yaq, Nat.reduceAdd, Nat.reduceSub, Yae, Yaj, Yar, Zai, Zbw, Za7, Zao, Za3, Zae, Zan, Zbd, Zbf, Zbg, Zas, Za9, Zcf, Zbq, Zch, Yao, Yam, Yan, Yau, Nat.reduceLT, ne_eq, reduceCtorEq, not_false_eq_true, implies_true, Bool.not_true, Yav, Ya2, Yas, Yat, Yak, Yal, Zau, Zbu, Yax, Yay, Zb7, Zd5, Ybp, ↓reduceIte, Za0, Za6, Ze0, Zat, Zd4, Zdq, Zbb, Zc8, Za2, Zaf, Zap, Zab, Zag, Zaq, Zah, Zam, Zax, Zdc, Zgn, Zkh, Zkg, Zem, Zeo, Zcz, Zg1, Zj3, Zdm, Zdr, Zf4, Zd0, and_self, Option.some.injEq, Zdn, Ybl, Yaf, Zar, Zbe, Zbk, Zcr, Zdh, hlen, Zin, Za8, Zb1, Zb0, Zb8, Zct, Zbt, Zco, Ybc, Ybd, Yb7, Yb8, Ybi, Yba, Option.bind_eq_bind, Zaj, Yb3, Yaw, Option.pure_def, Yab, sz27, ag27, Zdb, hcv0, hcv1, hcv3, hcv4, hcv6, hcv7, hcv8, hcv10, hcv11, Try.ntmps3, Msg.cs, ha.own, h7, h9, hr6, h12, h11, h13, h14, e0, lc, lp, w1, g1, g2, zo27, wn, Zj2 hN0, wp, hpe, ↓stop12, Zd7, Zg4, Zhh, Zii, Zfp, Ziw, back, Zci, taken, Zbi, Zdj, beq_self_eq_true, Nat.reduceBEq, Zdd, Zcn, Zgf, Zfb, Zd6, Zcg, Zj5, Zi2, Zn6, Zi8, Zf6]
    exact w3_end _ _ _ m [] cl py.length pos y h _ rfl hcl (by omega) hok hy hpc hbk rfl rfl rfl rfl
  | cons n ns =>
    simp only [lrD, lsD] at h11 h13
    simp only [Zbj, Yap, Yaq, Nat.reduceAdd, Nat.reduceSub, Yae, Yaj, Yar, Zai, Zbw, Za7, Zao, Za3, Zae, Zan, Zbd, Zbf, Zbg, Zas, Za9, Zcf, Zbq, Zch, Yao, Yam, Yan, Yau, Nat.reduceLT, ne_eq, reduceCtorEq, not_false_eq_true, implies_true, Bool.not_true, Yav, Ya2, Yas, Yat, Yak, Yal, Zau, Zbu, Yax, Yay, Zb7, Ybp, ↓reduceIte, Za0, Za6, Ze0, Zat, Zd4, Zdq, Zbb, Zc8, Za2, Zaf, Zap, Zab, Zag, Zaq, Zah, Zam, Zax, Zdc, Zgn, Zkh, Zkg, Zem, Zeo, Zcz, Zg1, Zj3, Zdm, Zdr, Zf4, Zd0, and_self, Option.some.injEq, Zfm, Zfe, Zdn, Ybl, Yaf, Zar, Zbe, Zbk, Zcr, Zdh, hlen, Zin, Za8, Zb1, Zb0, Zb8, Zct, Zbt, Zco, Ybc, Ybd, Yb7, Yb8, Ybi, Yba, Option.bind_eq_bind, Zaj, Yb3, Bool.or_true, Yaw, Option.pure_def, Yab, sz27, ag27, Zdb, hcv0, hcv1, hcv3, hcv4, hcv6, hcv7, hcv8, hcv10, hcv11, Try.ntmps3, Msg.cs, ha.own, h7, h9, hr6, h12, h11, h13, h14, e0, lc, lp, w1, g1, g2, zo27, Zxa, wn, Zj2 hN0, wp, hpe, ↓stop12, Zd7, Zg4, Zhh, Zii, Zfp, Ziw, Zq9, Zqu, back, Zci, taken, Zbi, Zdj, beq_self_eq_true, Nat.reduceBEq, Zdd, Zcn, Zgf, Zfb, Zd6, Zf5, Zcg, Zj5, Zi2, Zn6, Zoa, Zi8, Zf6, Zhk]
    exact w3_end _ _ _ m (n :: ns) cl py.length pos y h _ rfl hcl (by omega) hok hy hpc hbk rfl rfl rfl rfl
end Go.Abs
