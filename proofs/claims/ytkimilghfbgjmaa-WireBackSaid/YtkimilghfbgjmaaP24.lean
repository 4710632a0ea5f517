/-
  WIRE: what the document says of a ping. WIRE: two messages that may be have one datagram just if they are the same. A GIVEN FUNCTION that hands back a fresh slice: what is said of its call by the kit, turned into what the evaluator needs. WIRE: the given functions, bytes.Clone and slices.Grow of no slice. WIRE: what came in reads as sealed data; a call that answers true, over whatever came in, keeps all that was there. WIRE: a message that came in. No condition.
-/
import Derived.Test.YtkimilghfbgjmaaP23
import Derived.Test.YtkimilghfbgjmaaP12
import Derived.Test.YtkimilghfbgjmaaP14
import Derived.Shelf.Bytes.SlClone
import Derived.Shelf.Spec.SlicesGrow
import Derived.Test.YtkimilghfbgjmaaP19
import Derived.ProofKit

namespace Go.Abs
open Go Go.Proofs
set_option maxRecDepth 10000
set_option maxHeartbeats 4000000

def mvL (d : D) : Option D := if excD d then none else (match d with | .tup _ => some d | d => some (shr d))
theorem exL_moveG {P : Program} {dst : Option Tmp} {t : Tmp} {ty : TypeId} {pos : String} {af : Array Edge} {g : Option (Nat × Bool)} {tl : List D} {df : List (FuncId × List D)} {r : Rc} {h : List O} :
    Zdp P ⟨dst, .move (.tmp t), ty, pos, af, g⟩ ⟨tl, df, r, h⟩ = mvL (tl.getD t Zav) := by
  rfl
theorem sealD_ff {sz : Nat} {es : List (List E)} : sealD (.osl false false sz es) = .osl false false sz es := rfl
theorem mvL_osl {sz : Nat} {es : List (List E)} : mvL (.osl false false sz es) = some (.e (.sl es)) := rfl
theorem exO_builtin {P : Program} {l : List Oper} {s : St} {dst : Option Tmp} {b : Builtin} {args : Array Operand} {ats : Array TypeId} {ty : TypeId} {pos : String} {af : Array Edge} {g : Option (Nat × Bool)} :
    exOp P l ⟨dst, .call { callee := .builtin b, args := args, argTypes := ats }, ty, pos, af, g⟩ s = Zfs P b ats args.toList s := rfl
theorem bs31_10 : Ze9 Try.prog 31 10 [(0, .e (.int .u8 1)), (1, .e (.int .u8 2)), (2, .e (.int .u8 3)), (3, .e (.int .u8 16)), (4, .e (.int .u8 0)), (5, .e (.int .u8 1)), (6, .e (.int .u8 1)), (7, .e (.int .u8 1)), (8, .e (.int .u8 1)), (9, .e (.int .u8 2))] = some (.osl true true 1 (byE [1, 2, 3, 16, 0, 1, 1, 1, 1, 2])) := by
  simp [Ze9, el31, sz5, Zed, zo5, replD, fillD, cellsOf, notTup, Zeq, chunk, rowsE, toEs, toE, byE, byR]
theorem w11o_bad (xs : List UInt8) (e : Int) (he : (e != 0) = true) (h24 : ∀ h, wc 24 [.osl false true 1 (byE xs)] h = some (.val (.tup [.osl false true 0 [], .int .i64 e]), h)) (h : List O) :
    wc 11 [.osl true true 1 (byE xs)] h = some (.val (.tup [.agg (msg0.cs (.osl false true 0 [])), .int .i64 e]), h) := by
  have b27 := build27_nil
  simp only [Msg.cs, msg0] at b27
  have hcv : ∀ i, wcv 11 i = [] := fun _ => rfl
  have hres : Try.f11.results.toList = [ResultVar.cell 2 27, ResultVar.tmp 3] := rfl
  rw [wc, Zbt rfl Try.func11 rfl]
  simp only [Zbi, List.length_cons, List.length_nil, Nat.reduceAdd, Nat.reduceSub, List.replicate, List.cons_append, List.nil_append, Zaj, Zaz, Za7, Zal, Za3, Zbr, Zae, Zao, Zbe, Zbf, Za9, Zce, Zbq, List.getElem?_cons_succ, List.getElem?_cons_zero, Option.bind_some, ne_eq, reduceCtorEq, not_false_eq_true, implies_true, Bool.false_eq_true, Option.map_some, List.set_cons_succ, List.set_cons_zero, List.getD_cons_succ, List.getD_cons_zero, Zau, Zdj, Zbo, List.any_cons, List.any_nil, Zb3, Zds, Bool.or_false, ↓reduceIte, Za0, Za6, Zdz, Zdv, Zbc, Zc7, Za4, Zaf, Zaq, Zac, Zai, Zaw, Zap, Zan, Zel, Ze0, Zb0, Zab, Zaa, Zah, Zdy, Zd6, Zbm, Zcx, Zcw, Zg6, List.forall_mem_cons, List.not_mem_nil, false_imp_iff, and_self, List.append_nil, Zas, Zbg, Zeu, Zad, Zb4, Zb1, Zb9, Zbs, Zcq, Zb2, List.take_succ_cons, List.take_zero, List.drop_succ_cons, List.drop_zero, List.map_nil, Bool.or_self, Bool.or_true, Nat.zero_add, Nat.le_refl, sz27, ag27, Za1 (hcv _), Try.ntmps11, hres, zo27, h24, he, b27, List.zip_nil_right, Msg.cs, msg0, Zdd, Zgp, Zj1, Zcp, taken, Zbj, Zdo, beq_self_eq_true, Nat.reduceBEq, Zgo, Zf7, Zev, shr_fu, Zf2]

theorem w15o (a : D) (xs ys : List UInt8) (ha : Rd a (byE xs)) (h : List O) : wc 15 [a, .osl true true 1 (byE ys)] h = some (.val (.bool (decide (xs = ys))), h) := by
  have hcv : ∀ i, wcv 15 i = [] := fun _ => rfl
  have hres : Try.f15.results.toList = [ResultVar.tmp 4] := rfl
  rw [wc, Zbt rfl Try.func15 rfl]
  simp only [Zbi, List.length_cons, List.length_nil, Nat.reduceAdd, Nat.reduceSub, List.replicate, List.cons_append, List.nil_append, Zaj, Zaz, Za3, Zae, Zao, Za9, ne_eq, reduceCtorEq, not_false_eq_true, implies_true, Bool.false_eq_true, Option.map_some, List.set_cons_succ, List.set_cons_zero, List.getD_cons_succ, List.getD_cons_zero, Zau, Zdj, List.any_cons, List.any_nil, ↓reduceIte, Za0, Za6, Zck, Za4, Zaf, Zaq, Zac, Zax, binS_eql, strD_eql, Zb0, Zab, Zaa, Zah, Zat, Zcn, Zbm, Bool.or_self, Nat.zero_add, Za1 (hcv _), Try.ntmps15, hres, ha.ownD, conv_str ha.sl, conv_str (a := .osl false true 1 (byE ys)) Zg0, BA_inj, Zcp, taken, Zbj, Zdo, Nat.reduceBEq, Zgo, Zf7, Zev, shr_fu, Zf2]

open Classical in
theorem w17o_none (xs l4 : List UInt8) (n0 n1 n2 n3 : Nat) (hx : xs.length ≤ 100000) (hh : Heads xs l4 n0 n1 n2 n3) (h13 : n0 < 13)
    (hk : n0 ≠ 4 ∧ n0 ≠ 5 ∧ n0 ≠ 6 ∧ n0 ≠ 7 ∧ n0 ≠ 10 ∧ n0 ≠ 11 ∧ n0 ≠ 12) (h : List O) :
    wc 17 [.osl true true 1 (byE xs)] h = some (.val (if l4 = [] ∧ (Zgd n0 n1 n2 n3).right = true then .tup [.agg ((Zgd n0 n1 n2 n3).cs (lrD [])), .int .i64 0] else .tup [.agg (msg0.cs (.osl false true 0 [])), .int .i64 12]), h) := by
  have h31 := clone31 (a := .osl false true 1 (byE xs)) Rd.osl (by omega)
  have b58 := build58 (d := .osl true false 1 (byE xs)) rfl rfl
  have h32 := w32 (h.length + 2)
  have hx4 : l4.length ≤ 100000 := by have := hh.len; omega
  have hcv : ∀ i, wcv 17 i = [] := fun _ => rfl
  have hres : Try.f17.results.toList = [ResultVar.cell 2 27, ResultVar.cell 3 25] := rfl
  rw [wc, Zbt rfl Try.func17 rfl]
  simp only [Zbi, List.length_cons, List.length_nil, Nat.reduceAdd, Nat.reduceSub, List.replicate, List.cons_append, List.nil_append, Zaj, Zc3, Za3, Zae, Zao, Zbe, Zbf, Za9, Zce, Zbq, ne_eq, reduceCtorEq, not_false_eq_true, implies_true, Bool.false_eq_true, Option.map_some, List.set_cons_succ, List.set_cons_zero, List.getD_cons_succ, List.getD_cons_zero, Zdj, Zbo, Zbk, List.any_cons, List.any_nil, Bool.or_false, ↓reduceIte, Za0, Zdz, Zd2, Zdv, Zec, Za4, Zaf, Zac, Zaw, Zap, Ze7, Zd9, List.append_nil, hlen, Zi9, Zb1, Zc9, Zb9, Zco, List.map_cons, List.map_nil, Bool.or_self, Nat.zero_add, Za1 (hcv _), Try.ntmps17, zo27, zo25, exO_defer, h31, b58, zo59, List.zip_cons_cons, List.zip_nil_right, h32, List.any_toArray, Zcp, taken, Zbj, Zdo, Nat.reduceBEq, Zdb, Zcg, Zgo, Zf7, Zev, Zd1, Zfn, Zc1, shr_fu, Zf2]
  rw [kx_range rfl rfl rfl]
  simp only [List.length_cons, List.length_nil, Nat.reduceAdd, List.cons_append, List.nil_append, hlen, List.map_cons, List.map_nil, Nat.zero_add, List.append_assoc, shrT_undef, shrT_ptr, shrT_func, leftT_agg, Zh1, shrT_hdr, shrT_agg, shr0_hdr]
  refine kRng_of (P := Try.prog) (pr := wpr) (cv := wcv) (w60 h _ _ _ xs l4 n0 n1 n2 n3 _ _ _ _ hx hh ?_) ?_
  · intro l hs i n hi hl4
    refine (call_round (hgetn.trans rfl) rfl).trans ?_
    simp only [Zaj, Za3, Zae, Zao, Za9, ne_eq, reduceCtorEq, not_false_eq_true, implies_true, Option.map_some, List.set_cons_succ, List.set_cons_zero, List.getD_cons_succ, List.getD_cons_zero, Zau, Za0, Za4, List.foldl_nil, Za1 (hcv _), List.zip_cons_cons, List.zip_nil_right, List.foldl_cons]
    rw [kBody_nrm (hgetn.trans rfl)]
    have hi1 : i + 1 ≤ hs.length := by omega
    simp only [List.length_cons, List.length_nil, Zc3, Zc8, Zae, Zao, Za9, Zce, Option.bind_some, ne_eq, reduceCtorEq, not_false_eq_true, implies_true, Option.map_some, List.set_cons_succ, List.set_cons_zero, List.getD_cons_succ, List.getD_cons_zero, Zau, Zbk, ↓reduceIte, Za2, Zbc, Zbl, Za4, Zaf, Zac, and_self, Zbh, Zbg, Zcz, Ze4, Zad, Zb4, Zc9, Zco, Zcq, Nat.zero_add, sz3, Za1 (hcv _), ix59 hi, hi1, put_set (show i < hs.length by omega)]
    rw [rout_nrm (hgetn.trans rfl)]
    simp only [List.set_cons_succ, List.set_cons_zero, Ze4]
  · rw [kRng_nrm' (n := h.length + 5) (by simp) (hgetn.trans rfl) (by simp)]
    simp only [Zaj, Za3, Zc8, Zao, ne_eq, reduceCtorEq, not_false_eq_true, implies_true, List.set_cons_succ, List.set_cons_zero, Zbl, Zai, Zan, Ze4, List.map_cons, List.map_nil, Za1 (hcv _)]
    rw [gc_tail (n := h.length + 5) (h := h) (l := [_, _, _, _, _]) rfl (.tup [] (by simp)) ?_]
    rotate_left
    · exact ⟨.inl rfl, .inl rfl, .inr (.cells _ (by simp [rdC_fit])), .inr (.cells _ (by simp [Zbm])), .inl rfl, trivial⟩
    simp only [List.length_cons, List.length_nil, Nat.reduceAdd, Zao, Zbe, Zbf, Za9, List.getElem?_cons_zero, Option.bind_some, Nat.reduceLeDiff, ne_eq, reduceCtorEq, not_false_eq_true, implies_true, Bool.false_eq_true, Option.map_some, List.set_cons_succ, List.set_cons_zero, List.getD_cons_succ, List.getD_cons_zero, Zau, Zbk, Zb3, ↓reduceIte, Za6, Za4, Zaf, Zac, Zai, Zaw, Zap, Zan, Zc2, Zbv, Zbh, Zbg, Zcz, Zad, Zbs, List.take_succ_cons, List.take_zero, List.map_cons, List.map_nil, Zag, Nat.zero_add, sz3, ag3, kep_undef, kep_ptr, kep_func, kep_hdr, kep_agg, kep0_hdr, ix59_0]
    have h33 := w33 true
    have e13 : decide ((n0 : Int) < 13) = true := by simp; omega
    have wk : IntKind.u8.wrap (n0 : Int) = (n0 : Int) := by rw [IntKind.wrap_u8]; omega
    have h34 := w34 h.length (h ++ [.cells ((Zgd n0 n1 n2 n3).cs (.osl false true 0 [])), .cells [.e (.int .i64 0)], .cells [rdC l4], .cells [.int .i64 (n0 : Int), .int .i64 (n1 : Int), .int .i64 (n2 : Int), .int .i64 (n3 : Int)], .cells [.ptr (h.length + 2) 0]])
    have b27 := @build27 n0 n1 n2 n3
    simp only [Msg.cs, Zgd, List.append_assoc, List.cons_append, List.nil_append, hlen, List.length_cons, List.length_nil, Nat.add_assoc, Nat.reduceAdd] at h34
    simp only [List.length_cons, List.length_nil, Nat.reduceAdd, List.nil_append, Zaj, Za3, Zae, Zao, Za9, Zce, Zbq, List.getElem?_cons_succ, List.getElem?_cons_zero, Option.bind_some, Nat.reduceLeDiff, ne_eq, reduceCtorEq, not_false_eq_true, implies_true, Bool.false_eq_true, Option.map_some, List.set_cons_succ, List.set_cons_zero, List.getD_cons_succ, List.getD_cons_zero, Zau, Zbo, Zbk, List.any_cons, List.any_nil, Zb3, Zds, ↓reduceIte, Zck, Zdv, Zbc, Zbl, Za4, Zaf, Zac, Zai, Zaw, Zap, Zan, and_self, List.append_nil, Zas, Zbh, Zbg, Zcz, Zeu, Zad, Zb4, Zb1, Zb9, Zbs, Zcq, List.take_zero, List.drop_succ_cons, List.drop_zero, List.map_cons, List.map_nil, Zag, Bool.or_self, Nat.zero_add, Nat.le_refl, sz3, sz27, ag3, Za1 (hcv _), e13, h33, ix59_0, ix59_1, ix59_2, ix59_3, Zey Try.underlying3 Try.underlying5, wk, b27, List.zip_cons_cons, List.zip_nil_right]
    refine (Zf8 (l := Zgx) (by exact plan17_10_eq)).trans ?_
    obtain ⟨k4, k5, k6, k7, k10, k11, k12⟩ := hk
    have f4 : ((n0 : Int) == 4) = false := by simp; omega
    have f5 : ((n0 : Int) == 5) = false := by simp; omega
    have f6 : ((n0 : Int) == 6) = false := by simp; omega
    have f7 : ((n0 : Int) == 7) = false := by simp; omega
    have f10 : ((n0 : Int) == 10) = false := by simp; omega
    have f11 : ((n0 : Int) == 11) = false := by simp; omega
    have f12 : ((n0 : Int) == 12) = false := by simp; omega
    simp only [List.length_cons, List.length_nil, Nat.reduceAdd, Zaj, Za3, Zao, Za9, St.put, List.getElem?_toArray, List.getElem?_cons_succ, List.getElem?_cons_zero, Option.bind_some, Nat.reduceLeDiff, ne_eq, reduceCtorEq, not_false_eq_true, implies_true, Bool.not_false, Bool.true_eq_false, Bool.false_eq_true, Option.map_some, List.set_cons_succ, List.set_cons_zero, List.getD_cons_succ, List.getD_cons_zero, Zau, Zef, Zbk, Zfu, List.any_cons, List.any_nil, ↓reduceIte, Za2, Za0, Za6, Za5, Za4, Zac, Zai, Zaw, Zap, Zdt, false_imp_iff, and_self, List.toList_toArray, Ze5, kd_l, Zc5, Zc4, kd_r, Zcf, Zbn, Zba, Zcs, Zci, Zde, Zbx, Zbw, Zbu, Zeb, Op.operands, Zg3, Zfp, Ze2, List.foldl_nil, Zas, Zbg, hgetn, Zad, Zb6, Zb5, Za8, Bool.or_self, Nat.add_zero, Nat.zero_add, Nat.succ_ne_zero, sz5, ag5, st27, Za1 (hcv _), hcv, kd_h, Zca, Zd4, Zd5, Zex, Ze3, Zdk, Zcb, Zcc, Zcd, Zfc, Zen, Zff, List.all_cons, List.all_nil, Bool.and_self, Zgx, h34, Zew, mp65, key5, Zfq, Zh5, Zia, find_nil, f4, f5, f6, f7, f10, f11, f12, zo64, show Nat.testBit 7 0 = true by decide, show Nat.testBit 15 2 = true by decide, show Nat.testBit 15 3 = true by decide]
    simp only [Zbz, Za7, Zar, Za3, Zae, Za9, Option.map_some, List.set_cons_succ, List.set_cons_zero, List.getD_cons_succ, List.getD_cons_zero, binF_nil Try.underlying64, Zcu, ↓stop13]
    exact w17_end _ (Zgd n0 n1 n2 n3) [] l4 h _ _ rfl rfl hx4 (by simp) rfl rfl rfl rfl

theorem ping_fits : pingM.Fits := by
  refine ⟨by decide, by decide, by decide, by decide, by decide, by decide, by decide, ?_, ?_⟩
  · simp [Msg.fine, pingM]
  · simp [Msg.off, Msg.head, pingM]
theorem ping_right : pingM.right = true := (Ziu (by decide) (by decide)).2 ping_fits
theorem zero_right : msg0.right = false := by simp [Msg.right, msg0]
theorem ping_pay : payL pingM = [1, 2, 3, 16, 0, 1, 1, 1, 1, 2] := by
  simp [payL, Ziw, bodyL, Zdm, putL, pingM, digs_cons, digs_zero]
theorem ping_read (b : D) (hb : Rd b (byE (payL pingM))) (h : List O) : wc 17 [b] h = some (.val (.tup [.agg (pingM.cs (lrD [])), .int .i64 0]), h) := by
  have hh := heads_pay pingM ping_fits []
  simp only [List.append_nil] at hh
  have e : bodyL pingM = [] := by simp [bodyL, pingM]
  rw [e] at hh
  have := w17_none b (payL pingM) [] 2 1048577 1 2 hb (by rw [ping_pay]; decide) hh (by decide) (by decide) h
  have e2 : Zgd 2 1048577 1 2 = pingM := rfl
  rw [e2, if_pos ⟨rfl, ping_right⟩] at this
  exact this
theorem zero_read (h : List O) : wc 17 [.osl true true 1 (byE [0, 0, 0, 0])] h = some (.val (.tup [.agg (msg0.cs (.osl false true 0 [])), .int .i64 12]), h) := by
  have hh : Heads [0, 0, 0, 0] [] 0 0 0 0 := ⟨[0, 0, 0], [0, 0], [0], rfl, rfl, rfl, rfl⟩
  have := w17o_none [0, 0, 0, 0] [] 0 0 0 0 (by decide) hh (by decide) (by decide) h
  have e2 : Zgd 0 0 0 0 = msg0 := rfl
  rw [e2, if_neg (by rw [zero_right]; simp)] at this
  exact this
theorem ping_take (b : D) (hb : Rd b (byE (Zgk (payL pingM)))) (h : List O) : wc 11 [b] h = some (.val (.tup [.agg (pingM.cs (lrD [])), .int .i64 0]), h) := by
  refine w11_ok b _ (payL pingM) pingM [] 0 hb (fun h => ?_) (fun b hb h => ping_read b hb h) h
  have := w24 b (Zgk (payL pingM)) hb (payL pingM).length (closeL_len _) (by rw [closeL_len, ping_pay]; decide) h
  have e : ((Zgk (payL pingM)).take (4 + (payL pingM).length)).drop 4 = payL pingM := by
    rw [List.drop_take, show 4 + (payL pingM).length - 4 = (payL pingM).length by omega, closeL_mid]
  rw [okFrame_close _ (by rw [ping_pay]; decide), if_pos rfl, e] at this
  exact this
theorem short_take (h : List O) : wc 11 [.osl true true 1 (byE [71, 1, 0, 0])] h = some (.val (.tup [.agg (msg0.cs (.osl false true 0 [])), .int .i64 11]), h) :=
  w11o_bad _ 11 (by decide) (fun h => w24_short _ _ Rd.osl (by decide) h) h

theorem w8 (h : List O) : wc 8 [] h = some (.val (.bool true), h) := by
  have h18 := w18
  have h12 := w12 pingM (.osl false true 0 []) Rd.osl (by decide) ping_right ping_fits
  have h9 := w9 pingM (.osl false true 0 []) Rd.osl (by decide) ping_right ping_fits
  have h9z := w9_bad msg0 (.osl false true 0 []) Rd.osl (by decide) zero_right
  have h17 := ping_read (.e (.sl (byE (payL pingM)))) Rd.e
  have h17z := zero_read
  have h11 := ping_take (.e (.sl (byE (Zgk (payL pingM))))) Rd.e
  have h11s := short_take
  have h13 := w13 pingM pingM (.osl false true 0 []) (.osl false true 0 []) Rd.osl Rd.osl (by decide)
  have e13 : (decide (pingM.list = pingM.list) && sameCs pingM pingM) = true := by rw [same_iff]
  have h14 := w14
  have b27 := build27_nil
  have hpy := ping_pay
  have hcl : (Zgk (payL pingM)).length = 18 := by rw [closeL_len, ping_pay]; rfl
  generalize payL pingM = py at h12 h9 h17 h11 hpy hcl
  generalize Zgk py = cl at h9 h11 hcl
  have h15 := w15o (.e (.sl (byE py))) py [1, 2, 3, 16, 0, 1, 1, 1, 1, 2] Rd.e
  rw [e13] at h13
  have z4 : byE [0, 0, 0, 0] = [[.int .u8 0], [.int .u8 0], [.int .u8 0], [.int .u8 0]] := rfl
  have s4 : byE [71, 1, 0, 0] = [[.int .u8 71], [.int .u8 1], [.int .u8 0], [.int .u8 0]] := rfl
  rw [z4] at h17z
  rw [s4] at h11s
  simp only [Msg.cs, msg0, pingM, lrD] at h18 h12 h9 h9z h17 h17z h11 h11s h13 b27
  have hcv : ∀ i, wcv 8 i = [] := fun _ => rfl
  have hres : Try.f8.results.toList = [ResultVar.tmp 0] := rfl
  rw [wc, Zbt rfl Try.func8 rfl]
  simp only [Zbi, List.length_cons, List.length_nil, Nat.reduceAdd, Nat.reduceSub, List.replicate, List.cons_append, List.nil_append, Zaj, Za3, Zae, Zao, Zbe, Zbf, Za9, Zce, Zbq, List.getElem?_cons_succ, List.getElem?_cons_zero, Option.bind_some, ne_eq, reduceCtorEq, not_false_eq_true, implies_true, Bool.false_eq_true, Option.map_some, List.set_cons_succ, List.set_cons_zero, List.getD_cons_succ, List.getD_cons_zero, Zau, Zdj, Zbo, List.any_cons, List.any_nil, Zb3, Zds, Bool.or_false, ↓reduceIte, Za0, Zdz, Zdv, Zby, Zbc, Zc7, Za4, Zaq, Zb7, Zac, Zaw, Zap, Ze7, Zd9, Zan, Zax, and_self, List.append_nil, Zas, Zbh, Zbg, Zcz, Zeu, Ze4, hlen, Zi9, Zad, Zb4, Zb1, Zb9, Zcm, Zcq, List.take_zero, List.drop_succ_cons, List.drop_zero, List.map_cons, List.map_nil, Bool.or_self, Nat.zero_add, Nat.le_refl, sz27, Za1 (hcv _), Try.ntmps8, h18, h12, h17, h9, h11, zo27, b27, List.zip_nil_right, List.zip_cons_cons, h9z, bs31_4, h11s, h17z, Zdd, Zgp, Zj1, Zhr, ownA_agg, Zfr, left_e, Zcp, taken, Zbj, Zdo, beq_self_eq_true, Nat.reduceBEq, Zdb, Zcg, Zgo, Zf7, Zev, Zd1, Zc1, leftT_nf, Zi8, left_nf, shr_nf, Zf2]

  refine (Zf8 (l := plan8_8) (by exact plan8_8_eq)).trans ?_
  have l1 : ∀ H, len0 Try.prog 31 (.e (.sl (byE cl))) H = some 18 := fun H => by rw [len31e, ← hcl]; simp [byE]
  have e1 : decide (py = [1, 2, 3, 16, 0, 1, 1, 1, 1, 2]) = true := by simp [hpy]
  rw [e1] at h15
  have e18 : (((18 : Nat) : Int) == 18) = true := by decide
  have e0 : ((0 : Int) == 0) = true := by decide
  have e2 : ((2 : Int) == 2) = true := by decide
  have e11 : ((11 : Int) == 11) = true := by decide
  have e12 : ((12 : Int) == 12) = true := by decide
  have e46 : ((46 : Int) == 46) = true := by decide
  simp only [List.length_cons, List.length_nil, Nat.reduceAdd, List.nil_append, Zaz, Za3, St.put, List.getElem?_toArray, List.getElem?_cons_succ, List.getElem?_cons_zero, Option.bind_some, Nat.reduceLT, ne_eq, reduceCtorEq, not_false_eq_true, implies_true, Bool.not_false, Bool.false_eq_true, Option.map_some, List.set_cons_succ, List.set_cons_zero, List.getD_cons_succ, List.getD_cons_zero, Zau, Zbo, Zbk, List.any_cons, List.any_nil, Zb3, Zds, ↓reduceIte, Za0, Za6, Zam, Zby, Za4, Zaf, Zb7, Zac, Zai, Zaw, Zap, Ze7, Zd9, Zan, Zb8, Zay, Zd0, Zb0, Zab, Zaa, Zah, Zat, Zbm, and_self, List.toList_toArray, Option.some.injEq, Ze5, kd_l, Zc5, Zc4, kd_r, Zch, Zbn, Zc6, Zba, Zdg, Zcs, Zci, Zde, Zbx, Zbw, Zdc, Zhc, Zga, Zg1, lo_len, Op.operands, Call.operands, Zg3, Zj5, Zfp, Ziy, Ze2, List.foldl_nil, Array.toList_append, Zas, Zbh, Zbg, Zcz, Zad, Zb2, List.take_succ_cons, List.take_zero, List.drop_zero, List.map_cons, List.map_nil, Option.bind_eq_bind, Bool.or_self, Nat.zero_add, Option.pure_def, Nat.le_refl, sz27, ag27, hcv, hres, kd_h, Zca, kdL_g, kdLG_yes, kdRO_g, kdRG_yes, kdHO_g, kdHG_yes, Zd4, Zd5, Zex, Ze3, Zdk, Zcb, Zcc, Zcd, Zfc, Zen, Zff, List.all_cons, List.all_nil, Bool.and_self, plan8_8, beq_self_eq_true, Zdb, Zcg, Zev, Zc1, exL_moveG, mvL_osl, sealD_ff, exO_builtin, e18, List.zip_nil_right, List.zip_cons_cons, bs31_10, h15, h18, h13, h14, l1]
  trace_state
end Go.Abs

namespace Go.Abs
open Go Go.Proofs
set_option maxRecDepth 10000
set_option maxHeartbeats 4000000

theorem w6 (m o : Msg) (a b : D) (ha : Rd a (isE m.list)) (hb : Rd b (isE o.list))
    (hcm : -9223372036854775808 ≤ m.call ∧ m.call ≤ 9223372036854775807) (hco : -9223372036854775808 ≤ o.call ∧ o.call ≤ 9223372036854775807) (h : List O) :
    wc 6 [.agg (m.cs a), .agg (o.cs b)] h = some (.val (.bool true), h) := by
  have h7m := w7 m a ha
  have h7o := w7 o b hb
  have h8 := w8
  simp only [Msg.cs] at h7m h7o
  generalize hgm : (decide ((40 : Int) < m.list.length) || decide ((300 : Int) < m.ikey.size)) = gm at h7m
  generalize hgo : (decide ((40 : Int) < o.list.length) || decide ((300 : Int) < o.ikey.size)) = go at h7o
  have hcv : ∀ i, wcv 6 i = [] := fun _ => rfl
  have hres : Try.f6.results.toList = [ResultVar.tmp 4] := rfl
  rw [wc, Zbt rfl Try.func6 rfl]
  cases gm with
  | true => simp only [Zbi, List.length_cons, List.length_nil, Nat.reduceAdd, Nat.reduceSub, List.replicate, List.cons_append, List.nil_append, Zaj, Zaz, Za7, Zal, Za3, Zbr, Zae, Zao, Zbe, Zbf, Zak, Za9, Zbq, Zdl, St.put, List.getElem?_toArray, List.getElem?_cons_succ, List.getElem?_cons_zero, Option.bind_some, Nat.reduceLT, ne_eq, reduceCtorEq, not_false_eq_true, implies_true, Bool.not_false, Bool.false_eq_true, Option.map_some, List.set_cons_succ, List.set_cons_zero, List.getD_cons_succ, List.getD_cons_zero, Zau, Zbo, List.any_cons, List.any_nil, Zb3, ↓reduceIte, Za2, Za0, Zam, Zd2, Za4, Zaq, Zb7, Zac, Zaw, Zap, Zax, Zb0, Zab, Zaa, Zah, Zat, Zbm, Option.some.injEq, Zas, Zbg, hlen, Zi9, Zad, Zb1, Zb9, Zbs, Zb2, List.take_succ_cons, List.take_zero, List.drop_zero, Zag, Bool.or_self, Nat.zero_add, Nat.le_refl, sz27, ag27, Za1 (hcv _), Try.ntmps6, hres, Msg.cs, ha.own, hb.own, h7m, h8]
  | false =>
  cases go with
  | true => simp only [Zbi, List.length_cons, List.length_nil, Nat.reduceAdd, Nat.reduceSub, List.replicate, List.cons_append, List.nil_append, Zaj, Zaz, Za7, Zal, Za3, Zbr, Zae, Zao, Zbe, Zbf, Zak, Za9, Zbq, Zc0, Zdl, St.put, List.getElem?_toArray, List.getElem?_cons_succ, List.getElem?_cons_zero, Option.bind_some, Nat.reduceLT, ne_eq, reduceCtorEq, not_false_eq_true, implies_true, Bool.not_false, Bool.false_eq_true, Option.map_some, List.set_cons_succ, List.set_cons_zero, List.getD_cons_succ, List.getD_cons_zero, Zau, Zbo, List.any_cons, List.any_nil, Zb3, ↓reduceIte, Za2, Za0, Zam, Zd2, Za4, Zaf, Zaq, Zb7, Zac, Zaw, Zap, Zax, Zb0, Zab, Zaa, Zah, Zat, Zbm, Option.some.injEq, Zas, Zbh, Zbg, Zcz, hlen, Zi9, Zad, Zb1, Zb9, Zbs, Zb2, List.take_succ_cons, List.take_zero, List.drop_zero, Zag, Bool.or_self, Nat.zero_add, Nat.le_refl, sz27, ag27, Za1 (hcv _), Try.ntmps6, hres, Msg.cs, ha.own, hb.own, h7m, h7o, h8]
  | false =>
  have hxm : m.list.length ≤ 1099511627776 := by simp at hgm; omega
  have hxo : o.list.length ≤ 1099511627776 := by simp at hgo; omega
  have h10m := w10 m a ha hxm
  have h10o := w10 o b hb hxo
  have rm : m.right6 = m.right := by rw [Bool.eq_iff_iff, right6_fits, Ziu hcm.1 hcm.2]
  have ro : o.right6 = o.right := by rw [Bool.eq_iff_iff, right6_fits, Ziu hco.1 hco.2]
  rw [rm] at h10m
  rw [ro] at h10o
  simp only [Msg.cs] at h10m h10o
  cases hrm : m.right with
  | false => 
    rw [hrm] at h10m
    simp only [Zbi, List.length_cons, List.length_nil, Nat.reduceAdd, Nat.reduceSub, List.replicate, List.cons_append, List.nil_append, Zaj, Zaz, Za7, Zal, Za3, Zbr, Zae, Zao, Zbe, Zbf, Zak, Za9, Zbq, Zc0, Zdl, St.put, List.getElem?_toArray, List.getElem?_cons_succ, List.getElem?_cons_zero, Option.bind_some, Nat.reduceLT, ne_eq, reduceCtorEq, not_false_eq_true, implies_true, Bool.not_false, Bool.false_eq_true, Option.map_some, List.set_cons_succ, List.set_cons_zero, List.getD_cons_succ, List.getD_cons_zero, Zau, Zbo, List.any_cons, List.any_nil, Zb3, ↓reduceIte, Za2, Za0, Zdn, Zam, Zd2, Za4, Zaf, Zaq, Zb7, Zac, Zaw, Zap, Zax, Zes, Zb0, Zab, Zaa, Zah, Zat, Zbm, Option.some.injEq, Zas, Zbh, Zbg, Zcz, hlen, Zi9, Zad, Zb1, Zb9, Zbs, Zb2, List.take_succ_cons, List.take_zero, List.drop_zero, Zag, Bool.or_self, Nat.zero_add, Nat.le_refl, sz27, ag27, Za1 (hcv _), Try.ntmps6, hres, Msg.cs, ha.own, hb.own, h7m, h7o, h10m, h8]
  | true =>
  cases hro : o.right with
  | false =>
    rw [hrm] at h10m
    rw [hro] at h10o
    simp only [Zbi, List.length_cons, List.length_nil, Nat.reduceAdd, Nat.reduceSub, List.replicate, List.cons_append, List.nil_append, Zaj, Zaz, Za7, Zal, Za3, Zbr, Zae, Zao, Zbe, Zbf, Zak, Za9, Zbq, Zc0, List.getElem?_toArray, List.getElem?_cons_succ, List.getElem?_cons_zero, Option.bind_some, Nat.reduceLT, ne_eq, reduceCtorEq, not_false_eq_true, implies_true, Bool.not_true, Bool.not_false, Bool.false_eq_true, Option.map_some, List.set_cons_succ, List.set_cons_zero, List.getD_cons_succ, List.getD_cons_zero, Zau, Zbo, List.any_cons, List.any_nil, Zb3, ↓reduceIte, Za2, Za0, Zdn, Zam, Zd2, Za4, Zaf, Zaq, Zac, Zaw, Zap, Zax, Zes, Zb0, Zab, Zaa, Zah, Zat, Zbm, Option.some.injEq, Zas, Zbh, Zbg, Zcz, hlen, Zi9, Zad, Zb1, Zb9, Zbs, Zb2, List.take_succ_cons, List.take_zero, List.drop_zero, Zag, Bool.or_self, Nat.zero_add, Nat.le_refl, sz27, ag27, Za1 (hcv _), Try.ntmps6, hres, Msg.cs, ha.own, hb.own, h7m, h7o, h10m, h10o, h8]
  | true =>
  rw [hrm] at h10m
  rw [hro] at h10o
  have hfm := (Ziu hcm.1 hcm.2).1 hrm
  have hfo := (Ziu hco.1 hco.2).1 hro
  have h9m := w9 m a ha hxm hrm hfm
  have h9o := w9 o b hb hxo hro hfo
  have hap := apart hfm hfo
  generalize Zgk (payL m) = pm at h9m hap
  generalize Zgk (payL o) = po at h9o hap
  have h15 := w15 (.e (.sl (byE pm))) (.e (.sl (byE po))) pm po Rd.e Rd.e
  have h13 := w13 m o a b ha hb hxm
  have es : (decide (m.list = o.list) && sameCs m o) = decide (pm = po) := by
    rw [Bool.eq_iff_iff, same_iff, decide_eq_true_iff, hap]
  rw [es] at h13
  generalize decide (pm = po) = q at h13 h15
  simp only [Msg.cs] at h9m h9o h13
  simp only [Zbi, List.length_cons, List.length_nil, Nat.reduceAdd, Nat.reduceSub, List.replicate, List.cons_append, List.nil_append, Zaj, Zbz, Za7, Zar, Za3, Zae, Zao, Zbe, Zbf, Zak, Za9, Zbq, Zc0, List.getElem?_toArray, List.getElem?_cons_succ, List.getElem?_cons_zero, Option.bind_some, Nat.reduceLT, ne_eq, reduceCtorEq, not_false_eq_true, implies_true, Bool.not_true, Bool.false_eq_true, Option.map_some, List.set_cons_succ, List.set_cons_zero, List.getD_cons_succ, List.getD_cons_zero, Zau, Zbo, List.any_cons, List.any_nil, Zb3, Bool.or_false, ↓reduceIte, Za0, Zdn, Zam, Zd2, Zc7, Za4, Zaf, Zaq, Zac, Zaw, Zap, Zax, Zes, Option.some.injEq, Zas, Zbh, Zbg, Zcz, hlen, Zi9, Zad, Zb1, Zb9, Zcm, Zbs, List.take_succ_cons, List.take_zero, List.drop_zero, List.map_cons, List.map_nil, Zag, Bool.or_self, Nat.zero_add, Nat.le_refl, sz27, ag27, Za1 (hcv _), Try.ntmps6, Msg.cs, ha.own, hb.own, h7m, h7o, h10m, h10o, h9m, h9o, Zdd, Zgp, Zhr, Zfr, left_e, back, Zcp, taken, Zbj, Zdo, beq_self_eq_true, Nat.reduceBEq, Zdb, Zcg, Zd1, leftT_nf, left_nf]
  refine (Zf8 (l := plan6_5) (by exact plan6_5_eq)).trans ?_
  have e0 : ((0 : Int) == 0) = true := by decide
  have eq1 : (q == q) = true := by cases q <;> rfl
  simp only [List.length_cons, List.length_nil, Nat.reduceAdd, Zaz, Za3, St.put, List.getElem?_toArray, List.getElem?_cons_succ, List.getElem?_cons_zero, Option.bind_some, Nat.reduceLT, ne_eq, reduceCtorEq, not_false_eq_true, implies_true, Bool.not_false, Bool.false_eq_true, Option.map_some, List.set_cons_succ, List.set_cons_zero, List.getD_cons_succ, List.getD_cons_zero, Zau, Zbo, Zbk, List.any_cons, List.any_nil, Zb3, ↓reduceIte, Za0, Za6, Zam, Za4, Zaf, Zac, Zai, Zaw, Zap, Zan, Zb8, Zfh, Zay, Zb0, Zab, Zaa, Zah, Zat, Zbm, and_self, List.toList_toArray, Option.some.injEq, Ze5, kd_l, Zc5, Zc4, kd_r, Zch, Zbn, Zc6, Zba, Zdg, Zcs, Zci, Zde, Zbx, Zbw, Zdc, Zhc, Zg1, Op.operands, Zg3, Zfp, Ze2, List.foldl_nil, Zas, Zbh, Zbg, Zcz, Zad, Zb2, List.take_succ_cons, List.take_zero, List.drop_zero, List.map_cons, List.map_nil, Bool.or_self, Nat.zero_add, Nat.le_refl, Try.underlying4, sz27, ag27, hcv, hres, kd_h, Zca, kdL_g, kdLG_yes, kdRO_g, kdRG_yes, kdHO_g, kdHG_yes, Zd4, Zd5, Zex, Ze3, Zdk, Zcb, Zcc, Zcd, Zfc, Zen, Zff, List.all_cons, List.all_nil, Bool.and_self, plan6_5, beq_self_eq_true, ha.exc, ha.shr, hb.exc, hb.shr, exL_moveG, mvL_osl, sealD_ff, ha.own, hb.own, h15, h13, h8]
end Go.Abs

namespace Go.Abs

section
variable {P : Program} {w : World} {G : Gh} {tm : List Value} {df : List Deferred} {pv : List Value} {pd : List D} {s : St}

theorem RelSt.cnt_ge (h : RelSt w G tm df pv pd s) {b : Nat} (hb : w.heap.size ≤ b) : cntS w G tm pv pd s b = 0 := by
  by_cases h0 : 0 < cntS w G tm pv pd s b
  · have := (h.cnt_lt h0).1; omega
  · omega

/-- A new slice in a new block. -/
theorem RelSt.fresh2 (h : RelSt w G tm df pv pd s) {w' : World} {g : Nat} {arr : Array Value} {elem : TypeId} {fz : Nat × Nat} {n cap sz : Nat} {es : List (List E)}
    (hg : w.heap.size ≤ g) (hz : w.heap.size ≤ w'.heap.size) (hb : ∀ b, b < w.heap.size → w'.heap[b]? = w.heap[b]?) (hn : w'.heap[g]? = some (.cells arr elem fz))
    (hf : ∀ j, j < arr.size → w'.frozen? ⟨g, j, none⟩ = false) (h1 : n = es.length) (hc : n ≤ cap) (h0 : 0 < sz) (hsz : ∀ r ∈ es, r.length = sz)
    (hsize : cap * sz ≤ arr.size) (hh : Holds w G.S arr.toList sz es) (hwo : w'.os = w.os ∧ w'.output = w.output) :
    RelSt w' G tm df (.slice (some ⟨g, 0, none⟩) n cap :: pv) (.osl true false sz es :: pd) s ∧
      Ext w G (cntS w G tm pv pd s) w' G (cntS w' G tm (.slice (some ⟨g, 0, none⟩) n cap :: pv) (.osl true false sz es :: pd) s) := by
  obtain ⟨k1, k2⟩ := h.world hb hz hwo
  have htok : ∀ b, b ≠ g → tokT b (.slice (some ⟨g, 0, none⟩) n cap) (.osl true false sz es) = 0 := by
    intro b hne
    rw [Zct rfl]
    exact if_neg (fun x => hne x.1.symm)
  have htok1 : ∀ b, tokT b (.slice (some ⟨g, 0, none⟩) n cap) (.osl true false sz es) ≤ 1 := by
    intro b
    rw [Zct rfl]; unfold tok; simp only
    split <;> omega
  have hfr' : cntS w' G tm pv pd s g = 0 := by
    have hfr := h.cnt_ge hg
    simp only [cntS] at hfr ⊢
    rw [Zi1 (w := w) (w' := w') _ _ (fun i bi o h1 h2 => Zhb (hb bi (h.ob_lt (List.mem_of_getElem? h1))))]
    exact hfr
  have hS : ∀ j, ¬ G.S g j := fun j hs => by have := h.S_lt hs; omega
  have hob : g ∉ G.ob := fun hb => by have := h.ob_lt hb; omega
  have hleaf : OwnOK w' G.S ⟨g, 0, none⟩ sz n cap true es := by
    refine ⟨⟨rfl, rfl⟩, arr, elem, fz, hn, by simpa using hsize, hf, fun j _ => hS j, fun _ => ⟨fun j _ => hS j, fun i r j x hi hj => ?_⟩⟩
    obtain ⟨v, q1, q2⟩ := hh i r j x hi hj
    exact ⟨v, by simpa using q1, q2.mono (fun _ _ h => h) (fun b j hs => by simp only [World.cell?, hb b (h.S_lt hs)])⟩
  refine ⟨{ L := k1.L, P := k1.P.cons (.osl _ _ _ _ _ _ _ _ h1 hc (fun hx => by simp at hx) (.inl h0) hsz (fun hx => by simp at hx)) ?_, len := h.len, nd := h.nd, obS := k1.obS, H := k1.H, S := k1.S, one := ?_, noob := ?_, dfr := k1.dfr }, ⟨k2.later, k2.size, k2.obnew, k2.Ssame, k2.same, fun b hb' => ?_, k2.wo⟩⟩
  · rw [Zd8 rfl, Zet rfl]
    exact fun _ => hleaf
  · intro b
    have a1 := k1.one b
    by_cases e : b = g
    · subst e
      have a2 := htok1 b
      simp only [cntS] at hfr'; simp only [sumZ]; omega
    · have a2 := htok b e
      simp only [sumZ]; omega
  · intro b hbo
    have a1 := k1.noob b hbo
    have a2 := htok b (fun e => hob (e ▸ hbo))
    simp only [sumZ]; omega
  · have a1 := k2.cnt b hb'
    have a2 := htok b (by omega)
    simp only [cntS, sumZ] at *; omega

/-- What is pending is let go; the rest is as it was. -/
theorem RelSt.letgo (h : RelSt w G tm df pv pd s) : RelSt w G tm df [] [] s ∧ Ext w G (cntS w G tm pv pd s) w G (cntS w G tm [] [] s) := by
  refine ⟨{ L := h.L, P := .nil w G, len := h.len, nd := h.nd, obS := h.obS, H := h.H, S := h.S, one := fun b => ?_, noob := fun b hb => ?_, dfr := h.dfr }, ?_⟩
  · have := h.one b; simp only [sumZ] at *; omega
  · have := h.noob b hb; simp only [sumZ] at *; omega
  · refine (Ext.refl w G (cntS w G tm pv pd s)).weaken (fun b => Nat.le_refl _) (fun b _ => ?_)
    simp only [cntS, sumZ]; omega

/-- A nil slice, as one's own. -/
theorem RelSt.nilOwn (h : RelSt w G tm df [] [] s) (sz : Nat) : RelSt w G tm df [.slice none 0 0] [.osl true false sz []] s ∧ ∀ b, cntS w G tm [.slice none 0 0] [.osl true false sz []] s b = cntS w G tm [] [] s b := by
  have hz : ∀ b, tokT b (.slice none 0 0) (.osl true false sz []) = 0 := fun b => by rw [Zct rfl]; rfl
  refine ⟨{ L := h.L, P := (RelL.nil w G).cons (.oslN _ _ _) ?_, len := h.len, nd := h.nd, obS := h.obS, H := h.H, S := h.S, one := fun b => ?_, noob := fun b hb => ?_, dfr := h.dfr }, fun b => ?_⟩
  · rw [Zd8 rfl, Zet rfl]
    trivial
  · have := h.one b; simp only [sumZ, hz] at *; omega
  · have := h.noob b hb; simp only [sumZ, hz] at *; omega
  · simp only [cntS, sumZ, hz]

/-- An empty slice without room, as one's own. -/
theorem RelSt.emptyOwn (h : RelSt w G tm df [] [] s) (sz b o : Nat) (h0 : 0 < sz) : RelSt w G tm df [.slice (some ⟨b, o, none⟩) 0 0] [.osl true false sz []] s ∧ ∀ b', cntS w G tm [.slice (some ⟨b, o, none⟩) 0 0] [.osl true false sz []] s b' = cntS w G tm [] [] s b' := by
  have hz : ∀ b', tokT b' (.slice (some ⟨b, o, none⟩) 0 0) (.osl true false sz []) = 0 := fun b' => by rw [Zct rfl]; unfold tok; simp
  refine ⟨{ L := h.L, P := (RelL.nil w G).cons (.osl _ _ _ _ _ _ _ _ rfl (Nat.le_refl _) (fun hx => by simp at hx) (.inl h0) (by simp) (fun hx => by simp at hx)) ?_, len := h.len, nd := h.nd, obS := h.obS, H := h.H, S := h.S, one := fun b => ?_, noob := fun b hb => ?_, dfr := h.dfr }, fun b => ?_⟩
  · rw [Zd8 rfl, Zet rfl]
    intro hx
    rcases hx with hx | hx
    · exact absurd rfl hx.2
    · omega
  · have := h.one b; simp only [sumZ, hz] at *; omega
  · have := h.noob b hb; simp only [sumZ, hz] at *; omega
  · simp only [cntS, sumZ, hz]

/-- What a call that hands back a fresh slice owes. -/
theorem mc_fresh {f : FuncId} {args : List D} {h : List O} {sz : Nat} {es : List (List E)} (hc : Callable P f) (h0 : 0 < sz) (hsz : ∀ r ∈ es, r.length = sz)
    (H : ∀ (w : World) (G : Gh) (vs : List Value), RelSt w G [] [] vs args (hSt h) → Calls P f vs.toArray w fun e w' => w'.os = w.os ∧ w'.output = w.output ∧ w.heap.size ≤ w'.heap.size ∧ (∀ b, b < w.heap.size → w'.heap[b]? = w.heap[b]?) ∧
      ((es = [] ∧ e = .returned (.slice none 0 0)) ∨ (∃ b o, es = [] ∧ e = .returned (.slice (some ⟨b, o, none⟩) 0 0)) ∨ ∃ g arr elem fz cap, e = .returned (.slice (some ⟨g, 0, none⟩) es.length cap) ∧ w.heap.size ≤ g ∧ w'.heap[g]? = some (.cells arr elem fz) ∧ (∀ j, j < arr.size → w'.frozen? ⟨g, j, none⟩ = false) ∧
        es.length ≤ cap ∧ cap * sz ≤ arr.size ∧ Holds w G.S arr.toList sz es)) : MC P (.fn f) args h (.val (.osl true false sz es), h) := by
  refine ⟨hc, fun w G vs cs hrel => ?_⟩
  obtain ⟨e, w', fr, ⟨r1, r2, r3, r4, r5⟩, hcom, hfn, hl⟩ := H w G vs hrel cs
  obtain ⟨l1, l2⟩ := hrel.letgo
  rcases r5 with ⟨rfl, rfl⟩ | ⟨b, o, rfl, rfl⟩ | ⟨g, arr, elem, fz, cap, rfl, q1, q2, q3, q4, q5, q6⟩
  · obtain ⟨m1, m2⟩ := l1.world r4 r3 ⟨r1, r2⟩
    obtain ⟨n1, n2⟩ := m1.nilOwn sz
    refine ⟨w', G, fr, _, _, hcom, hfn, n1, ?_, .inl ⟨rfl, hl⟩⟩
    exact (l2.trans m2).weaken (fun b => Nat.le_refl _) (fun b hb => by rw [n2 b]; exact (l2.trans m2).cnt b hb)
  · obtain ⟨m1, m2⟩ := l1.world r4 r3 ⟨r1, r2⟩
    obtain ⟨n1, n2⟩ := m1.emptyOwn sz b o h0
    refine ⟨w', G, fr, _, _, hcom, hfn, n1, ?_, .inl ⟨rfl, hl⟩⟩
    exact (l2.trans m2).weaken (fun b => Nat.le_refl _) (fun b hb => by rw [n2 b]; exact (l2.trans m2).cnt b hb)
  · obtain ⟨m1, m2⟩ := l1.fresh2 q1 r3 r4 q2 q3 rfl q4 h0 hsz q5 q6 ⟨r1, r2⟩
    exact ⟨w', G, fr, _, _, hcom, hfn, m1, l2.trans m2, .inl ⟨rfl, hl⟩⟩
end

end Go.Abs

namespace Go.Abs
open Go Go.Proofs Go.Shelf

def rc : Ren := ⟨fun _ => 31, fun n => if n = 4 then 4 else if n = 22 then 31 else 5, fun n => n⟩
theorem layC : SlLaysK.n4 Try.prog rc where
  mixed := by decide +kernel
  f4 := by
    show Try.prog.funcs[31]? = _
    rw [Try.func31]; rfl
  t4 := Try.underlying4
  a4 := fun w => by kernel_rfl
  z4 := fun w => by kernel_rfl
  v4 := fun w => by kernel_rfl
  t22 := Try.underlying31
  a22 := fun w => by kernel_rfl
  z22 := fun w => by kernel_rfl
  v22 := fun w => by kernel_rfl
  t5 := Try.underlying5
  i5 := by kernel_rfl
def rg : Ren := ⟨fun _ => 94, fun n => if n = 22 then 31 else if n = 25 then 5 else n, fun n => n⟩
theorem layG : Lays8.n4 Try.prog rg where
  mixed := by decide +kernel
  f4 := by
    refine ⟨"slices.Grow[[]byte,byte]", by decide, ?_⟩
    show Try.prog.funcs[94]? = _
    rw [Try.func94]; rfl
  t0 := Try.underlying0
  a0 := fun w => by kernel_rfl
  z0 := fun w => by kernel_rfl
  v0 := fun w => by kernel_rfl
  t3 := Try.underlying3
  a3 := fun w => by kernel_rfl
  z3 := fun w => by kernel_rfl
  v3 := fun w => by kernel_rfl
  t4 := Try.underlying4
  a4 := fun w => by kernel_rfl
  z4 := fun w => by kernel_rfl
  v4 := fun w => by kernel_rfl
  t9 := Try.underlying9
  a9 := fun w => by kernel_rfl
  z9 := fun w => by kernel_rfl
  v9 := fun w => by kernel_rfl
  t20 := Try.underlying20
  a20 := fun w => by kernel_rfl
  z20 := fun w => by kernel_rfl
  v20 := fun w => by kernel_rfl
  t22 := Try.underlying31
  a22 := fun w => by kernel_rfl
  z22 := fun w => by kernel_rfl
  v22 := fun w => by kernel_rfl

/-- Rows of bytes are numbers. -/
theorem toBytes_ints : ∀ {es : List (List E)}, (Zhp es).isSome = true → ∃ xs : List Int, es = xs.map fun n => [.int .u8 n]
  | [], _ => ⟨[], rfl⟩
  | r :: es, h => by
    simp only [Zhp] at h
    cases hr : toByte r with
    | none => rw [hr] at h; simp at h
    | some b =>
      cases he : Zhp es with
      | none => rw [hr, he] at h; simp at h
      | some bs =>
        obtain ⟨xs, rfl⟩ := toBytes_ints (es := es) (by rw [he]; rfl)
        unfold toByte at hr
        split at hr
        · rename_i n; exact ⟨n :: xs, rfl⟩
        · simp at hr

theorem mc_clone {d : D} {es : List (List E)} {h : List O} (hd : ownD d = false) (hs : slOf d = some es) (hb : (Zhp es).isSome = true) (hl : es.length ≤ 1073741824) : MC Try.prog (.fn 31) [d] h (.val (.osl true false 1 es), h) := by
  obtain ⟨xs, rfl⟩ := toBytes_ints hb
  refine mc_fresh ⟨Try.f31, Try.func31, by decide +kernel⟩ (by omega) (by simp) (fun w G vs hrel => ?_)
  have hlen := hrel.P.len
  obtain ⟨v, rfl⟩ : ∃ v, vs = [v] := by
    cases vs with
    | nil => simp at hlen
    | cons v vs => cases vs with
      | nil => exact ⟨v, rfl⟩
      | cons a l => simp at hlen
  obtain ⟨hv, _⟩ := hrel.P.head
  rcases slOf_rows hv hd hs with ⟨e0, rfl⟩ | ⟨b, o, cap, sz, rfl, h1, h2, h3, h4⟩
  · refine (Any.bytes_Clone_nil layC 0 0 w).mono fun e w' he => ?_
    obtain ⟨rfl, rfl⟩ := he
    exact ⟨rfl, rfl, Nat.le_refl _, fun _ _ => rfl, .inl ⟨e0, rfl⟩⟩
  · have hlx : (xs.map fun n => [E.int .u8 n]).length = xs.length := by simp
    rw [hlx] at h1 hl ⊢
    refine (Any.bytes_Clone_at layC ⟨b, o, none⟩ xs.length cap xs w rfl (by omega) (fun i hi => ?_)).mono fun e w' he => ?_
    · have hi2 : (xs.map fun n => [E.int .u8 n])[i]? = some [.int .u8 xs[i]] := by simp [hi]
      have hsz : sz = 1 := by have := h3 _ (List.mem_of_getElem? hi2); simpa using this.symm
      subst hsz
      obtain ⟨_, u, q1, q2⟩ := h4 i _ hi2 0 _ rfl
      cases q2
      rw [show o + i * 1 + 0 = o + i by omega] at q1
      have ha : (⟨b, o, none⟩ : Addr).add i = ⟨b, o + i, none⟩ := by
        simp only [Addr.add]
        split
        · rename_i h; subst h; rfl
        · rfl
      rw [ha, q1]
      simp [List.getD, hi]
    · obtain ⟨v', rfl, hown, hnn, hbel⟩ := he
      refine ⟨hbel.os, hbel.output, hbel.size, hbel.block, ?_⟩
      obtain ⟨o1, o2⟩ := hown
      rcases o2 with ⟨e1, _⟩ | ⟨g, cap', cur, rfl, hg, hcell, hn, _, hsz, htk⟩
      · exact absurd e1 hnn
      · refine .inr (.inr ⟨g, cur, _, (0, 0), cap', rfl, hg, hcell, fun j hj => by simp only [World.frozen?, hcell]; simp, hn, by omega, fun i r j x hi hj => ?_⟩)
        have hi3 : i < xs.length := by have := (List.getElem?_eq_some_iff.1 hi).1; simpa using this
        have hr : r = [.int .u8 xs[i]] := by simp [hi3] at hi; exact hi.symm
        subst hr
        cases j with
        | succ j => simp at hj
        | zero =>
          simp at hj; subst hj
          refine ⟨.int .u8 xs[i], ?_, .int _ _⟩
          have : (cur.toList.take (xs.length * 1))[i]? = some (Value.int .u8 xs[i]) := by rw [htk]; simp [hi3]
          rw [List.getElem?_take_of_lt (by omega)] at this
          simpa using this

theorem mc_grow {n : Int} {h : List O} (h0 : 0 ≤ n) (hl : n ≤ 1073741824) : MC Try.prog (.fn 94) [.osl false true 0 [], .e (.int .i64 n)] h (.val (.osl true false 1 []), h) := by
  obtain ⟨m, rfl⟩ : ∃ m : Nat, n = m := ⟨n.toNat, by omega⟩
  refine mc_fresh ⟨Try.f94, Try.func94, by decide +kernel⟩ (by omega) (by simp) (fun w G vs hrel => ?_)
  have hlen := hrel.P.len
  obtain ⟨v, u, rfl⟩ : ∃ v u, vs = [v, u] := by
    cases vs with
    | nil => simp at hlen
    | cons v vs => cases vs with
      | nil => simp at hlen
      | cons a l => cases l with
        | nil => exact ⟨v, a, rfl⟩
        | cons _ _ => simp at hlen
  obtain ⟨hv, _⟩ := hrel.P.head
  obtain ⟨hu, _⟩ := hrel.P.tail.head
  have hu' : u = .int .i64 m := by cases hu with | e _ _ h => cases h; rfl
  subst hu'
  have hbase : ∃ base, v = .slice base 0 0 ∧ ∀ a, base = some a → a.spot = none := by
    cases hv with
    | oslN => exact ⟨none, rfl, by simp⟩
    | osl b o n cap _ _ _ _ hn hc hfu _ _ _ =>
      simp at hn; subst hn
      have := hfu rfl
      subst this
      exact ⟨_, rfl, fun a e => by cases e; rfl⟩
  obtain ⟨base, rfl, hsp⟩ := hbase
  by_cases hm : m = 0
  · subst hm
    refine (Any8.slices_Grow_room layG base 0 0 0 w (by omega) (by omega) (by omega) (by omega)).mono fun e w' he => ?_
    obtain ⟨rfl, rfl⟩ := he
    refine ⟨rfl, rfl, Nat.le_refl _, fun _ _ => rfl, ?_⟩
    cases base with
    | none => exact .inl ⟨rfl, rfl⟩
    | some a =>
      obtain ⟨ab, ao, asp⟩ := a
      have := hsp _ rfl
      simp only at this
      subst this
      exact .inr (.inl ⟨ab, ao, rfl, rfl⟩)
  · have hinfo : ∃ i0, Try.prog.info? 5 = some i0 ∧ i0.zero = some (.int .u8 0) ∧ i0.size = 1 ∧ i0.bytes = 1 := by
      have := layC.i5
      simp only [Option.map_eq_some_iff, Prod.mk.injEq] at this
      exact this
    obtain ⟨i0, q1, q2, q3, q4⟩ := hinfo
    refine (Any8.slices_Grow_grow layG i0 (.int .u8 0) q1 q2 (by omega) base 0 0 m [] w (by omega) (by omega) (by rw [q4]; omega) (by omega) (by simp) (fun _ => rfl) (fun a _ j v hj => by simp at hj)).mono fun e w' he => ?_
    obtain ⟨rfl, rfl⟩ := he
    have hg := grownCap_ge w (0 + m) 0 (rg.t 25)
    generalize grownCap w (0 + m) 0 (rg.t 25) = cap at hg
    have hblk : ∀ o : Obj, (w.drew.alloc o).heap[w.heap.size]? = some o := fun o => by rw [Zgr]; exact if_pos rfl
    refine ⟨rfl, rfl, by simp, fun b hb => Zez _ _ hb, .inr (.inr ⟨w.heap.size, _, _, (0, 0), cap, rfl, Nat.le_refl _, hblk _, fun j hj => by simp only [World.frozen?, hblk]; simp, by simp, ?_, fun i r j x hi hj => by simp at hi⟩)⟩
    simp only [Array.size_append, size_zeroCells, Value.cells]
    simp; omega

/-- What is said of the given functions is so. -/
theorem wpr_mc : ∀ f args d h, wpr f args = some d → MC Try.prog (.fn f) args h (.val d, h) := by
  intro f args d h hw
  unfold wpr at hw
  split at hw
  · rename_i hf; subst hf
    split at hw
    · rename_i d0
      split at hw
      · simp at hw
      · rename_i ho
        split at hw
        · rename_i es hs
          split at hw
          · rename_i hc
            simp only [Bool.and_eq_true, decide_eq_true_eq] at hc
            cases hw
            exact mc_clone (by simpa using ho) hs hc.1 hc.2
          · simp at hw
        · simp at hw
    · simp at hw
  · split at hw
    · rename_i hf; subst hf
      split at hw
      · rename_i n
        split at hw
        · rename_i hc
          cases hw
          exact mc_grow hc.1 hc.2
        · simp at hw
      · simp at hw
    · simp at hw

theorem wire_sound {f : FuncId} {args : List D} {h : List O} {r : Out × List O} (hc : call Try.prog wpr wcv (.fn f) args h = some r) : MC Try.prog (.fn f) args h r :=
  (sound (P := Try.prog) (pr := wpr) (cv := wcv) (by decide +kernel) wpr_mc).2.1 _ _ _ _ hc

end Go.Abs

namespace Go.Abs
open Go Go.Proofs Go.ChangeShapes Go.WideShapes Go.ChangeAt Go.RowKit

/-- All cells that there are, sealed. -/
def seen (W : World) : Gh := { ob := [], S := fun b j => ∃ v, W.cell? ⟨b, j, none⟩ = some v }

theorem leaf0_e' {w : World} {S : Nat → Nat → Prop} {v : Value} {x : E} : Leaf0 w S v (.e x) := by
  unfold Leaf0; split
  · rename_i hd; cases hd
  · trivial
/-- Plain data, or a struct of such. -/
inductive FlatD : D → Prop where
  | e (x : E) : FlatD (.e x)
  | agg (xs : List E) : FlatD (.agg (xs.map .e))
theorem flat_leaf {w : World} {S : Nat → Nat → Prop} {v : Value} {d : D} (h : FlatD d) : LeafT w S v d ∧ ∀ b, tokT b v d = 0 := by
  cases h with
  | e x =>
    have h1 : LeafT w S v (.e x) = Leaf0 w S v (.e x) := by
      unfold LeafT; split
      · rename_i hd; cases hd
      · unfold LeafA; split
        · rename_i hd _; cases hd
        · rfl
    have h2 : ∀ b, tokT b v (.e x) = tok b v (.e x) := by
      intro b; unfold tokT; split
      · rename_i hd; cases hd
      · unfold tokA; split
        · rename_i hd _; cases hd
        · rfl
    exact ⟨by rw [h1]; exact leaf0_e', fun b => by rw [h2]; exact tok_e _ _ _⟩
  | agg xs =>
    have h0 : ∀ (i : Nat) (d : D), (xs.map D.e)[i]? = some d → ∃ x, d = .e x := by
      intro i d hi
      simp only [List.getElem?_map, Option.map_eq_some_iff] at hi
      obtain ⟨x, _, rfl⟩ := hi
      exact ⟨x, rfl⟩
    have h1 : LeafT w S v (.agg (xs.map .e)) = LeafA w S v (.agg (xs.map .e)) := by
      unfold LeafT; split
      · rename_i hd; cases hd
      · rfl
    have h2 : ∀ b, tokT b v (.agg (xs.map .e)) = tokA b v (.agg (xs.map .e)) := by
      intro b; unfold tokT; split
      · rename_i hd; cases hd
      · rfl
    refine ⟨?_, fun b => ?_⟩
    · rw [h1]; unfold LeafA; split
      · rename_i hd
        cases hd
        intro i v d hi hd
        obtain ⟨x, rfl⟩ := h0 i d hd
        exact leaf0_e'
      · unfold Leaf0; split
        · rename_i hd _; cases hd
        · trivial
    · rw [h2]; unfold tokA; split
      · rename_i hd
        cases hd
        exact Zgu _ _ _ fun i v d hi hd => by
          obtain ⟨x, rfl⟩ := h0 i d hd
          exact tok_e _ _ _
      · unfold tok; split
        · rename_i hd _; cases hd
        · rfl

theorem start {W : World} {vs : List Value} {ds : List D} (hl : vs.length = ds.length) (hr : ∀ (i : Nat) v d, vs[i]? = some v → ds[i]? = some d → RelD W (seen W) v d) (hf : ∀ d ∈ ds, FlatD d) :
    RelSt W (seen W) [] [] vs ds (hSt []) ∧ ∀ b, cntS W (seen W) [] vs ds (hSt []) b = 0 := by
  have hz : ∀ b, sumZ (tokT b) vs ds = 0 := fun b => Zgu _ _ _ fun i v d hi hd => (flat_leaf (w := W) (S := (seen W).S) (hf d (List.mem_of_getElem? hd))).2 b
  have hc : ∀ b, sumZ (tokT b) [] [] + sumZ (tokT b) vs ds + hsum W b [] [] = 0 := fun b => by simp [hz b, sumZ, hsum]
  refine ⟨{ L := .nil _ _, P := ⟨hl, hr, fun i v d hi hd => (flat_leaf (hf d (List.mem_of_getElem? hd))).1⟩, len := rfl, nd := .nil, obS := fun i b h => by simp [seen] at h, H := fun i b o h => by simp [seen] at h, S := fun b j h => h, one := fun b => by rw [show (hSt []).h = [] from rfl]; have := hc b; simp only [seen] at *; omega, noob := fun b h => by simp [seen] at h, dfr := .nil }, fun b => hc b⟩

/-- All blocks that were there are as they were. -/
structure Kept (W W' : World) : Prop where
  os : W'.os = W.os
  output : W'.output = W.output
  size : W.heap.size ≤ W'.heap.size
  block : ∀ b, b < W.heap.size → W'.heap[b]? = W.heap[b]?

theorem calls_of {f : FuncId} {vs : List Value} {ds : List D} {W : World} {b : Bool} (hc : call Try.prog wpr wcv (.fn f) ds [] = some (.val (.bool b), []))
    (hl : vs.length = ds.length) (hr : ∀ (i : Nat) v d, vs[i]? = some v → ds[i]? = some d → RelD W (seen W) v d) (hf : ∀ d ∈ ds, FlatD d) :
    Calls Try.prog f vs.toArray W fun e W' => e = .returned (.bool b) ∧ Kept W W' := by
  obtain ⟨_, hm⟩ := wire_sound hc
  obtain ⟨hs, hz⟩ := start hl hr hf
  intro cs
  obtain ⟨w', G', fr, v, d, hst, hfn, hrel, hx, hd⟩ := hm W (seen W) vs cs hs
  rcases hd with ⟨h1, h2⟩ | ⟨h1, _⟩
  · cases h1
    have hv := hrel.P.rel 0 v _ rfl rfl
    cases hv with
    | e _ _ he =>
      cases he
      refine ⟨_, w', fr, ⟨rfl, hx.wo.1, hx.wo.2, hx.size, fun b hb => hx.same b hb (hz b) (by simp [seen])⟩, hst, hfn, h2⟩
  · cases h1

/-! ### what came in -/
section
variable {H : Type} {enc : TypeId × Value → H} {P : Program} {W : World}
theorem addr_none {a : Addr} (h : a.spot = none) (i : Nat) : a.add i = ⟨a.block, a.off + i, none⟩ := by
  cases a; simp only at h; subst h; simp [Addr.add]
theorem rel_ints {t e : TypeId} {k : IntKind} {n : Nat} {v : Value} {x : DataW H × List MemPlace} (ht : P.underlying t = some (.slice e)) (he : P.underlying e = some (.int k)) (hc : P.cellsOf e = 1)
    (hv : ∀ a len cap, v = .slice (some a) len cap → a.spot = none) (h : DataW.trod enc P W 0 (fun _ => true) true n t [v] = some x) :
    ∃ zs : List Int, RelE W (seen W).S v (.sl (zs.map fun z => [.int k z])) ∧ ∀ z ∈ zs, (Lit.int k z).wf = true := by
  rcases open_ints ht he hc h with ⟨h1, _⟩ | ⟨a, len, cap, zs, h1, _, hl, _, hz, _, hcell, hw⟩
  · obtain rfl := List.singleton_inj.1 h1
    exact ⟨[], .nilsl, by simp⟩
  · obtain rfl := List.singleton_inj.1 h1
    have hs := hv a len cap rfl
    simp only [if_true] at hz
    refine ⟨zs.take len, ?_, fun z hz => hw z (List.mem_of_mem_take hz)⟩
    have hlen : ((zs.take len).map fun z => [E.int k z]).length = len := by simp; omega
    have := RelE.of_rows (w := W) (S := (seen W).S) (b := a.block) (o := a.off) (cap := cap) (sz := 1) (es := (zs.take len).map fun z => [E.int k z]) (by omega) (by decide)
      (by intro r hr; obtain ⟨z, _, rfl⟩ := List.mem_map.1 hr; rfl) (by
        intro i r hi j y hj
        simp only [List.getElem?_map, Option.map_eq_some_iff] at hi
        obtain ⟨z, hz', rfl⟩ := hi
        have hi : i < len := by
          have := (List.getElem?_eq_some_iff.1 hz').1
          simp at this; omega
        cases j with
        | succ j => simp at hj
        | zero =>
          simp at hj
          subst hj
          have := hcell i (by omega)
          rw [addr_none hs] at this
          rw [List.getElem?_take, if_pos hi] at hz'
          have e : zs.getD i 0 = z := by rw [List.getD_eq_getElem?_getD, hz']; rfl
          rw [e] at this
          simp only [Nat.mul_one, Nat.add_zero]
          exact ⟨⟨_, this⟩, _, this, .int k z⟩)
    rw [hlen] at this
    have ea : a = ⟨a.block, a.off, none⟩ := by cases a; simp only at hs; subst hs; rfl
    rw [ea]
    exact this
end

end Go.Abs

namespace Go.Abs
open Go Go.Proofs Go.ChangeShapes Go.WideShapes Go.ChangeAt Go.RowKit
set_option maxRecDepth 100000

theorem types27 : Try.prog.cellTypes Try.prog.depth 27 = some [5, 3, 3, 3, 3, 4, 4, 3, 3, 22, 9, 3, 3, 4, 25] := by kernel_rfl
theorem cells27 : Try.prog.cellsOf 27 = 15 := by kernel_rfl
theorem cells22 : Try.prog.cellsOf 22 = 1 := by kernel_rfl
theorem cells3 : Try.prog.cellsOf 3 = 1 := by kernel_rfl
theorem list15 {α : Type} {l : List α} (h : l.length = 15) : ∃ a b c d e f g i j k m n o p q, l = [a, b, c, d, e, f, g, i, j, k, m, n, o, p, q] := by
  match l, h with
  | [a, b, c, d, e, f, g, i, j, k, m, n, o, p, q], _ => exact ⟨a, b, c, d, e, f, g, i, j, k, m, n, o, p, q, rfl⟩

section
variable {P : Program} {W : World} {base : Nat} {v : Value} {t : TypeId}
theorem Zii {k : IntKind} (ht : P.underlying t = some (.int k)) (h : Cell.okWide P W .any base t v) : ∃ n, v = .int k n ∧ k.has n := by
  unfold Cell.okWide at h
  rw [ht] at h
  cases v <;> simp [Cell.ok, ht] at h
  exact ⟨_, by rw [h.1], h.2⟩
theorem wide_bool (ht : P.underlying t = some .bool) (h : Cell.okWide P W .any base t v) : ∃ b, v = .bool b := by
  unfold Cell.okWide at h
  rw [ht] at h
  cases v <;> simp [Cell.ok, ht] at h
  exact ⟨_, rfl⟩
theorem wide_str (ht : P.underlying t = some .string) (h : Cell.okWide P W .any base t v) : ∃ s, v = .string s := by
  unfold Cell.okWide at h
  rw [ht] at h
  cases v <;> simp [Cell.ok, ht] at h
  exact ⟨_, rfl⟩
theorem wide_slice {e : TypeId} (ht : P.underlying t = some (.slice e)) (h : Cell.okWide P W .any base t v) : ∀ a len cap, v = .slice (some a) len cap → a.spot = none := by
  rintro a len cap rfl
  unfold Cell.okWide at h
  rw [ht] at h
  simp [Cell.ok, ht, World.has] at h
  exact h.2.2.2.1
end

theorem relc {w : World} {G : Gh} {vs : List Value} {ds : List D} {v : Value} {x : E} (h1 : RelE w G.S v x) (h : RelL w G vs ds) : RelL w G (v :: vs) (.e x :: ds) := h.cons (.e _ _ h1) (flat_leaf (.e x)).1
theorem msg_open {H : Type} {enc : TypeId × Value → H} {W : World} {base : Nat} {v : Value} {d : DataW H} {p : List MemPlace} (hv : Value.okWide Try.prog W .any base 27 v) (h : DataW.Trod enc Try.prog W 0 (fun _ => true) true 27 v d p) :
    ∃ (m : Msg) (xs : List E), m.cs (.e (.sl (isE m.list))) = xs.map .e ∧ RelD W (seen W) v (.agg (m.cs (.e (.sl (isE m.list))))) ∧ -9223372036854775808 ≤ m.call ∧ m.call ≤ 9223372036854775807 := by
  unfold Value.okWide at hv
  rw [Try.underlying27] at hv
  obtain ⟨cs, rfl, hsz, ts, hts, _, hrow⟩ := hv
  obtain rfl := Option.some.inj (types27.symm.trans hts)
  obtain ⟨fuel, hf⟩ := h
  obtain ⟨xs, n, _, _, _, hxs, hfld⟩ := DataW.trod_struct Try.underlying27 hf
  have hl := hfld 9 _ rfl
  have hxl : xs[9]? ≠ none := by
    rw [ne_eq, List.getElem?_eq_none_iff, hxs]; decide
  obtain ⟨y, hy⟩ := Option.ne_none_iff_exists'.1 hxl
  rw [hy] at hl
  obtain ⟨l, rfl⟩ : ∃ l : List Value, cs = l.toArray := ⟨cs.toList, by simp⟩
  obtain ⟨c0, c1, c2, c3, c4, c5, c6, c7, c8, c9, c10, c11, c12, c13, c14, rfl⟩ := list15 (hsz.trans cells27)
  have hr : ∀ (i : Nat) v u, [c0, c1, c2, c3, c4, c5, c6, c7, c8, c9, c10, c11, c12, c13, c14][i]? = some v → [5, 3, 3, 3, 3, 4, 4, 3, 3, 22, 9, 3, 3, 4, 25][i % 15]? = some u → Cell.okWide Try.prog W .any base u v := by
    intro i v u h1 h2
    obtain ⟨u', h3, h4⟩ := hrow i v (by simpa using h1)
    have : u' = u := Option.some.inj (h3.symm.trans h2)
    rw [← this]; exact h4
  obtain ⟨n0, rfl, _⟩ := Zii Try.underlying5 (hr 0 _ _ rfl rfl)
  obtain ⟨n1, rfl, b1⟩ := Zii Try.underlying3 (hr 1 _ _ rfl rfl)
  obtain ⟨n2, rfl, _⟩ := Zii Try.underlying3 (hr 2 _ _ rfl rfl)
  obtain ⟨n3, rfl, _⟩ := Zii Try.underlying3 (hr 3 _ _ rfl rfl)
  obtain ⟨n4, rfl, _⟩ := Zii Try.underlying3 (hr 4 _ _ rfl rfl)
  obtain ⟨n5, rfl⟩ := wide_bool Try.underlying4 (hr 5 _ _ rfl rfl)
  obtain ⟨n6, rfl⟩ := wide_bool Try.underlying4 (hr 6 _ _ rfl rfl)
  obtain ⟨n7, rfl, _⟩ := Zii Try.underlying3 (hr 7 _ _ rfl rfl)
  obtain ⟨n8, rfl, _⟩ := Zii Try.underlying3 (hr 8 _ _ rfl rfl)
  have hsp := wide_slice Try.underlying22 (hr 9 _ _ rfl rfl)
  obtain ⟨n10, rfl⟩ := wide_str Try.underlying9 (hr 10 _ _ rfl rfl)
  obtain ⟨n11, rfl, _⟩ := Zii Try.underlying3 (hr 11 _ _ rfl rfl)
  obtain ⟨n12, rfl, _⟩ := Zii Try.underlying3 (hr 12 _ _ rfl rfl)
  obtain ⟨n13, rfl⟩ := wide_bool Try.underlying4 (hr 13 _ _ rfl rfl)
  obtain ⟨n14, rfl, _⟩ := Zii Try.underlying25 (hr 14 _ _ rfl rfl)
  have hl' : DataW.trod enc Try.prog W 0 (fun _ => true) true n 22 (List.take (Try.prog.cellsOf 22) [c9, .string n10, .int .i64 n11, .int .i64 n12, .bool n13, .int .i64 n14]) = some y := hl
  rw [cells22] at hl'
  have hl' : DataW.trod enc Try.prog W 0 (fun _ => true) true n 22 [c9] = some y := hl'
  obtain ⟨zs, hz, _⟩ := rel_ints Try.underlying22 Try.underlying3 cells3 hsp hl'
  refine ⟨⟨n0, n1, n2, n3, n4, n5, n6, n7, n8, zs, n10, n11, n12, n13, n14⟩, [.int .u8 n0, .int .i64 n1, .int .i64 n2, .int .i64 n3, .int .i64 n4, .bool n5, .bool n6, .int .i64 n7, .int .i64 n8, .sl (isE zs), .str n10, .int .i64 n11, .int .i64 n12, .bool n13, .int .i64 n14], rfl, ?_, ?_⟩
  · refine .agg _ _ rfl ?_ ?_
    · intro v hv
      simp only [List.mem_cons, List.not_mem_nil, or_false] at hv
      rcases hv with rfl | rfl | rfl | rfl | rfl | rfl | rfl | rfl | rfl | rfl | rfl | rfl | rfl | rfl | rfl <;> first | rfl | exact hz.one
    · have := (relc (.int .u8 n0) <| relc (.int .i64 n1) <| relc (.int .i64 n2) <| relc (.int .i64 n3) <| relc (.int .i64 n4) <| relc (.bool n5) <| relc (.bool n6) <| relc (.int .i64 n7) <| relc (.int .i64 n8) <|
        relc hz <| relc (.str n10) <| relc (.int .i64 n11) <| relc (.int .i64 n12) <| relc (.bool n13) <| relc (.int .i64 n14) <| RelL.nil W (seen W)).rel
      intro i v d h1 h2
      exact this i v d (by simpa using h1) h2
  · exact b1

end Go.Abs
