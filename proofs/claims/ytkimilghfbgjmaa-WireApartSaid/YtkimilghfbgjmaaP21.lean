/-
  WIRE: frame.Close, frame.Open. WIRE: slices.Reverse, in place. WIRE: numbers' bytes. WIRE: num.Put. No condition.
-/
import Derived.Test.YtkimilghfbgjmaaP20

namespace Go.Abs
open Go Go.Proofs
set_option maxRecDepth 10000
set_option maxHeartbeats 4000000

def hdr4 (n : Nat) : List UInt8 := [71, 1, UInt8.ofNat (n / 256), UInt8.ofNat n]
/-- A payload, framed. -/
def closeL (xs : List UInt8) : List UInt8 := (hdr4 xs.length ++ xs) ++ tail4 (crc (hdr4 xs.length ++ xs))
theorem u8_div (n : Nat) : IntKind.u8.wrap ((n : Int).fdiv (2 ^ min 8 64)) = ((UInt8.ofNat (n / 256)).toNat : Int) := by
  have e : (2 : Int) ^ min 8 64 = 256 := by decide
  rw [IntKind.wrap_u8, e, Int.fdiv_eq_ediv_of_nonneg _ (by decide)]
  simp
theorem u8_nat (n : Nat) : IntKind.u8.wrap (n : Int) = ((UInt8.ofNat n).toNat : Int) := by
  rw [IntKind.wrap_u8]; simp
theorem byE_app {xs ys : List UInt8} : byE xs ++ byE ys = byE (xs ++ ys) := by simp [byE]
theorem byE_len {xs : List UInt8} : (byE xs).length = xs.length := by simp [byE]
theorem app31b {ex fu : Bool} {es xs : List (List E)} {a : D} (hne : es.isEmpty = false) (ha : slOf a = some xs) (hok : okRows 1 xs = true) (hl : es.length + xs.length ≤ 1073741824) : appendD Try.prog 31 (.osl ex fu 1 es) a false = some (.osl ex false 1 (es ++ xs)) := by
  rw [app31 ha hok hl, hne, Bool.or_false]
theorem hdr_byE (n : Nat) : [[E.int .u8 71], [E.int .u8 1], [E.int .u8 ((UInt8.ofNat (n / 256)).toNat : Int)], [E.int .u8 ((UInt8.ofNat n).toNat : Int)]] = byE (hdr4 n) := rfl
theorem size_z {n : Nat} : (sizeZ (n : Int) == 0) = !decide (n ≤ 112) := by
  unfold sizeZ
  by_cases h : n ≤ 112
  · have h1 : decide ((n : Int) ≤ 112) = true := by simp; omega
    have h2 : decide (0 ≤ (n : Int)) = true := by simp
    rw [h1, h2, wrap64 (by omega) (by omega)]
    simp [h]; omega
  · have h1 : decide ((n : Int) ≤ 112) = false := by simp; omega
    rw [h1]; simp [h]

theorem w19 (a : D) (xs : List UInt8) (ha : Rd a (byE xs)) (hx : xs.length ≤ 100000) (h : List O) : wc 19 [a] h = some (.val (if xs.length ≤ 112 then .tup [.osl false false 1 (byE (closeL xs)), .int .i64 0] else .tup [.osl false true 0 [], .int .i64 2]), h) := by
  have la := by_len ha
  have hcv0 : wcv 19 0 = [] := rfl
  have hcv1 : wcv 19 1 = [] := rfl
  have hcv2 : wcv 19 2 = [] := rfl
  have hcv3 : wcv 19 3 = [] := rfl
  have hcv4 : wcv 19 4 = [] := rfl
  have hcv5 : wcv 19 5 = [.kp 5] := rfl
  have hres : Try.f19.results.toList = [ResultVar.tmp 2, ResultVar.tmp 3] := rfl
  rw [wc, call_fn rfl Try.func19 rfl]
  simp only [enterT, List.length_cons, List.length_nil, Nat.reduceSub, List.replicate, List.cons_append, List.nil_append, kx_seq, kx_cond_tmp, kSeq_nrm, ko_nil, ko_op, ko_builtin, ko_func, kT_some, kR_val, kC_val, List.getElem?_toArray, List.getElem?_cons_zero, Option.bind_some, ne_eq, reduceCtorEq, not_false_eq_true, implies_true, Option.map_some, List.set_cons_succ, List.set_cons_zero, List.getD_cons_succ, List.getD_cons_zero, own_e, exO_move_tmp, exO_assign, exO_binOp, tk_plain, tk_const, rd_tmp, rd_const, tks_nil, tks_cons, ofV_int, ofV_nilsl, binD_eql, arith_eql, exB_len, preCv, List.foldl_nil, Option.bind_eq_bind, Nat.zero_add, Option.pure_def, kx_region_cv, hcv0, hcv1, hcv2, Try.ntmps19, ha.ownD, la, w35, size_z]
  by_cases hs : xs.length ≤ 112
  rotate_left
  · have e1 : decide (xs.length ≤ 112) = false := by simp [hs]
    simp only [kx_seq, kx_ret, kCond_true, kSeq_nrm, kSeq_ret, ko_nil, ko_op, kR_val, ne_eq, reduceCtorEq, not_false_eq_true, implies_true, Bool.not_false, Option.map_some, List.set_cons_succ, List.set_cons_zero, List.getD_cons_succ, List.getD_cons_zero, own_e, own_osl, ↓reduceIte, exO_assign, tk_plain, tk_const, ofV_int, ofV_nilsl, kF_ret, leave_eq, resD_nil, resD_tmp, tupD_two, gc_same, fit_e, fit_osl, fit_tup, List.forall_mem_cons, List.not_mem_nil, false_imp_iff, and_self, preCv, List.foldl_nil, kx_region_cv, hcv3, hres, hs, decide_false]
  have e1 : decide (xs.length ≤ 112) = true := by simp [hs]
  have h1 : appendD Try.prog 31 (.osl true true 1 (byE (hdr4 xs.length))) a false = some (.osl true false 1 (byE (hdr4 xs.length ++ xs))) := by
    rw [app31b rfl ha.sl (ok_byE _) (by simp [byE_len, hdr4]; omega), byE_app]
  have h37 := w37 (.e (.sl (byE (hdr4 xs.length ++ xs)))) (hdr4 xs.length ++ xs) Rd.e (by simp [hdr4]; omega)
  have h2 : appendD Try.prog 31 (.osl false false 1 (byE (hdr4 xs.length ++ xs))) (.osl false true 1 (byE (tail4 (crc (hdr4 xs.length ++ xs))))) false = some (.osl false false 1 (byE (closeL xs))) := by
    rw [app31b rfl slOf_osl (ok_byE _) (by simp [byE_len, hdr4, tail4]; omega), byE_app]; rfl
  simp only [kx_seq, kx_skip, kCond_false, kSeq_nrm, ko_nil, ko_op, ko_builtin, ko_func, kT_some, kR_val, List.getElem?_toArray, List.getElem?_cons_succ, List.getElem?_cons_zero, Nat.reduceLT, ne_eq, reduceCtorEq, not_false_eq_true, implies_true, Bool.not_true, Bool.false_eq_true, Option.map_some, List.set_cons_succ, List.set_cons_zero, List.getD_cons_succ, List.getD_cons_zero, own_e, List.any_cons, List.any_nil, Bool.or_false, ↓reduceIte, exO_assign, exO_binOp, exO_convert, exO_buildSlice, tk_plain, sh_plain, sh_const, rd_tmp, rd_const, tks_nil, tks_cons, shs_nil, shs_cons, ofV_int, binD_shr, shiftD_shr, Int.reduceLT, Int.reduceToNat, IntKind.bits, exB_append, and_true, preCv, List.foldl_nil, notTup_osl, List.map_cons, List.map_nil, Bool.or_self, Bool.and_true, Bool.or_true, Try.underlying5, Try.underlying31, kx_region_cv, List.foldl_cons, cv1_kp, hcv4, hcv5, hs, decide_true, ha.ownD, convD_int Try.underlying3 Try.underlying5, u8_div, u8_nat, List.zip_cons_cons, List.zip_nil_right, bs31_4, hdr_byE, exO_mv, taken, consumes, isTmp, beq_self_eq_true, Nat.reduceBEq, tk_tmp, tkV_own, ownD_ex, ownD_nf, leftT_ex, leftT_nf, kep_osl, h1]
  simp only [kx_ret, kSeq_nrm, ko_nil, ko_op, ko_builtin, ko_func, kT_some, kR_val, kC_val, List.getElem?_toArray, List.getElem?_cons_succ, List.getElem?_cons_zero, ne_eq, reduceCtorEq, not_false_eq_true, implies_true, Option.map_some, List.set_cons_succ, List.set_cons_zero, List.getD_cons_succ, List.getD_cons_zero, own_e, exO_assign, tk_plain, tk_const, tks_nil, tks_cons, ofV_int, exB_append, kF_ret, leave_eq, resD_nil, resD_tmp, tupD_two, gc_same, fit_e, fit_osl, fit_tup, List.forall_mem_cons, List.not_mem_nil, false_imp_iff, and_self, Try.underlying31, hres, tk_tmp, tkV_own, sh_tmp, shV_osl, ownD_ex, ownD_nf, leftT_nf, shr_fu, kep_osl, h37, w36, h2]

theorem by_slice {a : D} {xs : List UInt8} (ha : Rd a (byE xs)) {lo hi : Option D} {l h : Nat} (hh : bndO hi xs.length xs.length = some h) (hl : bndO lo 0 h = some l) : sliceD Try.prog 31 a lo hi none = some (.e (.sl (byE ((xs.take h).drop l)))) := by
  rw [slice_of (h := h) (l := l) Try.underlying31 sz5 ha.sl (ok_byE xs) (by omega) (by rw [byE_len]; exact hh) hl]
  simp [byE, List.map_take, List.map_drop]
theorem bnd_nat {k : IntKind} {i y : Nat} (h : i ≤ y) : bnd (.e (.int k (i : Int))) y = some i := by rw [bnd_int (by omega) (by omega)]; simp
theorem clone31 {a : D} {xs : List UInt8} (ha : Rd a (byE xs)) (hl : xs.length ≤ 1073741824) (h : List O) : wc 31 [a] h = some (.val (.osl true false 1 (byE xs)), h) := w31 a _ ha (by rw [toB_byE]; rfl) (by rw [byE_len]; exact hl) h

theorem w41o (a : D) (xs ys : List UInt8) (ha : Rd a (byE xs)) (h : List O) : wc 41 [a, .osl true true 1 (byE ys)] h = some (.val (.bool (decide (xs = ys))), h) := by
  have hcv : ∀ i, wcv 41 i = [] := fun _ => rfl
  have hres : Try.f41.results.toList = [ResultVar.tmp 4] := rfl
  rw [wc, call_fn rfl Try.func41 rfl]
  simp only [enterT, List.length_cons, List.length_nil, Nat.reduceAdd, Nat.reduceSub, List.replicate, List.cons_append, List.nil_append, kx_seq, kx_ret, kSeq_nrm, ko_nil, ko_op, kR_val, ne_eq, reduceCtorEq, not_false_eq_true, implies_true, Bool.false_eq_true, Option.map_some, List.set_cons_succ, List.set_cons_zero, List.getD_cons_succ, List.getD_cons_zero, own_e, own_osl, List.any_cons, List.any_nil, ↓reduceIte, exO_assign, exO_binOp, exO_convert, tk_plain, sh_plain, tk_const, rd_tmp, ofV_bool, binS_eql, strD_eql, kF_ret, leave_eq, resD_nil, resD_tmp, tupD_one, gc_same, fit_e, Bool.or_self, Nat.zero_add, kx_region (hcv _), Try.ntmps41, hres, ha.ownD, conv_str ha.sl, conv_str (a := .osl false true 1 (byE ys)) slOf_osl, BA_inj, exO_mv, taken, consumes, isTmp, Nat.reduceBEq, sh_tmp, shV_osl, ownD_ex, shr_fu, kep_osl]
/-- Is it a datagram's frame? k: how long what it holds is. -/
def okFrame (xs : List UInt8) (k : Nat) : Bool := decide (k ≤ 112) && (decide (xs.take 4 = hdr4 k) && decide (xs.drop (4 + k) = tail4 (crc (xs.take (4 + k)))))

theorem w24_short (a : D) (xs : List UInt8) (ha : Rd a (byE xs)) (hx : xs.length < 8) (h : List O) : wc 24 [a] h = some (.val (.tup [.osl false true 0 [], .int .i64 11]), h) := by
  have la := by_len ha
  have hw : IntKind.i64.wrap ((xs.length : Int) - 8) = (xs.length : Int) - 8 := wrap64 (by omega) (by omega)
  have e1 : decide ((xs.length : Int) - 8 < 0) = true := by simp; omega
  have hcv : ∀ i, wcv 24 i = [] := fun _ => rfl
  have hres : Try.f24.results.toList = [ResultVar.tmp 2, ResultVar.tmp 3] := rfl
  rw [wc, call_fn rfl Try.func24 rfl]
  simp only [enterT, List.length_cons, List.length_nil, Nat.reduceSub, List.replicate, List.cons_append, List.nil_append, kx_seq, kx_ret, kx_block, kx_cond_tmp, kCond_true, kSeq_nrm, kSeq_ret, kBlk_ret, ko_nil, ko_op, ko_builtin, kR_val, List.getElem?_toArray, List.getElem?_cons_zero, Option.bind_some, ne_eq, reduceCtorEq, not_false_eq_true, implies_true, Option.map_some, List.set_cons_succ, List.set_cons_zero, List.getD_cons_succ, List.getD_cons_zero, own_e, own_osl, exO_move_tmp, exO_assign, exO_binOp, tk_plain, tk_const, rd_tmp, rd_const, ofV_int, ofV_nilsl, binD_sub, binD_lss, arith_sub, arith_lss, exB_len, kF_ret, leave_eq, resD_nil, resD_tmp, tupD_two, gc_same, fit_e, fit_osl, fit_tup, List.forall_mem_cons, List.not_mem_nil, false_imp_iff, and_self, Option.bind_eq_bind, Nat.zero_add, Option.pure_def, kx_region (hcv _), Try.ntmps24, hres, ha.ownD, la, hw, e1]
theorem w24 (a : D) (xs : List UInt8) (ha : Rd a (byE xs)) (k : Nat) (hk : xs.length = k + 8) (hx : xs.length ≤ 100000) (h : List O) : wc 24 [a] h =
    some (.val (if okFrame xs k then .tup [.osl true false 1 (byE ((xs.take (4 + k)).drop 4)), .int .i64 0] else .tup [.osl false true 0 [], .int .i64 12]), h) := by
  have la := by_len ha
  have hw : IntKind.i64.wrap ((xs.length : Int) - 8) = (k : Int) := by rw [wrap64 (by omega) (by omega)]; omega
  have hw4 : IntKind.i64.wrap (4 + (k : Int)) = ((4 + k : Nat) : Int) := by rw [wrap64 (by omega) (by omega)]; omega
  have e1 : decide ((k : Int) < 0) = false := by simp
  have s1 : sliceD Try.prog 31 a none (some (.e (.int .i64 4))) none = some (.e (.sl (byE (xs.take 4)))) := by
    rw [by_slice (h := 4) (l := 0) ha (by rw [bndO, show (4 : Int) = ((4 : Nat) : Int) by rfl, bnd_nat (by omega)]) rfl]; simp
  have s2 : sliceD Try.prog 31 a (some (.e (.int .i64 ((4 + k : Nat) : Int)))) none none = some (.e (.sl (byE (xs.drop (4 + k))))) := by
    rw [by_slice (h := xs.length) (l := 4 + k) ha rfl (by rw [bndO, bnd_nat (by omega)])]; simp
  have s3 : sliceD Try.prog 31 a none (some (.e (.int .i64 ((4 + k : Nat) : Int)))) none = some (.e (.sl (byE (xs.take (4 + k))))) := by
    rw [by_slice (h := 4 + k) (l := 0) ha (by rw [bndO, bnd_nat (by omega)]) rfl]; simp
  have s4 : sliceD Try.prog 31 a (some (.e (.int .i64 4))) (some (.e (.int .i64 ((4 + k : Nat) : Int)))) none = some (.e (.sl (byE ((xs.take (4 + k)).drop 4)))) := by
    rw [by_slice (h := 4 + k) (l := 4) ha (by rw [bndO, bnd_nat (by omega)]) (by rw [bndO, show (4 : Int) = ((4 : Nat) : Int) by rfl, bnd_nat (by omega)])]
  have q1 := w41o (.e (.sl (byE (xs.take 4)))) (xs.take 4) (hdr4 k) Rd.e
  have q2 := w37 (.e (.sl (byE (xs.take (4 + k))))) (xs.take (4 + k)) Rd.e (by simp; omega)
  have q3 := w41o (.e (.sl (byE (xs.drop (4 + k))))) (xs.drop (4 + k)) (tail4 (crc (xs.take (4 + k)))) Rd.e
  have q4 := clone31 (a := .e (.sl (byE ((xs.take (4 + k)).drop 4)))) (xs := (xs.take (4 + k)).drop 4) Rd.e (by simp; omega)
  have hcv : ∀ i, wcv 24 i = [] := fun _ => rfl
  have hres : Try.f24.results.toList = [ResultVar.tmp 2, ResultVar.tmp 3] := rfl
  rw [wc, call_fn rfl Try.func24 rfl]
  simp only [enterT, List.length_cons, List.length_nil, Nat.reduceSub, List.replicate, List.cons_append, List.nil_append, kx_seq, kx_block, kx_cond_tmp, kCond_false, kSeq_nrm, ko_nil, ko_op, ko_builtin, kR_val, List.getElem?_toArray, List.getElem?_cons_zero, Option.bind_some, ne_eq, reduceCtorEq, not_false_eq_true, implies_true, Option.map_some, List.set_cons_succ, List.set_cons_zero, List.getD_cons_succ, List.getD_cons_zero, own_e, exO_move_tmp, exO_assign, exO_binOp, tk_plain, tk_const, rd_tmp, rd_const, ofV_int, ofV_nilsl, binD_sub, binD_lss, arith_sub, arith_lss, exB_len, Option.bind_eq_bind, Nat.zero_add, Option.pure_def, kx_region (hcv _), Try.ntmps24, ha.ownD, la, hw, e1]
  refine (kx_draw (l := plan24_4) (by exact plan24_4_eq)).trans ?_
  simp only [List.length_cons, List.length_nil, Nat.reduceAdd, List.getElem?_toArray, List.getElem?_cons_succ, List.getElem?_cons_zero, Option.bind_some, Nat.reduceLT, ne_eq, reduceCtorEq, not_false_eq_true, implies_true, Option.map_some, List.set_cons_succ, List.set_cons_zero, List.getD_cons_succ, List.getD_cons_zero, own_e, own_undef, List.any_cons, List.any_nil, ↓reduceIte, exO_binOp, tk_plain, rd_tmp, rd_const, tks_nil, tks_cons, ofV_int, binD_eql, Int.reduceLT, arith_eql, and_self, List.toList_toArray, Option.some.injEq, Prod.mk.injEq, kd_l, kdL_some, kdV_some, sealD_plain, preSeal_nil, preSeal_move, preSeal_other, exL_move, exL_gen, outV_some, ownOp_tmp, ownOp_const, lo_binOp, Op.operands, Call.operands, preCv, List.foldl_nil, Bool.or_self, Nat.zero_add, hcv, kd_h, kdHO_some, kdL_g, kdT_some, kdK_func, kdC_val, kdE_val, calmAt_eq, again_nil, List.all_nil, Bool.and_self, plan24_4, ha.ownD, w35, size_z]
  by_cases h1 : k ≤ 112
  rotate_left
  · have e2 : decide (k ≤ 112) = false := by simp [h1]
    simp only [List.length_cons, List.length_nil, Nat.reduceAdd, kx_seq, kx_ret, kx_cond_tmp, kCond_true, kSeq_nrm, kSeq_ret, kBlk_ret, ko_nil, ko_op, kR_val, St.put, List.getElem?_toArray, List.getElem?_cons_succ, List.getElem?_cons_zero, Option.bind_some, Nat.reduceLT, ne_eq, reduceCtorEq, not_false_eq_true, implies_true, Bool.not_false, Bool.false_eq_true, Option.map_some, List.set_cons_succ, List.set_cons_zero, List.getD_cons_succ, List.getD_cons_zero, own_e, own_undef, own_osl, List.any_cons, List.any_nil, ↓reduceIte, exO_assign, exO_pick, tk_plain, tk_const, sh_const, rd_tmp, ofV_int, ofV_bool, ofV_nilsl, Int.reduceLT, kF_ret, leave_eq, resD_nil, resD_tmp, tupD_two, gc_same, fit_e, fit_osl, fit_tup, List.forall_mem_cons, List.not_mem_nil, false_imp_iff, and_self, List.toList_toArray, Option.some.injEq, Prod.mk.injEq, kd_nil, kd_l, kdL_some, kdV_some, exL_move, exL_gen, outV_some, ownOp_tmp, ownOp_const, lo_pick, Op.operands, Call.operands, Bool.or_self, Bool.false_and, Nat.zero_add, kx_region (hcv _), hres, kd_h, kdHO_some, kdL_g, kdLG_no, kdHO_g, kdHG_no, kdK_op, kdE_val, calmAt_eq, again_nil, List.all_nil, Bool.and_self, okFrame, h1, decide_false]
  have e2 : decide (k ≤ 112) = true := by simp [h1]
  simp only [List.length_cons, List.length_nil, Nat.reduceAdd, List.cons_append, List.nil_append, List.getElem?_toArray, List.getElem?_cons_succ, List.getElem?_cons_zero, Option.bind_some, Nat.reduceLT, not_false_eq_true, Bool.not_true, Bool.false_eq_true, Option.map_some, List.set_cons_succ, List.set_cons_zero, List.getD_cons_succ, List.getD_cons_zero, own_e, List.any_cons, List.any_nil, ↓reduceIte, exO_binOp, exO_unOp, exO_convert, exO_pick, exO_buildSlice, exO_slice, tk_plain, sh_plain, sh_const, rd_tmp, rd_const, tks_nil, tks_cons, shs_nil, shs_cons, ofV_int, optO_none, optO_some, binD_shr, shiftD_shr, Int.reduceLT, Int.reduceToNat, IntKind.bits, unD_not, and_self, List.toList_toArray, Option.some.injEq, Prod.mk.injEq, kd_l, kdL_some, kdV_some, exL_move, exL_gen, outV_some, ownOp_tmp, ownOp_const, lo_pick, lo_buildSlice, lo_binOp, lo_unOp, lo_convert, lo_slice, Op.operands, Call.operands, Array.toList_append, List.append_nil, List.map_cons, List.map_nil, Bool.or_self, Nat.zero_add, Try.underlying5, kd_h, kdHO_some, kdL_g, kdLG_yes, kdHO_g, kdHG_yes, kdT_some, kdK_func, kdC_val, kdE_val, calmAt_eq, again_nil, List.all_nil, Bool.and_self, Option.toArray_none, Option.toArray_some, tk_tmp, tkV_own, ownD_ex, leftT_ex, h1, decide_true, ha.ownD, s1, convD_int Try.underlying3 Try.underlying5, u8_div, u8_nat, List.zip_cons_cons, List.zip_nil_right, bs31_4, hdr_byE, q1]
  by_cases h2 : xs.take 4 = hdr4 k
  rotate_left
  · have e3 : decide (xs.take 4 = hdr4 k) = false := by simp [h2]
    simp only [List.length_cons, List.length_nil, Nat.reduceAdd, kx_seq, kx_ret, kx_cond_tmp, kCond_true, kSeq_nrm, kSeq_ret, kBlk_ret, ko_nil, ko_op, kR_val, St.put, List.getElem?_toArray, List.getElem?_cons_succ, List.getElem?_cons_zero, Option.bind_some, Nat.reduceLT, ne_eq, reduceCtorEq, not_false_eq_true, implies_true, Bool.not_false, Bool.false_eq_true, Option.map_some, List.set_cons_succ, List.set_cons_zero, List.getD_cons_succ, List.getD_cons_zero, own_e, own_osl, List.any_cons, List.any_nil, ↓reduceIte, exO_assign, exO_pick, tk_plain, tk_const, sh_const, rd_tmp, ofV_int, ofV_bool, ofV_nilsl, Int.reduceLT, kF_ret, leave_eq, resD_nil, resD_tmp, tupD_two, gc_same, fit_e, fit_osl, fit_tup, List.forall_mem_cons, List.not_mem_nil, false_imp_iff, and_self, List.toList_toArray, Option.some.injEq, Prod.mk.injEq, kd_nil, kd_l, kdL_some, kdV_some, exL_gen, outV_some, ownOp_tmp, ownOp_const, lo_pick, Op.operands, Call.operands, Bool.or_self, Bool.and_false, Bool.false_and, Nat.zero_add, kx_region (hcv _), hres, kd_h, kdHO_some, kdL_g, kdLG_no, kdHO_g, kdHG_no, kdK_op, kdE_val, calmAt_eq, again_nil, List.all_nil, Bool.and_self, ownD_tup, e3, okFrame, e2]
  have e3 : decide (xs.take 4 = hdr4 k) = true := by simp [h2]
  simp only [List.length_cons, List.length_nil, Nat.reduceAdd, List.cons_append, List.nil_append, kx_cond_tmp, kSeq_nrm, List.getElem?_toArray, List.getElem?_cons_succ, List.getElem?_cons_zero, Option.bind_some, Nat.reduceLT, ne_eq, reduceCtorEq, not_false_eq_true, implies_true, Bool.not_true, Bool.not_false, Bool.false_eq_true, Option.map_some, List.set_cons_succ, List.set_cons_zero, List.getD_cons_succ, List.getD_cons_zero, own_e, List.any_cons, List.any_nil, Bool.not_eq_true', ↓reduceIte, exO_assign, exO_binOp, exO_unOp, exO_pick, exO_slice, tk_plain, sh_plain, rd_tmp, rd_const, tks_nil, tks_cons, ofV_int, optO_none, optO_some, binD_add, Int.reduceLT, arith_add, unD_not, and_true, and_self, List.toList_toArray, Option.some.injEq, Prod.mk.injEq, true_and, kd_nil, kd_l, kdL_some, kdV_some, exL_move, exL_gen, outV_some, ownOp_tmp, ownOp_const, lo_pick, lo_binOp, lo_unOp, lo_slice, Op.operands, Call.operands, Array.toList_append, List.append_nil, Bool.or_self, Bool.and_true, Bool.true_and, Nat.zero_add, kd_h, kdHO_some, kdL_g, kdLG_yes, kdHO_g, kdHG_yes, kdT_some, kdK_func, kdK_op, kdC_val, kdE_val, calmAt_eq, again_nil, excD_e, List.all_cons, List.all_nil, Bool.and_self, Option.toArray_none, Option.toArray_some, tk_tmp, tkV_own, ownD_ex, leftT_ex, e3, ha.ownD, hw4, s2, s3, q2, w36, q3]
  by_cases h3 : xs.drop (4 + k) = tail4 (crc (xs.take (4 + k)))
  rotate_left
  · have e4 : decide (xs.drop (4 + k) = tail4 (crc (xs.take (4 + k)))) = false := by simp [h3]
    simp only [kx_seq, kx_ret, kCond_true, kSeq_nrm, kSeq_ret, kBlk_ret, ko_nil, ko_op, kR_val, ne_eq, reduceCtorEq, not_false_eq_true, implies_true, Bool.not_false, Bool.false_eq_true, Option.map_some, List.set_cons_succ, List.set_cons_zero, List.getD_cons_succ, List.getD_cons_zero, own_e, own_osl, ↓reduceIte, exO_assign, tk_plain, tk_const, ofV_int, ofV_nilsl, kF_ret, leave_eq, resD_nil, resD_tmp, tupD_two, gc_same, fit_e, fit_osl, fit_tup, List.forall_mem_cons, List.not_mem_nil, false_imp_iff, and_self, Bool.and_false, kx_region (hcv _), hres, Bool.and_self, e4, okFrame, e2, e3, ha.excD]
  have e4 : decide (xs.drop (4 + k) = tail4 (crc (xs.take (4 + k)))) = true := by simp [h3]
  simp only [kx_seq, kx_skip, kx_ret, kCond_false, kSeq_nrm, kBlk_nrm, ko_nil, ko_op, ko_func, kT_some, kR_val, kC_val, ne_eq, reduceCtorEq, not_false_eq_true, implies_true, Bool.not_true, Bool.false_eq_true, Option.map_some, List.set_cons_succ, List.set_cons_zero, List.getD_cons_succ, List.getD_cons_zero, own_e, List.any_cons, List.any_nil, ↓reduceIte, exO_assign, exO_binOp, exO_slice, tk_plain, sh_plain, tk_const, rd_tmp, rd_const, tks_nil, tks_cons, ofV_int, optO_none, optO_some, binD_add, arith_add, kF_ret, leave_eq, resD_nil, resD_tmp, tupD_two, gc_same, fit_e, fit_osl, fit_tup, List.forall_mem_cons, List.not_mem_nil, false_imp_iff, and_self, Bool.or_self, kx_region (hcv _), hres, Bool.and_self, exO_mv, taken, consumes, isTmp, Nat.reduceBEq, tk_tmp, tkV_own, ownD_nf, leftT_ex, e4, ha.ownD, ha.excD, hw4, s4, q4, okFrame, e2, e3]

end Go.Abs

namespace Go.Abs
open Go Go.Proofs
set_option maxRecDepth 10000
set_option maxHeartbeats 4000000

def bD (l : List UInt8) : List D := l.map fun b => .int .u8 (b.toNat : Int)
theorem bD_len {l : List UInt8} : (bD l).length = l.length := by simp [bD]
theorem bD_get {l : List UInt8} {i : Nat} {b : UInt8} (h : l[i]? = some b) : (bD l)[i]? = some (.int .u8 (b.toNat : Int)) := by simp [bD, h]
theorem bD_put {l : List UInt8} {i : Nat} {b : UInt8} (h : i < l.length) : List.take i (bD l) ++ [D.e (.int .u8 (b.toNat : Int))] ++ List.drop (i + 1) (bD l) = bD (l.set i b) := by
  rw [List.set_eq_take_append_cons_drop, if_pos h]
  simp [bD, List.map_take, List.map_drop]
theorem bD_set_len {l : List UInt8} {i : Nat} {b : UInt8} : (l.set i b).length = l.length := List.length_set
theorem excD_asl {i o n : Nat} : excD (.asl i o n) = false := of_decide_eq_true rfl
theorem ix_asl {k i n : Nat} (h : i < n) : indexAddrD Try.prog 31 (.asl k 0 n) (.e (.int .i64 (i : Int))) = some (.ptr k i) := by
  unfold indexAddrD
  rw [Try.underlying31]
  simp only [sz5]
  rw [if_pos ⟨by omega, by omega, by omega⟩]
  simp

/-- Behind i swaps. -/
def Swp (l cur : List UInt8) (i : Nat) : Prop := cur.length = l.length ∧ ∀ k, k < l.length → cur[k]? = if k < i ∨ l.length - i ≤ k then l[l.length - 1 - k]? else l[k]?

theorem w81 (h ex : List O) (l : List UInt8) (hl : 0 < l.length) (hx : l.length ≤ 100000) : wc 81 [.asl h.length 0 l.length] (h ++ .cells (bD l) :: ex) = some (.val undefD, h ++ .cells (bD l.reverse) :: ex) := by
  have hw : IntKind.i64.wrap ((l.length : Int) - 1) = ((l.length - 1 : Nat) : Int) := by rw [wrap64 (by omega) (by omega)]; omega
  have hcv : ∀ i, wcv 81 i = [] := fun _ => rfl
  have hres : Try.f81.results.toList = [] := rfl
  rw [wc, call_fn rfl Try.func81 rfl]
  simp only [enterT, List.length_cons, List.length_nil, Nat.reduceSub, List.replicate, List.cons_append, List.nil_append, kx_seq, kx_block, kSeq_nrm, ko_nil, ko_op, ko_builtin, kR_val, List.getElem?_toArray, List.getElem?_cons_zero, Option.bind_some, ne_eq, reduceCtorEq, not_false_eq_true, implies_true, Option.map_some, List.set_cons_succ, List.set_cons_zero, List.getD_cons_succ, List.getD_cons_zero, own_e, own_asl, exO_move_tmp, exO_assign, exO_binOp, tk_plain, tk_const, rd_tmp, rd_const, ofV_int, binD_sub, arith_sub, exB_len, Option.bind_eq_bind, Nat.zero_add, Option.pure_def, Try.underlying31, kx_region (hcv _), Try.ntmps81, len0_asl Try.underlying31, hw]
  refine kx_loop_ind (fun (n : Nat) (s : St) => ∃ (i : Nat) (j : Nat) (cur : List UInt8), (i + n = l.length ∧ i + j + 1 = l.length ∧ Swp l cur i) ∧ ∃ zs_, s = ⟨mkT [some (.asl h.length 0 l.length), none, some (.int .i64 i), some (.int .i64 j), none, none, none, none, none, none, none, none, none, none, none, none, none, none, none, none, none, none, none, none, none, none, none, none] zs_ 0, [], .no, h ++ .cells (bD cur) :: ex⟩) ?_ (l.length) ⟨0, l.length - 1, l, ⟨by omega, by omega, rfl, fun k hk => by simp; omega⟩, inv_intro rfl rfl rfl rfl⟩
  rintro n _ ⟨i, j, cur, hf_o, zs_o, rfl⟩ IH_o
  obtain ⟨hn, hij, hcl, hc⟩ := hf_o
  by_cases hi : i < j
  rotate_left
  · have e2 : decide ((i : Int) < (j : Int)) = false := by simp; omega
    have hz : cur = l.reverse := by
      apply List.ext_getElem?
      intro k
      by_cases hk : k < l.length
      · rw [hc k hk, List.getElem?_reverse hk]
        split
        · rfl
        · have : k = l.length - 1 - k := by omega
          rw [← this]
      · rw [List.getElem?_eq_none (by omega), List.getElem?_eq_none (by simp; omega)]
    simp only [List.length_cons, Nat.reduceAdd, kx_seq, kx_exit, kx_cond_tmp, kCond_false, kSeq_nrm, kSeq_ext, kBlk_ext, kLoop_ext, ko_nil, ko_op, kR_val, ne_eq, reduceCtorEq, not_false_eq_true, implies_true, Option.map_some, List.set_cons_succ, List.set_cons_zero, List.getD_cons_succ, List.getD_cons_zero, own_e, ↓reduceIte, exO_move_tmp, exO_binOp, rd_tmp, binD_lss, arith_lss, kF_nrm, leave_eq, resD_nil, tupD_nil, mkT, hlen, Nat.zero_add, kx_region (hcv _), hres, e2, hz, gc_len]
  have e2 : decide ((i : Int) < (j : Int)) = true := by simp; omega
  have hxi : cur[i]? = some (cur[i]'(by omega)) := List.getElem?_eq_getElem (by omega)
  have hxj : cur[j]? = some (cur[j]'(by omega)) := List.getElem?_eq_getElem (by omega)
  generalize cur[i]'(by omega) = x at hxi
  generalize cur[j]'(by omega) = y at hxj
  have hwj : IntKind.i64.wrap ((j : Int) - 1) = ((j - 1 : Nat) : Int) := by rw [wrap64 (by omega) (by omega)]; omega
  simp only [Nat.reduceAdd, kx_seq, kx_skip, kx_block, kx_cond_tmp, kCond_true, kSeq_nrm, ko_nil, ko_op, kR_val, ne_eq, reduceCtorEq, not_false_eq_true, implies_true, Option.map_some, List.set_cons_succ, List.set_cons_zero, List.getD_cons_succ, List.getD_cons_zero, own_e, exO_move_tmp, exO_binOp, rd_tmp, binD_lss, arith_lss, mkT, Nat.zero_add, kx_region (hcv _), e2]
  refine (kx_draw (l := plan81_3) (by exact plan81_3_eq)).trans ?_
  simp only [List.length_cons, List.length_nil, kSeq_nrm, kBlk_nrm, kLoop_nrm, ko_nil, ko_op, kR_val, List.getElem?_toArray, List.getElem?_cons_succ, List.getElem?_cons_zero, Option.bind_some, ne_eq, reduceCtorEq, not_false_eq_true, implies_true, Bool.not_false, Bool.true_eq_false, Bool.false_eq_true, Option.map_some, List.set_cons_succ, List.set_cons_zero, List.getD_cons_succ, List.getD_cons_zero, own_e, own_asl, List.any_cons, List.any_nil, ↓reduceIte, exO_move_tmp, exO_assign, exO_binOp, exO_store, exO_indexAddr, tk_plain, sh_plain, rd_tmp, rd_const, ofV_int, binD_add, binD_sub, arith_add, arith_sub, false_imp_iff, and_self, List.toList_toArray, Option.some.injEq, Prod.mk.injEq, kd_nil, kd_l, kdL_some, kdV_some, kd_r, kdRO_some, kdR_nil, sealD_plain, preSeal_nil, preSeal_move, preSeal_other, exL_move, exL_gen, exL_load, exLd_ob, outV_some, ownOp_tmp, lo_indexAddr, Op.operands, Call.operands, exc0_e, shr0_e, preCv, List.foldl_nil, gc_app0, gc_hd, hset0, adOf_ptr, putAt_eq', cellsOf_e, notTup_e, store1, Bool.or_self, Nat.zero_add, sz5, ag5, kx_region (hcv _), hcv, kd_h, kdHO_some, kdK_op, kdE_val0, calmAt_eq, again_nil, again_cons, excD_e, List.all_cons, List.all_nil, Bool.and_self, plan81_3, ix_asl (show i < l.length by omega), ix_asl (show j < l.length by omega), bD_len, hcl, bD_get hxi, bD_get hxj, excD_asl, show Nat.testBit 8179 11 = true by decide, show Nat.testBit 8179 7 = true by decide, show Nat.testBit 32767 11 = true by decide, show Nat.testBit 32767 7 = true by decide, inc64 (show i < l.length by omega) (by omega), hwj, show i + 1 ≤ l.length by omega, show j + 1 ≤ l.length by omega, bD_put (show i < cur.length by omega), bD_set_len, bD_put (show j < (cur.set i y).length by simp; omega), show i ≠ j by omega, bD_get (show (cur.set i y)[j]? = some y by rw [List.getElem?_set_ne (by omega)]; exact hxj)]
  refine IH_o (l.length - (i + 1)) _ (by omega) ⟨i + 1, j - 1, (cur.set i y).set j x, ⟨by omega, by omega, by simp [hcl], fun k hk => ?_⟩, inv_intro rfl rfl rfl rfl⟩
  by_cases hkj : k = j
  · subst hkj
    rw [List.getElem?_set_self (by simp; omega), if_pos (.inr (by omega))]
    have := hc i (by omega)
    rw [hxi, if_neg (by omega)] at this
    rw [this]; congr 1; omega
  · rw [List.getElem?_set_ne (by omega)]
    by_cases hki : k = i
    · subst hki
      rw [List.getElem?_set_self (by omega), if_pos (.inl (by omega))]
      have := hc j (by omega)
      rw [hxj, if_neg (by omega)] at this
      rw [this]; congr 1; omega
    · rw [List.getElem?_set_ne (by omega), hc k hk]
      by_cases h1 : k < i ∨ l.length - i ≤ k
      · rw [if_pos h1, if_pos (by omega)]
      · rw [if_neg h1, if_neg (by omega)]

end Go.Abs

namespace Go.Abs
open Go Go.Proofs
set_option maxRecDepth 10000
set_option maxHeartbeats 4000000

theorem w80 (n : Int) (h : List O) : wc 80 [.int .i64 n] h = some (.val (.func (.func 90) [] [.ptr h.length 0]), h ++ [.cells [.int .i64 n]]) := by
  have hcv : ∀ i, wcv 80 i = [] := fun _ => rfl
  have hres : Try.f80.results.toList = [ResultVar.tmp 2] := rfl
  rw [wc, call_fn rfl Try.func80 rfl]
  simp only [enterT, List.length_cons, List.length_nil, Nat.reduceSub, List.replicate, List.cons_append, List.nil_append, kx_seq, kx_ret, kSeq_nrm, ko_nil, ko_op, kR_val, ne_eq, reduceCtorEq, not_false_eq_true, implies_true, Option.map_some, List.set_cons_succ, List.set_cons_zero, List.getD_cons_succ, List.getD_cons_zero, own_e, own_ptr, own_func, ↓reduceIte, exO_assign, exO_box, exO_makeFunc, tk_plain, sh_plain, tk_const, shs_nil, shs_cons, ofV_nilfn, kF_ret, leave_eq, resD_nil, resD_tmp, tupD_one, Option.some.injEq, Prod.mk.injEq, true_and, cellsOf_e, notTup_e, Bool.true_and, Nat.zero_add, kx_region (hcv _), Try.ntmps80, hres]
  rw [gc_not]
  simp [fit_func, fit_ptr]

/-- A number's bytes, the lowest first. -/
def digs (n : Nat) : List UInt8 := if h : 0 < n then UInt8.ofNat n :: digs (n / 256) else []
  termination_by n
  decreasing_by omega

theorem shr8n (n : Nat) : (n : Int).fdiv (2 ^ min 8 64) = ((n / 256 : Nat) : Int) := by
  rw [show (2 : Int) ^ min 8 64 = 256 by decide, Int.fdiv_eq_ediv_of_nonneg _ (by decide)]; rfl
theorem w90 {σ : Type} (K : σ → Nat → Prop) (H : σ → Nat → List O) (L p1 : Nat) (f : σ → UInt8 → σ) (n0 : Nat) (hn0 : n0 ≤ 1099511627776)
    (hc1 : ∀ s n, getCells (H s n) p1 = some [.int .i64 (n : Int)]) (hset : ∀ s n m, (H s n).set p1 (.cells [.int .i64 ((m : Nat) : Int)]) = H s m)
    (hK : ∀ s n, 0 < n → K s n → K (f s (UInt8.ofNat n)) (n / 256)) (hr : ∀ s n b, 0 < n → K s n → call Try.prog wpr wcv (.round L) [.int .u8 (UInt8.toNat b : Int)] (H s n) = some (.val (.bool true), H (f s b) n)) (hgc : ∀ s n s' n' d, gc (H s n).length (H s n) (H s' n') d = H s' n') (s0 : σ) (hk0 : K s0 n0) :
    wc 90 [.func (.yield L) [] [], .ptr p1 0] (H s0 n0) = some (.val undefD, H ((digs n0).foldl f s0) 0) := by
  have hcv : ∀ i, wcv 90 i = [] := fun _ => rfl
  have hres : Try.f90.results.toList = [] := rfl
  rw [wc, call_fn rfl Try.func90 rfl]
  simp only [enterT, List.length_cons, List.length_nil, Nat.reduceAdd, Nat.reduceSub, List.replicate, List.cons_append, List.nil_append, kx_block, Nat.zero_add, Try.ntmps90]
  refine kx_loop_ind (fun (n : Nat) (s : St) => ∃ (q : σ) (m : Nat), (m < n ∧ m ≤ n0 ∧ K q m ∧ (digs m).foldl f q = (digs n0).foldl f s0) ∧ ∃ zs_, s = ⟨mkT [some (.func (.yield L) [] []), some (.ptr p1 0), none, none, none, none, none, none, none, none, none, none] zs_ 0, [], .no, H q m⟩) ?_ (n0 + 1) ⟨s0, n0, ⟨by omega, by omega, hk0, rfl⟩, inv_intro rfl rfl rfl rfl⟩
  rintro n _ ⟨q, m, hf_o, zs_o, rfl⟩ IH_o
  obtain ⟨h1, h2, hk, ht⟩ := hf_o
  by_cases hm : 0 < m
  rotate_left
  · have e2 : decide (0 < (m : Int)) = false := by simp; omega
    have hz : m = 0 := by omega
    subst hz
    have hq : (digs n0).foldl f s0 = q := by rw [← ht, digs]; rfl
    simp only [List.length_cons, List.length_nil, Nat.reduceAdd, kx_seq, kx_exit, kx_cond_tmp, kCond_false, kSeq_nrm, kSeq_ext, kBlk_ext, kLoop_ext, ko_nil, ko_op, kR_val, List.getElem?_cons_zero, Option.bind_some, ne_eq, reduceCtorEq, not_false_eq_true, implies_true, Bool.false_eq_true, Option.map_some, List.set_cons_succ, List.set_cons_zero, List.getD_cons_succ, List.getD_cons_zero, own0_e, ↓reduceIte, exO_binOp, rd_tmp, rd_const, ofV_int, binD_gtr, arith_gtr, kF_nrm, leave_eq, resD_nil, tupD_nil, mkT, adOf_ptr, load1, exO_load, Nat.zero_add, Nat.le_refl, sz3, ag3, kx_region (hcv _), hres, e2, hc1, hq, hgc]
  have e2 : decide (0 < (m : Int)) = true := by simp; omega
  simp only [List.length_cons, List.length_nil, Nat.reduceAdd, List.nil_append, kx_seq, kx_skip, kx_block, kx_cond_tmp, kCond_true, kCond_false, kSeq_nrm, kBlk_nrm, kLoop_nrm, ko_nil, ko_op, kR_val, kR_val0, kC_val, List.getElem?_cons_zero, Option.bind_some, Nat.reduceLT, ne_eq, reduceCtorEq, not_false_eq_true, implies_true, Bool.not_true, Bool.false_eq_true, Option.map_some, List.set_cons_succ, List.set_cons_zero, List.getD_cons_succ, List.getD_cons_zero, own_e, own_func, own0_e, ↓reduceIte, exO_move_tmp, exO_binOp, exO_unOp, exO_convert, exO_store, tk_plain, sh_plain, rd_tmp, rd_const, tks_nil, tks_cons, ofV_int, binD_gtr, binD_shr, shiftD_shr, Int.reduceLT, Int.reduceToNat, IntKind.bits, arith_gtr, unD_not, and_self, mkT, List.append_nil, adOf_ptr, putAt_eq', cellsOf_e, notTup_e, load1, store1, List.take_zero, List.drop_succ_cons, List.drop_zero, exO_load, Nat.zero_add, Nat.le_refl, Try.underlying5, sz3, ag3, kx_region (hcv _), e2, hc1, convD_int Try.underlying3 Try.underlying5, u8_nat, ko_val, kY_yield, hr q m _ hm hk, hset, shr8n]
  refine IH_o (m) _ (by omega) ⟨f q (UInt8.ofNat m), m / 256, ⟨by omega, by omega, hK q m hm hk, ?_⟩, inv_intro rfl rfl rfl rfl⟩
  rw [← ht, digs.eq_def m, dif_pos hm, List.foldl_cons]

end Go.Abs

namespace Go.Abs
open Go Go.Proofs
set_option maxRecDepth 10000
set_option maxHeartbeats 4000000

/-- Bytes that grow. -/
def slD (l : List UInt8) : D := match l with
  | [] => .osl false true 0 []
  | b :: l => .osl true false 1 (byE (b :: l))
theorem slD_fit {n : Nat} {l : List UInt8} : Fit n (slD l) := by cases l <;> exact .osl _ _ _ _
theorem app31n {xs : List (List E)} {a : D} (ha : slOf a = some xs) (hok : okRows 1 xs = true) (hl : xs.length ≤ 1073741824) : appendD Try.prog 31 (.osl false true 0 []) a false = some (.osl true false 1 xs) := by
  unfold appendD
  rw [el31]
  simp only [sz5, by5, zeroCellsOf, zo5]
  cases a with
  | e v =>
    cases v with
    | str => simp [slOf] at ha
    | _ => simp_all [notTup, cellsOf]
  | osl => simp_all [notTup, cellsOf]
  | _ => simp [slOf] at ha
theorem len31 {ex fu : Bool} {sz : Nat} {es : List (List E)} {h : List O} : len0 Try.prog 31 (.osl ex fu sz es) h = some es.length := len0_of Try.underlying31 slOf_osl
theorem len31h {n : Nat} {h : List O} : len0 Try.prog 31 (.hdr n) h = some n := len0_hdr Try.underlying31
theorem len31e {es : List (List E)} {h : List O} : len0 Try.prog 31 (.e (.sl es)) h = some es.length := len0_of Try.underlying31 slOf_e
theorem ok_row1 {b : Int} : okRows 1 [[E.int .u8 b]] = true := rfl
theorem app_row0 {b : Int} : appendD Try.prog 31 (.osl false true 0 []) (.osl false true 1 [[E.int .u8 b]]) false = some (.osl true false 1 [[E.int .u8 b]]) := app31n slOf_osl ok_row1 (by simp)
theorem app_row {ex fu : Bool} {xs : List UInt8} {b : UInt8} (hl : xs.length ≤ 1000000) (hne : xs ≠ []) : appendD Try.prog 31 (.osl ex fu 1 (byE xs)) (.osl false true 1 [[E.int .u8 (b.toNat : Int)]]) false = some (.osl ex false 1 (byE (xs ++ [b]))) := by
  rw [app31b (by cases xs <;> simp_all [byE]) slOf_osl ok_row1 (by simp [byE_len]; omega)]
  simp [byE, byR]
theorem row1 (b : UInt8) : [[E.int .u8 (b.toNat : Int)]] = byE [b] := rfl

theorem w90b (H : List O) (L p1 i0 : Nat) (q0 : List UInt8) (n0 : Nat) (hn0 : n0 ≤ 1099511627776) (h0 : H[i0]? = some (.cells [slD q0])) (h1 : H[p1]? = some (.cells [.int .i64 (n0 : Int)])) (hi : i0 ≠ p1)
    (hk0 : q0.length + (digs n0).length ≤ 1000) (hr : ∀ (q : List UInt8) (n : Nat) b, q.length ≤ 1000 → call Try.prog wpr wcv (.round L) [.int .u8 (UInt8.toNat b : Int)] ((H.set i0 (.cells [slD q])).set p1 (.cells [.int .i64 (n : Int)])) = some (.val (.bool true), (H.set i0 (.cells [slD (q ++ [b])])).set p1 (.cells [.int .i64 (n : Int)]))) :
    call Try.prog wpr wcv (.fn 90) [.func (.yield L) [] [], .ptr p1 0] H = some (.val undefD, (H.set i0 (.cells [slD ((digs n0).foldl (fun q b => q ++ [b]) q0)])).set p1 (.cells [.int .i64 0])) := by
  have hlt := (List.getElem?_eq_some_iff.1 h1).1
  have := w90 (fun (q : List UInt8) (n : Nat) => q.length + (digs n).length ≤ 1000) (fun (q : List UInt8) (n : Nat) => (H.set i0 (.cells [slD q])).set p1 (.cells [.int .i64 (n : Int)])) L p1 (fun q b => q ++ [b]) n0 hn0
    (fun s n => by simp [getCells, hlt]) (fun s n m => by rw [List.set_set]) (fun s n hn hk => by rw [digs.eq_def n, dif_pos hn] at hk; simp at hk ⊢; omega) (fun s n b _ hk => hr s n b (by omega)) (fun s n s' n' d => gc_len (by simp)) q0 hk0
  rw [set_self' h0, set_self' h1] at this
  exact this

/-- A number's bytes. -/
def putL (n : Nat) : List UInt8 := (digs n ++ [UInt8.ofNat (digs n).length]).reverse
theorem fold_app (xs q : List UInt8) : xs.foldl (fun q b => q ++ [b]) q = q ++ xs := by
  induction xs generalizing q with
  | nil => simp
  | cons x xs ih => rw [List.foldl_cons, ih]; simp
theorem digs_len (n : Nat) (hn : n ≤ 1099511627776) : (digs n).length ≤ 6 := by
  have : ∀ k m : Nat, m < 256 ^ k → (digs m).length ≤ k := by
    intro k
    induction k with
    | zero => intro m hm; have : m = 0 := by simpa using hm
              subst this; rw [digs]; simp
    | succ k ih =>
      intro m hm
      rw [digs]
      split
      · have := ih (m / 256) (by rw [Nat.pow_succ] at hm; omega)
        simp; omega
      · simp
  exact this 6 n (by omega)

theorem flat_byE (l : List UInt8) : (byE l).flatten.map D.e = bD l := by
  induction l with
  | nil => rfl
  | cons b l ih => simp only [byE, bD, List.map_cons, List.flatten_cons, List.map_append] at ih ⊢; rw [ih]; rfl
theorem cv_opnC {tl : List D} {df : List (FuncId × List D)} {r : Rc} {h ex : List O} {t : Tmp} {l : List UInt8} {fu : Bool} (hl : l ≠ []) (hp : tl.getD t undefD = .ptr h.length 0) :
    cv1 ⟨tl, df, r, h ++ .cells [.osl true fu 1 (byE l)] :: ex⟩ (.opnC t) = ⟨tl, df, r, h ++ .cells [.asl (h.length + (ex.length + 1)) 0 l.length] :: (ex ++ [.cells (bD l)])⟩ := by
  obtain ⟨b, l', rfl⟩ := List.exists_cons_of_ne_nil hl
  have e1 : openD (h.length + (ex.length + 1)) (.osl true fu 1 (byE (b :: l'))) = some (.asl (h.length + (ex.length + 1)) 0 (b :: l').length, .cells (bD (b :: l'))) := by
    rw [← flat_byE]
    simp [openD, byE]
  simp only [cv1, hp, gc_app0, gc_hd, List.getElem?_cons_zero, List.length_append, List.length_cons, e1]
  simp [putAt]
theorem rows1 : ∀ (xs : List E), rows 1 xs.length xs = xs.map fun x => [x]
  | [] => rfl
  | x :: xs => by simp only [List.length_cons, rows, List.map_cons]; rw [show (x :: xs).drop 1 = xs by rfl, rows1 xs]; rfl
theorem plain_bD (l : List UInt8) : plainEs (bD l) = some (l.map fun b => .int .u8 (b.toNat : Int)) := by
  induction l with
  | nil => rfl
  | cons b l ih => simp only [bD, List.map_cons, plainEs] at ih ⊢; rw [ih]; rfl
theorem shutD_bD {h : List O} {i : Nat} {l : List UInt8} (hg : getCells h i = some (bD l)) (hl : l ≠ []) : shutD h i l.length = some (.e (.sl (byE l))) := by
  have hp : 0 < l.length := List.length_pos_iff.2 hl
  have hd : l.length / l.length = 1 := Nat.div_self hp
  unfold shutD
  rw [hg]
  simp only [plain_bD, List.length_map, hd]
  rw [if_pos ⟨hp, by omega, by omega⟩]
  have := rows1 (l.map fun b => E.int .u8 (b.toNat : Int))
  rw [List.length_map] at this
  rw [this, List.map_map]; rfl
theorem cv_shutC {tl : List D} {df : List (FuncId × List D)} {r : Rc} {h : List O} {c1 : O} {t : Tmp} {l : List UInt8} {n : Nat} (hl : l ≠ []) (hn : n = l.length) (hp : tl.getD t undefD = .ptr h.length 0) :
    cv1 ⟨tl, df, r, h ++ [.cells [.asl (h.length + 2) 0 n], c1, .cells (bD l)]⟩ (.shutC t) = ⟨tl, df, r, h ++ [.cells [.e (.sl (byE l))], c1, .dead]⟩ := by
  subst hn
  have hg : getCells (h ++ [.cells [.asl (h.length + 2) 0 l.length], c1, .cells (bD l)]) (h.length + 2) = some (bD l) := by rw [gc_appn]; rfl
  have hne : ¬ (h.length + 2 = h.length) := by omega
  simp only [cv1, hp, gc_app0, gc_hd, List.getElem?_cons_zero, if_neg hne, shutD_bD hg hl]
  simp [putAt]

theorem w47_bad (n : Int) (hn : n < 0 ∨ 1099511627776 < n) (h : List O) : wc 47 [.int .i64 n] h = some (.val (.tup [.osl false true 0 [], .int .i64 2]), h) := by
  have hcv0 : wcv 47 0 = [] := rfl
  have hcv1 : wcv 47 1 = [] := rfl
  have hcv2 : wcv 47 2 = [] := rfl
  have hcv3 : wcv 47 3 = [] := rfl
  have hcv4 : wcv 47 4 = [] := rfl
  have hcv5 : wcv 47 5 = [] := rfl
  have hcv6 : wcv 47 6 = [] := rfl
  have hcv7 : wcv 47 7 = [] := rfl
  have hcv8 : wcv 47 8 = [.opnC 4] := rfl
  have hcv9 : wcv 47 9 = [.shutC 4] := rfl
  have hres : Try.f47.results.toList = [ResultVar.tmp 2, ResultVar.tmp 3] := rfl
  rw [wc, call_fn rfl Try.func47 rfl]
  by_cases h1 : n < 0
  · simp only [enterT, List.length_cons, List.length_nil, Nat.reduceAdd, Nat.reduceSub, List.replicate, List.cons_append, List.nil_append, kx_seq, kx_ret, kx_cond_tmp, kCond_true, kSeq_nrm, kSeq_ret, ko_nil, ko_op, ko_guard, kR_val, kG_no, St.put, List.getElem?_toArray, List.getElem?_cons_succ, List.getElem?_cons_zero, Option.bind_some, Nat.reduceLT, ne_eq, reduceCtorEq, not_false_eq_true, implies_true, Bool.not_false, Option.map_some, List.set_cons_succ, List.set_cons_zero, List.getD_cons_succ, List.getD_cons_zero, own_e, own_osl, ↓reduceIte, exO_move_tmp, exO_assign, exO_binOp, exO_pick, tk_plain, tk_const, sh_const, rd_tmp, rd_const, ofV_int, ofV_bool, ofV_nilsl, binD_lss, Int.reduceLT, arith_lss, kF_ret, leave_eq, resD_nil, resD_tmp, tupD_two, gc_same, fit_e, fit_osl, fit_tup, List.forall_mem_cons, List.not_mem_nil, false_imp_iff, and_self, Option.some.injEq, Prod.mk.injEq, preCv, List.foldl_nil, Nat.zero_add, kx_region_cv, hcv0, hcv1, hcv2, Try.ntmps47, hres, h1, decide_true]
  · have h2 : 1099511627776 < n := by omega
    simp only [enterT, List.length_cons, List.length_nil, Nat.reduceAdd, Nat.reduceSub, List.replicate, List.cons_append, List.nil_append, kx_seq, kx_ret, kx_cond_tmp, kCond_true, kSeq_nrm, kSeq_ret, ko_nil, ko_op, ko_guard, kR_val, kG_yes, List.getElem?_toArray, List.getElem?_cons_succ, List.getElem?_cons_zero, Option.bind_some, Nat.reduceLT, ne_eq, reduceCtorEq, not_false_eq_true, implies_true, Bool.false_eq_true, Option.map_some, List.set_cons_succ, List.set_cons_zero, List.getD_cons_succ, List.getD_cons_zero, own_e, own_osl, ↓reduceIte, exO_move_tmp, exO_assign, exO_binOp, exO_pick, tk_plain, sh_plain, tk_const, rd_tmp, rd_const, ofV_int, ofV_nilsl, binD_lss, binD_gtr, Int.reduceLT, arith_lss, arith_gtr, kF_ret, leave_eq, resD_nil, resD_tmp, tupD_two, gc_same, fit_e, fit_osl, fit_tup, List.forall_mem_cons, List.not_mem_nil, false_imp_iff, and_self, Option.some.injEq, Prod.mk.injEq, preCv, List.foldl_nil, Nat.zero_add, kx_region_cv, hcv0, hcv1, hcv2, Try.ntmps47, hres, h1, h2, decide_true, decide_false]
theorem w47 (n : Nat) (hn : n ≤ 1099511627776) (h : List O) : wc 47 [.int .i64 (n : Int)] h = some (.val (.tup [.e (.sl (byE (putL n))), .int .i64 0]), h) := by
  have h80 := w80 (n : Int)
  have e1 : decide ((n : Int) < 0) = false := by simp
  have e2 : decide (1099511627776 < (n : Int)) = false := by simp; omega
  have hcv0 : wcv 47 0 = [] := rfl
  have hcv1 : wcv 47 1 = [] := rfl
  have hcv2 : wcv 47 2 = [] := rfl
  have hcv3 : wcv 47 3 = [] := rfl
  have hcv4 : wcv 47 4 = [] := rfl
  have hcv5 : wcv 47 5 = [] := rfl
  have hcv6 : wcv 47 6 = [] := rfl
  have hcv7 : wcv 47 7 = [] := rfl
  have hcv8 : wcv 47 8 = [.opnC 4] := rfl
  have hcv9 : wcv 47 9 = [.shutC 4] := rfl
  have hres : Try.f47.results.toList = [ResultVar.tmp 2, ResultVar.tmp 3] := rfl
  rw [wc, call_fn rfl Try.func47 rfl]
  simp only [enterT, List.length_cons, List.length_nil, Nat.reduceAdd, Nat.reduceSub, List.replicate, List.cons_append, List.nil_append, kx_seq, kx_skip, kx_block, kx_cond_tmp, kCond_false, kSeq_nrm, ko_nil, ko_op, ko_func, kT_some, ko_guard, kR_val, kC_val, kG_yes, List.getElem?_toArray, List.getElem?_cons_succ, List.getElem?_cons_zero, Option.bind_some, Nat.reduceLT, ne_eq, reduceCtorEq, not_false_eq_true, implies_true, Bool.false_eq_true, Option.map_some, List.set_cons_succ, List.set_cons_zero, List.getD_cons_succ, List.getD_cons_zero, own_e, ↓reduceIte, exO_move_tmp, exO_assign, exO_binOp, exO_pick, exO_alloc, tk_plain, sh_plain, tk_const, rd_tmp, rd_const, tks_nil, tks_cons, ofV_int, ofV_nilsl, binD_lss, binD_gtr, Int.reduceLT, arith_lss, arith_gtr, Option.some.injEq, Prod.mk.injEq, preCv, List.foldl_nil, hlen, hpush, cellsOf_osl, notTup_osl, Nat.zero_add, kx_region_cv, hcv0, hcv1, hcv3, hcv4, Try.ntmps47, e1, e2, zo31, h80]
  rw [kx_range rfl rfl rfl]
  simp only [List.length_cons, List.length_nil, Nat.reduceAdd, List.cons_append, List.nil_append, hlen, List.map_cons, List.map_nil, Nat.zero_add, List.append_assoc, shrT_undef, shrT_e, shrT_ptr, shrT_func, shrT_rd Rd.osl]
  have hdl := digs_len n hn
  refine kRng_of (P := Try.prog) (pr := wpr) (cv := wcv) (w90b _ _ _ h.length [] n hn (by simp [slD]) (by simp) (by omega) (by simp; omega) ?_) ?_
  · intro q m b hq
    rw [hset0, hsetn]
    simp only [List.set_cons_succ, List.set_cons_zero, hset0, hsetn]
    refine (call_round (hgetn.trans rfl) rfl).trans ?_
    simp only [ko_nil, ko_op, kR_val, ne_eq, reduceCtorEq, not_false_eq_true, implies_true, Option.map_some, List.set_cons_succ, List.set_cons_zero, List.getD_cons_succ, List.getD_cons_zero, own_e, exO_assign, tk_plain, preCv, List.foldl_nil, kx_region_cv, List.foldl_cons, hcv5, List.zip_cons_cons, List.zip_nil_right]
    rw [kBody_nrm (hgetn.trans rfl)]
    cases q with
    | nil =>
      simp only [List.length_cons, List.length_nil, List.nil_append, kx_block, kBlk_nrm, ko_nil, ko_op, ko_builtin, kR_val, kR_val0, List.getElem?_toArray, List.getElem?_cons_succ, List.getElem?_cons_zero, Option.bind_some, ne_eq, reduceCtorEq, not_false_eq_true, implies_true, Bool.false_eq_true, Option.map_some, List.set_cons_succ, List.set_cons_zero, List.getD_cons_succ, List.getD_cons_zero, own_e, own_osl, List.any_cons, List.any_nil, own0_osl, Bool.or_false, ↓reduceIte, exO_buildSlice, exO_store, tk_plain, sh_plain, rd_tmp, shs_nil, shs_cons, exB_append, and_self, preCv, List.foldl_nil, List.append_nil, gc_app0, gc_hd, hset0, hsetn, adOf_ptr, putAt_eq', cellsOf_osl, notTup_osl, load1, store1, List.take_zero, List.drop_succ_cons, List.drop_zero, List.map_cons, List.map_nil, exO_load, Bool.or_self, Bool.or_true, Nat.zero_add, Nat.le_refl, Try.underlying31, sz31, ag31, kx_region_cv, hcv6, slD, bs31_1, app_row0, List.zip_cons_cons, List.zip_nil_right, back, exO_mv, taken, consumes, isTmp, beq_self_eq_true, Nat.reduceBEq, tk_tmp, tkV_own, sh_tmp, shV_osl, ownD_ex, ownD_nf, leftT_ex, shr_fu, kep_osl]
      rw [rout_nrm (hgetn.trans rfl)]
      simp only [List.set_cons_succ, List.set_cons_zero, hsetn, row1]
    | cons x q =>
      have hap := app_row (ex := true) (fu := false) (xs := x :: q) (b := b) (by simp at hq ⊢; omega) (by simp)
      simp only [List.length_cons, List.length_nil, List.cons_append, List.nil_append, kx_block, kBlk_nrm, ko_nil, ko_op, ko_builtin, kR_val, kR_val0, List.getElem?_toArray, List.getElem?_cons_succ, List.getElem?_cons_zero, Option.bind_some, ne_eq, reduceCtorEq, not_false_eq_true, implies_true, Bool.false_eq_true, Option.map_some, List.set_cons_succ, List.set_cons_zero, List.getD_cons_succ, List.getD_cons_zero, own_e, List.any_cons, List.any_nil, Bool.or_false, ↓reduceIte, exO_buildSlice, exO_store, sh_plain, rd_tmp, shs_nil, shs_cons, exB_append, and_self, preCv, List.foldl_nil, List.append_nil, gc_app0, gc_hd, hset0, hsetn, adOf_ptr, putAt_eq', cellsOf_osl, notTup_osl, load1, store1, List.take_zero, List.drop_succ_cons, List.drop_zero, List.map_cons, List.map_nil, exO_load, Bool.or_self, Bool.or_true, Nat.zero_add, Nat.le_refl, Try.underlying31, sz31, ag31, kx_region_cv, hcv6, slD, bs31_1, hap, List.zip_cons_cons, List.zip_nil_right, back, exO_mv, taken, consumes, isTmp, beq_self_eq_true, Nat.reduceBEq, tk_tmp, tkV_own, sh_tmp, shV_osl, ownD_ex, ownD_nf, own0_nf, leftT_ex, left0_ex, shr_fu, kep_osl]
      rw [rout_nrm (hgetn.trans rfl)]
      simp only [List.set_cons_succ, List.set_cons_zero, hsetn]
  · rw [hset0, hsetn, fold_app, List.nil_append]
    simp only [List.set_cons_succ, List.set_cons_zero]
    rw [kRng_nrm' (n := h.length + 2) (by simp) (hgetn.trans rfl) (by simp)]
    simp only [kx_seq, kSeq_nrm, kBlk_nrm, ko_op, Option.bind_some, ne_eq, reduceCtorEq, not_false_eq_true, implies_true, List.set_cons_succ, List.set_cons_zero, List.getD_cons_succ, List.getD_cons_zero, rd_tmp, preCv, List.foldl_nil, hsetn, List.map_cons, List.map_nil, exO_load, kx_region_cv, hcv7]
    rw [gc_tail (n := h.length + 2) (h := h) (l := [_, _]) rfl (.tup [] (by simp)) ?_]
    rotate_left
    · exact ⟨.inr (.cells _ (by simp [slD_fit])), .inr (.cells _ (by simp [fit_e])), trivial⟩
    simp only [List.length_cons, List.length_nil, Nat.reduceAdd, List.nil_append, List.getElem?_cons_zero, ↓reduceIte, List.append_nil, gc_app0, gc_hd, hset0, adOf_ptr, putAt_eq', load1, List.take_succ_cons, List.take_zero, List.drop_succ_cons, List.drop_zero, Nat.zero_add, Nat.le_refl, sz31, ag31, kep_undef, kep_e, kep_ptr, kep_func, kep_rd Rd.osl]
    have hlen : (digs n ++ [UInt8.ofNat (digs n).length]).length ≤ 7 := by simp; omega
    have hne : digs n ++ [UInt8.ofNat (digs n).length] ≠ [] := by simp
    have h81 := w81 (h ++ [.cells [.asl (h.length + 2) 0 (digs n ++ [UInt8.ofNat (digs n).length]).length], .cells [.int .i64 0]]) [] (digs n ++ [UInt8.ofNat (digs n).length]) (by simp) (by omega)
    have hap : ∀ x q, digs n = x :: q → appendD Try.prog 31 (.osl true false 1 (byE (digs n))) (.osl false true 1 [[E.int .u8 ((UInt8.ofNat (digs n).length).toNat : Int)]]) false = some (.osl true false 1 (byE (digs n ++ [UInt8.ofNat (digs n).length]))) := fun x q e => app_row (by omega) (by rw [e]; simp)
    have hap0 : digs n = [] → appendD Try.prog 31 (.osl false true 0 []) (.osl false true 1 [[E.int .u8 ((UInt8.ofNat (digs n).length).toNat : Int)]]) false = some (.osl true false 1 (byE (digs n ++ [UInt8.ofNat (digs n).length]))) := fun e => by rw [app_row0, e]; rfl
    have hput : putL n = (digs n ++ [UInt8.ofNat (digs n).length]).reverse := rfl
    have hreg : ∀ fu : Bool, True := fun _ => trivial
    generalize hds : digs n ++ [UInt8.ofNat (digs n).length] = ds at *
    simp only [List.append_assoc, List.length_append, List.length_cons, List.length_nil, List.cons_append, List.nil_append, Nat.zero_add, Nat.reduceAdd] at h81
    have own0_asl : ∀ i o n, own0 (.asl i o n) = false := fun _ _ _ => rfl
    cases hd : digs n with
    | nil =>
      have hap0 := hap0 hd
      rw [hd] at hap0
      simp only [List.length_nil] at hap0
      simp only [List.length_cons, List.length_nil, List.nil_append, kx_seq, kSeq_nrm, ko_nil, ko_op, ko_builtin, kR_val, kR_val0, List.getElem?_toArray, List.getElem?_cons_succ, List.getElem?_cons_zero, Option.bind_some, ne_eq, reduceCtorEq, not_false_eq_true, implies_true, Bool.false_eq_true, Option.map_some, List.set_cons_succ, List.set_cons_zero, List.getD_cons_succ, List.getD_cons_zero, own_e, own_osl, List.any_cons, List.any_nil, own0_osl, Bool.or_false, ↓reduceIte, exO_convert, exO_buildSlice, exO_store, tk_plain, sh_plain, rd_tmp, shs_nil, shs_cons, exB_len, exB_append, and_self, preCv, List.foldl_nil, List.append_nil, gc_app0, gc_hd, hset0, adOf_ptr, putAt_eq', cellsOf_osl, notTup_osl, load1, store1, List.take_zero, List.drop_succ_cons, List.drop_zero, List.map_cons, List.map_nil, Option.bind_eq_bind, exO_load, Bool.or_self, Bool.or_true, Nat.zero_add, Option.pure_def, Nat.le_refl, Try.underlying5, Try.underlying31, sz31, ag31, kx_region_cv, List.foldl_cons, hcv8, slD, len31, byE_len, convD_int Try.underlying3 Try.underlying5, u8_nat, List.zip_cons_cons, List.zip_nil_right, bs31_1, hap0, back, taken, consumes, isTmp, beq_self_eq_true, Nat.reduceBEq, tk_tmp, tkV_own, sh_tmp, shV_osl, ownD_ex, ownD_nf, leftT_ex, shr_fu, kep_osl]
      rw [cv_opnC hne rfl]
      simp only [List.length_cons, List.length_nil, Nat.reduceAdd, List.cons_append, List.nil_append, kx_seq, kSeq_nrm, ko_nil, ko_op, ko_func, kT_some, kR_val, kC_val, List.getElem?_cons_zero, Option.bind_some, ne_eq, reduceCtorEq, not_false_eq_true, implies_true, Bool.false_eq_true, Option.map_some, List.set_cons_succ, List.set_cons_zero, List.getD_cons_succ, List.getD_cons_zero, own_asl, ↓reduceIte, tk_plain, rd_tmp, tks_nil, tks_cons, preCv, List.foldl_nil, gc_app0, gc_hd, adOf_ptr, load1, exO_load, Nat.zero_add, Nat.le_refl, sz31, ag31, kx_region_cv, List.foldl_cons, hcv9, own0_asl, h81]
      rw [cv_shutC (l := ds.reverse) (by simpa using hne) (by simp) rfl]
      simp only [List.length_cons, List.length_nil, kx_ret, kSeq_nrm, ko_nil, ko_op, kR_val, List.getElem?_cons_zero, Option.bind_some, ne_eq, reduceCtorEq, not_false_eq_true, implies_true, Bool.false_eq_true, Option.map_some, List.set_cons_succ, List.set_cons_zero, List.getD_cons_succ, List.getD_cons_zero, own_e, own0_e, ↓reduceIte, exO_assign, tk_plain, tk_const, rd_tmp, ofV_int, kF_ret, leave_eq, resD_nil, resD_tmp, tupD_two, fit_e, fit_tup, List.forall_mem_cons, List.not_mem_nil, false_imp_iff, and_self, gc_app0, gc_hd, adOf_ptr, load1, gc_more, Nat.zero_add, Nat.le_refl, sz31, ag31, hres, hput]
    | cons x q =>
      have hap := hap x q hd
      rw [hd] at hap
      simp only [List.length_cons] at hap
      simp only [List.length_cons, List.length_nil, List.nil_append, kx_seq, kSeq_nrm, ko_nil, ko_op, ko_builtin, kR_val, kR_val0, List.getElem?_toArray, List.getElem?_cons_succ, List.getElem?_cons_zero, Option.bind_some, ne_eq, reduceCtorEq, not_false_eq_true, implies_true, Bool.false_eq_true, Option.map_some, List.set_cons_succ, List.set_cons_zero, List.getD_cons_succ, List.getD_cons_zero, own_e, List.any_cons, List.any_nil, own0_hdr, Bool.or_false, ↓reduceIte, exO_convert, exO_buildSlice, exO_store, sh_plain, rd_tmp, shs_nil, shs_cons, exB_len, exB_append, and_self, preCv, List.foldl_nil, List.append_nil, gc_app0, gc_hd, hset0, adOf_ptr, putAt_eq', cellsOf_osl, notTup_osl, load1, store1, List.take_zero, List.drop_succ_cons, List.drop_zero, List.map_cons, List.map_nil, Option.bind_eq_bind, exO_load, Bool.or_self, Bool.or_true, Nat.zero_add, Option.pure_def, Nat.le_refl, Try.underlying5, Try.underlying31, sz31, ag31, kx_region_cv, List.foldl_cons, hcv8, slD, len31h, byE_len, convD_int Try.underlying3 Try.underlying5, u8_nat, List.zip_cons_cons, List.zip_nil_right, bs31_1, hap, back, taken, consumes, isTmp, beq_self_eq_true, Nat.reduceBEq, tk_tmp, tkV_own, sh_tmp, shV_osl, ownD_ex, ownD_nf, own0_nf, leftT_ex, left0_ex, shr_fu, kep_osl]
      rw [cv_opnC hne rfl]
      simp only [List.length_cons, List.length_nil, Nat.reduceAdd, List.cons_append, List.nil_append, kx_seq, kSeq_nrm, ko_nil, ko_op, ko_func, kT_some, kR_val, kC_val, List.getElem?_cons_zero, Option.bind_some, ne_eq, reduceCtorEq, not_false_eq_true, implies_true, Bool.false_eq_true, Option.map_some, List.set_cons_succ, List.set_cons_zero, List.getD_cons_succ, List.getD_cons_zero, own_asl, ↓reduceIte, tk_plain, rd_tmp, tks_nil, tks_cons, preCv, List.foldl_nil, gc_app0, gc_hd, adOf_ptr, load1, exO_load, Nat.zero_add, Nat.le_refl, sz31, ag31, kx_region_cv, List.foldl_cons, hcv9, own0_asl, h81]
      rw [cv_shutC (l := ds.reverse) (by simpa using hne) (by simp) rfl]
      simp only [List.length_cons, List.length_nil, kx_ret, kSeq_nrm, ko_nil, ko_op, kR_val, List.getElem?_cons_zero, Option.bind_some, ne_eq, reduceCtorEq, not_false_eq_true, implies_true, Bool.false_eq_true, Option.map_some, List.set_cons_succ, List.set_cons_zero, List.getD_cons_succ, List.getD_cons_zero, own_e, own0_e, ↓reduceIte, exO_assign, tk_plain, tk_const, rd_tmp, ofV_int, kF_ret, leave_eq, resD_nil, resD_tmp, tupD_two, fit_e, fit_tup, List.forall_mem_cons, List.not_mem_nil, false_imp_iff, and_self, gc_app0, gc_hd, adOf_ptr, load1, gc_more, Nat.zero_add, Nat.le_refl, sz31, ag31, hres, hput]

end Go.Abs
