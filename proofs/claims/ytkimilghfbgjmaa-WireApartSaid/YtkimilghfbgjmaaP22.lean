/-
  WIRE: num.Text. WIRE: num.List. WIRE: num.Take. WIRE: num.TakeText. WIRE: num.TakeList. WIRE: the writer. WIRE: the writer, texts, lists, truths, pairs. WIRE: the writer, pairs, what kinds have. No condition.
-/
import Derived.Test.YtkimilghfbgjmaaP21

namespace Go.Abs
open Go Go.Proofs
set_option maxRecDepth 10000
set_option maxHeartbeats 4000000

theorem w94 (n : Nat) (hn : n ≤ 1073741824) (h : List O) : wc 94 [.osl false true 0 [], .int .i64 (n : Int)] h = some (.val (.osl true false 1 []), h) := by
  refine call_pr ?_
  simp [wpr]; omega
theorem bs105_2' {a b : List (List E)} {e f : Bool} : buildSliceD Try.prog 105 2 [(0, .osl e f 1 a), (1, .e (.sl b))] = some (.osl true true 1 [[.sl a], [.sl b]]) := by
  simp [buildSliceD, el105, sz31, zeroCellsOf, zo31, replD, fillD, cellsOf, notTup, putAt, chunk, rowsE, toEs, toE]
theorem len105 {ex fu : Bool} {es : List (List E)} {h : List O} : len0 Try.prog 105 (.osl ex fu 1 es) h = some es.length := len0_of Try.underlying105 slOf_osl
theorem ix105_0 {a' : List (List E)} {b : List E} {ex fu : Bool} : indexAddrD Try.prog 105 (.osl ex fu 1 [[.sl a'], b]) (.e (.int .i64 0)) = some (.rptr [.sl a'] 0) := ix_of Try.underlying105 sz31 slOf_osl (by omega) rfl rfl (by omega)
theorem ix105_1 {b : List (List E)} {a : List E} {ex fu : Bool} : indexAddrD Try.prog 105 (.osl ex fu 1 [a, [.sl b]]) (.e (.int .i64 1)) = some (.rptr [.sl b] 0) := ix_of Try.underlying105 sz31 slOf_osl (by omega) rfl rfl (by omega)
/-- Bytes behind own bytes that may be none yet. -/
theorem app31m {es xs : List UInt8} {a : D} (ha : slOf a = some (byE xs)) (hl : es.length + xs.length ≤ 1073741824) : appendD Try.prog 31 (.osl true false 1 (byE es)) a false = some (.osl true false 1 (byE (es ++ xs))) := by
  rw [app31 ha (ok_byE _) (by simpa [byE_len] using hl), byE_app]; rfl

theorem w91 (xs ys : List UInt8) (h : List O) (hx : xs.length ≤ 1000) (hy : ys.length ≤ 1000) : wc 91 [.osl true true 1 [[.sl (byE xs)], [.sl (byE ys)]]] h = some (.val (.osl true false 1 (byE (xs ++ ys))), h) := by
  have w1 : IntKind.i64.wrap (0 + (xs.length : Int)) = (xs.length : Int) := by rw [wrap64 (by omega) (by omega)]; omega
  have w2 : IntKind.i64.wrap ((xs.length : Int) + (ys.length : Int)) = ((xs.length + ys.length : Nat) : Int) := by rw [wrap64 (by omega) (by omega)]; omega
  have c1 : decide ((xs.length : Int) < 0) = false := by simp
  have c2 : decide (((xs.length + ys.length : Nat) : Int) < 0) = false := by simp; omega
  have c3 : IntKind.i64.wrap (0 + 1) = 1 := by decide
  have c4 : IntKind.i64.wrap (1 + 1) = 2 := by decide
  have h94 := w94 (xs.length + ys.length) (by omega)
  have a1 : appendD Try.prog 31 (.osl true false 1 []) (.e (.sl (byE xs))) false = some (.osl true false 1 (byE xs)) := by have := app31m (es := []) (xs := xs) (a := .e (.sl (byE xs))) slOf_e (by simp; omega); simpa [byE] using this
  have a2 : appendD Try.prog 31 (.osl true false 1 (byE xs)) (.e (.sl (byE ys))) false = some (.osl true false 1 (byE (xs ++ ys))) := app31m slOf_e (by omega)
  have n2 : ((2 : Nat) : Int) = 2 := rfl
  have hcv : ∀ i, wcv 91 i = [] := fun _ => rfl
  have hres : Try.f91.results.toList = [ResultVar.tmp 2] := rfl
  rw [wc, call_fn rfl Try.func91 rfl]
  simp only [enterT, List.length_cons, List.length_nil, Nat.reduceAdd, Nat.reduceSub, List.replicate, List.cons_append, List.nil_append, kx_seq, kx_skip, kx_ret, kx_exit, kx_block, kx_cond_tmp, kCond_true, kCond_false, kSeq_nrm, kSeq_ext, kBlk_nrm, kBlk_ext, kLoop_nrm, kLoop_ext, ko_nil, ko_op, ko_builtin, ko_func, kT_some, kR_val, kC_val, List.getElem?_toArray, List.getElem?_cons_succ, List.getElem?_cons_zero, Option.bind_some, Nat.reduceLT, ne_eq, reduceCtorEq, not_false_eq_true, implies_true, Bool.false_eq_true, Option.map_some, List.set_cons_succ, List.set_cons_zero, List.getD_cons_succ, List.getD_cons_zero, own_e, own_osl, List.any_cons, List.any_nil, Bool.or_false, ↓reduceIte, exO_assign, exO_binOp, exO_indexAddr, tk_plain, sh_plain, tk_const, sh_const, rd_tmp, rd_const, tks_nil, tks_cons, ofV_int, ofV_nilsl, binD_add, binD_lss, Int.reduceLT, arith_add, arith_lss, exB_len, exB_append, kF_ret, leave_eq, resD_nil, resD_tmp, tupD_one, gc_same, fit_osl, adOf_rptr, load0, Option.bind_eq_bind, exO_load, Bool.or_self, Bool.or_true, Nat.zero_add, Option.pure_def, Nat.le_refl, Try.underlying31, sz31, ag31, kx_region (hcv _), Try.ntmps91, hres, back, exO_mv, taken, consumes, isTmp, beq_self_eq_true, Nat.reduceBEq, tk_tmp, tkV_own, sh_tmp, shV_osl, ownD_ex, ownD_nf, leftT_ex, shr_fu, kep_osl, len105, kx_loop, decide_true, decide_false, ix105_0, ix105_1, len31e, byE_len, w1, w2, c1, c2, c3, c4, h94, a1, a2, n2]

/-- A string's bytes. -/
def sL (s : ByteArray) : List UInt8 := s.data.toList
theorem sL_len {s : ByteArray} : (sL s).length = s.size := rfl
theorem strE_sL (s : ByteArray) : strE s = byE (sL s) := by
  rw [strE, ByteArray.toList_eq]; rfl
theorem conv_bytes {s : ByteArray} (h : s.size ≤ 4294967296) : convD Try.prog 9 31 (.e (.str s)) = some (.osl true false 1 (byE (sL s))) := by
  simp [convD, Try.underlying9, Try.underlying31, Try.underlying5, h, strE_sL]
def textL (s : ByteArray) : List UInt8 := UInt8.ofNat s.size :: sL s

theorem w82 (s : ByteArray) (hs : s.size < 256) (h : List O) : wc 82 [.str s] h = some (.val (.tup [.osl true false 1 (byE (textL s)), .int .i64 0]), h) := by
  have e1 : decide (256 ≤ (s.size : Int)) = false := by simp; omega
  have h91 := w91 [UInt8.ofNat s.size] (sL s) h (by simp) (by rw [sL_len]; omega)
  have hcv : ∀ i, wcv 82 i = [] := fun _ => rfl
  have hres : Try.f82.results.toList = [ResultVar.tmp 2, ResultVar.tmp 3] := rfl
  rw [wc, call_fn rfl Try.func82 rfl]
  simp only [enterT, List.length_cons, List.length_nil, Nat.reduceAdd, Nat.reduceSub, List.replicate, List.cons_append, List.nil_append, kx_seq, kx_skip, kx_ret, kx_cond_tmp, kCond_false, kSeq_nrm, ko_nil, ko_op, ko_builtin, ko_func, kT_some, kR_val, kC_val, List.getElem?_toArray, List.getElem?_cons_zero, Option.bind_some, ne_eq, reduceCtorEq, not_false_eq_true, implies_true, Bool.false_eq_true, Option.map_some, List.set_cons_succ, List.set_cons_zero, List.getD_cons_succ, List.getD_cons_zero, own_e, List.any_cons, List.any_nil, ↓reduceIte, exO_assign, exO_binOp, exO_convert, exO_buildSlice, tk_plain, sh_plain, tk_const, rd_tmp, rd_const, tks_nil, tks_cons, shs_nil, shs_cons, ofV_int, ofV_nilsl, binD_geq, arith_geq, exB_len, kF_ret, leave_eq, resD_nil, resD_tmp, tupD_two, gc_same, fit_e, fit_osl, fit_tup, List.forall_mem_cons, List.not_mem_nil, false_imp_iff, and_true, and_self, Option.some.injEq, Prod.mk.injEq, List.map_cons, List.map_nil, Option.bind_eq_bind, Bool.or_self, Bool.and_true, Nat.zero_add, len0_str, Option.pure_def, Try.underlying5, Try.underlying9, kx_region (hcv _), Try.ntmps82, hres, e1, convD_int Try.underlying3 Try.underlying5, u8_nat, List.zip_cons_cons, List.zip_nil_right, bs31_1, row1, conv_bytes (show s.size ≤ 4294967296 by omega), exO_mv, taken, consumes, isTmp, Nat.reduceBEq, tk_tmp, tkV_own, sh_tmp, shV_osl, ownD_ex, ownD_nf, leftT_ex, shr_fu, shr_nf, kep_osl, bs105_2', h91]
  rfl

end Go.Abs

namespace Go.Abs
open Go Go.Proofs
set_option maxRecDepth 10000
set_option maxHeartbeats 4000000

theorem app_row0' {b : UInt8} : appendD Try.prog 31 (.osl false true 0 []) (.osl false true 1 (byE [b])) false = some (.osl true false 1 (byE [b])) := app_row0
def okN (x : Int) : Bool := decide (0 ≤ x) && decide (x ≤ 1099511627776)
/-- Numbers' bytes. -/
def numsL (xs : List Int) : List UInt8 := xs.flatMap fun x => putL x.toNat
def listB (xs : List Int) : List UInt8 := UInt8.ofNat xs.length :: numsL xs
theorem putL_len (n : Nat) (hn : n ≤ 1099511627776) : (putL n).length ≤ 7 := by
  have := digs_len n hn
  simp [putL]; omega
theorem numsL_snoc {xs : List Int} {i : Nat} {x : Int} (h : xs[i]? = some x) : numsL (xs.take (i + 1)) = numsL (xs.take i) ++ putL x.toNat := by
  have hi := (List.getElem?_eq_some_iff.1 h).1
  rw [List.take_succ_eq_append_getElem hi, (List.getElem?_eq_some_iff.1 h).2]
  simp [numsL]
theorem numsL_len {xs : List Int} (h : ∀ x ∈ xs, okN x = true) : (numsL xs).length ≤ 7 * xs.length := by
  induction xs with
  | nil => simp [numsL]
  | cons x xs ih =>
    have h1 := ih fun y hy => h y (by simp [hy])
    have h2 := h x (by simp)
    simp only [okN, Bool.and_eq_true, decide_eq_true_eq] at h2
    have h3 := putL_len x.toNat (by omega)
    simp only [numsL, List.flatMap_cons, List.length_append, List.length_cons] at h1 ⊢
    omega

theorem w83 (a : D) (xs : List Int) (ha : Rd a (isE xs)) (hx : xs.length < 256) (h : List O) : wc 83 [a] h = some (.val (if xs.all okN then .tup [.osl true false 1 (byE (listB xs)), .int .i64 0] else .tup [.osl false true 0 [], .int .i64 2]), h) := by
  have la := rd_len ha
  have e1 : decide (256 ≤ (xs.length : Int)) = false := by simp; omega
  have hcv : ∀ i, wcv 83 i = [] := fun _ => rfl
  have hres : Try.f83.results.toList = [ResultVar.tmp 2, ResultVar.tmp 3] := rfl
  rw [wc, call_fn rfl Try.func83 rfl]
  simp only [enterT, List.length_cons, List.length_nil, Nat.reduceSub, List.replicate, List.cons_append, List.nil_append, kx_seq, kx_skip, kx_block, kx_scope, kIn_eq, kx_cond_tmp, kCond_false, kSeq_nrm, ko_nil, ko_op, ko_builtin, kR_val, List.getElem?_toArray, List.getElem?_cons_succ, List.getElem?_cons_zero, Option.bind_some, ne_eq, reduceCtorEq, not_false_eq_true, implies_true, Bool.false_eq_true, Option.map_some, List.set_cons_succ, List.set_cons_zero, List.getD_cons_succ, List.getD_cons_zero, own_e, own_osl, List.any_cons, List.any_nil, Bool.or_false, ↓reduceIte, exO_assign, exO_binOp, exO_convert, exO_buildSlice, tk_plain, sh_plain, tk_const, sh_const, rd_tmp, rd_const, shs_nil, shs_cons, ofV_int, ofV_nilsl, binD_geq, arith_geq, exB_len, exB_append, List.map_cons, List.map_nil, Option.bind_eq_bind, Bool.or_self, Bool.or_true, Nat.zero_add, Option.pure_def, Try.underlying5, Try.underlying31, kx_region (hcv _), Try.ntmps83, ha.ownD, la, e1, convD_int Try.underlying3 Try.underlying5, u8_nat, List.zip_cons_cons, List.zip_nil_right, bs31_1, app_row0', row1, exO_mv, taken, consumes, isTmp, beq_self_eq_true, Nat.reduceBEq, tk_tmp, tkV_own, sh_tmp, shV_osl, ownD_ex, ownD_nf, leftT_ex, shr_fu, kep_osl]
  refine kx_loop_ind (fun (n : Nat) (s : St) => ∃ i : Nat, (i + n = xs.length ∧ ∀ x ∈ xs.take i, okN x = true) ∧ ∃ zs_, s = ⟨mkT [some (a), none, some (.osl true false 1 (byE (UInt8.ofNat xs.length :: numsL (xs.take i)))), none, none, none, none, none, none, none, none, none, none, none, none, none, some (a), some (.int .i64 xs.length), some (.int .i64 i), none, none, none, none, none, none, none, none, none, none, none, none, none, none, none, none] zs_ 0, [], .no, h⟩) ?_ (xs.length) ⟨0, ⟨by omega, by simp⟩, inv_intro rfl rfl rfl rfl⟩
  rintro n _ ⟨i, hf_o, zs_o, rfl⟩ IH_o
  obtain ⟨hn, ht⟩ := hf_o
  by_cases hi : i < xs.length
  rotate_left
  · have e2 : decide ((i : Int) < xs.length) = false := by simp; omega
    have hz : xs.take i = xs := List.take_of_length_le (by omega)
    rw [hz] at ht
    have hall : xs.all okN = true := by simpa using ht
    simp only [Nat.reduceAdd, kx_seq, kx_ret, kx_exit, kx_cond_tmp, kCond_false, kSeq_nrm, kSeq_ret, kSeq_ext, kBlk_ext, kLoop_ext, kScope_ret, ko_nil, ko_op, kR_val, ne_eq, reduceCtorEq, not_false_eq_true, implies_true, Option.map_some, List.set_cons_succ, List.set_cons_zero, List.getD_cons_succ, List.getD_cons_zero, own_e, List.any_cons, List.any_nil, Bool.or_false, ↓reduceIte, exO_assign, exO_binOp, tk_plain, tk_const, rd_tmp, ofV_int, binD_lss, arith_lss, kF_ret, leave_eq, resD_nil, resD_tmp, tupD_two, gc_same, fit_e, fit_osl, fit_tup, List.forall_mem_cons, List.not_mem_nil, false_imp_iff, and_true, and_self, Option.some.injEq, Prod.mk.injEq, mkT, Bool.or_self, Bool.and_true, Nat.zero_add, kx_region (hcv _), hres, e2, hz, hall, exO_mv, taken, consumes, isTmp, beq_self_eq_true, tk_tmp, tkV_own, ownD_nf, leftT_ex]
    rfl
  have e2 : decide ((i : Int) < xs.length) = true := by simp; omega
  have hxi : xs[i]? = some xs[i] := List.getElem?_eq_getElem hi
  generalize xs[i] = x at hxi
  have ia := rd_ix ha hxi
  cases hok : okN x
  · have hall : xs.all okN = false := by
      rw [← Bool.not_eq_true, List.all_eq_true]
      intro hh
      have := hh x (List.mem_of_getElem? hxi)
      rw [hok] at this; cases this
    have h47 := w47_bad x (by simp [okN] at hok; omega)
    have e3 : ((2 : Int) != 0) = true := by decide
    simp only [List.length_cons, List.length_nil, Nat.reduceAdd, kx_seq, kx_skip, kx_ret, kx_goto, kx_block, kIn_eq, kx_cond_tmp, kCond_true, kSeq_nrm, kSeq_gto, kBlk_gto, kLoop_gto, kScope_ret, ko_nil, ko_op, ko_func, kT_some, kR_val, kC_val, List.getElem?_cons_succ, List.getElem?_cons_zero, Option.bind_some, ne_eq, reduceCtorEq, not_false_eq_true, implies_true, Bool.false_eq_true, Option.map_some, List.set_cons_succ, List.set_cons_zero, List.getD_cons_succ, List.getD_cons_zero, own_e, own_osl, List.any_cons, List.any_nil, Bool.or_false, ↓reduceIte, exO_assign, exO_binOp, exO_indexAddr, exO_extract, tk_plain, sh_plain, tk_const, rd_tmp, rd_const, tks_nil, tks_cons, ofV_int, ofV_nilsl, binD_neq, binD_lss, arith_neq, arith_lss, kF_ret, leave_eq, resD_nil, resD_tmp, tupD_two, gc_same, fit_e, fit_osl, fit_tup, List.forall_mem_cons, List.not_mem_nil, false_imp_iff, and_self, mkT, adOf_rptr, load0, exO_load, Bool.or_self, Bool.or_true, Nat.zero_add, Nat.le_refl, sz3, ag3, kx_region (hcv _), hres, e2, ha.ownD, ia, h47, e3, hall, kScope_go, kGo_some, fl_seq, flS_some, flS_none, fl_label, fl_ret, fl_region, fl_cond, fl_block, beq_self_eq_true, ownD_tup, ownA_e, ownA_osl0, back, exO_mv, taken, consumes, isTmp, Nat.reduceBEq]
  · obtain ⟨m, rfl⟩ : ∃ m : Nat, x = m := ⟨x.toNat, by simp [okN] at hok; omega⟩
    have hm : m ≤ 1099511627776 := by simp [okN] at hok; omega
    have h47 := w47 m hm
    have e3 : ((0 : Int) != 0) = false := by decide
    have hnl := numsL_len ht
    have hpl := putL_len m hm
    have happ : appendD Try.prog 31 (.osl true false 1 (byE (UInt8.ofNat xs.length :: numsL (xs.take i)))) (.e (.sl (byE (putL m)))) false = some (.osl true false 1 (byE (UInt8.ofNat xs.length :: numsL (xs.take (i + 1))))) := by
      rw [app31m slOf_e (by simp at hnl ⊢; omega), numsL_snoc hxi]; simp
    simp only [List.length_cons, List.length_nil, Nat.reduceAdd, kx_seq, kx_skip, kx_block, kx_cond_tmp, kCond_true, kCond_false, kSeq_nrm, kBlk_nrm, kLoop_nrm, ko_nil, ko_op, ko_builtin, ko_func, kT_some, kR_val, kC_val, List.getElem?_toArray, List.getElem?_cons_succ, List.getElem?_cons_zero, Option.bind_some, ne_eq, reduceCtorEq, not_false_eq_true, implies_true, Bool.false_eq_true, Option.map_some, List.set_cons_succ, List.set_cons_zero, List.getD_cons_succ, List.getD_cons_zero, own_e, List.any_cons, List.any_nil, Bool.or_false, ↓reduceIte, exO_assign, exO_binOp, exO_indexAddr, exO_extract, tk_plain, sh_plain, rd_tmp, rd_const, tks_nil, tks_cons, ofV_int, binD_add, binD_neq, binD_lss, arith_add, arith_neq, arith_lss, exB_append, mkT, adOf_rptr, load0, exO_load, Bool.or_self, Bool.or_true, Nat.zero_add, Nat.le_refl, Try.underlying31, sz3, ag3, kx_region (hcv _), e2, ha.ownD, ia, h47, e3, happ, inc64 hi (show xs.length ≤ 1099511627776 by omega), beq_self_eq_true, ownD_tup, ownA_e, back, exO_mv, taken, consumes, isTmp, Nat.reduceBEq, tk_tmp, tkV_own, ownD_nf, leftT_ex]
    refine IH_o (xs.length - (i + 1)) _ (by omega) ⟨i + 1, ⟨by omega, fun y hy => ?_⟩, inv_intro rfl rfl rfl rfl⟩
    rw [List.take_succ_eq_append_getElem hi] at hy
    simp only [List.mem_append, List.mem_singleton] at hy
    rcases hy with hy | hy
    · exact ht y hy
    · have := (List.getElem?_eq_some_iff.1 hxi).2
      rw [hy, this]; exact hok

end Go.Abs

namespace Go.Abs
open Go Go.Proofs
set_option maxRecDepth 10000
set_option maxHeartbeats 4000000

/-- A number's value, the highest byte first. -/
def valB (xs : List UInt8) : Nat := xs.foldl (fun n b => n * 256 + b.toNat) 0
/-- What is taken: the number, and what is behind it. -/
inductive TakeR where
  | short
  | form
  | ok (n : Nat) (rest : List UInt8)
def takeB : List UInt8 → TakeR
  | [] => .short
  | m :: xs =>
    if 6 < m.toNat then .form else
    if xs.length < m.toNat then .short else
    if m.toNat = 0 then .ok 0 xs else
    if 0 < (xs.getD 0 0).toNat ∧ valB (xs.take m.toNat) ≤ 1099511627776 then .ok (valB (xs.take m.toNat)) (xs.drop m.toNat) else .form
def TakeR.d : TakeR → D
  | .short => .tup [.int .i64 0, .osl false true 0 [], .int .i64 11]
  | .form => .tup [.int .i64 0, .osl false true 0 [], .int .i64 12]
  | .ok n rest => .tup [.int .i64 (n : Int), .osl true false 1 (byE rest), .int .i64 0]

theorem valB_lt : ∀ (k : Nat) (xs : List UInt8), xs.length ≤ k → valB xs < 256 ^ k := by
  intro k
  induction k with
  | zero => intro xs h; have : xs = [] := List.length_eq_zero_iff.1 (by omega); subst this; simp [valB]
  | succ k ih =>
    intro xs h
    by_cases hx : xs = []
    · subst hx; simp [valB]; exact Nat.pos_of_ne_zero (by simp)
    · have e := (List.dropLast_concat_getLast hx).symm
      rw [e, valB, List.foldl_append]
      have := ih xs.dropLast (by simp; omega)
      unfold valB at this
      simp only [List.foldl_cons, List.foldl_nil]
      have hb := (xs.getLast hx).toNat_lt
      rw [Nat.pow_succ]; omega
/-- One byte more. -/
theorem shl8_or (n : Nat) (b : UInt8) (hn : n < 2 ^ 48) : IntKind.i64.wrap ((BitVec.ofInt 64 (IntKind.i64.wrap ((n : Int) * 2 ^ min 8 64)) ||| BitVec.ofInt 64 (IntKind.i64.wrap (b.toNat : Int))).toNat : Int) = ((n * 256 + b.toNat : Nat) : Int) := by
  have hb := b.toNat_lt
  have h1 : IntKind.i64.wrap ((n : Int) * 2 ^ min 8 64) = ((n * 256 : Nat) : Int) := by
    rw [show (2 : Int) ^ min 8 64 = 256 by decide, wrap64 (by omega) (by omega)]; omega
  have h2 : IntKind.i64.wrap (b.toNat : Int) = (b.toNat : Int) := wrap64 (by omega) (by omega)
  have h3 : ∀ m : Nat, m < 2 ^ 64 → (BitVec.ofInt 64 (m : Int)).toNat = m := by
    intro m hm
    rw [BitVec.toNat_ofInt]
    omega
  rw [h1, h2, BitVec.toNat_or, h3 _ (by omega), h3 _ (by omega)]
  have h4 : n * 256 ||| b.toNat = n * 256 + b.toNat := by
    have := Nat.shiftLeft_add_eq_or_of_lt (i := 8) (b := b.toNat) (by omega) n
    rw [Nat.shiftLeft_eq] at this
    rw [show (2 : Nat) ^ 8 = 256 by decide] at this
    exact this.symm
  rw [h4, wrap64 (by omega) (by omega)]


theorem valB_snoc (xs : List UInt8) (b : UInt8) : valB (xs ++ [b]) = valB xs * 256 + b.toNat := by simp [valB, List.foldl_append]
theorem valB_48 {xs : List UInt8} (h : xs.length ≤ 6) : valB xs < 2 ^ 48 := by
  have := valB_lt 6 xs h
  have e : (256 : Nat) ^ 6 = 2 ^ 48 := by decide
  rw [← e]; exact this

theorem shl8_or' (n : Nat) (b : UInt8) (hn : n < 2 ^ 48) : IntKind.i64.wrap ((BitVec.ofInt IntKind.i64.bits (IntKind.i64.wrap ((n : Int) * 2 ^ min 8 64)) ||| BitVec.ofInt IntKind.i64.bits (IntKind.i64.wrap (b.toNat : Int))).toNat : Int) = ((n * 256 + b.toNat : Nat) : Int) := shl8_or n b hn
theorem w84 (a : D) (xs : List UInt8) (ha : Rd a (byE xs)) (hx : xs.length ≤ 100000) (h : List O) : wc 84 [a] h = some (.val (takeB xs).d, h) := by
  have la := by_len ha
  have hcv : ∀ i, wcv 84 i = [] := fun _ => rfl
  have hres : Try.f84.results.toList = [ResultVar.tmp 2, ResultVar.tmp 3, ResultVar.tmp 4] := rfl
  rw [wc, call_fn rfl Try.func84 rfl]
  cases xs with
  | nil =>
    have e1 : (((0 : Nat) : Int) == 0) = true := by decide
    simp only [enterT, List.length_cons, List.length_nil, Nat.reduceSub, List.replicate, List.cons_append, List.nil_append, kx_seq, kx_skip, kx_ret, kx_goto, kx_scope, kIn_eq, kx_cond_tmp, kCond_true, kSeq_nrm, kSeq_gto, kScope_ret, ko_nil, ko_op, ko_builtin, kR_val, List.getElem?_toArray, List.getElem?_cons_zero, Option.bind_some, ne_eq, reduceCtorEq, not_false_eq_true, implies_true, Option.map_some, List.set_cons_succ, List.set_cons_zero, List.getD_cons_succ, List.getD_cons_zero, own_e, own_osl, ↓reduceIte, exO_move_tmp, exO_assign, exO_binOp, tk_plain, tk_const, rd_tmp, rd_const, ofV_int, ofV_nilsl, binD_eql, arith_eql, exB_len, kF_ret, leave_eq, resD_nil, resD_tmp, tupD_three, gc_same, fit_e, fit_osl, fit_tup, List.forall_mem_cons, List.not_mem_nil, false_imp_iff, and_true, and_self, Option.some.injEq, Prod.mk.injEq, Option.bind_eq_bind, Bool.and_true, Nat.zero_add, Option.pure_def, kx_region (hcv _), Try.ntmps84, hres, ha.ownD, la, e1, kScope_go, kGo_some, fl_seq, flS_some, flS_none, fl_label, fl_region, fl_cond, fl_block, beq_self_eq_true]
    rfl
  | cons m ys =>
  have hm := m.toNat_lt
  have la : ∀ H, len0 Try.prog 31 a H = some (ys.length + 1) := fun H => by rw [la]; rfl
  have e1 : (((ys.length + 1 : Nat) : Int) == 0) = false := by simp; omega
  have i0 : indexAddrD Try.prog 31 a (.e (.int .i64 0)) = some (.rptr [.int .u8 (m.toNat : Int)] 0) := by_ix (i := 0) ha rfl
  have wm : IntKind.i64.wrap (m.toNat : Int) = (m.toNat : Int) := wrap64 (by omega) (by omega)
  generalize hM : m.toNat = M at *
  simp only [takeB, hM]
  by_cases h6 : 6 < M
  · have e2 : decide (6 < (M : Int)) = true := by simp; omega
    simp only [enterT, List.length_cons, List.length_nil, Nat.reduceSub, List.replicate, List.cons_append, List.nil_append, kx_seq, kx_skip, kx_ret, kx_goto, kx_scope, kIn_eq, kx_cond_tmp, kCond_true, kCond_false, kSeq_nrm, kSeq_gto, kScope_ret, ko_nil, ko_op, ko_builtin, kR_val, List.getElem?_toArray, List.getElem?_cons_zero, Option.bind_some, ne_eq, reduceCtorEq, not_false_eq_true, implies_true, Option.map_some, List.set_cons_succ, List.set_cons_zero, List.getD_cons_succ, List.getD_cons_zero, own_e, own_osl, ↓reduceIte, exO_move_tmp, exO_assign, exO_binOp, exO_convert, exO_indexAddr, tk_plain, sh_plain, tk_const, rd_tmp, rd_const, ofV_int, ofV_nilsl, binD_eql, binD_gtr, arith_eql, arith_gtr, exB_len, kF_ret, leave_eq, resD_nil, resD_tmp, tupD_three, gc_same, fit_e, fit_osl, fit_tup, List.forall_mem_cons, List.not_mem_nil, false_imp_iff, and_true, and_self, Option.some.injEq, Prod.mk.injEq, adOf_rptr, load0, Option.bind_eq_bind, exO_load, Bool.and_true, Nat.zero_add, Option.pure_def, Nat.le_refl, Try.underlying3, sz5, ag5, kx_region (hcv _), Try.ntmps84, hres, ha.ownD, la, e1, i0, convD_int Try.underlying5 Try.underlying3, wm, e2, h6, kScope_go, kGo_some, fl_seq, flS_some, flS_none, fl_label, fl_region, fl_cond, fl_block, beq_self_eq_true]
    rfl
  have e2 : decide (6 < (M : Int)) = false := by simp; omega
  by_cases hs : ys.length < M
  · have e3 : decide (((ys.length + 1 : Nat) : Int) ≤ (M : Int)) = true := by simp; omega
    simp only [enterT, List.length_cons, List.length_nil, Nat.reduceSub, List.replicate, List.cons_append, List.nil_append, kx_seq, kx_skip, kx_ret, kx_goto, kx_scope, kIn_eq, kx_cond_tmp, kCond_true, kCond_false, kSeq_nrm, kSeq_gto, kScope_ret, ko_nil, ko_op, ko_builtin, kR_val, List.getElem?_toArray, List.getElem?_cons_zero, Option.bind_some, ne_eq, reduceCtorEq, not_false_eq_true, implies_true, Option.map_some, List.set_cons_succ, List.set_cons_zero, List.getD_cons_succ, List.getD_cons_zero, own_e, own_osl, ↓reduceIte, exO_move_tmp, exO_assign, exO_binOp, exO_convert, exO_indexAddr, tk_plain, sh_plain, tk_const, rd_tmp, rd_const, ofV_int, ofV_nilsl, binD_eql, binD_leq, binD_gtr, arith_eql, arith_leq, arith_gtr, exB_len, kF_ret, leave_eq, resD_nil, resD_tmp, tupD_three, gc_same, fit_e, fit_osl, fit_tup, List.forall_mem_cons, List.not_mem_nil, false_imp_iff, and_true, and_self, Option.some.injEq, Prod.mk.injEq, adOf_rptr, load0, Option.bind_eq_bind, exO_load, Bool.and_true, Nat.zero_add, Option.pure_def, Nat.le_refl, Try.underlying3, sz5, ag5, kx_region (hcv _), Try.ntmps84, hres, ha.ownD, la, e1, i0, convD_int Try.underlying5 Try.underlying3, wm, e2, e3, h6, hs, kScope_go, kGo_some, fl_seq, flS_some, flS_none, fl_label, fl_region, fl_cond, fl_block, beq_self_eq_true]
    rfl
  have e3 : decide (((ys.length + 1 : Nat) : Int) ≤ (M : Int)) = false := by simp; omega
  have w1 : IntKind.i64.wrap (1 + (M : Int)) = ((1 + M : Nat) : Int) := by rw [wrap64 (by omega) (by omega)]; omega
  have s1 : sliceD Try.prog 31 a (some (.e (.int .i64 1))) (some (.e (.int .i64 ((1 + M : Nat) : Int)))) none = some (.e (.sl (byE (ys.take M)))) := by
    rw [by_slice (h := 1 + M) (l := 1) ha (by rw [bndO, bnd_nat (by simp; omega)]) (by rw [bndO, show (1 : Int) = ((1 : Nat) : Int) by rfl, bnd_nat (by omega)])]
    rw [show 1 + M = M + 1 by omega, List.take_succ_cons, List.drop_succ_cons, List.drop_zero]
  have s2 : sliceD Try.prog 31 a (some (.e (.int .i64 ((1 + M : Nat) : Int)))) none none = some (.e (.sl (byE (ys.drop M)))) := by
    rw [by_slice (h := (m :: ys).length) (l := 1 + M) ha rfl (by rw [bndO, bnd_nat (by simp; omega)])]
    rw [List.take_length, show 1 + M = M + 1 by omega, List.drop_succ_cons]
  have hc := clone31 (a := .e (.sl (byE (ys.drop M)))) (xs := ys.drop M) Rd.e (by simp at hx ⊢; omega)
  have hzl : (ys.take M).length = M := by simp; omega
  have lz : ∀ h, len0 Try.prog 31 (.e (.sl (byE (ys.take M)))) h = some M := fun h => by rw [len31e, byE_len, hzl]
  simp only [enterT, List.length_cons, List.length_nil, Nat.reduceSub, List.replicate, List.cons_append, List.nil_append, kx_seq, kx_skip, kx_block, kx_scope, kIn_eq, kx_cond_tmp, kCond_false, kSeq_nrm, ko_nil, ko_op, ko_builtin, kR_val, List.getElem?_toArray, List.getElem?_cons_zero, Option.bind_some, ne_eq, reduceCtorEq, not_false_eq_true, implies_true, Option.map_some, List.set_cons_succ, List.set_cons_zero, List.getD_cons_succ, List.getD_cons_zero, own_e, ↓reduceIte, exO_move_tmp, exO_move_const, exO_assign, exO_binOp, exO_convert, exO_slice, exO_indexAddr, tk_plain, sh_plain, tk_const, rd_tmp, rd_const, ofV_int, ofV_nilsl, optO_none, optO_some, binD_add, binD_eql, binD_leq, binD_gtr, arith_add, arith_eql, arith_leq, arith_gtr, exB_len, adOf_rptr, load0, Option.bind_eq_bind, exO_load, Nat.zero_add, Option.pure_def, Nat.le_refl, Try.underlying3, sz5, ag5, kx_region (hcv _), Try.ntmps84, ha.ownD, la, e1, i0, convD_int Try.underlying5 Try.underlying3, wm, e2, e3, h6, hs, w1, s1, lz]
  refine kx_loop_ind (fun (n : Nat) (s : St) => ∃ i : Nat, (i + n = M) ∧ ∃ zs_, s = ⟨mkT [some (a), none, some (.int .i64 (valB ((ys.take M).take i) : Int)), some (.osl false true 0 []), some (.int .i64 11), some (.int .i64 M), none, none, none, none, none, none, none, none, none, none, none, none, none, none, none, none, none, none, some (.e (.sl (byE (ys.take M)))), some (.int .i64 M), some (.int .i64 i), none, none, none, none, none, none, none, none, none, none, none, none, none, none, none, none, none, none, none, none, none, none, none, none, none, none, none, none] zs_ 0, [], .no, h⟩) ?_ (M) ⟨0, by omega, inv_intro rfl rfl rfl rfl⟩
  rintro n _ ⟨i, hf_o, zs_o, rfl⟩ IH_o
  have hn := hf_o
  by_cases hi : i < M
  rotate_left
  · have e4 : decide ((i : Int) < (M : Int)) = false := by simp; omega
    have hz : (ys.take M).take i = ys.take M := List.take_of_length_le (by omega)
    rw [hz]
    by_cases h0 : M = 0
    · subst h0
      have e5 : (((0 : Nat) : Int) == 0) = true := by decide
      have hv : valB (ys.take 0) = 0 := rfl
      rw [hv]
      rw [List.drop_zero] at hc s2
      simp only [List.length_cons, List.length_nil, Nat.reduceAdd, kx_seq, kx_ret, kx_exit, kx_cond_tmp, kCond_true, kCond_false, kSeq_nrm, kSeq_ret, kSeq_ext, kBlk_ext, kLoop_ext, kScope_ret, ko_nil, ko_op, ko_func, kT_some, ko_guard, kR_val, kC_val, kG_no, kG_undef, St.put, List.getElem?_toArray, List.getElem?_cons_succ, List.getElem?_cons_zero, Option.bind_some, Nat.reduceLT, ne_eq, reduceCtorEq, not_false_eq_true, implies_true, Bool.not_false, Bool.false_eq_true, Option.map_some, List.set_cons_succ, List.set_cons_zero, List.getD_cons_succ, List.getD_cons_zero, own_e, List.any_cons, List.any_nil, Bool.or_false, ↓reduceIte, exO_assign, exO_binOp, exO_pick, exO_slice, tk_plain, sh_plain, tk_const, sh_const, rd_tmp, rd_const, tks_nil, tks_cons, ofV_int, ofV_bool, optO_none, optO_some, binD_add, binD_eql, binD_lss, Int.reduceLT, arith_add, arith_eql, arith_lss, kF_ret, leave_eq, resD_nil, resD_tmp, tupD_three, gc_same, fit_e, fit_osl, fit_tup, List.forall_mem_cons, List.not_mem_nil, false_imp_iff, and_true, and_self, Option.some.injEq, Prod.mk.injEq, mkT, List.take_zero, Bool.or_self, Bool.and_true, Bool.or_true, Nat.add_zero, Nat.zero_add, kx_region (hcv _), hres, e4, e5, ha.ownD, w1, s2, hc, beq_self_eq_true, exO_mv, taken, consumes, isTmp, Nat.reduceBEq, tk_tmp, tkV_own, ownD_nf, leftT_ex]
      rfl
    · have e5 : ((M : Int) == 0) = false := by simp; omega
      obtain ⟨y, zs, rfl⟩ : ∃ y zs, ys = y :: zs := by
        cases ys with
        | nil => simp at hs; omega
        | cons y zs => exact ⟨y, zs, rfl⟩
      have i1 : indexAddrD Try.prog 31 a (.e (.int .i64 1)) = some (.rptr [.int .u8 (y.toNat : Int)] 0) := by_ix (i := 1) ha rfl
      have hg : (y :: zs).getD 0 0 = y := rfl
      rw [if_neg h0, hg]
      generalize hV : valB ((y :: zs).take M) = V
      by_cases hy : 0 < y.toNat
      · have e6 : decide (0 < (y.toNat : Int)) = true := by simp; omega
        by_cases hv : V ≤ 1099511627776
        · have e7 : decide ((V : Int) ≤ 1099511627776) = true := by simp; omega
          rw [if_pos ⟨hy, hv⟩]
          simp only [List.length_cons, List.length_nil, Nat.reduceAdd, kx_seq, kx_ret, kx_exit, kx_cond_tmp, kCond_true, kCond_false, kSeq_nrm, kSeq_ret, kSeq_ext, kBlk_ext, kLoop_ext, kScope_ret, ko_nil, ko_op, ko_func, kT_some, ko_guard, kR_val, kC_val, kG_yes, List.getElem?_toArray, List.getElem?_cons_succ, List.getElem?_cons_zero, Option.bind_some, Nat.reduceLT, ne_eq, reduceCtorEq, not_false_eq_true, implies_true, Bool.false_eq_true, Option.map_some, List.set_cons_succ, List.set_cons_zero, List.getD_cons_succ, List.getD_cons_zero, own_e, List.any_cons, List.any_nil, Bool.or_false, ↓reduceIte, exO_assign, exO_binOp, exO_pick, exO_slice, exO_indexAddr, tk_plain, sh_plain, tk_const, rd_tmp, rd_const, tks_nil, tks_cons, ofV_int, optO_none, optO_some, binD_add, binD_eql, binD_lss, binD_leq, binD_gtr, Int.reduceLT, arith_add, arith_eql, arith_lss, arith_leq, arith_gtr, kF_ret, leave_eq, resD_nil, resD_tmp, tupD_three, gc_same, fit_e, fit_osl, fit_tup, List.forall_mem_cons, List.not_mem_nil, false_imp_iff, and_true, and_self, Option.some.injEq, Prod.mk.injEq, mkT, adOf_rptr, load0, exO_load, Bool.or_self, Bool.and_true, Bool.or_true, Nat.zero_add, Nat.le_refl, sz5, ag5, kx_region (hcv _), hres, e4, e5, e6, e7, ha.ownD, i1, w1, s2, hc, beq_self_eq_true, back, exO_mv, taken, consumes, isTmp, Nat.reduceBEq, tk_tmp, tkV_own, ownD_nf, leftT_ex]
          rfl
        · have e7 : decide ((V : Int) ≤ 1099511627776) = false := by simp; omega
          rw [if_neg (fun x => hv x.2)]
          simp only [List.length_cons, List.length_nil, Nat.reduceAdd, kx_seq, kx_skip, kx_ret, kx_exit, kx_label, kx_cond_tmp, kCond_false, kSeq_nrm, kSeq_ext, kBlk_ext, kLoop_ext, kScope_ret, ko_nil, ko_op, ko_guard, kR_val, kG_yes, List.getElem?_toArray, List.getElem?_cons_succ, List.getElem?_cons_zero, Option.bind_some, Nat.reduceLT, ne_eq, reduceCtorEq, not_false_eq_true, implies_true, Bool.false_eq_true, Option.map_some, List.set_cons_succ, List.set_cons_zero, List.getD_cons_succ, List.getD_cons_zero, own_e, own_osl, List.any_cons, List.any_nil, Bool.or_false, ↓reduceIte, exO_assign, exO_binOp, exO_pick, exO_indexAddr, tk_plain, sh_plain, tk_const, rd_tmp, rd_const, ofV_int, ofV_nilsl, binD_eql, binD_lss, binD_leq, binD_gtr, Int.reduceLT, arith_eql, arith_lss, arith_leq, arith_gtr, kF_ret, leave_eq, resD_nil, resD_tmp, tupD_three, gc_same, fit_e, fit_osl, fit_tup, List.forall_mem_cons, List.not_mem_nil, false_imp_iff, and_true, and_self, Option.some.injEq, Prod.mk.injEq, mkT, adOf_rptr, load0, exO_load, Bool.or_self, Bool.and_true, Bool.or_true, Nat.zero_add, Nat.le_refl, sz5, ag5, kx_region (hcv _), hres, e4, e5, e6, e7, ha.ownD, i1, beq_self_eq_true, back, exO_mv, taken, consumes, isTmp]
          rfl
      · have e6 : decide (0 < (y.toNat : Int)) = false := by simp; omega
        rw [if_neg (fun x => hy x.1)]
        simp only [List.length_cons, List.length_nil, Nat.reduceAdd, kx_seq, kx_skip, kx_ret, kx_exit, kx_label, kx_cond_tmp, kCond_false, kSeq_nrm, kSeq_ext, kBlk_ext, kLoop_ext, kScope_ret, ko_nil, ko_op, ko_guard, kR_val, kG_yes, kG_no, St.put, List.getElem?_toArray, List.getElem?_cons_succ, List.getElem?_cons_zero, Option.bind_some, Nat.reduceLT, ne_eq, reduceCtorEq, not_false_eq_true, implies_true, Bool.not_true, Bool.false_eq_true, Option.map_some, List.set_cons_succ, List.set_cons_zero, List.getD_cons_succ, List.getD_cons_zero, own_e, own_osl, List.any_cons, List.any_nil, Bool.or_false, ↓reduceIte, exO_assign, exO_binOp, exO_pick, exO_indexAddr, tk_plain, sh_plain, tk_const, sh_const, rd_tmp, rd_const, ofV_int, ofV_bool, ofV_nilsl, binD_eql, binD_lss, binD_gtr, Int.reduceLT, arith_eql, arith_lss, arith_gtr, kF_ret, leave_eq, resD_nil, resD_tmp, tupD_three, gc_same, fit_e, fit_osl, fit_tup, List.forall_mem_cons, List.not_mem_nil, false_imp_iff, and_true, and_self, Option.some.injEq, Prod.mk.injEq, mkT, adOf_rptr, load0, exO_load, Bool.or_self, Bool.and_true, Bool.or_true, Nat.zero_add, Nat.le_refl, sz5, ag5, kx_region (hcv _), hres, e4, e5, e6, ha.ownD, i1, beq_self_eq_true, back, exO_mv, taken, consumes, isTmp]
        rfl
  have e4 : decide ((i : Int) < (M : Int)) = true := by simp; omega
  have hbi : (ys.take M)[i]? = some ((ys.take M)[i]'(by omega)) := List.getElem?_eq_getElem (by omega)
  have htk : (ys.take M).take (i + 1) = (ys.take M).take i ++ [(ys.take M)[i]'(by omega)] := List.take_succ_eq_append_getElem (by omega)
  generalize (ys.take M)[i]'(by omega) = b at hbi htk
  have ib := by_ix (a := .e (.sl (byE (ys.take M)))) Rd.e hbi
  have hor := shl8_or' (valB ((ys.take M).take i)) b (valB_48 (by simp; omega))
  rw [← valB_snoc, ← htk] at hor
  simp only [IntKind.bits] at hor
  simp only [List.length_cons, List.length_nil, Nat.reduceAdd, kx_seq, kx_skip, kx_block, kx_cond_tmp, kCond_true, kSeq_nrm, kBlk_nrm, kLoop_nrm, ko_nil, ko_op, kR_val, List.getElem?_cons_zero, Option.bind_some, Nat.reduceLT, ne_eq, reduceCtorEq, not_false_eq_true, implies_true, Bool.false_eq_true, Option.map_some, List.set_cons_succ, List.set_cons_zero, List.getD_cons_succ, List.getD_cons_zero, own_e, List.any_cons, List.any_nil, Bool.or_false, ↓reduceIte, exO_assign, exO_binOp, exO_convert, exO_indexAddr, tk_plain, sh_plain, rd_tmp, rd_const, ofV_int, binD_add, binD_or, binD_lss, binD_shl, shiftD_shl, Int.reduceLT, Int.reduceToNat, IntKind.bits, arith_add, arith_or, arith_lss, mkT, adOf_rptr, load0, exO_load, Bool.or_self, Nat.zero_add, Nat.le_refl, Try.underlying3, sz5, ag5, kx_region (hcv _), e4, ib, convD_int Try.underlying5 Try.underlying3, hor, inc64 hi (show M ≤ 1099511627776 by omega), beq_self_eq_true, back, exO_mv, taken, consumes, isTmp, Nat.reduceBEq]
  refine IH_o (M - (i + 1)) _ (by omega) ⟨i + 1, by omega, inv_intro rfl rfl rfl rfl⟩

end Go.Abs

namespace Go.Abs
open Go Go.Proofs
set_option maxRecDepth 10000
set_option maxHeartbeats 4000000

/-- What is taken: the text's bytes, and what is behind it. -/
def takeT : List UInt8 → Option (List UInt8 × List UInt8)
  | [] => none
  | m :: ys => if ys.length < m.toNat then none else some (ys.take m.toNat, ys.drop m.toNat)
end Go.Abs

namespace Go.Abs
open Go Go.Proofs
set_option maxRecDepth 10000
set_option maxHeartbeats 4000000

/-- Numbers that are taken one by one: the numbers, what is behind them; or what is wrong. -/
def takeNs : Nat → List UInt8 → Except Int (List Nat × List UInt8)
  | 0, xs => .ok ([], xs)
  | k + 1, xs => match takeB xs with
    | .short => .error 11
    | .form => .error 12
    | .ok n rest => match takeNs k rest with
      | .ok (l, r) => .ok (n :: l, r)
      | .error e => .error e
def takeL : List UInt8 → Except Int (List Nat × List UInt8)
  | [] => .error 11
  | m :: ys => takeNs m.toNat ys
def intsN (l : List Nat) : List Int := l.map fun (x : Nat) => (x : Int)
/-- Numbers that grow. -/
def slN (l : List Nat) : D := match l with
  | [] => .osl false true 0 []
  | n :: l => .osl true false 1 (isE (intsN (n :: l)))
theorem takeB_rest {xs rest : List UInt8} {n : Nat} (h : takeB xs = .ok n rest) : rest.length ≤ xs.length := by
  cases xs with
  | nil => simp [takeB] at h
  | cons m ys =>
    simp only [takeB] at h
    split at h
    · cases h
    · split at h
      · cases h
      · split at h
        · cases h; simp
        · split at h
          · cases h; simp; omega
          · cases h
theorem bs22_1 {a : Int} : buildSliceD Try.prog 22 1 [(0, .e (.int .i64 a))] = some (.osl true true 1 [[.int .i64 a]]) := by
  simp [buildSliceD, el22, sz3, zeroCellsOf, zo3, replD, fillD, cellsOf, notTup, putAt, chunk, rowsE, toEs, toE]
end Go.Abs

namespace Go.Abs
open Go Go.Proofs
set_option maxRecDepth 10000
set_option maxHeartbeats 4000000

theorem gcell_set {H : List O} {p : Nat} {cs : List D} (hp : p < H.length) : getCells (H.set p (.cells cs)) p = some cs := by simp [getCells, hp]
theorem getCells_lt {H : List O} {p : Nat} {cs : List D} (h : getCells H p = some cs) : p < H.length ∧ H[p]? = some (.cells cs) := by
  unfold getCells at h
  split at h
  · rename_i cs' hh; cases h; exact ⟨(List.getElem?_eq_some_iff.1 hh).1, hh⟩
  · cases h
theorem app_slD {c ys : List UInt8} {a : D} (hs : slOf a = some (byE ys)) (hy : ys ≠ []) (hl : c.length + ys.length ≤ 1000000) : appendD Try.prog 31 (slD c) a false = some (slD (c ++ ys)) := by
  cases c with
  | nil =>
    obtain ⟨y, ys', rfl⟩ := List.exists_cons_of_ne_nil hy
    exact app31n hs (ok_byE _) (by rw [byE_len]; simp at hl ⊢; omega)
  | cons x c =>
    simp only [slD, List.cons_append]
    rw [app31b rfl hs (ok_byE _) (by simp only [byE_len]; omega), byE_app]; rfl
theorem slD_nil : slD [] = .osl false true 0 [] := rfl
theorem slD_cons {b : UInt8} {l : List UInt8} : slD (b :: l) = .osl true false 1 (byE (b :: l)) := rfl
theorem putL_ne (n : Nat) : putL n ≠ [] := by simp [putL]
theorem len22 {ex fu : Bool} {sz : Nat} {es : List (List E)} {h : List O} : len0 Try.prog 22 (.osl ex fu sz es) h = some es.length := len0_of Try.underlying22 slOf_osl
theorem isE_len {xs : List Int} : (isE xs).length = xs.length := by simp [isE]

theorem w26 (H : List O) (p : Nat) (cur : List UInt8) (xs : List Int) (hp : getCells H p = some [slD cur]) (hok : ∀ x ∈ xs, okN x = true) (hx : xs.length ≤ 1000) (hc : cur.length ≤ 100000) :
    wc 26 [.ptr p 0, .osl true true 1 (isE xs)] H = some (.val undefD, H.set p (.cells [slD (cur ++ numsL xs)])) := by
  obtain ⟨hlt, hpe⟩ := getCells_lt hp
  have hcv : ∀ i, wcv 26 i = [] := fun _ => rfl
  have hres : Try.f26.results.toList = [] := rfl
  rw [wc, call_fn rfl Try.func26 rfl]
  simp only [enterT, List.length_cons, List.length_nil, Nat.reduceAdd, Nat.reduceSub, List.replicate, List.cons_append, List.nil_append, kx_seq, kx_block, kSeq_nrm, ko_nil, ko_op, ko_builtin, kR_val, List.getElem?_toArray, List.getElem?_cons_zero, Option.bind_some, ne_eq, reduceCtorEq, not_false_eq_true, implies_true, Bool.false_eq_true, Option.map_some, List.set_cons_succ, List.set_cons_zero, List.getD_cons_succ, List.getD_cons_zero, List.any_cons, List.any_nil, ↓reduceIte, sh_const, rd_tmp, ofV_int, exB_len, Option.bind_eq_bind, Bool.or_self, Nat.zero_add, Option.pure_def, kx_region (hcv _), Try.ntmps26, len22, isE_len, exO_mv, taken, consumes, sh_tmp, shV_osl, ownD_ex, shr_fu, kep_osl]
  refine kx_loop_ind (fun (n : Nat) (s : St) => ∃ (i : Nat) (H2 : List O), (i + n = xs.length ∧ H2 = H.set p (.cells [slD (cur ++ numsL (xs.take i))])) ∧ ∃ zs_, s = ⟨mkT [some (.ptr p 0), none, none, none, none, none, none, none, some (.osl false true 1 (isE xs)), some (.int .i64 xs.length), some (.int .i64 i), none, none, none, none, none, none, none, none, none, none, none, none, none, none, none, none, none, none] zs_ 0, [], .no, H2⟩) ?_ (xs.length) ⟨0, H, ⟨by omega, by rw [set_self']; simpa [numsL] using hpe⟩, inv_intro rfl rfl rfl rfl⟩
  rintro n _ ⟨i, H2, hf_o, zs_o, rfl⟩ IH_o
  obtain ⟨hn, rfl⟩ := hf_o
  by_cases hi : i < xs.length
  rotate_left
  · have e2 : decide ((i : Int) < xs.length) = false := by simp; omega
    have hz : xs.take i = xs := List.take_of_length_le (by omega)
    rw [hz]
    simp only [Nat.reduceAdd, kx_seq, kx_exit, kx_cond_tmp, kCond_false, kSeq_nrm, kSeq_ext, kBlk_ext, kLoop_ext, ko_nil, ko_op, kR_val, ne_eq, reduceCtorEq, not_false_eq_true, implies_true, Option.map_some, List.set_cons_succ, List.set_cons_zero, List.getD_cons_succ, List.getD_cons_zero, ↓reduceIte, exO_binOp, rd_tmp, binD_lss, arith_lss, kF_nrm, leave_eq, resD_nil, tupD_nil, mkT, Nat.zero_add, kx_region (hcv _), hres, e2, gc_len, List.length_set]
  have e2 : decide ((i : Int) < xs.length) = true := by simp; omega
  have hxi : xs[i]? = some xs[i] := List.getElem?_eq_getElem hi
  have hok1 := hok xs[i] (List.getElem_mem hi)
  generalize xs[i] = x at hxi hok1
  have ia := rd_ix (a := .osl false true 1 (isE xs)) Rd.osl hxi
  obtain ⟨m, rfl⟩ : ∃ m : Nat, x = m := ⟨x.toNat, by simp [okN] at hok1; omega⟩
  have hm : m ≤ 1099511627776 := by simp [okN] at hok1; omega
  have h47 := w47 m hm
  have hnl := numsL_len (xs := xs.take i) (fun x hx => hok x (List.mem_of_mem_take hx))
  have hpl := putL_len m hm
  have hap := app_slD (c := cur ++ numsL (xs.take i)) (ys := putL m) (a := .e (.sl (byE (putL m)))) slOf_e (putL_ne m) (by simp at hnl ⊢; omega)
  have hsn : cur ++ numsL (xs.take i) ++ putL m = cur ++ numsL (xs.take (i + 1)) := by rw [numsL_snoc hxi]; simp
  rw [hsn] at hap
  generalize hcu : cur ++ numsL (xs.take i) = c at hap
  obtain ⟨z, zs, hz⟩ : ∃ z zs, cur ++ numsL (xs.take (i + 1)) = z :: zs := List.exists_cons_of_ne_nil (by rw [← hsn]; intro e; exact putL_ne m (List.append_eq_nil_iff.1 e).2)
  rw [hz] at hap
  cases c with
  | nil =>
    simp only [slD_nil, slD_cons] at hap
    simp only [List.length_cons, List.length_nil, Nat.reduceAdd, List.nil_append, kx_seq, kx_skip, kx_block, kx_cond_tmp, kCond_true, kSeq_nrm, kBlk_nrm, kLoop_nrm, ko_nil, ko_op, ko_builtin, ko_func, kT_some, kR_val, kR_val0, kC_val, List.getElem?_toArray, List.getElem?_cons_succ, List.getElem?_cons_zero, Option.bind_some, ne_eq, reduceCtorEq, not_false_eq_true, implies_true, Bool.false_eq_true, Option.map_some, List.set_cons_succ, List.set_cons_zero, List.getD_cons_succ, List.getD_cons_zero, own_e, own_osl, own_ptr, List.any_cons, List.any_nil, own0_osl, Bool.or_false, ↓reduceIte, exO_assign, exO_binOp, exO_store, exO_nilCheck, exO_fieldAddr, exO_indexAddr, exO_extract, tk_plain, sh_plain, rd_tmp, rd_const, tks_nil, tks_cons, ofV_int, binD_add, binD_lss, arith_add, arith_lss, exB_append, and_self, mkT, List.append_nil, adOf_ptr, adOf_rptr, adD_ob, add_ob, putAt_eq', cellsOf_osl, notTup_osl, load1, load0, store1, List.take_zero, List.drop_succ_cons, List.drop_zero, fieldAddrD, exO_load, Bool.or_self, Bool.or_true, Nat.add_zero, Nat.zero_add, Nat.succ_ne_zero, Nat.le_refl, Try.underlying31, sz3, sz31, ag3, ag31, kx_region (hcv _), e2, ia, h47, st49, gcell_set hlt, slD_nil, hap, List.set_set, inc64 hi (show xs.length ≤ 1099511627776 by omega), ownD_tup, ownA_e, back, exO_mv, taken, consumes, isTmp, beq_self_eq_true, Nat.reduceBEq, tk_tmp, tkV_own, ownD_nf, leftT_ex]
    refine IH_o (xs.length - (i + 1)) _ (by omega) ⟨i + 1, H.set p (.cells [slD (z :: zs)]), ⟨by omega, by rw [hz]⟩, inv_intro rfl rfl rfl rfl⟩
  | cons y c =>
    simp only [slD_nil, slD_cons] at hap
    simp only [List.length_cons, List.length_nil, Nat.reduceAdd, List.nil_append, kx_seq, kx_skip, kx_block, kx_cond_tmp, kCond_true, kSeq_nrm, kBlk_nrm, kLoop_nrm, ko_nil, ko_op, ko_builtin, ko_func, kT_some, kR_val, kR_val0, kC_val, List.getElem?_toArray, List.getElem?_cons_succ, List.getElem?_cons_zero, Option.bind_some, ne_eq, reduceCtorEq, not_false_eq_true, implies_true, Bool.false_eq_true, Option.map_some, List.set_cons_succ, List.set_cons_zero, List.getD_cons_succ, List.getD_cons_zero, own_e, own_osl, own_ptr, List.any_cons, List.any_nil, Bool.or_false, ↓reduceIte, exO_assign, exO_binOp, exO_store, exO_nilCheck, exO_fieldAddr, exO_indexAddr, exO_extract, tk_plain, sh_plain, rd_tmp, rd_const, tks_nil, tks_cons, ofV_int, binD_add, binD_lss, arith_add, arith_lss, exB_append, and_self, mkT, List.append_nil, adOf_ptr, adOf_rptr, adD_ob, add_ob, putAt_eq', cellsOf_osl, notTup_osl, load1, load0, store1, List.take_zero, List.drop_succ_cons, List.drop_zero, fieldAddrD, exO_load, Bool.or_self, Bool.or_true, Nat.add_zero, Nat.zero_add, Nat.succ_ne_zero, Nat.le_refl, Try.underlying31, sz3, sz31, ag3, ag31, kx_region (hcv _), e2, ia, h47, st49, gcell_set hlt, slD_cons, hap, List.set_set, inc64 hi (show xs.length ≤ 1099511627776 by omega), ownD_tup, ownA_e, back, exO_mv, taken, consumes, isTmp, beq_self_eq_true, Nat.reduceBEq, tk_tmp, tkV_own, ownD_nf, own0_nf, leftT_ex, left0_ex]
    refine IH_o (xs.length - (i + 1)) _ (by omega) ⟨i + 1, H.set p (.cells [slD (z :: zs)]), ⟨by omega, by rw [hz]⟩, inv_intro rfl rfl rfl rfl⟩

end Go.Abs

namespace Go.Abs
open Go Go.Proofs
set_option maxRecDepth 10000
set_option maxHeartbeats 4000000

theorem textL_len {s : ByteArray} : (textL s).length = s.size + 1 := by simp [textL, sL_len]
theorem w53 (H : List O) (p : Nat) (cur : List UInt8) (s : ByteArray) (hp : getCells H p = some [slD cur]) (hs : s.size < 256) (hc : cur.length ≤ 100000) :
    wc 53 [.ptr p 0, .str s] H = some (.val undefD, H.set p (.cells [slD (cur ++ textL s)])) := by
  obtain ⟨hlt, hpe⟩ := getCells_lt hp
  have h82 := w82 s hs
  have hap := app_slD (c := cur) (ys := textL s) (a := .e (.sl (byE (textL s)))) slOf_e (by simp [textL]) (by rw [textL_len]; omega)
  obtain ⟨z, zs, hz⟩ : ∃ z zs, cur ++ textL s = z :: zs := List.exists_cons_of_ne_nil (by simp [textL])
  rw [hz] at hap
  rw [hz, slD_cons]
  have hcv : ∀ i, wcv 53 i = [] := fun _ => rfl
  have hres : Try.f53.results.toList = [] := rfl
  rw [wc, call_fn rfl Try.func53 rfl]
  cases cur with
  | nil =>
    simp only [slD_nil, slD_cons] at hap hp
    simp only [enterT, List.length_cons, List.length_nil, Nat.reduceAdd, Nat.reduceSub, List.replicate, List.cons_append, List.nil_append, kx_seq, kSeq_nrm, ko_nil, ko_op, ko_builtin, ko_func, kT_some, kR_val, kR_val0, kC_val, List.getElem?_toArray, List.getElem?_cons_succ, List.getElem?_cons_zero, Option.bind_some, ne_eq, reduceCtorEq, not_false_eq_true, implies_true, Bool.false_eq_true, Option.map_some, List.set_cons_succ, List.set_cons_zero, List.getD_cons_succ, List.getD_cons_zero, own_e, own_osl, own_ptr, List.any_cons, List.any_nil, own0_osl, Bool.or_false, ↓reduceIte, exO_assign, exO_store, exO_nilCheck, exO_fieldAddr, exO_extract, tk_plain, sh_plain, rd_tmp, tks_nil, tks_cons, exB_append, kF_nrm, leave_eq, resD_nil, tupD_nil, and_self, List.append_nil, adOf_ptr, adD_ob, add_ob, putAt_eq', cellsOf_osl, notTup_osl, load1, store1, List.take_zero, List.drop_succ_cons, List.drop_zero, List.map_cons, List.map_nil, fieldAddrD, exO_load, Bool.or_self, Bool.or_true, Nat.add_zero, Nat.zero_add, Nat.succ_ne_zero, Nat.le_refl, Try.underlying31, sz31, ag31, kx_region (hcv _), Try.ntmps53, hres, h82, st49, hp, hap, gc_len, List.length_set, ownD_tup, ownA_e, ownA_nf, leftT_tup, left_e, back, exO_mv, taken, consumes, isTmp, beq_self_eq_true, Nat.reduceBEq, tk_tmp, tkV_own, sh_tmp, shV_osl, ownD_nf, leftT_ex, left_ex, shr_nf, kep_osl]
  | cons y c =>
    simp only [slD_nil, slD_cons] at hap hp
    simp only [enterT, List.length_cons, List.length_nil, Nat.reduceAdd, Nat.reduceSub, List.replicate, List.cons_append, List.nil_append, kx_seq, kSeq_nrm, ko_nil, ko_op, ko_builtin, ko_func, kT_some, kR_val, kR_val0, kC_val, List.getElem?_toArray, List.getElem?_cons_succ, List.getElem?_cons_zero, Option.bind_some, ne_eq, reduceCtorEq, not_false_eq_true, implies_true, Bool.false_eq_true, Option.map_some, List.set_cons_succ, List.set_cons_zero, List.getD_cons_succ, List.getD_cons_zero, own_e, own_ptr, List.any_cons, List.any_nil, Bool.or_false, ↓reduceIte, exO_assign, exO_store, exO_nilCheck, exO_fieldAddr, exO_extract, tk_plain, sh_plain, rd_tmp, tks_nil, tks_cons, exB_append, kF_nrm, leave_eq, resD_nil, tupD_nil, and_self, List.append_nil, adOf_ptr, adD_ob, add_ob, putAt_eq', cellsOf_osl, notTup_osl, load1, store1, List.take_zero, List.drop_succ_cons, List.drop_zero, List.map_cons, List.map_nil, fieldAddrD, exO_load, Bool.or_self, Bool.or_true, Nat.add_zero, Nat.zero_add, Nat.succ_ne_zero, Nat.le_refl, Try.underlying31, sz31, ag31, kx_region (hcv _), Try.ntmps53, hres, h82, st49, hp, gcell_set hlt, hap, List.set_set, gc_len, List.length_set, ownD_tup, ownA_e, ownA_nf, leftT_tup, left_e, back, exO_mv, taken, consumes, isTmp, beq_self_eq_true, Nat.reduceBEq, tk_tmp, tkV_own, sh_tmp, shV_osl, ownD_nf, own0_nf, leftT_ex, left_ex, left0_ex, shr_nf, kep_osl]

theorem w55 (H : List O) (p : Nat) (cur : List UInt8) (a : D) (xs : List Int) (hp : getCells H p = some [slD cur]) (ha : Rd a (isE xs)) (hx : xs.length < 256) (hok : xs.all okN = true) (hc : cur.length ≤ 100000) :
    wc 55 [.ptr p 0, a] H = some (.val undefD, H.set p (.cells [slD (cur ++ listB xs)])) := by
  obtain ⟨hlt, hpe⟩ := getCells_lt hp
  have h83 := w83 a xs ha hx
  rw [hok] at h83
  simp only [if_true] at h83
  have hnl := numsL_len (xs := xs) (by simpa using hok)
  have hap := app_slD (c := cur) (ys := listB xs) (a := .e (.sl (byE (listB xs)))) slOf_e (by simp [listB]) (by simp [listB]; omega)
  obtain ⟨z, zs, hz⟩ : ∃ z zs, cur ++ listB xs = z :: zs := List.exists_cons_of_ne_nil (by simp [listB])
  rw [hz] at hap
  rw [hz, slD_cons]
  have hcv : ∀ i, wcv 55 i = [] := fun _ => rfl
  have hres : Try.f55.results.toList = [] := rfl
  rw [wc, call_fn rfl Try.func55 rfl]
  cases cur with
  | nil =>
    simp only [slD_nil, slD_cons] at hap hp
    simp only [enterT, List.length_cons, List.length_nil, Nat.reduceAdd, Nat.reduceSub, List.replicate, List.cons_append, List.nil_append, kx_seq, kSeq_nrm, ko_nil, ko_op, ko_builtin, ko_func, kT_some, kR_val, kR_val0, kC_val, List.getElem?_toArray, List.getElem?_cons_succ, List.getElem?_cons_zero, Option.bind_some, ne_eq, reduceCtorEq, not_false_eq_true, implies_true, Bool.false_eq_true, Option.map_some, List.set_cons_succ, List.set_cons_zero, List.getD_cons_succ, List.getD_cons_zero, own_e, own_osl, own_ptr, List.any_cons, List.any_nil, own0_osl, Bool.or_false, ↓reduceIte, exO_assign, exO_store, exO_nilCheck, exO_fieldAddr, exO_extract, tk_plain, sh_plain, rd_tmp, tks_nil, tks_cons, exB_append, kF_nrm, leave_eq, resD_nil, tupD_nil, and_self, List.append_nil, adOf_ptr, adD_ob, add_ob, putAt_eq', cellsOf_osl, notTup_osl, load1, store1, List.take_zero, List.drop_succ_cons, List.drop_zero, List.map_cons, List.map_nil, fieldAddrD, exO_load, Bool.or_self, Bool.or_true, Nat.add_zero, Nat.zero_add, Nat.succ_ne_zero, Nat.le_refl, Try.underlying31, sz31, ag31, kx_region (hcv _), Try.ntmps55, hres, ha.ownD, h83, st49, hp, hap, gc_len, List.length_set, ownD_tup, ownA_e, ownA_nf, leftT_tup, left_e, back, exO_mv, taken, consumes, isTmp, beq_self_eq_true, Nat.reduceBEq, tk_tmp, tkV_own, sh_tmp, shV_osl, ownD_nf, leftT_ex, left_ex, shr_nf, kep_osl]
  | cons y c =>
    simp only [slD_nil, slD_cons] at hap hp
    simp only [enterT, List.length_cons, List.length_nil, Nat.reduceAdd, Nat.reduceSub, List.replicate, List.cons_append, List.nil_append, kx_seq, kSeq_nrm, ko_nil, ko_op, ko_builtin, ko_func, kT_some, kR_val, kR_val0, kC_val, List.getElem?_toArray, List.getElem?_cons_succ, List.getElem?_cons_zero, Option.bind_some, ne_eq, reduceCtorEq, not_false_eq_true, implies_true, Bool.false_eq_true, Option.map_some, List.set_cons_succ, List.set_cons_zero, List.getD_cons_succ, List.getD_cons_zero, own_e, own_ptr, List.any_cons, List.any_nil, Bool.or_false, ↓reduceIte, exO_assign, exO_store, exO_nilCheck, exO_fieldAddr, exO_extract, tk_plain, sh_plain, rd_tmp, tks_nil, tks_cons, exB_append, kF_nrm, leave_eq, resD_nil, tupD_nil, and_self, List.append_nil, adOf_ptr, adD_ob, add_ob, putAt_eq', cellsOf_osl, notTup_osl, load1, store1, List.take_zero, List.drop_succ_cons, List.drop_zero, List.map_cons, List.map_nil, fieldAddrD, exO_load, Bool.or_self, Bool.or_true, Nat.add_zero, Nat.zero_add, Nat.succ_ne_zero, Nat.le_refl, Try.underlying31, sz31, ag31, kx_region (hcv _), Try.ntmps55, hres, ha.ownD, h83, st49, hp, gcell_set hlt, hap, List.set_set, gc_len, List.length_set, ownD_tup, ownA_e, ownA_nf, leftT_tup, left_e, back, exO_mv, taken, consumes, isTmp, beq_self_eq_true, Nat.reduceBEq, tk_tmp, tkV_own, sh_tmp, shV_osl, ownD_nf, own0_nf, leftT_ex, left_ex, left0_ex, shr_nf, kep_osl]

/-- A truth's number. -/
def bitZ (b : Bool) : Int := if b then 1 else 0
theorem isE1 {n : Int} : [[E.int .i64 n]] = isE [n] := rfl
theorem isE2 {n m : Int} : [[E.int .i64 n], [E.int .i64 m]] = isE [n, m] := rfl
theorem bs22_2 {a b : Int} : buildSliceD Try.prog 22 2 [(0, .e (.int .i64 a)), (1, .e (.int .i64 b))] = some (.osl true true 1 [[.int .i64 a], [.int .i64 b]]) := by
  simp [buildSliceD, el22, sz3, zeroCellsOf, zo3, replD, fillD, cellsOf, notTup, putAt, chunk, rowsE, toEs, toE]
theorem bs22_4 {a b c d : Int} : buildSliceD Try.prog 22 4 [(0, .e (.int .i64 a)), (1, .e (.int .i64 b)), (2, .e (.int .i64 c)), (3, .e (.int .i64 d))] = some (.osl true true 1 [[.int .i64 a], [.int .i64 b], [.int .i64 c], [.int .i64 d]]) := by
  simp [buildSliceD, el22, sz3, zeroCellsOf, zo3, replD, fillD, cellsOf, notTup, putAt, chunk, rowsE, toEs, toE]
theorem w49 (H : List O) (p : Nat) (cur : List UInt8) (b : Bool) (hp : getCells H p = some [slD cur]) (hc : cur.length ≤ 100000) :
    wc 49 [.ptr p 0, .bool b] H = some (.val undefD, H.set p (.cells [slD (cur ++ numsL [bitZ b])])) := by
  have hcv : ∀ i, wcv 49 i = [] := fun _ => rfl
  have hres : Try.f49.results.toList = [] := rfl
  rw [wc, call_fn rfl Try.func49 rfl]
  cases b
  · have h26 := w26 H p cur [0] hp (by simp [okN]) (by simp) hc
    simp only [enterT, List.length_cons, List.length_nil, Nat.reduceAdd, Nat.reduceSub, List.replicate, List.cons_append, List.nil_append, kx_seq, kx_cond_tmp, kCond_false, kSeq_nrm, ko_nil, ko_op, ko_func, kT_some, kR_val, kC_val, ne_eq, reduceCtorEq, not_false_eq_true, implies_true, Bool.false_eq_true, Option.map_some, List.set_cons_succ, List.set_cons_zero, List.getD_cons_succ, List.getD_cons_zero, own_e, own_ptr, List.any_cons, List.any_nil, ↓reduceIte, exO_buildSlice, tk_plain, sh_plain, sh_const, tks_nil, tks_cons, shs_nil, shs_cons, ofV_int, kF_nrm, leave_eq, resD_nil, tupD_nil, Option.some.injEq, Prod.mk.injEq, true_and, List.map_cons, List.map_nil, Bool.or_self, Bool.true_and, Nat.zero_add, kx_region (hcv _), Try.ntmps49, hres, List.zip_cons_cons, List.zip_nil_right, bs22_1, isE1, exO_mv, taken, consumes, tk_tmp, tkV_own, ownD_ex, leftT_ex, h26, gc_len, List.length_set]
    rfl
  · have h26 := w26 H p cur [1] hp (by simp [okN]) (by simp) hc
    simp only [enterT, List.length_cons, List.length_nil, Nat.reduceAdd, Nat.reduceSub, List.replicate, List.cons_append, List.nil_append, kx_seq, kx_cond_tmp, kCond_true, kSeq_nrm, ko_nil, ko_op, ko_func, kT_some, kR_val, kC_val, ne_eq, reduceCtorEq, not_false_eq_true, implies_true, Bool.false_eq_true, Option.map_some, List.set_cons_succ, List.set_cons_zero, List.getD_cons_succ, List.getD_cons_zero, own_e, own_ptr, List.any_cons, List.any_nil, ↓reduceIte, exO_buildSlice, tk_plain, sh_plain, sh_const, tks_nil, tks_cons, shs_nil, shs_cons, ofV_int, kF_nrm, leave_eq, resD_nil, tupD_nil, Option.some.injEq, Prod.mk.injEq, true_and, List.map_cons, List.map_nil, Bool.or_self, Bool.true_and, Nat.zero_add, kx_region (hcv _), Try.ntmps49, hres, List.zip_cons_cons, List.zip_nil_right, bs22_1, isE1, exO_mv, taken, consumes, tk_tmp, tkV_own, ownD_ex, leftT_ex, h26, gc_len, List.length_set]
    rfl

end Go.Abs

namespace Go.Abs
open Go Go.Proofs
set_option maxRecDepth 10000
set_option maxHeartbeats 4000000

theorem getCells_app {H ex : List O} {p : Nat} (hp : p < H.length) : getCells (H ++ ex) p = getCells H p := by simp [getCells, List.getElem?_append_left hp]
theorem gc_app0' {H l : List O} {a : O} {n : Nat} (hl : H.length = n) : getCells (H ++ a :: l) n = getCells (a :: l) 0 := by subst hl; exact gc_app0
theorem set_app {H ex : List O} {p : Nat} {o : O} (hp : p < H.length) : (H ++ ex).set p o = H.set p o ++ ex := List.set_append_left _ _ hp
theorem slD_fitO {n : Nat} {l : List UInt8} : FitO n (.cells [slD l]) := .cells _ (by simp [slD_fit])
def pairL (k : ByteArray) (v n : Int) (g : Bool) : List UInt8 := textL k ++ numsL [v, n] ++ numsL [bitZ g]

theorem w51 (H : List O) (p : Nat) (cur : List UInt8) (k : ByteArray) (v n : Int) (g : Bool) (hp : getCells H p = some [slD cur]) (hk : k.size < 256) (hv : okN v = true) (hn : okN n = true) (hc : cur.length ≤ 50000) :
    wc 51 [.ptr p 0, .agg (itemCs k v n g)] H = some (.val undefD, H.set p (.cells [slD (cur ++ pairL k v n g)])) := by
  obtain ⟨hlt, hpe⟩ := getCells_lt hp
  have l1 : (textL k).length ≤ 256 := by rw [textL_len]; omega
  have l2 : (numsL [v, n]).length ≤ 14 := numsL_len (xs := [v, n]) (by simp [hv, hn])
  have h53 := w53 (H ++ [.cells (itemCs k v n g)]) p cur k (by rw [getCells_app hlt]; exact hp) hk (by omega)
  rw [set_app hlt] at h53
  have h26 := w26 (H.set p (.cells [slD (cur ++ textL k)]) ++ [.cells (itemCs k v n g)]) p (cur ++ textL k) [v, n] (by rw [getCells_app (by simpa using hlt)]; exact gcell_set hlt) (by simp [hv, hn]) (by simp) (by simp; omega)
  rw [set_app (by simpa using hlt), List.set_set] at h26
  have h49 := w49 (H.set p (.cells [slD (cur ++ textL k ++ numsL [v, n])]) ++ [.cells (itemCs k v n g)]) p (cur ++ textL k ++ numsL [v, n]) g (by rw [getCells_app (by simpa using hlt)]; exact gcell_set hlt) (by simp; omega)
  rw [set_app (by simpa using hlt), List.set_set] at h49
  have hpl : cur ++ textL k ++ numsL [v, n] ++ numsL [bitZ g] = cur ++ pairL k v n g := by simp [pairL]
  rw [hpl] at h49
  have hgc : ∀ ex, gc H.length H (H.set p (.cells [slD (cur ++ pairL k v n g)]) ++ ex) undefD = H.set p (.cells [slD (cur ++ pairL k v n g)]) := fun ex => gc_set (.tup [] (by simp)) hpe slD_fitO
  simp only [itemCs] at h53 h26 h49
  have hcv : ∀ i, wcv 51 i = [] := fun _ => rfl
  have hres : Try.f51.results.toList = [] := rfl
  rw [wc, call_fn rfl Try.func51 rfl]
  simp only [enterT, List.length_cons, List.length_nil, Nat.reduceAdd, Nat.reduceSub, List.replicate, List.cons_append, List.nil_append, kx_seq, kSeq_nrm, ko_nil, ko_op, ko_func, kT_some, kR_val, kC_val, List.getElem?_cons_succ, List.getElem?_cons_zero, Option.bind_some, Nat.reduceLeDiff, ne_eq, reduceCtorEq, not_false_eq_true, implies_true, Bool.false_eq_true, Option.map_some, List.set_cons_succ, List.set_cons_zero, List.getD_cons_succ, List.getD_cons_zero, own_e, own_agg, own_ptr, List.any_cons, List.any_nil, own0_e, ↓reduceIte, exO_box, exO_buildSlice, exO_fieldAddr, tk_plain, sh_plain, rd_tmp, tks_nil, tks_cons, shs_nil, shs_cons, kF_nrm, leave_eq, resD_nil, tupD_nil, gc_hd, adOf_ptr, adD_ob, add_ob, cellsOf_agg, notTup_agg, load1, List.map_cons, List.map_nil, fieldAddrD, exO_load, Bool.or_self, Nat.add_zero, Nat.zero_add, Nat.succ_ne_zero, Nat.le_refl, sz3, sz4, sz9, ag3, ag4, ag9, st24, kx_region (hcv _), Try.ntmps51, hres, itemCs, h53, gc_app0', List.length_set, List.zip_cons_cons, List.zip_nil_right, bs22_2, isE2, h26, h49, hgc, back, exO_mv, taken, consumes, isTmp, tk_tmp, tkV_own, ownD_ex, leftT_ex]

end Go.Abs
