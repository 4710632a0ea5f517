/-
  WIRE: how long payloads are; Put. WIRE: the reader. WIRE: the reader, texts, lists, truths, pairs. WIRE: the reader, pairs. WIRE: a message's head, read. WIRE: a deferred call. WIRE: Read, what has no more than a head. WIRE: Read, what has no more than a head. No condition.
-/
import Derived.Test.YtkimilghfbgjmaaP23

namespace Go.Abs
open Go Go.Proofs
set_option maxRecDepth 10000
set_option maxHeartbeats 4000000

theorem digs_le : ∀ (k n : Nat), n < 256 ^ k → (digs n).length ≤ k := by
  intro k
  induction k with
  | zero => intro m hm; have : m = 0 := by simpa using hm
            subst this; rw [digs]; simp
  | succ k ih =>
    intro m hm
    rw [digs]
    split
    · have := ih (m / 256) (by rw [Nat.pow_succ] at hm; omega)
      simp; omega
    · simp
theorem putL_le (k n : Nat) (h : n < 256 ^ k) : (putL n).length ≤ k + 1 := by
  have := digs_le k n h
  simp [putL]; omega
theorem num1 {n : Int} : (numsL [n]).length = (putL n.toNat).length := by simp [numsL]
theorem bit_len {b : Bool} : (numsL [bitZ b]).length ≤ 2 := by rw [num1]; cases b <;> exact putL_le 1 _ (by decide)
theorem pair_len {k : ByteArray} {v n : Int} {g : Bool} (h : finePair k v n = true) : (pairL k v n g).length ≤ 31 := by
  rw [finePair_iff] at h
  have h1 := putL_le 3 v.toNat (by omega)
  have h2 := putL_le 3 n.toNat (by omega)
  have h3 := bit_len (b := g)
  simp only [pairL, List.length_append, textL_len, numsL, List.flatMap_cons, List.flatMap_nil, List.append_nil] at h3 ⊢
  omega
theorem place_len {n : Int} (h : isPlace n = true) : (numsL [n]).length ≤ 3 := by
  rw [isPlace_iff] at h
  rw [num1]; exact putL_le 2 _ (by omega)

theorem payL_len {m : Msg} (hf : m.Fits) : (payL m).length ≤ 46 := by
  have hp := asker_lt hf.frm hf.to
  have hk1 := hf.k1; have hk2 := hf.k2; have hc1 := hf.c1; have hc2 := hf.c2
  have a1 : (numsL [m.kind]).length ≤ 2 := by rw [num1]; exact putL_le 1 _ (by omega)
  have a2 : (numsL [m.call]).length ≤ 6 := by rw [num1]; exact putL_le 5 _ (by omega)
  have a3 := place_len hf.frm
  have a4 := place_len hf.to
  have hh : (headL m).length ≤ 14 := by
    simp only [headL, numsL, List.flatMap_cons, List.flatMap_nil, List.append_nil, List.length_append] at a1 a2 a3 a4 ⊢
    omega
  have hb : (bodyL m).length ≤ 32 := by
    have hfi := hf.fine
    unfold bodyL
    unfold Msg.fine at hfi
    split
    · rename_i k; rw [if_pos k] at hfi
      have := place_len hfi; have := bit_len (b := m.slow); simp; omega
    rename_i k4; rw [if_neg k4] at hfi
    split
    · rename_i k; rw [if_pos k] at hfi
      have := pair_len (g := m.gone) hfi; omega
    rename_i k5; rw [if_neg k5] at hfi
    split
    · rename_i k; rw [if_pos k, fineKey_iff] at hfi
      rw [textL_len]; omega
    rename_i k6; rw [if_neg k6] at hfi
    split
    · rename_i k; rw [if_pos k] at hfi
      simp only [Bool.and_eq_true, Bool.or_eq_true, beq_iff_eq] at hfi
      have b1 : (numsL [IntKind.i64.wrap (m.pred + 1)]).length ≤ 4 := by
        rw [num1]
        rcases hfi.1 with e | e
        · rw [e]; decide +kernel
        · rw [isPlace_iff] at e; rw [wrap64 (by omega) (by omega)]; exact putL_le 3 _ (by omega)
      have hli := hfi.2
      simp only [listZ, Bool.and_eq_true, decide_eq_true_eq] at hli
      have b2 : ∀ (xs : List Int), (∀ x ∈ xs, isPlace x = true) → (numsL xs).length ≤ 3 * xs.length := by
        intro xs
        induction xs with
        | nil => intro _; simp [numsL]
        | cons x xs ih =>
          intro hx
          have c1 := ih fun y hy => hx y (by simp [hy])
          have c2 := place_len (hx x (by simp))
          rw [num1] at c2
          simp only [numsL, List.flatMap_cons, List.length_append, List.length_cons] at c1 c2 ⊢
          omega
      have b3 := b2 m.list (fun x hx => by
        obtain ⟨j, hj⟩ := List.mem_iff_getElem?.1 hx
        exact (hli.1 j x (List.getElem?_eq_some_iff.1 hj).1 hj).1)
      simp only [List.length_append, listB, List.length_cons]; omega
    rename_i k7; rw [if_neg k7] at hfi
    split
    · rename_i k; rw [if_pos k] at hfi
      have := place_len hfi; have := bit_len (b := m.done); simp; omega
    rename_i k10; rw [if_neg k10] at hfi
    have codes : m.code = 0 ∨ m.code = 200 ∨ m.code = 201 → (numsL [m.code]).length ≤ 2 := by
      intro h
      rw [num1]
      rcases h with e | e | e <;> rw [e] <;> exact putL_le 1 _ (by decide)
    split
    · rename_i k; rw [if_pos k] at hfi
      simp only [Bool.or_eq_true, beq_iff_eq] at hfi
      have := codes (hfi.imp id .inl); omega
    rename_i k11; rw [if_neg k11] at hfi
    split
    · rename_i k; rw [if_pos k] at hfi
      simp only [Bool.or_eq_true, Bool.and_eq_true, beq_iff_eq] at hfi
      split
      · rename_i c0
        have c0 : m.code = 0 := by simpa using c0
        have hfp : finePair m.ikey m.ival m.iver = true := by
          rcases hfi with e | e
          · exact e.2
          · have := e.1; omega
        have := pair_len (g := m.gone) hfp
        have : (numsL [m.code]).length ≤ 1 := by rw [num1, c0]; exact putL_le 0 _ (by decide)
        simp; omega
      · have := codes (by rcases hfi with e | e; exact .inl e.1; exact .inr (.inr e.1))
        simp; omega
    · simp
  simp only [payL, List.length_append]; omega

theorem w9_bad (m : Msg) (l : D) (hl : Rd l (isE m.list)) (hx : m.list.length ≤ 1099511627776) (hr : m.right = false) (h : List O) : wc 9 [.agg (m.cs l)] h = some (.val (.tup [.osl false true 0 [], .int .i64 2]), h) := by
  have h12 := w12_bad m l hl hx hr
  have e1 : ((2 : Int) != 0) = true := by decide
  simp only [Msg.cs] at h12
  have hcv : ∀ i, wcv 9 i = [] := fun _ => rfl
  have hres : Try.f9.results.toList = [ResultVar.tmp 2, ResultVar.tmp 3] := rfl
  rw [wc, call_fn rfl Try.func9 rfl]
  simp only [enterT, List.length_cons, List.length_nil, Nat.reduceAdd, Nat.reduceSub, List.replicate, List.cons_append, List.nil_append, kx_seq, kx_ret, kx_cond_tmp, kCond_true, kSeq_nrm, kSeq_ret, ko_nil, ko_op, ko_func, kT_some, kR_val, kC_val, List.getElem?_cons_succ, List.getElem?_cons_zero, Option.bind_some, ne_eq, reduceCtorEq, not_false_eq_true, implies_true, Bool.false_eq_true, Option.map_some, List.set_cons_succ, List.set_cons_zero, List.getD_cons_succ, List.getD_cons_zero, own_e, own_osl, own_agg, List.any_cons, List.any_nil, own0_e, Bool.or_false, ↓reduceIte, exO_assign, exO_binOp, exO_box, exO_extract, tk_plain, sh_plain, tk_const, rd_tmp, rd_const, tks_nil, tks_cons, ofV_int, ofV_nilsl, binD_neq, arith_neq, kF_ret, leave_eq, resD_nil, resD_tmp, tupD_two, fit_e, fit_osl, fit_tup, List.forall_mem_cons, List.not_mem_nil, false_imp_iff, and_self, gc_app0, gc_hd, adOf_ptr, cellsOf_agg, notTup_agg, load1, gc_more, List.take_succ_cons, List.take_zero, List.drop_zero, exO_load, Bool.or_self, Bool.or_true, Nat.zero_add, Nat.le_refl, sz27, ag27, kx_region (hcv _), Try.ntmps9, hres, Msg.cs, hl.own, h12, e1, ownD_tup, ownA_e, ownA_osl0, back, exO_mv, taken, consumes, isTmp, beq_self_eq_true, Nat.reduceBEq]
theorem w9 (m : Msg) (l : D) (hl : Rd l (isE m.list)) (hx : m.list.length ≤ 1099511627776) (hr : m.right = true) (hf : m.Fits) (h : List O) : wc 9 [.agg (m.cs l)] h = some (.val (.tup [.osl false false 1 (byE (closeL (payL m))), .int .i64 0]), h) := by
  have h12 := w12 m l hl hx hr hf
  have hpl := payL_len hf
  have h19 := w19 (.e (.sl (byE (payL m)))) (payL m) Rd.e (by omega)
  rw [if_pos (show (payL m).length ≤ 112 by omega)] at h19
  have e1 : ((0 : Int) != 0) = false := by decide
  simp only [Msg.cs] at h12
  have hcv : ∀ i, wcv 9 i = [] := fun _ => rfl
  have hres : Try.f9.results.toList = [ResultVar.tmp 2, ResultVar.tmp 3] := rfl
  rw [wc, call_fn rfl Try.func9 rfl]
  simp only [enterT, List.length_cons, List.length_nil, Nat.reduceAdd, Nat.reduceSub, List.replicate, List.cons_append, List.nil_append, kx_seq, kx_skip, kx_ret, kx_cond_tmp, kCond_false, kSeq_nrm, ko_nil, ko_op, ko_func, kT_some, kR_val, kC_val, List.getElem?_cons_succ, List.getElem?_cons_zero, Option.bind_some, ne_eq, reduceCtorEq, not_false_eq_true, implies_true, Bool.false_eq_true, Option.map_some, List.set_cons_succ, List.set_cons_zero, List.getD_cons_succ, List.getD_cons_zero, own_e, own_agg, List.any_cons, List.any_nil, own0_e, Bool.or_false, ↓reduceIte, exO_assign, exO_binOp, exO_box, exO_extract, tk_plain, sh_plain, tk_const, rd_tmp, rd_const, tks_nil, tks_cons, ofV_int, ofV_nilsl, binD_neq, arith_neq, kF_ret, leave_eq, resD_nil, resD_tmp, tupD_two, fit_e, fit_osl, fit_tup, List.forall_mem_cons, List.not_mem_nil, false_imp_iff, and_self, gc_app0, gc_hd, adOf_ptr, cellsOf_agg, notTup_agg, notTup_osl, load1, gc_more, List.take_succ_cons, List.take_zero, List.drop_zero, List.map_cons, List.map_nil, exO_load, Bool.or_self, Nat.zero_add, Nat.le_refl, sz27, ag27, kx_region (hcv _), Try.ntmps9, hres, Msg.cs, hl.own, h12, e1, h19, ownD_tup, ownA_e, ownA_nf, leftT_tup, left_e, back, exO_mv, taken, consumes, isTmp, beq_self_eq_true, Nat.reduceBEq, tk_tmp, tkV_own, sh_tmp, shV_osl, ownD_nf, leftT_ex, leftT_nf, left_ex, left_nf, shr_nf, kep_osl]

end Go.Abs

namespace Go.Abs
open Go Go.Proofs
set_option maxRecDepth 10000
set_option maxHeartbeats 4000000

/-- What leaves by a panic. -/
def ferr : D := .e (.iface 25 (.int .i64 12))
def rdC (l : List UInt8) : D := .osl true false 1 (byE l)
def rdX (l : List UInt8) : D := .osl false false 1 (byE l)

theorem w61_ok (H : List O) (p : Nat) (l rest : List UInt8) (n : Nat) (hp : getCells H p = some [rdC l]) (hl : l.length ≤ 100000) (ht : takeB l = .ok n rest) :
    wc 61 [.ptr p 0] H = some (.val (.int .i64 (n : Int)), H.set p (.cells [rdC rest])) := by
  obtain ⟨hlt, hpe⟩ := getCells_lt hp
  have h84 := w84 (.e (.sl (byE l))) l Rd.e hl
  rw [ht] at h84
  simp only [TakeR.d] at h84
  have h33 := w33 true
  have e0 : ((0 : Int) == 0) = true := by decide
  simp only [rdC] at hp ⊢
  have hcv : ∀ i, wcv 61 i = [] := fun _ => rfl
  have hres : Try.f61.results.toList = [ResultVar.tmp 2] := rfl
  rw [wc, call_fn rfl Try.func61 rfl]
  simp only [enterT, List.length_cons, List.length_nil, Nat.reduceSub, List.replicate, List.cons_append, List.nil_append, kx_seq, kx_ret, kSeq_nrm, ko_nil, ko_op, ko_func, kT_some, kR_val, kR_val0, kC_val, List.getElem?_cons_succ, List.getElem?_cons_zero, Option.bind_some, ne_eq, reduceCtorEq, not_false_eq_true, implies_true, Bool.false_eq_true, Option.map_some, List.set_cons_succ, List.set_cons_zero, List.getD_cons_succ, List.getD_cons_zero, own_e, own_ptr, List.any_cons, List.any_nil, Bool.or_false, ↓reduceIte, exO_assign, exO_binOp, exO_store, exO_nilCheck, exO_fieldAddr, exO_extract, tk_plain, sh_plain, tk_const, rd_tmp, rd_const, tks_nil, tks_cons, ofV_int, binD_eql, arith_eql, kF_ret, leave_eq, resD_nil, resD_tmp, tupD_one, and_self, shr0_osl', List.append_nil, adOf_ptr, adD_ob, add_ob, putAt_eq', cellsOf_osl, notTup_osl, load1, store1, List.take_zero, List.drop_succ_cons, List.drop_zero, List.map_cons, List.map_nil, fieldAddrD, exO_load, Bool.or_self, Bool.or_true, Nat.add_zero, Nat.zero_add, Nat.succ_ne_zero, Nat.le_refl, sz31, ag31, kx_region (hcv _), Try.ntmps61, hres, st58, hp, h84, e0, h33, List.set_set, gcell_set hlt, gc_len, List.length_set, ownD_tup, ownA_e, ownA_nf, leftT_tup, left_e, back, exO_mv, taken, consumes, isTmp, beq_self_eq_true, Nat.reduceBEq, tk_tmp, tkV_own, ownD_nf, own0_nf, leftT_ex, left_ex, kep0_osl]

end Go.Abs

namespace Go.Abs
open Go Go.Proofs
set_option maxRecDepth 10000
set_option maxHeartbeats 4000000

def parN (l : List UInt8) : Option (Nat × List UInt8) := match takeB l with | .ok n r => some (n, r) | _ => none
def parL (l : List UInt8) : Option (List Nat × List UInt8) := match takeL l with | .ok q => some q | .error _ => none
def parB (l : List UInt8) : Option (Bool × List UInt8) := match parN l with | some (n, r) => if n < 2 then some (n == 1, r) else none | none => none
theorem parN_len {l r : List UInt8} {n : Nat} (h : parN l = some (n, r)) : r.length ≤ l.length := by
  unfold parN at h
  cases ht : takeB l with
  | ok n' r' => rw [ht] at h; simp at h; obtain ⟨_, rfl⟩ := h; exact takeB_rest ht
  | _ => rw [ht] at h; simp at h

theorem rdC_fit {n : Nat} {l : List UInt8} : Fit n (rdC l) := .osl _ _ _ _
section
variable (H : List O) (p : Nat) (l : List UInt8) (hp : getCells H p = some [rdC l]) (hl : l.length ≤ 100000)
  include hp hl
theorem r61_ok {n : Nat} {rest : List UInt8} (ht : parN l = some (n, rest)) : wc 61 [.ptr p 0] H = some (.val (.int .i64 (n : Int)), H.set p (.cells [rdC rest])) := by
  refine w61_ok H p l rest n hp hl ?_
  unfold parN at ht
  cases hb : takeB l with
  | ok n' r' => rw [hb] at ht; simp at ht; obtain ⟨rfl, rfl⟩ := ht; rfl
  | _ => rw [hb] at ht; simp at ht
end

end Go.Abs

namespace Go.Abs
open Go Go.Proofs
set_option maxRecDepth 10000
set_option maxHeartbeats 4000000

structure ItemV where
  key : List UInt8
  val : Nat
  ver : Nat
  gone : Bool
def parP (l : List UInt8) : Option (ItemV × List UInt8) := match takeT l with
  | some (s, r) => match parN r with
    | some (v, r) => match parN r with
      | some (n, r) => match parB r with
        | some (g, r) => some (⟨s, v, n, g⟩, r)
        | none => none
      | none => none
    | none => none
  | none => none
section
variable (H : List O) (p : Nat) (l : List UInt8) (hp : getCells H p = some [rdC l]) (hl : l.length ≤ 100000)
  include hp hl
end

end Go.Abs

namespace Go.Abs
open Go Go.Proofs
set_option maxRecDepth 10000
set_option maxHeartbeats 4000000

theorem own0_ptr {i o : Nat} : own0 (.ptr i o) = false := of_decide_eq_true rfl
theorem w32 (p : Nat) (h : List O) : wc 32 [.ptr p 0] h = some (.val (.func (.func 60) [] [.ptr h.length 0]), h ++ [.cells [.ptr p 0]]) := by
  have hcv : ∀ i, wcv 32 i = [] := fun _ => rfl
  have hres : Try.f32.results.toList = [ResultVar.tmp 2] := rfl
  rw [wc, call_fn rfl Try.func32 rfl]
  simp only [enterT, List.length_cons, List.length_nil, Nat.reduceSub, List.replicate, List.cons_append, List.nil_append, kx_seq, kx_ret, kSeq_nrm, ko_nil, ko_op, kR_val, ne_eq, reduceCtorEq, not_false_eq_true, implies_true, Option.map_some, List.set_cons_succ, List.set_cons_zero, List.getD_cons_succ, List.getD_cons_zero, own_ptr, own_func, ↓reduceIte, exO_assign, exO_box, exO_makeFunc, tk_plain, sh_plain, tk_const, shs_nil, shs_cons, ofV_nilfn, kF_ret, leave_eq, resD_nil, resD_tmp, tupD_one, Option.some.injEq, Prod.mk.injEq, true_and, cellsOf_ptr, notTup_ptr, Bool.true_and, Nat.zero_add, kx_region (hcv _), Try.ntmps32, hres]
  rw [gc_not]
  simp [fit_func, fit_ptr]

def readsM (q : Nat) : List (E × D) := [(.int .u8 4, .func (.func 62) [] [.ptr q 0]), (.int .u8 5, .func (.func 64) [] [.ptr q 0]), (.int .u8 6, .func (.func 66) [] [.ptr q 0]), (.int .u8 7, .func (.func 68) [] [.ptr q 0]), (.int .u8 10, .func (.func 70) [] [.ptr q 0]), (.int .u8 11, .func (.func 71) [] [.ptr q 0]), (.int .u8 12, .func (.func 72) [] [.ptr q 0])]
theorem w34 (p : Nat) (h : List O) : wc 34 [.ptr p 0] h = some (.val (.map (h.length + 1)), h ++ [.cells [.ptr p 0], .map (readsM h.length)]) := by
  have hcv : ∀ i, wcv 34 i = [] := fun _ => rfl
  have hres : Try.f34.results.toList = [ResultVar.tmp 2] := rfl
  rw [wc, call_fn rfl Try.func34 rfl]
  simp only [enterT, List.length_cons, List.length_nil, Nat.reduceSub, List.replicate, List.cons_append, List.nil_append, kx_seq, kx_ret, kSeq_nrm, ko_nil, ko_op, kR_val, kR_val0, List.getElem?_cons_succ, List.getElem?_cons_zero, ne_eq, reduceCtorEq, not_false_eq_true, implies_true, Option.map_some, List.set_cons_succ, List.set_cons_zero, List.getD_cons_succ, List.getD_cons_zero, own_ptr, own_func, own_map, ↓reduceIte, exO_move_tmp, exO_assign, exO_box, exO_makeFunc, exO_makeMap, tk_plain, sh_plain, tk_const, rd_tmp, rd_const, shs_nil, shs_cons, ofV_int, kF_ret, leave_eq, resD_nil, resD_tmp, tupD_one, and_true, Option.some.injEq, Prod.mk.injEq, true_and, hsetn, hlen, hpush, hgetn, cellsOf_ptr, notTup_ptr, Bool.and_true, Bool.true_and, Nat.zero_add, kx_region (hcv _), Try.ntmps34, hres, exO_insert, mp65, key5, plain_func, setD_nil, setD_ne, Int.reduceBEq, ofV_nilmap]
  rw [gc_not]
  · rfl
  · intro hf; cases hf; omega

/-- A head's numbers, one by one. -/
structure Heads (l0 l4 : List UInt8) (n0 n1 n2 n3 : Nat) : Prop where
  ex : ∃ l1 l2 l3, parN l0 = some (n0, l1) ∧ parN l1 = some (n1, l2) ∧ parN l2 = some (n2, l3) ∧ parN l3 = some (n3, l4)

theorem w60 (h : List O) (cM cE lo : O) (l0 l4 : List UInt8) (n0 n1 n2 n3 : Nat) (z0 z1 z2 z3 : D) (hl : l0.length ≤ 100000) (hh : Heads l0 l4 n0 n1 n2 n3)
    (hr : ∀ (l : List UInt8) (hs : List D) (i : Nat) (n : Nat), i < 4 → hs.length = 4 → call Try.prog wpr wcv (.round (h.length + 5)) [.int .i64 (i : Int), .int .i64 (n : Int)] (h ++ [cM, cE, .cells [rdC l], .cells hs, .cells [.ptr (h.length + 2) 0], lo]) =
      some (.val (.bool true), h ++ [cM, cE, .cells [rdC l], .cells (hs.set i (.int .i64 (n : Int))), .cells [.ptr (h.length + 2) 0], lo])) :
    wc 60 [.func (.yield (h.length + 5)) [] [], .ptr (h.length + 4) 0] (h ++ [cM, cE, .cells [rdC l0], .cells [z0, z1, z2, z3], .cells [.ptr (h.length + 2) 0], lo]) =
      some (.val undefD, h ++ [cM, cE, .cells [rdC l4], .cells [.int .i64 (n0 : Int), .int .i64 (n1 : Int), .int .i64 (n2 : Int), .int .i64 (n3 : Int)], .cells [.ptr (h.length + 2) 0], lo]) := by
  obtain ⟨l1, l2, l3, p0, p1, p2, p3⟩ := hh.ex
  have b0 := parN_len p0
  have b1 := parN_len p1
  have b2 := parN_len p2
  have e0 := r61_ok (h ++ [cM, cE, .cells [rdC l0], .cells [z0, z1, z2, z3], .cells [.ptr (h.length + 2) 0], lo]) (h.length + 2) l0 (by simp [getCells]) hl p0
  have e1 := r61_ok (h ++ [cM, cE, .cells [rdC l1], .cells [.int .i64 (n0 : Int), z1, z2, z3], .cells [.ptr (h.length + 2) 0], lo]) (h.length + 2) l1 (by simp [getCells]) (by omega) p1
  have e2 := r61_ok (h ++ [cM, cE, .cells [rdC l2], .cells [.int .i64 (n0 : Int), .int .i64 (n1 : Int), z2, z3], .cells [.ptr (h.length + 2) 0], lo]) (h.length + 2) l2 (by simp [getCells]) (by omega) p2
  have e3 := r61_ok (h ++ [cM, cE, .cells [rdC l3], .cells [.int .i64 (n0 : Int), .int .i64 (n1 : Int), .int .i64 (n2 : Int), z3], .cells [.ptr (h.length + 2) 0], lo]) (h.length + 2) l3 (by simp [getCells]) (by omega) p3
  have r0 := hr l1 [z0, z1, z2, z3] 0 n0 (by omega) rfl
  have r1 := hr l2 [.int .i64 (n0 : Int), z1, z2, z3] 1 n1 (by omega) rfl
  have r2 := hr l3 [.int .i64 (n0 : Int), .int .i64 (n1 : Int), z2, z3] 2 n2 (by omega) rfl
  have r3 := hr l4 [.int .i64 (n0 : Int), .int .i64 (n1 : Int), .int .i64 (n2 : Int), z3] 3 n3 (by omega) rfl
  have w0 : IntKind.i64.wrap (0 + 1) = 1 := by decide
  have w1 : IntKind.i64.wrap (1 + 1) = 2 := by decide
  have w2 : IntKind.i64.wrap (2 + 1) = 3 := by decide
  have w3 : IntKind.i64.wrap (3 + 1) = 4 := by decide
  have c0 : ((0 : Nat) : Int) = 0 := rfl
  have c1 : ((1 : Nat) : Int) = 1 := rfl
  have c2 : ((2 : Nat) : Int) = 2 := rfl
  have c3 : ((3 : Nat) : Int) = 3 := rfl
  rw [c0] at r0; rw [c1] at r1; rw [c2] at r2; rw [c3] at r3
  simp only [hsetn, List.set_cons_succ, List.set_cons_zero] at e0 e1 e2 e3 r0 r1 r2 r3
  have hcv : ∀ i, wcv 60 i = [] := fun _ => rfl
  have hres : Try.f60.results.toList = [] := rfl
  rw [wc, call_fn rfl Try.func60 rfl]
  simp only [enterT, List.length_cons, List.length_nil, Nat.reduceAdd, Nat.reduceSub, List.replicate, List.cons_append, List.nil_append, kx_seq, kx_skip, kx_exit, kx_block, kx_cond_tmp, kCond_true, kCond_false, kSeq_nrm, kSeq_ext, kBlk_nrm, kBlk_ext, kLoop_nrm, kLoop_ext, ko_nil, ko_op, ko_func, kT_some, kR_val, kC_val, List.getElem?_cons_zero, Option.bind_some, Nat.reduceLT, ne_eq, reduceCtorEq, not_false_eq_true, implies_true, Bool.not_true, Bool.false_eq_true, Option.map_some, List.set_cons_succ, List.set_cons_zero, List.getD_cons_succ, List.getD_cons_zero, own_e, own_ptr, own_func, ↓reduceIte, exO_move_tmp, exO_move_const, exO_assign, exO_binOp, exO_unOp, tk_plain, rd_tmp, rd_const, tks_nil, tks_cons, ofV_int, binD_add, binD_lss, Int.reduceLT, arith_add, arith_lss, unD_not, kF_nrm, leave_eq, resD_nil, tupD_nil, gc_appn, gc_hd, gc_tl, hlen, adOf_ptr, load1, exO_load, Nat.zero_add, Nat.le_refl, kx_region (hcv _), Try.ntmps60, hres, kx_loop, decide_true, decide_false, sz56, ag56, own0_ptr, e0, e1, e2, e3, ko_val, kY_yield, r0, r1, r2, r3, w0, w1, w2, w3, gc_len]

end Go.Abs

namespace Go.Abs
open Go Go.Proofs
set_option maxRecDepth 10000
set_option maxHeartbeats 4000000

section
variable {P : Program} {pr : FuncId → List D → Option D} {cv : FuncId → Nat → List Cv} {β : Type} {fn : Func} {h h' : List O} {tl : List D} {df : List (FuncId × List D)} {r : Rc} {g f : FuncId} {args : List D} {d : D} {s : St} {l : List Oper} {dst : Option Tmp} {ty : TypeId} {pos : String} {af : Array Edge} {gu : Option (Nat × Bool)}
theorem exO_defer {fo : Operand} {xs : Array Operand} {ats : Array TypeId} : exOp P l ⟨dst, .defer { callee := .value fo, args := xs, argTypes := ats }, ty, pos, af, gu⟩ s = match s.r with
      | .rnd _ => none
      | _ => match rd s fo, shs s xs.toList with
        | some (.func (.func g) first cap), some (ds, s1) => if (first ++ cap).any ownD then none else some (.val undefD, { s1 with d := (g, first ++ ds ++ cap) :: s1.d })
        | _, _ => none := rfl
theorem exO_ta {x : Operand} {t0 t : TypeId} {ok : Bool} : exOp P l ⟨dst, .typeAssert x t0 t ok, ty, pos, af, gu⟩ s = match rd s x, P.underlying t with
    | some d, some u => if isIface u then none else
      match d with
        | .e (.iface t' v) => if t' = t then some (.val (if ok then .tup [.e v, .bool true] else .e v), s)
          else if ok then (zeroOf P t).map fun z => (.val (.tup [z, .bool false]), s) else none
        | .e .nilif => if ok then (zeroOf P t).map fun z => (.val (.tup [z, .bool false]), s) else none
        | _ => none
    | _, _ => none := rfl
noncomputable def kU (P : Program) (fn : Func) (h : List O) (tl : List D) (u : Option D) (r : Option (Out × List O)) : Option (Out × List O) :=
  match r with
  | some (.val _, h2) => leave P fn h u tl h2
  | some (.rcv _, h2) => leave P fn h none tl h2
  | _ => none
theorem undo_one {u : Option D} : (undo P pr cv [(g, args)] u h').bind (fun q => leave P fn h q.1 tl q.2) = kU P fn h tl u (call P pr cv (.dfn g u) args h') := by
  rw [undo]
  cases hc : call P pr cv (.dfn g u) args h' with
  | none => rfl
  | some q =>
    obtain ⟨o, h2⟩ := q
    cases o <;> simp [kU, undo_nil]
theorem kF_ret1 : kF P pr cv fn h (.ret, ⟨tl, [(g, args)], r, h'⟩) = kU P fn h tl none (call P pr cv (.dfn g none) args h') := undo_one
theorem kF_pan1 : kF P pr cv fn h (.pan d, ⟨tl, [(g, args)], r, h'⟩) = kU P fn h tl (some d) (call P pr cv (.dfn g (some d)) args h') := undo_one
theorem kU_val {u : Option D} {d' : D} : kU P fn h tl u (some (.val d', h')) = leave P fn h u tl h' := rfl
theorem kU_rcv {u : Option D} {d' : D} : kU P fn h tl u (some (.rcv d', h')) = leave P fn h none tl h' := rfl
def rcU : Option D → Rc
  | some d => .avail d
  | none => .nil
theorem call_dfn {u : Option D} {c : Code} (h1 : P.funcs[f]? = some fn) (h2 : bodyOf fn = some c) (h3 : fn.results.isEmpty = true) :
    call P pr cv (.dfn f u) args h = kx P pr cv f c { t := enterT fn args, d := [], r := rcU u, h := h } dfnOut := by
  rw [call.eq_def]; simp only [h1, h2, h3, if_true]
  cases u <;> rfl
theorem dfn_nil : dfnOut (.nrm, ⟨tl, [], .nil, h⟩) = some (.val undefD, h) := rfl
theorem dfn_took : dfnOut (.nrm, ⟨tl, [], .took, h⟩) = some (.rcv undefD, h) := rfl
theorem exB_rec_nil {ats : Array TypeId} : exBuiltin P .recover ats [] ⟨tl, df, .nil, h⟩ = some (.val (.e .nilif), ⟨tl, df, .nil, h⟩) := rfl
theorem exB_rec_av {ats : Array TypeId} : exBuiltin P .recover ats [] ⟨tl, df, .avail d, h⟩ = some (.val d, ⟨tl, df, .took, h⟩) := rfl
theorem binI_nil {t : TypeId} {ms : Array (String × TypeId)} (hu : P.underlying t = some (.interface ms)) : binD P .neq t (.e .nilif) (.e .nilif) true = some (.e (.bool false)) := by simp [binD, nilCmp, hu]
theorem binI_some {t t' : TypeId} {x : E} {ms : Array (String × TypeId)} (hu : P.underlying t = some (.interface ms)) : binD P .neq t (.e (.iface t' x)) (.e .nilif) true = some (.e (.bool true)) := by simp [binD, nilCmp, hu]
end

def msg0 : Msg := { kind := 0, call := 0, frm := 0, to := 0, key := 0, slow := false, done := false, place := 0, pred := 0, list := [], ikey := { data := #[] }, ival := 0, iver := 0, gone := false, code := 0 }
theorem build27_nil : buildD Try.prog 27 [] = some (.agg (msg0.cs (.osl false true 0 []))) := by
  simp [buildD, zo27, Try.underlying27, fillD, sz3, sz4, sz5, sz9, sz22, sz24, sz25, Msg.cs, msg0]

theorem w30_no (a b : Nat) (H : List O) : call Try.prog wpr wcv (.dfn 30 none) [.ptr a 0, .ptr b 0] H = some (.val undefD, H) := by
  have hcv : ∀ i, wcv 30 i = [] := fun _ => rfl
  have hres : Try.f30.results.toList = [] := rfl
  rw [call_dfn Try.func30 rfl rfl]
  simp only [enterT, List.length_cons, List.length_nil, Nat.reduceAdd, Nat.reduceSub, List.replicate, List.cons_append, List.nil_append, kx_seq, kx_skip, kx_cond_tmp, kCond_false, kSeq_nrm, ko_nil, ko_op, ko_builtin, kR_val, ne_eq, reduceCtorEq, not_false_eq_true, implies_true, Option.map_some, List.set_cons_succ, List.set_cons_zero, List.getD_cons_succ, List.getD_cons_zero, own_e, exO_move_tmp, exO_assign, exO_binOp, tk_plain, rd_tmp, rd_const, ofV_nilif, Nat.zero_add, kx_region (hcv _), Try.ntmps30, rcU, exB_rec_nil, isConst_const, binI_nil Try.underlying20, dfn_nil]
theorem w30 (h ex : List O) (cM : List D) (e0 : D) (hM : cM.length = 15) : call Try.prog wpr wcv (.dfn 30 (some ferr)) [.ptr h.length 0, .ptr (h.length + 1) 0] (h ++ .cells cM :: .cells [e0] :: ex) =
    some (.rcv undefD, h ++ .cells (msg0.cs (.osl false true 0 [])) :: .cells [.int .i64 12] :: ex) := by
  have e1 := build27_nil
  simp only [Msg.cs] at e1
  have hM2 : (15 ≤ cM.length) := by omega
  have hM3 : List.drop 15 cM = [] := List.drop_of_length_le (by omega)
  have hcv : ∀ i, wcv 30 i = [] := fun _ => rfl
  have hres : Try.f30.results.toList = [] := rfl
  rw [call_dfn Try.func30 rfl rfl]
  simp only [enterT, List.length_cons, List.length_nil, Nat.reduceAdd, Nat.reduceSub, List.replicate, List.cons_append, List.nil_append, kx_seq, kx_cond_tmp, kCond_true, kSeq_nrm, ko_nil, ko_op, ko_builtin, kR_val, ne_eq, reduceCtorEq, not_false_eq_true, implies_true, Option.map_some, List.set_cons_succ, List.set_cons_zero, List.getD_cons_succ, List.getD_cons_zero, own_e, exO_move_tmp, exO_assign, exO_binOp, tk_plain, rd_tmp, rd_const, ofV_nilif, Nat.zero_add, kx_region (hcv _), Try.ntmps30, rcU, ferr, exB_rec_av, isConst_const, binI_some Try.underlying20]
  refine (kx_draw (l := plan30_2) (by exact plan30_2_eq)).trans ?_
  simp only [List.length_cons, List.length_nil, Nat.reduceAdd, List.nil_append, List.getElem?_toArray, List.getElem?_cons_succ, List.getElem?_cons_zero, Option.bind_some, ne_eq, reduceCtorEq, not_false_eq_true, implies_true, Bool.not_false, Bool.false_eq_true, Option.map_some, List.set_cons_succ, List.set_cons_zero, List.getD_cons_succ, List.getD_cons_zero, own_e, own_agg, List.any_cons, List.any_nil, own0_e, own0_osl, ↓reduceIte, exO_build, exO_store, tk_plain, rd_tmp, tks_nil, and_self, List.toList_toArray, kd_nil, kd_l, kdL_some, kdV_some, sealD_plain, preSeal_nil, preSeal_move, preSeal_other, exL_move, exL_gen, outV_some, ownOp_tmp, lo_build, lo_typeAssert, Op.operands, Call.operands, preCv, List.foldl_nil, List.append_nil, gc_app0, gc_appn, gc_hd, gc_tl, hset0, hsetn, adOf_ptr, putAt_eq', cellsOf_agg, cellsOf_e, notTup_agg, notTup_e, store1, List.take_zero, List.drop_succ_cons, List.drop_zero, List.map_nil, Bool.or_self, Nat.zero_add, Nat.le_refl, Try.underlying25, sz25, sz27, hcv, kd_h, kdHO_some, kdK_op, kdE_val0, calmAt_eq, again_nil, excD_e, List.all_cons, List.all_nil, Bool.and_self, plan30_2, e1, List.zip_nil_right, exO_ta, isIface, Msg.cs, hM3, hM, dfn_took]

end Go.Abs

namespace Go.Abs
open Go Go.Proofs
set_option maxRecDepth 10000
set_option maxHeartbeats 4000000

theorem ix59 {k i : Nat} (h : i < 4) : indexAddrD Try.prog 59 (.ptr k 0) (.e (.int .i64 (i : Int))) = some (.ptr k i) := by
  unfold indexAddrD
  rw [Try.underlying59]
  simp only [sz3, adOf]
  rw [if_pos ⟨by omega, by omega, by omega⟩]
  simp [adD, Ad.add]
theorem ix59_0 {k : Nat} : indexAddrD Try.prog 59 (.ptr k 0) (.e (.int .i64 0)) = some (.ptr k 0) := ix59 (i := 0) (by omega)
theorem ix59_1 {k : Nat} : indexAddrD Try.prog 59 (.ptr k 0) (.e (.int .i64 1)) = some (.ptr k 1) := ix59 (i := 1) (by omega)
theorem ix59_2 {k : Nat} : indexAddrD Try.prog 59 (.ptr k 0) (.e (.int .i64 2)) = some (.ptr k 2) := ix59 (i := 2) (by omega)
theorem ix59_3 {k : Nat} : indexAddrD Try.prog 59 (.ptr k 0) (.e (.int .i64 3)) = some (.ptr k 3) := ix59 (i := 3) (by omega)
theorem put_set {hs : List D} {i : Nat} {d : D} (h : i < hs.length) : List.take i hs ++ [d] ++ List.drop (i + 1) hs = hs.set i d := by
  rw [List.set_eq_take_append_cons_drop, if_pos h]; simp
theorem build58 {d : D} (h1 : cellsOf d = [d]) (h2 : notTup d = true) : buildD Try.prog 58 [(0, d)] = some (.agg [d]) := by
  simp only [buildD, zo58, Try.underlying58]
  simp [sz31, fillD, h1, h2, putAt]
def headM (n0 n1 n2 n3 : Nat) : Msg := { kind := n0, call := n1, frm := n2, to := n3, key := 0, slow := false, done := false, place := 0, pred := 0, list := [], ikey := { data := #[] }, ival := 0, iver := 0, gone := false, code := 0 }

theorem leftT_agg {cs : List D} : leftT (.agg cs) = .agg (cs.map left0) := rfl
theorem shrT_hdr {n : Nat} : shrT (.hdr n) = .hdr n := rfl
theorem shrT_agg {cs : List D} : shrT (.agg cs) = .agg (cs.map shr0) := rfl
theorem kep_hdr {n : Nat} : kep (.hdr n) = .hdr n := rfl
theorem kep_agg {cs : List D} : kep (.agg cs) = .agg (cs.map kep0) := rfl
theorem shr0_hdr {n : Nat} : shr0 (.hdr n) = .hdr n := rfl
theorem kep0_hdr {n : Nat} : kep0 (.hdr n) = .hdr n := rfl

/-- Numbers that are shared. -/
def lsD (l : List Nat) : D := match l with
  | [] => .osl false true 0 []
  | n :: l => .e (.sl (isE (intsN (n :: l))))
theorem lsD_rd (l : List Nat) : Rd (lsD l) (isE (intsN l)) := by cases l <;> first | exact Rd.osl | exact Rd.e
/-- Numbers that one had. -/
def lrD (l : List Nat) : D := match l with
  | [] => .osl false true 0 []
  | n :: l => .osl false false 1 (isE (intsN (n :: l)))
theorem kep0_e {x : E} : kep0 (.e x) = .e x := rfl
/-- The code from a region on. -/
def fromR (n : Nat) : Code → Option Code
  | .seq (.region i a b) r => if i = n then some (.seq (.region i a b) r) else fromR n r
  | .seq a r => (fromR n a).or (fromR n r)
  | _ => none
noncomputable def tl17 : Option Code := Try.f17.body.bind (fromR 13)

theorem w17_tail (zs : List D) (m : Msg) (ns : List Nat) (l5 : List UInt8) (h ex : List O) (c : Code) (hc : tl17 = some c) (hm : m.list = intsN ns) (hx5 : l5.length ≤ 100000) (hn : ns.length ≤ 1000) :
    kx Try.prog wpr wcv 17 c ⟨mkT [none, none, some (.ptr h.length 0), some (.ptr (h.length + 1) 0), some (.ptr (h.length + 2) 0), none, none, none, none, none, none, none, none, none, none, none, none, none, none, none, none, none, none, none, none, none, none, none, none, none, none, none, none, none, none, none, none, none, none, none, none, none, none, none, none, none, none, none, none, none, none, none, none, none, none, none] zs 0, [(30, [.ptr h.length 0, .ptr (h.length + 1) 0])], .no, h ++ .cells (m.cs (slN ns)) :: .cells [.int .i64 0] :: .cells [rdC l5] :: ex⟩ (kF Try.prog wpr wcv Try.f17 h) =
      some (.val (if l5 = [] ∧ m.right = true then .tup [.agg (m.cs (lrD ns)), .int .i64 0] else .tup [.agg (msg0.cs (.osl false true 0 [])), .int .i64 12]), h) := by
  have h25 := w25 m (lsD ns) (by rw [hm]; exact lsD_rd ns) (by rw [hm]; simp [intsN]; omega)
  have h33t := w33 true
  have h33f := w33 false
  obtain rfl := Option.some.inj ((rfl : tl17 = some _).symm.trans hc)
  have l0 : ∀ H, len0 Try.prog 31 (.e (.sl (byE l5))) H = some l5.length := fun H => by rw [len31e]; simp [byE]
  have hcv : ∀ i, wcv 17 i = [] := fun _ => rfl
  have hres : Try.f17.results.toList = [ResultVar.cell 2 27, ResultVar.cell 3 25] := rfl
  cases l5 with
  | cons b l5 =>
    have e1 : (((l5.length + 1 : Nat) : Int) == 0) = false := by simp; omega
    have e2 : (b :: l5 = []) = False := by simp
    have h30 := w30 h (.cells [rdX (b :: l5)] :: ex) (m.cs (slN ns)) (.int .i64 0) rfl
    simp only [ferr, rdX] at h30
    simp only [List.length_cons] at l0
    simp only [Msg.cs, msg0] at h30
    simp only [List.length_cons, List.length_nil, Nat.reduceAdd, List.nil_append, kx_seq, kSeq_pan, ko_op, ko_builtin, ko_func, kT_some, ko_guard, kR_val, kC_pan, kG_no, St.put, List.getElem?_toArray, List.getElem?_cons_succ, List.getElem?_cons_zero, Option.bind_some, Nat.reduceLT, ne_eq, reduceCtorEq, not_false_eq_true, implies_true, Bool.not_true, Bool.false_eq_true, Option.map_some, List.set_cons_succ, List.set_cons_zero, List.getD_cons_succ, List.getD_cons_zero, own_e, own_ptr, List.any_cons, List.any_nil, own0_e, own0_osl, ↓reduceIte, exO_binOp, exO_pick, exO_nilCheck, exO_fieldAddr, tk_plain, sh_plain, sh_const, rd_tmp, rd_const, tks_nil, tks_cons, ofV_int, ofV_bool, binD_eql, Int.reduceLT, arith_eql, exB_len, leave_eq, resD_nil, resD_cell, tupD_two, fit_e, fit_osl, fit_tup, fit_agg, List.forall_mem_cons, List.not_mem_nil, false_imp_iff, and_self, Option.some.injEq, Prod.mk.injEq, shr0_osl', mkT, List.append_nil, gc_app0, gc_appn, gc_hd, gc_tl, hsetn, adOf_ptr, adD_ob, add_ob, putAt_eq', load1, gc_more, List.take_succ_cons, List.take_zero, List.drop_succ_cons, List.drop_zero, fieldAddrD, Option.bind_eq_bind, exO_load, Bool.or_self, Bool.false_and, Nat.add_zero, Nat.zero_add, Nat.succ_ne_zero, Option.pure_def, Nat.le_refl, sz25, sz27, sz31, ag25, ag27, ag31, kx_region (hcv _), hres, st58, rdC, l0, e1, e2, h33f, kF_pan1, h30, kU_rcv, back, exO_mv, taken, consumes, isTmp, own0_nf, kep0_osl, Msg.cs, msg0, false_and]
  | nil =>
    have e1 : (((0 : Nat) : Int) == 0) = true := by decide
    simp only [List.length_nil] at l0
    cases hr : m.right with
    | false =>
      rw [hr] at h25
      simp only [Msg.cs] at h25
      cases ns with
      | nil =>
        have h30 := w30 h (.cells [.osl false false 1 (byE [])] :: ex) (m.cs (.osl false true 0 [])) (.int .i64 0) rfl
        simp only [ferr, Msg.cs, msg0] at h30
        simp only [lsD] at h25
        simp only [List.length_cons, List.length_nil, Nat.reduceAdd, List.nil_append, kx_seq, kSeq_pan, ko_op, ko_builtin, ko_func, kT_some, ko_guard, kR_val, kC_val, kC_pan, kG_yes, List.getElem?_toArray, List.getElem?_cons_succ, List.getElem?_cons_zero, Option.bind_some, Nat.reduceLT, ne_eq, reduceCtorEq, not_false_eq_true, implies_true, Bool.false_eq_true, Option.map_some, List.set_cons_succ, List.set_cons_zero, List.getD_cons_succ, List.getD_cons_zero, own_e, own_agg, own_ptr, List.any_cons, List.any_nil, own0_e, own0_osl, ↓reduceIte, exO_binOp, exO_pick, exO_nilCheck, exO_fieldAddr, tk_plain, sh_plain, rd_tmp, rd_const, tks_nil, tks_cons, ofV_int, binD_eql, Int.reduceLT, arith_eql, exB_len, leave_eq, resD_nil, resD_cell, tupD_two, fit_e, fit_osl, fit_tup, fit_agg, List.forall_mem_cons, List.not_mem_nil, false_imp_iff, and_self, Option.some.injEq, Prod.mk.injEq, shr0_osl', mkT, List.append_nil, gc_app0, gc_appn, gc_hd, gc_tl, hsetn, adOf_ptr, adD_ob, add_ob, putAt_eq', load1, gc_more, List.take_succ_cons, List.take_zero, List.drop_succ_cons, List.drop_zero, fieldAddrD, Option.bind_eq_bind, exO_load, Bool.or_self, Bool.and_false, Nat.add_zero, Nat.zero_add, Nat.succ_ne_zero, Option.pure_def, Nat.le_refl, sz25, sz27, sz31, ag25, ag27, ag31, kx_region (hcv _), hres, st58, rdC, l0, e1, h33f, kF_pan1, h30, kU_rcv, back, exO_mv, taken, consumes, isTmp, own0_nf, kep0_osl, Msg.cs, msg0, h25, slN, and_false]
      | cons n ns =>
        have h30 := w30 h (.cells [.osl false false 1 (byE [])] :: ex) (m.cs (.osl false false 1 (isE (intsN (n :: ns))))) (.int .i64 0) rfl
        simp only [ferr, Msg.cs, msg0] at h30
        simp only [lsD] at h25
        simp only [List.length_cons, List.length_nil, Nat.reduceAdd, List.nil_append, kx_seq, kSeq_pan, ko_op, ko_builtin, ko_func, kT_some, ko_guard, kR_val, kC_val, kC_pan, kG_yes, List.getElem?_toArray, List.getElem?_cons_succ, List.getElem?_cons_zero, Option.bind_some, Nat.reduceLT, ne_eq, reduceCtorEq, not_false_eq_true, implies_true, Bool.false_eq_true, Option.map_some, List.set_cons_succ, List.set_cons_zero, List.getD_cons_succ, List.getD_cons_zero, own_e, own_agg, own_ptr, List.any_cons, List.any_nil, own0_e, own0_osl, Bool.or_false, ↓reduceIte, exO_binOp, exO_pick, exO_nilCheck, exO_fieldAddr, tk_plain, sh_plain, rd_tmp, rd_const, tks_nil, tks_cons, ofV_int, binD_eql, Int.reduceLT, arith_eql, exB_len, leave_eq, resD_nil, resD_cell, tupD_two, fit_e, fit_osl, fit_tup, fit_agg, List.forall_mem_cons, List.not_mem_nil, false_imp_iff, and_self, Option.some.injEq, Prod.mk.injEq, shr0_e, shr0_osl', mkT, List.append_nil, gc_app0, gc_appn, gc_hd, gc_tl, hset0, hsetn, adOf_ptr, adD_ob, add_ob, putAt_eq', load1, gc_more, List.take_succ_cons, List.take_zero, List.drop_succ_cons, List.drop_zero, List.map_cons, List.map_nil, fieldAddrD, Option.bind_eq_bind, exO_load, Bool.or_self, Bool.and_false, Bool.or_true, Nat.add_zero, Nat.zero_add, Nat.succ_ne_zero, Option.pure_def, Nat.le_refl, sz25, sz27, sz31, ag25, ag27, ag31, kx_region (hcv _), hres, st58, rdC, l0, e1, h33f, kF_pan1, h30, kU_rcv, back, exO_mv, taken, consumes, isTmp, own0_nf, kep0_osl, Msg.cs, msg0, h25, slN, kep0_e, and_false]
    | true =>
      rw [hr] at h25
      simp only [Msg.cs] at h25
      cases ns with
      | nil =>
        have h30 := fun H => w30_no h.length (h.length + 1) H
        simp only [lsD] at h25
        simp only [List.length_cons, List.length_nil, Nat.reduceAdd, List.nil_append, kx_seq, kx_ret, kSeq_nrm, ko_nil, ko_op, ko_builtin, ko_func, kT_some, ko_guard, kR_val, kR_val0, kC_val, kG_yes, List.getElem?_toArray, List.getElem?_cons_succ, List.getElem?_cons_zero, Option.bind_some, Nat.reduceLT, ne_eq, reduceCtorEq, not_false_eq_true, implies_true, Bool.false_eq_true, Option.map_some, List.set_cons_succ, List.set_cons_zero, List.getD_cons_succ, List.getD_cons_zero, own_e, own_agg, own_ptr, List.any_cons, List.any_nil, own0_e, own0_osl, Bool.or_false, ↓reduceIte, exO_binOp, exO_pick, exO_store, exO_nilCheck, exO_fieldAddr, tk_plain, sh_plain, tk_const, rd_tmp, rd_const, tks_nil, tks_cons, ofV_int, binD_eql, Int.reduceLT, arith_eql, exB_len, leave_eq, resD_nil, resD_cell, tupD_two, fit_e, fit_osl, fit_tup, fit_agg, List.forall_mem_cons, List.not_mem_nil, false_imp_iff, and_self, Option.some.injEq, Prod.mk.injEq, shr0_osl', mkT, List.append_nil, gc_app0, gc_appn, gc_hd, gc_tl, hset0, hsetn, adOf_ptr, adD_ob, add_ob, putAt_eq', cellsOf_agg, cellsOf_e, notTup_agg, notTup_e, load1, store1, gc_more, List.take_succ_cons, List.take_zero, List.drop_succ_cons, List.drop_zero, fieldAddrD, Option.bind_eq_bind, exO_load, Bool.or_self, Nat.add_zero, Nat.zero_add, Nat.succ_ne_zero, Option.pure_def, Nat.le_refl, sz25, sz27, sz31, ag25, ag27, ag31, kx_region (hcv _), hres, st58, rdC, l0, e1, h33t, kF_ret1, h30, kU_val, back, exO_mv, taken, consumes, isTmp, beq_self_eq_true, Nat.reduceBEq, own0_nf, kep0_osl, Msg.cs, h25, slN, lrD]
      | cons n ns =>
        have h30 := fun H => w30_no h.length (h.length + 1) H
        simp only [lsD] at h25
        simp only [List.length_cons, List.length_nil, Nat.reduceAdd, List.nil_append, kx_seq, kx_ret, kSeq_nrm, ko_nil, ko_op, ko_builtin, ko_func, kT_some, ko_guard, kR_val, kR_val0, kC_val, kG_yes, List.getElem?_toArray, List.getElem?_cons_succ, List.getElem?_cons_zero, Option.bind_some, Nat.reduceLT, ne_eq, reduceCtorEq, not_false_eq_true, implies_true, Bool.false_eq_true, Option.map_some, List.set_cons_succ, List.set_cons_zero, List.getD_cons_succ, List.getD_cons_zero, own_e, own_agg, own_ptr, List.any_cons, List.any_nil, own0_e, Bool.or_false, ↓reduceIte, exO_binOp, exO_pick, exO_store, exO_nilCheck, exO_fieldAddr, tk_plain, sh_plain, tk_const, rd_tmp, rd_const, tks_nil, tks_cons, ofV_int, binD_eql, Int.reduceLT, arith_eql, exB_len, leave_eq, resD_nil, resD_cell, tupD_two, fit_e, fit_osl, fit_tup, fit_agg, List.forall_mem_cons, List.not_mem_nil, false_imp_iff, and_self, Option.some.injEq, Prod.mk.injEq, shr0_e, shr0_osl', mkT, List.append_nil, gc_app0, gc_appn, gc_hd, gc_tl, hset0, hsetn, adOf_ptr, adD_ob, add_ob, putAt_eq', cellsOf_agg, cellsOf_e, notTup_agg, notTup_e, load1, store1, gc_more, List.take_succ_cons, List.take_zero, List.drop_succ_cons, List.drop_zero, List.map_cons, List.map_nil, fieldAddrD, Option.bind_eq_bind, exO_load, Bool.or_self, Bool.or_true, Nat.add_zero, Nat.zero_add, Nat.succ_ne_zero, Option.pure_def, Nat.le_refl, sz25, sz27, sz31, ag25, ag27, ag31, kx_region (hcv _), hres, st58, rdC, l0, e1, h33t, kF_ret1, h30, kU_val, left0_e, back, exO_mv, taken, consumes, isTmp, beq_self_eq_true, Nat.reduceBEq, tk_tmp, tkV_own, own0_nf, left0_nf, kep0_osl, Msg.cs, h25, slN, lrD, kep0_e]


def pat17 (h : List O) : List (Option D) := [none, none, some (.ptr h.length 0), some (.ptr (h.length + 1) 0), some (.ptr (h.length + 2) 0), none, none, none, none, none, none, none, none, none, none, none, none, none, none, none, none, none, none, none, none, none, none, none, none, none, none, none, none, none, none, none, none, none, none, none, none, none, none, none, none, none, none, none, none, none, none, none, none, none, none, none]
theorem w17_end (s : St) (m : Msg) (ns : List Nat) (l5 : List UInt8) (h ex : List O) (c : Code) (hc : tl17 = some c) (hm : m.list = intsN ns) (hx5 : l5.length ≤ 100000) (hn : ns.length ≤ 1000)
    (h1 : s.d = [(30, [.ptr h.length 0, .ptr (h.length + 1) 0])]) (h2 : s.r = .no) (h3 : s.h = h ++ .cells (m.cs (slN ns)) :: .cells [.int .i64 0] :: .cells [rdC l5] :: ex) (h4 : mkT (pat17 h) s.t 0 = s.t) :
    kx Try.prog wpr wcv 17 c s (kF Try.prog wpr wcv Try.f17 h) =
      some (.val (if l5 = [] ∧ m.right = true then .tup [.agg (m.cs (lrD ns)), .int .i64 0] else .tup [.agg (msg0.cs (.osl false true 0 [])), .int .i64 12]), h) := by
  obtain ⟨zs, rfl⟩ := inv_intro h1 h2 h3 h4
  exact w17_tail zs m ns l5 h ex c hc hm hx5 hn

/-- The rest of the code, not looked at. -/
noncomputable def Stop {β : Type} (P : Program) (pr : FuncId → List D → Option D) (cv : FuncId → Nat → List Cv) (f : FuncId) (c : Code) (s : St) (k : X × St → Option β) : Option β := kx P pr cv f c s k
theorem stop13 {β : Type} {P : Program} {pr : FuncId → List D → Option D} {cv : FuncId → Nat → List Cv} {f : FuncId} {r : Code} {s : St} {k : X × St → Option β} {a : Array Oper} {b : Bool} :
    kSeq P pr cv f (.seq (.region 13 a b) r) k (.nrm, s) = Stop P pr cv f (.seq (.region 13 a b) r) s k := rfl
end Go.Abs

namespace Go.Abs
open Go Go.Proofs
set_option maxRecDepth 10000
set_option maxHeartbeats 4000000

theorem Heads.len {l r : List UInt8} {a b c d : Nat} (h : Heads l r a b c d) : r.length ≤ l.length := by
  obtain ⟨l1, l2, l3, p0, p1, p2, p3⟩ := h.ex
  have := parN_len p0; have := parN_len p1; have := parN_len p2; have := parN_len p3
  omega
open Classical in
theorem w17_none (a : D) (xs l4 : List UInt8) (n0 n1 n2 n3 : Nat) (ha : Rd a (byE xs)) (hx : xs.length ≤ 100000) (hh : Heads xs l4 n0 n1 n2 n3) (h13 : n0 < 13)
    (hk : n0 ≠ 4 ∧ n0 ≠ 5 ∧ n0 ≠ 6 ∧ n0 ≠ 7 ∧ n0 ≠ 10 ∧ n0 ≠ 11 ∧ n0 ≠ 12) (h : List O) :
    wc 17 [a] h = some (.val (if l4 = [] ∧ (headM n0 n1 n2 n3).right = true then .tup [.agg ((headM n0 n1 n2 n3).cs (lrD [])), .int .i64 0] else .tup [.agg (msg0.cs (.osl false true 0 [])), .int .i64 12]), h) := by
  have h31 := clone31 ha (by omega)
  have b58 := build58 (d := .osl true false 1 (byE xs)) rfl rfl
  have h32 := w32 (h.length + 2)
  have hx4 : l4.length ≤ 100000 := by have := hh.len; omega
  have hcv : ∀ i, wcv 17 i = [] := fun _ => rfl
  have hres : Try.f17.results.toList = [ResultVar.cell 2 27, ResultVar.cell 3 25] := rfl
  rw [wc, call_fn rfl Try.func17 rfl]
  simp only [enterT, List.length_cons, List.length_nil, Nat.reduceAdd, Nat.reduceSub, List.replicate, List.cons_append, List.nil_append, kx_seq, kx_block, kSeq_nrm, ko_nil, ko_op, ko_func, kT_some, kR_val, kR_val0, kC_val, ne_eq, reduceCtorEq, not_false_eq_true, implies_true, Bool.false_eq_true, Option.map_some, List.set_cons_succ, List.set_cons_zero, List.getD_cons_succ, List.getD_cons_zero, own_agg, own_ptr, List.any_cons, List.any_nil, Bool.or_false, ↓reduceIte, exO_assign, exO_alloc, exO_box, exO_build, exO_makeFunc, tk_plain, sh_plain, rd_tmp, tks_nil, tks_cons, shs_nil, shs_cons, List.append_nil, hlen, hpush, cellsOf_agg, cellsOf_e, notTup_agg, notTup_e, List.map_cons, List.map_nil, Bool.or_self, Nat.zero_add, kx_region (hcv _), Try.ntmps17, ha.ownD, zo27, zo25, exO_defer, h31, b58, zo59, List.zip_cons_cons, List.zip_nil_right, h32, List.any_toArray, exO_mv, taken, consumes, isTmp, Nat.reduceBEq, tk_tmp, tkV_own, ownD_nf, own0_nf, leftT_ex]
  rw [kx_range rfl rfl rfl]
  simp only [List.length_cons, List.length_nil, Nat.reduceAdd, List.cons_append, List.nil_append, hlen, List.map_cons, List.map_nil, Nat.zero_add, List.append_assoc, shrT_undef, shrT_ptr, shrT_func, shrT_rd ha, leftT_agg, left0_ex, shrT_hdr, shrT_agg, shr0_hdr]
  refine kRng_of (P := Try.prog) (pr := wpr) (cv := wcv) (w60 h _ _ _ xs l4 n0 n1 n2 n3 _ _ _ _ hx hh ?_) ?_
  · intro l hs i n hi hl4
    refine (call_round (hgetn.trans rfl) rfl).trans ?_
    simp only [kx_seq, kSeq_nrm, ko_nil, ko_op, kR_val, ne_eq, reduceCtorEq, not_false_eq_true, implies_true, Option.map_some, List.set_cons_succ, List.set_cons_zero, List.getD_cons_succ, List.getD_cons_zero, own_e, exO_assign, tk_plain, List.foldl_nil, kx_region (hcv _), List.zip_cons_cons, List.zip_nil_right, List.foldl_cons]
    rw [kBody_nrm (hgetn.trans rfl)]
    have hi1 : i + 1 ≤ hs.length := by omega
    simp only [List.length_cons, List.length_nil, kx_block, kBlk_nrm, ko_nil, ko_op, kR_val, kR_val0, Option.bind_some, ne_eq, reduceCtorEq, not_false_eq_true, implies_true, Option.map_some, List.set_cons_succ, List.set_cons_zero, List.getD_cons_succ, List.getD_cons_zero, own_e, own_ptr, ↓reduceIte, exO_move_tmp, exO_store, exO_indexAddr, tk_plain, sh_plain, rd_tmp, and_self, gc_appn, gc_hd, gc_tl, hsetn, adOf_ptr, putAt_eq', cellsOf_e, notTup_e, store1, Nat.zero_add, sz3, kx_region (hcv _), ix59 hi, hi1, put_set (show i < hs.length by omega)]
    rw [rout_nrm (hgetn.trans rfl)]
    simp only [List.set_cons_succ, List.set_cons_zero, hsetn]
  · rw [kRng_nrm' (n := h.length + 5) (by simp) (hgetn.trans rfl) (by simp)]
    simp only [kx_seq, kSeq_nrm, kBlk_nrm, ko_op, ne_eq, reduceCtorEq, not_false_eq_true, implies_true, List.set_cons_succ, List.set_cons_zero, exO_indexAddr, rd_const, ofV_int, hsetn, List.map_cons, List.map_nil, kx_region (hcv _)]
    rw [gc_tail (n := h.length + 5) (h := h) (l := [_, _, _, _, _]) rfl (.tup [] (by simp)) ?_]
    rotate_left
    · exact ⟨.inl rfl, .inl rfl, .inr (.cells _ (by simp [rdC_fit])), .inr (.cells _ (by simp [fit_e])), .inl rfl, trivial⟩
    simp only [List.length_cons, List.length_nil, Nat.reduceAdd, ko_op, ko_func, kT_some, kR_val, List.getElem?_cons_zero, Option.bind_some, Nat.reduceLeDiff, ne_eq, reduceCtorEq, not_false_eq_true, implies_true, Bool.false_eq_true, Option.map_some, List.set_cons_succ, List.set_cons_zero, List.getD_cons_succ, List.getD_cons_zero, own_e, own_ptr, own0_e, ↓reduceIte, exO_binOp, tk_plain, sh_plain, rd_tmp, rd_const, tks_nil, tks_cons, ofV_int, binD_lss, arith_lss, gc_appn, gc_hd, gc_tl, adOf_ptr, load1, List.take_succ_cons, List.take_zero, List.map_cons, List.map_nil, exO_load, Nat.zero_add, sz3, ag3, kep_undef, kep_ptr, kep_func, kep_rd ha, kep_hdr, kep_agg, kep0_hdr, ix59_0]
    have h33 := w33 true
    have e13 : decide ((n0 : Int) < 13) = true := by simp; omega
    have wk : IntKind.u8.wrap (n0 : Int) = (n0 : Int) := by rw [IntKind.wrap_u8]; omega
    have h34 := w34 h.length (h ++ [.cells ((headM n0 n1 n2 n3).cs (.osl false true 0 [])), .cells [.e (.int .i64 0)], .cells [rdC l4], .cells [.int .i64 (n0 : Int), .int .i64 (n1 : Int), .int .i64 (n2 : Int), .int .i64 (n3 : Int)], .cells [.ptr (h.length + 2) 0]])
    have b27 := @build27 n0 n1 n2 n3
    simp only [Msg.cs, headM, List.append_assoc, List.cons_append, List.nil_append, hlen, List.length_cons, List.length_nil, Nat.add_assoc, Nat.reduceAdd] at h34
    simp only [List.length_cons, List.length_nil, Nat.reduceAdd, List.nil_append, kx_seq, kSeq_nrm, ko_nil, ko_op, kR_val, kR_val0, kC_val, List.getElem?_cons_succ, List.getElem?_cons_zero, Option.bind_some, Nat.reduceLeDiff, ne_eq, reduceCtorEq, not_false_eq_true, implies_true, Bool.false_eq_true, Option.map_some, List.set_cons_succ, List.set_cons_zero, List.getD_cons_succ, List.getD_cons_zero, own_e, own_agg, own_ptr, List.any_cons, List.any_nil, own0_e, own0_osl, ↓reduceIte, exO_convert, exO_build, exO_store, exO_indexAddr, tk_plain, sh_plain, rd_tmp, rd_const, tks_nil, tks_cons, ofV_int, and_self, List.append_nil, gc_app0, gc_appn, gc_hd, gc_tl, hset0, adOf_ptr, putAt_eq', cellsOf_agg, notTup_agg, load1, store1, List.take_zero, List.drop_succ_cons, List.drop_zero, List.map_cons, List.map_nil, exO_load, Bool.or_self, Nat.zero_add, Nat.le_refl, Try.underlying5, sz3, sz27, ag3, kx_region (hcv _), e13, h33, ix59_0, ix59_1, ix59_2, ix59_3, convD_int Try.underlying3 Try.underlying5, wk, b27, List.zip_cons_cons, List.zip_nil_right]
    refine (kx_draw (l := plan17_10) (by exact plan17_10_eq)).trans ?_
    obtain ⟨k4, k5, k6, k7, k10, k11, k12⟩ := hk
    have f4 : ((n0 : Int) == 4) = false := by simp; omega
    have f5 : ((n0 : Int) == 5) = false := by simp; omega
    have f6 : ((n0 : Int) == 6) = false := by simp; omega
    have f7 : ((n0 : Int) == 7) = false := by simp; omega
    have f10 : ((n0 : Int) == 10) = false := by simp; omega
    have f11 : ((n0 : Int) == 11) = false := by simp; omega
    have f12 : ((n0 : Int) == 12) = false := by simp; omega
    simp only [List.length_cons, List.length_nil, Nat.reduceAdd, kx_seq, kSeq_nrm, ko_op, kR_val, St.put, List.getElem?_toArray, List.getElem?_cons_succ, List.getElem?_cons_zero, Option.bind_some, Nat.reduceLeDiff, ne_eq, reduceCtorEq, not_false_eq_true, implies_true, Bool.not_false, Bool.true_eq_false, Bool.false_eq_true, Option.map_some, List.set_cons_succ, List.set_cons_zero, List.getD_cons_succ, List.getD_cons_zero, own_e, own_undef, own_ptr, own_map, List.any_cons, List.any_nil, ↓reduceIte, exO_move_tmp, exO_assign, exO_binOp, exO_fieldAddr, tk_plain, rd_tmp, rd_const, tks_nil, tks_cons, ofV_nilfn, false_imp_iff, and_self, List.toList_toArray, kd_nil, kd_l, kdL_some, kdV_some, kd_r, kdRO_some, preSeal_nil, preSeal_other, exL_gen, exL_load, exLd_ob, outV_some, ownOp_tmp, lo_fieldAddr, lo_lookup, Op.operands, Call.operands, exc0_e, shr0_e, preCv, List.foldl_nil, gc_app0, gc_hd, hgetn, adOf_ptr, adD_ob, add_ob, fieldAddrD, Bool.or_self, Nat.add_zero, Nat.zero_add, Nat.succ_ne_zero, sz5, ag5, st27, kx_region (hcv _), hcv, kd_h, kdHO_some, kdT_some, kdK_func, kdK_op, kdC_val, kdE_val, calmAt_eq, again_nil, again_cons, same_nil, same_cons, kdR_cons, List.all_cons, List.all_nil, Bool.and_self, plan17_10, h34, exO_lookup, mp65, key5, mapGet_ob, readsM, find_no, find_nil, f4, f5, f6, f7, f10, f11, f12, zo64, show Nat.testBit 7 0 = true by decide, show Nat.testBit 7 1 = true by decide, show Nat.testBit 7 2 = true by decide, show Nat.testBit 15 0 = true by decide, show Nat.testBit 15 2 = true by decide, show Nat.testBit 15 3 = true by decide, show Nat.testBit 15 1 = true by decide]
    simp only [kx_skip, kx_cond_tmp, kCond_false, kSeq_nrm, ko_nil, kR_val, Option.map_some, List.set_cons_succ, List.set_cons_zero, List.getD_cons_succ, List.getD_cons_zero, binF_nil Try.underlying64, isConst_const, ↓stop13]
    exact w17_end _ (headM n0 n1 n2 n3) [] l4 h _ _ rfl rfl hx4 (by simp) rfl rfl rfl rfl

end Go.Abs
