/-
  WIRE: what kinds have, put. WIRE: the map of what kinds have, put. WIRE: which messages may be: plain. WIRE: Payload. No condition.
-/
import Derived.Test.YtkimilghfbgjmaaP22

namespace Go.Abs
open Go Go.Proofs
set_option maxRecDepth 10000
set_option maxHeartbeats 4000000

theorem getCells_ne {H : List O} {p q : Nat} {o : O} (h : p ≠ q) : getCells (H.set p o) q = getCells H q := by simp only [getCells]; rw [List.getElem?_set_ne h]

/-- A number, put. -/
theorem put26 (H : List O) (p : Nat) (cur : List UInt8) (n : Int) (hp : getCells H p = some [slD cur]) (hn : okN n = true) (hc : cur.length ≤ 2000) : wc 26 [.ptr p 0, .osl true true 1 (isE [n])] H = some (.val undefD, H.set p (.cells [slD (cur ++ numsL [n])])) :=
  w26 H p cur [n] hp (by simp [hn]) (by simp) (by omega)
theorem nums1_len {n : Int} (hn : okN n = true) : (numsL [n]).length ≤ 7 := numsL_len (xs := [n]) (by simp [hn])

section
variable (H : List O) (p q : Nat) (cur : List UInt8) (m : Msg) (l : D) (hp : getCells H p = some [slD cur]) (hq : getCells H q = some (m.cs l)) (hpq : p ≠ q) (hl : Rd l (isE m.list)) (hc : cur.length ≤ 1000)
  include hp hq hpq hc

theorem w48 (hn : okN m.key = true) : wc 48 [.ptr p 0, .ptr q 0] H = some (.val undefD, H.set p (.cells [slD (cur ++ numsL [m.key] ++ numsL [bitZ m.slow])])) := by
  obtain ⟨hlt, _⟩ := getCells_lt hp
  have hl1 := nums1_len hn
  have h1 := put26 H p cur m.key hp hn (by omega)
  have h2 := w49 (H.set p (.cells [slD (cur ++ numsL [m.key])])) p (cur ++ numsL [m.key]) m.slow (gcell_set hlt) (by simp; omega)
  rw [List.set_set] at h2
  have hcv : ∀ i, wcv 48 i = [] := fun _ => rfl
  have hres : Try.f48.results.toList = [] := rfl
  rw [wc, call_fn rfl Try.func48 rfl]
  simp only [enterT, List.length_cons, List.length_nil, Nat.reduceAdd, Nat.reduceSub, List.replicate, List.cons_append, List.nil_append, kx_seq, kSeq_nrm, ko_nil, ko_op, ko_func, kT_some, kR_val, kC_val, List.getElem?_cons_succ, List.getElem?_cons_zero, Option.bind_some, Nat.reduceLeDiff, ne_eq, reduceCtorEq, not_false_eq_true, implies_true, Bool.false_eq_true, Option.map_some, List.set_cons_succ, List.set_cons_zero, List.getD_cons_succ, List.getD_cons_zero, own_e, own_ptr, List.any_cons, List.any_nil, own0_e, ↓reduceIte, exO_buildSlice, exO_fieldAddr, tk_plain, sh_plain, rd_tmp, tks_nil, tks_cons, shs_nil, shs_cons, kF_nrm, leave_eq, resD_nil, tupD_nil, adOf_ptr, adD_ob, add_ob, load1, List.map_cons, List.map_nil, fieldAddrD, exO_load, Bool.or_self, Nat.zero_add, Nat.succ_ne_zero, sz3, sz4, ag3, ag4, st27, kx_region (hcv _), Try.ntmps48, hres, Msg.cs, hq, getCells_ne hpq, List.zip_cons_cons, List.zip_nil_right, bs22_1, isE1, h1, h2, gc_len, List.length_set, back, exO_mv, taken, consumes, isTmp, tk_tmp, tkV_own, ownD_ex, leftT_ex]
theorem w56 (hn : okN m.place = true) : wc 56 [.ptr p 0, .ptr q 0] H = some (.val undefD, H.set p (.cells [slD (cur ++ numsL [m.place] ++ numsL [bitZ m.done])])) := by
  obtain ⟨hlt, _⟩ := getCells_lt hp
  have hl1 := nums1_len hn
  have h1 := put26 H p cur m.place hp hn (by omega)
  have h2 := w49 (H.set p (.cells [slD (cur ++ numsL [m.place])])) p (cur ++ numsL [m.place]) m.done (gcell_set hlt) (by simp; omega)
  rw [List.set_set] at h2
  have hcv : ∀ i, wcv 56 i = [] := fun _ => rfl
  have hres : Try.f56.results.toList = [] := rfl
  rw [wc, call_fn rfl Try.func56 rfl]
  simp only [enterT, List.length_cons, List.length_nil, Nat.reduceAdd, Nat.reduceSub, List.replicate, List.cons_append, List.nil_append, kx_seq, kSeq_nrm, ko_nil, ko_op, ko_func, kT_some, kR_val, kC_val, List.getElem?_cons_succ, List.getElem?_cons_zero, Option.bind_some, Nat.reduceLeDiff, ne_eq, reduceCtorEq, not_false_eq_true, implies_true, Bool.false_eq_true, Option.map_some, List.set_cons_succ, List.set_cons_zero, List.getD_cons_succ, List.getD_cons_zero, own_e, own_ptr, List.any_cons, List.any_nil, own0_e, ↓reduceIte, exO_buildSlice, exO_fieldAddr, tk_plain, sh_plain, rd_tmp, tks_nil, tks_cons, shs_nil, shs_cons, kF_nrm, leave_eq, resD_nil, tupD_nil, adOf_ptr, adD_ob, add_ob, load1, List.map_cons, List.map_nil, fieldAddrD, exO_load, Bool.or_self, Nat.zero_add, Nat.succ_ne_zero, sz3, sz4, ag3, ag4, st27, kx_region (hcv _), Try.ntmps56, hres, Msg.cs, hq, getCells_ne hpq, List.zip_cons_cons, List.zip_nil_right, bs22_1, isE1, h1, h2, gc_len, List.length_set, back, exO_mv, taken, consumes, isTmp, tk_tmp, tkV_own, ownD_ex, leftT_ex]
  include hl
theorem w50 (hk : m.ikey.size < 256) (hv : okN m.ival = true) (hn : okN m.iver = true) : wc 50 [.ptr p 0, .ptr q 0] H = some (.val undefD, H.set p (.cells [slD (cur ++ pairL m.ikey m.ival m.iver m.gone)])) := by
  have _ := hpq
  have _ := hl
  obtain ⟨hlt, _⟩ := getCells_lt hp
  have h1 := w51 H p cur m.ikey m.ival m.iver m.gone hp hk hv hn (by omega)
  simp only [itemCs] at h1
  have hcv : ∀ i, wcv 50 i = [] := fun _ => rfl
  have hres : Try.f50.results.toList = [] := rfl
  rw [wc, call_fn rfl Try.func50 rfl]
  simp only [enterT, List.length_cons, List.length_nil, Nat.reduceAdd, Nat.reduceSub, List.replicate, List.cons_append, List.nil_append, ko_nil, ko_op, ko_func, kT_some, kR_val, kC_val, List.getElem?_cons_succ, List.getElem?_cons_zero, Option.bind_some, Nat.reduceLeDiff, ne_eq, reduceCtorEq, not_false_eq_true, implies_true, Bool.false_eq_true, Option.map_some, List.set_cons_succ, List.set_cons_zero, List.getD_cons_succ, List.getD_cons_zero, own_agg, own_ptr, List.any_cons, List.any_nil, own0_e, ↓reduceIte, exO_fieldAddr, tk_plain, sh_plain, rd_tmp, tks_nil, tks_cons, kF_nrm, leave_eq, resD_nil, tupD_nil, adOf_ptr, adD_ob, add_ob, load1, List.take_succ_cons, List.take_zero, List.drop_succ_cons, List.drop_zero, fieldAddrD, exO_load, Bool.or_self, Nat.zero_add, Nat.succ_ne_zero, sz24, ag24, st27, kx_region (hcv _), Try.ntmps50, hres, Msg.cs, hq, h1, gc_len, List.length_set, back, exO_mv, taken, consumes, isTmp]
theorem w52 (hk : m.ikey.size < 256) : wc 52 [.ptr p 0, .ptr q 0] H = some (.val undefD, H.set p (.cells [slD (cur ++ textL m.ikey)])) := by
  have _ := hpq
  have _ := hl
  obtain ⟨hlt, _⟩ := getCells_lt hp
  have h1 := w53 H p cur m.ikey hp hk (by omega)
  have hcv : ∀ i, wcv 52 i = [] := fun _ => rfl
  have hres : Try.f52.results.toList = [] := rfl
  rw [wc, call_fn rfl Try.func52 rfl]
  simp only [enterT, List.length_cons, List.length_nil, Nat.reduceAdd, Nat.reduceSub, List.replicate, List.cons_append, List.nil_append, ko_nil, ko_op, ko_func, kT_some, kR_val, kC_val, List.getElem?_cons_succ, List.getElem?_cons_zero, Option.bind_some, Nat.reduceLeDiff, ne_eq, reduceCtorEq, not_false_eq_true, implies_true, Bool.false_eq_true, Option.map_some, List.set_cons_succ, List.set_cons_zero, List.getD_cons_succ, List.getD_cons_zero, own_e, own_ptr, List.any_cons, List.any_nil, own0_e, ↓reduceIte, exO_fieldAddr, tk_plain, sh_plain, rd_tmp, tks_nil, tks_cons, kF_nrm, leave_eq, resD_nil, tupD_nil, adOf_ptr, adD_ob, add_ob, load1, fieldAddrD, exO_load, Bool.or_self, Nat.add_zero, Nat.zero_add, Nat.succ_ne_zero, sz9, sz24, ag9, st24, st27, kx_region (hcv _), Try.ntmps52, hres, Msg.cs, hq, h1, gc_len, List.length_set, back, exO_mv, taken, consumes, isTmp]
theorem w54 (hn : okN (IntKind.i64.wrap (m.pred + 1)) = true) (hx : m.list.length < 256) (hok : m.list.all okN = true) : wc 54 [.ptr p 0, .ptr q 0] H = some (.val undefD, H.set p (.cells [slD (cur ++ numsL [IntKind.i64.wrap (m.pred + 1)] ++ listB m.list)])) := by
  obtain ⟨hlt, _⟩ := getCells_lt hp
  have hl1 := nums1_len hn
  have h1 := put26 H p cur _ hp hn (by omega)
  have h2 := w55 (H.set p (.cells [slD (cur ++ numsL [IntKind.i64.wrap (m.pred + 1)])])) p (cur ++ numsL [IntKind.i64.wrap (m.pred + 1)]) l m.list (gcell_set hlt) hl hx hok (by simp; omega)
  rw [List.set_set] at h2
  have hcv : ∀ i, wcv 54 i = [] := fun _ => rfl
  have hres : Try.f54.results.toList = [] := rfl
  rw [wc, call_fn rfl Try.func54 rfl]
  simp only [enterT, List.length_cons, List.length_nil, Nat.reduceAdd, Nat.reduceSub, List.replicate, List.cons_append, List.nil_append, kx_seq, kSeq_nrm, ko_nil, ko_op, ko_func, kT_some, kR_val, kC_val, List.getElem?_cons_succ, List.getElem?_cons_zero, Option.bind_some, Nat.reduceLeDiff, ne_eq, reduceCtorEq, not_false_eq_true, implies_true, Bool.false_eq_true, Option.map_some, List.set_cons_succ, List.set_cons_zero, List.getD_cons_succ, List.getD_cons_zero, own_e, own_ptr, List.any_cons, List.any_nil, own0_e, ↓reduceIte, exO_binOp, exO_buildSlice, exO_fieldAddr, tk_plain, sh_plain, rd_tmp, rd_const, tks_nil, tks_cons, shs_nil, shs_cons, ofV_int, binD_add, arith_add, kF_nrm, leave_eq, resD_nil, tupD_nil, adOf_ptr, adD_ob, add_ob, load1, List.map_cons, List.map_nil, fieldAddrD, exO_load, Bool.or_self, Nat.zero_add, Nat.succ_ne_zero, sz3, sz22, ag3, ag22, st27, kx_region (hcv _), Try.ntmps54, hres, Msg.cs, hq, getCells_ne hpq, List.zip_cons_cons, List.zip_nil_right, bs22_1, isE1, h1, h2, gc_len, List.length_set, hl.own, hl.ownD, back, exO_mv, taken, consumes, isTmp, tk_tmp, tkV_own, ownD_ex, leftT_ex]
theorem w57 (hn : okN m.code = true) : wc 57 [.ptr p 0, .ptr q 0] H = some (.val undefD, H.set p (.cells [slD (cur ++ numsL [m.code])])) := by
  have _ := hpq
  have _ := hl
  obtain ⟨hlt, _⟩ := getCells_lt hp
  have h1 := put26 H p cur _ hp hn (by omega)
  have hcv : ∀ i, wcv 57 i = [] := fun _ => rfl
  have hres : Try.f57.results.toList = [] := rfl
  rw [wc, call_fn rfl Try.func57 rfl]
  simp only [enterT, List.length_cons, List.length_nil, Nat.reduceAdd, Nat.reduceSub, List.replicate, List.cons_append, List.nil_append, ko_nil, ko_op, ko_func, kT_some, kR_val, kC_val, List.getElem?_cons_succ, List.getElem?_cons_zero, Option.bind_some, ne_eq, reduceCtorEq, not_false_eq_true, implies_true, Bool.false_eq_true, Option.map_some, List.set_cons_succ, List.set_cons_zero, List.getD_cons_succ, List.getD_cons_zero, own_e, own_ptr, List.any_cons, List.any_nil, own0_e, ↓reduceIte, exO_buildSlice, exO_fieldAddr, tk_plain, sh_plain, rd_tmp, tks_nil, tks_cons, shs_nil, shs_cons, kF_nrm, leave_eq, resD_nil, tupD_nil, adOf_ptr, adD_ob, add_ob, load1, List.map_cons, List.map_nil, fieldAddrD, exO_load, Bool.or_self, Nat.zero_add, Nat.succ_ne_zero, Nat.le_refl, sz25, ag25, st27, kx_region (hcv _), Try.ntmps57, hres, Msg.cs, hq, getCells_ne hpq, List.zip_cons_cons, List.zip_nil_right, bs22_1, isE1, h1, gc_len, List.length_set, back, exO_mv, taken, consumes, isTmp, tk_tmp, tkV_own, ownD_ex, leftT_ex]
theorem w58 (hn : okN m.code = true) (hk : m.ikey.size < 256) (hv : okN m.ival = true) (hv2 : okN m.iver = true) : wc 58 [.ptr p 0, .ptr q 0] H = some (.val undefD, H.set p (.cells [slD (cur ++ numsL [m.code] ++ (if m.code == 0 then pairL m.ikey m.ival m.iver m.gone else []))])) := by
  have _ := hl
  obtain ⟨hlt, _⟩ := getCells_lt hp
  have hl1 := nums1_len hn
  have h1 := put26 H p cur _ hp hn (by omega)
  have h2 := w51 (H.set p (.cells [slD (cur ++ numsL [m.code])])) p (cur ++ numsL [m.code]) m.ikey m.ival m.iver m.gone (gcell_set hlt) hk hv hv2 (by simp; omega)
  rw [List.set_set] at h2
  simp only [itemCs] at h2
  have hcv : ∀ i, wcv 58 i = [] := fun _ => rfl
  have hres : Try.f58.results.toList = [] := rfl
  rw [wc, call_fn rfl Try.func58 rfl]
  cases hc0 : m.code == 0
  · simp only [enterT, List.length_cons, List.length_nil, Nat.reduceAdd, Nat.reduceSub, List.replicate, List.cons_append, List.nil_append, kx_seq, kx_skip, kx_cond_tmp, kCond_false, kSeq_nrm, ko_nil, ko_op, ko_func, kT_some, kR_val, kC_val, List.getElem?_cons_succ, List.getElem?_cons_zero, Option.bind_some, ne_eq, reduceCtorEq, not_false_eq_true, implies_true, Bool.false_eq_true, Option.map_some, List.set_cons_succ, List.set_cons_zero, List.getD_cons_succ, List.getD_cons_zero, own_e, own_ptr, List.any_cons, List.any_nil, own0_e, ↓reduceIte, exO_binOp, exO_buildSlice, exO_fieldAddr, tk_plain, sh_plain, rd_tmp, rd_const, tks_nil, tks_cons, shs_nil, shs_cons, ofV_int, binD_eql, arith_eql, kF_nrm, leave_eq, resD_nil, tupD_nil, List.append_nil, adOf_ptr, adD_ob, add_ob, load1, List.map_cons, List.map_nil, fieldAddrD, exO_load, Bool.or_self, Nat.zero_add, Nat.succ_ne_zero, Nat.le_refl, sz25, ag25, st27, kx_region (hcv _), Try.ntmps58, hres, Msg.cs, hq, getCells_ne hpq, List.zip_cons_cons, List.zip_nil_right, bs22_1, isE1, h1, gc_len, List.length_set, hc0, back, exO_mv, taken, consumes, isTmp, tk_tmp, tkV_own, ownD_ex, leftT_ex]
  · simp only [enterT, List.length_cons, List.length_nil, Nat.reduceAdd, Nat.reduceSub, List.replicate, List.cons_append, List.nil_append, kx_seq, kx_cond_tmp, kCond_true, kSeq_nrm, ko_nil, ko_op, ko_func, kT_some, kR_val, kC_val, List.getElem?_cons_succ, List.getElem?_cons_zero, Option.bind_some, Nat.reduceLeDiff, ne_eq, reduceCtorEq, not_false_eq_true, implies_true, Bool.false_eq_true, Option.map_some, List.set_cons_succ, List.set_cons_zero, List.getD_cons_succ, List.getD_cons_zero, own_e, own_agg, own_ptr, List.any_cons, List.any_nil, own0_e, ↓reduceIte, exO_binOp, exO_buildSlice, exO_fieldAddr, tk_plain, sh_plain, rd_tmp, rd_const, tks_nil, tks_cons, shs_nil, shs_cons, ofV_int, binD_eql, arith_eql, kF_nrm, leave_eq, resD_nil, tupD_nil, adOf_ptr, adD_ob, add_ob, load1, List.take_succ_cons, List.take_zero, List.drop_succ_cons, List.drop_zero, List.map_cons, List.map_nil, fieldAddrD, exO_load, Bool.or_self, Nat.zero_add, Nat.succ_ne_zero, Nat.le_refl, sz24, sz25, ag24, ag25, st27, kx_region (hcv _), Try.ntmps58, hres, Msg.cs, hq, getCells_ne hpq, List.zip_cons_cons, List.zip_nil_right, bs22_1, isE1, h1, h2, gc_len, List.length_set, hc0, back, exO_mv, taken, consumes, isTmp, tk_tmp, tkV_own, ownD_ex, leftT_ex]
end

end Go.Abs

namespace Go.Abs
open Go Go.Proofs
set_option maxRecDepth 10000
set_option maxHeartbeats 4000000

section
variable {P : Program} {s : St} {l : List Oper} {dst : Option Tmp} {ty : TypeId} {pos : String} {af : Array Edge} {g : Option (Nat × Bool)}
theorem exO_insert {t : TypeId} {m k x : Operand} : exOp P l ⟨dst, .insert t m k x, ty, pos, af, g⟩ s = match mapT P t, rd s m, rd s k, sh s x with
    | some (kt, _), some (.map i), some (.e k), some (v, s1) =>
      if keyOk P kt k && plainD v then
        match s1.h[i]? with
        | some (.map es) => (setD k v es).map fun es' => (.val undefD, { s1 with h := s1.h.set i (.map es') })
        | _ => none
      else none
    | _, _, _, _ => none := rfl
theorem exO_lookup {t : TypeId} {m k : Operand} {ok : Bool} : exOp P l ⟨dst, .lookup t m k ok, ty, pos, af, g⟩ s = match mapT P t, rd s m, rd s k with
    | some (kt, et), some m, some (.e k) =>
      if keyOk P kt k then
        match mapGet s.h m k with
        | some (some d) => some (.val (if ok then .tup [d, .bool true] else d), s)
        | some none => (zeroOf P et).map fun z => (.val (if ok then .tup [z, .bool false] else z), s)
        | none => none
      else none
    | _, _, _ => none := rfl
end
theorem ofV_nilmap : ofV (.map none) = some (.e .nilmap) := rfl
theorem key5 {n : Int} : keyOk Try.prog 5 (.int .u8 n) = true := by simp [keyOk, Try.underlying5]
theorem plain_func {f : Fn} {a b : List D} : plainD (.func f a b) = true := of_decide_eq_true rfl
theorem setD_nil {k : E} {v : D} : setD k v [] = some [(k, v)] := rfl
theorem setD_ne {a b : Int} {v d : D} {es : List (E × D)} (h : (a == b) = false) : setD (.int .u8 a) v ((.int .u8 b, d) :: es) = (setD (.int .u8 a) v es).map ((.int .u8 b, d) :: ·) := by simp [setD, keyEq, h]
theorem find_no {a b : Int} {d : D} {es : List (E × D)} (h : (a == b) = false) : findD (.int .u8 a) ((.int .u8 b, d) :: es) = findD (.int .u8 a) es := by simp [findD, keyEq, h]
theorem find_yes {a b : Int} {d : D} {es : List (E × D)} (h : (a == b) = true) : findD (.int .u8 a) ((.int .u8 b, d) :: es) = some (some d) := by simp [findD, keyEq, h]
theorem find_nil {k : E} : findD k [] = some none := rfl
def writesM (q : Nat) : List (E × D) := [(.int .u8 4, .func (.func 48) [] [.ptr q 0]), (.int .u8 5, .func (.func 50) [] [.ptr q 0]), (.int .u8 6, .func (.func 52) [] [.ptr q 0]), (.int .u8 7, .func (.func 54) [] [.ptr q 0]), (.int .u8 10, .func (.func 56) [] [.ptr q 0]), (.int .u8 11, .func (.func 57) [] [.ptr q 0]), (.int .u8 12, .func (.func 58) [] [.ptr q 0])]

theorem w27 (m : Msg) (l : D) (hl : Rd l (isE m.list)) (h : List O) : wc 27 [.agg (m.cs l)] h = some (.val (.map (h.length + 1)), h ++ [.cells (m.cs l), .map (writesM h.length)]) := by
  have hcv : ∀ i, wcv 27 i = [] := fun _ => rfl
  have hres : Try.f27.results.toList = [ResultVar.tmp 2] := rfl
  rw [wc, call_fn rfl Try.func27 rfl]
  simp only [enterT, List.length_cons, List.length_nil, Nat.reduceSub, List.replicate, List.cons_append, List.nil_append, kx_seq, kx_ret, kSeq_nrm, ko_nil, ko_op, kR_val, kR_val0, List.getElem?_cons_succ, List.getElem?_cons_zero, ne_eq, reduceCtorEq, not_false_eq_true, implies_true, Option.map_some, List.set_cons_succ, List.set_cons_zero, List.getD_cons_succ, List.getD_cons_zero, own_agg, own_ptr, own_func, own_map, List.any_cons, List.any_nil, own0_e, ↓reduceIte, exO_move_tmp, exO_assign, exO_box, exO_makeFunc, exO_makeMap, tk_plain, sh_plain, tk_const, rd_tmp, rd_const, shs_nil, shs_cons, ofV_int, kF_ret, leave_eq, resD_nil, resD_tmp, tupD_one, and_true, Option.some.injEq, Prod.mk.injEq, true_and, hsetn, hlen, hpush, hgetn, cellsOf_agg, notTup_agg, Bool.or_self, Bool.and_true, Bool.true_and, Nat.zero_add, kx_region (hcv _), Try.ntmps27, hres, Msg.cs, hl.own, exO_insert, mp52, key5, plain_func, setD_nil, setD_ne, Int.reduceBEq, ofV_nilmap]
  rw [gc_not]
  · rfl
  · intro hf; cases hf; omega

end Go.Abs

namespace Go.Abs
open Go Go.Proofs
set_option maxHeartbeats 4000000

theorem same_iff {m o : Msg} : (decide (m.list = o.list) && sameCs m o) = true ↔ m = o := by
  cases m; cases o
  simp only [sameCs, Bool.and_eq_true, decide_eq_true_eq, beq_iff_eq, bab, Msg.mk.injEq]
  constructor
  · rintro ⟨h1, h2, h3, h4, h5, h6, h7, h8, h9, h10, ⟨h11, h12, h13, h14⟩, h15⟩
    exact ⟨h2, h3, h4, h5, h6, h7, h8, h9, h10, h1, h11, h12, h13, h14, h15⟩
  · rintro ⟨h2, h3, h4, h5, h6, h7, h8, h9, h10, h1, h11, h12, h13, h14, h15⟩
    exact ⟨h1, h2, h3, h4, h5, h6, h7, h8, h9, h10, ⟨h11, h12, h13, h14⟩, h15⟩
theorem isPlace_iff {n : Int} : isPlace n = true ↔ 0 ≤ n ∧ n < 65536 := by simp [isPlace]
theorem asks_eq {k : Int} : asks' k = asks k := by
  simp only [asks', asks]
  congr 1

/-- What a message that may be is. -/
structure Msg.Fits (m : Msg) : Prop where
  k1 : 1 ≤ m.kind
  k2 : m.kind ≤ 12
  frm : isPlace m.frm = true
  to : isPlace m.to = true
  ne : m.frm ≠ m.to
  c1 : m.asker * 1048576 < m.call
  c2 : m.call ≤ m.asker * 1048576 + 1048576
  fine : m.fine = true
  off : m.off = m.head

theorem asker_lt {m : Msg} (h1 : isPlace m.frm = true) (h2 : isPlace m.to = true) : 0 ≤ m.asker ∧ m.asker < 65536 := by
  rw [isPlace_iff] at h1 h2
  unfold Msg.asker; split <;> assumption

theorem right_fits {m : Msg} (hlo : -9223372036854775808 ≤ m.call) (hhi : m.call ≤ 9223372036854775807) : m.right = true ↔ m.Fits := by
  have ha : m.asker' = m.asker := by simp only [Msg.asker', Msg.asker, asks_eq]
  simp only [Msg.right, Bool.and_eq_true, Bool.not_eq_true', decide_eq_false_iff_not, beq_eq_false_iff_ne, beq_iff_eq, same_iff, ha]
  rw [← Bool.and_eq_true, same_iff]
  constructor
  · rintro ⟨h1, h2, h3, h4, h5, h6, h7, h8, h9⟩
    have hp := asker_lt h3 h4
    rw [wrap64 (n := m.call - 1) (by omega) (by omega)] at h7
    rw [Int.tdiv_eq_ediv_of_nonneg (by omega)] at h7
    rw [wrap64 (by omega) (by omega)] at h7
    exact ⟨by omega, by omega, h3, h4, h5, by omega, by omega, h8, h9⟩
  · rintro ⟨h1, h2, h3, h4, h5, h6, h7, h8, h9⟩
    have hp := asker_lt h3 h4
    refine ⟨by omega, by omega, h3, h4, h5, by omega, ?_, h8, h9⟩
    rw [wrap64 (n := m.call - 1) (by omega) (by omega)]
    rw [Int.tdiv_eq_ediv_of_nonneg (by omega)]
    rw [wrap64 (by omega) (by omega)]
    omega


theorem fineKey_iff {k : ByteArray} : fineKey k = true ↔ 1 ≤ k.size ∧ k.size ≤ 20 := by
  simp only [fineKey, Bool.and_eq_true, Bool.not_eq_true', decide_eq_true_eq, bab, decide_eq_false_iff_not]
  have : k = { data := #[] } ↔ k.size = 0 := by
    cases k with | mk d =>
    simp [ByteArray.size]
  rw [this]; omega
theorem finePair_iff {k : ByteArray} {v n : Int} : finePair k v n = true ↔ (1 ≤ k.size ∧ k.size ≤ 20) ∧ (0 ≤ v ∧ v ≤ 1048576) ∧ 0 ≤ n ∧ n ≤ 1048576 := by
  simp only [finePair, isWithin, Bool.and_eq_true, fineKey_iff, decide_eq_true_eq, and_assoc]
theorem finePair'_iff {k : ByteArray} {v n : Int} : finePair' k v n = true ↔ (1 ≤ k.size ∧ k.size ≤ 20) ∧ (0 ≤ v ∧ v ≤ 1048576) ∧ 0 ≤ n ∧ n ≤ 1048576 := by
  simp only [finePair', Bool.and_eq_true, decide_eq_true_eq]
  omega
theorem finePair_eq {k : ByteArray} {v n : Int} : finePair' k v n = finePair k v n := by
  rw [Bool.eq_iff_iff, finePair_iff, finePair'_iff]

theorem has_off {m : Msg} : (m.bare = m.head ∧ m.has = true) ↔ (m.off = m.head ∧ m.fine = true) := by
  have hk : (m.kind == 6) = true ∨ (m.kind == 6) = false := by cases m.kind == 6 <;> simp
  rcases hk with h6 | h6
  · have h : m.kind = 6 := by simpa using h6
    have h4 : (m.kind == 4) = false := by simp [h]
    have h5 : (m.kind == 5) = false := by simp [h]
    simp only [Msg.bare, Msg.off, Msg.has, Msg.fine, h4, h5, h6, if_true, Bool.false_eq_true, if_false, Msg.noItem, Msg.head, Msg.mk.injEq, Bool.and_eq_true, finePair'_iff, fineKey_iff, beq_iff_eq, bab, decide_eq_true_eq]
    constructor
    · rintro ⟨h1, h2, h3, h7, h8, h9⟩
      refine ⟨?_, h2.1⟩
      simp_all
    · rintro ⟨h1, h2⟩
      simp_all
  · have e1 : m.bare = m.off := by simp only [Msg.bare, Msg.off, h6]; rfl
    have e2 : m.has = m.fine := by simp only [Msg.has, Msg.fine, h6, finePair_eq]; rfl
    rw [e1, e2]
theorem right6_fits {m : Msg} : m.right6 = true ↔ m.Fits := by
  simp only [Msg.right6, Bool.and_eq_true, Bool.not_eq_true', decide_eq_false_iff_not, beq_eq_false_iff_ne]
  rw [← Bool.and_eq_true, same_iff]
  constructor
  · rintro ⟨h1, h2, h3, h4, h5, h6, h7, h8, h9⟩
    have hp := asker_lt h3 h4
    have hf : m.first = m.asker * 1048576 + 1 := by
      unfold Msg.first
      rw [wrap64 (n := m.asker * 1048576) (by omega) (by omega), wrap64 (by omega) (by omega)]
    rw [hf] at h6 h7
    rw [wrap64 (by omega) (by omega)] at h7
    obtain ⟨q1, q2⟩ := has_off.1 ⟨h8, h9⟩
    exact ⟨by omega, by omega, h3, h4, h5, by omega, by omega, q2, q1⟩
  · rintro ⟨h1, h2, h3, h4, h5, h6, h7, h8, h9⟩
    have hp := asker_lt h3 h4
    have hf : m.first = m.asker * 1048576 + 1 := by
      unfold Msg.first
      rw [wrap64 (n := m.asker * 1048576) (by omega) (by omega), wrap64 (by omega) (by omega)]
    obtain ⟨q1, q2⟩ := has_off.2 ⟨h9, h8⟩
    refine ⟨by omega, by omega, h3, h4, h5, by rw [hf]; omega, ?_, q1, q2⟩
    rw [hf, wrap64 (by omega) (by omega)]
    omega

/-- Numbers of a message that may be. -/
theorem fits_okN {m : Msg} (h : m.Fits) : okN m.kind = true ∧ okN m.call = true ∧ okN m.frm = true ∧ okN m.to = true := by
  have hp := asker_lt h.frm h.to
  have h1 := isPlace_iff.1 h.frm
  have h2 := isPlace_iff.1 h.to
  have := h.k1; have := h.k2; have := h.c1; have := h.c2
  simp only [okN, Bool.and_eq_true, decide_eq_true_eq]
  omega

end Go.Abs

namespace Go.Abs
open Go Go.Proofs
set_option maxRecDepth 10000
set_option maxHeartbeats 4000000

def headL (m : Msg) : List UInt8 := numsL [m.kind, m.call, m.frm, m.to]
/-- What its kind has. -/
def bodyL (m : Msg) : List UInt8 :=
  if m.kind == 4 then numsL [m.key] ++ numsL [bitZ m.slow] else
  if m.kind == 5 then pairL m.ikey m.ival m.iver m.gone else
  if m.kind == 6 then textL m.ikey else
  if m.kind == 7 then numsL [IntKind.i64.wrap (m.pred + 1)] ++ listB m.list else
  if m.kind == 10 then numsL [m.place] ++ numsL [bitZ m.done] else
  if m.kind == 11 then numsL [m.code] else
  if m.kind == 12 then numsL [m.code] ++ (if m.code == 0 then pairL m.ikey m.ival m.iver m.gone else []) else []
def payL (m : Msg) : List UInt8 := headL m ++ bodyL m

theorem binF_some {P : Program} {t : TypeId} {ps rs : Array TypeId} {v : Bool} {f : Fn} {a b : List D} (hu : P.underlying t = some (.func ps rs v)) : binD P .neq t (.func f a b) (.e .nilfn) true = some (.e (.bool true)) := by simp [binD, nilCmp, hu]
theorem binF_nil {P : Program} {t : TypeId} {ps rs : Array TypeId} {v : Bool} (hu : P.underlying t = some (.func ps rs v)) : binD P .neq t (.e .nilfn) (.e .nilfn) true = some (.e (.bool false)) := by simp [binD, nilCmp, hu]
theorem isConst_const {v : Value} : Region.isConst (.const v) = true := rfl
theorem build49 : buildD Try.prog 49 [] = some (.agg [.osl false true 0 []]) := by kernel_rfl

theorem mapGet_ob {h : List O} {i : Nat} {k : E} : mapGet h (.map i) k = (match h[i]? with | some (.map es) => findD k es | _ => none) := by
  simp only [mapGet, mapEs]; cases h[i]? with
  | none => rfl
  | some o => cases o <;> rfl
theorem slD_ne {l : List UInt8} (h : l ≠ []) : slD l = .osl true false 1 (byE l) := by cases l; exact absurd rfl h; rfl
theorem okN_place {n : Int} (h : isPlace n = true) : okN n = true := by rw [isPlace_iff] at h; simp [okN]; omega
theorem okN_val {n : Int} (h : 0 ≤ n ∧ n ≤ 1048576) : okN n = true := by simp [okN]; omega

theorem w12_bad (m : Msg) (l : D) (hl : Rd l (isE m.list)) (hx : m.list.length ≤ 1099511627776) (hr : m.right = false) (h : List O) : wc 12 [.agg (m.cs l)] h = some (.val (.tup [.osl false true 0 [], .int .i64 2]), h) := by
  have h25 := w25 m l hl hx
  rw [hr] at h25
  simp only [Msg.cs] at h25
  have hcv : ∀ i, wcv 12 i = [] := fun _ => rfl
  have hres : Try.f12.results.toList = [ResultVar.tmp 2, ResultVar.tmp 3] := rfl
  rw [wc, call_fn rfl Try.func12 rfl]
  simp only [enterT, List.length_cons, List.length_nil, Nat.reduceAdd, Nat.reduceSub, List.replicate, List.cons_append, List.nil_append, kx_seq, kx_ret, kx_cond_tmp, kCond_true, kSeq_nrm, kSeq_ret, ko_nil, ko_op, ko_func, kT_some, kR_val, kC_val, Option.bind_some, ne_eq, reduceCtorEq, not_false_eq_true, implies_true, Bool.not_false, Bool.false_eq_true, Option.map_some, List.set_cons_succ, List.set_cons_zero, List.getD_cons_succ, List.getD_cons_zero, own_e, own_osl, own_agg, List.any_cons, List.any_nil, own0_e, ↓reduceIte, exO_assign, exO_unOp, exO_box, tk_plain, tk_const, rd_tmp, tks_nil, tks_cons, ofV_int, ofV_nilsl, unD_not, kF_ret, leave_eq, resD_nil, resD_tmp, tupD_two, fit_e, fit_osl, fit_tup, List.forall_mem_cons, List.not_mem_nil, false_imp_iff, and_self, gc_app0, gc_hd, adOf_ptr, cellsOf_agg, notTup_agg, load1, gc_more, List.take_succ_cons, List.take_zero, List.drop_zero, exO_load, Bool.or_self, Nat.zero_add, Nat.le_refl, sz27, ag27, kx_region (hcv _), Try.ntmps12, hres, Msg.cs, hl.own, h25]

theorem w12 (m : Msg) (l : D) (hl : Rd l (isE m.list)) (hx : m.list.length ≤ 1099511627776) (hr : m.right = true) (hf : m.Fits) (h : List O) : wc 12 [.agg (m.cs l)] h = some (.val (.tup [.osl true false 1 (byE (payL m)), .int .i64 0]), h) := by
  have h25 := w25 m l hl hx
  rw [hr] at h25
  obtain ⟨n1, n2, n3, n4⟩ := fits_okN hf
  have hk1 := hf.k1
  have hk2 := hf.k2
  have hh : (headL m).length ≤ 28 := numsL_len (xs := [m.kind, m.call, m.frm, m.to]) (by simp [n1, n2, n3, n4])
  have h26 := w26 (h ++ [.cells (m.cs l), .cells [slD []]]) (h.length + 1) [] [m.kind, m.call, m.frm, m.to] (by simp [getCells]) (by simp [n1, n2, n3, n4]) (by simp) (by simp)
  rw [hsetn] at h26
  have hhd : [] ++ numsL [m.kind, m.call, m.frm, m.to] = headL m := rfl
  rw [hhd] at h26
  have h27 := w27 m l hl (h ++ [.cells (m.cs l), .cells [slD (headL m)]])
  have wk : IntKind.i64.wrap m.kind = m.kind := wrap64 (by omega) (by omega)
  obtain ⟨z, zs, hz⟩ : ∃ z zs, headL m = z :: zs := List.exists_cons_of_ne_nil (by simp [headL, numsL, putL_ne])
  have isE4 : ∀ a b c d : Int, [[E.int .i64 a], [E.int .i64 b], [E.int .i64 c], [E.int .i64 d]] = isE [a, b, c, d] := fun _ _ _ _ => rfl
  simp only [Msg.cs, slD_nil, List.set_cons_succ, List.set_cons_zero, List.append_assoc, List.cons_append, List.nil_append, hlen, List.length_cons, List.length_nil, Nat.add_assoc, Nat.reduceAdd] at h25 h26 h27
  have hcv : ∀ i, wcv 12 i = [] := fun _ => rfl
  have hres : Try.f12.results.toList = [ResultVar.tmp 2, ResultVar.tmp 3] := rfl
  rw [wc, call_fn rfl Try.func12 rfl]
  simp only [enterT, List.length_cons, List.length_nil, Nat.reduceAdd, Nat.reduceSub, List.replicate, List.cons_append, List.nil_append, kx_seq, kx_skip, kx_cond_tmp, kCond_false, kSeq_nrm, ko_nil, ko_op, ko_func, kT_some, kR_val, kC_val, List.getElem?_cons_succ, List.getElem?_cons_zero, Option.bind_some, Nat.reduceLeDiff, ne_eq, reduceCtorEq, not_false_eq_true, implies_true, Bool.not_true, Bool.false_eq_true, Option.map_some, List.set_cons_succ, List.set_cons_zero, List.getD_cons_succ, List.getD_cons_zero, own_e, own_agg, own_ptr, List.any_cons, List.any_nil, own0_e, own0_osl, ↓reduceIte, exO_assign, exO_unOp, exO_convert, exO_box, exO_build, exO_buildSlice, exO_fieldAddr, tk_plain, sh_plain, tk_const, rd_tmp, tks_nil, tks_cons, shs_nil, shs_cons, ofV_int, ofV_nilsl, unD_not, gc_app0, gc_hd, hlen, hpush, adOf_ptr, adD_ob, add_ob, cellsOf_agg, notTup_agg, load1, List.take_succ_cons, List.take_zero, List.drop_zero, List.map_cons, List.map_nil, fieldAddrD, exO_load, Bool.or_self, Nat.add_zero, Nat.zero_add, Nat.succ_ne_zero, Nat.le_refl, Try.underlying3, sz3, sz5, sz27, ag3, ag5, ag27, st27, kx_region (hcv _), Try.ntmps12, Msg.cs, hl.own, h25, build49, List.zip_nil_right, List.zip_cons_cons, convD_int Try.underlying5 Try.underlying3, wk, bs22_4, isE4, back, exO_mv, taken, consumes, isTmp, tk_tmp, tkV_own, ownD_ex, leftT_ex, h26]
  refine (kx_draw (l := plan12_5) (by exact plan12_5_eq)).trans ?_
  have hne : headL m ≠ [] := by rw [hz]; simp
  have hfi := hf.fine
  have HP : getCells (h ++ [.cells (m.cs l), .cells [slD (headL m)], .cells (m.cs l), .map (writesM (h.length + 2))]) (h.length + 1) = some [slD (headL m)] := by simp [getCells]
  have HQ : getCells (h ++ [.cells (m.cs l), .cells [slD (headL m)], .cells (m.cs l), .map (writesM (h.length + 2))]) (h.length + 2) = some (m.cs l) := by simp [getCells]
  have HPQ : h.length + 1 ≠ h.length + 2 := by omega
  have HC : (headL m).length ≤ 1000 := by omega
  cases k4 : m.kind == 4
  rotate_left
  · simp only [Msg.fine, k4, if_true, Bool.false_eq_true, if_false, finePair_iff, fineKey_iff, Bool.or_eq_true, Bool.and_eq_true, beq_iff_eq] at hfi
    have hcl := w48 _ _ _ (headL m) m l HP HQ HPQ HC (okN_place hfi)
    have hb : payL m = headL m ++ (numsL [m.key] ++ numsL [bitZ m.slow]) := by simp only [payL, bodyL, k4, if_true, Bool.false_eq_true, if_false]
    try rw [List.append_assoc] at hcl
    rw [← hb, hsetn, slD_ne (l := payL m) (by rw [hb, hz]; simp)] at hcl
    simp only [Msg.cs, writesM, List.set_cons_succ, List.set_cons_zero] at hcl
    simp only [List.length_cons, List.length_nil, Nat.reduceAdd, List.cons_append, List.nil_append, kx_seq, kx_ret, kx_cond_tmp, kCond_true, kSeq_nrm, ko_nil, ko_op, kR_val, kC_val, St.put, List.getElem?_toArray, List.getElem?_cons_succ, List.getElem?_cons_zero, Option.bind_some, Nat.reduceLeDiff, ne_eq, reduceCtorEq, not_false_eq_true, implies_true, Bool.not_false, Bool.true_eq_false, Bool.false_eq_true, Option.map_some, List.set_cons_succ, List.set_cons_zero, List.getD_cons_succ, List.getD_cons_zero, own_e, own_agg, own_ptr, own_func, own_map, List.any_cons, List.any_nil, own0_e, Bool.or_false, ↓reduceIte, exO_assign, exO_binOp, exO_nilCheck, exO_fieldAddr, tk_plain, sh_plain, tk_const, rd_tmp, rd_const, tks_nil, tks_cons, ofV_int, ofV_nilfn, kF_ret, leave_eq, resD_nil, resD_tmp, tupD_two, fit_e, fit_osl, fit_tup, List.forall_mem_cons, List.not_mem_nil, false_imp_iff, and_self, List.toList_toArray, Option.some.injEq, Prod.mk.injEq, kd_nil, kd_l, kdL_some, kdV_some, kd_r, kdRO_some, kdR_nil, preSeal_nil, preSeal_other, exL_gen, exL_load, exLd_ob, outV_some, ownOp_tmp, lo_fieldAddr, lo_lookup, Op.operands, Call.operands, exc0_e, shr0_e, preCv, List.foldl_nil, List.append_nil, gc_app0, gc_appn, gc_hd, gc_tl, hsetn, hgetn, adOf_ptr, adD_ob, add_ob, putAt_eq', load1, gc_more, List.take_succ_cons, List.take_zero, List.drop_succ_cons, List.drop_zero, List.map_cons, List.map_nil, fieldAddrD, exO_load, Bool.or_self, Nat.add_zero, Nat.zero_add, Nat.succ_ne_zero, Nat.le_refl, sz5, sz27, sz31, ag5, ag27, ag31, st27, kx_region (hcv _), hcv, hres, kd_h, kdHO_some, kdT_some, kdK_func, kdK_op, kdC_val, kdE_val, calmAt_eq, again_nil, again_cons, same_nil, same_cons, kdR_cons, List.all_cons, List.all_nil, Bool.and_self, plan12_5, hl.own, hl.exc, hl.shr, h27, ownD_tup, back, exO_mv, taken, consumes, isTmp, beq_self_eq_true, Nat.reduceBEq, tk_tmp, tkV_own, ownD_nf, own0_nf, leftT_ex, left0_ex, ko_val, kY_func, noOwn_nil, noOwn_cons, exO_lookup, mp52, key5, mapGet_ob, writesM, find_yes, show Nat.testBit 15 1 = true by decide, show Nat.testBit 31 3 = true by decide, show Nat.testBit 31 4 = true by decide, show Nat.testBit 31 0 = true by decide, show Nat.testBit 31 1 = true by decide, show Nat.testBit 15 3 = true by decide, show Nat.testBit 15 0 = true by decide, show Nat.testBit 1 0 = true by decide, st49, zo51, isConst_const, binF_some Try.underlying51, binF_nil Try.underlying51, k4, hcl]
  cases k5 : m.kind == 5
  rotate_left
  · simp only [Msg.fine, k4, k5, if_true, Bool.false_eq_true, if_false, finePair_iff, fineKey_iff, Bool.or_eq_true, Bool.and_eq_true, beq_iff_eq] at hfi
    have hcl := w50 _ _ _ (headL m) m l HP HQ HPQ hl HC (by omega) (okN_val hfi.2.1) (okN_val hfi.2.2)
    have hb : payL m = headL m ++ (pairL m.ikey m.ival m.iver m.gone) := by simp only [payL, bodyL, k4, k5, if_true, Bool.false_eq_true, if_false]
    try rw [List.append_assoc] at hcl
    rw [← hb, hsetn, slD_ne (l := payL m) (by rw [hb, hz]; simp)] at hcl
    simp only [Msg.cs, writesM, List.set_cons_succ, List.set_cons_zero] at hcl
    simp only [List.length_cons, List.length_nil, Nat.reduceAdd, List.cons_append, List.nil_append, kx_seq, kx_ret, kx_cond_tmp, kCond_true, kSeq_nrm, ko_nil, ko_op, kR_val, kC_val, St.put, List.getElem?_toArray, List.getElem?_cons_succ, List.getElem?_cons_zero, Option.bind_some, Nat.reduceLeDiff, ne_eq, reduceCtorEq, not_false_eq_true, implies_true, Bool.not_false, Bool.true_eq_false, Bool.false_eq_true, Option.map_some, List.set_cons_succ, List.set_cons_zero, List.getD_cons_succ, List.getD_cons_zero, own_e, own_agg, own_ptr, own_func, own_map, List.any_cons, List.any_nil, own0_e, Bool.or_false, ↓reduceIte, exO_assign, exO_binOp, exO_nilCheck, exO_fieldAddr, tk_plain, sh_plain, tk_const, rd_tmp, rd_const, tks_nil, tks_cons, ofV_int, ofV_nilfn, kF_ret, leave_eq, resD_nil, resD_tmp, tupD_two, fit_e, fit_osl, fit_tup, List.forall_mem_cons, List.not_mem_nil, false_imp_iff, and_self, List.toList_toArray, Option.some.injEq, Prod.mk.injEq, kd_nil, kd_l, kdL_some, kdV_some, kd_r, kdRO_some, kdR_nil, preSeal_nil, preSeal_other, exL_gen, exL_load, exLd_ob, outV_some, ownOp_tmp, lo_fieldAddr, lo_lookup, Op.operands, Call.operands, exc0_e, shr0_e, preCv, List.foldl_nil, List.append_nil, gc_app0, gc_appn, gc_hd, gc_tl, hsetn, hgetn, adOf_ptr, adD_ob, add_ob, putAt_eq', load1, gc_more, List.take_succ_cons, List.take_zero, List.drop_succ_cons, List.drop_zero, List.map_cons, List.map_nil, fieldAddrD, exO_load, Bool.or_self, Nat.add_zero, Nat.zero_add, Nat.succ_ne_zero, Nat.le_refl, sz5, sz27, sz31, ag5, ag27, ag31, st27, kx_region (hcv _), hcv, hres, kd_h, kdHO_some, kdT_some, kdK_func, kdK_op, kdC_val, kdE_val, calmAt_eq, again_nil, again_cons, same_nil, same_cons, kdR_cons, List.all_cons, List.all_nil, Bool.and_self, plan12_5, hl.own, hl.exc, hl.shr, h27, ownD_tup, back, exO_mv, taken, consumes, isTmp, beq_self_eq_true, Nat.reduceBEq, tk_tmp, tkV_own, ownD_nf, own0_nf, leftT_ex, left0_ex, ko_val, kY_func, noOwn_nil, noOwn_cons, exO_lookup, mp52, key5, mapGet_ob, writesM, find_no, find_yes, show Nat.testBit 15 1 = true by decide, show Nat.testBit 31 3 = true by decide, show Nat.testBit 31 4 = true by decide, show Nat.testBit 31 0 = true by decide, show Nat.testBit 31 1 = true by decide, show Nat.testBit 15 3 = true by decide, show Nat.testBit 15 0 = true by decide, show Nat.testBit 1 0 = true by decide, st49, zo51, isConst_const, binF_some Try.underlying51, binF_nil Try.underlying51, k4, k5, hcl]
  cases k6 : m.kind == 6
  rotate_left
  · simp only [Msg.fine, k4, k5, k6, if_true, Bool.false_eq_true, if_false, finePair_iff, fineKey_iff, Bool.or_eq_true, Bool.and_eq_true, beq_iff_eq] at hfi
    have hcl := w52 _ _ _ (headL m) m l HP HQ HPQ hl HC (by omega)
    have hb : payL m = headL m ++ (textL m.ikey) := by simp only [payL, bodyL, k4, k5, k6, if_true, Bool.false_eq_true, if_false]
    try rw [List.append_assoc] at hcl
    rw [← hb, hsetn, slD_ne (l := payL m) (by rw [hb, hz]; simp)] at hcl
    simp only [Msg.cs, writesM, List.set_cons_succ, List.set_cons_zero] at hcl
    simp only [List.length_cons, List.length_nil, Nat.reduceAdd, List.cons_append, List.nil_append, kx_seq, kx_ret, kx_cond_tmp, kCond_true, kSeq_nrm, ko_nil, ko_op, kR_val, kC_val, St.put, List.getElem?_toArray, List.getElem?_cons_succ, List.getElem?_cons_zero, Option.bind_some, Nat.reduceLeDiff, ne_eq, reduceCtorEq, not_false_eq_true, implies_true, Bool.not_false, Bool.true_eq_false, Bool.false_eq_true, Option.map_some, List.set_cons_succ, List.set_cons_zero, List.getD_cons_succ, List.getD_cons_zero, own_e, own_agg, own_ptr, own_func, own_map, List.any_cons, List.any_nil, own0_e, Bool.or_false, ↓reduceIte, exO_assign, exO_binOp, exO_nilCheck, exO_fieldAddr, tk_plain, sh_plain, tk_const, rd_tmp, rd_const, tks_nil, tks_cons, ofV_int, ofV_nilfn, kF_ret, leave_eq, resD_nil, resD_tmp, tupD_two, fit_e, fit_osl, fit_tup, List.forall_mem_cons, List.not_mem_nil, false_imp_iff, and_self, List.toList_toArray, Option.some.injEq, Prod.mk.injEq, kd_nil, kd_l, kdL_some, kdV_some, kd_r, kdRO_some, kdR_nil, preSeal_nil, preSeal_other, exL_gen, exL_load, exLd_ob, outV_some, ownOp_tmp, lo_fieldAddr, lo_lookup, Op.operands, Call.operands, exc0_e, shr0_e, preCv, List.foldl_nil, List.append_nil, gc_app0, gc_appn, gc_hd, gc_tl, hsetn, hgetn, adOf_ptr, adD_ob, add_ob, putAt_eq', load1, gc_more, List.take_succ_cons, List.take_zero, List.drop_succ_cons, List.drop_zero, List.map_cons, List.map_nil, fieldAddrD, exO_load, Bool.or_self, Nat.add_zero, Nat.zero_add, Nat.succ_ne_zero, Nat.le_refl, sz5, sz27, sz31, ag5, ag27, ag31, st27, kx_region (hcv _), hcv, hres, kd_h, kdHO_some, kdT_some, kdK_func, kdK_op, kdC_val, kdE_val, calmAt_eq, again_nil, again_cons, same_nil, same_cons, kdR_cons, List.all_cons, List.all_nil, Bool.and_self, plan12_5, hl.own, hl.exc, hl.shr, h27, ownD_tup, back, exO_mv, taken, consumes, isTmp, beq_self_eq_true, Nat.reduceBEq, tk_tmp, tkV_own, ownD_nf, own0_nf, leftT_ex, left0_ex, ko_val, kY_func, noOwn_nil, noOwn_cons, exO_lookup, mp52, key5, mapGet_ob, writesM, find_no, find_yes, show Nat.testBit 15 1 = true by decide, show Nat.testBit 31 3 = true by decide, show Nat.testBit 31 4 = true by decide, show Nat.testBit 31 0 = true by decide, show Nat.testBit 31 1 = true by decide, show Nat.testBit 15 3 = true by decide, show Nat.testBit 15 0 = true by decide, show Nat.testBit 1 0 = true by decide, st49, zo51, isConst_const, binF_some Try.underlying51, binF_nil Try.underlying51, k4, k5, k6, hcl]
  cases k7 : m.kind == 7
  rotate_left
  · simp only [Msg.fine, k4, k5, k6, k7, if_true, Bool.false_eq_true, if_false, finePair_iff, fineKey_iff, Bool.or_eq_true, Bool.and_eq_true, beq_iff_eq] at hfi
    have hp1 : okN (IntKind.i64.wrap (m.pred + 1)) = true := by
      rcases hfi.1 with e | e
      · rw [e]; decide
      · rw [isPlace_iff] at e; rw [wrap64 (by omega) (by omega)]; simp [okN]; omega
    have hli := hfi.2
    simp only [listZ, Bool.and_eq_true, decide_eq_true_eq] at hli
    have hp2 : m.list.length < 256 := by omega
    have hp3 : m.list.all okN = true := by
      rw [List.all_eq_true]
      intro x hx
      obtain ⟨j, hj⟩ := List.mem_iff_getElem?.1 hx
      exact okN_place (hli.1 j x (List.getElem?_eq_some_iff.1 hj).1 hj).1
    have hcl := w54 _ _ _ (headL m) m l HP HQ HPQ hl HC hp1 hp2 hp3
    have hb : payL m = headL m ++ (numsL [IntKind.i64.wrap (m.pred + 1)] ++ listB m.list) := by simp only [payL, bodyL, k4, k5, k6, k7, if_true, Bool.false_eq_true, if_false]
    try rw [List.append_assoc] at hcl
    rw [← hb, hsetn, slD_ne (l := payL m) (by rw [hb, hz]; simp)] at hcl
    simp only [Msg.cs, writesM, List.set_cons_succ, List.set_cons_zero] at hcl
    simp only [List.length_cons, List.length_nil, Nat.reduceAdd, List.cons_append, List.nil_append, kx_seq, kx_ret, kx_cond_tmp, kCond_true, kSeq_nrm, ko_nil, ko_op, kR_val, kC_val, St.put, List.getElem?_toArray, List.getElem?_cons_succ, List.getElem?_cons_zero, Option.bind_some, Nat.reduceLeDiff, ne_eq, reduceCtorEq, not_false_eq_true, implies_true, Bool.not_false, Bool.true_eq_false, Bool.false_eq_true, Option.map_some, List.set_cons_succ, List.set_cons_zero, List.getD_cons_succ, List.getD_cons_zero, own_e, own_agg, own_ptr, own_func, own_map, List.any_cons, List.any_nil, own0_e, Bool.or_false, ↓reduceIte, exO_assign, exO_binOp, exO_nilCheck, exO_fieldAddr, tk_plain, sh_plain, tk_const, rd_tmp, rd_const, tks_nil, tks_cons, ofV_int, ofV_nilfn, kF_ret, leave_eq, resD_nil, resD_tmp, tupD_two, fit_e, fit_osl, fit_tup, List.forall_mem_cons, List.not_mem_nil, false_imp_iff, and_self, List.toList_toArray, Option.some.injEq, Prod.mk.injEq, kd_nil, kd_l, kdL_some, kdV_some, kd_r, kdRO_some, kdR_nil, preSeal_nil, preSeal_other, exL_gen, exL_load, exLd_ob, outV_some, ownOp_tmp, lo_fieldAddr, lo_lookup, Op.operands, Call.operands, exc0_e, shr0_e, preCv, List.foldl_nil, List.append_nil, gc_app0, gc_appn, gc_hd, gc_tl, hsetn, hgetn, adOf_ptr, adD_ob, add_ob, putAt_eq', load1, gc_more, List.take_succ_cons, List.take_zero, List.drop_succ_cons, List.drop_zero, List.map_cons, List.map_nil, fieldAddrD, exO_load, Bool.or_self, Nat.add_zero, Nat.zero_add, Nat.succ_ne_zero, Nat.le_refl, sz5, sz27, sz31, ag5, ag27, ag31, st27, kx_region (hcv _), hcv, hres, kd_h, kdHO_some, kdT_some, kdK_func, kdK_op, kdC_val, kdE_val, calmAt_eq, again_nil, again_cons, same_nil, same_cons, kdR_cons, List.all_cons, List.all_nil, Bool.and_self, plan12_5, hl.own, hl.exc, hl.shr, h27, ownD_tup, back, exO_mv, taken, consumes, isTmp, beq_self_eq_true, Nat.reduceBEq, tk_tmp, tkV_own, ownD_nf, own0_nf, leftT_ex, left0_ex, ko_val, kY_func, noOwn_nil, noOwn_cons, exO_lookup, mp52, key5, mapGet_ob, writesM, find_no, find_yes, show Nat.testBit 15 1 = true by decide, show Nat.testBit 31 3 = true by decide, show Nat.testBit 31 4 = true by decide, show Nat.testBit 31 0 = true by decide, show Nat.testBit 31 1 = true by decide, show Nat.testBit 15 3 = true by decide, show Nat.testBit 15 0 = true by decide, show Nat.testBit 1 0 = true by decide, st49, zo51, isConst_const, binF_some Try.underlying51, binF_nil Try.underlying51, k4, k5, k6, k7, hcl]
  cases k10 : m.kind == 10
  rotate_left
  · simp only [Msg.fine, k4, k5, k6, k7, k10, if_true, Bool.false_eq_true, if_false, finePair_iff, fineKey_iff, Bool.or_eq_true, Bool.and_eq_true, beq_iff_eq] at hfi
    have hcl := w56 _ _ _ (headL m) m l HP HQ HPQ HC (okN_place hfi)
    have hb : payL m = headL m ++ (numsL [m.place] ++ numsL [bitZ m.done]) := by simp only [payL, bodyL, k4, k5, k6, k7, k10, if_true, Bool.false_eq_true, if_false]
    try rw [List.append_assoc] at hcl
    rw [← hb, hsetn, slD_ne (l := payL m) (by rw [hb, hz]; simp)] at hcl
    simp only [Msg.cs, writesM, List.set_cons_succ, List.set_cons_zero] at hcl
    simp only [List.length_cons, List.length_nil, Nat.reduceAdd, List.cons_append, List.nil_append, kx_seq, kx_ret, kx_cond_tmp, kCond_true, kSeq_nrm, ko_nil, ko_op, kR_val, kC_val, St.put, List.getElem?_toArray, List.getElem?_cons_succ, List.getElem?_cons_zero, Option.bind_some, Nat.reduceLeDiff, ne_eq, reduceCtorEq, not_false_eq_true, implies_true, Bool.not_false, Bool.true_eq_false, Bool.false_eq_true, Option.map_some, List.set_cons_succ, List.set_cons_zero, List.getD_cons_succ, List.getD_cons_zero, own_e, own_agg, own_ptr, own_func, own_map, List.any_cons, List.any_nil, own0_e, Bool.or_false, ↓reduceIte, exO_assign, exO_binOp, exO_nilCheck, exO_fieldAddr, tk_plain, sh_plain, tk_const, rd_tmp, rd_const, tks_nil, tks_cons, ofV_int, ofV_nilfn, kF_ret, leave_eq, resD_nil, resD_tmp, tupD_two, fit_e, fit_osl, fit_tup, List.forall_mem_cons, List.not_mem_nil, false_imp_iff, and_self, List.toList_toArray, Option.some.injEq, Prod.mk.injEq, kd_nil, kd_l, kdL_some, kdV_some, kd_r, kdRO_some, kdR_nil, preSeal_nil, preSeal_other, exL_gen, exL_load, exLd_ob, outV_some, ownOp_tmp, lo_fieldAddr, lo_lookup, Op.operands, Call.operands, exc0_e, shr0_e, preCv, List.foldl_nil, List.append_nil, gc_app0, gc_appn, gc_hd, gc_tl, hsetn, hgetn, adOf_ptr, adD_ob, add_ob, putAt_eq', load1, gc_more, List.take_succ_cons, List.take_zero, List.drop_succ_cons, List.drop_zero, List.map_cons, List.map_nil, fieldAddrD, exO_load, Bool.or_self, Nat.add_zero, Nat.zero_add, Nat.succ_ne_zero, Nat.le_refl, sz5, sz27, sz31, ag5, ag27, ag31, st27, kx_region (hcv _), hcv, hres, kd_h, kdHO_some, kdT_some, kdK_func, kdK_op, kdC_val, kdE_val, calmAt_eq, again_nil, again_cons, same_nil, same_cons, kdR_cons, List.all_cons, List.all_nil, Bool.and_self, plan12_5, hl.own, hl.exc, hl.shr, h27, ownD_tup, back, exO_mv, taken, consumes, isTmp, beq_self_eq_true, Nat.reduceBEq, tk_tmp, tkV_own, ownD_nf, own0_nf, leftT_ex, left0_ex, ko_val, kY_func, noOwn_nil, noOwn_cons, exO_lookup, mp52, key5, mapGet_ob, writesM, find_no, find_yes, show Nat.testBit 15 1 = true by decide, show Nat.testBit 31 3 = true by decide, show Nat.testBit 31 4 = true by decide, show Nat.testBit 31 0 = true by decide, show Nat.testBit 31 1 = true by decide, show Nat.testBit 15 3 = true by decide, show Nat.testBit 15 0 = true by decide, show Nat.testBit 1 0 = true by decide, st49, zo51, isConst_const, binF_some Try.underlying51, binF_nil Try.underlying51, k4, k5, k6, k7, k10, hcl]
  cases k11 : m.kind == 11
  rotate_left
  · simp only [Msg.fine, k4, k5, k6, k7, k10, k11, if_true, Bool.false_eq_true, if_false, finePair_iff, fineKey_iff, Bool.or_eq_true, Bool.and_eq_true, beq_iff_eq] at hfi
    have hcl := w57 _ _ _ (headL m) m l HP HQ HPQ hl HC (by rcases hfi with e | e <;> rw [e] <;> decide)
    have hb : payL m = headL m ++ (numsL [m.code]) := by simp only [payL, bodyL, k4, k5, k6, k7, k10, k11, if_true, Bool.false_eq_true, if_false]
    try rw [List.append_assoc] at hcl
    rw [← hb, hsetn, slD_ne (l := payL m) (by rw [hb, hz]; simp)] at hcl
    simp only [Msg.cs, writesM, List.set_cons_succ, List.set_cons_zero] at hcl
    simp only [List.length_cons, List.length_nil, Nat.reduceAdd, List.cons_append, List.nil_append, kx_seq, kx_ret, kx_cond_tmp, kCond_true, kSeq_nrm, ko_nil, ko_op, kR_val, kC_val, St.put, List.getElem?_toArray, List.getElem?_cons_succ, List.getElem?_cons_zero, Option.bind_some, Nat.reduceLeDiff, ne_eq, reduceCtorEq, not_false_eq_true, implies_true, Bool.not_false, Bool.true_eq_false, Bool.false_eq_true, Option.map_some, List.set_cons_succ, List.set_cons_zero, List.getD_cons_succ, List.getD_cons_zero, own_e, own_agg, own_ptr, own_func, own_map, List.any_cons, List.any_nil, own0_e, Bool.or_false, ↓reduceIte, exO_assign, exO_binOp, exO_nilCheck, exO_fieldAddr, tk_plain, sh_plain, tk_const, rd_tmp, rd_const, tks_nil, tks_cons, ofV_int, ofV_nilfn, kF_ret, leave_eq, resD_nil, resD_tmp, tupD_two, fit_e, fit_osl, fit_tup, List.forall_mem_cons, List.not_mem_nil, false_imp_iff, and_self, List.toList_toArray, Option.some.injEq, Prod.mk.injEq, kd_nil, kd_l, kdL_some, kdV_some, kd_r, kdRO_some, kdR_nil, preSeal_nil, preSeal_other, exL_gen, exL_load, exLd_ob, outV_some, ownOp_tmp, lo_fieldAddr, lo_lookup, Op.operands, Call.operands, exc0_e, shr0_e, preCv, List.foldl_nil, List.append_nil, gc_app0, gc_appn, gc_hd, gc_tl, hsetn, hgetn, adOf_ptr, adD_ob, add_ob, putAt_eq', load1, gc_more, List.take_succ_cons, List.take_zero, List.drop_succ_cons, List.drop_zero, List.map_cons, List.map_nil, fieldAddrD, exO_load, Bool.or_self, Nat.add_zero, Nat.zero_add, Nat.succ_ne_zero, Nat.le_refl, sz5, sz27, sz31, ag5, ag27, ag31, st27, kx_region (hcv _), hcv, hres, kd_h, kdHO_some, kdT_some, kdK_func, kdK_op, kdC_val, kdE_val, calmAt_eq, again_nil, again_cons, same_nil, same_cons, kdR_cons, List.all_cons, List.all_nil, Bool.and_self, plan12_5, hl.own, hl.exc, hl.shr, h27, ownD_tup, back, exO_mv, taken, consumes, isTmp, beq_self_eq_true, Nat.reduceBEq, tk_tmp, tkV_own, ownD_nf, own0_nf, leftT_ex, left0_ex, ko_val, kY_func, noOwn_nil, noOwn_cons, exO_lookup, mp52, key5, mapGet_ob, writesM, find_no, find_yes, show Nat.testBit 15 1 = true by decide, show Nat.testBit 31 3 = true by decide, show Nat.testBit 31 4 = true by decide, show Nat.testBit 31 0 = true by decide, show Nat.testBit 31 1 = true by decide, show Nat.testBit 15 3 = true by decide, show Nat.testBit 15 0 = true by decide, show Nat.testBit 1 0 = true by decide, st49, zo51, isConst_const, binF_some Try.underlying51, binF_nil Try.underlying51, k4, k5, k6, k7, k10, k11, hcl]
  cases k12 : m.kind == 12
  rotate_left
  · simp only [Msg.fine, k4, k5, k6, k7, k10, k11, k12, if_true, Bool.false_eq_true, if_false, finePair_iff, fineKey_iff, Bool.or_eq_true, Bool.and_eq_true, beq_iff_eq] at hfi
    have hp1 : okN m.code = true := by rcases hfi with e | e <;> rw [e.1] <;> decide
    have hz0 : ({ data := #[] } : ByteArray).size = 0 := rfl
    have hp2 : m.ikey.size < 256 := by
      rcases hfi with e | e
      · omega
      · have := e.2.1; rw [bab, decide_eq_true_eq] at this; rw [this, hz0]; omega
    have hp3 : okN m.ival = true := by
      rcases hfi with e | e
      · exact okN_val e.2.2.1
      · rw [e.2.2.1]; decide
    have hp4 : okN m.iver = true := by
      rcases hfi with e | e
      · exact okN_val e.2.2.2
      · rw [e.2.2.2.1]; decide
    have hcl := w58 _ _ _ (headL m) m l HP HQ HPQ hl HC hp1 hp2 hp3 hp4
    have hb : payL m = headL m ++ (numsL [m.code] ++ (if m.code == 0 then pairL m.ikey m.ival m.iver m.gone else [])) := by simp only [payL, bodyL, k4, k5, k6, k7, k10, k11, k12, if_true, Bool.false_eq_true, if_false]
    try rw [List.append_assoc] at hcl
    rw [← hb, hsetn, slD_ne (l := payL m) (by rw [hb, hz]; simp)] at hcl
    simp only [Msg.cs, writesM, List.set_cons_succ, List.set_cons_zero] at hcl
    simp only [List.length_cons, List.length_nil, Nat.reduceAdd, List.cons_append, List.nil_append, kx_seq, kx_ret, kx_cond_tmp, kCond_true, kSeq_nrm, ko_nil, ko_op, kR_val, kC_val, St.put, List.getElem?_toArray, List.getElem?_cons_succ, List.getElem?_cons_zero, Option.bind_some, Nat.reduceLeDiff, ne_eq, reduceCtorEq, not_false_eq_true, implies_true, Bool.not_false, Bool.true_eq_false, Bool.false_eq_true, Option.map_some, List.set_cons_succ, List.set_cons_zero, List.getD_cons_succ, List.getD_cons_zero, own_e, own_agg, own_ptr, own_func, own_map, List.any_cons, List.any_nil, own0_e, Bool.or_false, ↓reduceIte, exO_assign, exO_binOp, exO_nilCheck, exO_fieldAddr, tk_plain, sh_plain, tk_const, rd_tmp, rd_const, tks_nil, tks_cons, ofV_int, ofV_nilfn, kF_ret, leave_eq, resD_nil, resD_tmp, tupD_two, fit_e, fit_osl, fit_tup, List.forall_mem_cons, List.not_mem_nil, false_imp_iff, and_self, List.toList_toArray, Option.some.injEq, Prod.mk.injEq, kd_nil, kd_l, kdL_some, kdV_some, kd_r, kdRO_some, kdR_nil, preSeal_nil, preSeal_other, exL_gen, exL_load, exLd_ob, outV_some, ownOp_tmp, lo_fieldAddr, lo_lookup, Op.operands, Call.operands, exc0_e, shr0_e, preCv, List.foldl_nil, List.append_nil, gc_app0, gc_appn, gc_hd, gc_tl, hsetn, hgetn, adOf_ptr, adD_ob, add_ob, putAt_eq', load1, gc_more, List.take_succ_cons, List.take_zero, List.drop_succ_cons, List.drop_zero, List.map_cons, List.map_nil, fieldAddrD, exO_load, Bool.or_self, Nat.add_zero, Nat.zero_add, Nat.succ_ne_zero, Nat.le_refl, sz5, sz27, sz31, ag5, ag27, ag31, st27, kx_region (hcv _), hcv, hres, kd_h, kdHO_some, kdT_some, kdK_func, kdK_op, kdC_val, kdE_val, calmAt_eq, again_nil, again_cons, same_nil, same_cons, kdR_cons, List.all_cons, List.all_nil, Bool.and_self, plan12_5, hl.own, hl.exc, hl.shr, h27, ownD_tup, back, exO_mv, taken, consumes, isTmp, beq_self_eq_true, Nat.reduceBEq, tk_tmp, tkV_own, ownD_nf, own0_nf, leftT_ex, left0_ex, ko_val, kY_func, noOwn_nil, noOwn_cons, exO_lookup, mp52, key5, mapGet_ob, writesM, find_no, find_yes, show Nat.testBit 15 1 = true by decide, show Nat.testBit 31 3 = true by decide, show Nat.testBit 31 4 = true by decide, show Nat.testBit 31 0 = true by decide, show Nat.testBit 31 1 = true by decide, show Nat.testBit 15 3 = true by decide, show Nat.testBit 15 0 = true by decide, show Nat.testBit 1 0 = true by decide, st49, zo51, isConst_const, binF_some Try.underlying51, binF_nil Try.underlying51, k4, k5, k6, k7, k10, k11, k12, hcl]
  have hb : payL m = headL m := by simp only [payL, bodyL, k4, k5, k6, k7, k10, k11, k12, Bool.false_eq_true, if_false, List.append_nil]
  rw [hb]
  simp only [List.length_cons, List.length_nil, Nat.reduceAdd, kx_seq, kx_skip, kx_cond_tmp, kCond_false, kSeq_nrm, ko_nil, ko_op, kR_val, St.put, List.getElem?_toArray, List.getElem?_cons_succ, List.getElem?_cons_zero, Option.bind_some, Nat.reduceLeDiff, ne_eq, reduceCtorEq, not_false_eq_true, implies_true, Bool.not_false, Bool.true_eq_false, Bool.false_eq_true, Option.map_some, List.set_cons_succ, List.set_cons_zero, List.getD_cons_succ, List.getD_cons_zero, own_e, own_agg, own_ptr, own_map, List.any_cons, List.any_nil, own0_e, ↓reduceIte, exO_assign, exO_binOp, exO_nilCheck, exO_fieldAddr, tk_plain, sh_plain, rd_tmp, rd_const, tks_nil, tks_cons, ofV_nilfn, false_imp_iff, and_self, List.toList_toArray, Option.some.injEq, Prod.mk.injEq, kd_nil, kd_l, kdL_some, kdV_some, kd_r, kdRO_some, kdR_nil, preSeal_nil, preSeal_other, exL_gen, exL_load, exLd_ob, outV_some, ownOp_tmp, lo_fieldAddr, lo_lookup, Op.operands, Call.operands, exc0_e, shr0_e, preCv, List.foldl_nil, gc_app0, gc_hd, hgetn, adOf_ptr, adD_ob, add_ob, List.take_succ_cons, List.take_zero, List.drop_zero, List.map_cons, List.map_nil, fieldAddrD, Bool.or_self, Nat.add_zero, Nat.zero_add, Nat.succ_ne_zero, Nat.le_refl, sz5, sz27, ag5, ag27, st27, kx_region (hcv _), hcv, kd_h, kdHO_some, kdT_some, kdK_func, kdK_op, kdC_val, kdE_val, calmAt_eq, again_nil, again_cons, same_nil, same_cons, kdR_cons, List.all_cons, List.all_nil, Bool.and_self, plan12_5, hl.own, hl.exc, hl.shr, h27, ownD_tup, exO_mv, taken, consumes, isTmp, Nat.reduceBEq, exO_lookup, mp52, key5, mapGet_ob, writesM, find_no, find_nil, show Nat.testBit 15 1 = true by decide, show Nat.testBit 31 3 = true by decide, show Nat.testBit 31 4 = true by decide, show Nat.testBit 31 0 = true by decide, show Nat.testBit 31 1 = true by decide, show Nat.testBit 15 3 = true by decide, show Nat.testBit 15 0 = true by decide, show Nat.testBit 1 0 = true by decide, zo51, isConst_const, binF_some Try.underlying51, binF_nil Try.underlying51, k4, k5, k6, k7, k10, k11, k12]
  simp only [List.length_cons, List.length_nil, List.nil_append, kx_ret, kSeq_nrm, ko_nil, ko_op, kR_val, List.getElem?_cons_zero, Option.bind_some, ne_eq, reduceCtorEq, not_false_eq_true, implies_true, Option.map_some, List.set_cons_succ, List.set_cons_zero, List.getD_cons_succ, List.getD_cons_zero, own_e, List.any_cons, List.any_nil, Bool.or_false, ↓reduceIte, exO_assign, tk_plain, tk_const, rd_tmp, ofV_int, kF_ret, leave_eq, resD_nil, resD_tmp, tupD_two, fit_e, fit_osl, fit_tup, List.forall_mem_cons, List.not_mem_nil, false_imp_iff, and_self, List.append_nil, gc_appn, gc_hd, gc_tl, hsetn, adOf_ptr, adD_ob, add_ob, putAt_eq', load1, gc_more, List.take_zero, List.drop_succ_cons, List.drop_zero, exO_load, Bool.or_self, Nat.add_zero, Nat.zero_add, Nat.succ_ne_zero, Nat.le_refl, sz31, ag31, hres, slD_ne hne, st49, back, taken, consumes, isTmp, beq_self_eq_true, tk_tmp, tkV_own, ownD_nf, own0_nf, leftT_ex, left0_ex]

end Go.Abs
